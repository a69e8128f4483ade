/- Our own texts of this seat. -/
import Derived.WalkKit
import Derived.Below
import Derived.Lib.ItoaNum
import Derived.AtR
import Derived.Laws.RangeString
import Derived.Laws.RangeAny
import Derived.Laws.MakeOwn
set_option linter.unusedSimpArgs false
set_option linter.unusedVariables false
set_option linter.unusedSectionVars false
set_option maxRecDepth 100000
set_option maxHeartbeats 1000000
namespace Go
abbrev zaa:=@if_neg
abbrev zab:=@if_pos
abbrev zac:=@Option.bind_some
abbrev zad:=@List.getElem?_eq_some_iff
abbrev zae:=@List.getElem?_eq_getElem
abbrev zaf:=@Nat.le_of_ble_eq_true
abbrev zag:=@List.length_cons
abbrev zah:=@List.mem_cons_of_mem
abbrev zai:=@List.length_append
abbrev zaj:=@List.mem_cons_self
abbrev zak:=@decide_eq_true_eq
abbrev zal:=@List.length_singleton
abbrev zam:=@List.getElem?_take
abbrev zan:=@List.getElem?_append_left
abbrev zao:=@List.map_cons
abbrev zap:=@Nat.le_refl
abbrev zaq:=@List.mem_cons
abbrev zar:=@Array.getD_eq_getD_getElem?
abbrev zas:=@Bool.and_eq_true
abbrev zat:=@List.append_assoc
abbrev zau:=@Nat.eq_of_beq_eq_true
abbrev zav:=@List.getElem?_append_right
abbrev zaw:=@Array.getElem?_eq_some_iff
abbrev zax:=@List.pairwise_cons
abbrev zay:=@List.length_nil
abbrev zaz:=@Bool.false_eq_true
abbrev zba:=@List.eq_nil_of_length_eq_zero
abbrev zbb:=@List.getElem?_drop
abbrev zbc:=@List.getElem?_map
abbrev zbd:=@List.all_eq_true
abbrev zbe:=@List.length_take
abbrev zbf:=@List.map_nil
abbrev zbg:=@Array.getElem?_eq_getElem
abbrev zbh:=@List.mem_of_getElem?
abbrev zbi:=@List.length_drop
abbrev zbj:=@List.getElem?_set
abbrev zbk:=@Nat.lt_of_lt_of_le
abbrev zbl:=@List.getElem?_eq_none
abbrev zbm:=@List.mem_append
abbrev zbn:=@congrArg
abbrev zbo:=@List.filter_cons
abbrev zbp:=@List.singleton_append
abbrev zbq:=@List.append_nil
abbrev zbr:=@Nat.zero_add
abbrev zbs:=@List.size_toArray
abbrev zbt:=@if_false
abbrev zbu:=@if_true
abbrev zbv:=@Bool.or_eq_true
abbrev zbw:=@List.take_of_length_le
abbrev zbx:=@List.nil_append
abbrev zby:=@List.nodup_cons
abbrev zbz:=@Bool.eq_iff_iff
abbrev zca:=@List.mem_singleton
abbrev zcb:=@List.getD_eq_getElem?_getD
abbrev zcc:=@Array.getElem?_setIfInBounds
abbrev zcd:=@Array.getElem?_toList
abbrev zce:=@List.ext_getElem?
abbrev zcf:=@Ne.symm
abbrev zcg:=@Option.map_eq_some_iff
abbrev zch:=@Nat.add_assoc
abbrev zci:=@Bool.not_true
abbrev zcj:=@Bool.not_false
abbrev zck:=@List.drop_eq_nil_of_le
abbrev zcl:=@List.mem_filter
abbrev zcm:=@decide_eq_true_iff
abbrev zcn:=@Bool.true_and
abbrev zco:=@Int.toNat_natCast
abbrev zcp:=@of_decide_eq_true
abbrev zcq:=@Nat.mul_le_mul_right
abbrev zcr:=@Array.length_toList
abbrev zcs:=@List.mem_map_of_mem
abbrev zct:=@Bool.false_and
abbrev zcu:=@List.length_map
abbrev zcv:=@Option.getD_some
abbrev zcw:=@List.length_pos_iff
abbrev zcx:=@List.toList_toArray
abbrev zcy:=@List.mem_iff_getElem?
abbrev zcz:=@List.mem_of_mem_drop
abbrev zda:=@Nat.add_mul
abbrev zdb:=@List.drop_of_length_le
abbrev zdc:=@Bool.false_or
abbrev zdd:=@Nat.add_comm
abbrev zde:=@Nat.add_zero
abbrev zdf:=@decide_eq_false
abbrev zdg:=@Nat.le_trans
abbrev zdh:=@Array.getElem?_append_left
abbrev zdi:=@Nat.mul_comm
abbrev zdj:=@List.mem_map
abbrev zdk:=@Array.getElem?_push_lt
abbrev zdl:=@List.filter_eq_nil_iff
abbrev zdm:=@List.nodup_append
abbrev zdn:=@List.filter_eq_self
abbrev zdo:=@List.filter_append
abbrev zdp:=@Nat.div_lt_of_lt_mul
abbrev zdq:=@Bool.not_eq_true'
abbrev zdr:=@List.map_append
abbrev zds:=@Bool.or_false
abbrev zdt:=@List.any_cons
abbrev zdu:=@decide_eq_true
abbrev zdv:=@getElem!_pos
abbrev zdw:=@beq_iff_eq
abbrev zdx:=@List.take_append_of_le_length
abbrev zdy:=@List.filterMap_cons
abbrev zdz:=@Bool.false_ne_true
abbrev zea:=@List.append_of_mem
abbrev zeb:=@List.filter_congr
abbrev zec:=@List.flatMap_cons
abbrev zed:=@Nat.mod_lt
abbrev zee:=@List.map_toArray
abbrev zef:=@List.not_mem_nil
abbrev zeg:=@List.flatten_append
abbrev zeh:=@beq_eq_false_iff_ne
abbrev zei:=@decide_eq_false_iff_not
abbrev zej:=@List.all_cons
abbrev zek:=@Nat.eq_zero_or_pos
abbrev zel:=@Nat.div_add_mod
abbrev zem:=@Option.toList_some
abbrev zen:=@List.flatten_cons
abbrev zeo:=@bne_self_eq_false
abbrev zep:=@Nat.beq_refl
abbrev zeq:=@eq_comm
abbrev zer:=@List.mem_zipIdx_iff_getElem?
abbrev zes:=@Bool.true_or
abbrev zet:=@List.take_append_drop
abbrev zeu:=@List.getElem_mem
abbrev zev:=@List.mem_of_mem_take
abbrev zew:=@List.any_eq_true
abbrev zex:=@List.exists_mem_of_ne_nil
abbrev zey:=@decide_false
abbrev zez:=@Option.toList_none
abbrev zfa:=@Eq.symm
abbrev zfb:=@List.drop_left
abbrev zfc:=@Nat.add_sub_cancel_left
abbrev zfd:=@Array.size_append
abbrev zfe:=@List.mapM_toArray
abbrev zff:=@Bool.eq_false_iff
abbrev zfg:=@List.any_eq_false
abbrev zfh:=@Nat.zero_le
abbrev zfi:=@Int.le_refl
abbrev zfj:=@Nat.lt_succ_self
abbrev zfk:=@decide_eq_decide
abbrev zfl:=@beq_self_eq_true
abbrev zfm:=@Array.getElem?_modify
abbrev zfn:=@Nat.zero_mul
abbrev zfo:=@Nat.le_of_eq
abbrev zfp:=@Nat.lt_or_ge
abbrev zfq:=@List.any_nil
abbrev zfr:=@List.length_set
abbrev zfs:=@Bool.or_self
abbrev zft:=@List.length_take_le'
abbrev zfu:=@List.mem_append_left
abbrev zfv:=@Array.toList_append
abbrev zfw:=@List.map_congr_left
abbrev zfx:=@List.take_left
abbrev zfy:=@List.Perm.refl
abbrev zfz:=@decide_true
end Go
namespace Go.Abs
def GL:List (Nat×Array Value):=[(0,(Go.Lib.pow10Tab.map λz=>Value.int .u64 z).toArray)]
def GI:List Nat:=[]
end Go.Abs
namespace Go.Abs
open Go.RowKit
inductive D where
 | ex (v:Value)
 | agg (cs:List D)
 | dV (cs:List D)
 | sl (sz:Nat) (rows:List (List D))
 | ro (cs:List D)
 | e0 (sz:Nat)
 | any
inductive dw (lim:Nat->Nat) (w:World):D->Value->Prop where
 | ex (v:Value):dw lim w (.ex v) v
 | agg (cs:List D) (vs:Array Value) (hs:vs.size=cs.length)
   (h1:∀ (i:Nat) (u:Value),vs[i]?=some u->u.oneCell'=true)
   (h:∀ (i:Nat) c (u:Value),cs[i]?=some c->vs[i]?=some u->dw lim w c u):dw lim w (.agg cs) (.agg vs)
 | dV (cs:List D) (vs:Array Value) (hs:vs.size=cs.length)
   (h:∀ (i:Nat) c (u:Value),cs[i]?=some c->vs[i]?=some u->dw lim w c u):dw lim w (.dV cs) (.tuple vs)
 | nil (sz:Nat) (A:Option Addr):dw lim w (.sl sz []) (.slice A 0 0)
 | sl (sz:Nat) (rows:List (List D)) (b off cap:Nat) (hc:rows.length<=cap) (hr:∀ row,row∈rows->row.length=sz)
   (hx:∀ k,k<rows.length*sz->off+k<lim b/\∃ u:Value,w.cell? ⟨b,off+k,none⟩=some u/\u.oneCell'=true)
   (h:∀ (i j:Nat) row c (u:Value),rows[i]?=some row->row[j]?=some c->w.cell? ⟨b,off+(i*sz+j),none⟩=some u->dw lim w c u) :
   dw lim w (.sl sz rows) (.slice (some ⟨b,off,none⟩) rows.length cap)
 | ro (cs:List D) (b off:Nat)
   (hx:∀ k,k<cs.length->off+k<lim b/\∃ u:Value,w.cell? ⟨b,off+k,none⟩=some u/\u.oneCell'=true)
   (h:∀ (j:Nat) c (u:Value),cs[j]?=some c->w.cell? ⟨b,off+j,none⟩=some u->dw lim w c u):dw lim w (.ro cs) (.pointer (some ⟨b,off,none⟩))
 | e0 (sz:Nat) (A:Option Addr) (h:A=none∨∃ b off,A=some ⟨b,off,none⟩):dw lim w (.e0 sz) (.slice A 0 0)
 | any (v:Value):dw lim w .any v
structure Lm (l:Nat->Nat) (w:World) (l':Nat->Nat) (w':World):Prop where
 size:w.heap.size<=w'.heap.size
 lim:∀ b:Nat,b<w.heap.size->l b<=l' b
 cell:∀ b off:Nat,b<w.heap.size->off<l b->w'.cell? ⟨b,off,none⟩=w.cell? ⟨b,off,none⟩
theorem Lm.refl (lim:Nat->Nat) (w:World):Lm lim w lim w:=⟨zap _,λ_ _=>zap _,λ_ _ _ _=>rfl⟩
theorem Lm.trans {l1 l2 l3:Nat->Nat} {w1 w2 w3:World} (h:Lm l1 w1 l2 w2) (k:Lm l2 w2 l3 w3):Lm l1 w1 l3 w3 :=
 ⟨zdg h.size k.size,λb hb=>zdg (h.lim b hb) (k.lim b (zbk hb h.size)),
  λb off hb ho=>(k.cell b off (zbk hb h.size) (zbk ho (h.lim b hb))).trans (h.cell b off hb ho)⟩
theorem Hu {i j n sz:Nat} (hi:i<n) (hj:j<sz):i*sz+j<n*sz:=by
 have:(i+1)*sz<=n*sz:=zcq sz hi;rw [zda] at this;omega
theorem dw.mono {lim dh:Nat->Nat} {w w':World} (e:Lm lim w dh w') {x:D} {v:Value} (h:dw lim w x v):dw dh w' x v:=by
 induction h with
 | ex v=>exact .ex v
 | agg cs vs hs h1 _ ih=>exact .agg cs vs hs h1 ih
 | dV cs vs hs _ ih=>exact .dV cs vs hs ih
 | nil sz A=>exact .nil sz A
 | sl sz rows b off cap hc hr hx _ ih =>
  have eR:∀ k,k<rows.length*sz->w'.cell? ⟨b,off+k,none⟩=w.cell? ⟨b,off+k,none⟩:=by
   intro k hk;obtain ⟨hl,u,hu,_⟩:=hx k hk;exact e.cell b (off+k) (World.block_lt_of_cell? w _ hu) hl
  refine .sl sz rows b off cap hc hr ?_ ?_
  ·intro k hk;obtain ⟨hl,u,hu,h1⟩:=hx k hk;exact ⟨zbk hl (e.lim b (World.block_lt_of_cell? w _ hu)),u,(eR k hk).trans hu,h1⟩
  ·intro i j row c u hi hj hu;refine ih i j row c u hi hj ?_;rw [←eR (i*sz+j) ?_]
   ·exact hu
   ·have hl:=hr row (zbh hi);exact Hu (zad.1 hi).1 (by rw [←hl];exact (zad.1 hj).1)
 | ro cs b off hx _ ih =>
  have eR:∀ k,k<cs.length->w'.cell? ⟨b,off+k,none⟩=w.cell? ⟨b,off+k,none⟩:=by
   intro k hk;obtain ⟨hl,u,hu,_⟩:=hx k hk;exact e.cell b (off+k) (World.block_lt_of_cell? w _ hu) hl
  refine .ro cs b off ?_ ?_
  ·intro k hk;obtain ⟨hl,u,hu,h1⟩:=hx k hk;exact ⟨zbk hl (e.lim b (World.block_lt_of_cell? w _ hu)),u,(eR k hk).trans hu,h1⟩
  ·intro j c u hj hu;refine ih j c u hj ?_;rw [←eR j (zad.1 hj).1];exact hu
 | e0 sz A h=>exact .e0 sz A h
 | any v=>exact .any v
inductive EV where
 | d (x:D)
 | ref (o off:Nat)
 | Jk (o off len cap:Nat)
 | cz (sz:Nat) (rows:List (List D)) (t:Nat)
 | mp (o:Nat)
 | vR (f:FuncId) (R9:List EV)
 | agg (cs:List EV)
 | dV (cs:List EV)
 | gd (b:Bool) (x:EV)
  | vc (t k:Nat)
  | vp (t k i off:Nat)
  | vw (t k lo n:Nat)
structure gD where
 e:TypeId
 sz:Nat
 n:Nat
 own:Option (List (List D))
inductive dI where
 | row (ty:TypeId) (cs:List EV)
 | map (es:List (Value×EV))
 | raw (x:Obj)
 | gone
structure St where
 aP:List dI
 ar:List gD
structure bT where
 lim:Nat->Nat
 ob:Nat->Nat
 tk:Nat->Value
def Emp (v:Value) (n:Nat):Prop:=n=0/\∃ A,v=.slice A 0 0
inductive bJ (g:bT) (w:World) (st:St):EV->Value->Prop where
 | d (x:D) (v:Value) (h:dw g.lim w x v):bJ g w st (.d x) v
 | ref (o off:Nat) (h:o<st.aP.length):bJ g w st (.ref o off) (.pointer (some ⟨g.ob o,off,none⟩))
 | Jk (o off len cap:Nat) (h:o<st.aP.length):bJ g w st (.Jk o off len cap) (.slice (some ⟨g.ob o,off,none⟩) len cap)
 | cz (sz:Nat) (rows:List (List D)) (t:Nat) (v:Value) (e:TypeId) (n:Nat) (hd:dw g.lim w (.sl sz rows) v) (ht:st.ar[t]?=some ⟨e,sz,n,none⟩)
   (hn:rows.length<=n) (hv:rows.length=n->v=g.tk t∨Emp v n):bJ g w st (.cz sz rows t) v
 | mp (o:Nat) (h:o<st.aP.length):bJ g w st (.mp o) (.map (some (g.ob o)))
 | vR (f:FuncId) (cs:List EV) (vs:Array Value) (hs:vs.size=cs.length)
   (h:∀ (i:Nat) c (u:Value),cs[i]?=some c->vs[i]?=some u->bJ g w st c u):bJ g w st (.vR f cs) (.func (.func f) #[] vs)
 | agg (cs:List EV) (vs:Array Value) (hs:vs.size=cs.length) (h1:∀ (i:Nat) (u:Value),vs[i]?=some u->u.oneCell'=true)
   (h:∀ (i:Nat) c (u:Value),cs[i]?=some c->vs[i]?=some u->bJ g w st c u):bJ g w st (.agg cs) (.agg vs)
 | dV (cs:List EV) (vs:Array Value) (hs:vs.size=cs.length)
   (h:∀ (i:Nat) c (u:Value),cs[i]?=some c->vs[i]?=some u->bJ g w st c u):bJ g w st (.dV cs) (.tuple vs)
 | gd (b:Bool) (x:EV) (v:Value) (h0:b=false->v=undef) (h:b=true->bJ g w st x v):bJ g w st (.gd b x) v
 | vc (t k:Nat) (v:Value) (ht:t<st.ar.length) (hf:∃ A n c,v=.slice A n c) (h:∀ x rows,st.ar[t]?=some x->x.own=some rows->k<=x.n/\(k=x.n->v=g.tk t∨Emp v x.n)):bJ g w st (.vc t k) v
 | vp (t k i off:Nat) (v:Value) (ht:t<st.ar.length) (hf:∃ b o,v=.pointer (some ⟨b,o,none⟩))
   (h:∀ x rows,st.ar[t]?=some x->x.own=some rows->k<=x.n/\(k=x.n->∃ b n c,g.tk t=.slice (some ⟨b,0,none⟩) n c/\v=.pointer (some ⟨b,i*x.sz+off,none⟩))):bJ g w st (.vp t k i off) v
 | vw (t k lo n:Nat) (v:Value) (ht:t<st.ar.length) (hf:∃ A c,v=.slice A n c)
   (h:∀ x rows,st.ar[t]?=some x->x.own=some rows->k<=x.n/\(k=x.n->n=0∨∃ b m c c',g.tk t=.slice (some ⟨b,0,none⟩) m c/\v=.slice (some ⟨b,lo*x.sz,none⟩) n c')):bJ g w st (.vw t k lo n) v
structure uB (g:bT) (w:World) (st:St) (g':bT) (w':World) (st':St):Prop where
 cP:Lm g.lim w g'.lim w'
 ob:∀ o,o<st.aP.length->g'.ob o=g.ob o
 aP:st.aP.length<=st'.aP.length
 ar:∀ t e sz n,st.ar[t]?=some ⟨e,sz,n,none⟩->∃ n',st'.ar[t]?=some ⟨e,sz,n',none⟩/\n<=n'/\(n'=n->g'.tk t=g.tk t)
 Lv:st.ar.length<=st'.ar.length
 own:∀ t x' bw,t<st.ar.length->st'.ar[t]?=some x'->x'.own=some bw->∃ x rows,st.ar[t]?=some x/\x.own=some rows/\x.sz=x'.sz/\x.n<=x'.n/\(x.n=x'.n->g'.tk t=g.tk t)
theorem u4 {g g':bT} {st st':St} (hs:∀ t x' bw,t<st.ar.length->st'.ar[t]?=some x'->x'.own=some bw->st.ar[t]?=some x'/\g'.tk t=g.tk t) :
  ∀ t x' bw,t<st.ar.length->st'.ar[t]?=some x'->x'.own=some bw->∃ x rows,st.ar[t]?=some x/\x.own=some rows/\x.sz=x'.sz/\x.n<=x'.n/\(x.n=x'.n->g'.tk t=g.tk t) :=
 λt x' bw cE hx ho=>⟨x',bw,(hs t x' bw cE hx ho).1,ho,rfl,zap _,λ_=>(hs t x' bw cE hx ho).2⟩
theorem uB.refl (g:bT) (w:World) (st:St):uB g w st g w st :=
 ⟨.refl _ _,λ_ _=>rfl,zap _,λ_ _ _ n h=>⟨n,h,zap _,λ_=>rfl⟩,zap _,u4 λ_ _ _ _ h _=>⟨h,rfl⟩⟩
theorem uB.trans {g1 g2 g3:bT} {w1 w2 w3:World} {s1 s2 s3:St} (h:uB g1 w1 s1 g2 w2 s2) (k:uB g2 w2 s2 g3 w3 s3):uB g1 w1 s1 g3 w3 s3:=by
 refine ⟨h.cP.trans k.cP,λo ho=>(k.ob o (zbk ho h.aP)).trans (h.ob o ho),zdg h.aP k.aP,λt e sz n ht=>?_,zdg h.Lv k.Lv,λt x'' Um cE hx ho=>?_⟩
 rotate_left
 ·obtain ⟨x',bw,a1,a2,a3,a4,a5⟩:=k.own t x'' Um (zbk cE h.Lv) hx ho;obtain ⟨x,rows,b1,b2,b3,b4,b5⟩:=h.own t x' bw cE a1 a2;exact ⟨x,rows,b1,b2,b3.trans a3,zdg b4 a4,λe=>(a5 (by omega)).trans (b5 (by omega))⟩
 obtain ⟨n',h1,h2,h3⟩:=h.ar t e sz n ht;obtain ⟨n'',k1,k2,k3⟩:=k.ar t e sz n' h1;refine ⟨n'',k1,zdg h2 k2,λhn=>?_⟩;have e1:n'=n:=by omega
 subst e1;exact (k3 hn).trans (h3 rfl)
theorem bJ.mono {g g':bT} {w w':World} {st st':St} (e:uB g w st g' w' st') {x:EV} {v:Value} (h:bJ g w st x v):bJ g' w' st' x v:=by
 induction h with
 | d x v h=>exact .d x v (h.mono e.cP)
 | ref o off h=>rw [←e.ob o h];exact .ref o off (zbk h e.aP)
 | Jk o off len cap h=>rw [←e.ob o h];exact .Jk o off len cap (zbk h e.aP)
 | cz sz rows t v el n hd ht hn hv =>
  obtain ⟨n',h1,h2,h3⟩:=e.ar t el sz n ht;refine .cz sz rows t v el n' (hd.mono e.cP) h1 (zdg hn h2) (λhr=>?_);have e1:n'=n:=by omega
  subst e1;exact (hv hr).imp (·.trans (h3 rfl).symm) id
 | mp o h=>rw [←e.ob o h];exact .mp o (zbk h e.aP)
 | vR f cs vs hs _ ih=>exact .vR f cs vs hs ih
 | agg cs vs hs h1 _ ih=>exact .agg cs vs hs h1 ih
 | dV cs vs hs _ ih=>exact .dV cs vs hs ih
 | gd b x v h0 _ ih=>exact .gd b x v h0 ih
 | vc t k v ht hf h =>
  refine .vc t k v (zbk ht e.Lv) hf λx' bw hx ho=>?_
  obtain ⟨x,rows,b1,b2,_,b4,b5⟩:=e.own t x' bw ht hx ho;obtain ⟨c1,c2⟩:=h x rows b1 b2;exact ⟨by omega,λhk=>by
   have e1:x.n=x'.n:=by omega
   have:=c2 (by omega);rw [e1] at this;exact this.imp (·.trans (b5 e1).symm) id⟩
 | vp t k i off v ht hf h =>
  refine .vp t k i off v (zbk ht e.Lv) hf λx' bw hx ho=>?_
  obtain ⟨x,rows,b1,b2,b3,b4,b5⟩:=e.own t x' bw ht hx ho;obtain ⟨c1,c2⟩:=h x rows b1 b2;exact ⟨by omega,λhk=>by
   obtain ⟨b,n,c,d1,d2⟩:=c2 (by omega);exact ⟨b,n,c,(b5 (by omega)).trans d1,by rw [←b3];exact d2⟩⟩
 | vw t k lo n v ht hf h =>
  refine .vw t k lo n v (zbk ht e.Lv) hf λx' bw hx ho=>?_
  obtain ⟨x,rows,b1,b2,b3,b4,b5⟩:=e.own t x' bw ht hx ho;obtain ⟨c1,c2⟩:=h x rows b1 b2;exact ⟨by omega,λhk=>by
   rcases c2 (by omega) with hz|⟨b,m,c,c',d1,d2⟩
   ·exact .inl hz
   ·exact .inr ⟨b,m,c,c',(b5 (by omega)).trans d1,by rw [←b3];exact d2⟩⟩
def St.live (st:St) (o:Nat):Prop:=∃ x,st.aP[o]?=some x/\x≠.gone
def xj (B:Nat) (w:World):Prop:=(∀ x∈GL,x.1<B/\∃ ty fr,w.heap[x.1]?=some (.cells x.2 ty fr))/\∀ k∈GI,k<B/\∃ m,w.cell? ⟨k,0,none⟩=some (.int .i64 m)
theorem xj.below {B:Nat} {w w':World} (h:xj B w) (hb:Below B w w'):xj B w':=⟨λx hx =>
 let ⟨h1,ty,fr,h2⟩:=h.1 x hx
 ⟨h1,ty,fr,(hb.block _ h1).trans h2⟩,λk hk =>
 let ⟨h1,m,h2⟩:=h.2 k hk
 ⟨h1,m,(hb.cell (p:=⟨k,0,none⟩) h1).trans h2⟩⟩
theorem xj.mono {B B':Nat} {w:World} (h:xj B w) (hb:B<=B'):xj B' w:=⟨λx hx =>
 let ⟨h1,h2⟩:=h.1 x hx
 ⟨zbk h1 hb,h2⟩,λk hk =>
 let ⟨h1,h2⟩:=h.2 k hk
 ⟨zbk h1 hb,h2⟩⟩
structure de (lim:Nat->Nat) (w:World) (sz n:Nat) (rows:List (List D)) (xs:List Value):Prop where
 len:rows.length=n
 row:∀ r,r∈rows->r.length=sz
 rep:∀ (i:Nat) c (u:Value),rows.flatten[i]?=some c->xs[i]?=some u->dw lim w c u/\u.oneCell'=true
theorem de.mono {lim dh:Nat->Nat} {w w':World} {sz n:Nat} {rows:List (List D)} {xs:List Value} (h:de lim w sz n rows xs) (e:Lm lim w dh w'):de dh w' sz n rows xs :=
 ⟨h.len,h.row,λi c u a b=>⟨(h.rep i c u a b).1.mono e,(h.rep i c u a b).2⟩⟩
structure Inv (g:bT) (B:Nat) (w:World) (st:St):Prop where
 base:B<=w.heap.size
 row:∀ o ty cs,st.aP[o]?=some (.row ty cs)->B<=g.ob o/\g.lim (g.ob o)=0 /\
  ∃ vs:Array Value,w.heap[g.ob o]?=some (.cells vs ty (0,0))/\vs.size=cs.length/\∀ (i:Nat) c (u:Value),cs[i]?=some c->vs[i]?=some u->bJ g w st c u/\u.oneCell'=true
 map:∀ o es,st.aP[o]?=some (.map es)->B<=g.ob o /\
  ∃ (ms:Array MapEntry) (clock:Nat),w.heap[g.ob o]?=some (.map ms clock)/\ms.size=es.length /\
   (∀ (i:Nat) k x (m:MapEntry),es[i]?=some (k,x)->ms[i]?=some m->m.key=k/\bJ g w st x m.val) /\
   (∀ (i:Nat) (m:MapEntry),ms[i]?=some m->m.born<clock) /\
   (∀ (i j:Nat) (m m':MapEntry),ms[i]?=some m->ms[j]?=some m'->m.born=m'.born->i=j)
 raw:∀ o x,st.aP[o]?=some (.raw x)->B<=g.ob o/\g.lim (g.ob o)=0/\w.heap[g.ob o]?=some x
 ne:∀ o o',o≠o'->st.live o->st.live o'->g.ob o≠g.ob o'
 tail:∀ t e sz n,st.ar[t]?=some ⟨e,sz,n,none⟩->∃ xs,w.ownsRow B e sz (g.tk t) n xs/\∀ b,(g.tk t).ownBlock=some b->g.lim b=n*sz
 nK:∀ t t' x x' b,t≠t'->st.ar[t]?=some x->st.ar[t']?=some x'->(g.tk t).ownBlock=some b->(g.tk t').ownBlock≠some b
 iv:∀ t x o,st.ar[t]?=some x->st.live o->(g.tk t).ownBlock≠some (g.ob o)
 C9:xj B w
 own:∀ t e sz n rows,st.ar[t]?=some ⟨e,sz,n,some rows⟩->∃ xs,w.ownsRow B e sz (g.tk t) n xs/\(∀ b,(g.tk t).ownBlock=some b->g.lim b=0)/\de g.lim w sz n rows xs
theorem Inv.Sa {g:bT} {B:Nat} {w:World} {st:St} (h:Inv g B w st) {t:Nat} {x:gD} (hx:st.ar[t]?=some x):∃ xs,w.ownsRow B x.e x.sz (g.tk t) x.n xs:=by
 obtain ⟨e,sz,n,own⟩:=x;cases own with
 | none=>obtain ⟨xs,h1,_⟩:=h.tail t e sz n hx;exact ⟨xs,h1⟩
 | some rows=>obtain ⟨xs,h1,_⟩:=h.own t e sz n rows hx;exact ⟨xs,h1⟩
theorem Inv.vT {g:bT} {B:Nat} {w:World} {st:St} (h:Inv g B w st) {t:Nat} {x:gD} (hx:st.ar[t]?=some x) {b:Nat} (hb:(g.tk t).ownBlock=some b):B<=b/\b<w.heap.size:=by
 obtain ⟨xs,h1⟩:=h.Sa hx;exact h1.lt b hb
theorem e8 {w w':World} {B e sz n:Nat} {v:Value} {xs:List Value} (h:w.ownsRow B e sz v n xs) (hb:∀ b,v.ownBlock=some b->w'.heap[b]?=w.heap[b]?):w'.ownsRow B e sz v n xs:=by
 obtain ⟨k1,k2⟩:=h;refine ⟨k1,?_⟩;rcases k2 with k2|⟨gb,cap,cur,e1,e2,e3,e4⟩
 ·exact .inl k2
 ·exact .inr ⟨gb,cap,cur,e1,e2,by rw [hb gb (by rw [e1];rfl)];exact e3,e4⟩
def ua (g:bT) (st:St) (b:Nat):Prop:=(∃ o,st.live o/\g.ob o=b)∨(∃ t x,st.ar[t]?=some x/\(g.tk t).ownBlock=some b)
abbrev Env:=List (Nat×EV)
def lookup (i:Nat):Env->Option EV
 | []=>none
 | (j,x)::e=>match Nat.beq i j with
  | true=>some x
  | false=>lookup i e
def dO (g:bT) (w:World) (st:St) (env:Env) (tmps:Array Value):Prop :=
 ∀ i x,lookup i env=some x->∃ v:Value,tmps[i]?=some v/\bJ g w st x v
theorem dO.mono {g g':bT} {w w':World} {st st':St} {env:Env} {tmps:Array Value} (e:uB g w st g' w' st') (h:dO g w st env tmps):dO g' w' st' env tmps :=
 λi x hx=>let ⟨v,h1,h2⟩:=h i x hx;⟨v,h1,h2.mono e⟩
theorem dO.put {g:bT} {w:World} {st:St} {env:Env} {tmps:Array Value} {d:Nat} {x:EV} {v:Value} (h:dO g w st env tmps) (hd:d<tmps.size) (hv:bJ g w st x v) :
  dO g w st ((d,x)::env) (tmps.setIfInBounds d v):=by
 intro i y hy;unfold lookup at hy;by_cases hi:i=d
 ·subst hi;have:Nat.beq i i=true:=zep i;rw [this] at hy;simp only [Option.some.injEq] at hy;subst hy;exact ⟨v,by simp [hd],hv⟩
 ·have:Nat.beq i d=false:=by
   cases hb:Nat.beq i d with
   | false=>rfl
   | true=>exact absurd (zau hb) hi
  rw [this] at hy;obtain ⟨u,h1,h2⟩:=h i y hy;exact ⟨u,by simp [zcc,zcf hi,h1],h2⟩
structure Start where
 g:bT
 w:World
 st:St
 base:Nat
structure rm (S:Start) (g:bT) (w:World) (st:St):Prop where
 dy:uB S.g S.w S.st g w st
 below:Below S.base S.w w
 lim:∀ b,b<S.base->g.lim b=S.g.lim b
 frame:∀ b,b<S.w.heap.size->¬ ua S.g S.st b->w.heap[b]?=S.w.heap[b]?/\g.lim b=S.g.lim b
 fresh:∀ b,b<S.w.heap.size->ua g st b->ua S.g S.st b
def nC (S:Start) (Q:EV->St->Prop) (e:Ending) (w:World):Prop :=
 ∃ v r st g,e=.returned v/\Q r st/\bJ g w st r v/\Inv g S.base w st/\rm S g w st
structure Ctx where
 fn:FuncId
 ds:List Deferred
 ro:Option Nat
@[reducible] def Ctx.of (f:FuncId):Ctx:=⟨f,[],none⟩
def bf (f:Ctx):Frame:={ (default:Frame) with fn:=f.fn,kind:=.normal,roundOf:=f.ro }
def Ctx.fin (P:Program) (f:Ctx) (fr:Frame) (w:World) (e:Ending):Prop :=
 match f.ro with
 | none=>fr.fn=f.fn/\fr.leaving P w e
 | some _=>e=.returned (.bool true)/\∃ tmps,fr=(bf f).atR ⟨tmps,f.ds⟩ []
def ep (P:Program) (f:Ctx) (R:Ending->World->Prop) (todo:List Item) (tmps:Array Value) (w:World):Prop :=
 ∀ cs,∃ e w' fr,R e w'/\Comes P (lone ((bf f).atR ⟨tmps,f.ds⟩ todo) cs w) (lone fr cs w') e/\f.fin P fr w' e
theorem ep.step {P:Program} {f:Ctx} {R:Ending->World->Prop} {todo Tu:List Item} {tmps Tv:Array Value} {w w':World}
  (h:∀ cs,step P (lone ((bf f).atR ⟨tmps,f.ds⟩ todo) cs w)=.next (lone ((bf f).atR ⟨Tv,f.ds⟩ Tu) cs w')) (k:ep P f R Tu Tv w'):ep P f R todo tmps w:=by
 intro cs;obtain ⟨e,w2,fr,hR,hc,h1⟩:=k cs;exact ⟨e,w2,fr,hR,Comes.of_steps (.one (h cs)) hc,h1⟩
theorem ep.mono {P:Program} {f:Ctx} {R R':Ending->World->Prop} {todo:List Item} {tmps:Array Value} {w:World} (h:ep P f R todo tmps w) (hr:∀ e w,R e w->R' e w):ep P f R' todo tmps w :=
 λcs=>let ⟨e,w',fr,a,b,c⟩:=h cs;⟨e,w',fr,hr _ _ a,b,c⟩
theorem Az {ro:Option Nat} {ρ:Operand->Value} {o:Oper} {P:Program} {w w':World} {x:Next} (hr:(execOp ρ o).run P w=.ok x w') (hx:∀ d,x≠.defer d):Oper.semAt ro ρ o=execOp ρ o:=by
 refine Oper.semAt_eq ro ρ o λc hc=>?_
 have:∀ {x:Next} {w':World},(execOp ρ o).run P w=.ok x w'->∃ d,x=.defer d:=by
  intro x w' h;simp only [execOp,hc,Sem.run_bind] at h;cases h2:(resolve ρ c o.type).run P w with
  | halt a b=>rw [h2] at h;cases h
  | ok d w2=>rw [h2] at h;simp at h;exact ⟨d,h.1.symm⟩
 obtain ⟨d,hd⟩:=this hr;exact hx d hd
section ops
variable {P:Program} {f:Ctx} {R:Ending->World->Prop} {k:List Item} {tmps:Array Value} {w:World} {ops:Array Oper} {i:Nat} {rest:List Nat} {o:Oper}
theorem put_eq (ds:List Deferred) (dst:Option Tmp) (v:Value):Act.put ⟨tmps,ds⟩ dst v=⟨(Act.put ⟨tmps,[]⟩ dst v).tmps,ds⟩:=by cases dst <;> rfl
theorem AA (ds:List Deferred) (tmps:Array Value):Act.eval ⟨tmps,ds⟩=Act.eval ⟨tmps,[]⟩:=by funext x;cases x <;> rfl
theorem ep.value {v:Value} {w':World} (ho:ops[i]?=some o) (hw:Region.wanted o (yielded ops tmps)=true)
  (hr:(execOp (Act.eval ⟨tmps,[]⟩) o).run P w=.ok (.value v) w') (h:ep P f R (.inRegion ops rest::k) (Act.put ⟨tmps,[]⟩ o.dst v).tmps w') :
  ep P f R (.inRegion ops (i::rest)::k) tmps w:=by
 refine ep.step (λcs=>?_) h;have hg:=stepGR_op (P:=P) (b:=bf f) (a:=⟨tmps,f.ds⟩) (k:=k) (cs:=cs) (w:=w) (rest:=rest) ho hw;rw [AA,Az hr (by simp)] at hg;have o8:∀ v,((bf f).atR ⟨tmps,f.ds⟩ (.inRegion ops (i::rest)::k)).finish v=(bf f).atR (Act.put ⟨tmps,f.ds⟩ o.dst v) (.inRegion ops rest::k):=by
  intro v;rw [Frame.finish_atR,ho];rfl
 refine step_lone_go ?_;rw [←put_eq,hg,←o8];simp [stepG.apply,hr]
theorem ep.skip {w':World} (ho:ops[i]?=some o) (hw:Region.wanted o (yielded ops tmps)=true)
  (hr:(execOp (Act.eval ⟨tmps,[]⟩) o).run P w=.ok .skip w') (h:ep P f R (.inRegion ops rest::k) (Act.put ⟨tmps,[]⟩ o.dst undef).tmps w') :
  ep P f R (.inRegion ops (i::rest)::k) tmps w:=by
 refine ep.step (λcs=>?_) h;have hg:=stepGR_op (P:=P) (b:=bf f) (a:=⟨tmps,f.ds⟩) (k:=k) (cs:=cs) (w:=w) (rest:=rest) ho hw;rw [AA,Az hr (by simp)] at hg;have o8:∀ v,((bf f).atR ⟨tmps,f.ds⟩ (.inRegion ops (i::rest)::k)).finish v=(bf f).atR (Act.put ⟨tmps,f.ds⟩ o.dst v) (.inRegion ops rest::k):=by
  intro v;rw [Frame.finish_atR,ho];rfl
 refine step_lone_go ?_;rw [←put_eq,hg,←o8];simp [stepG.apply,hr]
theorem ep.xk (ho:ops[i]?=some o) (hw:Region.wanted o (yielded ops tmps)=false)
  (h:ep P f R (.inRegion ops rest::k) (Act.put ⟨tmps,[]⟩ o.dst undef).tmps w):ep P f R (.inRegion ops (i::rest)::k) tmps w:=by
 refine ep.step (λcs=>?_) h;have hs:=stepR_op_skip (P:=P) (b:=bf f) (a:=⟨tmps,f.ds⟩) (k:=k) (cs:=cs) (w:=w) (ops:=ops) (i:=i) (rest:=rest) (by simp [ho];simpa using hw);simp only [ho,zac] at hs;rw [←put_eq];exact hs
theorem ep.call {f':FuncId} {args:Array Value} {w':World} (ho:ops[i]?=some o) (hw:Region.wanted o (yielded ops tmps)=true)
  (hr:(execOp (Act.eval ⟨tmps,[]⟩) o).run P w=.ok (.enter f' args) w')
  (h:Calls P f' args w' λe w2=>∃ v,e=.returned v/\ep P f R (.inRegion ops rest::k) (Act.put ⟨tmps,[]⟩ o.dst v).tmps w2) :
  ep P f R (.inRegion ops (i::rest)::k) tmps w:=by
 intro cs;have hg:=stepGR_op (P:=P) (b:=bf f) (a:=⟨tmps,f.ds⟩) (k:=k) (cs:=cs) (w:=w) (rest:=rest) ho hw;rw [AA,Az hr (by simp)] at hg;have o8:∀ v,((bf f).atR ⟨tmps,f.ds⟩ (.inRegion ops (i::rest)::k)).finish v=(bf f).atR (Act.put ⟨tmps,f.ds⟩ o.dst v) (.inRegion ops rest::k):=by
  intro v;rw [Frame.finish_atR,ho];rfl
 obtain ⟨e,w2,fr,⟨v,rfl,hF⟩,DV,_,Lw⟩:=h ((bf f).atR ⟨tmps,f.ds⟩ (.inRegion ops (i::rest)::k)::cs);have zI:Go.step P (lone ((bf f).atR ⟨tmps,f.ds⟩ (.inRegion ops (i::rest)::k)) cs w) =
   .next (lone (Frame.enter P f' args .normal) ((bf f).atR ⟨tmps,f.ds⟩ (.inRegion ops (i::rest)::k)::cs) w') :=
  step_lone_go (by rw [hg];simp [stepG.apply,hr,Frame.atR])
 obtain ⟨e,w3,XG,hR,hc,h1⟩:=hF cs;refine ⟨e,w3,XG,hR,Comes.of_steps (.head zI (DV.trans (.one ?_))) hc,h1⟩;rw [←put_eq,←o8];exact step_leave_returned Lw
theorem ep.Oa (h:ep P f R k tmps w):ep P f R (.inRegion ops []::k) tmps w:=ep.step (λ_=>stepR_region_end) h
end ops
section control
variable {P:Program} {f:Ctx} {R:Ending->World->Prop} {k:List Item} {tmps:Array Value} {w:World}
theorem ep.seq {x y:Code} (h:ep P f R (.code x::.code y::k) tmps w):ep P f R (.code (.seq x y)::k) tmps w:=ep.step (λ_=>stepR_seq) h
theorem ep.XH (h:ep P f R k tmps w):ep P f R (.code .skip::k) tmps w:=ep.step (λ_=>stepR_skip) h
theorem ep.inBlock {id:Nat} (h:ep P f R k tmps w):ep P f R (.inBlock id::k) tmps w:=ep.step (λ_=>stepR_inBlock) h
theorem ep.block {id:Nat} {c:Code} (h:ep P f R (.code c::.inBlock id::k) tmps w):ep P f R (.code (.block id c)::k) tmps w:=ep.step (λ_=>stepR_block) h
theorem ep.loop {c:Code} (h:ep P f R (.code c::.inLoop c::k) tmps w):ep P f R (.code (.loop c)::k) tmps w:=ep.step (λ_=>stepR_loop) h
theorem ep.inLoop {c:Code} (h:ep P f R (.code c::.inLoop c::k) tmps w):ep P f R (.inLoop c::k) tmps w:=ep.step (λ_=>stepR_inLoop) h
theorem ep.exit {id:Nat} {k':List Item} (hk:exitTo id k=some k') (h:ep P f R k' tmps w):ep P f R (.code (.exit id)::k) tmps w:=ep.step (λ_=>stepR_exit hk) h
theorem ep.cond {c:Operand} {x y:Code} {t:Bool} (hc:Act.eval ⟨tmps,[]⟩ c=.bool t) (h:ep P f R (.code (if t then x else y)::k) tmps w):ep P f R (.code (.cond c x y)::k) tmps w :=
 ep.step (λ_=>stepR_cond (by rw [AA];exact hc)) h
theorem ep.region {id:Nat} {ops:Array Oper} (h:ep P f R (.inRegion ops (List.range ops.size)::k) tmps w):ep P f R (.code (.region id ops false)::k) tmps w:=ep.step (λ_=>stepR_region) h
theorem ep.zJ {id:Nat} {ops:Array Oper} (h:∀ t,ep P f R (.inRegion ops (Region.schedule (P.follows .mixedOrders) ops t)::k) tmps { w with drawn:=w.drawn+1 }) :
  ep P f R (.code (.region id ops true)::k) tmps w:=ep.step (λ_=>stepR_region_draw) (h _)
theorem ep.ret {f:FuncId} {fn:Func} {v:Value} (hf:P.funcs[f]?=some fn) (hr:(results fn tmps).run P w=.ok v w) (hR:R (.returned v) w):ep P (.of f) R (.code .ret::k) tmps w :=
 λcs=>⟨.returned v,w,_,hR,.one (stepR_ret rfl),rfl,rfl,rfl,rfl,fn,hf,hr⟩
theorem ep.fin {f:FuncId} {fn:Func} {v:Value} (hf:P.funcs[f]?=some fn) (hr:(results fn tmps).run P w=.ok v w) (hR:R (.returned v) w):ep P (.of f) R [] tmps w :=
 λcs=>⟨.returned v,w,_,hR,.one (stepR_end rfl),rfl,rfl,rfl,rfl,fn,hf,hr⟩
theorem ep.DW {f:FuncId} {l:Nat} (hR:R (.returned (.bool true)) w):ep P ⟨f,[],some l⟩ R [] tmps w :=
 λcs=>⟨.returned (.bool true),w,_,hR,Steps.refl _ _,rfl,tmps,rfl⟩
theorem ep.calls {f:FuncId} {fn:Func} {c:Code} {args:Array Value} (hf:P.funcs[f]?=some fn) (hb:fn.body=some c)
  (h:ep P (.of f) R [.code c] (args++Array.replicate (fn.ntmps-args.size) undef) w):Calls P f args w R:=by
 intro cs;have zI:Frame.enter P f args .normal=(bf (.of f)).atR ⟨args++Array.replicate (fn.ntmps-args.size) undef,[]⟩ [.code c]:=by
  simp [Frame.enter,Frame.atR,hf,hb,bf]
 obtain ⟨e,w',fr,hR,hc,h1,h2⟩:=h cs;rw [←zI] at hc;exact ⟨e,w',fr,hR,hc,h1,h2⟩
end control
structure Step (base:Nat) (g:bT) (w:World) (st:St) (g':bT) (w':World) (st':St):Prop where
 dy:uB g w st g' w' st'
 below:Below base w w'
 lim:∀ b,b<base->g'.lim b=g.lim b
 frame:∀ b,b<w.heap.size->¬ ua g st b->w'.heap[b]?=w.heap[b]?/\g'.lim b=g.lim b
 fresh:∀ b,b<w.heap.size->ua g' st' b->ua g st b
theorem Step.refl (base:Nat) (g:bT) (w:World) (st:St):Step base g w st g w st:=⟨.refl _ _ _,.refl _ _,λ_ _=>rfl,λ_ _ _=>⟨rfl,rfl⟩,λ_ _ h=>h⟩
theorem Step.trans {base:Nat} {g1 g2 g3:bT} {w1 w2 w3:World} {s1 s2 s3:St} (h:Step base g1 w1 s1 g2 w2 s2) (k:Step base g2 w2 s2 g3 w3 s3):Step base g1 w1 s1 g3 w3 s3 :=
 ⟨h.dy.trans k.dy,h.below.trans k.below,λb hb=>(k.lim b hb).trans (h.lim b hb),
  λb hb hn=>have k1:=k.frame b (zbk hb h.dy.cP.size) (λho=>hn (h.fresh b hb ho));have h1:=h.frame b hb hn;⟨k1.1.trans h1.1,k1.2.trans h1.2⟩,
  λb hb ho=>h.fresh b hb (k.fresh b (zbk hb h.dy.cP.size) ho)⟩
theorem rm.step {S:Start} {g g':bT} {w w':World} {st st':St} (h:rm S g w st) (k:Step S.base g w st g' w' st'):rm S g' w' st' :=
 ⟨h.dy.trans k.dy,h.below.trans k.below,λb hb=>(k.lim b hb).trans (h.lim b hb),
  λb hb hn=>have k1:=k.frame b (zbk hb h.dy.cP.size) (λho=>hn (h.fresh b hb ho));have h1:=h.frame b hb hn;⟨k1.1.trans h1.1,k1.2.trans h1.2⟩,
  λb hb ho=>h.fresh b hb (k.fresh b (zbk hb h.dy.cP.size) ho)⟩
theorem rm.refl (S:Start):rm S S.g S.w S.st:=⟨.refl _ _ _,.refl _ _,λ_ _=>rfl,λ_ _ _=>⟨rfl,rfl⟩,λ_ _ h=>h⟩
theorem rm.toStep {S:Start} {g:bT} {w:World} {st:St} (h:rm S g w st):Step S.base S.g S.w S.st g w st:=⟨h.dy,h.below,h.lim,h.frame,h.fresh⟩
def bq (P:Program) (f:Ctx) (N:Nat) (S:Start) (Q:EV->St->Prop) (todo:List Item) (env:Env) (st:St):Prop :=
 ∀ g w tmps,Inv g S.base w st->rm S g w st->dO g w st env tmps->tmps.size=N->ep P f (nC S Q) todo tmps w
def cv:Value->D
 | .agg cs=>if cs.toList.all (·.oneCell') then .agg (cs.toList.map D.ex) else .ex (.agg cs)
 | v=>.ex v
theorem qj (lim:Nat->Nat) (w:World) (v:Value):dw lim w (cv v) v:=by
 cases v <;> simp only [cv] <;> try exact .ex _
 rename_i cs;split
 ·rename_i h;refine .agg _ _ (by simp) ?_ ?_
  ·intro i u hu;rw [zbd] at h;exact h u (by
    have:u∈cs:=Array.mem_of_getElem? hu;simpa using this)
  ·intro i c u hc hu;rw [zbc] at hc;have:cs.toList[i]?=some u:=by simpa using hu
   rw [this] at hc;simp only [Option.map_some,Option.some.injEq] at hc;subst hc;exact .ex u
 ·exact .ex _
def cP (env:Env):Operand->Option EV
 | .tmp t=>lookup t env
 | .const (.agg cs)=>match cs.toList.all (·.oneCell') with
  | true=>some (.d (.agg (cs.toList.map D.ex)))
  | false=>some (.d (.ex (.agg cs)))
 | .const v=>some (.d (.ex v))
 | .func f=>some (.d (.ex (.func (.func f) #[] #[])))
 | .global _=>none
theorem Ob (env:Env) (v:Value):cP env (.const v)=some (.d (cv v)):=by
 cases v <;> try rfl
 rename_i cs;simp only [cP,cv];cases cs.toList.all (·.oneCell') <;> rfl
theorem aM {g:bT} {w:World} {st:St} {env:Env} {tmps:Array Value} (h:dO g w st env tmps) {x:Operand} {e:EV} (hx:cP env x=some e):bJ g w st e (Act.eval ⟨tmps,[]⟩ x):=by
 cases x with
 | tmp t =>
  obtain ⟨v,h1,h2⟩:=h t e hx;simp only [Act.eval,zar,h1,zcv];exact h2
 | const v =>
  rw [Ob,Option.some.injEq] at hx;subst hx;exact .d _ _ (qj _ _ v)
 | func f =>
  simp only [cP,Option.some.injEq] at hx;subst hx;exact .d _ _ (.ex _)
 | «global» x=>simp [cP] at hx
section inv
variable {g:bT} {w:World} {st:St} {v:Value}
theorem bJ.bK {u:Value} (h:bJ g w st (.d (.ex u)) v):v=u:=by
 cases h with|d _ _ h=>cases h;rfl
end inv
section control
variable {P:Program} {f:Ctx} {N:Nat} {S:Start} {Q:EV->St->Prop} {k:List Item} {env:Env} {st:St}
theorem bq.seq {x y:Code} (h:bq P f N S Q (.code x::.code y::k) env st):bq P f N S Q (.code (.seq x y)::k) env st:=λg w t a b c d=>.seq (h g w t a b c d)
theorem bq.skip (h:bq P f N S Q k env st):bq P f N S Q (.code .skip::k) env st:=λg w t a b c d=>.XH (h g w t a b c d)
theorem bq.inBlock {id:Nat} (h:bq P f N S Q k env st):bq P f N S Q (.inBlock id::k) env st:=λg w t a b c d=>.inBlock (h g w t a b c d)
theorem bq.block {id:Nat} {c:Code} (h:bq P f N S Q (.code c::.inBlock id::k) env st):bq P f N S Q (.code (.block id c)::k) env st:=λg w t a b c d=>.block (h g w t a b c d)
theorem bq.inLoop {c:Code} (h:bq P f N S Q (.code c::.inLoop c::k) env st):bq P f N S Q (.inLoop c::k) env st:=λg w t a b c d=>.inLoop (h g w t a b c d)
theorem bq.XI {c:Code} (h:bq P f N S Q (.code c::.inLoop c::k) env st):bq P f N S Q (.code (.loop c)::k) env st:=λg w t a b c d=>.loop (h g w t a b c d)
theorem bq.exit {id:Nat} {k':List Item} (hk:exitTo id k=some k') (h:bq P f N S Q k' env st):bq P f N S Q (.code (.exit id)::k) env st:=λg w t a b c d=>.exit hk (h g w t a b c d)
theorem bq.cond {c:Operand} {x y:Code} {b:Bool} (hc:cP env c=some (.d (.ex (.bool b)))) (ht:b=true->bq P f N S Q (.code x::k) env st) (hf:b=false->bq P f N S Q (.code y::k) env st) :
  bq P f N S Q (.code (.cond c x y)::k) env st:=by
 intro g w t hi hh he hn;refine ep.cond (t:=b) (aM he hc).bK ?_;cases b with
 | true=>exact ht rfl g w t hi hh he hn
 | false=>exact hf rfl g w t hi hh he hn
def dX (x y:EV):Prop:=∀ (g:bT) (w:World) (st:St) (v:Value),bJ g w st x v->bJ g w st y v
theorem dX.ak (x:EV):dX x x:=λ_ _ _ _ h=>h
theorem dX.any (x:EV):dX x (.d .any):=λ_ _ _ v _=>.d _ _ (.any v)
theorem dX.cz (sz:Nat) (rows:List (List D)) (t:Nat):dX (.cz sz rows t) (.d (.sl sz rows)):=λ_ _ _ v h=>by cases h with|cz _ _ _ _ _ _ hd _ _ _=>exact .d _ _ hd
theorem dX.nil (sz:Nat):dX (.d (.ex (.slice none 0 0))) (.d (.sl sz [])):=λ_ _ _ v h=>by cases h.bK;exact .d _ _ (.nil sz _)
theorem D.MP {lim:Nat->Nat} {w:World} {sz:Nat} {v:Value} (h:dw lim w (.e0 sz) v):dw lim w (.sl sz []) v:=by
 cases h with
 | e0 _ A h =>
  rcases h with rfl|⟨b,off,rfl⟩
  ·exact .nil sz _
  ·exact .sl sz [] b off 0 (zap _) (by simp) (by simp) (by simp)
theorem dX.e0 (sz:Nat):dX (.d (.e0 sz)) (.d (.sl sz [])):=λ_ _ _ v h=>by cases h with|d _ _ h=>exact .d _ _ (D.MP h)
def cZ (env:Env):Env->Prop
 | []=>True
 | (i,y)::t=>(∃ x,lookup i env=some x/\dX x y)/\cZ env t
theorem cZ.get {env:Env}:∀ {env':Env},cZ env env'->∀ i y,lookup i env'=some y->∃ x,lookup i env=some x/\dX x y
 | [],_,i,y,h=>by simp [lookup] at h
 | (j,z)::t,⟨⟨x,hx,hle⟩,ht⟩,i,y,h=>by
  unfold lookup at h;cases hb:Nat.beq i j with
  | true =>
   rw [hb] at h;simp only [Option.some.injEq] at h;have:=zau hb;subst this;subst h;exact ⟨x,hx,hle⟩
  | false =>
   rw [hb] at h;exact ht.get i y h
theorem dO.sub {g:bT} {w:World} {tmps:Array Value} {env env':Env} (h:dO g w st env tmps) (hs:cZ env env'):dO g w st env' tmps:=by
 intro i y hy;obtain ⟨x,hx,hle⟩:=hs.get i y hy;obtain ⟨v,h1,h2⟩:=h i x hx;exact ⟨v,h1,hle _ _ _ _ h2⟩
theorem bq.sub {todo:List Item} {env':Env} (hs:cZ env env') (h:bq P f N S Q todo env' st):bq P f N S Q todo env st :=
 λg w t a b c d=>h g w t a b (c.sub hs) d
theorem bq.loop {c:Code} {ι:Type} (E:ι->Env) (T:ι->St) (I:ι->Prop) (μ:ι->Nat) (i0:ι) (h0:I i0) (hE:cZ env (E i0)) (hT:st=T i0)
  (step:∀ i,I i->(∀ j,I j->μ j<μ i->bq P f N S Q (.inLoop c::k) (E j) (T j))->bq P f N S Q (.code c::.inLoop c::k) (E i) (T i)) :
  bq P f N S Q (.code (.loop c)::k) env st:=by
 have key:∀ n i,μ i<n->I i->bq P f N S Q (.code c::.inLoop c::k) (E i) (T i):=by
  intro n
  induction n with
  | zero=>intro i hi;omega
  | succ n ih =>
   intro i hi hI;exact step i hI λj hj cE=>.inLoop (ih j (by omega) hj)
 subst hT;exact .XI (.sub hE (key _ i0 (zfj _) h0))
theorem bq.join {todo:List Item} {ι:Type} (k':List Item) (E:ι->Env) (T:ι->St) (I:ι->Prop)
  (hk:∀ i,I i->bq P f N S Q k' (E i) (T i)) (h:(∀ i,I i->bq P f N S Q k' (E i) (T i))->bq P f N S Q todo env st):bq P f N S Q todo env st:=h hk
theorem bq.jg {x y:Code} {ι:Type} (E:ι->Env) (T:ι->St) (I:ι->Prop)
  (hk:∀ i,I i->bq P f N S Q (.code y::k) (E i) (T i)) (h:(∀ i,I i->bq P f N S Q (.code y::k) (E i) (T i))->bq P f N S Q (.code x::.code y::k) env st) :
  bq P f N S Q (.code (.seq x y)::k) env st:=.seq (h hk)
theorem bq.DX {f:FuncId} {fn:Func} (hf:P.funcs[f]?=some fn) (hr:fn.results=#[]) (hQ:Q (.dV []) st):bq P (.of f) N S Q [] env st:=by
 intro g w tmps hi hh he hn;refine ep.fin hf (results_none hr tmps P w) ⟨_,_,st,g,rfl,hQ,.dV _ _ rfl (by simp),hi,hh⟩
end control
def cd (P:Program) (f:Ctx) (N:Nat) (S:Start) (Q:EV->St->Prop) (ops rest:List Oper) (k:List Item) (env:Env) (st:St):Prop :=
 ∀ i,(∀ j:Nat,rest[j]?=ops[i+j]?)->bq P f N S Q (.inRegion ops.toArray (List.range' i rest.length)::k) env st
def Env.put (env:Env):Option Tmp->EV->Env
 | some d,x=>(d,x)::env
 | none,_=>env
def fV (N:Nat):Option Tmp->Bool
 | some d=>Nat.ble (d+1) N
 | none=>true
theorem qk {g:bT} {w:World} {st:St} {env:Env} {tmps:Array Value} {d:Option Tmp} {x:EV} {v:Value} (h:dO g w st env tmps) (hd:fV tmps.size d=true) (hv:bJ g w st x v) :
  dO g w st (env.put d x) (Act.put ⟨tmps,[]⟩ d v).tmps:=by
 cases d with
 | none=>exact h
 | some d=>exact h.put (zaf hd) hv
theorem ia {tmps:Array Value} {d:Option Tmp} {v:Value}:(Act.put ⟨tmps,[]⟩ d v).tmps.size=tmps.size:=by
 cases d <;> simp [Act.put]
section regions
variable {P:Program} {f:Ctx} {N:Nat} {S:Start} {Q:EV->St->Prop} {k:List Item} {env:Env} {st:St} {ops rest:List Oper}
theorem bq.region {id:Nat} {l:List Oper} (h:cd P f N S Q l l k env st):bq P f N S Q (.code (.region id l.toArray false)::k) env st:=by
 intro g w t a b c d;refine ep.region ?_;have:=h 0 (by simp) g w t a b c d;rw [List.range_eq_range'];simpa using this
theorem cd.nil (h:bq P f N S Q k env st):cd P f N S Q ops [] k env st:=λi _ g w t a b c d=>.Oa (h g w t a b c d)
def xl (P:Program) (base:Nat) (env:Env) (st:St) (o:Oper) (x:EV) (st':St):Prop :=
 ∀ g w tmps,Inv g base w st->dO g w st env tmps->∃ v g' w',(execOp (Act.eval ⟨tmps,[]⟩) o).run P w=.ok (.value v) w'/\bJ g' w' st' x v/\Inv g' base w' st'/\Step base g w st g' w' st'
def Hv (P:Program) (base:Nat) (env:Env) (st:St) (o:Oper) (st':St):Prop :=
 ∀ g w tmps,Inv g base w st->dO g w st env tmps->∃ g' w',(execOp (Act.eval ⟨tmps,[]⟩) o).run P w=.ok .skip w'/\Inv g' base w' st'/\Step base g w st g' w' st'
def aK (P:Program) (env:Env) (st:St) (o:Oper) (x:EV):Prop :=
 ∀ g base w tmps,Inv g base w st->dO g w st env tmps->∃ v,bJ g w st x v/\∀ w',Below w.heap.size w w'->(execOp (Act.eval ⟨tmps,[]⟩) o).run P w'=.ok (.value v) w'
theorem aK.v {base:Nat} {o:Oper} {x:EV} (h:aK P env st o x):xl P base env st o x st :=
 λg w t a b=>let ⟨v,h1,h2⟩:=h g base w t a b;⟨v,g,w,h2 w (.refl _ _),h1,a,.refl _ _ _ _⟩
theorem iw {i n:Nat}:List.range' i (n+1)=i::List.range' (i+1) n:=by rw [List.range'_succ]
theorem cd.op {o:Oper} {x:EV} {st':St} (hg:o.guard=none) (hd:fV N o.dst=true) (h:xl P S.base env st o x st') (hk:cd P f N S Q ops rest k (env.put o.dst x) st') :
  cd P f N S Q ops (o::rest) k env st:=by
 intro i hi g w tmps hinv hh he hn;obtain ⟨v,g',w',hr,hx,dR,hs⟩:=h g w tmps hinv he;have ho:ops.toArray[i]?=some o:=by simpa using (hi 0).symm
 have hw:Region.wanted o (yielded ops.toArray tmps)=true:=by simp [Region.wanted,hg]
 rw [zag,iw];refine ep.value ho hw hr ?_;subst hn;exact hk (i+1) (λj=>by have:=hi (j+1);simpa [zch,zdd 1 j] using this) g' w' _ dR (hh.step hs) (qk (he.mono hs.dy) hd hx) ia
theorem cd.opU {o:Oper} {st':St} (hg:o.guard=none) (hd:fV N o.dst=true) (h:Hv P S.base env st o st') (hk:cd P f N S Q ops rest k (env.put o.dst (.d .any)) st') :
  cd P f N S Q ops (o::rest) k env st:=by
 intro i hi g w tmps hinv hh he hn;obtain ⟨g',w',hr,dR,hs⟩:=h g w tmps hinv he;have ho:ops.toArray[i]?=some o:=by simpa using (hi 0).symm
 have hw:Region.wanted o (yielded ops.toArray tmps)=true:=by simp [Region.wanted,hg]
 rw [zag,iw];refine ep.skip ho hw hr ?_;subst hn;exact hk (i+1) (λj=>by have:=hi (j+1);simpa [zch,zdd 1 j] using this) g' w' _ dR (hh.step hs) (qk (he.mono hs.dy) hd (.d _ _ (.any _))) ia
end regions
section q
variable {P:Program} {env:Env} {st:St} {d:Option Tmp} {ty:TypeId} {pos:String} {after:Array Edge} {gd:Option (Nat×Bool)}
theorem ct {x:Operand} {e:EV} (hx:cP env x=some e):aK P env st ⟨d,.move x,ty,pos,after,gd⟩ e :=
 λg base w tmps hi he=>⟨_,aM he hx,λ_ _=>rfl⟩
theorem Ju {x:Operand} {e:EV} (hx:cP env x=some e):aK P env st ⟨d,.assign x,ty,pos,after,gd⟩ e :=
 λg base w tmps hi he=>⟨_,aM he hx,λ_ _=>rfl⟩
theorem ql {o:Oper} {r:Value} (h:∀ g w tmps w',dO g w st env tmps->(execOp (Act.eval ⟨tmps,[]⟩) o).run P w'=.ok (.value r) w'):aK P env st o (.d (.ex r)) :=
 λg base w tmps hi he=>⟨r,.d _ _ (.ex r),λw' _=>h g w tmps w' he⟩
variable {t t2:TypeId} {x y:Operand}
section two
variable {k:IntKind} {a b:Int} (hx:cP env x=some (.d (.ex (.int k a)))) (hy:cP env y=some (.d (.ex (.int k b))))
include hx hy
theorem Tw:aK P env st ⟨d,.binOp .lss t x y t2,ty,pos,after,gd⟩ (.d (.ex (.bool (decide (a<b))))):=ql λg w tmps w' he=>by
 simp [execOp,(aM he hx).bK,(aM he hy).bK,eqGuard,binOp,Op.intCmp]
theorem Tx:aK P env st ⟨d,.binOp .leq t x y t2,ty,pos,after,gd⟩ (.d (.ex (.bool (decide (a<=b))))):=ql λg w tmps w' he=>by
 simp [execOp,(aM he hx).bK,(aM he hy).bK,eqGuard,binOp,Op.intCmp]
theorem Ty:aK P env st ⟨d,.binOp .gtr t x y t2,ty,pos,after,gd⟩ (.d (.ex (.bool (decide (a > b))))):=ql λg w tmps w' he=>by
 simp [execOp,(aM he hx).bK,(aM he hy).bK,eqGuard,binOp,Op.intCmp]
theorem Tz:aK P env st ⟨d,.binOp .geq t x y t2,ty,pos,after,gd⟩ (.d (.ex (.bool (decide (a>=b))))):=ql λg w tmps w' he=>by
 simp [execOp,(aM he hx).bK,(aM he hy).bK,eqGuard,binOp,Op.intCmp]
theorem XJ:aK P env st ⟨d,.binOp .eql t x y t2,ty,pos,after,gd⟩ (.d (.ex (.bool (a==b)))):=ql λg w tmps w' he=>by
 simp [execOp,(aM he hx).bK,(aM he hy).bK,eqGuard,binOp,Op.intCmp]
theorem TA:aK P env st ⟨d,.binOp .neq t x y t2,ty,pos,after,gd⟩ (.d (.ex (.bool (a != b)))):=ql λg w tmps w' he=>by
 simp [execOp,(aM he hx).bK,(aM he hy).bK,eqGuard,binOp,Op.intCmp]
theorem XK {c:Int} (hc:k.wrap (a+b)=c):aK P env st ⟨d,.binOp .add t x y t2,ty,pos,after,gd⟩ (.d (.ex (.int k c))):=ql λg w tmps w' he=>by
 simp [execOp,(aM he hx).bK,(aM he hy).bK,eqGuard,binOp,Op.intArith,hc]
theorem XL {c:Int} (hc:k.wrap (a-b)=c):aK P env st ⟨d,.binOp .sub t x y t2,ty,pos,after,gd⟩ (.d (.ex (.int k c))):=ql λg w tmps w' he=>by
 simp [execOp,(aM he hx).bK,(aM he hy).bK,eqGuard,binOp,Op.intArith,hc]
end two
section shift
variable {k k':IntKind} {a b:Int} (hx:cP env x=some (.d (.ex (.int k a)))) (hy:cP env y=some (.d (.ex (.int k' b))))
include hx hy
theorem TB {c:Int} (hb:0<=b) (hc:a.fdiv (2 ^ (min b.toNat k.bits))=c):aK P env st ⟨d,.binOp .shr t x y t2,ty,pos,after,gd⟩ (.d (.ex (.int k c))):=ql λg w tmps w' he=>by
 have:¬ b<0:=by omega
 simp [execOp,(aM he hx).bK,(aM he hy).bK,eqGuard,binOp,Op.shift,this,hc]
end shift
section strings
variable {a b:List UInt8} (hx:cP env x=some (.d (.ex (.string ⟨a.toArray⟩)))) (hy:cP env y=some (.d (.ex (.string ⟨b.toArray⟩))))
include hx hy
theorem Un:aK P env st ⟨d,.binOp .eql t x y t2,ty,pos,after,gd⟩ (.d (.ex (.bool (a==b)))):=ql λg w tmps w' he=>by
 simp [execOp,(aM he hx).bK,(aM he hy).bK,eqGuard,binOp,Op.stringOp]
theorem Uo:aK P env st ⟨d,.binOp .neq t x y t2,ty,pos,after,gd⟩ (.d (.ex (.bool (a != b)))):=ql λg w tmps w' he=>by
 simp [execOp,(aM he hx).bK,(aM he hy).bK,eqGuard,binOp,Op.stringOp,bne]
end strings
theorem DY (ht:P.underlying t=some .bool) (a b:Bool) (n:Nat) (w:World):(Op.equalIn (n+1) t (.bool a) (.bool b)).run P w=.ok (a==b) w:=by
 simp [Op.equalIn,run_underlying ht]
section bools
variable {a b:Bool} (hx:cP env x=some (.d (.ex (.bool a))))
include hx
theorem XM:aK P env st ⟨d,.unOp .not t x,ty,pos,after,gd⟩ (.d (.ex (.bool (!a)))):=ql λg w tmps w' he=>by
 simp [execOp,(aM he hx).bK,Op.unary]
theorem Pw (ht:P.underlying t=some .bool) (hy:cP env y=some (.d (.ex (.bool b)))):aK P env st ⟨d,.binOp .eql t x y t2,ty,pos,after,gd⟩ (.d (.ex (.bool (a==b)))):=ql λg w tmps w' he=>by
 have h:=DY ht a b 9999 w';simp [execOp,(aM he hx).bK,(aM he hy).bK,eqGuard,binOp,Op.equal,Op.maxDepth,h]
theorem DZ (ht:P.underlying t=some .bool) (hy:cP env y=some (.d (.ex (.bool b)))):aK P env st ⟨d,.binOp .neq t x y t2,ty,pos,after,gd⟩ (.d (.ex (.bool (a != b)))):=ql λg w tmps w' he=>by
 have h:=DY ht a b 9999 w';simp [execOp,(aM he hx).bK,(aM he hy).bK,eqGuard,binOp,Op.equal,Op.maxDepth,h,bne]
theorem Oc {z:Operand} {b q:Bool} (hy:cP env y=some (.gd a (.d (.ex (.bool b))))) (hz:cP env z=some (.d (.ex (.bool q)))) :
  aK P env st ⟨d,.pick x y z,ty,pos,after,gd⟩ (.d (.ex (.bool (if a=true then b else q)))):=ql λg w tmps w' he=>by
 cases a with
 | false=>simp [execOp,(aM he hx).bK,(aM he hz).bK,asBool]
 | true =>
  have:=aM he hy;cases this with
  | gd _ _ _ h0 h=>simp [execOp,(aM he hx).bK,(h rfl).bK,asBool]
theorem Px {z:Operand} {b q:Bool} (hy:cP env y=some (.d (.ex (.bool q)))) (hz:cP env z=some (.gd (!a) (.d (.ex (.bool b))))) :
  aK P env st ⟨d,.pick x y z,ty,pos,after,gd⟩ (.d (.ex (.bool (if a=true then q else b)))):=ql λg w tmps w' he=>by
 cases a with
 | true=>simp [execOp,(aM he hx).bK,(aM he hy).bK,asBool]
 | false =>
  have:=aM he hz;cases this with
  | gd _ _ _ h0 h=>simp [execOp,(aM he hx).bK,(h rfl).bK,asBool]
end bools
theorem Hw {k k':IntKind} {n c:Int} (hs:P.underlying t=some (.int k)) (ht:P.underlying t2=some (.int k')) (hx:cP env x=some (.d (.ex (.int k n)))) (hc:k'.wrap n=c) :
  aK P env st ⟨d,.convert t t2 x,ty,pos,after,gd⟩ (.d (.ex (.int k' c))):=ql λg w tmps w' he=>by
 simp [execOp,(aM he hx).bK,convert,run_underlying hs,run_underlying ht,Conv.intToInt,hc]
theorem oN {a:List UInt8} (ht:P.underlying t=some .string) (hx:cP env x=some (.d (.ex (.string ⟨a.toArray⟩)))) :
  aK P env st ⟨d,.call ⟨.builtin .len,#[x],#[t]⟩,ty,pos,after,gd⟩ (.d (.ex (.int .i64 a.length))):=ql λg w tmps w' he=>by
 simp [execOp,(aM he hx).bK,resolve,invoke,builtin,Builtin.len_,run_underlying ht,goInt,ByteArray.size_mk']
theorem DB {e:TypeId} (ht:P.underlying t=some (.slice e)) {ρ:Operand->Value} {A:Option Addr} {n c:Nat} (hv:ρ x=.slice A n c) (w:World) :
  (execOp ρ ⟨d,.call ⟨.builtin .len,#[x],#[t]⟩,ty,pos,after,gd⟩).run P w=.ok (.value (.int .i64 n)) w:=by
 simp [execOp,hv,resolve,invoke,builtin,Builtin.len_,run_underlying ht,goInt]
theorem DC {lim:Nat->Nat} {w:World} {sz:Nat} {rows:List (List D)} {v:Value} (h:dw lim w (.sl sz rows) v):∃ A c,v=.slice A rows.length c:=by
 cases h with
 | nil _ A=>exact ⟨A,0,rfl⟩
 | sl _ _ b off cap=>exact ⟨_,_,rfl⟩
theorem Py {a:List UInt8} {k:IntKind} {i:Int} {c:UInt8} (ht:P.underlying t=some .string) (hx:cP env x=some (.d (.ex (.string ⟨a.toArray⟩)))) (hy:cP env y=some (.d (.ex (.int k i))))
  (h0:0<=i) (hc:a[i.toNat]?=some c):aK P env st ⟨d,.index t x y,ty,pos,after,gd⟩ (.d (.ex (.int .u8 (c.toNat:Int)))):=ql λg w tmps w' he=>by
 have hl:i.toNat<a.length:=(zad.1 hc).1;have hb:(⟨a.toArray⟩:ByteArray)[i.toNat]?=some c:=by
  rw [ByteArray.getElem?_lt' _ _ (by simpa [ByteArray.size] using hl)];have:=(zad.1 hc).2;simpa [ByteArray.getElem_eq_getElem_data] using this
 simp [execOp,(aM he hx).bK,(aM he hy).bK,Instr.index,asIntOf,run_underlying ht,h0,hb]
theorem BL {e:TypeId} {ρ:Operand->Value} {A:Addr} {n c:Nat} {k:IntKind} {i:Int} {inf:TypeInfo} (ht:P.underlying t=some (.slice e)) (hi:P.info? e=some inf)
  (hv:ρ x=.slice (some A) n c) (hy:ρ y=.int k i) (h0:0<=i) (hn:i<n) (w:World) :
  (execOp ρ ⟨d,.indexAddr t x y,ty,pos,after,gd⟩).run P w=.ok (.value (.pointer (some (A.add (i.toNat*inf.size))))) w:=by
 simp [execOp,hv,hy,Instr.indexAt,asIntOf,run_underlying ht,sizeOf,typeInfo,hi,h0,hn]
theorem XN {lim:Nat->Nat} {w:World} {sz:Nat} {rows:List (List D)} {v:Value} {n:Nat} {row:List D} (h:dw lim w (.sl sz rows) v) (hr:rows[n]?=some row) :
  ∃ b off c,v=.slice (some ⟨b,off,none⟩) rows.length c/\n<rows.length/\dw lim w (.ro row) (.pointer (some (Addr.add ⟨b,off,none⟩ (n*sz)))):=by
 cases h with
 | nil=>simp at hr
 | sl _ _ b off cap hc rn hx eR =>
  have hn:=(zad.1 hr).1;refine ⟨b,off,cap,rfl,hn,?_⟩;rw [Addr.add_lit];have hl:=rn row (zbh hr);refine .ro row b (off+n*sz) ?_ ?_
  ·intro j hj;have:=hx (n*sz+j) (Hu hn (by omega));rw [zch];exact this
  ·intro j c u hc hu;rw [zch] at hu;exact eR n j row c u hr hc hu
theorem Od (hd:∃ Lx,P.underlying t=some Lx/\(∀ fs,Lx≠.struct fs)/\(∀ n e,Lx≠.array n e)) (w:World):(isAgg t).run P w=.ok false w:=by
 obtain ⟨Lx,h,h1,h2⟩:=hd;simp only [isAgg,Sem.run_bind,run_underlying h,Result.andThen_ok];cases Lx <;> first|rfl|exact absurd rfl (h1 _)|exact absurd rfl (h2 _ _)
def kT:TypeDesc->Bool
 | .struct _|.array _ _=>false
 | _=>true
theorem u5 (h:(P.underlying t).map kT=some true) (w:World):(isAgg t).run P w=.ok false w:=by
 cases hd:P.underlying t with
 | none=>rw [hd] at h;simp at h
 | some Lx =>
  refine Od ⟨Lx,hd,?_,?_⟩ w
  ·intro fs e;subst e;rw [hd] at h;simp [kT] at h
  ·intro n e' e;subst e;rw [hd] at h;simp [kT] at h
theorem yg (h:(P.underlying t).map kT=some false) (w:World):(isAgg t).run P w=.ok true w:=by
 cases hd:P.underlying t with
 | none=>rw [hd] at h;simp at h
 | some Lx =>
  rw [hd] at h;cases Lx <;> simp [kT] at h <;> simp [isAgg,run_underlying hd]
theorem Up {cs:List D} {c:D} (h1:(P.underlying t).map kT=some true) (hx:cP env x=some (.d (.ro (c::cs)))):aK P env st ⟨d,.load t x,ty,pos,after,gd⟩ (.d c):=λg base w tmps hinv he=>by
 have h:=aM he hx;generalize hv:Act.eval ⟨tmps,[]⟩ x=v at h;cases h with
 | d _ _ h =>
  cases h with
  | ro _ b off jK hc =>
   obtain ⟨hl,u,hu,_⟩:=jK 0 (by simp);have u0:w.cell? ⟨b,off,none⟩=some u:=by simpa using hu
   refine ⟨u,.d _ _ (hc 0 c u rfl hu),λw' hb=>?_⟩;have hu'':w'.cell? ⟨b,off,none⟩=some u:=(hb.cell (World.block_lt_of_cell? w _ u0)).trans u0;simp [execOp,hv,Instr.loadAt,Instr.sureAddr,loadVar,u5 h1,hu'']
end q
theorem Inv.grow {g g':bT} {base:Nat} {w w':World} {st:St} (h:Inv g base w st) (hb:Below w.heap.size w w') (hl:∀ b,b<w.heap.size->g'.lim b=g.lim b) (ho:g'.ob=g.ob) (ht:g'.tk=g.tk) :
  Inv g' base w' st/\Step base g w st g' w' st:=by
 have hs:Step base g w st g' w' st:=by
  refine ⟨⟨⟨hb.size,λb ka=>by rw [hl b ka];exact zap _,λb off ka _=>hb.cell (p:=⟨b,off,none⟩) ka⟩,λ_ _=>by rw [ho],zap _,λt e sz n h=>⟨n,h,zap _,λ_=>by rw [ht]⟩,zap _,u4 λt x' bw _ h _=>⟨h,by rw [ht]⟩⟩,hb.mono h.base,λb ka=>hl b (zbk ka h.base),
   λb ka _=>⟨hb.block b ka,hl b ka⟩,λb _ hw=>by unfold ua at hw ⊢;rw [ho,ht] at hw;exact hw⟩
 have cE:∀ (b:Nat) (x:Obj),w.heap[b]?=some x->b<w.heap.size:=λb x hx=>(zaw.1 hx).1
 have Pz:∀ o x,st.aP[o]?=some (.raw x)->base<=g'.ob o/\g'.lim (g'.ob o)=0/\w'.heap[g'.ob o]?=some x:=by
  intro o x hx;obtain ⟨h1,h2,h3⟩:=h.raw o x hx;have kU:=cE _ _ h3;rw [ho];exact ⟨h1,by rw [hl _ kU];exact h2,by rw [hb.block _ kU];exact h3⟩
 refine ⟨⟨zdg h.base hb.size,?_,?_,Pz,?_,?_,?_,?_,h.C9.below hs.below,?_⟩,hs⟩
 ·intro o ty cs hx;obtain ⟨h1,h2,vs,h3,h4,h5⟩:=h.row o ty cs hx;have kU:=cE _ _ h3;rw [ho];refine ⟨h1,by rw [hl _ kU];exact h2,vs,by rw [hb.block _ kU];exact h3,h4,λi c u hc hu=>⟨(h5 i c u hc hu).1.mono hs.dy,(h5 i c u hc hu).2⟩⟩
 ·intro o es hx;obtain ⟨h1,ms,clock,h3,h4,h5,h6,h7⟩:=h.map o es hx;have kU:=cE _ _ h3;rw [ho];exact ⟨h1,ms,clock,by rw [hb.block _ kU];exact h3,h4,λi k x m a b=>⟨(h5 i k x m a b).1,(h5 i k x m a b).2.mono hs.dy⟩,h6,h7⟩
 ·rw [ho];exact h.ne
 ·intro t e sz n hx;obtain ⟨xs,h1,h2⟩:=h.tail t e sz n hx;rw [ht];refine ⟨xs,?_,λb ka=>?_⟩
  ·obtain ⟨k1,k2⟩:=h1;refine ⟨k1,?_⟩;rcases k2 with k2|⟨gb,cap,cur,e1,e2,e3,e4⟩
   ·exact .inl k2
   ·exact .inr ⟨gb,cap,cur,e1,e2,by rw [hb.block _ (cE _ _ e3)];exact e3,e4⟩
  ·rw [hl b (h1.lt b ka).2];exact h2 b ka
 ·rw [ht];exact h.nK
 ·rw [ht,ho];exact h.iv
 ·intro t e sz n rows hx;obtain ⟨xs,h1,h2,h3⟩:=h.own t e sz n rows hx;rw [ht];exact ⟨xs,e8 h1 λb ka=>hb.block b (h1.lt b ka).2,λb ka=>by rw [hl b (h1.lt b ka).2];exact h2 b ka,h3.mono hs.dy.cP⟩
def ub (g:bT) (w:World) (st:St) (args:List EV) (vs:Array Value):Prop :=
 vs.size=args.length/\∀ (i:Nat) x v,args[i]?=some x->vs[i]?=some v->bJ g w st x v
def aN (P:Program) (f:FuncId) (args:List EV) (st:St) (Q:EV->St->Prop):Prop :=
 ∀ g w base vs,Inv g base w st->ub g w st args vs->Calls P f vs w (nC ⟨g,w,st,base⟩ Q)
def CE (lim:Nat->Nat) (w:World) (args:List D) (vs:Array Value):Prop :=
 vs.size=args.length/\∀ (i:Nat) x v,args[i]?=some x->vs[i]?=some v->dw lim w x v
def aD (P:Program) (f:FuncId) (args:List D) (q:D->Prop):Prop :=
 ∀ lim w vs,xj w.heap.size w->CE lim w args vs->Calls P f vs w λe w'=>∃ v r dh,e=.returned v/\q r/\dw dh w' r v/\Lm lim w dh w'/\Below w.heap.size w w'/\∀ b,b<w.heap.size->dh b=lim b
theorem aN.mono {P:Program} {f:FuncId} {args:List EV} {st:St} {Q Q':EV->St->Prop} (h:aN P f args st Q) (hq:∀ x s,Q x s->Q' x s):aN P f args st Q' :=
 λg w base vs hi ha=>(h g w base vs hi ha).mono λe w' ⟨v,r,s,g',a,b,c⟩=>⟨v,r,s,g',a,hq r s b,c⟩
def zK:Nat->List EV->Env
 | _,[]=>[]
 | i,x::l=>(i,x)::zK (i+1) l
theorem uC:∀ (l:List EV) (i j:Nat) (y:EV),lookup j (zK i l)=some y->∃ k,j=i+k/\l[k]?=some y
 | [],i,j,y,h=>by simp [zK,lookup] at h
 | x::l,i,j,y,h=>by
  unfold zK lookup at h;cases hb:Nat.beq j i with
  | true =>
   rw [hb] at h;simp only [Option.some.injEq] at h;exact ⟨0,zau hb,by simp [h]⟩
  | false =>
   rw [hb] at h;obtain ⟨k,h1,h2⟩:=uC l (i+1) j y h;exact ⟨k+1,by omega,by simpa using h2⟩
section enter
variable {P:Program} {f:FuncId} {fn:Func} {c:Code} {N:Nat}
theorem aN.enter {args:List EV} {st:St} {Q:EV->St->Prop} (hf:P.funcs[f]?=some fn) (hb:fn.body=some c) (hN:fn.ntmps=N) (hl:Nat.ble args.length N=true)
  (h:∀ S:Start,S.st=st->bq P (.of f) N S Q [.code c] (zK 0 args) st):aN P f args st Q:=by
 intro g w base vs hi ha;have RW:=zaf hl;have fE:=ha.1;refine ep.calls hf hb ?_;refine h ⟨g,w,st,base⟩ rfl g w _ hi (rm.refl ⟨g,w,st,base⟩) ?_ (by simp [hN];omega);intro j y hy;obtain ⟨k,rfl,hk⟩:=uC args 0 j y hy;have MQ:=(zad.1 hk).1;refine ⟨vs[k]'(by omega),?_,ha.2 k y _ hk (by simp [fE,MQ])⟩;rw [zbr,zdh (by omega)];simp [fE,MQ]
def QD (q:D->Prop) (r:EV) (_:St):Prop:=∃ x,dX r (.d x)/\q x
theorem aD.of {args:List D} {q:D->Prop} (h:aN P f (args.map EV.d) ⟨[],[]⟩ (QD q)):aD P f args q:=by
 intro lim w vs PA ha;have hinv:Inv ⟨lim,λ_=>0,λ_=>.nilFunc⟩ w.heap.size w ⟨[],[]⟩ :=
  ⟨zap _,λo ty cs h=>by simp at h,λo es h=>by simp at h,λo x h=>by simp at h,λo o' _ ⟨x,h,_⟩=>by simp at h,λt e sz n h=>by simp at h,λt t' x x' b _ h=>by simp at h,λt x o h=>by simp at h,PA,λt e sz n rows h=>by simp at h⟩
 refine (h _ w w.heap.size vs hinv ⟨by simpa using ha.1,λi x v hx hv=>?_⟩).mono ?_
 ·rw [zbc] at hx;cases hy:args[i]? with
  | none=>rw [hy] at hx;simp at hx
  | some y =>
   rw [hy] at hx;simp only [Option.map_some,Option.some.injEq] at hx;subst hx;exact .d _ _ (ha.2 i y v hy hv)
 ·rintro e w' ⟨v,r,st',g',rfl,⟨x,hle,hq⟩,hr,hi',hh⟩;cases hle _ _ _ _ hr with
  | d _ _ hd=>exact ⟨v,x,g'.lim,rfl,hq,hd,hh.dy.cP,hh.below,hh.lim⟩
end enter
def BM (env:Env):List Operand->Option (List EV)
 | []=>some []
 | x::l=>match cP env x,BM env l with
  | some e,some r=>some (e::r)
  | _,_=>none
theorem u6 {g:bT} {w:World} {st:St} {env:Env} {tmps:Array Value} (h:dO g w st env tmps):∀ (l:List Operand) (es:List EV),BM env l=some es ->
  l.length=es.length/\∀ (i:Nat) e v,es[i]?=some e->(l.map (Act.eval ⟨tmps,[]⟩))[i]?=some v->bJ g w st e v
 | [],es,hx=>by simp [BM] at hx;subst hx;simp
 | x::l,es,hx=>by
  unfold BM at hx;split at hx
  ·rename_i e r h1 h2;simp only [Option.some.injEq] at hx;subst hx;obtain ⟨k1,k2⟩:=u6 h l r h2;refine ⟨by simp [k1],λi e' v he hv=>?_⟩;cases i with
   | zero =>
    simp at he hv;subst he;subst hv;exact aM h h1
   | succ i=>exact k2 i e' v (by simpa using he) (by simpa using hv)
  ·cases hx
def toD:EV->Option D
 | .d x=>some x
 | .cz sz rows _=>some (.sl sz rows)
 | _=>none
theorem Uq {e:EV} {x:D} (h:toD e=some x):dX e (.d x):=by
 cases e <;> simp [toD] at h
 ·subst h;exact .ak _
 ·subst h;exact .cz _ _ _
def Ly:List EV->Option (List D)
 | []=>some []
 | e::l=>match toD e,Ly l with
  | some x,some r=>some (x::r)
  | _,_=>none
theorem Jv:∀ (es:List EV) (ds:List D),Ly es=some ds->es.length=ds.length/\∀ (i:Nat) d,ds[i]?=some d->∃ e,es[i]?=some e/\dX e (.d d)
 | [],ds,h=>by simp [Ly] at h;subst h;simp
 | e::l,ds,h=>by
  unfold Ly at h;split at h
  ·rename_i x r h1 h2;simp only [Option.some.injEq] at h;subst h;obtain ⟨k1,k2⟩:=Jv l r h2;refine ⟨by simp [k1],λi d hd=>?_⟩;cases i with
   | zero=>simp at hd;subst hd;exact ⟨e,rfl,Uq h1⟩
   | succ i=>simpa using k2 i d (by simpa using hd)
  ·cases h
section call
variable {P:Program} {f:Ctx} {N:Nat} {S:Start} {Q:EV->St->Prop} {k:List Item} {env:Env} {st:St} {ops rest:List Oper}
 {d:Option Tmp} {ty:TypeId} {pos:String} {after:Array Edge}
def Enters (P:Program) (f:FuncId):Prop:=∃ fn,P.funcs[f]?=some fn/\(fn.name == "runtime.NumGoroutine")=false/\fn.body.isNone=false
theorem vU {f':FuncId} (h:Enters P f') (args:Array Value) (w:World):(callFunc f' args).run P w=.ok (.enter f' args) w:=by
 obtain ⟨fn,h1,h2,h3⟩:=h;have BN:fn.name ≠ "runtime.NumGoroutine" := by simpa using h2
 have h3':fn.body≠none:=by intro e;rw [e] at h3;cases h3
 simp [callFunc,h1,BN,h3']
theorem BO {f':FuncId} {l:List Operand} {ts:Array TypeId} {ρ:Operand->Value} (h:Enters P f') (w:World) (hf:ρ (.func f')=.func (.func f') #[] #[]) {gd:Option (Nat×Bool)} :
  (execOp ρ ⟨d,.call ⟨.value (.func f'),l.toArray,ts⟩,ty,pos,after,gd⟩).run P w=.ok (.enter f' (l.map ρ).toArray) w:=by
 simp [execOp,resolve,hf,Deferred.ofValue,invoke,vU h]
theorem GC {f':FuncId} {l:List Operand} {ts:Array TypeId} {ρ:Operand->Value} {x:Operand} {vs:Array Value} (h:Enters P f') (w:World) (hf:ρ x=.func (.func f') #[] vs) {gd:Option (Nat×Bool)} :
  (execOp ρ ⟨d,.call ⟨.value x,l.toArray,ts⟩,ty,pos,after,gd⟩).run P w=.ok (.enter f' ((l.map ρ).toArray++vs)) w:=by
 simp [execOp,resolve,hf,Deferred.ofValue,invoke,vU h]
theorem CE.of {g:bT} {w:World} {tmps:Array Value} {l:List Operand} {es:List EV} {ds:List D} (he:dO g w st env tmps) (h1:BM env l=some es) (h2:Ly es=some ds) :
  CE g.lim w ds (l.map (Act.eval ⟨tmps,[]⟩)).toArray:=by
 obtain ⟨k1,k2⟩:=u6 he l es h1;obtain ⟨m1,m2⟩:=Jv es ds h2;refine ⟨by simp [k1,m1],λi x v hx hv=>?_⟩;obtain ⟨e,Aw,hle⟩:=m2 i x hx;cases hle _ _ _ _ (k2 i e v Aw (by simpa using hv)) with
 | d _ _ h=>exact h
theorem cd.XO {f':FuncId} {l:List Operand} {ts:Array TypeId} {es:List EV} {q:EV->St->Prop} (Da:Enters P f') (hd:fV N d=true) (h1:BM env l=some es)
  (hc:aN P f' es st q) (hk:∀ x st',q x st'->cd P f N S Q ops rest k (env.put d x) st') :
  cd P f N S Q ops (⟨d,.call ⟨.value (.func f'),l.toArray,ts⟩,ty,pos,after,none⟩::rest) k env st:=by
 intro i hi g w tmps hinv hh he hn;have ho:ops.toArray[i]?=some ⟨d,.call ⟨.value (.func f'),l.toArray,ts⟩,ty,pos,after,none⟩:=by simpa using (hi 0).symm
 rw [zag,iw];refine ep.call ho (by simp [Region.wanted]) (BO Da w rfl) ?_;obtain ⟨k1,k2⟩:=u6 he l es h1;refine (hc g w S.base _ hinv ⟨by simp [k1],λj x v hx hv=>k2 j x v hx (by simpa using hv)⟩).mono ?_;rintro e w' ⟨v,r,st',g',rfl,hq,hr,dR,LA⟩;have hs:Step S.base g w st g' w' st':=LA.toStep;subst hn;exact ⟨v,rfl,hk r st' hq (i+1) (λj=>by have:=hi (j+1);simpa [zch,zdd 1 j] using this) g' w' _ dR (hh.step hs) (qk (he.mono hs.dy) hd hr) ia⟩
theorem cd.AB {f':FuncId} {l:List Operand} {ts:Array TypeId} {es cs:List EV} {x:Operand} {q:EV->St->Prop} (Da:Enters P f') (hd:fV N d=true) (hx:cP env x=some (.vR f' cs)) (h1:BM env l=some es)
  (hc:aN P f' (es++cs) st q) (hk:∀ x st',q x st'->cd P f N S Q ops rest k (env.put d x) st') :
  cd P f N S Q ops (⟨d,.call ⟨.value x,l.toArray,ts⟩,ty,pos,after,none⟩::rest) k env st:=by
 intro i hi g w tmps hinv hh he hn;have ho:ops.toArray[i]?=some ⟨d,.call ⟨.value x,l.toArray,ts⟩,ty,pos,after,none⟩:=by simpa using (hi 0).symm
 rw [zag,iw];have hfx:=aM he hx;generalize Jw:Act.eval ⟨tmps,[]⟩ x=val at hfx;cases hfx with
 | vR _ _ vs Db rp =>
 refine ep.call ho (by simp [Region.wanted]) (GC Da w Jw) ?_;obtain ⟨k1,k2⟩:=u6 he l es h1;have harg:ub g w st (es++cs) ((l.map (Act.eval ⟨tmps,[]⟩)).toArray++vs):=by
  refine ⟨by simp [k1,Db],λj y v hy hv=>?_⟩;by_cases hj:j<es.length
  ·rw [zan hj] at hy;rw [zdh (by simpa [k1] using hj)] at hv;exact k2 j y v hy (by simpa using hv)
  ·rw [zav (by omega)] at hy;rw [Array.getElem?_append_right (by simp [k1];omega)] at hv;exact rp (j-es.length) y v hy (by simpa [k1] using hv)
 refine (hc g w S.base _ hinv harg).mono ?_;rintro e w' ⟨v,r,st',g',rfl,hq,hr,dR,LA⟩;have hs:Step S.base g w st g' w' st':=LA.toStep;subst hn;exact ⟨v,rfl,hk r st' hq (i+1) (λj=>by have:=hi (j+1);simpa [zch,zdd 1 j] using this) g' w' _ dR (hh.step hs) (qk (he.mono hs.dy) hd hr) ia⟩
end call
def St.set (st:St) (o:Nat) (x:dI):St:=⟨st.aP.set o x,st.ar⟩
def St.add (st:St) (x:dI):St:=⟨st.aP++[x],st.ar⟩
def St.tok (st:St) (x:gD):St:=⟨st.aP,st.ar++[x]⟩
def St.bC (st:St) (t:Nat) (x:gD):St:=⟨st.aP,st.ar.set t x⟩
theorem FN {lim dh:Nat->Nat} {w w':World} (hs:w.heap.size<=w'.heap.size) (h:∀ b,b<w.heap.size->lim b<=dh b/\(lim b=0∨w'.heap[b]?=w.heap[b]?)):Lm lim w dh w' :=
 ⟨hs,λb hb=>(h b hb).1,λb off hb ho=>by
  rcases (h b hb).2 with h2|h2
  ·omega
  ·exact World.cell?_of_block (w:=w) (a:=⟨b,off,none⟩) h2⟩
section inv
variable {g:bT} {base:Nat} {w:World} {st:St}
theorem Inv.vV (h:Inv g base w st) {o:Nat} (hl:st.live o):g.ob o<w.heap.size/\base<=g.ob o:=by
 obtain ⟨x,hx,eT⟩:=hl;cases x with
 | row ty cs =>
  obtain ⟨h1,h2,vs,h3,_⟩:=h.row o ty cs hx;exact ⟨(zaw.1 h3).1,h1⟩
 | map es =>
  obtain ⟨h1,ms,c,h3,_⟩:=h.map o es hx;exact ⟨(zaw.1 h3).1,h1⟩
 | raw y =>
  obtain ⟨h1,_,h3⟩:=h.raw o y hx;exact ⟨(zaw.1 h3).1,h1⟩
 | gone=>exact absurd rfl eT
theorem rq {st:St} {o o':Nat} {x:dI} (ho:st.live o) (h:(st.set o x).live o'):st.live o':=by
 obtain ⟨y,hy,eT⟩:=h;simp only [St.set,zbj] at hy;split at hy
 ·rename_i e;subst e;exact ho
 ·exact ⟨y,hy,eT⟩
theorem Inv.setBlock (h:Inv g base w st) {o:Nat} (hl:st.live o) {w':World} {x:dI} (zL:g.lim (g.ob o)=0) (fE:w'.heap.size=w.heap.size) (tU:∀ b,b≠g.ob o->w'.heap[b]?=w.heap[b]?)
  (MR:w'.os=w.os) (htp:w'.tape=w.tape) (Ur:w'.output=w.output)
  (rn:uB g w st g w' (st.set o x)->∀ ty cs,x=.row ty cs->∃ vs:Array Value,w'.heap[g.ob o]?=some (.cells vs ty (0,0))/\vs.size=cs.length/\∀ (i:Nat) c u,cs[i]?=some c->vs[i]?=some u->bJ g w' (st.set o x) c u/\u.oneCell'=true)
  (PB:uB g w st g w' (st.set o x)->∀ es,x=.map es->∃ (ms:Array MapEntry) (clock:Nat),w'.heap[g.ob o]?=some (.map ms clock)/\ms.size=es.length /\
   (∀ (i:Nat) k y (m:MapEntry),es[i]?=some (k,y)->ms[i]?=some m->m.key=k/\bJ g w' (st.set o x) y m.val) /\
   (∀ (i:Nat) (m:MapEntry),ms[i]?=some m->m.born<clock) /\
   (∀ (i j:Nat) (m m':MapEntry),ms[i]?=some m->ms[j]?=some m'->m.born=m'.born->i=j))
  (Pz:∀ y,x=.raw y->w'.heap[g.ob o]?=some y:=by (intro y hy;cases hy)) :
  Inv g base w' (st.set o x)/\Step base g w st g w' (st.set o x):=by
 obtain ⟨cE,kb⟩:=h.vV hl;have nf:Below base w w':=⟨MR,htp,Ur,by omega,λk hk=>tU k (by omega)⟩;have hs:uB g w st g w' (st.set o x):=by
  refine ⟨FN (by omega) (λb hb=>⟨zap _,?_⟩),λ_ _=>rfl,by simp [St.set],λt e sz n ht=>⟨n,ht,zap _,λ_=>rfl⟩,zap _,u4 λ_ _ _ _ h _=>⟨h,rfl⟩⟩;by_cases ka:b=g.ob o
  ·subst ka;exact .inl zL
  ·exact .inr (tU b ka)
 have Us:o<st.aP.length:=by obtain ⟨y,hy,_⟩:=hl;exact (zad.1 hy).1
 have gX:∀ o' y,o'≠o->(st.set o x).aP[o']?=some y->st.aP[o']?=some y:=by
  intro o' y eT hy;simpa [St.set,zbj,zcf eT] using hy
 have RX:∀ o' y,(st.set o x).aP[o']?=some (.raw y)->base<=g.ob o'/\g.lim (g.ob o')=0/\w'.heap[g.ob o']?=some y:=by
  intro o' y hx;by_cases ho:o'=o
  ·subst ho;have jK:x=.raw y:=by simpa [St.set,zbj,Us] using hx
   exact ⟨kb,zL,Pz y jK⟩
  ·have hy:=gX o' _ ho hx;obtain ⟨h1,h2,h3⟩:=h.raw o' y hy;have eT:=h.ne o' o ho ⟨_,hy,by simp⟩ hl;exact ⟨h1,h2,by rw [tU _ eT];exact h3⟩
 refine ⟨⟨by rw [fE];exact h.base,?_,?_,RX,?_,?_,?_,?_,h.C9.below nf,?_⟩,⟨hs,nf,λ_ _=>rfl,λb _ hn=>⟨tU b (λe=>hn (.inl ⟨o,hl,e.symm⟩)),rfl⟩,λb _ hw=>by
  rcases hw with ⟨o',h1,h2⟩|h1
  ·exact .inl ⟨o',rq hl h1,h2⟩
  ·exact .inr h1⟩⟩
 ·intro o' ty cs hx;by_cases ho:o'=o
  ·subst ho;have jK:x=.row ty cs:=by simpa [St.set,zbj,Us] using hx
   obtain ⟨vs,h1,h2,h3⟩:=rn hs ty cs jK;exact ⟨kb,zL,vs,h1,h2,h3⟩
  ·have hy:=gX o' _ ho hx;obtain ⟨h1,h2,vs,h3,h4,h5⟩:=h.row o' ty cs hy;have eT:=h.ne o' o ho ⟨_,hy,by simp⟩ hl;exact ⟨h1,h2,vs,by rw [tU _ eT];exact h3,h4,λi c u hc hu=>⟨(h5 i c u hc hu).1.mono hs,(h5 i c u hc hu).2⟩⟩
 ·intro o' es hx;by_cases ho:o'=o
  ·subst ho;have jK:x=.map es:=by simpa [St.set,zbj,Us] using hx
   obtain ⟨ms,c,h1,h2,h3⟩:=PB hs es jK;exact ⟨kb,ms,c,h1,h2,h3⟩
  ·have hy:=gX o' _ ho hx;obtain ⟨h1,ms,c,h3,h4,h5,h6⟩:=h.map o' es hy;have eT:=h.ne o' o ho ⟨_,hy,by simp⟩ hl;exact ⟨h1,ms,c,by rw [tU _ eT];exact h3,h4,λi k y m a b=>⟨(h5 i k y m a b).1,(h5 i k y m a b).2.mono hs⟩,h6⟩
 ·exact λo1 o2 eT h1 h2=>h.ne o1 o2 eT (rq hl h1) (rq hl h2)
 ·intro t e sz n ht;obtain ⟨xs,h1,h2⟩:=h.tail t e sz n ht;refine ⟨xs,?_,h2⟩;obtain ⟨k1,k2⟩:=h1;refine ⟨k1,?_⟩;rcases k2 with k2|⟨gb,cap,cur,e1,e2,e3,e4⟩
  ·exact .inl k2
  ·refine .inr ⟨gb,cap,cur,e1,e2,?_,e4⟩;rw [tU gb ?_]
   ·exact e3
   ·intro hgb;subst hgb;exact h.iv t _ o ht hl (by rw [e1];rfl)
 ·exact h.nK
 ·exact λt x' o' ht RW=>h.iv t x' o' ht (rq hl RW)
 ·intro t e sz n rows ht;obtain ⟨xs,h1,h2,h3⟩:=h.own t e sz n rows ht;exact ⟨xs,e8 h1 λb ka=>tU b λhgb=>h.iv t _ o ht hl (by rw [ka,hgb]),h2,h3.mono hs.cP⟩
theorem Inv.newObj (h:Inv g base w st) (x:dI) (b:Obj)
  (rn:∀ ty cs,x=.row ty cs->∃ vs:Array Value,b=.cells vs ty (0,0)/\vs.size=cs.length/\∀ (i:Nat) c u,cs[i]?=some c->vs[i]?=some u->bJ g w st c u/\u.oneCell'=true)
  (PB:∀ es,x=.map es->es=[]/\b=.map #[] 0)
  (Pz:∀ y,x=.raw y->b=y:=by (intro y hy;cases hy)) :
  ∃ g',Inv g' base (w.alloc b) (st.add x)/\Step base g w st g' (w.alloc b) (st.add x)/\g'.ob st.aP.length=w.heap.size:=by
 let g':bT:=⟨λk=>if k=w.heap.size then 0 else g.lim k,λo=>if o=st.aP.length then w.heap.size else g.ob o,g.tk⟩
 have nf:Below w.heap.size w (w.alloc b):=(Below.refl _ w).alloc (zap _) b;have zM:∀ k,k<w.heap.size->g'.lim k=g.lim k:=λk hk=>by show (if k=w.heap.size then 0 else g.lim k)=_;rw [zaa (by omega)]
 have zf:∀ o,o<st.aP.length->g'.ob o=g.ob o:=λo ho=>by show (if o=st.aP.length then _ else g.ob o)=_;rw [zaa (by omega)]
 have xm:g'.ob st.aP.length=w.heap.size:=by show (if _=st.aP.length then _ else _)=_;rw [zab rfl]
 have hs:uB g w st g' (w.alloc b) (st.add x):=by
  refine ⟨⟨by simp,λk hk=>by rw [zM k hk];exact zap _,λk off hk _=>nf.cell (p:=⟨k,off,none⟩) hk⟩,zf,by simp [St.add],λt e sz n ht=>⟨n,ht,zap _,λ_=>rfl⟩,zap _,u4 λ_ _ _ _ h _=>⟨h,rfl⟩⟩
 have hold:∀ o y,o<st.aP.length->(st.add x).aP[o]?=some y->st.aP[o]?=some y:=by
  intro o y ho hy;simpa [St.add,zan ho] using hy
 have s6:∀ o y,(st.add x).aP[o]?=some y->¬ o<st.aP.length->o=st.aP.length/\y=x:=by
  intro o y hy ho;have cE:=(zad.1 hy).1;simp [St.add] at cE;have:o=st.aP.length:=by omega
  subst this;simpa [St.add,zeq] using hy
 have u7:∀ o,o<st.aP.length->(st.add x).live o->st.live o:=λo ho ⟨y,hy,eT⟩=>⟨y,hold o y ho hy,eT⟩
 have Jx:(w.alloc b).heap[w.heap.size]?=some b:=heap_alloc_new w b;have RX:∀ o y,(st.add x).aP[o]?=some (.raw y)->base<=g'.ob o/\g'.lim (g'.ob o)=0/\(w.alloc b).heap[g'.ob o]?=some y:=by
  intro o y hx;by_cases ho:o<st.aP.length
  ·obtain ⟨h1,h2,h3⟩:=h.raw o y (hold o _ ho hx);have cE:=(zaw.1 h3).1;rw [zf o ho,zM _ cE,nf.block _ cE];exact ⟨h1,h2,h3⟩
  ·obtain ⟨rfl,XP⟩:=s6 o _ hx ho;rw [xm];exact ⟨h.base,by show (if w.heap.size=w.heap.size then 0 else _)=0;rw [zab rfl],by rw [Jx,Pz y XP.symm]⟩
 refine ⟨g',⟨⟨by have:=h.base;simp;omega,?_,?_,RX,?_,?_,?_,?_,h.C9.below (nf.mono h.base),?_⟩,⟨hs,nf.mono h.base,λk hk=>zM k (zbk hk h.base),λk hk _=>⟨nf.block k hk,zM k hk⟩,λk hk hw=>by
  rcases hw with ⟨o,h1,h2⟩|h1
  ·by_cases ho:o<st.aP.length
   ·exact .inl ⟨o,u7 o ho h1,by rw [←zf o ho];exact h2⟩
   ·obtain ⟨y,hy,_⟩:=h1;obtain ⟨rfl,_⟩:=s6 o _ hy ho;rw [xm] at h2;omega
  ·exact .inr h1⟩,xm⟩⟩
 ·intro o ty cs hx;by_cases ho:o<st.aP.length
  ·obtain ⟨h1,h2,vs,h3,h4,h5⟩:=h.row o ty cs (hold o _ ho hx);have cE:=(zaw.1 h3).1;rw [zf o ho,zM _ cE,nf.block _ cE];exact ⟨h1,h2,vs,h3,h4,λi c u hc hu=>⟨(h5 i c u hc hu).1.mono hs,(h5 i c u hc hu).2⟩⟩
  ·obtain ⟨rfl,XP⟩:=s6 o _ hx ho;obtain ⟨vs,h1,h2,h3⟩:=rn ty cs XP.symm;rw [xm];refine ⟨h.base,by show (if w.heap.size=w.heap.size then 0 else _)=0;rw [zab rfl],vs,by rw [Jx,h1],h2,λi c u hc hu=>⟨(h3 i c u hc hu).1.mono hs,(h3 i c u hc hu).2⟩⟩
 ·intro o es hx;by_cases ho:o<st.aP.length
  ·obtain ⟨h1,ms,c,h3,h4,h5,h6⟩:=h.map o es (hold o _ ho hx);have cE:=(zaw.1 h3).1;rw [zf o ho,nf.block _ cE];exact ⟨h1,ms,c,h3,h4,λi k y m a b=>⟨(h5 i k y m a b).1,(h5 i k y m a b).2.mono hs⟩,h6⟩
  ·obtain ⟨rfl,XP⟩:=s6 o _ hx ho;obtain ⟨rfl,h2⟩:=PB es XP.symm;rw [xm];exact ⟨h.base,#[],0,by rw [Jx,h2],rfl,λi k y m a _=>by simp at a,λi m a=>by simp at a,λi j m m' a=>by simp at a⟩
 ·intro o1 o2 eT h1 h2;by_cases FE:o1<st.aP.length <;> by_cases Oe:o2<st.aP.length
  ·rw [zf o1 FE,zf o2 Oe];exact h.ne o1 o2 eT (u7 o1 FE h1) (u7 o2 Oe h2)
  ·obtain ⟨y,hy,_⟩:=h2;obtain ⟨rfl,_⟩:=s6 o2 _ hy Oe;rw [zf o1 FE,xm];have:=(h.vV (u7 o1 FE h1)).1;omega
  ·obtain ⟨y,hy,_⟩:=h1;obtain ⟨rfl,_⟩:=s6 o1 _ hy FE;rw [zf o2 Oe,xm];have:=(h.vV (u7 o2 Oe h2)).1;omega
  ·obtain ⟨y,hy,_⟩:=h1;obtain ⟨y',Jl,_⟩:=h2;exact absurd ((s6 o1 _ hy FE).1.trans (s6 o2 _ Jl Oe).1.symm) eT
 ·intro t e sz n ht;obtain ⟨xs,h1,h2⟩:=h.tail t e sz n ht;exact ⟨xs,h1.alloc b,λk hk=>by rw [zM k (h1.lt k hk).2];exact h2 k hk⟩
 ·exact h.nK
 ·intro t x' o ht hl;by_cases ho:o<st.aP.length
  ·rw [zf o ho];exact h.iv t x' o ht (u7 o ho hl)
  ·obtain ⟨y,hy,_⟩:=hl;obtain ⟨rfl,_⟩:=s6 o _ hy ho;rw [xm];intro hk;have:=(h.vT ht hk).2;omega
 ·intro t e sz n rows ht;obtain ⟨xs,h1,h2,h3⟩:=h.own t e sz n rows ht;exact ⟨xs,h1.alloc b,λk hk=>by rw [zM k (h1.lt k hk).2];exact h2 k hk,h3.mono hs.cP⟩
end inv
def fG (P:Program) (s:TypeId) (f:Nat):Option Nat :=
 match P.underlying s with
 | some (.struct fs)=>match fs[f]? with
  | some fl=>match P.info? fl.type with
   | some i=>if i.size=0 then none else some fl.offset
   | none=>none
  | none=>none
 | _=>none
theorem s7 {P:Program} {s:TypeId} {f off:Nat} (h:fG P s f=some off) (a:Addr) (w:World):(Instr.fieldAt s (.pointer (some a)) f).run P w=.ok (.pointer (some (a.add off))) w:=by
 unfold fG at h;split at h
 ·rename_i fs hu;split at h
  ·rename_i fl hf;split at h
   ·rename_i i hi;split at h
    ·cases h
    ·rename_i fE;simp only [Option.some.injEq] at h;subst h;simp [Instr.fieldAt,run_underlying hu,hf,Instr.sureAddr,fieldPlace,sizeOf,typeInfo,hi,fE]
   ·cases h
  ·cases h
 ·cases h
def Of:List EV->Option (List D)
 | []=>some []
 | .d x::l=>match Of l with
  | some r=>some (x::r)
  | none=>none
 | _::_=>none
theorem Jy:∀ {l:List EV} {ds:List D},Of l=some ds->l=ds.map EV.d
 | [],ds,h=>by simp [Of] at h;subst h;rfl
 | .d x::l,ds,h=>by
  unfold Of at h;split at h
  ·rename_i r hr;simp only [Option.some.injEq] at h;subst h;rw [Jy hr];rfl
  ·cases h
 | .ref _ _::l,ds,h=>by cases h
 | .Jk _ _ _ _::l,ds,h=>by cases h
 | .cz _ _ _::l,ds,h=>by cases h
 | .mp _::l,ds,h=>by cases h
 | .vR _ _::l,ds,h=>by cases h
 | .agg _::l,ds,h=>by cases h
 | .dV _::l,ds,h=>by cases h
 | .gd _ _::l,ds,h=>by cases h
def CF:EV->Bool->Option Bool
 | .d (.ex (.bool b)),true=>some b
 | .d (.ex (.bool b)),false=>some (!b)
 | .gd c (.d (.ex (.bool b))),true=>some (c && b)
 | .gd c (.d (.ex (.bool b))),false=>some (c && !b)
 | _,_=>none
def Ut:Value->Option Bool
 | .bool c=>some c
 | _=>none
theorem sU {g:bT} {w:World} {st:St} {e:EV} {want b:Bool} {v:Value} (h:CF e want=some b) (hv:bJ g w st e v):(Ut v==some want)=b:=by
 unfold CF at h;split at h
 ·cases h;rw [hv.bK];cases b <;> rfl
 ·rename_i c;cases h;rw [hv.bK];cases c <;> rfl
 ·rename_i c c';cases h;cases hv with
  | gd _ _ _ h0 h1 =>
   cases c with
   | false=>rw [h0 rfl];rfl
   | true=>rw [(h1 rfl).bK];cases c' <;> rfl
 ·rename_i c c';cases h;cases hv with
  | gd _ _ _ h0 h1 =>
   cases c with
   | false=>rw [h0 rfl];rfl
   | true=>rw [(h1 rfl).bK];cases c' <;> rfl
 ·cases h
def zg (b:Bool) (env:Env):Env->Prop
 | []=>True
 | (i,y)::t=>(lookup i env=some y∨lookup i env=some (.gd b y)∨∃ a z,y=.gd a z/\lookup i env=some (.gd (b && a) z))/\zg b env t
theorem zg.get {b:Bool} {env:Env}:∀ {env':Env},zg b env env'->∀ i y,lookup i env'=some y->lookup i env=some y∨lookup i env=some (.gd b y)∨∃ a z,y=.gd a z/\lookup i env=some (.gd (b && a) z)
 | [],_,i,y,h=>by simp [lookup] at h
 | (j,z)::t,⟨hh,ht⟩,i,y,h=>by
  unfold lookup at h;cases hb:Nat.beq i j with
  | true =>
   rw [hb] at h;simp only [Option.some.injEq] at h;have:=zau hb;subst this;subst h;exact hh
  | false =>
   rw [hb] at h;exact ht.get i y h
theorem dO.gd {g:bT} {w:World} {st:St} {env env':Env} {tmps:Array Value} {b:Bool} (h:dO g w st env tmps) (hg:zg b env env') (hb:b=true):dO g w st env' tmps:=by
 intro i y hy;rcases hg.get i y hy with h1|h1|⟨a,z,rfl,h1⟩
 ·exact h i y h1
 ·obtain ⟨v,h2,h3⟩:=h i _ h1;cases h3 with
  | gd _ _ _ _ h4=>exact ⟨v,h2,h4 hb⟩
 ·obtain ⟨v,h2,h3⟩:=h i _ h1;rw [hb,zcn] at h3;exact ⟨v,h2,h3⟩
section guard
variable {P:Program} {f:Ctx} {N:Nat} {S:Start} {Q:EV->St->Prop} {k:List Item} {env:Env} {st:St} {ops rest:List Oper}
theorem cd.guard {d t:Tmp} {op:Op} {ty:TypeId} {pos:String} {after:Array Edge} {j:Nat} {want b:Bool} {c x:EV} {env':Env} (hj:(ops[j]?).bind (·.dst)=some t) (hl:lookup t env=some c) (hc:CF c want=some b)
  (hE:zg b env env') (hd:fV N (some d)=true) (h:b=true->aK P env' st ⟨some d,op,ty,pos,after,some (j,want)⟩ x) (hk:cd P f N S Q ops rest k ((d,.gd b x)::env) st) :
  cd P f N S Q ops (⟨some d,op,ty,pos,after,some (j,want)⟩::rest) k env st:=by
 intro i hi g w tmps hinv hh he hn;have ho:ops.toArray[i]?=some ⟨some d,op,ty,pos,after,some (j,want)⟩:=by simpa using (hi 0).symm
 obtain ⟨v,hv,hr⟩:=he t c hl;have hw:Region.wanted ⟨some d,op,ty,pos,after,some (j,want)⟩ (yielded ops.toArray tmps)=b:=by
  rw [←sU hc hr];have Jm:((ops.toArray)[j]?).bind (·.dst)=some t:=by simpa using hj
  simp only [Region.wanted,yielded,Jm,zac,hv];cases v <;> rfl
 rw [zag,iw];subst hn;have hi':∀ j:Nat,rest[j]?=ops[i+1+j]?:=λj=>by have:=hi (j+1);simpa [zch,zdd 1 j] using this
 cases b with
 | false=>exact ep.xk ho hw (hk (i+1) hi' g w _ hinv hh (qk (d:=some d) he hd (.gd _ _ _ (λ_=>rfl) (λh=>by cases h))) ia)
 | true =>
  obtain ⟨u,h1,h2⟩:=h rfl g S.base w tmps hinv (he.gd hE rfl);exact ep.value ho hw (h2 w (.refl _ _)) (hk (i+1) hi' g w _ hinv hh (qk (d:=some d) he hd (.gd _ _ _ (λh=>by cases h) (λ_=>h1))) ia)
theorem cd.q {d:Option Tmp} {op:Op} {ty:TypeId} {pos:String} {after:Array Edge} {x:EV} (h:aK P env st ⟨d,op,ty,pos,after,none⟩ x) (hd:fV N d=true) (hk:cd P f N S Q ops rest k (env.put d x) st) :
  cd P f N S Q ops (⟨d,op,ty,pos,after,none⟩::rest) k env st:=.op rfl hd h.v hk
theorem cd.v {d:Option Tmp} {op:Op} {ty:TypeId} {pos:String} {after:Array Edge} {x:EV} {st':St} (h:xl P S.base env st ⟨d,op,ty,pos,after,none⟩ x st') (hd:fV N d=true) (hk:cd P f N S Q ops rest k (env.put d x) st') :
  cd P f N S Q ops (⟨d,op,ty,pos,after,none⟩::rest) k env st:=.op rfl hd h hk
theorem cd.u {d:Option Tmp} {op:Op} {ty:TypeId} {pos:String} {after:Array Edge} {st':St} (h:Hv P S.base env st ⟨d,op,ty,pos,after,none⟩ st') (hd:fV N d=true) (hk:cd P f N S Q ops rest k (env.put d (.d .any)) st') :
  cd P f N S Q ops (⟨d,op,ty,pos,after,none⟩::rest) k env st:=.opU rfl hd h hk
theorem cd.sub {env':Env} (hs:cZ env env') (h:cd P f N S Q ops rest k env' st):cd P f N S Q ops rest k env st:=λi hi=>.sub hs (h i hi)
end guard
section q
variable {P:Program} {env:Env} {st:St} {d:Option Tmp} {ty:TypeId} {pos:String} {after:Array Edge} {gd:Option (Nat×Bool)} {t t2:TypeId} {x y:Operand}
theorem Sb {lim:Nat->Nat} {w:World} {cs:List D} {b off n:Nat} (h:dw lim w (.ro cs) (.pointer (some ⟨b,off,none⟩))):dw lim w (.ro (cs.drop n)) (.pointer (some (Addr.add ⟨b,off,none⟩ n))):=by
 rw [Addr.add_lit];cases h with
 | ro _ _ _ hx hc =>
  refine .ro _ b (off+n) ?_ ?_
  ·intro k hk;simp only [zbi] at hk;have:=hx (n+k) (by omega);rw [zch];exact this
  ·intro j c u rX hu;rw [zbb] at rX;rw [zch] at hu;exact hc (n+j) c u rX hu
theorem MS {lim:Nat->Nat} {w:World} {cs:List D} {v:Value} (h:dw lim w (.ro cs) v):∃ b off,v=.pointer (some ⟨b,off,none⟩):=by
 cases h with|ro _ b off=>exact ⟨b,off,rfl⟩
theorem Og {s:TypeId} {f off:Nat} {cs:List D} (hf:fG P s f=some off) (hx:cP env x=some (.d (.ro cs))):aK P env st ⟨d,.fieldAddr s x f,ty,pos,after,gd⟩ (.d (.ro (cs.drop off))):=λg base w tmps hi he=>by
 cases aM he hx with
 | d _ _ h =>
  obtain ⟨b,o,hv⟩:=MS h;rw [hv] at h;exact ⟨_,.d _ _ (Sb h),λw' _=>by simp [execOp,hv,s7 hf]⟩
theorem br {s:TypeId} {f off o Uu:Nat} (hf:fG P s f=some off) (hx:cP env x=some (.ref o Uu)):aK P env st ⟨d,.fieldAddr s x f,ty,pos,after,gd⟩ (.ref o (Uu+off)):=λg base w tmps hi he=>by
 have h:=aM he hx;generalize hv:Act.eval ⟨tmps,[]⟩ x=v at h;cases h with
 | ref _ _ cE=>exact ⟨.pointer (some ⟨g.ob o,Uu+off,none⟩),.ref _ _ cE,λw' _=>by simp [execOp,hv,s7 hf,Addr.add_lit]⟩
theorem qS {w:World} {b off n:Nat} {vs:List Value} (hl:vs.length=n) (h:∀ j u,vs[j]?=some u->w.cell? ⟨b,off+j,none⟩=some u):(loadCells ⟨b,off,none⟩ n).run P w=.ok vs.toArray w:=by
 subst hl;exact run_loadCells_list w _ vs λj u hu=>by rw [Addr.add_lit];exact h j u hu
theorem Sc {lim:Nat->Nat} {w:World} {cs:List D} {b off:Nat} (h:dw lim w (.ro cs) (.pointer (some ⟨b,off,none⟩))) (n:Nat) (hn:n<=cs.length) :
  ∃ vs:List Value,vs.length=n/\(∀ (j:Nat) u,vs[j]?=some u->w.cell? ⟨b,off+j,none⟩=some u/\u.oneCell'=true/\∀ c,cs[j]?=some c->dw lim w c u):=by
 cases h with
 | ro _ _ _ hx hc =>
  refine ⟨(List.range n).map λj=>(w.cell? ⟨b,off+j,none⟩).getD undef,by simp,λj u hu=>?_⟩;rw [zbc] at hu;by_cases hj:j<n
  ·obtain ⟨hl,u',u0,h1⟩:=hx j (by omega);simp [List.getElem?_range hj,u0] at hu;subst hu;exact ⟨u0,h1,λc CG=>hc j c _ CG u0⟩
  ·simp [zbl (show (List.range n).length<=j by simp;omega)] at hu
theorem MT {cs:List D} {n:Nat} (h1:(P.underlying t).map kT=some false) (hs:(P.info? t).map (·.size)=some n) (hn:n<=cs.length) (hx:cP env x=some (.d (.ro cs))) :
  aK P env st ⟨d,.load t x,ty,pos,after,gd⟩ (.d (.agg (cs.take n))):=λg base w tmps hinv he=>by
 cases aM he hx with
 | d _ _ h =>
  obtain ⟨b,off,hv⟩:=MS h;rw [hv] at h;obtain ⟨vs,hl,Db⟩:=Sc h n hn;refine ⟨.agg vs.toArray,.d _ _ (.agg _ _ (by simp [hl];omega) (λi u hu=>(Db i u (by simpa using hu)).2.1) λi c u hc hu=>?_),λw' hb=>?_⟩
  ·rw [zam] at hc;split at hc
   ·exact (Db i u (by simpa using hu)).2.2 c hc
   ·cases hc
  ·obtain ⟨inf,lh,fE⟩:∃ inf,P.info? t=some inf/\inf.size=n:=by
    cases hh:P.info? t with
    | none=>rw [hh] at hs;cases hs
    | some inf=>rw [hh] at hs;exact ⟨inf,rfl,by simpa using hs⟩
   have D1:=qS (P:=P) (w:=w') (b:=b) (off:=off) hl (λj u hu=>by
    have h3:=(Db j u hu).1;exact (hb.cell (World.block_lt_of_cell? w _ h3)).trans h3)
   simp [execOp,hv,Instr.loadAt,Instr.sureAddr,loadVar,yg h1,sizeOf,typeInfo,lh,fE,D1]
theorem cg {o off:Nat} {T:TypeId} {cs:List EV} {c:EV} (h1:(P.underlying t).map kT=some true) (hx:cP env x=some (.ref o off)) (ho:st.aP[o]?=some (.row T cs)) (hc:cs[off]?=some c) :
  aK P env st ⟨d,.load t x,ty,pos,after,gd⟩ c:=λg base w tmps hinv he=>by
 have h:=aM he hx;generalize hv:Act.eval ⟨tmps,[]⟩ x=v at h;cases h with
 | ref _ _ cE =>
  obtain ⟨_,_,vs,hb,fE,zh⟩:=hinv.row o T cs ho;have XQ:off<vs.size:=by rw [fE];exact (zad.1 hc).1
  have hu:vs[off]?=some vs[off]:=zbg XQ;have eR:w.cell? ⟨g.ob o,off,none⟩=some vs[off]:=by rw [cell_of_row w _ off vs T (0,0) hb];exact hu
  refine ⟨vs[off],(zh off c _ hc hu).1,λw' ka=>?_⟩;have Uv:w'.cell? ⟨g.ob o,off,none⟩=some vs[off]:=(ka.cell (World.block_lt_of_cell? w _ eR)).trans eR;simp [execOp,hv,Instr.loadAt,Instr.sureAddr,loadVar,u5 h1,Uv]
theorem Jz {g:bT} {w:World} {b n off:Nat} {T:TypeId} {cs:List EV} {vs:Array Value} (hb:w.heap[b]?=some (.cells vs T (0,0))) (fE:vs.size=cs.length) (hn:off+n<=cs.length) :
  ((vs.toList.drop off).take n).length=n/\∀ (j:Nat) u,((vs.toList.drop off).take n)[j]?=some u->w.cell? ⟨b,off+j,none⟩=some u/\vs[off+j]?=some u:=by
 refine ⟨by simp;omega,λj u hu=>?_⟩
 rw [zam] at hu;split at hu
 ·rw [zbb] at hu;have:vs[off+j]?=some u:=by simpa using hu
  exact ⟨by rw [cell_of_row w _ _ vs T (0,0) hb];exact this,this⟩
 ·cases hu
theorem ch {o off n:Nat} {T:TypeId} {cs:List EV} {ds:List D} (h1:(P.underlying t).map kT=some false) (hs:(P.info? t).map (·.size)=some n) (hx:cP env x=some (.ref o off)) (ho:st.aP[o]?=some (.row T cs))
  (hn:off+n<=cs.length) (hc:Of ((cs.drop off).take n)=some ds):aK P env st ⟨d,.load t x,ty,pos,after,gd⟩ (.d (.agg ds)):=λg base w tmps hinv he=>by
 have h:=aM he hx;generalize hv:Act.eval ⟨tmps,[]⟩ x=v at h;cases h with
 | ref _ _ cE =>
  obtain ⟨_,_,vs,hb,fE,zh⟩:=hinv.row o T cs ho;obtain ⟨hl,Db⟩:=Jz (g:=g) (w:=w) (n:=n) (off:=off) hb fE hn;have ZM:=Jy hc;refine ⟨.agg ((vs.toList.drop off).take n).toArray,.d _ _ (.agg _ _ ?_ ?_ ?_),λw' ka=>?_⟩
  ·have:=zbn List.length ZM;simp at this hl ⊢;omega
  ·intro i u hu;have u0:=Db i u (by simpa using hu);have kU:off+i<cs.length:=by rw [←fE];exact (zaw.1 u0.2).1
   exact (zh (off+i) cs[off+i] u (zae kU) u0.2).2
  ·intro i c u rX hu;have u0:=Db i u (by simpa using hu);have qc:((cs.drop off).take n)[i]?=some (.d c):=by rw [ZM,zbc,rX];rfl
   rw [zam] at qc;split at qc
   ·rw [zbb] at qc;cases (zh (off+i) _ u qc u0.2).1 with|d _ _ h=>exact h
   ·cases qc
  ·obtain ⟨inf,lh,Hy⟩:∃ inf,P.info? t=some inf/\inf.size=n:=by
    cases hh:P.info? t with
    | none=>rw [hh] at hs;cases hs
    | some inf=>rw [hh] at hs;exact ⟨inf,rfl,by simpa using hs⟩
   have D1:=qS (P:=P) (w:=w') (b:=g.ob o) (off:=off) hl (λj u hu=>by
    have h3:=(Db j u hu).1;exact (ka.cell (World.block_lt_of_cell? w _ h3)).trans h3)
   simp [execOp,hv,Instr.loadAt,Instr.sureAddr,loadVar,yg h1,sizeOf,typeInfo,lh,Hy,D1]
theorem cq {cs:List D} {i:Nat} {c:D} (hx:cP env x=some (.d (.dV cs))) (hc:cs[i]?=some c):aK P env st ⟨d,.extract x i,ty,pos,after,gd⟩ (.d c):=λg base w tmps hinv he=>by
 cases aM he hx with
 | d _ _ h =>
  generalize hv:Act.eval ⟨tmps,[]⟩ x=v at h;cases h with
  | dV _ vs hs h =>
   have hi:i<vs.size:=by rw [hs];exact (zad.1 hc).1
   have hu:vs[i]?=some vs[i]:=zbg hi;exact ⟨vs[i],.d _ _ (h i c _ hc hu),λw' _=>by simp [execOp,hv,Instr.extract,hu]⟩
theorem LB {cs:List EV} {i:Nat} {c:EV} (hx:cP env x=some (.dV cs)) (hc:cs[i]?=some c):aK P env st ⟨d,.extract x i,ty,pos,after,gd⟩ c:=λg base w tmps hinv he=>by
 have h:=aM he hx;generalize hv:Act.eval ⟨tmps,[]⟩ x=v at h;cases h with
 | dV _ vs hs h =>
  have hi:i<vs.size:=by rw [hs];exact (zad.1 hc).1
  have hu:vs[i]?=some vs[i]:=zbg hi;exact ⟨vs[i],h i c _ hc hu,λw' _=>by simp [execOp,hv,Instr.extract,hu]⟩
theorem MU {s:TypeId} {f off:Nat} {fs:Array Field} {fl:Field} {cs:List D} {c:D} (hu:P.underlying s=some (.struct fs)) (hf:fs[f]?=some fl) (h1:(P.underlying fl.type).map kT=some true) (ho:fl.offset=off)
  (hx:cP env x=some (.d (.agg cs))) (hc:cs[off]?=some c):aK P env st ⟨d,.field s x f,ty,pos,after,gd⟩ (.d c):=λg base w tmps hinv he=>by
 cases aM he hx with
 | d _ _ h =>
  generalize hv:Act.eval ⟨tmps,[]⟩ x=v at h;cases h with
  | agg _ vs hs FO h =>
   have hi:off<vs.size:=by rw [hs];exact (zad.1 hc).1
   have u0:vs[off]?=some vs[off]:=zbg hi;exact ⟨vs[off],.d _ _ (h off c _ hc u0),λw' _=>by simp [execOp,hv,Instr.field,run_underlying hu,hf,asAgg,part,u5 h1,ho,u0]⟩
end q
def fX:EV->Option (List EV)
 | .d (.ex v)=>if v.oneCell' then some [.d (.ex v)] else none
 | .d (.agg cs)=>some (cs.map EV.d)
 | .d (.sl sz rows)=>some [.d (.sl sz rows)]
 | .d (.ro cs)=>some [.d (.ro cs)]
 | .d (.e0 sz)=>some [.d (.e0 sz)]
 | .ref o off=>some [.ref o off]
 | .Jk o off n c=>some [.Jk o off n c]
 | .cz sz rows t=>some [.cz sz rows t]
 | .mp o=>some [.mp o]
 | .vR f cs=>some [.vR f cs]
 | .vc t k=>some [.vc t k]
 | .vp t k i off=>some [.vp t k i off]
 | .vw t k lo n=>some [.vw t k lo n]
 | .agg cs=>some cs
 | _=>none
theorem cells_one {v:Value} (h:v.oneCell'=true):v.cells=#[v]:=by cases v <;> first|rfl|cases h
theorem qm {g:bT} {w:World} {st:St} {e:EV} {cs:List EV} {v:Value} (h:fX e=some cs) (hv:bJ g w st e v) :
  v.cells.size=cs.length/\∀ (i:Nat) c u,cs[i]?=some c->v.cells[i]?=some u->bJ g w st c u/\u.oneCell'=true:=by
 have one:∀ (XR:v.oneCell'=true) (yh:cs=[e]),v.cells.size=cs.length/\∀ (i:Nat) c u,cs[i]?=some c->v.cells[i]?=some u->bJ g w st c u/\u.oneCell'=true:=by
  intro XR yh;subst yh;rw [cells_one XR];refine ⟨rfl,λi c u hc hu=>?_⟩
  match i with
  | 0=>simp at hc hu;subst hc;subst hu;exact ⟨hv,XR⟩
  | n+1=>simp at hc
 cases hv with
 | d x _ hd =>
  cases hd with
  | ex =>
   simp only [fX] at h;split at h
   ·rename_i h1;simp only [Option.some.injEq] at h;exact one h1 h.symm
   ·cases h
  | agg ds vs hs h1 hr =>
   simp only [fX,Option.some.injEq] at h;subst h;refine ⟨by simpa [Value.cells] using hs,λi c u hc hu=>?_⟩;rw [zbc] at hc;cases hx:ds[i]? with
   | none=>rw [hx] at hc;cases hc
   | some y =>
    rw [hx] at hc;simp only [Option.map_some,Option.some.injEq] at hc;subst hc;exact ⟨.d _ _ (hr i y u hx (by simpa [Value.cells] using hu)),h1 i u (by simpa [Value.cells] using hu)⟩
  | dV=>cases h
  | nil=>simp only [fX,Option.some.injEq] at h;exact one rfl h.symm
  | sl=>simp only [fX,Option.some.injEq] at h;exact one rfl h.symm
  | ro=>simp only [fX,Option.some.injEq] at h;exact one rfl h.symm
  | e0=>simp only [fX,Option.some.injEq] at h;exact one rfl h.symm
  | any=>cases h
 | ref=>simp only [fX,Option.some.injEq] at h;exact one rfl h.symm
 | Jk=>simp only [fX,Option.some.injEq] at h;exact one rfl h.symm
 | cz _ _ _ _ _ _ hd =>
  simp only [fX,Option.some.injEq] at h;obtain ⟨A,c,hv⟩:=DC hd;exact one (by rw [hv];rfl) h.symm
 | mp=>simp only [fX,Option.some.injEq] at h;exact one rfl h.symm
 | vR=>simp only [fX,Option.some.injEq] at h;exact one rfl h.symm
 | agg ds vs hs h1 hr =>
  simp only [fX,Option.some.injEq] at h;subst h;exact ⟨by simpa [Value.cells] using hs,λi c u hc hu=>⟨hr i c u hc (by simpa [Value.cells] using hu),h1 i u (by simpa [Value.cells] using hu)⟩⟩
 | dV=>cases h
 | gd=>cases h
 | vc _ _ _ _ hf=>simp only [fX,Option.some.injEq] at h;obtain ⟨A,n,c,rfl⟩:=hf;exact one rfl h.symm
 | vp _ _ _ _ _ _ hf=>simp only [fX,Option.some.injEq] at h;obtain ⟨b,o,rfl⟩:=hf;exact one rfl h.symm
 | vw _ _ _ _ _ _ hf=>simp only [fX,Option.some.injEq] at h;obtain ⟨A,c,rfl⟩:=hf;exact one rfl h.symm
section v
variable {P:Program} {base:Nat} {env:Env} {st:St} {d:Option Tmp} {ty:TypeId} {pos:String} {after:Array Edge} {gd:Option (Nat×Bool)} {t t2:TypeId} {x y:Operand}
theorem XS {e:EV} {cs:List EV} (hx:cP env x=some e) (hc:fX e=some cs):xl P base env st ⟨d,.box t x,ty,pos,after,gd⟩ (.ref st.aP.length 0) (st.add (.row t cs)):=by
 intro g w tmps hinv he;obtain ⟨h1,h2⟩:=qm hc (aM he hx);obtain ⟨g',hi,hs,AD⟩:=hinv.newObj (.row t cs) (.cells (Act.eval ⟨tmps,[]⟩ x).cells t) (λLC Dc e=>by cases e;exact ⟨_,rfl,h1,h2⟩) (λes e=>by cases e)
 refine ⟨.pointer (some ⟨w.heap.size,0,none⟩),g',_,?_,?_,hi,hs⟩
 ·simp [execOp,Instr.box,newVar,newRow]
 ·rw [←AD];exact .ref _ _ (by simp [St.add])
theorem jh {z:Value} {cs:List EV} (hz:(P.info? t).bind (·.zero)=some z) (hc:fX (.d (cv z))=some cs):xl P base env st ⟨d,.alloc t,ty,pos,after,gd⟩ (.ref st.aP.length 0) (st.add (.row t cs)):=by
 intro g w tmps hinv he;obtain ⟨h1,h2⟩:=qm (g:=g) (w:=w) (st:=st) hc (.d _ _ (qj _ _ z));obtain ⟨g',hi,hs,AD⟩:=hinv.newObj (.row t cs) (.cells z.cells t) (λLC Dc e=>by cases e;exact ⟨_,rfl,h1,h2⟩) (λes e=>by cases e)
 obtain ⟨inf,lh,zN⟩:∃ inf,P.info? t=some inf/\inf.zero=some z:=by
  cases hh:P.info? t with
  | none=>rw [hh] at hz;cases hz
  | some inf=>rw [hh] at hz;exact ⟨inf,rfl,hz⟩
 refine ⟨.pointer (some ⟨w.heap.size,0,none⟩),g',_,?_,?_,hi,hs⟩
 ·simp [execOp,Instr.alloc,zeroValue,typeInfo,lh,zN,newVar,newRow]
 ·rw [←AD];exact .ref _ _ (by simp [St.add])
def putCells (cs:List EV) (off:Nat) (new:List EV):List EV:=cs.take off++new++cs.drop (off+new.length)
theorem sA {o off:Nat} {T:TypeId} {cs new:List EV} {e:EV} (hx:cP env x=some (.ref o off)) (hy:cP env y=some e) (ho:st.aP[o]?=some (.row T cs)) (hc:fX e=some new) (hn:off+new.length<=cs.length)
  (hs:(P.info? t).map (·.size)=some new.length):Hv P base env st ⟨d,.store t x y,ty,pos,after,gd⟩ (st.set o (.row T (putCells cs off new))):=by
 intro g w tmps hinv he;have h:=aM he hx;generalize hv:Act.eval ⟨tmps,[]⟩ x=v at h;obtain ⟨k1,k2⟩:=qm hc (aM he hy);generalize hu:Act.eval ⟨tmps,[]⟩ y=u at k1 k2;cases h with
 | ref _ _ cE =>
  obtain ⟨hb,hl,vs,Jn,fE,zh⟩:=hinv.row o T cs ho;have hlen:u.cells.toList.length=new.length:=by simpa using k1
  have ma:=run_storeCells_at P (g.ob o) off T u.cells.toList 0 vs w Jn (by simp only [zde,hlen];omega) (λa ha=>by
   obtain ⟨i,hi⟩:=zcy.1 ha;have hi':u.cells[i]?=some a:=by simpa using hi
   have kU:i<new.length:=by rw [←k1];exact (zaw.1 hi').1
   exact (k2 i new[i] a (zae kU) hi').2)
  simp only [zde] at ma;obtain ⟨inf,lh,Hy⟩:∃ inf,P.info? t=some inf/\inf.size=new.length:=by
   cases hh:P.info? t with
   | none=>rw [hh] at hs;cases hs
   | some inf=>rw [hh] at hs;exact ⟨inf,rfl,by simpa using hs⟩
  obtain ⟨dR,oY⟩:=hinv.setBlock (o:=o) (x:=.row T (putCells cs off new)) (w':=w.setRow (g.ob o) (vs.toList.take off++u.cells.toList++vs.toList.drop (off+u.cells.toList.length)).toArray)
   ⟨_,ho,by simp⟩ hl (by simp) (λb ka=>setRow_other w _ b _ ka) rfl rfl rfl
   (λPC LC Dc jK=>by
    cases jK;refine ⟨_,setRow_heap w _ vs _ T (0,0) Jn,by simp [putCells,fE,k1],λi c a rX ha=>?_⟩;have TC:bJ g w st c a/\a.oneCell'=true:=by
     simp only [putCells] at rX;have PD:(vs.toList.take off++u.cells.toList++vs.toList.drop (off+u.cells.toList.length))[i]?=some a:=by simpa using ha
     by_cases h1:i<off
     ·rw [zat,zan (by simp;omega),zam,zab h1] at rX PD;exact zh i c a rX (by simpa using PD)
     ·by_cases h2:i<off+new.length
      ·rw [zat,zav (by simp;omega),zan (by simp [hlen,fE];omega)] at rX PD;have e1:(cs.take off).length=off:=by simp;omega
       have e2:(vs.toList.take off).length=off:=by simp;omega
       rw [e1] at rX;rw [e2] at PD;exact k2 (i-off) c a rX (by simpa using PD)
      ·rw [zav (by simp [hlen,fE];omega)] at rX PD;have e1:(cs.take off++new).length=off+new.length:=by simp;omega
       have e2:(vs.toList.take off++u.cells.toList).length=off+new.length:=by simp [hlen];omega
       rw [e1,zbb] at rX;rw [e2,zbb,hlen] at PD;exact zh _ c a rX (by simpa using PD)
    exact ⟨TC.1.mono PC,TC.2⟩) (λ_ es jK=>by cases jK)
  refine ⟨g,_,?_,dR,oY⟩;simp [execOp,hv,hu,Instr.storeAt,Instr.sureAddr,storeVar,sizeOf,typeInfo,lh,Hy,k1,ma]
end v
def Good (g:bT) (w:World) (st:St) (x:EV) (dh:Nat->Nat) (w':World) (v:Value):Prop :=
 bJ { g with lim:=dh } w' st x v/\Below w.heap.size w w'/\∀ b,b<w.heap.size->dh b=g.lim b
def zi (P:Program) (env:Env) (st:St) (o:Oper) (x:EV):Prop :=
 ∀ g base w tmps,Inv g base w st->dO g w st env tmps ->
  (∃ v dh w',(execOp (Act.eval ⟨tmps,[]⟩) o).run P w=.ok (.value v) w'/\Good g w st x dh w' v) ∨
  (∃ f' args,(execOp (Act.eval ⟨tmps,[]⟩) o).run P w=.ok (.enter f' args) w/\Calls P f' args w λe w'=>∃ v dh,e=.returned v/\Good g w st x dh w' v)
section g
variable {P:Program} {f:Ctx} {N:Nat} {S:Start} {Q:EV->St->Prop} {k:List Item} {env:Env} {st:St} {ops rest:List Oper}
 {d:Option Tmp} {op:Op} {ty:TypeId} {pos:String} {after:Array Edge} {gd:Option (Nat×Bool)} {t t2 e:TypeId} {x y:Operand}
theorem aK.g {o:Oper} {r:EV} (h:aK P env st o r):zi P env st o r:=λg base w tmps hi he =>
 let ⟨v,h1,h2⟩:=h g base w tmps hi he
 .inl ⟨v,g.lim,w,h2 w (.refl _ _),h1,.refl _ _,λ_ _=>rfl⟩
theorem av {f':FuncId} {l:List Operand} {ts:Array TypeId} {es:List EV} {ds:List D} {r:D} (Da:Enters P f') (h1:BM env l=some es) (h2:Ly es=some ds) (hc:aD P f' ds (·=r)) :
  zi P env st ⟨d,.call ⟨.value (.func f'),l.toArray,ts⟩,ty,pos,after,gd⟩ (.d r):=λg base w tmps hi he=>by
 refine .inr ⟨f',_,BO Da w rfl,(hc g.lim w _ (hi.C9.mono hi.base) (.of he h1 h2)).mono ?_⟩;rintro e w' ⟨v,r',dh,rfl,rfl,hr,PE,hb,hl⟩;exact ⟨v,dh,rfl,.d _ _ hr,hb,hl⟩
theorem cd.g {x:EV} (h:zi P env st ⟨d,op,ty,pos,after,none⟩ x) (hd:fV N d=true) (hk:cd P f N S Q ops rest k (env.put d x) st) :
  cd P f N S Q ops (⟨d,op,ty,pos,after,none⟩::rest) k env st:=by
 intro i hi g w tmps hinv hh he hn;have ho:ops.toArray[i]?=some ⟨d,op,ty,pos,after,none⟩:=by simpa using (hi 0).symm
 have hi':∀ j:Nat,rest[j]?=ops[i+1+j]?:=λj=>by have:=hi (j+1);simpa [zch,zdd 1 j] using this
 rw [zag,iw];subst hn;rcases h g S.base w tmps hinv he with ⟨v,dh,w',hr,hx,hb,hl⟩|⟨f',args,hr,hc⟩
 ·obtain ⟨dR,hs⟩:=hinv.grow (g':={ g with lim:=dh }) hb hl rfl rfl;exact ep.value ho (by simp [Region.wanted]) hr (hk (i+1) hi' _ w' _ dR (hh.step hs) (qk (he.mono hs.dy) hd hx) ia)
 ·refine ep.call ho (by simp [Region.wanted]) hr (hc.mono ?_);rintro e w' ⟨v,dh,rfl,hx,hb,hl⟩;obtain ⟨dR,hs⟩:=hinv.grow (g':={ g with lim:=dh }) hb hl rfl rfl;exact ⟨v,rfl,hk (i+1) hi' _ w' _ dR (hh.step hs) (qk (he.mono hs.dy) hd hx) ia⟩
theorem cd.gE {d t:Tmp} {j:Nat} {want b:Bool} {c x:EV} {env':Env} (hj:(ops[j]?).bind (·.dst)=some t) (hl:lookup t env=some c) (hc:CF c want=some b)
  (hE:zg b env env') (hd:fV N (some d)=true) (h:b=true->zi P env' st ⟨some d,op,ty,pos,after,some (j,want)⟩ x) (hk:cd P f N S Q ops rest k ((d,.gd b x)::env) st) :
  cd P f N S Q ops (⟨some d,op,ty,pos,after,some (j,want)⟩::rest) k env st:=by
 intro i hi g w tmps hinv hh he hn;have ho:ops.toArray[i]?=some ⟨some d,op,ty,pos,after,some (j,want)⟩:=by simpa using (hi 0).symm
 obtain ⟨v,hv,hr⟩:=he t c hl;have hw:Region.wanted ⟨some d,op,ty,pos,after,some (j,want)⟩ (yielded ops.toArray tmps)=b:=by
  rw [←sU hc hr];have Jm:((ops.toArray)[j]?).bind (·.dst)=some t:=by simpa using hj
  simp only [Region.wanted,yielded,Jm,zac,hv];cases v <;> rfl
 rw [zag,iw];subst hn;have hi':∀ j:Nat,rest[j]?=ops[i+1+j]?:=λj=>by have:=hi (j+1);simpa [zch,zdd 1 j] using this
 cases b with
 | false=>exact ep.xk ho hw (hk (i+1) hi' g w _ hinv hh (qk (d:=some d) he hd (.gd _ _ _ (λ_=>rfl) (λh=>by cases h))) ia)
 | true =>
  rcases h rfl g S.base w tmps hinv (he.gd hE rfl) with ⟨v,dh,w',hr,hx,hb,hl⟩|⟨f',args,hr,hc⟩
  ·obtain ⟨dR,hs⟩:=hinv.grow (g':={ g with lim:=dh }) hb hl rfl rfl;exact ep.value ho hw hr (hk (i+1) hi' _ w' _ dR (hh.step hs) (qk (d:=some d) (he.mono hs.dy) hd (.gd _ _ _ (λh=>by cases h) (λ_=>hx))) ia)
  ·refine ep.call ho hw hr (hc.mono ?_);rintro e w' ⟨v,dh,rfl,hx,hb,hl⟩;obtain ⟨dR,hs⟩:=hinv.grow (g':={ g with lim:=dh }) hb hl rfl rfl;exact ⟨v,rfl,hk (i+1) hi' _ w' _ dR (hh.step hs) (qk (d:=some d) (he.mono hs.dy) hd (.gd _ _ _ (λh=>by cases h) (λ_=>hx))) ia⟩
theorem kc {sz:Nat}:∀ {rows:List (List D)} (h:∀ row∈rows,row.length=sz) {i j:Nat} {row:List D} {c:D},rows[i]?=some row->row[j]?=some c->rows.flatten[i*sz+j]?=some c
 | [],_,i,j,row,c,hr,_=>by simp at hr
 | r::rows,h,0,j,row,c,hr,hc=>by
  simp at hr;subst hr;rw [zen,zfn,zbr,zan (zad.1 hc).1];exact hc
 | r::rows,h,i+1,j,row,c,hr,hc=>by
  have hl:=h r (by simp);rw [zen,zda,zav (by omega)];have:=kc (rows:=rows) (λr hr=>h r (by simp [hr])) (by simpa using hr) hc;rw [←this];congr 1;omega
theorem iK {sz:Nat}:∀ {rows:List (List D)},(∀ row∈rows,row.length=sz)->rows.flatten.length=rows.length*sz
 | [],_=>by simp
 | r::rows,h=>by
  have h1:=h r (by simp);have h2:=iK (rows:=rows) (λr hr=>h r (by simp [hr]));rw [zen,zai,h1,h2,zag,zda];omega
theorem MV {g:bT} {w w0:World} {sz cap:Nat} {rows:List (List D)} {vs:Array Value} {e:TypeId} (hw:w0.heap=w.heap) (MR:w0.os=w.os) (htp:w0.tape=w.tape) (Ur:w0.output=w.output)
  (hr:∀ row∈rows,row.length=sz) (hc:rows.length<=cap) (hn:rows.length*sz<=vs.size)
  (eR:∀ (i:Nat) c (u:Value),rows.flatten[i]?=some c->vs[i]?=some u->dw g.lim w c u/\u.oneCell'=true) :
  ∃ dh,dw dh (w0.alloc (.cells vs e)) (.sl sz rows) (.slice (some ⟨w.heap.size,0,none⟩) rows.length cap)/\Below w.heap.size w (w0.alloc (.cells vs e))/\(∀ b,b<w.heap.size->dh b=g.lim b):=by
 have hb:Below w.heap.size w (w0.alloc (.cells vs e)):=by
  refine ⟨MR,htp,Ur,by simp [hw],λk hk=>?_⟩;rw [Below.heap_alloc _ _ _ (by rw [hw];exact hk),hw]
 let dh:Nat->Nat:=λb=>if b=w.heap.size then rows.length*sz else g.lim b
 have zL:∀ b,b<w.heap.size->dh b=g.lim b:=λb hb=>by show (if _ then _ else _)=_;rw [zaa (by omega)]
 have Jx:(w0.alloc (.cells vs e)).heap[w.heap.size]?=some (.cells vs e):=by rw [←hw];exact heap_alloc_new w0 _
 have PE:Lm g.lim w dh (w0.alloc (.cells vs e)):=⟨hb.size,λb ka=>by rw [zL b ka];exact zap _,λb off ka _=>hb.cell (p:=⟨b,off,none⟩) ka⟩
 have BP:∀ i,(w0.alloc (.cells vs e)).cell? ⟨w.heap.size,i,none⟩=vs[i]?:=λi=>cell_of_row _ _ i vs e (0,0) Jx
 have Dd:=iK hr;refine ⟨dh,.sl sz rows _ 0 cap hc hr ?_ ?_,hb,zL⟩
 ·intro k hk;have hkv:k<vs.size:=by omega
  have hu:vs[k]?=some vs[k]:=zbg hkv;have Sd:k<rows.flatten.length:=by omega
  refine ⟨by show 0+k<(if _ then _ else _);rw [zab rfl];omega,vs[k],by rw [zbr,BP];exact hu,(eR k _ _ (zae Sd) hu).2⟩
 ·intro i j row c u hi hj hu;rw [zbr,BP] at hu;exact ((eR _ c u (kc hr hi hj) hu).1).mono PE
theorem PF {lim:Nat->Nat} {w:World} {sz:Nat} {rows:List (List D)} {v:Value} (h:dw lim w (.sl sz rows) v) :
  ∃ (A:Option Addr) (c:Nat) (vs:List Value),v=.slice A rows.length c/\vs.length=rows.length*sz/\(rows.length=0∨∃ b off,A=some ⟨b,off,none⟩)/\(A=none->rows.length=0/\c=0) /\
   (∀ b off,A=some ⟨b,off,none⟩->∀ (j:Nat) u,vs[j]?=some u->w.cell? ⟨b,off+j,none⟩=some u)/\(∀ row∈rows,row.length=sz) /\
   ∀ (j:Nat) u c,vs[j]?=some u->rows.flatten[j]?=some c->dw lim w c u/\u.oneCell'=true:=by
 cases h with
 | nil _ A=>exact ⟨A,0,[],rfl,by simp,.inl rfl,λ_=>⟨rfl,rfl⟩,by simp,by simp,by simp⟩
 | sl _ _ b off cap hc hr hx h =>
  have Dd:=iK hr;refine ⟨some ⟨b,off,none⟩,cap,(List.range (rows.length*sz)).map λj=>(w.cell? ⟨b,off+j,none⟩).getD undef,rfl,by simp,.inr ⟨b,off,rfl⟩,(λh=>by cases h),?_,hr,?_⟩
  ·intro b' PG he j u hu;cases he;rw [zbc] at hu;by_cases hj:j<rows.length*sz
   ·obtain ⟨_,u',u0,h1⟩:=hx j hj;simp [List.getElem?_range hj,u0] at hu;subst hu;exact u0
   ·simp [zbl (show (List.range (rows.length*sz)).length<=j by simp;omega)] at hu
  ·intro j u c hu rX;have hj:j<rows.length*sz:=by have:=(zad.1 rX).1;omega
   rw [zbc] at hu;obtain ⟨_,u',u0,h1⟩:=hx j hj;simp [List.getElem?_range hj,u0] at hu;subst hu;refine ⟨?_,h1⟩;have fE:0<sz:=by
    rcases zek sz with h0|h0
    ·subst h0;omega
    ·exact h0
   have LD:j=(j / sz)*sz+j % sz:=by rw [zdi];exact (zel j sz).symm
   have hi:j / sz<rows.length:=zdp (by rw [zdi];exact hj);have hm:j % sz<rows[j / sz].length:=by rw [hr _ (zeu hi)];exact zed _ fE
   have hg:=kc hr (zae hi) (zae hm);rw [←LD,rX] at hg;cases hg;refine h (j / sz) (j % sz) _ _ u' (zae hi) (zae hm) ?_;rw [←LD];exact u0
theorem Uw {lim:Nat->Nat} {w:World} {sz:Nat} {rows:List (List D)} {A:Option Addr} {c l h:Nat} (hd:dw lim w (.sl sz rows) (.slice A rows.length c)) (hlh:l<=h) (hh:h<=rows.length) (hc:rows.length<=c) :
  dw lim w (.sl sz ((rows.take h).drop l)) (sliced A l h c sz):=by
 unfold sliced;have hlen:((rows.take h).drop l).length=h-l:=by simp;omega
 cases hd with
 | nil =>
  have:h=0:=by simpa using hh
  subst this;have:l=0:=by omega
  subst this;simpa using dw.nil sz _
 | sl _ _ b off cap rX hr hx eR =>
  have key:∀ PG,(PG=off+l*sz∨h-l=0)->dw lim w (.sl sz ((rows.take h).drop l)) (.slice (some ⟨b,PG,none⟩) (h-l) (c-l)):=by
   intro PG ho;rw [←hlen];refine .sl sz _ b PG (c-l) (by rw [hlen];omega) (λrow hm=>hr row (zev (zcz hm))) ?_ ?_
   ·intro k hk;rw [hlen] at hk;rcases ho with rfl|h0
    ·have hb:l*sz+k<rows.length*sz:=by
      have h1:(l+(h-l))*sz<=rows.length*sz:=zcq sz (by omega);rw [zda] at h1;omega
     have:=hx (l*sz+k) hb;rw [zch];exact this
    ·rw [h0,zfn] at hk;omega
   ·intro i j row cc u hi hj hu;rcases ho with rfl|h0
    ·rw [zbb,zam] at hi;split at hi
     ·refine eR (l+i) j row cc u hi hj ?_;rw [←hu];congr 2;rw [zda];omega
     ·cases hi
    ·have:=(zad.1 hi).1;omega
  split
  ·rename_i rp;exact key off (.inr (by omega))
  ·simp only [Option.map_some,Addr.add_lit];exact key _ (.inl rfl)
end g
def uD:EV->Option (Nat×List (List D))
 | .d (.sl sz rows)=>some (sz,rows)
 | .d (.e0 sz)=>some (sz,[])
 | .cz sz rows _=>some (sz,rows)
 | _=>none
theorem ru {g:bT} {w:World} {st:St} {e:EV} {sz:Nat} {rows:List (List D)} {v:Value} (h:uD e=some (sz,rows)) (hv:bJ g w st e v):dw g.lim w (.sl sz rows) v:=by
 unfold uD at h;split at h
 ·cases h;cases hv with|d _ _ h=>exact h
 ·cases h;cases hv with|d _ _ h=>exact D.MP h
 ·cases h;cases hv with|cz _ _ _ _ _ _ h=>exact h
 ·cases h
section q
variable {P:Program} {base:Nat} {env:Env} {st:St} {d:Option Tmp} {ty:TypeId} {pos:String} {after:Array Edge} {gd:Option (Nat×Bool)} {t t2 e:TypeId} {x y z:Operand}
theorem ud (ht:P.underlying t=some (.slice e)):P.elem t=e:=by simp [Program.elem,ht]
theorem pf {inf:TypeInfo} {e:TypeId} (hi:P.info? e=some inf) (w:World):(sizeOf e).run P w=.ok inf.size w:=by simp [sizeOf,typeInfo,hi]
section sl
variable {sz:Nat} {rows:List (List D)} {ev:EV} {inf:TypeInfo} (ht:P.underlying t=some (.slice e)) (hi:P.info? e=some inf) (fE:inf.size=sz) (hx:cP env x=some ev) (hs:uD ev=some (sz,rows))
include ht hi fE hx hs
theorem PH {g:bT} {w:World} {tmps:Array Value} (he:dO g w st env tmps) {l h:Nat} (hlh:l<=h) (hh:h<=rows.length) {lo hi':Option Operand}
  (hb:∀ (A:Option Addr) (c:Nat),rows.length<=c->∀ w':World,(Instr.slice t (.slice A rows.length c) (lo.map (Act.eval ⟨tmps,[]⟩)) (hi'.map (Act.eval ⟨tmps,[]⟩)) none).run P w'=.ok (sliced A l h c sz) w') :
  ∃ v,bJ g w st (.d (.sl sz ((rows.take h).drop l))) v/\∀ w',Below w.heap.size w w'->(execOp (Act.eval ⟨tmps,[]⟩) ⟨d,.slice t x lo hi' none,ty,pos,after,gd⟩).run P w'=.ok (.value v) w':=by
 have hd:=ru hs (aM he hx);obtain ⟨A,c,hv⟩:=DC hd;rw [hv] at hd;have hc:rows.length<=c:=by
  cases hd with
  | nil=>exact zap _
  | sl _ _ _ _ _ hc=>exact hc
 refine ⟨_,.d _ _ (Uw hd hlh hh hc),λw' _=>?_⟩;simp only [execOp,hv,Sem.run_bind,run_sliceAt_slice w' t _ _ _ _ (by rw [ud ht];exact ht),Option.map_none,hb A c hc w',Result.andThen_ok,Sem.run_pure]
theorem XT {kh:IntKind} {h:Int} (hz:cP env z=some (.d (.ex (.int kh h)))) (h0:0<=h) (h2:h<=rows.length) :
  aK P env st ⟨d,.slice t x none (some z) none,ty,pos,after,gd⟩ (.d (.sl sz (rows.take h.toNat))):=λg base w tmps hinv he=>by
 have:=PH (d:=d) (ty:=ty) (pos:=pos) (after:=after) (gd:=gd) ht hi fE hx hs he (l:=0) (h:=h.toNat) (lo:=none) (hi':=some z) (by omega) (by omega) λA c hc w'=>by
  simp only [Option.map_some,Option.map_none,(aM he hz).bK];rw [run_slice_h w' t A rows.length c (by rw [ud ht];exact ht) kh h h0 (by omega)];simp [ud ht,pf hi,fE]
 simpa using this
theorem XU {kl:IntKind} {l:Int} (hy:cP env y=some (.d (.ex (.int kl l)))) (h0:0<=l) (h1:l<=rows.length) :
  aK P env st ⟨d,.slice t x (some y) none none,ty,pos,after,gd⟩ (.d (.sl sz (rows.drop l.toNat))):=λg base w tmps hinv he=>by
 have:=PH (d:=d) (ty:=ty) (pos:=pos) (after:=after) (gd:=gd) ht hi fE hx hs he (l:=l.toNat) (h:=rows.length) (lo:=some y) (hi':=none) (by omega) (by omega) λA c hc w'=>by
  simp only [Option.map_some,Option.map_none,(aM he hy).bK];rw [run_slice_l w' t A rows.length c (by rw [ud ht];exact ht) kl l h0 (by omega)];simp [ud ht,pf hi,fE]
 simpa using this
end sl
section str
variable {a:List UInt8} (ht:P.underlying t=some .string) (hx:cP env x=some (.d (.ex (.string ⟨a.toArray⟩))))
include ht hx
theorem Se {kl kh:IntKind} {l h:Int} (hy:cP env y=some (.d (.ex (.int kl l)))) (hz:cP env z=some (.d (.ex (.int kh h)))) (h0:0<=l) (h1:l<=h) (h2:h<=a.length) :
  aK P env st ⟨d,.slice t x (some y) (some z) none,ty,pos,after,gd⟩ (.d (.ex (.string ⟨((a.drop l.toNat).take (h.toNat-l.toNat)).toArray⟩))):=ql λg w tmps w' he=>by
 have e1:(h.toNat:Int)=h:=Int.toNat_of_nonneg (by omega);have D2:=run_sliceBound (P:=P) w' kl l h.toNat .sliceB h0 (by omega);have FF:=run_sliceBound (P:=P) w' kh h a.length .sliceAlen (by omega) h2;simp [execOp,(aM he hx).bK,(aM he hy).bK,(aM he hz).bK,Instr.sliceAt,Instr.slice,run_underlying ht,Instr.sliceBounds,ByteArray.size_mk',D2,FF,ByteArray.extract_mk]
end str
structure Src (P:Program) (w:World) (sz:Nat) (u:Value) (m:Nat) (news:List Value):Prop where
 len:Builtin.lenOf u=pure m
 cells:∀ w':World,w'.heap=w.heap->(Builtin.firstCells sz m u).run P w'=.ok news.toArray w'
 size:news.length=m*sz
 one:∀ v∈news,v.oneCell'=true
theorem kX (w:World) {base ty sz:Nat} {inf:TypeInfo} {zv:Value} {d2:TypeDesc} (ht:P.underlying t=some (.slice e)) (BQ:P.underlying t2=some d2) (FP:d2=.string∨∃ e2,d2=.slice e2) (hi:P.info? e=some inf) (hz:inf.zero=some zv)
  (ey:inf.size=sz) (qf:zv.cells.size=sz) {v:Value} {n:Nat} {xs:List Value} (j4:w.ownsRow base e sz v n xs) {u:Value} {m:Nat} {news:List Value} (hs:Src P w sz u m news)
  (LF:n+m<=maxLen) (PI:(n+m)*inf.bytes<=140737488355328) (kb:base<=w.heap.size) :
  ∃ v' w',(Builtin.append_ #[t,t2] ty #[v,u]).run P w=.ok v' w'/\w'.ownsRow base e sz v' (n+m) (xs++news)/\(m=0->v'=v) /\
   ((v'.ownBlock=v.ownBlock/\w'.heap.size=w.heap.size/\w.grownBy w' v.ownBlock)∨(v'.ownBlock=some w.heap.size/\Below w.heap.size w w')):=by
 rcases FP with rfl|⟨e2,rfl⟩
 all_goals
  subst ey;have hsmall:n+m<=9223372036854775807:=by simp only [maxLen] at LF;omega
  have hlen:(xs++news).length=(n+m)*inf.size:=by rw [zai,j4.1,hs.size,zda]
  have hl:=hs.len;have grown:∀ (old:Nat),old<n+m ->
    (w.drew.alloc (.cells (xs.toArray++news.toArray++Builtin.zeroCells zv.cells (grownCap w (n+m) old e-(n+m))) e)).ownsRow base e inf.size
     (.slice (some ⟨w.heap.size,0,none⟩) (n+m) (grownCap w (n+m) old e)) (n+m) (xs++news) /\
    Below w.heap.size w (w.drew.alloc (.cells (xs.toArray++news.toArray++Builtin.zeroCells zv.cells (grownCap w (n+m) old e-(n+m))) e)):=by
   intro old ho;have XV:=grownCap_ge w (n+m) old e;have yG:grownCap w (n+m) old e<=maxLen:=grownCap_le_maxLen w (n+m) old e LF;refine ⟨⟨hlen,.inr ⟨w.heap.size,_,_,rfl,kb,heap_alloc_new w.drew _,XV,yG,?_,?_⟩⟩,((Below.refl _ w).drew).alloc (zap _) _⟩
   ·simp only [zfd,zbs,size_zeroCells,qf,j4.1,hs.size,←zda];congr 1;omega
   ·simp only [zfv,zat];rw [←zat,←hlen];exact zfx
  rcases j4.2 with ⟨rfl,rfl⟩|⟨g,cap,cur,rfl,hbg,hg,D3,yG,yh,MW⟩
  ·have hx:xs=[]:=zba (by simpa using j4.1);subst hx;by_cases hm:m=0
   ·subst hm;have hn:news=[]:=zba (by simpa using hs.size);subst hn;refine ⟨.slice none 0 0,w,?_,World.ownsRow_nil w base e inf.size,λ_=>rfl,.inl ⟨rfl,rfl,⟨rfl,rfl,rfl,zap _,λ_ _ _=>rfl⟩⟩⟩;have hf:=hs.cells w rfl;simp [Builtin.append_,run_underlying ht,run_underlying BQ,sizeOf,typeInfo,hi,hl,hf]
   ·have Ux:=grown 0 (by omega);refine ⟨_,_,?_,Ux.1,λh0=>by omega,.inr ⟨rfl,Ux.2⟩⟩;have hf:=hs.cells w.drew rfl;have Sf:¬ m=0:=hm;have LG:¬ (9223372036854775807<(m:Int)):=by omega
    have LH:¬ (281474976710656<Builtin.nextslicecap m 0*inf.bytes):=by
     have ka:=PI;rw [zbr] at ka;have:=growslice_fits (need:=m) (old:=0) (by omega) ka;omega
    simp [Builtin.append_,run_underlying ht,run_underlying BQ,sizeOf,typeInfo,zeroValue,hi,hz,hl,Sf,LG,LH,Question.forced,run_firstCells_none,hf,newRow,grownCap]
  ·by_cases ue:n+m<=cap
   ·have AE:n*inf.size+news.length<=cur.size:=by rw [hs.size,yh,←zda];exact zcq _ ue
    have ma:=run_storeCells_at P g (n*inf.size) e news 0 cur w hg (by simpa using AE) hs.one;simp only [zde] at ma;have hf:=hs.cells w rfl;refine ⟨.slice (some ⟨g,0,none⟩) (n+m) cap,w.setRow g (cur.toList.take (n*inf.size)++news++cur.toList.drop (n*inf.size+news.length)).toArray,?_,⟨hlen,.inr ⟨g,cap,_,rfl,hbg,setRow_heap w g cur _ e _ hg,ue,yG,?_,?_⟩⟩,λh0=>by subst h0;rfl,.inl ⟨rfl,by simp,⟨rfl,rfl,rfl,by simp,λk _ hk=>setRow_other w g k _ (λe=>hk (by simp [Value.ownBlock,e]))⟩⟩⟩
    ·simp [Builtin.append_,run_underlying ht,run_underlying BQ,sizeOf,typeInfo,hi,hl,ue,hf,Addr.add_lit,ma]
    ·simp only [zbs,zai,zbe,zbi,zcr];omega
    ·rw [MW,←hlen];exact zfx
   ·have holds:∀ j u,xs[j]?=some u->w.cell? ((⟨g,0,none⟩:Addr).add j)=some u:=j4.cells (g:=g) rfl;have Ux:=grown cap (by omega);refine ⟨_,_,?_,Ux.1,λh0=>by omega,.inr ⟨rfl,Ux.2⟩⟩;have hf:=hs.cells w.drew rfl;have hold:=run_firstCells_some (P:=P) w.drew inf.size n ⟨g,0,none⟩ n cap xs j4.1 (by simpa using holds);have LG:¬ (9223372036854775807<((n:Int)+(m:Int))):=by omega
    have LH:¬ (281474976710656<Builtin.nextslicecap (n+m) cap*inf.bytes):=by
     have:=growslice_fits (need:=n+m) (old:=cap) (by omega) PI;omega
    simp [Builtin.append_,run_underlying ht,run_underlying BQ,sizeOf,typeInfo,zeroValue,hi,hz,hl,ue,LG,LH,Question.forced,hold,hf,newRow,grownCap];rw [show (xs++news).toArray=xs.toArray++news.toArray from by simp,Array.append_assoc]
end q
theorem Hz {w:World} {lim:Nat->Nat} {base e sz n:Nat} {v:Value} {xs:List Value} {rows:List (List D)} (ho:w.ownsRow base e sz v n xs) (hn:rows.length=n) (hr:∀ row∈rows,row.length=sz)
  (hl:∀ b,v.ownBlock=some b->n*sz<=lim b) (hx:∀ (j:Nat) u c,xs[j]?=some u->rows.flatten[j]?=some c->dw lim w c u/\u.oneCell'=true):dw lim w (.sl sz rows) v:=by
 rcases ho.2 with ⟨rfl,rfl⟩|⟨g,cap,cur,rfl,hb,hg,D3,yG,yh,MW⟩
 ·have:rows=[]:=zba hn;subst this;exact .nil sz _
 ·subst hn;have Dd:=iK hr;have r3:=ho.cells (g:=g) rfl;refine .sl sz rows g 0 cap D3 hr ?_ ?_
  ·intro k hk;have Sg:k<xs.length:=by rw [ho.1];exact hk
   have h1:=r3 k xs[k] (zae Sg);rw [Addr.add_lit] at h1;have Sd:k<rows.flatten.length:=by rw [Dd];exact hk
   exact ⟨by have:=hl g rfl;omega,xs[k],h1,(hx k _ _ (zae Sg) (zae Sd)).2⟩
  ·intro i j row c u hi hj hu;have cE:=Hu (zad.1 hi).1 (show j<sz by rw [←hr row (zbh hi)];exact (zad.1 hj).1);have Sg:i*sz+j<xs.length:=by rw [ho.1];exact cE
   have h1:=r3 _ xs[i*sz+j] (zae Sg);rw [Addr.add_lit,hu] at h1;cases h1;exact (hx _ _ _ (zae Sg) (kc hr hi hj)).1
structure zO (P:Program) (lim:Nat->Nat) (w:World) (sz:Nat) (u:Value) (rs:List (List D)) (news:List Value):Prop where
 src:Src P w sz u rs.length news
 rows:∀ row∈rs,row.length=sz
 rep:∀ (j:Nat) v c,news[j]?=some v->rs.flatten[j]?=some c->dw lim w c v/\v.oneCell'=true
theorem sV {P:Program} {lim:Nat->Nat} {w:World} {sz:Nat} {u:Value} {rows:List (List D)} (h:dw lim w (.sl sz rows) u):∃ news,zO P lim w sz u rows news:=by
 obtain ⟨A,c,vs,rfl,hl,hA,FQ,eR,hr,mb⟩:=PF h;have Dd:=iK hr;refine ⟨vs,⟨rfl,λw' hw=>?_,hl,λv hv=>?_⟩,hr,mb⟩
 ·cases A with
  | none =>
   have:vs=[]:=zba (by rw [hl,(FQ rfl).1];simp);subst this;simp [Builtin.firstCells]
  | some ad =>
   rcases hA with h0|⟨b,off,BR⟩
   ·have:vs=[]:=zba (by rw [hl,h0];simp);subst this;simp [Builtin.firstCells,h0,loadCells,loadCellsFrom]
   ·cases BR;refine run_firstCells_some w' sz rows.length _ _ c vs hl λj v hv=>?_
    rw [Addr.add_lit];have:=eR b off rfl j v hv;simpa [World.cell?,hw] using this
 ·obtain ⟨j,hj⟩:=zcy.1 hv;have Jm:=(zad.1 hj).1;exact (mb j v _ hj (zae (by omega))).2
section append
variable {P:Program} {g:bT} {base:Nat} {w:World} {st:St}
def gD.LI (x:gD):Nat:=if x.own=none then x.n*x.sz else 0
theorem s8 {x:gD} (h:x.own=none):x.LI=x.n*x.sz:=by simp [gD.LI,h]
theorem AF {x:gD} {p:List (List D)} (h:x.own=some p):x.LI=0:=by simp [gD.LI,h]
theorem Inv.JA (h:Inv g base w st) {t:Nat} {x:gD} (hx:st.ar[t]?=some x) {b:Nat} (hb:(g.tk t).ownBlock=some b):g.lim b=x.LI:=by
 obtain ⟨e,sz,n,own⟩:=x;cases own with
 | none=>obtain ⟨xs,_,h2⟩:=h.tail t e sz n hx;exact h2 b hb
 | some rows=>obtain ⟨xs,_,h2,_⟩:=h.own t e sz n rows hx;exact h2 b hb
theorem Inv.Oh (h:Inv g base w st) {tk:Nat} {x x':gD} (eN:st.ar[tk]?=some x) {v':Value} {w':World} {TD:List Value} (j0:w'.ownsRow base x'.e x'.sz v' x'.n TD)
  (hc:(v'.ownBlock=(g.tk tk).ownBlock/\w'.heap.size=w.heap.size/\w.grownBy w' (g.tk tk).ownBlock)∨(v'.ownBlock=some w.heap.size/\Below w.heap.size w w'))
  (Si:x.own=none->x'.own=none/\x'.e=x.e/\x'.sz=x.sz/\x.n<=x'.n/\(x'.n=x.n->v'=g.tk tk)/\(∀ b,(g.tk tk).ownBlock=some b->v'.ownBlock=some b->∀ off,off<x.n*x.sz->w'.cell? ⟨b,off,none⟩=w.cell? ⟨b,off,none⟩))
  (hprv:∀ rows,x.own=some rows->∀ bw,x'.own=some bw->x'.sz=x.sz/\x.n<=x'.n/\(x.n=x'.n->v'=g.tk tk))
  (mb:∀ bw,x'.own=some bw->de g.lim w x'.sz x'.n bw TD) :
  ∃ g',g'.tk tk=v'/\(∀ b,v'.ownBlock=some b->g'.lim b=x'.LI)/\Inv g' base w' (st.bC tk x')/\Step base g w st g' w' (st.bC tk x'):=by
 have D4:∀ b,(g.tk tk).ownBlock=some b->g.lim b=x.LI:=λb hb=>h.JA eN hb
 have cE:∀ b,(g.tk tk).ownBlock=some b->base<=b/\b<w.heap.size:=λb hb=>h.vT eN hb
 have hlen:tk<st.ar.length:=(zad.1 eN).1;have ey:w.heap.size<=w'.heap.size:=by rcases hc with ⟨_,h1,_⟩|⟨_,h1⟩;omega;exact h1.size
 have MR:w'.os=w.os/\w'.tape=w.tape/\w'.output=w.output:=by rcases hc with ⟨_,_,h1⟩|⟨_,h1⟩ <;> exact ⟨h1.os,h1.tape,h1.output⟩
 have mc:∀ k,k<w.heap.size->(g.tk tk).ownBlock≠some k->w'.heap[k]?=w.heap[k]?:=by
  intro k hk eT;rcases hc with ⟨_,_,h1⟩|⟨_,h1⟩
  ·exact h1.block k hk (zcf eT)
  ·exact h1.block k hk
 have s6:∀ k,k<w.heap.size->(g.tk tk).ownBlock≠some k->v'.ownBlock≠some k:=by
  intro k hk eT;rcases hc with ⟨h1,_,_⟩|⟨h1,_⟩ <;> rw [h1]
  ·exact eT
  ·intro he;cases he;omega
 let g':bT:=⟨λb=>if v'.ownBlock=some b then x'.LI else g.lim b,g.ob,λt=>if t=tk then v' else g.tk t⟩
 have xn:∀ b,v'.ownBlock=some b->g'.lim b=x'.LI:=λb hb=>by show (if _ then _ else _)=_;rw [zab hb]
 have lV:∀ b,v'.ownBlock≠some b->g'.lim b=g.lim b:=λb hb=>by show (if _ then _ else _)=_;rw [zaa hb]
 have yH:g'.tk tk=v':=by show (if tk=tk then v' else _)=_;rw [zab rfl]
 have vW:∀ t,t≠tk->g'.tk t=g.tk t:=λt ht=>by show (if t=tk then v' else _)=_;rw [zaa ht]
 have AG:∀ k,k<base->(g.tk tk).ownBlock≠some k:=λk hk he=>by have:=(cE k he).1;omega
 have nf:Below base w w':=⟨MR.1,MR.2.1,MR.2.2,ey,λk hk=>mc k (zbk hk h.base) (AG k hk)⟩;have XW:x.own=none->x.LI<=x'.LI:=by
  intro hx;obtain ⟨h1,_,h3,h4,_⟩:=Si hx;rw [s8 hx,s8 h1,h3];exact zcq _ h4
 have hzero:x.own≠none->x.LI=0:=λhx=>by cases ho:x.own with|none=>exact absurd ho hx|some p=>exact AF ho
 have AI:Lm g.lim w g'.lim w':=by
  refine ⟨ey,λb hb=>?_,λb off hb ho=>?_⟩
  ·by_cases he:v'.ownBlock=some b
   ·rw [xn b he];have ka:(g.tk tk).ownBlock=some b:=by
     rcases hc with ⟨h1,_,_⟩|⟨h1,_⟩
     ·rw [←h1];exact he
     ·rw [h1] at he;cases he;omega
    rw [D4 b ka];by_cases hx:x.own=none
    ·exact XW hx
    ·rw [hzero hx];exact zfh _
   ·rw [lV b he];exact zap _
  ·by_cases he:(g.tk tk).ownBlock=some b
   ·rcases hc with ⟨h1,_,_⟩|⟨_,h1⟩
    ·rw [D4 b he] at ho;by_cases hx:x.own=none
     ·rw [s8 hx] at ho;exact (Si hx).2.2.2.2.2 b he (h1.trans he) off ho
     ·rw [hzero hx] at ho;omega
    ·exact h1.cell (p:=⟨b,off,none⟩) hb
   ·exact World.cell?_of_block (w:=w) (a:=⟨b,off,none⟩) (mc b hb he)
 have vX:∀ t y,t≠tk->(st.bC tk x').ar[t]?=some y->st.ar[t]?=some y:=λt y ht hy=>by simpa [St.bC,zbj,zcf ht] using hy
 have HA:∀ y,(st.bC tk x').ar[tk]?=some y->y=x':=λy hy=>by
  have:x'=y:=by simpa [St.bC,zbj,hlen] using hy
  exact this.symm
 have hs:uB g w st g' w' (st.bC tk x'):=by
  refine ⟨AI,λ_ _=>rfl,zap _,λt e' Jo n' ht=>?_,by simp [St.bC],λt y bw kU hy ho=>?_⟩
  ·by_cases wP:t=tk
   ·subst wP;rw [eN] at ht;cases ht;obtain ⟨h1,h2,h3,h4,h5,_⟩:=Si rfl;obtain ⟨e1,s1,n1,o1⟩:=x';simp only at h1 h2 h3 h4 h5;subst h1;subst h2;subst h3;exact ⟨n1,by simp [St.bC,zbj,hlen],h4,λhe=>by rw [yH];exact h5 he⟩
   ·exact ⟨n',by simp [St.bC,zbj,zcf wP,ht],zap _,λ_=>vW t wP⟩
  ·by_cases wP:t=tk
   ·subst wP;have:=HA y hy;subst this;cases hx:x.own with
    | none=>rw [(Si hx).1] at ho;cases ho
    | some rows =>
     obtain ⟨h1,h2,h3⟩:=hprv rows hx bw ho;exact ⟨x,rows,eN,hx,h1.symm,h2,λe=>by rw [yH];exact h3 e⟩
   ·exact ⟨y,bw,vX t y wP hy,ho,rfl,zap _,λ_=>vW t wP⟩
 have AJ:∀ o,st.live o->g.ob o<w.heap.size/\(g.tk tk).ownBlock≠some (g.ob o):=λo ho=>⟨(h.vV ho).1,h.iv tk _ o eN ho⟩
 have RX:∀ o y,st.aP[o]?=some (.raw y)->base<=g'.ob o/\g'.lim (g'.ob o)=0/\w'.heap[g'.ob o]?=some y:=by
  intro o y hx;obtain ⟨h1,h2,h3⟩:=h.raw o y hx;obtain ⟨k1,k2⟩:=AJ o ⟨_,hx,by simp⟩;exact ⟨h1,(lV _ (s6 _ k1 k2)).trans h2,by show w'.heap[g.ob o]?=_;rw [mc _ k1 k2];exact h3⟩
 have gX:∀ t y,t≠tk->(st.bC tk x').ar[t]?=some y->∀ b,(g.tk t).ownBlock=some b->b<w.heap.size/\(g.tk tk).ownBlock≠some b/\v'.ownBlock≠some b:=λt y wP hy b hb=>by
  have h1:=(h.vT (vX t y wP hy) hb).2;have h2:=h.nK t tk _ _ b wP (vX t _ wP hy) eN hb;exact ⟨h1,h2,s6 b h1 h2⟩
 refine ⟨g',yH,xn,⟨zdg h.base ey,?_,?_,RX,h.ne,?_,?_,?_,h.C9.below nf,?_⟩,⟨hs,nf,λb hb=>lV b (s6 b (zbk hb h.base) (AG b hb)),λb hb hn=>?_,λb hb hw=>?_⟩⟩
 ·intro o ty cs hx;obtain ⟨h1,h2,vs,h3,h4,h5⟩:=h.row o ty cs hx;obtain ⟨k1,k2⟩:=AJ o ⟨_,hx,by simp⟩;exact ⟨h1,(lV _ (s6 _ k1 k2)).trans h2,vs,by show w'.heap[g.ob o]?=_;rw [mc _ k1 k2];exact h3,h4,λi c u hc hu=>⟨(h5 i c u hc hu).1.mono hs,(h5 i c u hc hu).2⟩⟩
 ·intro o es hx;obtain ⟨h1,ms,c,h3,h4,h5,h6⟩:=h.map o es hx;obtain ⟨k1,k2⟩:=AJ o ⟨_,hx,by simp⟩;exact ⟨h1,ms,c,by show w'.heap[g.ob o]?=_;rw [mc _ k1 k2];exact h3,h4,λi k y m a b=>⟨(h5 i k y m a b).1,(h5 i k y m a b).2.mono hs⟩,h6⟩
 ·intro t e' Jo n' ht;by_cases wP:t=tk
  ·subst wP;have:=HA _ ht;subst this;rw [yH];exact ⟨_,j0,λb hb=>(xn b hb).trans (s8 rfl)⟩
  ·obtain ⟨ys,k1,k2⟩:=h.tail t e' Jo n' (vX t _ wP ht);rw [vW t wP];exact ⟨ys,e8 k1 λb hb=>mc b (gX t _ wP ht b hb).1 (gX t _ wP ht b hb).2.1,λb hb=>by rw [lV b (gX t _ wP ht b hb).2.2];exact k2 b hb⟩
 ·intro t t' y y' b eT ht r5 hb;by_cases h1:t=tk
  ·subst h1;rw [yH] at hb;rw [vW t' (zcf eT)];intro ka;exact (gX t' _ (zcf eT) r5 b ka).2.2 hb
  ·rw [vW t h1] at hb;by_cases h2:t'=tk
   ·subst h2;rw [yH];exact (gX t _ h1 ht b hb).2.2
   ·rw [vW t' h2];exact h.nK t t' _ _ b eT (vX t _ h1 ht) (vX t' _ h2 r5) hb
 ·intro t y o ht ho;obtain ⟨k1,k2⟩:=AJ o ho;by_cases h1:t=tk
  ·subst h1;rw [yH];exact s6 _ k1 k2
  ·rw [vW t h1];exact h.iv t y o (vX t _ h1 ht) ho
 ·intro t e' Jo n' bw ht;by_cases wP:t=tk
  ·subst wP;have:=HA _ ht;subst this;rw [yH];exact ⟨_,j0,λb hb=>(xn b hb).trans (AF rfl),(mb bw rfl).mono AI⟩
  ·obtain ⟨ys,k1,k2,k3⟩:=h.own t e' Jo n' bw (vX t _ wP ht);rw [vW t wP];exact ⟨ys,e8 k1 λb hb=>mc b (gX t _ wP ht b hb).1 (gX t _ wP ht b hb).2.1,λb hb=>by rw [lV b (gX t _ wP ht b hb).2.2];exact k2 b hb,k3.mono AI⟩
 ·have eT:(g.tk tk).ownBlock≠some b:=λe=>hn (.inr ⟨tk,x,eN,e⟩)
  exact ⟨mc b hb eT,lV b (s6 b hb eT)⟩
 ·rcases hw with ⟨o,h1,h2⟩|⟨t,y,h1,h2⟩
  ·exact .inl ⟨o,h1,h2⟩
  ·by_cases wP:t=tk
   ·subst wP;rw [yH] at h2;rcases hc with ⟨c1,_,_⟩|⟨c1,_⟩
    ·exact .inr ⟨t,x,eN,by rw [←c1];exact h2⟩
    ·rw [c1] at h2;cases h2;omega
   ·rw [vW t wP] at h2;exact .inr ⟨t,y,vX t y wP h1,h2⟩
theorem Inv.append (h:Inv g base w st) {tk e sz n m:Nat} (eN:st.ar[tk]?=some ⟨e,sz,n,none⟩) {v':Value} {w':World} {xs news:List Value} (j4:w.ownsRow base e sz (g.tk tk) n xs) (j0:w'.ownsRow base e sz v' (n+m) (xs++news))
  (Sf:m=0->v'=g.tk tk)
  (hc:(v'.ownBlock=(g.tk tk).ownBlock/\w'.heap.size=w.heap.size/\w.grownBy w' (g.tk tk).ownBlock)∨(v'.ownBlock=some w.heap.size/\Below w.heap.size w w')) :
  ∃ g',g'.tk tk=v'/\(∀ b,v'.ownBlock=some b->g'.lim b=(n+m)*sz)/\Inv g' base w' (st.bC tk ⟨e,sz,n+m,none⟩)/\Step base g w st g' w' (st.bC tk ⟨e,sz,n+m,none⟩):=by
 obtain ⟨g',h1,h2,h3,h4⟩:=h.Oh (x':=⟨e,sz,n+m,none⟩) eN j0 hc
  (λ_=>⟨rfl,rfl,rfl,Nat.le_add_right _ _,λhe=>Sf (by simp only at he;omega),λb he hv off ho=>by
   have hox:off<xs.length:=by rw [j4.1];exact ho
   have c1:=j4.cells he off xs[off] (zae hox);have c2:=j0.cells hv off xs[off] (by rw [zan hox];exact zae hox);rw [Addr.add_lit,zbr] at c1 c2;rw [c1,c2]⟩)
  (λrows hh=>by cases hh) (λrows hh=>by cases hh)
 exact ⟨g',h1,λb hb=>(h2 b hb).trans (s8 rfl),h3,h4⟩
theorem Inv.sB (h:Inv g base w st) (x:gD) {v:Value} {w':World} {xs:List Value} (j4:w'.ownsRow base x.e x.sz v x.n xs)
  (hc:(w'=w/\v.ownBlock=none)∨(v.ownBlock=some w.heap.size/\Below w.heap.size w w'))
  (mb:∀ rows,x.own=some rows->de g.lim w x.sz x.n rows xs) :
  ∃ g',g'.tk st.ar.length=v/\(∀ b,v.ownBlock=some b->g'.lim b=x.LI)/\(∀ b,b<w.heap.size->g'.lim b=g.lim b)/\Inv g' base w' (st.tok x)/\Step base g w st g' w' (st.tok x):=by
 have nf:Below w.heap.size w w':=by
  rcases hc with ⟨rfl,_⟩|⟨_,h1⟩
  ·exact .refl _ _
  ·exact h1
 have Xf:∀ b,v.ownBlock=some b->b=w.heap.size:=by
  intro b hb;rcases hc with ⟨_,h1⟩|⟨h1,_⟩
  ·rw [h1] at hb;cases hb
  ·rw [h1] at hb;cases hb;rfl
 let g':bT:=⟨λb=>if v.ownBlock=some b then x.LI else g.lim b,g.ob,λt=>if t=st.ar.length then v else g.tk t⟩
 have xn:∀ b,v.ownBlock=some b->g'.lim b=x.LI:=λb hb=>by show (if _ then _ else _)=_;rw [zab hb]
 have lV:∀ b,b<w.heap.size->g'.lim b=g.lim b:=λb hb=>by
  show (if _ then _ else _)=_;rw [zaa];intro e;have:=Xf b e;omega
 have h1:g'.tk st.ar.length=v:=by show (if _ then _ else _)=_;rw [zab rfl]
 have h2:∀ t,t≠st.ar.length->g'.tk t=g.tk t:=λt ht=>by show (if _ then _ else _)=_;rw [zaa ht]
 have hold:∀ t y,(st.tok x).ar[t]?=some y->(t<st.ar.length/\st.ar[t]?=some y)∨(t=st.ar.length/\y=x):=by
  intro t y hx;have cE:=(zad.1 hx).1;simp [St.tok] at cE;by_cases ht:t<st.ar.length
  ·exact .inl ⟨ht,by simpa [St.tok,zan ht] using hx⟩
  ·have:t=st.ar.length:=by omega
   subst this;exact .inr ⟨rfl,by simpa [St.tok,zeq] using hx⟩
 have AI:Lm g.lim w g'.lim w':=⟨nf.size,λb hb=>by rw [lV b hb];exact zap _,λb off hb _=>nf.cell (p:=⟨b,off,none⟩) hb⟩
 have hs:uB g w st g' w' (st.tok x):=⟨AI,λ_ _=>rfl,zap _,λt e' Jo n ht=>by
  have cE:=(zad.1 ht).1;exact ⟨n,by simp [St.tok,zan cE,ht],zap _,λ_=>h2 t (by omega)⟩,by simp [St.tok],u4 λt y bw cE hy _=>⟨by
   rcases hold t y hy with ⟨_,hh⟩|⟨hh,_⟩
   ·exact hh
   ·omega,h2 t (by omega)⟩⟩
 have eT:∀ t y b,st.ar[t]?=some y->(g.tk t).ownBlock=some b->v.ownBlock≠some b:=λt y b hy hb hv=>by
  have:=(h.vT hy hb).2;have:=Xf b hv;omega
 refine ⟨g',h1,xn,lV,⟨zdg h.base nf.size,λo ty cs hx=>?_,λo es hx=>?_,λo y hx=>?_,h.ne,?_,?_,?_,h.C9.below (nf.mono h.base),?_⟩,⟨hs,nf.mono h.base,λb hb=>lV b (zbk hb h.base),λb hb _=>⟨nf.block b hb,lV b hb⟩,λb hb hw=>?_⟩⟩
 ·obtain ⟨k1,k2,vs,k3,k4,k5⟩:=h.row o ty cs hx;have cE:=(zaw.1 k3).1;exact ⟨k1,(lV _ cE).trans k2,vs,(nf.block _ cE).trans k3,k4,λi c u hc hu=>⟨(k5 i c u hc hu).1.mono hs,(k5 i c u hc hu).2⟩⟩
 ·obtain ⟨k1,ms,c,k3,k4,k5,k6⟩:=h.map o es hx;have cE:=(zaw.1 k3).1;exact ⟨k1,ms,c,(nf.block _ cE).trans k3,k4,λi k y m a b=>⟨(k5 i k y m a b).1,(k5 i k y m a b).2.mono hs⟩,k6⟩
 ·obtain ⟨k1,k2,k3⟩:=h.raw o y hx;have cE:=(zaw.1 k3).1;exact ⟨k1,(lV _ cE).trans k2,(nf.block _ cE).trans k3⟩
 ·intro t e' Jo n ht;rcases hold t _ ht with ⟨cE,r5⟩|⟨rfl,he⟩
  ·rw [h2 t (by omega)];obtain ⟨ys,k1,k2⟩:=h.tail t e' Jo n r5;exact ⟨ys,e8 k1 λb hb=>nf.block b (k1.lt b hb).2,λb hb=>(lV b (k1.lt b hb).2).trans (k2 b hb)⟩
  ·subst he;rw [h1];exact ⟨xs,j4,λb hb=>(xn b hb).trans (s8 rfl)⟩
 ·intro t t' y y' b o9 ht r5 hb;rcases hold t _ ht with ⟨cE,k⟩|⟨rfl,he⟩
  ·rw [h2 t (by omega)] at hb;rcases hold t' _ r5 with ⟨kU,k'⟩|⟨rfl,Aw⟩
   ·rw [h2 t' (by omega)];exact h.nK t t' y y' b o9 k k' hb
   ·rw [h1];exact eT t y b k hb
  ·rw [h1] at hb;rcases hold t' _ r5 with ⟨kU,k'⟩|⟨rfl,Aw⟩
   ·rw [h2 t' (by omega)];intro ka;exact eT t' y' b k' ka hb
   ·exact absurd rfl o9
 ·intro t y o ht ho;rcases hold t _ ht with ⟨cE,k⟩|⟨rfl,he⟩
  ·rw [h2 t (by omega)];exact h.iv t y o k ho
  ·rw [h1];intro e;have:=Xf _ e;have:=(h.vV ho).1;have e2:g'.ob o=g.ob o:=rfl;omega
 ·intro t e' Jo n bw ht;rcases hold t _ ht with ⟨cE,r5⟩|⟨rfl,he⟩
  ·rw [h2 t (by omega)];obtain ⟨ys,k1,k2,k3⟩:=h.own t e' Jo n bw r5;exact ⟨ys,e8 k1 λb hb=>nf.block b (k1.lt b hb).2,λb hb=>(lV b (k1.lt b hb).2).trans (k2 b hb),k3.mono AI⟩
  ·subst he;rw [h1];exact ⟨xs,j4,λb hb=>(xn b hb).trans (AF rfl),(mb bw rfl).mono AI⟩
 ·rcases hw with ⟨o,a1,a2⟩|⟨t,y,a1,a2⟩
  ·exact .inl ⟨o,a1,a2⟩
  ·rcases hold t _ a1 with ⟨cE,k⟩|⟨rfl,he⟩
   ·rw [h2 t (by omega)] at a2;exact .inr ⟨t,y,k,a2⟩
   ·rw [h1] at a2;have:=Xf b a2;omega
theorem Inv.HB (h:Inv g base w st) (e sz:Nat):∃ g',g'.tk st.ar.length=.slice none 0 0/\Inv g' base w (st.tok ⟨e,sz,0,none⟩)/\Step base g w st g' w (st.tok ⟨e,sz,0,none⟩):=by
 obtain ⟨g',h1,_,_,h2,h3⟩:=h.sB ⟨e,sz,0,none⟩ (World.ownsRow_nil w base _ _) (.inl ⟨rfl,rfl⟩) (λrows hh=>by cases hh);exact ⟨g',h1,h2,h3⟩
end append
section rules
variable {P:Program} {f:Ctx} {N:Nat} {S:Start} {Q:EV->St->Prop} {k:List Item} {base:Nat} {env:Env} {st:St} {ops rest:List Oper}
 {d:Option Tmp} {ty:TypeId} {pos:String} {after:Array Edge} {gd:Option (Nat×Bool)} {t t2 e:TypeId} {x y:Operand}
theorem vY {w:World} {ty sz:Nat} {inf:TypeInfo} {z:Value} {d2:TypeDesc} (ht:P.underlying t=some (.slice e)) (BQ:P.underlying t2=some d2) (FP:d2=.string∨∃ e2,d2=.slice e2) (hi:P.info? e=some inf) (hz:inf.zero=some z) (ey:inf.size=sz)
  {u:Value} {m:Nat} {news:List Value} (hs:Src P w sz u m news) (LF:m<=4611686018427387904) (hn:m*inf.bytes<=140737488355328) (A:Option Addr) :
  (m=0->(Builtin.append_ #[t,t2] ty #[.slice A 0 0,u]).run P w=.ok (.slice A 0 0) w) /\
  (m≠0->(Builtin.append_ #[t,t2] ty #[.slice A 0 0,u]).run P w=(Builtin.append_ #[t,t2] ty #[.slice none 0 0,u]).run P w):=by
 have hl:=hs.len;have hzer:(match d2 with|.int _=>true|_=>false)=false:=by rcases FP with rfl|⟨e2,rfl⟩ <;> rfl
 subst ey;constructor
 ·intro hm;subst hm;have Ln:news=[]:=zba (by simpa using hs.size);subst Ln;have hf:=hs.cells w rfl;rcases FP with rfl|⟨e2,rfl⟩ <;> cases A <;> simp [Builtin.append_,run_underlying ht,run_underlying BQ,sizeOf,typeInfo,hi,hl,hf,storeCells]
 ·intro hm;have yI:¬ (m<=0):=by omega
  have h1:∀ w',(Builtin.firstCells inf.size 0 (.slice A 0 0)).run P w'=.ok #[] w':=λw'=>by cases A <;> simp [Builtin.firstCells,loadCells,loadCellsFrom]
  have h2:∀ w',(Builtin.firstCells inf.size 0 (.slice none 0 0)).run P w'=.ok #[] w':=λw'=>by simp [Builtin.firstCells]
  have LG:¬ (9223372036854775807<(m:Int)):=by omega
  have LH:¬ (281474976710656<Builtin.nextslicecap m 0*inf.bytes):=by
   have:=growslice_fits (need:=m) (old:=0) (by omega) hn;omega
  rcases FP with rfl|⟨e2,rfl⟩ <;> simp [Builtin.append_,run_underlying ht,run_underlying BQ,sizeOf,typeInfo,hi,hl,hm,h1,h2,LG,LH,Question.forced]
theorem JB {g:bT} {w:World} {v u z:Value} {sz tk:Nat} {rows bw:List (List D)} {inf:TypeInfo} {d2:TypeDesc} (ht:P.underlying t=some (.slice e)) (BQ:P.underlying t2=some d2) (FP:d2=.string∨∃ e2,d2=.slice e2)
  (hi:P.info? e=some inf) (hz:inf.zero=some z) (ey:inf.size=sz) (qf:z.cells.size=sz) (hinv:Inv g base w st) (AK:bJ g w st (.cz sz rows tk) v) (eN:st.ar[tk]?=some ⟨e,sz,rows.length,none⟩) (GD:v=g.tk tk)
  (hn:(rows.length+bw.length)*inf.bytes<=140737488355328) (LF:rows.length+bw.length<=4611686018427387904)
  {news:List Value} (sC:zO P g.lim w sz u bw news) :
  ∃ v' g' w',(Builtin.append_ #[t,t2] ty #[v,u]).run P w=.ok v' w'/\bJ g' w' (st.bC tk ⟨e,sz,(rows++bw).length,none⟩) (.cz sz (rows++bw) tk) v'/\Inv g' base w' (st.bC tk ⟨e,sz,(rows++bw).length,none⟩) /\
   Step base g w st g' w' (st.bC tk ⟨e,sz,(rows++bw).length,none⟩):=by
 rw [show (rows++bw).length=rows.length+bw.length from zai];cases AK with
 | cz _ _ _ _ e0 n0 hd Sj Ln LJ =>
  rw [eN] at Sj;cases Sj;obtain ⟨xs,j4,zL⟩:=hinv.tail tk e sz _ eN;obtain ⟨v',w',gY,j0,Sf,hc⟩:=kX (P:=P) (ty:=ty) w ht BQ FP hi hz ey qf j4 sC.src (by simp only [maxLen];omega) hn hinv.base;obtain ⟨g',CH,PJ,dR,oY⟩:=hinv.append eN j4 j0 Sf hc;refine ⟨v',g',w',?_,?_,dR,oY⟩
  ·rw [GD];exact gY
  ·have hlen:tk<st.ar.length:=(zad.1 eN).1;obtain ⟨A,c,vs,hvA,hvl,hA,FQ,eR,RX,mb⟩:=PF hd;refine .cz sz _ tk v' e (rows.length+bw.length) (Hz j0 (by simp) ?_ (λb hb=>zfo (PJ b hb).symm) ?_) (by simp [St.bC,zbj,hlen]) (by simp) (λ_=>.inl CH.symm)
   ·intro row hr;rcases zbm.1 hr with h|h
    ·exact RX row h
    ·exact sC.rows row h
   ·intro j u c' hu rX;rw [zeg] at rX;have Dd:=iK RX;have vS:=j4.1;by_cases hj:j<xs.length
    ·rw [zan hj] at hu;rw [zan (by omega)] at rX;have hjv:j<vs.length:=by omega
     have RY:vs[j]?=some u:=by
      have e1:=zae hjv;rcases hA with h0|⟨b,off,BR⟩
      ·rw [h0] at vS;omega
      ·have c1:=eR b off BR j _ e1;have AD:(g.tk tk).ownBlock=some b/\off=0:=by
        rcases j4.2 with ⟨h1,h2⟩|⟨gb,cap,cur,h1,_⟩
        ·rw [h2] at vS;omega
        ·rw [←GD,hvA,BR] at h1;cases h1;exact ⟨by rw [←GD,hvA,BR];rfl,rfl⟩
       have c2:=j4.cells AD.1 j u hu;rw [Addr.add_lit] at c2;rw [AD.2,c2] at c1;cases c1;exact e1
     exact ⟨(mb j u c' RY rX).1.mono oY.dy.cP,(mb j u c' RY rX).2⟩
    ·rw [zav (by omega)] at hu;rw [zav (by omega)] at rX;have e1:rows.flatten.length=xs.length:=by omega
     rw [e1] at rX;exact ⟨(sC.rep _ u c' hu rX).1.mono oY.dy.cP,(sC.rep _ u c' hu rX).2⟩
theorem D5 {g:bT} {w:World} {v u z:Value} {sz tk:Nat} {rows bw:List (List D)} {inf:TypeInfo} {d2:TypeDesc} (ht:P.underlying t=some (.slice e)) (BQ:P.underlying t2=some d2) (FP:d2=.string∨∃ e2,d2=.slice e2)
  (hi:P.info? e=some inf) (hz:inf.zero=some z) (ey:inf.size=sz) (qf:z.cells.size=sz) (hinv:Inv g base w st) (AK:bJ g w st (.cz sz rows tk) v) (eN:st.ar[tk]?=some ⟨e,sz,rows.length,none⟩)
  (hn:(rows.length+bw.length)*inf.bytes<=140737488355328) (LF:rows.length+bw.length<=4611686018427387904)
  {news:List Value} (sC:zO P g.lim w sz u bw news) :
  ∃ v' g' w',(Builtin.append_ #[t,t2] ty #[v,u]).run P w=.ok v' w'/\bJ g' w' (st.bC tk ⟨e,sz,(rows++bw).length,none⟩) (.cz sz (rows++bw) tk) v'/\Inv g' base w' (st.bC tk ⟨e,sz,(rows++bw).length,none⟩) /\
   Step base g w st g' w' (st.bC tk ⟨e,sz,(rows++bw).length,none⟩):=by
 by_cases GD:v=g.tk tk
 ·exact JB ht BQ FP hi hz ey qf hinv AK eN GD hn LF sC
 cases AK with
 | cz _ _ _ _ e0 n0 hd Sj Ln LJ =>
  rw [eN] at Sj;cases Sj;obtain ⟨h0,A,hA⟩:=(LJ rfl).resolve_left GD;have PK:rows=[]:=zba h0;subst PK;simp only [zay,zbr] at hn LF;obtain ⟨q1,q2⟩:=vY (P:=P) (ty:=ty) ht BQ FP hi hz ey sC.src LF hn A;have htl':st.ar[tk]?=some ⟨e,sz,0,none⟩:=eN;have hlen:tk<st.ar.length:=(zad.1 htl').1;by_cases hm:bw.length=0
  ·have hr1:bw=[]:=zba hm;subst hr1;have mc:st.bC tk ⟨e,sz,0,none⟩=st:=by
    unfold St.bC;have:st.ar.set tk ⟨e,sz,0,none⟩=st.ar:=by
     apply zce;intro i;rw [zbj];split
     ·rename_i hi';subst hi';rw [htl']
     ·rfl
    rw [this]
   simp only [zbq,zay];rw [mc];exact ⟨v,g,w,by rw [hA];exact q1 rfl,.cz sz [] tk v e 0 hd htl' (zap _) (λ_=>.inr ⟨rfl,A,hA⟩),hinv,.refl _ _ _ _⟩
  ·obtain ⟨xs,j4,_⟩:=hinv.tail tk e sz _ htl';have Sk:xs=[]:=zba (by rw [j4.1];simp);subst Sk;obtain ⟨v',w',gY,j0,_,hc⟩:=kX (P:=P) (ty:=ty) w ht BQ FP hi hz ey qf (World.ownsRow_nil w base e sz) sC.src (by simp only [maxLen];omega) (by simpa using hn) hinv.base;have rX:v'.ownBlock=some w.heap.size/\Below w.heap.size w w':=by
    rcases hc with ⟨h1,_⟩|h
    ·exfalso;rcases j0.2 with ⟨_,h2⟩|⟨gb,cap,cur,h2,_⟩
     ·exact hm (by omega)
     ·rw [h2] at h1;cases h1
    ·exact h
   obtain ⟨g',CH,PJ,dR,oY⟩:=hinv.append (xs:=[]) htl' j4 j0 (λh=>absurd h hm) (.inr rX);have e1:([]++bw:List (List D)).length=0+bw.length:=by simp
   rw [e1];refine ⟨v',g',w',by rw [hA,q2 hm];exact gY,?_,dR,oY⟩;refine .cz sz _ tk v' e (0+bw.length) (Hz j0 (by simp) (λrow hr=>sC.rows row (by simpa using hr)) (λb hb=>zfo (PJ b hb).symm) λj u c' hu rX=>?_) (by simp [St.bC,zbj,hlen]) (by simp) (λ_=>.inl CH.symm);rw [zbx] at hu rX;exact ⟨(sC.rep _ u c' hu rX).1.mono oY.dy.cP,(sC.rep _ u c' hu rX).2⟩
theorem JC {sz tk:Nat} {rows bw:List (List D)} {inf:TypeInfo} {z:Value} {d2:TypeDesc} (ht:P.underlying t=some (.slice e)) (BQ:P.underlying t2=some d2) (FP:d2=.string∨∃ e2,d2=.slice e2)
  (hi:P.info? e=some inf) (hz:inf.zero=some z) (ey:inf.size=sz) (qf:z.cells.size=sz) (hx:cP env x=some (.cz sz rows tk)) (eN:st.ar[tk]?=some ⟨e,sz,rows.length,none⟩)
  (hn:(rows.length+bw.length)*inf.bytes<=140737488355328) (LF:rows.length+bw.length<=4611686018427387904)
  (u9:∀ (g:bT) (w:World) (tmps:Array Value),dO g w st env tmps->∃ news,zO P g.lim w sz (Act.eval ⟨tmps,[]⟩ y) bw news) :
  xl P base env st ⟨d,.call ⟨.builtin .append,#[x,y],#[t,t2]⟩,ty,pos,after,gd⟩ (.cz sz (rows++bw) tk) (st.bC tk ⟨e,sz,(rows++bw).length,none⟩):=by
 intro g w tmps hinv he;obtain ⟨news,sC⟩:=u9 g w tmps he;obtain ⟨v',g',w',gY,h1,h2,h3⟩:=D5 (ty:=ty) ht BQ FP hi hz ey qf hinv (aM he hx) eN hn LF sC;exact ⟨v',g',w',by simp [execOp,resolve,invoke,builtin,gY],h1,h2,h3⟩
theorem PM {sz tk:Nat} {rows bw:List (List D)} {inf:TypeInfo} {z:Value} {ev:EV} (ht:P.underlying t=some (.slice e)) (hi:P.info? e=some inf) (hz:inf.zero=some z) (ey:inf.size=sz) (qf:z.cells.size=sz)
  (hx:cP env x=some (.cz sz rows tk)) (eN:st.ar[tk]?=some ⟨e,sz,rows.length,none⟩) (hy:cP env y=some ev) (hs:uD ev=some (sz,bw))
  (hn:(rows.length+bw.length)*inf.bytes<=140737488355328) (LF:rows.length+bw.length<=4611686018427387904) :
  xl P base env st ⟨d,.call ⟨.builtin .append,#[x,y],#[t,t]⟩,ty,pos,after,gd⟩ (.cz sz (rows++bw) tk) (st.bC tk ⟨e,sz,(rows++bw).length,none⟩) :=
 JC ht ht (.inr ⟨e,rfl⟩) hi hz ey qf hx eN hn LF λg w tmps he=>sV (ru hs (aM he hy))
theorem Oi {sz:Nat} {bw:List (List D)} {inf:TypeInfo} {z:Value} {ev e0:EV} (ht:P.underlying t=some (.slice e)) (hi:P.info? e=some inf) (hz:inf.zero=some z) (ey:inf.size=sz) (qf:z.cells.size=sz)
  (hx:cP env x=some e0) (h0:e0=.d (.e0 sz)∨e0=.d (.ex (.slice none 0 0))) (hy:cP env y=some ev) (hs:uD ev=some (sz,bw)) (hn:bw.length*inf.bytes<=140737488355328) (LF:bw.length<=4611686018427387904) :
  zi P env st ⟨d,.call ⟨.builtin .append,#[x,y],#[t,t]⟩,ty,pos,after,gd⟩ (.d (.sl sz bw)):=by
 intro g base w tmps hinv he;have XX:dw g.lim w (.e0 sz) (Act.eval ⟨tmps,[]⟩ x):=by
  rcases h0 with rfl|rfl
  ·cases aM he hx with|d _ _ h=>exact h
  ·rw [(aM he hx).bK];exact .e0 sz none (.inl rfl)
 obtain ⟨news,sC⟩:=sV (P:=P) (ru hs (aM he hy));generalize hv:Act.eval ⟨tmps,[]⟩ x=v at XX;generalize hu:Act.eval ⟨tmps,[]⟩ y=u at sC;cases XX with
 | e0 _ A hA =>
  have hl:=sC.src.len;by_cases hm:bw.length=0
  ·have PK:bw=[]:=zba hm;subst PK;have Ln:news=[]:=zba (by simpa using sC.src.size);subst Ln;have hf:=sC.src.cells w rfl;refine .inl ⟨.slice A 0 0,g.lim,w,?_,.d _ _ (D.MP (.e0 sz A hA)),.refl _ _,λ_ _=>rfl⟩;subst ey;simp only [zay] at hl hf;cases A <;> simp [execOp,hv,hu,resolve,invoke,builtin,Builtin.append_,run_underlying ht,sizeOf,typeInfo,hi,hl,hf,storeCells]
  ·have Dd:=iK sC.rows;have XV:=grownCap_ge w bw.length 0 e;obtain ⟨dh,h1,h2,h3⟩:=MV (g:=g) (w:=w) (w0:=w.drew) (sz:=sz) (cap:=grownCap w bw.length 0 e) (rows:=bw) (vs:=news.toArray++Builtin.zeroCells z.cells (grownCap w bw.length 0 e-bw.length)) (e:=e) rfl rfl rfl rfl
    sC.rows XV (by simp [sC.src.size]) (λi c v hc hvv=>by
     have hi':i<news.length:=by have:=(zad.1 hc).1;rw [sC.src.size];omega
     rw [zdh (by simpa using hi')] at hvv;exact sC.rep i v c (by simpa using hvv) hc)
   refine .inl ⟨_,dh,_,?_,.d _ _ h1,h2,h3⟩;have hf:=sC.src.cells w.drew rfl;subst ey;have LG:¬ (9223372036854775807<(bw.length:Int)):=by omega
   have LH:¬ (281474976710656<Builtin.nextslicecap bw.length 0*inf.bytes):=by
    have:=growslice_fits (need:=bw.length) (old:=0) (by omega) hn;omega
   have Uy:(Builtin.firstCells inf.size 0 (.slice A 0 0)).run P w.drew=.ok #[] w.drew:=by cases A <;> simp [Builtin.firstCells,loadCells,loadCellsFrom]
   have yI:bw≠[]:=λhh=>hm (by rw [hh];rfl);simp [execOp,hv,hu,resolve,invoke,builtin,Builtin.append_,run_underlying ht,sizeOf,typeInfo,zeroValue,hi,hz,hl,yI,LG,LH,Question.forced,Uy,hf,newRow,grownCap]
theorem bq.tok {todo:List Item} {i e sz:Nat} (hx:lookup i env=some (.d (.ex (.slice none 0 0)))) (h:bq P f N S Q todo ((i,.cz sz [] st.ar.length)::env) (st.tok ⟨e,sz,0,none⟩)):bq P f N S Q todo env st:=by
 intro g w tmps hinv hh he hn;obtain ⟨g',h1,dR,hs⟩:=hinv.HB e sz;refine h g' w tmps dR (hh.step hs) ?_ hn;intro j y hy;unfold lookup at hy;cases hb:Nat.beq j i with
 | true =>
  rw [hb] at hy;simp only [Option.some.injEq] at hy;subst hy;have:=zau hb;subst this;obtain ⟨v,k1,k2⟩:=he j _ hx;rw [k2.bK] at k1;exact ⟨_,k1,.cz sz [] _ _ e 0 (.nil sz _) (by simp [St.tok]) (zap _) (λ_=>.inl h1.symm)⟩
 | false =>
  rw [hb] at hy;exact (he.mono hs.dy) j y hy
theorem JD {sz:Nat} {bw:List (List D)} {inf:TypeInfo} {z:Value} {ev:EV} (ht:P.underlying t=some (.slice e)) (hi:P.info? e=some inf) (hz:inf.zero=some z) (ey:inf.size=sz) (qf:z.cells.size=sz)
  (hx:cP env x=some (.d (.ex (.slice none 0 0)))) (hy:cP env y=some ev) (hs:uD ev=some (sz,bw))
  (hn:bw.length*inf.bytes<=140737488355328) (LF:bw.length<=4611686018427387904) :
  xl P base env st ⟨d,.call ⟨.builtin .append,#[x,y],#[t,t]⟩,ty,pos,after,gd⟩ (.cz sz bw st.ar.length) ((st.tok ⟨e,sz,0,none⟩).bC st.ar.length ⟨e,sz,bw.length,none⟩):=by
 intro g w tmps hinv he;obtain ⟨g1,k1,k2,k3⟩:=hinv.HB e sz;obtain ⟨news,sC⟩:=sV (P:=P) ((ru hs (aM he hy)).mono k3.dy.cP);obtain ⟨v',g',w',gY,h1,h2,h3⟩:=D5 (ty:=ty) (rows:=[]) ht ht (.inr ⟨e,rfl⟩) hi hz ey qf k2 (.cz sz [] st.ar.length (.slice none 0 0) e 0 (.nil sz _) (by simp [St.tok]) (zap _) (λ_=>.inl k1.symm)) (by simp [St.tok]) (by simpa using hn) (by simpa using LF) sC;exact ⟨v',g',w',by simp [execOp,(aM he hx).bK,resolve,invoke,builtin,gY],by simpa using h1,by simpa using h2,by simpa using k3.trans h3⟩
end rules
def lay (cells new:Array Value) (off:Nat):Array Value:=new.zipIdx.foldl (λcs (c,j)=>cs.setIfInBounds (off+j) c) cells
theorem JE (off:Nat):∀ (l:List Value) (k:Nat) (cells:Array Value),((l.zipIdx k).foldl (λ(cs:Array Value) (p:Value×Nat)=>cs.setIfInBounds (off+p.2) p.1) cells).size=cells.size /\
  ∀ i,i<cells.size->((l.zipIdx k).foldl (λ(cs:Array Value) (p:Value×Nat)=>cs.setIfInBounds (off+p.2) p.1) cells)[i]?=if off+k<=i/\i<off+k+l.length then l[i-(off+k)]? else cells[i]?
 | [],k,cells=>by simp;intro i hi h1 h2;omega
 | v::l,k,cells=>by
  obtain ⟨h1,h2⟩:=JE off l (k+1) (cells.setIfInBounds (off+k) v);rw [List.zipIdx_cons,List.foldl_cons];refine ⟨by rw [h1];simp,λi hi=>?_⟩
  rw [h2 i (by simpa using hi)];by_cases hc:off+(k+1)<=i/\i<off+(k+1)+l.length
  ·rw [zab hc,zab (by simp;omega)];have:i-(off+k)=(i-(off+(k+1)))+1:=by omega
   rw [this,List.getElem?_cons_succ]
  ·rw [zaa hc];by_cases he:i=off+k
   ·subst he;rw [zab (by simp)];simp [hi]
   ·rw [zaa (by simp;omega)];simp [zcc,zcf he]
theorem MX (cells new:Array Value) (off:Nat) (h:off+new.size<=cells.size) :
  (lay cells new off).size=cells.size/\∀ i,i<cells.size->(lay cells new off)[i]?=if off<=i/\i<off+new.size then new[i-off]? else cells[i]?:=by
 have:=JE off new.toList 0 cells;unfold lay;rw [←Array.foldl_toList,Array.toList_zipIdx];simpa using this
def D6 (lim:Nat->Nat) (w:World) (cs:List D) (vs:Array Value):Prop :=
 vs.size=cs.length/\∀ (i:Nat) c (u:Value),cs[i]?=some c->vs[i]?=some u->dw lim w c u/\u.oneCell'=true
def PN (cs:List D) (off:Nat) (new:List D):List D:=cs.take off++new++cs.drop (off+new.length)
theorem D6.lay {lim:Nat->Nat} {w:World} {cs new:List D} {vs us:Array Value} {off:Nat} (h:D6 lim w cs vs) (hn:D6 lim w new us) (hf:off+new.length<=cs.length):D6 lim w (PN cs off new) (lay vs us off):=by
 obtain ⟨h1,h2⟩:=MX vs us off (by rw [h.1,hn.1];exact hf);refine ⟨by rw [h1,h.1];simp [PN];omega,λi c u hc hu=>?_⟩
 have hi:i<vs.size:=by rw [←h1];exact (zaw.1 hu).1
 rw [h2 i hi] at hu;unfold PN at hc;have Db:=h.1;have Po:=hn.1;by_cases hA:i<off
 ·rw [zaa (by omega)] at hu;rw [zat,zan (by simp;omega),zam,zab hA] at hc;exact h.2 i c u hc hu
 ·by_cases hB:i<off+new.length
  ·rw [zab (by omega)] at hu;rw [zat,zav (by simp;omega),zan (by simp;omega)] at hc;have e1:(cs.take off).length=off:=by simp;omega
   rw [e1] at hc;exact hn.2 _ c u hc hu
  ·rw [zaa (by omega)] at hu;rw [zav (by simp;omega)] at hc;have e1:(cs.take off++new).length=off+new.length:=by simp;omega
   rw [e1,zbb] at hc;have e2:off+new.length+(i-(off+new.length))=i:=by omega
   rw [e2] at hc;exact h.2 i c u hc hu
def cellsD:EV->Option (List D)
 | .d (.ex v)=>if v.oneCell' then some [.ex v] else none
 | .d (.agg cs)=>some cs
 | .d (.sl sz rows)=>some [.sl sz rows]
 | .d (.ro cs)=>some [.ro cs]
 | .d (.e0 sz)=>some [.e0 sz]
 | .cz sz rows _=>some [.sl sz rows]
 | _=>none
theorem lj {g:bT} {w:World} {st:St} {e:EV} {cs:List D} {v:Value} (h:cellsD e=some cs) (hv:bJ g w st e v):D6 g.lim w cs v.cells:=by
 have key:∀ {e':EV} {Dc:List EV},fX e'=some Dc->Dc=cs.map EV.d->bJ g w st e' v->D6 g.lim w cs v.cells:=by
  intro e' Dc hc hm MY;obtain ⟨k1,k2⟩:=qm hc MY;refine ⟨by rw [k1,hm];simp,λi c u rX hu=>?_⟩
  have:=k2 i (.d c) u (by rw [hm,zbc,rX];rfl) hu;exact ⟨by cases this.1 with|d _ _ h=>exact h,this.2⟩
 cases e with
 | d x =>
  cases x with
  | ex u =>
   simp only [cellsD] at h;split at h
   ·rename_i h1;cases h;exact key (e':=.d (.ex u)) (by simp only [fX];rw [zab h1];rfl) rfl hv
   ·cases h
  | agg Dc=>cases h;exact key (e':=.d (.agg cs)) rfl rfl hv
  | dV=>cases h
  | sl sz rows=>cases h;exact key (e':=.d (.sl sz rows)) rfl rfl hv
  | ro Dc=>cases h;exact key (e':=.d (.ro Dc)) rfl rfl hv
  | e0 sz=>cases h;exact key (e':=.d (.e0 sz)) rfl rfl hv
  | any=>cases h
 | cz sz rows t =>
  cases h;cases hv with|cz _ _ _ _ _ _ hd=>exact key (e':=.d (.sl sz rows)) rfl rfl (.d _ _ hd)
 | ref=>cases h
 | Jk=>cases h
 | mp=>cases h
 | vR=>cases h
 | agg=>cases h
 | dV=>cases h
 | gd=>cases h
 | vc=>cases h
 | vp=>cases h
 | vw=>cases h
def De (place:Nat->Option (Nat×Nat)) (env:Env):List D->List (Nat×Operand)->Option (List D)
 | cs,[]=>some cs
 | cs,(i,x)::l=>match place i,cP env x with
  | some (off,size),some e=>match cellsD e with
   | some new=>match Nat.beq new.length size,Nat.ble (off+size) cs.length with
    | true,true=>De place env (PN cs off new) l
    | _,_=>none
   | none=>none
  | _,_=>none
theorem s9 {g:bT} {w:World} {st:St} {env:Env} {tmps:Array Value} (he:dO g w st env tmps) {place:Nat->Option (Nat×Nat)}:∀ (l:List (Nat×Operand)) (cs:List D) (vs:Array Value) (r:List D),De place env cs l=some r->D6 g.lim w cs vs ->
  ∃ us,Instr.fill place vs (l.map λp=>(p.1,Act.eval ⟨tmps,[]⟩ p.2))=some us/\D6 g.lim w r us/\r.length=cs.length
 | [],cs,vs,r,h,hc=>by simp [De] at h;subst h;exact ⟨vs,rfl,hc,rfl⟩
 | (i,x)::l,cs,vs,r,h,hc=>by
  unfold De at h;split at h
  ·rename_i off size e hp hx;split at h
   ·rename_i new hn;split at h
    ·rename_i D2 FF;have h1:=zau D2;have h2:=zaf FF;have XY:=lj hn (aM he hx);have Uz:=hc.lay XY (off:=off) (by omega);obtain ⟨us,k1,k2,k3⟩:=s9 he l _ _ r h Uz;refine ⟨us,?_,k2,by rw [k3];simp [PN];omega⟩;have hs:=XY.1;have Db:=hc.1;simp only [zao,Instr.fill,hp];rw [zaa (by simp;omega)];exact k1
    ·cases h
   ·cases h
  ·cases h
def JF (P:Program) (t:TypeId):Nat:=match P.info? t with
 | some i=>i.size
 | none=>0
def placeOf (P:Program) (fs:Array Field) (i:Nat):Option (Nat×Nat):=(fs[i]?).map λf=>(f.offset,JF P f.type)
section rules
variable {P:Program} {f:Ctx} {N:Nat} {S:Start} {Q:EV->St->Prop} {k:List Item} {base:Nat} {env:Env} {st:St} {ops rest:List Oper}
 {d:Option Tmp} {ty:TypeId} {pos:String} {after:Array Edge} {gd:Option (Nat×Bool)} {t t2 e:TypeId} {x y:Operand}
theorem ta {inf:TypeInfo} {z:Value} (hi:P.info? t=some inf) (hz:inf.zero=some z) (w:World):(zeroValue t).run P w=.ok z w:=by simp [zeroValue,typeInfo,hi,hz]
theorem CI (fs:List Field) (h:∀ f∈fs,(P.info? f.type).isSome) (w:World):(fs.mapM (λf=>do pure (f.offset,←sizeOf f.type):Field->Sem (Nat×Nat))).run P w=.ok (fs.map λf=>(f.offset,JF P f.type)) w:=by
 induction fs with
 | nil=>rfl
 | cons f fs ih =>
  obtain ⟨i,hi⟩:=Option.isSome_iff_exists.1 (h f (by simp));have ih':=ih (λg hg=>h g (by simp [hg]));simp only [List.mapM_cons,Sem.run_bind,pf hi,Result.andThen_ok,Sem.run_pure,ih',zao,JF,hi]
theorem Sl {fs:Array Field} {inf:TypeInfo} {z:Value} {zs r:List D} {l:List (Nat×Operand)} (ht:P.underlying t=some (.struct fs)) (hi:P.info? t=some inf) (hz:inf.zero=some z) (qf:cellsD (.d (cv z))=some zs)
  (Sn:fs.toList.all (λf=>(P.info? f.type).isSome)=true) (hl:De (placeOf P fs) env zs l=some r):aK P env st ⟨d,.build t l.toArray,ty,pos,after,gd⟩ (.d (.agg r)):=by
 intro g base w tmps hinv he;have zN:=lj (g:=g) (w:=w) (st:=st) qf (.d _ _ (qj _ _ z));obtain ⟨us,h1,h2,h3⟩:=s9 he l zs z.cells r hl zN;refine ⟨.agg us,.d _ _ (.agg r us h2.1 (λi u hu=>?_) λi c u hc hu=>(h2.2 i c u hc hu).1),λw' hb=>?_⟩
 ·have hi':i<r.length:=by rw [←h2.1];exact (zaw.1 hu).1
  exact (h2.2 i _ u (zae hi') hu).2
 ·have UA:(fs.mapM (λf=>do pure (f.offset,←sizeOf f.type):Field->Sem (Nat×Nat))).run P w'=.ok (fs.toList.map λf=>(f.offset,JF P f.type)).toArray w':=by
   rw [←Array.toArray_toList (xs:=fs),zfe];simp only [Sem.run_map,CI (P:=P) fs.toList (λf hf=>zbd.1 Sn f hf) w',Result.andThen_ok]
  have LK:(λi:Nat=>((fs.toList.map λf=>(f.offset,JF P f.type)).toArray)[i]?)=placeOf P fs:=by
   funext i;simp [placeOf]
  simp only [execOp,Instr.build,Sem.run_bind,ta hi hz,Result.andThen_ok,run_underlying ht,UA,zee];rw [LK];simp [h1]
theorem AL {len sz:Nat} {inf:TypeInfo} {z:Value} {zs:List D} {rows:List (List D)} {l:List (Nat×Operand)} (ht:P.underlying t=some (.slice e)) (hi:P.info? e=some inf) (fE:inf.size=sz) (hz:inf.zero=some z) (qf:z.cells.size=sz)
  (hlen:0<len) (xo:len*sz<=16777216) (CJ:(List.replicate len zs).flatten.length=len*sz) (MZ:cellsD (.d (cv z))=some zs)
  (hl:De (λi=>some (i*sz,sz)) env (List.replicate len zs).flatten l=some rows.flatten) (hr:rows.all (λr=>Nat.beq r.length sz)=true) (hn:rows.length=len) (Lo:0<sz) :
  zi P env st ⟨d,.buildSlice t len l.toArray,ty,pos,after,gd⟩ (.d (.sl sz rows)):=by
 intro g base w tmps hinv he;have zN:=lj (g:=g) (w:=w) (st:=st) MZ (.d _ _ (qj _ _ z));have Pp:zs.length=sz:=by rw [←zN.1,qf]
 have jv:∀ row∈rows,row.length=sz:=by
  intro row hm;rw [zbd] at hr;exact zau (hr row hm)
 have r3:D6 g.lim w (List.replicate len zs).flatten ((Array.range (len*sz)).map (z.cells[· % z.cells.size]!)):=by
  refine ⟨by simp [CJ],λi c u hc hu=>?_⟩;have nL:i<len*sz:=by rw [←CJ];exact (zad.1 hc).1
  have xp:i % sz<sz:=zed _ Lo;have hdiv:i / sz<len:=zdp (by rw [zdi];exact nL);have LD:i=i / sz*sz+i % sz:=by rw [zdi];exact (zel i sz).symm
  have hf:=kc (rows:=List.replicate len zs) (sz:=sz) (i:=i / sz) (j:=i % sz) (row:=zs) (c:=zs[i % sz]'(by omega)) (by intro row hm;rw [List.eq_of_mem_replicate hm];exact Pp) (by simp [List.getElem?_replicate,hdiv]) (zae (by omega));rw [←LD,hc] at hf;have UB:zs[i % sz]?=some c:=by cases hf;exact zae (by omega)
  have XZ:z.cells[i % sz]?=some u:=by
   have kU:i % sz<z.cells.size:=by omega
   have:((Array.range (len*sz)).map (z.cells[· % z.cells.size]!))[i]?=some (z.cells[i % z.cells.size]!):=by simp [nL]
   rw [this] at hu;cases hu;rw [qf,zdv z.cells (i % sz) kU,zbg kU]
  exact zN.2 _ c u UB XZ
 obtain ⟨us,h1,h2,h3⟩:=s9 he l _ _ _ hl r3;have Dd:=iK jv;obtain ⟨dh,k1,k2,k3⟩:=MV (g:=g) (w:=w) (w0:=w) (sz:=sz) (cap:=len) (rows:=rows) (vs:=us) (e:=e) rfl rfl rfl rfl jv (by omega) (by rw [h2.1,Dd];exact zap _) h2.2;refine .inl ⟨.slice (some ⟨w.heap.size,0,none⟩) len len,dh,_,?_,.d _ _ (by rw [hn] at k1;exact k1),k2,k3⟩;subst fE;have GF:¬ (16777216<len*inf.size):=by omega
 have eT:¬ (len=0∨inf.size=0):=by omega
 have o9:¬ len*inf.size=0:=by
  intro h0;rcases Nat.mul_eq_zero.1 h0 with h|h <;> omega
 have FO:Instr.fill (λi=>some (i*inf.size,inf.size)) (Array.map (λx=>z.cells[x % z.cells.size]!) (Array.range (len*inf.size))) (List.map (λp=>(p.1,Act.eval ⟨tmps,[]⟩ p.2)) l)=some us:=h1;simp [execOp,Instr.buildSlice,run_underlying ht,pf hi,GF,o9,ta hi hz,FO,newRow]
theorem dJ {inf:TypeInfo} (ht:P.underlying t=some (.slice e)) (hi:P.info? e=some inf) :
  zi P env st ⟨d,.buildSlice t 0 #[],ty,pos,after,gd⟩ (.d (.e0 inf.size)):=by
 intro g base w tmps hinv he;refine .inl ⟨.slice (some ⟨w.heap.size,0,none⟩) 0 0,λb=>g.lim b,w.alloc (.cells #[] e),?_,.d _ _ (.e0 _ _ (.inr ⟨_,_,rfl⟩)),(Below.refl _ w).alloc (zap _) _,λ_ _=>rfl⟩;simp [execOp,Instr.buildSlice,run_underlying ht,pf hi,newRow,Instr.fill];rw [show Array.map (λ_=>(default:Value)) (Array.range 0)=#[] from by simp [Array.range_zero']]
end rules
def tmpsOf:List Operand->List Tmp
 | []=>[]
 | .tmp t::l=>t::tmpsOf l
 | _::l=>tmpsOf l
def D7:Op->List Tmp
 | .move x|.assign x|.box _ x|.load _ x|.nilCheck x|.unOp _ _ x|.convert _ _ x|.sliceToArrayPointer _ x|.makeInterface _ x
 | .makeChan _ x|.fieldAddr _ x _|.field _ x _|.range _ x|.next x _|.entry x|.typeAssert x _ _ _|.extract x _|.panic x|.recv _ x _=>tmpsOf [x]
 | .pick c a b=>tmpsOf [c,a,b]
 | .build _ ps|.buildSlice _ _ ps=>tmpsOf (ps.toList.map (·.2))
 | .store _ a v|.binOp _ _ a v _|.makeSlice _ a v|.indexAddr _ a v|.index _ a v|.lookup _ a v _|.mapEntry _ a v|.send a v=>tmpsOf [a,v]
 | .makeFunc _ first captured=>tmpsOf (first.toList++captured.toList)
 | .makeMap _ r=>tmpsOf r.toList
 | .slice _ x l h m=>tmpsOf (x::(l.toList++h.toList++m.toList))
 | .mapUpdate _ m k v|.entryStore _ m k v|.insert _ m k v=>tmpsOf [m,k,v]
 | .call c=>tmpsOf ((match c.callee with|.value f=>[f]|.invoke r _=>[r]|.builtin _=>[])++c.args.toList)
 | _=>[]
def JG (l:List Oper) (o:Oper):List Tmp:=match o.guard with
 | none=>D7 o.op
 | some (j,_)=>match (l[j]?).bind (·.dst) with
  | some t=>t::D7 o.op
  | none=>D7 o.op
def BS (env:Env):List Tmp->Env
 | []=>[]
 | t::ts=>match lookup t env with
  | some x=>(t,x)::BS env ts
  | none=>BS env ts
def mf (l:List Oper) (o:Oper) (env:Env):Env:=BS env (JG l o)
theorem tb {env:Env} {t:Tmp} {y:EV}:∀ {ts:List Tmp},lookup t (BS env ts)=some y->t∈ts/\lookup t env=some y
 | [],h=>by simp [BS,lookup] at h
 | s::ts,h=>by
  unfold BS at h;split at h
  ·rename_i x hx;unfold lookup at h;cases hb:Nat.beq t s with
   | true =>
    rw [hb] at h;have:=zau hb;subst this;exact ⟨by simp,hx.trans h⟩
   | false =>
    rw [hb] at h;obtain ⟨h1,h2⟩:=tb h;exact ⟨by simp [h1],h2⟩
  ·obtain ⟨h1,h2⟩:=tb h;exact ⟨by simp [h1],h2⟩
def uE (acc:List Nat):List Edge->Nat
 | []=>0
 | e::es=>(if Region.binds .any e then 2 ^ e.on ||| acc.getD e.on 0 else 0) ||| uE acc es
def dS:List Oper->List Nat->List Nat
 | [],acc=>acc
 | o::l,acc=>dS l (acc++[uE acc o.after.toList])
def va (listed:Array Bool) (i m:Nat):Prop:=listed.getD i false=true->∀ j,m.testBit j=true->listed.getD j false=true
def vZ (ops:List Oper) (listed:Array Bool):Prop:=∀ (i:Nat) o,ops[i]?=some o->listed.getD i false=true->∀ e∈o.after,Region.binds .any e=true->listed.getD e.on false=true
theorem uf {listed:Array Bool} {acc:List Nat} (h:∀ (k:Nat) m,acc[k]?=some m->va listed k m):∀ (es:List Edge),(∀ e∈es,Region.binds .any e=true->listed.getD e.on false=true)->∀ j,(uE acc es).testBit j=true->listed.getD j false=true
 | [],_,j,hj=>by simp [uE] at hj
 | e::es,he,j,hj=>by
  unfold uE at hj;rw [Nat.testBit_or,zbv] at hj;rcases hj with hj|hj
  ·split at hj
   ·rename_i hb;have hon:=he e (by simp) hb;rw [Nat.testBit_or,zbv] at hj;rcases hj with hj|hj
    ·rw [Nat.testBit_two_pow] at hj;have:e.on=j:=by simpa using hj
     rw [←this];exact hon
    ·rw [zcb] at hj;cases hm:acc[e.on]? with
     | none=>rw [hm] at hj;simp at hj
     | some m=>rw [hm] at hj;exact h e.on m hm hon j hj
   ·simp at hj
  ·exact uf h es (λe' Aw=>he e' (by simp [Aw])) j hj
theorem v7 {ops:List Oper} {listed:Array Bool} (hc:vZ ops listed):∀ (l:List Oper) (acc:List Nat),(∀ j:Nat,l[j]?=ops[acc.length+j]?)->(∀ (k:Nat) m,acc[k]?=some m->va listed k m) ->
  ∀ (k:Nat) m,(dS l acc)[k]?=some m->va listed k m
 | [],acc,_,h=>h
 | o::l,acc,hl,h=>by
  unfold dS;refine v7 hc l _ (λj=>by have:=hl (j+1);simpa [zch,zdd 1 j] using this) λk m hk=>?_;by_cases cE:k<acc.length
  ·rw [zan cE] at hk;exact h k m hk
  ·have MQ:=(zad.1 hk).1;simp at MQ;have:k=acc.length:=by omega
   subst this;have:m=uE acc o.after.toList:=by simpa [zeq] using hk
   subst this;intro HC;have ho:ops[acc.length]?=some o:=by simpa using (hl 0).symm
   exact uf h _ (λe he hb=>hc _ o ho HC e (by simpa using he) hb)
theorem v8 {ops:List Oper} {listed:Array Bool} (hc:vZ ops listed) {i:Nat} {o:Oper} (ho:ops[i]?=some o) (hr:∀ e∈o.after,Region.binds .any e=true->listed.getD e.on false=true) :
  ∀ j,((dS ops []).getD i 0).testBit j=true->listed.getD j false=true:=by
 -- list it: the greater set is closed,too,but for i itself: go by the mask's own making
 have key:∀ (l:List Oper) (acc:List Nat),(∀ j:Nat,l[j]?=ops[acc.length+j]?)->(∀ (k:Nat) m,acc[k]?=some m->va listed k m)->(acc.length<=i) ->
   ∃ UC,(dS l acc)[i]?=some (uE UC o.after.toList)/\∀ (k:Nat) m,UC[k]?=some m->va listed k m:=by
  intro l
  induction l with
  | nil =>
   intro acc hl _ hle;have:=hl (i-acc.length);rw [show acc.length+(i-acc.length)=i by omega,ho] at this;simp at this
  | cons o' l ih =>
   intro acc hl hg hle;have RW:∀ j:Nat,l[j]?=ops[(acc++[uE acc o'.after.toList]).length+j]?:=λj=>by have:=hl (j+1);simpa [zch,zdd 1 j] using this
   have hg':∀ (k:Nat) m,(acc++[uE acc o'.after.toList])[k]?=some m->va listed k m:=by
    intro k m hk;by_cases cE:k<acc.length
    ·rw [zan cE] at hk;exact hg k m hk
    ·have MQ:=(zad.1 hk).1;simp at MQ;have:k=acc.length:=by omega
     subst this;have:m=uE acc o'.after.toList:=by simpa [zeq] using hk
     subst this;intro HC;have na:ops[acc.length]?=some o':=by simpa using (hl 0).symm
     exact uf hg _ (λe he hb=>hc _ o' na HC e (by simpa using he) hb)
   by_cases he:acc.length=i
   ·subst he;have na:o'=o:=by
     have:=hl 0;rw [zde,ho] at this;simpa using this
    subst na;have hm:∀ (l:List Oper) (acc:List Nat) (k:Nat) m,acc[k]?=some m->(dS l acc)[k]?=some m:=by
     intro l
     induction l with
     | nil=>intro acc k m h;exact h
     | cons o'' l ih' =>
      intro acc k m h;unfold dS;exact ih' _ k m (by rw [zan (zad.1 h).1];exact h)
    refine ⟨acc,?_,hg⟩;unfold dS;exact hm l _ _ _ (by simp)
   ·unfold dS;exact ih _ RW hg' (by simp;omega)
 obtain ⟨UC,h1,h2⟩:=key ops [] (by simp) (by simp) (zfh _);intro j hj;rw [zcb,h1,zcv] at hj;exact uf h2 _ (λe he hb=>hr e (by simpa using he) hb) j hj
def pg (n:Nat) (q:Nat->Bool):Bool:=(List.range n).all q
theorem cJ {n:Nat} {q:Nat->Bool} (h:pg n q=true) {i:Nat} (hi:i<n):q i=true:=by
 unfold pg at h;rw [zbd] at h;exact h i (List.mem_range.2 hi)
def ek (l:List Oper) (i:Nat):Option Tmp:=(l[i]?).bind (·.dst)
def cr (l:List Oper) (p:Nat):Bool :=
 let ms:=dS l []
 pg p (λi=>match l[i]? with
  | some o=>(JG l o).all λt=>pg p λj=>i==j || ek l j != some t || (decide (j<i) && (ms.getD i 0).testBit j) || (decide (i<j) && (ms.getD j 0).testBit i)
  | none=>true) &&
 pg p (λi=>pg p λj=>i==j || (ek l i).isNone || ek l i != ek l j) &&
 pg l.length (λi=>decide (i<p) || pg i λj=>(ms.getD i 0).testBit j) &&
 pg l.length (λi=>match l[i]? with
  | some o=>o.after.toList.all λe=>!Region.binds .any e || decide (e.on<i)
  | none=>true) &&
 decide (p<=l.length)
def ug (P:Program) (l:List Oper) (env:Env) (st:St) (o:Oper) (x:EV):Prop :=
 (o.guard=none/\zi P env st o x) ∨
 ∃ (j:Nat) (want:Bool) (t:Tmp) (c:EV) (b:Bool) (y:EV) (env':Env),o.guard=some (j,want)/\(l[j]?).bind (·.dst)=some t/\lookup t env=some c/\CF c want=some b/\x=.gd b y/\zg b env env'/\(b=true->zi P env' st o y)
def fY:Env->List Oper->List EV->Env
 | env,o::os,x::xs=>fY (env.put o.dst x) os xs
 | env,_,_=>env
def AM (P:Program) (N:Nat) (l:List Oper) (st:St):List Oper->List EV->Env->Prop
 | [],[],_=>True
 | o::os,x::xs,env=>fV N o.dst=true/\ug P l (mf l o env) st o x/\AM P N l st os xs (env.put o.dst x)
 | _,_,_=>False
theorem AM.length {P:Program} {N:Nat} {l:List Oper} {st:St}:∀ {os:List Oper} {xs:List EV} {env:Env},AM P N l st os xs env->xs.length=os.length
 | [],[],_,_=>rfl
 | o::os,x::xs,env,h=>by simp [AM.length h.2.2]
 | [],x::xs,_,h=>h.elim
 | o::os,[],_,h=>h.elim
theorem LL {env:Env} {d:Option Tmp} {x:EV} {s:Tmp}:lookup s (env.put d x)=if d=some s then some x else lookup s env:=by
 cases d with
 | none=>simp [Env.put]
 | some d =>
  simp only [Env.put,lookup];cases hb:Nat.beq s d with
  | true=>have:=zau hb;subst this;simp
  | false =>
   have:¬ d=s:=by rintro rfl;rw [zep] at hb;cases hb
   simp [this]
theorem jL {s:Tmp} {y:EV}:∀ {os:List Oper} {xs:List EV} {env:Env},xs.length=os.length->lookup s (fY env os xs)=some y ->
  (∃ (j:Nat) (o:Oper),os[j]?=some o/\xs[j]?=some y/\o.dst=some s)∨((∀ (j:Nat) (o:Oper),os[j]?=some o->o.dst≠some s)/\lookup s env=some y)
 | [],[],env,_,h=>.inr ⟨by simp,h⟩
 | o::os,x::xs,env,hl,h=>by
  rcases jL (os:=os) (xs:=xs) (env:=env.put o.dst x) (by simpa using hl) h with ⟨j,o',h1,h2,h3⟩|⟨h1,h2⟩
  ·exact .inl ⟨j+1,o',by simpa using h1,by simpa using h2,h3⟩
  ·rw [LL] at h2;split at h2
   ·rename_i hd;cases h2;exact .inl ⟨0,o,rfl,rfl,hd⟩
   ·rename_i hd;refine .inr ⟨λj o' ho=>?_,h2⟩;cases j with
    | zero=>simp at ho;subst ho;exact hd
    | succ j=>exact h1 j o' (by simpa using ho)
 | [],_::_,_,hl,_=>by simp at hl
 | _::_,[],_,hl,_=>by simp at hl
theorem AM.get {P:Program} {N:Nat} {l:List Oper} {st:St}:∀ {os:List Oper} {xs:List EV} {env:Env} {i:Nat} {o:Oper},AM P N l st os xs env->os[i]?=some o ->
  ∃ x,xs[i]?=some x/\fV N o.dst=true/\ug P l (mf l o (fY env (os.take i) (xs.take i))) st o x
 | o'::os,x::xs,env,0,o,h,ho=>by
  simp at ho;subst ho;exact ⟨x,rfl,h.1,by simpa [fY] using h.2.1⟩
 | o'::os,x::xs,env,i+1,o,h,ho=>by
  obtain ⟨y,h1,h2,h3⟩:=AM.get (i:=i) h.2.2 (by simpa using ho);exact ⟨y,by simpa using h1,h2,by simpa [fY] using h3⟩
 | [],xs,env,i,o,h,ho=>by simp at ho
 | o'::os,[],_,_,_,h,_=>h.elim
section drawn
variable {P:Program} {f:Ctx} {N:Nat} {S:Start} {Q:EV->St->Prop} {k:List Item}
theorem yi {l:List Oper} {p:Nat} (D8:∀ i,p<=i->i<l.length->∀ j,j<i->((dS l []).getD i 0).testBit j=true)
  (wQ:∀ (i:Nat) o,l[i]?=some o->∀ e∈o.after,Region.binds .any e=true->e.on<i) :
  ∀ (fuel t m:Nat) (listed:Array Bool),p<=m->m<=l.length->l.length-m<=fuel->listed.size=l.length->(∀ i,i<l.length->listed.getD i true=decide (i<m)) ->
   Region.linearise.go .any l.toArray fuel t listed []=List.range' m (l.length-m)
 | fuel,t,m,listed,hp,hm,hf,hs,hl=>by
  have hD:∀ i,i<l.length->listed.getD i false=decide (i<m):=λi hi=>by
   rw [←hl i hi];simp [zar,hs,hi]
  have rp:vZ l listed:=by
   intro i o ho PO e he hb;have hi:=(zad.1 ho).1;have:=wQ i o ho e he hb;rw [hD i hi] at PO;rw [hD _ (by omega)];simp at PO ⊢;omega
  have UD:Region.ready .any l.toArray listed=if m<l.length then [m] else []:=by
   have tV:∀ i,i∈Region.ready .any l.toArray listed↔i=m/\m<l.length:=by
    intro i;rw [mem_ready];constructor
    ·rintro ⟨h0,o,ho,oO⟩;have na:l[i]?=some o:=by simpa using ho
     have hi:=(zad.1 na).1;rw [hl i hi] at h0;have Xg:m<=i:=by simpa using h0
     have tc:=v8 rp na (λe he hb=>oO e he hb);by_cases he:i=m
     ·exact ⟨he,by omega⟩
     ·have h1:=tc m (D8 i (by omega) hi m (by omega));rw [hD m (by omega)] at h1;simp at h1
    ·rintro ⟨rfl,cE⟩;refine ⟨by rw [hl i cE];simp,l[i],by simp [cE],λe he hb=>?_⟩
     have:=wQ i l[i] (zae cE) e he hb;rw [hD _ (by omega)];simpa using this
   have TE:(Region.ready .any l.toArray listed).Nodup:=(List.nodup_range).filter _;split
   ·rename_i cE;have h1:∀ i∈Region.ready .any l.toArray listed,i=m:=λi hi=>((tV i).1 hi).1
    have h2:m∈Region.ready .any l.toArray listed:=(tV m).2 ⟨rfl,cE⟩;generalize Region.ready .any l.toArray listed=rs at *
    match rs with
    | []=>cases h2
    | [a]=>rw [h1 a (by simp)]
    | a::b::rs' =>
     have ha:=h1 a (by simp);have hb:=h1 b (by simp);simp [ha,hb] at TE
   ·rename_i cE;exact List.eq_nil_iff_forall_not_mem.2 λi hi=>cE ((tV i).1 hi).2
  cases fuel with
  | zero =>
   have:l.length-m=0:=by omega
   rw [this];rfl
  | succ fuel =>
   have UE:((List.range l.toArray.size).filter λi=>!listed.getD i true && ((l.toArray[i]?).map (·.after.all λe=>!Region.binds .any e || listed.getD e.on false)).getD false)=Region.ready .any l.toArray listed:=rfl
   simp only [Region.linearise.go,UE,UD];by_cases cE:m<l.length
   ·rw [zab cE];simp only [zal,Nat.mod_one,List.getElem?_cons_zero];rw [linearise_go_acc,yi D8 wQ fuel _ (m+1) _ (by omega) cE (by omega) (by simpa using hs) ?_]
    ·have:l.length-m=(l.length-(m+1))+1:=by omega
     rw [this,List.range'_succ];rfl
    ·intro i hi;by_cases he:i=m
     ·subst he;simp [zar,hs,hi]
     ·rw [getD_set_ne true (zcf he),hl i hi];have:(i<m)=(i<m+1):=by apply propext;omega
      simp [this]
   ·rw [zaa cE];have:l.length-m=0:=by omega
    rw [this];rfl
theorem LM {l:List Oper} {p:Nat} {env:Env} {st:St} {xs:List EV} (hp:p<=l.length)
  (X0:∀ i j t,i<p->j<p->i≠j->ek l i=some t->ek l j≠some t)
  (TF:∀ (i:Nat) o,i<p->l[i]?=some o->∀ t∈JG l o,∀ j,j<p->j≠i->ek l j=some t->(j<i/\((dS l []).getD i 0).testBit j=true)∨(i<j/\((dS l []).getD j 0).testBit i=true))
  (D8:∀ i,p<=i->i<l.length->∀ j,j<i->((dS l []).getD i 0).testBit j=true)
  (wQ:∀ (i:Nat) o,l[i]?=some o->∀ e∈o.after,Region.binds .any e=true->e.on<i)
  (Jp:AM P N l st (l.take p) xs env) (BT:cd P f N S Q l (l.drop p) k (fY env (l.take p) xs) st) :
  ∀ (FR fuel t:Nat) (listed:Array Bool) (g:bT) (w:World) (tmps:Array Value),listed.size=l.length->vZ l listed->(∀ i,p<=i->i<l.length->listed.getD i true=false) ->
   (((List.range p).filter λi=>!listed.getD i true).length=FR)->FR+(l.length-p)<=fuel->Inv g S.base w st->rm S g w st->tmps.size=N ->
   (∀ (s:Tmp),(∀ (j:Nat) x,j<p->listed.getD j false=true->ek l j=some s->xs[j]?=some x->∃ v,tmps[s]?=some v/\bJ g w st x v) /\
    ((∀ j,j<p->listed.getD j false=true->ek l j≠some s)->∀ y,lookup s env=some y->∃ v,tmps[s]?=some v/\bJ g w st y v)) ->
   ep P f (nC S Q) (.inRegion l.toArray (Region.linearise.go .any l.toArray fuel t listed [])::k) tmps w:=by
 have vS:=Jp.length;have hxl':xs.length=p:=by rw [vS];simp;omega
 intro FR
 induction FR with
 | zero =>
  intro fuel t listed g w tmps hs rp PQ AN JH hinv hh hN hJ;have oO:∀ i,i<p->listed.getD i true=true:=by
   intro i hi;have h0:=zba AN;have hn:i ∉ (List.range p).filter λi=>!listed.getD i true:=by rw [h0];simp
   rw [zcl,List.mem_range] at hn;cases hb:listed.getD i true with
   | true=>rfl
   | false=>exact absurd ⟨hi,by simp [hb]⟩ hn
  have X1:=yi D8 wQ fuel t p listed (zap _) hp (by omega) hs (λi hi=>by
   by_cases h:i<p
   ·rw [oO i h];simp [h]
   ·rw [PQ i (by omega) hi];simp [h])
  rw [X1];have Ax:(l.drop p).length=l.length-p:=by simp
  rw [←Ax];have M0:∀ i,i<p->listed.getD i false=true:=λi hi=>by
   have:=oO i hi;have cE:i<listed.size:=by omega
   simpa [zar,cE] using this
  refine BT p (λj=>by rw [zbb]) g w tmps hinv hh (λs y hy=>?_) hN;rcases jL vS hy with ⟨j,o,h1,h2,h3⟩|⟨h1,h2⟩
  ·have hj:j<p:=by have:=(zad.1 h2).1;omega
   have ho:l[j]?=some o:=by rw [zam] at h1;rw [zab hj] at h1;exact h1
   exact (hJ s).1 j y hj (M0 j hj) (by simp [ek,ho,h3]) h2
  ·refine (hJ s).2 (λj hj _ hd=>?_) y h2;cases ho:l[j]? with
   | none=>simp [ek,ho] at hd
   | some o=>exact h1 j o (by rw [zam,zab hj];exact ho) (by simpa [ek,ho] using hd)
 | succ FR ih =>
  intro fuel t listed g w tmps hs rp PQ AN JH hinv hh hN hJ;obtain ⟨fuel,rfl⟩:∃ n,fuel=n+1:=⟨fuel-1,by omega⟩
  -- an operation of the beginning that has not come up
  have hex:∃ i,i<p/\listed.getD i true=false:=by
   have:(List.range p).filter (λi=>!listed.getD i true)≠[]:=λh=>by rw [h] at AN;simp at AN
   obtain ⟨i,hi⟩:=zex _ this;rw [zcl,List.mem_range] at hi;exact ⟨i,hi.1,by simpa using hi.2⟩
  have Oj:∀ i,i<l.length->listed.getD i false=listed.getD i true:=λi hi=>by
   have cE:i<listed.size:=by omega
   simp [zar,cE]
  have UE:((List.range l.toArray.size).filter λi=>!listed.getD i true && ((l.toArray[i]?).map (·.after.all λe=>!Region.binds .any e || listed.getD e.on false)).getD false)=Region.ready .any l.toArray listed:=rfl
  -- the least such is ready
  have eT:Region.ready .any l.toArray listed≠[]:=by
   have PR:∀ n i,i<=n->i<p->listed.getD i true=false->∃ i,i<p/\listed.getD i true=false/\∀ j,j<i->listed.getD j true=true:=by
    intro n
    induction n with
    | zero=>intro i hi Ol h;exact ⟨i,Ol,h,λj hj=>by omega⟩
    | succ n X2 =>
     intro i hi Ol h;by_cases LA:∃ j,j<i/\listed.getD j true=false
     ·obtain ⟨j,hj,FU⟩:=LA;exact X2 j (by omega) (by omega) FU
     ·refine ⟨i,Ol,h,λj hj=>?_⟩;cases hb:listed.getD j true with
      | true=>rfl
      | false=>exact absurd ⟨j,hj,hb⟩ LA
   obtain ⟨i0,h0,h1⟩:=hex;obtain ⟨i,HD,JI,nf⟩:=PR i0 i0 (zap _) h0 h1;have nL:i<l.length:=by omega
   have:i∈Region.ready .any l.toArray listed:=by
    rw [mem_ready];refine ⟨JI,l[i],by simp [nL],λe he hb=>?_⟩;have cE:=wQ i l[i] (zae nL) e he hb;rw [Oj _ (by omega)];exact nf _ cE
   intro FQ;rw [FQ] at this;cases this
  simp only [Region.linearise.go,UE];have hlen:0<(Region.ready .any l.toArray listed).length:=zcw.2 eT;have xp:=zed t hlen;generalize hi:(Region.ready .any l.toArray listed)[t % (Region.ready .any l.toArray listed).length]=i;have CK:(Region.ready .any l.toArray listed)[t % (Region.ready .any l.toArray listed).length]?=some i:=by rw [zae xp,hi]
  rw [CK];simp only [];rw [linearise_go_acc];have Xg:i∈Region.ready .any l.toArray listed:=zbh CK;obtain ⟨JI,o,ho,oO⟩:=mem_ready.1 Xg;have na:l[i]?=some o:=by simpa using ho
  have nL:=(zad.1 na).1;have tc:=v8 rp na (λe he hb=>oO e he hb);have HD:i<p:=by
   rcases zfp i p with h|h
   ·exact h
   ·obtain ⟨i0,h0,h1⟩:=hex;have:=tc i0 (D8 i h nL i0 (by omega));rw [Oj i0 (by omega),h1] at this;cases this
  obtain ⟨x,hx,hd,vd⟩:=Jp.get (i:=i) (o:=o) (by rw [zam,zab HD];exact na);have TG:=v7 rp l [] (by simp) (by simp)
  -- what the operation looks at
  have he:dO g w st (mf l o (fY env ((l.take p).take i) (xs.take i))) tmps:=by
   intro s y hy;obtain ⟨Pq,Jl⟩:=tb hy;rcases jL (by simp [vS]) Jl with ⟨j,o',h1,h2,h3⟩|⟨h1,h2⟩
   ·have lR:j<i:=by have:=(zad.1 h2).1;simp at this;omega
    have AO:l[j]?=some o':=by
     rw [zam,zab lR,zam,zab (by omega)] at h1;exact h1
    have uh:ek l j=some s:=by simp [ek,AO,h3]
    rcases TF i o HD na s Pq j (by omega) (by omega) uh with ⟨_,hb⟩|⟨cE,_⟩
    ·exact (hJ s).1 j y (by omega) (tc j hb) uh (by rw [zam,zab lR] at h2;exact h2)
    ·omega
   ·refine (hJ s).2 (λj hj yj uh=>?_) y h2;by_cases lR:j=i
    ·subst lR;rw [Oj j nL,JI] at yj;cases yj
    ·rcases TF i o HD na s Pq j hj lR uh with ⟨cE,_⟩|⟨cE,hb⟩
     ·cases AO:l[j]? with
      | none=>simp [ek,AO] at uh
      | some o'=>exact h1 j o' (by rw [zam,zab cE,zam,zab hj];exact AO) (by simpa [ek,AO] using uh)
     ·have FU:j<l.length:=by omega
      have X3:(dS l [])[j]?=some ((dS l []).getD j 0):=by
       cases hm:(dS l [])[j]? with
       | none=>rw [zcb,hm] at hb;simp at hb
       | some m=>rw [zcb,hm];rfl
      have:=TG j _ X3 yj i hb;rw [Oj i nL,JI] at this;cases this
  -- what remains behind it
  have JJ:((List.range p).filter λj=>!(listed.setIfInBounds i true).getD j true).length=FR:=by
   have xq:∀ j,(listed.setIfInBounds i true).getD j true=(listed.getD j true || decide (j=i)):=by
    intro j;by_cases lR:j=i
    ·subst lR;simp [zar,hs,nL]
    ·rw [getD_set_ne true (zcf lR)];simp [lR]
   have PS:((List.range p).filter λj=>!(listed.setIfInBounds i true).getD j true)=((List.range p).filter λj=>!listed.getD j true).filter λj=>!decide (j=i):=by
    rw [List.filter_filter];refine zeb λj _=>?_
    rw [xq j];cases listed.getD j true <;> simp
   rw [PS];have TE:((List.range p).filter λj=>!listed.getD j true).Nodup:=List.nodup_range.filter _;have tV:i∈(List.range p).filter λj=>!listed.getD j true:=by rw [zcl,List.mem_range];exact ⟨HD,by simp [JI]⟩
   have D9:∀ (L:List Nat),L.Nodup->i∈L->(L.filter λj=>!decide (j=i)).length+1=L.length:=by
    intro L
    induction L with
    | nil=>intro _ h;cases h
    | cons a L X4 =>
     intro hn hm;rw [zby] at hn;by_cases ha:a=i
     ·subst ha;have:(L.filter λj=>!decide (j=a))=L:=by
       rw [zdn];intro b hb;have:b≠a:=λe=>hn.1 (e▸hb)
       simp [this]
      rw [zbo];simp [this]
     ·have yI:i∈L:=by
       rcases zaq.1 hm with h|h
       ·exact absurd h.symm ha
       ·exact h
      rw [zbo];simp only [ha,zey,zcj,zbu,zag];rw [X4 hn.2 yI]
   have:=D9 _ TE tV;omega
  have PT:vZ l (listed.setIfInBounds i true):=by
   intro j oj AO yj e Aw hb;by_cases lR:j=i
   ·subst lR;rw [na] at AO;cases AO;exact getD_set_true (oO e Aw hb)
   ·rw [getD_set_ne false (zcf lR)] at yj;exact getD_set_true (rp j oj AO yj e Aw hb)
  have PU:∀ j,p<=j->j<l.length->(listed.setIfInBounds i true).getD j true=false:=λj hj FU=>by rw [getD_set_ne true (by omega)];exact PQ j hj FU
  -- the step
  have next:∀ (dh:Nat->Nat) (w':World) (v:Value),Good g w st x dh w' v ->
    ep P f (nC S Q) (.inRegion l.toArray (Region.linearise.go .any l.toArray fuel (t / (Region.ready .any l.toArray listed).length) (listed.setIfInBounds i true) [])::k) (Act.put ⟨tmps,[]⟩ o.dst v).tmps w':=by
   rintro dh w' v ⟨AK,hb,hl⟩;obtain ⟨dR,ma⟩:=hinv.grow (g':={ g with lim:=dh }) hb hl rfl rfl;refine ih fuel _ _ _ w' _ (by simpa using hs) PT PU JJ (by omega) dR (hh.step ma) (by rw [ia];exact hN) λs=>⟨λj y hj yj uh hy=>?_,λM1 y hy=>?_⟩
   ·by_cases lR:j=i
    ·subst lR;have JK:o.dst=some s:=by simpa [ek,na] using uh
     rw [hx] at hy;cases hy;rw [JK];have fE:s<tmps.size:=by
      rw [JK] at hd;have X5:s+1<=N:=zaf hd;rw [hN];exact X5
     exact ⟨v,by simp [Act.put,fE],AK⟩
    ·rw [getD_set_ne false (zcf lR)] at yj;obtain ⟨u,h1,h2⟩:=(hJ s).1 j y hj yj uh hy;have o9:o.dst≠some s:=λe=>X0 j i s hj HD lR uh (by simp [ek,na,e])
     refine ⟨u,?_,h2.mono ma.dy⟩;cases PV:o.dst with
     | none=>exact h1
     | some d =>
      have:d≠s:=λe=>o9 (by rw [PV,e])
      simp [Act.put,zcc,this,h1]
   ·have o9:o.dst≠some s:=λe=>M1 i HD (by simp [zar,hs,nL]) (by simp [ek,na,e])
    obtain ⟨u,h1,h2⟩:=(hJ s).2 (λj hj yj=>M1 j hj (by
     by_cases lR:j=i
     ·subst lR;simp [zar,hs,nL]
     ·rw [getD_set_ne false (zcf lR)];exact yj)) y hy
    refine ⟨u,?_,h2.mono ma.dy⟩;cases PV:o.dst with
    | none=>exact h1
    | some d =>
     have:d≠s:=λe=>o9 (by rw [PV,e])
     simp [Act.put,zcc,this,h1]
  have FG:l.toArray[i]?=some o:=ho;show ep P f (nC S Q) (.inRegion l.toArray (i::_)::k) tmps w;rcases vd with ⟨hg,vd⟩|⟨j,want,tt,c,b,y,env',hg,hj,X6,X7,rfl,hE,vd⟩
  ·have hw:Region.wanted o (yielded l.toArray tmps)=true:=by simp [Region.wanted,hg]
   rcases vd g S.base w tmps hinv he with ⟨v,dh,w',hr,xr⟩|⟨f',args,hr,hc⟩
   ·exact ep.value FG hw hr (next dh w' v xr)
   ·exact ep.call FG hw hr (hc.mono λe w' ⟨v,dh,h1,h2⟩=>⟨v,h1,next dh w' v h2⟩)
  ·obtain ⟨u,hu,X8⟩:=he tt c X6;have hw:Region.wanted o (yielded l.toArray tmps)=b:=by
    rw [←sU X7 X8];have Jm:((l.toArray)[j]?).bind (·.dst)=some tt:=by simpa using hj
    simp only [Region.wanted,hg,yielded,Jm,zac,hu];cases u <;> rfl
   cases b with
   | false=>exact ep.xk FG hw (next g.lim w undef ⟨.gd _ _ _ (λ_=>rfl) (λh=>by cases h),.refl _ _,λ_ _=>rfl⟩)
   | true =>
    have wrap:∀ dh w' v,Good g w st y dh w' v->Good g w st (.gd true y) dh w' v:=λdh w' v ⟨a,b,c⟩=>⟨.gd _ _ _ (λh=>by cases h) (λ_=>a),b,c⟩
    rcases vd rfl g S.base w tmps hinv (he.gd hE rfl) with ⟨v,dh,w',hr,xr⟩|⟨f',args,hr,hc⟩
    ·exact ep.value FG hw hr (next dh w' v (wrap _ _ _ xr))
    ·exact ep.call FG hw hr (hc.mono λe w' ⟨v,dh,h1,h2⟩=>⟨v,h1,next dh w' v (wrap _ _ _ h2)⟩)
def uG (P:Program) (f:Ctx) (N:Nat) (S:Start) (Q:EV->St->Prop) (l:List Oper) (p:Nat) (os:List Oper) (k:List Item) (env:Env) (st:St):Prop :=
 ∃ xs,AM P N l st os xs env/\cd P f N S Q l (l.drop p) k (fY env os xs) st
variable {l:List Oper} {p:Nat} {os:List Oper} {env:Env} {st:St}
theorem uG.nil (h:cd P f N S Q l (l.drop p) k env st):uG P f N S Q l p [] k env st:=⟨[],trivial,h⟩
theorem uG.g {d:Option Tmp} {op:Op} {ty:TypeId} {pos:String} {after:Array Edge} {x:EV} (h:zi P (mf l ⟨d,op,ty,pos,after,none⟩ env) st ⟨d,op,ty,pos,after,none⟩ x) (hd:fV N d=true)
  (hk:uG P f N S Q l p os k (env.put d x) st):uG P f N S Q l p (⟨d,op,ty,pos,after,none⟩::os) k env st:=by
 obtain ⟨xs,h1,h2⟩:=hk;exact ⟨x::xs,⟨hd,.inl ⟨rfl,h⟩,h1⟩,h2⟩
theorem uG.q {d:Option Tmp} {op:Op} {ty:TypeId} {pos:String} {after:Array Edge} {x:EV} (h:aK P (mf l ⟨d,op,ty,pos,after,none⟩ env) st ⟨d,op,ty,pos,after,none⟩ x) (hd:fV N d=true)
  (hk:uG P f N S Q l p os k (env.put d x) st):uG P f N S Q l p (⟨d,op,ty,pos,after,none⟩::os) k env st:=.g h.g hd hk
theorem uG.gE {d t:Tmp} {op:Op} {ty:TypeId} {pos:String} {after:Array Edge} {j:Nat} {want b:Bool} {c x:EV} {env':Env} (hj:(l[j]?).bind (·.dst)=some t)
  (hl:lookup t (mf l ⟨some d,op,ty,pos,after,some (j,want)⟩ env)=some c) (hc:CF c want=some b) (hE:zg b (mf l ⟨some d,op,ty,pos,after,some (j,want)⟩ env) env') (hd:fV N (some d)=true)
  (h:b=true->zi P env' st ⟨some d,op,ty,pos,after,some (j,want)⟩ x) (hk:uG P f N S Q l p os k ((d,.gd b x)::env) st):uG P f N S Q l p (⟨some d,op,ty,pos,after,some (j,want)⟩::os) k env st:=by
 obtain ⟨xs,h1,h2⟩:=hk;exact ⟨.gd b x::xs,⟨hd,.inr ⟨j,want,t,c,b,x,env',rfl,hj,hl,hc,rfl,hE,h⟩,h1⟩,h2⟩
theorem bq.drawn {id:Nat} (p:Nat) (hm:P.follows .mixedOrders=true) (hB:cr l p=true) (h:uG P f N S Q l p (l.take p) k env st):bq P f N S Q (.code (.region id l.toArray true)::k) env st:=by
 obtain ⟨xs,Jp,BT⟩:=h;simp only [cr,zas] at hB;obtain ⟨⟨⟨⟨RZ,Xh⟩,Xi⟩,Xj⟩,UF⟩:=hB;have hp:p<=l.length:=by simpa using UF
 intro g w tmps hinv hh he hn;refine ep.zJ λt=>?_
 have PW:Region.schedule (P.follows .mixedOrders) l.toArray t=Region.linearise .any l.toArray t:=by simp [Region.schedule,hm]
 rw [PW];have hb:Below w.heap.size w { w with drawn:=w.drawn+1 }:=(Below.refl _ w).drew;obtain ⟨dR,ma⟩:=hinv.grow (g':=g) hb (λ_ _=>rfl) rfl rfl;unfold Region.linearise;refine LM (p:=p) (xs:=xs) hp ?_ ?_ ?_ ?_ Jp BT p _ t _ g _ tmps (by simp) ?_ ?_ ?_ ?_ dR (hh.step ma) hn λs=>⟨λj x hj yj=>?_,λ_ y hy=>?_⟩
 ·intro i j t hi hj M3 X9 uh;have:=cJ (cJ Xh hi) hj;simp [M3,X9,uh] at this
 ·intro i o hi ho t ht j hj lR uh;have h1:=cJ RZ hi;rw [ho] at h1;simp only [zbd] at h1;have h2:=cJ (h1 t ht) hj;simp only [uh,zeo,zds,zbv,zas,zak,zdw] at h2;rcases h2 with (h2|h2)|h2
  ·exact absurd h2.symm lR
  ·exact .inl h2
  ·exact .inr h2
 ·intro i hi nL j hj;have h1:=cJ Xi nL;simp only [zbv,zak] at h1;rcases h1 with h1|h1
  ·omega
  ·exact cJ h1 hj
 ·intro i o ho e Aw ka;have nL:=(zad.1 ho).1;have h1:=cJ Xj nL;rw [ho] at h1;simp only [zbd] at h1;have:=h1 e (by simpa using Aw);simpa [ka] using this
 ·intro i o ho PO;simp [zar,Array.getElem?_replicate] at PO;split at PO <;> simp_all
 ·intro i hi nL;simp [zar,Array.getElem?_replicate,nL]
 ·have:((List.range p).filter λi=>!(Array.replicate l.toArray.size false).getD i true)=List.range p:=by
   rw [zdn];intro i hi;have hi':=List.mem_range.1 hi;have:i<l.length:=by omega
   simp [zar,Array.getElem?_replicate,this]
  rw [this];simp
 ·simp;omega
 ·simp [zar,Array.getElem?_replicate] at yj;split at yj <;> simp_all
 ·exact (he.mono ma.dy) s y hy
end drawn
theorem UG {n:Int} (h1:-9223372036854775808<=n) (h2:n<=9223372036854775807):IntKind.i64.wrap n=n:=by
 rw [IntKind.wrap_i64];omega
def ph (n m:Nat):EV->Bool
 | .d _=>true
 | .ref o _=>Nat.blt o n
 | .Jk o _ _ _=>Nat.blt o n
 | .cz _ _ t=>Nat.blt t m
 | .mp o=>Nat.blt o n
 | .vc t _=>Nat.blt t m
 | .vp t _ _ _=>Nat.blt t m
 | .vw t _ _ _=>Nat.blt t m
 | .vR _ cs=>Ea n m cs
 | .agg cs=>Ea n m cs
 | .dV cs=>Ea n m cs
 | .gd _ x=>ph n m x
where
 Ea (n m:Nat):List EV->Bool
 | []=>true
 | x::l=>ph n m x && Ea n m l
theorem iL {a b:Nat} (h:Nat.blt a b=true):a<b:=zaf h
theorem qn {n m:Nat}:∀ {l:List EV},ph.Ea n m l=true->∀ (i:Nat) c,l[i]?=some c->ph n m c=true
 | [],_,i,c,h=>by simp at h
 | x::l,ho,0,c,h=>by
  simp only [ph.Ea,zas] at ho;simp at h;subst h;exact ho.1
 | x::l,ho,i+1,c,h=>by
  simp only [ph.Ea,zas] at ho;exact qn ho.2 i c (by simpa using h)
theorem Eb {g:bT} {w:World} {st:St} {n m:Nat} {x:EV} {v:Value} (hn:n<=st.aP.length) (hm:m<=st.ar.length) (ho:ph n m x=true) (h:bJ g w st x v):bJ g w ⟨st.aP.take n,st.ar.take m⟩ x v:=by
 have r5:∀ {t:Nat} {x:gD},(st.ar.take m)[t]?=some x->st.ar[t]?=some x:=fun {t x} hx=>by
  rw [zam] at hx;split at hx;exact hx;cases hx
 induction h with
 | d x v h=>exact .d _ _ h
 | ref o off h=>exact .ref _ _ (by have:=iL ho;simp;omega)
 | Jk o off l c h=>exact .Jk _ _ _ _ (by have:=iL ho;simp;omega)
 | cz sz rows t v e k hd ht hk hv =>
  have:=iL ho;exact .cz sz rows t v e k hd (by simp [zam,this,ht]) hk hv
 | mp o h=>exact .mp _ (by have:=iL ho;simp;omega)
 | vR f cs vs hs h ih =>
  simp only [ph] at ho;exact .vR f cs vs hs λi c u hc hu=>ih i c u hc hu (qn ho i c hc)
 | agg cs vs hs h1 h ih =>
  simp only [ph] at ho;exact .agg cs vs hs h1 λi c u hc hu=>ih i c u hc hu (qn ho i c hc)
 | dV cs vs hs h ih =>
  simp only [ph] at ho;exact .dV cs vs hs λi c u hc hu=>ih i c u hc hu (qn ho i c hc)
 | gd b x v h0 h ih =>
  simp only [ph] at ho;exact .gd b x v h0 λhb=>ih hb ho
 | vc t k v ht hf h=>exact .vc t k v (by have:=iL ho;simp;omega) hf λx rows hx=>h x rows (r5 hx)
 | vp t k i off v ht hf h=>exact .vp t k i off v (by have:=iL ho;simp;omega) hf λx rows hx=>h x rows (r5 hx)
 | vw t k lo n v ht hf h=>exact .vw t k lo n v (by have:=iL ho;simp;omega) hf λx rows hx=>h x rows (r5 hx)
def kf (n m:Nat):dI->Bool
 | .row _ cs=>cs.all (ph n m)
 | .map es=>es.all λp=>ph n m p.2
 | .raw _=>true
 | .gone=>true
def CL (n m:Nat):Env->Bool
 | []=>true
 | (_,x)::e=>ph n m x && CL n m e
theorem BU {n m i:Nat} {y:EV}:∀ {env:Env},CL n m env=true->lookup i env=some y->ph n m y=true
 | [],_,h=>by simp [lookup] at h
 | (j,x)::e,ho,h=>by
  simp only [CL,zas] at ho;unfold lookup at h;cases hb:Nat.beq i j with
  | true=>rw [hb] at h;cases h;exact ho.1
  | false=>rw [hb] at h;exact BU ho.2 h
section drop
variable {P:Program} {f:Ctx} {N:Nat} {S:Start} {Q:EV->St->Prop} {k:List Item} {todo:List Item} {env env':Env} {st st':St}
theorem Inv.drop {g:bT} {base n m:Nat} {w:World} (h:Inv g base w st) (hn:n<=st.aP.length) (hm:m<=st.ar.length) (ho:(st.aP.take n).all (kf n m)=true):Inv g base w ⟨st.aP.take n,st.ar.take m⟩:=by
 have AD:∀ o x,(st.aP.take n)[o]?=some x->st.aP[o]?=some x:=λo x hx=>by
  rw [zam] at hx;split at hx;exact hx;cases hx
 have eN:∀ t x,(st.ar.take m)[t]?=some x->st.ar[t]?=some x:=λt x hx=>by
  rw [zam] at hx;split at hx;exact hx;cases hx
 have xt:∀ o x,(st.aP.take n)[o]?=some x->kf n m x=true:=λo x hx=>zbd.1 ho x (zbh hx)
 have nV:∀ o,St.live ⟨st.aP.take n,st.ar.take m⟩ o->st.live o:=λo ⟨x,hx,eT⟩=>⟨x,AD o x hx,eT⟩
 refine ⟨h.base,λo ty cs hx=>?_,λo es hx=>?_,λo x hx=>h.raw o x (AD o _ hx),λo o' eT h1 h2=>h.ne o o' eT (nV _ h1) (nV _ h2),λt e sz k hx=>h.tail t e sz k (eN t _ hx),λt t' x x' b eT h1 h2=>h.nK t t' x x' b eT (eN t _ h1) (eN t' _ h2),λt x o h1 h2=>h.iv t x o (eN t _ h1) (nV _ h2),h.C9,λt e sz k rows hx=>h.own t e sz k rows (eN t _ hx)⟩
 ·obtain ⟨h1,h2,vs,h3,h4,h5⟩:=h.row o ty cs (AD o _ hx);have hc:=xt o _ hx;simp only [kf,zbd] at hc;exact ⟨h1,h2,vs,h3,h4,λi c u CG hu=>⟨Eb hn hm (hc c (zbh CG)) (h5 i c u CG hu).1,(h5 i c u CG hu).2⟩⟩
 ·obtain ⟨h1,ms,c,h3,h4,h5,h6⟩:=h.map o es (AD o _ hx);have hc:=xt o _ hx;simp only [kf,zbd] at hc;exact ⟨h1,ms,c,h3,h4,λi k x me a b=>⟨(h5 i k x me a b).1,Eb hn hm (hc _ (zbh a)) (h5 i k x me a b).2⟩,h6⟩
theorem rm.drop {S:Start} {g:bT} {w:World} {n m:Nat} (hh:rm S g w st) (Xk:S.st.aP.length<=n) (hS2:S.st.ar.length<=m) (hn:n<=st.aP.length) (hm:m<=st.ar.length):rm S g w ⟨st.aP.take n,st.ar.take m⟩:=by
 refine ⟨⟨hh.dy.cP,hh.dy.ob,by simp;omega,λt e sz k hk=>?_,by simp;omega,λt x' bw cE hx ho=>?_⟩,hh.below,hh.lim,hh.frame,λb hb hw=>hh.fresh b hb ?_⟩
 ·obtain ⟨k',h1,h2⟩:=hh.dy.ar t e sz k hk;have cE:=(zad.1 hk).1;exact ⟨k',by simp [zam,show t<m by omega,h1],h2⟩
 ·refine hh.dy.own t x' bw cE ?_ ho;rw [zam] at hx;split at hx;exact hx;cases hx
 ·rcases hw with ⟨o,⟨x,hx,eT⟩,h2⟩|⟨t,x,hx,h2⟩
  ·refine .inl ⟨o,⟨x,?_,eT⟩,h2⟩;rw [zam] at hx;split at hx;exact hx;cases hx
  ·refine .inr ⟨t,x,?_,h2⟩;rw [zam] at hx;split at hx;exact hx;cases hx
theorem bq.to (n m:Nat) (hE:cZ env env') (ho:st.aP.take n=st'.aP) (ht:st.ar.take m=st'.ar) (hn:Nat.ble n st.aP.length=true) (hm:Nat.ble m st.ar.length=true) (xt:(CL n m env' && st'.aP.all (kf n m))=true)
  (Xk:S.st.aP.length<=n) (hS2:S.st.ar.length<=m) (h:bq P f N S Q todo env' st'):bq P f N S Q todo env st:=by
 have UH:=zaf hn;have yI:=zaf hm;simp only [zas] at xt;have ma:st'=⟨st.aP.take n,st.ar.take m⟩:=by cases st';simp at ho ht;rw [ho,ht]
 subst ma;intro g w tmps hinv hh he hN;refine h g w tmps (hinv.drop UH yI xt.2) (hh.drop (by omega) (by omega) UH yI) ?_ hN
 ·intro i y hy;obtain ⟨v,h1,h2⟩:=(he.sub hE) i y hy;exact ⟨v,h1,Eb UH yI (BU xt.1 hy) h2⟩
theorem cZ.nil:cZ env []:=trivial
theorem cZ.cons {i:Nat} {x y:EV} {t:Env} (h:lookup i env=some x) (hle:dX x y) (ht:cZ env t):cZ env ((i,y)::t):=⟨⟨x,h,hle⟩,ht⟩
theorem cZ.k2 {env t:Env} {i0 i1:Nat} {x0 x1:EV} (h0:lookup i0 env=some x0) (h1:lookup i1 env=some x1) (u:cZ env t):cZ env ((i0,x0):: (i1,x1):: t):=.cons h0 (.ak _) (.cons h1 (.ak _) u)
theorem cZ.k3 {env t:Env} {i0 i1 i2:Nat} {x0 x1 x2:EV} (h0:lookup i0 env=some x0) (h1:lookup i1 env=some x1) (h2:lookup i2 env=some x2) (u:cZ env t):cZ env ((i0,x0):: (i1,x1):: (i2,x2):: t):=.cons h0 (.ak _) (.cons h1 (.ak _) (.cons h2 (.ak _) u))
theorem cZ.k4 {env t:Env} {i0 i1 i2 i3:Nat} {x0 x1 x2 x3:EV} (h0:lookup i0 env=some x0) (h1:lookup i1 env=some x1) (h2:lookup i2 env=some x2) (h3:lookup i3 env=some x3) (u:cZ env t):cZ env ((i0,x0):: (i1,x1):: (i2,x2):: (i3,x3):: t):=.cons h0 (.ak _) (.cons h1 (.ak _) (.cons h2 (.ak _) (.cons h3 (.ak _) u)))
theorem cZ.k5 {env t:Env} {i0 i1 i2 i3 i4:Nat} {x0 x1 x2 x3 x4:EV} (h0:lookup i0 env=some x0) (h1:lookup i1 env=some x1) (h2:lookup i2 env=some x2) (h3:lookup i3 env=some x3) (h4:lookup i4 env=some x4) (u:cZ env t):cZ env ((i0,x0):: (i1,x1):: (i2,x2):: (i3,x3):: (i4,x4):: t):=.cons h0 (.ak _) (.cons h1 (.ak _) (.cons h2 (.ak _) (.cons h3 (.ak _) (.cons h4 (.ak _) u))))
theorem cZ.k6 {env t:Env} {i0 i1 i2 i3 i4 i5:Nat} {x0 x1 x2 x3 x4 x5:EV} (h0:lookup i0 env=some x0) (h1:lookup i1 env=some x1) (h2:lookup i2 env=some x2) (h3:lookup i3 env=some x3) (h4:lookup i4 env=some x4) (h5:lookup i5 env=some x5) (u:cZ env t):cZ env ((i0,x0):: (i1,x1):: (i2,x2):: (i3,x3):: (i4,x4):: (i5,x5):: t):=.cons h0 (.ak _) (.cons h1 (.ak _) (.cons h2 (.ak _) (.cons h3 (.ak _) (.cons h4 (.ak _) (.cons h5 (.ak _) u)))))
theorem cZ.k7 {env t:Env} {i0 i1 i2 i3 i4 i5 i6:Nat} {x0 x1 x2 x3 x4 x5 x6:EV} (h0:lookup i0 env=some x0) (h1:lookup i1 env=some x1) (h2:lookup i2 env=some x2) (h3:lookup i3 env=some x3) (h4:lookup i4 env=some x4) (h5:lookup i5 env=some x5) (h6:lookup i6 env=some x6) (u:cZ env t):cZ env ((i0,x0):: (i1,x1):: (i2,x2):: (i3,x3):: (i4,x4):: (i5,x5):: (i6,x6):: t):=.cons h0 (.ak _) (.cons h1 (.ak _) (.cons h2 (.ak _) (.cons h3 (.ak _) (.cons h4 (.ak _) (.cons h5 (.ak _) (.cons h6 (.ak _) u))))))
theorem cZ.k8 {env t:Env} {i0 i1 i2 i3 i4 i5 i6 i7:Nat} {x0 x1 x2 x3 x4 x5 x6 x7:EV} (h0:lookup i0 env=some x0) (h1:lookup i1 env=some x1) (h2:lookup i2 env=some x2) (h3:lookup i3 env=some x3) (h4:lookup i4 env=some x4) (h5:lookup i5 env=some x5) (h6:lookup i6 env=some x6) (h7:lookup i7 env=some x7) (u:cZ env t):cZ env ((i0,x0):: (i1,x1):: (i2,x2):: (i3,x3):: (i4,x4):: (i5,x5):: (i6,x6):: (i7,x7):: t):=.cons h0 (.ak _) (.cons h1 (.ak _) (.cons h2 (.ak _) (.cons h3 (.ak _) (.cons h4 (.ak _) (.cons h5 (.ak _) (.cons h6 (.ak _) (.cons h7 (.ak _) u)))))))
theorem cZ.k9 {env t:Env} {i0 i1 i2 i3 i4 i5 i6 i7 i8:Nat} {x0 x1 x2 x3 x4 x5 x6 x7 x8:EV} (h0:lookup i0 env=some x0) (h1:lookup i1 env=some x1) (h2:lookup i2 env=some x2) (h3:lookup i3 env=some x3) (h4:lookup i4 env=some x4) (h5:lookup i5 env=some x5) (h6:lookup i6 env=some x6) (h7:lookup i7 env=some x7) (h8:lookup i8 env=some x8) (u:cZ env t):cZ env ((i0,x0):: (i1,x1):: (i2,x2):: (i3,x3):: (i4,x4):: (i5,x5):: (i6,x6):: (i7,x7):: (i8,x8):: t):=.cons h0 (.ak _) (.cons h1 (.ak _) (.cons h2 (.ak _) (.cons h3 (.ak _) (.cons h4 (.ak _) (.cons h5 (.ak _) (.cons h6 (.ak _) (.cons h7 (.ak _) (.cons h8 (.ak _) u))))))))
theorem cZ.LN {env t:Env} {i0 i1 i2 i3 i4 i5 i6 i7 i8 i9:Nat} {x0 x1 x2 x3 x4 x5 x6 x7 x8 x9:EV} (h0:lookup i0 env=some x0) (h1:lookup i1 env=some x1) (h2:lookup i2 env=some x2) (h3:lookup i3 env=some x3) (h4:lookup i4 env=some x4) (h5:lookup i5 env=some x5) (h6:lookup i6 env=some x6) (h7:lookup i7 env=some x7) (h8:lookup i8 env=some x8) (h9:lookup i9 env=some x9) (u:cZ env t):cZ env ((i0,x0):: (i1,x1):: (i2,x2):: (i3,x3):: (i4,x4):: (i5,x5):: (i6,x6):: (i7,x7):: (i8,x8):: (i9,x9):: t):=.cons h0 (.ak _) (.cons h1 (.ak _) (.cons h2 (.ak _) (.cons h3 (.ak _) (.cons h4 (.ak _) (.cons h5 (.ak _) (.cons h6 (.ak _) (.cons h7 (.ak _) (.cons h8 (.ak _) (.cons h9 (.ak _) u)))))))))
end drop
section enter
variable {P:Program} {f:FuncId} {fn:Func} {c:Code} {N:Nat}
theorem aD.bc {args:List D} {q:D->Prop} (hf:P.funcs[f]?=some fn) (hb:fn.body=some c) (hN:fn.ntmps=N) (hl:Nat.ble args.length N=true)
  (h:∀ S:Start,S.st=⟨[],[]⟩->bq P (.of f) N S (QD q) [.code c] (zK 0 (args.map EV.d)) ⟨[],[]⟩):aD P f args q :=
 .of (.enter hf hb hN (by simpa using hl) λS hS=>h S hS)
end enter
theorem UI {α β:Type} {f:α->β} {l:List α} {n:Nat} (d:α) (h:n<l.length):(l.map f)[n]?=some (f (l.getD n d)):=by
 rw [zbc,zcb,zae h];rfl
section q
variable {P:Program} {base:Nat} {env:Env} {st:St} {d:Option Tmp} {ty:TypeId} {pos:String} {after:Array Edge} {gd:Option (Nat×Bool)} {t t2 e:TypeId} {x y z:Operand}
section int
variable {a b:Int} (hx:cP env x=some (.d (.ex (.int .i64 a)))) (hy:cP env y=some (.d (.ex (.int .i64 b))))
include hx hy
theorem Ec (h1:-9223372036854775808<=a+b) (h2:a+b<=9223372036854775807):aK P env st ⟨d,.binOp .add t x y t2,ty,pos,after,gd⟩ (.d (.ex (.int .i64 (a+b)))):=XK hx hy (UG h1 h2)
theorem UJ (h1:-9223372036854775808<=a-b) (h2:a-b<=9223372036854775807):aK P env st ⟨d,.binOp .sub t x y t2,ty,pos,after,gd⟩ (.d (.ex (.int .i64 (a-b)))):=XL hx hy (UG h1 h2)
end int
theorem UK {sz n:Nat} {rows:List (List D)} {ev:EV} {k:IntKind} {i:Int} {row:List D} {inf:TypeInfo} (ht:P.underlying t=some (.slice e)) (hi:P.info? e=some inf) (fE:inf.size=sz)
  (hx:cP env x=some ev) (hs:uD ev=some (sz,rows)) (hy:cP env y=some (.d (.ex (.int k i)))) (hn:i=n) (hr:rows[n]?=some row) :
  aK P env st ⟨d,.indexAddr t x y,ty,pos,after,gd⟩ (.d (.ro row)):=λg base w tmps hinv he=>by
 subst hn;obtain ⟨b,off,c,hv,cE,hro⟩:=XN (ru hs (aM he hx)) hr;refine ⟨_,.d _ _ hro,λw' _=>?_⟩;have:=BL (d:=d) (ty:=ty) (pos:=pos) (after:=after) (gd:=gd) ht hi hv (aM he hy).bK (by omega) (by omega) w';rw [zco,fE] at this;exact this
theorem PX {a:List UInt8} {k:IntKind} {i:Int} {n:Nat} (ht:P.underlying t=some .string) (hx:cP env x=some (.d (.ex (.string ⟨a.toArray⟩)))) (hy:cP env y=some (.d (.ex (.int k i)))) (hn:i=n) (cE:n<a.length) :
  aK P env st ⟨d,.index t x y,ty,pos,after,gd⟩ (.d (.ex (.int .u8 ((a.getD n 0).toNat:Int)))):=by
 subst hn;exact Py ht hx hy (by omega) (by rw [zco,zcb,zae cE];rfl)
theorem UL {sz:Nat} {rows:List (List D)} {ev:EV} (ht:P.underlying t=some (.slice e)) (hx:cP env x=some ev) (hs:uD ev=some (sz,rows)) :
  aK P env st ⟨d,.call ⟨.builtin .len,#[x],#[t]⟩,ty,pos,after,gd⟩ (.d (.ex (.int .i64 rows.length))):=ql λg w tmps w' he=>by
 obtain ⟨A,c,hv⟩:=DC (ru hs (aM he hx));exact DB ht hv w'
theorem Om {cs:List D} {n:Nat} (h1:(P.underlying t).map kT=some false) (hs:(P.info? t).map (·.size)=some n) (hx:cP env x=some (.d (.ro cs))) (hn:Nat.beq cs.length n=true) :
  aK P env st ⟨d,.load t x,ty,pos,after,gd⟩ (.d (.agg cs)):=by
 have UH:=zau hn;have:=MT (d:=d) (ty:=ty) (pos:=pos) (after:=after) (gd:=gd) (st:=st) h1 hs (zfo UH.symm) hx
 rwa [zbw (by omega)] at this
def placesOf (P:Program) (t:TypeId):Option (List (Nat×Nat)):=match P.underlying t with
 | some (.struct fs)=>if fs.toList.all (λf=>(P.info? f.type).isSome) then some (fs.toList.map λf=>(f.offset,JF P f.type)) else none
 | _=>none
theorem bh {ps:List (Nat×Nat)} {inf:TypeInfo} {z:Value} {zs r:List D} {l:List (Nat×Operand)} (hp:placesOf P t=some ps) (hi:P.info? t=some inf) (hz:inf.zero=some z) (qf:cellsD (.d (cv z))=some zs)
  (hl:De (λi=>ps[i]?) env zs l=some r):aK P env st ⟨d,.build t l.toArray,ty,pos,after,gd⟩ (.d (.agg r)):=by
 unfold placesOf at hp;split at hp
 ·rename_i fs hu;split at hp
  ·rename_i oO;cases hp;refine Sl hu hi hz qf oO ?_;rw [←hl];congr 1;funext i;simp [placeOf]
  ·cases hp
 ·cases hp
theorem aT {sz:Nat} {inf:TypeInfo} {z:Value} {zs r:List D} {l:List (Nat×Operand)} (ht:P.underlying t=some (.slice e)) (hi:P.info? e=some inf) (fE:inf.size=sz) (hz:inf.zero=some z) (qf:Nat.beq z.cells.size sz=true)
  (xo:Nat.ble sz 16777216=true) (Lo:Nat.blt 0 sz=true) (MZ:cellsD (.d (cv z))=some zs) (hl:De (λi=>some (i*sz,sz)) env zs l=some r) :
  zi P env st ⟨d,.buildSlice t 1 l.toArray,ty,pos,after,gd⟩ (.d (.sl sz [r])):=by
 have FV:=zau qf;have GF:=zaf xo;intro g base w tmps hinv he;have zN:=lj (g:=g) (w:=w) (st:=st) MZ (.d _ _ (qj _ _ z));have Pp:zs.length=sz:=by rw [←zN.1,FV]
 have UM:r.length=sz:=by
  obtain ⟨us,_,_,h3⟩:=s9 he l zs z.cells r hl zN;rw [h3,Pp]
 have Dd:(List.replicate 1 zs).flatten=zs:=by simp
 exact AL (len:=1) ht hi fE hz FV (by omega) (by omega) (by rw [Dd,Pp];omega) MZ (by rw [Dd,hl];simp) (by simp [UM]) rfl (iL Lo) g base w tmps hinv he
end q
theorem Inv.On {g:bT} {base:Nat} {w:World} {st:St} (h:Inv g base w st) (e sz:Nat) :
  ∃ g',g'.tk st.ar.length=.slice (some ⟨w.heap.size,0,none⟩) 0 0/\Inv g' base (w.alloc (.cells #[] e)) (st.tok ⟨e,sz,0,none⟩)/\Step base g w st g' (w.alloc (.cells #[] e)) (st.tok ⟨e,sz,0,none⟩):=by
 obtain ⟨g',h1,_,_,h2,h3⟩:=h.sB ⟨e,sz,0,none⟩ (v:=.slice (some ⟨w.heap.size,0,none⟩) 0 0) (xs:=[]) ⟨by simp,.inr ⟨w.heap.size,0,#[],rfl,h.base,heap_alloc_new w _,zap _,by simp [maxLen],by simp,by simp⟩⟩
  (.inr ⟨rfl,(Below.refl _ w).alloc (zap _) _⟩) (λrows hh=>by cases hh)
 exact ⟨g',h1,h2,h3⟩
section rules
variable {P:Program} {base:Nat} {env:Env} {st:St} {d:Option Tmp} {ty:TypeId} {pos:String} {after:Array Edge} {gd:Option (Nat×Bool)} {t t2 e:TypeId} {x y z:Operand}
theorem ve {inf:TypeInfo} {sz:Nat} (ht:P.underlying t=some (.slice e)) (hi:P.info? e=some inf) (fE:inf.size=sz) :
  xl P base env st ⟨d,.buildSlice t 0 #[],ty,pos,after,gd⟩ (.cz sz [] st.ar.length) (st.tok ⟨e,sz,0,none⟩):=by
 intro g w tmps hinv he;obtain ⟨g',h1,h2,h3⟩:=hinv.On e sz;refine ⟨_,g',_,?_,.cz sz [] _ (.slice (some ⟨w.heap.size,0,none⟩) 0 0) e 0 (.sl sz [] _ 0 0 (zap _) (by simp) (by simp) (by simp)) (by simp [St.tok]) (zap _) (λ_=>.inl h1.symm),h2,h3⟩;simp [execOp,Instr.buildSlice,run_underlying ht,pf hi,newRow,Instr.fill];rw [show Array.map (λ_=>(default:Value)) (Array.range 0)=#[] from by simp [Array.range_zero']]
end rules
def nth {α:Type} [Inhabited α] (l:List α) (k:Nat):α:=l.getD k default
theorem nM {α:Type} [Inhabited α] {l:List α} {k:Nat} (h:k<l.length):nth l k=l[k]:=by
 unfold nth;rw [zcb,zae h];rfl
theorem BV {α β:Type} [Inhabited α] {f:α->β} {l:List α} {n:Nat} (h:n<l.length):(l.map f)[n]?=some (f (nth l n)):=UI default h
theorem pj {α:Type} [Inhabited α] {l:List α} {k:Nat} (h:k<l.length):l.take (k+1)=l.take k++[nth l k]:=by
 rw [nM h,List.take_succ_eq_append_getElem h]
theorem td {α:Type} [Inhabited α] {l:List α} {k:Nat} (h:k<l.length):l.drop k=nth l k::l.drop (k+1):=by
 rw [nM h];exact List.drop_eq_getElem_cons h
abbrev cI (n:Int):D:=.ex (.int .i64 n)
abbrev cS (l:List UInt8):D:=.ex (.string ⟨l.toArray⟩)
abbrev cB (b:Bool):D:=.ex (.bool b)
def rI (n:Int):List D:=[.ex (.int .i64 n)]
def rS (l:List UInt8):List D:=[.ex (.string ⟨l.toArray⟩)]
abbrev ai {α:Type} (sz:Nat) (row:α->List D) (l:List α):D:=.sl sz (l.map row)
structure AP (P:Program) (key:TypeId) (κ:Type) [BEq κ] [LawfulBEq κ] where
 ke:κ->Value
 kd:TypeDesc
 und:P.underlying key=some kd
 same:∀ a b,Instr.sameNow kd (ke a) (ke b)=some (a==b)
 bits:∀ a,Instr.sameBits 10000 (ke a) (ke a)=true
 check:∀ a b w,(Instr.checkKey b 10000 key (ke a)).run P w=.ok () w
def Sp {P:Program} {key:TypeId} (h:P.underlying key=some (.int .i64)):AP P key Int where
 ke n:=.int .i64 n
 kd:=.int .i64
 und:=h
 same a b:=by simp [Instr.sameNow]
 bits a:=by simp [Instr.sameBits]
 check a b w:=by
  have:∀ n,(Instr.checkKey b (n+1) key (.int .i64 a)).run P w=.ok () w:=λn=>by simp [Instr.checkKey,run_underlying h]
  exact this 9999
def strKeys {P:Program} {key:TypeId} (h:P.underlying key=some .string):AP P key (List UInt8) where
 ke s:=.string ⟨s.toArray⟩
 kd:=.string
 und:=h
 same a b:=by
  simp only [Instr.sameNow];rw [beq_toListBytes];simp
 bits a:=by
  simp only [Instr.sameBits];rw [beq_toListBytes];simp
 check a b w:=by
  have:∀ n,(Instr.checkKey b (n+1) key (.string ⟨a.toArray⟩)).run P w=.ok () w:=λn=>by simp [Instr.checkKey,run_underlying h]
  exact this 9999
section alist
variable {κ α:Type} [BEq κ] [LawfulBEq κ]
def dU (l:List (κ×α)) (k:κ):Option Nat:=l.findIdx? λp=>k==p.1
def aB (l:List (κ×α)) (k:κ):Option α:=(l.find? λp=>k==p.1).map (·.2)
def da (l:List (κ×α)) (k:κ) (v:α):List (κ×α):=match dU l k with
 | some j=>l.set j (k,v)
 | none=>l++[(k,v)]
theorem GG (k:κ):aB ([]:List (κ×α)) k=none:=rfl
theorem mg (l:List (κ×α)) (k:κ):aB l k=(dU l k).bind λj=>(l[j]?).map (·.2):=by
 induction l with
 | nil=>rfl
 | cons p l ih =>
  unfold aB dU at *;rw [List.find?_cons,List.findIdx?_cons];by_cases h:k==p.1
  ·simp [h]
  ·simp only [h,zaz,zbt] at *;rw [ih];cases List.findIdx? (λp=>k==p.fst) l <;> simp
theorem fe (l:List (κ×α)) (k k':κ) (v:α):aB (da l k v) k'=if k'==k then some v else aB l k':=by
 induction l with
 | nil =>
  unfold da dU aB;by_cases h:k'==k <;> simp [List.find?_cons,h]
 | cons p l ih =>
  unfold da dU at *;rw [List.findIdx?_cons];by_cases h:k==p.1
  ·simp only [h,zbu,List.set_cons_zero];have hk:k=p.1:=eq_of_beq h;unfold aB;rw [List.find?_cons,List.find?_cons];by_cases h':k'==k
   ·simp [h']
   ·have:(k'==p.1)=false:=by rw [←hk];simpa using h'
    simp [h',this]
  ·simp only [h,zaz,zbt];have Ya:aB ((match Option.map (λx=>x+1) (List.findIdx? (λp=>k==p.1) l) with
     | some j=>(p::l).set j (k,v)
     | none=>(p::l)++[(k,v)])) k'=if k'==p.1 then some p.2 else aB (match List.findIdx? (λp=>k==p.1) l with
     | some j=>l.set j (k,v)
     | none=>l++[(k,v)]) k':=by
    cases List.findIdx? (λp=>k==p.1) l with
    | none =>
     simp only [Option.map_none,List.cons_append];unfold aB;rw [List.find?_cons];by_cases h2:k'==p.1 <;> simp [h2]
    | some j =>
     simp only [Option.map_some,List.set_cons_succ];unfold aB;rw [List.find?_cons];by_cases h2:k'==p.1 <;> simp [h2]
   refine Ya.trans ?_;rw [ih];by_cases h2:k'==p.1
   ·have hk:k'=p.1:=eq_of_beq h2;have h3:(k'==k)=false:=by
     rw [hk];rw [zff];intro he;exact h (by rw [eq_of_beq he];simp)
    simp [h2,h3,aB,List.find?_cons]
   ·by_cases h3:k'==k
    ·simp [h2,h3]
    ·simp [h2,h3,aB,List.find?_cons]
end alist
def jM {κ α:Type} (ke:κ->Value) (val:α->D) (l:List (κ×α)):List (Value×EV):=l.map λp=>(ke p.1,.d (val p.2))
section find
variable {P:Program} {key:TypeId} {κ α:Type} [BEq κ] [LawfulBEq κ] (K:AP P key κ)
theorem Ed (k:κ):∀ (l:List (κ×α)) (ms:List MapEntry) (i:Nat),ms.map (·.key)=l.map (λp=>K.ke p.1) ->
  Instr.findNow K.kd (K.ke k) ms i=some ((dU l k).bind λj=>(ms[j]?).map λm=>(i+j,m.val))
 | [],[],i,_=>rfl
 | [],m::ms,i,h=>by simp at h
 | p::l,[],i,h=>by simp at h
 | p::l,m::ms,i,h=>by
  simp only [zao,List.cons.injEq] at h;unfold Instr.findNow;rw [h.1,K.same];by_cases hk:k==p.1
  ·simp [hk,dU,List.findIdx?_cons]
  ·have Sd:(k==p.1)=false:=by simpa using hk
   rw [Sd];simp only [];rw [Ed k l ms (i+1) h.2];unfold dU;rw [List.findIdx?_cons,Sd];simp only [zaz,zbt];cases List.findIdx? (λp=>k==p.1) l with
   | none=>rfl
   | some j =>
    simp only [zac,Option.map_some,List.getElem?_cons_succ];congr 2;funext m;congr 1;omega
theorem JL (k:κ) {l:List (κ×α)} {ms:List MapEntry} (h:ms.map (·.key)=l.map (λp=>K.ke p.1)) (w:World) :
  (Instr.findKey key (K.ke k) ms).run P w=.ok ((dU l k).bind λj=>(ms[j]?).map λm=>(j,m.val)) w:=by
 simp only [Instr.findKey,Sem.run_bind,run_underlying K.und,Result.andThen_ok,Ed K k l ms 0 h,Sem.run_pure,zbr]
end find
theorem xu {κ α:Type} [BEq κ] {l:List (κ×α)} {k:κ} {j:Nat} (h:dU l k=some j):j<l.length:=by
 unfold dU at h;rw [List.findIdx?_eq_some_iff_getElem] at h;exact h.1
section rules
variable {P:Program} {base:Nat} {env:Env} {st:St} {d:Option Tmp} {ty:TypeId} {pos:String} {after:Array Edge} {gd:Option (Nat×Bool)} {t t2 e key:TypeId} {x y z:Operand}
 {κ α:Type} [BEq κ] [LawfulBEq κ]
theorem PY {g:bT} {w:World} {st:St} {l:List (κ×α)} {ke:κ->Value} {val:α->D} {ms:Array MapEntry} (hl:ms.size=(jM ke val l).length)
  (h:∀ (i:Nat) k x (m:MapEntry),(jM ke val l)[i]?=some (k,x)->ms[i]?=some m->m.key=k/\bJ g w st x m.val):ms.toList.map (·.key)=l.map λp=>ke p.1:=by
 apply zce;intro i;rw [zbc,zbc];have hlen:ms.size=l.length:=by simpa [jM] using hl
 by_cases hi:i<l.length
 ·have h1:ms[i]?=some (ms[i]'(by omega)):=zbg (by omega);have h2:l[i]?=some l[i]:=zae hi;have h3:=(h i (ke l[i].1) (.d (val l[i].2)) _ (by simp [jM,h2]) h1).1;rw [h2,zcd,h1];simp [h3]
 ·rw [zbl (by simp;omega),zbl (by omega)];rfl
theorem gQ:xl P base env st ⟨d,.makeMap t none,ty,pos,after,gd⟩ (.mp st.aP.length) (st.add (.map [])):=by
 intro g w tmps hinv he;obtain ⟨g',hi,hs,AD⟩:=hinv.newObj (.map []) (.map #[] 0) (λLC Dc e=>by cases e) (λes e=>by cases e;exact ⟨rfl,rfl⟩);refine ⟨.map (some w.heap.size),g',_,?_,?_,hi,hs⟩
 ·simp [execOp,Instr.makeMap]
 ·rw [←AD];exact .mp _ (by simp [St.add])
end rules
inductive FK where
 | i (k:IntKind)
 | b
 | s
def FW:Option TypeDesc->Option FK
 | some (.int k)=>some (.i k)
 | some .bool=>some .b
 | some .string=>some .s
 | _=>none
def qo:FK->Value->Bool
 | .i k,.int k' _=>decide (k=k')
 | .b,.bool _=>true
 | .s,.string _=>true
 | _,_=>false
def LO:Value->Value->Bool
 | .int _ a,.int _ b=>a==b
 | .bool a,.bool b=>a==b
 | .string a,.string b=>a.toList==b.toList
 | _,_=>false
def ew:List Value->List Value->Bool
 | [],[]=>true
 | x::xs,y::ys=>LO x y && ew xs ys
 | _,_=>false
def fitAll:List FK->List Value->Bool
 | [],[]=>true
 | k::ks,v::vs=>qo k v && fitAll ks vs
 | _,_=>false
def rv (P:Program):Nat->List Field->Option (List FK)
 | _,[]=>some []
 | n,f::fs=>match Nat.beq f.offset n,decide (f.name ≠ "_"),FW (P.underlying f.type),rv P (n+1) fs with
  | true,true,some k,some ks=>some (k::ks)
  | _,_,_,_=>none
def gR (P:Program) (t:TypeId):Option (List FK):=match P.underlying t with
 | some (.struct fs)=>if P.stoodInHeld t || P.eqGuardType P.depth t then none else rv P 0 fs.toList
 | _=>none
section eq
variable {P:Program}
theorem vf {t:TypeId} {k:FK} (h:FW (P.underlying t)=some k) {cs:Array Value} {off:Nat} {v:Value} (hv:cs[off]?=some v) (w:World):(part t cs off).run P w=.ok v w:=by
 have h1:(P.underlying t).map kT=some true:=by
  cases hd:P.underlying t with
  | none=>rw [hd] at h;cases h
  | some Lx=>rw [hd] at h;cases Lx <;> first|rfl|cases h
 simp [part,u5 h1,hv]
theorem xv {t:TypeId} {k:FK} (h:FW (P.underlying t)=some k) {x y:Value} (hx:qo k x=true) (hy:qo k y=true) (n:Nat) (w:World):(Op.equalIn (n+1) t x y).run P w=.ok (LO x y) w:=by
 cases hd:P.underlying t with
 | none=>rw [hd] at h;cases h
 | some Lx =>
  rw [hd] at h;cases Lx <;> simp only [FW,Option.some.injEq,reduceCtorEq] at h
  ·subst h;cases x <;> simp only [qo,zaz] at hx;cases y <;> simp only [qo,zaz] at hy;exact run_equalIn_bool' w n t _ _ hd
  ·subst h;cases x <;> simp only [qo,zaz] at hx;cases y <;> simp only [qo,zaz] at hy;have e1:=zcp hx;have e2:=zcp hy;rw [←e1,←e2];exact run_equalIn_int w n t _ _ _ _ hd
  ·subst h;cases x <;> simp only [qo,zaz] at hx;cases y <;> simp only [qo,zaz] at hy;exact run_equalIn_string w n t _ _ hd
theorem zj (n:Nat) (w:World):∀ (fs:List Field) (k:Nat) (ks:List FK) (xs ys:List Value) (X Y:Array Value),rv P k fs=some ks->fitAll ks xs=true->fitAll ks ys=true ->
  (∀ (j:Nat) v,xs[j]?=some v->X[k+j]?=some v)->(∀ (j:Nat) v,ys[j]?=some v->Y[k+j]?=some v)->(Op.eqFields (n+1) X Y fs).run P w=.ok (ew xs ys) w
 | [],k,ks,xs,ys,X,Y,h,hx,hy,_,_=>by
  simp only [rv,Option.some.injEq] at h;subst h
  match xs,ys with
  | [],[]=>rfl
  | _::_,_=>cases hx
  | [],_::_=>cases hy
 | f::fs,k,ks,xs,ys,X,Y,h,hx,hy,hX,hY=>by
  unfold rv at h;split at h
  ·rename_i kk Yb h1 h2 h3 h4;simp only [Option.some.injEq] at h;subst h
   match xs,ys with
   | [],_=>cases hx
   | _::_,[]=>cases hy
   | x::xs,y::ys =>
    simp only [fitAll,zas] at hx hy;have ho:=zau h1;have JM:f.name ≠ "_" := zcp h2;have px:=vf h3 (cs:=X) (off:=f.offset) (hX 0 x rfl |> λh=>by rw [ho];simpa using h) w;have py:=vf h3 (cs:=Y) (off:=f.offset) (hY 0 y rfl |> λh=>by rw [ho];simpa using h) w;have pe:=xv h3 hx.1 hy.1 n w;have ih:=zj n w fs (k+1) Yb xs ys X Y h4 hx.2 hy.2 (λj v hv=>by have:=hX (j+1) v (by simpa using hv);rwa [show k+1+j=k+(j+1) by omega]) (λj v hv=>by have:=hY (j+1) v (by simpa using hv);rwa [show k+1+j=k+(j+1) by omega]);simp only [Op.eqFields,zab JM,Sem.run_bind,px,py,pe,Result.andThen_ok,Sem.run_ite,ew];cases LO x y
    ·rfl
    ·simpa using ih
  ·cases h
theorem HE {t:TypeId} {ks:List FK} (h:gR P t=some ks) {xs ys:List Value} (hx:fitAll ks xs=true) (hy:fitAll ks ys=true) (w:World) (op:BinOp) (x y:Operand) :
  (eqGuard op t x y (.agg xs.toArray) (.agg ys.toArray)).run P w=.ok () w/\(Op.equalIn 10000 t (.agg xs.toArray) (.agg ys.toArray)).run P w=.ok (ew xs ys) w:=by
 unfold gR at h;split at h
 ·rename_i fs hu;split at h
  ·cases h
  ·rename_i M1;simp only [zbv,not_or,Bool.not_eq_true] at M1;have Sn:P.fieldsOf t=fs:=by simp [Program.fieldsOf,hu]
   refine ⟨run_eqGuard_agg w op t x y _ _ M1.2,?_⟩;rw [run_equalIn_struct w 9999 t _ _ (by rw [Sn];exact hu) M1.1,Sn];exact zj 9998 w fs.toList 0 ks xs ys _ _ h hx hy (λj v hv=>by simpa using hv) (λj v hv=>by simpa using hv)
 ·cases h
end eq
theorem wa {lim:Nat->Nat} {w:World} {u v:Value} (h:dw lim w (.ex u) v):v=u:=by cases h;rfl
def R0:List D->Option (List Value)
 | []=>some []
 | .ex v::l=>match R0 l with
  | some r=>some (v::r)
  | none=>none
 | _::_=>none
theorem HF:∀ {l:List D} {vs:List Value},R0 l=some vs->l=vs.map D.ex
 | [],vs,h=>by simp [R0] at h;subst h;rfl
 | .ex v::l,vs,h=>by
  unfold R0 at h;split at h
  ·rename_i r hr;simp only [Option.some.injEq] at h;subst h;rw [HF hr];rfl
  ·cases h
 | .agg _::l,vs,h=>by cases h
 | .dV _::l,vs,h=>by cases h
 | .sl _ _::l,vs,h=>by cases h
 | .ro _::l,vs,h=>by cases h
 | .e0 _::l,vs,h=>by cases h
 | .any::l,vs,h=>by cases h
theorem sW {lim:Nat->Nat} {w:World} {cs:List D} {vs:List Value} {v:Value} (h:R0 cs=some vs) (hr:dw lim w (.agg cs) v):v=.agg vs.toArray:=by
 have hm:=HF h;subst hm;cases hr with
 | agg _ us hs _ hc =>
  congr 1;apply Array.ext';apply zce;intro i;simp only [zcu] at hs;by_cases hi:i<vs.length
  ·have h1:us[i]?=some (us[i]'(by omega)):=zbg (by omega);have h2:=hc i (.ex vs[i]) _ (by rw [zbc,zae hi];rfl) h1;rw [zcd,h1,zae hi,wa h2]
  ·rw [zbl (by simp;omega),zbl (by simp;omega)]
section rules
variable {P:Program} {f:Ctx} {N:Nat} {S:Start} {Q:EV->St->Prop} {k:List Item} {base:Nat} {env:Env} {st:St} {ops rest:List Oper} {d:Option Tmp} {ty:TypeId} {pos:String} {after:Array Edge} {gd:Option (Nat×Bool)} {t t2 e:TypeId} {x y z:Operand}
section steq
variable {ks:List FK} {cs ds:List D} {xs ys:List Value} (hk:gR P t=some ks) (hx:cP env x=some (.d (.agg cs))) (hy:cP env y=some (.d (.agg ds))) (h1:R0 cs=some xs) (h2:R0 ds=some ys) (h3:fitAll ks xs=true) (h4:fitAll ks ys=true)
include hk hx hy h1 h2 h3 h4
theorem M4:aK P env st ⟨d,.binOp .eql t x y t2,ty,pos,after,gd⟩ (.d (.ex (.bool (ew xs ys)))):=ql λg w tmps w' he=>by
 obtain ⟨k1,k2⟩:=HE hk h3 h4 w' .eql x y;have e1:Act.eval ⟨tmps,[]⟩ x=.agg xs.toArray:=by cases aM he hx with|d _ _ h=>exact sW h1 h
 have e2:Act.eval ⟨tmps,[]⟩ y=.agg ys.toArray:=by cases aM he hy with|d _ _ h=>exact sW h2 h
 simp only [execOp,e1,e2,Sem.run_bind,k1,Result.andThen_ok,run_eql_struct,k2,Sem.run_pure]
theorem qT:aK P env st ⟨d,.binOp .neq t x y t2,ty,pos,after,gd⟩ (.d (.ex (.bool (!ew xs ys)))):=ql λg w tmps w' he=>by
 obtain ⟨k1,k2⟩:=HE hk h3 h4 w' .neq x y;have e1:Act.eval ⟨tmps,[]⟩ x=.agg xs.toArray:=by cases aM he hx with|d _ _ h=>exact sW h1 h
 have e2:Act.eval ⟨tmps,[]⟩ y=.agg ys.toArray:=by cases aM he hy with|d _ _ h=>exact sW h2 h
 simp only [execOp,e1,e2,Sem.run_bind,k1,Result.andThen_ok,run_neq_struct,k2,Sem.run_pure]
end steq
theorem te {f':FuncId} {l:List Operand} {es:List EV} (h:BM env l=some es):aK P env st ⟨d,.makeFunc (.func f') #[] l.toArray,ty,pos,after,gd⟩ (.vR f' es):=by
 intro g base w tmps hinv he;obtain ⟨k1,k2⟩:=u6 he l es h;refine ⟨.func (.func f') #[] (l.map (Act.eval ⟨tmps,[]⟩)).toArray,.vR f' es _ (by simp [k1]) (λi c u hc hu=>k2 i c u hc (by simpa using hu)),λw' _=>?_⟩;simp [execOp,Instr.makeFunc]
theorem nX {o off n m sz:Nat} {k:IntKind} {i:Int} (ht:P.underlying t=some (.array n e)) (hi:∃ inf,P.info? e=some inf/\inf.size=sz) (hx:cP env x=some (.ref o off)) (hy:cP env y=some (.d (.ex (.int k i)))) (hm:i=m) (cE:m<n) :
  aK P env st ⟨d,.indexAddr t x y,ty,pos,after,gd⟩ (.ref o (off+m*sz)):=λg base w tmps hinv he=>by
 subst hm;obtain ⟨inf,hi,rfl⟩:=hi;have h:=aM he hx;generalize hv:Act.eval ⟨tmps,[]⟩ x=v at h;have PZ:=(aM he hy).bK;cases h with
 | ref _ _ kU =>
  refine ⟨.pointer (some ⟨g.ob o,off+m*inf.size,none⟩),.ref _ _ kU,λw' _=>?_⟩;simp [execOp,hv,PZ,Instr.indexAt,asIntOf,run_underlying ht,Instr.sureAddr,sizeOf,typeInfo,hi,cE,Addr.add_lit]
end rules
section rules
variable {P:Program} {f:Ctx} {N:Nat} {S:Start} {Q:EV->St->Prop} {k:List Item} {base:Nat} {env:Env} {st:St} {ops rest:List Oper} {d:Option Tmp} {ty:TypeId} {pos:String} {after:Array Edge} {gd:Option (Nat×Bool)} {t t2 e:TypeId} {x y z:Operand}
theorem P0 {n m:Nat} {inf:TypeInfo} {cs:List D} {c:D} {k:IntKind} {i:Int} (ht:P.underlying t=some (.array n e)) (h1:(P.underlying e).map kT=some true) (hi:P.info? e=some inf) (hs:inf.size=1)
  (hx:cP env x=some (.d (.agg cs))) (hy:cP env y=some (.d (.ex (.int k i)))) (hm:i=m) (cE:m<n) (hc:cs[m]?=some c) :
  aK P env st ⟨d,.index t x y,ty,pos,after,gd⟩ (.d c):=λg base w tmps hinv he=>by
 subst hm;have h:=aM he hx;generalize hv:Act.eval ⟨tmps,[]⟩ x=v at h;have PZ:=(aM he hy).bK;cases h with
 | d _ _ h =>
  cases h with
  | agg _ us fE h1c rX =>
   have kU:m<us.size:=by rw [fE];exact (zad.1 hc).1
   have hu:us[m]?=some us[m]:=zbg kU;refine ⟨us[m],.d _ _ (rX m c _ hc hu),λw' hb=>?_⟩;have hag:=u5 (P:=P) h1 w';simp [execOp,hv,PZ,Instr.index,asIntOf,run_underlying ht,sizeOf,typeInfo,hi,hs,cE,part,hag,kU]
theorem oP {n sz:Nat} {inf ie:TypeInfo} {z:Value} {zs r:List D} {l:List (Nat×Operand)} (ht:P.underlying t=some (.array n e)) (hi:P.info? t=some inf) (hz:inf.zero=some z) (hie:P.info? e=some ie) (Oo:ie.size=sz) (qf:cellsD (.d (cv z))=some zs)
  (hl:De (λi=>some (i*sz,sz)) env zs l=some r):aK P env st ⟨d,.build t l.toArray,ty,pos,after,gd⟩ (.d (.agg r)):=by
 intro g base w tmps hinv he;have zN:=lj (g:=g) (w:=w) (st:=st) qf (.d _ _ (qj _ _ z));obtain ⟨us,h1,h2,h3⟩:=s9 he l zs z.cells r hl zN;refine ⟨.agg us,.d _ _ (.agg r us h2.1 (λi u hu=>?_) λi c u hc hu=>(h2.2 i c u hc hu).1),λw' hb=>?_⟩
 ·have hi':i<r.length:=by rw [←h2.1];exact (zaw.1 hu).1
  exact (h2.2 i _ u (zae hi') hu).2
 ·subst Oo;have hso:(sizeOf e:Sem Nat).run P w'=.ok ie.size w':=by simp [sizeOf,typeInfo,hie]
  simp only [execOp,Instr.build,Sem.run_bind,ta hi hz,Result.andThen_ok,run_underlying ht,zee,hso];rw [h1];simp
def tT (x y:D):Prop:=∀ lim w v,dw lim w x v->dw lim w y v
theorem tT.ak (x:D):tT x x:=λ_ _ _ h=>h
theorem tT.nil (sz:Nat):tT (.ex (.slice none 0 0)) (.sl sz []):=λ_ _ _ h=>by cases h;exact .nil sz _
def FX:List D->List D->Prop
 | [],[]=>True
 | x::xs,y::ys=>tT x y/\FX xs ys
 | _,_=>False
theorem FX.get:∀ {xs ys:List D},FX xs ys->xs.length=ys.length/\∀ (i:Nat) y,ys[i]?=some y->∃ x,xs[i]?=some x/\tT x y
 | [],[],_=>⟨rfl,λi y h=>by simp at h⟩
 | x::xs,y::ys,h=>by
  obtain ⟨h1,h2⟩:=FX.get h.2;refine ⟨by simp [h1],λi z hz=>?_⟩;cases i with
  | zero=>simp at hz;subst hz;exact ⟨x,rfl,h.1⟩
  | succ i=>simpa using h2 i z (by simpa using hz)
 | [],_::_,h=>h.elim
 | _::_,[],h=>h.elim
theorem tT.agg {xs ys:List D} (h:FX xs ys):tT (.agg xs) (.agg ys):=by
 intro lim w v hv;obtain ⟨h1,h2⟩:=h.get;cases hv with
 | agg _ vs hs ho hc =>
  refine .agg _ vs (by rw [hs,h1]) ho λi c u hi hu=>?_
  obtain ⟨x,hx,hle⟩:=h2 i c hi;exact hle lim w u (hc i x u hx hu)
def JN:List (List D)->List (List D)->Prop
 | [],[]=>True
 | x::xs,y::ys=>FX x y/\JN xs ys
 | _,_=>False
theorem JN.get:∀ {xs ys:List (List D)},JN xs ys->xs.length=ys.length/\∀ (i:Nat) y,ys[i]?=some y->∃ x,xs[i]?=some x/\FX x y
 | [],[],_=>⟨rfl,λi y h=>by simp at h⟩
 | x::xs,y::ys,h=>by
  obtain ⟨h1,h2⟩:=JN.get h.2;refine ⟨by simp [h1],λi z hz=>?_⟩;cases i with
  | zero=>simp at hz;subst hz;exact ⟨x,rfl,h.1⟩
  | succ i=>simpa using h2 i z (by simpa using hz)
 | [],_::_,h=>h.elim
 | _::_,[],h=>h.elim
theorem tT.sl {sz:Nat} {xs ys:List (List D)} (h:JN xs ys):tT (.sl sz xs) (.sl sz ys):=by
 intro lim w v hv;obtain ⟨h1,h2⟩:=h.get;cases hv with
 | nil =>
  have:ys=[]:=zba (by rw [←h1];rfl);subst this;exact .nil sz _
 | sl _ _ b off cap hc hr hx hh =>
  rw [h1];refine .sl sz ys b off cap (by rw [←h1];exact hc) (λrow rn=>?_) (λk hk=>hx k (by rw [h1];exact hk)) λi j row c u hi hj hu=>?_
  ·obtain ⟨i,hi⟩:=zcy.1 rn;obtain ⟨x,jK,hle⟩:=h2 i row hi;rw [←hle.get.1];exact hr x (zbh jK)
  ·obtain ⟨x,jK,hle⟩:=h2 i row hi;obtain ⟨d,hd,hl⟩:=hle.get.2 j c hj;exact hl lim w u (hh i j x d u jK hd hu)
theorem aD.le {f:FuncId} {xs ys:List D} {q:D->Prop} (h:aD P f ys q) (hle:FX xs ys):aD P f xs q:=by
 intro lim w vs hg ha;obtain ⟨h1,h2⟩:=hle.get;refine h lim w vs hg ⟨by rw [ha.1,h1],λi y v hy hv=>?_⟩;obtain ⟨x,hx,hl⟩:=h2 i y hy;exact hl lim w v (ha.2 i x v hx hv)
end rules
def ck {α:Type} (p:Prop) [Decidable p] (k:Option α):Option α:=if p then k else none
theorem aq {α:Type} {p:Prop} [Decidable p] {k:Option α} {r:α} (h:ck p k=some r):p/\k=some r:=by
 unfold ck at h;split at h
 ·exact ⟨by assumption,h⟩
 ·cases h
theorem ck2 {α:Type} {p0 p1:Prop} [Decidable p0] [Decidable p1] {x:Option α} {r:α} (h:ck p0 (ck p1 x)=some r):p0/\p1/\x=some r:=by
 obtain ⟨h0,h⟩:=aq h;obtain ⟨h1,h⟩:=aq h;exact ⟨h0,h1,h⟩
theorem ck3 {α:Type} {p0 p1 p2:Prop} [Decidable p0] [Decidable p1] [Decidable p2] {x:Option α} {r:α} (h:ck p0 (ck p1 (ck p2 x))=some r):p0/\p1/\p2/\x=some r:=by
 obtain ⟨h0,h⟩:=aq h;obtain ⟨h1,h⟩:=aq h;obtain ⟨h2,h⟩:=aq h;exact ⟨h0,h1,h2,h⟩
theorem ck4 {α:Type} {p0 p1 p2 p3:Prop} [Decidable p0] [Decidable p1] [Decidable p2] [Decidable p3] {x:Option α} {r:α} (h:ck p0 (ck p1 (ck p2 (ck p3 x)))=some r):p0/\p1/\p2/\p3/\x=some r:=by
 obtain ⟨h0,h⟩:=aq h;obtain ⟨h1,h⟩:=aq h;obtain ⟨h2,h⟩:=aq h;obtain ⟨h3,h⟩:=aq h;exact ⟨h0,h1,h2,h3,h⟩
theorem ck5 {α:Type} {p0 p1 p2 p3 p4:Prop} [Decidable p0] [Decidable p1] [Decidable p2] [Decidable p3] [Decidable p4] {x:Option α} {r:α} (h:ck p0 (ck p1 (ck p2 (ck p3 (ck p4 x))))=some r):p0/\p1/\p2/\p3/\p4/\x=some r:=by
 obtain ⟨h0,h⟩:=aq h;obtain ⟨h1,h⟩:=aq h;obtain ⟨h2,h⟩:=aq h;obtain ⟨h3,h⟩:=aq h;obtain ⟨h4,h⟩:=aq h;exact ⟨h0,h1,h2,h3,h4,h⟩
theorem ck6 {α:Type} {p0 p1 p2 p3 p4 p5:Prop} [Decidable p0] [Decidable p1] [Decidable p2] [Decidable p3] [Decidable p4] [Decidable p5] {x:Option α} {r:α} (h:ck p0 (ck p1 (ck p2 (ck p3 (ck p4 (ck p5 x)))))=some r):p0/\p1/\p2/\p3/\p4/\p5/\x=some r:=by
 obtain ⟨h0,h⟩:=aq h;obtain ⟨h1,h⟩:=aq h;obtain ⟨h2,h⟩:=aq h;obtain ⟨h3,h⟩:=aq h;obtain ⟨h4,h⟩:=aq h;obtain ⟨h5,h⟩:=aq h;exact ⟨h0,h1,h2,h3,h4,h5,h⟩
theorem ck7 {α:Type} {p0 p1 p2 p3 p4 p5 p6:Prop} [Decidable p0] [Decidable p1] [Decidable p2] [Decidable p3] [Decidable p4] [Decidable p5] [Decidable p6] {x:Option α} {r:α} (h:ck p0 (ck p1 (ck p2 (ck p3 (ck p4 (ck p5 (ck p6 x))))))=some r):p0/\p1/\p2/\p3/\p4/\p5/\p6/\x=some r:=by
 obtain ⟨h0,h⟩:=aq h;obtain ⟨h1,h⟩:=aq h;obtain ⟨h2,h⟩:=aq h;obtain ⟨h3,h⟩:=aq h;obtain ⟨h4,h⟩:=aq h;obtain ⟨h5,h⟩:=aq h;obtain ⟨h6,h⟩:=aq h;exact ⟨h0,h1,h2,h3,h4,h5,h6,h⟩
abbrev cL (x:Int):Prop:=-9223372036854775808<=x/\x<=9223372036854775807
theorem af {α:Type} {p:Prop} [Decidable p] {k:Option α} (h:p):ck p k=k:=zab h
def b9 {α:Type} [Inhabited α] (b:Bool) (o:Option α):Option α:=if b=true then o else some default
theorem ba {α:Type} [Inhabited α] {b:Bool} {o:Option α} {y:α} (h:b9 b o=some y):b=true->o=some y:=λhb=>by
 rw [b9,zab hb] at h;exact h
theorem ae {α β:Type} {o:Option α} {k:α->Option β} {r:β} (h:o.bind k=some r):∃ y,o=some y/\k y=some r:=by
 cases o with
 | none=>cases h
 | some y=>exact ⟨y,rfl,h⟩
theorem bR {α β:Type} {o:Option α} {k:α->β} {r:β} (h:o.map k=some r):∃ y,o=some y/\k y=r:=by
 cases o with
 | none=>cases h
 | some y=>exact ⟨y,rfl,by simpa using h⟩
theorem ifT {α:Type} {b:Bool} {x y:Option α} {r:α} (hc:b=true) (h:(if b=true then x else y)=some r):x=some r:=by rw [zab hc] at h;exact h
theorem ifF {α:Type} {b:Bool} {x y:Option α} {r:α} (hc:b=false) (h:(if b=true then x else y)=some r):y=some r:=by rw [zaa (by rw [hc];exact zdz)] at h;exact h
def iter {S R:Type} (step:S->Option (S ⊕ R)):Nat->S->Option R
 | 0,_=>none
 | n+1,s=>match step s with
  | none=>none
  | some (.inl s')=>iter step n s'
  | some (.inr r)=>some r
def loop {S R:Type} (step:S->Option (S ⊕ R)) (s:S):Option R:=iter step 18446744073709551616 s
theorem fq {S R:Type} {step:S->Option (S ⊕ R)} {s:S} {r:R} (h:loop step s=some r):∃ n,iter step n s=some r:=⟨_,h⟩
def Kof {S R:Type} (step:S->Option (S ⊕ R)) (n:Nat) (ρ:R):S ⊕ R->Prop
 | .inl s=>iter step n s=some ρ
 | .inr r=>r=ρ
theorem ft {S R:Type} {step:S->Option (S ⊕ R)} {n:Nat} {s:S} {ρ:R} (h:iter step n s=some ρ):∃ m q,m<n/\step s=some q/\Kof step m ρ q:=by
 cases n with
 | zero=>cases h
 | succ m =>
  unfold iter at h;split at h
  ·cases h
  ·rename_i s' hs;exact ⟨m,_,zfj _,hs,h⟩
  ·rename_i r hs;cases h;exact ⟨m,_,zfj _,hs,rfl⟩
def Kq {S R:Type} (r:R) (P:S->Prop):S⊕R->Prop
 | .inl s=>P s
 | .inr x=>x=r
theorem bq.lp {P:Program} {f:Ctx} {N:Nat} {S:Start} {Q:EV->St->Prop} {k:List Item} {env:Env} {st:St} {c:Code} {σ R:Type} {F:σ->Option (σ⊕R)} {s0:σ} {r:R} (H:Go.Abs.loop F s0=some r) (E:σ->Env) (T:σ->St) (hE:cZ env (E s0)) (hT:st=T s0) (step:∀ s q,F s=some q->Kq r (λj=>bq P f N S Q (.inLoop c::k) (E j) (T j)) q->bq P f N S Q (.code c::.inLoop c::k) (E s) (T s)):bq P f N S Q (.code (.loop c)::k) env st:=by
 obtain ⟨n,H⟩:=fq H;refine .loop (ι:=Nat×σ) (λp=>E p.2) (λp=>T p.2) (λp=>iter F p.1 p.2=some r) (·.1) (n,s0) H hE hT ?_
 rintro ⟨m,s⟩ HI ih;obtain ⟨m1,q,hm,h,hk⟩:=ft HI;refine step s q h ?_;cases q with
 | inl j=>exact ih (m1,j) hk hm
 | inr x=>exact hk
theorem ng {S R:Type} {step:S->Option (S ⊕ R)} (F:S->Option R) (I:S->Prop) (μ:S->Nat)
  (h:∀ s,I s->(∃ r,step s=some (.inr r)/\F s=some r)∨∃ s',step s=some (.inl s')/\I s'/\μ s'<μ s/\F s'=F s) {s:S} (hI:I s) (hμ:μ s<18446744073709551616):loop step s=F s:=by
 have key:∀ n s,I s->μ s<n->∃ r,iter step n s=some r/\F s=some r:=by
  intro n
  induction n with
  | zero=>intro s _ hn;omega
  | succ n ih =>
   intro s hI hn;rcases h s hI with ⟨r,h1,h2⟩|⟨s',h1,h2,h3,h4⟩
   ·exact ⟨r,by unfold iter;rw [h1],h2⟩
   ·obtain ⟨r,k1,k2⟩:=ih s' h2 (by omega);exact ⟨r,by unfold iter;rw [h1];exact k1,by rw [←h4];exact k2⟩
 obtain ⟨r,h1,h2⟩:=key _ s hI hμ;rw [h2];exact h1
theorem qp {S R:Type} {step:S->Option (S ⊕ R)} (Q:R->Prop) (I:S->Prop) (μ:S->Nat)
  (h:∀ s,I s->(∃ r,step s=some (.inr r)/\Q r)∨∃ s',step s=some (.inl s')/\I s'/\μ s'<μ s) {s:S} (hI:I s) (hμ:μ s<18446744073709551616):∃ r,loop step s=some r/\Q r:=by
 have key:∀ n s,I s->μ s<n->∃ r,iter step n s=some r/\Q r:=by
  intro n
  induction n with
  | zero=>intro s _ hn;omega
  | succ n ih =>
   intro s hI hn;rcases h s hI with ⟨r,h1,h2⟩|⟨s',h1,h2,h3⟩
   ·exact ⟨r,by unfold iter;rw [h1],h2⟩
   ·obtain ⟨r,k1,k2⟩:=ih s' h2 (by omega);exact ⟨r,by unfold iter;rw [h1];exact k1,k2⟩
 exact key _ s hI hμ
abbrev Yc (b:UInt8):D:=.ex (.int .u8 (b.toNat:Int))
abbrev cK (k:IntKind) (n:Int):D:=.ex (.int k n)
abbrev aY:D:=.ex (.slice none 0 0)
def TH {α:Type} (sz:Nat) (row:α->List D) (l:List α):List D:=[.sl sz (l.map row)]
theorem dX.d {x y:D} (h:tT x y):dX (.d x) (.d y):=λg w st v hv=>by cases hv with|d _ _ hd=>exact .d _ _ (h _ _ _ hd)
theorem tT.e0 (sz:Nat):tT (.e0 sz) (.sl sz []):=λ_ _ _ h=>D.MP h
theorem tT.dV {xs ys:List D} (h:FX xs ys):tT (.dV xs) (.dV ys):=by
 intro lim w v hv;obtain ⟨h1,h2⟩:=h.get;cases hv with
 | dV _ vs hs hc =>
  refine .dV _ vs (by rw [hs,h1]) λi c u hi hu=>?_
  obtain ⟨x,hx,hle⟩:=h2 i c hi;exact hle lim w u (hc i x u hx hu)
theorem tT.ro {xs ys:List D} (h:FX xs ys):tT (.ro xs) (.ro ys):=by
 intro lim w v hv;obtain ⟨h1,h2⟩:=h.get;cases hv with
 | ro _ b off hx hc =>
  refine .ro ys b off (λk hk=>hx k (by rw [h1];exact hk)) λj c u hj hu=>?_;obtain ⟨x,jK,hle⟩:=h2 j c hj;exact hle lim w u (hc j x u jK hu)
section weak
variable {P:Program} {f:Ctx} {N:Nat} {S:Start} {Q:EV->St->Prop} {k:List Item} {todo:List Item} {env:Env} {st:St} {ops rest:List Oper}
theorem cd.uH {st':St} (h:st=st') (hk:cd P f N S Q ops rest k env st'):cd P f N S Q ops rest k env st:=h▸hk
end weak
theorem aK.le {P:Program} {env:Env} {st:St} {o:Oper} {x y:EV} (h:aK P env st o x) (hle:dX x y):aK P env st o y:=λg b w t hi he =>
 let ⟨v,h1,h2⟩:=h g b w t hi he
 ⟨v,hle _ _ _ _ h1,h2⟩
theorem zi.le {P:Program} {env:Env} {st:St} {o:Oper} {x y:EV} (h:zi P env st o x) (hle:dX x y):zi P env st o y:=λg b w t hi he=>by
 rcases h g b w t hi he with ⟨v,l,w',h1,h2,h3,h4⟩|⟨f,a,h1,h2⟩
 ·exact .inl ⟨v,l,w',h1,hle _ _ _ _ h2,h3,h4⟩
 ·exact .inr ⟨f,a,h1,h2.mono λe w' ⟨v,l,k0,k1,k2,k3⟩=>⟨v,l,k0,hle _ _ _ _ k1,k2,k3⟩⟩
section q
variable {P:Program} {base:Nat} {env:Env} {st:St} {d:Option Tmp} {ty:TypeId} {pos:String} {after:Array Edge} {gd:Option (Nat×Bool)} {t t2 e:TypeId} {x y z:Operand}
section u8
variable {a b:UInt8} (hx:cP env x=some (.d (Yc a))) (hy:cP env y=some (.d (Yc b)))
theorem UN (a b:UInt8):((a.toNat:Int)==(b.toNat:Int))=(a==b):=by
 rw [zbz];simp only [zdw];constructor
 ·intro h;exact UInt8.toNat_inj.1 (by omega)
 ·intro h;rw [h]
include hx hy
theorem HG:aK P env st ⟨d,.binOp .lss t x y t2,ty,pos,after,gd⟩ (.d (cB (decide (a<b)))):=by
 have:=Tw (P:=P) (st:=st) (d:=d) (ty:=ty) (pos:=pos) (after:=after) (gd:=gd) (t:=t) (t2:=t2) hx hy
 rwa [show decide (((a.toNat:Int))<(b.toNat:Int))=decide (a<b) from by rw [zfk,UInt8.lt_iff_toNat_lt];omega] at this
theorem UO:aK P env st ⟨d,.binOp .leq t x y t2,ty,pos,after,gd⟩ (.d (cB (decide (a<=b)))):=by
 have:=Tx (P:=P) (st:=st) (d:=d) (ty:=ty) (pos:=pos) (after:=after) (gd:=gd) (t:=t) (t2:=t2) hx hy
 rwa [show decide (((a.toNat:Int))<=(b.toNat:Int))=decide (a<=b) from by rw [zfk,UInt8.le_iff_toNat_le];omega] at this
theorem HH:aK P env st ⟨d,.binOp .gtr t x y t2,ty,pos,after,gd⟩ (.d (cB (decide (a > b)))):=by
 have:=Ty (P:=P) (st:=st) (d:=d) (ty:=ty) (pos:=pos) (after:=after) (gd:=gd) (t:=t) (t2:=t2) hx hy
 rwa [show decide (((a.toNat:Int)) > (b.toNat:Int))=decide (a > b) from by rw [zfk,gt_iff_lt,gt_iff_lt,UInt8.lt_iff_toNat_lt];omega] at this
theorem UP:aK P env st ⟨d,.binOp .geq t x y t2,ty,pos,after,gd⟩ (.d (cB (decide (a>=b)))):=by
 have:=Tz (P:=P) (st:=st) (d:=d) (ty:=ty) (pos:=pos) (after:=after) (gd:=gd) (t:=t) (t2:=t2) hx hy
 rwa [show decide (((a.toNat:Int))>=(b.toNat:Int))=decide (a>=b) from by rw [zfk,ge_iff_le,ge_iff_le,UInt8.le_iff_toNat_le];omega] at this
theorem UQ:aK P env st ⟨d,.binOp .neq t x y t2,ty,pos,after,gd⟩ (.d (cB (a != b))):=by
 have:=TA (P:=P) (st:=st) (d:=d) (ty:=ty) (pos:=pos) (after:=after) (gd:=gd) (t:=t) (t2:=t2) hx hy
 rwa [show ((a.toNat:Int) != (b.toNat:Int))=(a != b) from by unfold bne;rw [UN]] at this
end u8
section sl
variable {α:Type} {sz:Nat} {row:α->List D} {l:List α} {ev:EV} {inf:TypeInfo}
theorem UR [Inhabited α] {k:IntKind} {i:Int} (ht:P.underlying t=some (.slice e)) (hi:P.info? e=some inf) (fE:inf.size=sz) (hx:cP env x=some ev) (hs:uD ev=some (sz,l.map row)) (hy:cP env y=some (.d (.ex (.int k i)))) (h:0<=i/\i<l.length) :
  aK P env st ⟨d,.indexAddr t x y,ty,pos,after,gd⟩ (.d (.ro (row (nth l i.toNat)))):=UK (n:=i.toNat) ht hi fE hx hs hy (by omega) (BV (by omega))
theorem nY {a:List UInt8} {k:IntKind} {i:Int} (ht:P.underlying t=some .string) (hx:cP env x=some (.d (cS a))) (hy:cP env y=some (.d (.ex (.int k i)))) (h:0<=i/\i<a.length) :
  aK P env st ⟨d,.index t x y,ty,pos,after,gd⟩ (.d (Yc (nth a i.toNat))):=by
 have:=PX (n:=i.toNat) (st:=st) (d:=d) (ty:=ty) (pos:=pos) (after:=after) (gd:=gd) ht hx hy (by omega) (by omega);exact this
theorem US (ht:P.underlying t=some (.slice e)) (hx:cP env x=some ev) (hs:uD ev=some (sz,l.map row)) :
  aK P env st ⟨d,.call ⟨.builtin .len,#[x],#[t]⟩,ty,pos,after,gd⟩ (.d (cI (l.length:Int))):=by
 have:=UL (st:=st) (d:=d) (ty:=ty) (pos:=pos) (after:=after) (gd:=gd) ht hx hs
 rwa [zcu] at this
theorem Ee {kh:IntKind} {b:Int} (ht:P.underlying t=some (.slice e)) (hi:P.info? e=some inf) (fE:inf.size=sz) (hx:cP env x=some ev) (hs:uD ev=some (sz,l.map row)) (hz:cP env z=some (.d (.ex (.int kh b)))) (h:0<=b/\b<=l.length) :
  aK P env st ⟨d,.slice t x none (some z) none,ty,pos,after,gd⟩ (.d (ai sz row (l.take b.toNat))):=by
 have:=XT (st:=st) (d:=d) (ty:=ty) (pos:=pos) (after:=after) (gd:=gd) ht hi fE hx hs hz h.1 (by simpa using h.2);simpa [ai] using this
theorem LP {kl:IntKind} {a:Int} (ht:P.underlying t=some (.slice e)) (hi:P.info? e=some inf) (fE:inf.size=sz) (hx:cP env x=some ev) (hs:uD ev=some (sz,l.map row)) (hy:cP env y=some (.d (.ex (.int kl a)))) (h:0<=a/\a<=l.length) :
  aK P env st ⟨d,.slice t x (some y) none none,ty,pos,after,gd⟩ (.d (ai sz row (l.drop a.toNat))):=by
 have:=XU (st:=st) (d:=d) (ty:=ty) (pos:=pos) (after:=after) (gd:=gd) ht hi fE hx hs hy h.1 (by simpa using h.2);simpa [ai] using this
theorem P1 {a:List UInt8} {kl kh:IntKind} {i j:Int} (ht:P.underlying t=some .string) (hx:cP env x=some (.d (cS a))) (hy:cP env y=some (.d (.ex (.int kl i)))) (hz:cP env z=some (.d (.ex (.int kh j)))) (h:0<=i/\i<=j/\j<=a.length) :
  aK P env st ⟨d,.slice t x (some y) (some z) none,ty,pos,after,gd⟩ (.d (cS ((a.take j.toNat).drop i.toNat))):=by
 have:=Se (st:=st) (d:=d) (ty:=ty) (pos:=pos) (after:=after) (gd:=gd) ht hx hy hz h.1 h.2.1 h.2.2
 rwa [←List.drop_take] at this
theorem BW {n b:Nat} (h:n<=1000000000) (hb:b<=100000):n*b<=140737488355328:=zdg (Nat.mul_le_mul h hb) (by decide)
theorem yk {l':List α} {tk:Nat} {z:Value} {w:EV} (ht:P.underlying t=some (.slice e)) (hi:P.info? e=some inf) (hz:inf.zero=some z) (ey:inf.size=sz) (qf:z.cells.size=sz) (hb:inf.bytes<=100000)
  (hx:cP env x=some (.cz sz (l.map row) tk)) (eN:st.ar[tk]?=some ⟨e,sz,l.length,none⟩) (hy:cP env y=some w) (hs:uD w=some (sz,l'.map row)) (hn:l.length+l'.length<=1000000000) :
  xl P base env st ⟨d,.call ⟨.builtin .append,#[x,y],#[t,t]⟩,ty,pos,after,gd⟩ (.cz sz ((l++l').map row) tk) (st.bC tk ⟨e,sz,(l++l').length,none⟩):=by
 have:=PM (base:=base) (d:=d) (ty:=ty) (pos:=pos) (after:=after) (gd:=gd) ht hi hz ey qf hx (by simpa using eN) hy hs (by simpa using BW hn hb) (by simp;omega);simpa using this
theorem wc {l':List α} {z:Value} {w:EV} (ht:P.underlying t=some (.slice e)) (hi:P.info? e=some inf) (hz:inf.zero=some z) (ey:inf.size=sz) (qf:z.cells.size=sz) (hb:inf.bytes<=100000)
  (hx:cP env x=some (.d aY)) (hy:cP env y=some w) (hs:uD w=some (sz,l'.map row)) (hn:l'.length<=1000000000) :
  xl P base env st ⟨d,.call ⟨.builtin .append,#[x,y],#[t,t]⟩,ty,pos,after,gd⟩ (.cz sz (l'.map row) st.ar.length) ((st.tok ⟨e,sz,0,none⟩).bC st.ar.length ⟨e,sz,l'.length,none⟩):=by
 have:=JD (base:=base) (st:=st) (d:=d) (ty:=ty) (pos:=pos) (after:=after) (gd:=gd) ht hi hz ey qf hx hy hs (by simpa using BW hn hb) (by simp;omega);simpa using this
theorem Ef {l':List α} {z:Value} {w e0:EV} (ht:P.underlying t=some (.slice e)) (hi:P.info? e=some inf) (hz:inf.zero=some z) (ey:inf.size=sz) (qf:z.cells.size=sz) (hb:inf.bytes<=100000)
  (hx:cP env x=some e0) (h0:e0=.d (.e0 sz)∨e0=.d aY) (hy:cP env y=some w) (hs:uD w=some (sz,l'.map row)) (hn:l'.length<=1000000000) :
  zi P env st ⟨d,.call ⟨.builtin .append,#[x,y],#[t,t]⟩,ty,pos,after,gd⟩ (.d (ai sz row l')) :=
 Oi ht hi hz ey qf hx h0 hy hs (by simpa using BW hn hb) (by simp;omega)
end sl
end q
section ret
variable {P:Program} {f:Ctx} {N:Nat} {S:Start} {Q:EV->St->Prop} {k:List Item} {env:Env} {st:St}
theorem bq.bH {id:Nat} {c:Code} {ι:Type} (E:ι->Env) (T:ι->St) (I:ι->Prop)
  (hk:∀ i,I i->bq P f N S Q k (E i) (T i)) (h:(∀ i,I i->bq P f N S Q (.inBlock id::k) (E i) (T i))->(∀ i,I i->bq P f N S Q k (E i) (T i))->bq P f N S Q (.code c::.inBlock id::k) env st) :
  bq P f N S Q (.code (.block id c)::k) env st:=.block (h (λi hi=>.inBlock (hk i hi)) hk)
def TI (P:Program) (env:Env) (st:St):ResultVar->EV->Prop
 | .tmp t,r=>lookup t env=some r
 | .cell a T,r=>(∃ o off,lookup a env=some (.ref o off))/\aK P env st ⟨none,.load T (.tmp a),0, "",#[],none⟩ r
def Eg (P:Program) (env:Env) (st:St):List ResultVar->List EV->Prop
 | [],[]=>True
 | x::xs,e::es=>TI P env st x e/\Eg P env st xs es
 | _,_=>False
def Eh:List EV->EV
 | [r]=>r
 | l=>.dV l
def JO:List EV->List D->Prop
 | [],[]=>True
 | e::es,x::xs=>dX e (.d x)/\JO es xs
 | _,_=>False
theorem JO.get:∀ {es:List EV} {ds:List D},JO es ds->es.length=ds.length/\∀ (i:Nat) d,ds[i]?=some d->∃ e,es[i]?=some e/\dX e (.d d)
 | [],[],_=>⟨rfl,λi y h=>by simp at h⟩
 | e::es,d::ds,h=>by
  obtain ⟨h1,h2⟩:=JO.get h.2;refine ⟨by simp [h1],λi z hz=>?_⟩;cases i with
  | zero=>simp at hz;subst hz;exact ⟨e,rfl,h.1⟩
  | succ i=>simpa using h2 i z (by simpa using hz)
 | [],_::_,h=>h.elim
 | _::_,[],h=>h.elim
theorem dX.qq {es:List EV} {ds:List D} (h:JO es ds):dX (.dV es) (.d (.dV ds)):=by
 intro g w st v hv;obtain ⟨h1,h2⟩:=h.get;cases hv with
 | dV _ vs hs hc =>
  refine .d _ _ (.dV _ vs (by rw [hs,h1]) λi d u hd hu=>?_);obtain ⟨e,he,hle⟩:=h2 i d hd;cases hle _ _ _ _ (hc i e u he hu) with|d _ _ h=>exact h
def GH (tmps:Array Value):ResultVar->Sem Value
 | .tmp t=>pure (tmps.getD t undef)
 | .cell a t=>do loadVar t (←asAddr (tmps.getD a undef))
theorem Sq {g:bT} {w:World} {base:Nat} {tmps:Array Value} (hi:Inv g base w st) (he:dO g w st env tmps) {x:ResultVar} {e:EV} (h:TI P env st x e) :
  ∃ v,(GH tmps x).run P w=.ok v w/\bJ g w st e v:=by
 cases x with
 | tmp t =>
  obtain ⟨v,h1,h2⟩:=he t e h;exact ⟨v,by simp [GH,zar,h1],h2⟩
 | cell a T =>
  obtain ⟨⟨o,off,hx⟩,hq⟩:=h;obtain ⟨v,h1,h2⟩:=hq g base w tmps hi he;have h3:=h2 w (.refl _ _);obtain ⟨pv,h4,h5⟩:=he a _ hx;have h6:(Act.eval ⟨tmps,[]⟩ (.tmp a))=pv:=by
   show tmps.getD a undef=pv;rw [zar,h4];rfl
  refine ⟨v,?_,h1⟩;cases h5 with
  | ref _ _ cE =>
   simp only [execOp,h6,Instr.loadAt,Instr.sureAddr,Sem.run_bind] at h3;simp only [GH];simp [zar,h4,asAddr];simp at h3;generalize (Sem.run P (loadVar T { block:=g.ob o,off:=off }) w)=res at h3 ⊢;cases res with
   | ok x w2=>simp [Result.andThen_ok] at h3;simp [h3]
   | halt h w2=>simp [Result.andThen] at h3
theorem HJ {g:bT} {w:World} {base:Nat} {tmps:Array Value} (hi:Inv g base w st) (he:dO g w st env tmps):∀ {xs:List ResultVar} {es:List EV},Eg P env st xs es ->
  ∃ vs:List Value,(xs.mapM (GH tmps)).run P w=.ok vs w/\vs.length=es.length/\∀ (i:Nat) e v,es[i]?=some e->vs[i]?=some v->bJ g w st e v
 | [],[],_=>⟨[],by simp,rfl,by simp⟩
 | x::xs,e::es,h=>by
  obtain ⟨v,h1,h2⟩:=Sq hi he h.1;obtain ⟨vs,k1,k2,k3⟩:=HJ hi he h.2;refine ⟨v::vs,by simp [h1,k1],by simp [k2],λi e' v' Aw MY=>?_⟩;cases i with
  | zero=>simp at Aw MY;subst Aw;subst MY;exact h2
  | succ i=>exact k3 i e' v' (by simpa using Aw) (by simpa using MY)
 | [],_::_,h=>h.elim
 | _::_,[],h=>h.elim
theorem bq.UT {f:FuncId} {fn:Func} (xs:List ResultVar) (es:List EV) (hf:P.funcs[f]?=some fn) (hr:fn.results=xs.toArray) (h:Eg P env st xs es) (hQ:Q (Eh es) st):bq P (.of f) N S Q (.code .ret::k) env st:=by
 intro g w tmps hi hh he hn;obtain ⟨vs,h1,h2,h3⟩:=HJ hi he h;have gY:(results fn tmps).run P w=.ok (if h:vs.toArray.size=1 then vs.toArray[0] else .tuple vs.toArray) w:=by
  have UU:(results fn tmps)=(do let vs ←fn.results.mapM (GH tmps);pure (if h:vs.size=1 then vs[0] else .tuple vs)):=by
   unfold results;congr 1
  rw [UU,hr,zfe];simp only [Sem.run_bind,Sem.run_map,h1,Result.andThen_ok,Sem.run_pure]
 refine ep.ret hf gY ⟨_,Eh es,st,g,rfl,hQ,?_,hi,hh⟩;by_cases hl:vs.toArray.size=1
 ·rw [dif_pos hl]
  match vs,es,h2,hl,h3 with
  | [v],[e],_,_,h3=>exact h3 0 e v rfl rfl
  | [],_,_,hl,_=>simp at hl
  | _::_::_,_,_,hl,_=>simp at hl
 ·rw [dif_neg hl];have hes:Eh es=.dV es:=by
   match es,h2 with
   | [],_=>rfl
   | [e],h2=>exact absurd (by simpa using h2) hl
   | _::_::_,_=>rfl
  rw [hes];exact .dV es vs.toArray (by simpa using h2) λi c u hc hu=>h3 i c u hc (by simpa using hu)
end ret
section b
variable {P:Program} {env:Env} {st:St} {d:Option Tmp} {ty:TypeId} {pos:String} {after:Array Edge} {gd:Option (Nat×Bool)} {t t2 e:TypeId} {x y z:Operand}
theorem gA {n sz:Nat} {inf:TypeInfo} {z:Value} {zs:List D} {rows:List (List D)} {l:List (Nat×Operand)} (ht:P.underlying t=some (.slice e)) (hi:P.info? e=some inf) (fE:inf.size=sz) (hz:inf.zero=some z) (qf:Nat.beq z.cells.size sz=true)
  (xo:(Nat.ble (n*sz) 16777216 && Nat.blt 0 n && Nat.blt 0 sz)=true) (MZ:cellsD (.d (cv z))=some zs) (hl:De (λi=>some (i*sz,sz)) env (List.replicate n zs).flatten l=some rows.flatten)
  (hr:(rows.all (λr=>Nat.beq r.length sz) && Nat.beq rows.length n)=true) :
  zi P env st ⟨d,.buildSlice t n l.toArray,ty,pos,after,gd⟩ (.d (.sl sz rows)):=by
 simp only [zas] at xo hr;have FV:=zau qf;have Pp:zs.length=sz:=by
  have:=(lj (g:=⟨λ_=>0,λ_=>0,λ_=>.nilFunc⟩) (w:=(default:World)) (st:=⟨[],[]⟩) MZ (.d _ _ (qj _ _ z))).1;omega
 exact AL ht hi fE hz FV (iL xo.1.2) (zaf xo.1.1) (by simp [Pp]) MZ hl hr.1 (zau hr.2) (iL xo.2)
theorem dv {a b:Bool} (hx:cP env x=some (.d (cB a))) (hy:cP env y=some (.gd a (.d (cB b)))) (hz:cP env z=some (.d (cB false))) :
  aK P env st ⟨d,.pick x y z,ty,pos,after,gd⟩ (.d (cB (a && b))):=by
 have:=Oc (P:=P) (st:=st) (d:=d) (ty:=ty) (pos:=pos) (after:=after) (gd:=gd) hx hy hz
 rwa [show (if a=true then b else false)=(a && b) from by cases a <;> rfl] at this
theorem yl {a b:Bool} (hx:cP env x=some (.d (cB a))) (hy:cP env y=some (.d (cB true))) (hz:cP env z=some (.gd (!a) (.d (cB b)))) :
  aK P env st ⟨d,.pick x y z,ty,pos,after,gd⟩ (.d (cB (a || b))):=by
 have:=Px (P:=P) (st:=st) (d:=d) (ty:=ty) (pos:=pos) (after:=after) (gd:=gd) hx hy hz
 rwa [show (if a=true then true else b)=(a || b) from by cases a <;> rfl] at this
theorem sD {f':FuncId} {l:List Operand} {ts:Array TypeId} {es:List EV} {ds:List D} {r:D} (Da:Enters P f') (hx:cP env x=some (.d (.ex (.func (.func f') #[] #[])))) (h1:BM env l=some es) (h2:Ly es=some ds) (hc:aD P f' ds (·=r)) :
  zi P env st ⟨d,.call ⟨.value x,l.toArray,ts⟩,ty,pos,after,gd⟩ (.d r):=λg base w tmps hi he=>by
 have hv:=(aM he hx).bK;have gY:=GC (d:=d) (ty:=ty) (pos:=pos) (after:=after) (l:=l) (ts:=ts) Da w hv (gd:=gd);rw [Array.append_empty] at gY;refine .inr ⟨f',_,gY,(hc g.lim w _ (hi.C9.mono hi.base) (.of he h1 h2)).mono ?_⟩;rintro e w' ⟨v,r',dh,rfl,rfl,hr,PE,hb,hl⟩;exact ⟨v,dh,rfl,.d _ _ hr,hb,hl⟩
theorem Inv.Sr {g:bT} {base:Nat} {w:World} {st:St} (h:Inv g base w st) (e sz n:Nat) (vs:Array Value) (Db:vs.size=n*sz) (hn:n<=maxLen) :
  ∃ g',g'.tk st.ar.length=.slice (some ⟨w.heap.size,0,none⟩) n n/\Inv g' base (w.alloc (.cells vs e)) (st.tok ⟨e,sz,n,none⟩)/\Step base g w st g' (w.alloc (.cells vs e)) (st.tok ⟨e,sz,n,none⟩):=by
 obtain ⟨g',h1,_,_,h2,h3⟩:=h.sB ⟨e,sz,n,none⟩ (v:=.slice (some ⟨w.heap.size,0,none⟩) n n) (xs:=vs.toList) ⟨by simp [Db],.inr ⟨w.heap.size,n,vs,rfl,h.base,heap_alloc_new w _,zap _,hn,Db,by rw [zbw (by simp [Db])]⟩⟩
  (.inr ⟨rfl,(Below.refl _ w).alloc (zap _) _⟩) (λrows hh=>by cases hh)
 exact ⟨g',h1,h2,h3⟩
theorem zk {base n sz:Nat} {inf:TypeInfo} {z:Value} {zs:List D} {rows:List (List D)} {l:List (Nat×Operand)} (ht:P.underlying t=some (.slice e)) (hi:P.info? e=some inf) (fE:inf.size=sz) (hz:inf.zero=some z) (qf:Nat.beq z.cells.size sz=true)
  (xo:(Nat.ble (n*sz) 16777216 && Nat.blt 0 n && Nat.blt 0 sz)=true) (MZ:cellsD (.d (cv z))=some zs) (hl:De (λi=>some (i*sz,sz)) env (List.replicate n zs).flatten l=some rows.flatten)
  (hr:(rows.all (λr=>Nat.beq r.length sz) && Nat.beq rows.length n)=true) :
  xl P base env st ⟨d,.buildSlice t n l.toArray,ty,pos,after,gd⟩ (.cz sz rows st.ar.length) (st.tok ⟨e,sz,rows.length,none⟩):=by
 simp only [zas] at xo hr;have FV:=zau qf;have hn:=zau hr.2;have Ln:=iL xo.1.2;have Lo:=iL xo.2;have hbg:=zaf xo.1.1;intro g w tmps hinv he;have zN:=lj (g:=g) (w:=w) (st:=st) MZ (.d _ _ (qj _ _ z));have Pp:zs.length=sz:=by rw [←zN.1,FV]
 have CJ:(List.replicate n zs).flatten.length=n*sz:=by simp [Pp]
 have jv:∀ row∈rows,row.length=sz:=by
  intro row hm;have:=hr.1;rw [zbd] at this;exact zau (this row hm)
 have r3:D6 g.lim w (List.replicate n zs).flatten ((Array.range (n*sz)).map (z.cells[· % z.cells.size]!)):=by
  refine ⟨by simp [CJ],λi c u hc hu=>?_⟩;have nL:i<n*sz:=by rw [←CJ];exact (zad.1 hc).1
  have xp:i % sz<sz:=zed _ Lo;have hdiv:i / sz<n:=zdp (by rw [zdi];exact nL);have LD:i=i / sz*sz+i % sz:=by rw [zdi];exact (zel i sz).symm
  have hf:=kc (rows:=List.replicate n zs) (sz:=sz) (i:=i / sz) (j:=i % sz) (row:=zs) (c:=zs[i % sz]'(by omega)) (by intro row hm;rw [List.eq_of_mem_replicate hm];exact Pp) (by simp [List.getElem?_replicate,hdiv]) (zae (by omega));rw [←LD,hc] at hf;have UB:zs[i % sz]?=some c:=by cases hf;exact zae (by omega)
  have XZ:z.cells[i % sz]?=some u:=by
   have kU:i % sz<z.cells.size:=by omega
   have:((Array.range (n*sz)).map (z.cells[· % z.cells.size]!))[i]?=some (z.cells[i % z.cells.size]!):=by simp [nL]
   rw [this] at hu;cases hu;rw [FV,zdv z.cells (i % sz) kU,zbg kU]
  exact zN.2 _ c u UB XZ
 obtain ⟨us,h1,h2,h3⟩:=s9 he l _ _ _ hl r3;have Dd:=iK jv;have Po:us.size=n*sz:=by rw [h2.1,Dd,hn]
 have hnm:n<=maxLen:=by
  have:n*1<=n*sz:=Nat.mul_le_mul_left n Lo;simp only [maxLen];omega
 obtain ⟨g',k1,k2,k3⟩:=hinv.Sr e sz n us Po hnm;have ma:st.tok ⟨e,sz,rows.length,none⟩=st.tok ⟨e,sz,n,none⟩:=by rw [hn]
 rw [ma];have eN:(st.tok ⟨e,sz,n,none⟩).ar[st.ar.length]?=some ⟨e,sz,n,none⟩:=by simp [St.tok]
 obtain ⟨xs,m1,m2⟩:=k2.tail _ _ _ _ eN;rw [k1] at m1 m2;have Sk:xs=us.toList:=by
  rcases m1.2 with ⟨hh,_⟩|⟨gb,cap,cur,e1,_,e3,e4,e5,e6,e7⟩
  ·cases hh
  ·cases e1;rw [heap_alloc_new] at e3;cases e3;rw [←e7,zbw (by simp [Po])]
 subst Sk;refine ⟨_,g',_,?_,.cz sz rows _ _ e n (Hz m1 hn jv (λb hb=>by rw [m2 b hb];exact zap _) λj u c hu hc=>?_) eN (zfo hn) (λ_=>.inl k1.symm),k2,k3⟩
 ·subst fE;have GF:¬ (16777216<n*inf.size):=by omega
  have o9:¬ n*inf.size=0:=by
   intro h0;rcases Nat.mul_eq_zero.1 h0 with h|h <;> omega
  have FO:Instr.fill (λi=>some (i*inf.size,inf.size)) (Array.map (λx=>z.cells[x % z.cells.size]!) (Array.range (n*inf.size))) (List.map (λp=>(p.1,Act.eval ⟨tmps,[]⟩ p.2)) l)=some us:=h1;simp [execOp,Instr.buildSlice,run_underlying ht,pf hi,GF,o9,ta hi hz,FO,newRow]
 ·have:=h2.2 j c u hc (by simpa using hu);exact ⟨this.1.mono k3.dy.cP,this.2⟩
end b
def cW (rs:List Nat) (N i:Nat):Nat:=match rs[i]? with
 | some r=>r
 | none=>N+(i-rs.length)
structure M5 (rs:List Nat) (N:Nat):Prop where
 lt:∀ r,r∈rs->r<N
 inj:∀ (i j:Nat) (r:Nat),rs[i]?=some r->rs[j]?=some r->i=j
theorem BX {rs:List Nat} {N i:Nat} (h:M5 rs N) (hi:i<rs.length):cW rs N i<N/\rs[i]?=some (cW rs N i):=by
 have e:rs[i]?=some rs[i]:=zae hi;unfold cW;rw [e];exact ⟨h.lt _ (zeu hi),rfl⟩
theorem zP {rs:List Nat} {N i:Nat} (hi:rs.length<=i):cW rs N i=N+(i-rs.length):=by
 unfold cW;rw [zbl hi]
theorem HK {rs:List Nat} {N i j:Nat} (h:M5 rs N) (e:cW rs N i=cW rs N j):i=j:=by
 by_cases hi:i<rs.length <;> by_cases hj:j<rs.length
 ·obtain ⟨_,h1⟩:=BX h hi;obtain ⟨_,h2⟩:=BX h hj;rw [e] at h1;exact h.inj i j _ h1 h2
 ·obtain ⟨h1,_⟩:=BX h hi;rw [zP (i:=j) (by omega)] at e;omega
 ·obtain ⟨h1,_⟩:=BX h hj;rw [zP (i:=i) (by omega)] at e;omega
 ·rw [zP (i:=i) (by omega),zP (i:=j) (by omega)] at e;omega
open Classical in
noncomputable def iG (rs:List Nat) (N o:Nat):Option Nat:=if h:∃ i,cW rs N i=o then some h.choose else none
theorem DD {rs:List Nat} {N:Nat} (h:M5 rs N) (i:Nat):iG rs N (cW rs N i)=some i:=by
 have hex:∃ j,cW rs N j=cW rs N i:=⟨i,rfl⟩;unfold iG;rw [dif_pos hex];congr 1;exact HK h hex.choose_spec
theorem Ei {rs:List Nat} {N o i:Nat} (e:iG rs N o=some i):cW rs N i=o:=by
 unfold iG at e;split at e
 ·rename_i hex;cases e;exact hex.choose_spec
 ·cases e
theorem JP {rs:List Nat} {N o:Nat} (e:iG rs N o=none):o<N/\∀ i,cW rs N i≠o:=by
 unfold iG at e;split at e
 ·cases e
 ·rename_i hex;refine ⟨?_,λi hi=>hex ⟨i,hi⟩⟩
  false_or_by_contra
  rename_i cE;exact hex ⟨rs.length+(o-N),by rw [zP (by omega)];omega⟩
theorem GJ {rs:List Nat} {N o i:Nat} (h:M5 rs N) (e:iG rs N o=some i) (ho:o<N):i<rs.length:=by
 have:=Ei e
 false_or_by_contra
 rw [zP (by omega)] at this;omega
def lk {α:Type}:List α->List Nat->List α->List α
 | l,r::rs,x::xs=>lk (l.set r x) rs xs
 | l,_,xs=>l++xs
theorem zQ {α:Type}:∀ (rs:List Nat) (l xs:List α),rs.length<=xs.length->(lk l rs xs).length=l.length+(xs.length-rs.length)
 | [],l,xs,_=>by simp [lk]
 | r::rs,l,[],h=>by simp at h
 | r::rs,l,x::xs,h=>by
  simp only [lk];rw [zQ rs _ xs (by simpa using h)];simp
theorem sE {α:Type}:∀ (rs:List Nat) (l xs:List α) (o:Nat),o<l.length->o ∉ rs->(lk l rs xs)[o]?=l[o]?
 | [],l,xs,o,ho,_=>by simp [lk,zan ho]
 | r::rs,l,[],o,ho,_=>by simp [lk]
 | r::rs,l,x::xs,o,ho,hn=>by
  simp only [lk];simp only [zaq,not_or] at hn;rw [sE rs _ xs o (by simpa using ho) hn.2,zbj,zaa (zcf hn.1)]
theorem zR {α:Type}:∀ (rs:List Nat) (l xs:List α) (N:Nat),l.length=N->M5 rs N->rs.length<=xs.length->∀ i,(lk l rs xs)[cW rs N i]?=xs[i]?
 | [],l,xs,N,hN,_,_,i=>by
  rw [zP (by simp)];simp only [lk,zay,Nat.sub_zero,←hN];rw [zav (by omega)];simp
 | r::rs,l,[],N,hN,_,h,i=>by simp at h
 | r::rs,l,x::xs,N,hN,he,h,i=>by
  have Aw:M5 rs N:=⟨λr hr=>he.lt r (by simp [hr]),λi j r a b=>by
   have:=he.inj (i+1) (j+1) r (by simpa using a) (by simpa using b);omega⟩
  have hr:r<N:=he.lt r (by simp);have hnr:r ∉ rs:=λhm=>by
   obtain ⟨j,hj⟩:=zcy.1 hm;have:=he.inj 0 (j+1) r (by simp) (by simpa using hj);omega
  simp only [lk];cases i with
  | zero =>
   have:cW (r::rs) N 0=r:=by simp [cW]
   rw [this,sE rs _ xs r (by simpa [hN] using hr) hnr];simp [zbj,hN,hr]
  | succ i =>
   have:cW (r::rs) N (i+1)=cW rs N i:=by
    unfold cW;simp only [List.getElem?_cons_succ,zag];split
    ·rfl
    ·omega
   rw [this,zR rs _ xs N (by simpa using hN) Aw (by simpa using h) i];simp
def Oq (rs:List Nat) (N:Nat):Bool:=rs.all (λr=>Nat.blt r N) && nodupB rs
where nodupB:List Nat->Bool
 | []=>true
 | r::rs=>rs.all (λx=>!Nat.beq x r) && nodupB rs
theorem M5.of {rs:List Nat} {N:Nat} (h:Oq rs N=true):M5 rs N:=by
 simp only [Oq,zas,zbd] at h;refine ⟨λr hr=>iL (h.1 r hr),?_⟩;have key:∀ (l:List Nat),Oq.nodupB l=true->∀ (i j:Nat) (r:Nat),l[i]?=some r->l[j]?=some r->i=j:=by
  intro l
  induction l with
  | nil=>intro _ i j r hi;simp at hi
  | cons x l ih =>
   intro hn i j r hi hj;simp only [Oq.nodupB,zas,zbd] at hn;cases i with
   | zero =>
    cases j with
    | zero=>rfl
    | succ j =>
     simp at hi hj;subst hi;have:=hn.1 x (zbh hj);simp at this
   | succ i =>
    cases j with
    | zero =>
     simp at hi hj;subst hj;have:=hn.1 x (zbh hi);simp at this
    | succ j =>
     have:=ih hn.2 i j r (by simpa using hi) (by simpa using hj);omega
 exact key rs h.2
section ren
def EV.ren (ρ τ:Nat->Nat):EV->EV
 | .d x=>.d x
 | .ref o off=>.ref (ρ o) off
 | .Jk o off n c=>.Jk (ρ o) off n c
 | .cz sz rows t=>.cz sz rows (τ t)
 | .mp o=>.mp (ρ o)
 | .vc t k=>.vc (τ t) k
 | .vp t k i off=>.vp (τ t) k i off
 | .vw t k lo n=>.vw (τ t) k lo n
 | .vR f cs=>.vR f (HL ρ τ cs)
 | .agg cs=>.agg (HL ρ τ cs)
 | .dV cs=>.dV (HL ρ τ cs)
 | .gd b x=>.gd b (EV.ren ρ τ x)
where
 HL (ρ τ:Nat->Nat):List EV->List EV
 | []=>[]
 | x::l=>EV.ren ρ τ x::HL ρ τ l
theorem nZ (ρ τ:Nat->Nat):∀ l:List EV,EV.ren.HL ρ τ l=l.map (EV.ren ρ τ)
 | []=>rfl
 | x::l=>by simp [EV.ren.HL,nZ ρ τ l]
def dI.ren (ρ τ:Nat->Nat):dI->dI
 | .row ty cs=>.row ty (EV.ren.HL ρ τ cs)
 | .map es=>.map (es.map λp=>(p.1,p.2.ren ρ τ))
 | .raw x=>.raw x
 | .gone=>.gone
theorem dI.P2 {ρ τ:Nat->Nat} {x:dI} (h:x.ren ρ τ=.gone):x=.gone:=by cases x <;> first|rfl|cases h
def bT.sub (g:bT) (ρ τ:Nat->Nat):bT:=⟨g.lim,λo=>g.ob (ρ o),λt=>g.tk (τ t)⟩
variable {ρ τ:Nat->Nat} {g g':bT} {w:World} {s0 st:St}
theorem bJ.down (ht:∀ t x,s0.ar[t]?=some x->st.ar[τ t]?=some x):∀ {x:EV} {v:Value},ph s0.aP.length s0.ar.length x=true->bJ g w st (x.ren ρ τ) v->bJ (g.sub ρ τ) w s0 x v:=by
 have we:∀ {t:Nat},t<s0.ar.length->∀ {x:gD},st.ar[τ t]?=some x->s0.ar[t]?=some x:=fun {t} cE {x} hx=>by
  have h1:=ht t _ (zae cE);rw [hx] at h1;cases h1;exact zae cE
 have main:∀ {y:EV} {v:Value},bJ g w st y v->∀ x:EV,ph s0.aP.length s0.ar.length x=true->y=x.ren ρ τ->bJ (g.sub ρ τ) w s0 x v:=by
  intro y v h
  induction h with
  | d a v h =>
   intro x hx e;cases x <;> simp only [EV.ren] at e <;> cases e;exact .d _ _ h
  | ref o off h =>
   intro x hx e;cases x <;> simp only [EV.ren] at e <;> cases e;exact .ref (g:=g.sub ρ τ) _ _ (iL hx)
  | Jk o off n c h =>
   intro x hx e;cases x <;> simp only [EV.ren] at e <;> cases e;exact .Jk (g:=g.sub ρ τ) _ _ _ _ (iL hx)
  | cz sz rows t v el n hd r5 hn hv =>
   intro x hx e;cases x <;> simp only [EV.ren] at e <;> cases e;exact .cz sz rows _ v el n hd (we (iL hx) r5) hn hv
  | mp o h =>
   intro x hx e;cases x <;> simp only [EV.ren] at e <;> cases e;exact .mp (g:=g.sub ρ τ) _ (iL hx)
  | vR f cs vs hs h ih =>
   intro x hx e;cases x <;> simp only [EV.ren] at e <;> cases e;rename_i ds;simp only [ph] at hx;rw [nZ] at hs ih;refine .vR f _ vs (by simpa using hs) λi c u hc hu=>ih i (c.ren ρ τ) u (by rw [zbc,hc];rfl) hu c (qn hx i c hc) rfl
  | agg cs vs hs h1 h ih =>
   intro x hx e;cases x <;> simp only [EV.ren] at e <;> cases e;simp only [ph] at hx;rw [nZ] at hs ih;refine .agg _ vs (by simpa using hs) h1 λi c u hc hu=>ih i (c.ren ρ τ) u (by rw [zbc,hc];rfl) hu c (qn hx i c hc) rfl
  | dV cs vs hs h ih =>
   intro x hx e;cases x <;> simp only [EV.ren] at e <;> cases e;simp only [ph] at hx;rw [nZ] at hs ih;refine .dV _ vs (by simpa using hs) λi c u hc hu=>ih i (c.ren ρ τ) u (by rw [zbc,hc];rfl) hu c (qn hx i c hc) rfl
  | gd b a v h0 h ih =>
   intro x hx e;cases x <;> simp only [EV.ren] at e <;> cases e;simp only [ph] at hx;exact .gd _ _ v h0 λhb=>ih hb _ hx rfl
  | vc t k v r5 hf h =>
   intro x hx e;cases x <;> simp only [EV.ren] at e <;> cases e;exact .vc _ _ v (iL hx) hf λx rows hy=>h x rows (ht _ _ hy)
  | vp t k i off v r5 hf h =>
   intro x hx e;cases x <;> simp only [EV.ren] at e <;> cases e;exact .vp _ _ _ _ v (iL hx) hf λx rows hy=>h x rows (ht _ _ hy)
  | vw t k lo n v r5 hf h =>
   intro x hx e;cases x <;> simp only [EV.ren] at e <;> cases e;exact .vw _ _ _ _ v (iL hx) hf λx rows hy=>h x rows (ht _ _ hy)
 intro x v hx h;exact main h x hx rfl
theorem bJ.up {g1:bT} {s1:St} (AD:∀ o,o<s1.aP.length->g'.ob (ρ o)=g1.ob o/\ρ o<st.aP.length) (zL:g'.lim=g1.lim)
  (ht:∀ t,t<s1.ar.length->st.ar[τ t]?=s1.ar[t]?/\g'.tk (τ t)=g1.tk t) {x:EV} {v:Value} (h:bJ g1 w s1 x v):bJ g' w st (x.ren ρ τ) v:=by
 have cE:∀ {t:Nat},t<s1.ar.length->τ t<st.ar.length:=fun {t} h=>by
  have h1:=(ht t h).1;rw [zae h] at h1;exact (zad.1 h1).1
 induction h with
 | d a v h=>exact .d _ _ (by rw [zL];exact h)
 | ref o off h=>rw [←(AD o h).1];exact .ref _ _ (AD o h).2
 | Jk o off n c h=>rw [←(AD o h).1];exact .Jk _ _ _ _ (AD o h).2
 | cz sz rows t v el n hd r5 hn hv =>
  have hl:=(zad.1 r5).1;exact .cz sz rows _ v el n (by rw [zL];exact hd) (by rw [(ht t hl).1];exact r5) hn (by rw [(ht t hl).2];exact hv)
 | mp o h=>rw [←(AD o h).1];exact .mp _ (AD o h).2
 | vR f cs vs hs h ih =>
  simp only [EV.ren,nZ];refine .vR f _ vs (by simpa using hs) λi c u hc hu=>?_
  rw [zbc] at hc;obtain ⟨c',h1,rfl⟩:=zcg.1 hc;exact ih i c' u h1 hu
 | agg cs vs hs h1 h ih =>
  simp only [EV.ren,nZ];refine .agg _ vs (by simpa using hs) h1 λi c u hc hu=>?_
  rw [zbc] at hc;obtain ⟨c',h1,rfl⟩:=zcg.1 hc;exact ih i c' u h1 hu
 | dV cs vs hs h ih =>
  simp only [EV.ren,nZ];refine .dV _ vs (by simpa using hs) λi c u hc hu=>?_
  rw [zbc] at hc;obtain ⟨c',h1,rfl⟩:=zcg.1 hc;exact ih i c' u h1 hu
 | gd b a v h0 h ih=>exact .gd _ _ v h0 ih
 | vc t k v r5 hf h=>exact .vc _ _ v (cE r5) hf λx rows hx=>by rw [(ht t r5).1] at hx;rw [(ht t r5).2];exact h x rows hx
 | vp t k i off v r5 hf h=>exact .vp _ _ _ _ v (cE r5) hf λx rows hx=>by rw [(ht t r5).1] at hx;rw [(ht t r5).2];exact h x rows hx
 | vw t k lo n v r5 hf h=>exact .vw _ _ _ _ v (cE r5) hf λx rows hx=>by rw [(ht t r5).1] at hx;rw [(ht t r5).2];exact h x rows hx
structure Part (ρ τ:Nat->Nat) (s0 st:St):Prop where
 aP:∀ (o:Nat) (x:dI),s0.aP[o]?=some x->st.aP[ρ o]?=some (x.ren ρ τ)
 ar:∀ (t:Nat) (x:gD),s0.ar[t]?=some x->st.ar[τ t]?=some x
 oinj:∀ o o',ρ o=ρ o'->o=o'
 tinj:∀ t t',τ t=τ t'->t=t'
 ok:∀ (o:Nat) (x:dI),s0.aP[o]?=some x->kf s0.aP.length s0.ar.length x=true
theorem Part.live (h:Part ρ τ s0 st) {o:Nat} (hl:s0.live o):st.live (ρ o):=by
 obtain ⟨x,hx,eT⟩:=hl;exact ⟨_,h.aP o x hx,λe=>eT (dI.P2 e)⟩
theorem Part.owned (h:Part ρ τ s0 st) {b:Nat} (ho:ua (g.sub ρ τ) s0 b):ua g st b:=by
 rcases ho with ⟨o,h1,h2⟩|⟨t,x,h1,h2⟩
 ·exact .inl ⟨ρ o,h.live h1,h2⟩
 ·exact .inr ⟨τ t,x,h.ar t x h1,h2⟩
theorem Inv.part {base:Nat} (h:Inv g base w st) (p:Part ρ τ s0 st):Inv (g.sub ρ τ) base w s0:=by
 refine ⟨h.base,λo ty cs hx=>?_,λo es hx=>?_,λo y hx=>h.raw (ρ o) y (p.aP o _ hx),λo o' eT h1 h2=>h.ne _ _ (λe=>eT (p.oinj o o' e)) (p.live h1) (p.live h2),λt e sz n hx=>h.tail (τ t) e sz n (p.ar t _ hx),
  λt t' x x' b eT h1 h2=>h.nK _ _ x x' b (λe=>eT (p.tinj t t' e)) (p.ar t _ h1) (p.ar t' _ h2),λt x o h1 h2=>h.iv _ x _ (p.ar t _ h1) (p.live h2),h.C9,λt e sz n rows hx=>h.own (τ t) e sz n rows (p.ar t _ hx)⟩
 ·have ho:=p.ok o _ hx;simp only [kf,zbd] at ho;have jK:=p.aP o _ hx;simp only [dI.ren,nZ] at jK;obtain ⟨h1,h2,vs,h3,h4,h5⟩:=h.row (ρ o) ty _ jK;refine ⟨h1,h2,vs,h3,by simpa using h4,λi c u hc hu=>?_⟩;have:=h5 i (c.ren ρ τ) u (by rw [zbc,hc];rfl) hu;exact ⟨this.1.down p.ar (ho c (zbh hc)),this.2⟩
 ·have ho:=p.ok o _ hx;simp only [kf,zbd] at ho;have jK:=p.aP o _ hx;simp only [dI.ren] at jK;obtain ⟨h1,ms,c,h3,h4,h5,h6⟩:=h.map (ρ o) _ jK;refine ⟨h1,ms,c,h3,by simpa using h4,λi k x m hm yI=>?_,h6⟩;have:=h5 i k (x.ren ρ τ) m (by rw [zbc,hm];rfl) yI;exact ⟨this.1,this.2.down p.ar (ho (k,x) (zbh hm))⟩
end ren
def ca (st s1:St) (rs ts:List Nat):St :=
 ⟨lk st.aP rs (s1.aP.map (dI.ren (cW rs st.aP.length) (cW ts st.ar.length))),lk st.ar ts s1.ar⟩
theorem Inv.Ot {g g1:bT} {w w1:World} {base:Nat} {st s0 s1:St} {rs ts:List Nat} (h:Inv g base w st) (hr:M5 rs st.aP.length) (ht:M5 ts st.ar.length)
  (hlr:rs.length=s0.aP.length) (cE:ts.length=s0.ar.length)
  (p:Part (cW rs st.aP.length) (cW ts st.ar.length) s0 st) (h1:Inv g1 base w1 s1) (hs:Step base (g.sub (cW rs st.aP.length) (cW ts st.ar.length)) w s0 g1 w1 s1) :
  ∃ g',Inv g' base w1 (ca st s1 rs ts)/\Step base g w st g' w1 (ca st s1 rs ts) /\
   ∀ x v,bJ g1 w1 s1 x v->bJ g' w1 (ca st s1 rs ts) (x.ren (cW rs st.aP.length) (cW ts st.ar.length)) v:=by
 have yJ:rs.length<=s1.aP.length:=by rw [hlr];exact hs.dy.aP
 have zl:ts.length<=s1.ar.length:=by rw [cE];exact hs.dy.Lv
 generalize hN:st.aP.length=N at *;generalize hM:st.ar.length=M at *;generalize hρ:cW rs N=ρ at *;generalize hτ:cW ts M=τ at *;have UW:ca st s1 rs ts=⟨lk st.aP rs (s1.aP.map (dI.ren ρ τ)),lk st.ar ts s1.ar⟩:=by unfold ca;rw [hN,hM,hρ,hτ]
 rw [UW];generalize hS:(⟨lk st.aP rs (s1.aP.map (dI.ren ρ τ)),lk st.ar ts s1.ar⟩:St)=S;have Yd:∀ i,S.aP[ρ i]?=(s1.aP[i]?).map (dI.ren ρ τ):=λi=>by
  rw [←hS,←hρ];simp only;rw [zR rs _ _ N hN hr (by simpa using yJ) i,zbc,hρ]
 have Ss:∀ i,S.ar[τ i]?=s1.ar[i]?:=λi=>by
  rw [←hS,←hτ];exact zR ts _ _ M hM ht zl i
 have Su:∀ o,iG rs N o=none->S.aP[o]?=st.aP[o]?:=λo ho=>by
  obtain ⟨k1,k2⟩:=JP ho;rw [←hS];exact sE rs _ _ o (by rw [hN];exact k1) λhm=>by
   obtain ⟨j,hj⟩:=zcy.1 hm;refine k2 j ?_;simp [cW,hj]
 have HM:∀ t,iG ts M t=none->S.ar[t]?=st.ar[t]?:=λt ho=>by
  obtain ⟨k1,k2⟩:=JP ho;rw [←hS];exact sE ts _ _ t (by rw [hM];exact k1) λhm=>by
   obtain ⟨j,hj⟩:=zcy.1 hm;refine k2 j ?_;simp [cW,hj]
 have hSl:N<=S.aP.length:=by rw [←hS,←hN];show _<=(lk _ _ _).length;rw [zQ rs _ _ (by simpa using yJ)];omega
 have hSlt:M<=S.ar.length:=by rw [←hS,←hM];show _<=(lk _ _ _).length;rw [zQ ts _ _ zl];omega
 let g':bT:=⟨g1.lim,λo=>match iG rs N o with|some i=>g1.ob i|none=>g.ob o,λt=>match iG ts M t with|some i=>g1.tk i|none=>g.tk t⟩
 have P3:∀ i,g'.ob (ρ i)=g1.ob i:=λi=>by
  show (match iG rs N (ρ i) with|some i=>g1.ob i|none=>g.ob (ρ i))=_;rw [←hρ,DD hr i]
 have R1:∀ i,g'.tk (τ i)=g1.tk i:=λi=>by
  show (match iG ts M (τ i) with|some i=>g1.tk i|none=>g.tk (τ i))=_;rw [←hτ,DD ht i]
 have FY:∀ o,iG rs N o=none->g'.ob o=g.ob o:=λo ho=>by
  show (match iG rs N o with|some i=>g1.ob i|none=>g.ob o)=_;rw [ho]
 have HN:∀ t,iG ts M t=none->g'.tk t=g.tk t:=λt ho=>by
  show (match iG ts M t with|some i=>g1.tk i|none=>g.tk t)=_;rw [ho]
 have Ej:∀ {o i:Nat},iG rs N o=some i->o=ρ i:=fun {o i} e=>by rw [←hρ];exact (Ei e).symm
 have HO:∀ {t i:Nat},iG ts M t=some i->t=τ i:=fun {t i} e=>by rw [←hτ];exact (Ei e).symm
 have up:∀ {x:EV} {v:Value},bJ g1 w1 s1 x v->bJ g' w1 S (x.ren ρ τ) v:=fun {x v} hx=>by
  refine bJ.up (λo ho=>⟨P3 o,?_⟩) rfl (λt ht=>⟨Ss t,R1 t⟩) hx;have e:=Yd o;rw [zae ho] at e;exact (zad.1 e).1
 -- what the call does not own
 have JQ:∀ b,b<w.heap.size->¬ ua (g.sub ρ τ) s0 b->w1.heap[b]?=w.heap[b]?/\g1.lim b=g.lim b:=hs.frame;have GK:∀ b,b<w.heap.size->ua g1 s1 b->ua (g.sub ρ τ) s0 b:=hs.fresh;have uo:∀ o,iG rs N o=none->st.live o->g.ob o<w.heap.size/\¬ ua (g.sub ρ τ) s0 (g.ob o):=λo ho hl=>by
  refine ⟨(h.vV hl).1,λhw=>?_⟩;rcases hw with ⟨i,a1,a2⟩|⟨t,x,a1,a2⟩
  ·have eT:ρ i≠o:=λe=>by rw [←e,←hρ,DD hr i] at ho;cases ho
   exact h.ne _ _ eT (p.live a1) hl a2
  ·exact h.iv _ x o (p.ar t x a1) hl a2
 have ut:∀ t x b,iG ts M t=none->st.ar[t]?=some x->(g.tk t).ownBlock=some b->b<w.heap.size/\¬ ua (g.sub ρ τ) s0 b:=λt x b ho hx hb=>by
  refine ⟨(h.vT hx hb).2,λhw=>?_⟩;rcases hw with ⟨i,a1,a2⟩|⟨i,y,a1,a2⟩
  ·exact h.iv t x _ hx (p.live a1) (by rw [hb];exact zbn some a2.symm)
  ·have eT:τ i≠t:=λe=>by rw [←e,←hτ,DD ht i] at ho;cases ho
   exact h.nK _ _ y x b eT (p.ar i y a1) hx a2 hb
 have s0o:∀ {o i:Nat},iG rs N o=some i->o<N->i<s0.aP.length:=fun {o i} e ho=>by rw [←hlr];exact GJ hr e ho
 have s0t:∀ {t i:Nat},iG ts M t=some i->t<M->i<s0.ar.length:=fun {t i} e ho=>by rw [←cE];exact GJ ht e ho
 have UX:∀ {i:Nat},i<s0.ar.length->∀ {x:gD},st.ar[τ i]?=some x->s0.ar[i]?=some x:=fun {i} hi {x} hx=>by
  have e:=p.ar i _ (zae hi);rw [hx] at e;cases e;exact zae hi
 have Sv:uB g w st g' w1 S:=by
  refine ⟨hs.dy.cP,λo ho=>?_,by rw [hN];exact hSl,λt e sz n hx=>?_,by rw [hM];exact hSlt,λt x' bw kU hx ho=>?_⟩
  ·cases hi:iG rs N o with
   | none=>exact FY o hi
   | some i =>
    have:=Ej hi;subst this;rw [P3,hs.dy.ob i (s0o hi (by omega))];rfl
  ·cases hi:iG ts M t with
   | none=>exact ⟨n,by rw [HM t hi];exact hx,zap _,λ_=>HN t hi⟩
   | some i =>
    have:=HO hi;subst this;have gS:=s0t hi (by rw [←hM];exact (zad.1 hx).1);obtain ⟨n',a1,a2,a3⟩:=hs.dy.ar i e sz n (UX gS hx);exact ⟨n',by rw [Ss];exact a1,a2,λe'=>by rw [R1,a3 e'];rfl⟩
  ·cases hi:iG ts M t with
   | none =>
    rw [HM t hi] at hx;exact ⟨x',bw,hx,ho,rfl,zap _,λ_=>HN t hi⟩
   | some i =>
    have:=HO hi;subst this;have gS:=s0t hi (by omega);rw [Ss] at hx;obtain ⟨x,rows,a1,a2,a3,a4,a5⟩:=hs.dy.own i x' bw gS hx ho;exact ⟨x,rows,p.ar i x a1,a2,a3,a4,λe'=>by rw [R1,a5 e'];rfl⟩
 have nV:∀ {o i:Nat},iG rs N o=some i->S.live o->s1.live i:=fun {o i} hi ⟨x,hx,eT⟩=>by
  have:=Ej hi;subst this;rw [Yd] at hx;obtain ⟨y,hy,rfl⟩:=zcg.1 hx;exact ⟨y,hy,λe=>eT (by subst e;rfl)⟩
 have BY:∀ {o:Nat},iG rs N o=none->S.live o->st.live o:=fun {o} hi ⟨x,hx,eT⟩=>⟨x,by rw [Su o hi] at hx;exact hx,eT⟩;refine ⟨g',⟨h1.base,?_,?_,?_,?_,?_,?_,?_,h1.C9,?_⟩,⟨Sv,hs.below,hs.lim,λb hb hn=>JQ b hb λhw=>hn (p.owned hw),λb hb hw=>?_⟩,λx v hx=>up hx⟩
 ·intro o ty cs hx;cases hi:iG rs N o with
  | none =>
   rw [Su o hi] at hx;obtain ⟨k1,k2,vs,k3,k4,k5⟩:=h.row o ty cs hx;obtain ⟨u1,u2⟩:=uo o hi ⟨_,hx,by simp⟩;obtain ⟨f1,f2⟩:=JQ _ u1 u2;rw [FY o hi];exact ⟨k1,f2.trans k2,vs,f1.trans k3,k4,λi c u hc hu=>⟨(k5 i c u hc hu).1.mono Sv,(k5 i c u hc hu).2⟩⟩
  | some i =>
   have:=Ej hi;subst this;rw [Yd] at hx;obtain ⟨y,hy,Ye⟩:=zcg.1 hx;cases y <;> simp only [dI.ren] at Ye <;> cases Ye;obtain ⟨k1,k2,vs,k3,k4,k5⟩:=h1.row i ty _ hy;rw [P3];refine ⟨k1,k2,vs,k3,by rw [nZ];simpa using k4,λj c u hc hu=>?_⟩
   rw [nZ,zbc] at hc;obtain ⟨c',rX,rfl⟩:=zcg.1 hc;exact ⟨up (k5 j c' u rX hu).1,(k5 j c' u rX hu).2⟩
 ·intro o es hx;cases hi:iG rs N o with
  | none =>
   rw [Su o hi] at hx;obtain ⟨k1,ms,c,k3,k4,k5,k6⟩:=h.map o es hx;obtain ⟨u1,u2⟩:=uo o hi ⟨_,hx,by simp⟩;obtain ⟨f1,f2⟩:=JQ _ u1 u2;rw [FY o hi];exact ⟨k1,ms,c,f1.trans k3,k4,λi k x m a b=>⟨(k5 i k x m a b).1,(k5 i k x m a b).2.mono Sv⟩,k6⟩
  | some i =>
   have:=Ej hi;subst this;rw [Yd] at hx;obtain ⟨y,hy,Ye⟩:=zcg.1 hx;cases y <;> simp only [dI.ren] at Ye <;> cases Ye;obtain ⟨k1,ms,c,k3,k4,k5,k6⟩:=h1.map i _ hy;rw [P3];refine ⟨k1,ms,c,k3,by simpa using k4,λj k x m hm yI=>?_,k6⟩;rw [zbc] at hm;obtain ⟨q,hq,hqe⟩:=zcg.1 hm;cases hqe;have:=k5 j q.1 q.2 m hq yI;exact ⟨this.1,up this.2⟩
 ·intro o y hx;cases hi:iG rs N o with
  | none =>
   rw [Su o hi] at hx;obtain ⟨k1,k2,k3⟩:=h.raw o y hx;obtain ⟨u1,u2⟩:=uo o hi ⟨_,hx,by simp⟩;obtain ⟨f1,f2⟩:=JQ _ u1 u2;rw [FY o hi];exact ⟨k1,f2.trans k2,f1.trans k3⟩
  | some i =>
   have:=Ej hi;subst this;rw [Yd] at hx;obtain ⟨z,hz,MZ⟩:=zcg.1 hx;cases z <;> simp only [dI.ren] at MZ <;> cases MZ;rw [P3];exact h1.raw i _ hz
 ·intro o o' eT ho na;have JR:∀ {a b i:Nat},iG rs N a=some i->iG rs N b=none->S.live a->S.live b->g'.ob a≠g'.ob b:=fun {a b i} ha hb la lb e=>by
   have:=Ej ha;subst this;rw [P3,FY b hb] at e;obtain ⟨u1,u2⟩:=uo b hb (BY hb lb);exact u2 (GK _ u1 (.inl ⟨i,nV ha la,e⟩))
  cases hi:iG rs N o with
  | none =>
   cases hj:iG rs N o' with
   | none=>rw [FY o hi,FY o' hj];exact h.ne o o' eT (BY hi ho) (BY hj na)
   | some j=>exact (JR hj hi na ho).symm
  | some i =>
   cases hj:iG rs N o' with
   | none=>exact JR hi hj ho na
   | some j =>
    have l1:=nV hi ho;have l2:=nV hj na;have:=Ej hi;subst this;have:=Ej hj;subst this;rw [P3,P3];exact h1.ne i j (λe=>eT (by rw [e])) l1 l2
 ·intro t e sz n hx;cases hi:iG ts M t with
  | none =>
   rw [HM t hi] at hx;obtain ⟨xs,k1,k2⟩:=h.tail t e sz n hx;rw [HN t hi];exact ⟨xs,e8 k1 λb hb=>(JQ b (ut t _ b hi hx hb).1 (ut t _ b hi hx hb).2).1,λb hb=>by rw [←k2 b hb];exact (JQ b (ut t _ b hi hx hb).1 (ut t _ b hi hx hb).2).2⟩
  | some i =>
   have:=HO hi;subst this;rw [Ss] at hx;rw [R1];exact h1.tail i e sz n hx
 ·intro t t' x x' b eT hx jK hb;have JR:∀ {a c i:Nat} {x x':gD},iG ts M a=some i->iG ts M c=none->S.ar[a]?=some x->S.ar[c]?=some x'->(g'.tk a).ownBlock=some b->(g'.tk c).ownBlock=some b->False:=fun {a c i x x'} ha hc la lc ea ec=>by
   have:=HO ha;subst this;rw [R1] at ea;rw [HN c hc] at ec;rw [Ss] at la;rw [HM c hc] at lc;obtain ⟨u1,u2⟩:=ut c _ b hc lc ec;exact u2 (GK b u1 (.inr ⟨i,_,la,ea⟩))
  cases hi:iG ts M t with
  | none =>
   cases hj:iG ts M t' with
   | none =>
    rw [HN t hi] at hb;rw [HN t' hj];rw [HM t hi] at hx;rw [HM t' hj] at jK;exact h.nK t t' x x' b eT hx jK hb
   | some j=>exact λka=>JR hj hi jK hx ka hb
  | some i =>
   cases hj:iG ts M t' with
   | none=>exact λka=>JR hi hj hx jK hb ka
   | some j =>
    have:=HO hi;subst this;have:=HO hj;subst this;rw [R1] at hb;rw [R1];rw [Ss] at hx jK;exact h1.nK i j x x' b (λe=>eT (by rw [e])) hx jK hb
 ·intro t x o hx ho hb;cases hi:iG ts M t with
  | none =>
   rw [HN t hi] at hb;rw [HM t hi] at hx;cases hj:iG rs N o with
   | none =>
    rw [FY o hj] at hb;exact h.iv t x o hx (BY hj ho) hb
   | some j =>
    have l2:=nV hj ho;have:=Ej hj;subst this;rw [P3] at hb;obtain ⟨u1,u2⟩:=ut t _ _ hi hx hb;exact u2 (GK _ u1 (.inl ⟨j,l2,rfl⟩))
  | some i =>
   have:=HO hi;subst this;rw [R1] at hb;rw [Ss] at hx;cases hj:iG rs N o with
   | none =>
    rw [FY o hj] at hb;obtain ⟨u1,u2⟩:=uo o hj (BY hj ho);exact u2 (GK _ u1 (.inr ⟨i,_,hx,hb⟩))
   | some j =>
    have l2:=nV hj ho;have:=Ej hj;subst this;rw [P3] at hb;exact h1.iv i x j hx l2 hb
 ·intro t e sz n rows hx;cases hi:iG ts M t with
  | none =>
   rw [HM t hi] at hx;obtain ⟨xs,k1,k2,k3⟩:=h.own t e sz n rows hx;rw [HN t hi];exact ⟨xs,e8 k1 λb hb=>(JQ b (ut t _ b hi hx hb).1 (ut t _ b hi hx hb).2).1,λb hb=>by rw [←k2 b hb];exact (JQ b (ut t _ b hi hx hb).1 (ut t _ b hi hx hb).2).2,k3.mono Sv.cP⟩
  | some i =>
   have:=HO hi;subst this;rw [Ss] at hx;rw [R1];exact h1.own i e sz n rows hx
 ·rcases hw with ⟨o,a1,a2⟩|⟨t,x,a1,a2⟩
  ·cases hi:iG rs N o with
   | none=>exact .inl ⟨o,BY hi a1,by rw [←FY o hi];exact a2⟩
   | some i =>
    have l1:=nV hi a1;have:=Ej hi;subst this;rw [P3] at a2;exact p.owned (GK b hb (.inl ⟨i,l1,a2⟩))
  ·cases hi:iG ts M t with
   | none =>
    rw [HN t hi] at a2;rw [HM t hi] at a1;exact .inr ⟨t,x,a1,a2⟩
   | some i =>
    have:=HO hi;subst this;rw [R1] at a2;rw [Ss] at a1;exact p.owned (GK b hb (.inr ⟨i,x,a1,a2⟩))
def wg:List EV->List EV->Prop
 | [],[]=>True
 | e::es,x::xs=>dX e x/\wg es xs
 | _,_=>False
theorem wg.get:∀ {es xs:List EV},wg es xs->es.length=xs.length/\∀ (i:Nat) x,xs[i]?=some x->∃ e,es[i]?=some e/\dX e x
 | [],[],_=>⟨rfl,λi y h=>by simp at h⟩
 | e::es,d::ds,h=>by
  obtain ⟨h1,h2⟩:=wg.get h.2;refine ⟨by simp [h1],λi z hz=>?_⟩;cases i with
  | zero=>simp at hz;subst hz;exact ⟨e,rfl,h.1⟩
  | succ i=>simpa using h2 i z (by simpa using hz)
 | [],_::_,h=>h.elim
 | _::_,[],h=>h.elim
theorem aN.le {P:Program} {f:FuncId} {es xs:List EV} {st:St} {q:EV->St->Prop} (h:aN P f xs st q) (hle:wg es xs):aN P f es st q:=by
 intro g w base vs hi ha;obtain ⟨h1,h2⟩:=hle.get;refine h g w base vs hi ⟨by rw [ha.1,h1],λi x v hx hv=>?_⟩;obtain ⟨e,he,hl⟩:=h2 i x hx;exact hl _ _ _ _ (ha.2 i e v he hv)
section call
variable {P:Program} {f:Ctx} {N:Nat} {S:Start} {Q:EV->St->Prop} {k:List Item} {env:Env} {st:St} {ops rest:List Oper}
 {d:Option Tmp} {ty:TypeId} {pos:String} {after:Array Edge}
def QE (x:EV) (st':St) (e:EV) (s:St):Prop:=dX e x/\s=st'
def zm (rs ts:List Nat) (s0 st:St):Bool :=
 Oq rs st.aP.length && Oq ts st.ar.length && Nat.beq rs.length s0.aP.length && Nat.beq ts.length s0.ar.length
theorem Part.of {rs ts:List Nat} {s0 st:St} (h:zm rs ts s0 st=true) (h5:s0.aP.all (kf s0.aP.length s0.ar.length)=true)
  (ho:rs.map (λr=>st.aP[r]?)=s0.aP.map (λx=>some (x.ren (cW rs st.aP.length) (cW ts st.ar.length)))) (ht:ts.map (λr=>st.ar[r]?)=s0.ar.map some) :
  Part (cW rs st.aP.length) (cW ts st.ar.length) s0 st/\M5 rs st.aP.length/\M5 ts st.ar.length/\rs.length=s0.aP.length/\ts.length=s0.ar.length:=by
 simp only [zm,zas] at h;rw [zbd] at h5;obtain ⟨⟨⟨h1,h2⟩,h3⟩,h4⟩:=h;have e1:=M5.of h1;have e2:=M5.of h2;have l1:=zau h3;have l2:=zau h4;refine ⟨⟨λo x hx=>?_,λt x hx=>?_,λo o' e=>HK e1 e,λt t' e=>HK e2 e,λo x hx=>h5 x (zbh hx)⟩,e1,e2,l1,l2⟩
 ·have cE:o<rs.length:=by rw [l1];exact (zad.1 hx).1
  have:=zbn (λl=>l[o]?) ho;simp only [zbc,(BX e1 cE).2,hx,Option.map_some,Option.some.injEq] at this;exact this
 ·have cE:t<ts.length:=by rw [l2];exact (zad.1 hx).1
  have:=zbn (λl=>l[t]?) ht;simp only [zbc,(BX e2 cE).2,hx,Option.map_some,Option.some.injEq] at this;exact this
theorem aN.frame {f:FuncId} {args:List EV} {s0 s1:St} {e1:EV} (rs ts:List Nat) (h:aN P f args s0 (QE e1 s1)) (hp:zm rs ts s0 st=true) (h5:s0.aP.all (kf s0.aP.length s0.ar.length)=true) (xt:args.all (ph s0.aP.length s0.ar.length)=true)
  (ho:rs.map (λr=>st.aP[r]?)=s0.aP.map (λx=>some (x.ren (cW rs st.aP.length) (cW ts st.ar.length)))) (ht:ts.map (λr=>st.ar[r]?)=s0.ar.map some) :
  aN P f (args.map (EV.ren (cW rs st.aP.length) (cW ts st.ar.length))) st (QE (e1.ren (cW rs st.aP.length) (cW ts st.ar.length)) (ca st s1 rs ts)):=by
 obtain ⟨p,Xl,Lp,l1,l2⟩:=Part.of hp h5 ho ht;intro g w base vs hi ha;rw [zbd] at xt;refine (h (g.sub _ _) w base vs (hi.part p) ⟨by have:=ha.1;simpa using this,λi x v hx hv=>?_⟩).mono ?_
 ·exact (ha.2 i _ v (by rw [zbc,hx];rfl) hv).down p.ar (xt x (zbh hx))
 ·rintro e w' ⟨v,r,s,g1,rfl,⟨hle,rfl⟩,hr,hinv,hh⟩;obtain ⟨g',k1,k2,k3⟩:=hi.Ot Xl Lp l1 l2 p hinv hh.toStep;exact ⟨v,_,_,g',rfl,⟨.ak _,rfl⟩,k3 _ _ (hle _ _ _ _ hr),k1,⟨k2.dy,k2.below,k2.lim,k2.frame,k2.fresh⟩⟩
theorem aN.ll {f:FuncId} {args:List EV} {x:EV} {st':St} (h:aN P f args st λe s=>∃ (rs ts:List Nat),zm rs ts st' s=true/\st'.aP.all (kf st'.aP.length st'.ar.length)=true/\ph st'.aP.length st'.ar.length x=true/\(Nat.ble st.aP.length rs.length && Nat.ble st.ar.length ts.length)=true /\
   rs.take st.aP.length=List.range st.aP.length/\ts.take st.ar.length=List.range st.ar.length /\
   rs.map (λr=>s.aP[r]?)=st'.aP.map (λy=>some (y.ren (cW rs s.aP.length) (cW ts s.ar.length)))/\ts.map (λr=>s.ar[r]?)=st'.ar.map some /\
   dX e (x.ren (cW rs s.aP.length) (cW ts s.ar.length))):aN P f args st (QE x st'):=by
 intro g w base vs hi ha;refine (h g w base vs hi ha).mono ?_;rintro e w' ⟨v,r,s,g1,rfl,⟨rs,ts,hp,h5,hx,hl,PK,Sj,ho,ht,hle⟩,hr,hinv,hh⟩;obtain ⟨p,Xl,Lp,l1,l2⟩:=Part.of hp h5 ho ht;simp only [zas] at hl;have yJ:=zaf hl.1;have zl:=zaf hl.2;have same:∀ {l:List Nat} {n N:Nat},l.take n=List.range n->n<=l.length->∀ i,i<n->cW l N i=i:=fun {l n N} hl hn i hi=>by
  have e:(l.take n)[i]?=some i:=by rw [hl,List.getElem?_range hi]
  rw [zam,zab hi] at e;simp [cW,e]
 have so:=λi hi=>same (N:=s.aP.length) PK yJ i hi
 have M6:=λi hi=>same (N:=s.ar.length) Sj zl i hi
 have CM:∀ {i:Nat},i<st'.ar.length->st'.ar[i]?=s.ar[cW ts s.ar.length i]?:=fun {i} hi=>by
  rw [p.ar i _ (zae hi),zae hi]
 refine ⟨v,x,st',g1.sub _ _,rfl,⟨.ak _,rfl⟩,(hle _ _ _ _ hr).down p.ar hx,hinv.part p,⟨⟨hh.dy.cP,λo na=>?_,(by show st.aP.length<=_;omega),λt e sz n hx=>?_,(by show st.ar.length<=_;omega),λt x' bw cE jK na=>?_⟩,hh.below,hh.lim,hh.frame,λb hb hw=>hh.fresh b hb (p.owned hw)⟩⟩
 ·show g1.ob (cW rs s.aP.length o)=g.ob o;rw [so o na];exact hh.dy.ob o na
 ·have cE:t<st.ar.length:=(zad.1 hx).1;obtain ⟨n',a1,a2,a3⟩:=hh.dy.ar t e sz n hx;refine ⟨n',?_,a2,λe'=>?_⟩
  ·rw [CM (by omega),M6 t cE];exact a1
  ·show g1.tk (cW ts s.ar.length t)=g.tk t;rw [M6 t cE];exact a3 e'
 ·rw [CM (by have:=(zad.1 jK).1;exact this),M6 t cE] at jK;obtain ⟨y,rows,a1,a2,a3,a4,a5⟩:=hh.dy.own t x' bw cE jK na;refine ⟨y,rows,a1,a2,a3,a4,λe'=>?_⟩;show g1.tk (cW ts s.ar.length t)=g.tk t;rw [M6 t cE];exact a5 e'
end call
section call
variable {P:Program} {f:Ctx} {N:Nat} {S:Start} {Q:EV->St->Prop} {k:List Item} {env:Env} {st:St} {ops rest:List Oper}
 {d:Option Tmp} {ty:TypeId} {pos:String} {after:Array Edge}
theorem JS {d:Option Tmp} {x r:EV} (hle:dX x r) (h:cd P f N S Q ops rest k (env.put d r) st):cd P f N S Q ops rest k (env.put d x) st:=by
 cases d with
 | none=>exact h
 | some t =>
  intro i hi g w tmps hinv hh he hn;refine h i hi g w tmps hinv hh (λj y hy=>?_) hn;unfold Env.put lookup at hy;cases hb:Nat.beq j t with
  | true =>
   rw [hb] at hy;simp only [Option.some.injEq] at hy;subst hy;have:=zau hb;subst this;obtain ⟨v,h1,h2⟩:=he j x (by unfold Env.put lookup;rw [zep]);exact ⟨v,h1,hle _ _ _ _ h2⟩
  | false =>
   rw [hb] at hy;exact he j y (by unfold Env.put lookup;rw [hb];exact hy)
theorem cd.fa {f':FuncId} {l:List Operand} {ts:Array TypeId} {P4 es:List EV} {x r:EV} {s0 s1 st':St} (Da:Enters P f') (hd:fV N d=true) (rs tk:List Nat)
  (h1:BM env l=some es) (hc:aN P f' P4 s0 (QE r s1)) (hle:wg es (P4.map (EV.ren (cW rs st.aP.length) (cW tk st.ar.length))))
  (hp:(zm rs tk s0 st && P4.all (ph s0.aP.length s0.ar.length))=true) (h5:s0.aP.all (kf s0.aP.length s0.ar.length)=true)
  (ho:rs.map (λr=>st.aP[r]?)=s0.aP.map (λx=>some (x.ren (cW rs st.aP.length) (cW tk st.ar.length)))) (ht:tk.map (λr=>st.ar[r]?)=s0.ar.map some)
  (hx:r.ren (cW rs st.aP.length) (cW tk st.ar.length)=x) (hs:ca st s1 rs tk=st')
  (hk:cd P f N S Q ops rest k (env.put d x) st') :
  cd P f N S Q ops (⟨d,.call ⟨.value (.func f'),l.toArray,ts⟩,ty,pos,after,none⟩::rest) k env st:=by
 simp only [zas] at hp;refine .XO Da hd h1 ((hc.frame rs tk hp.1 h5 hp.2 ho ht).le hle) λy s hq=>?_
 obtain ⟨hle,rfl⟩:=hq;rw [hx] at hle;rw [hs];exact JS hle hk
theorem cd.Ek {f':FuncId} {l:List Operand} {ts:Array TypeId} {P4 es cs:List EV} {x r:EV} {y:Operand} {s0 s1 st':St} (Da:Enters P f') (hd:fV N d=true) (hy:cP env y=some (.vR f' cs)) (rs tk:List Nat)
  (h1:BM env l=some es) (hc:aN P f' P4 s0 (QE r s1)) (hle:wg (es++cs) (P4.map (EV.ren (cW rs st.aP.length) (cW tk st.ar.length))))
  (hp:(zm rs tk s0 st && P4.all (ph s0.aP.length s0.ar.length))=true) (h5:s0.aP.all (kf s0.aP.length s0.ar.length)=true)
  (ho:rs.map (λr=>st.aP[r]?)=s0.aP.map (λx=>some (x.ren (cW rs st.aP.length) (cW tk st.ar.length)))) (ht:tk.map (λr=>st.ar[r]?)=s0.ar.map some)
  (hx:r.ren (cW rs st.aP.length) (cW tk st.ar.length)=x) (hs:ca st s1 rs tk=st')
  (hk:cd P f N S Q ops rest k (env.put d x) st') :
  cd P f N S Q ops (⟨d,.call ⟨.value y,l.toArray,ts⟩,ty,pos,after,none⟩::rest) k env st:=by
 simp only [zas] at hp;have rX:=(hc.frame rs tk hp.1 h5 hp.2 ho ht).le hle;refine .AB Da hd hy h1 rX λy s hq=>?_
 obtain ⟨hle,rfl⟩:=hq;rw [hx] at hle;rw [hs];exact JS hle hk
end call
theorem aw {n m:Nat} {x:dI} {l:List dI} (h1:kf n m x=true) (h2:l.all (kf n m)=true):(x::l).all (kf n m)=true:=by
 simp [h1];simpa using h2
theorem lS {a b:Bool} (h1:a=true) (h2:b=true):(a && b)=true:=by rw [h1,h2];rfl
section tok
variable {P:Program} {f:Ctx} {N:Nat} {S:Start} {Q:EV->St->Prop} {k:List Item} {todo:List Item} {env:Env} {st:St} {ops rest:List Oper}
theorem Inv.qU {g:bT} {base o ci:Nat} {w:World} {T:TypeId} {cs:List EV} (h:Inv g base w st) (ho:st.aP[o]?=some (.row T cs)) (hc:cs[ci]?=some (.d (.ex (.slice none 0 0)))) (e sz:Nat) :
  ∃ g',Inv g' base w ((st.tok ⟨e,sz,0,none⟩).set o (.row T (cs.set ci (.cz sz [] st.ar.length))))/\Step base g w st g' w ((st.tok ⟨e,sz,0,none⟩).set o (.row T (cs.set ci (.cz sz [] st.ar.length)))):=by
 obtain ⟨g1,h1,h2,h3⟩:=h.HB e sz;have FE:(st.tok ⟨e,sz,0,none⟩).aP[o]?=some (.row T cs):=ho;obtain ⟨b1,b2,vs,b3,b4,b5⟩:=h2.row o T cs FE;obtain ⟨hi,hs⟩:=h2.setBlock (o:=o) (x:=.row T (cs.set ci (.cz sz [] st.ar.length))) (w':=w) ⟨_,FE,by simp⟩ b2 rfl (λ_ _=>rfl) rfl rfl rfl
  (λPC LC Dc jK=>by
   cases jK;refine ⟨vs,b3,by simpa using b4,λi c u qc hu=>?_⟩;rw [zbj] at qc;split at qc
   ·rename_i TJ;subst TJ;split at qc
    ·cases qc;have h0:=b5 ci _ u hc hu;refine ⟨?_,h0.2⟩;have hu0:u=.slice none 0 0:=h0.1.bK;subst hu0;exact .cz sz [] _ _ e 0 (.nil sz _) (by simp [St.tok,St.set]) (zap _) (λ_=>.inl h1.symm)
    ·cases qc
   ·have h0:=b5 i c u qc hu;exact ⟨h0.1.mono PC,h0.2⟩) (λ_ es jK=>by cases jK)
 exact ⟨g1,hi,h3.trans hs⟩
theorem bq.qU {o ci e sz:Nat} {T:TypeId} {cs:List EV} (ho:st.aP[o]?=some (.row T cs)) (hc:cs[ci]?=some (.d (.ex (.slice none 0 0))))
  (h:bq P f N S Q todo env ((st.tok ⟨e,sz,0,none⟩).set o (.row T (cs.set ci (.cz sz [] st.ar.length))))):bq P f N S Q todo env st:=by
 intro g w tmps hinv hh he hn;obtain ⟨g',h1,h2⟩:=hinv.qU ho hc e sz;exact h g' w tmps h1 (hh.step h2) (he.mono h2.dy) hn
theorem cd.qU {o ci e sz:Nat} {T:TypeId} {cs:List EV} (ho:st.aP[o]?=some (.row T cs)) (hc:cs[ci]?=some (.d (.ex (.slice none 0 0))))
  (h:cd P f N S Q ops rest k env ((st.tok ⟨e,sz,0,none⟩).set o (.row T (cs.set ci (.cz sz [] st.ar.length))))):cd P f N S Q ops rest k env st :=
 λj hj=>.qU ho hc (h j hj)
end tok
section rules
variable {P:Program} {base:Nat} {env:Env} {st:St} {d:Option Tmp} {ty:TypeId} {pos:String} {after:Array Edge} {gd:Option (Nat×Bool)} {t:TypeId} {x:Operand}
theorem ez {o off:Nat} (hx:cP env x=some (.ref o off)):aK P env st ⟨d,.nilCheck x,ty,pos,after,gd⟩ (.ref o off):=λg base w tmps hi he=>by
 have h:=aM he hx;generalize hv:Act.eval ⟨tmps,[]⟩ x=v at h;cases h with
 | ref _ _ cE=>exact ⟨_,.ref _ _ cE,λw' _=>by simp [execOp,hv]⟩
end rules
section rep
variable {g:bT} {base:Nat} {w:World} {st:St}
theorem sk (h:Inv g base w st) {t e sz n:Nat} {rows:List (List D)} {v:Value} (eN:st.ar[t]?=some ⟨e,sz,n,some rows⟩) (hv:bJ g w st (.vc t n) v) :
  v=g.tk t∨(n=0/\rows=[]/\∃ A,v=.slice A 0 0):=by
 cases hv with
 | vc _ _ _ ht hf hh =>
  rcases (hh _ rows eN rfl).2 rfl with h1|⟨h1,h3⟩
  ·exact .inl h1
  ·obtain ⟨xs,_,_,k⟩:=h.own t e sz n rows eN;exact .inr ⟨h1,zba (by rw [k.len];exact h1),h3⟩
theorem HP (h:Inv g base w st) {t e sz n:Nat} {rows:List (List D)} {v:Value} (eN:st.ar[t]?=some ⟨e,sz,n,some rows⟩) (hv:v=g.tk t) :
  v=g.tk t/\∃ xs,w.ownsRow base e sz v n xs/\(∀ b,v.ownBlock=some b->g.lim b=0)/\de g.lim w sz n rows xs:=by
 subst hv;exact ⟨rfl,h.own t e sz n rows eN⟩
theorem P5 {t e sz:Nat} {rows:List (List D)} {v:Value} (cE:t<st.ar.length) (eN:st.ar[t]?=some ⟨e,sz,0,some rows⟩) (hv:∃ A,v=.slice A 0 0):bJ g w st (.vc t 0) v :=
 .vc t 0 _ cE (by obtain ⟨A,rfl⟩:=hv;exact ⟨_,_,_,rfl⟩) λx bw hx ho=>by rw [eN] at hx;cases hx;exact ⟨zap _,λ_=>.inr ⟨rfl,hv⟩⟩
theorem iM {w:World} {base e sz n:Nat} {v:Value} {xs:List Value} (h:w.ownsRow base e sz v n xs):(∃ A c,v=.slice A n c)/\(n≠0->∃ b c,v=.slice (some ⟨b,0,none⟩) n c):=by
 rcases h.2 with ⟨rfl,rfl⟩|⟨b,cap,cur,rfl,_⟩
 ·exact ⟨⟨_,_,rfl⟩,λh0=>absurd rfl h0⟩
 ·exact ⟨⟨_,_,rfl⟩,λ_=>⟨_,_,rfl⟩⟩
theorem de.get {lim:Nat->Nat} {sz n:Nat} {rows:List (List D)} {xs:List Value} (h:de lim w sz n rows xs) (hx:xs.length=n*sz) {i j:Nat} {row:List D} {c:D} (hi:rows[i]?=some row) (hj:row[j]?=some c) :
  ∃ u,xs[i*sz+j]?=some u/\dw lim w c u/\u.oneCell'=true:=by
 have hl:=h.row row (zbh hi);have cE:i*sz+j<xs.length:=by
  rw [hx,←h.len];exact Hu (zad.1 hi).1 (by rw [←hl];exact (zad.1 hj).1)
 exact ⟨_,zae cE,h.rep _ c _ (kc h.row hi hj) (zae cE)⟩
theorem Ou {P:Program} {e sz n b cap:Nat} {xs:List Value} (h:w.ownsRow base e sz (.slice (some ⟨b,0,none⟩) n cap) n xs) (off:Nat) (new:List Value) (AE:off+new.length<=n*sz) (h1:∀ v∈new,v.oneCell'=true) :
  ∃ w',(storeCells ⟨b,off,none⟩ new 0).run P w=.ok () w'/\w'.ownsRow base e sz (.slice (some ⟨b,0,none⟩) n cap) n (xs.take off++new++xs.drop (off+new.length))/\w.grownBy w' (some b)/\w'.heap.size=w.heap.size:=by
 rcases h.2 with ⟨h',_⟩|⟨g',cap',cur,h',hb,hg,D3,yG,yh,MW⟩
 ·cases h'
 ·cases h';have hle:n*sz<=cap*sz:=zcq _ D3;have ma:=run_storeCells_at P b off e new 0 cur w hg (by simp;omega) h1;simp only [zde] at ma;refine ⟨_,ma,⟨?_,.inr ⟨b,cap,_,rfl,hb,setRow_heap w b cur _ e (0,0) hg,D3,yG,?_,?_⟩⟩,⟨rfl,rfl,rfl,by simp,λk _ hk=>setRow_other w b k _ (λe=>hk (by rw [e]))⟩,by simp⟩
  ·have:=h.1;simp;omega
  ·simp;omega
  ·have hx:=h.1;apply zce;intro j;simp only [zcx];rw [zam];have Yf:∀ j,j<n*sz->cur.toList[j]?=xs[j]?:=λj hj=>by rw [←MW,zam,zab hj]
   by_cases hj:j<n*sz
   ·rw [zab hj];by_cases h1:j<off
    ·rw [zat,zat,zan (by simp;omega),zan (by simp;omega),zam,zam,zab h1,zab h1];exact Yf j hj
    ·by_cases h2:j<off+new.length
     ·have key:∀ l r:List Value,l.length=off->(l++new++r)[j]?=new[j-off]?:=λl r hl=>by
       rw [zat,zav (by omega),hl,zan (by omega)]
      rw [key _ _ (by simp;omega),key _ _ (by simp;omega)]
     ·have key:∀ l r:List Value,l.length=off->(l++new++r)[j]?=r[j-(off+new.length)]?:=λl r hl=>by
       rw [zav (by simp;omega)];congr 1;simp;omega
      rw [key _ _ (by simp;omega),key _ _ (by simp;omega),zbb,zbb];have e3:off+new.length+(j-(off+new.length))=j:=by omega
      rw [e3];exact Yf j hj
   ·rw [zaa hj];rw [zbl];simp;omega
theorem LQ {lim:Nat->Nat} {sz n:Nat} {rows:List (List D)} {xs us:List Value} (h:de lim w sz n rows xs) (hx:xs.length=n*sz) {i off:Nat} {row new:List D} (hi:rows[i]?=some row) (XQ:off+new.length<=sz)
  (hu:us.length=new.length) (mb:∀ (j:Nat) c u,new[j]?=some c->us[j]?=some u->dw lim w c u/\u.oneCell'=true) :
  de lim w sz n (rows.set i (row.take off++new++row.drop (off+new.length))) (xs.take (i*sz+off)++us++xs.drop (i*sz+off+us.length)):=by
 have UM:=h.row row (zbh hi);have CN:i<rows.length:=(zad.1 hi).1;have UY:(row.take off++new++row.drop (off+new.length)).length=sz:=by simp;omega
 have jv:∀ r,r∈rows.set i (row.take off++new++row.drop (off+new.length))->r.length=sz:=λr hr=>by
  rcases List.mem_or_eq_of_mem_set hr with h1|h1
  ·exact h.row r h1
  ·rw [h1];exact UY
 refine ⟨by simpa using h.len,jv,λj c u hc u0=>?_⟩;have Dd:=iK jv;have FU:j<n*sz:=by rw [←h.len];have:=(zad.1 hc).1;rw [Dd] at this;simpa using this
 have fE:0<sz:=by
  rcases zek sz with h0|h0
  ·subst h0;omega
  ·exact h0
 have LD:j=(j / sz)*sz+j % sz:=by rw [zdi];exact (zel j sz).symm
 have hq:j / sz<rows.length:=by rw [h.len];exact zdp (by rw [zdi];exact FU)
 have hm:j % sz<sz:=zed _ fE;have cE:i*sz+off+us.length<=n*sz:=by
  have:(i+1)*sz<=n*sz:=zcq _ (by rw [←h.len];omega);rw [zda] at this;omega
 by_cases ZN:j / sz=i
 ·-- in the row that is written
  have we:(rows.set i (row.take off++new++row.drop (off+new.length)))[j / sz]?=some (row.take off++new++row.drop (off+new.length)):=by rw [ZN,zbj,zab rfl,zab CN]
  have CG:=kc jv we (zae (show j % sz<_ by rw [UY];exact hm));rw [←LD,hc] at CG;have eR:(row.take off++new++row.drop (off+new.length))[j % sz]?=some c:=by cases CG;exact zae _
  rw [ZN] at LD;by_cases h1:j % sz<off
  ·rw [zat,zan (by simp;omega),zam,zab h1] at eR;rw [zat,zan (by simp;omega),zam,zab (by omega)] at u0;obtain ⟨u2,a1,a2⟩:=h.get hx hi eR;rw [←LD,u0] at a1;cases a1;exact a2
  ·by_cases h2:j % sz<off+new.length
   ·rw [zat,zav (by simp;omega),zan (by simp;omega)] at eR;rw [zat,zav (by simp;omega),zan (by simp;omega)] at u0;have e1:(List.take off row).length=off:=by simp;omega
    have e2:(List.take (i*sz+off) xs).length=i*sz+off:=by simp;omega
    rw [e1] at eR;rw [e2] at u0;have e3:j-(i*sz+off)=j % sz-off:=by omega
    rw [e3] at u0;exact mb _ c u eR u0
   ·rw [zav (by simp;omega)] at eR u0;have e1:(List.take off row++new).length=off+new.length:=by simp;omega
    have e2:(List.take (i*sz+off) xs++us).length=i*sz+off+us.length:=by simp;omega
    rw [e1,zbb] at eR;rw [e2,zbb] at u0;have e3:off+new.length+(j % sz-(off+new.length))=j % sz:=by omega
    have e4:i*sz+off+us.length+(j-(i*sz+off+us.length))=j:=by omega
    rw [e3] at eR;rw [e4] at u0;obtain ⟨u2,a1,a2⟩:=h.get hx hi eR;rw [←LD,u0] at a1;cases a1;exact a2
 ·have we:(rows.set i (row.take off++new++row.drop (off+new.length)))[j / sz]?=some rows[j / sz]:=by rw [zbj,zaa (zcf ZN)];exact zae hq
  have hrl2:=h.row rows[j / sz] (zeu hq);have CG:=kc jv we (zae (show j % sz<_ by rw [hrl2];exact hm));rw [←LD,hc] at CG;have eR:rows[j / sz][j % sz]?=some c:=by cases CG;exact zae _
  have hux:xs[j]?=some u:=by
   by_cases h1:j<i*sz+off
   ·rw [zat,zan (by simp;omega),zam,zab h1] at u0;exact u0
   ·have:¬ j<i*sz+off+us.length:=by
     intro h2;apply ZN;have h3:j<(i+1)*sz:=by rw [zda];omega
     have h4:i*sz<=j:=by omega
     exact Nat.le_antisymm (Nat.le_of_lt_succ (zdp (by rw [zdi];exact h3))) ((Nat.le_div_iff_mul_le fE).2 h4)
    rw [zav (by simp;omega)] at u0;have e2:(List.take (i*sz+off) xs++us).length=i*sz+off+us.length:=by simp;omega
    rw [e2,zbb] at u0;have e4:i*sz+off+us.length+(j-(i*sz+off+us.length))=j:=by omega
    rw [e4] at u0;exact u0
  obtain ⟨u2,a1,a2⟩:=h.get hx (zae hq) eR;rw [←LD,hux] at a1;cases a1;exact a2
end rep
section rules
variable {P:Program} {f:Ctx} {N:Nat} {S:Start} {Q:EV->St->Prop} {k:List Item} {todo:List Item} {base:Nat} {env:Env} {st:St} {ops rest:List Oper}
 {d:Option Tmp} {ty:TypeId} {pos:String} {after:Array Edge} {gd:Option (Nat×Bool)} {t t2 e:TypeId} {x y z:Operand}
theorem bq.UZ {α:Type} {tk:Nat} {e sz n:Nat} {l:List α} {row:α->List D} (eN:st.ar[tk]?=some ⟨e,sz,n,some (l.map row)⟩) (h:n=l.length->bq P f N S Q todo env st):bq P f N S Q todo env st:=by
 intro g w tmps hinv;obtain ⟨xs,_,_,h3⟩:=hinv.own tk e sz n _ eN;exact h (by have:=h3.len;simpa using this.symm) g w tmps hinv
theorem Inv.freeze {g:bT} {w:World} {tk e sz n:Nat} {rows:List (List D)} (h:Inv g base w st) (eN:st.ar[tk]?=some ⟨e,sz,n,some rows⟩) :
  ∃ g',g'.tk tk=g.tk tk/\Inv g' base w (st.bC tk ⟨e,sz,n,none⟩)/\Step base g w st g' w (st.bC tk ⟨e,sz,n,none⟩)/\dw g'.lim w (.sl sz rows) (g.tk tk):=by
 obtain ⟨xs,h1,h2,h3⟩:=h.own tk e sz n rows eN;obtain ⟨g',k1,k2,k3,k4⟩:=h.Oh (x':=⟨e,sz,n,none⟩) (v':=g.tk tk) (w':=w) eN h1 (.inl ⟨rfl,rfl,⟨rfl,rfl,rfl,zap _,λ_ _ _=>rfl⟩⟩) (λhh=>by cases hh) (λrows _ bw hh=>by cases hh) (λrows hh=>by cases hh);refine ⟨g',k1,k3,k4,Hz h1 h3.len h3.row (λb hb=>by rw [k2 b hb,s8 rfl];exact zap _) λj u c hu hc=>?_⟩;exact ⟨(h3.rep j c u hc hu).1.mono k4.dy.cP,(h3.rep j c u hc hu).2⟩
theorem bq.freeze {i tk e sz n:Nat} {rows:List (List D)} (hl:lookup i env=some (.vc tk n)) (eN:st.ar[tk]?=some ⟨e,sz,n,some rows⟩)
  (h:bq P f N S Q todo ((i,.cz sz rows tk)::env) (st.bC tk ⟨e,sz,n,none⟩)):bq P f N S Q todo env st:=by
 intro g w tmps hinv hh he hN;obtain ⟨g',h1,h2,h3,h4⟩:=hinv.freeze eN;refine h g' w tmps h2 (hh.step h3) (λj y hy=>?_) hN;unfold lookup at hy;have Aw:=he.mono h3.dy;cases hb:Nat.beq j i with
 | true =>
  rw [hb] at hy;cases hy;have:=zau hb;subst this;obtain ⟨v,m1,m2⟩:=he j _ hl;have hlen:tk<st.ar.length:=(zad.1 eN).1;obtain ⟨xs,o1,_,o3⟩:=hinv.own tk e sz n rows eN;rcases sk hinv eN m2 with hv|⟨n0,r0,A,hv⟩
  ·subst hv;exact ⟨_,m1,.cz sz rows tk _ e n h4 (by simp [St.bC,zbj,hlen]) (zfo o3.len) (λ_=>.inl h1.symm)⟩
  ·subst n0;subst r0;subst hv;exact ⟨_,m1,.cz sz [] tk _ e 0 (.nil sz _) (by simp [St.bC,zbj,hlen]) (zap _) (λ_=>.inr ⟨rfl,_,rfl⟩)⟩
 | false =>
  rw [hb] at hy;exact Aw j y hy
theorem bq.Ov {i e sz:Nat} (hx:lookup i env=some (.d (.ex (.slice none 0 0)))) (h:bq P f N S Q todo ((i,.vc st.ar.length 0)::env) (st.tok ⟨e,sz,0,some []⟩)):bq P f N S Q todo env st:=by
 intro g w tmps hinv hh he hN;obtain ⟨g',h1,_,_,h2,h3⟩:=hinv.sB ⟨e,sz,0,some []⟩ (World.ownsRow_nil w S.base _ _) (.inl ⟨rfl,rfl⟩) (λrows hr=>by cases hr;exact ⟨rfl,by simp,by simp⟩);refine h g' w tmps h2 (hh.step h3) (λj y hy=>?_) hN;unfold lookup at hy;cases hb:Nat.beq j i with
 | true =>
  rw [hb] at hy;cases hy;have:=zau hb;subst this;obtain ⟨v,m1,m2⟩:=he j _ hx;have hv:=m2.bK;subst hv;refine ⟨_,m1,.vc _ _ _ (by simp [St.tok]) ⟨_,_,_,rfl⟩ λx rows hx ho=>?_⟩;have:x=⟨e,sz,0,some []⟩:=by simpa [St.tok,zeq] using hx
  subst this;exact ⟨zap _,λ_=>.inl h1.symm⟩
 | false =>
  rw [hb] at hy;exact (he.mono h3.dy) j y hy
section sl
variable {α:Type} {sz:Nat} {row:α->List D} {l:List α} {ev:EV} {inf:TypeInfo} {tk n:Nat}
theorem uI (ht:P.underlying t=some (.slice e)) (hx:cP env x=some (.vc tk n)) {e':Nat} (eN:st.ar[tk]?=some ⟨e',sz,n,some (l.map row)⟩) :
  aK P env st ⟨d,.call ⟨.builtin .len,#[x],#[t]⟩,ty,pos,after,gd⟩ (.d (cI (l.length:Int))):=λg base w tmps hinv he=>by
 rcases sk hinv eN (aM he hx) with GD|⟨n0,r0,A,hv⟩
 ·obtain ⟨_,xs,h2,_,h4⟩:=HP hinv eN GD;obtain ⟨⟨A,c,hv⟩,_⟩:=iM h2;have hn:n=l.length:=by have:=h4.len;simpa using this.symm
  rw [←hn];exact ⟨_,.d _ _ (.ex _),λw' _=>DB ht hv w'⟩
 ·have hl:l=[]:=by simpa using r0
  subst hl;exact ⟨_,.d _ _ (.ex _),λw' _=>DB ht hv w'⟩
theorem mh [Inhabited α] {kk:IntKind} {i:Int} {e':Nat} (ht:P.underlying t=some (.slice e)) (hi:P.info? e=some inf) (fE:inf.size=sz) (hx:cP env x=some (.vc tk n)) (eN:st.ar[tk]?=some ⟨e',sz,n,some (l.map row)⟩) (hy:cP env y=some (.d (.ex (.int kk i)))) (h:0<=i/\i<l.length) :
  aK P env st ⟨d,.indexAddr t x y,ty,pos,after,gd⟩ (.vp tk n i.toNat 0):=λg base w tmps hinv he=>by
 have hvk0:Act.eval ⟨tmps,[]⟩ x=g.tk tk:=by
  rcases sk hinv eN (aM he hx) with GD|⟨n0,r0,A,hv⟩
  ·exact GD
  ·have hl:l=[]:=by simpa using r0
   rw [hl] at h;simp at h;omega
 obtain ⟨GD,xs,h2,_,h4⟩:=HP hinv eN hvk0;have hn:n=l.length:=by have:=h4.len;simpa using this.symm
 obtain ⟨b,c,hv⟩:=(iM h2).2 (by omega);have hlen:tk<st.ar.length:=(zad.1 eN).1;subst fE;refine ⟨.pointer (some ⟨b,i.toNat*inf.size,none⟩),.vp _ _ _ _ _ hlen ⟨_,_,rfl⟩ λx rows hx ho=>?_,λw' _=>?_⟩
 ·rw [eN] at hx;cases hx;exact ⟨zap _,λ_=>⟨b,n,c,by rw [←GD,hv],rfl⟩⟩
 ·have:=BL (d:=d) (ty:=ty) (pos:=pos) (after:=after) (gd:=gd) ht hi hv (aM he hy).bK h.1 (by omega) w';rw [Addr.add_lit,zbr] at this;exact this
theorem Ow {s:TypeId} {f off i o:Nat} (hf:fG P s f=some off) (hx:cP env x=some (.vp tk n i o)) :
  aK P env st ⟨d,.fieldAddr s x f,ty,pos,after,gd⟩ (.vp tk n i (o+off)):=λg base w tmps hinv he=>by
 have h:=aM he hx;generalize hv:Act.eval ⟨tmps,[]⟩ x=v at h;cases h with
 | vp _ _ _ _ _ ht hf' hh =>
  obtain ⟨b,o',rfl⟩:=hf';refine ⟨.pointer (some ⟨b,o'+off,none⟩),.vp _ _ _ _ _ ht ⟨_,_,rfl⟩ λx rows hx ho=>?_,λw' _=>by simp [execOp,hv,s7 hf,Addr.add_lit]⟩;obtain ⟨h1,h2⟩:=hh x rows hx ho;refine ⟨h1,λe=>?_⟩;obtain ⟨b2,m,c,a1,a2⟩:=h2 e;cases a2;exact ⟨b,m,c,a1,by rw [zch]⟩
theorem El {g:bT} {w:World} {i o e':Nat} {v:Value} {r:List D} {rows:List (List D)} (hinv:Inv g base w st) (eN:st.ar[tk]?=some ⟨e',sz,n,some rows⟩) (hv:bJ g w st (.vp tk n i o) v) (hr:rows[i]?=some r) :
  ∃ b c xs,g.tk tk=.slice (some ⟨b,0,none⟩) n c/\v=.pointer (some ⟨b,i*sz+o,none⟩)/\w.ownsRow base e' sz (.slice (some ⟨b,0,none⟩) n c) n xs/\g.lim b=0/\de g.lim w sz n rows xs/\b<w.heap.size /\
   ∀ j cc,r[j]?=some cc->∃ u,w.cell? ⟨b,i*sz+j,none⟩=some u/\xs[i*sz+j]?=some u/\dw g.lim w cc u/\u.oneCell'=true:=by
 cases hv with
 | vp _ _ _ _ _ ht hf' hh =>
  obtain ⟨b,m,c,a1,a2⟩:=(hh _ rows eN rfl).2 rfl;obtain ⟨xs,h1,h2,h3⟩:=hinv.own tk e' sz n rows eN;rw [a1] at h1 h2;have hm:m=n:=by
   rcases h1.2 with ⟨hh,_⟩|⟨_,_,_,hh,_⟩
   ·cases hh
   ·cases hh;rfl
  subst hm;refine ⟨b,c,xs,a1,a2,h1,h2 b rfl,h3,(h1.lt b rfl).2,λj cc hj=>?_⟩;obtain ⟨u,k1,k2⟩:=h3.get h1.1 hr hj;have:=h1.cells (g:=b) rfl _ u k1;rw [Addr.add_lit,zbr] at this;exact ⟨u,this,k1,k2⟩
theorem xw [Inhabited α] {i o e':Nat} {c:D} (h1:(P.underlying t).map kT=some true) (hx:cP env x=some (.vp tk n i o)) (eN:st.ar[tk]?=some ⟨e',sz,n,some (l.map row)⟩) (hi:i<l.length) (hc:(row (nth l i))[o]?=some c) :
  aK P env st ⟨d,.load t x,ty,pos,after,gd⟩ (.d c):=λg base w tmps hinv he=>by
 obtain ⟨b,cp,xs,a1,a2,a3,a4,a5,a6,a7⟩:=El hinv eN (aM he hx) (BV hi);obtain ⟨u,k1,k2,k3,k4⟩:=a7 o c hc;refine ⟨u,.d _ _ k3,λw' hb=>?_⟩;have:=(hb.cell (p:=⟨b,i*sz+o,none⟩) a6).trans k1;simp [execOp,a2,Instr.loadAt,Instr.sureAddr,loadVar,u5 h1,this]
theorem lL [Inhabited α] {i o e' m:Nat} {cs:List D} (h1:(P.underlying t).map kT=some false) (hs:(P.info? t).map (·.size)=some m) (hx:cP env x=some (.vp tk n i o)) (eN:st.ar[tk]?=some ⟨e',sz,n,some (l.map row)⟩) (hi:i<l.length)
  (hm:o+m<=sz) (hc:((row (nth l i)).drop o).take m=cs):aK P env st ⟨d,.load t x,ty,pos,after,gd⟩ (.d (.agg cs)):=λg base w tmps hinv he=>by
 obtain ⟨b,cp,xs,a1,a2,a3,a4,a5,a6,a7⟩:=El hinv eN (aM he hx) (BV hi);have UM:(row (nth l i)).length=sz:=a5.row _ (zbh (BV hi));have hl:cs.length=m:=by rw [←hc];simp;omega
 let us:List Value:=(xs.drop (i*sz+o)).take m
 have Po:∀ j u,us[j]?=some u->j<m/\xs[i*sz+(o+j)]?=some u:=λj u hu=>by
  simp only [us,zam,zbb] at hu;split at hu
  ·rename_i hj;exact ⟨hj,by rw [←hu];congr 1;omega⟩
  ·cases hu
 have eR:∀ j,j<m->∃ cc u,cs[j]?=some cc/\us[j]?=some u/\w.cell? ⟨b,i*sz+o+j,none⟩=some u/\dw g.lim w cc u/\u.oneCell'=true:=λj hj=>by
  have e1:(row (nth l i))[o+j]?=some ((row (nth l i))[o+j]'(by omega)):=zae _;obtain ⟨u,k1,k2,k3,k4⟩:=a7 (o+j) _ e1;refine ⟨_,u,by rw [show cs[j]?=(((row (nth l i)).drop o).take m)[j]? from by rw [hc],zam,zab hj,zbb];exact e1,?_,by rw [zch];exact k1,k3,k4⟩;simp only [us,zam,zbb];rw [zab hj,←k2];congr 1;omega
 have ZO:us.length=m:=by
  have h1:=a3.1;have CN:i<n:=by have:=a5.len;simp at this;omega
  have h2:(i+1)*sz<=n*sz:=zcq _ CN;rw [zda] at h2;simp [us];omega
 refine ⟨.agg us.toArray,.d _ _ (.agg _ _ (by simp [ZO,hl]) (λj u hu=>?_) (λj cc u CG hu=>?_)),λw' hb=>?_⟩
 ·obtain ⟨hj,_⟩:=Po j u (by simpa using hu);obtain ⟨cc,u',b1,b2,b3,b4,b5⟩:=eR j hj;have:us[j]?=some u:=by simpa using hu
  rw [b2] at this;cases this;exact b5
 ·obtain ⟨hj,_⟩:=Po j u (by simpa using hu);obtain ⟨cc',u',b1,b2,b3,b4,b5⟩:=eR j hj;have:us[j]?=some u:=by simpa using hu
  rw [b2] at this;cases this;rw [b1] at CG;cases CG;exact b4
 ·obtain ⟨inf,lh,Hy⟩:∃ inf,P.info? t=some inf/\inf.size=m:=by
   cases hh:P.info? t with
   | none=>rw [hh] at hs;cases hs
   | some inf=>rw [hh] at hs;exact ⟨inf,rfl,by simpa using hs⟩
  have D1:=qS (P:=P) (w:=w') (b:=b) (off:=i*sz+o) ZO (λj u hu=>by
   obtain ⟨hj,_⟩:=Po j u hu;obtain ⟨cc,u',b1,b2,b3,b4,b5⟩:=eR j hj;rw [b2] at hu;cases hu;exact (hb.cell (p:=⟨b,i*sz+o+j,none⟩) a6).trans b3)
  simp [execOp,a2,Instr.loadAt,Instr.sureAddr,loadVar,yg h1,sizeOf,typeInfo,lh,Hy,D1]
theorem AQ [Inhabited α] {i o e' m:Nat} {new:List D} {a:α} (hx:cP env x=some (.vp tk n i o)) (eN:st.ar[tk]?=some ⟨e',sz,n,some (l.map row)⟩) (hi:i<l.length) (hy:cP env y=some ev) (hc:cellsD ev=some new)
  (hs:(P.info? t).map (·.size)=some m) (hm:new.length=m) (hof:o+m<=sz) (ha:(row (nth l i)).take o++new++(row (nth l i)).drop (o+new.length)=row a) :
  Hv P base env st ⟨d,.store t x y,ty,pos,after,gd⟩ (st.bC tk ⟨e',sz,n,some ((l.set i a).map row)⟩):=by
 intro g w tmps hinv he;obtain ⟨b,cp,xs,a1,a2,a3,a4,a5,a6,a7⟩:=El hinv eN (aM he hx) (BV hi);have Yg:=lj hc (aM he hy);generalize hu:Act.eval ⟨tmps,[]⟩ y=u at Yg;have ZO:u.cells.toList.length=new.length:=by simpa using Yg.1
 have CN:i<n:=by have:=a5.len;simp at this;omega
 have h2:(i+1)*sz<=n*sz:=zcq _ CN;rw [zda] at h2;have hone:∀ v∈u.cells.toList,v.oneCell'=true:=λv hv=>by
  obtain ⟨j,hj⟩:=zcy.1 hv;have FU:=(zad.1 hj).1;exact (Yg.2 j new[j] v (zae (by omega)) (by simpa using hj)).2
 obtain ⟨w',k1,k2,k3,k4⟩:=Ou (P:=P) a3 (i*sz+o) u.cells.toList (by omega) hone;have jv:=LQ (us:=u.cells.toList) (new:=new) (off:=o) a5 a3.1 (BV hi) (by omega) ZO (λj c v CG hv=>Yg.2 j c v CG (by simpa using hv));rw [ha] at jv;have xq:(l.map row).set i (row a)=(l.set i a).map row:=by rw [List.map_set]
 rw [xq] at jv;obtain ⟨g',q1,q2,q3,q4⟩:=hinv.Oh (x':=⟨e',sz,n,some ((l.set i a).map row)⟩) (v':=g.tk tk) (w':=w') eN (by rw [a1];exact k2) (.inl ⟨rfl,k4,by rw [a1];exact k3⟩) (λhh=>by cases hh) (λrows _ bw _=>⟨rfl,zap _,λ_=>rfl⟩) (λrows hh=>by cases hh;exact jv);refine ⟨g',w',?_,q3,q4⟩;obtain ⟨inf,lh,Hy⟩:∃ inf,P.info? t=some inf/\inf.size=m:=by
  cases hh:P.info? t with
  | none=>rw [hh] at hs;cases hs
  | some inf=>rw [hh] at hs;exact ⟨inf,rfl,by simpa using hs⟩
 have UB:u.cells.size=m:=by have:=Yg.1;omega
 simp [execOp,hu,a2,Instr.storeAt,Instr.sureAddr,storeVar,sizeOf,typeInfo,lh,Hy,UB,k1]
end sl
end rules
end Go.Abs
