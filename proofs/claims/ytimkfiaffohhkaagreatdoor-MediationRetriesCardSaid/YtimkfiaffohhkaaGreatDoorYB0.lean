/- Our own texts of this seat. -/
import Derived.WalkKit
import Derived.Below
import Derived.Lib.ItoaNum
import Derived.AtR
import Derived.Laws.RangeString
import Derived.Laws.RangeAny
import Derived.Laws.MakeOwn
set_option linter.unusedSimpArgs false
set_option linter.unusedVariables false
set_option linter.unusedSectionVars false
set_option maxRecDepth 100000
set_option maxHeartbeats 1000000
namespace Go
abbrev zaa:=@if_neg
abbrev zab:=@if_pos
abbrev zac:=@Option.bind_some
abbrev zad:=@List.getElem?_eq_some_iff
abbrev zae:=@Nat.le_of_ble_eq_true
abbrev zaf:=@List.getElem?_eq_getElem
abbrev zag:=@List.length_cons
abbrev zah:=@decide_eq_true_eq
abbrev zai:=@List.length_append
abbrev zaj:=@List.getElem?_take
abbrev zak:=@List.getElem?_append_left
abbrev zal:=@List.mem_cons_of_mem
abbrev zam:=@Nat.le_refl
abbrev zan:=@List.length_singleton
abbrev zao:=@List.mem_cons_self
abbrev zap:=@List.map_cons
abbrev zaq:=@Array.getD_eq_getD_getElem?
abbrev zar:=@Bool.and_eq_true
abbrev zas:=@Nat.eq_of_beq_eq_true
abbrev zat:=@List.getElem?_append_right
abbrev zau:=@Array.getElem?_eq_some_iff
abbrev zav:=@List.mem_cons
abbrev zaw:=@List.eq_nil_of_length_eq_zero
abbrev zax:=@List.append_assoc
abbrev zay:=@List.length_take
abbrev zaz:=@List.getElem?_drop
abbrev zba:=@List.getElem?_map
abbrev zbb:=@List.all_eq_true
abbrev zbc:=@List.length_nil
abbrev zbd:=@List.map_nil
abbrev zbe:=@Array.getElem?_eq_getElem
abbrev zbf:=@Bool.false_eq_true
abbrev zbg:=@List.mem_of_getElem?
abbrev zbh:=@List.length_drop
abbrev zbi:=@List.mem_append
abbrev zbj:=@List.getElem?_set
abbrev zbk:=@Nat.lt_of_lt_of_le
abbrev zbl:=@List.getElem?_eq_none
abbrev zbm:=@congrArg
abbrev zbn:=@List.pairwise_cons
abbrev zbo:=@List.filter_cons
abbrev zbp:=@Nat.zero_add
abbrev zbq:=@List.size_toArray
abbrev zbr:=@Bool.or_eq_true
abbrev zbs:=@List.nodup_cons
abbrev zbt:=@List.getD_eq_getElem?_getD
abbrev zbu:=@Bool.eq_iff_iff
abbrev zbv:=@Array.getElem?_setIfInBounds
abbrev zbw:=@if_false
abbrev zbx:=@Array.getElem?_toList
abbrev zby:=@List.ext_getElem?
abbrev zbz:=@List.nil_append
abbrev zca:=@List.mem_singleton
abbrev zcb:=@Ne.symm
abbrev zcc:=@List.take_of_length_le
abbrev zcd:=@Option.map_eq_some_iff
abbrev zce:=@Nat.add_assoc
abbrev zcf:=@if_true
abbrev zcg:=@List.append_nil
abbrev zch:=@Int.toNat_natCast
abbrev zci:=@List.drop_eq_nil_of_le
abbrev zcj:=@List.mem_filter
abbrev zck:=@Bool.not_true
abbrev zcl:=@Nat.mul_le_mul_right
abbrev zcm:=@Array.length_toList
abbrev zcn:=@List.mem_map_of_mem
abbrev zco:=@Option.getD_some
abbrev zcp:=@List.toList_toArray
abbrev zcq:=@List.mem_iff_getElem?
abbrev zcr:=@Bool.true_and
abbrev zcs:=@Bool.not_false
abbrev zct:=@List.mem_of_mem_drop
abbrev zcu:=@Nat.add_mul
abbrev zcv:=@Bool.false_or
abbrev zcw:=@Nat.add_comm
abbrev zcx:=@Bool.false_and
abbrev zcy:=@decide_eq_true_iff
abbrev zcz:=@Nat.le_trans
abbrev zda:=@Array.getElem?_append_left
abbrev zdb:=@Nat.add_zero
abbrev zdc:=@Nat.mul_comm
abbrev zdd:=@Array.getElem?_push_lt
abbrev zde:=@List.filter_eq_nil_iff
abbrev zdf:=@List.nodup_append
abbrev zdg:=@List.filter_eq_self
abbrev zdh:=@List.mem_map
abbrev zdi:=@List.filter_append
abbrev zdj:=@Bool.or_false
abbrev zdk:=@Nat.div_lt_of_lt_mul
abbrev zdl:=@Bool.not_eq_true'
abbrev zdm:=@List.map_append
abbrev zdn:=@decide_eq_true
abbrev zdo:=@Option.toList_some
abbrev zdp:=@List.singleton_append
abbrev zdq:=@getElem!_pos
abbrev zdr:=@decide_eq_false
abbrev zds:=@of_decide_eq_true
abbrev zdt:=@List.length_pos_iff
abbrev zdu:=@List.filterMap_cons
abbrev zdv:=@List.drop_of_length_le
abbrev zdw:=@List.append_of_mem
abbrev zdx:=@Option.toList_none
abbrev zdy:=@List.length_map
abbrev zdz:=@List.any_cons
abbrev zea:=@List.filter_congr
abbrev zeb:=@List.flatMap_cons
abbrev zec:=@Nat.mod_lt
abbrev zed:=@List.mem_of_mem_take
abbrev zee:=@beq_iff_eq
abbrev zef:=@List.map_toArray
abbrev zeg:=@List.not_mem_nil
abbrev zeh:=@List.flatten_append
abbrev zei:=@beq_eq_false_iff_ne
abbrev zej:=@List.all_cons
abbrev zek:=@Nat.eq_zero_or_pos
abbrev zel:=@Nat.div_add_mod
abbrev zem:=@List.flatten_cons
abbrev zen:=@Nat.beq_refl
abbrev zeo:=@eq_comm
abbrev zep:=@List.mem_zipIdx_iff_getElem?
abbrev zeq:=@List.any_nil
abbrev zer:=@Bool.true_or
abbrev zes:=@List.mem_append_right
abbrev zet:=@List.any_eq_true
abbrev zeu:=@List.mem_append_left
abbrev zev:=@List.takeWhile_cons_of_pos
abbrev zew:=@List.exists_mem_of_ne_nil
abbrev zex:=@decide_false
abbrev zey:=@Eq.symm
abbrev zez:=@List.take_take
abbrev zfa:=@Nat.add_sub_cancel_left
abbrev zfb:=@decide_eq_false_iff_not
abbrev zfc:=@Array.size_append
abbrev zfd:=@List.mapM_toArray
abbrev zfe:=@bne_self_eq_false
abbrev zff:=@Bool.eq_false_iff
abbrev zfg:=@Nat.zero_le
abbrev zfh:=@Nat.lt_succ_self
abbrev zfi:=@List.getElem_mem
abbrev zfj:=@decide_eq_decide
abbrev zfk:=@beq_self_eq_true
abbrev zfl:=@Array.getElem?_modify
abbrev zfm:=@List.take_append_drop
abbrev zfn:=@List.perm_append_comm
abbrev zfo:=@Nat.zero_mul
abbrev zfp:=@Nat.le_of_eq
abbrev zfq:=@Nat.lt_or_ge
abbrev zfr:=@List.length_set
abbrev zfs:=@Bool.or_self
abbrev zft:=@List.length_take_le'
abbrev zfu:=@Array.toList_append
end Go
namespace Go.Abs
def GL:List (Nat×Array Value):=[(0,(Go.Lib.pow10Tab.map λz=>Value.int .u64 z).toArray)]
def GI:List Nat:=[]
end Go.Abs
namespace Go.Abs
open Go.RowKit
inductive D where
 | ex (v:Value)
 | agg (cs:List D)
 | dN (cs:List D)
 | sl (sz:Nat) (rows:List (List D))
 | ro (cs:List D)
 | e0 (sz:Nat)
 | any
inductive dK (lim:Nat->Nat) (w:World):D->Value->Prop where
 | ex (v:Value):dK lim w (.ex v) v
 | agg (cs:List D) (vs:Array Value) (hs:vs.size=cs.length)
   (h1:∀ (i:Nat) (u:Value),vs[i]?=some u->u.oneCell'=true)
   (h:∀ (i:Nat) c (u:Value),cs[i]?=some c->vs[i]?=some u->dK lim w c u):dK lim w (.agg cs) (.agg vs)
 | dN (cs:List D) (vs:Array Value) (hs:vs.size=cs.length)
   (h:∀ (i:Nat) c (u:Value),cs[i]?=some c->vs[i]?=some u->dK lim w c u):dK lim w (.dN cs) (.tuple vs)
 | nil (sz:Nat) (A:Option Addr):dK lim w (.sl sz []) (.slice A 0 0)
 | sl (sz:Nat) (rows:List (List D)) (b off cap:Nat) (hc:rows.length<=cap) (hr:∀ row,row∈rows->row.length=sz)
   (hx:∀ k,k<rows.length*sz->off+k<lim b/\∃ u:Value,w.cell? ⟨b,off+k,none⟩=some u/\u.oneCell'=true)
   (h:∀ (i j:Nat) row c (u:Value),rows[i]?=some row->row[j]?=some c->w.cell? ⟨b,off+(i*sz+j),none⟩=some u->dK lim w c u) :
   dK lim w (.sl sz rows) (.slice (some ⟨b,off,none⟩) rows.length cap)
 | ro (cs:List D) (b off:Nat)
   (hx:∀ k,k<cs.length->off+k<lim b/\∃ u:Value,w.cell? ⟨b,off+k,none⟩=some u/\u.oneCell'=true)
   (h:∀ (j:Nat) c (u:Value),cs[j]?=some c->w.cell? ⟨b,off+j,none⟩=some u->dK lim w c u):dK lim w (.ro cs) (.pointer (some ⟨b,off,none⟩))
 | e0 (sz:Nat) (A:Option Addr) (h:A=none∨∃ b off,A=some ⟨b,off,none⟩):dK lim w (.e0 sz) (.slice A 0 0)
 | any (v:Value):dK lim w .any v
structure Lf (l:Nat->Nat) (w:World) (l':Nat->Nat) (w':World):Prop where
 size:w.heap.size<=w'.heap.size
 lim:∀ b:Nat,b<w.heap.size->l b<=l' b
 cell:∀ b off:Nat,b<w.heap.size->off<l b->w'.cell? ⟨b,off,none⟩=w.cell? ⟨b,off,none⟩
theorem Lf.refl (lim:Nat->Nat) (w:World):Lf lim w lim w:=⟨zam _,λ_ _=>zam _,λ_ _ _ _=>rfl⟩
theorem Lf.trans {l1 l2 l3:Nat->Nat} {w1 w2 w3:World} (h:Lf l1 w1 l2 w2) (k:Lf l2 w2 l3 w3):Lf l1 w1 l3 w3 :=
 ⟨zcz h.size k.size,λb hb=>zcz (h.lim b hb) (k.lim b (zbk hb h.size)),
  λb off hb ho=>(k.cell b off (zbk hb h.size) (zbk ho (h.lim b hb))).trans (h.cell b off hb ho)⟩
theorem zZ {i j n sz:Nat} (hi:i<n) (hj:j<sz):i*sz+j<n*sz:=by
 have:(i+1)*sz<=n*sz:=zcl sz hi;rw [zcu] at this;omega
theorem dK.mono {lim dv:Nat->Nat} {w w':World} (e:Lf lim w dv w') {x:D} {v:Value} (h:dK lim w x v):dK dv w' x v:=by
 induction h with
 | ex v=>exact .ex v
 | agg cs vs hs h1 _ ih=>exact .agg cs vs hs h1 ih
 | dN cs vs hs _ ih=>exact .dN cs vs hs ih
 | nil sz A=>exact .nil sz A
 | sl sz rows b off cap hc hr hx _ ih =>
  have fc:∀ k,k<rows.length*sz->w'.cell? ⟨b,off+k,none⟩=w.cell? ⟨b,off+k,none⟩:=by
   intro k hk;obtain ⟨hl,u,hu,_⟩:=hx k hk;exact e.cell b (off+k) (World.block_lt_of_cell? w _ hu) hl
  refine .sl sz rows b off cap hc hr ?_ ?_
  ·intro k hk;obtain ⟨hl,u,hu,h1⟩:=hx k hk;exact ⟨zbk hl (e.lim b (World.block_lt_of_cell? w _ hu)),u,(fc k hk).trans hu,h1⟩
  ·intro i j row c u hi hj hu;refine ih i j row c u hi hj ?_;rw [←fc (i*sz+j) ?_]
   ·exact hu
   ·have hl:=hr row (zbg hi);exact zZ (zad.1 hi).1 (by rw [←hl];exact (zad.1 hj).1)
 | ro cs b off hx _ ih =>
  have fc:∀ k,k<cs.length->w'.cell? ⟨b,off+k,none⟩=w.cell? ⟨b,off+k,none⟩:=by
   intro k hk;obtain ⟨hl,u,hu,_⟩:=hx k hk;exact e.cell b (off+k) (World.block_lt_of_cell? w _ hu) hl
  refine .ro cs b off ?_ ?_
  ·intro k hk;obtain ⟨hl,u,hu,h1⟩:=hx k hk;exact ⟨zbk hl (e.lim b (World.block_lt_of_cell? w _ hu)),u,(fc k hk).trans hu,h1⟩
  ·intro j c u hj hu;refine ih j c u hj ?_;rw [←fc j (zad.1 hj).1];exact hu
 | e0 sz A h=>exact .e0 sz A h
 | any v=>exact .any v
inductive EV where
 | d (x:D)
 | ref (o off:Nat)
 | Jc (o off len cap:Nat)
 | cE (sz:Nat) (rows:List (List D)) (t:Nat)
 | mp (o:Nat)
 | tz (f:FuncId) (RH:List EV)
 | agg (cs:List EV)
 | dN (cs:List EV)
 | gd (b:Bool) (x:EV)
  | vc (t k:Nat)
  | vp (t k i off:Nat)
  | vw (t k lo n:Nat)
structure gK where
 e:TypeId
 sz:Nat
 n:Nat
 own:Option (List (List D))
inductive dL where
 | row (ty:TypeId) (cs:List EV)
 | map (es:List (Value×EV))
 | raw (x:Obj)
 | gone
structure St where
 aO:List dL
 au:List gK
structure bY where
 lim:Nat->Nat
 ob:Nat->Nat
 tk:Nat->Value
def Emp (v:Value) (n:Nat):Prop:=n=0/\∃ A,v=.slice A 0 0
inductive bM (g:bY) (w:World) (st:St):EV->Value->Prop where
 | d (x:D) (v:Value) (h:dK g.lim w x v):bM g w st (.d x) v
 | ref (o off:Nat) (h:o<st.aO.length):bM g w st (.ref o off) (.pointer (some ⟨g.ob o,off,none⟩))
 | Jc (o off len cap:Nat) (h:o<st.aO.length):bM g w st (.Jc o off len cap) (.slice (some ⟨g.ob o,off,none⟩) len cap)
 | cE (sz:Nat) (rows:List (List D)) (t:Nat) (v:Value) (e:TypeId) (n:Nat) (hd:dK g.lim w (.sl sz rows) v) (ht:st.au[t]?=some ⟨e,sz,n,none⟩)
   (hn:rows.length<=n) (hv:rows.length=n->v=g.tk t∨Emp v n):bM g w st (.cE sz rows t) v
 | mp (o:Nat) (h:o<st.aO.length):bM g w st (.mp o) (.map (some (g.ob o)))
 | tz (f:FuncId) (cs:List EV) (vs:Array Value) (hs:vs.size=cs.length)
   (h:∀ (i:Nat) c (u:Value),cs[i]?=some c->vs[i]?=some u->bM g w st c u):bM g w st (.tz f cs) (.func (.func f) #[] vs)
 | agg (cs:List EV) (vs:Array Value) (hs:vs.size=cs.length) (h1:∀ (i:Nat) (u:Value),vs[i]?=some u->u.oneCell'=true)
   (h:∀ (i:Nat) c (u:Value),cs[i]?=some c->vs[i]?=some u->bM g w st c u):bM g w st (.agg cs) (.agg vs)
 | dN (cs:List EV) (vs:Array Value) (hs:vs.size=cs.length)
   (h:∀ (i:Nat) c (u:Value),cs[i]?=some c->vs[i]?=some u->bM g w st c u):bM g w st (.dN cs) (.tuple vs)
 | gd (b:Bool) (x:EV) (v:Value) (h0:b=false->v=undef) (h:b=true->bM g w st x v):bM g w st (.gd b x) v
 | vc (t k:Nat) (v:Value) (ht:t<st.au.length) (hf:∃ A n c,v=.slice A n c) (h:∀ x rows,st.au[t]?=some x->x.own=some rows->k<=x.n/\(k=x.n->v=g.tk t∨Emp v x.n)):bM g w st (.vc t k) v
 | vp (t k i off:Nat) (v:Value) (ht:t<st.au.length) (hf:∃ b o,v=.pointer (some ⟨b,o,none⟩))
   (h:∀ x rows,st.au[t]?=some x->x.own=some rows->k<=x.n/\(k=x.n->∃ b n c,g.tk t=.slice (some ⟨b,0,none⟩) n c/\v=.pointer (some ⟨b,i*x.sz+off,none⟩))):bM g w st (.vp t k i off) v
 | vw (t k lo n:Nat) (v:Value) (ht:t<st.au.length) (hf:∃ A c,v=.slice A n c)
   (h:∀ x rows,st.au[t]?=some x->x.own=some rows->k<=x.n/\(k=x.n->n=0∨∃ b m c c',g.tk t=.slice (some ⟨b,0,none⟩) m c/\v=.slice (some ⟨b,lo*x.sz,none⟩) n c')):bM g w st (.vw t k lo n) v
structure u4 (g:bY) (w:World) (st:St) (g':bY) (w':World) (st':St):Prop where
 cY:Lf g.lim w g'.lim w'
 ob:∀ o,o<st.aO.length->g'.ob o=g.ob o
 aO:st.aO.length<=st'.aO.length
 au:∀ t e sz n,st.au[t]?=some ⟨e,sz,n,none⟩->∃ n',st'.au[t]?=some ⟨e,sz,n',none⟩/\n<=n'/\(n'=n->g'.tk t=g.tk t)
 Lo:st.au.length<=st'.au.length
 own:∀ t x' bw,t<st.au.length->st'.au[t]?=some x'->x'.own=some bw->∃ x rows,st.au[t]?=some x/\x.own=some rows/\x.sz=x'.sz/\x.n<=x'.n/\(x.n=x'.n->g'.tk t=g.tk t)
theorem vE {g g':bY} {st st':St} (hs:∀ t x' bw,t<st.au.length->st'.au[t]?=some x'->x'.own=some bw->st.au[t]?=some x'/\g'.tk t=g.tk t) :
  ∀ t x' bw,t<st.au.length->st'.au[t]?=some x'->x'.own=some bw->∃ x rows,st.au[t]?=some x/\x.own=some rows/\x.sz=x'.sz/\x.n<=x'.n/\(x.n=x'.n->g'.tk t=g.tk t) :=
 λt x' bw cZ hx ho=>⟨x',bw,(hs t x' bw cZ hx ho).1,ho,rfl,zam _,λ_=>(hs t x' bw cZ hx ho).2⟩
theorem u4.refl (g:bY) (w:World) (st:St):u4 g w st g w st :=
 ⟨.refl _ _,λ_ _=>rfl,zam _,λ_ _ _ n h=>⟨n,h,zam _,λ_=>rfl⟩,zam _,vE λ_ _ _ _ h _=>⟨h,rfl⟩⟩
theorem u4.trans {g1 g2 g3:bY} {w1 w2 w3:World} {s1 s2 s3:St} (h:u4 g1 w1 s1 g2 w2 s2) (k:u4 g2 w2 s2 g3 w3 s3):u4 g1 w1 s1 g3 w3 s3:=by
 refine ⟨h.cY.trans k.cY,λo ho=>(k.ob o (zbk ho h.aO)).trans (h.ob o ho),zcz h.aO k.aO,λt e sz n ht=>?_,zcz h.Lo k.Lo,λt x'' T0 cZ hx ho=>?_⟩
 rotate_left
 ·obtain ⟨x',bw,a1,a2,a3,a4,a5⟩:=k.own t x'' T0 (zbk cZ h.Lo) hx ho;obtain ⟨x,rows,b1,b2,b3,b4,b5⟩:=h.own t x' bw cZ a1 a2;exact ⟨x,rows,b1,b2,b3.trans a3,zcz b4 a4,λe=>(a5 (by omega)).trans (b5 (by omega))⟩
 obtain ⟨n',h1,h2,h3⟩:=h.au t e sz n ht;obtain ⟨n'',k1,k2,k3⟩:=k.au t e sz n' h1;refine ⟨n'',k1,zcz h2 k2,λhn=>?_⟩;have e1:n'=n:=by omega
 subst e1;exact (k3 hn).trans (h3 rfl)
theorem bM.mono {g g':bY} {w w':World} {st st':St} (e:u4 g w st g' w' st') {x:EV} {v:Value} (h:bM g w st x v):bM g' w' st' x v:=by
 induction h with
 | d x v h=>exact .d x v (h.mono e.cY)
 | ref o off h=>rw [←e.ob o h];exact .ref o off (zbk h e.aO)
 | Jc o off len cap h=>rw [←e.ob o h];exact .Jc o off len cap (zbk h e.aO)
 | cE sz rows t v el n hd ht hn hv =>
  obtain ⟨n',h1,h2,h3⟩:=e.au t el sz n ht;refine .cE sz rows t v el n' (hd.mono e.cY) h1 (zcz hn h2) (λhr=>?_);have e1:n'=n:=by omega
  subst e1;exact (hv hr).imp (·.trans (h3 rfl).symm) id
 | mp o h=>rw [←e.ob o h];exact .mp o (zbk h e.aO)
 | tz f cs vs hs _ ih=>exact .tz f cs vs hs ih
 | agg cs vs hs h1 _ ih=>exact .agg cs vs hs h1 ih
 | dN cs vs hs _ ih=>exact .dN cs vs hs ih
 | gd b x v h0 _ ih=>exact .gd b x v h0 ih
 | vc t k v ht hf h =>
  refine .vc t k v (zbk ht e.Lo) hf λx' bw hx ho=>?_
  obtain ⟨x,rows,b1,b2,_,b4,b5⟩:=e.own t x' bw ht hx ho;obtain ⟨c1,c2⟩:=h x rows b1 b2;exact ⟨by omega,λhk=>by
   have e1:x.n=x'.n:=by omega
   have:=c2 (by omega);rw [e1] at this;exact this.imp (·.trans (b5 e1).symm) id⟩
 | vp t k i off v ht hf h =>
  refine .vp t k i off v (zbk ht e.Lo) hf λx' bw hx ho=>?_
  obtain ⟨x,rows,b1,b2,b3,b4,b5⟩:=e.own t x' bw ht hx ho;obtain ⟨c1,c2⟩:=h x rows b1 b2;exact ⟨by omega,λhk=>by
   obtain ⟨b,n,c,d1,d2⟩:=c2 (by omega);exact ⟨b,n,c,(b5 (by omega)).trans d1,by rw [←b3];exact d2⟩⟩
 | vw t k lo n v ht hf h =>
  refine .vw t k lo n v (zbk ht e.Lo) hf λx' bw hx ho=>?_
  obtain ⟨x,rows,b1,b2,b3,b4,b5⟩:=e.own t x' bw ht hx ho;obtain ⟨c1,c2⟩:=h x rows b1 b2;exact ⟨by omega,λhk=>by
   rcases c2 (by omega) with hz|⟨b,m,c,c',d1,d2⟩
   ·exact .inl hz
   ·exact .inr ⟨b,m,c,c',(b5 (by omega)).trans d1,by rw [←b3];exact d2⟩⟩
def St.live (st:St) (o:Nat):Prop:=∃ x,st.aO[o]?=some x/\x≠.gone
def xE (B:Nat) (w:World):Prop:=(∀ x∈GL,x.1<B/\∃ ty fr,w.heap[x.1]?=some (.cells x.2 ty fr))/\∀ k∈GI,k<B/\∃ m,w.cell? ⟨k,0,none⟩=some (.int .i64 m)
theorem xE.below {B:Nat} {w w':World} (h:xE B w) (hb:Below B w w'):xE B w':=⟨λx hx =>
 let ⟨h1,ty,fr,h2⟩:=h.1 x hx
 ⟨h1,ty,fr,(hb.block _ h1).trans h2⟩,λk hk =>
 let ⟨h1,m,h2⟩:=h.2 k hk
 ⟨h1,m,(hb.cell (p:=⟨k,0,none⟩) h1).trans h2⟩⟩
theorem xE.mono {B B':Nat} {w:World} (h:xE B w) (hb:B<=B'):xE B' w:=⟨λx hx =>
 let ⟨h1,h2⟩:=h.1 x hx
 ⟨zbk h1 hb,h2⟩,λk hk =>
 let ⟨h1,h2⟩:=h.2 k hk
 ⟨zbk h1 hb,h2⟩⟩
structure dt (lim:Nat->Nat) (w:World) (sz n:Nat) (rows:List (List D)) (xs:List Value):Prop where
 len:rows.length=n
 row:∀ r,r∈rows->r.length=sz
 rep:∀ (i:Nat) c (u:Value),rows.flatten[i]?=some c->xs[i]?=some u->dK lim w c u/\u.oneCell'=true
theorem dt.mono {lim dv:Nat->Nat} {w w':World} {sz n:Nat} {rows:List (List D)} {xs:List Value} (h:dt lim w sz n rows xs) (e:Lf lim w dv w'):dt dv w' sz n rows xs :=
 ⟨h.len,h.row,λi c u a b=>⟨(h.rep i c u a b).1.mono e,(h.rep i c u a b).2⟩⟩
structure Inv (g:bY) (B:Nat) (w:World) (st:St):Prop where
 base:B<=w.heap.size
 row:∀ o ty cs,st.aO[o]?=some (.row ty cs)->B<=g.ob o/\g.lim (g.ob o)=0 /\
  ∃ vs:Array Value,w.heap[g.ob o]?=some (.cells vs ty (0,0))/\vs.size=cs.length/\∀ (i:Nat) c (u:Value),cs[i]?=some c->vs[i]?=some u->bM g w st c u/\u.oneCell'=true
 map:∀ o es,st.aO[o]?=some (.map es)->B<=g.ob o /\
  ∃ (ms:Array MapEntry) (clock:Nat),w.heap[g.ob o]?=some (.map ms clock)/\ms.size=es.length /\
   (∀ (i:Nat) k x (m:MapEntry),es[i]?=some (k,x)->ms[i]?=some m->m.key=k/\bM g w st x m.val) /\
   (∀ (i:Nat) (m:MapEntry),ms[i]?=some m->m.born<clock) /\
   (∀ (i j:Nat) (m m':MapEntry),ms[i]?=some m->ms[j]?=some m'->m.born=m'.born->i=j)
 raw:∀ o x,st.aO[o]?=some (.raw x)->B<=g.ob o/\g.lim (g.ob o)=0/\w.heap[g.ob o]?=some x
 ne:∀ o o',o≠o'->st.live o->st.live o'->g.ob o≠g.ob o'
 tail:∀ t e sz n,st.au[t]?=some ⟨e,sz,n,none⟩->∃ xs,w.ownsRow B e sz (g.tk t) n xs/\∀ b,(g.tk t).ownBlock=some b->g.lim b=n*sz
 nF:∀ t t' x x' b,t≠t'->st.au[t]?=some x->st.au[t']?=some x'->(g.tk t).ownBlock=some b->(g.tk t').ownBlock≠some b
 iu:∀ t x o,st.au[t]?=some x->st.live o->(g.tk t).ownBlock≠some (g.ob o)
 DH:xE B w
 own:∀ t e sz n rows,st.au[t]?=some ⟨e,sz,n,some rows⟩->∃ xs,w.ownsRow B e sz (g.tk t) n xs/\(∀ b,(g.tk t).ownBlock=some b->g.lim b=0)/\dt g.lim w sz n rows xs
theorem Inv.RI {g:bY} {B:Nat} {w:World} {st:St} (h:Inv g B w st) {t:Nat} {x:gK} (hx:st.au[t]?=some x):∃ xs,w.ownsRow B x.e x.sz (g.tk t) x.n xs:=by
 obtain ⟨e,sz,n,own⟩:=x;cases own with
 | none=>obtain ⟨xs,h1,_⟩:=h.tail t e sz n hx;exact ⟨xs,h1⟩
 | some rows=>obtain ⟨xs,h1,_⟩:=h.own t e sz n rows hx;exact ⟨xs,h1⟩
theorem Inv.wv {g:bY} {B:Nat} {w:World} {st:St} (h:Inv g B w st) {t:Nat} {x:gK} (hx:st.au[t]?=some x) {b:Nat} (hb:(g.tk t).ownBlock=some b):B<=b/\b<w.heap.size:=by
 obtain ⟨xs,h1⟩:=h.RI hx;exact h1.lt b hb
theorem fu {w w':World} {B e sz n:Nat} {v:Value} {xs:List Value} (h:w.ownsRow B e sz v n xs) (hb:∀ b,v.ownBlock=some b->w'.heap[b]?=w.heap[b]?):w'.ownsRow B e sz v n xs:=by
 obtain ⟨k1,k2⟩:=h;refine ⟨k1,?_⟩;rcases k2 with k2|⟨gb,cap,cur,e1,e2,e3,e4⟩
 ·exact .inl k2
 ·exact .inr ⟨gb,cap,cur,e1,e2,by rw [hb gb (by rw [e1];rfl)];exact e3,e4⟩
def uD (g:bY) (st:St) (b:Nat):Prop:=(∃ o,st.live o/\g.ob o=b)∨(∃ t x,st.au[t]?=some x/\(g.tk t).ownBlock=some b)
abbrev Env:=List (Nat×EV)
def lookup (i:Nat):Env->Option EV
 | []=>none
 | (j,x)::e=>match Nat.beq i j with
  | true=>some x
  | false=>lookup i e
def eh (g:bY) (w:World) (st:St) (env:Env) (tmps:Array Value):Prop :=
 ∀ i x,lookup i env=some x->∃ v:Value,tmps[i]?=some v/\bM g w st x v
theorem eh.mono {g g':bY} {w w':World} {st st':St} {env:Env} {tmps:Array Value} (e:u4 g w st g' w' st') (h:eh g w st env tmps):eh g' w' st' env tmps :=
 λi x hx=>let ⟨v,h1,h2⟩:=h i x hx;⟨v,h1,h2.mono e⟩
theorem eh.put {g:bY} {w:World} {st:St} {env:Env} {tmps:Array Value} {d:Nat} {x:EV} {v:Value} (h:eh g w st env tmps) (hd:d<tmps.size) (hv:bM g w st x v) :
  eh g w st ((d,x)::env) (tmps.setIfInBounds d v):=by
 intro i y hy;unfold lookup at hy;by_cases hi:i=d
 ·subst hi;have:Nat.beq i i=true:=zen i;rw [this] at hy;simp only [Option.some.injEq] at hy;subst hy;exact ⟨v,by simp [hd],hv⟩
 ·have:Nat.beq i d=false:=by
   cases hb:Nat.beq i d with
   | false=>rfl
   | true=>exact absurd (zas hb) hi
  rw [this] at hy;obtain ⟨u,h1,h2⟩:=h i y hy;exact ⟨u,by simp [zbv,zcb hi,h1],h2⟩
structure Start where
 g:bY
 w:World
 st:St
 base:Nat
structure rl (S:Start) (g:bY) (w:World) (st:St):Prop where
 dO:u4 S.g S.w S.st g w st
 below:Below S.base S.w w
 lim:∀ b,b<S.base->g.lim b=S.g.lim b
 frame:∀ b,b<S.w.heap.size->¬ uD S.g S.st b->w.heap[b]?=S.w.heap[b]?/\g.lim b=S.g.lim b
 fresh:∀ b,b<S.w.heap.size->uD g st b->uD S.g S.st b
def nt (S:Start) (Q:EV->St->Prop) (e:Ending) (w:World):Prop :=
 ∃ v r st g,e=.returned v/\Q r st/\bM g w st r v/\Inv g S.base w st/\rl S g w st
structure Ctx where
 fn:FuncId
 ds:List Deferred
 ro:Option Nat
@[reducible] def Ctx.of (f:FuncId):Ctx:=⟨f,[],none⟩
def bf (f:Ctx):Frame:={ (default:Frame) with fn:=f.fn,kind:=.normal,roundOf:=f.ro }
def Ctx.fin (P:Program) (f:Ctx) (fr:Frame) (w:World) (e:Ending):Prop :=
 match f.ro with
 | none=>fr.fn=f.fn/\fr.leaving P w e
 | some _=>e=.returned (.bool true)/\∃ tmps,fr=(bf f).atR ⟨tmps,f.ds⟩ []
def eK (P:Program) (f:Ctx) (R:Ending->World->Prop) (todo:List Item) (tmps:Array Value) (w:World):Prop :=
 ∀ cs,∃ e w' fr,R e w'/\Comes P (lone ((bf f).atR ⟨tmps,f.ds⟩ todo) cs w) (lone fr cs w') e/\f.fin P fr w' e
theorem eK.step {P:Program} {f:Ctx} {R:Ending->World->Prop} {todo S4:List Item} {tmps S5:Array Value} {w w':World}
  (h:∀ cs,step P (lone ((bf f).atR ⟨tmps,f.ds⟩ todo) cs w)=.next (lone ((bf f).atR ⟨S5,f.ds⟩ S4) cs w')) (k:eK P f R S4 S5 w'):eK P f R todo tmps w:=by
 intro cs;obtain ⟨e,w2,fr,hR,hc,h1⟩:=k cs;exact ⟨e,w2,fr,hR,Comes.of_steps (.one (h cs)) hc,h1⟩
theorem eK.mono {P:Program} {f:Ctx} {R R':Ending->World->Prop} {todo:List Item} {tmps:Array Value} {w:World} (h:eK P f R todo tmps w) (hr:∀ e w,R e w->R' e w):eK P f R' todo tmps w :=
 λcs=>let ⟨e,w',fr,a,b,c⟩:=h cs;⟨e,w',fr,hr _ _ a,b,c⟩
theorem AV {ro:Option Nat} {ρ:Operand->Value} {o:Oper} {P:Program} {w w':World} {x:Next} (hr:(execOp ρ o).run P w=.ok x w') (hx:∀ d,x≠.defer d):Oper.semAt ro ρ o=execOp ρ o:=by
 refine Oper.semAt_eq ro ρ o λc hc=>?_
 have:∀ {x:Next} {w':World},(execOp ρ o).run P w=.ok x w'->∃ d,x=.defer d:=by
  intro x w' h;simp only [execOp,hc,Sem.run_bind] at h;cases h2:(resolve ρ c o.type).run P w with
  | halt a b=>rw [h2] at h;cases h
  | ok d w2=>rw [h2] at h;simp at h;exact ⟨d,h.1.symm⟩
 obtain ⟨d,hd⟩:=this hr;exact hx d hd
section ops
variable {P:Program} {f:Ctx} {R:Ending->World->Prop} {k:List Item} {tmps:Array Value} {w:World} {ops:Array Oper} {i:Nat} {rest:List Nat} {o:Oper}
theorem put_eq (ds:List Deferred) (dst:Option Tmp) (v:Value):Act.put ⟨tmps,ds⟩ dst v=⟨(Act.put ⟨tmps,[]⟩ dst v).tmps,ds⟩:=by cases dst <;> rfl
theorem AW (ds:List Deferred) (tmps:Array Value):Act.eval ⟨tmps,ds⟩=Act.eval ⟨tmps,[]⟩:=by funext x;cases x <;> rfl
theorem eK.value {v:Value} {w':World} (ho:ops[i]?=some o) (hw:Region.wanted o (yielded ops tmps)=true)
  (hr:(execOp (Act.eval ⟨tmps,[]⟩) o).run P w=.ok (.value v) w') (h:eK P f R (.inRegion ops rest::k) (Act.put ⟨tmps,[]⟩ o.dst v).tmps w') :
  eK P f R (.inRegion ops (i::rest)::k) tmps w:=by
 refine eK.step (λcs=>?_) h;have hg:=stepGR_op (P:=P) (b:=bf f) (a:=⟨tmps,f.ds⟩) (k:=k) (cs:=cs) (w:=w) (rest:=rest) ho hw;rw [AW,AV hr (by simp)] at hg;have oZ:∀ v,((bf f).atR ⟨tmps,f.ds⟩ (.inRegion ops (i::rest)::k)).finish v=(bf f).atR (Act.put ⟨tmps,f.ds⟩ o.dst v) (.inRegion ops rest::k):=by
  intro v;rw [Frame.finish_atR,ho];rfl
 refine step_lone_go ?_;rw [←put_eq,hg,←oZ];simp [stepG.apply,hr]
theorem eK.skip {w':World} (ho:ops[i]?=some o) (hw:Region.wanted o (yielded ops tmps)=true)
  (hr:(execOp (Act.eval ⟨tmps,[]⟩) o).run P w=.ok .skip w') (h:eK P f R (.inRegion ops rest::k) (Act.put ⟨tmps,[]⟩ o.dst undef).tmps w') :
  eK P f R (.inRegion ops (i::rest)::k) tmps w:=by
 refine eK.step (λcs=>?_) h;have hg:=stepGR_op (P:=P) (b:=bf f) (a:=⟨tmps,f.ds⟩) (k:=k) (cs:=cs) (w:=w) (rest:=rest) ho hw;rw [AW,AV hr (by simp)] at hg;have oZ:∀ v,((bf f).atR ⟨tmps,f.ds⟩ (.inRegion ops (i::rest)::k)).finish v=(bf f).atR (Act.put ⟨tmps,f.ds⟩ o.dst v) (.inRegion ops rest::k):=by
  intro v;rw [Frame.finish_atR,ho];rfl
 refine step_lone_go ?_;rw [←put_eq,hg,←oZ];simp [stepG.apply,hr]
theorem eK.xF (ho:ops[i]?=some o) (hw:Region.wanted o (yielded ops tmps)=false)
  (h:eK P f R (.inRegion ops rest::k) (Act.put ⟨tmps,[]⟩ o.dst undef).tmps w):eK P f R (.inRegion ops (i::rest)::k) tmps w:=by
 refine eK.step (λcs=>?_) h;have hs:=stepR_op_skip (P:=P) (b:=bf f) (a:=⟨tmps,f.ds⟩) (k:=k) (cs:=cs) (w:=w) (ops:=ops) (i:=i) (rest:=rest) (by simp [ho];simpa using hw);simp only [ho,zac] at hs;rw [←put_eq];exact hs
theorem eK.call {f':FuncId} {args:Array Value} {w':World} (ho:ops[i]?=some o) (hw:Region.wanted o (yielded ops tmps)=true)
  (hr:(execOp (Act.eval ⟨tmps,[]⟩) o).run P w=.ok (.enter f' args) w')
  (h:Calls P f' args w' λe w2=>∃ v,e=.returned v/\eK P f R (.inRegion ops rest::k) (Act.put ⟨tmps,[]⟩ o.dst v).tmps w2) :
  eK P f R (.inRegion ops (i::rest)::k) tmps w:=by
 intro cs;have hg:=stepGR_op (P:=P) (b:=bf f) (a:=⟨tmps,f.ds⟩) (k:=k) (cs:=cs) (w:=w) (rest:=rest) ho hw;rw [AW,AV hr (by simp)] at hg;have oZ:∀ v,((bf f).atR ⟨tmps,f.ds⟩ (.inRegion ops (i::rest)::k)).finish v=(bf f).atR (Act.put ⟨tmps,f.ds⟩ o.dst v) (.inRegion ops rest::k):=by
  intro v;rw [Frame.finish_atR,ho];rfl
 obtain ⟨e,w2,fr,⟨v,rfl,hF⟩,Eu,_,Lp⟩:=h ((bf f).atR ⟨tmps,f.ds⟩ (.inRegion ops (i::rest)::k)::cs);have z6:Go.step P (lone ((bf f).atR ⟨tmps,f.ds⟩ (.inRegion ops (i::rest)::k)) cs w) =
   .next (lone (Frame.enter P f' args .normal) ((bf f).atR ⟨tmps,f.ds⟩ (.inRegion ops (i::rest)::k)::cs) w') :=
  step_lone_go (by rw [hg];simp [stepG.apply,hr,Frame.atR])
 obtain ⟨e,w3,Xe,hR,hc,h1⟩:=hF cs;refine ⟨e,w3,Xe,hR,Comes.of_steps (.head z6 (Eu.trans (.one ?_))) hc,h1⟩;rw [←put_eq,←oZ];exact step_leave_returned Lp
theorem eK.NO (h:eK P f R k tmps w):eK P f R (.inRegion ops []::k) tmps w:=eK.step (λ_=>stepR_region_end) h
end ops
section control
variable {P:Program} {f:Ctx} {R:Ending->World->Prop} {k:List Item} {tmps:Array Value} {w:World}
theorem eK.seq {x y:Code} (h:eK P f R (.code x::.code y::k) tmps w):eK P f R (.code (.seq x y)::k) tmps w:=eK.step (λ_=>stepR_seq) h
theorem eK.Xf (h:eK P f R k tmps w):eK P f R (.code .skip::k) tmps w:=eK.step (λ_=>stepR_skip) h
theorem eK.inBlock {id:Nat} (h:eK P f R k tmps w):eK P f R (.inBlock id::k) tmps w:=eK.step (λ_=>stepR_inBlock) h
theorem eK.block {id:Nat} {c:Code} (h:eK P f R (.code c::.inBlock id::k) tmps w):eK P f R (.code (.block id c)::k) tmps w:=eK.step (λ_=>stepR_block) h
theorem eK.loop {c:Code} (h:eK P f R (.code c::.inLoop c::k) tmps w):eK P f R (.code (.loop c)::k) tmps w:=eK.step (λ_=>stepR_loop) h
theorem eK.inLoop {c:Code} (h:eK P f R (.code c::.inLoop c::k) tmps w):eK P f R (.inLoop c::k) tmps w:=eK.step (λ_=>stepR_inLoop) h
theorem eK.exit {id:Nat} {k':List Item} (hk:exitTo id k=some k') (h:eK P f R k' tmps w):eK P f R (.code (.exit id)::k) tmps w:=eK.step (λ_=>stepR_exit hk) h
theorem eK.cond {c:Operand} {x y:Code} {t:Bool} (hc:Act.eval ⟨tmps,[]⟩ c=.bool t) (h:eK P f R (.code (if t then x else y)::k) tmps w):eK P f R (.code (.cond c x y)::k) tmps w :=
 eK.step (λ_=>stepR_cond (by rw [AW];exact hc)) h
theorem eK.region {id:Nat} {ops:Array Oper} (h:eK P f R (.inRegion ops (List.range ops.size)::k) tmps w):eK P f R (.code (.region id ops false)::k) tmps w:=eK.step (λ_=>stepR_region) h
theorem eK.z7 {id:Nat} {ops:Array Oper} (h:∀ t,eK P f R (.inRegion ops (Region.schedule (P.follows .mixedOrders) ops t)::k) tmps { w with drawn:=w.drawn+1 }) :
  eK P f R (.code (.region id ops true)::k) tmps w:=eK.step (λ_=>stepR_region_draw) (h _)
theorem eK.ret {f:FuncId} {fn:Func} {v:Value} (hf:P.funcs[f]?=some fn) (hr:(results fn tmps).run P w=.ok v w) (hR:R (.returned v) w):eK P (.of f) R (.code .ret::k) tmps w :=
 λcs=>⟨.returned v,w,_,hR,.one (stepR_ret rfl),rfl,rfl,rfl,rfl,fn,hf,hr⟩
theorem eK.fin {f:FuncId} {fn:Func} {v:Value} (hf:P.funcs[f]?=some fn) (hr:(results fn tmps).run P w=.ok v w) (hR:R (.returned v) w):eK P (.of f) R [] tmps w :=
 λcs=>⟨.returned v,w,_,hR,.one (stepR_end rfl),rfl,rfl,rfl,rfl,fn,hf,hr⟩
theorem eK.Ev {f:FuncId} {l:Nat} (hR:R (.returned (.bool true)) w):eK P ⟨f,[],some l⟩ R [] tmps w :=
 λcs=>⟨.returned (.bool true),w,_,hR,Steps.refl _ _,rfl,tmps,rfl⟩
theorem eK.calls {f:FuncId} {fn:Func} {c:Code} {args:Array Value} (hf:P.funcs[f]?=some fn) (hb:fn.body=some c)
  (h:eK P (.of f) R [.code c] (args++Array.replicate (fn.ntmps-args.size) undef) w):Calls P f args w R:=by
 intro cs;have z6:Frame.enter P f args .normal=(bf (.of f)).atR ⟨args++Array.replicate (fn.ntmps-args.size) undef,[]⟩ [.code c]:=by
  simp [Frame.enter,Frame.atR,hf,hb,bf]
 obtain ⟨e,w',fr,hR,hc,h1,h2⟩:=h cs;rw [←z6] at hc;exact ⟨e,w',fr,hR,hc,h1,h2⟩
end control
structure Step (base:Nat) (g:bY) (w:World) (st:St) (g':bY) (w':World) (st':St):Prop where
 dO:u4 g w st g' w' st'
 below:Below base w w'
 lim:∀ b,b<base->g'.lim b=g.lim b
 frame:∀ b,b<w.heap.size->¬ uD g st b->w'.heap[b]?=w.heap[b]?/\g'.lim b=g.lim b
 fresh:∀ b,b<w.heap.size->uD g' st' b->uD g st b
theorem Step.refl (base:Nat) (g:bY) (w:World) (st:St):Step base g w st g w st:=⟨.refl _ _ _,.refl _ _,λ_ _=>rfl,λ_ _ _=>⟨rfl,rfl⟩,λ_ _ h=>h⟩
theorem Step.trans {base:Nat} {g1 g2 g3:bY} {w1 w2 w3:World} {s1 s2 s3:St} (h:Step base g1 w1 s1 g2 w2 s2) (k:Step base g2 w2 s2 g3 w3 s3):Step base g1 w1 s1 g3 w3 s3 :=
 ⟨h.dO.trans k.dO,h.below.trans k.below,λb hb=>(k.lim b hb).trans (h.lim b hb),
  λb hb hn=>have k1:=k.frame b (zbk hb h.dO.cY.size) (λho=>hn (h.fresh b hb ho));have h1:=h.frame b hb hn;⟨k1.1.trans h1.1,k1.2.trans h1.2⟩,
  λb hb ho=>h.fresh b hb (k.fresh b (zbk hb h.dO.cY.size) ho)⟩
theorem rl.step {S:Start} {g g':bY} {w w':World} {st st':St} (h:rl S g w st) (k:Step S.base g w st g' w' st'):rl S g' w' st' :=
 ⟨h.dO.trans k.dO,h.below.trans k.below,λb hb=>(k.lim b hb).trans (h.lim b hb),
  λb hb hn=>have k1:=k.frame b (zbk hb h.dO.cY.size) (λho=>hn (h.fresh b hb ho));have h1:=h.frame b hb hn;⟨k1.1.trans h1.1,k1.2.trans h1.2⟩,
  λb hb ho=>h.fresh b hb (k.fresh b (zbk hb h.dO.cY.size) ho)⟩
theorem rl.refl (S:Start):rl S S.g S.w S.st:=⟨.refl _ _ _,.refl _ _,λ_ _=>rfl,λ_ _ _=>⟨rfl,rfl⟩,λ_ _ h=>h⟩
theorem rl.toStep {S:Start} {g:bY} {w:World} {st:St} (h:rl S g w st):Step S.base S.g S.w S.st g w st:=⟨h.dO,h.below,h.lim,h.frame,h.fresh⟩
def bp (P:Program) (f:Ctx) (N:Nat) (S:Start) (Q:EV->St->Prop) (todo:List Item) (env:Env) (st:St):Prop :=
 ∀ g w tmps,Inv g S.base w st->rl S g w st->eh g w st env tmps->tmps.size=N->eK P f (nt S Q) todo tmps w
def cv:Value->D
 | .agg cs=>if cs.toList.all (·.oneCell') then .agg (cs.toList.map D.ex) else .ex (.agg cs)
 | v=>.ex v
theorem qf (lim:Nat->Nat) (w:World) (v:Value):dK lim w (cv v) v:=by
 cases v <;> simp only [cv] <;> try exact .ex _
 rename_i cs;split
 ·rename_i h;refine .agg _ _ (by simp) ?_ ?_
  ·intro i u hu;rw [zbb] at h;exact h u (by
    have:u∈cs:=Array.mem_of_getElem? hu;simpa using this)
  ·intro i c u hc hu;rw [zba] at hc;have:cs.toList[i]?=some u:=by simpa using hu
   rw [this] at hc;simp only [Option.map_some,Option.some.injEq] at hc;subst hc;exact .ex u
 ·exact .ex _
def cY (env:Env):Operand->Option EV
 | .tmp t=>lookup t env
 | .const (.agg cs)=>match cs.toList.all (·.oneCell') with
  | true=>some (.d (.agg (cs.toList.map D.ex)))
  | false=>some (.d (.ex (.agg cs)))
 | .const v=>some (.d (.ex v))
 | .func f=>some (.d (.ex (.func (.func f) #[] #[])))
 | .global _=>none
theorem NP (env:Env) (v:Value):cY env (.const v)=some (.d (cv v)):=by
 cases v <;> try rfl
 rename_i cs;simp only [cY,cv];cases cs.toList.all (·.oneCell') <;> rfl
theorem aN {g:bY} {w:World} {st:St} {env:Env} {tmps:Array Value} (h:eh g w st env tmps) {x:Operand} {e:EV} (hx:cY env x=some e):bM g w st e (Act.eval ⟨tmps,[]⟩ x):=by
 cases x with
 | tmp t =>
  obtain ⟨v,h1,h2⟩:=h t e hx;simp only [Act.eval,zaq,h1,zco];exact h2
 | const v =>
  rw [NP,Option.some.injEq] at hx;subst hx;exact .d _ _ (qf _ _ v)
 | func f =>
  simp only [cY,Option.some.injEq] at hx;subst hx;exact .d _ _ (.ex _)
 | «global» x=>simp [cY] at hx
section inv
variable {g:bY} {w:World} {st:St} {v:Value}
theorem bM.bJ {u:Value} (h:bM g w st (.d (.ex u)) v):v=u:=by
 cases h with|d _ _ h=>cases h;rfl
end inv
section control
variable {P:Program} {f:Ctx} {N:Nat} {S:Start} {Q:EV->St->Prop} {k:List Item} {env:Env} {st:St}
theorem bp.seq {x y:Code} (h:bp P f N S Q (.code x::.code y::k) env st):bp P f N S Q (.code (.seq x y)::k) env st:=λg w t a b c d=>.seq (h g w t a b c d)
theorem bp.skip (h:bp P f N S Q k env st):bp P f N S Q (.code .skip::k) env st:=λg w t a b c d=>.Xf (h g w t a b c d)
theorem bp.inBlock {id:Nat} (h:bp P f N S Q k env st):bp P f N S Q (.inBlock id::k) env st:=λg w t a b c d=>.inBlock (h g w t a b c d)
theorem bp.block {id:Nat} {c:Code} (h:bp P f N S Q (.code c::.inBlock id::k) env st):bp P f N S Q (.code (.block id c)::k) env st:=λg w t a b c d=>.block (h g w t a b c d)
theorem bp.inLoop {c:Code} (h:bp P f N S Q (.code c::.inLoop c::k) env st):bp P f N S Q (.inLoop c::k) env st:=λg w t a b c d=>.inLoop (h g w t a b c d)
theorem bp.Xg {c:Code} (h:bp P f N S Q (.code c::.inLoop c::k) env st):bp P f N S Q (.code (.loop c)::k) env st:=λg w t a b c d=>.loop (h g w t a b c d)
theorem bp.exit {id:Nat} {k':List Item} (hk:exitTo id k=some k') (h:bp P f N S Q k' env st):bp P f N S Q (.code (.exit id)::k) env st:=λg w t a b c d=>.exit hk (h g w t a b c d)
theorem bp.cond {c:Operand} {x y:Code} {b:Bool} (hc:cY env c=some (.d (.ex (.bool b)))) (ht:b=true->bp P f N S Q (.code x::k) env st) (hf:b=false->bp P f N S Q (.code y::k) env st) :
  bp P f N S Q (.code (.cond c x y)::k) env st:=by
 intro g w t hi hh he hn;refine eK.cond (t:=b) (aN he hc).bJ ?_;cases b with
 | true=>exact ht rfl g w t hi hh he hn
 | false=>exact hf rfl g w t hi hh he hn
def eG (x y:EV):Prop:=∀ (g:bY) (w:World) (st:St) (v:Value),bM g w st x v->bM g w st y v
theorem eG.aj (x:EV):eG x x:=λ_ _ _ _ h=>h
theorem eG.any (x:EV):eG x (.d .any):=λ_ _ _ v _=>.d _ _ (.any v)
theorem eG.cE (sz:Nat) (rows:List (List D)) (t:Nat):eG (.cE sz rows t) (.d (.sl sz rows)):=λ_ _ _ v h=>by cases h with|cE _ _ _ _ _ _ hd _ _ _=>exact .d _ _ hd
theorem eG.nil (sz:Nat):eG (.d (.ex (.slice none 0 0))) (.d (.sl sz [])):=λ_ _ _ v h=>by cases h.bJ;exact .d _ _ (.nil sz _)
theorem D.MD {lim:Nat->Nat} {w:World} {sz:Nat} {v:Value} (h:dK lim w (.e0 sz) v):dK lim w (.sl sz []) v:=by
 cases h with
 | e0 _ A h =>
  rcases h with rfl|⟨b,off,rfl⟩
  ·exact .nil sz _
  ·exact .sl sz [] b off 0 (zam _) (by simp) (by simp) (by simp)
theorem eG.e0 (sz:Nat):eG (.d (.e0 sz)) (.d (.sl sz [])):=λ_ _ _ v h=>by cases h with|d _ _ h=>exact .d _ _ (D.MD h)
def dp (env:Env):Env->Prop
 | []=>True
 | (i,y)::t=>(∃ x,lookup i env=some x/\eG x y)/\dp env t
theorem dp.get {env:Env}:∀ {env':Env},dp env env'->∀ i y,lookup i env'=some y->∃ x,lookup i env=some x/\eG x y
 | [],_,i,y,h=>by simp [lookup] at h
 | (j,z)::t,⟨⟨x,hx,hle⟩,ht⟩,i,y,h=>by
  unfold lookup at h;cases hb:Nat.beq i j with
  | true =>
   rw [hb] at h;simp only [Option.some.injEq] at h;have:=zas hb;subst this;subst h;exact ⟨x,hx,hle⟩
  | false =>
   rw [hb] at h;exact ht.get i y h
theorem eh.sub {g:bY} {w:World} {tmps:Array Value} {env env':Env} (h:eh g w st env tmps) (hs:dp env env'):eh g w st env' tmps:=by
 intro i y hy;obtain ⟨x,hx,hle⟩:=hs.get i y hy;obtain ⟨v,h1,h2⟩:=h i x hx;exact ⟨v,h1,hle _ _ _ _ h2⟩
theorem bp.sub {todo:List Item} {env':Env} (hs:dp env env') (h:bp P f N S Q todo env' st):bp P f N S Q todo env st :=
 λg w t a b c d=>h g w t a b (c.sub hs) d
theorem bp.loop {c:Code} {ι:Type} (E:ι->Env) (T:ι->St) (I:ι->Prop) (μ:ι->Nat) (i0:ι) (h0:I i0) (hE:dp env (E i0)) (hT:st=T i0)
  (step:∀ i,I i->(∀ j,I j->μ j<μ i->bp P f N S Q (.inLoop c::k) (E j) (T j))->bp P f N S Q (.code c::.inLoop c::k) (E i) (T i)) :
  bp P f N S Q (.code (.loop c)::k) env st:=by
 have key:∀ n i,μ i<n->I i->bp P f N S Q (.code c::.inLoop c::k) (E i) (T i):=by
  intro n
  induction n with
  | zero=>intro i hi;omega
  | succ n ih =>
   intro i hi hI;exact step i hI λj hj cZ=>.inLoop (ih j (by omega) hj)
 subst hT;exact .Xg (.sub hE (key _ i0 (zfh _) h0))
theorem bp.join {todo:List Item} {ι:Type} (k':List Item) (E:ι->Env) (T:ι->St) (I:ι->Prop)
  (hk:∀ i,I i->bp P f N S Q k' (E i) (T i)) (h:(∀ i,I i->bp P f N S Q k' (E i) (T i))->bp P f N S Q todo env st):bp P f N S Q todo env st:=h hk
theorem bp.iv {x y:Code} {ι:Type} (E:ι->Env) (T:ι->St) (I:ι->Prop)
  (hk:∀ i,I i->bp P f N S Q (.code y::k) (E i) (T i)) (h:(∀ i,I i->bp P f N S Q (.code y::k) (E i) (T i))->bp P f N S Q (.code x::.code y::k) env st) :
  bp P f N S Q (.code (.seq x y)::k) env st:=.seq (h hk)
theorem bp.DI {f:FuncId} {fn:Func} (hf:P.funcs[f]?=some fn) (hr:fn.results=#[]) (hQ:Q (.dN []) st):bp P (.of f) N S Q [] env st:=by
 intro g w tmps hi hh he hn;refine eK.fin hf (results_none hr tmps P w) ⟨_,_,st,g,rfl,hQ,.dN _ _ rfl (by simp),hi,hh⟩
end control
def cm (P:Program) (f:Ctx) (N:Nat) (S:Start) (Q:EV->St->Prop) (ops rest:List Oper) (k:List Item) (env:Env) (st:St):Prop :=
 ∀ i,(∀ j:Nat,rest[j]?=ops[i+j]?)->bp P f N S Q (.inRegion ops.toArray (List.range' i rest.length)::k) env st
def Env.put (env:Env):Option Tmp->EV->Env
 | some d,x=>(d,x)::env
 | none,_=>env
def fZ (N:Nat):Option Tmp->Bool
 | some d=>Nat.ble (d+1) N
 | none=>true
theorem qg {g:bY} {w:World} {st:St} {env:Env} {tmps:Array Value} {d:Option Tmp} {x:EV} {v:Value} (h:eh g w st env tmps) (hd:fZ tmps.size d=true) (hv:bM g w st x v) :
  eh g w st (env.put d x) (Act.put ⟨tmps,[]⟩ d v).tmps:=by
 cases d with
 | none=>exact h
 | some d=>exact h.put (zae hd) hv
theorem ia {tmps:Array Value} {d:Option Tmp} {v:Value}:(Act.put ⟨tmps,[]⟩ d v).tmps.size=tmps.size:=by
 cases d <;> simp [Act.put]
section regions
variable {P:Program} {f:Ctx} {N:Nat} {S:Start} {Q:EV->St->Prop} {k:List Item} {env:Env} {st:St} {ops rest:List Oper}
theorem bp.region {id:Nat} {l:List Oper} (h:cm P f N S Q l l k env st):bp P f N S Q (.code (.region id l.toArray false)::k) env st:=by
 intro g w t a b c d;refine eK.region ?_;have:=h 0 (by simp) g w t a b c d;rw [List.range_eq_range'];simpa using this
theorem cm.nil (h:bp P f N S Q k env st):cm P f N S Q ops [] k env st:=λi _ g w t a b c d=>.NO (h g w t a b c d)
def xG (P:Program) (base:Nat) (env:Env) (st:St) (o:Oper) (x:EV) (st':St):Prop :=
 ∀ g w tmps,Inv g base w st->eh g w st env tmps->∃ v g' w',(execOp (Act.eval ⟨tmps,[]⟩) o).run P w=.ok (.value v) w'/\bM g' w' st' x v/\Inv g' base w' st'/\Step base g w st g' w' st'
def HE (P:Program) (base:Nat) (env:Env) (st:St) (o:Oper) (st':St):Prop :=
 ∀ g w tmps,Inv g base w st->eh g w st env tmps->∃ g' w',(execOp (Act.eval ⟨tmps,[]⟩) o).run P w=.ok .skip w'/\Inv g' base w' st'/\Step base g w st g' w' st'
def aG (P:Program) (env:Env) (st:St) (o:Oper) (x:EV):Prop :=
 ∀ g base w tmps,Inv g base w st->eh g w st env tmps->∃ v,bM g w st x v/\∀ w',Below w.heap.size w w'->(execOp (Act.eval ⟨tmps,[]⟩) o).run P w'=.ok (.value v) w'
theorem aG.v {base:Nat} {o:Oper} {x:EV} (h:aG P env st o x):xG P base env st o x st :=
 λg w t a b=>let ⟨v,h1,h2⟩:=h g base w t a b;⟨v,g,w,h2 w (.refl _ _),h1,a,.refl _ _ _ _⟩
theorem iw {i n:Nat}:List.range' i (n+1)=i::List.range' (i+1) n:=by rw [List.range'_succ]
theorem cm.op {o:Oper} {x:EV} {st':St} (hg:o.guard=none) (hd:fZ N o.dst=true) (h:xG P S.base env st o x st') (hk:cm P f N S Q ops rest k (env.put o.dst x) st') :
  cm P f N S Q ops (o::rest) k env st:=by
 intro i hi g w tmps hinv hh he hn;obtain ⟨v,g',w',hr,hx,ek,hs⟩:=h g w tmps hinv he;have ho:ops.toArray[i]?=some o:=by simpa using (hi 0).symm
 have hw:Region.wanted o (yielded ops.toArray tmps)=true:=by simp [Region.wanted,hg]
 rw [zag,iw];refine eK.value ho hw hr ?_;subst hn;exact hk (i+1) (λj=>by have:=hi (j+1);simpa [zce,zcw 1 j] using this) g' w' _ ek (hh.step hs) (qg (he.mono hs.dO) hd hx) ia
theorem cm.Zw {o:Oper} {st':St} (hg:o.guard=none) (hd:fZ N o.dst=true) (h:HE P S.base env st o st') (hk:cm P f N S Q ops rest k (env.put o.dst (.d .any)) st') :
  cm P f N S Q ops (o::rest) k env st:=by
 intro i hi g w tmps hinv hh he hn;obtain ⟨g',w',hr,ek,hs⟩:=h g w tmps hinv he;have ho:ops.toArray[i]?=some o:=by simpa using (hi 0).symm
 have hw:Region.wanted o (yielded ops.toArray tmps)=true:=by simp [Region.wanted,hg]
 rw [zag,iw];refine eK.skip ho hw hr ?_;subst hn;exact hk (i+1) (λj=>by have:=hi (j+1);simpa [zce,zcw 1 j] using this) g' w' _ ek (hh.step hs) (qg (he.mono hs.dO) hd (.d _ _ (.any _))) ia
end regions
section q
variable {P:Program} {env:Env} {st:St} {d:Option Tmp} {ty:TypeId} {pos:String} {after:Array Edge} {gd:Option (Nat×Bool)}
theorem bT {x:Operand} {e:EV} (hx:cY env x=some e):aG P env st ⟨d,.move x,ty,pos,after,gd⟩ e :=
 λg base w tmps hi he=>⟨_,aN he hx,λ_ _=>rfl⟩
theorem Jm {x:Operand} {e:EV} (hx:cY env x=some e):aG P env st ⟨d,.assign x,ty,pos,after,gd⟩ e :=
 λg base w tmps hi he=>⟨_,aN he hx,λ_ _=>rfl⟩
theorem qh {o:Oper} {r:Value} (h:∀ g w tmps w',eh g w st env tmps->(execOp (Act.eval ⟨tmps,[]⟩) o).run P w'=.ok (.value r) w'):aG P env st o (.d (.ex r)) :=
 λg base w tmps hi he=>⟨r,.d _ _ (.ex r),λw' _=>h g w tmps w' he⟩
variable {t t2:TypeId} {x y:Operand}
section two
variable {k:IntKind} {a b:Int} (hx:cY env x=some (.d (.ex (.int k a)))) (hy:cY env y=some (.d (.ex (.int k b))))
include hx hy
theorem S6:aG P env st ⟨d,.binOp .lss t x y t2,ty,pos,after,gd⟩ (.d (.ex (.bool (decide (a<b))))):=qh λg w tmps w' he=>by
 simp [execOp,(aN he hx).bJ,(aN he hy).bJ,eqGuard,binOp,Op.intCmp]
theorem S7:aG P env st ⟨d,.binOp .leq t x y t2,ty,pos,after,gd⟩ (.d (.ex (.bool (decide (a<=b))))):=qh λg w tmps w' he=>by
 simp [execOp,(aN he hx).bJ,(aN he hy).bJ,eqGuard,binOp,Op.intCmp]
theorem S8:aG P env st ⟨d,.binOp .gtr t x y t2,ty,pos,after,gd⟩ (.d (.ex (.bool (decide (a > b))))):=qh λg w tmps w' he=>by
 simp [execOp,(aN he hx).bJ,(aN he hy).bJ,eqGuard,binOp,Op.intCmp]
theorem S9:aG P env st ⟨d,.binOp .geq t x y t2,ty,pos,after,gd⟩ (.d (.ex (.bool (decide (a>=b))))):=qh λg w tmps w' he=>by
 simp [execOp,(aN he hx).bJ,(aN he hy).bJ,eqGuard,binOp,Op.intCmp]
theorem Xh:aG P env st ⟨d,.binOp .eql t x y t2,ty,pos,after,gd⟩ (.d (.ex (.bool (a==b)))):=qh λg w tmps w' he=>by
 simp [execOp,(aN he hx).bJ,(aN he hy).bJ,eqGuard,binOp,Op.intCmp]
theorem Ta:aG P env st ⟨d,.binOp .neq t x y t2,ty,pos,after,gd⟩ (.d (.ex (.bool (a != b)))):=qh λg w tmps w' he=>by
 simp [execOp,(aN he hx).bJ,(aN he hy).bJ,eqGuard,binOp,Op.intCmp]
theorem Xi {c:Int} (hc:k.wrap (a+b)=c):aG P env st ⟨d,.binOp .add t x y t2,ty,pos,after,gd⟩ (.d (.ex (.int k c))):=qh λg w tmps w' he=>by
 simp [execOp,(aN he hx).bJ,(aN he hy).bJ,eqGuard,binOp,Op.intArith,hc]
theorem Xj {c:Int} (hc:k.wrap (a-b)=c):aG P env st ⟨d,.binOp .sub t x y t2,ty,pos,after,gd⟩ (.d (.ex (.int k c))):=qh λg w tmps w' he=>by
 simp [execOp,(aN he hx).bJ,(aN he hy).bJ,eqGuard,binOp,Op.intArith,hc]
end two
section shift
variable {k k':IntKind} {a b:Int} (hx:cY env x=some (.d (.ex (.int k a)))) (hy:cY env y=some (.d (.ex (.int k' b))))
include hx hy
theorem Tb {c:Int} (hb:0<=b) (hc:a.fdiv (2 ^ (min b.toNat k.bits))=c):aG P env st ⟨d,.binOp .shr t x y t2,ty,pos,after,gd⟩ (.d (.ex (.int k c))):=qh λg w tmps w' he=>by
 have:¬ b<0:=by omega
 simp [execOp,(aN he hx).bJ,(aN he hy).bJ,eqGuard,binOp,Op.shift,this,hc]
end shift
section strings
variable {a b:List UInt8} (hx:cY env x=some (.d (.ex (.string ⟨a.toArray⟩)))) (hy:cY env y=some (.d (.ex (.string ⟨b.toArray⟩))))
include hx hy
theorem T1:aG P env st ⟨d,.binOp .eql t x y t2,ty,pos,after,gd⟩ (.d (.ex (.bool (a==b)))):=qh λg w tmps w' he=>by
 simp [execOp,(aN he hx).bJ,(aN he hy).bJ,eqGuard,binOp,Op.stringOp]
theorem T2:aG P env st ⟨d,.binOp .neq t x y t2,ty,pos,after,gd⟩ (.d (.ex (.bool (a != b)))):=qh λg w tmps w' he=>by
 simp [execOp,(aN he hx).bJ,(aN he hy).bJ,eqGuard,binOp,Op.stringOp,bne]
end strings
theorem Ew (ht:P.underlying t=some .bool) (a b:Bool) (n:Nat) (w:World):(Op.equalIn (n+1) t (.bool a) (.bool b)).run P w=.ok (a==b) w:=by
 simp [Op.equalIn,run_underlying ht]
section bools
variable {a b:Bool} (hx:cY env x=some (.d (.ex (.bool a))))
include hx
theorem Xk:aG P env st ⟨d,.unOp .not t x,ty,pos,after,gd⟩ (.d (.ex (.bool (!a)))):=qh λg w tmps w' he=>by
 simp [execOp,(aN he hx).bJ,Op.unary]
theorem Pe (ht:P.underlying t=some .bool) (hy:cY env y=some (.d (.ex (.bool b)))):aG P env st ⟨d,.binOp .eql t x y t2,ty,pos,after,gd⟩ (.d (.ex (.bool (a==b)))):=qh λg w tmps w' he=>by
 have h:=Ew ht a b 9999 w';simp [execOp,(aN he hx).bJ,(aN he hy).bJ,eqGuard,binOp,Op.equal,Op.maxDepth,h]
theorem Ex (ht:P.underlying t=some .bool) (hy:cY env y=some (.d (.ex (.bool b)))):aG P env st ⟨d,.binOp .neq t x y t2,ty,pos,after,gd⟩ (.d (.ex (.bool (a != b)))):=qh λg w tmps w' he=>by
 have h:=Ew ht a b 9999 w';simp [execOp,(aN he hx).bJ,(aN he hy).bJ,eqGuard,binOp,Op.equal,Op.maxDepth,h,bne]
theorem NQ {z:Operand} {b q:Bool} (hy:cY env y=some (.gd a (.d (.ex (.bool b))))) (hz:cY env z=some (.d (.ex (.bool q)))) :
  aG P env st ⟨d,.pick x y z,ty,pos,after,gd⟩ (.d (.ex (.bool (if a=true then b else q)))):=qh λg w tmps w' he=>by
 cases a with
 | false=>simp [execOp,(aN he hx).bJ,(aN he hz).bJ,asBool]
 | true =>
  have:=aN he hy;cases this with
  | gd _ _ _ h0 h=>simp [execOp,(aN he hx).bJ,(h rfl).bJ,asBool]
theorem Pf {z:Operand} {b q:Bool} (hy:cY env y=some (.d (.ex (.bool q)))) (hz:cY env z=some (.gd (!a) (.d (.ex (.bool b))))) :
  aG P env st ⟨d,.pick x y z,ty,pos,after,gd⟩ (.d (.ex (.bool (if a=true then q else b)))):=qh λg w tmps w' he=>by
 cases a with
 | true=>simp [execOp,(aN he hx).bJ,(aN he hy).bJ,asBool]
 | false =>
  have:=aN he hz;cases this with
  | gd _ _ _ h0 h=>simp [execOp,(aN he hx).bJ,(h rfl).bJ,asBool]
end bools
theorem HF {k k':IntKind} {n c:Int} (hs:P.underlying t=some (.int k)) (ht:P.underlying t2=some (.int k')) (hx:cY env x=some (.d (.ex (.int k n)))) (hc:k'.wrap n=c) :
  aG P env st ⟨d,.convert t t2 x,ty,pos,after,gd⟩ (.d (.ex (.int k' c))):=qh λg w tmps w' he=>by
 simp [execOp,(aN he hx).bJ,convert,run_underlying hs,run_underlying ht,Conv.intToInt,hc]
theorem oF {a:List UInt8} (ht:P.underlying t=some .string) (hx:cY env x=some (.d (.ex (.string ⟨a.toArray⟩)))) :
  aG P env st ⟨d,.call ⟨.builtin .len,#[x],#[t]⟩,ty,pos,after,gd⟩ (.d (.ex (.int .i64 a.length))):=qh λg w tmps w' he=>by
 simp [execOp,(aN he hx).bJ,resolve,invoke,builtin,Builtin.len_,run_underlying ht,goInt,ByteArray.size_mk']
theorem D9 {e:TypeId} (ht:P.underlying t=some (.slice e)) {ρ:Operand->Value} {A:Option Addr} {n c:Nat} (hv:ρ x=.slice A n c) (w:World) :
  (execOp ρ ⟨d,.call ⟨.builtin .len,#[x],#[t]⟩,ty,pos,after,gd⟩).run P w=.ok (.value (.int .i64 n)) w:=by
 simp [execOp,hv,resolve,invoke,builtin,Builtin.len_,run_underlying ht,goInt]
theorem Ea {lim:Nat->Nat} {w:World} {sz:Nat} {rows:List (List D)} {v:Value} (h:dK lim w (.sl sz rows) v):∃ A c,v=.slice A rows.length c:=by
 cases h with
 | nil _ A=>exact ⟨A,0,rfl⟩
 | sl _ _ b off cap=>exact ⟨_,_,rfl⟩
theorem Pg {a:List UInt8} {k:IntKind} {i:Int} {c:UInt8} (ht:P.underlying t=some .string) (hx:cY env x=some (.d (.ex (.string ⟨a.toArray⟩)))) (hy:cY env y=some (.d (.ex (.int k i))))
  (h0:0<=i) (hc:a[i.toNat]?=some c):aG P env st ⟨d,.index t x y,ty,pos,after,gd⟩ (.d (.ex (.int .u8 (c.toNat:Int)))):=qh λg w tmps w' he=>by
 have hl:i.toNat<a.length:=(zad.1 hc).1;have hb:(⟨a.toArray⟩:ByteArray)[i.toNat]?=some c:=by
  rw [ByteArray.getElem?_lt' _ _ (by simpa [ByteArray.size] using hl)];have:=(zad.1 hc).2;simpa [ByteArray.getElem_eq_getElem_data] using this
 simp [execOp,(aN he hx).bJ,(aN he hy).bJ,Instr.index,asIntOf,run_underlying ht,h0,hb]
theorem B5 {e:TypeId} {ρ:Operand->Value} {A:Addr} {n c:Nat} {k:IntKind} {i:Int} {inf:TypeInfo} (ht:P.underlying t=some (.slice e)) (hi:P.info? e=some inf)
  (hv:ρ x=.slice (some A) n c) (hy:ρ y=.int k i) (h0:0<=i) (hn:i<n) (w:World) :
  (execOp ρ ⟨d,.indexAddr t x y,ty,pos,after,gd⟩).run P w=.ok (.value (.pointer (some (A.add (i.toNat*inf.size))))) w:=by
 simp [execOp,hv,hy,Instr.indexAt,asIntOf,run_underlying ht,sizeOf,typeInfo,hi,h0,hn]
theorem Xl {lim:Nat->Nat} {w:World} {sz:Nat} {rows:List (List D)} {v:Value} {n:Nat} {row:List D} (h:dK lim w (.sl sz rows) v) (hr:rows[n]?=some row) :
  ∃ b off c,v=.slice (some ⟨b,off,none⟩) rows.length c/\n<rows.length/\dK lim w (.ro row) (.pointer (some (Addr.add ⟨b,off,none⟩ (n*sz)))):=by
 cases h with
 | nil=>simp at hr
 | sl _ _ b off cap hc rm hx fc =>
  have hn:=(zad.1 hr).1;refine ⟨b,off,cap,rfl,hn,?_⟩;rw [Addr.add_lit];have hl:=rm row (zbg hr);refine .ro row b (off+n*sz) ?_ ?_
  ·intro j hj;have:=hx (n*sz+j) (zZ hn (by omega));rw [zce];exact this
  ·intro j c u hc hu;rw [zce] at hu;exact fc n j row c u hr hc hu
theorem NR (hd:∃ Lq,P.underlying t=some Lq/\(∀ fs,Lq≠.struct fs)/\(∀ n e,Lq≠.array n e)) (w:World):(isAgg t).run P w=.ok false w:=by
 obtain ⟨Lq,h,h1,h2⟩:=hd;simp only [isAgg,Sem.run_bind,run_underlying h,Result.andThen_ok];cases Lq <;> first|rfl|exact absurd rfl (h1 _)|exact absurd rfl (h2 _ _)
def j4:TypeDesc->Bool
 | .struct _|.array _ _=>false
 | _=>true
theorem vF (h:(P.underlying t).map j4=some true) (w:World):(isAgg t).run P w=.ok false w:=by
 cases hd:P.underlying t with
 | none=>rw [hd] at h;simp at h
 | some Lq =>
  refine NR ⟨Lq,hd,?_,?_⟩ w
  ·intro fs e;subst e;rw [hd] at h;simp [j4] at h
  ·intro n e' e;subst e;rw [hd] at h;simp [j4] at h
theorem yB (h:(P.underlying t).map j4=some false) (w:World):(isAgg t).run P w=.ok true w:=by
 cases hd:P.underlying t with
 | none=>rw [hd] at h;simp at h
 | some Lq =>
  rw [hd] at h;cases Lq <;> simp [j4] at h <;> simp [isAgg,run_underlying hd]
theorem T3 {cs:List D} {c:D} (h1:(P.underlying t).map j4=some true) (hx:cY env x=some (.d (.ro (c::cs)))):aG P env st ⟨d,.load t x,ty,pos,after,gd⟩ (.d c):=λg base w tmps hinv he=>by
 have h:=aN he hx;generalize hv:Act.eval ⟨tmps,[]⟩ x=v at h;cases h with
 | d _ _ h =>
  cases h with
  | ro _ b off jL hc =>
   obtain ⟨hl,u,hu,_⟩:=jL 0 (by simp);have vD:w.cell? ⟨b,off,none⟩=some u:=by simpa using hu
   refine ⟨u,.d _ _ (hc 0 c u rfl hu),λw' hb=>?_⟩;have Zx:w'.cell? ⟨b,off,none⟩=some u:=(hb.cell (World.block_lt_of_cell? w _ vD)).trans vD;simp [execOp,hv,Instr.loadAt,Instr.sureAddr,loadVar,vF h1,Zx]
end q
theorem Inv.grow {g g':bY} {base:Nat} {w w':World} {st:St} (h:Inv g base w st) (hb:Below w.heap.size w w') (hl:∀ b,b<w.heap.size->g'.lim b=g.lim b) (ho:g'.ob=g.ob) (ht:g'.tk=g.tk) :
  Inv g' base w' st/\Step base g w st g' w' st:=by
 have hs:Step base g w st g' w' st:=by
  refine ⟨⟨⟨hb.size,λb kc=>by rw [hl b kc];exact zam _,λb off kc _=>hb.cell (p:=⟨b,off,none⟩) kc⟩,λ_ _=>by rw [ho],zam _,λt e sz n h=>⟨n,h,zam _,λ_=>by rw [ht]⟩,zam _,vE λt x' bw _ h _=>⟨h,by rw [ht]⟩⟩,hb.mono h.base,λb kc=>hl b (zbk kc h.base),
   λb kc _=>⟨hb.block b kc,hl b kc⟩,λb _ hw=>by unfold uD at hw ⊢;rw [ho,ht] at hw;exact hw⟩
 have cZ:∀ (b:Nat) (x:Obj),w.heap[b]?=some x->b<w.heap.size:=λb x hx=>(zau.1 hx).1
 have Ph:∀ o x,st.aO[o]?=some (.raw x)->base<=g'.ob o/\g'.lim (g'.ob o)=0/\w'.heap[g'.ob o]?=some x:=by
  intro o x hx;obtain ⟨h1,h2,h3⟩:=h.raw o x hx;have kQ:=cZ _ _ h3;rw [ho];exact ⟨h1,by rw [hl _ kQ];exact h2,by rw [hb.block _ kQ];exact h3⟩
 refine ⟨⟨zcz h.base hb.size,?_,?_,Ph,?_,?_,?_,?_,h.DH.below hs.below,?_⟩,hs⟩
 ·intro o ty cs hx;obtain ⟨h1,h2,vs,h3,h4,h5⟩:=h.row o ty cs hx;have kQ:=cZ _ _ h3;rw [ho];refine ⟨h1,by rw [hl _ kQ];exact h2,vs,by rw [hb.block _ kQ];exact h3,h4,λi c u hc hu=>⟨(h5 i c u hc hu).1.mono hs.dO,(h5 i c u hc hu).2⟩⟩
 ·intro o es hx;obtain ⟨h1,ms,clock,h3,h4,h5,h6,h7⟩:=h.map o es hx;have kQ:=cZ _ _ h3;rw [ho];exact ⟨h1,ms,clock,by rw [hb.block _ kQ];exact h3,h4,λi k x m a b=>⟨(h5 i k x m a b).1,(h5 i k x m a b).2.mono hs.dO⟩,h6,h7⟩
 ·rw [ho];exact h.ne
 ·intro t e sz n hx;obtain ⟨xs,h1,h2⟩:=h.tail t e sz n hx;rw [ht];refine ⟨xs,?_,λb kc=>?_⟩
  ·obtain ⟨k1,k2⟩:=h1;refine ⟨k1,?_⟩;rcases k2 with k2|⟨gb,cap,cur,e1,e2,e3,e4⟩
   ·exact .inl k2
   ·exact .inr ⟨gb,cap,cur,e1,e2,by rw [hb.block _ (cZ _ _ e3)];exact e3,e4⟩
  ·rw [hl b (h1.lt b kc).2];exact h2 b kc
 ·rw [ht];exact h.nF
 ·rw [ht,ho];exact h.iu
 ·intro t e sz n rows hx;obtain ⟨xs,h1,h2,h3⟩:=h.own t e sz n rows hx;rw [ht];exact ⟨xs,fu h1 λb kc=>hb.block b (h1.lt b kc).2,λb kc=>by rw [hl b (h1.lt b kc).2];exact h2 b kc,h3.mono hs.dO.cY⟩
def uE (g:bY) (w:World) (st:St) (args:List EV) (vs:Array Value):Prop :=
 vs.size=args.length/\∀ (i:Nat) x v,args[i]?=some x->vs[i]?=some v->bM g w st x v
def aK (P:Program) (f:FuncId) (args:List EV) (st:St) (Q:EV->St->Prop):Prop :=
 ∀ g w base vs,Inv g base w st->uE g w st args vs->Calls P f vs w (nt ⟨g,w,st,base⟩ Q)
def Da (lim:Nat->Nat) (w:World) (args:List D) (vs:Array Value):Prop :=
 vs.size=args.length/\∀ (i:Nat) x v,args[i]?=some x->vs[i]?=some v->dK lim w x v
def aD (P:Program) (f:FuncId) (args:List D) (q:D->Prop):Prop :=
 ∀ lim w vs,xE w.heap.size w->Da lim w args vs->Calls P f vs w λe w'=>∃ v r dv,e=.returned v/\q r/\dK dv w' r v/\Lf lim w dv w'/\Below w.heap.size w w'/\∀ b,b<w.heap.size->dv b=lim b
theorem aK.mono {P:Program} {f:FuncId} {args:List EV} {st:St} {Q Q':EV->St->Prop} (h:aK P f args st Q) (hq:∀ x s,Q x s->Q' x s):aK P f args st Q' :=
 λg w base vs hi ha=>(h g w base vs hi ha).mono λe w' ⟨v,r,s,g',a,b,c⟩=>⟨v,r,s,g',a,hq r s b,c⟩
def z8:Nat->List EV->Env
 | _,[]=>[]
 | i,x::l=>(i,x)::z8 (i+1) l
theorem u5:∀ (l:List EV) (i j:Nat) (y:EV),lookup j (z8 i l)=some y->∃ k,j=i+k/\l[k]?=some y
 | [],i,j,y,h=>by simp [z8,lookup] at h
 | x::l,i,j,y,h=>by
  unfold z8 lookup at h;cases hb:Nat.beq j i with
  | true =>
   rw [hb] at h;simp only [Option.some.injEq] at h;exact ⟨0,zas hb,by simp [h]⟩
  | false =>
   rw [hb] at h;obtain ⟨k,h1,h2⟩:=u5 l (i+1) j y h;exact ⟨k+1,by omega,by simpa using h2⟩
section enter
variable {P:Program} {f:FuncId} {fn:Func} {c:Code} {N:Nat}
theorem aK.enter {args:List EV} {st:St} {Q:EV->St->Prop} (hf:P.funcs[f]?=some fn) (hb:fn.body=some c) (hN:fn.ntmps=N) (hl:Nat.ble args.length N=true)
  (h:∀ S:Start,S.st=st->bp P (.of f) N S Q [.code c] (z8 0 args) st):aK P f args st Q:=by
 intro g w base vs hi ha;have Rv:=zae hl;have fB:=ha.1;refine eK.calls hf hb ?_;refine h ⟨g,w,st,base⟩ rfl g w _ hi (rl.refl ⟨g,w,st,base⟩) ?_ (by simp [hN];omega);intro j y hy;obtain ⟨k,rfl,hk⟩:=u5 args 0 j y hy;have RJ:=(zad.1 hk).1;refine ⟨vs[k]'(by omega),?_,ha.2 k y _ hk (by simp [fB,RJ])⟩;rw [zbp,zda (by omega)];simp [fB,RJ]
def QD (q:D->Prop) (r:EV) (_:St):Prop:=∃ x,eG r (.d x)/\q x
theorem aD.of {args:List D} {q:D->Prop} (h:aK P f (args.map EV.d) ⟨[],[]⟩ (QD q)):aD P f args q:=by
 intro lim w vs Pj ha;have hinv:Inv ⟨lim,λ_=>0,λ_=>.nilFunc⟩ w.heap.size w ⟨[],[]⟩ :=
  ⟨zam _,λo ty cs h=>by simp at h,λo es h=>by simp at h,λo x h=>by simp at h,λo o' _ ⟨x,h,_⟩=>by simp at h,λt e sz n h=>by simp at h,λt t' x x' b _ h=>by simp at h,λt x o h=>by simp at h,Pj,λt e sz n rows h=>by simp at h⟩
 refine (h _ w w.heap.size vs hinv ⟨by simpa using ha.1,λi x v hx hv=>?_⟩).mono ?_
 ·rw [zba] at hx;cases hy:args[i]? with
  | none=>rw [hy] at hx;simp at hx
  | some y =>
   rw [hy] at hx;simp only [Option.map_some,Option.some.injEq] at hx;subst hx;exact .d _ _ (ha.2 i y v hy hv)
 ·rintro e w' ⟨v,r,st',g',rfl,⟨x,hle,hq⟩,hr,hi',hh⟩;cases hle _ _ _ _ hr with
  | d _ _ hd=>exact ⟨v,x,g'.lim,rfl,hq,hd,hh.dO.cY,hh.below,hh.lim⟩
end enter
def B6 (env:Env):List Operand->Option (List EV)
 | []=>some []
 | x::l=>match cY env x,B6 env l with
  | some e,some r=>some (e::r)
  | _,_=>none
theorem vG {g:bY} {w:World} {st:St} {env:Env} {tmps:Array Value} (h:eh g w st env tmps):∀ (l:List Operand) (es:List EV),B6 env l=some es ->
  l.length=es.length/\∀ (i:Nat) e v,es[i]?=some e->(l.map (Act.eval ⟨tmps,[]⟩))[i]?=some v->bM g w st e v
 | [],es,hx=>by simp [B6] at hx;subst hx;simp
 | x::l,es,hx=>by
  unfold B6 at hx;split at hx
  ·rename_i e r h1 h2;simp only [Option.some.injEq] at hx;subst hx;obtain ⟨k1,k2⟩:=vG h l r h2;refine ⟨by simp [k1],λi e' v he hv=>?_⟩;cases i with
   | zero =>
    simp at he hv;subst he;subst hv;exact aN h h1
   | succ i=>exact k2 i e' v (by simpa using he) (by simpa using hv)
  ·cases hx
def Zy:EV->Option D
 | .d x=>some x
 | .cE sz rows _=>some (.sl sz rows)
 | _=>none
theorem T4 {e:EV} {x:D} (h:Zy e=some x):eG e (.d x):=by
 cases e <;> simp [Zy] at h
 ·subst h;exact .aj _
 ·subst h;exact .cE _ _ _
def Lr:List EV->Option (List D)
 | []=>some []
 | e::l=>match Zy e,Lr l with
  | some x,some r=>some (x::r)
  | _,_=>none
theorem Jn:∀ (es:List EV) (ds:List D),Lr es=some ds->es.length=ds.length/\∀ (i:Nat) d,ds[i]?=some d->∃ e,es[i]?=some e/\eG e (.d d)
 | [],ds,h=>by simp [Lr] at h;subst h;simp
 | e::l,ds,h=>by
  unfold Lr at h;split at h
  ·rename_i x r h1 h2;simp only [Option.some.injEq] at h;subst h;obtain ⟨k1,k2⟩:=Jn l r h2;refine ⟨by simp [k1],λi d hd=>?_⟩;cases i with
   | zero=>simp at hd;subst hd;exact ⟨e,rfl,T4 h1⟩
   | succ i=>simpa using k2 i d (by simpa using hd)
  ·cases h
section call
variable {P:Program} {f:Ctx} {N:Nat} {S:Start} {Q:EV->St->Prop} {k:List Item} {env:Env} {st:St} {ops rest:List Oper}
 {d:Option Tmp} {ty:TypeId} {pos:String} {after:Array Edge}
def Enters (P:Program) (f:FuncId):Prop:=∃ fn,P.funcs[f]?=some fn/\(fn.name == "runtime.NumGoroutine")=false/\fn.body.isNone=false
theorem wx {f':FuncId} (h:Enters P f') (args:Array Value) (w:World):(callFunc f' args).run P w=.ok (.enter f' args) w:=by
 obtain ⟨fn,h1,h2,h3⟩:=h;have T5:fn.name ≠ "runtime.NumGoroutine" := by simpa using h2
 have h3':fn.body≠none:=by intro e;rw [e] at h3;cases h3
 simp [callFunc,h1,T5,h3']
theorem B7 {f':FuncId} {l:List Operand} {ts:Array TypeId} {ρ:Operand->Value} (h:Enters P f') (w:World) (hf:ρ (.func f')=.func (.func f') #[] #[]) {gd:Option (Nat×Bool)} :
  (execOp ρ ⟨d,.call ⟨.value (.func f'),l.toArray,ts⟩,ty,pos,after,gd⟩).run P w=.ok (.enter f' (l.map ρ).toArray) w:=by
 simp [execOp,resolve,hf,Deferred.ofValue,invoke,wx h]
theorem GX {f':FuncId} {l:List Operand} {ts:Array TypeId} {ρ:Operand->Value} {x:Operand} {vs:Array Value} (h:Enters P f') (w:World) (hf:ρ x=.func (.func f') #[] vs) {gd:Option (Nat×Bool)} :
  (execOp ρ ⟨d,.call ⟨.value x,l.toArray,ts⟩,ty,pos,after,gd⟩).run P w=.ok (.enter f' ((l.map ρ).toArray++vs)) w:=by
 simp [execOp,resolve,hf,Deferred.ofValue,invoke,wx h]
theorem Da.of {g:bY} {w:World} {tmps:Array Value} {l:List Operand} {es:List EV} {ds:List D} (he:eh g w st env tmps) (h1:B6 env l=some es) (h2:Lr es=some ds) :
  Da g.lim w ds (l.map (Act.eval ⟨tmps,[]⟩)).toArray:=by
 obtain ⟨k1,k2⟩:=vG he l es h1;obtain ⟨m1,m2⟩:=Jn es ds h2;refine ⟨by simp [k1,m1],λi x v hx hv=>?_⟩;obtain ⟨e,AR,hle⟩:=m2 i x hx;cases hle _ _ _ _ (k2 i e v AR (by simpa using hv)) with
 | d _ _ h=>exact h
theorem cm.Xm {f':FuncId} {l:List Operand} {ts:Array TypeId} {es:List EV} {q:EV->St->Prop} (F2:Enters P f') (hd:fZ N d=true) (h1:B6 env l=some es)
  (hc:aK P f' es st q) (hk:∀ x st',q x st'->cm P f N S Q ops rest k (env.put d x) st') :
  cm P f N S Q ops (⟨d,.call ⟨.value (.func f'),l.toArray,ts⟩,ty,pos,after,none⟩::rest) k env st:=by
 intro i hi g w tmps hinv hh he hn;have ho:ops.toArray[i]?=some ⟨d,.call ⟨.value (.func f'),l.toArray,ts⟩,ty,pos,after,none⟩:=by simpa using (hi 0).symm
 rw [zag,iw];refine eK.call ho (by simp [Region.wanted]) (B7 F2 w rfl) ?_;obtain ⟨k1,k2⟩:=vG he l es h1;refine (hc g w S.base _ hinv ⟨by simp [k1],λj x v hx hv=>k2 j x v hx (by simpa using hv)⟩).mono ?_;rintro e w' ⟨v,r,st',g',rfl,hq,hr,ek,Ls⟩;have hs:Step S.base g w st g' w' st':=Ls.toStep;subst hn;exact ⟨v,rfl,hk r st' hq (i+1) (λj=>by have:=hi (j+1);simpa [zce,zcw 1 j] using this) g' w' _ ek (hh.step hs) (qg (he.mono hs.dO) hd hr) ia⟩
theorem cm.Ey {f':FuncId} {l:List Operand} {ts:Array TypeId} {es cs:List EV} {x:Operand} {q:EV->St->Prop} (F2:Enters P f') (hd:fZ N d=true) (hx:cY env x=some (.tz f' cs)) (h1:B6 env l=some es)
  (hc:aK P f' (es++cs) st q) (hk:∀ x st',q x st'->cm P f N S Q ops rest k (env.put d x) st') :
  cm P f N S Q ops (⟨d,.call ⟨.value x,l.toArray,ts⟩,ty,pos,after,none⟩::rest) k env st:=by
 intro i hi g w tmps hinv hh he hn;have ho:ops.toArray[i]?=some ⟨d,.call ⟨.value x,l.toArray,ts⟩,ty,pos,after,none⟩:=by simpa using (hi 0).symm
 rw [zag,iw];have hfx:=aN he hx;generalize Jo:Act.eval ⟨tmps,[]⟩ x=val at hfx;cases hfx with
 | tz _ _ vs DJ r7 =>
 refine eK.call ho (by simp [Region.wanted]) (GX F2 w Jo) ?_;obtain ⟨k1,k2⟩:=vG he l es h1;have Zz:uE g w st (es++cs) ((l.map (Act.eval ⟨tmps,[]⟩)).toArray++vs):=by
  refine ⟨by simp [k1,DJ],λj y v hy hv=>?_⟩;by_cases hj:j<es.length
  ·rw [zak hj] at hy;rw [zda (by simpa [k1] using hj)] at hv;exact k2 j y v hy (by simpa using hv)
  ·rw [zat (by omega)] at hy;rw [Array.getElem?_append_right (by simp [k1];omega)] at hv;exact r7 (j-es.length) y v hy (by simpa [k1] using hv)
 refine (hc g w S.base _ hinv Zz).mono ?_;rintro e w' ⟨v,r,st',g',rfl,hq,hr,ek,Ls⟩;have hs:Step S.base g w st g' w' st':=Ls.toStep;subst hn;exact ⟨v,rfl,hk r st' hq (i+1) (λj=>by have:=hi (j+1);simpa [zce,zcw 1 j] using this) g' w' _ ek (hh.step hs) (qg (he.mono hs.dO) hd hr) ia⟩
end call
def St.set (st:St) (o:Nat) (x:dL):St:=⟨st.aO.set o x,st.au⟩
def St.add (st:St) (x:dL):St:=⟨st.aO++[x],st.au⟩
def St.tok (st:St) (x:gK):St:=⟨st.aO,st.au++[x]⟩
def St.bD (st:St) (t:Nat) (x:gK):St:=⟨st.aO,st.au.set t x⟩
theorem F8 {lim dv:Nat->Nat} {w w':World} (hs:w.heap.size<=w'.heap.size) (h:∀ b,b<w.heap.size->lim b<=dv b/\(lim b=0∨w'.heap[b]?=w.heap[b]?)):Lf lim w dv w' :=
 ⟨hs,λb hb=>(h b hb).1,λb off hb ho=>by
  rcases (h b hb).2 with h2|h2
  ·omega
  ·exact World.cell?_of_block (w:=w) (a:=⟨b,off,none⟩) h2⟩
section inv
variable {g:bY} {base:Nat} {w:World} {st:St}
theorem Inv.wy (h:Inv g base w st) {o:Nat} (hl:st.live o):g.ob o<w.heap.size/\base<=g.ob o:=by
 obtain ⟨x,hx,fh⟩:=hl;cases x with
 | row ty cs =>
  obtain ⟨h1,h2,vs,h3,_⟩:=h.row o ty cs hx;exact ⟨(zau.1 h3).1,h1⟩
 | map es =>
  obtain ⟨h1,ms,c,h3,_⟩:=h.map o es hx;exact ⟨(zau.1 h3).1,h1⟩
 | raw y =>
  obtain ⟨h1,_,h3⟩:=h.raw o y hx;exact ⟨(zau.1 h3).1,h1⟩
 | gone=>exact absurd rfl fh
theorem rn {st:St} {o o':Nat} {x:dL} (ho:st.live o) (h:(st.set o x).live o'):st.live o':=by
 obtain ⟨y,hy,fh⟩:=h;simp only [St.set,zbj] at hy;split at hy
 ·rename_i e;subst e;exact ho
 ·exact ⟨y,hy,fh⟩
theorem Inv.setBlock (h:Inv g base w st) {o:Nat} (hl:st.live o) {w':World} {x:dL} (Aa:g.lim (g.ob o)=0) (fB:w'.heap.size=w.heap.size) (ux:∀ b,b≠g.ob o->w'.heap[b]?=w.heap[b]?)
  (ME:w'.os=w.os) (ZA:w'.tape=w.tape) (T6:w'.output=w.output)
  (rm:u4 g w st g w' (st.set o x)->∀ ty cs,x=.row ty cs->∃ vs:Array Value,w'.heap[g.ob o]?=some (.cells vs ty (0,0))/\vs.size=cs.length/\∀ (i:Nat) c u,cs[i]?=some c->vs[i]?=some u->bM g w' (st.set o x) c u/\u.oneCell'=true)
  (Pk:u4 g w st g w' (st.set o x)->∀ es,x=.map es->∃ (ms:Array MapEntry) (clock:Nat),w'.heap[g.ob o]?=some (.map ms clock)/\ms.size=es.length /\
   (∀ (i:Nat) k y (m:MapEntry),es[i]?=some (k,y)->ms[i]?=some m->m.key=k/\bM g w' (st.set o x) y m.val) /\
   (∀ (i:Nat) (m:MapEntry),ms[i]?=some m->m.born<clock) /\
   (∀ (i j:Nat) (m m':MapEntry),ms[i]?=some m->ms[j]?=some m'->m.born=m'.born->i=j))
  (Ph:∀ y,x=.raw y->w'.heap[g.ob o]?=some y:=by (intro y hy;cases hy)) :
  Inv g base w' (st.set o x)/\Step base g w st g w' (st.set o x):=by
 obtain ⟨cZ,kf⟩:=h.wy hl;have mT:Below base w w':=⟨ME,ZA,T6,by omega,λk hk=>ux k (by omega)⟩;have hs:u4 g w st g w' (st.set o x):=by
  refine ⟨F8 (by omega) (λb hb=>⟨zam _,?_⟩),λ_ _=>rfl,by simp [St.set],λt e sz n ht=>⟨n,ht,zam _,λ_=>rfl⟩,zam _,vE λ_ _ _ _ h _=>⟨h,rfl⟩⟩;by_cases kc:b=g.ob o
  ·subst kc;exact .inl Aa
  ·exact .inr (ux b kc)
 have T7:o<st.aO.length:=by obtain ⟨y,hy,_⟩:=hl;exact (zad.1 hy).1
 have gY:∀ o' y,o'≠o->(st.set o x).aO[o']?=some y->st.aO[o']?=some y:=by
  intro o' y fh hy;simpa [St.set,zbj,zcb fh] using hy
 have Rw:∀ o' y,(st.set o x).aO[o']?=some (.raw y)->base<=g.ob o'/\g.lim (g.ob o')=0/\w'.heap[g.ob o']?=some y:=by
  intro o' y hx;by_cases ho:o'=o
  ·subst ho;have jL:x=.raw y:=by simpa [St.set,zbj,T7] using hx
   exact ⟨kf,Aa,Ph y jL⟩
  ·have hy:=gY o' _ ho hx;obtain ⟨h1,h2,h3⟩:=h.raw o' y hy;have fh:=h.ne o' o ho ⟨_,hy,by simp⟩ hl;exact ⟨h1,h2,by rw [ux _ fh];exact h3⟩
 refine ⟨⟨by rw [fB];exact h.base,?_,?_,Rw,?_,?_,?_,?_,h.DH.below mT,?_⟩,⟨hs,mT,λ_ _=>rfl,λb _ hn=>⟨ux b (λe=>hn (.inl ⟨o,hl,e.symm⟩)),rfl⟩,λb _ hw=>by
  rcases hw with ⟨o',h1,h2⟩|h1
  ·exact .inl ⟨o',rn hl h1,h2⟩
  ·exact .inr h1⟩⟩
 ·intro o' ty cs hx;by_cases ho:o'=o
  ·subst ho;have jL:x=.row ty cs:=by simpa [St.set,zbj,T7] using hx
   obtain ⟨vs,h1,h2,h3⟩:=rm hs ty cs jL;exact ⟨kf,Aa,vs,h1,h2,h3⟩
  ·have hy:=gY o' _ ho hx;obtain ⟨h1,h2,vs,h3,h4,h5⟩:=h.row o' ty cs hy;have fh:=h.ne o' o ho ⟨_,hy,by simp⟩ hl;exact ⟨h1,h2,vs,by rw [ux _ fh];exact h3,h4,λi c u hc hu=>⟨(h5 i c u hc hu).1.mono hs,(h5 i c u hc hu).2⟩⟩
 ·intro o' es hx;by_cases ho:o'=o
  ·subst ho;have jL:x=.map es:=by simpa [St.set,zbj,T7] using hx
   obtain ⟨ms,c,h1,h2,h3⟩:=Pk hs es jL;exact ⟨kf,ms,c,h1,h2,h3⟩
  ·have hy:=gY o' _ ho hx;obtain ⟨h1,ms,c,h3,h4,h5,h6⟩:=h.map o' es hy;have fh:=h.ne o' o ho ⟨_,hy,by simp⟩ hl;exact ⟨h1,ms,c,by rw [ux _ fh];exact h3,h4,λi k y m a b=>⟨(h5 i k y m a b).1,(h5 i k y m a b).2.mono hs⟩,h6⟩
 ·exact λo1 o2 fh h1 h2=>h.ne o1 o2 fh (rn hl h1) (rn hl h2)
 ·intro t e sz n ht;obtain ⟨xs,h1,h2⟩:=h.tail t e sz n ht;refine ⟨xs,?_,h2⟩;obtain ⟨k1,k2⟩:=h1;refine ⟨k1,?_⟩;rcases k2 with k2|⟨gb,cap,cur,e1,e2,e3,e4⟩
  ·exact .inl k2
  ·refine .inr ⟨gb,cap,cur,e1,e2,?_,e4⟩;rw [ux gb ?_]
   ·exact e3
   ·intro ZB;subst ZB;exact h.iu t _ o ht hl (by rw [e1];rfl)
 ·exact h.nF
 ·exact λt x' o' ht Rv=>h.iu t x' o' ht (rn hl Rv)
 ·intro t e sz n rows ht;obtain ⟨xs,h1,h2,h3⟩:=h.own t e sz n rows ht;exact ⟨xs,fu h1 λb kc=>ux b λZB=>h.iu t _ o ht hl (by rw [kc,ZB]),h2,h3.mono hs.cY⟩
theorem Inv.newObj (h:Inv g base w st) (x:dL) (b:Obj)
  (rm:∀ ty cs,x=.row ty cs->∃ vs:Array Value,b=.cells vs ty (0,0)/\vs.size=cs.length/\∀ (i:Nat) c u,cs[i]?=some c->vs[i]?=some u->bM g w st c u/\u.oneCell'=true)
  (Pk:∀ es,x=.map es->es=[]/\b=.map #[] 0)
  (Ph:∀ y,x=.raw y->b=y:=by (intro y hy;cases hy)) :
  ∃ g',Inv g' base (w.alloc b) (st.add x)/\Step base g w st g' (w.alloc b) (st.add x)/\g'.ob st.aO.length=w.heap.size:=by
 let g':bY:=⟨λk=>if k=w.heap.size then 0 else g.lim k,λo=>if o=st.aO.length then w.heap.size else g.ob o,g.tk⟩
 have mT:Below w.heap.size w (w.alloc b):=(Below.refl _ w).alloc (zam _) b;have Ab:∀ k,k<w.heap.size->g'.lim k=g.lim k:=λk hk=>by show (if k=w.heap.size then 0 else g.lim k)=_;rw [zaa (by omega)]
 have zC:∀ o,o<st.aO.length->g'.ob o=g.ob o:=λo ho=>by show (if o=st.aO.length then _ else g.ob o)=_;rw [zaa (by omega)]
 have xH:g'.ob st.aO.length=w.heap.size:=by show (if _=st.aO.length then _ else _)=_;rw [zab rfl]
 have hs:u4 g w st g' (w.alloc b) (st.add x):=by
  refine ⟨⟨by simp,λk hk=>by rw [Ab k hk];exact zam _,λk off hk _=>mT.cell (p:=⟨k,off,none⟩) hk⟩,zC,by simp [St.add],λt e sz n ht=>⟨n,ht,zam _,λ_=>rfl⟩,zam _,vE λ_ _ _ _ h _=>⟨h,rfl⟩⟩
 have hold:∀ o y,o<st.aO.length->(st.add x).aO[o]?=some y->st.aO[o]?=some y:=by
  intro o y ho hy;simpa [St.add,zak ho] using hy
 have tA:∀ o y,(st.add x).aO[o]?=some y->¬ o<st.aO.length->o=st.aO.length/\y=x:=by
  intro o y hy ho;have cZ:=(zad.1 hy).1;simp [St.add] at cZ;have:o=st.aO.length:=by omega
  subst this;simpa [St.add,zeo] using hy
 have vH:∀ o,o<st.aO.length->(st.add x).live o->st.live o:=λo ho ⟨y,hy,fh⟩=>⟨y,hold o y ho hy,fh⟩
 have Jp:(w.alloc b).heap[w.heap.size]?=some b:=heap_alloc_new w b;have Rw:∀ o y,(st.add x).aO[o]?=some (.raw y)->base<=g'.ob o/\g'.lim (g'.ob o)=0/\(w.alloc b).heap[g'.ob o]?=some y:=by
  intro o y hx;by_cases ho:o<st.aO.length
  ·obtain ⟨h1,h2,h3⟩:=h.raw o y (hold o _ ho hx);have cZ:=(zau.1 h3).1;rw [zC o ho,Ab _ cZ,mT.block _ cZ];exact ⟨h1,h2,h3⟩
  ·obtain ⟨rfl,Xn⟩:=tA o _ hx ho;rw [xH];exact ⟨h.base,by show (if w.heap.size=w.heap.size then 0 else _)=0;rw [zab rfl],by rw [Jp,Ph y Xn.symm]⟩
 refine ⟨g',⟨⟨by have:=h.base;simp;omega,?_,?_,Rw,?_,?_,?_,?_,h.DH.below (mT.mono h.base),?_⟩,⟨hs,mT.mono h.base,λk hk=>Ab k (zbk hk h.base),λk hk _=>⟨mT.block k hk,Ab k hk⟩,λk hk hw=>by
  rcases hw with ⟨o,h1,h2⟩|h1
  ·by_cases ho:o<st.aO.length
   ·exact .inl ⟨o,vH o ho h1,by rw [←zC o ho];exact h2⟩
   ·obtain ⟨y,hy,_⟩:=h1;obtain ⟨rfl,_⟩:=tA o _ hy ho;rw [xH] at h2;omega
  ·exact .inr h1⟩,xH⟩⟩
 ·intro o ty cs hx;by_cases ho:o<st.aO.length
  ·obtain ⟨h1,h2,vs,h3,h4,h5⟩:=h.row o ty cs (hold o _ ho hx);have cZ:=(zau.1 h3).1;rw [zC o ho,Ab _ cZ,mT.block _ cZ];exact ⟨h1,h2,vs,h3,h4,λi c u hc hu=>⟨(h5 i c u hc hu).1.mono hs,(h5 i c u hc hu).2⟩⟩
  ·obtain ⟨rfl,Xn⟩:=tA o _ hx ho;obtain ⟨vs,h1,h2,h3⟩:=rm ty cs Xn.symm;rw [xH];refine ⟨h.base,by show (if w.heap.size=w.heap.size then 0 else _)=0;rw [zab rfl],vs,by rw [Jp,h1],h2,λi c u hc hu=>⟨(h3 i c u hc hu).1.mono hs,(h3 i c u hc hu).2⟩⟩
 ·intro o es hx;by_cases ho:o<st.aO.length
  ·obtain ⟨h1,ms,c,h3,h4,h5,h6⟩:=h.map o es (hold o _ ho hx);have cZ:=(zau.1 h3).1;rw [zC o ho,mT.block _ cZ];exact ⟨h1,ms,c,h3,h4,λi k y m a b=>⟨(h5 i k y m a b).1,(h5 i k y m a b).2.mono hs⟩,h6⟩
  ·obtain ⟨rfl,Xn⟩:=tA o _ hx ho;obtain ⟨rfl,h2⟩:=Pk es Xn.symm;rw [xH];exact ⟨h.base,#[],0,by rw [Jp,h2],rfl,λi k y m a _=>by simp at a,λi m a=>by simp at a,λi j m m' a=>by simp at a⟩
 ·intro o1 o2 fh h1 h2;by_cases F3:o1<st.aO.length <;> by_cases NT:o2<st.aO.length
  ·rw [zC o1 F3,zC o2 NT];exact h.ne o1 o2 fh (vH o1 F3 h1) (vH o2 NT h2)
  ·obtain ⟨y,hy,_⟩:=h2;obtain ⟨rfl,_⟩:=tA o2 _ hy NT;rw [zC o1 F3,xH];have:=(h.wy (vH o1 F3 h1)).1;omega
  ·obtain ⟨y,hy,_⟩:=h1;obtain ⟨rfl,_⟩:=tA o1 _ hy F3;rw [zC o2 NT,xH];have:=(h.wy (vH o2 NT h2)).1;omega
  ·obtain ⟨y,hy,_⟩:=h1;obtain ⟨y',Jd,_⟩:=h2;exact absurd ((tA o1 _ hy F3).1.trans (tA o2 _ Jd NT).1.symm) fh
 ·intro t e sz n ht;obtain ⟨xs,h1,h2⟩:=h.tail t e sz n ht;exact ⟨xs,h1.alloc b,λk hk=>by rw [Ab k (h1.lt k hk).2];exact h2 k hk⟩
 ·exact h.nF
 ·intro t x' o ht hl;by_cases ho:o<st.aO.length
  ·rw [zC o ho];exact h.iu t x' o ht (vH o ho hl)
  ·obtain ⟨y,hy,_⟩:=hl;obtain ⟨rfl,_⟩:=tA o _ hy ho;rw [xH];intro hk;have:=(h.wv ht hk).2;omega
 ·intro t e sz n rows ht;obtain ⟨xs,h1,h2,h3⟩:=h.own t e sz n rows ht;exact ⟨xs,h1.alloc b,λk hk=>by rw [Ab k (h1.lt k hk).2];exact h2 k hk,h3.mono hs.cY⟩
end inv
def fi (P:Program) (s:TypeId) (f:Nat):Option Nat :=
 match P.underlying s with
 | some (.struct fs)=>match fs[f]? with
  | some fl=>match P.info? fl.type with
   | some i=>if i.size=0 then none else some fl.offset
   | none=>none
  | none=>none
 | _=>none
theorem tB {P:Program} {s:TypeId} {f off:Nat} (h:fi P s f=some off) (a:Addr) (w:World):(Instr.fieldAt s (.pointer (some a)) f).run P w=.ok (.pointer (some (a.add off))) w:=by
 unfold fi at h;split at h
 ·rename_i fs hu;split at h
  ·rename_i fl hf;split at h
   ·rename_i i hi;split at h
    ·cases h
    ·rename_i fB;simp only [Option.some.injEq] at h;subst h;simp [Instr.fieldAt,run_underlying hu,hf,Instr.sureAddr,fieldPlace,sizeOf,typeInfo,hi,fB]
   ·cases h
  ·cases h
 ·cases h
def NU:List EV->Option (List D)
 | []=>some []
 | .d x::l=>match NU l with
  | some r=>some (x::r)
  | none=>none
 | _::_=>none
theorem Jq:∀ {l:List EV} {ds:List D},NU l=some ds->l=ds.map EV.d
 | [],ds,h=>by simp [NU] at h;subst h;rfl
 | .d x::l,ds,h=>by
  unfold NU at h;split at h
  ·rename_i r hr;simp only [Option.some.injEq] at h;subst h;rw [Jq hr];rfl
  ·cases h
 | .ref _ _::l,ds,h=>by cases h
 | .Jc _ _ _ _::l,ds,h=>by cases h
 | .cE _ _ _::l,ds,h=>by cases h
 | .mp _::l,ds,h=>by cases h
 | .tz _ _::l,ds,h=>by cases h
 | .agg _::l,ds,h=>by cases h
 | .dN _::l,ds,h=>by cases h
 | .gd _ _::l,ds,h=>by cases h
def Db:EV->Bool->Option Bool
 | .d (.ex (.bool b)),true=>some b
 | .d (.ex (.bool b)),false=>some (!b)
 | .gd c (.d (.ex (.bool b))),true=>some (c && b)
 | .gd c (.d (.ex (.bool b))),false=>some (c && !b)
 | _,_=>none
def T8:Value->Option Bool
 | .bool c=>some c
 | _=>none
theorem tf {g:bY} {w:World} {st:St} {e:EV} {want b:Bool} {v:Value} (h:Db e want=some b) (hv:bM g w st e v):(T8 v==some want)=b:=by
 unfold Db at h;split at h
 ·cases h;rw [hv.bJ];cases b <;> rfl
 ·rename_i c;cases h;rw [hv.bJ];cases c <;> rfl
 ·rename_i c c';cases h;cases hv with
  | gd _ _ _ h0 h1 =>
   cases c with
   | false=>rw [h0 rfl];rfl
   | true=>rw [(h1 rfl).bJ];cases c' <;> rfl
 ·rename_i c c';cases h;cases hv with
  | gd _ _ _ h0 h1 =>
   cases c with
   | false=>rw [h0 rfl];rfl
   | true=>rw [(h1 rfl).bJ];cases c' <;> rfl
 ·cases h
def zD (b:Bool) (env:Env):Env->Prop
 | []=>True
 | (i,y)::t=>(lookup i env=some y∨lookup i env=some (.gd b y)∨∃ a z,y=.gd a z/\lookup i env=some (.gd (b && a) z))/\zD b env t
theorem zD.get {b:Bool} {env:Env}:∀ {env':Env},zD b env env'->∀ i y,lookup i env'=some y->lookup i env=some y∨lookup i env=some (.gd b y)∨∃ a z,y=.gd a z/\lookup i env=some (.gd (b && a) z)
 | [],_,i,y,h=>by simp [lookup] at h
 | (j,z)::t,⟨hh,ht⟩,i,y,h=>by
  unfold lookup at h;cases hb:Nat.beq i j with
  | true =>
   rw [hb] at h;simp only [Option.some.injEq] at h;have:=zas hb;subst this;subst h;exact hh
  | false =>
   rw [hb] at h;exact ht.get i y h
theorem eh.gd {g:bY} {w:World} {st:St} {env env':Env} {tmps:Array Value} {b:Bool} (h:eh g w st env tmps) (hg:zD b env env') (hb:b=true):eh g w st env' tmps:=by
 intro i y hy;rcases hg.get i y hy with h1|h1|⟨a,z,rfl,h1⟩
 ·exact h i y h1
 ·obtain ⟨v,h2,h3⟩:=h i _ h1;cases h3 with
  | gd _ _ _ _ h4=>exact ⟨v,h2,h4 hb⟩
 ·obtain ⟨v,h2,h3⟩:=h i _ h1;rw [hb,zcr] at h3;exact ⟨v,h2,h3⟩
section guard
variable {P:Program} {f:Ctx} {N:Nat} {S:Start} {Q:EV->St->Prop} {k:List Item} {env:Env} {st:St} {ops rest:List Oper}
theorem cm.guard {d t:Tmp} {op:Op} {ty:TypeId} {pos:String} {after:Array Edge} {j:Nat} {want b:Bool} {c x:EV} {env':Env} (hj:(ops[j]?).bind (·.dst)=some t) (hl:lookup t env=some c) (hc:Db c want=some b)
  (hE:zD b env env') (hd:fZ N (some d)=true) (h:b=true->aG P env' st ⟨some d,op,ty,pos,after,some (j,want)⟩ x) (hk:cm P f N S Q ops rest k ((d,.gd b x)::env) st) :
  cm P f N S Q ops (⟨some d,op,ty,pos,after,some (j,want)⟩::rest) k env st:=by
 intro i hi g w tmps hinv hh he hn;have ho:ops.toArray[i]?=some ⟨some d,op,ty,pos,after,some (j,want)⟩:=by simpa using (hi 0).symm
 obtain ⟨v,hv,hr⟩:=he t c hl;have hw:Region.wanted ⟨some d,op,ty,pos,after,some (j,want)⟩ (yielded ops.toArray tmps)=b:=by
  rw [←tf hc hr];have Je:((ops.toArray)[j]?).bind (·.dst)=some t:=by simpa using hj
  simp only [Region.wanted,yielded,Je,zac,hv];cases v <;> rfl
 rw [zag,iw];subst hn;have hi':∀ j:Nat,rest[j]?=ops[i+1+j]?:=λj=>by have:=hi (j+1);simpa [zce,zcw 1 j] using this
 cases b with
 | false=>exact eK.xF ho hw (hk (i+1) hi' g w _ hinv hh (qg (d:=some d) he hd (.gd _ _ _ (λ_=>rfl) (λh=>by cases h))) ia)
 | true =>
  obtain ⟨u,h1,h2⟩:=h rfl g S.base w tmps hinv (he.gd hE rfl);exact eK.value ho hw (h2 w (.refl _ _)) (hk (i+1) hi' g w _ hinv hh (qg (d:=some d) he hd (.gd _ _ _ (λh=>by cases h) (λ_=>h1))) ia)
theorem cm.q {d:Option Tmp} {op:Op} {ty:TypeId} {pos:String} {after:Array Edge} {x:EV} (h:aG P env st ⟨d,op,ty,pos,after,none⟩ x) (hd:fZ N d=true) (hk:cm P f N S Q ops rest k (env.put d x) st) :
  cm P f N S Q ops (⟨d,op,ty,pos,after,none⟩::rest) k env st:=.op rfl hd h.v hk
theorem cm.v {d:Option Tmp} {op:Op} {ty:TypeId} {pos:String} {after:Array Edge} {x:EV} {st':St} (h:xG P S.base env st ⟨d,op,ty,pos,after,none⟩ x st') (hd:fZ N d=true) (hk:cm P f N S Q ops rest k (env.put d x) st') :
  cm P f N S Q ops (⟨d,op,ty,pos,after,none⟩::rest) k env st:=.op rfl hd h hk
theorem cm.u {d:Option Tmp} {op:Op} {ty:TypeId} {pos:String} {after:Array Edge} {st':St} (h:HE P S.base env st ⟨d,op,ty,pos,after,none⟩ st') (hd:fZ N d=true) (hk:cm P f N S Q ops rest k (env.put d (.d .any)) st') :
  cm P f N S Q ops (⟨d,op,ty,pos,after,none⟩::rest) k env st:=.Zw rfl hd h hk
theorem cm.sub {env':Env} (hs:dp env env') (h:cm P f N S Q ops rest k env' st):cm P f N S Q ops rest k env st:=λi hi=>.sub hs (h i hi)
end guard
section q
variable {P:Program} {env:Env} {st:St} {d:Option Tmp} {ty:TypeId} {pos:String} {after:Array Edge} {gd:Option (Nat×Bool)} {t t2:TypeId} {x y:Operand}
theorem RK {lim:Nat->Nat} {w:World} {cs:List D} {b off n:Nat} (h:dK lim w (.ro cs) (.pointer (some ⟨b,off,none⟩))):dK lim w (.ro (cs.drop n)) (.pointer (some (Addr.add ⟨b,off,none⟩ n))):=by
 rw [Addr.add_lit];cases h with
 | ro _ _ _ hx hc =>
  refine .ro _ b (off+n) ?_ ?_
  ·intro k hk;simp only [zbh] at hk;have:=hx (n+k) (by omega);rw [zce];exact this
  ·intro j c u sH hu;rw [zaz] at sH;rw [zce] at hu;exact hc (n+j) c u sH hu
theorem MF {lim:Nat->Nat} {w:World} {cs:List D} {v:Value} (h:dK lim w (.ro cs) v):∃ b off,v=.pointer (some ⟨b,off,none⟩):=by
 cases h with|ro _ b off=>exact ⟨b,off,rfl⟩
theorem NV {s:TypeId} {f off:Nat} {cs:List D} (hf:fi P s f=some off) (hx:cY env x=some (.d (.ro cs))):aG P env st ⟨d,.fieldAddr s x f,ty,pos,after,gd⟩ (.d (.ro (cs.drop off))):=λg base w tmps hi he=>by
 cases aN he hx with
 | d _ _ h =>
  obtain ⟨b,o,hv⟩:=MF h;rw [hv] at h;exact ⟨_,.d _ _ (RK h),λw' _=>by simp [execOp,hv,tB hf]⟩
theorem bl {s:TypeId} {f off o T9:Nat} (hf:fi P s f=some off) (hx:cY env x=some (.ref o T9)):aG P env st ⟨d,.fieldAddr s x f,ty,pos,after,gd⟩ (.ref o (T9+off)):=λg base w tmps hi he=>by
 have h:=aN he hx;generalize hv:Act.eval ⟨tmps,[]⟩ x=v at h;cases h with
 | ref _ _ cZ=>exact ⟨.pointer (some ⟨g.ob o,T9+off,none⟩),.ref _ _ cZ,λw' _=>by simp [execOp,hv,tB hf,Addr.add_lit]⟩
theorem qP {w:World} {b off n:Nat} {vs:List Value} (hl:vs.length=n) (h:∀ j u,vs[j]?=some u->w.cell? ⟨b,off+j,none⟩=some u):(loadCells ⟨b,off,none⟩ n).run P w=.ok vs.toArray w:=by
 subst hl;exact run_loadCells_list w _ vs λj u hu=>by rw [Addr.add_lit];exact h j u hu
theorem RL {lim:Nat->Nat} {w:World} {cs:List D} {b off:Nat} (h:dK lim w (.ro cs) (.pointer (some ⟨b,off,none⟩))) (n:Nat) (hn:n<=cs.length) :
  ∃ vs:List Value,vs.length=n/\(∀ (j:Nat) u,vs[j]?=some u->w.cell? ⟨b,off+j,none⟩=some u/\u.oneCell'=true/\∀ c,cs[j]?=some c->dK lim w c u):=by
 cases h with
 | ro _ _ _ hx hc =>
  refine ⟨(List.range n).map λj=>(w.cell? ⟨b,off+j,none⟩).getD undef,by simp,λj u hu=>?_⟩;rw [zba] at hu;by_cases hj:j<n
  ·obtain ⟨hl,u',vD,h1⟩:=hx j (by omega);simp [List.getElem?_range hj,vD] at hu;subst hu;exact ⟨vD,h1,λc Dc=>hc j c _ Dc vD⟩
  ·simp [zbl (show (List.range n).length<=j by simp;omega)] at hu
theorem MG {cs:List D} {n:Nat} (h1:(P.underlying t).map j4=some false) (hs:(P.info? t).map (·.size)=some n) (hn:n<=cs.length) (hx:cY env x=some (.d (.ro cs))) :
  aG P env st ⟨d,.load t x,ty,pos,after,gd⟩ (.d (.agg (cs.take n))):=λg base w tmps hinv he=>by
 cases aN he hx with
 | d _ _ h =>
  obtain ⟨b,off,hv⟩:=MF h;rw [hv] at h;obtain ⟨vs,hl,DJ⟩:=RL h n hn;refine ⟨.agg vs.toArray,.d _ _ (.agg _ _ (by simp [hl];omega) (λi u hu=>(DJ i u (by simpa using hu)).2.1) λi c u hc hu=>?_),λw' hb=>?_⟩
  ·rw [zaj] at hc;split at hc
   ·exact (DJ i u (by simpa using hu)).2.2 c hc
   ·cases hc
  ·obtain ⟨inf,kV,fB⟩:∃ inf,P.info? t=some inf/\inf.size=n:=by
    cases hh:P.info? t with
    | none=>rw [hh] at hs;cases hs
    | some inf=>rw [hh] at hs;exact ⟨inf,rfl,by simpa using hs⟩
   have Ez:=qP (P:=P) (w:=w') (b:=b) (off:=off) hl (λj u hu=>by
    have h3:=(DJ j u hu).1;exact (hb.cell (World.block_lt_of_cell? w _ h3)).trans h3)
   simp [execOp,hv,Instr.loadAt,Instr.sureAddr,loadVar,yB h1,sizeOf,typeInfo,kV,fB,Ez]
theorem bW {o off:Nat} {T:TypeId} {cs:List EV} {c:EV} (h1:(P.underlying t).map j4=some true) (hx:cY env x=some (.ref o off)) (ho:st.aO[o]?=some (.row T cs)) (hc:cs[off]?=some c) :
  aG P env st ⟨d,.load t x,ty,pos,after,gd⟩ c:=λg base w tmps hinv he=>by
 have h:=aN he hx;generalize hv:Act.eval ⟨tmps,[]⟩ x=v at h;cases h with
 | ref _ _ cZ =>
  obtain ⟨_,_,vs,hb,fB,zE⟩:=hinv.row o T cs ho;have Xo:off<vs.size:=by rw [fB];exact (zad.1 hc).1
  have hu:vs[off]?=some vs[off]:=zbe Xo;have fc:w.cell? ⟨g.ob o,off,none⟩=some vs[off]:=by rw [cell_of_row w _ off vs T (0,0) hb];exact hu
  refine ⟨vs[off],(zE off c _ hc hu).1,λw' kc=>?_⟩;have Ua:w'.cell? ⟨g.ob o,off,none⟩=some vs[off]:=(kc.cell (World.block_lt_of_cell? w _ fc)).trans fc;simp [execOp,hv,Instr.loadAt,Instr.sureAddr,loadVar,vF h1,Ua]
theorem Jr {g:bY} {w:World} {b n off:Nat} {T:TypeId} {cs:List EV} {vs:Array Value} (hb:w.heap[b]?=some (.cells vs T (0,0))) (fB:vs.size=cs.length) (hn:off+n<=cs.length) :
  ((vs.toList.drop off).take n).length=n/\∀ (j:Nat) u,((vs.toList.drop off).take n)[j]?=some u->w.cell? ⟨b,off+j,none⟩=some u/\vs[off+j]?=some u:=by
 refine ⟨by simp;omega,λj u hu=>?_⟩
 rw [zaj] at hu;split at hu
 ·rw [zaz] at hu;have:vs[off+j]?=some u:=by simpa using hu
  exact ⟨by rw [cell_of_row w _ _ vs T (0,0) hb];exact this,this⟩
 ·cases hu
theorem cd {o off n:Nat} {T:TypeId} {cs:List EV} {ds:List D} (h1:(P.underlying t).map j4=some false) (hs:(P.info? t).map (·.size)=some n) (hx:cY env x=some (.ref o off)) (ho:st.aO[o]?=some (.row T cs))
  (hn:off+n<=cs.length) (hc:NU ((cs.drop off).take n)=some ds):aG P env st ⟨d,.load t x,ty,pos,after,gd⟩ (.d (.agg ds)):=λg base w tmps hinv he=>by
 have h:=aN he hx;generalize hv:Act.eval ⟨tmps,[]⟩ x=v at h;cases h with
 | ref _ _ cZ =>
  obtain ⟨_,_,vs,hb,fB,zE⟩:=hinv.row o T cs ho;obtain ⟨hl,DJ⟩:=Jr (g:=g) (w:=w) (n:=n) (off:=off) hb fB hn;have Zd:=Jq hc;refine ⟨.agg ((vs.toList.drop off).take n).toArray,.d _ _ (.agg _ _ ?_ ?_ ?_),λw' kc=>?_⟩
  ·have:=zbm List.length Zd;simp at this hl ⊢;omega
  ·intro i u hu;have vD:=DJ i u (by simpa using hu);have kQ:off+i<cs.length:=by rw [←fB];exact (zau.1 vD.2).1
   exact (zE (off+i) cs[off+i] u (zaf kQ) vD.2).2
  ·intro i c u sH hu;have vD:=DJ i u (by simpa using hu);have qQ:((cs.drop off).take n)[i]?=some (.d c):=by rw [Zd,zba,sH];rfl
   rw [zaj] at qQ;split at qQ
   ·rw [zaz] at qQ;cases (zE (off+i) _ u qQ vD.2).1 with|d _ _ h=>exact h
   ·cases qQ
  ·obtain ⟨inf,kV,HG⟩:∃ inf,P.info? t=some inf/\inf.size=n:=by
    cases hh:P.info? t with
    | none=>rw [hh] at hs;cases hs
    | some inf=>rw [hh] at hs;exact ⟨inf,rfl,by simpa using hs⟩
   have Ez:=qP (P:=P) (w:=w') (b:=g.ob o) (off:=off) hl (λj u hu=>by
    have h3:=(DJ j u hu).1;exact (kc.cell (World.block_lt_of_cell? w _ h3)).trans h3)
   simp [execOp,hv,Instr.loadAt,Instr.sureAddr,loadVar,yB h1,sizeOf,typeInfo,kV,HG,Ez]
theorem b7 {cs:List D} {i:Nat} {c:D} (hx:cY env x=some (.d (.dN cs))) (hc:cs[i]?=some c):aG P env st ⟨d,.extract x i,ty,pos,after,gd⟩ (.d c):=λg base w tmps hinv he=>by
 cases aN he hx with
 | d _ _ h =>
  generalize hv:Act.eval ⟨tmps,[]⟩ x=v at h;cases h with
  | dN _ vs hs h =>
   have hi:i<vs.size:=by rw [hs];exact (zad.1 hc).1
   have hu:vs[i]?=some vs[i]:=zbe hi;exact ⟨vs[i],.d _ _ (h i c _ hc hu),λw' _=>by simp [execOp,hv,Instr.extract,hu]⟩
theorem Lu {cs:List EV} {i:Nat} {c:EV} (hx:cY env x=some (.dN cs)) (hc:cs[i]?=some c):aG P env st ⟨d,.extract x i,ty,pos,after,gd⟩ c:=λg base w tmps hinv he=>by
 have h:=aN he hx;generalize hv:Act.eval ⟨tmps,[]⟩ x=v at h;cases h with
 | dN _ vs hs h =>
  have hi:i<vs.size:=by rw [hs];exact (zad.1 hc).1
  have hu:vs[i]?=some vs[i]:=zbe hi;exact ⟨vs[i],h i c _ hc hu,λw' _=>by simp [execOp,hv,Instr.extract,hu]⟩
theorem MH {s:TypeId} {f off:Nat} {fs:Array Field} {fl:Field} {cs:List D} {c:D} (hu:P.underlying s=some (.struct fs)) (hf:fs[f]?=some fl) (h1:(P.underlying fl.type).map j4=some true) (ho:fl.offset=off)
  (hx:cY env x=some (.d (.agg cs))) (hc:cs[off]?=some c):aG P env st ⟨d,.field s x f,ty,pos,after,gd⟩ (.d c):=λg base w tmps hinv he=>by
 cases aN he hx with
 | d _ _ h =>
  generalize hv:Act.eval ⟨tmps,[]⟩ x=v at h;cases h with
  | agg _ vs hs O2 h =>
   have hi:off<vs.size:=by rw [hs];exact (zad.1 hc).1
   have vD:vs[off]?=some vs[off]:=zbe hi;exact ⟨vs[off],.d _ _ (h off c _ hc vD),λw' _=>by simp [execOp,hv,Instr.field,run_underlying hu,hf,asAgg,part,vF h1,ho,vD]⟩
end q
def gf:EV->Option (List EV)
 | .d (.ex v)=>if v.oneCell' then some [.d (.ex v)] else none
 | .d (.agg cs)=>some (cs.map EV.d)
 | .d (.sl sz rows)=>some [.d (.sl sz rows)]
 | .d (.ro cs)=>some [.d (.ro cs)]
 | .d (.e0 sz)=>some [.d (.e0 sz)]
 | .ref o off=>some [.ref o off]
 | .Jc o off n c=>some [.Jc o off n c]
 | .cE sz rows t=>some [.cE sz rows t]
 | .mp o=>some [.mp o]
 | .tz f cs=>some [.tz f cs]
 | .vc t k=>some [.vc t k]
 | .vp t k i off=>some [.vp t k i off]
 | .vw t k lo n=>some [.vw t k lo n]
 | .agg cs=>some cs
 | _=>none
theorem cells_one {v:Value} (h:v.oneCell'=true):v.cells=#[v]:=by cases v <;> first|rfl|cases h
theorem qi {g:bY} {w:World} {st:St} {e:EV} {cs:List EV} {v:Value} (h:gf e=some cs) (hv:bM g w st e v) :
  v.cells.size=cs.length/\∀ (i:Nat) c u,cs[i]?=some c->v.cells[i]?=some u->bM g w st c u/\u.oneCell'=true:=by
 have one:∀ (Xp:v.oneCell'=true) (yC:cs=[e]),v.cells.size=cs.length/\∀ (i:Nat) c u,cs[i]?=some c->v.cells[i]?=some u->bM g w st c u/\u.oneCell'=true:=by
  intro Xp yC;subst yC;rw [cells_one Xp];refine ⟨rfl,λi c u hc hu=>?_⟩
  match i with
  | 0=>simp at hc hu;subst hc;subst hu;exact ⟨hv,Xp⟩
  | n+1=>simp at hc
 cases hv with
 | d x _ hd =>
  cases hd with
  | ex =>
   simp only [gf] at h;split at h
   ·rename_i h1;simp only [Option.some.injEq] at h;exact one h1 h.symm
   ·cases h
  | agg ds vs hs h1 hr =>
   simp only [gf,Option.some.injEq] at h;subst h;refine ⟨by simpa [Value.cells] using hs,λi c u hc hu=>?_⟩;rw [zba] at hc;cases hx:ds[i]? with
   | none=>rw [hx] at hc;cases hc
   | some y =>
    rw [hx] at hc;simp only [Option.map_some,Option.some.injEq] at hc;subst hc;exact ⟨.d _ _ (hr i y u hx (by simpa [Value.cells] using hu)),h1 i u (by simpa [Value.cells] using hu)⟩
  | dN=>cases h
  | nil=>simp only [gf,Option.some.injEq] at h;exact one rfl h.symm
  | sl=>simp only [gf,Option.some.injEq] at h;exact one rfl h.symm
  | ro=>simp only [gf,Option.some.injEq] at h;exact one rfl h.symm
  | e0=>simp only [gf,Option.some.injEq] at h;exact one rfl h.symm
  | any=>cases h
 | ref=>simp only [gf,Option.some.injEq] at h;exact one rfl h.symm
 | Jc=>simp only [gf,Option.some.injEq] at h;exact one rfl h.symm
 | cE _ _ _ _ _ _ hd =>
  simp only [gf,Option.some.injEq] at h;obtain ⟨A,c,hv⟩:=Ea hd;exact one (by rw [hv];rfl) h.symm
 | mp=>simp only [gf,Option.some.injEq] at h;exact one rfl h.symm
 | tz=>simp only [gf,Option.some.injEq] at h;exact one rfl h.symm
 | agg ds vs hs h1 hr =>
  simp only [gf,Option.some.injEq] at h;subst h;exact ⟨by simpa [Value.cells] using hs,λi c u hc hu=>⟨hr i c u hc (by simpa [Value.cells] using hu),h1 i u (by simpa [Value.cells] using hu)⟩⟩
 | dN=>cases h
 | gd=>cases h
 | vc _ _ _ _ hf=>simp only [gf,Option.some.injEq] at h;obtain ⟨A,n,c,rfl⟩:=hf;exact one rfl h.symm
 | vp _ _ _ _ _ _ hf=>simp only [gf,Option.some.injEq] at h;obtain ⟨b,o,rfl⟩:=hf;exact one rfl h.symm
 | vw _ _ _ _ _ _ hf=>simp only [gf,Option.some.injEq] at h;obtain ⟨A,c,rfl⟩:=hf;exact one rfl h.symm
section v
variable {P:Program} {base:Nat} {env:Env} {st:St} {d:Option Tmp} {ty:TypeId} {pos:String} {after:Array Edge} {gd:Option (Nat×Bool)} {t t2:TypeId} {x y:Operand}
theorem Xq {e:EV} {cs:List EV} (hx:cY env x=some e) (hc:gf e=some cs):xG P base env st ⟨d,.box t x,ty,pos,after,gd⟩ (.ref st.aO.length 0) (st.add (.row t cs)):=by
 intro g w tmps hinv he;obtain ⟨h1,h2⟩:=qi hc (aN he hx);obtain ⟨g',hi,hs,AX⟩:=hinv.newObj (.row t cs) (.cells (Act.eval ⟨tmps,[]⟩ x).cells t) (λLv DK e=>by cases e;exact ⟨_,rfl,h1,h2⟩) (λes e=>by cases e)
 refine ⟨.pointer (some ⟨w.heap.size,0,none⟩),g',_,?_,?_,hi,hs⟩
 ·simp [execOp,Instr.box,newVar,newRow]
 ·rw [←AX];exact .ref _ _ (by simp [St.add])
theorem iy {z:Value} {cs:List EV} (hz:(P.info? t).bind (·.zero)=some z) (hc:gf (.d (cv z))=some cs):xG P base env st ⟨d,.alloc t,ty,pos,after,gd⟩ (.ref st.aO.length 0) (st.add (.row t cs)):=by
 intro g w tmps hinv he;obtain ⟨h1,h2⟩:=qi (g:=g) (w:=w) (st:=st) hc (.d _ _ (qf _ _ z));obtain ⟨g',hi,hs,AX⟩:=hinv.newObj (.row t cs) (.cells z.cells t) (λLv DK e=>by cases e;exact ⟨_,rfl,h1,h2⟩) (λes e=>by cases e)
 obtain ⟨inf,kV,Ac⟩:∃ inf,P.info? t=some inf/\inf.zero=some z:=by
  cases hh:P.info? t with
  | none=>rw [hh] at hz;cases hz
  | some inf=>rw [hh] at hz;exact ⟨inf,rfl,hz⟩
 refine ⟨.pointer (some ⟨w.heap.size,0,none⟩),g',_,?_,?_,hi,hs⟩
 ·simp [execOp,Instr.alloc,zeroValue,typeInfo,kV,Ac,newVar,newRow]
 ·rw [←AX];exact .ref _ _ (by simp [St.add])
def putCells (cs:List EV) (off:Nat) (new:List EV):List EV:=cs.take off++new++cs.drop (off+new.length)
theorem o8 {o off:Nat} {T:TypeId} {cs new:List EV} {e:EV} (hx:cY env x=some (.ref o off)) (hy:cY env y=some e) (ho:st.aO[o]?=some (.row T cs)) (hc:gf e=some new) (hn:off+new.length<=cs.length)
  (hs:(P.info? t).map (·.size)=some new.length):HE P base env st ⟨d,.store t x y,ty,pos,after,gd⟩ (st.set o (.row T (putCells cs off new))):=by
 intro g w tmps hinv he;have h:=aN he hx;generalize hv:Act.eval ⟨tmps,[]⟩ x=v at h;obtain ⟨k1,k2⟩:=qi hc (aN he hy);generalize hu:Act.eval ⟨tmps,[]⟩ y=u at k1 k2;cases h with
 | ref _ _ cZ =>
  obtain ⟨hb,hl,vs,Jf,fB,zE⟩:=hinv.row o T cs ho;have hlen:u.cells.toList.length=new.length:=by simpa using k1
  have lX:=run_storeCells_at P (g.ob o) off T u.cells.toList 0 vs w Jf (by simp only [zdb,hlen];omega) (λa ha=>by
   obtain ⟨i,hi⟩:=zcq.1 ha;have hi':u.cells[i]?=some a:=by simpa using hi
   have kQ:i<new.length:=by rw [←k1];exact (zau.1 hi').1
   exact (k2 i new[i] a (zaf kQ) hi').2)
  simp only [zdb] at lX;obtain ⟨inf,kV,HG⟩:∃ inf,P.info? t=some inf/\inf.size=new.length:=by
   cases hh:P.info? t with
   | none=>rw [hh] at hs;cases hs
   | some inf=>rw [hh] at hs;exact ⟨inf,rfl,by simpa using hs⟩
  obtain ⟨ek,oT⟩:=hinv.setBlock (o:=o) (x:=.row T (putCells cs off new)) (w':=w.setRow (g.ob o) (vs.toList.take off++u.cells.toList++vs.toList.drop (off+u.cells.toList.length)).toArray)
   ⟨_,ho,by simp⟩ hl (by simp) (λb kc=>setRow_other w _ b _ kc) rfl rfl rfl
   (λPm Lv DK jL=>by
    cases jL;refine ⟨_,setRow_heap w _ vs _ T (0,0) Jf,by simp [putCells,fB,k1],λi c a sH ha=>?_⟩;have Tc:bM g w st c a/\a.oneCell'=true:=by
     simp only [putCells] at sH;have Pn:(vs.toList.take off++u.cells.toList++vs.toList.drop (off+u.cells.toList.length))[i]?=some a:=by simpa using ha
     by_cases h1:i<off
     ·rw [zax,zak (by simp;omega),zaj,zab h1] at sH Pn;exact zE i c a sH (by simpa using Pn)
     ·by_cases h2:i<off+new.length
      ·rw [zax,zat (by simp;omega),zak (by simp [hlen,fB];omega)] at sH Pn;have e1:(cs.take off).length=off:=by simp;omega
       have e2:(vs.toList.take off).length=off:=by simp;omega
       rw [e1] at sH;rw [e2] at Pn;exact k2 (i-off) c a sH (by simpa using Pn)
      ·rw [zat (by simp [hlen,fB];omega)] at sH Pn;have e1:(cs.take off++new).length=off+new.length:=by simp;omega
       have e2:(vs.toList.take off++u.cells.toList).length=off+new.length:=by simp [hlen];omega
       rw [e1,zaz] at sH;rw [e2,zaz,hlen] at Pn;exact zE _ c a sH (by simpa using Pn)
    exact ⟨Tc.1.mono Pm,Tc.2⟩) (λ_ es jL=>by cases jL)
  refine ⟨g,_,?_,ek,oT⟩;simp [execOp,hv,hu,Instr.storeAt,Instr.sureAddr,storeVar,sizeOf,typeInfo,kV,HG,k1,lX]
end v
def Good (g:bY) (w:World) (st:St) (x:EV) (dv:Nat->Nat) (w':World) (v:Value):Prop :=
 bM { g with lim:=dv } w' st x v/\Below w.heap.size w w'/\∀ b,b<w.heap.size->dv b=g.lim b
def zF (P:Program) (env:Env) (st:St) (o:Oper) (x:EV):Prop :=
 ∀ g base w tmps,Inv g base w st->eh g w st env tmps ->
  (∃ v dv w',(execOp (Act.eval ⟨tmps,[]⟩) o).run P w=.ok (.value v) w'/\Good g w st x dv w' v) ∨
  (∃ f' args,(execOp (Act.eval ⟨tmps,[]⟩) o).run P w=.ok (.enter f' args) w/\Calls P f' args w λe w'=>∃ v dv,e=.returned v/\Good g w st x dv w' v)
section g
variable {P:Program} {f:Ctx} {N:Nat} {S:Start} {Q:EV->St->Prop} {k:List Item} {env:Env} {st:St} {ops rest:List Oper}
 {d:Option Tmp} {op:Op} {ty:TypeId} {pos:String} {after:Array Edge} {gd:Option (Nat×Bool)} {t t2 e:TypeId} {x y:Operand}
theorem aG.g {o:Oper} {r:EV} (h:aG P env st o r):zF P env st o r:=λg base w tmps hi he =>
 let ⟨v,h1,h2⟩:=h g base w tmps hi he
 .inl ⟨v,g.lim,w,h2 w (.refl _ _),h1,.refl _ _,λ_ _=>rfl⟩
theorem av {f':FuncId} {l:List Operand} {ts:Array TypeId} {es:List EV} {ds:List D} {r:D} (F2:Enters P f') (h1:B6 env l=some es) (h2:Lr es=some ds) (hc:aD P f' ds (·=r)) :
  zF P env st ⟨d,.call ⟨.value (.func f'),l.toArray,ts⟩,ty,pos,after,gd⟩ (.d r):=λg base w tmps hi he=>by
 refine .inr ⟨f',_,B7 F2 w rfl,(hc g.lim w _ (hi.DH.mono hi.base) (.of he h1 h2)).mono ?_⟩;rintro e w' ⟨v,r',dv,rfl,rfl,hr,Po,hb,hl⟩;exact ⟨v,dv,rfl,.d _ _ hr,hb,hl⟩
theorem cm.g {x:EV} (h:zF P env st ⟨d,op,ty,pos,after,none⟩ x) (hd:fZ N d=true) (hk:cm P f N S Q ops rest k (env.put d x) st) :
  cm P f N S Q ops (⟨d,op,ty,pos,after,none⟩::rest) k env st:=by
 intro i hi g w tmps hinv hh he hn;have ho:ops.toArray[i]?=some ⟨d,op,ty,pos,after,none⟩:=by simpa using (hi 0).symm
 have hi':∀ j:Nat,rest[j]?=ops[i+1+j]?:=λj=>by have:=hi (j+1);simpa [zce,zcw 1 j] using this
 rw [zag,iw];subst hn;rcases h g S.base w tmps hinv he with ⟨v,dv,w',hr,hx,hb,hl⟩|⟨f',args,hr,hc⟩
 ·obtain ⟨ek,hs⟩:=hinv.grow (g':={ g with lim:=dv }) hb hl rfl rfl;exact eK.value ho (by simp [Region.wanted]) hr (hk (i+1) hi' _ w' _ ek (hh.step hs) (qg (he.mono hs.dO) hd hx) ia)
 ·refine eK.call ho (by simp [Region.wanted]) hr (hc.mono ?_);rintro e w' ⟨v,dv,rfl,hx,hb,hl⟩;obtain ⟨ek,hs⟩:=hinv.grow (g':={ g with lim:=dv }) hb hl rfl rfl;exact ⟨v,rfl,hk (i+1) hi' _ w' _ ek (hh.step hs) (qg (he.mono hs.dO) hd hx) ia⟩
theorem cm.gZ {d t:Tmp} {j:Nat} {want b:Bool} {c x:EV} {env':Env} (hj:(ops[j]?).bind (·.dst)=some t) (hl:lookup t env=some c) (hc:Db c want=some b)
  (hE:zD b env env') (hd:fZ N (some d)=true) (h:b=true->zF P env' st ⟨some d,op,ty,pos,after,some (j,want)⟩ x) (hk:cm P f N S Q ops rest k ((d,.gd b x)::env) st) :
  cm P f N S Q ops (⟨some d,op,ty,pos,after,some (j,want)⟩::rest) k env st:=by
 intro i hi g w tmps hinv hh he hn;have ho:ops.toArray[i]?=some ⟨some d,op,ty,pos,after,some (j,want)⟩:=by simpa using (hi 0).symm
 obtain ⟨v,hv,hr⟩:=he t c hl;have hw:Region.wanted ⟨some d,op,ty,pos,after,some (j,want)⟩ (yielded ops.toArray tmps)=b:=by
  rw [←tf hc hr];have Je:((ops.toArray)[j]?).bind (·.dst)=some t:=by simpa using hj
  simp only [Region.wanted,yielded,Je,zac,hv];cases v <;> rfl
 rw [zag,iw];subst hn;have hi':∀ j:Nat,rest[j]?=ops[i+1+j]?:=λj=>by have:=hi (j+1);simpa [zce,zcw 1 j] using this
 cases b with
 | false=>exact eK.xF ho hw (hk (i+1) hi' g w _ hinv hh (qg (d:=some d) he hd (.gd _ _ _ (λ_=>rfl) (λh=>by cases h))) ia)
 | true =>
  rcases h rfl g S.base w tmps hinv (he.gd hE rfl) with ⟨v,dv,w',hr,hx,hb,hl⟩|⟨f',args,hr,hc⟩
  ·obtain ⟨ek,hs⟩:=hinv.grow (g':={ g with lim:=dv }) hb hl rfl rfl;exact eK.value ho hw hr (hk (i+1) hi' _ w' _ ek (hh.step hs) (qg (d:=some d) (he.mono hs.dO) hd (.gd _ _ _ (λh=>by cases h) (λ_=>hx))) ia)
  ·refine eK.call ho hw hr (hc.mono ?_);rintro e w' ⟨v,dv,rfl,hx,hb,hl⟩;obtain ⟨ek,hs⟩:=hinv.grow (g':={ g with lim:=dv }) hb hl rfl rfl;exact ⟨v,rfl,hk (i+1) hi' _ w' _ ek (hh.step hs) (qg (d:=some d) (he.mono hs.dO) hd (.gd _ _ _ (λh=>by cases h) (λ_=>hx))) ia⟩
theorem kg {sz:Nat}:∀ {rows:List (List D)} (h:∀ row∈rows,row.length=sz) {i j:Nat} {row:List D} {c:D},rows[i]?=some row->row[j]?=some c->rows.flatten[i*sz+j]?=some c
 | [],_,i,j,row,c,hr,_=>by simp at hr
 | r::rows,h,0,j,row,c,hr,hc=>by
  simp at hr;subst hr;rw [zem,zfo,zbp,zak (zad.1 hc).1];exact hc
 | r::rows,h,i+1,j,row,c,hr,hc=>by
  have hl:=h r (by simp);rw [zem,zcu,zat (by omega)];have:=kg (rows:=rows) (λr hr=>h r (by simp [hr])) (by simpa using hr) hc;rw [←this];congr 1;omega
theorem iQ {sz:Nat}:∀ {rows:List (List D)},(∀ row∈rows,row.length=sz)->rows.flatten.length=rows.length*sz
 | [],_=>by simp
 | r::rows,h=>by
  have h1:=h r (by simp);have h2:=iQ (rows:=rows) (λr hr=>h r (by simp [hr]));rw [zem,zai,h1,h2,zag,zcu];omega
theorem MI {g:bY} {w w0:World} {sz cap:Nat} {rows:List (List D)} {vs:Array Value} {e:TypeId} (hw:w0.heap=w.heap) (ME:w0.os=w.os) (ZA:w0.tape=w.tape) (T6:w0.output=w.output)
  (hr:∀ row∈rows,row.length=sz) (hc:rows.length<=cap) (hn:rows.length*sz<=vs.size)
  (fc:∀ (i:Nat) c (u:Value),rows.flatten[i]?=some c->vs[i]?=some u->dK g.lim w c u/\u.oneCell'=true) :
  ∃ dv,dK dv (w0.alloc (.cells vs e)) (.sl sz rows) (.slice (some ⟨w.heap.size,0,none⟩) rows.length cap)/\Below w.heap.size w (w0.alloc (.cells vs e))/\(∀ b,b<w.heap.size->dv b=g.lim b):=by
 have hb:Below w.heap.size w (w0.alloc (.cells vs e)):=by
  refine ⟨ME,ZA,T6,by simp [hw],λk hk=>?_⟩;rw [Below.heap_alloc _ _ _ (by rw [hw];exact hk),hw]
 let dv:Nat->Nat:=λb=>if b=w.heap.size then rows.length*sz else g.lim b
 have Aa:∀ b,b<w.heap.size->dv b=g.lim b:=λb hb=>by show (if _ then _ else _)=_;rw [zaa (by omega)]
 have Jp:(w0.alloc (.cells vs e)).heap[w.heap.size]?=some (.cells vs e):=by rw [←hw];exact heap_alloc_new w0 _
 have Po:Lf g.lim w dv (w0.alloc (.cells vs e)):=⟨hb.size,λb kc=>by rw [Aa b kc];exact zam _,λb off kc _=>hb.cell (p:=⟨b,off,none⟩) kc⟩
 have B8:∀ i,(w0.alloc (.cells vs e)).cell? ⟨w.heap.size,i,none⟩=vs[i]?:=λi=>cell_of_row _ _ i vs e (0,0) Jp
 have DL:=iQ hr;refine ⟨dv,.sl sz rows _ 0 cap hc hr ?_ ?_,hb,Aa⟩
 ·intro k hk;have hkv:k<vs.size:=by omega
  have hu:vs[k]?=some vs[k]:=zbe hkv;have RM:k<rows.flatten.length:=by omega
  refine ⟨by show 0+k<(if _ then _ else _);rw [zab rfl];omega,vs[k],by rw [zbp,B8];exact hu,(fc k _ _ (zaf RM) hu).2⟩
 ·intro i j row c u hi hj hu;rw [zbp,B8] at hu;exact ((fc _ c u (kg hr hi hj) hu).1).mono Po
theorem Pp {lim:Nat->Nat} {w:World} {sz:Nat} {rows:List (List D)} {v:Value} (h:dK lim w (.sl sz rows) v) :
  ∃ (A:Option Addr) (c:Nat) (vs:List Value),v=.slice A rows.length c/\vs.length=rows.length*sz/\(rows.length=0∨∃ b off,A=some ⟨b,off,none⟩)/\(A=none->rows.length=0/\c=0) /\
   (∀ b off,A=some ⟨b,off,none⟩->∀ (j:Nat) u,vs[j]?=some u->w.cell? ⟨b,off+j,none⟩=some u)/\(∀ row∈rows,row.length=sz) /\
   ∀ (j:Nat) u c,vs[j]?=some u->rows.flatten[j]?=some c->dK lim w c u/\u.oneCell'=true:=by
 cases h with
 | nil _ A=>exact ⟨A,0,[],rfl,by simp,.inl rfl,λ_=>⟨rfl,rfl⟩,by simp,by simp,by simp⟩
 | sl _ _ b off cap hc hr hx h =>
  have DL:=iQ hr;refine ⟨some ⟨b,off,none⟩,cap,(List.range (rows.length*sz)).map λj=>(w.cell? ⟨b,off+j,none⟩).getD undef,rfl,by simp,.inr ⟨b,off,rfl⟩,(λh=>by cases h),?_,hr,?_⟩
  ·intro b' Pq he j u hu;cases he;rw [zba] at hu;by_cases hj:j<rows.length*sz
   ·obtain ⟨_,u',vD,h1⟩:=hx j hj;simp [List.getElem?_range hj,vD] at hu;subst hu;exact vD
   ·simp [zbl (show (List.range (rows.length*sz)).length<=j by simp;omega)] at hu
  ·intro j u c hu sH;have hj:j<rows.length*sz:=by have:=(zad.1 sH).1;omega
   rw [zba] at hu;obtain ⟨_,u',vD,h1⟩:=hx j hj;simp [List.getElem?_range hj,vD] at hu;subst hu;refine ⟨?_,h1⟩;have fB:0<sz:=by
    rcases zek sz with h0|h0
    ·subst h0;omega
    ·exact h0
   have Lw:j=(j / sz)*sz+j % sz:=by rw [zdc];exact (zel j sz).symm
   have hi:j / sz<rows.length:=zdk (by rw [zdc];exact hj);have hm:j % sz<rows[j / sz].length:=by rw [hr _ (zfi hi)];exact zec _ fB
   have hg:=kg hr (zaf hi) (zaf hm);rw [←Lw,sH] at hg;cases hg;refine h (j / sz) (j % sz) _ _ u' (zaf hi) (zaf hm) ?_;rw [←Lw];exact vD
theorem Ub {lim:Nat->Nat} {w:World} {sz:Nat} {rows:List (List D)} {A:Option Addr} {c l h:Nat} (hd:dK lim w (.sl sz rows) (.slice A rows.length c)) (hlh:l<=h) (hh:h<=rows.length) (hc:rows.length<=c) :
  dK lim w (.sl sz ((rows.take h).drop l)) (sliced A l h c sz):=by
 unfold sliced;have hlen:((rows.take h).drop l).length=h-l:=by simp;omega
 cases hd with
 | nil =>
  have:h=0:=by simpa using hh
  subst this;have:l=0:=by omega
  subst this;simpa using dK.nil sz _
 | sl _ _ b off cap sH hr hx fc =>
  have key:∀ Pq,(Pq=off+l*sz∨h-l=0)->dK lim w (.sl sz ((rows.take h).drop l)) (.slice (some ⟨b,Pq,none⟩) (h-l) (c-l)):=by
   intro Pq ho;rw [←hlen];refine .sl sz _ b Pq (c-l) (by rw [hlen];omega) (λrow hm=>hr row (zed (zct hm))) ?_ ?_
   ·intro k hk;rw [hlen] at hk;rcases ho with rfl|h0
    ·have hb:l*sz+k<rows.length*sz:=by
      have h1:(l+(h-l))*sz<=rows.length*sz:=zcl sz (by omega);rw [zcu] at h1;omega
     have:=hx (l*sz+k) hb;rw [zce];exact this
    ·rw [h0,zfo] at hk;omega
   ·intro i j row cc u hi hj hu;rcases ho with rfl|h0
    ·rw [zaz,zaj] at hi;split at hi
     ·refine fc (l+i) j row cc u hi hj ?_;rw [←hu];congr 2;rw [zcu];omega
     ·cases hi
    ·have:=(zad.1 hi).1;omega
  split
  ·rename_i r7;exact key off (.inr (by omega))
  ·simp only [Option.map_some,Addr.add_lit];exact key _ (.inl rfl)
end g
def uy:EV->Option (Nat×List (List D))
 | .d (.sl sz rows)=>some (sz,rows)
 | .d (.e0 sz)=>some (sz,[])
 | .cE sz rows _=>some (sz,rows)
 | _=>none
theorem rp {g:bY} {w:World} {st:St} {e:EV} {sz:Nat} {rows:List (List D)} {v:Value} (h:uy e=some (sz,rows)) (hv:bM g w st e v):dK g.lim w (.sl sz rows) v:=by
 unfold uy at h;split at h
 ·cases h;cases hv with|d _ _ h=>exact h
 ·cases h;cases hv with|d _ _ h=>exact D.MD h
 ·cases h;cases hv with|cE _ _ _ _ _ _ h=>exact h
 ·cases h
section q
variable {P:Program} {base:Nat} {env:Env} {st:St} {d:Option Tmp} {ty:TypeId} {pos:String} {after:Array Edge} {gd:Option (Nat×Bool)} {t t2 e:TypeId} {x y z:Operand}
theorem qR (ht:P.underlying t=some (.slice e)):P.elem t=e:=by simp [Program.elem,ht]
theorem ov {inf:TypeInfo} {e:TypeId} (hi:P.info? e=some inf) (w:World):(sizeOf e).run P w=.ok inf.size w:=by simp [sizeOf,typeInfo,hi]
section sl
variable {sz:Nat} {rows:List (List D)} {ev:EV} {inf:TypeInfo} (ht:P.underlying t=some (.slice e)) (hi:P.info? e=some inf) (fB:inf.size=sz) (hx:cY env x=some ev) (hs:uy ev=some (sz,rows))
include ht hi fB hx hs
theorem Lx {g:bY} {w:World} {tmps:Array Value} (he:eh g w st env tmps) {l h:Nat} (hlh:l<=h) (hh:h<=rows.length) {lo hi':Option Operand}
  (hb:∀ (A:Option Addr) (c:Nat),rows.length<=c->∀ w':World,(Instr.slice t (.slice A rows.length c) (lo.map (Act.eval ⟨tmps,[]⟩)) (hi'.map (Act.eval ⟨tmps,[]⟩)) none).run P w'=.ok (sliced A l h c sz) w') :
  ∃ v,bM g w st (.d (.sl sz ((rows.take h).drop l))) v/\∀ w',Below w.heap.size w w'->(execOp (Act.eval ⟨tmps,[]⟩) ⟨d,.slice t x lo hi' none,ty,pos,after,gd⟩).run P w'=.ok (.value v) w':=by
 have hd:=rp hs (aN he hx);obtain ⟨A,c,hv⟩:=Ea hd;rw [hv] at hd;have hc:rows.length<=c:=by
  cases hd with
  | nil=>exact zam _
  | sl _ _ _ _ _ hc=>exact hc
 refine ⟨_,.d _ _ (Ub hd hlh hh hc),λw' _=>?_⟩;simp only [execOp,hv,Sem.run_bind,run_sliceAt_slice w' t _ _ _ _ (by rw [qR ht];exact ht),Option.map_none,hb A c hc w',Result.andThen_ok,Sem.run_pure]
theorem Uc {kl kh:IntKind} {l h:Int} (hy:cY env y=some (.d (.ex (.int kl l)))) (hz:cY env z=some (.d (.ex (.int kh h)))) (h0:0<=l) (h1:l<=h) (h2:h<=rows.length) :
  aG P env st ⟨d,.slice t x (some y) (some z) none,ty,pos,after,gd⟩ (.d (.sl sz ((rows.take h.toNat).drop l.toNat))):=λg base w tmps hinv he =>
 Lx ht hi fB hx hs he (by omega) (by omega) λA c hc w'=>by
  simp only [Option.map_some,(aN he hy).bJ,(aN he hz).bJ];rw [run_slice_lh w' t A rows.length c (by rw [qR ht];exact ht) kl kh l h h0 h1 (by omega)];simp [qR ht,ov hi,fB]
theorem Xr {kh:IntKind} {h:Int} (hz:cY env z=some (.d (.ex (.int kh h)))) (h0:0<=h) (h2:h<=rows.length) :
  aG P env st ⟨d,.slice t x none (some z) none,ty,pos,after,gd⟩ (.d (.sl sz (rows.take h.toNat))):=λg base w tmps hinv he=>by
 have:=Lx (d:=d) (ty:=ty) (pos:=pos) (after:=after) (gd:=gd) ht hi fB hx hs he (l:=0) (h:=h.toNat) (lo:=none) (hi':=some z) (by omega) (by omega) λA c hc w'=>by
  simp only [Option.map_some,Option.map_none,(aN he hz).bJ];rw [run_slice_h w' t A rows.length c (by rw [qR ht];exact ht) kh h h0 (by omega)];simp [qR ht,ov hi,fB]
 simpa using this
theorem Xs {kl:IntKind} {l:Int} (hy:cY env y=some (.d (.ex (.int kl l)))) (h0:0<=l) (h1:l<=rows.length) :
  aG P env st ⟨d,.slice t x (some y) none none,ty,pos,after,gd⟩ (.d (.sl sz (rows.drop l.toNat))):=λg base w tmps hinv he=>by
 have:=Lx (d:=d) (ty:=ty) (pos:=pos) (after:=after) (gd:=gd) ht hi fB hx hs he (l:=l.toNat) (h:=rows.length) (lo:=some y) (hi':=none) (by omega) (by omega) λA c hc w'=>by
  simp only [Option.map_some,Option.map_none,(aN he hy).bJ];rw [run_slice_l w' t A rows.length c (by rw [qR ht];exact ht) kl l h0 (by omega)];simp [qR ht,ov hi,fB]
 simpa using this
end sl
section str
variable {a:List UInt8} (ht:P.underlying t=some .string) (hx:cY env x=some (.d (.ex (.string ⟨a.toArray⟩))))
include ht hx
theorem RN {kl kh:IntKind} {l h:Int} (hy:cY env y=some (.d (.ex (.int kl l)))) (hz:cY env z=some (.d (.ex (.int kh h)))) (h0:0<=l) (h1:l<=h) (h2:h<=a.length) :
  aG P env st ⟨d,.slice t x (some y) (some z) none,ty,pos,after,gd⟩ (.d (.ex (.string ⟨((a.drop l.toNat).take (h.toNat-l.toNat)).toArray⟩))):=qh λg w tmps w' he=>by
 have e1:(h.toNat:Int)=h:=Int.toNat_of_nonneg (by omega);have Js:=run_sliceBound (P:=P) w' kl l h.toNat .sliceB h0 (by omega);have Lg:=run_sliceBound (P:=P) w' kh h a.length .sliceAlen (by omega) h2;simp [execOp,(aN he hx).bJ,(aN he hy).bJ,(aN he hz).bJ,Instr.sliceAt,Instr.slice,run_underlying ht,Instr.sliceBounds,ByteArray.size_mk',Js,Lg,ByteArray.extract_mk]
end str
structure Src (P:Program) (w:World) (sz:Nat) (u:Value) (m:Nat) (news:List Value):Prop where
 len:Builtin.lenOf u=pure m
 cells:∀ w':World,w'.heap=w.heap->(Builtin.firstCells sz m u).run P w'=.ok news.toArray w'
 size:news.length=m*sz
 one:∀ v∈news,v.oneCell'=true
theorem kR (w:World) {base ty sz:Nat} {inf:TypeInfo} {zv:Value} {d2:TypeDesc} (ht:P.underlying t=some (.slice e)) (B9:P.underlying t2=some d2) (F9:d2=.string∨∃ e2,d2=.slice e2) (hi:P.info? e=some inf) (hz:inf.zero=some zv)
  (eO:inf.size=sz) (p9:zv.cells.size=sz) {v:Value} {n:Nat} {xs:List Value} (j5:w.ownsRow base e sz v n xs) {u:Value} {m:Nat} {news:List Value} (hs:Src P w sz u m news)
  (Ly:n+m<=maxLen) (Pr:(n+m)*inf.bytes<=140737488355328) (kf:base<=w.heap.size) :
  ∃ v' w',(Builtin.append_ #[t,t2] ty #[v,u]).run P w=.ok v' w'/\w'.ownsRow base e sz v' (n+m) (xs++news)/\(m=0->v'=v) /\
   ((v'.ownBlock=v.ownBlock/\w'.heap.size=w.heap.size/\w.grownBy w' v.ownBlock)∨(v'.ownBlock=some w.heap.size/\Below w.heap.size w w')):=by
 rcases F9 with rfl|⟨e2,rfl⟩
 all_goals
  subst eO;have ZC:n+m<=9223372036854775807:=by simp only [maxLen] at Ly;omega
  have hlen:(xs++news).length=(n+m)*inf.size:=by rw [zai,j5.1,hs.size,zcu]
  have hl:=hs.len;have grown:∀ (old:Nat),old<n+m ->
    (w.drew.alloc (.cells (xs.toArray++news.toArray++Builtin.zeroCells zv.cells (grownCap w (n+m) old e-(n+m))) e)).ownsRow base e inf.size
     (.slice (some ⟨w.heap.size,0,none⟩) (n+m) (grownCap w (n+m) old e)) (n+m) (xs++news) /\
    Below w.heap.size w (w.drew.alloc (.cells (xs.toArray++news.toArray++Builtin.zeroCells zv.cells (grownCap w (n+m) old e-(n+m))) e)):=by
   intro old ho;have Rx:=grownCap_ge w (n+m) old e;have zb:grownCap w (n+m) old e<=maxLen:=grownCap_le_maxLen w (n+m) old e Ly;refine ⟨⟨hlen,.inr ⟨w.heap.size,_,_,rfl,kf,heap_alloc_new w.drew _,Rx,zb,?_,?_⟩⟩,((Below.refl _ w).drew).alloc (zam _) _⟩
   ·simp only [zfc,zbq,size_zeroCells,p9,j5.1,hs.size,←zcu];congr 1;omega
   ·simp only [zfu,zax];rw [←zax,←hlen];exact List.take_left
  rcases j5.2 with ⟨rfl,rfl⟩|⟨g,cap,cur,rfl,ZD,hg,EA,zb,yC,MJ⟩
  ·have hx:xs=[]:=zaw (by simpa using j5.1);subst hx;by_cases hm:m=0
   ·subst hm;have hn:news=[]:=zaw (by simpa using hs.size);subst hn;refine ⟨.slice none 0 0,w,?_,World.ownsRow_nil w base e inf.size,λ_=>rfl,.inl ⟨rfl,rfl,⟨rfl,rfl,rfl,zam _,λ_ _ _=>rfl⟩⟩⟩;have hf:=hs.cells w rfl;simp [Builtin.append_,run_underlying ht,run_underlying B9,sizeOf,typeInfo,hi,hl,hf]
   ·have Ud:=grown 0 (by omega);refine ⟨_,_,?_,Ud.1,λh0=>by omega,.inr ⟨rfl,Ud.2⟩⟩;have hf:=hs.cells w.drew rfl;have RO:¬ m=0:=hm;have LA:¬ (9223372036854775807<(m:Int)):=by omega
    have LB:¬ (281474976710656<Builtin.nextslicecap m 0*inf.bytes):=by
     have kc:=Pr;rw [zbp] at kc;have:=growslice_fits (need:=m) (old:=0) (by omega) kc;omega
    simp [Builtin.append_,run_underlying ht,run_underlying B9,sizeOf,typeInfo,zeroValue,hi,hz,hl,RO,LA,LB,Question.forced,run_firstCells_none,hf,newRow,grownCap]
  ·by_cases uG:n+m<=cap
   ·have AY:n*inf.size+news.length<=cur.size:=by rw [hs.size,yC,←zcu];exact zcl _ uG
    have lX:=run_storeCells_at P g (n*inf.size) e news 0 cur w hg (by simpa using AY) hs.one;simp only [zdb] at lX;have hf:=hs.cells w rfl;refine ⟨.slice (some ⟨g,0,none⟩) (n+m) cap,w.setRow g (cur.toList.take (n*inf.size)++news++cur.toList.drop (n*inf.size+news.length)).toArray,?_,⟨hlen,.inr ⟨g,cap,_,rfl,ZD,setRow_heap w g cur _ e _ hg,uG,zb,?_,?_⟩⟩,λh0=>by subst h0;rfl,.inl ⟨rfl,by simp,⟨rfl,rfl,rfl,by simp,λk _ hk=>setRow_other w g k _ (λe=>hk (by simp [Value.ownBlock,e]))⟩⟩⟩
    ·simp [Builtin.append_,run_underlying ht,run_underlying B9,sizeOf,typeInfo,hi,hl,uG,hf,Addr.add_lit,lX]
    ·simp only [zbq,zai,zay,zbh,zcm];omega
    ·rw [MJ,←hlen];exact List.take_left
   ·have holds:∀ j u,xs[j]?=some u->w.cell? ((⟨g,0,none⟩:Addr).add j)=some u:=j5.cells (g:=g) rfl;have Ud:=grown cap (by omega);refine ⟨_,_,?_,Ud.1,λh0=>by omega,.inr ⟨rfl,Ud.2⟩⟩;have hf:=hs.cells w.drew rfl;have hold:=run_firstCells_some (P:=P) w.drew inf.size n ⟨g,0,none⟩ n cap xs j5.1 (by simpa using holds);have LA:¬ (9223372036854775807<((n:Int)+(m:Int))):=by omega
    have LB:¬ (281474976710656<Builtin.nextslicecap (n+m) cap*inf.bytes):=by
     have:=growslice_fits (need:=n+m) (old:=cap) (by omega) Pr;omega
    simp [Builtin.append_,run_underlying ht,run_underlying B9,sizeOf,typeInfo,zeroValue,hi,hz,hl,uG,LA,LB,Question.forced,hold,hf,newRow,grownCap];rw [show (xs++news).toArray=xs.toArray++news.toArray from by simp,Array.append_assoc]
end q
theorem HH {w:World} {lim:Nat->Nat} {base e sz n:Nat} {v:Value} {xs:List Value} {rows:List (List D)} (ho:w.ownsRow base e sz v n xs) (hn:rows.length=n) (hr:∀ row∈rows,row.length=sz)
  (hl:∀ b,v.ownBlock=some b->n*sz<=lim b) (hx:∀ (j:Nat) u c,xs[j]?=some u->rows.flatten[j]?=some c->dK lim w c u/\u.oneCell'=true):dK lim w (.sl sz rows) v:=by
 rcases ho.2 with ⟨rfl,rfl⟩|⟨g,cap,cur,rfl,hb,hg,EA,zb,yC,MJ⟩
 ·have:rows=[]:=zaw hn;subst this;exact .nil sz _
 ·subst hn;have DL:=iQ hr;have r8:=ho.cells (g:=g) rfl;refine .sl sz rows g 0 cap EA hr ?_ ?_
  ·intro k hk;have Xt:k<xs.length:=by rw [ho.1];exact hk
   have h1:=r8 k xs[k] (zaf Xt);rw [Addr.add_lit] at h1;have RM:k<rows.flatten.length:=by rw [DL];exact hk
   exact ⟨by have:=hl g rfl;omega,xs[k],h1,(hx k _ _ (zaf Xt) (zaf RM)).2⟩
  ·intro i j row c u hi hj hu;have cZ:=zZ (zad.1 hi).1 (show j<sz by rw [←hr row (zbg hi)];exact (zad.1 hj).1);have Xt:i*sz+j<xs.length:=by rw [ho.1];exact cZ
   have h1:=r8 _ xs[i*sz+j] (zaf Xt);rw [Addr.add_lit,hu] at h1;cases h1;exact (hx _ _ _ (zaf Xt) (kg hr hi hj)).1
structure Ad (P:Program) (lim:Nat->Nat) (w:World) (sz:Nat) (u:Value) (rs:List (List D)) (news:List Value):Prop where
 src:Src P w sz u rs.length news
 rows:∀ row∈rs,row.length=sz
 rep:∀ (j:Nat) v c,news[j]?=some v->rs.flatten[j]?=some c->dK lim w c v/\v.oneCell'=true
theorem tg {P:Program} {lim:Nat->Nat} {w:World} {sz:Nat} {u:Value} {rows:List (List D)} (h:dK lim w (.sl sz rows) u):∃ news,Ad P lim w sz u rows news:=by
 obtain ⟨A,c,vs,rfl,hl,hA,Ga,fc,hr,nG⟩:=Pp h;have DL:=iQ hr;refine ⟨vs,⟨rfl,λw' hw=>?_,hl,λv hv=>?_⟩,hr,nG⟩
 ·cases A with
  | none =>
   have:vs=[]:=zaw (by rw [hl,(Ga rfl).1];simp);subst this;simp [Builtin.firstCells]
  | some ad =>
   rcases hA with h0|⟨b,off,Ca⟩
   ·have:vs=[]:=zaw (by rw [hl,h0];simp);subst this;simp [Builtin.firstCells,h0,loadCells,loadCellsFrom]
   ·cases Ca;refine run_firstCells_some w' sz rows.length _ _ c vs hl λj v hv=>?_
    rw [Addr.add_lit];have:=fc b off rfl j v hv;simpa [World.cell?,hw] using this
 ·obtain ⟨j,hj⟩:=zcq.1 hv;have Je:=(zad.1 hj).1;exact (nG j v _ hj (zaf (by omega))).2
section append
variable {P:Program} {g:bY} {base:Nat} {w:World} {st:St}
def gK.LC (x:gK):Nat:=if x.own=none then x.n*x.sz else 0
theorem tC {x:gK} (h:x.own=none):x.LC=x.n*x.sz:=by simp [gK.LC,h]
theorem AZ {x:gK} {p:List (List D)} (h:x.own=some p):x.LC=0:=by simp [gK.LC,h]
theorem Inv.Jt (h:Inv g base w st) {t:Nat} {x:gK} (hx:st.au[t]?=some x) {b:Nat} (hb:(g.tk t).ownBlock=some b):g.lim b=x.LC:=by
 obtain ⟨e,sz,n,own⟩:=x;cases own with
 | none=>obtain ⟨xs,_,h2⟩:=h.tail t e sz n hx;exact h2 b hb
 | some rows=>obtain ⟨xs,_,h2,_⟩:=h.own t e sz n rows hx;exact h2 b hb
theorem Inv.NW (h:Inv g base w st) {tk:Nat} {x x':gK} (e9:st.au[tk]?=some x) {v':Value} {w':World} {Td:List Value} (j1:w'.ownsRow base x'.e x'.sz v' x'.n Td)
  (hc:(v'.ownBlock=(g.tk tk).ownBlock/\w'.heap.size=w.heap.size/\w.grownBy w' (g.tk tk).ownBlock)∨(v'.ownBlock=some w.heap.size/\Below w.heap.size w w'))
  (RP:x.own=none->x'.own=none/\x'.e=x.e/\x'.sz=x.sz/\x.n<=x'.n/\(x'.n=x.n->v'=g.tk tk)/\(∀ b,(g.tk tk).ownBlock=some b->v'.ownBlock=some b->∀ off,off<x.n*x.sz->w'.cell? ⟨b,off,none⟩=w.cell? ⟨b,off,none⟩))
  (ZE:∀ rows,x.own=some rows->∀ bw,x'.own=some bw->x'.sz=x.sz/\x.n<=x'.n/\(x.n=x'.n->v'=g.tk tk))
  (nG:∀ bw,x'.own=some bw->dt g.lim w x'.sz x'.n bw Td) :
  ∃ g',g'.tk tk=v'/\(∀ b,v'.ownBlock=some b->g'.lim b=x'.LC)/\Inv g' base w' (st.bD tk x')/\Step base g w st g' w' (st.bD tk x'):=by
 have EB:∀ b,(g.tk tk).ownBlock=some b->g.lim b=x.LC:=λb hb=>h.Jt e9 hb
 have cZ:∀ b,(g.tk tk).ownBlock=some b->base<=b/\b<w.heap.size:=λb hb=>h.wv e9 hb
 have hlen:tk<st.au.length:=(zad.1 e9).1;have eO:w.heap.size<=w'.heap.size:=by rcases hc with ⟨_,h1,_⟩|⟨_,h1⟩;omega;exact h1.size
 have ME:w'.os=w.os/\w'.tape=w.tape/\w'.output=w.output:=by rcases hc with ⟨_,_,h1⟩|⟨_,h1⟩ <;> exact ⟨h1.os,h1.tape,h1.output⟩
 have lY:∀ k,k<w.heap.size->(g.tk tk).ownBlock≠some k->w'.heap[k]?=w.heap[k]?:=by
  intro k hk fh;rcases hc with ⟨_,_,h1⟩|⟨_,h1⟩
  ·exact h1.block k hk (zcb fh)
  ·exact h1.block k hk
 have tA:∀ k,k<w.heap.size->(g.tk tk).ownBlock≠some k->v'.ownBlock≠some k:=by
  intro k hk fh;rcases hc with ⟨h1,_,_⟩|⟨h1,_⟩ <;> rw [h1]
  ·exact fh
  ·intro he;cases he;omega
 let g':bY:=⟨λb=>if v'.ownBlock=some b then x'.LC else g.lim b,g.ob,λt=>if t=tk then v' else g.tk t⟩
 have xI:∀ b,v'.ownBlock=some b->g'.lim b=x'.LC:=λb hb=>by show (if _ then _ else _)=_;rw [zab hb]
 have lQ:∀ b,v'.ownBlock≠some b->g'.lim b=g.lim b:=λb hb=>by show (if _ then _ else _)=_;rw [zaa hb]
 have zc:g'.tk tk=v':=by show (if tk=tk then v' else _)=_;rw [zab rfl]
 have wz:∀ t,t≠tk->g'.tk t=g.tk t:=λt ht=>by show (if t=tk then v' else _)=_;rw [zaa ht]
 have A0:∀ k,k<base->(g.tk tk).ownBlock≠some k:=λk hk he=>by have:=(cZ k he).1;omega
 have mT:Below base w w':=⟨ME.1,ME.2.1,ME.2.2,eO,λk hk=>lY k (zbk hk h.base) (A0 k hk)⟩;have Xu:x.own=none->x.LC<=x'.LC:=by
  intro hx;obtain ⟨h1,_,h3,h4,_⟩:=RP hx;rw [tC hx,tC h1,h3];exact zcl _ h4
 have hzero:x.own≠none->x.LC=0:=λhx=>by cases ho:x.own with|none=>exact absurd ho hx|some p=>exact AZ ho
 have A1:Lf g.lim w g'.lim w':=by
  refine ⟨eO,λb hb=>?_,λb off hb ho=>?_⟩
  ·by_cases he:v'.ownBlock=some b
   ·rw [xI b he];have kc:(g.tk tk).ownBlock=some b:=by
     rcases hc with ⟨h1,_,_⟩|⟨h1,_⟩
     ·rw [←h1];exact he
     ·rw [h1] at he;cases he;omega
    rw [EB b kc];by_cases hx:x.own=none
    ·exact Xu hx
    ·rw [hzero hx];exact zfg _
   ·rw [lQ b he];exact zam _
  ·by_cases he:(g.tk tk).ownBlock=some b
   ·rcases hc with ⟨h1,_,_⟩|⟨_,h1⟩
    ·rw [EB b he] at ho;by_cases hx:x.own=none
     ·rw [tC hx] at ho;exact (RP hx).2.2.2.2.2 b he (h1.trans he) off ho
     ·rw [hzero hx] at ho;omega
    ·exact h1.cell (p:=⟨b,off,none⟩) hb
   ·exact World.cell?_of_block (w:=w) (a:=⟨b,off,none⟩) (lY b hb he)
 have wA:∀ t y,t≠tk->(st.bD tk x').au[t]?=some y->st.au[t]?=some y:=λt y ht hy=>by simpa [St.bD,zbj,zcb ht] using hy
 have HJ:∀ y,(st.bD tk x').au[tk]?=some y->y=x':=λy hy=>by
  have:x'=y:=by simpa [St.bD,zbj,hlen] using hy
  exact this.symm
 have hs:u4 g w st g' w' (st.bD tk x'):=by
  refine ⟨A1,λ_ _=>rfl,zam _,λt e' Jg n' ht=>?_,by simp [St.bD],λt y bw kQ hy ho=>?_⟩
  ·by_cases xh:t=tk
   ·subst xh;rw [e9] at ht;cases ht;obtain ⟨h1,h2,h3,h4,h5,_⟩:=RP rfl;obtain ⟨e1,s1,n1,o1⟩:=x';simp only at h1 h2 h3 h4 h5;subst h1;subst h2;subst h3;exact ⟨n1,by simp [St.bD,zbj,hlen],h4,λhe=>by rw [zc];exact h5 he⟩
   ·exact ⟨n',by simp [St.bD,zbj,zcb xh,ht],zam _,λ_=>wz t xh⟩
  ·by_cases xh:t=tk
   ·subst xh;have:=HJ y hy;subst this;cases hx:x.own with
    | none=>rw [(RP hx).1] at ho;cases ho
    | some rows =>
     obtain ⟨h1,h2,h3⟩:=ZE rows hx bw ho;exact ⟨x,rows,e9,hx,h1.symm,h2,λe=>by rw [zc];exact h3 e⟩
   ·exact ⟨y,bw,wA t y xh hy,ho,rfl,zam _,λ_=>wz t xh⟩
 have A2:∀ o,st.live o->g.ob o<w.heap.size/\(g.tk tk).ownBlock≠some (g.ob o):=λo ho=>⟨(h.wy ho).1,h.iu tk _ o e9 ho⟩
 have Rw:∀ o y,st.aO[o]?=some (.raw y)->base<=g'.ob o/\g'.lim (g'.ob o)=0/\w'.heap[g'.ob o]?=some y:=by
  intro o y hx;obtain ⟨h1,h2,h3⟩:=h.raw o y hx;obtain ⟨k1,k2⟩:=A2 o ⟨_,hx,by simp⟩;exact ⟨h1,(lQ _ (tA _ k1 k2)).trans h2,by show w'.heap[g.ob o]?=_;rw [lY _ k1 k2];exact h3⟩
 have gY:∀ t y,t≠tk->(st.bD tk x').au[t]?=some y->∀ b,(g.tk t).ownBlock=some b->b<w.heap.size/\(g.tk tk).ownBlock≠some b/\v'.ownBlock≠some b:=λt y xh hy b hb=>by
  have h1:=(h.wv (wA t y xh hy) hb).2;have h2:=h.nF t tk _ _ b xh (wA t _ xh hy) e9 hb;exact ⟨h1,h2,tA b h1 h2⟩
 refine ⟨g',zc,xI,⟨zcz h.base eO,?_,?_,Rw,h.ne,?_,?_,?_,h.DH.below mT,?_⟩,⟨hs,mT,λb hb=>lQ b (tA b (zbk hb h.base) (A0 b hb)),λb hb hn=>?_,λb hb hw=>?_⟩⟩
 ·intro o ty cs hx;obtain ⟨h1,h2,vs,h3,h4,h5⟩:=h.row o ty cs hx;obtain ⟨k1,k2⟩:=A2 o ⟨_,hx,by simp⟩;exact ⟨h1,(lQ _ (tA _ k1 k2)).trans h2,vs,by show w'.heap[g.ob o]?=_;rw [lY _ k1 k2];exact h3,h4,λi c u hc hu=>⟨(h5 i c u hc hu).1.mono hs,(h5 i c u hc hu).2⟩⟩
 ·intro o es hx;obtain ⟨h1,ms,c,h3,h4,h5,h6⟩:=h.map o es hx;obtain ⟨k1,k2⟩:=A2 o ⟨_,hx,by simp⟩;exact ⟨h1,ms,c,by show w'.heap[g.ob o]?=_;rw [lY _ k1 k2];exact h3,h4,λi k y m a b=>⟨(h5 i k y m a b).1,(h5 i k y m a b).2.mono hs⟩,h6⟩
 ·intro t e' Jg n' ht;by_cases xh:t=tk
  ·subst xh;have:=HJ _ ht;subst this;rw [zc];exact ⟨_,j1,λb hb=>(xI b hb).trans (tC rfl)⟩
  ·obtain ⟨ys,k1,k2⟩:=h.tail t e' Jg n' (wA t _ xh ht);rw [wz t xh];exact ⟨ys,fu k1 λb hb=>lY b (gY t _ xh ht b hb).1 (gY t _ xh ht b hb).2.1,λb hb=>by rw [lQ b (gY t _ xh ht b hb).2.2];exact k2 b hb⟩
 ·intro t t' y y' b fh ht uH hb;by_cases h1:t=tk
  ·subst h1;rw [zc] at hb;rw [wz t' (zcb fh)];intro kc;exact (gY t' _ (zcb fh) uH b kc).2.2 hb
  ·rw [wz t h1] at hb;by_cases h2:t'=tk
   ·subst h2;rw [zc];exact (gY t _ h1 ht b hb).2.2
   ·rw [wz t' h2];exact h.nF t t' _ _ b fh (wA t _ h1 ht) (wA t' _ h2 uH) hb
 ·intro t y o ht ho;obtain ⟨k1,k2⟩:=A2 o ho;by_cases h1:t=tk
  ·subst h1;rw [zc];exact tA _ k1 k2
  ·rw [wz t h1];exact h.iu t y o (wA t _ h1 ht) ho
 ·intro t e' Jg n' bw ht;by_cases xh:t=tk
  ·subst xh;have:=HJ _ ht;subst this;rw [zc];exact ⟨_,j1,λb hb=>(xI b hb).trans (AZ rfl),(nG bw rfl).mono A1⟩
  ·obtain ⟨ys,k1,k2,k3⟩:=h.own t e' Jg n' bw (wA t _ xh ht);rw [wz t xh];exact ⟨ys,fu k1 λb hb=>lY b (gY t _ xh ht b hb).1 (gY t _ xh ht b hb).2.1,λb hb=>by rw [lQ b (gY t _ xh ht b hb).2.2];exact k2 b hb,k3.mono A1⟩
 ·have fh:(g.tk tk).ownBlock≠some b:=λe=>hn (.inr ⟨tk,x,e9,e⟩)
  exact ⟨lY b hb fh,lQ b (tA b hb fh)⟩
 ·rcases hw with ⟨o,h1,h2⟩|⟨t,y,h1,h2⟩
  ·exact .inl ⟨o,h1,h2⟩
  ·by_cases xh:t=tk
   ·subst xh;rw [zc] at h2;rcases hc with ⟨c1,_,_⟩|⟨c1,_⟩
    ·exact .inr ⟨t,x,e9,by rw [←c1];exact h2⟩
    ·rw [c1] at h2;cases h2;omega
   ·rw [wz t xh] at h2;exact .inr ⟨t,y,wA t y xh h1,h2⟩
theorem Inv.append (h:Inv g base w st) {tk e sz n m:Nat} (e9:st.au[tk]?=some ⟨e,sz,n,none⟩) {v':Value} {w':World} {xs news:List Value} (j5:w.ownsRow base e sz (g.tk tk) n xs) (j1:w'.ownsRow base e sz v' (n+m) (xs++news))
  (RO:m=0->v'=g.tk tk)
  (hc:(v'.ownBlock=(g.tk tk).ownBlock/\w'.heap.size=w.heap.size/\w.grownBy w' (g.tk tk).ownBlock)∨(v'.ownBlock=some w.heap.size/\Below w.heap.size w w')) :
  ∃ g',g'.tk tk=v'/\(∀ b,v'.ownBlock=some b->g'.lim b=(n+m)*sz)/\Inv g' base w' (st.bD tk ⟨e,sz,n+m,none⟩)/\Step base g w st g' w' (st.bD tk ⟨e,sz,n+m,none⟩):=by
 obtain ⟨g',h1,h2,h3,h4⟩:=h.NW (x':=⟨e,sz,n+m,none⟩) e9 j1 hc
  (λ_=>⟨rfl,rfl,rfl,Nat.le_add_right _ _,λhe=>RO (by simp only at he;omega),λb he hv off ho=>by
   have ZF:off<xs.length:=by rw [j5.1];exact ho
   have c1:=j5.cells he off xs[off] (zaf ZF);have c2:=j1.cells hv off xs[off] (by rw [zak ZF];exact zaf ZF);rw [Addr.add_lit,zbp] at c1 c2;rw [c1,c2]⟩)
  (λrows hh=>by cases hh) (λrows hh=>by cases hh)
 exact ⟨g',h1,λb hb=>(h2 b hb).trans (tC rfl),h3,h4⟩
theorem Inv.sV (h:Inv g base w st) (x:gK) {v:Value} {w':World} {xs:List Value} (j5:w'.ownsRow base x.e x.sz v x.n xs)
  (hc:(w'=w/\v.ownBlock=none)∨(v.ownBlock=some w.heap.size/\Below w.heap.size w w'))
  (nG:∀ rows,x.own=some rows->dt g.lim w x.sz x.n rows xs) :
  ∃ g',g'.tk st.au.length=v/\(∀ b,v.ownBlock=some b->g'.lim b=x.LC)/\(∀ b,b<w.heap.size->g'.lim b=g.lim b)/\Inv g' base w' (st.tok x)/\Step base g w st g' w' (st.tok x):=by
 have mT:Below w.heap.size w w':=by
  rcases hc with ⟨rfl,_⟩|⟨_,h1⟩
  ·exact .refl _ _
  ·exact h1
 have WN:∀ b,v.ownBlock=some b->b=w.heap.size:=by
  intro b hb;rcases hc with ⟨_,h1⟩|⟨h1,_⟩
  ·rw [h1] at hb;cases hb
  ·rw [h1] at hb;cases hb;rfl
 let g':bY:=⟨λb=>if v.ownBlock=some b then x.LC else g.lim b,g.ob,λt=>if t=st.au.length then v else g.tk t⟩
 have xI:∀ b,v.ownBlock=some b->g'.lim b=x.LC:=λb hb=>by show (if _ then _ else _)=_;rw [zab hb]
 have lQ:∀ b,b<w.heap.size->g'.lim b=g.lim b:=λb hb=>by
  show (if _ then _ else _)=_;rw [zaa];intro e;have:=WN b e;omega
 have h1:g'.tk st.au.length=v:=by show (if _ then _ else _)=_;rw [zab rfl]
 have h2:∀ t,t≠st.au.length->g'.tk t=g.tk t:=λt ht=>by show (if _ then _ else _)=_;rw [zaa ht]
 have hold:∀ t y,(st.tok x).au[t]?=some y->(t<st.au.length/\st.au[t]?=some y)∨(t=st.au.length/\y=x):=by
  intro t y hx;have cZ:=(zad.1 hx).1;simp [St.tok] at cZ;by_cases ht:t<st.au.length
  ·exact .inl ⟨ht,by simpa [St.tok,zak ht] using hx⟩
  ·have:t=st.au.length:=by omega
   subst this;exact .inr ⟨rfl,by simpa [St.tok,zeo] using hx⟩
 have A1:Lf g.lim w g'.lim w':=⟨mT.size,λb hb=>by rw [lQ b hb];exact zam _,λb off hb _=>mT.cell (p:=⟨b,off,none⟩) hb⟩
 have hs:u4 g w st g' w' (st.tok x):=⟨A1,λ_ _=>rfl,zam _,λt e' Jg n ht=>by
  have cZ:=(zad.1 ht).1;exact ⟨n,by simp [St.tok,zak cZ,ht],zam _,λ_=>h2 t (by omega)⟩,by simp [St.tok],vE λt y bw cZ hy _=>⟨by
   rcases hold t y hy with ⟨_,hh⟩|⟨hh,_⟩
   ·exact hh
   ·omega,h2 t (by omega)⟩⟩
 have fh:∀ t y b,st.au[t]?=some y->(g.tk t).ownBlock=some b->v.ownBlock≠some b:=λt y b hy hb hv=>by
  have:=(h.wv hy hb).2;have:=WN b hv;omega
 refine ⟨g',h1,xI,lQ,⟨zcz h.base mT.size,λo ty cs hx=>?_,λo es hx=>?_,λo y hx=>?_,h.ne,?_,?_,?_,h.DH.below (mT.mono h.base),?_⟩,⟨hs,mT.mono h.base,λb hb=>lQ b (zbk hb h.base),λb hb _=>⟨mT.block b hb,lQ b hb⟩,λb hb hw=>?_⟩⟩
 ·obtain ⟨k1,k2,vs,k3,k4,k5⟩:=h.row o ty cs hx;have cZ:=(zau.1 k3).1;exact ⟨k1,(lQ _ cZ).trans k2,vs,(mT.block _ cZ).trans k3,k4,λi c u hc hu=>⟨(k5 i c u hc hu).1.mono hs,(k5 i c u hc hu).2⟩⟩
 ·obtain ⟨k1,ms,c,k3,k4,k5,k6⟩:=h.map o es hx;have cZ:=(zau.1 k3).1;exact ⟨k1,ms,c,(mT.block _ cZ).trans k3,k4,λi k y m a b=>⟨(k5 i k y m a b).1,(k5 i k y m a b).2.mono hs⟩,k6⟩
 ·obtain ⟨k1,k2,k3⟩:=h.raw o y hx;have cZ:=(zau.1 k3).1;exact ⟨k1,(lQ _ cZ).trans k2,(mT.block _ cZ).trans k3⟩
 ·intro t e' Jg n ht;rcases hold t _ ht with ⟨cZ,uH⟩|⟨rfl,he⟩
  ·rw [h2 t (by omega)];obtain ⟨ys,k1,k2⟩:=h.tail t e' Jg n uH;exact ⟨ys,fu k1 λb hb=>mT.block b (k1.lt b hb).2,λb hb=>(lQ b (k1.lt b hb).2).trans (k2 b hb)⟩
  ·subst he;rw [h1];exact ⟨xs,j5,λb hb=>(xI b hb).trans (tC rfl)⟩
 ·intro t t' y y' b o4 ht uH hb;rcases hold t _ ht with ⟨cZ,k⟩|⟨rfl,he⟩
  ·rw [h2 t (by omega)] at hb;rcases hold t' _ uH with ⟨kQ,k'⟩|⟨rfl,AR⟩
   ·rw [h2 t' (by omega)];exact h.nF t t' y y' b o4 k k' hb
   ·rw [h1];exact fh t y b k hb
  ·rw [h1] at hb;rcases hold t' _ uH with ⟨kQ,k'⟩|⟨rfl,AR⟩
   ·rw [h2 t' (by omega)];intro kc;exact fh t' y' b k' kc hb
   ·exact absurd rfl o4
 ·intro t y o ht ho;rcases hold t _ ht with ⟨cZ,k⟩|⟨rfl,he⟩
  ·rw [h2 t (by omega)];exact h.iu t y o k ho
  ·rw [h1];intro e;have:=WN _ e;have:=(h.wy ho).1;have e2:g'.ob o=g.ob o:=rfl;omega
 ·intro t e' Jg n bw ht;rcases hold t _ ht with ⟨cZ,uH⟩|⟨rfl,he⟩
  ·rw [h2 t (by omega)];obtain ⟨ys,k1,k2,k3⟩:=h.own t e' Jg n bw uH;exact ⟨ys,fu k1 λb hb=>mT.block b (k1.lt b hb).2,λb hb=>(lQ b (k1.lt b hb).2).trans (k2 b hb),k3.mono A1⟩
  ·subst he;rw [h1];exact ⟨xs,j5,λb hb=>(xI b hb).trans (AZ rfl),(nG bw rfl).mono A1⟩
 ·rcases hw with ⟨o,a1,a2⟩|⟨t,y,a1,a2⟩
  ·exact .inl ⟨o,a1,a2⟩
  ·rcases hold t _ a1 with ⟨cZ,k⟩|⟨rfl,he⟩
   ·rw [h2 t (by omega)] at a2;exact .inr ⟨t,y,k,a2⟩
   ·rw [h1] at a2;have:=WN b a2;omega
theorem Inv.HK (h:Inv g base w st) (e sz:Nat):∃ g',g'.tk st.au.length=.slice none 0 0/\Inv g' base w (st.tok ⟨e,sz,0,none⟩)/\Step base g w st g' w (st.tok ⟨e,sz,0,none⟩):=by
 obtain ⟨g',h1,_,_,h2,h3⟩:=h.sV ⟨e,sz,0,none⟩ (World.ownsRow_nil w base _ _) (.inl ⟨rfl,rfl⟩) (λrows hh=>by cases hh);exact ⟨g',h1,h2,h3⟩
end append
section rules
variable {P:Program} {f:Ctx} {N:Nat} {S:Start} {Q:EV->St->Prop} {k:List Item} {base:Nat} {env:Env} {st:St} {ops rest:List Oper}
 {d:Option Tmp} {ty:TypeId} {pos:String} {after:Array Edge} {gd:Option (Nat×Bool)} {t t2 e:TypeId} {x y:Operand}
theorem wB {w:World} {ty sz:Nat} {inf:TypeInfo} {z:Value} {d2:TypeDesc} (ht:P.underlying t=some (.slice e)) (B9:P.underlying t2=some d2) (F9:d2=.string∨∃ e2,d2=.slice e2) (hi:P.info? e=some inf) (hz:inf.zero=some z) (eO:inf.size=sz)
  {u:Value} {m:Nat} {news:List Value} (hs:Src P w sz u m news) (Ly:m<=4611686018427387904) (hn:m*inf.bytes<=140737488355328) (A:Option Addr) :
  (m=0->(Builtin.append_ #[t,t2] ty #[.slice A 0 0,u]).run P w=.ok (.slice A 0 0) w) /\
  (m≠0->(Builtin.append_ #[t,t2] ty #[.slice A 0 0,u]).run P w=(Builtin.append_ #[t,t2] ty #[.slice none 0 0,u]).run P w):=by
 have hl:=hs.len;have hzer:(match d2 with|.int _=>true|_=>false)=false:=by rcases F9 with rfl|⟨e2,rfl⟩ <;> rfl
 subst eO;constructor
 ·intro hm;subst hm;have Lh:news=[]:=zaw (by simpa using hs.size);subst Lh;have hf:=hs.cells w rfl;rcases F9 with rfl|⟨e2,rfl⟩ <;> cases A <;> simp [Builtin.append_,run_underlying ht,run_underlying B9,sizeOf,typeInfo,hi,hl,hf,storeCells]
 ·intro hm;have zd:¬ (m<=0):=by omega
  have h1:∀ w',(Builtin.firstCells inf.size 0 (.slice A 0 0)).run P w'=.ok #[] w':=λw'=>by cases A <;> simp [Builtin.firstCells,loadCells,loadCellsFrom]
  have h2:∀ w',(Builtin.firstCells inf.size 0 (.slice none 0 0)).run P w'=.ok #[] w':=λw'=>by simp [Builtin.firstCells]
  have LA:¬ (9223372036854775807<(m:Int)):=by omega
  have LB:¬ (281474976710656<Builtin.nextslicecap m 0*inf.bytes):=by
   have:=growslice_fits (need:=m) (old:=0) (by omega) hn;omega
  rcases F9 with rfl|⟨e2,rfl⟩ <;> simp [Builtin.append_,run_underlying ht,run_underlying B9,sizeOf,typeInfo,hi,hl,hm,h1,h2,LA,LB,Question.forced]
theorem Ju {g:bY} {w:World} {v u z:Value} {sz tk:Nat} {rows bw:List (List D)} {inf:TypeInfo} {d2:TypeDesc} (ht:P.underlying t=some (.slice e)) (B9:P.underlying t2=some d2) (F9:d2=.string∨∃ e2,d2=.slice e2)
  (hi:P.info? e=some inf) (hz:inf.zero=some z) (eO:inf.size=sz) (p9:z.cells.size=sz) (hinv:Inv g base w st) (A3:bM g w st (.cE sz rows tk) v) (e9:st.au[tk]?=some ⟨e,sz,rows.length,none⟩) (GY:v=g.tk tk)
  (hn:(rows.length+bw.length)*inf.bytes<=140737488355328) (Ly:rows.length+bw.length<=4611686018427387904)
  {news:List Value} (tD:Ad P g.lim w sz u bw news) :
  ∃ v' g' w',(Builtin.append_ #[t,t2] ty #[v,u]).run P w=.ok v' w'/\bM g' w' (st.bD tk ⟨e,sz,(rows++bw).length,none⟩) (.cE sz (rows++bw) tk) v'/\Inv g' base w' (st.bD tk ⟨e,sz,(rows++bw).length,none⟩) /\
   Step base g w st g' w' (st.bD tk ⟨e,sz,(rows++bw).length,none⟩):=by
 rw [show (rows++bw).length=rows.length+bw.length from zai];cases A3 with
 | cE _ _ _ _ e0 n0 hd RQ Lh LD =>
  rw [e9] at RQ;cases RQ;obtain ⟨xs,j5,Aa⟩:=hinv.tail tk e sz _ e9;obtain ⟨v',w',hC,j1,RO,hc⟩:=kR (P:=P) (ty:=ty) w ht B9 F9 hi hz eO p9 j5 tD.src (by simp only [maxLen];omega) hn hinv.base;obtain ⟨g',Dd,Ps,ek,oT⟩:=hinv.append e9 j5 j1 RO hc;refine ⟨v',g',w',?_,?_,ek,oT⟩
  ·rw [GY];exact hC
  ·have hlen:tk<st.au.length:=(zad.1 e9).1;obtain ⟨A,c,vs,hvA,hvl,hA,Ga,fc,Rw,nG⟩:=Pp hd;refine .cE sz _ tk v' e (rows.length+bw.length) (HH j1 (by simp) ?_ (λb hb=>zfp (Ps b hb).symm) ?_) (by simp [St.bD,zbj,hlen]) (by simp) (λ_=>.inl Dd.symm)
   ·intro row hr;rcases zbi.1 hr with h|h
    ·exact Rw row h
    ·exact tD.rows row h
   ·intro j u c' hu sH;rw [zeh] at sH;have DL:=iQ Rw;have wu:=j5.1;by_cases hj:j<xs.length
    ·rw [zak hj] at hu;rw [zak (by omega)] at sH;have hjv:j<vs.length:=by omega
     have Ry:vs[j]?=some u:=by
      have e1:=zaf hjv;rcases hA with h0|⟨b,off,Ca⟩
      ·rw [h0] at wu;omega
      ·have c1:=fc b off Ca j _ e1;have AX:(g.tk tk).ownBlock=some b/\off=0:=by
        rcases j5.2 with ⟨h1,h2⟩|⟨gb,cap,cur,h1,_⟩
        ·rw [h2] at wu;omega
        ·rw [←GY,hvA,Ca] at h1;cases h1;exact ⟨by rw [←GY,hvA,Ca];rfl,rfl⟩
       have c2:=j5.cells AX.1 j u hu;rw [Addr.add_lit] at c2;rw [AX.2,c2] at c1;cases c1;exact e1
     exact ⟨(nG j u c' Ry sH).1.mono oT.dO.cY,(nG j u c' Ry sH).2⟩
    ·rw [zat (by omega)] at hu;rw [zat (by omega)] at sH;have e1:rows.flatten.length=xs.length:=by omega
     rw [e1] at sH;exact ⟨(tD.rep _ u c' hu sH).1.mono oT.dO.cY,(tD.rep _ u c' hu sH).2⟩
theorem EC {g:bY} {w:World} {v u z:Value} {sz tk:Nat} {rows bw:List (List D)} {inf:TypeInfo} {d2:TypeDesc} (ht:P.underlying t=some (.slice e)) (B9:P.underlying t2=some d2) (F9:d2=.string∨∃ e2,d2=.slice e2)
  (hi:P.info? e=some inf) (hz:inf.zero=some z) (eO:inf.size=sz) (p9:z.cells.size=sz) (hinv:Inv g base w st) (A3:bM g w st (.cE sz rows tk) v) (e9:st.au[tk]?=some ⟨e,sz,rows.length,none⟩)
  (hn:(rows.length+bw.length)*inf.bytes<=140737488355328) (Ly:rows.length+bw.length<=4611686018427387904)
  {news:List Value} (tD:Ad P g.lim w sz u bw news) :
  ∃ v' g' w',(Builtin.append_ #[t,t2] ty #[v,u]).run P w=.ok v' w'/\bM g' w' (st.bD tk ⟨e,sz,(rows++bw).length,none⟩) (.cE sz (rows++bw) tk) v'/\Inv g' base w' (st.bD tk ⟨e,sz,(rows++bw).length,none⟩) /\
   Step base g w st g' w' (st.bD tk ⟨e,sz,(rows++bw).length,none⟩):=by
 by_cases GY:v=g.tk tk
 ·exact Ju ht B9 F9 hi hz eO p9 hinv A3 e9 GY hn Ly tD
 cases A3 with
 | cE _ _ _ _ e0 n0 hd RQ Lh LD =>
  rw [e9] at RQ;cases RQ;obtain ⟨h0,A,hA⟩:=(LD rfl).resolve_left GY;have Pt:rows=[]:=zaw h0;subst Pt;simp only [zbc,zbp] at hn Ly;obtain ⟨q1,q2⟩:=wB (P:=P) (ty:=ty) ht B9 F9 hi hz eO tD.src Ly hn A;have htl':st.au[tk]?=some ⟨e,sz,0,none⟩:=e9;have hlen:tk<st.au.length:=(zad.1 htl').1;by_cases hm:bw.length=0
  ·have hr1:bw=[]:=zaw hm;subst hr1;have lY:st.bD tk ⟨e,sz,0,none⟩=st:=by
    unfold St.bD;have:st.au.set tk ⟨e,sz,0,none⟩=st.au:=by
     apply zby;intro i;rw [zbj];split
     ·rename_i hi';subst hi';rw [htl']
     ·rfl
    rw [this]
   simp only [zcg,zbc];rw [lY];exact ⟨v,g,w,by rw [hA];exact q1 rfl,.cE sz [] tk v e 0 hd htl' (zam _) (λ_=>.inr ⟨rfl,A,hA⟩),hinv,.refl _ _ _ _⟩
  ·obtain ⟨xs,j5,_⟩:=hinv.tail tk e sz _ htl';have RR:xs=[]:=zaw (by rw [j5.1];simp);subst RR;obtain ⟨v',w',hC,j1,_,hc⟩:=kR (P:=P) (ty:=ty) w ht B9 F9 hi hz eO p9 (World.ownsRow_nil w base e sz) tD.src (by simp only [maxLen];omega) (by simpa using hn) hinv.base;have sH:v'.ownBlock=some w.heap.size/\Below w.heap.size w w':=by
    rcases hc with ⟨h1,_⟩|h
    ·exfalso;rcases j1.2 with ⟨_,h2⟩|⟨gb,cap,cur,h2,_⟩
     ·exact hm (by omega)
     ·rw [h2] at h1;cases h1
    ·exact h
   obtain ⟨g',Dd,Ps,ek,oT⟩:=hinv.append (xs:=[]) htl' j5 j1 (λh=>absurd h hm) (.inr sH);have e1:([]++bw:List (List D)).length=0+bw.length:=by simp
   rw [e1];refine ⟨v',g',w',by rw [hA,q2 hm];exact hC,?_,ek,oT⟩;refine .cE sz _ tk v' e (0+bw.length) (HH j1 (by simp) (λrow hr=>tD.rows row (by simpa using hr)) (λb hb=>zfp (Ps b hb).symm) λj u c' hu sH=>?_) (by simp [St.bD,zbj,hlen]) (by simp) (λ_=>.inl Dd.symm);rw [zbz] at hu sH;exact ⟨(tD.rep _ u c' hu sH).1.mono oT.dO.cY,(tD.rep _ u c' hu sH).2⟩
theorem Jv {sz tk:Nat} {rows bw:List (List D)} {inf:TypeInfo} {z:Value} {d2:TypeDesc} (ht:P.underlying t=some (.slice e)) (B9:P.underlying t2=some d2) (F9:d2=.string∨∃ e2,d2=.slice e2)
  (hi:P.info? e=some inf) (hz:inf.zero=some z) (eO:inf.size=sz) (p9:z.cells.size=sz) (hx:cY env x=some (.cE sz rows tk)) (e9:st.au[tk]?=some ⟨e,sz,rows.length,none⟩)
  (hn:(rows.length+bw.length)*inf.bytes<=140737488355328) (Ly:rows.length+bw.length<=4611686018427387904)
  (Gb:∀ (g:bY) (w:World) (tmps:Array Value),eh g w st env tmps->∃ news,Ad P g.lim w sz (Act.eval ⟨tmps,[]⟩ y) bw news) :
  xG P base env st ⟨d,.call ⟨.builtin .append,#[x,y],#[t,t2]⟩,ty,pos,after,gd⟩ (.cE sz (rows++bw) tk) (st.bD tk ⟨e,sz,(rows++bw).length,none⟩):=by
 intro g w tmps hinv he;obtain ⟨news,tD⟩:=Gb g w tmps he;obtain ⟨v',g',w',hC,h1,h2,h3⟩:=EC (ty:=ty) ht B9 F9 hi hz eO p9 hinv (aN he hx) e9 hn Ly tD;exact ⟨v',g',w',by simp [execOp,resolve,invoke,builtin,hC],h1,h2,h3⟩
theorem Pu {sz tk:Nat} {rows bw:List (List D)} {inf:TypeInfo} {z:Value} {ev:EV} (ht:P.underlying t=some (.slice e)) (hi:P.info? e=some inf) (hz:inf.zero=some z) (eO:inf.size=sz) (p9:z.cells.size=sz)
  (hx:cY env x=some (.cE sz rows tk)) (e9:st.au[tk]?=some ⟨e,sz,rows.length,none⟩) (hy:cY env y=some ev) (hs:uy ev=some (sz,bw))
  (hn:(rows.length+bw.length)*inf.bytes<=140737488355328) (Ly:rows.length+bw.length<=4611686018427387904) :
  xG P base env st ⟨d,.call ⟨.builtin .append,#[x,y],#[t,t]⟩,ty,pos,after,gd⟩ (.cE sz (rows++bw) tk) (st.bD tk ⟨e,sz,(rows++bw).length,none⟩) :=
 Jv ht ht (.inr ⟨e,rfl⟩) hi hz eO p9 hx e9 hn Ly λg w tmps he=>tg (rp hs (aN he hy))
theorem NX {sz:Nat} {bw:List (List D)} {inf:TypeInfo} {z:Value} {ev e0:EV} (ht:P.underlying t=some (.slice e)) (hi:P.info? e=some inf) (hz:inf.zero=some z) (eO:inf.size=sz) (p9:z.cells.size=sz)
  (hx:cY env x=some e0) (h0:e0=.d (.e0 sz)∨e0=.d (.ex (.slice none 0 0))) (hy:cY env y=some ev) (hs:uy ev=some (sz,bw)) (hn:bw.length*inf.bytes<=140737488355328) (Ly:bw.length<=4611686018427387904) :
  zF P env st ⟨d,.call ⟨.builtin .append,#[x,y],#[t,t]⟩,ty,pos,after,gd⟩ (.d (.sl sz bw)):=by
 intro g base w tmps hinv he;have Xv:dK g.lim w (.e0 sz) (Act.eval ⟨tmps,[]⟩ x):=by
  rcases h0 with rfl|rfl
  ·cases aN he hx with|d _ _ h=>exact h
  ·rw [(aN he hx).bJ];exact .e0 sz none (.inl rfl)
 obtain ⟨news,tD⟩:=tg (P:=P) (rp hs (aN he hy));generalize hv:Act.eval ⟨tmps,[]⟩ x=v at Xv;generalize hu:Act.eval ⟨tmps,[]⟩ y=u at tD;cases Xv with
 | e0 _ A hA =>
  have hl:=tD.src.len;by_cases hm:bw.length=0
  ·have Pt:bw=[]:=zaw hm;subst Pt;have Lh:news=[]:=zaw (by simpa using tD.src.size);subst Lh;have hf:=tD.src.cells w rfl;refine .inl ⟨.slice A 0 0,g.lim,w,?_,.d _ _ (D.MD (.e0 sz A hA)),.refl _ _,λ_ _=>rfl⟩;subst eO;simp only [zbc] at hl hf;cases A <;> simp [execOp,hv,hu,resolve,invoke,builtin,Builtin.append_,run_underlying ht,sizeOf,typeInfo,hi,hl,hf,storeCells]
  ·have DL:=iQ tD.rows;have Rx:=grownCap_ge w bw.length 0 e;obtain ⟨dv,h1,h2,h3⟩:=MI (g:=g) (w:=w) (w0:=w.drew) (sz:=sz) (cap:=grownCap w bw.length 0 e) (rows:=bw) (vs:=news.toArray++Builtin.zeroCells z.cells (grownCap w bw.length 0 e-bw.length)) (e:=e) rfl rfl rfl rfl
    tD.rows Rx (by simp [tD.src.size]) (λi c v hc hvv=>by
     have hi':i<news.length:=by have:=(zad.1 hc).1;rw [tD.src.size];omega
     rw [zda (by simpa using hi')] at hvv;exact tD.rep i v c (by simpa using hvv) hc)
   refine .inl ⟨_,dv,_,?_,.d _ _ h1,h2,h3⟩;have hf:=tD.src.cells w.drew rfl;subst eO;have LA:¬ (9223372036854775807<(bw.length:Int)):=by omega
   have LB:¬ (281474976710656<Builtin.nextslicecap bw.length 0*inf.bytes):=by
    have:=growslice_fits (need:=bw.length) (old:=0) (by omega) hn;omega
   have Ue:(Builtin.firstCells inf.size 0 (.slice A 0 0)).run P w.drew=.ok #[] w.drew:=by cases A <;> simp [Builtin.firstCells,loadCells,loadCellsFrom]
   have zd:bw≠[]:=λhh=>hm (by rw [hh];rfl);simp [execOp,hv,hu,resolve,invoke,builtin,Builtin.append_,run_underlying ht,sizeOf,typeInfo,zeroValue,hi,hz,hl,zd,LA,LB,Question.forced,Ue,hf,newRow,grownCap]
theorem bp.tok {todo:List Item} {i e sz:Nat} (hx:lookup i env=some (.d (.ex (.slice none 0 0)))) (h:bp P f N S Q todo ((i,.cE sz [] st.au.length)::env) (st.tok ⟨e,sz,0,none⟩)):bp P f N S Q todo env st:=by
 intro g w tmps hinv hh he hn;obtain ⟨g',h1,ek,hs⟩:=hinv.HK e sz;refine h g' w tmps ek (hh.step hs) ?_ hn;intro j y hy;unfold lookup at hy;cases hb:Nat.beq j i with
 | true =>
  rw [hb] at hy;simp only [Option.some.injEq] at hy;subst hy;have:=zas hb;subst this;obtain ⟨v,k1,k2⟩:=he j _ hx;rw [k2.bJ] at k1;exact ⟨_,k1,.cE sz [] _ _ e 0 (.nil sz _) (by simp [St.tok]) (zam _) (λ_=>.inl h1.symm)⟩
 | false =>
  rw [hb] at hy;exact (he.mono hs.dO) j y hy
theorem Jw {sz:Nat} {bw:List (List D)} {inf:TypeInfo} {z:Value} {ev:EV} (ht:P.underlying t=some (.slice e)) (hi:P.info? e=some inf) (hz:inf.zero=some z) (eO:inf.size=sz) (p9:z.cells.size=sz)
  (hx:cY env x=some (.d (.ex (.slice none 0 0)))) (hy:cY env y=some ev) (hs:uy ev=some (sz,bw))
  (hn:bw.length*inf.bytes<=140737488355328) (Ly:bw.length<=4611686018427387904) :
  xG P base env st ⟨d,.call ⟨.builtin .append,#[x,y],#[t,t]⟩,ty,pos,after,gd⟩ (.cE sz bw st.au.length) ((st.tok ⟨e,sz,0,none⟩).bD st.au.length ⟨e,sz,bw.length,none⟩):=by
 intro g w tmps hinv he;obtain ⟨g1,k1,k2,k3⟩:=hinv.HK e sz;obtain ⟨news,tD⟩:=tg (P:=P) ((rp hs (aN he hy)).mono k3.dO.cY);obtain ⟨v',g',w',hC,h1,h2,h3⟩:=EC (ty:=ty) (rows:=[]) ht ht (.inr ⟨e,rfl⟩) hi hz eO p9 k2 (.cE sz [] st.au.length (.slice none 0 0) e 0 (.nil sz _) (by simp [St.tok]) (zam _) (λ_=>.inl k1.symm)) (by simp [St.tok]) (by simpa using hn) (by simpa using Ly) tD;exact ⟨v',g',w',by simp [execOp,(aN he hx).bJ,resolve,invoke,builtin,hC],by simpa using h1,by simpa using h2,by simpa using k3.trans h3⟩
end rules
def lay (cells new:Array Value) (off:Nat):Array Value:=new.zipIdx.foldl (λcs (c,j)=>cs.setIfInBounds (off+j) c) cells
theorem Jx (off:Nat):∀ (l:List Value) (k:Nat) (cells:Array Value),((l.zipIdx k).foldl (λ(cs:Array Value) (p:Value×Nat)=>cs.setIfInBounds (off+p.2) p.1) cells).size=cells.size /\
  ∀ i,i<cells.size->((l.zipIdx k).foldl (λ(cs:Array Value) (p:Value×Nat)=>cs.setIfInBounds (off+p.2) p.1) cells)[i]?=if off+k<=i/\i<off+k+l.length then l[i-(off+k)]? else cells[i]?
 | [],k,cells=>by simp;intro i hi h1 h2;omega
 | v::l,k,cells=>by
  obtain ⟨h1,h2⟩:=Jx off l (k+1) (cells.setIfInBounds (off+k) v);rw [List.zipIdx_cons,List.foldl_cons];refine ⟨by rw [h1];simp,λi hi=>?_⟩
  rw [h2 i (by simpa using hi)];by_cases hc:off+(k+1)<=i/\i<off+(k+1)+l.length
  ·rw [zab hc,zab (by simp;omega)];have:i-(off+k)=(i-(off+(k+1)))+1:=by omega
   rw [this,List.getElem?_cons_succ]
  ·rw [zaa hc];by_cases he:i=off+k
   ·subst he;rw [zab (by simp)];simp [hi]
   ·rw [zaa (by simp;omega)];simp [zbv,zcb he]
theorem MK (cells new:Array Value) (off:Nat) (h:off+new.size<=cells.size) :
  (lay cells new off).size=cells.size/\∀ i,i<cells.size->(lay cells new off)[i]?=if off<=i/\i<off+new.size then new[i-off]? else cells[i]?:=by
 have:=Jx off new.toList 0 cells;unfold lay;rw [←Array.foldl_toList,Array.toList_zipIdx];simpa using this
def ED (lim:Nat->Nat) (w:World) (cs:List D) (vs:Array Value):Prop :=
 vs.size=cs.length/\∀ (i:Nat) c (u:Value),cs[i]?=some c->vs[i]?=some u->dK lim w c u/\u.oneCell'=true
def Pv (cs:List D) (off:Nat) (new:List D):List D:=cs.take off++new++cs.drop (off+new.length)
theorem ED.lay {lim:Nat->Nat} {w:World} {cs new:List D} {vs us:Array Value} {off:Nat} (h:ED lim w cs vs) (hn:ED lim w new us) (hf:off+new.length<=cs.length):ED lim w (Pv cs off new) (lay vs us off):=by
 obtain ⟨h1,h2⟩:=MK vs us off (by rw [h.1,hn.1];exact hf);refine ⟨by rw [h1,h.1];simp [Pv];omega,λi c u hc hu=>?_⟩
 have hi:i<vs.size:=by rw [←h1];exact (zau.1 hu).1
 rw [h2 i hi] at hu;unfold Pv at hc;have DJ:=h.1;have O3:=hn.1;by_cases hA:i<off
 ·rw [zaa (by omega)] at hu;rw [zax,zak (by simp;omega),zaj,zab hA] at hc;exact h.2 i c u hc hu
 ·by_cases hB:i<off+new.length
  ·rw [zab (by omega)] at hu;rw [zax,zat (by simp;omega),zak (by simp;omega)] at hc;have e1:(cs.take off).length=off:=by simp;omega
   rw [e1] at hc;exact hn.2 _ c u hc hu
  ·rw [zaa (by omega)] at hu;rw [zat (by simp;omega)] at hc;have e1:(cs.take off++new).length=off+new.length:=by simp;omega
   rw [e1,zaz] at hc;have e2:off+new.length+(i-(off+new.length))=i:=by omega
   rw [e2] at hc;exact h.2 i c u hc hu
def cellsD:EV->Option (List D)
 | .d (.ex v)=>if v.oneCell' then some [.ex v] else none
 | .d (.agg cs)=>some cs
 | .d (.sl sz rows)=>some [.sl sz rows]
 | .d (.ro cs)=>some [.ro cs]
 | .d (.e0 sz)=>some [.e0 sz]
 | .cE sz rows _=>some [.sl sz rows]
 | _=>none
theorem kW {g:bY} {w:World} {st:St} {e:EV} {cs:List D} {v:Value} (h:cellsD e=some cs) (hv:bM g w st e v):ED g.lim w cs v.cells:=by
 have key:∀ {e':EV} {DK:List EV},gf e'=some DK->DK=cs.map EV.d->bM g w st e' v->ED g.lim w cs v.cells:=by
  intro e' DK hc hm ML;obtain ⟨k1,k2⟩:=qi hc ML;refine ⟨by rw [k1,hm];simp,λi c u sH hu=>?_⟩
  have:=k2 i (.d c) u (by rw [hm,zba,sH];rfl) hu;exact ⟨by cases this.1 with|d _ _ h=>exact h,this.2⟩
 cases e with
 | d x =>
  cases x with
  | ex u =>
   simp only [cellsD] at h;split at h
   ·rename_i h1;cases h;exact key (e':=.d (.ex u)) (by simp only [gf];rw [zab h1];rfl) rfl hv
   ·cases h
  | agg DK=>cases h;exact key (e':=.d (.agg cs)) rfl rfl hv
  | dN=>cases h
  | sl sz rows=>cases h;exact key (e':=.d (.sl sz rows)) rfl rfl hv
  | ro DK=>cases h;exact key (e':=.d (.ro DK)) rfl rfl hv
  | e0 sz=>cases h;exact key (e':=.d (.e0 sz)) rfl rfl hv
  | any=>cases h
 | cE sz rows t =>
  cases h;cases hv with|cE _ _ _ _ _ _ hd=>exact key (e':=.d (.sl sz rows)) rfl rfl (.d _ _ hd)
 | ref=>cases h
 | Jc=>cases h
 | mp=>cases h
 | tz=>cases h
 | agg=>cases h
 | dN=>cases h
 | gd=>cases h
 | vc=>cases h
 | vp=>cases h
 | vw=>cases h
def DM (place:Nat->Option (Nat×Nat)) (env:Env):List D->List (Nat×Operand)->Option (List D)
 | cs,[]=>some cs
 | cs,(i,x)::l=>match place i,cY env x with
  | some (off,size),some e=>match cellsD e with
   | some new=>match Nat.beq new.length size,Nat.ble (off+size) cs.length with
    | true,true=>DM place env (Pv cs off new) l
    | _,_=>none
   | none=>none
  | _,_=>none
theorem tE {g:bY} {w:World} {st:St} {env:Env} {tmps:Array Value} (he:eh g w st env tmps) {place:Nat->Option (Nat×Nat)}:∀ (l:List (Nat×Operand)) (cs:List D) (vs:Array Value) (r:List D),DM place env cs l=some r->ED g.lim w cs vs ->
  ∃ us,Instr.fill place vs (l.map λp=>(p.1,Act.eval ⟨tmps,[]⟩ p.2))=some us/\ED g.lim w r us/\r.length=cs.length
 | [],cs,vs,r,h,hc=>by simp [DM] at h;subst h;exact ⟨vs,rfl,hc,rfl⟩
 | (i,x)::l,cs,vs,r,h,hc=>by
  unfold DM at h;split at h
  ·rename_i off size e hp hx;split at h
   ·rename_i new hn;split at h
    ·rename_i Js Lg;have h1:=zas Js;have h2:=zae Lg;have Xw:=kW hn (aN he hx);have Uf:=hc.lay Xw (off:=off) (by omega);obtain ⟨us,k1,k2,k3⟩:=tE he l _ _ r h Uf;refine ⟨us,?_,k2,by rw [k3];simp [Pv];omega⟩;have hs:=Xw.1;have DJ:=hc.1;simp only [zap,Instr.fill,hp];rw [zaa (by simp;omega)];exact k1
    ·cases h
   ·cases h
  ·cases h
def Jy (P:Program) (t:TypeId):Nat:=match P.info? t with
 | some i=>i.size
 | none=>0
def placeOf (P:Program) (fs:Array Field) (i:Nat):Option (Nat×Nat):=(fs[i]?).map λf=>(f.offset,Jy P f.type)
section rules
variable {P:Program} {f:Ctx} {N:Nat} {S:Start} {Q:EV->St->Prop} {k:List Item} {base:Nat} {env:Env} {st:St} {ops rest:List Oper}
 {d:Option Tmp} {ty:TypeId} {pos:String} {after:Array Edge} {gd:Option (Nat×Bool)} {t t2 e:TypeId} {x y:Operand}
theorem tF {inf:TypeInfo} {z:Value} (hi:P.info? t=some inf) (hz:inf.zero=some z) (w:World):(zeroValue t).run P w=.ok z w:=by simp [zeroValue,typeInfo,hi,hz]
theorem De (fs:List Field) (h:∀ f∈fs,(P.info? f.type).isSome) (w:World):(fs.mapM (λf=>do pure (f.offset,←sizeOf f.type):Field->Sem (Nat×Nat))).run P w=.ok (fs.map λf=>(f.offset,Jy P f.type)) w:=by
 induction fs with
 | nil=>rfl
 | cons f fs ih =>
  obtain ⟨i,hi⟩:=Option.isSome_iff_exists.1 (h f (by simp));have ZG:=ih (λg hg=>h g (by simp [hg]));simp only [List.mapM_cons,Sem.run_bind,ov hi,Result.andThen_ok,Sem.run_pure,ZG,zap,Jy,hi]
theorem RS {fs:Array Field} {inf:TypeInfo} {z:Value} {zs r:List D} {l:List (Nat×Operand)} (ht:P.underlying t=some (.struct fs)) (hi:P.info? t=some inf) (hz:inf.zero=some z) (p9:cellsD (.d (cv z))=some zs)
  (RT:fs.toList.all (λf=>(P.info? f.type).isSome)=true) (hl:DM (placeOf P fs) env zs l=some r):aG P env st ⟨d,.build t l.toArray,ty,pos,after,gd⟩ (.d (.agg r)):=by
 intro g base w tmps hinv he;have Ac:=kW (g:=g) (w:=w) (st:=st) p9 (.d _ _ (qf _ _ z));obtain ⟨us,h1,h2,h3⟩:=tE he l zs z.cells r hl Ac;refine ⟨.agg us,.d _ _ (.agg r us h2.1 (λi u hu=>?_) λi c u hc hu=>(h2.2 i c u hc hu).1),λw' hb=>?_⟩
 ·have hi':i<r.length:=by rw [←h2.1];exact (zau.1 hu).1
  exact (h2.2 i _ u (zaf hi') hu).2
 ·have Pw:(fs.mapM (λf=>do pure (f.offset,←sizeOf f.type):Field->Sem (Nat×Nat))).run P w'=.ok (fs.toList.map λf=>(f.offset,Jy P f.type)).toArray w':=by
   rw [←Array.toArray_toList (xs:=fs),zfd];simp only [Sem.run_map,De (P:=P) fs.toList (λf hf=>zbb.1 RT f hf) w',Result.andThen_ok]
  have LF:(λi:Nat=>((fs.toList.map λf=>(f.offset,Jy P f.type)).toArray)[i]?)=placeOf P fs:=by
   funext i;simp [placeOf]
  simp only [execOp,Instr.build,Sem.run_bind,tF hi hz,Result.andThen_ok,run_underlying ht,Pw,zef];rw [LF];simp [h1]
theorem A4 {len sz:Nat} {inf:TypeInfo} {z:Value} {zs:List D} {rows:List (List D)} {l:List (Nat×Operand)} (ht:P.underlying t=some (.slice e)) (hi:P.info? e=some inf) (fB:inf.size=sz) (hz:inf.zero=some z) (p9:z.cells.size=sz)
  (hlen:0<len) (xJ:len*sz<=16777216) (Df:(List.replicate len zs).flatten.length=len*sz) (MM:cellsD (.d (cv z))=some zs)
  (hl:DM (λi=>some (i*sz,sz)) env (List.replicate len zs).flatten l=some rows.flatten) (hr:rows.all (λr=>Nat.beq r.length sz)=true) (hn:rows.length=len) (Li:0<sz) :
  zF P env st ⟨d,.buildSlice t len l.toArray,ty,pos,after,gd⟩ (.d (.sl sz rows)):=by
 intro g base w tmps hinv he;have Ac:=kW (g:=g) (w:=w) (st:=st) MM (.d _ _ (qf _ _ z));have O4:zs.length=sz:=by rw [←Ac.1,p9]
 have jv:∀ row∈rows,row.length=sz:=by
  intro row hm;rw [zbb] at hr;exact zas (hr row hm)
 have r8:ED g.lim w (List.replicate len zs).flatten ((Array.range (len*sz)).map (z.cells[· % z.cells.size]!)):=by
  refine ⟨by simp [Df],λi c u hc hu=>?_⟩;have nQ:i<len*sz:=by rw [←Df];exact (zad.1 hc).1
  have xK:i % sz<sz:=zec _ Li;have hdiv:i / sz<len:=zdk (by rw [zdc];exact nQ);have Lw:i=i / sz*sz+i % sz:=by rw [zdc];exact (zel i sz).symm
  have hf:=kg (rows:=List.replicate len zs) (sz:=sz) (i:=i / sz) (j:=i % sz) (row:=zs) (c:=zs[i % sz]'(by omega)) (by intro row hm;rw [List.eq_of_mem_replicate hm];exact O4) (by simp [List.getElem?_replicate,hdiv]) (zaf (by omega));rw [←Lw,hc] at hf;have Ug:zs[i % sz]?=some c:=by cases hf;exact zaf (by omega)
  have Xx:z.cells[i % sz]?=some u:=by
   have kQ:i % sz<z.cells.size:=by omega
   have:((Array.range (len*sz)).map (z.cells[· % z.cells.size]!))[i]?=some (z.cells[i % z.cells.size]!):=by simp [nQ]
   rw [this] at hu;cases hu;rw [p9,zdq z.cells (i % sz) kQ,zbe kQ]
  exact Ac.2 _ c u Ug Xx
 obtain ⟨us,h1,h2,h3⟩:=tE he l _ _ _ hl r8;have DL:=iQ jv;obtain ⟨dv,k1,k2,k3⟩:=MI (g:=g) (w:=w) (w0:=w) (sz:=sz) (cap:=len) (rows:=rows) (vs:=us) (e:=e) rfl rfl rfl rfl jv (by omega) (by rw [h2.1,DL];exact zam _) h2.2;refine .inl ⟨.slice (some ⟨w.heap.size,0,none⟩) len len,dv,_,?_,.d _ _ (by rw [hn] at k1;exact k1),k2,k3⟩;subst fB;have GZ:¬ (16777216<len*inf.size):=by omega
 have fh:¬ (len=0∨inf.size=0):=by omega
 have o4:¬ len*inf.size=0:=by
  intro h0;rcases Nat.mul_eq_zero.1 h0 with h|h <;> omega
 have O2:Instr.fill (λi=>some (i*inf.size,inf.size)) (Array.map (λx=>z.cells[x % z.cells.size]!) (Array.range (len*inf.size))) (List.map (λp=>(p.1,Act.eval ⟨tmps,[]⟩ p.2)) l)=some us:=h1;simp [execOp,Instr.buildSlice,run_underlying ht,ov hi,GZ,o4,tF hi hz,O2,newRow]
theorem dH {inf:TypeInfo} (ht:P.underlying t=some (.slice e)) (hi:P.info? e=some inf) :
  zF P env st ⟨d,.buildSlice t 0 #[],ty,pos,after,gd⟩ (.d (.e0 inf.size)):=by
 intro g base w tmps hinv he;refine .inl ⟨.slice (some ⟨w.heap.size,0,none⟩) 0 0,λb=>g.lim b,w.alloc (.cells #[] e),?_,.d _ _ (.e0 _ _ (.inr ⟨_,_,rfl⟩)),(Below.refl _ w).alloc (zam _) _,λ_ _=>rfl⟩;simp [execOp,Instr.buildSlice,run_underlying ht,ov hi,newRow,Instr.fill];rw [show Array.map (λ_=>(default:Value)) (Array.range 0)=#[] from by simp [Array.range_zero']]
end rules
def tmpsOf:List Operand->List Tmp
 | []=>[]
 | .tmp t::l=>t::tmpsOf l
 | _::l=>tmpsOf l
def EE:Op->List Tmp
 | .move x|.assign x|.box _ x|.load _ x|.nilCheck x|.unOp _ _ x|.convert _ _ x|.sliceToArrayPointer _ x|.makeInterface _ x
 | .makeChan _ x|.fieldAddr _ x _|.field _ x _|.range _ x|.next x _|.entry x|.typeAssert x _ _ _|.extract x _|.panic x|.recv _ x _=>tmpsOf [x]
 | .pick c a b=>tmpsOf [c,a,b]
 | .build _ ps|.buildSlice _ _ ps=>tmpsOf (ps.toList.map (·.2))
 | .store _ a v|.binOp _ _ a v _|.makeSlice _ a v|.indexAddr _ a v|.index _ a v|.lookup _ a v _|.mapEntry _ a v|.send a v=>tmpsOf [a,v]
 | .makeFunc _ first captured=>tmpsOf (first.toList++captured.toList)
 | .makeMap _ r=>tmpsOf r.toList
 | .slice _ x l h m=>tmpsOf (x::(l.toList++h.toList++m.toList))
 | .mapUpdate _ m k v|.entryStore _ m k v|.insert _ m k v=>tmpsOf [m,k,v]
 | .call c=>tmpsOf ((match c.callee with|.value f=>[f]|.invoke r _=>[r]|.builtin _=>[])++c.args.toList)
 | _=>[]
def Jz (l:List Oper) (o:Oper):List Tmp:=match o.guard with
 | none=>EE o.op
 | some (j,_)=>match (l[j]?).bind (·.dst) with
  | some t=>t::EE o.op
  | none=>EE o.op
def Cb (env:Env):List Tmp->Env
 | []=>[]
 | t::ts=>match lookup t env with
  | some x=>(t,x)::Cb env ts
  | none=>Cb env ts
def lZ (l:List Oper) (o:Oper) (env:Env):Env:=Cb env (Jz l o)
theorem tH {env:Env} {t:Tmp} {y:EV}:∀ {ts:List Tmp},lookup t (Cb env ts)=some y->t∈ts/\lookup t env=some y
 | [],h=>by simp [Cb,lookup] at h
 | s::ts,h=>by
  unfold Cb at h;split at h
  ·rename_i x hx;unfold lookup at h;cases hb:Nat.beq t s with
   | true =>
    rw [hb] at h;have:=zas hb;subst this;exact ⟨by simp,hx.trans h⟩
   | false =>
    rw [hb] at h;obtain ⟨h1,h2⟩:=tH h;exact ⟨by simp [h1],h2⟩
  ·obtain ⟨h1,h2⟩:=tH h;exact ⟨by simp [h1],h2⟩
def u6 (acc:List Nat):List Edge->Nat
 | []=>0
 | e::es=>(if Region.binds .any e then 2 ^ e.on ||| acc.getD e.on 0 else 0) ||| u6 acc es
def eo:List Oper->List Nat->List Nat
 | [],acc=>acc
 | o::l,acc=>eo l (acc++[u6 acc o.after.toList])
def vI (listed:Array Bool) (i m:Nat):Prop:=listed.getD i false=true->∀ j,m.testBit j=true->listed.getD j false=true
def wC (ops:List Oper) (listed:Array Bool):Prop:=∀ (i:Nat) o,ops[i]?=some o->listed.getD i false=true->∀ e∈o.after,Region.binds .any e=true->listed.getD e.on false=true
theorem uI {listed:Array Bool} {acc:List Nat} (h:∀ (k:Nat) m,acc[k]?=some m->vI listed k m):∀ (es:List Edge),(∀ e∈es,Region.binds .any e=true->listed.getD e.on false=true)->∀ j,(u6 acc es).testBit j=true->listed.getD j false=true
 | [],_,j,hj=>by simp [u6] at hj
 | e::es,he,j,hj=>by
  unfold u6 at hj;rw [Nat.testBit_or,zbr] at hj;rcases hj with hj|hj
  ·split at hj
   ·rename_i hb;have hon:=he e (by simp) hb;rw [Nat.testBit_or,zbr] at hj;rcases hj with hj|hj
    ·rw [Nat.testBit_two_pow] at hj;have:e.on=j:=by simpa using hj
     rw [←this];exact hon
    ·rw [zbt] at hj;cases hm:acc[e.on]? with
     | none=>rw [hm] at hj;simp at hj
     | some m=>rw [hm] at hj;exact h e.on m hm hon j hj
   ·simp at hj
  ·exact uI h es (λe' AR=>he e' (by simp [AR])) j hj
theorem wD {ops:List Oper} {listed:Array Bool} (hc:wC ops listed):∀ (l:List Oper) (acc:List Nat),(∀ j:Nat,l[j]?=ops[acc.length+j]?)->(∀ (k:Nat) m,acc[k]?=some m->vI listed k m) ->
  ∀ (k:Nat) m,(eo l acc)[k]?=some m->vI listed k m
 | [],acc,_,h=>h
 | o::l,acc,hl,h=>by
  unfold eo;refine wD hc l _ (λj=>by have:=hl (j+1);simpa [zce,zcw 1 j] using this) λk m hk=>?_;by_cases cZ:k<acc.length
  ·rw [zak cZ] at hk;exact h k m hk
  ·have RJ:=(zad.1 hk).1;simp at RJ;have:k=acc.length:=by omega
   subst this;have:m=u6 acc o.after.toList:=by simpa [zeo] using hk
   subst this;intro HL;have ho:ops[acc.length]?=some o:=by simpa using (hl 0).symm
   exact uI h _ (λe he hb=>hc _ o ho HL e (by simpa using he) hb)
theorem wE {ops:List Oper} {listed:Array Bool} (hc:wC ops listed) {i:Nat} {o:Oper} (ho:ops[i]?=some o) (hr:∀ e∈o.after,Region.binds .any e=true->listed.getD e.on false=true) :
  ∀ j,((eo ops []).getD i 0).testBit j=true->listed.getD j false=true:=by
 -- list it: the greater set is closed,too,but for i itself: go by the mask's own making
 have key:∀ (l:List Oper) (acc:List Nat),(∀ j:Nat,l[j]?=ops[acc.length+j]?)->(∀ (k:Nat) m,acc[k]?=some m->vI listed k m)->(acc.length<=i) ->
   ∃ Uh,(eo l acc)[i]?=some (u6 Uh o.after.toList)/\∀ (k:Nat) m,Uh[k]?=some m->vI listed k m:=by
  intro l
  induction l with
  | nil =>
   intro acc hl _ hle;have:=hl (i-acc.length);rw [show acc.length+(i-acc.length)=i by omega,ho] at this;simp at this
  | cons o' l ih =>
   intro acc hl hg hle;have Rv:∀ j:Nat,l[j]?=ops[(acc++[u6 acc o'.after.toList]).length+j]?:=λj=>by have:=hl (j+1);simpa [zce,zcw 1 j] using this
   have hg':∀ (k:Nat) m,(acc++[u6 acc o'.after.toList])[k]?=some m->vI listed k m:=by
    intro k m hk;by_cases cZ:k<acc.length
    ·rw [zak cZ] at hk;exact hg k m hk
    ·have RJ:=(zad.1 hk).1;simp at RJ;have:k=acc.length:=by omega
     subst this;have:m=u6 acc o'.after.toList:=by simpa [zeo] using hk
     subst this;intro HL;have ox:ops[acc.length]?=some o':=by simpa using (hl 0).symm
     exact uI hg _ (λe he hb=>hc _ o' ox HL e (by simpa using he) hb)
   by_cases he:acc.length=i
   ·subst he;have ox:o'=o:=by
     have:=hl 0;rw [zdb,ho] at this;simpa using this
    subst ox;have hm:∀ (l:List Oper) (acc:List Nat) (k:Nat) m,acc[k]?=some m->(eo l acc)[k]?=some m:=by
     intro l
     induction l with
     | nil=>intro acc k m h;exact h
     | cons o'' l ZG =>
      intro acc k m h;unfold eo;exact ZG _ k m (by rw [zak (zad.1 h).1];exact h)
    refine ⟨acc,?_,hg⟩;unfold eo;exact hm l _ _ _ (by simp)
   ·unfold eo;exact ih _ Rv hg' (by simp;omega)
 obtain ⟨Uh,h1,h2⟩:=key ops [] (by simp) (by simp) (zfg _);intro j hj;rw [zbt,h1,zco] at hj;exact uI h2 _ (λe he hb=>hr e (by simpa using he) hb) j hj
def o9 (n:Nat) (q:Nat->Bool):Bool:=(List.range n).all q
theorem cQ {n:Nat} {q:Nat->Bool} (h:o9 n q=true) {i:Nat} (hi:i<n):q i=true:=by
 unfold o9 at h;rw [zbb] at h;exact h i (List.mem_range.2 hi)
def eH (l:List Oper) (i:Nat):Option Tmp:=(l[i]?).bind (·.dst)
def cw (l:List Oper) (p:Nat):Bool :=
 let ms:=eo l []
 o9 p (λi=>match l[i]? with
  | some o=>(Jz l o).all λt=>o9 p λj=>i==j || eH l j != some t || (decide (j<i) && (ms.getD i 0).testBit j) || (decide (i<j) && (ms.getD j 0).testBit i)
  | none=>true) &&
 o9 p (λi=>o9 p λj=>i==j || (eH l i).isNone || eH l i != eH l j) &&
 o9 l.length (λi=>decide (i<p) || o9 i λj=>(ms.getD i 0).testBit j) &&
 o9 l.length (λi=>match l[i]? with
  | some o=>o.after.toList.all λe=>!Region.binds .any e || decide (e.on<i)
  | none=>true) &&
 decide (p<=l.length)
def uJ (P:Program) (l:List Oper) (env:Env) (st:St) (o:Oper) (x:EV):Prop :=
 (o.guard=none/\zF P env st o x) ∨
 ∃ (j:Nat) (want:Bool) (t:Tmp) (c:EV) (b:Bool) (y:EV) (env':Env),o.guard=some (j,want)/\(l[j]?).bind (·.dst)=some t/\lookup t env=some c/\Db c want=some b/\x=.gd b y/\zD b env env'/\(b=true->zF P env' st o y)
def gg:Env->List Oper->List EV->Env
 | env,o::os,x::xs=>gg (env.put o.dst x) os xs
 | env,_,_=>env
def A5 (P:Program) (N:Nat) (l:List Oper) (st:St):List Oper->List EV->Env->Prop
 | [],[],_=>True
 | o::os,x::xs,env=>fZ N o.dst=true/\uJ P l (lZ l o env) st o x/\A5 P N l st os xs (env.put o.dst x)
 | _,_,_=>False
theorem A5.length {P:Program} {N:Nat} {l:List Oper} {st:St}:∀ {os:List Oper} {xs:List EV} {env:Env},A5 P N l st os xs env->xs.length=os.length
 | [],[],_,_=>rfl
 | o::os,x::xs,env,h=>by simp [A5.length h.2.2]
 | [],x::xs,_,h=>h.elim
 | o::os,[],_,h=>h.elim
theorem LG {env:Env} {d:Option Tmp} {x:EV} {s:Tmp}:lookup s (env.put d x)=if d=some s then some x else lookup s env:=by
 cases d with
 | none=>simp [Env.put]
 | some d =>
  simp only [Env.put,lookup];cases hb:Nat.beq s d with
  | true=>have:=zas hb;subst this;simp
  | false =>
   have:¬ d=s:=by rintro rfl;rw [zen] at hb;cases hb
   simp [this]
theorem jN {s:Tmp} {y:EV}:∀ {os:List Oper} {xs:List EV} {env:Env},xs.length=os.length->lookup s (gg env os xs)=some y ->
  (∃ (j:Nat) (o:Oper),os[j]?=some o/\xs[j]?=some y/\o.dst=some s)∨((∀ (j:Nat) (o:Oper),os[j]?=some o->o.dst≠some s)/\lookup s env=some y)
 | [],[],env,_,h=>.inr ⟨by simp,h⟩
 | o::os,x::xs,env,hl,h=>by
  rcases jN (os:=os) (xs:=xs) (env:=env.put o.dst x) (by simpa using hl) h with ⟨j,o',h1,h2,h3⟩|⟨h1,h2⟩
  ·exact .inl ⟨j+1,o',by simpa using h1,by simpa using h2,h3⟩
  ·rw [LG] at h2;split at h2
   ·rename_i hd;cases h2;exact .inl ⟨0,o,rfl,rfl,hd⟩
   ·rename_i hd;refine .inr ⟨λj o' ho=>?_,h2⟩;cases j with
    | zero=>simp at ho;subst ho;exact hd
    | succ j=>exact h1 j o' (by simpa using ho)
 | [],_::_,_,hl,_=>by simp at hl
 | _::_,[],_,hl,_=>by simp at hl
theorem A5.get {P:Program} {N:Nat} {l:List Oper} {st:St}:∀ {os:List Oper} {xs:List EV} {env:Env} {i:Nat} {o:Oper},A5 P N l st os xs env->os[i]?=some o ->
  ∃ x,xs[i]?=some x/\fZ N o.dst=true/\uJ P l (lZ l o (gg env (os.take i) (xs.take i))) st o x
 | o'::os,x::xs,env,0,o,h,ho=>by
  simp at ho;subst ho;exact ⟨x,rfl,h.1,by simpa [gg] using h.2.1⟩
 | o'::os,x::xs,env,i+1,o,h,ho=>by
  obtain ⟨y,h1,h2,h3⟩:=A5.get (i:=i) h.2.2 (by simpa using ho);exact ⟨y,by simpa using h1,h2,by simpa [gg] using h3⟩
 | [],xs,env,i,o,h,ho=>by simp at ho
 | o'::os,[],_,_,_,h,_=>h.elim
section drawn
variable {P:Program} {f:Ctx} {N:Nat} {S:Start} {Q:EV->St->Prop} {k:List Item}
theorem yD {l:List Oper} {p:Nat} (EF:∀ i,p<=i->i<l.length->∀ j,j<i->((eo l []).getD i 0).testBit j=true)
  (xi:∀ (i:Nat) o,l[i]?=some o->∀ e∈o.after,Region.binds .any e=true->e.on<i) :
  ∀ (fuel t m:Nat) (listed:Array Bool),p<=m->m<=l.length->l.length-m<=fuel->listed.size=l.length->(∀ i,i<l.length->listed.getD i true=decide (i<m)) ->
   Region.linearise.go .any l.toArray fuel t listed []=List.range' m (l.length-m)
 | fuel,t,m,listed,hp,hm,hf,hs,hl=>by
  have hD:∀ i,i<l.length->listed.getD i false=decide (i<m):=λi hi=>by
   rw [←hl i hi];simp [zaq,hs,hi]
  have r7:wC l listed:=by
   intro i o ho Px e he hb;have hi:=(zad.1 ho).1;have:=xi i o ho e he hb;rw [hD i hi] at Px;rw [hD _ (by omega)];simp at Px ⊢;omega
  have Ui:Region.ready .any l.toArray listed=if m<l.length then [m] else []:=by
   have sW:∀ i,i∈Region.ready .any l.toArray listed↔i=m/\m<l.length:=by
    intro i;rw [mem_ready];constructor
    ·rintro ⟨h0,o,ho,oG⟩;have ox:l[i]?=some o:=by simpa using ho
     have hi:=(zad.1 ox).1;rw [hl i hi] at h0;have WO:m<=i:=by simpa using h0
     have tI:=wE r7 ox (λe he hb=>oG e he hb);by_cases he:i=m
     ·exact ⟨he,by omega⟩
     ·have h1:=tI m (EF i (by omega) hi m (by omega));rw [hD m (by omega)] at h1;simp at h1
    ·rintro ⟨rfl,cZ⟩;refine ⟨by rw [hl i cZ];simp,l[i],by simp [cZ],λe he hb=>?_⟩
     have:=xi i l[i] (zaf cZ) e he hb;rw [hD _ (by omega)];simpa using this
   have Te:(Region.ready .any l.toArray listed).Nodup:=(List.nodup_range).filter _;split
   ·rename_i cZ;have h1:∀ i∈Region.ready .any l.toArray listed,i=m:=λi hi=>((sW i).1 hi).1
    have h2:m∈Region.ready .any l.toArray listed:=(sW m).2 ⟨rfl,cZ⟩;generalize Region.ready .any l.toArray listed=rs at *
    match rs with
    | []=>cases h2
    | [a]=>rw [h1 a (by simp)]
    | a::b::rs' =>
     have ha:=h1 a (by simp);have hb:=h1 b (by simp);simp [ha,hb] at Te
   ·rename_i cZ;exact List.eq_nil_iff_forall_not_mem.2 λi hi=>cZ ((sW i).1 hi).2
  cases fuel with
  | zero =>
   have:l.length-m=0:=by omega
   rw [this];rfl
  | succ fuel =>
   have Uj:((List.range l.toArray.size).filter λi=>!listed.getD i true && ((l.toArray[i]?).map (·.after.all λe=>!Region.binds .any e || listed.getD e.on false)).getD false)=Region.ready .any l.toArray listed:=rfl
   simp only [Region.linearise.go,Uj,Ui];by_cases cZ:m<l.length
   ·rw [zab cZ];simp only [zan,Nat.mod_one,List.getElem?_cons_zero];rw [linearise_go_acc,yD EF xi fuel _ (m+1) _ (by omega) cZ (by omega) (by simpa using hs) ?_]
    ·have:l.length-m=(l.length-(m+1))+1:=by omega
     rw [this,List.range'_succ];rfl
    ·intro i hi;by_cases he:i=m
     ·subst he;simp [zaq,hs,hi]
     ·rw [getD_set_ne true (zcb he),hl i hi];have:(i<m)=(i<m+1):=by apply propext;omega
      simp [this]
   ·rw [zaa cZ];have:l.length-m=0:=by omega
    rw [this];rfl
theorem LH {l:List Oper} {p:Nat} {env:Env} {st:St} {xs:List EV} (hp:p<=l.length)
  (Xy:∀ i j t,i<p->j<p->i≠j->eH l i=some t->eH l j≠some t)
  (Tf:∀ (i:Nat) o,i<p->l[i]?=some o->∀ t∈Jz l o,∀ j,j<p->j≠i->eH l j=some t->(j<i/\((eo l []).getD i 0).testBit j=true)∨(i<j/\((eo l []).getD j 0).testBit i=true))
  (EF:∀ i,p<=i->i<l.length->∀ j,j<i->((eo l []).getD i 0).testBit j=true)
  (xi:∀ (i:Nat) o,l[i]?=some o->∀ e∈o.after,Region.binds .any e=true->e.on<i)
  (O5:A5 P N l st (l.take p) xs env) (Cc:cm P f N S Q l (l.drop p) k (gg env (l.take p) xs) st) :
  ∀ (Gc fuel t:Nat) (listed:Array Bool) (g:bY) (w:World) (tmps:Array Value),listed.size=l.length->wC l listed->(∀ i,p<=i->i<l.length->listed.getD i true=false) ->
   (((List.range p).filter λi=>!listed.getD i true).length=Gc)->Gc+(l.length-p)<=fuel->Inv g S.base w st->rl S g w st->tmps.size=N ->
   (∀ (s:Tmp),(∀ (j:Nat) x,j<p->listed.getD j false=true->eH l j=some s->xs[j]?=some x->∃ v,tmps[s]?=some v/\bM g w st x v) /\
    ((∀ j,j<p->listed.getD j false=true->eH l j≠some s)->∀ y,lookup s env=some y->∃ v,tmps[s]?=some v/\bM g w st y v)) ->
   eK P f (nt S Q) (.inRegion l.toArray (Region.linearise.go .any l.toArray fuel t listed [])::k) tmps w:=by
 have wu:=O5.length;have ZH:xs.length=p:=by rw [wu];simp;omega
 intro Gc
 induction Gc with
 | zero =>
  intro fuel t listed g w tmps hs r7 Py A6 JA hinv hh hN hJ;have oG:∀ i,i<p->listed.getD i true=true:=by
   intro i hi;have h0:=zaw A6;have hn:i ∉ (List.range p).filter λi=>!listed.getD i true:=by rw [h0];simp
   rw [zcj,List.mem_range] at hn;cases hb:listed.getD i true with
   | true=>rfl
   | false=>exact absurd ⟨hi,by simp [hb]⟩ hn
  have Xz:=yD EF xi fuel t p listed (zam _) hp (by omega) hs (λi hi=>by
   by_cases h:i<p
   ·rw [oG i h];simp [h]
   ·rw [Py i (by omega) hi];simp [h])
  rw [Xz];have AS:(l.drop p).length=l.length-p:=by simp
  rw [←AS];have MN:∀ i,i<p->listed.getD i false=true:=λi hi=>by
   have:=oG i hi;have cZ:i<listed.size:=by omega
   simpa [zaq,cZ] using this
  refine Cc p (λj=>by rw [zaz]) g w tmps hinv hh (λs y hy=>?_) hN;rcases jN wu hy with ⟨j,o,h1,h2,h3⟩|⟨h1,h2⟩
  ·have hj:j<p:=by have:=(zad.1 h2).1;omega
   have ho:l[j]?=some o:=by rw [zaj] at h1;rw [zab hj] at h1;exact h1
   exact (hJ s).1 j y hj (MN j hj) (by simp [eH,ho,h3]) h2
  ·refine (hJ s).2 (λj hj _ hd=>?_) y h2;cases ho:l[j]? with
   | none=>simp [eH,ho] at hd
   | some o=>exact h1 j o (by rw [zaj,zab hj];exact ho) (by simpa [eH,ho] using hd)
 | succ Gc ih =>
  intro fuel t listed g w tmps hs r7 Py A6 JA hinv hh hN hJ;obtain ⟨fuel,rfl⟩:∃ n,fuel=n+1:=⟨fuel-1,by omega⟩
  -- an operation of the beginning that has not come up
  have hex:∃ i,i<p/\listed.getD i true=false:=by
   have:(List.range p).filter (λi=>!listed.getD i true)≠[]:=λh=>by rw [h] at A6;simp at A6
   obtain ⟨i,hi⟩:=zew _ this;rw [zcj,List.mem_range] at hi;exact ⟨i,hi.1,by simpa using hi.2⟩
  have NY:∀ i,i<l.length->listed.getD i false=listed.getD i true:=λi hi=>by
   have cZ:i<listed.size:=by omega
   simp [zaq,cZ]
  have Uj:((List.range l.toArray.size).filter λi=>!listed.getD i true && ((l.toArray[i]?).map (·.after.all λe=>!Region.binds .any e || listed.getD e.on false)).getD false)=Region.ready .any l.toArray listed:=rfl
  -- the least such is ready
  have fh:Region.ready .any l.toArray listed≠[]:=by
   have Pz:∀ n i,i<=n->i<p->listed.getD i true=false->∃ i,i<p/\listed.getD i true=false/\∀ j,j<i->listed.getD j true=true:=by
    intro n
    induction n with
    | zero=>intro i hi NZ h;exact ⟨i,NZ,h,λj hj=>by omega⟩
    | succ n XA =>
     intro i hi NZ h;by_cases Ls:∃ j,j<i/\listed.getD j true=false
     ·obtain ⟨j,hj,Gd⟩:=Ls;exact XA j (by omega) (by omega) Gd
     ·refine ⟨i,NZ,h,λj hj=>?_⟩;cases hb:listed.getD j true with
      | true=>rfl
      | false=>exact absurd ⟨j,hj,hb⟩ Ls
   obtain ⟨i0,h0,h1⟩:=hex;obtain ⟨i,HM,JB,mT⟩:=Pz i0 i0 (zam _) h0 h1;have nQ:i<l.length:=by omega
   have:i∈Region.ready .any l.toArray listed:=by
    rw [mem_ready];refine ⟨JB,l[i],by simp [nQ],λe he hb=>?_⟩;have cZ:=xi i l[i] (zaf nQ) e he hb;rw [NY _ (by omega)];exact mT _ cZ
   intro Ga;rw [Ga] at this;cases this
  simp only [Region.linearise.go,Uj];have hlen:0<(Region.ready .any l.toArray listed).length:=zdt.2 fh;have xK:=zec t hlen;generalize hi:(Region.ready .any l.toArray listed)[t % (Region.ready .any l.toArray listed).length]=i;have Dg:(Region.ready .any l.toArray listed)[t % (Region.ready .any l.toArray listed).length]?=some i:=by rw [zaf xK,hi]
  rw [Dg];simp only [];rw [linearise_go_acc];have WO:i∈Region.ready .any l.toArray listed:=zbg Dg;obtain ⟨JB,o,ho,oG⟩:=mem_ready.1 WO;have ox:l[i]?=some o:=by simpa using ho
  have nQ:=(zad.1 ox).1;have tI:=wE r7 ox (λe he hb=>oG e he hb);have HM:i<p:=by
   rcases zfq i p with h|h
   ·exact h
   ·obtain ⟨i0,h0,h1⟩:=hex;have:=tI i0 (EF i h nQ i0 (by omega));rw [NY i0 (by omega),h1] at this;cases this
  obtain ⟨x,hx,hd,vJ⟩:=O5.get (i:=i) (o:=o) (by rw [zaj,zab HM];exact ox);have XB:=wD r7 l [] (by simp) (by simp)
  -- what the operation looks at
  have he:eh g w st (lZ l o (gg env ((l.take p).take i) (xs.take i))) tmps:=by
   intro s y hy;obtain ⟨Tg,Jd⟩:=tH hy;rcases jN (by simp [wu]) Jd with ⟨j,o',h1,h2,h3⟩|⟨h1,h2⟩
   ·have lM:j<i:=by have:=(zad.1 h2).1;simp at this;omega
    have A7:l[j]?=some o':=by
     rw [zaj,zab lM,zaj,zab (by omega)] at h1;exact h1
    have uK:eH l j=some s:=by simp [eH,A7,h3]
    rcases Tf i o HM ox s Tg j (by omega) (by omega) uK with ⟨_,hb⟩|⟨cZ,_⟩
    ·exact (hJ s).1 j y (by omega) (tI j hb) uK (by rw [zaj,zab lM] at h2;exact h2)
    ·omega
   ·refine (hJ s).2 (λj hj yE uK=>?_) y h2;by_cases lM:j=i
    ·subst lM;rw [NY j nQ,JB] at yE;cases yE
    ·rcases Tf i o HM ox s Tg j hj lM uK with ⟨cZ,_⟩|⟨cZ,hb⟩
     ·cases A7:l[j]? with
      | none=>simp [eH,A7] at uK
      | some o'=>exact h1 j o' (by rw [zaj,zab cZ,zaj,zab hj];exact A7) (by simpa [eH,A7] using uK)
     ·have Gd:j<l.length:=by omega
      have XC:(eo l [])[j]?=some ((eo l []).getD j 0):=by
       cases hm:(eo l [])[j]? with
       | none=>rw [zbt,hm] at hb;simp at hb
       | some m=>rw [zbt,hm];rfl
      have:=XB j _ XC yE i hb;rw [NY i nQ,JB] at this;cases this
  -- what remains behind it
  have JC:((List.range p).filter λj=>!(listed.setIfInBounds i true).getD j true).length=Gc:=by
   have xL:∀ j,(listed.setIfInBounds i true).getD j true=(listed.getD j true || decide (j=i)):=by
    intro j;by_cases lM:j=i
    ·subst lM;simp [zaq,hs,nQ]
    ·rw [getD_set_ne true (zcb lM)];simp [lM]
   have PA:((List.range p).filter λj=>!(listed.setIfInBounds i true).getD j true)=((List.range p).filter λj=>!listed.getD j true).filter λj=>!decide (j=i):=by
    rw [List.filter_filter];refine zea λj _=>?_
    rw [xL j];cases listed.getD j true <;> simp
   rw [PA];have Te:((List.range p).filter λj=>!listed.getD j true).Nodup:=List.nodup_range.filter _;have sW:i∈(List.range p).filter λj=>!listed.getD j true:=by rw [zcj,List.mem_range];exact ⟨HM,by simp [JB]⟩
   have EG:∀ (L:List Nat),L.Nodup->i∈L->(L.filter λj=>!decide (j=i)).length+1=L.length:=by
    intro L
    induction L with
    | nil=>intro _ h;cases h
    | cons a L XD =>
     intro hn hm;rw [zbs] at hn;by_cases ha:a=i
     ·subst ha;have:(L.filter λj=>!decide (j=a))=L:=by
       rw [zdg];intro b hb;have:b≠a:=λe=>hn.1 (e▸hb)
       simp [this]
      rw [zbo];simp [this]
     ·have zd:i∈L:=by
       rcases zav.1 hm with h|h
       ·exact absurd h.symm ha
       ·exact h
      rw [zbo];simp only [ha,zex,zcs,zcf,zag];rw [XD hn.2 zd]
   have:=EG _ Te sW;omega
  have PB:wC l (listed.setIfInBounds i true):=by
   intro j oj A7 yE e AR hb;by_cases lM:j=i
   ·subst lM;rw [ox] at A7;cases A7;exact getD_set_true (oG e AR hb)
   ·rw [getD_set_ne false (zcb lM)] at yE;exact getD_set_true (r7 j oj A7 yE e AR hb)
  have PC:∀ j,p<=j->j<l.length->(listed.setIfInBounds i true).getD j true=false:=λj hj Gd=>by rw [getD_set_ne true (by omega)];exact Py j hj Gd
  -- the step
  have next:∀ (dv:Nat->Nat) (w':World) (v:Value),Good g w st x dv w' v ->
    eK P f (nt S Q) (.inRegion l.toArray (Region.linearise.go .any l.toArray fuel (t / (Region.ready .any l.toArray listed).length) (listed.setIfInBounds i true) [])::k) (Act.put ⟨tmps,[]⟩ o.dst v).tmps w':=by
   rintro dv w' v ⟨A3,hb,hl⟩;obtain ⟨ek,lX⟩:=hinv.grow (g':={ g with lim:=dv }) hb hl rfl rfl;refine ih fuel _ _ _ w' _ (by simpa using hs) PB PC JC (by omega) ek (hh.step lX) (by rw [ia];exact hN) λs=>⟨λj y hj yE uK hy=>?_,λMO y hy=>?_⟩
   ·by_cases lM:j=i
    ·subst lM;have JD:o.dst=some s:=by simpa [eH,ox] using uK
     rw [hx] at hy;cases hy;rw [JD];have fB:s<tmps.size:=by
      rw [JD] at hd;have XE:s+1<=N:=zae hd;rw [hN];exact XE
     exact ⟨v,by simp [Act.put,fB],A3⟩
    ·rw [getD_set_ne false (zcb lM)] at yE;obtain ⟨u,h1,h2⟩:=(hJ s).1 j y hj yE uK hy;have o4:o.dst≠some s:=λe=>Xy j i s hj HM lM uK (by simp [eH,ox,e])
     refine ⟨u,?_,h2.mono lX.dO⟩;cases PD:o.dst with
     | none=>exact h1
     | some d =>
      have:d≠s:=λe=>o4 (by rw [PD,e])
      simp [Act.put,zbv,this,h1]
   ·have o4:o.dst≠some s:=λe=>MO i HM (by simp [zaq,hs,nQ]) (by simp [eH,ox,e])
    obtain ⟨u,h1,h2⟩:=(hJ s).2 (λj hj yE=>MO j hj (by
     by_cases lM:j=i
     ·subst lM;simp [zaq,hs,nQ]
     ·rw [getD_set_ne false (zcb lM)];exact yE)) y hy
    refine ⟨u,?_,h2.mono lX.dO⟩;cases PD:o.dst with
    | none=>exact h1
    | some d =>
     have:d≠s:=λe=>o4 (by rw [PD,e])
     simp [Act.put,zbv,this,h1]
  have F4:l.toArray[i]?=some o:=ho;show eK P f (nt S Q) (.inRegion l.toArray (i::_)::k) tmps w;rcases vJ with ⟨hg,vJ⟩|⟨j,want,tt,c,b,y,env',hg,hj,XF,XG,rfl,hE,vJ⟩
  ·have hw:Region.wanted o (yielded l.toArray tmps)=true:=by simp [Region.wanted,hg]
   rcases vJ g S.base w tmps hinv he with ⟨v,dv,w',hr,xM⟩|⟨f',args,hr,hc⟩
   ·exact eK.value F4 hw hr (next dv w' v xM)
   ·exact eK.call F4 hw hr (hc.mono λe w' ⟨v,dv,h1,h2⟩=>⟨v,h1,next dv w' v h2⟩)
  ·obtain ⟨u,hu,XH⟩:=he tt c XF;have hw:Region.wanted o (yielded l.toArray tmps)=b:=by
    rw [←tf XG XH];have Je:((l.toArray)[j]?).bind (·.dst)=some tt:=by simpa using hj
    simp only [Region.wanted,hg,yielded,Je,zac,hu];cases u <;> rfl
   cases b with
   | false=>exact eK.xF F4 hw (next g.lim w undef ⟨.gd _ _ _ (λ_=>rfl) (λh=>by cases h),.refl _ _,λ_ _=>rfl⟩)
   | true =>
    have wrap:∀ dv w' v,Good g w st y dv w' v->Good g w st (.gd true y) dv w' v:=λdv w' v ⟨a,b,c⟩=>⟨.gd _ _ _ (λh=>by cases h) (λ_=>a),b,c⟩
    rcases vJ rfl g S.base w tmps hinv (he.gd hE rfl) with ⟨v,dv,w',hr,xM⟩|⟨f',args,hr,hc⟩
    ·exact eK.value F4 hw hr (next dv w' v (wrap _ _ _ xM))
    ·exact eK.call F4 hw hr (hc.mono λe w' ⟨v,dv,h1,h2⟩=>⟨v,h1,next dv w' v (wrap _ _ _ h2)⟩)
def u7 (P:Program) (f:Ctx) (N:Nat) (S:Start) (Q:EV->St->Prop) (l:List Oper) (p:Nat) (os:List Oper) (k:List Item) (env:Env) (st:St):Prop :=
 ∃ xs,A5 P N l st os xs env/\cm P f N S Q l (l.drop p) k (gg env os xs) st
variable {l:List Oper} {p:Nat} {os:List Oper} {env:Env} {st:St}
theorem u7.nil (h:cm P f N S Q l (l.drop p) k env st):u7 P f N S Q l p [] k env st:=⟨[],trivial,h⟩
theorem u7.g {d:Option Tmp} {op:Op} {ty:TypeId} {pos:String} {after:Array Edge} {x:EV} (h:zF P (lZ l ⟨d,op,ty,pos,after,none⟩ env) st ⟨d,op,ty,pos,after,none⟩ x) (hd:fZ N d=true)
  (hk:u7 P f N S Q l p os k (env.put d x) st):u7 P f N S Q l p (⟨d,op,ty,pos,after,none⟩::os) k env st:=by
 obtain ⟨xs,h1,h2⟩:=hk;exact ⟨x::xs,⟨hd,.inl ⟨rfl,h⟩,h1⟩,h2⟩
theorem u7.q {d:Option Tmp} {op:Op} {ty:TypeId} {pos:String} {after:Array Edge} {x:EV} (h:aG P (lZ l ⟨d,op,ty,pos,after,none⟩ env) st ⟨d,op,ty,pos,after,none⟩ x) (hd:fZ N d=true)
  (hk:u7 P f N S Q l p os k (env.put d x) st):u7 P f N S Q l p (⟨d,op,ty,pos,after,none⟩::os) k env st:=.g h.g hd hk
theorem u7.gZ {d t:Tmp} {op:Op} {ty:TypeId} {pos:String} {after:Array Edge} {j:Nat} {want b:Bool} {c x:EV} {env':Env} (hj:(l[j]?).bind (·.dst)=some t)
  (hl:lookup t (lZ l ⟨some d,op,ty,pos,after,some (j,want)⟩ env)=some c) (hc:Db c want=some b) (hE:zD b (lZ l ⟨some d,op,ty,pos,after,some (j,want)⟩ env) env') (hd:fZ N (some d)=true)
  (h:b=true->zF P env' st ⟨some d,op,ty,pos,after,some (j,want)⟩ x) (hk:u7 P f N S Q l p os k ((d,.gd b x)::env) st):u7 P f N S Q l p (⟨some d,op,ty,pos,after,some (j,want)⟩::os) k env st:=by
 obtain ⟨xs,h1,h2⟩:=hk;exact ⟨.gd b x::xs,⟨hd,.inr ⟨j,want,t,c,b,x,env',rfl,hj,hl,hc,rfl,hE,h⟩,h1⟩,h2⟩
theorem bp.drawn {id:Nat} (p:Nat) (hm:P.follows .mixedOrders=true) (hB:cw l p=true) (h:u7 P f N S Q l p (l.take p) k env st):bp P f N S Q (.code (.region id l.toArray true)::k) env st:=by
 obtain ⟨xs,O5,Cc⟩:=h;simp only [cw,zar] at hB;obtain ⟨⟨⟨⟨Rz,WQ⟩,WR⟩,WS⟩,Uk⟩:=hB;have hp:p<=l.length:=by simpa using Uk
 intro g w tmps hinv hh he hn;refine eK.z7 λt=>?_
 have PE:Region.schedule (P.follows .mixedOrders) l.toArray t=Region.linearise .any l.toArray t:=by simp [Region.schedule,hm]
 rw [PE];have hb:Below w.heap.size w { w with drawn:=w.drawn+1 }:=(Below.refl _ w).drew;obtain ⟨ek,lX⟩:=hinv.grow (g':=g) hb (λ_ _=>rfl) rfl rfl;unfold Region.linearise;refine LH (p:=p) (xs:=xs) hp ?_ ?_ ?_ ?_ O5 Cc p _ t _ g _ tmps (by simp) ?_ ?_ ?_ ?_ ek (hh.step lX) hn λs=>⟨λj x hj yE=>?_,λ_ y hy=>?_⟩
 ·intro i j t hi hj N0 XI uK;have:=cQ (cQ WQ hi) hj;simp [N0,XI,uK] at this
 ·intro i o hi ho t ht j hj lM uK;have h1:=cQ Rz hi;rw [ho] at h1;simp only [zbb] at h1;have h2:=cQ (h1 t ht) hj;simp only [uK,zfe,zdj,zbr,zar,zah,zee] at h2;rcases h2 with (h2|h2)|h2
  ·exact absurd h2.symm lM
  ·exact .inl h2
  ·exact .inr h2
 ·intro i hi nQ j hj;have h1:=cQ WR nQ;simp only [zbr,zah] at h1;rcases h1 with h1|h1
  ·omega
  ·exact cQ h1 hj
 ·intro i o ho e AR kc;have nQ:=(zad.1 ho).1;have h1:=cQ WS nQ;rw [ho] at h1;simp only [zbb] at h1;have:=h1 e (by simpa using AR);simpa [kc] using this
 ·intro i o ho Px;simp [zaq,Array.getElem?_replicate] at Px;split at Px <;> simp_all
 ·intro i hi nQ;simp [zaq,Array.getElem?_replicate,nQ]
 ·have:((List.range p).filter λi=>!(Array.replicate l.toArray.size false).getD i true)=List.range p:=by
   rw [zdg];intro i hi;have hi':=List.mem_range.1 hi;have:i<l.length:=by omega
   simp [zaq,Array.getElem?_replicate,this]
  rw [this];simp
 ·simp;omega
 ·simp [zaq,Array.getElem?_replicate] at yE;split at yE <;> simp_all
 ·exact (he.mono lX.dO) s y hy
end drawn
theorem XJ {n:Int} (h1:-9223372036854775808<=n) (h2:n<=9223372036854775807):IntKind.i64.wrap n=n:=by
 rw [IntKind.wrap_i64];omega
def pb (n m:Nat):EV->Bool
 | .d _=>true
 | .ref o _=>Nat.blt o n
 | .Jc o _ _ _=>Nat.blt o n
 | .cE _ _ t=>Nat.blt t m
 | .mp o=>Nat.blt o n
 | .vc t _=>Nat.blt t m
 | .vp t _ _ _=>Nat.blt t m
 | .vw t _ _ _=>Nat.blt t m
 | .tz _ cs=>EI n m cs
 | .agg cs=>EI n m cs
 | .dN cs=>EI n m cs
 | .gd _ x=>pb n m x
where
 EI (n m:Nat):List EV->Bool
 | []=>true
 | x::l=>pb n m x && EI n m l
theorem iR {a b:Nat} (h:Nat.blt a b=true):a<b:=zae h
theorem qj {n m:Nat}:∀ {l:List EV},pb.EI n m l=true->∀ (i:Nat) c,l[i]?=some c->pb n m c=true
 | [],_,i,c,h=>by simp at h
 | x::l,ho,0,c,h=>by
  simp only [pb.EI,zar] at ho;simp at h;subst h;exact ho.1
 | x::l,ho,i+1,c,h=>by
  simp only [pb.EI,zar] at ho;exact qj ho.2 i c (by simpa using h)
theorem EJ {g:bY} {w:World} {st:St} {n m:Nat} {x:EV} {v:Value} (hn:n<=st.aO.length) (hm:m<=st.au.length) (ho:pb n m x=true) (h:bM g w st x v):bM g w ⟨st.aO.take n,st.au.take m⟩ x v:=by
 have uH:∀ {t:Nat} {x:gK},(st.au.take m)[t]?=some x->st.au[t]?=some x:=fun {t x} hx=>by
  rw [zaj] at hx;split at hx;exact hx;cases hx
 induction h with
 | d x v h=>exact .d _ _ h
 | ref o off h=>exact .ref _ _ (by have:=iR ho;simp;omega)
 | Jc o off l c h=>exact .Jc _ _ _ _ (by have:=iR ho;simp;omega)
 | cE sz rows t v e k hd ht hk hv =>
  have:=iR ho;exact .cE sz rows t v e k hd (by simp [zaj,this,ht]) hk hv
 | mp o h=>exact .mp _ (by have:=iR ho;simp;omega)
 | tz f cs vs hs h ih =>
  simp only [pb] at ho;exact .tz f cs vs hs λi c u hc hu=>ih i c u hc hu (qj ho i c hc)
 | agg cs vs hs h1 h ih =>
  simp only [pb] at ho;exact .agg cs vs hs h1 λi c u hc hu=>ih i c u hc hu (qj ho i c hc)
 | dN cs vs hs h ih =>
  simp only [pb] at ho;exact .dN cs vs hs λi c u hc hu=>ih i c u hc hu (qj ho i c hc)
 | gd b x v h0 h ih =>
  simp only [pb] at ho;exact .gd b x v h0 λhb=>ih hb ho
 | vc t k v ht hf h=>exact .vc t k v (by have:=iR ho;simp;omega) hf λx rows hx=>h x rows (uH hx)
 | vp t k i off v ht hf h=>exact .vp t k i off v (by have:=iR ho;simp;omega) hf λx rows hx=>h x rows (uH hx)
 | vw t k lo n v ht hf h=>exact .vw t k lo n v (by have:=iR ho;simp;omega) hf λx rows hx=>h x rows (uH hx)
def ki (n m:Nat):dL->Bool
 | .row _ cs=>cs.all (pb n m)
 | .map es=>es.all λp=>pb n m p.2
 | .raw _=>true
 | .gone=>true
def Dh (n m:Nat):Env->Bool
 | []=>true
 | (_,x)::e=>pb n m x && Dh n m e
theorem Cd {n m i:Nat} {y:EV}:∀ {env:Env},Dh n m env=true->lookup i env=some y->pb n m y=true
 | [],_,h=>by simp [lookup] at h
 | (j,x)::e,ho,h=>by
  simp only [Dh,zar] at ho;unfold lookup at h;cases hb:Nat.beq i j with
  | true=>rw [hb] at h;cases h;exact ho.1
  | false=>rw [hb] at h;exact Cd ho.2 h
section drop
variable {P:Program} {f:Ctx} {N:Nat} {S:Start} {Q:EV->St->Prop} {k:List Item} {todo:List Item} {env env':Env} {st st':St}
theorem Inv.drop {g:bY} {base n m:Nat} {w:World} (h:Inv g base w st) (hn:n<=st.aO.length) (hm:m<=st.au.length) (ho:(st.aO.take n).all (ki n m)=true):Inv g base w ⟨st.aO.take n,st.au.take m⟩:=by
 have AX:∀ o x,(st.aO.take n)[o]?=some x->st.aO[o]?=some x:=λo x hx=>by
  rw [zaj] at hx;split at hx;exact hx;cases hx
 have e9:∀ t x,(st.au.take m)[t]?=some x->st.au[t]?=some x:=λt x hx=>by
  rw [zaj] at hx;split at hx;exact hx;cases hx
 have ze:∀ o x,(st.aO.take n)[o]?=some x->ki n m x=true:=λo x hx=>zbb.1 ho x (zbg hx)
 have nR:∀ o,St.live ⟨st.aO.take n,st.au.take m⟩ o->st.live o:=λo ⟨x,hx,fh⟩=>⟨x,AX o x hx,fh⟩
 refine ⟨h.base,λo ty cs hx=>?_,λo es hx=>?_,λo x hx=>h.raw o x (AX o _ hx),λo o' fh h1 h2=>h.ne o o' fh (nR _ h1) (nR _ h2),λt e sz k hx=>h.tail t e sz k (e9 t _ hx),λt t' x x' b fh h1 h2=>h.nF t t' x x' b fh (e9 t _ h1) (e9 t' _ h2),λt x o h1 h2=>h.iu t x o (e9 t _ h1) (nR _ h2),h.DH,λt e sz k rows hx=>h.own t e sz k rows (e9 t _ hx)⟩
 ·obtain ⟨h1,h2,vs,h3,h4,h5⟩:=h.row o ty cs (AX o _ hx);have hc:=ze o _ hx;simp only [ki,zbb] at hc;exact ⟨h1,h2,vs,h3,h4,λi c u Dc hu=>⟨EJ hn hm (hc c (zbg Dc)) (h5 i c u Dc hu).1,(h5 i c u Dc hu).2⟩⟩
 ·obtain ⟨h1,ms,c,h3,h4,h5,h6⟩:=h.map o es (AX o _ hx);have hc:=ze o _ hx;simp only [ki,zbb] at hc;exact ⟨h1,ms,c,h3,h4,λi k x me a b=>⟨(h5 i k x me a b).1,EJ hn hm (hc _ (zbg a)) (h5 i k x me a b).2⟩,h6⟩
theorem rl.drop {S:Start} {g:bY} {w:World} {n m:Nat} (hh:rl S g w st) (WT:S.st.aO.length<=n) (ZI:S.st.au.length<=m) (hn:n<=st.aO.length) (hm:m<=st.au.length):rl S g w ⟨st.aO.take n,st.au.take m⟩:=by
 refine ⟨⟨hh.dO.cY,hh.dO.ob,by simp;omega,λt e sz k hk=>?_,by simp;omega,λt x' bw cZ hx ho=>?_⟩,hh.below,hh.lim,hh.frame,λb hb hw=>hh.fresh b hb ?_⟩
 ·obtain ⟨k',h1,h2⟩:=hh.dO.au t e sz k hk;have cZ:=(zad.1 hk).1;exact ⟨k',by simp [zaj,show t<m by omega,h1],h2⟩
 ·refine hh.dO.own t x' bw cZ ?_ ho;rw [zaj] at hx;split at hx;exact hx;cases hx
 ·rcases hw with ⟨o,⟨x,hx,fh⟩,h2⟩|⟨t,x,hx,h2⟩
  ·refine .inl ⟨o,⟨x,?_,fh⟩,h2⟩;rw [zaj] at hx;split at hx;exact hx;cases hx
  ·refine .inr ⟨t,x,?_,h2⟩;rw [zaj] at hx;split at hx;exact hx;cases hx
theorem bp.to (n m:Nat) (hE:dp env env') (ho:st.aO.take n=st'.aO) (ht:st.au.take m=st'.au) (hn:Nat.ble n st.aO.length=true) (hm:Nat.ble m st.au.length=true) (ze:(Dh n m env' && st'.aO.all (ki n m))=true)
  (WT:S.st.aO.length<=n) (ZI:S.st.au.length<=m) (h:bp P f N S Q todo env' st'):bp P f N S Q todo env st:=by
 have Ul:=zae hn;have zd:=zae hm;simp only [zar] at ze;have lX:st'=⟨st.aO.take n,st.au.take m⟩:=by cases st';simp at ho ht;rw [ho,ht]
 subst lX;intro g w tmps hinv hh he hN;refine h g w tmps (hinv.drop Ul zd ze.2) (hh.drop (by omega) (by omega) Ul zd) ?_ hN
 ·intro i y hy;obtain ⟨v,h1,h2⟩:=(he.sub hE) i y hy;exact ⟨v,h1,EJ Ul zd (Cd ze.1 hy) h2⟩
theorem dp.nil:dp env []:=trivial
theorem dp.cons {i:Nat} {x y:EV} {t:Env} (h:lookup i env=some x) (hle:eG x y) (ht:dp env t):dp env ((i,y)::t):=⟨⟨x,h,hle⟩,ht⟩
theorem dp.k2 {env t:Env} {i0 i1:Nat} {x0 x1:EV} (h0:lookup i0 env=some x0) (h1:lookup i1 env=some x1) (u:dp env t):dp env ((i0,x0):: (i1,x1):: t):=.cons h0 (.aj _) (.cons h1 (.aj _) u)
theorem dp.k3 {env t:Env} {i0 i1 i2:Nat} {x0 x1 x2:EV} (h0:lookup i0 env=some x0) (h1:lookup i1 env=some x1) (h2:lookup i2 env=some x2) (u:dp env t):dp env ((i0,x0):: (i1,x1):: (i2,x2):: t):=.cons h0 (.aj _) (.cons h1 (.aj _) (.cons h2 (.aj _) u))
theorem dp.k4 {env t:Env} {i0 i1 i2 i3:Nat} {x0 x1 x2 x3:EV} (h0:lookup i0 env=some x0) (h1:lookup i1 env=some x1) (h2:lookup i2 env=some x2) (h3:lookup i3 env=some x3) (u:dp env t):dp env ((i0,x0):: (i1,x1):: (i2,x2):: (i3,x3):: t):=.cons h0 (.aj _) (.cons h1 (.aj _) (.cons h2 (.aj _) (.cons h3 (.aj _) u)))
theorem dp.k5 {env t:Env} {i0 i1 i2 i3 i4:Nat} {x0 x1 x2 x3 x4:EV} (h0:lookup i0 env=some x0) (h1:lookup i1 env=some x1) (h2:lookup i2 env=some x2) (h3:lookup i3 env=some x3) (h4:lookup i4 env=some x4) (u:dp env t):dp env ((i0,x0):: (i1,x1):: (i2,x2):: (i3,x3):: (i4,x4):: t):=.cons h0 (.aj _) (.cons h1 (.aj _) (.cons h2 (.aj _) (.cons h3 (.aj _) (.cons h4 (.aj _) u))))
theorem dp.k6 {env t:Env} {i0 i1 i2 i3 i4 i5:Nat} {x0 x1 x2 x3 x4 x5:EV} (h0:lookup i0 env=some x0) (h1:lookup i1 env=some x1) (h2:lookup i2 env=some x2) (h3:lookup i3 env=some x3) (h4:lookup i4 env=some x4) (h5:lookup i5 env=some x5) (u:dp env t):dp env ((i0,x0):: (i1,x1):: (i2,x2):: (i3,x3):: (i4,x4):: (i5,x5):: t):=.cons h0 (.aj _) (.cons h1 (.aj _) (.cons h2 (.aj _) (.cons h3 (.aj _) (.cons h4 (.aj _) (.cons h5 (.aj _) u)))))
theorem dp.k7 {env t:Env} {i0 i1 i2 i3 i4 i5 i6:Nat} {x0 x1 x2 x3 x4 x5 x6:EV} (h0:lookup i0 env=some x0) (h1:lookup i1 env=some x1) (h2:lookup i2 env=some x2) (h3:lookup i3 env=some x3) (h4:lookup i4 env=some x4) (h5:lookup i5 env=some x5) (h6:lookup i6 env=some x6) (u:dp env t):dp env ((i0,x0):: (i1,x1):: (i2,x2):: (i3,x3):: (i4,x4):: (i5,x5):: (i6,x6):: t):=.cons h0 (.aj _) (.cons h1 (.aj _) (.cons h2 (.aj _) (.cons h3 (.aj _) (.cons h4 (.aj _) (.cons h5 (.aj _) (.cons h6 (.aj _) u))))))
theorem dp.k8 {env t:Env} {i0 i1 i2 i3 i4 i5 i6 i7:Nat} {x0 x1 x2 x3 x4 x5 x6 x7:EV} (h0:lookup i0 env=some x0) (h1:lookup i1 env=some x1) (h2:lookup i2 env=some x2) (h3:lookup i3 env=some x3) (h4:lookup i4 env=some x4) (h5:lookup i5 env=some x5) (h6:lookup i6 env=some x6) (h7:lookup i7 env=some x7) (u:dp env t):dp env ((i0,x0):: (i1,x1):: (i2,x2):: (i3,x3):: (i4,x4):: (i5,x5):: (i6,x6):: (i7,x7):: t):=.cons h0 (.aj _) (.cons h1 (.aj _) (.cons h2 (.aj _) (.cons h3 (.aj _) (.cons h4 (.aj _) (.cons h5 (.aj _) (.cons h6 (.aj _) (.cons h7 (.aj _) u)))))))
theorem dp.k9 {env t:Env} {i0 i1 i2 i3 i4 i5 i6 i7 i8:Nat} {x0 x1 x2 x3 x4 x5 x6 x7 x8:EV} (h0:lookup i0 env=some x0) (h1:lookup i1 env=some x1) (h2:lookup i2 env=some x2) (h3:lookup i3 env=some x3) (h4:lookup i4 env=some x4) (h5:lookup i5 env=some x5) (h6:lookup i6 env=some x6) (h7:lookup i7 env=some x7) (h8:lookup i8 env=some x8) (u:dp env t):dp env ((i0,x0):: (i1,x1):: (i2,x2):: (i3,x3):: (i4,x4):: (i5,x5):: (i6,x6):: (i7,x7):: (i8,x8):: t):=.cons h0 (.aj _) (.cons h1 (.aj _) (.cons h2 (.aj _) (.cons h3 (.aj _) (.cons h4 (.aj _) (.cons h5 (.aj _) (.cons h6 (.aj _) (.cons h7 (.aj _) (.cons h8 (.aj _) u))))))))
theorem dp.LI {env t:Env} {i0 i1 i2 i3 i4 i5 i6 i7 i8 i9:Nat} {x0 x1 x2 x3 x4 x5 x6 x7 x8 x9:EV} (h0:lookup i0 env=some x0) (h1:lookup i1 env=some x1) (h2:lookup i2 env=some x2) (h3:lookup i3 env=some x3) (h4:lookup i4 env=some x4) (h5:lookup i5 env=some x5) (h6:lookup i6 env=some x6) (h7:lookup i7 env=some x7) (h8:lookup i8 env=some x8) (h9:lookup i9 env=some x9) (u:dp env t):dp env ((i0,x0):: (i1,x1):: (i2,x2):: (i3,x3):: (i4,x4):: (i5,x5):: (i6,x6):: (i7,x7):: (i8,x8):: (i9,x9):: t):=.cons h0 (.aj _) (.cons h1 (.aj _) (.cons h2 (.aj _) (.cons h3 (.aj _) (.cons h4 (.aj _) (.cons h5 (.aj _) (.cons h6 (.aj _) (.cons h7 (.aj _) (.cons h8 (.aj _) (.cons h9 (.aj _) u)))))))))
end drop
section enter
variable {P:Program} {f:FuncId} {fn:Func} {c:Code} {N:Nat}
theorem aD.bc {args:List D} {q:D->Prop} (hf:P.funcs[f]?=some fn) (hb:fn.body=some c) (hN:fn.ntmps=N) (hl:Nat.ble args.length N=true)
  (h:∀ S:Start,S.st=⟨[],[]⟩->bp P (.of f) N S (QD q) [.code c] (z8 0 (args.map EV.d)) ⟨[],[]⟩):aD P f args q :=
 .of (.enter hf hb hN (by simpa using hl) λS hS=>h S hS)
end enter
theorem Um {α β:Type} {f:α->β} {l:List α} {n:Nat} (d:α) (h:n<l.length):(l.map f)[n]?=some (f (l.getD n d)):=by
 rw [zba,zbt,zaf h];rfl
section q
variable {P:Program} {base:Nat} {env:Env} {st:St} {d:Option Tmp} {ty:TypeId} {pos:String} {after:Array Edge} {gd:Option (Nat×Bool)} {t t2 e:TypeId} {x y z:Operand}
section int
variable {a b:Int} (hx:cY env x=some (.d (.ex (.int .i64 a)))) (hy:cY env y=some (.d (.ex (.int .i64 b))))
include hx hy
theorem Ae (h1:-9223372036854775808<=a+b) (h2:a+b<=9223372036854775807):aG P env st ⟨d,.binOp .add t x y t2,ty,pos,after,gd⟩ (.d (.ex (.int .i64 (a+b)))):=Xi hx hy (XJ h1 h2)
theorem Un (h1:-9223372036854775808<=a-b) (h2:a-b<=9223372036854775807):aG P env st ⟨d,.binOp .sub t x y t2,ty,pos,after,gd⟩ (.d (.ex (.int .i64 (a-b)))):=Xj hx hy (XJ h1 h2)
end int
theorem Uo {sz n:Nat} {rows:List (List D)} {ev:EV} {k:IntKind} {i:Int} {row:List D} {inf:TypeInfo} (ht:P.underlying t=some (.slice e)) (hi:P.info? e=some inf) (fB:inf.size=sz)
  (hx:cY env x=some ev) (hs:uy ev=some (sz,rows)) (hy:cY env y=some (.d (.ex (.int k i)))) (hn:i=n) (hr:rows[n]?=some row) :
  aG P env st ⟨d,.indexAddr t x y,ty,pos,after,gd⟩ (.d (.ro row)):=λg base w tmps hinv he=>by
 subst hn;obtain ⟨b,off,c,hv,cZ,hro⟩:=Xl (rp hs (aN he hx)) hr;refine ⟨_,.d _ _ hro,λw' _=>?_⟩;have:=B5 (d:=d) (ty:=ty) (pos:=pos) (after:=after) (gd:=gd) ht hi hv (aN he hy).bJ (by omega) (by omega) w';rw [zch,fB] at this;exact this
theorem PF {a:List UInt8} {k:IntKind} {i:Int} {n:Nat} (ht:P.underlying t=some .string) (hx:cY env x=some (.d (.ex (.string ⟨a.toArray⟩)))) (hy:cY env y=some (.d (.ex (.int k i)))) (hn:i=n) (cZ:n<a.length) :
  aG P env st ⟨d,.index t x y,ty,pos,after,gd⟩ (.d (.ex (.int .u8 ((a.getD n 0).toNat:Int)))):=by
 subst hn;exact Pg ht hx hy (by omega) (by rw [zch,zbt,zaf cZ];rfl)
theorem Up {sz:Nat} {rows:List (List D)} {ev:EV} (ht:P.underlying t=some (.slice e)) (hx:cY env x=some ev) (hs:uy ev=some (sz,rows)) :
  aG P env st ⟨d,.call ⟨.builtin .len,#[x],#[t]⟩,ty,pos,after,gd⟩ (.d (.ex (.int .i64 rows.length))):=qh λg w tmps w' he=>by
 obtain ⟨A,c,hv⟩:=Ea (rp hs (aN he hx));exact D9 ht hv w'
theorem N1 {cs:List D} {n:Nat} (h1:(P.underlying t).map j4=some false) (hs:(P.info? t).map (·.size)=some n) (hx:cY env x=some (.d (.ro cs))) (hn:Nat.beq cs.length n=true) :
  aG P env st ⟨d,.load t x,ty,pos,after,gd⟩ (.d (.agg cs)):=by
 have Ul:=zas hn;have:=MG (d:=d) (ty:=ty) (pos:=pos) (after:=after) (gd:=gd) (st:=st) h1 hs (zfp Ul.symm) hx
 rwa [zcc (by omega)] at this
def placesOf (P:Program) (t:TypeId):Option (List (Nat×Nat)):=match P.underlying t with
 | some (.struct fs)=>if fs.toList.all (λf=>(P.info? f.type).isSome) then some (fs.toList.map λf=>(f.offset,Jy P f.type)) else none
 | _=>none
theorem bo {ps:List (Nat×Nat)} {inf:TypeInfo} {z:Value} {zs r:List D} {l:List (Nat×Operand)} (hp:placesOf P t=some ps) (hi:P.info? t=some inf) (hz:inf.zero=some z) (p9:cellsD (.d (cv z))=some zs)
  (hl:DM (λi=>ps[i]?) env zs l=some r):aG P env st ⟨d,.build t l.toArray,ty,pos,after,gd⟩ (.d (.agg r)):=by
 unfold placesOf at hp;split at hp
 ·rename_i fs hu;split at hp
  ·rename_i oG;cases hp;refine RS hu hi hz p9 oG ?_;rw [←hl];congr 1;funext i;simp [placeOf]
  ·cases hp
 ·cases hp
theorem aV {sz:Nat} {inf:TypeInfo} {z:Value} {zs r:List D} {l:List (Nat×Operand)} (ht:P.underlying t=some (.slice e)) (hi:P.info? e=some inf) (fB:inf.size=sz) (hz:inf.zero=some z) (p9:Nat.beq z.cells.size sz=true)
  (xJ:Nat.ble sz 16777216=true) (Li:Nat.blt 0 sz=true) (MM:cellsD (.d (cv z))=some zs) (hl:DM (λi=>some (i*sz,sz)) env zs l=some r) :
  zF P env st ⟨d,.buildSlice t 1 l.toArray,ty,pos,after,gd⟩ (.d (.sl sz [r])):=by
 have Ge:=zas p9;have GZ:=zae xJ;intro g base w tmps hinv he;have Ac:=kW (g:=g) (w:=w) (st:=st) MM (.d _ _ (qf _ _ z));have O4:zs.length=sz:=by rw [←Ac.1,Ge]
 have O6:r.length=sz:=by
  obtain ⟨us,_,_,h3⟩:=tE he l zs z.cells r hl Ac;rw [h3,O4]
 have DL:(List.replicate 1 zs).flatten=zs:=by simp
 exact A4 (len:=1) ht hi fB hz Ge (by omega) (by omega) (by rw [DL,O4];omega) MM (by rw [DL,hl];simp) (by simp [O6]) rfl (iR Li) g base w tmps hinv he
end q
theorem Inv.N2 {g:bY} {base:Nat} {w:World} {st:St} (h:Inv g base w st) (e sz:Nat) :
  ∃ g',g'.tk st.au.length=.slice (some ⟨w.heap.size,0,none⟩) 0 0/\Inv g' base (w.alloc (.cells #[] e)) (st.tok ⟨e,sz,0,none⟩)/\Step base g w st g' (w.alloc (.cells #[] e)) (st.tok ⟨e,sz,0,none⟩):=by
 obtain ⟨g',h1,_,_,h2,h3⟩:=h.sV ⟨e,sz,0,none⟩ (v:=.slice (some ⟨w.heap.size,0,none⟩) 0 0) (xs:=[]) ⟨by simp,.inr ⟨w.heap.size,0,#[],rfl,h.base,heap_alloc_new w _,zam _,by simp [maxLen],by simp,by simp⟩⟩
  (.inr ⟨rfl,(Below.refl _ w).alloc (zam _) _⟩) (λrows hh=>by cases hh)
 exact ⟨g',h1,h2,h3⟩
section rules
variable {P:Program} {base:Nat} {env:Env} {st:St} {d:Option Tmp} {ty:TypeId} {pos:String} {after:Array Edge} {gd:Option (Nat×Bool)} {t t2 e:TypeId} {x y z:Operand}
theorem Ce {inf:TypeInfo} {sz:Nat} (ht:P.underlying t=some (.slice e)) (hi:P.info? e=some inf) (fB:inf.size=sz) :
  xG P base env st ⟨d,.buildSlice t 0 #[],ty,pos,after,gd⟩ (.cE sz [] st.au.length) (st.tok ⟨e,sz,0,none⟩):=by
 intro g w tmps hinv he;obtain ⟨g',h1,h2,h3⟩:=hinv.N2 e sz;refine ⟨_,g',_,?_,.cE sz [] _ (.slice (some ⟨w.heap.size,0,none⟩) 0 0) e 0 (.sl sz [] _ 0 0 (zam _) (by simp) (by simp) (by simp)) (by simp [St.tok]) (zam _) (λ_=>.inl h1.symm),h2,h3⟩;simp [execOp,Instr.buildSlice,run_underlying ht,ov hi,newRow,Instr.fill];rw [show Array.map (λ_=>(default:Value)) (Array.range 0)=#[] from by simp [Array.range_zero']]
end rules
def nth {α:Type} [Inhabited α] (l:List α) (k:Nat):α:=l.getD k default
theorem r9 {α:Type} [Inhabited α] {l:List α} {k:Nat} (h:k<l.length):nth l k=l[k]:=by
 unfold nth;rw [zbt,zaf h];rfl
theorem Cg {α β:Type} [Inhabited α] {f:α->β} {l:List α} {n:Nat} (h:n<l.length):(l.map f)[n]?=some (f (nth l n)):=Um default h
theorem rq {α:Type} [Inhabited α] {l:List α} {k:Nat} (h:k<l.length):l.take (k+1)=l.take k++[nth l k]:=by
 rw [r9 h,List.take_succ_eq_append_getElem h]
theorem A8 {α:Type} [Inhabited α] {l:List α} {k:Nat} (h:k<l.length):l.drop k=nth l k::l.drop (k+1):=by
 rw [r9 h];exact List.drop_eq_getElem_cons h
abbrev cI (n:Int):D:=.ex (.int .i64 n)
abbrev cS (l:List UInt8):D:=.ex (.string ⟨l.toArray⟩)
abbrev cB (b:Bool):D:=.ex (.bool b)
def rI (n:Int):List D:=[.ex (.int .i64 n)]
def rS (l:List UInt8):List D:=[.ex (.string ⟨l.toArray⟩)]
abbrev ag {α:Type} (sz:Nat) (row:α->List D) (l:List α):D:=.sl sz (l.map row)
structure A9 (P:Program) (key:TypeId) (κ:Type) [BEq κ] [LawfulBEq κ] where
 ke:κ->Value
 kd:TypeDesc
 ZJ:P.underlying key=some kd
 same:∀ a b,Instr.sameNow kd (ke a) (ke b)=some (a==b)
 bits:∀ a,Instr.sameBits 10000 (ke a) (ke a)=true
 check:∀ a b w,(Instr.checkKey b 10000 key (ke a)).run P w=.ok () w
def RU {P:Program} {key:TypeId} (h:P.underlying key=some (.int .i64)):A9 P key Int where
 ke n:=.int .i64 n
 kd:=.int .i64
 ZJ:=h
 same a b:=by simp [Instr.sameNow]
 bits a:=by simp [Instr.sameBits]
 check a b w:=by
  have:∀ n,(Instr.checkKey b (n+1) key (.int .i64 a)).run P w=.ok () w:=λn=>by simp [Instr.checkKey,run_underlying h]
  exact this 9999
def strKeys {P:Program} {key:TypeId} (h:P.underlying key=some .string):A9 P key (List UInt8) where
 ke s:=.string ⟨s.toArray⟩
 kd:=.string
 ZJ:=h
 same a b:=by
  simp only [Instr.sameNow];rw [beq_toListBytes];simp
 bits a:=by
  simp only [Instr.sameBits];rw [beq_toListBytes];simp
 check a b w:=by
  have:∀ n,(Instr.checkKey b (n+1) key (.string ⟨a.toArray⟩)).run P w=.ok () w:=λn=>by simp [Instr.checkKey,run_underlying h]
  exact this 9999
section alist
variable {κ α:Type} [BEq κ] [LawfulBEq κ]
def er (l:List (κ×α)) (k:κ):Option Nat:=l.findIdx? λp=>k==p.1
def aC (l:List (κ×α)) (k:κ):Option α:=(l.find? λp=>k==p.1).map (·.2)
def dj (l:List (κ×α)) (k:κ) (v:α):List (κ×α):=match er l k with
 | some j=>l.set j (k,v)
 | none=>l++[(k,v)]
theorem G0 (k:κ):aC ([]:List (κ×α)) k=none:=rfl
theorem l7 (l:List (κ×α)) (k:κ):aC l k=(er l k).bind λj=>(l[j]?).map (·.2):=by
 induction l with
 | nil=>rfl
 | cons p l ih =>
  unfold aC er at *;rw [List.find?_cons,List.findIdx?_cons];by_cases h:k==p.1
  ·simp [h]
  ·simp only [h,zbf,zbw] at *;rw [ih];cases List.findIdx? (λp=>k==p.fst) l <;> simp
theorem fw (l:List (κ×α)) (k k':κ) (v:α):aC (dj l k v) k'=if k'==k then some v else aC l k':=by
 induction l with
 | nil =>
  unfold dj er aC;by_cases h:k'==k <;> simp [List.find?_cons,h]
 | cons p l ih =>
  unfold dj er at *;rw [List.findIdx?_cons];by_cases h:k==p.1
  ·simp only [h,zcf,List.set_cons_zero];have hk:k=p.1:=eq_of_beq h;unfold aC;rw [List.find?_cons,List.find?_cons];by_cases h':k'==k
   ·simp [h']
   ·have:(k'==p.1)=false:=by rw [←hk];simpa using h'
    simp [h',this]
  ·simp only [h,zbf,zbw];have XK:aC ((match Option.map (λx=>x+1) (List.findIdx? (λp=>k==p.1) l) with
     | some j=>(p::l).set j (k,v)
     | none=>(p::l)++[(k,v)])) k'=if k'==p.1 then some p.2 else aC (match List.findIdx? (λp=>k==p.1) l with
     | some j=>l.set j (k,v)
     | none=>l++[(k,v)]) k':=by
    cases List.findIdx? (λp=>k==p.1) l with
    | none =>
     simp only [Option.map_none,List.cons_append];unfold aC;rw [List.find?_cons];by_cases h2:k'==p.1 <;> simp [h2]
    | some j =>
     simp only [Option.map_some,List.set_cons_succ];unfold aC;rw [List.find?_cons];by_cases h2:k'==p.1 <;> simp [h2]
   refine XK.trans ?_;rw [ih];by_cases h2:k'==p.1
   ·have hk:k'=p.1:=eq_of_beq h2;have h3:(k'==k)=false:=by
     rw [hk];rw [zff];intro he;exact h (by rw [eq_of_beq he];simp)
    simp [h2,h3,aC,List.find?_cons]
   ·by_cases h3:k'==k
    ·simp [h2,h3]
    ·simp [h2,h3,aC,List.find?_cons]
end alist
def jO {κ α:Type} (ke:κ->Value) (val:α->D) (l:List (κ×α)):List (Value×EV):=l.map λp=>(ke p.1,.d (val p.2))
section find
variable {P:Program} {key:TypeId} {κ α:Type} [BEq κ] [LawfulBEq κ] (K:A9 P key κ)
theorem EK (k:κ):∀ (l:List (κ×α)) (ms:List MapEntry) (i:Nat),ms.map (·.key)=l.map (λp=>K.ke p.1) ->
  Instr.findNow K.kd (K.ke k) ms i=some ((er l k).bind λj=>(ms[j]?).map λm=>(i+j,m.val))
 | [],[],i,_=>rfl
 | [],m::ms,i,h=>by simp at h
 | p::l,[],i,h=>by simp at h
 | p::l,m::ms,i,h=>by
  simp only [zap,List.cons.injEq] at h;unfold Instr.findNow;rw [h.1,K.same];by_cases hk:k==p.1
  ·simp [hk,er,List.findIdx?_cons]
  ·have RM:(k==p.1)=false:=by simpa using hk
   rw [RM];simp only [];rw [EK k l ms (i+1) h.2];unfold er;rw [List.findIdx?_cons,RM];simp only [zbf,zbw];cases List.findIdx? (λp=>k==p.1) l with
   | none=>rfl
   | some j =>
    simp only [zac,Option.map_some,List.getElem?_cons_succ];congr 2;funext m;congr 1;omega
theorem JE (k:κ) {l:List (κ×α)} {ms:List MapEntry} (h:ms.map (·.key)=l.map (λp=>K.ke p.1)) (w:World) :
  (Instr.findKey key (K.ke k) ms).run P w=.ok ((er l k).bind λj=>(ms[j]?).map λm=>(j,m.val)) w:=by
 simp only [Instr.findKey,Sem.run_bind,run_underlying K.ZJ,Result.andThen_ok,EK K k l ms 0 h,Sem.run_pure,zbp]
end find
theorem xN {κ α:Type} [BEq κ] {l:List (κ×α)} {k:κ} {j:Nat} (h:er l k=some j):j<l.length:=by
 unfold er at h;rw [List.findIdx?_eq_some_iff_getElem] at h;exact h.1
section rules
variable {P:Program} {base:Nat} {env:Env} {st:St} {d:Option Tmp} {ty:TypeId} {pos:String} {after:Array Edge} {gd:Option (Nat×Bool)} {t t2 e key:TypeId} {x y z:Operand}
 {κ α:Type} [BEq κ] [LawfulBEq κ]
theorem PG {g:bY} {w:World} {st:St} {l:List (κ×α)} {ke:κ->Value} {val:α->D} {ms:Array MapEntry} (hl:ms.size=(jO ke val l).length)
  (h:∀ (i:Nat) k x (m:MapEntry),(jO ke val l)[i]?=some (k,x)->ms[i]?=some m->m.key=k/\bM g w st x m.val):ms.toList.map (·.key)=l.map λp=>ke p.1:=by
 apply zby;intro i;rw [zba,zba];have hlen:ms.size=l.length:=by simpa [jO] using hl
 by_cases hi:i<l.length
 ·have h1:ms[i]?=some (ms[i]'(by omega)):=zbe (by omega);have h2:l[i]?=some l[i]:=zaf hi;have h3:=(h i (ke l[i].1) (.d (val l[i].2)) _ (by simp [jO,h2]) h1).1;rw [h2,zbx,h1];simp [h3]
 ·rw [zbl (by simp;omega),zbl (by omega)];rfl
theorem fV:xG P base env st ⟨d,.makeMap t none,ty,pos,after,gd⟩ (.mp st.aO.length) (st.add (.map [])):=by
 intro g w tmps hinv he;obtain ⟨g',hi,hs,AX⟩:=hinv.newObj (.map []) (.map #[] 0) (λLv DK e=>by cases e) (λes e=>by cases e;exact ⟨rfl,rfl⟩);refine ⟨.map (some w.heap.size),g',_,?_,?_,hi,hs⟩
 ·simp [execOp,Instr.makeMap]
 ·rw [←AX];exact .mp _ (by simp [St.add])
end rules
inductive FK where
 | i (k:IntKind)
 | b
 | s
def Gf:Option TypeDesc->Option FK
 | some (.int k)=>some (.i k)
 | some .bool=>some .b
 | some .string=>some .s
 | _=>none
def qk:FK->Value->Bool
 | .i k,.int k' _=>decide (k=k')
 | .b,.bool _=>true
 | .s,.string _=>true
 | _,_=>false
def LJ:Value->Value->Bool
 | .int _ a,.int _ b=>a==b
 | .bool a,.bool b=>a==b
 | .string a,.string b=>a.toList==b.toList
 | _,_=>false
def eI:List Value->List Value->Bool
 | [],[]=>true
 | x::xs,y::ys=>LJ x y && eI xs ys
 | _,_=>false
def fitAll:List FK->List Value->Bool
 | [],[]=>true
 | k::ks,v::vs=>qk k v && fitAll ks vs
 | _,_=>false
def ru (P:Program):Nat->List Field->Option (List FK)
 | _,[]=>some []
 | n,f::fs=>match Nat.beq f.offset n,decide (f.name ≠ "_"),Gf (P.underlying f.type),ru P (n+1) fs with
  | true,true,some k,some ks=>some (k::ks)
  | _,_,_,_=>none
def gR (P:Program) (t:TypeId):Option (List FK):=match P.underlying t with
 | some (.struct fs)=>if P.stoodInHeld t || P.eqGuardType P.depth t then none else ru P 0 fs.toList
 | _=>none
section eq
variable {P:Program}
theorem vK {t:TypeId} {k:FK} (h:Gf (P.underlying t)=some k) {cs:Array Value} {off:Nat} {v:Value} (hv:cs[off]?=some v) (w:World):(part t cs off).run P w=.ok v w:=by
 have h1:(P.underlying t).map j4=some true:=by
  cases hd:P.underlying t with
  | none=>rw [hd] at h;cases h
  | some Lq=>rw [hd] at h;cases Lq <;> first|rfl|cases h
 simp [part,vF h1,hv]
theorem xO {t:TypeId} {k:FK} (h:Gf (P.underlying t)=some k) {x y:Value} (hx:qk k x=true) (hy:qk k y=true) (n:Nat) (w:World):(Op.equalIn (n+1) t x y).run P w=.ok (LJ x y) w:=by
 cases hd:P.underlying t with
 | none=>rw [hd] at h;cases h
 | some Lq =>
  rw [hd] at h;cases Lq <;> simp only [Gf,Option.some.injEq,reduceCtorEq] at h
  ·subst h;cases x <;> simp only [qk,zbf] at hx;cases y <;> simp only [qk,zbf] at hy;exact run_equalIn_bool' w n t _ _ hd
  ·subst h;cases x <;> simp only [qk,zbf] at hx;cases y <;> simp only [qk,zbf] at hy;have e1:=zds hx;have e2:=zds hy;rw [←e1,←e2];exact run_equalIn_int w n t _ _ _ _ hd
  ·subst h;cases x <;> simp only [qk,zbf] at hx;cases y <;> simp only [qk,zbf] at hy;exact run_equalIn_string w n t _ _ hd
theorem zG (n:Nat) (w:World):∀ (fs:List Field) (k:Nat) (ks:List FK) (xs ys:List Value) (X Y:Array Value),ru P k fs=some ks->fitAll ks xs=true->fitAll ks ys=true ->
  (∀ (j:Nat) v,xs[j]?=some v->X[k+j]?=some v)->(∀ (j:Nat) v,ys[j]?=some v->Y[k+j]?=some v)->(Op.eqFields (n+1) X Y fs).run P w=.ok (eI xs ys) w
 | [],k,ks,xs,ys,X,Y,h,hx,hy,_,_=>by
  simp only [ru,Option.some.injEq] at h;subst h
  match xs,ys with
  | [],[]=>rfl
  | _::_,_=>cases hx
  | [],_::_=>cases hy
 | f::fs,k,ks,xs,ys,X,Y,h,hx,hy,hX,hY=>by
  unfold ru at h;split at h
  ·rename_i kk XL h1 h2 h3 h4;simp only [Option.some.injEq] at h;subst h
   match xs,ys with
   | [],_=>cases hx
   | _::_,[]=>cases hy
   | x::xs,y::ys =>
    simp only [fitAll,zar] at hx hy;have ho:=zas h1;have JF:f.name ≠ "_" := zds h2;have px:=vK h3 (cs:=X) (off:=f.offset) (hX 0 x rfl |> λh=>by rw [ho];simpa using h) w;have py:=vK h3 (cs:=Y) (off:=f.offset) (hY 0 y rfl |> λh=>by rw [ho];simpa using h) w;have pe:=xO h3 hx.1 hy.1 n w;have ih:=zG n w fs (k+1) XL xs ys X Y h4 hx.2 hy.2 (λj v hv=>by have:=hX (j+1) v (by simpa using hv);rwa [show k+1+j=k+(j+1) by omega]) (λj v hv=>by have:=hY (j+1) v (by simpa using hv);rwa [show k+1+j=k+(j+1) by omega]);simp only [Op.eqFields,zab JF,Sem.run_bind,px,py,pe,Result.andThen_ok,Sem.run_ite,eI];cases LJ x y
    ·rfl
    ·simpa using ih
  ·cases h
theorem HN {t:TypeId} {ks:List FK} (h:gR P t=some ks) {xs ys:List Value} (hx:fitAll ks xs=true) (hy:fitAll ks ys=true) (w:World) (op:BinOp) (x y:Operand) :
  (eqGuard op t x y (.agg xs.toArray) (.agg ys.toArray)).run P w=.ok () w/\(Op.equalIn 10000 t (.agg xs.toArray) (.agg ys.toArray)).run P w=.ok (eI xs ys) w:=by
 unfold gR at h;split at h
 ·rename_i fs hu;split at h
  ·cases h
  ·rename_i MO;simp only [zbr,not_or,Bool.not_eq_true] at MO;have RT:P.fieldsOf t=fs:=by simp [Program.fieldsOf,hu]
   refine ⟨run_eqGuard_agg w op t x y _ _ MO.2,?_⟩;rw [run_equalIn_struct w 9999 t _ _ (by rw [RT];exact hu) MO.1,RT];exact zG 9998 w fs.toList 0 ks xs ys _ _ h hx hy (λj v hv=>by simpa using hv) (λj v hv=>by simpa using hv)
 ·cases h
end eq
theorem wF {lim:Nat->Nat} {w:World} {u v:Value} (h:dK lim w (.ex u) v):v=u:=by cases h;rfl
def RA:List D->Option (List Value)
 | []=>some []
 | .ex v::l=>match RA l with
  | some r=>some (v::r)
  | none=>none
 | _::_=>none
theorem HO:∀ {l:List D} {vs:List Value},RA l=some vs->l=vs.map D.ex
 | [],vs,h=>by simp [RA] at h;subst h;rfl
 | .ex v::l,vs,h=>by
  unfold RA at h;split at h
  ·rename_i r hr;simp only [Option.some.injEq] at h;subst h;rw [HO hr];rfl
  ·cases h
 | .agg _::l,vs,h=>by cases h
 | .dN _::l,vs,h=>by cases h
 | .sl _ _::l,vs,h=>by cases h
 | .ro _::l,vs,h=>by cases h
 | .e0 _::l,vs,h=>by cases h
 | .any::l,vs,h=>by cases h
theorem th {lim:Nat->Nat} {w:World} {cs:List D} {vs:List Value} {v:Value} (h:RA cs=some vs) (hr:dK lim w (.agg cs) v):v=.agg vs.toArray:=by
 have hm:=HO h;subst hm;cases hr with
 | agg _ us hs _ hc =>
  congr 1;apply Array.ext';apply zby;intro i;simp only [zdy] at hs;by_cases hi:i<vs.length
  ·have h1:us[i]?=some (us[i]'(by omega)):=zbe (by omega);have h2:=hc i (.ex vs[i]) _ (by rw [zba,zaf hi];rfl) h1;rw [zbx,h1,zaf hi,wF h2]
  ·rw [zbl (by simp;omega),zbl (by simp;omega)]
section rules
variable {P:Program} {f:Ctx} {N:Nat} {S:Start} {Q:EV->St->Prop} {k:List Item} {base:Nat} {env:Env} {st:St} {ops rest:List Oper} {d:Option Tmp} {ty:TypeId} {pos:String} {after:Array Edge} {gd:Option (Nat×Bool)} {t t2 e:TypeId} {x y z:Operand}
section steq
variable {ks:List FK} {cs ds:List D} {xs ys:List Value} (hk:gR P t=some ks) (hx:cY env x=some (.d (.agg cs))) (hy:cY env y=some (.d (.agg ds))) (h1:RA cs=some xs) (h2:RA ds=some ys) (h3:fitAll ks xs=true) (h4:fitAll ks ys=true)
include hk hx hy h1 h2 h3 h4
theorem HP:aG P env st ⟨d,.binOp .eql t x y t2,ty,pos,after,gd⟩ (.d (.ex (.bool (eI xs ys)))):=qh λg w tmps w' he=>by
 obtain ⟨k1,k2⟩:=HN hk h3 h4 w' .eql x y;have e1:Act.eval ⟨tmps,[]⟩ x=.agg xs.toArray:=by cases aN he hx with|d _ _ h=>exact th h1 h
 have e2:Act.eval ⟨tmps,[]⟩ y=.agg ys.toArray:=by cases aN he hy with|d _ _ h=>exact th h2 h
 simp only [execOp,e1,e2,Sem.run_bind,k1,Result.andThen_ok,run_eql_struct,k2,Sem.run_pure]
theorem qS:aG P env st ⟨d,.binOp .neq t x y t2,ty,pos,after,gd⟩ (.d (.ex (.bool (!eI xs ys)))):=qh λg w tmps w' he=>by
 obtain ⟨k1,k2⟩:=HN hk h3 h4 w' .neq x y;have e1:Act.eval ⟨tmps,[]⟩ x=.agg xs.toArray:=by cases aN he hx with|d _ _ h=>exact th h1 h
 have e2:Act.eval ⟨tmps,[]⟩ y=.agg ys.toArray:=by cases aN he hy with|d _ _ h=>exact th h2 h
 simp only [execOp,e1,e2,Sem.run_bind,k1,Result.andThen_ok,run_neq_struct,k2,Sem.run_pure]
end steq
theorem oH {f':FuncId} {l:List Operand} {es:List EV} (h:B6 env l=some es):aG P env st ⟨d,.makeFunc (.func f') #[] l.toArray,ty,pos,after,gd⟩ (.tz f' es):=by
 intro g base w tmps hinv he;obtain ⟨k1,k2⟩:=vG he l es h;refine ⟨.func (.func f') #[] (l.map (Act.eval ⟨tmps,[]⟩)).toArray,.tz f' es _ (by simp [k1]) (λi c u hc hu=>k2 i c u hc (by simpa using hu)),λw' _=>?_⟩;simp [execOp,Instr.makeFunc]
theorem nS {o off n m sz:Nat} {k:IntKind} {i:Int} (ht:P.underlying t=some (.array n e)) (hi:∃ inf,P.info? e=some inf/\inf.size=sz) (hx:cY env x=some (.ref o off)) (hy:cY env y=some (.d (.ex (.int k i)))) (hm:i=m) (cZ:m<n) :
  aG P env st ⟨d,.indexAddr t x y,ty,pos,after,gd⟩ (.ref o (off+m*sz)):=λg base w tmps hinv he=>by
 subst hm;obtain ⟨inf,hi,rfl⟩:=hi;have h:=aN he hx;generalize hv:Act.eval ⟨tmps,[]⟩ x=v at h;have PH:=(aN he hy).bJ;cases h with
 | ref _ _ kQ =>
  refine ⟨.pointer (some ⟨g.ob o,off+m*inf.size,none⟩),.ref _ _ kQ,λw' _=>?_⟩;simp [execOp,hv,PH,Instr.indexAt,asIntOf,run_underlying ht,Instr.sureAddr,sizeOf,typeInfo,hi,cZ,Addr.add_lit]
end rules
section rules
variable {P:Program} {f:Ctx} {N:Nat} {S:Start} {Q:EV->St->Prop} {k:List Item} {base:Nat} {env:Env} {st:St} {ops rest:List Oper} {d:Option Tmp} {ty:TypeId} {pos:String} {after:Array Edge} {gd:Option (Nat×Bool)} {t t2 e:TypeId} {x y z:Operand}
theorem PI {n m:Nat} {inf:TypeInfo} {cs:List D} {c:D} {k:IntKind} {i:Int} (ht:P.underlying t=some (.array n e)) (h1:(P.underlying e).map j4=some true) (hi:P.info? e=some inf) (hs:inf.size=1)
  (hx:cY env x=some (.d (.agg cs))) (hy:cY env y=some (.d (.ex (.int k i)))) (hm:i=m) (cZ:m<n) (hc:cs[m]?=some c) :
  aG P env st ⟨d,.index t x y,ty,pos,after,gd⟩ (.d c):=λg base w tmps hinv he=>by
 subst hm;have h:=aN he hx;generalize hv:Act.eval ⟨tmps,[]⟩ x=v at h;have PH:=(aN he hy).bJ;cases h with
 | d _ _ h =>
  cases h with
  | agg _ us fB h1c sH =>
   have kQ:m<us.size:=by rw [fB];exact (zad.1 hc).1
   have hu:us[m]?=some us[m]:=zbe kQ;refine ⟨us[m],.d _ _ (sH m c _ hc hu),λw' hb=>?_⟩;have hag:=vF (P:=P) h1 w';simp [execOp,hv,PH,Instr.index,asIntOf,run_underlying ht,sizeOf,typeInfo,hi,hs,cZ,part,hag,kQ]
theorem oI {n sz:Nat} {inf ie:TypeInfo} {z:Value} {zs r:List D} {l:List (Nat×Operand)} (ht:P.underlying t=some (.array n e)) (hi:P.info? t=some inf) (hz:inf.zero=some z) (hie:P.info? e=some ie) (N3:ie.size=sz) (p9:cellsD (.d (cv z))=some zs)
  (hl:DM (λi=>some (i*sz,sz)) env zs l=some r):aG P env st ⟨d,.build t l.toArray,ty,pos,after,gd⟩ (.d (.agg r)):=by
 intro g base w tmps hinv he;have Ac:=kW (g:=g) (w:=w) (st:=st) p9 (.d _ _ (qf _ _ z));obtain ⟨us,h1,h2,h3⟩:=tE he l zs z.cells r hl Ac;refine ⟨.agg us,.d _ _ (.agg r us h2.1 (λi u hu=>?_) λi c u hc hu=>(h2.2 i c u hc hu).1),λw' hb=>?_⟩
 ·have hi':i<r.length:=by rw [←h2.1];exact (zau.1 hu).1
  exact (h2.2 i _ u (zaf hi') hu).2
 ·subst N3;have hso:(sizeOf e:Sem Nat).run P w'=.ok ie.size w':=by simp [sizeOf,typeInfo,hie]
  simp only [execOp,Instr.build,Sem.run_bind,tF hi hz,Result.andThen_ok,run_underlying ht,zef,hso];rw [h1];simp
def sX (x y:D):Prop:=∀ lim w v,dK lim w x v->dK lim w y v
theorem sX.aj (x:D):sX x x:=λ_ _ _ h=>h
theorem sX.nil (sz:Nat):sX (.ex (.slice none 0 0)) (.sl sz []):=λ_ _ _ h=>by cases h;exact .nil sz _
def Gg:List D->List D->Prop
 | [],[]=>True
 | x::xs,y::ys=>sX x y/\Gg xs ys
 | _,_=>False
theorem Gg.get:∀ {xs ys:List D},Gg xs ys->xs.length=ys.length/\∀ (i:Nat) y,ys[i]?=some y->∃ x,xs[i]?=some x/\sX x y
 | [],[],_=>⟨rfl,λi y h=>by simp at h⟩
 | x::xs,y::ys,h=>by
  obtain ⟨h1,h2⟩:=Gg.get h.2;refine ⟨by simp [h1],λi z hz=>?_⟩;cases i with
  | zero=>simp at hz;subst hz;exact ⟨x,rfl,h.1⟩
  | succ i=>simpa using h2 i z (by simpa using hz)
 | [],_::_,h=>h.elim
 | _::_,[],h=>h.elim
theorem sX.agg {xs ys:List D} (h:Gg xs ys):sX (.agg xs) (.agg ys):=by
 intro lim w v hv;obtain ⟨h1,h2⟩:=h.get;cases hv with
 | agg _ vs hs ho hc =>
  refine .agg _ vs (by rw [hs,h1]) ho λi c u hi hu=>?_
  obtain ⟨x,hx,hle⟩:=h2 i c hi;exact hle lim w u (hc i x u hx hu)
def JG:List (List D)->List (List D)->Prop
 | [],[]=>True
 | x::xs,y::ys=>Gg x y/\JG xs ys
 | _,_=>False
theorem JG.get:∀ {xs ys:List (List D)},JG xs ys->xs.length=ys.length/\∀ (i:Nat) y,ys[i]?=some y->∃ x,xs[i]?=some x/\Gg x y
 | [],[],_=>⟨rfl,λi y h=>by simp at h⟩
 | x::xs,y::ys,h=>by
  obtain ⟨h1,h2⟩:=JG.get h.2;refine ⟨by simp [h1],λi z hz=>?_⟩;cases i with
  | zero=>simp at hz;subst hz;exact ⟨x,rfl,h.1⟩
  | succ i=>simpa using h2 i z (by simpa using hz)
 | [],_::_,h=>h.elim
 | _::_,[],h=>h.elim
theorem sX.sl {sz:Nat} {xs ys:List (List D)} (h:JG xs ys):sX (.sl sz xs) (.sl sz ys):=by
 intro lim w v hv;obtain ⟨h1,h2⟩:=h.get;cases hv with
 | nil =>
  have:ys=[]:=zaw (by rw [←h1];rfl);subst this;exact .nil sz _
 | sl _ _ b off cap hc hr hx hh =>
  rw [h1];refine .sl sz ys b off cap (by rw [←h1];exact hc) (λrow rm=>?_) (λk hk=>hx k (by rw [h1];exact hk)) λi j row c u hi hj hu=>?_
  ·obtain ⟨i,hi⟩:=zcq.1 rm;obtain ⟨x,jL,hle⟩:=h2 i row hi;rw [←hle.get.1];exact hr x (zbg jL)
  ·obtain ⟨x,jL,hle⟩:=h2 i row hi;obtain ⟨d,hd,hl⟩:=hle.get.2 j c hj;exact hl lim w u (hh i j x d u jL hd hu)
theorem aD.le {f:FuncId} {xs ys:List D} {q:D->Prop} (h:aD P f ys q) (hle:Gg xs ys):aD P f xs q:=by
 intro lim w vs hg ha;obtain ⟨h1,h2⟩:=hle.get;refine h lim w vs hg ⟨by rw [ha.1,h1],λi y v hy hv=>?_⟩;obtain ⟨x,hx,hl⟩:=h2 i y hy;exact hl lim w v (ha.2 i x v hx hv)
end rules
def ck {α:Type} (p:Prop) [Decidable p] (k:Option α):Option α:=if p then k else none
theorem ar {α:Type} {p:Prop} [Decidable p] {k:Option α} {r:α} (h:ck p k=some r):p/\k=some r:=by
 unfold ck at h;split at h
 ·exact ⟨by assumption,h⟩
 ·cases h
theorem ck2 {α:Type} {p0 p1:Prop} [Decidable p0] [Decidable p1] {x:Option α} {r:α} (h:ck p0 (ck p1 x)=some r):p0/\p1/\x=some r:=by
 obtain ⟨h0,h⟩:=ar h;obtain ⟨h1,h⟩:=ar h;exact ⟨h0,h1,h⟩
theorem ck3 {α:Type} {p0 p1 p2:Prop} [Decidable p0] [Decidable p1] [Decidable p2] {x:Option α} {r:α} (h:ck p0 (ck p1 (ck p2 x))=some r):p0/\p1/\p2/\x=some r:=by
 obtain ⟨h0,h⟩:=ar h;obtain ⟨h1,h⟩:=ar h;obtain ⟨h2,h⟩:=ar h;exact ⟨h0,h1,h2,h⟩
theorem ck4 {α:Type} {p0 p1 p2 p3:Prop} [Decidable p0] [Decidable p1] [Decidable p2] [Decidable p3] {x:Option α} {r:α} (h:ck p0 (ck p1 (ck p2 (ck p3 x)))=some r):p0/\p1/\p2/\p3/\x=some r:=by
 obtain ⟨h0,h⟩:=ar h;obtain ⟨h1,h⟩:=ar h;obtain ⟨h2,h⟩:=ar h;obtain ⟨h3,h⟩:=ar h;exact ⟨h0,h1,h2,h3,h⟩
theorem ck5 {α:Type} {p0 p1 p2 p3 p4:Prop} [Decidable p0] [Decidable p1] [Decidable p2] [Decidable p3] [Decidable p4] {x:Option α} {r:α} (h:ck p0 (ck p1 (ck p2 (ck p3 (ck p4 x))))=some r):p0/\p1/\p2/\p3/\p4/\x=some r:=by
 obtain ⟨h0,h⟩:=ar h;obtain ⟨h1,h⟩:=ar h;obtain ⟨h2,h⟩:=ar h;obtain ⟨h3,h⟩:=ar h;obtain ⟨h4,h⟩:=ar h;exact ⟨h0,h1,h2,h3,h4,h⟩
theorem ck6 {α:Type} {p0 p1 p2 p3 p4 p5:Prop} [Decidable p0] [Decidable p1] [Decidable p2] [Decidable p3] [Decidable p4] [Decidable p5] {x:Option α} {r:α} (h:ck p0 (ck p1 (ck p2 (ck p3 (ck p4 (ck p5 x)))))=some r):p0/\p1/\p2/\p3/\p4/\p5/\x=some r:=by
 obtain ⟨h0,h⟩:=ar h;obtain ⟨h1,h⟩:=ar h;obtain ⟨h2,h⟩:=ar h;obtain ⟨h3,h⟩:=ar h;obtain ⟨h4,h⟩:=ar h;obtain ⟨h5,h⟩:=ar h;exact ⟨h0,h1,h2,h3,h4,h5,h⟩
theorem ck7 {α:Type} {p0 p1 p2 p3 p4 p5 p6:Prop} [Decidable p0] [Decidable p1] [Decidable p2] [Decidable p3] [Decidable p4] [Decidable p5] [Decidable p6] {x:Option α} {r:α} (h:ck p0 (ck p1 (ck p2 (ck p3 (ck p4 (ck p5 (ck p6 x))))))=some r):p0/\p1/\p2/\p3/\p4/\p5/\p6/\x=some r:=by
 obtain ⟨h0,h⟩:=ar h;obtain ⟨h1,h⟩:=ar h;obtain ⟨h2,h⟩:=ar h;obtain ⟨h3,h⟩:=ar h;obtain ⟨h4,h⟩:=ar h;obtain ⟨h5,h⟩:=ar h;obtain ⟨h6,h⟩:=ar h;exact ⟨h0,h1,h2,h3,h4,h5,h6,h⟩
abbrev cR (x:Int):Prop:=-9223372036854775808<=x/\x<=9223372036854775807
theorem af {α:Type} {p:Prop} [Decidable p] {k:Option α} (h:p):ck p k=k:=zab h
def ct {α:Type} [Inhabited α] (b:Bool) (o:Option α):Option α:=if b=true then o else some default
theorem bd {α:Type} [Inhabited α] {b:Bool} {o:Option α} {y:α} (h:ct b o=some y):b=true->o=some y:=λhb=>by
 rw [ct,zab hb] at h;exact h
theorem ae {α β:Type} {o:Option α} {k:α->Option β} {r:β} (h:o.bind k=some r):∃ y,o=some y/\k y=some r:=by
 cases o with
 | none=>cases h
 | some y=>exact ⟨y,rfl,h⟩
theorem bQ {α β:Type} {o:Option α} {k:α->β} {r:β} (h:o.map k=some r):∃ y,o=some y/\k y=r:=by
 cases o with
 | none=>cases h
 | some y=>exact ⟨y,rfl,by simpa using h⟩
theorem ifT {α:Type} {b:Bool} {x y:Option α} {r:α} (hc:b=true) (h:(if b=true then x else y)=some r):x=some r:=by rw [zab hc] at h;exact h
theorem ifF {α:Type} {b:Bool} {x y:Option α} {r:α} (hc:b=false) (h:(if b=true then x else y)=some r):y=some r:=by rw [zaa (by rw [hc];exact Bool.false_ne_true)] at h;exact h
def iter {S R:Type} (step:S->Option (S ⊕ R)):Nat->S->Option R
 | 0,_=>none
 | n+1,s=>match step s with
  | none=>none
  | some (.inl s')=>iter step n s'
  | some (.inr r)=>some r
def loop {S R:Type} (step:S->Option (S ⊕ R)) (s:S):Option R:=iter step 18446744073709551616 s
theorem eu {S R:Type} {step:S->Option (S ⊕ R)} {s:S} {r:R} (h:loop step s=some r):∃ n,iter step n s=some r:=⟨_,h⟩
def Kof {S R:Type} (step:S->Option (S ⊕ R)) (n:Nat) (ρ:R):S ⊕ R->Prop
 | .inl s=>iter step n s=some ρ
 | .inr r=>r=ρ
theorem ew {S R:Type} {step:S->Option (S ⊕ R)} {n:Nat} {s:S} {ρ:R} (h:iter step n s=some ρ):∃ m q,m<n/\step s=some q/\Kof step m ρ q:=by
 cases n with
 | zero=>cases h
 | succ m =>
  unfold iter at h;split at h
  ·cases h
  ·rename_i s' hs;exact ⟨m,_,zfh _,hs,h⟩
  ·rename_i r hs;cases h;exact ⟨m,_,zfh _,hs,rfl⟩
def Kq {S R:Type} (r:R) (P:S->Prop):S⊕R->Prop
 | .inl s=>P s
 | .inr x=>x=r
theorem bp.lp {P:Program} {f:Ctx} {N:Nat} {S:Start} {Q:EV->St->Prop} {k:List Item} {env:Env} {st:St} {c:Code} {σ R:Type} {F:σ->Option (σ⊕R)} {s0:σ} {r:R} (H:Go.Abs.loop F s0=some r) (E:σ->Env) (T:σ->St) (hE:dp env (E s0)) (hT:st=T s0) (step:∀ s q,F s=some q->Kq r (λj=>bp P f N S Q (.inLoop c::k) (E j) (T j)) q->bp P f N S Q (.code c::.inLoop c::k) (E s) (T s)):bp P f N S Q (.code (.loop c)::k) env st:=by
 obtain ⟨n,H⟩:=eu H;refine .loop (ι:=Nat×σ) (λp=>E p.2) (λp=>T p.2) (λp=>iter F p.1 p.2=some r) (·.1) (n,s0) H hE hT ?_
 rintro ⟨m,s⟩ HI ih;obtain ⟨m1,q,hm,h,hk⟩:=ew HI;refine step s q h ?_;cases q with
 | inl j=>exact ih (m1,j) hk hm
 | inr x=>exact hk
theorem mU {S R:Type} {step:S->Option (S ⊕ R)} (F:S->Option R) (I:S->Prop) (μ:S->Nat)
  (h:∀ s,I s->(∃ r,step s=some (.inr r)/\F s=some r)∨∃ s',step s=some (.inl s')/\I s'/\μ s'<μ s/\F s'=F s) {s:S} (hI:I s) (hμ:μ s<18446744073709551616):loop step s=F s:=by
 have key:∀ n s,I s->μ s<n->∃ r,iter step n s=some r/\F s=some r:=by
  intro n
  induction n with
  | zero=>intro s _ hn;omega
  | succ n ih =>
   intro s hI hn;rcases h s hI with ⟨r,h1,h2⟩|⟨s',h1,h2,h3,h4⟩
   ·exact ⟨r,by unfold iter;rw [h1],h2⟩
   ·obtain ⟨r,k1,k2⟩:=ih s' h2 (by omega);exact ⟨r,by unfold iter;rw [h1];exact k1,by rw [←h4];exact k2⟩
 obtain ⟨r,h1,h2⟩:=key _ s hI hμ;rw [h2];exact h1
theorem ti {S R:Type} {step:S->Option (S ⊕ R)} (Q:R->Prop) (I:S->Prop) (μ:S->Nat)
  (h:∀ s,I s->(∃ r,step s=some (.inr r)/\Q r)∨∃ s',step s=some (.inl s')/\I s'/\μ s'<μ s) {s:S} (hI:I s) (hμ:μ s<18446744073709551616):∃ r,loop step s=some r/\Q r:=by
 have key:∀ n s,I s->μ s<n->∃ r,iter step n s=some r/\Q r:=by
  intro n
  induction n with
  | zero=>intro s _ hn;omega
  | succ n ih =>
   intro s hI hn;rcases h s hI with ⟨r,h1,h2⟩|⟨s',h1,h2,h3⟩
   ·exact ⟨r,by unfold iter;rw [h1],h2⟩
   ·obtain ⟨r,k1,k2⟩:=ih s' h2 (by omega);exact ⟨r,by unfold iter;rw [h1];exact k1,k2⟩
 exact key _ s hI hμ
abbrev XM (b:UInt8):D:=.ex (.int .u8 (b.toNat:Int))
abbrev cK (k:IntKind) (n:Int):D:=.ex (.int k n)
abbrev aX:D:=.ex (.slice none 0 0)
def Th {α:Type} (sz:Nat) (row:α->List D) (l:List α):List D:=[.sl sz (l.map row)]
theorem eG.d {x y:D} (h:sX x y):eG (.d x) (.d y):=λg w st v hv=>by cases hv with|d _ _ hd=>exact .d _ _ (h _ _ _ hd)
theorem sX.e0 (sz:Nat):sX (.e0 sz) (.sl sz []):=λ_ _ _ h=>D.MD h
theorem sX.dN {xs ys:List D} (h:Gg xs ys):sX (.dN xs) (.dN ys):=by
 intro lim w v hv;obtain ⟨h1,h2⟩:=h.get;cases hv with
 | dN _ vs hs hc =>
  refine .dN _ vs (by rw [hs,h1]) λi c u hi hu=>?_
  obtain ⟨x,hx,hle⟩:=h2 i c hi;exact hle lim w u (hc i x u hx hu)
theorem sX.ro {xs ys:List D} (h:Gg xs ys):sX (.ro xs) (.ro ys):=by
 intro lim w v hv;obtain ⟨h1,h2⟩:=h.get;cases hv with
 | ro _ b off hx hc =>
  refine .ro ys b off (λk hk=>hx k (by rw [h1];exact hk)) λj c u hj hu=>?_;obtain ⟨x,jL,hle⟩:=h2 j c hj;exact hle lim w u (hc j x u jL hu)
section weak
variable {P:Program} {f:Ctx} {N:Nat} {S:Start} {Q:EV->St->Prop} {k:List Item} {todo:List Item} {env:Env} {st:St} {ops rest:List Oper}
theorem cm.u9 {st':St} (h:st=st') (hk:cm P f N S Q ops rest k env st'):cm P f N S Q ops rest k env st:=h▸hk
end weak
theorem aG.le {P:Program} {env:Env} {st:St} {o:Oper} {x y:EV} (h:aG P env st o x) (hle:eG x y):aG P env st o y:=λg b w t hi he =>
 let ⟨v,h1,h2⟩:=h g b w t hi he
 ⟨v,hle _ _ _ _ h1,h2⟩
theorem zF.le {P:Program} {env:Env} {st:St} {o:Oper} {x y:EV} (h:zF P env st o x) (hle:eG x y):zF P env st o y:=λg b w t hi he=>by
 rcases h g b w t hi he with ⟨v,l,w',h1,h2,h3,h4⟩|⟨f,a,h1,h2⟩
 ·exact .inl ⟨v,l,w',h1,hle _ _ _ _ h2,h3,h4⟩
 ·exact .inr ⟨f,a,h1,h2.mono λe w' ⟨v,l,k0,k1,k2,k3⟩=>⟨v,l,k0,hle _ _ _ _ k1,k2,k3⟩⟩
section q
variable {P:Program} {base:Nat} {env:Env} {st:St} {d:Option Tmp} {ty:TypeId} {pos:String} {after:Array Edge} {gd:Option (Nat×Bool)} {t t2 e:TypeId} {x y z:Operand}
section u8
variable {a b:UInt8} (hx:cY env x=some (.d (XM a))) (hy:cY env y=some (.d (XM b)))
theorem Uq (a b:UInt8):((a.toNat:Int)==(b.toNat:Int))=(a==b):=by
 rw [zbu];simp only [zee];constructor
 ·intro h;exact UInt8.toNat_inj.1 (by omega)
 ·intro h;rw [h]
include hx hy
theorem HQ:aG P env st ⟨d,.binOp .lss t x y t2,ty,pos,after,gd⟩ (.d (cB (decide (a<b)))):=by
 have:=S6 (P:=P) (st:=st) (d:=d) (ty:=ty) (pos:=pos) (after:=after) (gd:=gd) (t:=t) (t2:=t2) hx hy
 rwa [show decide (((a.toNat:Int))<(b.toNat:Int))=decide (a<b) from by rw [zfj,UInt8.lt_iff_toNat_lt];omega] at this
theorem Ur:aG P env st ⟨d,.binOp .leq t x y t2,ty,pos,after,gd⟩ (.d (cB (decide (a<=b)))):=by
 have:=S7 (P:=P) (st:=st) (d:=d) (ty:=ty) (pos:=pos) (after:=after) (gd:=gd) (t:=t) (t2:=t2) hx hy
 rwa [show decide (((a.toNat:Int))<=(b.toNat:Int))=decide (a<=b) from by rw [zfj,UInt8.le_iff_toNat_le];omega] at this
theorem HR:aG P env st ⟨d,.binOp .gtr t x y t2,ty,pos,after,gd⟩ (.d (cB (decide (a > b)))):=by
 have:=S8 (P:=P) (st:=st) (d:=d) (ty:=ty) (pos:=pos) (after:=after) (gd:=gd) (t:=t) (t2:=t2) hx hy
 rwa [show decide (((a.toNat:Int)) > (b.toNat:Int))=decide (a > b) from by rw [zfj,gt_iff_lt,gt_iff_lt,UInt8.lt_iff_toNat_lt];omega] at this
theorem Us:aG P env st ⟨d,.binOp .geq t x y t2,ty,pos,after,gd⟩ (.d (cB (decide (a>=b)))):=by
 have:=S9 (P:=P) (st:=st) (d:=d) (ty:=ty) (pos:=pos) (after:=after) (gd:=gd) (t:=t) (t2:=t2) hx hy
 rwa [show decide (((a.toNat:Int))>=(b.toNat:Int))=decide (a>=b) from by rw [zfj,ge_iff_le,ge_iff_le,UInt8.le_iff_toNat_le];omega] at this
theorem Ut:aG P env st ⟨d,.binOp .neq t x y t2,ty,pos,after,gd⟩ (.d (cB (a != b))):=by
 have:=Ta (P:=P) (st:=st) (d:=d) (ty:=ty) (pos:=pos) (after:=after) (gd:=gd) (t:=t) (t2:=t2) hx hy
 rwa [show ((a.toNat:Int) != (b.toNat:Int))=(a != b) from by unfold bne;rw [Uq]] at this
end u8
section sl
variable {α:Type} {sz:Nat} {row:α->List D} {l:List α} {ev:EV} {inf:TypeInfo}
theorem Uu [Inhabited α] {k:IntKind} {i:Int} (ht:P.underlying t=some (.slice e)) (hi:P.info? e=some inf) (fB:inf.size=sz) (hx:cY env x=some ev) (hs:uy ev=some (sz,l.map row)) (hy:cY env y=some (.d (.ex (.int k i)))) (h:0<=i/\i<l.length) :
  aG P env st ⟨d,.indexAddr t x y,ty,pos,after,gd⟩ (.d (.ro (row (nth l i.toNat)))):=Uo (n:=i.toNat) ht hi fB hx hs hy (by omega) (Cg (by omega))
theorem nT {a:List UInt8} {k:IntKind} {i:Int} (ht:P.underlying t=some .string) (hx:cY env x=some (.d (cS a))) (hy:cY env y=some (.d (.ex (.int k i)))) (h:0<=i/\i<a.length) :
  aG P env st ⟨d,.index t x y,ty,pos,after,gd⟩ (.d (XM (nth a i.toNat))):=by
 have:=PF (n:=i.toNat) (st:=st) (d:=d) (ty:=ty) (pos:=pos) (after:=after) (gd:=gd) ht hx hy (by omega) (by omega);exact this
theorem Uv (ht:P.underlying t=some (.slice e)) (hx:cY env x=some ev) (hs:uy ev=some (sz,l.map row)) :
  aG P env st ⟨d,.call ⟨.builtin .len,#[x],#[t]⟩,ty,pos,after,gd⟩ (.d (cI (l.length:Int))):=by
 have:=Up (st:=st) (d:=d) (ty:=ty) (pos:=pos) (after:=after) (gd:=gd) ht hx hs
 rwa [zdy] at this
theorem MP {kl kh:IntKind} {a b:Int} (ht:P.underlying t=some (.slice e)) (hi:P.info? e=some inf) (fB:inf.size=sz) (hx:cY env x=some ev) (hs:uy ev=some (sz,l.map row)) (hy:cY env y=some (.d (.ex (.int kl a)))) (hz:cY env z=some (.d (.ex (.int kh b)))) (h:0<=a/\a<=b/\b<=l.length) :
  aG P env st ⟨d,.slice t x (some y) (some z) none,ty,pos,after,gd⟩ (.d (ag sz row ((l.take b.toNat).drop a.toNat))):=by
 have:=Uc (st:=st) (d:=d) (ty:=ty) (pos:=pos) (after:=after) (gd:=gd) ht hi fB hx hs hy hz h.1 h.2.1 (by simpa using h.2.2);simpa [ag] using this
theorem xP {kh:IntKind} {b:Int} (ht:P.underlying t=some (.slice e)) (hi:P.info? e=some inf) (fB:inf.size=sz) (hx:cY env x=some ev) (hs:uy ev=some (sz,l.map row)) (hz:cY env z=some (.d (.ex (.int kh b)))) (h:0<=b/\b<=l.length) :
  aG P env st ⟨d,.slice t x none (some z) none,ty,pos,after,gd⟩ (.d (ag sz row (l.take b.toNat))):=by
 have:=Xr (st:=st) (d:=d) (ty:=ty) (pos:=pos) (after:=after) (gd:=gd) ht hi fB hx hs hz h.1 (by simpa using h.2);simpa [ag] using this
theorem HS {kl:IntKind} {a:Int} (ht:P.underlying t=some (.slice e)) (hi:P.info? e=some inf) (fB:inf.size=sz) (hx:cY env x=some ev) (hs:uy ev=some (sz,l.map row)) (hy:cY env y=some (.d (.ex (.int kl a)))) (h:0<=a/\a<=l.length) :
  aG P env st ⟨d,.slice t x (some y) none none,ty,pos,after,gd⟩ (.d (ag sz row (l.drop a.toNat))):=by
 have:=Xs (st:=st) (d:=d) (ty:=ty) (pos:=pos) (after:=after) (gd:=gd) ht hi fB hx hs hy h.1 (by simpa using h.2);simpa [ag] using this
theorem PJ {a:List UInt8} {kl kh:IntKind} {i j:Int} (ht:P.underlying t=some .string) (hx:cY env x=some (.d (cS a))) (hy:cY env y=some (.d (.ex (.int kl i)))) (hz:cY env z=some (.d (.ex (.int kh j)))) (h:0<=i/\i<=j/\j<=a.length) :
  aG P env st ⟨d,.slice t x (some y) (some z) none,ty,pos,after,gd⟩ (.d (cS ((a.take j.toNat).drop i.toNat))):=by
 have:=RN (st:=st) (d:=d) (ty:=ty) (pos:=pos) (after:=after) (gd:=gd) ht hx hy hz h.1 h.2.1 h.2.2
 rwa [←List.drop_take] at this
theorem Ch {n b:Nat} (h:n<=1000000000) (hb:b<=100000):n*b<=140737488355328:=zcz (Nat.mul_le_mul h hb) (by decide)
theorem yF {l':List α} {tk:Nat} {z:Value} {w:EV} (ht:P.underlying t=some (.slice e)) (hi:P.info? e=some inf) (hz:inf.zero=some z) (eO:inf.size=sz) (p9:z.cells.size=sz) (hb:inf.bytes<=100000)
  (hx:cY env x=some (.cE sz (l.map row) tk)) (e9:st.au[tk]?=some ⟨e,sz,l.length,none⟩) (hy:cY env y=some w) (hs:uy w=some (sz,l'.map row)) (hn:l.length+l'.length<=1000000000) :
  xG P base env st ⟨d,.call ⟨.builtin .append,#[x,y],#[t,t]⟩,ty,pos,after,gd⟩ (.cE sz ((l++l').map row) tk) (st.bD tk ⟨e,sz,(l++l').length,none⟩):=by
 have:=Pu (base:=base) (d:=d) (ty:=ty) (pos:=pos) (after:=after) (gd:=gd) ht hi hz eO p9 hx (by simpa using e9) hy hs (by simpa using Ch hn hb) (by simp;omega);simpa using this
theorem wG {l':List α} {z:Value} {w:EV} (ht:P.underlying t=some (.slice e)) (hi:P.info? e=some inf) (hz:inf.zero=some z) (eO:inf.size=sz) (p9:z.cells.size=sz) (hb:inf.bytes<=100000)
  (hx:cY env x=some (.d aX)) (hy:cY env y=some w) (hs:uy w=some (sz,l'.map row)) (hn:l'.length<=1000000000) :
  xG P base env st ⟨d,.call ⟨.builtin .append,#[x,y],#[t,t]⟩,ty,pos,after,gd⟩ (.cE sz (l'.map row) st.au.length) ((st.tok ⟨e,sz,0,none⟩).bD st.au.length ⟨e,sz,l'.length,none⟩):=by
 have:=Jw (base:=base) (st:=st) (d:=d) (ty:=ty) (pos:=pos) (after:=after) (gd:=gd) ht hi hz eO p9 hx hy hs (by simpa using Ch hn hb) (by simp;omega);simpa using this
theorem Af {l':List α} {z:Value} {w e0:EV} (ht:P.underlying t=some (.slice e)) (hi:P.info? e=some inf) (hz:inf.zero=some z) (eO:inf.size=sz) (p9:z.cells.size=sz) (hb:inf.bytes<=100000)
  (hx:cY env x=some e0) (h0:e0=.d (.e0 sz)∨e0=.d aX) (hy:cY env y=some w) (hs:uy w=some (sz,l'.map row)) (hn:l'.length<=1000000000) :
  zF P env st ⟨d,.call ⟨.builtin .append,#[x,y],#[t,t]⟩,ty,pos,after,gd⟩ (.d (ag sz row l')) :=
 NX ht hi hz eO p9 hx h0 hy hs (by simpa using Ch hn hb) (by simp;omega)
end sl
end q
section ret
variable {P:Program} {f:Ctx} {N:Nat} {S:Start} {Q:EV->St->Prop} {k:List Item} {env:Env} {st:St}
theorem bp.bK {id:Nat} {c:Code} {ι:Type} (E:ι->Env) (T:ι->St) (I:ι->Prop)
  (hk:∀ i,I i->bp P f N S Q k (E i) (T i)) (h:(∀ i,I i->bp P f N S Q (.inBlock id::k) (E i) (T i))->(∀ i,I i->bp P f N S Q k (E i) (T i))->bp P f N S Q (.code c::.inBlock id::k) env st) :
  bp P f N S Q (.code (.block id c)::k) env st:=.block (h (λi hi=>.inBlock (hk i hi)) hk)
def Ti (P:Program) (env:Env) (st:St):ResultVar->EV->Prop
 | .tmp t,r=>lookup t env=some r
 | .cell a T,r=>(∃ o off,lookup a env=some (.ref o off))/\aG P env st ⟨none,.load T (.tmp a),0, "",#[],none⟩ r
def EL (P:Program) (env:Env) (st:St):List ResultVar->List EV->Prop
 | [],[]=>True
 | x::xs,e::es=>Ti P env st x e/\EL P env st xs es
 | _,_=>False
def EM:List EV->EV
 | [r]=>r
 | l=>.dN l
def JH:List EV->List D->Prop
 | [],[]=>True
 | e::es,x::xs=>eG e (.d x)/\JH es xs
 | _,_=>False
theorem JH.get:∀ {es:List EV} {ds:List D},JH es ds->es.length=ds.length/\∀ (i:Nat) d,ds[i]?=some d->∃ e,es[i]?=some e/\eG e (.d d)
 | [],[],_=>⟨rfl,λi y h=>by simp at h⟩
 | e::es,d::ds,h=>by
  obtain ⟨h1,h2⟩:=JH.get h.2;refine ⟨by simp [h1],λi z hz=>?_⟩;cases i with
  | zero=>simp at hz;subst hz;exact ⟨e,rfl,h.1⟩
  | succ i=>simpa using h2 i z (by simpa using hz)
 | [],_::_,h=>h.elim
 | _::_,[],h=>h.elim
theorem eG.sY {es:List EV} {ds:List D} (h:JH es ds):eG (.dN es) (.d (.dN ds)):=by
 intro g w st v hv;obtain ⟨h1,h2⟩:=h.get;cases hv with
 | dN _ vs hs hc =>
  refine .d _ _ (.dN _ vs (by rw [hs,h1]) λi d u hd hu=>?_);obtain ⟨e,he,hle⟩:=h2 i d hd;cases hle _ _ _ _ (hc i e u he hu) with|d _ _ h=>exact h
def G1 (tmps:Array Value):ResultVar->Sem Value
 | .tmp t=>pure (tmps.getD t undef)
 | .cell a t=>do loadVar t (←asAddr (tmps.getD a undef))
theorem RV {g:bY} {w:World} {base:Nat} {tmps:Array Value} (hi:Inv g base w st) (he:eh g w st env tmps) {x:ResultVar} {e:EV} (h:Ti P env st x e) :
  ∃ v,(G1 tmps x).run P w=.ok v w/\bM g w st e v:=by
 cases x with
 | tmp t =>
  obtain ⟨v,h1,h2⟩:=he t e h;exact ⟨v,by simp [G1,zaq,h1],h2⟩
 | cell a T =>
  obtain ⟨⟨o,off,hx⟩,hq⟩:=h;obtain ⟨v,h1,h2⟩:=hq g base w tmps hi he;have h3:=h2 w (.refl _ _);obtain ⟨pv,h4,h5⟩:=he a _ hx;have h6:(Act.eval ⟨tmps,[]⟩ (.tmp a))=pv:=by
   show tmps.getD a undef=pv;rw [zaq,h4];rfl
  refine ⟨v,?_,h1⟩;cases h5 with
  | ref _ _ cZ =>
   simp only [execOp,h6,Instr.loadAt,Instr.sureAddr,Sem.run_bind] at h3;simp only [G1];simp [zaq,h4,asAddr];simp at h3;generalize (Sem.run P (loadVar T { block:=g.ob o,off:=off }) w)=res at h3 ⊢;cases res with
   | ok x w2=>simp [Result.andThen_ok] at h3;simp [h3]
   | halt h w2=>simp [Result.andThen] at h3
theorem HT {g:bY} {w:World} {base:Nat} {tmps:Array Value} (hi:Inv g base w st) (he:eh g w st env tmps):∀ {xs:List ResultVar} {es:List EV},EL P env st xs es ->
  ∃ vs:List Value,(xs.mapM (G1 tmps)).run P w=.ok vs w/\vs.length=es.length/\∀ (i:Nat) e v,es[i]?=some e->vs[i]?=some v->bM g w st e v
 | [],[],_=>⟨[],by simp,rfl,by simp⟩
 | x::xs,e::es,h=>by
  obtain ⟨v,h1,h2⟩:=RV hi he h.1;obtain ⟨vs,k1,k2,k3⟩:=HT hi he h.2;refine ⟨v::vs,by simp [h1,k1],by simp [k2],λi e' v' AR ML=>?_⟩;cases i with
  | zero=>simp at AR ML;subst AR;subst ML;exact h2
  | succ i=>exact k3 i e' v' (by simpa using AR) (by simpa using ML)
 | [],_::_,h=>h.elim
 | _::_,[],h=>h.elim
theorem bp.XN {f:FuncId} {fn:Func} (xs:List ResultVar) (es:List EV) (hf:P.funcs[f]?=some fn) (hr:fn.results=xs.toArray) (h:EL P env st xs es) (hQ:Q (EM es) st):bp P (.of f) N S Q (.code .ret::k) env st:=by
 intro g w tmps hi hh he hn;obtain ⟨vs,h1,h2,h3⟩:=HT hi he h;have hC:(results fn tmps).run P w=.ok (if h:vs.toArray.size=1 then vs.toArray[0] else .tuple vs.toArray) w:=by
  have Uw:(results fn tmps)=(do let vs ←fn.results.mapM (G1 tmps);pure (if h:vs.size=1 then vs[0] else .tuple vs)):=by
   unfold results;congr 1
  rw [Uw,hr,zfd];simp only [Sem.run_bind,Sem.run_map,h1,Result.andThen_ok,Sem.run_pure]
 refine eK.ret hf hC ⟨_,EM es,st,g,rfl,hQ,?_,hi,hh⟩;by_cases hl:vs.toArray.size=1
 ·rw [dif_pos hl]
  match vs,es,h2,hl,h3 with
  | [v],[e],_,_,h3=>exact h3 0 e v rfl rfl
  | [],_,_,hl,_=>simp at hl
  | _::_::_,_,_,hl,_=>simp at hl
 ·rw [dif_neg hl];have ZK:EM es=.dN es:=by
   match es,h2 with
   | [],_=>rfl
   | [e],h2=>exact absurd (by simpa using h2) hl
   | _::_::_,_=>rfl
  rw [ZK];exact .dN es vs.toArray (by simpa using h2) λi c u hc hu=>h3 i c u hc (by simpa using hu)
end ret
section b
variable {P:Program} {env:Env} {st:St} {d:Option Tmp} {ty:TypeId} {pos:String} {after:Array Edge} {gd:Option (Nat×Bool)} {t t2 e:TypeId} {x y z:Operand}
theorem iD {n sz:Nat} {inf:TypeInfo} {z:Value} {zs:List D} {rows:List (List D)} {l:List (Nat×Operand)} (ht:P.underlying t=some (.slice e)) (hi:P.info? e=some inf) (fB:inf.size=sz) (hz:inf.zero=some z) (p9:Nat.beq z.cells.size sz=true)
  (xJ:(Nat.ble (n*sz) 16777216 && Nat.blt 0 n && Nat.blt 0 sz)=true) (MM:cellsD (.d (cv z))=some zs) (hl:DM (λi=>some (i*sz,sz)) env (List.replicate n zs).flatten l=some rows.flatten)
  (hr:(rows.all (λr=>Nat.beq r.length sz) && Nat.beq rows.length n)=true) :
  zF P env st ⟨d,.buildSlice t n l.toArray,ty,pos,after,gd⟩ (.d (.sl sz rows)):=by
 simp only [zar] at xJ hr;have Ge:=zas p9;have O4:zs.length=sz:=by
  have:=(kW (g:=⟨λ_=>0,λ_=>0,λ_=>.nilFunc⟩) (w:=(default:World)) (st:=⟨[],[]⟩) MM (.d _ _ (qf _ _ z))).1;omega
 exact A4 ht hi fB hz Ge (iR xJ.1.2) (zae xJ.1.1) (by simp [O4]) MM hl hr.1 (zas hr.2) (iR xJ.2)
theorem dP {a b:Bool} (hx:cY env x=some (.d (cB a))) (hy:cY env y=some (.gd a (.d (cB b)))) (hz:cY env z=some (.d (cB false))) :
  aG P env st ⟨d,.pick x y z,ty,pos,after,gd⟩ (.d (cB (a && b))):=by
 have:=NQ (P:=P) (st:=st) (d:=d) (ty:=ty) (pos:=pos) (after:=after) (gd:=gd) hx hy hz
 rwa [show (if a=true then b else false)=(a && b) from by cases a <;> rfl] at this
theorem yG {a b:Bool} (hx:cY env x=some (.d (cB a))) (hy:cY env y=some (.d (cB true))) (hz:cY env z=some (.gd (!a) (.d (cB b)))) :
  aG P env st ⟨d,.pick x y z,ty,pos,after,gd⟩ (.d (cB (a || b))):=by
 have:=Pf (P:=P) (st:=st) (d:=d) (ty:=ty) (pos:=pos) (after:=after) (gd:=gd) hx hy hz
 rwa [show (if a=true then true else b)=(a || b) from by cases a <;> rfl] at this
theorem sZ {f':FuncId} {l:List Operand} {ts:Array TypeId} {es:List EV} {ds:List D} {r:D} (F2:Enters P f') (hx:cY env x=some (.d (.ex (.func (.func f') #[] #[])))) (h1:B6 env l=some es) (h2:Lr es=some ds) (hc:aD P f' ds (·=r)) :
  zF P env st ⟨d,.call ⟨.value x,l.toArray,ts⟩,ty,pos,after,gd⟩ (.d r):=λg base w tmps hi he=>by
 have hv:=(aN he hx).bJ;have hC:=GX (d:=d) (ty:=ty) (pos:=pos) (after:=after) (l:=l) (ts:=ts) F2 w hv (gd:=gd);rw [Array.append_empty] at hC;refine .inr ⟨f',_,hC,(hc g.lim w _ (hi.DH.mono hi.base) (.of he h1 h2)).mono ?_⟩;rintro e w' ⟨v,r',dv,rfl,rfl,hr,Po,hb,hl⟩;exact ⟨v,dv,rfl,.d _ _ hr,hb,hl⟩
theorem Inv.RW {g:bY} {base:Nat} {w:World} {st:St} (h:Inv g base w st) (e sz n:Nat) (vs:Array Value) (DJ:vs.size=n*sz) (hn:n<=maxLen) :
  ∃ g',g'.tk st.au.length=.slice (some ⟨w.heap.size,0,none⟩) n n/\Inv g' base (w.alloc (.cells vs e)) (st.tok ⟨e,sz,n,none⟩)/\Step base g w st g' (w.alloc (.cells vs e)) (st.tok ⟨e,sz,n,none⟩):=by
 obtain ⟨g',h1,_,_,h2,h3⟩:=h.sV ⟨e,sz,n,none⟩ (v:=.slice (some ⟨w.heap.size,0,none⟩) n n) (xs:=vs.toList) ⟨by simp [DJ],.inr ⟨w.heap.size,n,vs,rfl,h.base,heap_alloc_new w _,zam _,hn,DJ,by rw [zcc (by simp [DJ])]⟩⟩
  (.inr ⟨rfl,(Below.refl _ w).alloc (zam _) _⟩) (λrows hh=>by cases hh)
 exact ⟨g',h1,h2,h3⟩
theorem zH {base n sz:Nat} {inf:TypeInfo} {z:Value} {zs:List D} {rows:List (List D)} {l:List (Nat×Operand)} (ht:P.underlying t=some (.slice e)) (hi:P.info? e=some inf) (fB:inf.size=sz) (hz:inf.zero=some z) (p9:Nat.beq z.cells.size sz=true)
  (xJ:(Nat.ble (n*sz) 16777216 && Nat.blt 0 n && Nat.blt 0 sz)=true) (MM:cellsD (.d (cv z))=some zs) (hl:DM (λi=>some (i*sz,sz)) env (List.replicate n zs).flatten l=some rows.flatten)
  (hr:(rows.all (λr=>Nat.beq r.length sz) && Nat.beq rows.length n)=true) :
  xG P base env st ⟨d,.buildSlice t n l.toArray,ty,pos,after,gd⟩ (.cE sz rows st.au.length) (st.tok ⟨e,sz,rows.length,none⟩):=by
 simp only [zar] at xJ hr;have Ge:=zas p9;have hn:=zas hr.2;have Lh:=iR xJ.1.2;have Li:=iR xJ.2;have ZD:=zae xJ.1.1;intro g w tmps hinv he;have Ac:=kW (g:=g) (w:=w) (st:=st) MM (.d _ _ (qf _ _ z));have O4:zs.length=sz:=by rw [←Ac.1,Ge]
 have Df:(List.replicate n zs).flatten.length=n*sz:=by simp [O4]
 have jv:∀ row∈rows,row.length=sz:=by
  intro row hm;have:=hr.1;rw [zbb] at this;exact zas (this row hm)
 have r8:ED g.lim w (List.replicate n zs).flatten ((Array.range (n*sz)).map (z.cells[· % z.cells.size]!)):=by
  refine ⟨by simp [Df],λi c u hc hu=>?_⟩;have nQ:i<n*sz:=by rw [←Df];exact (zad.1 hc).1
  have xK:i % sz<sz:=zec _ Li;have hdiv:i / sz<n:=zdk (by rw [zdc];exact nQ);have Lw:i=i / sz*sz+i % sz:=by rw [zdc];exact (zel i sz).symm
  have hf:=kg (rows:=List.replicate n zs) (sz:=sz) (i:=i / sz) (j:=i % sz) (row:=zs) (c:=zs[i % sz]'(by omega)) (by intro row hm;rw [List.eq_of_mem_replicate hm];exact O4) (by simp [List.getElem?_replicate,hdiv]) (zaf (by omega));rw [←Lw,hc] at hf;have Ug:zs[i % sz]?=some c:=by cases hf;exact zaf (by omega)
  have Xx:z.cells[i % sz]?=some u:=by
   have kQ:i % sz<z.cells.size:=by omega
   have:((Array.range (n*sz)).map (z.cells[· % z.cells.size]!))[i]?=some (z.cells[i % z.cells.size]!):=by simp [nQ]
   rw [this] at hu;cases hu;rw [Ge,zdq z.cells (i % sz) kQ,zbe kQ]
  exact Ac.2 _ c u Ug Xx
 obtain ⟨us,h1,h2,h3⟩:=tE he l _ _ _ hl r8;have DL:=iQ jv;have O3:us.size=n*sz:=by rw [h2.1,DL,hn]
 have ZL:n<=maxLen:=by
  have:n*1<=n*sz:=Nat.mul_le_mul_left n Li;simp only [maxLen];omega
 obtain ⟨g',k1,k2,k3⟩:=hinv.RW e sz n us O3 ZL;have lX:st.tok ⟨e,sz,rows.length,none⟩=st.tok ⟨e,sz,n,none⟩:=by rw [hn]
 rw [lX];have e9:(st.tok ⟨e,sz,n,none⟩).au[st.au.length]?=some ⟨e,sz,n,none⟩:=by simp [St.tok]
 obtain ⟨xs,m1,m2⟩:=k2.tail _ _ _ _ e9;rw [k1] at m1 m2;have RR:xs=us.toList:=by
  rcases m1.2 with ⟨hh,_⟩|⟨gb,cap,cur,e1,_,e3,e4,e5,e6,e7⟩
  ·cases hh
  ·cases e1;rw [heap_alloc_new] at e3;cases e3;rw [←e7,zcc (by simp [O3])]
 subst RR;refine ⟨_,g',_,?_,.cE sz rows _ _ e n (HH m1 hn jv (λb hb=>by rw [m2 b hb];exact zam _) λj u c hu hc=>?_) e9 (zfp hn) (λ_=>.inl k1.symm),k2,k3⟩
 ·subst fB;have GZ:¬ (16777216<n*inf.size):=by omega
  have o4:¬ n*inf.size=0:=by
   intro h0;rcases Nat.mul_eq_zero.1 h0 with h|h <;> omega
  have O2:Instr.fill (λi=>some (i*inf.size,inf.size)) (Array.map (λx=>z.cells[x % z.cells.size]!) (Array.range (n*inf.size))) (List.map (λp=>(p.1,Act.eval ⟨tmps,[]⟩ p.2)) l)=some us:=h1;simp [execOp,Instr.buildSlice,run_underlying ht,ov hi,GZ,o4,tF hi hz,O2,newRow]
 ·have:=h2.2 j c u hc (by simpa using hu);exact ⟨this.1.mono k3.dO.cY,this.2⟩
end b
def dm (rs:List Nat) (N i:Nat):Nat:=match rs[i]? with
 | some r=>r
 | none=>N+(i-rs.length)
structure MQ (rs:List Nat) (N:Nat):Prop where
 lt:∀ r,r∈rs->r<N
 inj:∀ (i j:Nat) (r:Nat),rs[i]?=some r->rs[j]?=some r->i=j
theorem Ci {rs:List Nat} {N i:Nat} (h:MQ rs N) (hi:i<rs.length):dm rs N i<N/\rs[i]?=some (dm rs N i):=by
 have e:rs[i]?=some rs[i]:=zaf hi;unfold dm;rw [e];exact ⟨h.lt _ (zfi hi),rfl⟩
theorem Ag {rs:List Nat} {N i:Nat} (hi:rs.length<=i):dm rs N i=N+(i-rs.length):=by
 unfold dm;rw [zbl hi]
theorem HU {rs:List Nat} {N i j:Nat} (h:MQ rs N) (e:dm rs N i=dm rs N j):i=j:=by
 by_cases hi:i<rs.length <;> by_cases hj:j<rs.length
 ·obtain ⟨_,h1⟩:=Ci h hi;obtain ⟨_,h2⟩:=Ci h hj;rw [e] at h1;exact h.inj i j _ h1 h2
 ·obtain ⟨h1,_⟩:=Ci h hi;rw [Ag (i:=j) (by omega)] at e;omega
 ·obtain ⟨h1,_⟩:=Ci h hj;rw [Ag (i:=i) (by omega)] at e;omega
 ·rw [Ag (i:=i) (by omega),Ag (i:=j) (by omega)] at e;omega
open Classical in
noncomputable def iL (rs:List Nat) (N o:Nat):Option Nat:=if h:∃ i,dm rs N i=o then some h.choose else none
theorem Eb {rs:List Nat} {N:Nat} (h:MQ rs N) (i:Nat):iL rs N (dm rs N i)=some i:=by
 have hex:∃ j,dm rs N j=dm rs N i:=⟨i,rfl⟩;unfold iL;rw [dif_pos hex];congr 1;exact HU h hex.choose_spec
theorem EN {rs:List Nat} {N o i:Nat} (e:iL rs N o=some i):dm rs N i=o:=by
 unfold iL at e;split at e
 ·rename_i hex;cases e;exact hex.choose_spec
 ·cases e
theorem JI {rs:List Nat} {N o:Nat} (e:iL rs N o=none):o<N/\∀ i,dm rs N i≠o:=by
 unfold iL at e;split at e
 ·cases e
 ·rename_i hex;refine ⟨?_,λi hi=>hex ⟨i,hi⟩⟩
  false_or_by_contra
  rename_i cZ;exact hex ⟨rs.length+(o-N),by rw [Ag (by omega)];omega⟩
theorem G2 {rs:List Nat} {N o i:Nat} (h:MQ rs N) (e:iL rs N o=some i) (ho:o<N):i<rs.length:=by
 have:=EN e
 false_or_by_contra
 rw [Ag (by omega)] at this;omega
def kX {α:Type}:List α->List Nat->List α->List α
 | l,r::rs,x::xs=>kX (l.set r x) rs xs
 | l,_,xs=>l++xs
theorem Ah {α:Type}:∀ (rs:List Nat) (l xs:List α),rs.length<=xs.length->(kX l rs xs).length=l.length+(xs.length-rs.length)
 | [],l,xs,_=>by simp [kX]
 | r::rs,l,[],h=>by simp at h
 | r::rs,l,x::xs,h=>by
  simp only [kX];rw [Ah rs _ xs (by simpa using h)];simp
theorem s5 {α:Type}:∀ (rs:List Nat) (l xs:List α) (o:Nat),o<l.length->o ∉ rs->(kX l rs xs)[o]?=l[o]?
 | [],l,xs,o,ho,_=>by simp [kX,zak ho]
 | r::rs,l,[],o,ho,_=>by simp [kX]
 | r::rs,l,x::xs,o,ho,hn=>by
  simp only [kX];simp only [zav,not_or] at hn;rw [s5 rs _ xs o (by simpa using ho) hn.2,zbj,zaa (zcb hn.1)]
theorem Ai {α:Type}:∀ (rs:List Nat) (l xs:List α) (N:Nat),l.length=N->MQ rs N->rs.length<=xs.length->∀ i,(kX l rs xs)[dm rs N i]?=xs[i]?
 | [],l,xs,N,hN,_,_,i=>by
  rw [Ag (by simp)];simp only [kX,zbc,Nat.sub_zero,←hN];rw [zat (by omega)];simp
 | r::rs,l,[],N,hN,_,h,i=>by simp at h
 | r::rs,l,x::xs,N,hN,he,h,i=>by
  have AR:MQ rs N:=⟨λr hr=>he.lt r (by simp [hr]),λi j r a b=>by
   have:=he.inj (i+1) (j+1) r (by simpa using a) (by simpa using b);omega⟩
  have hr:r<N:=he.lt r (by simp);have hnr:r ∉ rs:=λhm=>by
   obtain ⟨j,hj⟩:=zcq.1 hm;have:=he.inj 0 (j+1) r (by simp) (by simpa using hj);omega
  simp only [kX];cases i with
  | zero =>
   have:dm (r::rs) N 0=r:=by simp [dm]
   rw [this,s5 rs _ xs r (by simpa [hN] using hr) hnr];simp [zbj,hN,hr]
  | succ i =>
   have:dm (r::rs) N (i+1)=dm rs N i:=by
    unfold dm;simp only [List.getElem?_cons_succ,zag];split
    ·rfl
    ·omega
   rw [this,Ai rs _ xs N (by simpa using hN) AR (by simpa using h) i];simp
def N4 (rs:List Nat) (N:Nat):Bool:=rs.all (λr=>Nat.blt r N) && nodupB rs
where nodupB:List Nat->Bool
 | []=>true
 | r::rs=>rs.all (λx=>!Nat.beq x r) && nodupB rs
theorem MQ.of {rs:List Nat} {N:Nat} (h:N4 rs N=true):MQ rs N:=by
 simp only [N4,zar,zbb] at h;refine ⟨λr hr=>iR (h.1 r hr),?_⟩;have key:∀ (l:List Nat),N4.nodupB l=true->∀ (i j:Nat) (r:Nat),l[i]?=some r->l[j]?=some r->i=j:=by
  intro l
  induction l with
  | nil=>intro _ i j r hi;simp at hi
  | cons x l ih =>
   intro hn i j r hi hj;simp only [N4.nodupB,zar,zbb] at hn;cases i with
   | zero =>
    cases j with
    | zero=>rfl
    | succ j =>
     simp at hi hj;subst hi;have:=hn.1 x (zbg hj);simp at this
   | succ i =>
    cases j with
    | zero =>
     simp at hi hj;subst hj;have:=hn.1 x (zbg hi);simp at this
    | succ j =>
     have:=ih hn.2 i j r (by simpa using hi) (by simpa using hj);omega
 exact key rs h.2
section ren
def EV.ren (ρ τ:Nat->Nat):EV->EV
 | .d x=>.d x
 | .ref o off=>.ref (ρ o) off
 | .Jc o off n c=>.Jc (ρ o) off n c
 | .cE sz rows t=>.cE sz rows (τ t)
 | .mp o=>.mp (ρ o)
 | .vc t k=>.vc (τ t) k
 | .vp t k i off=>.vp (τ t) k i off
 | .vw t k lo n=>.vw (τ t) k lo n
 | .tz f cs=>.tz f (HV ρ τ cs)
 | .agg cs=>.agg (HV ρ τ cs)
 | .dN cs=>.dN (HV ρ τ cs)
 | .gd b x=>.gd b (EV.ren ρ τ x)
where
 HV (ρ τ:Nat->Nat):List EV->List EV
 | []=>[]
 | x::l=>EV.ren ρ τ x::HV ρ τ l
theorem nU (ρ τ:Nat->Nat):∀ l:List EV,EV.ren.HV ρ τ l=l.map (EV.ren ρ τ)
 | []=>rfl
 | x::l=>by simp [EV.ren.HV,nU ρ τ l]
def dL.ren (ρ τ:Nat->Nat):dL->dL
 | .row ty cs=>.row ty (EV.ren.HV ρ τ cs)
 | .map es=>.map (es.map λp=>(p.1,p.2.ren ρ τ))
 | .raw x=>.raw x
 | .gone=>.gone
theorem dL.PK {ρ τ:Nat->Nat} {x:dL} (h:x.ren ρ τ=.gone):x=.gone:=by cases x <;> first|rfl|cases h
def bY.sub (g:bY) (ρ τ:Nat->Nat):bY:=⟨g.lim,λo=>g.ob (ρ o),λt=>g.tk (τ t)⟩
variable {ρ τ:Nat->Nat} {g g':bY} {w:World} {s0 st:St}
theorem bM.down (ht:∀ t x,s0.au[t]?=some x->st.au[τ t]?=some x):∀ {x:EV} {v:Value},pb s0.aO.length s0.au.length x=true->bM g w st (x.ren ρ τ) v->bM (g.sub ρ τ) w s0 x v:=by
 have wH:∀ {t:Nat},t<s0.au.length->∀ {x:gK},st.au[τ t]?=some x->s0.au[t]?=some x:=fun {t} cZ {x} hx=>by
  have h1:=ht t _ (zaf cZ);rw [hx] at h1;cases h1;exact zaf cZ
 have main:∀ {y:EV} {v:Value},bM g w st y v->∀ x:EV,pb s0.aO.length s0.au.length x=true->y=x.ren ρ τ->bM (g.sub ρ τ) w s0 x v:=by
  intro y v h
  induction h with
  | d a v h =>
   intro x hx e;cases x <;> simp only [EV.ren] at e <;> cases e;exact .d _ _ h
  | ref o off h =>
   intro x hx e;cases x <;> simp only [EV.ren] at e <;> cases e;exact .ref (g:=g.sub ρ τ) _ _ (iR hx)
  | Jc o off n c h =>
   intro x hx e;cases x <;> simp only [EV.ren] at e <;> cases e;exact .Jc (g:=g.sub ρ τ) _ _ _ _ (iR hx)
  | cE sz rows t v el n hd uH hn hv =>
   intro x hx e;cases x <;> simp only [EV.ren] at e <;> cases e;exact .cE sz rows _ v el n hd (wH (iR hx) uH) hn hv
  | mp o h =>
   intro x hx e;cases x <;> simp only [EV.ren] at e <;> cases e;exact .mp (g:=g.sub ρ τ) _ (iR hx)
  | tz f cs vs hs h ih =>
   intro x hx e;cases x <;> simp only [EV.ren] at e <;> cases e;rename_i ds;simp only [pb] at hx;rw [nU] at hs ih;refine .tz f _ vs (by simpa using hs) λi c u hc hu=>ih i (c.ren ρ τ) u (by rw [zba,hc];rfl) hu c (qj hx i c hc) rfl
  | agg cs vs hs h1 h ih =>
   intro x hx e;cases x <;> simp only [EV.ren] at e <;> cases e;simp only [pb] at hx;rw [nU] at hs ih;refine .agg _ vs (by simpa using hs) h1 λi c u hc hu=>ih i (c.ren ρ τ) u (by rw [zba,hc];rfl) hu c (qj hx i c hc) rfl
  | dN cs vs hs h ih =>
   intro x hx e;cases x <;> simp only [EV.ren] at e <;> cases e;simp only [pb] at hx;rw [nU] at hs ih;refine .dN _ vs (by simpa using hs) λi c u hc hu=>ih i (c.ren ρ τ) u (by rw [zba,hc];rfl) hu c (qj hx i c hc) rfl
  | gd b a v h0 h ih =>
   intro x hx e;cases x <;> simp only [EV.ren] at e <;> cases e;simp only [pb] at hx;exact .gd _ _ v h0 λhb=>ih hb _ hx rfl
  | vc t k v uH hf h =>
   intro x hx e;cases x <;> simp only [EV.ren] at e <;> cases e;exact .vc _ _ v (iR hx) hf λx rows hy=>h x rows (ht _ _ hy)
  | vp t k i off v uH hf h =>
   intro x hx e;cases x <;> simp only [EV.ren] at e <;> cases e;exact .vp _ _ _ _ v (iR hx) hf λx rows hy=>h x rows (ht _ _ hy)
  | vw t k lo n v uH hf h =>
   intro x hx e;cases x <;> simp only [EV.ren] at e <;> cases e;exact .vw _ _ _ _ v (iR hx) hf λx rows hy=>h x rows (ht _ _ hy)
 intro x v hx h;exact main h x hx rfl
theorem bM.up {g1:bY} {s1:St} (AX:∀ o,o<s1.aO.length->g'.ob (ρ o)=g1.ob o/\ρ o<st.aO.length) (Aa:g'.lim=g1.lim)
  (ht:∀ t,t<s1.au.length->st.au[τ t]?=s1.au[t]?/\g'.tk (τ t)=g1.tk t) {x:EV} {v:Value} (h:bM g1 w s1 x v):bM g' w st (x.ren ρ τ) v:=by
 have cZ:∀ {t:Nat},t<s1.au.length->τ t<st.au.length:=fun {t} h=>by
  have h1:=(ht t h).1;rw [zaf h] at h1;exact (zad.1 h1).1
 induction h with
 | d a v h=>exact .d _ _ (by rw [Aa];exact h)
 | ref o off h=>rw [←(AX o h).1];exact .ref _ _ (AX o h).2
 | Jc o off n c h=>rw [←(AX o h).1];exact .Jc _ _ _ _ (AX o h).2
 | cE sz rows t v el n hd uH hn hv =>
  have hl:=(zad.1 uH).1;exact .cE sz rows _ v el n (by rw [Aa];exact hd) (by rw [(ht t hl).1];exact uH) hn (by rw [(ht t hl).2];exact hv)
 | mp o h=>rw [←(AX o h).1];exact .mp _ (AX o h).2
 | tz f cs vs hs h ih =>
  simp only [EV.ren,nU];refine .tz f _ vs (by simpa using hs) λi c u hc hu=>?_
  rw [zba] at hc;obtain ⟨c',h1,rfl⟩:=zcd.1 hc;exact ih i c' u h1 hu
 | agg cs vs hs h1 h ih =>
  simp only [EV.ren,nU];refine .agg _ vs (by simpa using hs) h1 λi c u hc hu=>?_
  rw [zba] at hc;obtain ⟨c',h1,rfl⟩:=zcd.1 hc;exact ih i c' u h1 hu
 | dN cs vs hs h ih =>
  simp only [EV.ren,nU];refine .dN _ vs (by simpa using hs) λi c u hc hu=>?_
  rw [zba] at hc;obtain ⟨c',h1,rfl⟩:=zcd.1 hc;exact ih i c' u h1 hu
 | gd b a v h0 h ih=>exact .gd _ _ v h0 ih
 | vc t k v uH hf h=>exact .vc _ _ v (cZ uH) hf λx rows hx=>by rw [(ht t uH).1] at hx;rw [(ht t uH).2];exact h x rows hx
 | vp t k i off v uH hf h=>exact .vp _ _ _ _ v (cZ uH) hf λx rows hx=>by rw [(ht t uH).1] at hx;rw [(ht t uH).2];exact h x rows hx
 | vw t k lo n v uH hf h=>exact .vw _ _ _ _ v (cZ uH) hf λx rows hx=>by rw [(ht t uH).1] at hx;rw [(ht t uH).2];exact h x rows hx
structure Part (ρ τ:Nat->Nat) (s0 st:St):Prop where
 aO:∀ (o:Nat) (x:dL),s0.aO[o]?=some x->st.aO[ρ o]?=some (x.ren ρ τ)
 au:∀ (t:Nat) (x:gK),s0.au[t]?=some x->st.au[τ t]?=some x
 ZM:∀ o o',ρ o=ρ o'->o=o'
 ZN:∀ t t',τ t=τ t'->t=t'
 ok:∀ (o:Nat) (x:dL),s0.aO[o]?=some x->ki s0.aO.length s0.au.length x=true
theorem Part.live (h:Part ρ τ s0 st) {o:Nat} (hl:s0.live o):st.live (ρ o):=by
 obtain ⟨x,hx,fh⟩:=hl;exact ⟨_,h.aO o x hx,λe=>fh (dL.PK e)⟩
theorem Part.owned (h:Part ρ τ s0 st) {b:Nat} (ho:uD (g.sub ρ τ) s0 b):uD g st b:=by
 rcases ho with ⟨o,h1,h2⟩|⟨t,x,h1,h2⟩
 ·exact .inl ⟨ρ o,h.live h1,h2⟩
 ·exact .inr ⟨τ t,x,h.au t x h1,h2⟩
theorem Inv.part {base:Nat} (h:Inv g base w st) (p:Part ρ τ s0 st):Inv (g.sub ρ τ) base w s0:=by
 refine ⟨h.base,λo ty cs hx=>?_,λo es hx=>?_,λo y hx=>h.raw (ρ o) y (p.aO o _ hx),λo o' fh h1 h2=>h.ne _ _ (λe=>fh (p.ZM o o' e)) (p.live h1) (p.live h2),λt e sz n hx=>h.tail (τ t) e sz n (p.au t _ hx),
  λt t' x x' b fh h1 h2=>h.nF _ _ x x' b (λe=>fh (p.ZN t t' e)) (p.au t _ h1) (p.au t' _ h2),λt x o h1 h2=>h.iu _ x _ (p.au t _ h1) (p.live h2),h.DH,λt e sz n rows hx=>h.own (τ t) e sz n rows (p.au t _ hx)⟩
 ·have ho:=p.ok o _ hx;simp only [ki,zbb] at ho;have jL:=p.aO o _ hx;simp only [dL.ren,nU] at jL;obtain ⟨h1,h2,vs,h3,h4,h5⟩:=h.row (ρ o) ty _ jL;refine ⟨h1,h2,vs,h3,by simpa using h4,λi c u hc hu=>?_⟩;have:=h5 i (c.ren ρ τ) u (by rw [zba,hc];rfl) hu;exact ⟨this.1.down p.au (ho c (zbg hc)),this.2⟩
 ·have ho:=p.ok o _ hx;simp only [ki,zbb] at ho;have jL:=p.aO o _ hx;simp only [dL.ren] at jL;obtain ⟨h1,ms,c,h3,h4,h5,h6⟩:=h.map (ρ o) _ jL;refine ⟨h1,ms,c,h3,by simpa using h4,λi k x m hm zd=>?_,h6⟩;have:=h5 i k (x.ren ρ τ) m (by rw [zba,hm];rfl) zd;exact ⟨this.1,this.2.down p.au (ho (k,x) (zbg hm))⟩
end ren
def cn (st s1:St) (rs ts:List Nat):St :=
 ⟨kX st.aO rs (s1.aO.map (dL.ren (dm rs st.aO.length) (dm ts st.au.length))),kX st.au ts s1.au⟩
theorem Inv.N5 {g g1:bY} {w w1:World} {base:Nat} {st s0 s1:St} {rs ts:List Nat} (h:Inv g base w st) (hr:MQ rs st.aO.length) (ht:MQ ts st.au.length)
  (hlr:rs.length=s0.aO.length) (cZ:ts.length=s0.au.length)
  (p:Part (dm rs st.aO.length) (dm ts st.au.length) s0 st) (h1:Inv g1 base w1 s1) (hs:Step base (g.sub (dm rs st.aO.length) (dm ts st.au.length)) w s0 g1 w1 s1) :
  ∃ g',Inv g' base w1 (cn st s1 rs ts)/\Step base g w st g' w1 (cn st s1 rs ts) /\
   ∀ x v,bM g1 w1 s1 x v->bM g' w1 (cn st s1 rs ts) (x.ren (dm rs st.aO.length) (dm ts st.au.length)) v:=by
 have zf:rs.length<=s1.aO.length:=by rw [hlr];exact hs.dO.aO
 have Ba:ts.length<=s1.au.length:=by rw [cZ];exact hs.dO.Lo
 generalize hN:st.aO.length=N at *;generalize hM:st.au.length=M at *;generalize hρ:dm rs N=ρ at *;generalize hτ:dm ts M=τ at *;have Ux:cn st s1 rs ts=⟨kX st.aO rs (s1.aO.map (dL.ren ρ τ)),kX st.au ts s1.au⟩:=by unfold cn;rw [hN,hM,hρ,hτ]
 rw [Ux];generalize hS:(⟨kX st.aO rs (s1.aO.map (dL.ren ρ τ)),kX st.au ts s1.au⟩:St)=S;have XO:∀ i,S.aO[ρ i]?=(s1.aO[i]?).map (dL.ren ρ τ):=λi=>by
  rw [←hS,←hρ];simp only;rw [Ai rs _ _ N hN hr (by simpa using zf) i,zba,hρ]
 have RX:∀ i,S.au[τ i]?=s1.au[i]?:=λi=>by
  rw [←hS,←hτ];exact Ai ts _ _ M hM ht Ba i
 have RY:∀ o,iL rs N o=none->S.aO[o]?=st.aO[o]?:=λo ho=>by
  obtain ⟨k1,k2⟩:=JI ho;rw [←hS];exact s5 rs _ _ o (by rw [hN];exact k1) λhm=>by
   obtain ⟨j,hj⟩:=zcq.1 hm;refine k2 j ?_;simp [dm,hj]
 have HW:∀ t,iL ts M t=none->S.au[t]?=st.au[t]?:=λt ho=>by
  obtain ⟨k1,k2⟩:=JI ho;rw [←hS];exact s5 ts _ _ t (by rw [hM];exact k1) λhm=>by
   obtain ⟨j,hj⟩:=zcq.1 hm;refine k2 j ?_;simp [dm,hj]
 have hSl:N<=S.aO.length:=by rw [←hS,←hN];show _<=(kX _ _ _).length;rw [Ah rs _ _ (by simpa using zf)];omega
 have ZO:M<=S.au.length:=by rw [←hS,←hM];show _<=(kX _ _ _).length;rw [Ah ts _ _ Ba];omega
 let g':bY:=⟨g1.lim,λo=>match iL rs N o with|some i=>g1.ob i|none=>g.ob o,λt=>match iL ts M t with|some i=>g1.tk i|none=>g.tk t⟩
 have PM:∀ i,g'.ob (ρ i)=g1.ob i:=λi=>by
  show (match iL rs N (ρ i) with|some i=>g1.ob i|none=>g.ob (ρ i))=_;rw [←hρ,Eb hr i]
 have RB:∀ i,g'.tk (τ i)=g1.tk i:=λi=>by
  show (match iL ts M (τ i) with|some i=>g1.tk i|none=>g.tk (τ i))=_;rw [←hτ,Eb ht i]
 have Gh:∀ o,iL rs N o=none->g'.ob o=g.ob o:=λo ho=>by
  show (match iL rs N o with|some i=>g1.ob i|none=>g.ob o)=_;rw [ho]
 have HX:∀ t,iL ts M t=none->g'.tk t=g.tk t:=λt ho=>by
  show (match iL ts M t with|some i=>g1.tk i|none=>g.tk t)=_;rw [ho]
 have EO:∀ {o i:Nat},iL rs N o=some i->o=ρ i:=fun {o i} e=>by rw [←hρ];exact (EN e).symm
 have HY:∀ {t i:Nat},iL ts M t=some i->t=τ i:=fun {t i} e=>by rw [←hτ];exact (EN e).symm
 have up:∀ {x:EV} {v:Value},bM g1 w1 s1 x v->bM g' w1 S (x.ren ρ τ) v:=fun {x v} hx=>by
  refine bM.up (λo ho=>⟨PM o,?_⟩) rfl (λt ht=>⟨RX t,RB t⟩) hx;have e:=XO o;rw [zaf ho] at e;exact (zad.1 e).1
 -- what the call does not own
 have JJ:∀ b,b<w.heap.size->¬ uD (g.sub ρ τ) s0 b->w1.heap[b]?=w.heap[b]?/\g1.lim b=g.lim b:=hs.frame;have G3:∀ b,b<w.heap.size->uD g1 s1 b->uD (g.sub ρ τ) s0 b:=hs.fresh;have uo:∀ o,iL rs N o=none->st.live o->g.ob o<w.heap.size/\¬ uD (g.sub ρ τ) s0 (g.ob o):=λo ho hl=>by
  refine ⟨(h.wy hl).1,λhw=>?_⟩;rcases hw with ⟨i,a1,a2⟩|⟨t,x,a1,a2⟩
  ·have fh:ρ i≠o:=λe=>by rw [←e,←hρ,Eb hr i] at ho;cases ho
   exact h.ne _ _ fh (p.live a1) hl a2
  ·exact h.iu _ x o (p.au t x a1) hl a2
 have ut:∀ t x b,iL ts M t=none->st.au[t]?=some x->(g.tk t).ownBlock=some b->b<w.heap.size/\¬ uD (g.sub ρ τ) s0 b:=λt x b ho hx hb=>by
  refine ⟨(h.wv hx hb).2,λhw=>?_⟩;rcases hw with ⟨i,a1,a2⟩|⟨i,y,a1,a2⟩
  ·exact h.iu t x _ hx (p.live a1) (by rw [hb];exact zbm some a2.symm)
  ·have fh:τ i≠t:=λe=>by rw [←e,←hτ,Eb ht i] at ho;cases ho
   exact h.nF _ _ y x b fh (p.au i y a1) hx a2 hb
 have s0o:∀ {o i:Nat},iL rs N o=some i->o<N->i<s0.aO.length:=fun {o i} e ho=>by rw [←hlr];exact G2 hr e ho
 have s0t:∀ {t i:Nat},iL ts M t=some i->t<M->i<s0.au.length:=fun {t i} e ho=>by rw [←cZ];exact G2 ht e ho
 have Uy:∀ {i:Nat},i<s0.au.length->∀ {x:gK},st.au[τ i]?=some x->s0.au[i]?=some x:=fun {i} hi {x} hx=>by
  have e:=p.au i _ (zaf hi);rw [hx] at e;cases e;exact zaf hi
 have RZ:u4 g w st g' w1 S:=by
  refine ⟨hs.dO.cY,λo ho=>?_,by rw [hN];exact hSl,λt e sz n hx=>?_,by rw [hM];exact ZO,λt x' bw kQ hx ho=>?_⟩
  ·cases hi:iL rs N o with
   | none=>exact Gh o hi
   | some i =>
    have:=EO hi;subst this;rw [PM,hs.dO.ob i (s0o hi (by omega))];rfl
  ·cases hi:iL ts M t with
   | none=>exact ⟨n,by rw [HW t hi];exact hx,zam _,λ_=>HX t hi⟩
   | some i =>
    have:=HY hi;subst this;have l8:=s0t hi (by rw [←hM];exact (zad.1 hx).1);obtain ⟨n',a1,a2,a3⟩:=hs.dO.au i e sz n (Uy l8 hx);exact ⟨n',by rw [RX];exact a1,a2,λe'=>by rw [RB,a3 e'];rfl⟩
  ·cases hi:iL ts M t with
   | none =>
    rw [HW t hi] at hx;exact ⟨x',bw,hx,ho,rfl,zam _,λ_=>HX t hi⟩
   | some i =>
    have:=HY hi;subst this;have l8:=s0t hi (by omega);rw [RX] at hx;obtain ⟨x,rows,a1,a2,a3,a4,a5⟩:=hs.dO.own i x' bw l8 hx ho;exact ⟨x,rows,p.au i x a1,a2,a3,a4,λe'=>by rw [RB,a5 e'];rfl⟩
 have nR:∀ {o i:Nat},iL rs N o=some i->S.live o->s1.live i:=fun {o i} hi ⟨x,hx,fh⟩=>by
  have:=EO hi;subst this;rw [XO] at hx;obtain ⟨y,hy,rfl⟩:=zcd.1 hx;exact ⟨y,hy,λe=>fh (by subst e;rfl)⟩
 have Cj:∀ {o:Nat},iL rs N o=none->S.live o->st.live o:=fun {o} hi ⟨x,hx,fh⟩=>⟨x,by rw [RY o hi] at hx;exact hx,fh⟩;refine ⟨g',⟨h1.base,?_,?_,?_,?_,?_,?_,?_,h1.DH,?_⟩,⟨RZ,hs.below,hs.lim,λb hb hn=>JJ b hb λhw=>hn (p.owned hw),λb hb hw=>?_⟩,λx v hx=>up hx⟩
 ·intro o ty cs hx;cases hi:iL rs N o with
  | none =>
   rw [RY o hi] at hx;obtain ⟨k1,k2,vs,k3,k4,k5⟩:=h.row o ty cs hx;obtain ⟨u1,u2⟩:=uo o hi ⟨_,hx,by simp⟩;obtain ⟨f1,f2⟩:=JJ _ u1 u2;rw [Gh o hi];exact ⟨k1,f2.trans k2,vs,f1.trans k3,k4,λi c u hc hu=>⟨(k5 i c u hc hu).1.mono RZ,(k5 i c u hc hu).2⟩⟩
  | some i =>
   have:=EO hi;subst this;rw [XO] at hx;obtain ⟨y,hy,XP⟩:=zcd.1 hx;cases y <;> simp only [dL.ren] at XP <;> cases XP;obtain ⟨k1,k2,vs,k3,k4,k5⟩:=h1.row i ty _ hy;rw [PM];refine ⟨k1,k2,vs,k3,by rw [nU];simpa using k4,λj c u hc hu=>?_⟩
   rw [nU,zba] at hc;obtain ⟨c',sH,rfl⟩:=zcd.1 hc;exact ⟨up (k5 j c' u sH hu).1,(k5 j c' u sH hu).2⟩
 ·intro o es hx;cases hi:iL rs N o with
  | none =>
   rw [RY o hi] at hx;obtain ⟨k1,ms,c,k3,k4,k5,k6⟩:=h.map o es hx;obtain ⟨u1,u2⟩:=uo o hi ⟨_,hx,by simp⟩;obtain ⟨f1,f2⟩:=JJ _ u1 u2;rw [Gh o hi];exact ⟨k1,ms,c,f1.trans k3,k4,λi k x m a b=>⟨(k5 i k x m a b).1,(k5 i k x m a b).2.mono RZ⟩,k6⟩
  | some i =>
   have:=EO hi;subst this;rw [XO] at hx;obtain ⟨y,hy,XP⟩:=zcd.1 hx;cases y <;> simp only [dL.ren] at XP <;> cases XP;obtain ⟨k1,ms,c,k3,k4,k5,k6⟩:=h1.map i _ hy;rw [PM];refine ⟨k1,ms,c,k3,by simpa using k4,λj k x m hm zd=>?_,k6⟩;rw [zba] at hm;obtain ⟨q,hq,hqe⟩:=zcd.1 hm;cases hqe;have:=k5 j q.1 q.2 m hq zd;exact ⟨this.1,up this.2⟩
 ·intro o y hx;cases hi:iL rs N o with
  | none =>
   rw [RY o hi] at hx;obtain ⟨k1,k2,k3⟩:=h.raw o y hx;obtain ⟨u1,u2⟩:=uo o hi ⟨_,hx,by simp⟩;obtain ⟨f1,f2⟩:=JJ _ u1 u2;rw [Gh o hi];exact ⟨k1,f2.trans k2,f1.trans k3⟩
  | some i =>
   have:=EO hi;subst this;rw [XO] at hx;obtain ⟨z,hz,MM⟩:=zcd.1 hx;cases z <;> simp only [dL.ren] at MM <;> cases MM;rw [PM];exact h1.raw i _ hz
 ·intro o o' fh ho ox;have JK:∀ {a b i:Nat},iL rs N a=some i->iL rs N b=none->S.live a->S.live b->g'.ob a≠g'.ob b:=fun {a b i} ha hb la lb e=>by
   have:=EO ha;subst this;rw [PM,Gh b hb] at e;obtain ⟨u1,u2⟩:=uo b hb (Cj hb lb);exact u2 (G3 _ u1 (.inl ⟨i,nR ha la,e⟩))
  cases hi:iL rs N o with
  | none =>
   cases hj:iL rs N o' with
   | none=>rw [Gh o hi,Gh o' hj];exact h.ne o o' fh (Cj hi ho) (Cj hj ox)
   | some j=>exact (JK hj hi ox ho).symm
  | some i =>
   cases hj:iL rs N o' with
   | none=>exact JK hi hj ho ox
   | some j =>
    have l1:=nR hi ho;have l2:=nR hj ox;have:=EO hi;subst this;have:=EO hj;subst this;rw [PM,PM];exact h1.ne i j (λe=>fh (by rw [e])) l1 l2
 ·intro t e sz n hx;cases hi:iL ts M t with
  | none =>
   rw [HW t hi] at hx;obtain ⟨xs,k1,k2⟩:=h.tail t e sz n hx;rw [HX t hi];exact ⟨xs,fu k1 λb hb=>(JJ b (ut t _ b hi hx hb).1 (ut t _ b hi hx hb).2).1,λb hb=>by rw [←k2 b hb];exact (JJ b (ut t _ b hi hx hb).1 (ut t _ b hi hx hb).2).2⟩
  | some i =>
   have:=HY hi;subst this;rw [RX] at hx;rw [RB];exact h1.tail i e sz n hx
 ·intro t t' x x' b fh hx jL hb;have JK:∀ {a c i:Nat} {x x':gK},iL ts M a=some i->iL ts M c=none->S.au[a]?=some x->S.au[c]?=some x'->(g'.tk a).ownBlock=some b->(g'.tk c).ownBlock=some b->False:=fun {a c i x x'} ha hc la lc ea ec=>by
   have:=HY ha;subst this;rw [RB] at ea;rw [HX c hc] at ec;rw [RX] at la;rw [HW c hc] at lc;obtain ⟨u1,u2⟩:=ut c _ b hc lc ec;exact u2 (G3 b u1 (.inr ⟨i,_,la,ea⟩))
  cases hi:iL ts M t with
  | none =>
   cases hj:iL ts M t' with
   | none =>
    rw [HX t hi] at hb;rw [HX t' hj];rw [HW t hi] at hx;rw [HW t' hj] at jL;exact h.nF t t' x x' b fh hx jL hb
   | some j=>exact λkc=>JK hj hi jL hx kc hb
  | some i =>
   cases hj:iL ts M t' with
   | none=>exact λkc=>JK hi hj hx jL hb kc
   | some j =>
    have:=HY hi;subst this;have:=HY hj;subst this;rw [RB] at hb;rw [RB];rw [RX] at hx jL;exact h1.nF i j x x' b (λe=>fh (by rw [e])) hx jL hb
 ·intro t x o hx ho hb;cases hi:iL ts M t with
  | none =>
   rw [HX t hi] at hb;rw [HW t hi] at hx;cases hj:iL rs N o with
   | none =>
    rw [Gh o hj] at hb;exact h.iu t x o hx (Cj hj ho) hb
   | some j =>
    have l2:=nR hj ho;have:=EO hj;subst this;rw [PM] at hb;obtain ⟨u1,u2⟩:=ut t _ _ hi hx hb;exact u2 (G3 _ u1 (.inl ⟨j,l2,rfl⟩))
  | some i =>
   have:=HY hi;subst this;rw [RB] at hb;rw [RX] at hx;cases hj:iL rs N o with
   | none =>
    rw [Gh o hj] at hb;obtain ⟨u1,u2⟩:=uo o hj (Cj hj ho);exact u2 (G3 _ u1 (.inr ⟨i,_,hx,hb⟩))
   | some j =>
    have l2:=nR hj ho;have:=EO hj;subst this;rw [PM] at hb;exact h1.iu i x j hx l2 hb
 ·intro t e sz n rows hx;cases hi:iL ts M t with
  | none =>
   rw [HW t hi] at hx;obtain ⟨xs,k1,k2,k3⟩:=h.own t e sz n rows hx;rw [HX t hi];exact ⟨xs,fu k1 λb hb=>(JJ b (ut t _ b hi hx hb).1 (ut t _ b hi hx hb).2).1,λb hb=>by rw [←k2 b hb];exact (JJ b (ut t _ b hi hx hb).1 (ut t _ b hi hx hb).2).2,k3.mono RZ.cY⟩
  | some i =>
   have:=HY hi;subst this;rw [RX] at hx;rw [RB];exact h1.own i e sz n rows hx
 ·rcases hw with ⟨o,a1,a2⟩|⟨t,x,a1,a2⟩
  ·cases hi:iL rs N o with
   | none=>exact .inl ⟨o,Cj hi a1,by rw [←Gh o hi];exact a2⟩
   | some i =>
    have l1:=nR hi a1;have:=EO hi;subst this;rw [PM] at a2;exact p.owned (G3 b hb (.inl ⟨i,l1,a2⟩))
  ·cases hi:iL ts M t with
   | none =>
    rw [HX t hi] at a2;rw [HW t hi] at a1;exact .inr ⟨t,x,a1,a2⟩
   | some i =>
    have:=HY hi;subst this;rw [RB] at a2;rw [RX] at a1;exact p.owned (G3 b hb (.inr ⟨i,x,a1,a2⟩))
def wI:List EV->List EV->Prop
 | [],[]=>True
 | e::es,x::xs=>eG e x/\wI es xs
 | _,_=>False
theorem wI.get:∀ {es xs:List EV},wI es xs->es.length=xs.length/\∀ (i:Nat) x,xs[i]?=some x->∃ e,es[i]?=some e/\eG e x
 | [],[],_=>⟨rfl,λi y h=>by simp at h⟩
 | e::es,d::ds,h=>by
  obtain ⟨h1,h2⟩:=wI.get h.2;refine ⟨by simp [h1],λi z hz=>?_⟩;cases i with
  | zero=>simp at hz;subst hz;exact ⟨e,rfl,h.1⟩
  | succ i=>simpa using h2 i z (by simpa using hz)
 | [],_::_,h=>h.elim
 | _::_,[],h=>h.elim
theorem aK.le {P:Program} {f:FuncId} {es xs:List EV} {st:St} {q:EV->St->Prop} (h:aK P f xs st q) (hle:wI es xs):aK P f es st q:=by
 intro g w base vs hi ha;obtain ⟨h1,h2⟩:=hle.get;refine h g w base vs hi ⟨by rw [ha.1,h1],λi x v hx hv=>?_⟩;obtain ⟨e,he,hl⟩:=h2 i x hx;exact hl _ _ _ _ (ha.2 i e v he hv)
section call
variable {P:Program} {f:Ctx} {N:Nat} {S:Start} {Q:EV->St->Prop} {k:List Item} {env:Env} {st:St} {ops rest:List Oper}
 {d:Option Tmp} {ty:TypeId} {pos:String} {after:Array Edge}
def QE (x:EV) (st':St) (e:EV) (s:St):Prop:=eG e x/\s=st'
def zI (rs ts:List Nat) (s0 st:St):Bool :=
 N4 rs st.aO.length && N4 ts st.au.length && Nat.beq rs.length s0.aO.length && Nat.beq ts.length s0.au.length
theorem Part.of {rs ts:List Nat} {s0 st:St} (h:zI rs ts s0 st=true) (h5:s0.aO.all (ki s0.aO.length s0.au.length)=true)
  (ho:rs.map (λr=>st.aO[r]?)=s0.aO.map (λx=>some (x.ren (dm rs st.aO.length) (dm ts st.au.length)))) (ht:ts.map (λr=>st.au[r]?)=s0.au.map some) :
  Part (dm rs st.aO.length) (dm ts st.au.length) s0 st/\MQ rs st.aO.length/\MQ ts st.au.length/\rs.length=s0.aO.length/\ts.length=s0.au.length:=by
 simp only [zI,zar] at h;rw [zbb] at h5;obtain ⟨⟨⟨h1,h2⟩,h3⟩,h4⟩:=h;have e1:=MQ.of h1;have e2:=MQ.of h2;have l1:=zas h3;have l2:=zas h4;refine ⟨⟨λo x hx=>?_,λt x hx=>?_,λo o' e=>HU e1 e,λt t' e=>HU e2 e,λo x hx=>h5 x (zbg hx)⟩,e1,e2,l1,l2⟩
 ·have cZ:o<rs.length:=by rw [l1];exact (zad.1 hx).1
  have:=zbm (λl=>l[o]?) ho;simp only [zba,(Ci e1 cZ).2,hx,Option.map_some,Option.some.injEq] at this;exact this
 ·have cZ:t<ts.length:=by rw [l2];exact (zad.1 hx).1
  have:=zbm (λl=>l[t]?) ht;simp only [zba,(Ci e2 cZ).2,hx,Option.map_some,Option.some.injEq] at this;exact this
theorem aK.frame {f:FuncId} {args:List EV} {s0 s1:St} {e1:EV} (rs ts:List Nat) (h:aK P f args s0 (QE e1 s1)) (hp:zI rs ts s0 st=true) (h5:s0.aO.all (ki s0.aO.length s0.au.length)=true) (ze:args.all (pb s0.aO.length s0.au.length)=true)
  (ho:rs.map (λr=>st.aO[r]?)=s0.aO.map (λx=>some (x.ren (dm rs st.aO.length) (dm ts st.au.length)))) (ht:ts.map (λr=>st.au[r]?)=s0.au.map some) :
  aK P f (args.map (EV.ren (dm rs st.aO.length) (dm ts st.au.length))) st (QE (e1.ren (dm rs st.aO.length) (dm ts st.au.length)) (cn st s1 rs ts)):=by
 obtain ⟨p,WU,Lj,l1,l2⟩:=Part.of hp h5 ho ht;intro g w base vs hi ha;rw [zbb] at ze;refine (h (g.sub _ _) w base vs (hi.part p) ⟨by have:=ha.1;simpa using this,λi x v hx hv=>?_⟩).mono ?_
 ·exact (ha.2 i _ v (by rw [zba,hx];rfl) hv).down p.au (ze x (zbg hx))
 ·rintro e w' ⟨v,r,s,g1,rfl,⟨hle,rfl⟩,hr,hinv,hh⟩;obtain ⟨g',k1,k2,k3⟩:=hi.N5 WU Lj l1 l2 p hinv hh.toStep;exact ⟨v,_,_,g',rfl,⟨.aj _,rfl⟩,k3 _ _ (hle _ _ _ _ hr),k1,⟨k2.dO,k2.below,k2.lim,k2.frame,k2.fresh⟩⟩
theorem aK.jP {f:FuncId} {args:List EV} {x:EV} {st':St} (h:aK P f args st λe s=>∃ (rs ts:List Nat),zI rs ts st' s=true/\st'.aO.all (ki st'.aO.length st'.au.length)=true/\pb st'.aO.length st'.au.length x=true/\(Nat.ble st.aO.length rs.length && Nat.ble st.au.length ts.length)=true /\
   rs.take st.aO.length=List.range st.aO.length/\ts.take st.au.length=List.range st.au.length /\
   rs.map (λr=>s.aO[r]?)=st'.aO.map (λy=>some (y.ren (dm rs s.aO.length) (dm ts s.au.length)))/\ts.map (λr=>s.au[r]?)=st'.au.map some /\
   eG e (x.ren (dm rs s.aO.length) (dm ts s.au.length))):aK P f args st (QE x st'):=by
 intro g w base vs hi ha;refine (h g w base vs hi ha).mono ?_;rintro e w' ⟨v,r,s,g1,rfl,⟨rs,ts,hp,h5,hx,hl,Pt,RQ,ho,ht,hle⟩,hr,hinv,hh⟩;obtain ⟨p,WU,Lj,l1,l2⟩:=Part.of hp h5 ho ht;simp only [zar] at hl;have zf:=zae hl.1;have Ba:=zae hl.2;have same:∀ {l:List Nat} {n N:Nat},l.take n=List.range n->n<=l.length->∀ i,i<n->dm l N i=i:=fun {l n N} hl hn i hi=>by
  have e:(l.take n)[i]?=some i:=by rw [hl,List.getElem?_range hi]
  rw [zaj,zab hi] at e;simp [dm,e]
 have so:=λi hi=>same (N:=s.aO.length) Pt zf i hi
 have MR:=λi hi=>same (N:=s.au.length) RQ Ba i hi
 have Di:∀ {i:Nat},i<st'.au.length->st'.au[i]?=s.au[dm ts s.au.length i]?:=fun {i} hi=>by
  rw [p.au i _ (zaf hi),zaf hi]
 refine ⟨v,x,st',g1.sub _ _,rfl,⟨.aj _,rfl⟩,(hle _ _ _ _ hr).down p.au hx,hinv.part p,⟨⟨hh.dO.cY,λo ox=>?_,(by show st.aO.length<=_;omega),λt e sz n hx=>?_,(by show st.au.length<=_;omega),λt x' bw cZ jL ox=>?_⟩,hh.below,hh.lim,hh.frame,λb hb hw=>hh.fresh b hb (p.owned hw)⟩⟩
 ·show g1.ob (dm rs s.aO.length o)=g.ob o;rw [so o ox];exact hh.dO.ob o ox
 ·have cZ:t<st.au.length:=(zad.1 hx).1;obtain ⟨n',a1,a2,a3⟩:=hh.dO.au t e sz n hx;refine ⟨n',?_,a2,λe'=>?_⟩
  ·rw [Di (by omega),MR t cZ];exact a1
  ·show g1.tk (dm ts s.au.length t)=g.tk t;rw [MR t cZ];exact a3 e'
 ·rw [Di (by have:=(zad.1 jL).1;exact this),MR t cZ] at jL;obtain ⟨y,rows,a1,a2,a3,a4,a5⟩:=hh.dO.own t x' bw cZ jL ox;refine ⟨y,rows,a1,a2,a3,a4,λe'=>?_⟩;show g1.tk (dm ts s.au.length t)=g.tk t;rw [MR t cZ];exact a5 e'
end call
section call
variable {P:Program} {f:Ctx} {N:Nat} {S:Start} {Q:EV->St->Prop} {k:List Item} {env:Env} {st:St} {ops rest:List Oper}
 {d:Option Tmp} {ty:TypeId} {pos:String} {after:Array Edge}
theorem JL {d:Option Tmp} {x r:EV} (hle:eG x r) (h:cm P f N S Q ops rest k (env.put d r) st):cm P f N S Q ops rest k (env.put d x) st:=by
 cases d with
 | none=>exact h
 | some t =>
  intro i hi g w tmps hinv hh he hn;refine h i hi g w tmps hinv hh (λj y hy=>?_) hn;unfold Env.put lookup at hy;cases hb:Nat.beq j t with
  | true =>
   rw [hb] at hy;simp only [Option.some.injEq] at hy;subst hy;have:=zas hb;subst this;obtain ⟨v,h1,h2⟩:=he j x (by unfold Env.put lookup;rw [zen]);exact ⟨v,h1,hle _ _ _ _ h2⟩
  | false =>
   rw [hb] at hy;exact he j y (by unfold Env.put lookup;rw [hb];exact hy)
theorem cm.eP {f':FuncId} {l:List Operand} {ts:Array TypeId} {PN es:List EV} {x r:EV} {s0 s1 st':St} (F2:Enters P f') (hd:fZ N d=true) (rs tk:List Nat)
  (h1:B6 env l=some es) (hc:aK P f' PN s0 (QE r s1)) (hle:wI es (PN.map (EV.ren (dm rs st.aO.length) (dm tk st.au.length))))
  (hp:(zI rs tk s0 st && PN.all (pb s0.aO.length s0.au.length))=true) (h5:s0.aO.all (ki s0.aO.length s0.au.length)=true)
  (ho:rs.map (λr=>st.aO[r]?)=s0.aO.map (λx=>some (x.ren (dm rs st.aO.length) (dm tk st.au.length)))) (ht:tk.map (λr=>st.au[r]?)=s0.au.map some)
  (hx:r.ren (dm rs st.aO.length) (dm tk st.au.length)=x) (hs:cn st s1 rs tk=st')
  (hk:cm P f N S Q ops rest k (env.put d x) st') :
  cm P f N S Q ops (⟨d,.call ⟨.value (.func f'),l.toArray,ts⟩,ty,pos,after,none⟩::rest) k env st:=by
 simp only [zar] at hp;refine .Xm F2 hd h1 ((hc.frame rs tk hp.1 h5 hp.2 ho ht).le hle) λy s hq=>?_
 obtain ⟨hle,rfl⟩:=hq;rw [hx] at hle;rw [hs];exact JL hle hk
theorem cm.Aj {f':FuncId} {l:List Operand} {ts:Array TypeId} {PN es cs:List EV} {x r:EV} {y:Operand} {s0 s1 st':St} (F2:Enters P f') (hd:fZ N d=true) (hy:cY env y=some (.tz f' cs)) (rs tk:List Nat)
  (h1:B6 env l=some es) (hc:aK P f' PN s0 (QE r s1)) (hle:wI (es++cs) (PN.map (EV.ren (dm rs st.aO.length) (dm tk st.au.length))))
  (hp:(zI rs tk s0 st && PN.all (pb s0.aO.length s0.au.length))=true) (h5:s0.aO.all (ki s0.aO.length s0.au.length)=true)
  (ho:rs.map (λr=>st.aO[r]?)=s0.aO.map (λx=>some (x.ren (dm rs st.aO.length) (dm tk st.au.length)))) (ht:tk.map (λr=>st.au[r]?)=s0.au.map some)
  (hx:r.ren (dm rs st.aO.length) (dm tk st.au.length)=x) (hs:cn st s1 rs tk=st')
  (hk:cm P f N S Q ops rest k (env.put d x) st') :
  cm P f N S Q ops (⟨d,.call ⟨.value y,l.toArray,ts⟩,ty,pos,after,none⟩::rest) k env st:=by
 simp only [zar] at hp;have sH:=(hc.frame rs tk hp.1 h5 hp.2 ho ht).le hle;refine .Ey F2 hd hy h1 sH λy s hq=>?_
 obtain ⟨hle,rfl⟩:=hq;rw [hx] at hle;rw [hs];exact JL hle hk
end call
theorem aB {n m:Nat} {x:dL} {l:List dL} (h1:ki n m x=true) (h2:l.all (ki n m)=true):(x::l).all (ki n m)=true:=by
 simp [h1];simpa using h2
theorem jo {a b:Bool} (h1:a=true) (h2:b=true):(a && b)=true:=by rw [h1,h2];rfl
section tok
variable {P:Program} {f:Ctx} {N:Nat} {S:Start} {Q:EV->St->Prop} {k:List Item} {todo:List Item} {env:Env} {st:St} {ops rest:List Oper}
theorem Inv.qT {g:bY} {base o ci:Nat} {w:World} {T:TypeId} {cs:List EV} (h:Inv g base w st) (ho:st.aO[o]?=some (.row T cs)) (hc:cs[ci]?=some (.d (.ex (.slice none 0 0)))) (e sz:Nat) :
  ∃ g',Inv g' base w ((st.tok ⟨e,sz,0,none⟩).set o (.row T (cs.set ci (.cE sz [] st.au.length))))/\Step base g w st g' w ((st.tok ⟨e,sz,0,none⟩).set o (.row T (cs.set ci (.cE sz [] st.au.length)))):=by
 obtain ⟨g1,h1,h2,h3⟩:=h.HK e sz;have F3:(st.tok ⟨e,sz,0,none⟩).aO[o]?=some (.row T cs):=ho;obtain ⟨b1,b2,vs,b3,b4,b5⟩:=h2.row o T cs F3;obtain ⟨hi,hs⟩:=h2.setBlock (o:=o) (x:=.row T (cs.set ci (.cE sz [] st.au.length))) (w':=w) ⟨_,F3,by simp⟩ b2 rfl (λ_ _=>rfl) rfl rfl rfl
  (λPm Lv DK jL=>by
   cases jL;refine ⟨vs,b3,by simpa using b4,λi c u qQ hu=>?_⟩;rw [zbj] at qQ;split at qQ
   ·rename_i Tj;subst Tj;split at qQ
    ·cases qQ;have h0:=b5 ci _ u hc hu;refine ⟨?_,h0.2⟩;have hu0:u=.slice none 0 0:=h0.1.bJ;subst hu0;exact .cE sz [] _ _ e 0 (.nil sz _) (by simp [St.tok,St.set]) (zam _) (λ_=>.inl h1.symm)
    ·cases qQ
   ·have h0:=b5 i c u qQ hu;exact ⟨h0.1.mono Pm,h0.2⟩) (λ_ es jL=>by cases jL)
 exact ⟨g1,hi,h3.trans hs⟩
theorem bp.qT {o ci e sz:Nat} {T:TypeId} {cs:List EV} (ho:st.aO[o]?=some (.row T cs)) (hc:cs[ci]?=some (.d (.ex (.slice none 0 0))))
  (h:bp P f N S Q todo env ((st.tok ⟨e,sz,0,none⟩).set o (.row T (cs.set ci (.cE sz [] st.au.length))))):bp P f N S Q todo env st:=by
 intro g w tmps hinv hh he hn;obtain ⟨g',h1,h2⟩:=hinv.qT ho hc e sz;exact h g' w tmps h1 (hh.step h2) (he.mono h2.dO) hn
theorem cm.qT {o ci e sz:Nat} {T:TypeId} {cs:List EV} (ho:st.aO[o]?=some (.row T cs)) (hc:cs[ci]?=some (.d (.ex (.slice none 0 0))))
  (h:cm P f N S Q ops rest k env ((st.tok ⟨e,sz,0,none⟩).set o (.row T (cs.set ci (.cE sz [] st.au.length))))):cm P f N S Q ops rest k env st :=
 λj hj=>.qT ho hc (h j hj)
end tok
section rules
variable {P:Program} {base:Nat} {env:Env} {st:St} {d:Option Tmp} {ty:TypeId} {pos:String} {after:Array Edge} {gd:Option (Nat×Bool)} {t:TypeId} {x:Operand}
theorem dC {o off:Nat} (hx:cY env x=some (.ref o off)):aG P env st ⟨d,.nilCheck x,ty,pos,after,gd⟩ (.ref o off):=λg base w tmps hi he=>by
 have h:=aN he hx;generalize hv:Act.eval ⟨tmps,[]⟩ x=v at h;cases h with
 | ref _ _ cZ=>exact ⟨_,.ref _ _ cZ,λw' _=>by simp [execOp,hv]⟩
end rules
section rep
variable {g:bY} {base:Nat} {w:World} {st:St}
theorem sI (h:Inv g base w st) {t e sz n:Nat} {rows:List (List D)} {v:Value} (e9:st.au[t]?=some ⟨e,sz,n,some rows⟩) (hv:bM g w st (.vc t n) v) :
  v=g.tk t∨(n=0/\rows=[]/\∃ A,v=.slice A 0 0):=by
 cases hv with
 | vc _ _ _ ht hf hh =>
  rcases (hh _ rows e9 rfl).2 rfl with h1|⟨h1,h3⟩
  ·exact .inl h1
  ·obtain ⟨xs,_,_,k⟩:=h.own t e sz n rows e9;exact .inr ⟨h1,zaw (by rw [k.len];exact h1),h3⟩
theorem HZ (h:Inv g base w st) {t e sz n:Nat} {rows:List (List D)} {v:Value} (e9:st.au[t]?=some ⟨e,sz,n,some rows⟩) (hv:v=g.tk t) :
  v=g.tk t/\∃ xs,w.ownsRow base e sz v n xs/\(∀ b,v.ownBlock=some b->g.lim b=0)/\dt g.lim w sz n rows xs:=by
 subst hv;exact ⟨rfl,h.own t e sz n rows e9⟩
theorem PO {t e sz:Nat} {rows:List (List D)} {v:Value} (cZ:t<st.au.length) (e9:st.au[t]?=some ⟨e,sz,0,some rows⟩) (hv:∃ A,v=.slice A 0 0):bM g w st (.vc t 0) v :=
 .vc t 0 _ cZ (by obtain ⟨A,rfl⟩:=hv;exact ⟨_,_,_,rfl⟩) λx bw hx ho=>by rw [e9] at hx;cases hx;exact ⟨zam _,λ_=>.inr ⟨rfl,hv⟩⟩
theorem iS {w:World} {base e sz n:Nat} {v:Value} {xs:List Value} (h:w.ownsRow base e sz v n xs):(∃ A c,v=.slice A n c)/\(n≠0->∃ b c,v=.slice (some ⟨b,0,none⟩) n c):=by
 rcases h.2 with ⟨rfl,rfl⟩|⟨b,cap,cur,rfl,_⟩
 ·exact ⟨⟨_,_,rfl⟩,λh0=>absurd rfl h0⟩
 ·exact ⟨⟨_,_,rfl⟩,λ_=>⟨_,_,rfl⟩⟩
theorem dt.get {lim:Nat->Nat} {sz n:Nat} {rows:List (List D)} {xs:List Value} (h:dt lim w sz n rows xs) (hx:xs.length=n*sz) {i j:Nat} {row:List D} {c:D} (hi:rows[i]?=some row) (hj:row[j]?=some c) :
  ∃ u,xs[i*sz+j]?=some u/\dK lim w c u/\u.oneCell'=true:=by
 have hl:=h.row row (zbg hi);have cZ:i*sz+j<xs.length:=by
  rw [hx,←h.len];exact zZ (zad.1 hi).1 (by rw [←hl];exact (zad.1 hj).1)
 exact ⟨_,zaf cZ,h.rep _ c _ (kg h.row hi hj) (zaf cZ)⟩
theorem N6 {P:Program} {e sz n b cap:Nat} {xs:List Value} (h:w.ownsRow base e sz (.slice (some ⟨b,0,none⟩) n cap) n xs) (off:Nat) (new:List Value) (AY:off+new.length<=n*sz) (h1:∀ v∈new,v.oneCell'=true) :
  ∃ w',(storeCells ⟨b,off,none⟩ new 0).run P w=.ok () w'/\w'.ownsRow base e sz (.slice (some ⟨b,0,none⟩) n cap) n (xs.take off++new++xs.drop (off+new.length))/\w.grownBy w' (some b)/\w'.heap.size=w.heap.size:=by
 rcases h.2 with ⟨h',_⟩|⟨g',cap',cur,h',hb,hg,EA,zb,yC,MJ⟩
 ·cases h'
 ·cases h';have hle:n*sz<=cap*sz:=zcl _ EA;have lX:=run_storeCells_at P b off e new 0 cur w hg (by simp;omega) h1;simp only [zdb] at lX;refine ⟨_,lX,⟨?_,.inr ⟨b,cap,_,rfl,hb,setRow_heap w b cur _ e (0,0) hg,EA,zb,?_,?_⟩⟩,⟨rfl,rfl,rfl,by simp,λk _ hk=>setRow_other w b k _ (λe=>hk (by rw [e]))⟩,by simp⟩
  ·have:=h.1;simp;omega
  ·simp;omega
  ·have hx:=h.1;apply zby;intro j;simp only [zcp];rw [zaj];have XQ:∀ j,j<n*sz->cur.toList[j]?=xs[j]?:=λj hj=>by rw [←MJ,zaj,zab hj]
   by_cases hj:j<n*sz
   ·rw [zab hj];by_cases h1:j<off
    ·rw [zax,zax,zak (by simp;omega),zak (by simp;omega),zaj,zaj,zab h1,zab h1];exact XQ j hj
    ·by_cases h2:j<off+new.length
     ·have key:∀ l r:List Value,l.length=off->(l++new++r)[j]?=new[j-off]?:=λl r hl=>by
       rw [zax,zat (by omega),hl,zak (by omega)]
      rw [key _ _ (by simp;omega),key _ _ (by simp;omega)]
     ·have key:∀ l r:List Value,l.length=off->(l++new++r)[j]?=r[j-(off+new.length)]?:=λl r hl=>by
       rw [zat (by simp;omega)];congr 1;simp;omega
      rw [key _ _ (by simp;omega),key _ _ (by simp;omega),zaz,zaz];have e3:off+new.length+(j-(off+new.length))=j:=by omega
      rw [e3];exact XQ j hj
   ·rw [zaa hj];rw [zbl];simp;omega
theorem LK {lim:Nat->Nat} {sz n:Nat} {rows:List (List D)} {xs us:List Value} (h:dt lim w sz n rows xs) (hx:xs.length=n*sz) {i off:Nat} {row new:List D} (hi:rows[i]?=some row) (Xo:off+new.length<=sz)
  (hu:us.length=new.length) (nG:∀ (j:Nat) c u,new[j]?=some c->us[j]?=some u->dK lim w c u/\u.oneCell'=true) :
  dt lim w sz n (rows.set i (row.take off++new++row.drop (off+new.length))) (xs.take (i*sz+off)++us++xs.drop (i*sz+off+us.length)):=by
 have O6:=h.row row (zbg hi);have Dj:i<rows.length:=(zad.1 hi).1;have Uz:(row.take off++new++row.drop (off+new.length)).length=sz:=by simp;omega
 have jv:∀ r,r∈rows.set i (row.take off++new++row.drop (off+new.length))->r.length=sz:=λr hr=>by
  rcases List.mem_or_eq_of_mem_set hr with h1|h1
  ·exact h.row r h1
  ·rw [h1];exact Uz
 refine ⟨by simpa using h.len,jv,λj c u hc vD=>?_⟩;have DL:=iQ jv;have Gd:j<n*sz:=by rw [←h.len];have:=(zad.1 hc).1;rw [DL] at this;simpa using this
 have fB:0<sz:=by
  rcases zek sz with h0|h0
  ·subst h0;omega
  ·exact h0
 have Lw:j=(j / sz)*sz+j % sz:=by rw [zdc];exact (zel j sz).symm
 have hq:j / sz<rows.length:=by rw [h.len];exact zdk (by rw [zdc];exact Gd)
 have hm:j % sz<sz:=zec _ fB;have cZ:i*sz+off+us.length<=n*sz:=by
  have:(i+1)*sz<=n*sz:=zcl _ (by rw [←h.len];omega);rw [zcu] at this;omega
 by_cases Ze:j / sz=i
 ·-- in the row that is written
  have wH:(rows.set i (row.take off++new++row.drop (off+new.length)))[j / sz]?=some (row.take off++new++row.drop (off+new.length)):=by rw [Ze,zbj,zab rfl,zab Dj]
  have Dc:=kg jv wH (zaf (show j % sz<_ by rw [Uz];exact hm));rw [←Lw,hc] at Dc;have fc:(row.take off++new++row.drop (off+new.length))[j % sz]?=some c:=by cases Dc;exact zaf _
  rw [Ze] at Lw;by_cases h1:j % sz<off
  ·rw [zax,zak (by simp;omega),zaj,zab h1] at fc;rw [zax,zak (by simp;omega),zaj,zab (by omega)] at vD;obtain ⟨u2,a1,a2⟩:=h.get hx hi fc;rw [←Lw,vD] at a1;cases a1;exact a2
  ·by_cases h2:j % sz<off+new.length
   ·rw [zax,zat (by simp;omega),zak (by simp;omega)] at fc;rw [zax,zat (by simp;omega),zak (by simp;omega)] at vD;have e1:(List.take off row).length=off:=by simp;omega
    have e2:(List.take (i*sz+off) xs).length=i*sz+off:=by simp;omega
    rw [e1] at fc;rw [e2] at vD;have e3:j-(i*sz+off)=j % sz-off:=by omega
    rw [e3] at vD;exact nG _ c u fc vD
   ·rw [zat (by simp;omega)] at fc vD;have e1:(List.take off row++new).length=off+new.length:=by simp;omega
    have e2:(List.take (i*sz+off) xs++us).length=i*sz+off+us.length:=by simp;omega
    rw [e1,zaz] at fc;rw [e2,zaz] at vD;have e3:off+new.length+(j % sz-(off+new.length))=j % sz:=by omega
    have e4:i*sz+off+us.length+(j-(i*sz+off+us.length))=j:=by omega
    rw [e3] at fc;rw [e4] at vD;obtain ⟨u2,a1,a2⟩:=h.get hx hi fc;rw [←Lw,vD] at a1;cases a1;exact a2
 ·have wH:(rows.set i (row.take off++new++row.drop (off+new.length)))[j / sz]?=some rows[j / sz]:=by rw [zbj,zaa (zcb Ze)];exact zaf hq
  have UA:=h.row rows[j / sz] (zfi hq);have Dc:=kg jv wH (zaf (show j % sz<_ by rw [UA];exact hm));rw [←Lw,hc] at Dc;have fc:rows[j / sz][j % sz]?=some c:=by cases Dc;exact zaf _
  have hux:xs[j]?=some u:=by
   by_cases h1:j<i*sz+off
   ·rw [zax,zak (by simp;omega),zaj,zab h1] at vD;exact vD
   ·have:¬ j<i*sz+off+us.length:=by
     intro h2;apply Ze;have h3:j<(i+1)*sz:=by rw [zcu];omega
     have h4:i*sz<=j:=by omega
     exact Nat.le_antisymm (Nat.le_of_lt_succ (zdk (by rw [zdc];exact h3))) ((Nat.le_div_iff_mul_le fB).2 h4)
    rw [zat (by simp;omega)] at vD;have e2:(List.take (i*sz+off) xs++us).length=i*sz+off+us.length:=by simp;omega
    rw [e2,zaz] at vD;have e4:i*sz+off+us.length+(j-(i*sz+off+us.length))=j:=by omega
    rw [e4] at vD;exact vD
  obtain ⟨u2,a1,a2⟩:=h.get hx (zaf hq) fc;rw [←Lw,hux] at a1;cases a1;exact a2
end rep
section rules
variable {P:Program} {f:Ctx} {N:Nat} {S:Start} {Q:EV->St->Prop} {k:List Item} {todo:List Item} {base:Nat} {env:Env} {st:St} {ops rest:List Oper}
 {d:Option Tmp} {ty:TypeId} {pos:String} {after:Array Edge} {gd:Option (Nat×Bool)} {t t2 e:TypeId} {x y z:Operand}
theorem bp.UB {α:Type} {tk:Nat} {e sz n:Nat} {l:List α} {row:α->List D} (e9:st.au[tk]?=some ⟨e,sz,n,some (l.map row)⟩) (h:n=l.length->bp P f N S Q todo env st):bp P f N S Q todo env st:=by
 intro g w tmps hinv;obtain ⟨xs,_,_,h3⟩:=hinv.own tk e sz n _ e9;exact h (by have:=h3.len;simpa using this.symm) g w tmps hinv
theorem Inv.freeze {g:bY} {w:World} {tk e sz n:Nat} {rows:List (List D)} (h:Inv g base w st) (e9:st.au[tk]?=some ⟨e,sz,n,some rows⟩) :
  ∃ g',g'.tk tk=g.tk tk/\Inv g' base w (st.bD tk ⟨e,sz,n,none⟩)/\Step base g w st g' w (st.bD tk ⟨e,sz,n,none⟩)/\dK g'.lim w (.sl sz rows) (g.tk tk):=by
 obtain ⟨xs,h1,h2,h3⟩:=h.own tk e sz n rows e9;obtain ⟨g',k1,k2,k3,k4⟩:=h.NW (x':=⟨e,sz,n,none⟩) (v':=g.tk tk) (w':=w) e9 h1 (.inl ⟨rfl,rfl,⟨rfl,rfl,rfl,zam _,λ_ _ _=>rfl⟩⟩) (λhh=>by cases hh) (λrows _ bw hh=>by cases hh) (λrows hh=>by cases hh);refine ⟨g',k1,k3,k4,HH h1 h3.len h3.row (λb hb=>by rw [k2 b hb,tC rfl];exact zam _) λj u c hu hc=>?_⟩;exact ⟨(h3.rep j c u hc hu).1.mono k4.dO.cY,(h3.rep j c u hc hu).2⟩
theorem bp.freeze {i tk e sz n:Nat} {rows:List (List D)} (hl:lookup i env=some (.vc tk n)) (e9:st.au[tk]?=some ⟨e,sz,n,some rows⟩)
  (h:bp P f N S Q todo ((i,.cE sz rows tk)::env) (st.bD tk ⟨e,sz,n,none⟩)):bp P f N S Q todo env st:=by
 intro g w tmps hinv hh he hN;obtain ⟨g',h1,h2,h3,h4⟩:=hinv.freeze e9;refine h g' w tmps h2 (hh.step h3) (λj y hy=>?_) hN;unfold lookup at hy;have AR:=he.mono h3.dO;cases hb:Nat.beq j i with
 | true =>
  rw [hb] at hy;cases hy;have:=zas hb;subst this;obtain ⟨v,m1,m2⟩:=he j _ hl;have hlen:tk<st.au.length:=(zad.1 e9).1;obtain ⟨xs,o1,_,o3⟩:=hinv.own tk e sz n rows e9;rcases sI hinv e9 m2 with hv|⟨n0,r0,A,hv⟩
  ·subst hv;exact ⟨_,m1,.cE sz rows tk _ e n h4 (by simp [St.bD,zbj,hlen]) (zfp o3.len) (λ_=>.inl h1.symm)⟩
  ·subst n0;subst r0;subst hv;exact ⟨_,m1,.cE sz [] tk _ e 0 (.nil sz _) (by simp [St.bD,zbj,hlen]) (zam _) (λ_=>.inr ⟨rfl,_,rfl⟩)⟩
 | false =>
  rw [hb] at hy;exact AR j y hy
theorem bp.N7 {i e sz:Nat} (hx:lookup i env=some (.d (.ex (.slice none 0 0)))) (h:bp P f N S Q todo ((i,.vc st.au.length 0)::env) (st.tok ⟨e,sz,0,some []⟩)):bp P f N S Q todo env st:=by
 intro g w tmps hinv hh he hN;obtain ⟨g',h1,_,_,h2,h3⟩:=hinv.sV ⟨e,sz,0,some []⟩ (World.ownsRow_nil w S.base _ _) (.inl ⟨rfl,rfl⟩) (λrows hr=>by cases hr;exact ⟨rfl,by simp,by simp⟩);refine h g' w tmps h2 (hh.step h3) (λj y hy=>?_) hN;unfold lookup at hy;cases hb:Nat.beq j i with
 | true =>
  rw [hb] at hy;cases hy;have:=zas hb;subst this;obtain ⟨v,m1,m2⟩:=he j _ hx;have hv:=m2.bJ;subst hv;refine ⟨_,m1,.vc _ _ _ (by simp [St.tok]) ⟨_,_,_,rfl⟩ λx rows hx ho=>?_⟩;have:x=⟨e,sz,0,some []⟩:=by simpa [St.tok,zeo] using hx
  subst this;exact ⟨zam _,λ_=>.inl h1.symm⟩
 | false =>
  rw [hb] at hy;exact (he.mono h3.dO) j y hy
section sl
variable {α:Type} {sz:Nat} {row:α->List D} {l:List α} {ev:EV} {inf:TypeInfo} {tk n:Nat}
theorem sa (ht:P.underlying t=some (.slice e)) (hx:cY env x=some (.vc tk n)) {e':Nat} (e9:st.au[tk]?=some ⟨e',sz,n,some (l.map row)⟩) :
  aG P env st ⟨d,.call ⟨.builtin .len,#[x],#[t]⟩,ty,pos,after,gd⟩ (.d (cI (l.length:Int))):=λg base w tmps hinv he=>by
 rcases sI hinv e9 (aN he hx) with GY|⟨n0,r0,A,hv⟩
 ·obtain ⟨_,xs,h2,_,h4⟩:=HZ hinv e9 GY;obtain ⟨⟨A,c,hv⟩,_⟩:=iS h2;have hn:n=l.length:=by have:=h4.len;simpa using this.symm
  rw [←hn];exact ⟨_,.d _ _ (.ex _),λw' _=>D9 ht hv w'⟩
 ·have hl:l=[]:=by simpa using r0
  subst hl;exact ⟨_,.d _ _ (.ex _),λw' _=>D9 ht hv w'⟩
theorem l9 [Inhabited α] {kk:IntKind} {i:Int} {e':Nat} (ht:P.underlying t=some (.slice e)) (hi:P.info? e=some inf) (fB:inf.size=sz) (hx:cY env x=some (.vc tk n)) (e9:st.au[tk]?=some ⟨e',sz,n,some (l.map row)⟩) (hy:cY env y=some (.d (.ex (.int kk i)))) (h:0<=i/\i<l.length) :
  aG P env st ⟨d,.indexAddr t x y,ty,pos,after,gd⟩ (.vp tk n i.toNat 0):=λg base w tmps hinv he=>by
 have ZP:Act.eval ⟨tmps,[]⟩ x=g.tk tk:=by
  rcases sI hinv e9 (aN he hx) with GY|⟨n0,r0,A,hv⟩
  ·exact GY
  ·have hl:l=[]:=by simpa using r0
   rw [hl] at h;simp at h;omega
 obtain ⟨GY,xs,h2,_,h4⟩:=HZ hinv e9 ZP;have hn:n=l.length:=by have:=h4.len;simpa using this.symm
 obtain ⟨b,c,hv⟩:=(iS h2).2 (by omega);have hlen:tk<st.au.length:=(zad.1 e9).1;subst fB;refine ⟨.pointer (some ⟨b,i.toNat*inf.size,none⟩),.vp _ _ _ _ _ hlen ⟨_,_,rfl⟩ λx rows hx ho=>?_,λw' _=>?_⟩
 ·rw [e9] at hx;cases hx;exact ⟨zam _,λ_=>⟨b,n,c,by rw [←GY,hv],rfl⟩⟩
 ·have:=B5 (d:=d) (ty:=ty) (pos:=pos) (after:=after) (gd:=gd) ht hi hv (aN he hy).bJ h.1 (by omega) w';rw [Addr.add_lit,zbp] at this;exact this
theorem N8 {s:TypeId} {f off i o:Nat} (hf:fi P s f=some off) (hx:cY env x=some (.vp tk n i o)) :
  aG P env st ⟨d,.fieldAddr s x f,ty,pos,after,gd⟩ (.vp tk n i (o+off)):=λg base w tmps hinv he=>by
 have h:=aN he hx;generalize hv:Act.eval ⟨tmps,[]⟩ x=v at h;cases h with
 | vp _ _ _ _ _ ht hf' hh =>
  obtain ⟨b,o',rfl⟩:=hf';refine ⟨.pointer (some ⟨b,o'+off,none⟩),.vp _ _ _ _ _ ht ⟨_,_,rfl⟩ λx rows hx ho=>?_,λw' _=>by simp [execOp,hv,tB hf,Addr.add_lit]⟩;obtain ⟨h1,h2⟩:=hh x rows hx ho;refine ⟨h1,λe=>?_⟩;obtain ⟨b2,m,c,a1,a2⟩:=h2 e;cases a2;exact ⟨b,m,c,a1,by rw [zce]⟩
theorem EP {g:bY} {w:World} {i o e':Nat} {v:Value} {r:List D} {rows:List (List D)} (hinv:Inv g base w st) (e9:st.au[tk]?=some ⟨e',sz,n,some rows⟩) (hv:bM g w st (.vp tk n i o) v) (hr:rows[i]?=some r) :
  ∃ b c xs,g.tk tk=.slice (some ⟨b,0,none⟩) n c/\v=.pointer (some ⟨b,i*sz+o,none⟩)/\w.ownsRow base e' sz (.slice (some ⟨b,0,none⟩) n c) n xs/\g.lim b=0/\dt g.lim w sz n rows xs/\b<w.heap.size /\
   ∀ j cc,r[j]?=some cc->∃ u,w.cell? ⟨b,i*sz+j,none⟩=some u/\xs[i*sz+j]?=some u/\dK g.lim w cc u/\u.oneCell'=true:=by
 cases hv with
 | vp _ _ _ _ _ ht hf' hh =>
  obtain ⟨b,m,c,a1,a2⟩:=(hh _ rows e9 rfl).2 rfl;obtain ⟨xs,h1,h2,h3⟩:=hinv.own tk e' sz n rows e9;rw [a1] at h1 h2;have hm:m=n:=by
   rcases h1.2 with ⟨hh,_⟩|⟨_,_,_,hh,_⟩
   ·cases hh
   ·cases hh;rfl
  subst hm;refine ⟨b,c,xs,a1,a2,h1,h2 b rfl,h3,(h1.lt b rfl).2,λj cc hj=>?_⟩;obtain ⟨u,k1,k2⟩:=h3.get h1.1 hr hj;have:=h1.cells (g:=b) rfl _ u k1;rw [Addr.add_lit,zbp] at this;exact ⟨u,this,k1,k2⟩
theorem xQ [Inhabited α] {i o e':Nat} {c:D} (h1:(P.underlying t).map j4=some true) (hx:cY env x=some (.vp tk n i o)) (e9:st.au[tk]?=some ⟨e',sz,n,some (l.map row)⟩) (hi:i<l.length) (hc:(row (nth l i))[o]?=some c) :
  aG P env st ⟨d,.load t x,ty,pos,after,gd⟩ (.d c):=λg base w tmps hinv he=>by
 obtain ⟨b,cp,xs,a1,a2,a3,a4,a5,a6,a7⟩:=EP hinv e9 (aN he hx) (Cg hi);obtain ⟨u,k1,k2,k3,k4⟩:=a7 o c hc;refine ⟨u,.d _ _ k3,λw' hb=>?_⟩;have:=(hb.cell (p:=⟨b,i*sz+o,none⟩) a6).trans k1;simp [execOp,a2,Instr.loadAt,Instr.sureAddr,loadVar,vF h1,this]
theorem lH [Inhabited α] {i o e' m:Nat} {cs:List D} (h1:(P.underlying t).map j4=some false) (hs:(P.info? t).map (·.size)=some m) (hx:cY env x=some (.vp tk n i o)) (e9:st.au[tk]?=some ⟨e',sz,n,some (l.map row)⟩) (hi:i<l.length)
  (hm:o+m<=sz) (hc:((row (nth l i)).drop o).take m=cs):aG P env st ⟨d,.load t x,ty,pos,after,gd⟩ (.d (.agg cs)):=λg base w tmps hinv he=>by
 obtain ⟨b,cp,xs,a1,a2,a3,a4,a5,a6,a7⟩:=EP hinv e9 (aN he hx) (Cg hi);have O6:(row (nth l i)).length=sz:=a5.row _ (zbg (Cg hi));have hl:cs.length=m:=by rw [←hc];simp;omega
 let us:List Value:=(xs.drop (i*sz+o)).take m
 have O3:∀ j u,us[j]?=some u->j<m/\xs[i*sz+(o+j)]?=some u:=λj u hu=>by
  simp only [us,zaj,zaz] at hu;split at hu
  ·rename_i hj;exact ⟨hj,by rw [←hu];congr 1;omega⟩
  ·cases hu
 have fc:∀ j,j<m->∃ cc u,cs[j]?=some cc/\us[j]?=some u/\w.cell? ⟨b,i*sz+o+j,none⟩=some u/\dK g.lim w cc u/\u.oneCell'=true:=λj hj=>by
  have e1:(row (nth l i))[o+j]?=some ((row (nth l i))[o+j]'(by omega)):=zaf _;obtain ⟨u,k1,k2,k3,k4⟩:=a7 (o+j) _ e1;refine ⟨_,u,by rw [show cs[j]?=(((row (nth l i)).drop o).take m)[j]? from by rw [hc],zaj,zab hj,zaz];exact e1,?_,by rw [zce];exact k1,k3,k4⟩;simp only [us,zaj,zaz];rw [zab hj,←k2];congr 1;omega
 have Zf:us.length=m:=by
  have h1:=a3.1;have Dj:i<n:=by have:=a5.len;simp at this;omega
  have h2:(i+1)*sz<=n*sz:=zcl _ Dj;rw [zcu] at h2;simp [us];omega
 refine ⟨.agg us.toArray,.d _ _ (.agg _ _ (by simp [Zf,hl]) (λj u hu=>?_) (λj cc u Dc hu=>?_)),λw' hb=>?_⟩
 ·obtain ⟨hj,_⟩:=O3 j u (by simpa using hu);obtain ⟨cc,u',b1,b2,b3,b4,b5⟩:=fc j hj;have:us[j]?=some u:=by simpa using hu
  rw [b2] at this;cases this;exact b5
 ·obtain ⟨hj,_⟩:=O3 j u (by simpa using hu);obtain ⟨cc',u',b1,b2,b3,b4,b5⟩:=fc j hj;have:us[j]?=some u:=by simpa using hu
  rw [b2] at this;cases this;rw [b1] at Dc;cases Dc;exact b4
 ·obtain ⟨inf,kV,HG⟩:∃ inf,P.info? t=some inf/\inf.size=m:=by
   cases hh:P.info? t with
   | none=>rw [hh] at hs;cases hs
   | some inf=>rw [hh] at hs;exact ⟨inf,rfl,by simpa using hs⟩
  have Ez:=qP (P:=P) (w:=w') (b:=b) (off:=i*sz+o) Zf (λj u hu=>by
   obtain ⟨hj,_⟩:=O3 j u hu;obtain ⟨cc,u',b1,b2,b3,b4,b5⟩:=fc j hj;rw [b2] at hu;cases hu;exact (hb.cell (p:=⟨b,i*sz+o+j,none⟩) a6).trans b3)
  simp [execOp,a2,Instr.loadAt,Instr.sureAddr,loadVar,yB h1,sizeOf,typeInfo,kV,HG,Ez]
theorem Bb [Inhabited α] {i o e' m:Nat} {new:List D} {a:α} (hx:cY env x=some (.vp tk n i o)) (e9:st.au[tk]?=some ⟨e',sz,n,some (l.map row)⟩) (hi:i<l.length) (hy:cY env y=some ev) (hc:cellsD ev=some new)
  (hs:(P.info? t).map (·.size)=some m) (hm:new.length=m) (hof:o+m<=sz) (ha:(row (nth l i)).take o++new++(row (nth l i)).drop (o+new.length)=row a) :
  HE P base env st ⟨d,.store t x y,ty,pos,after,gd⟩ (st.bD tk ⟨e',sz,n,some ((l.set i a).map row)⟩):=by
 intro g w tmps hinv he;obtain ⟨b,cp,xs,a1,a2,a3,a4,a5,a6,a7⟩:=EP hinv e9 (aN he hx) (Cg hi);have XR:=kW hc (aN he hy);generalize hu:Act.eval ⟨tmps,[]⟩ y=u at XR;have Zf:u.cells.toList.length=new.length:=by simpa using XR.1
 have Dj:i<n:=by have:=a5.len;simp at this;omega
 have h2:(i+1)*sz<=n*sz:=zcl _ Dj;rw [zcu] at h2;have ZQ:∀ v∈u.cells.toList,v.oneCell'=true:=λv hv=>by
  obtain ⟨j,hj⟩:=zcq.1 hv;have Gd:=(zad.1 hj).1;exact (XR.2 j new[j] v (zaf (by omega)) (by simpa using hj)).2
 obtain ⟨w',k1,k2,k3,k4⟩:=N6 (P:=P) a3 (i*sz+o) u.cells.toList (by omega) ZQ;have jv:=LK (us:=u.cells.toList) (new:=new) (off:=o) a5 a3.1 (Cg hi) (by omega) Zf (λj c v Dc hv=>XR.2 j c v Dc (by simpa using hv));rw [ha] at jv;have xL:(l.map row).set i (row a)=(l.set i a).map row:=by rw [List.map_set]
 rw [xL] at jv;obtain ⟨g',q1,q2,q3,q4⟩:=hinv.NW (x':=⟨e',sz,n,some ((l.set i a).map row)⟩) (v':=g.tk tk) (w':=w') e9 (by rw [a1];exact k2) (.inl ⟨rfl,k4,by rw [a1];exact k3⟩) (λhh=>by cases hh) (λrows _ bw _=>⟨rfl,zam _,λ_=>rfl⟩) (λrows hh=>by cases hh;exact jv);refine ⟨g',w',?_,q3,q4⟩;obtain ⟨inf,kV,HG⟩:∃ inf,P.info? t=some inf/\inf.size=m:=by
  cases hh:P.info? t with
  | none=>rw [hh] at hs;cases hs
  | some inf=>rw [hh] at hs;exact ⟨inf,rfl,by simpa using hs⟩
 have Ug:u.cells.size=m:=by have:=XR.1;omega
 simp [execOp,hu,a2,Instr.storeAt,Instr.sureAddr,storeVar,sizeOf,typeInfo,kV,HG,Ug,k1]
end sl
end rules
end Go.Abs
