/- Our own texts of this seat. -/
import Derived.Test.YtimkfiaffohhkaaGreatDoorYT0
import Derived.Laws.CopyRow
import Derived.ChangeKeysEq
import Derived.Laws.MakeOwn
import Derived.Lib.AppendZerosOnto
import Derived.WalkKit
import Derived.Lib.Walk
import Derived.Shelf.RegionOpenPlain
import Derived.Lib.Overlaps
import Derived.Lib.SliceRun
import Derived.Lib.JoinLaws
import Derived.RangeFuncLeaves
import Derived.RangeFuncRecord
import Derived.Test.YtimkfiaffohhkaaGreatDoorRows
set_option linter.unusedSimpArgs false
set_option linter.unusedVariables false
set_option linter.unusedSectionVars false
set_option maxRecDepth 100000
set_option maxHeartbeats 1000000
namespace Go.Abs
open Go.RowKit
section rules
variable {P:Program} {f:Ctx} {N:Nat} {S:Start} {Q:EV->St->Prop} {k:List Item} {todo:List Item} {base:Nat} {env:Env} {st:St} {ops rest:List Oper}
 {d:Option Tmp} {ty:TypeId} {pos:String} {after:Array Edge} {gd:Option (Nat×Bool)} {t t2 e:TypeId} {x y z:Operand}
section sl
variable {α:Type} {sz:Nat} {row:α->List D} {l:List α} {ev:EV} {inf:TypeInfo} {tk n:Nat}
theorem IH {l':List α} {zv v u:Value} {d2:TypeDesc} {g:b7} {w:World} {news:List Value} (ht:P.underlying t=some (.slice e)) (Cr:P.underlying t2=some d2) (GD:d2=.string∨∃ e2,d2=.slice e2)
  (hi:P.info? e=some inf) (hz:inf.zero=some zv) (fw:inf.size=sz) (rZ:zv.cells.size=sz) (hb:inf.bytes<=100000) (hinv:Inv g base w st) (hv:v=g.tk tk) (fc:st.ar[tk]?=some ⟨e,sz,n,some (l.map row)⟩)
  (hn:l.length+l'.length<=1000000000) (xr:Ar P g.lim w sz u (l'.map row) news) :
  ∃ v' g' w',(Builtin.append_ #[t,t2] ty #[v,u]).run P w=.ok v' w'/\bK g' w' (st.bD tk ⟨e,sz,(l++l').length,some ((l++l').map row)⟩) (.vc tk (l++l').length) v' /\
   Inv g' base w' (st.bD tk ⟨e,sz,(l++l').length,some ((l++l').map row)⟩)/\Step base g w st g' w' (st.bD tk ⟨e,sz,(l++l').length,some ((l++l').map row)⟩):=by
 obtain ⟨Hp,xs,kM,Ao,YX⟩:=IG hinv fc hv;have WC:n=l.length:=by have:=YX.len;simpa using this.symm
 have hm:(l'.map row).length=l'.length:=by simp
 obtain ⟨v',w',iE,kI,TW,hc⟩:=lU (P:=P) (ty:=ty) w ht Cr GD hi hz fw rZ kM xr.src (by simp only [maxLen];rw [hm];omega) (by rw [hm,WC];exact E7 hn hb) hinv.base;rw [hm] at kI TW;have e1:(l++l').length=n+l'.length:=by rw [zak,WC]
 rw [e1];rw [Hp] at hc TW;have j5:dn g.lim w sz (n+l'.length) ((l++l').map row) (xs++news):=by
  refine ⟨by simp [WC],λr hr=>?_,λj c u A2 hu=>?_⟩
  ·rw [zdd] at hr;rcases zbb.1 hr with h|h
   ·exact YX.row r h
   ·exact xr.rows r h
  ·rw [zdd,zer] at A2;have El:=j4 YX.row;have wx:=kM.1;rw [YX.len] at El;by_cases hj:j<xs.length
   ·rw [zao hj] at hu;rw [zao (by omega)] at A2;exact YX.rep j c u A2 hu
   ·rw [zaw (by omega)] at hu;rw [zaw (by omega)] at A2;have e2:((l.map row).flatten).length=xs.length:=by omega
    rw [e2] at A2;exact xr.rep _ u c hu A2
 obtain ⟨g',q1,q2,q3,q4⟩:=hinv.Pm (x':=⟨e,sz,n+l'.length,some ((l++l').map row)⟩) fc kI hc (λhh=>by cases hh) (λrows _ bO _=>⟨rfl,Nat.le_add_right _ _,λe=>TW (by simp only at e;omega)⟩) (λrows hh=>by cases hh;exact j5);refine ⟨v',g',w',iE,?_,q3,q4⟩;have hlen:tk<st.ar.length:=(zad.1 fc).1;obtain ⟨⟨A,c,hv⟩,_⟩:=jk kI;refine .vc _ _ _ (by simpa [St.bD] using hlen) ⟨A,_,c,hv⟩ λy rows hy ho=>?_
 have:y=⟨e,sz,n+l'.length,some ((l++l').map row)⟩:=by
  have:(⟨e,sz,n+l'.length,some ((l++l').map row)⟩:iu)=y:=by simpa [St.bD,zbl,hlen] using hy
  exact this.symm
 subst this;exact ⟨zar _,λ_=>.inl q1.symm⟩
theorem Ds {l':List α} {zv v u:Value} {d2:TypeDesc} {g:b7} {w:World} {news:List Value} (ht:P.underlying t=some (.slice e)) (Cr:P.underlying t2=some d2) (GD:d2=.string∨∃ e2,d2=.slice e2)
  (hi:P.info? e=some inf) (hz:inf.zero=some zv) (fw:inf.size=sz) (rZ:zv.cells.size=sz) (hb:inf.bytes<=100000) (hinv:Inv g base w st) (hv:bK g w st (.vc tk n) v) (fc:st.ar[tk]?=some ⟨e,sz,n,some (l.map row)⟩)
  (hn:l.length+l'.length<=1000000000) (xr:Ar P g.lim w sz u (l'.map row) news) :
  ∃ v' g' w',(Builtin.append_ #[t,t2] ty #[v,u]).run P w=.ok v' w'/\bK g' w' (st.bD tk ⟨e,sz,(l++l').length,some ((l++l').map row)⟩) (.vc tk (l++l').length) v' /\
   Inv g' base w' (st.bD tk ⟨e,sz,(l++l').length,some ((l++l').map row)⟩)/\Step base g w st g' w' (st.bD tk ⟨e,sz,(l++l').length,some ((l++l').map row)⟩):=by
 rcases sV hinv fc hv with Hp|⟨n0,r0,A,hA⟩
 ·exact IH ht Cr GD hi hz fw rZ hb hinv Hp fc hn xr
 ·subst n0;have hl:l=[]:=by simpa using r0
  subst hl;have hlen:tk<st.ar.length:=(zad.1 fc).1;have hm:(l'.map row).length=l'.length:=by simp
  obtain ⟨q1,q2⟩:=wF (P:=P) (ty:=ty) ht Cr GD hi hz fw xr.src (by simp at hn ⊢;omega) (by rw [hm];exact E7 (by simpa using hn) hb) A;by_cases h0:l'.length=0
  ·have Tz:l'=[]:=zbc h0;subst Tz;have mZ:st.bD tk ⟨e,sz,([]++[]:List α).length,some (([]++[]:List α).map row)⟩=st:=by
    have h3:st.ar[tk]=⟨e,sz,0,some (([]:List α).map row)⟩:=(zad.1 fc).2;unfold St.bD;show (⟨st.aQ,st.ar.set tk ⟨e,sz,0,some (([]:List α).map row)⟩⟩:St)=st;rw [←h3,List.set_getElem_self]
   rw [mZ];exact ⟨v,g,w,by rw [hA];exact q1 rfl,Rh hlen fc ⟨A,hA⟩,hinv,.refl _ _ _ _⟩
  ·obtain ⟨v',w',iE,kI,_,hc⟩:=lU (P:=P) (ty:=ty) w ht Cr GD hi hz fw rZ (World.ownsRow_nil w base e sz) xr.src (by simp only [maxLen];rw [hm];simp at hn;omega) (by rw [hm];exact E7 (by simpa using hn) hb) hinv.base;rw [hm] at kI;have sF:v'.ownBlock=some w.heap.size/\Below w.heap.size w w':=by
    rcases hc with ⟨h1,_⟩|h
    ·exfalso;rcases kI.2 with ⟨_,h2⟩|⟨gb,cap,cur,h2,_⟩
     ·exact h0 (by omega)
     ·rw [h2] at h1;cases h1
    ·exact h
   have e1:([]++l':List α).length=0+l'.length:=by simp
   rw [e1];have j5:dn g.lim w sz (0+l'.length) (([]++l':List α).map row) ([]++news):=by
    refine ⟨by simp,λr hr=>xr.rows r (by simpa using hr),λj c u A2 hu=>?_⟩;exact xr.rep j u c (by simpa using hu) (by simpa using A2)
   obtain ⟨g',q1',q2',q3,q4⟩:=hinv.Pm (x':=⟨e,sz,0+l'.length,some (([]++l':List α).map row)⟩) fc kI (.inr sF) (λhh=>by cases hh) (λrows _ bO _=>⟨rfl,zfs _,λe=>absurd e (by simp only;omega)⟩) (λrows hh=>by cases hh;exact j5);refine ⟨v',g',w',by rw [hA,q2 (by rw [hm];exact h0)];exact iE,?_,q3,q4⟩;obtain ⟨⟨A',c,GG⟩,_⟩:=jk kI;refine .vc _ _ _ (by simpa [St.bD] using hlen) ⟨A',_,c,GG⟩ λy rows hy ho=>?_
   have:y=⟨e,sz,0+l'.length,some (([]++l':List α).map row)⟩:=by
    have:(⟨e,sz,0+l'.length,some (([]++l':List α).map row)⟩:iu)=y:=by simpa [St.bD,zbl,hlen] using hy
    exact this.symm
   subst this;exact ⟨zar _,λ_=>.inl q1'.symm⟩
theorem II {l':List α} {zv:Value} {d2:TypeDesc} (ht:P.underlying t=some (.slice e)) (Cr:P.underlying t2=some d2) (GD:d2=.string∨∃ e2,d2=.slice e2)
  (hi:P.info? e=some inf) (hz:inf.zero=some zv) (fw:inf.size=sz) (rZ:zv.cells.size=sz) (hb:inf.bytes<=100000) (hx:cX env x=some (.vc tk n)) (fc:st.ar[tk]?=some ⟨e,sz,n,some (l.map row)⟩)
  (hn:l.length+l'.length<=1000000000)
  (As:∀ (g:b7) (w:World) (tmps:Array Value),Inv g base w st->dV g w st env tmps->∃ news,Ar P g.lim w sz (Act.eval ⟨tmps,[]⟩ y) (l'.map row) news) :
  xY P base env st ⟨d,.call ⟨.builtin .append,#[x,y],#[t,t2]⟩,ty,pos,after,gd⟩ (.vc tk (l++l').length) (st.bD tk ⟨e,sz,(l++l').length,some ((l++l').map row)⟩):=by
 intro g w tmps hinv he;obtain ⟨news,xr⟩:=As g w tmps hinv he;obtain ⟨v',g',w',iE,h1,h2,h3⟩:=Ds (ty:=ty) ht Cr GD hi hz fw rZ hb hinv (aP he hx) fc hn xr;exact ⟨v',g',w',by simp [execOp,resolve,invoke,builtin,iE],h1,h2,h3⟩
theorem gS {l':List α} {zv:Value} {w:EV} (ht:P.underlying t=some (.slice e)) (hi:P.info? e=some inf) (hz:inf.zero=some zv) (fw:inf.size=sz) (rZ:zv.cells.size=sz) (hb:inf.bytes<=100000)
  (hx:cX env x=some (.vc tk n)) (fc:st.ar[tk]?=some ⟨e,sz,n,some (l.map row)⟩) (hy:cX env y=some w) (hs:wC w=some (sz,l'.map row)) (hn:l.length+l'.length<=1000000000) :
  xY P base env st ⟨d,.call ⟨.builtin .append,#[x,y],#[t,t]⟩,ty,pos,after,gd⟩ (.vc tk (l++l').length) (st.bD tk ⟨e,sz,(l++l').length,some ((l++l').map row)⟩) :=
 II ht ht (.inr ⟨e,rfl⟩) hi hz fw rZ hb hx fc hn λg w tmps _ he=>vH (tH hs (aP he hy))
theorem vO (row:α->List D) (ht:P.underlying t=some (.slice e)) (hi:P.info? e=some inf) (fT:inf.size=sz) :
  xY P base env st ⟨d,.buildSlice t 0 #[],ty,pos,after,gd⟩ (.vc st.ar.length ([]:List α).length) (st.tok ⟨e,sz,([]:List α).length,some (([]:List α).map row)⟩):=by
 intro g w tmps hinv he;obtain ⟨g',h1,_,_,h2,h3⟩:=hinv.s8 ⟨e,sz,0,some []⟩ (v:=.slice (some ⟨w.heap.size,0,none⟩) 0 0) (xs:=[]) ⟨by simp,.inr ⟨w.heap.size,0,#[],rfl,hinv.base,heap_alloc_new w _,zar _,by simp [maxLen],by simp,by simp⟩⟩
  (.inr ⟨rfl,(Below.refl _ w).alloc (zar _) _⟩) (λrows hh=>by cases hh;exact ⟨rfl,by simp,by simp⟩)
 refine ⟨.slice (some ⟨w.heap.size,0,none⟩) 0 0,g',_,?_,.vc _ _ _ (by simp [St.tok]) ⟨_,_,_,rfl⟩ λy rows hy ho=>?_,h2,h3⟩
 ·simp [execOp,Instr.buildSlice,run_underlying ht,pX hi,newRow,Instr.fill];rw [show Array.map (λ_=>(default:Value)) (Array.range 0)=#[] from by simp [Array.range_zero']]
 ·have:y=⟨e,sz,0,some []⟩:=by simpa [St.tok,zfc] using hy
  subst this;exact ⟨zar _,λ_=>.inl h1.symm⟩
end sl
end rules
section norm
variable {P:Program} {f:Ctx} {N:Nat} {S:Start} {Q:EV->St->Prop} {k:List Item} {todo:List Item} {env:Env} {st:St} {ops rest:List Oper}
theorem bt.wN {α:Type} {l:List α} {row:α->List D} {i tk e sz n:Nat} (hl:lookup i env=some (.vc tk n)) (fc:st.ar[tk]?=some ⟨e,sz,n,some (l.map row)⟩)
  (h:bt P f N S Q todo ((i,.cY sz (l.map row) tk)::env) (st.bD tk ⟨e,sz,l.length,none⟩)):bt P f N S Q todo env st :=
 .WD fc λhn=>.freeze hl fc (by rw [hn];exact h)
theorem cn.wN {α:Type} {l:List α} {row:α->List D} {i tk e sz n:Nat} (hl:lookup i env=some (.vc tk n)) (fc:st.ar[tk]?=some ⟨e,sz,n,some (l.map row)⟩)
  (h:cn P f N S Q ops rest k ((i,.cY sz (l.map row) tk)::env) (st.bD tk ⟨e,sz,l.length,none⟩)):cn P f N S Q ops rest k env st :=
 λj hj=>.wN hl fc (h j hj)
theorem bt.Ky {α:Type} {l:List α} {row:α->List D} {tk e sz n:Nat} (E:Nat->Env) (T:Nat->St) (fc:st.ar[tk]?=some ⟨e,sz,n,some (l.map row)⟩) (hE:df env (E n)) (hT:st=T n)
  (h:bt P f N S Q todo (E l.length) (T l.length)):bt P f N S Q todo env st :=
 .WD fc λhn=>.sub hE (by rw [hT,hn];exact h)
end norm
theorem eG.Px {es xs:List EV} (h:wM es xs):eG (.eF es) (.eF xs):=by
 intro g w st v hv;obtain ⟨h1,h2⟩:=h.get;cases hv with
 | eF _ vs hs hc =>
  refine .eF _ vs (by rw [hs,h1]) λi d u hd hu=>?_
  obtain ⟨e,he,hle⟩:=h2 i d hd;exact hle _ _ _ _ (hc i e u he hu)
theorem aY {n m:Nat} {κ α:Type} {ke:κ->Value} {val:α->D} {l:List (κ×α)}:kY n m (.map (kt ke val l))=true:=by
 unfold kY kt;rw [zaz];intro p hp;obtain ⟨q,_,rfl⟩:=zdb.1 hp;rfl
theorem dF {ρ τ:Nat->Nat} {κ α:Type} {ke:κ->Value} {val:α->D} {l:List (κ×α)}:dD.ren ρ τ (.map (kt ke val l))=.map (kt ke val l):=by
 simp [dD.ren,kt,EV.ren]
theorem dG {ρ τ:Nat->Nat} {T:TypeId} {α:Type} {l:List α} {c1:α->D}:dD.ren ρ τ (.row T (l.map λb=>EV.d (c1 b)))=.row T (l.map λb=>EV.d (c1 b)):=by
 have h:∀ l:List α,EV.ren.IC ρ τ (l.map λb=>EV.d (c1 b))=l.map λb=>EV.d (c1 b):=by
  intro l
  induction l with
  | nil=>rfl
  | cons x l ih=>rw [zap,EV.ren.IC,ih];rfl
 rw [dD.ren,h]
section drawn
variable {P:Program} {f:Ctx} {N:Nat} {S:Start} {Q:EV->St->Prop} {k:List Item}
def OpE (P:Program) (base:Nat) (l:List Oper) (env:Env) (st:St) (o:Oper) (x:EV) (st':St):Prop :=
 (st'=st/\uQ P l env st o x)∨(o.guard=none/\xY P base env st o x st')∨(o.guard=none/\x=.d .any/\Im P base env st o st')
theorem Kz {l:List Oper} {p:Nat} {env:Env} {xs:List EV} (F:(Nat->Bool)->St->Prop) (hp:p<=l.length) (Vl:xs.length=p)
  (Zt:∀ i j t,i<p->j<p->i≠j->eC l i=some t->eC l j≠some t)
  (Vg:∀ (i:Nat) o,i<p->l[i]?=some o->∀ t∈Kk l o,∀ j,j<p->j≠i->eC l j=some t->(j<i/\((dZ l []).getD i 0).testBit j=true)∨(i<j/\((dZ l []).getD j 0).testBit i=true))
  (E1:∀ i,p<=i->i<l.length->∀ j,j<i->((dZ l []).getD i 0).testBit j=true)
  (xt:∀ (i:Nat) o,l[i]?=some o->∀ e∈o.after,Region.binds .any e=true->e.on<i)
  (pK:∀ (L:Nat->Bool) (st:St) (i:Nat) (o:Oper),i<p->l[i]?=some o->L i=false->(∀ j,((dZ l []).getD i 0).testBit j=true->L j=true)->(∀ a,L a=true->∀ b,((dZ l []).getD a 0).testBit b=true->L b=true)->F L st ->
   gD N o.dst=true/\∃ x st',xs[i]?=some x/\OpE P S.base l (na l o (gG env ((l.take p).take i) (xs.take i))) st o x st'/\F (λj=>j==i || L j) st')
  (Ct:∀ (L:Nat->Bool) (st:St),(∀ i,i<p->L i=true)->F L st->cn P f N S Q l (l.drop p) k (gG env (l.take p) xs) st) :
  ∀ (Gy fuel t:Nat) (listed:Array Bool) (g:b7) (w:World) (tmps:Array Value) (st:St),F (λi=>listed.getD i false) st->listed.size=l.length->wG l listed->(∀ i,p<=i->i<l.length->listed.getD i true=false) ->
   (((List.range p).filter λi=>!listed.getD i true).length=Gy)->Gy+(l.length-p)<=fuel->Inv g S.base w st->rW S g w st->tmps.size=N ->
   (∀ (s:Tmp),(∀ (j:Nat) x,j<p->listed.getD j false=true->eC l j=some s->xs[j]?=some x->∃ v,tmps[s]?=some v/\bK g w st x v) /\
    ((∀ j,j<p->listed.getD j false=true->eC l j≠some s)->∀ y,lookup s env=some y->∃ v,tmps[s]?=some v/\bK g w st y v)) ->
   eH P f (ox S Q) (.inRegion l.toArray (Region.linearise.go .any l.toArray fuel t listed [])::k) tmps w:=by
 have wx:xs.length=(l.take p).length:=by simp;omega
 have hxl':=Vl;intro Gy
 induction Gy with
 | zero =>
  intro fuel t listed g w tmps st hF hs sE Q1 Bj Kl hinv hh hN hJ;have l7:∀ i,i<p->listed.getD i true=true:=by
   intro i hi;have h0:=zbc Bj;have hn:i ∉ (List.range p).filter λi=>!listed.getD i true:=by rw [h0];simp
   rw [zcr,List.mem_range] at hn;cases hb:listed.getD i true with
   | true=>rfl
   | false=>exact absurd ⟨hi,by simp [hb]⟩ hn
  have Zu:=yV E1 xt fuel t p listed (zar _) hp (by omega) hs (λi hi=>by
   by_cases h:i<p
   ·rw [l7 i h];simp [h]
   ·rw [Q1 i (by omega) hi];simp [h])
  rw [Zu];have A4:(l.drop p).length=l.length-p:=by simp
  rw [←A4];have NY:∀ i,i<p->listed.getD i false=true:=λi hi=>by
   have:=l7 i hi;have cJ:i<listed.size:=by omega
   simpa [zas,cJ] using this
  refine Ct _ st NY hF p (λj=>by rw [zbd]) g w tmps hinv hh (λs y hy=>?_) hN;rcases kr wx hy with ⟨j,o,h1,h2,h3⟩|⟨h1,h2⟩
  ·have hj:j<p:=by have:=(zad.1 h2).1;omega
   have ho:l[j]?=some o:=by rw [zal] at h1;rw [zaa hj] at h1;exact h1
   exact (hJ s).1 j y hj (NY j hj) (by simp [eC,ho,h3]) h2
  ·refine (hJ s).2 (λj hj _ hd=>?_) y h2;cases ho:l[j]? with
   | none=>simp [eC,ho] at hd
   | some o=>exact h1 j o (by rw [zal,zaa hj];exact ho) (by simpa [eC,ho] using hd)
 | succ Gy ih =>
  intro fuel t listed g w tmps st hF hs sE Q1 Bj Kl hinv hh hN hJ;obtain ⟨fuel,rfl⟩:∃ n,fuel=n+1:=⟨fuel-1,by omega⟩
  -- an operation of the beginning that has not come up
  have hex:∃ i,i<p/\listed.getD i true=false:=by
   have:(List.range p).filter (λi=>!listed.getD i true)≠[]:=λh=>by rw [h] at Bj;simp at Bj
   obtain ⟨i,hi⟩:=zfi _ this;rw [zcr,List.mem_range] at hi;exact ⟨i,hi.1,by simpa using hi.2⟩
  have Pn:∀ i,i<l.length->listed.getD i false=listed.getD i true:=λi hi=>by
   have cJ:i<listed.size:=by omega
   simp [zas,cJ]
  have Wh:((List.range l.toArray.size).filter λi=>!listed.getD i true && ((l.toArray[i]?).map (·.after.all λe=>!Region.binds .any e || listed.getD e.on false)).getD false)=Region.ready .any l.toArray listed:=rfl
  -- the least such is ready
  have fi:Region.ready .any l.toArray listed≠[]:=by
   have Q2:∀ n i,i<=n->i<p->listed.getD i true=false->∃ i,i<p/\listed.getD i true=false/\∀ j,j<i->listed.getD j true=true:=by
    intro n
    induction n with
    | zero=>intro i hi MF h;exact ⟨i,MF,h,λj hj=>by omega⟩
    | succ n Zv =>
     intro i hi MF h;by_cases Mw:∃ j,j<i/\listed.getD j true=false
     ·obtain ⟨j,hj,GH⟩:=Mw;exact Zv j (by omega) (by omega) GH
     ·refine ⟨i,MF,h,λj hj=>?_⟩;cases hb:listed.getD j true with
      | true=>rfl
      | false=>exact absurd ⟨j,hj,hb⟩ Mw
   obtain ⟨i0,h0,h1⟩:=hex;obtain ⟨i,Iu,Km,n9⟩:=Q2 i0 i0 (zar _) h0 h1;have oM:i<l.length:=by omega
   have:i∈Region.ready .any l.toArray listed:=by
    rw [mem_ready];refine ⟨Km,l[i],by simp [oM],λe he hb=>?_⟩;have cJ:=xt i l[i] (zaf oM) e he hb;rw [Pn _ (by omega)];exact n9 _ cJ
   intro GF;rw [GF] at this;cases this
  simp only [Region.linearise.go,Wh];have hlen:0<(Region.ready .any l.toArray listed).length:=zde.2 fi;have yc:=zem t hlen;generalize hi:(Region.ready .any l.toArray listed)[t % (Region.ready .any l.toArray listed).length]=i;have Dn:(Region.ready .any l.toArray listed)[t % (Region.ready .any l.toArray listed).length]?=some i:=by rw [zaf yc,hi]
  rw [Dn];simp only [];rw [linearise_go_acc];have YR:i∈Region.ready .any l.toArray listed:=zbj Dn;obtain ⟨Km,o,ho,l7⟩:=mem_ready.1 YR;have mX:l[i]?=some o:=by simpa using ho
  have oM:=(zad.1 mX).1;have tN:=wI sE mX (λe he hb=>l7 e he hb);have Iu:i<p:=by
   rcases zgb i p with h|h
   ·exact h
   ·obtain ⟨i0,h0,h1⟩:=hex;have:=tN i0 (E1 i h oM i0 (by omega));rw [Pn i0 (by omega),h1] at this;cases this
  obtain ⟨hd,x,st',hx,vJ,hF'⟩:=pK _ st i o Iu mX (by show listed.getD i false=false;rw [Pn i oM,Km]) tN (λa ha b hb=>by
   have Vh:=wH sE l [] (by simp) (by simp);have Zw:(dZ l [])[a]?=some ((dZ l []).getD a 0):=by
    cases hm:(dZ l [])[a]? with
    | none=>rw [zch,hm] at hb;simp at hb
    | some m=>rw [zch,hm];rfl
   exact Vh a _ Zw ha b hb) hF
  have hFn:(λj=>(listed.setIfInBounds i true).getD j false)=λj=>j==i || listed.getD j false:=by
   funext j;by_cases mK:j=i
   ·subst mK;simp [zas,hs,oM]
   ·rw [getD_set_ne false (zcn mK)];simp [mK]
  have Vh:=wH sE l [] (by simp) (by simp)
  -- what the operation looks at
  have he:dV g w st (na l o (gG env ((l.take p).take i) (xs.take i))) tmps:=by
   intro s y hy;obtain ⟨QB,JX⟩:=tM hy;rcases kr (by simp [wx]) JX with ⟨j,o',h1,h2,h3⟩|⟨h1,h2⟩
   ·have mK:j<i:=by have:=(zad.1 h2).1;simp at this;omega
    have Bl:l[j]?=some o':=by
     rw [zal,zaa mK,zal,zaa (by omega)] at h1;exact h1
    have uR:eC l j=some s:=by simp [eC,Bl,h3]
    rcases Vg i o Iu mX s QB j (by omega) (by omega) uR with ⟨_,hb⟩|⟨cJ,_⟩
    ·exact (hJ s).1 j y (by omega) (tN j hb) uR (by rw [zal,zaa mK] at h2;exact h2)
    ·omega
   ·refine (hJ s).2 (λj hj yW uR=>?_) y h2;by_cases mK:j=i
    ·subst mK;rw [Pn j oM,Km] at yW;cases yW
    ·rcases Vg i o Iu mX s QB j hj mK uR with ⟨cJ,_⟩|⟨cJ,hb⟩
     ·cases Bl:l[j]? with
      | none=>simp [eC,Bl] at uR
      | some o'=>exact h1 j o' (by rw [zal,zaa cJ,zal,zaa hj];exact Bl) (by simpa [eC,Bl] using uR)
     ·have GH:j<l.length:=by omega
      have Zw:(dZ l [])[j]?=some ((dZ l []).getD j 0):=by
       cases hm:(dZ l [])[j]? with
       | none=>rw [zch,hm] at hb;simp at hb
       | some m=>rw [zch,hm];rfl
      have:=Vh j _ Zw yW i hb;rw [Pn i oM,Km] at this;cases this
  -- what remains behind it
  have Kn:((List.range p).filter λj=>!(listed.setIfInBounds i true).getD j true).length=Gy:=by
   have yd:∀ j,(listed.setIfInBounds i true).getD j true=(listed.getD j true || decide (j=i)):=by
    intro j;by_cases mK:j=i
    ·subst mK;simp [zas,hs,oM]
    ·rw [getD_set_ne true (zcn mK)];simp [mK]
   have Q3:((List.range p).filter λj=>!(listed.setIfInBounds i true).getD j true)=((List.range p).filter λj=>!listed.getD j true).filter λj=>!decide (j=i):=by
    rw [List.filter_filter];refine zej λj _=>?_
    rw [yd j];cases listed.getD j true <;> simp
   rw [Q3];have Q0:((List.range p).filter λj=>!listed.getD j true).Nodup:=List.nodup_range.filter _;have uG:i∈(List.range p).filter λj=>!listed.getD j true:=by rw [zcr,List.mem_range];exact ⟨Iu,by simp [Km]⟩
   have E2:∀ (L:List Nat),L.Nodup->i∈L->(L.filter λj=>!decide (j=i)).length+1=L.length:=by
    intro L
    induction L with
    | nil=>intro _ h;cases h
    | cons a L Zx =>
     intro hn hm;rw [zcd] at hn;by_cases ha:a=i
     ·subst ha;have:(L.filter λj=>!decide (j=a))=L:=by
       rw [zdt];intro b hb;have:b≠a:=λe=>hn.1 (e▸hb)
       simp [this]
      rw [zbk];simp [this]
     ·have uE:i∈L:=by
       rcases zan.1 hm with h|h
       ·exact absurd h.symm ha
       ·exact h
      rw [zbk];simp only [ha,zfj,zcb,zbt,zai];rw [Zx hn.2 uE]
   have:=E2 _ Q0 uG;omega
  have Q4:wG l (listed.setIfInBounds i true):=by
   intro j oj Bl yW e A1 hb;by_cases mK:j=i
   ·subst mK;rw [mX] at Bl;cases Bl;exact getD_set_true (l7 e A1 hb)
   ·rw [getD_set_ne false (zcn mK)] at yW;exact getD_set_true (sE j oj Bl yW e A1 hb)
  have Q5:∀ j,p<=j->j<l.length->(listed.setIfInBounds i true).getD j true=false:=λj hj GH=>by rw [getD_set_ne true (by omega)];exact Q1 j hj GH
  -- the step
  have next:∀ (g':b7) (w':World) (v:Value),bK g' w' st' x v->Inv g' S.base w' st'->Step S.base g w st g' w' st' ->
    eH P f (ox S Q) (.inRegion l.toArray (Region.linearise.go .any l.toArray fuel (t / (Region.ready .any l.toArray listed).length) (listed.setIfInBounds i true) [])::k) (Act.put ⟨tmps,[]⟩ o.dst v).tmps w':=by
   intro g' w' v Bg dY mA;refine ih fuel _ _ _ w' _ st' (by rw [hFn];exact hF') (by simpa using hs) Q4 Q5 Kn (by omega) dY (hh.step mA) (by rw [iK];exact hN) λs=>⟨λj y hj yW uR hy=>?_,λNZ y hy=>?_⟩
   ·by_cases mK:j=i
    ·subst mK;have Ko:o.dst=some s:=by simpa [eC,mX] using uR
     rw [hx] at hy;cases hy;rw [Ko];have fT:s<tmps.size:=by
      rw [Ko] at hd;have Wi:s+1<=N:=zae hd;rw [hN];exact Wi
     exact ⟨v,by simp [Act.put,fT],Bg⟩
    ·rw [getD_set_ne false (zcn mK)] at yW;obtain ⟨u,h1,h2⟩:=(hJ s).1 j y hj yW uR hy;have pU:o.dst≠some s:=λe=>Zt j i s hj Iu mK uR (by simp [eC,mX,e])
     refine ⟨u,?_,h2.mono mA.dB⟩;cases Q6:o.dst with
     | none=>exact h1
     | some d =>
      have:d≠s:=λe=>pU (by rw [Q6,e])
      simp [Act.put,zcj,this,h1]
   ·have pU:o.dst≠some s:=λe=>NZ i Iu (by simp [zas,hs,oM]) (by simp [eC,mX,e])
    obtain ⟨u,h1,h2⟩:=(hJ s).2 (λj hj yW=>NZ j hj (by
     by_cases mK:j=i
     ·subst mK;simp [zas,hs,oM]
     ·rw [getD_set_ne false (zcn mK)];exact yW)) y hy
    refine ⟨u,?_,h2.mono mA.dB⟩;cases Q6:o.dst with
    | none=>exact h1
    | some d =>
     have:d≠s:=λe=>pU (by rw [Q6,e])
     simp [Act.put,zcj,this,h1]
  have Gz:l.toArray[i]?=some o:=ho;show eH P f (ox S Q) (.inRegion l.toArray (i::_)::k) tmps w;have yi:st'=st->∀ (dm:Nat->Nat) (w':World) (v:Value),Good g w st x dm w' v ->
    eH P f (ox S Q) (.inRegion l.toArray (Region.linearise.go .any l.toArray fuel (t / (Region.ready .any l.toArray listed).length) (listed.setIfInBounds i true) [])::k) (Act.put ⟨tmps,[]⟩ o.dst v).tmps w':=by
   rintro rfl dm w' v ⟨Bg,hb,hl⟩;obtain ⟨dY,mA⟩:=hinv.grow (g':={ g with lim:=dm }) hb hl rfl rfl;exact next _ w' v Bg dY mA
  rcases vJ with ⟨Pr,vJ⟩|⟨hg,vJ⟩|⟨hg,rfl,vJ⟩
  ·rcases vJ with ⟨hg,vJ⟩|⟨j,want,tt,c,b,y,env',hg,hj,Zy,Zz,rfl,hE,vJ⟩
   ·have hw:Region.wanted o (yielded l.toArray tmps)=true:=by simp [Region.wanted,hg]
    rcases vJ g S.base w tmps hinv he with ⟨v,dm,w',hr,ye⟩|⟨f',args,hr,hc⟩
    ·exact eH.value Gz hw hr (yi Pr dm w' v ye)
    ·exact eH.call Gz hw hr (hc.mono λe w' ⟨v,dm,h1,h2⟩=>⟨v,h1,yi Pr dm w' v h2⟩)
   ·obtain ⟨u,hu,ZA⟩:=he tt c Zy;have hw:Region.wanted o (yielded l.toArray tmps)=b:=by
     rw [←tr Zz ZA];have JY:((l.toArray)[j]?).bind (·.dst)=some tt:=by simpa using hj
     simp only [Region.wanted,hg,yielded,JY,zac,hu];cases u <;> rfl
    cases b with
    | false=>exact eH.xX Gz hw (yi Pr g.lim w undef ⟨.gd _ _ _ (λ_=>rfl) (λh=>by cases h),.refl _ _,λ_ _=>rfl⟩)
    | true =>
     have wrap:∀ dm w' v,Good g w st y dm w' v->Good g w st (.gd true y) dm w' v:=λdm w' v ⟨a,b,c⟩=>⟨.gd _ _ _ (λh=>by cases h) (λ_=>a),b,c⟩
     rcases vJ rfl g S.base w tmps hinv (he.gd hE rfl) with ⟨v,dm,w',hr,ye⟩|⟨f',args,hr,hc⟩
     ·exact eH.value Gz hw hr (yi Pr dm w' v (wrap _ _ _ ye))
     ·exact eH.call Gz hw hr (hc.mono λe w' ⟨v,dm,h1,h2⟩=>⟨v,h1,yi Pr dm w' v (wrap _ _ _ h2)⟩)
  ·have hw:Region.wanted o (yielded l.toArray tmps)=true:=by simp [Region.wanted,hg]
   obtain ⟨v,g',w',hr,Bg,dY,mA⟩:=vJ g w tmps hinv he;exact eH.value Gz hw hr (next g' w' v Bg dY mA)
  ·have hw:Region.wanted o (yielded l.toArray tmps)=true:=by simp [Region.wanted,hg]
   obtain ⟨g',w',hr,dY,mA⟩:=vJ g w tmps hinv he;exact eH.skip Gz hw hr (next g' w' undef (.d _ _ (.any _)) dY mA)
theorem bt.WE {id:Nat} {l:List Oper} {env:Env} {st:St} (p:Nat) (xs:List EV) (F:(Nat->Bool)->St->Prop) (hm:P.follows .mixedOrders=true) (hB:ct l p=true) (Vl:xs.length=p) (hF0:F (λ_=>false) st)
  (pK:∀ (L:Nat->Bool) (st:St) (i:Nat) (o:Oper),i<p->l[i]?=some o->L i=false->(∀ j,((dZ l []).getD i 0).testBit j=true->L j=true)->(∀ a,L a=true->∀ b,((dZ l []).getD a 0).testBit b=true->L b=true)->F L st ->
   gD N o.dst=true/\∃ x st',xs[i]?=some x/\OpE P S.base l (na l o (gG env ((l.take p).take i) (xs.take i))) st o x st'/\F (λj=>j==i || L j) st')
  (Ct:∀ (L:Nat->Bool) (st:St),(∀ i,i<p->L i=true)->F L st->cn P f N S Q l (l.drop p) k (gG env (l.take p) xs) st):bt P f N S Q (.code (.region id l.toArray true)::k) env st:=by
 simp only [ct,zaq] at hB;obtain ⟨⟨⟨⟨TC,YS⟩,YT⟩,YU⟩,Wj⟩:=hB;have hp:p<=l.length:=by simpa using Wj
 intro g w tmps hinv hh he hn;refine eH.Am λt=>?_
 have Q7:Region.schedule (P.follows .mixedOrders) l.toArray t=Region.linearise .any l.toArray t:=by simp [Region.schedule,hm]
 rw [Q7];have hb:Below w.heap.size w { w with drawn:=w.drawn+1 }:=(Below.refl _ w).drew;obtain ⟨dY,mA⟩:=hinv.grow (g':=g) hb (λ_ _=>rfl) rfl rfl;unfold Region.linearise;refine Kz (p:=p) (xs:=xs) F hp Vl ?_ ?_ ?_ ?_ pK Ct p _ t _ g _ tmps st (by
  have:(λi=>(Array.replicate l.toArray.size false).getD i false)=λ_=>false:=by
   funext i;simp [zas,Array.getElem?_replicate];split <;> rfl
  rw [this];exact hF0) (by simp) ?_ ?_ ?_ ?_ dY (hh.step mA) hn λs=>⟨λj x hj yW=>?_,λ_ y hy=>?_⟩
 ·intro i j t hi hj N0 ZB uR;have:=cP (cP YS hi) hj;simp [N0,ZB,uR] at this
 ·intro i o hi ho t ht j hj mK uR;have h1:=cP TC hi;rw [ho] at h1;simp only [zaz] at h1;have h2:=cP (h1 t ht) hj;simp only [uR,zek,zdl,zbx,zaq,zaj,zeo] at h2;rcases h2 with (h2|h2)|h2
  ·exact absurd h2.symm mK
  ·exact .inl h2
  ·exact .inr h2
 ·intro i hi oM j hj;have h1:=cP YT oM;simp only [zbx,zaj] at h1;rcases h1 with h1|h1
  ·omega
  ·exact cP h1 hj
 ·intro i o ho e A1 jZ;have oM:=(zad.1 ho).1;have h1:=cP YU oM;rw [ho] at h1;simp only [zaz] at h1;have:=h1 e (by simpa using A1);simpa [jZ] using this
 ·intro i o ho QZ;simp [zas,Array.getElem?_replicate] at QZ;split at QZ <;> simp_all
 ·intro i hi oM;simp [zas,Array.getElem?_replicate,oM]
 ·have:((List.range p).filter λi=>!(Array.replicate l.toArray.size false).getD i true)=List.range p:=by
   rw [zdt];intro i hi;have hi':=List.mem_range.1 hi;have:i<l.length:=by omega
   simp [zas,Array.getElem?_replicate,this]
  rw [this];simp
 ·simp;omega
 ·simp [zas,Array.getElem?_replicate] at yW;split at yW <;> simp_all
 ·exact (he.mono mA.dB) s y hy
end drawn
structure vP (P:Program) (key:TypeId) (κ:Type) [BEq κ] [LawfulBEq κ] where
 ke:κ->Value
 find:∀ {α:Type} (k:κ) (l:List (κ×α)) (ms:List MapEntry) (w:World),ms.map (·.key)=l.map (λp=>ke p.1) ->
  (Instr.findKey key (ke k) ms).run P w=.ok ((eb l k).bind λj=>(ms[j]?).map λm=>(j,m.val)) w
 bits:∀ a,Instr.sameBits 10000 (ke a) (ke a)=true
 check:∀ a b w,(Instr.checkKey b 10000 key (ke a)).run P w=.ok () w
def Bn.toF {P:Program} {key:TypeId} {κ:Type} [BEq κ] [LawfulBEq κ] (K:Bn P key κ):vP P key κ where
 ke:=K.ke
 find k l ms w h:=Kp K k h w
 bits:=K.bits
 check:=K.check
def gL {P:Program} {key:TypeId} (h:P.underlying key=some (.int .i64)):vP P key Int:=(T4 h).toF
def KA {P:Program} {key:TypeId} (h:P.underlying key=some .string):vP P key (List UInt8):=(strKeys h).toF
theorem fx {lim:Nat->Nat} {w:World} {u v:Value} (h:dA lim w (.ex u) v):v=u:=by cases h;rfl
def ZK {P:Program} {key:TypeId} {κ:Type} [BEq κ] [LawfulBEq κ] (ke:κ->Value) {kd:TypeDesc} (hu:P.underlying key=some kd)
  (hnow:∀ a b,Instr.sameNow kd (ke a) (ke b)=none) (heq:∀ a b w,(Op.equal key (ke a) (ke b)).run P w=.ok (a==b) w)
  (Ri:∀ a,Instr.sameBits 10000 (ke a) (ke a)=true) (WG:∀ a b w,(Instr.checkKey b 10000 key (ke a)).run P w=.ok () w):vP P key κ where
 ke:=ke
 find:=by
  intro α k l ms w h;have ask:∀ (l:List (κ×α)) (ms:List MapEntry) (i:Nat),ms.map (·.key)=l.map (λp=>ke p.1) ->
    (Instr.findAsking key (ke k) ms i).run P w=.ok ((eb l k).bind λj=>(ms[j]?).map λm=>(i+j,m.val)) w:=by
   intro l
   induction l with
   | nil =>
    intro ms i h;have:ms=[]:=by simpa using h
    subst this;simp [Instr.findAsking,eb]
   | cons p l ih =>
    intro ms i h;cases ms with
    | nil=>simp at h
    | cons m ms =>
     simp only [zap,List.cons.injEq] at h;have h2:=ih ms (i+1) h.2;unfold Instr.findAsking;rw [h.1];simp only [Sem.run_bind,heq,Result.andThen_ok];by_cases hk:k==p.1
     ·simp [hk,eb,List.findIdx?_cons]
     ·have TU:(k==p.1)=false:=by simpa using hk
      simp only [TU,zay,zbs,h2];unfold eb;rw [List.findIdx?_cons,TU];simp only [zay,zbs];cases List.findIdx? (λp=>k==p.1) l with
      | none=>rfl
      | some j =>
       simp only [zac,Option.map_some,List.getElem?_cons_succ];congr 2;funext m;congr 1;omega
  have hf:∀ (ms:List MapEntry) (l:List (κ×α)),ms.map (·.key)=l.map (λp=>ke p.1)->Instr.findNow kd (ke k) ms 0=none∨ms=[]:=by
   intro ms l h;cases ms with
   | nil=>exact .inr rfl
   | cons m ms =>
    cases l with
    | nil=>simp at h
    | cons p l =>
     simp only [zap,List.cons.injEq] at h;left;unfold Instr.findNow;rw [h.1,hnow]
  rcases hf ms l h with h0|h0
  ·simp only [Instr.findKey,Sem.run_bind,run_underlying hu,Result.andThen_ok,h0];have:=ask l ms 0 h;simpa using this
  ·subst h0;have:l=[]:=by simpa using h.symm
   subst this;simp [Instr.findKey,run_underlying hu,Instr.findNow,eb]
 bits:=Ri
 check:=WG
def ml {κ:Type} (ke:κ->Value) (l:List (κ×EV)):List (Value×EV):=l.map λp=>(ke p.1,p.2)
def Rj {κ α:Type} (val:α->D) (l:List (κ×α)):List (κ×EV):=l.map λp=>(p.1,.d (val p.2))
theorem En {κ α:Type} {ke:κ->Value} {val:α->D} {l:List (κ×α)}:kt ke val l=ml ke (Rj val l):=by
 simp [kt,ml,Rj]
section alist
variable {κ α β:Type} [BEq κ] [LawfulBEq κ]
def fz (l:List (κ×α)) (k:κ):List (κ×α):=match eb l k with
 | some j=>l.eraseIdx j
 | none=>l
theorem Hu (f:α->β) (l:List (κ×α)) (k:κ):eb (l.map λp=>(p.1,f p.2)) k=eb l k:=by
 unfold eb;rw [List.findIdx?_map];rfl
theorem Py (f:α->β) (l:List (κ×α)) (k:κ):aC (l.map λp=>(p.1,f p.2)) k=(aC l k).map f:=by
 rw [nf,nf,Hu];cases eb l k with
 | none=>rfl
 | some j=>simp only [zac,zbe];cases l[j]? <;> rfl
theorem Rk (f:α->β) (l:List (κ×α)) (k:κ) (a:α):c8 (l.map λp=>(p.1,f p.2)) k (f a)=(c8 l k a).map λp=>(p.1,f p.2):=by
 unfold c8;rw [Hu];cases eb l k with
 | none=>simp
 | some j=>simp [List.map_set]
theorem MI {l:List (κ×α)} {k:κ} (h:k ∉ l.map (·.1)):aC l k=none:=by
 unfold aC;rw [List.find?_eq_none.2]
 ·rfl
 ·intro p hp he;exact h (eq_of_beq he▸zci (f:=(·.1)) hp)
end alist
section inv
variable {P:Program} {base:Nat} {g:b7} {w:World} {st:St}
theorem Inv.MJ (hinv:Inv g base w st) {o:Nat} {es es':List (Value×EV)} (ho:st.aQ[o]?=some (.map es)) {ms':Array MapEntry} {clock':Nat} (k1:ms'.size=es'.length)
  (k2:∀ (i:Nat) k x (m:MapEntry),es'[i]?=some (k,x)->ms'[i]?=some m->m.key=k/\bK g w st x m.val)
  (k3:∀ (i:Nat) (m:MapEntry),ms'[i]?=some m->m.born<clock') (k4:∀ (i j:Nat) (m m':MapEntry),ms'[i]?=some m->ms'[j]?=some m'->m.born=m'.born->i=j) :
  Inv g base { w with heap:=w.heap.setIfInBounds (g.ob o) (.map ms' clock') } (st.set o (.map es'))/\Step base g w st g { w with heap:=w.heap.setIfInBounds (g.ob o) (.map ms' clock') } (st.set o (.map es')):=by
 obtain ⟨kW,ms,clock,hb,hl,mY,Bp,Dt⟩:=hinv.map o _ ho;have hblk:g.ob o<w.heap.size:=(zau.1 hb).1;have yd:∀ ob:Obj,({ w with heap:=w.heap.setIfInBounds (g.ob o) ob }:World).heap.size=w.heap.size:=λob=>by simp
 have uD:∀ ob:Obj,∀ b,b≠g.ob o->({ w with heap:=w.heap.setIfInBounds (g.ob o) ob }:World).heap[b]?=w.heap[b]?:=λob b jZ=>by simp [zcj,zcn jZ]
 have mZ:∀ ob:Obj,({ w with heap:=w.heap.setIfInBounds (g.ob o) ob }:World).heap[g.ob o]?=some ob:=λob=>by simp [hblk]
 have hnoc:∀ off,w.cell? ⟨g.ob o,off,none⟩=none:=λoff=>by simp [World.cell?,hb]
 have Be:Mj g.lim w g.lim { w with heap:=w.heap.setIfInBounds (g.ob o) (.map ms' clock') }:=by
  refine ⟨by rw [yd];exact zar _,λ_ _=>zar _,λb off jZ mX=>?_⟩
  by_cases hbo:b=g.ob o
  ·subst hbo;rw [hnoc];simp [World.cell?,hblk]
  ·exact World.cell?_of_block (w:=w) (a:=⟨b,off,none⟩) (uD _ b hbo)
 have oN:st.live o:=⟨_,ho,by simp⟩;have V7:o<st.aQ.length:=(zad.1 ho).1;have hs:u9 g w st g { w with heap:=w.heap.setIfInBounds (g.ob o) (.map ms' clock') } (st.set o (.map es')) :=
  ⟨Be,λ_ _=>rfl,by simp [St.set],λt e sz n ht=>⟨n,ht,zar _,λ_=>rfl⟩,zar _,vD λ_ _ _ _ h _=>⟨h,rfl⟩⟩
 have iD:∀ o' y,o'≠o->(st.set o (.map es')).aQ[o']?=some y->st.aQ[o']?=some y:=by
  intro o' y fi JX;simpa [St.set,zbl,zcn fi] using JX
 have TA:∀ o' y,(st.set o (.map es')).aQ[o']?=some (.raw y)->base<=g.ob o'/\g.lim (g.ob o')=0/\(w.heap.setIfInBounds (g.ob o) (.map ms' clock'))[g.ob o']?=some y:=by
  intro o' y kq;have fi:o'≠o:=by
   rintro rfl;simp [St.set,V7] at kq
  have JX:=iD o' _ fi kq;obtain ⟨h1,h2,h3⟩:=hinv.raw o' y JX;have pU:=hinv.ne o' o fi ⟨_,JX,by simp⟩ oN;exact ⟨h1,h2,by rw [uD _ _ pU];exact h3⟩
 refine ⟨⟨by rw [yd];exact hinv.base,?_,?_,TA,?_,?_,hinv.oH,?_,hinv.DO.below ⟨rfl,rfl,rfl,by rw [yd];exact zar _,λb jZ=>uD _ b (by omega)⟩,?_⟩,⟨hs,⟨rfl,rfl,rfl,by rw [yd];exact zar _,λb jZ=>uD _ b (by omega)⟩,λ_ _=>rfl,
   λb _ hn=>⟨uD _ b (λe=>hn (.inl ⟨o,oN,e.symm⟩)),rfl⟩,λb _ hw=>hw.elim (λ⟨o',a1,a2⟩=>.inl ⟨o',rY oN a1,a2⟩) .inr⟩⟩
 ·intro o' My cs kq;have fi:o'≠o:=by
   rintro rfl;simp [St.set,V7] at kq
  have JX:=iD o' _ fi kq;obtain ⟨h1,h2,vs,h3,h4,h5⟩:=hinv.row o' My cs JX;have pU:=hinv.ne o' o fi ⟨_,JX,by simp⟩ oN;exact ⟨h1,h2,vs,by rw [uD _ _ pU];exact h3,h4,λi c u hc hu=>⟨(h5 i c u hc hu).1.mono hs,(h5 i c u hc hu).2⟩⟩
 ·intro o' es2 kq;by_cases fi:o'=o
  ·subst fi;have hes:es'=es2:=by simpa [St.set,V7] using kq
   subst hes;exact ⟨kW,ms',clock',mZ _,k1,λi kk yy m uH Ua=>⟨(k2 i kk yy m uH Ua).1,(k2 i kk yy m uH Ua).2.mono hs⟩,k3,k4⟩
  ·have JX:=iD o' _ fi kq;obtain ⟨h1,ms2,c2,h3,h4,h5,h6⟩:=hinv.map o' es2 JX;have pU:=hinv.ne o' o fi ⟨_,JX,by simp⟩ oN;exact ⟨h1,ms2,c2,by rw [uD _ _ pU];exact h3,h4,λi kk yy m a b=>⟨(h5 i kk yy m a b).1,(h5 i kk yy m a b).2.mono hs⟩,h6⟩
 ·exact λo1 o2 fi h1 h2=>hinv.ne o1 o2 fi (rY oN h1) (rY oN h2)
 ·intro t' e' J0 n' tJ;obtain ⟨xs,h1,h2⟩:=hinv.tail t' e' J0 n' tJ;exact ⟨xs,fv h1 λb jZ=>uD _ b λe=>hinv.iT t' _ o tJ oN (by rw [jZ,e]),h2⟩
 ·exact λt' x' o' tJ Tz=>hinv.iT t' x' o' tJ (rY oN Tz)
 ·intro t' e' J0 n' rows tJ;obtain ⟨xs,h1,h2,h3⟩:=hinv.own t' e' J0 n' rows tJ;exact ⟨xs,fv h1 λb jZ=>uD _ b λe=>hinv.iT t' _ o tJ oN (by rw [jZ,e]),h2,h3.mono Be⟩
end inv
section rules
variable {P:Program} {base:Nat} {env:Env} {st:St} {d:Option Tmp} {ty:TypeId} {pos:String} {after:Array Edge} {gd:Option (Nat×Bool)} {t t2 e key:TypeId} {x y z:Operand}
 {κ α:Type} [BEq κ] [LawfulBEq κ]
theorem Hv {g:b7} {w:World} {st:St} {l:List (κ×EV)} {ke:κ->Value} {ms:Array MapEntry} (hl:ms.size=(ml ke l).length)
  (h:∀ (i:Nat) k x (m:MapEntry),(ml ke l)[i]?=some (k,x)->ms[i]?=some m->m.key=k/\bK g w st x m.val):ms.toList.map (·.key)=l.map λp=>ke p.1:=by
 apply zcm;intro i;rw [zbe,zbe];have hlen:ms.size=l.length:=by simpa [ml] using hl
 by_cases hi:i<l.length
 ·have h1:ms[i]?=some (ms[i]'(by omega)):=zbi (by omega);have h2:l[i]?=some l[i]:=zaf hi;have h3:=(h i (ke l[i].1) l[i].2 _ (by simp [ml,h2]) h1).1;rw [h2,zcl,h1];simp [h3]
 ·rw [zbp (by simp;omega),zbp (by omega)];rfl
theorem yj (K:vP P key κ) {o:Nat} {l:List (κ×EV)} {k:κ} {dk:D} {inf:TypeInfo} {zv:Value} {c:Bool} (ht:P.underlying t=some (.map key e)) (hi:P.info? e=some inf) (hz:inf.zero=some zv)
  (hx:cX env x=some (.mp o)) (ho:st.aQ[o]?=some (.map (ml K.ke l))) (hy:cX env y=some (.d dk)) (hk:∀ lim w v,dA lim w dk v->v=K.ke k)
  {g:b7} {w:World} {tmps:Array Value} (hinv:Inv g base w st) (he:dV g w st env tmps) :
  ∃ v,(match aC l k with|some x=>bK g w st x v|none=>v=zv) /\
   ∀ w',Below w.heap.size w w'->(execOp (Act.eval ⟨tmps,[]⟩) ⟨d,.lookup t x y c,ty,pos,after,gd⟩).run P w'=.ok (.value (if c=true then .tuple #[v,.bool (aC l k).isSome] else v)) w':=by
 have Bg:=aP he hx;generalize hv:Act.eval ⟨tmps,[]⟩ x=v at Bg;have Ra:Act.eval ⟨tmps,[]⟩ y=K.ke k:=by
  have:=aP he hy;cases this with|d _ _ h=>exact hk _ _ _ h
 cases Bg with
 | mp _ cJ =>
  obtain ⟨_,ms,clock,hb,hl,mY,_⟩:=hinv.map o _ ho;have Du:=Hv hl mY;have hblk:g.ob o<w.heap.size:=(zau.1 hb).1;rw [nf];cases hf:eb l k with
  | none =>
   refine ⟨zv,rfl,λw' jZ=>?_⟩;have Ho:w'.heap[g.ob o]?=some (.map ms clock):=(jZ.block _ hblk).trans hb;have Hw:=K.find k l ms.toList w' Du;rw [hf] at Hw;simp [execOp,hv,Ra,Instr.lookup,run_underlying ht,getObj,Sem.run,Ho,K.check,Hw,tL hi hz]
  | some j =>
   have hj:=yf hf;have hlen:ms.size=l.length:=by simpa [ml] using hl
   have h1:ms[j]?=some (ms[j]'(by omega)):=zbi (by omega);have h2:l[j]?=some l[j]:=zaf hj;have h3:=(mY j (K.ke l[j].1) l[j].2 _ (by simp [ml,h2]) h1).2;simp only [zac,h2,Option.map_some,Option.isSome_some];refine ⟨(ms[j]'(by omega)).val,h3,λw' jZ=>?_⟩;have Ho:w'.heap[g.ob o]?=some (.map ms clock):=(jZ.block _ hblk).trans hb;have Hw:=K.find k l ms.toList w' Du;rw [hf] at Hw;have Mk:ms.toList[j]?=some (ms[j]'(by omega)):=by rw [zcl];exact h1
   simp only [zac,Mk,Option.map_some] at Hw;simp [execOp,hv,Ra,Instr.lookup,run_underlying ht,getObj,Sem.run,Ho,K.check,Hw]
theorem KB {g:b7} {w:World} {st:St} {u:Value} {b:Bool} {c:D} (h:bK g w st (.d c) u):bK g w st (.d (.eF [c,.ex (.bool b)])) (.tuple #[u,.bool b]):=by
 have h':dA g.lim w c u:=by cases h with|d _ _ h=>exact h
 refine .d _ _ (.eF _ _ rfl ?_);intro i c' u' hc hu
 match i with
 | 0=>simp at hc hu;subst hc;subst hu;exact h'
 | 1=>simp at hc hu;subst hc;subst hu;exact .ex _
 | n+2=>simp at hc
theorem Ff {val:α->D} {l:List (κ×α)} {k:κ}:aC (Rj val l) k=(aC l k).map λa=>.d (val a):=Py (λa=>EV.d (val a)) l k
theorem fK (K:vP P key κ) {o:Nat} {l:List (κ×α)} {val:α->D} {k:κ} {dk:D} {inf:TypeInfo} {zv:Value} {a0:α} (ht:P.underlying t=some (.map key e)) (hi:P.info? e=some inf) (hz:inf.zero=some zv) (YY:uB (cv zv) (val a0))
  (hx:cX env x=some (.mp o)) (ho:st.aQ[o]?=some (.map (kt K.ke val l))) (hy:cX env y=some (.d dk)) (hk:∀ lim w v,dA lim w dk v->v=K.ke k) :
  aL P env st ⟨d,.lookup t x y false,ty,pos,after,gd⟩ (.d (val ((aC l k).getD a0))):=by
 intro g base w tmps hinv he;rw [En] at ho;obtain ⟨v,h1,h2⟩:=yj (c:=false) (d:=d) (ty:=ty) (pos:=pos) (after:=after) (gd:=gd) K ht hi hz hx ho hy hk hinv he;rw [Ff] at h1;refine ⟨v,?_,λw' hb=>by simpa using h2 w' hb⟩;cases hl:aC l k with
 | none=>rw [hl] at h1;simp only [Option.map_none] at h1;subst h1;exact .d _ _ (YY _ _ _ (qO g.lim w v))
 | some a=>rw [hl] at h1;exact h1
theorem lV (K:vP P key κ) {o:Nat} {l:List (κ×α)} {val:α->D} {k:κ} {dk:D} {inf:TypeInfo} {zv:Value} {a0:α} (ht:P.underlying t=some (.map key e)) (hi:P.info? e=some inf) (hz:inf.zero=some zv) (YY:uB (cv zv) (val a0))
  (hx:cX env x=some (.mp o)) (ho:st.aQ[o]?=some (.map (kt K.ke val l))) (hy:cX env y=some (.d dk)) (hk:∀ lim w v,dA lim w dk v->v=K.ke k) :
  aL P env st ⟨d,.lookup t x y true,ty,pos,after,gd⟩ (.d (.eF [val ((aC l k).getD a0),.ex (.bool (aC l k).isSome)])):=by
 intro g base w tmps hinv he;rw [En] at ho;obtain ⟨v,h1,h2⟩:=yj (c:=true) (d:=d) (ty:=ty) (pos:=pos) (after:=after) (gd:=gd) K ht hi hz hx ho hy hk hinv he;rw [Ff] at h1 h2;refine ⟨_,?_,h2⟩;rw [zaa rfl];cases hl:aC l k with
 | none=>rw [hl] at h1;simp only [Option.map_none] at h1;subst h1;exact KB (.d _ _ (YY _ _ _ (qO g.lim w v)))
 | some a=>rw [hl] at h1;exact KB h1
theorem Dv (K:vP P key κ) {o:Nat} {l:List (κ×EV)} {k:κ} {dk:D} {ev:EV} (ht:P.underlying t=some (.map key e)) (hx:cX env x=some (.mp o)) (ho:st.aQ[o]?=some (.map (ml K.ke l)))
  (hy:cX env y=some (.d dk)) (hk:∀ lim w v,dA lim w dk v->v=K.ke k) {g:b7} {w:World} {tmps:Array Value} (hinv:Inv g base w st) (he:dV g w st env tmps) (hz:bK g w st ev (Act.eval ⟨tmps,[]⟩ z)) :
  ∃ w',(Instr.mapUpdate t (Act.eval ⟨tmps,[]⟩ x) (Act.eval ⟨tmps,[]⟩ y) (Act.eval ⟨tmps,[]⟩ z)).run P w=.ok () w'/\Inv g base w' (st.set o (.map (ml K.ke (c8 l k ev))))/\Step base g w st g w' (st.set o (.map (ml K.ke (c8 l k ev)))):=by
 have Bg:=aP he hx;generalize hv:Act.eval ⟨tmps,[]⟩ x=v at Bg;have Ra:Act.eval ⟨tmps,[]⟩ y=K.ke k:=by
  have:=aP he hy;cases this with|d _ _ h=>exact hk _ _ _ h
 generalize hu:Act.eval ⟨tmps,[]⟩ z=u at hz;cases Bg with
 | mp _ cJ =>
  obtain ⟨kW,ms,clock,hb,hl,mY,Bp,Dt⟩:=hinv.map o _ ho;have Du:=Hv hl mY;have hblk:g.ob o<w.heap.size:=(zau.1 hb).1;have hlen:ms.size=l.length:=by simpa [ml] using hl
  have Hw:=K.find k l ms.toList w Du;have fin:∀ (ms':Array MapEntry) (clock':Nat),ms'.size=(c8 l k ev).length ->
    (∀ (i:Nat) (p:κ×EV) (m:MapEntry),(c8 l k ev)[i]?=some p->ms'[i]?=some m->m.key=K.ke p.1/\bK g w st p.2 m.val) ->
    (∀ (i:Nat) (m:MapEntry),ms'[i]?=some m->m.born<clock')->(∀ (i j:Nat) (m m':MapEntry),ms'[i]?=some m->ms'[j]?=some m'->m.born=m'.born->i=j) ->
    (Instr.mapUpdate t (.map (some (g.ob o))) (K.ke k) u).run P w=.ok () { w with heap:=w.heap.setIfInBounds (g.ob o) (.map ms' clock') } ->
    ∃ w',(Instr.mapUpdate t (.map (some (g.ob o))) (Act.eval ⟨tmps,[]⟩ y) u).run P w=.ok () w'/\Inv g base w' (st.set o (.map (ml K.ke (c8 l k ev))))/\Step base g w st g w' (st.set o (.map (ml K.ke (c8 l k ev)))):=by
   intro ms' clock' k1 k2 k3 k4 k5;obtain ⟨q1,q2⟩:=hinv.MJ (es':=ml K.ke (c8 l k ev)) ho (ms':=ms') (clock':=clock') (by simpa [ml] using k1) (λi kk yy m uH Ua=>by
    simp only [ml,zbe] at uH;cases hp:(c8 l k ev)[i]? with
    | none=>rw [hp] at uH;cases uH
    | some p=>rw [hp] at uH;cases uH;exact k2 i p m hp Ua) k3 k4
   exact ⟨_,by rw [Ra];exact k5,q1,q2⟩
  cases hf:eb l k with
  | none =>
   rw [hf] at Hw;simp only [Option.bind_none] at Hw;have KC:c8 l k ev=l++[(k,ev)]:=by unfold c8;rw [hf]
   refine fin (ms.push ⟨K.ke k,u,clock⟩) (clock+1) (by simp [KC,hlen]) ?_ ?_ ?_ ?_
   ·intro i p m hp hm;rw [KC] at hp;by_cases hi:i<l.length
    ·rw [zao hi] at hp;rw [zdq (by omega)] at hm;exact mY i (K.ke p.1) p.2 m (by simp [ml,hp]) (by rw [zbi (by omega)];exact hm)
    ·have hi':i=l.length:=by
      have:=(zad.1 hp).1;simp at this;omega
     subst hi';simp at hp;subst hp;rw [←hlen] at hm;simp at hm;subst hm;exact ⟨rfl,hz⟩
   ·intro i m hm;by_cases hi:i<ms.size
    ·rw [zdq hi] at hm;have:=Bp i m (by rw [zbi hi];exact hm);omega
    ·have j0:=(zau.1 hm).1;simp at j0;have:i=ms.size:=by omega
     subst this;simp at hm;subst hm;exact zfu _
   ·intro i j m m' hm uE zX;have get:∀ (i:Nat) m,(ms.push ⟨K.ke k,u,clock⟩)[i]?=some m->(i<ms.size/\ms[i]?=some m)∨(i=ms.size/\m.born=clock):=by
     intro i m hm;by_cases hi:i<ms.size
     ·rw [zdq hi] at hm;exact .inl ⟨hi,by rw [zbi hi];exact hm⟩
     ·have j0:=(zau.1 hm).1;simp at j0;have:i=ms.size:=by omega
      subst this;simp at hm;subst hm;exact .inr ⟨rfl,rfl⟩
    rcases get i m hm with ⟨h1,h2⟩|⟨h1,h2⟩ <;> rcases get j m' uE with ⟨h3,h4⟩|⟨h3,h4⟩
    ·exact Dt i j m m' h2 h4 zX
    ·have:=Bp i m h2;omega
    ·have:=Bp j m' h4;omega
    ·omega
   ·simp [Instr.mapUpdate,run_underlying ht,getObj,setObj,Sem.run,hb,K.check,Hw]
  | some j =>
   have hj:=yf hf;have KC:c8 l k ev=l.set j (k,ev):=by unfold c8;rw [hf]
   have yW:(k==l[j].1)=true:=by
    unfold eb at hf;rw [List.findIdx?_eq_some_iff_getElem] at hf;exact hf.2.1
   have hkj:k=l[j].1:=eq_of_beq yW;have h1:ms[j]?=some (ms[j]'(by omega)):=zbi (by omega);have Mk:ms.toList[j]?=some (ms[j]'(by omega)):=by rw [zcl];exact h1
   rw [hf] at Hw;simp only [zac,Mk,Option.map_some] at Hw;have hkey:(ms[j]'(by omega)).key=K.ke k:=by
    have:=(mY j (K.ke l[j].1) l[j].2 _ (by simp [ml,zaf hj]) h1).1;rw [this,hkj]
   have yc:∀ (i:Nat) m,(ms.modify j λe=>{ e with key:=K.ke k,val:=u })[i]?=some m->(i=j/\m={ (ms[j]'(by omega)) with key:=K.ke k,val:=u })∨(i≠j/\ms[i]?=some m):=by
    intro i m hm;rw [zfx] at hm;by_cases N0:j=i
    ·subst N0;rw [zaa rfl,h1] at hm;cases hm;exact .inl ⟨rfl,rfl⟩
    ·rw [zab N0] at hm;exact .inr ⟨zcn N0,hm⟩
   refine fin (ms.modify j λe=>{ e with key:=K.ke k,val:=u }) clock (by simp [KC,hlen]) ?_ ?_ ?_ ?_
   ·intro i p m hp hm;rw [KC,zbl] at hp;rcases yc i m hm with ⟨rfl,rfl⟩|⟨fi,uE⟩
    ·rw [zaa rfl] at hp;simp [hj] at hp;subst hp;exact ⟨rfl,hz⟩
    ·rw [zab (zcn fi)] at hp;exact mY i (K.ke p.1) p.2 m (by simp [ml,hp]) uE
   ·intro i m hm;rcases yc i m hm with ⟨rfl,rfl⟩|⟨fi,uE⟩
    ·exact Bp _ (ms[i]'(by omega)) h1
    ·exact Bp _ _ uE
   ·intro i i' m m' hm uE zX;rcases yc i m hm with ⟨rfl,rfl⟩|⟨fi,h2⟩ <;> rcases yc i' m' uE with ⟨rfl,rfl⟩|⟨pU,Hl⟩
    ·rfl
    ·exact Dt _ _ (ms[i]'(by omega)) _ h1 Hl zX
    ·exact Dt _ _ _ (ms[i']'(by omega)) h2 h1 zX
    ·exact Dt _ _ _ _ h2 Hl zX
   ·have Ri:Instr.sameBits 10000 (K.ke k) (K.ke k)=true:=K.bits k;simp [Instr.mapUpdate,run_underlying ht,getObj,setObj,Sem.run,hb,K.check,Hw,Instr.keyThatStays,h1,hkey,Ri]
theorem IJ (K:vP P key κ) {o:Nat} {l:List (κ×EV)} {k:κ} {dk:D} {ev:EV} (ht:P.underlying t=some (.map key e)) (hx:cX env x=some (.mp o)) (ho:st.aQ[o]?=some (.map (ml K.ke l)))
  (hy:cX env y=some (.d dk)) (hk:∀ lim w v,dA lim w dk v->v=K.ke k) (hz:cX env z=some ev) :
  Im P base env st ⟨d,.mapUpdate t x y z,ty,pos,after,gd⟩ (st.set o (.map (ml K.ke (c8 l k ev)))):=by
 intro g w tmps hinv he;obtain ⟨w',h1,h2,h3⟩:=Dv (z:=z) K ht hx ho hy hk hinv he (aP he hz);exact ⟨g,w',by simp [execOp,h1],h2,h3⟩
theorem dC (K:vP P key κ) {o:Nat} {l:List (κ×α)} {val:α->D} {k:κ} {dk:D} {a:α} {ev:EV} (ht:P.underlying t=some (.map key e)) (hx:cX env x=some (.mp o)) (ho:st.aQ[o]?=some (.map (kt K.ke val l)))
  (hy:cX env y=some (.d dk)) (hk:∀ lim w v,dA lim w dk v->v=K.ke k) (hz:cX env z=some ev) (hle:eG ev (.d (val a))) :
  Im P base env st ⟨d,.mapUpdate t x y z,ty,pos,after,gd⟩ (st.set o (.map (kt K.ke val (c8 l k a)))):=by
 intro g w tmps hinv he;rw [En] at ho;obtain ⟨w',h1,h2,h3⟩:=Dv (z:=z) K ht hx ho hy hk hinv he (hle _ _ _ _ (aP he hz));have hs:ml K.ke (c8 (Rj val l) k (.d (val a)))=kt K.ke val (c8 l k a):=by
  rw [En];unfold Rj;rw [Rk (λa=>EV.d (val a))]
 rw [hs] at h2 h3;exact ⟨g,w',by simp [execOp,h1],h2,h3⟩
theorem Cz (K:vP P key κ) {o:Nat} {l:List (κ×α)} {val:α->D} {k:κ} {dk:D} (ht:P.underlying t=some (.map key e)) (hx:cX env x=some (.mp o)) (ho:st.aQ[o]?=some (.map (kt K.ke val l)))
  (hy:cX env y=some (.d dk)) (hk:∀ lim w v,dA lim w dk v->v=K.ke k) :
  xY P base env st ⟨d,.call ⟨.builtin .delete,#[x,y],#[t,t2]⟩,ty,pos,after,gd⟩ (.d (.eF [])) (st.set o (.map (kt K.ke val (fz l k)))):=by
 intro g w tmps hinv he;have Bg:=aP he hx;generalize hv:Act.eval ⟨tmps,[]⟩ x=v at Bg;have Ra:Act.eval ⟨tmps,[]⟩ y=K.ke k:=by
  have:=aP he hy;cases this with|d _ _ h=>exact hk _ _ _ h
 cases Bg with
 | mp _ cJ =>
  obtain ⟨kW,ms,clock,hb,hl,mY,Bp,Dt⟩:=hinv.map o _ ho;have Du:=Q9 hl mY;have hblk:g.ob o<w.heap.size:=(zau.1 hb).1;have hlen:ms.size=l.length:=by simpa [kt] using hl
  have Hw:=K.find k l ms.toList w Du;have fin:∀ (ms':Array MapEntry),ms'.size=(fz l k).length ->
    (∀ (i:Nat) (p:κ×α) (m:MapEntry),(fz l k)[i]?=some p->ms'[i]?=some m->m.key=K.ke p.1/\bK g w st (.d (val p.2)) m.val) ->
    (∀ (i:Nat) (m:MapEntry),ms'[i]?=some m->m.born<clock)->(∀ (i j:Nat) (m m':MapEntry),ms'[i]?=some m->ms'[j]?=some m'->m.born=m'.born->i=j) ->
    (execOp (Act.eval ⟨tmps,[]⟩) ⟨d,.call ⟨.builtin .delete,#[x,y],#[t,t2]⟩,ty,pos,after,gd⟩).run P w=.ok (.value (.tuple #[])) { w with heap:=w.heap.setIfInBounds (g.ob o) (.map ms' clock) } ->
    ∃ v g' w',(execOp (Act.eval ⟨tmps,[]⟩) ⟨d,.call ⟨.builtin .delete,#[x,y],#[t,t2]⟩,ty,pos,after,gd⟩).run P w=.ok (.value v) w'/\bK g' w' (st.set o (.map (kt K.ke val (fz l k)))) (.d (.eF [])) v/\Inv g' base w' (st.set o (.map (kt K.ke val (fz l k))))/\Step base g w st g' w' (st.set o (.map (kt K.ke val (fz l k)))):=by
   intro ms' k1 k2 k3 k4 k5;obtain ⟨q1,q2⟩:=hinv.MJ (es':=kt K.ke val (fz l k)) ho (ms':=ms') (clock':=clock) (by simpa [kt] using k1) (λi kk yy m uH Ua=>by
    simp only [kt,zbe] at uH;cases hp:(fz l k)[i]? with
    | none=>rw [hp] at uH;cases uH
    | some p=>rw [hp] at uH;cases uH;exact k2 i p m hp Ua) k3 k4
   exact ⟨_,g,_,k5,.d _ _ (.eF _ _ rfl (λi c u h=>by simp at h)),q1,q2⟩
  cases hf:eb l k with
  | none =>
   rw [hf] at Hw;simp only [Option.bind_none] at Hw;have ZL:fz l k=l:=by unfold fz;rw [hf]
   refine fin ms (by rw [ZL,hlen]) (λi p m hp hm=>?_) Bp Dt ?_
   ·rw [ZL] at hp;exact mY i (K.ke p.1) (.d (val p.2)) m (by simp [kt,hp]) hm
   ·simp [execOp,resolve,invoke,builtin,hv,Ra,Builtin.delete_,run_underlying ht,getObj,setObj,Sem.run,hb,K.check,Hw]
  | some j =>
   have hj:=yf hf;have ZL:fz l k=l.eraseIdx j:=by unfold fz;rw [hf]
   have h1:ms[j]?=some (ms[j]'(by omega)):=zbi (by omega);have Mk:ms.toList[j]?=some (ms[j]'(by omega)):=by rw [zcl];exact h1
   rw [hf] at Hw;simp only [zac,Mk,Option.map_some] at Hw;have hms:ms.eraseIdxIfInBounds j=(ms.toList.eraseIdx j).toArray:=by
    apply Array.toList_inj.1;unfold Array.eraseIdxIfInBounds;rw [dif_pos (by omega)];simp
   have wL:∀ (i:Nat) m,(ms.eraseIdxIfInBounds j)[i]?=some m->ms[if i<j then i else i+1]?=some m:=by
    intro i m hm;rw [hms] at hm;simp only [List.getElem?_toArray,List.getElem?_eraseIdx,zcl] at hm;split at hm
    ·rename_i h;rw [zaa h];exact hm
    ·rename_i h;rw [zab h];exact hm
   refine fin (ms.eraseIdxIfInBounds j) ?_ (λi p m hp hm=>?_) (λi m hm=>Bp _ m (wL i m hm)) (λi i' m m' hm uE zX=>?_) ?_
   ·rw [ZL,hms];simp [List.length_eraseIdx,hlen,hj]
   ·rw [ZL,List.getElem?_eraseIdx] at hp;have uE:=wL i m hm;split at hp
    ·rename_i h;rw [zaa h] at uE;exact mY i (K.ke p.1) (.d (val p.2)) m (by simp [kt,hp]) uE
    ·rename_i h;rw [zab h] at uE;exact mY (i+1) (K.ke p.1) (.d (val p.2)) m (by simp [kt,hp]) uE
   ·have:=Dt _ _ m m' (wL i m hm) (wL i' m' uE) zX;split at this <;> split at this <;> omega
   ·simp [execOp,resolve,invoke,builtin,hv,Ra,Builtin.delete_,run_underlying ht,getObj,setObj,Sem.run,hb,K.check,Hw]
end rules
section lit
variable {P:Program} {f:Ctx} {N:Nat} {S:Start} {Q:EV->St->Prop} {k:List Item} {κ:Type} [BEq κ] [LawfulBEq κ] {key:TypeId}
theorem bt.split {todo:List Item} {env:Env} {st:St} (b:Bool) (ht:b=true->bt P f N S Q todo env st) (hf:b=false->bt P f N S Q todo env st):bt P f N S Q todo env st:=by
 cases hb:b with
 | true=>exact ht hb
 | false=>exact hf hb
def ZM (P:Program) (N:Nat) (l:List Oper) (m:Nat) (t:TypeId) (K:vP P key κ) (ins:List (Nat×κ×EV)) (st0:St) (i:Nat) (o:Oper) (env:Env) (x:EV):Prop :=
  gD N o.dst=true /\
  (((Nat.beq i m || ins.any λe=>Nat.beq e.1 i)=false/\∀ st,(st=st0∨∃ es,st=st0.add (.map es))->uQ P l env st o x) ∨
   (i=m/\o.guard=none/\x=.mp st0.aQ.length/\∃ t,o.op=.makeMap t none) ∨
   (∃ kk v dk a b c,(i,kk,v)∈ins/\x=.d .any/\o.guard=none/\o.op=.insert t a b c/\cX env a=some (.mp st0.aQ.length)/\cX env b=some (.d dk)/\(∀ lim w v,dA lim w dk v->v=K.ke kk)/\cX env c=some v /\
      ((dZ l []).getD i 0).testBit m=true))
def Rl (P:Program) (N:Nat) (l:List Oper) (m:Nat) (t:TypeId) (K:vP P key κ) (ins:List (Nat×κ×EV)) (st0:St):Nat->List Oper->List EV->Env->Prop
 | _,[],[],_=>True
 | i,o::os,x::xs,env=>ZM P N l m t K ins st0 i o (na l o env) x/\Rl P N l m t K ins st0 (i+1) os xs (env.put o.dst x)
 | _,_,_,_=>False
def Pz (P:Program) (f:Ctx) (N:Nat) (S:Start) (Q:EV->St->Prop) (l:List Oper) (p m:Nat) (t:TypeId) (K:vP P key κ) (ins:List (Nat×κ×EV)) (i:Nat) (os:List Oper) (k:List Item) (env:Env) (st:St):Prop :=
 ∃ xs,Rl P N l m t K ins st i os xs env/\∀ es,es.Perm (ins.map (·.2))->cn P f N S Q l (l.drop p) k (gG env os xs) (st.add (.map (ml K.ke es)))
variable {l:List Oper} {p m:Nat} {t:TypeId} {K:vP P key κ} {ins:List (Nat×κ×EV)} {i:Nat} {os:List Oper} {env:Env} {st:St} {d:Option Tmp} {op:Op} {ty:TypeId} {pos:String} {after:Array Edge} {x:EV}
theorem Pz.g (h:∀ s,(s=st∨∃ es,s=st.add (.map es))->A3 P (na l ⟨d,op,ty,pos,after,none⟩ env) s ⟨d,op,ty,pos,after,none⟩ x) (hb:(Nat.beq i m || ins.any λe=>Nat.beq e.1 i)=false) (hd:gD N d=true)
  (hk:Pz P f N S Q l p m t K ins (i+1) os k (env.put d x) st):Pz P f N S Q l p m t K ins i (⟨d,op,ty,pos,after,none⟩::os) k env st:=by
 obtain ⟨xs,h1,h2⟩:=hk;exact ⟨x::xs,⟨⟨hd,.inl ⟨hb,λs hs=>.inl ⟨rfl,h s hs⟩⟩⟩,h1⟩,h2⟩
theorem Pz.q (h:∀ s,(s=st∨∃ es,s=st.add (.map es))->aL P (na l ⟨d,op,ty,pos,after,none⟩ env) s ⟨d,op,ty,pos,after,none⟩ x) (hb:(Nat.beq i m || ins.any λe=>Nat.beq e.1 i)=false) (hd:gD N d=true)
  (hk:Pz P f N S Q l p m t K ins (i+1) os k (env.put d x) st):Pz P f N S Q l p m t K ins i (⟨d,op,ty,pos,after,none⟩::os) k env st:=.g (λs hs=>(h s hs).g) hb hd hk
end lit
theorem IK {lim:Nat->Nat} {w:World} {ds:List D} {vs:List Value} {v:Value} (h:dA lim w (.agg ds) v) (he:TD ds=some vs):v=.agg vs.toArray:=by
 have hm:=Iw he;subst hm;cases h with
 | agg _ us hs ho hc =>
  congr 1;apply Array.ext';apply zcm;intro i;simp only [zdc] at hs;by_cases hi:i<vs.length
  ·have h1:us[i]?=some (us[i]'(by omega)):=zbi (by omega);have h2:=hc i (.ex vs[i]) _ (by simp [hi]) h1;rw [zcl,h1,wJ h2];simp [hi]
  ·rw [zbp (by simp;omega),zbp (by simpa using hi)]
section keys
variable {P:Program}
theorem IL {k:FK} {v:Value} (h:qT k v=true) (n:Nat):Instr.sameBits n v v=true:=by
 cases v <;> cases k <;> simp [qT] at h <;> simp [Instr.sameBits] <;> (rw [beq_toListBytes];simp)
theorem zY:∀ {ks:List FK} {vs:List Value},fitAll ks vs=true->∀ n,(vs.zip vs).all (λp=>Instr.sameBits n p.1 p.2)=true
 | [],[],_,n=>rfl
 | k::ks,v::vs,h,n=>by
  simp only [fitAll,zaq] at h;simp only [List.zip_cons_cons,zei,IL h.1,zY h.2,Bool.and_self]
 | [],_::_,h,_=>by cases h
 | _::_,[],h,_=>by cases h
theorem IM {t:TypeId} {k:FK} (h:GK (P.underlying t)=some k) {v:Value} (hv:qT k v=true) (b:Bool) (n:Nat) (w:World):(Instr.checkKey b (n+1) t v).run P w=.ok () w:=by
 cases hd:P.underlying t with
 | none=>rw [hd] at h;cases h
 | some Mu =>
  rw [hd] at h;cases Mu <;> simp only [GK,Option.some.injEq,reduceCtorEq] at h <;> subst h <;> cases v <;> simp [qT] at hv <;> simp [Instr.checkKey,run_underlying hd]
theorem Dw (b:Bool) (n:Nat) (w:World) (X:Array Value):∀ (fs:List Field) (k:Nat) (ks:List FK) (vs:List Value),r7 P k fs=some ks->fitAll ks vs=true->(∀ (j:Nat) v,vs[j]?=some v->X[k+j]?=some v) ->
  (forIn fs PUnit.unit (λf _=>do
   if f.name ≠ "_" then do
    Instr.checkKey b (n+1) f.type (←part f.type X f.offset)
    pure (.yield PUnit.unit)
   else pure (.yield PUnit.unit)):Sem PUnit).run P w=.ok PUnit.unit w
 | [],k,ks,vs,h,hv,hX=>by simp
 | f::fs,k,ks,vs,h,hv,hX=>by
  unfold r7 at h;split at h
  ·rename_i kk ZD h1 h2 h3 h4;simp only [Option.some.injEq] at h;subst h
   match vs with
   | []=>cases hv
   | v::vs =>
    simp only [fitAll,zaq] at hv;have ho:=zav h1;have Kr:f.name ≠ "_" := zcs h2;have px:=vL h3 (cs:=X) (off:=f.offset) (hX 0 v rfl |> λh=>by rw [ho];simpa using h) w;have pc:=IM h3 hv.1 b n w;have ih:=Dw b n w X fs (k+1) ZD vs h4 hv.2 (λj v hv=>by have:=hX (j+1) v (by simpa using hv);rwa [show k+1+j=k+(j+1) by omega]);rw [List.forIn_cons];simp only [zaa Kr,Sem.run_bind,px,pc,Result.andThen_ok,Sem.run_pure];exact ih
  ·cases h
def ZN {κ:Type} [BEq κ] [LawfulBEq κ] {key:TypeId} {fs:Array Field} {ks:List FK} (bJ:κ->List Value) (hu:P.underlying key=some (.struct fs)) (hk:iy P key=some ks) (hf:∀ a,fitAll ks (bJ a)=true)
  (he:∀ a b,dO (bJ a) (bJ b)=(a==b)):vP P key κ :=
 ZK (λa=>.agg (bJ a).toArray) hu (λ_ _=>rfl) (λa b w=>by
   have:=(Iv (P:=P) hk (hf a) (hf b) w .eql (.const (.bool true)) (.const (.bool true))).2;rw [he a b] at this;exact this)
  (λa=>by
   have:=zY (hf a) 9999;show Instr.sameBits (9999+1) _ _=true;simp only [Instr.sameBits];simpa using this)
  (λa b w=>by
   have El:r7 P 0 fs.toList=some ks:=by
    unfold iy at hk;rw [hu] at hk;simp only at hk;split at hk
    ·cases hk
    ·exact hk
   have:=Dw (P:=P) b 9998 w (bJ a).toArray fs.toList 0 ks (bJ a) El (hf a) (λj v hv=>by simpa using hv);show (Instr.checkKey b (9999+1) key _).run P w=.ok () w;unfold Instr.checkKey;simp only [Sem.run_bind,run_underlying hu,Result.andThen_ok];rw [←Array.forIn_toList,show (9999:Nat)=9998+1 from rfl,this];rfl)
end keys
structure xu (l:List Oper) (p:Nat) (σ:List Nat):Prop where
 nodup:σ.Nodup
 mem:∀ i,i∈σ↔i<p
 mask:∀ pre i post,σ=pre++i::post->∀ j,((dZ l []).getD i 0).testBit j=true->j∈pre
theorem Rm {l:List Oper} {p:Nat} (hp:p<=l.length)
  (E1:∀ i,p<=i->i<l.length->∀ j,j<i->((dZ l []).getD i 0).testBit j=true)
  (xt:∀ (i:Nat) o,l[i]?=some o->∀ e∈o.after,Region.binds .any e=true->e.on<i) :
  ∀ (Gy fuel t:Nat) (listed:Array Bool),listed.size=l.length->wG l listed->(∀ i,p<=i->i<l.length->listed.getD i true=false) ->
   (((List.range p).filter λi=>!listed.getD i true).length=Gy)->Gy+(l.length-p)<=fuel ->
   ∃ σ:List Nat,Region.linearise.go .any l.toArray fuel t listed []=σ++List.range' p (l.length-p)/\σ.Nodup/\(∀ i,i∈σ↔i<p/\listed.getD i true=false) /\
    ∀ pre i post,σ=pre++i::post->∀ j,((dZ l []).getD i 0).testBit j=true->j∈pre∨listed.getD j false=true:=by
 intro Gy
 induction Gy with
 | zero =>
  intro fuel t listed hs sE Q1 Bj Kl;have l7:∀ i,i<p->listed.getD i true=true:=by
   intro i hi;have h0:=zbc Bj;have hn:i ∉ (List.range p).filter λi=>!listed.getD i true:=by rw [h0];simp
   rw [zcr,List.mem_range] at hn;cases hb:listed.getD i true with
   | true=>rfl
   | false=>exact absurd ⟨hi,by simp [hb]⟩ hn
  have Zu:=yV E1 xt fuel t p listed (zar _) hp (by omega) hs (λi hi=>by
   by_cases h:i<p
   ·rw [l7 i h];simp [h]
   ·rw [Q1 i (by omega) hi];simp [h])
  refine ⟨[],by rw [Zu];rfl,List.nodup_nil,λi=>⟨λh=>(by cases h),λh=>?_⟩,λpre i post h=>by simp at h⟩
  rw [l7 i h.1] at h;cases h.2
 | succ Gy ih =>
  intro fuel t listed hs sE Q1 Bj Kl;obtain ⟨fuel,rfl⟩:∃ n,fuel=n+1:=⟨fuel-1,by omega⟩
  -- an operation of the beginning that has not come up
  have hex:∃ i,i<p/\listed.getD i true=false:=by
   have:(List.range p).filter (λi=>!listed.getD i true)≠[]:=λh=>by rw [h] at Bj;simp at Bj
   obtain ⟨i,hi⟩:=zfi _ this;rw [zcr,List.mem_range] at hi;exact ⟨i,hi.1,by simpa using hi.2⟩
  have Pn:∀ i,i<l.length->listed.getD i false=listed.getD i true:=λi hi=>by
   have cJ:i<listed.size:=by omega
   simp [zas,cJ]
  have Wh:((List.range l.toArray.size).filter λi=>!listed.getD i true && ((l.toArray[i]?).map (·.after.all λe=>!Region.binds .any e || listed.getD e.on false)).getD false)=Region.ready .any l.toArray listed:=rfl
  -- the least such is ready
  have fi:Region.ready .any l.toArray listed≠[]:=by
   have Q2:∀ n i,i<=n->i<p->listed.getD i true=false->∃ i,i<p/\listed.getD i true=false/\∀ j,j<i->listed.getD j true=true:=by
    intro n
    induction n with
    | zero=>intro i hi MF h;exact ⟨i,MF,h,λj hj=>by omega⟩
    | succ n Zv =>
     intro i hi MF h;by_cases Mw:∃ j,j<i/\listed.getD j true=false
     ·obtain ⟨j,hj,GH⟩:=Mw;exact Zv j (by omega) (by omega) GH
     ·refine ⟨i,MF,h,λj hj=>?_⟩;cases hb:listed.getD j true with
      | true=>rfl
      | false=>exact absurd ⟨j,hj,hb⟩ Mw
   obtain ⟨i0,h0,h1⟩:=hex;obtain ⟨i,Iu,Km,n9⟩:=Q2 i0 i0 (zar _) h0 h1;have oM:i<l.length:=by omega
   have:i∈Region.ready .any l.toArray listed:=by
    rw [mem_ready];refine ⟨Km,l[i],by simp [oM],λe he hb=>?_⟩;have cJ:=xt i l[i] (zaf oM) e he hb;rw [Pn _ (by omega)];exact n9 _ cJ
   intro GF;rw [GF] at this;cases this
  simp only [Region.linearise.go,Wh];have hlen:0<(Region.ready .any l.toArray listed).length:=zde.2 fi;have yc:=zem t hlen;generalize hi:(Region.ready .any l.toArray listed)[t % (Region.ready .any l.toArray listed).length]=i;have Dn:(Region.ready .any l.toArray listed)[t % (Region.ready .any l.toArray listed).length]?=some i:=by rw [zaf yc,hi]
  rw [Dn];simp only [];rw [linearise_go_acc];have YR:i∈Region.ready .any l.toArray listed:=zbj Dn;obtain ⟨Km,o,ho,l7⟩:=mem_ready.1 YR;have mX:l[i]?=some o:=by simpa using ho
  have oM:=(zad.1 mX).1;have tN:=wI sE mX (λe he hb=>l7 e he hb);have Iu:i<p:=by
   rcases zgb i p with h|h
   ·exact h
   ·obtain ⟨i0,h0,h1⟩:=hex;have:=tN i0 (E1 i h oM i0 (by omega));rw [Pn i0 (by omega),h1] at this;cases this
  -- what remains behind it
  have Kn:((List.range p).filter λj=>!(listed.setIfInBounds i true).getD j true).length=Gy:=by
   have yd:∀ j,(listed.setIfInBounds i true).getD j true=(listed.getD j true || decide (j=i)):=by
    intro j;by_cases mK:j=i
    ·subst mK;simp [zas,hs,oM]
    ·rw [getD_set_ne true (zcn mK)];simp [mK]
   have Q3:((List.range p).filter λj=>!(listed.setIfInBounds i true).getD j true)=((List.range p).filter λj=>!listed.getD j true).filter λj=>!decide (j=i):=by
    rw [List.filter_filter];refine zej λj _=>?_
    rw [yd j];cases listed.getD j true <;> simp
   rw [Q3];have Q0:((List.range p).filter λj=>!listed.getD j true).Nodup:=List.nodup_range.filter _;have uG:i∈(List.range p).filter λj=>!listed.getD j true:=by rw [zcr,List.mem_range];exact ⟨Iu,by simp [Km]⟩
   have E2:∀ (L:List Nat),L.Nodup->i∈L->(L.filter λj=>!decide (j=i)).length+1=L.length:=by
    intro L
    induction L with
    | nil=>intro _ h;cases h
    | cons a L Zx =>
     intro hn hm;rw [zcd] at hn;by_cases ha:a=i
     ·subst ha;have:(L.filter λj=>!decide (j=a))=L:=by
       rw [zdt];intro b hb;have:b≠a:=λe=>hn.1 (e▸hb)
       simp [this]
      rw [zbk];simp [this]
     ·have uE:i∈L:=by
       rcases zan.1 hm with h|h
       ·exact absurd h.symm ha
       ·exact h
      rw [zbk];simp only [ha,zfj,zcb,zbt,zai];rw [Zx hn.2 uE]
   have:=E2 _ Q0 uG;omega
  have Q4:wG l (listed.setIfInBounds i true):=by
   intro j oj Bl yW e A1 hb;by_cases mK:j=i
   ·subst mK;rw [mX] at Bl;cases Bl;exact getD_set_true (l7 e A1 hb)
   ·rw [getD_set_ne false (zcn mK)] at yW;exact getD_set_true (sE j oj Bl yW e A1 hb)
  have Q5:∀ j,p<=j->j<l.length->(listed.setIfInBounds i true).getD j true=false:=λj hj GH=>by rw [getD_set_ne true (by omega)];exact Q1 j hj GH
  obtain ⟨σ,h1,h2,h3,h4⟩:=ih fuel (t / (Region.ready .any l.toArray listed).length) _ (by simpa using hs) Q4 Q5 Kn (by omega);have yd:∀ j,(listed.setIfInBounds i true).getD j true=(listed.getD j true || decide (j=i)):=by
   intro j;by_cases mK:j=i
   ·subst mK;simp [zas,hs,oM]
   ·rw [getD_set_ne true (zcn mK)];simp [mK]
  refine ⟨i::σ,?_,?_,?_,?_⟩
  ·rw [h1];rfl
  ·rw [zcd];refine ⟨λhm=>?_,h2⟩;have:=((h3 i).1 hm).2;rw [yd] at this;simp at this
  ·intro j;rw [zan,h3,yd];constructor
   ·rintro (rfl|⟨a,b⟩)
    ·exact ⟨Iu,Km⟩
    ·refine ⟨a,?_⟩;cases hj:listed.getD j true with
     | false=>rfl
     | true=>rw [hj] at b;simp at b
   ·rintro ⟨a,b⟩;by_cases mK:j=i
    ·exact .inl mK
    ·exact .inr ⟨a,by simp [b,mK]⟩
  ·intro pre i' post he j hj;cases pre with
   | nil =>
    simp only [zcc,List.cons.injEq] at he;rw [←he.1] at hj;exact .inr (tN j hj)
   | cons a pre =>
    simp only [List.cons_append,List.cons.injEq] at he;rcases h4 pre i' post he.2 j hj with h|h
    ·exact .inl (zag _ h)
    ·by_cases mK:j=i
     ·left;rw [mK,he.1];exact zah
     ·rw [getD_set_ne false (zcn mK)] at h;exact .inr h
section run
variable {P:Program} {f:Ctx} {N:Nat} {S:Start} {Q:EV->St->Prop} {k:List Item}
theorem bt.IN {id:Nat} {l:List Oper} {env:Env} {st:St} (p:Nat) (hm:P.follows .mixedOrders=true) (hB:ct l p=true)
  (h:∀ σ,xu l p σ->bt P f N S Q (.inRegion l.toArray (σ++List.range' p (l.length-p))::k) env st):bt P f N S Q (.code (.region id l.toArray true)::k) env st:=by
 simp only [ct,zaq] at hB;obtain ⟨⟨⟨⟨TC,YS⟩,YT⟩,YU⟩,Wj⟩:=hB;have hp:p<=l.length:=by simpa using Wj
 intro g w tmps hinv hh he hn;refine eH.Am λt=>?_
 have Q7:Region.schedule (P.follows .mixedOrders) l.toArray t=Region.linearise .any l.toArray t:=by simp [Region.schedule,hm]
 rw [Q7];have hb:Below w.heap.size w { w with drawn:=w.drawn+1 }:=(Below.refl _ w).drew;obtain ⟨dY,mA⟩:=hinv.grow (g':=g) hb (λ_ _=>rfl) rfl rfl;unfold Region.linearise;obtain ⟨σ,h1,h2,h3,h4⟩:=Rm (l:=l) (p:=p) hp (λi hi oM j hj=>by
   have h1:=cP YT oM;simp only [zbx,zaj] at h1;rcases h1 with h1|h1
   ·omega
   ·exact cP h1 hj) (λi o ho e A1 jZ=>by
   have oM:=(zad.1 ho).1;have h1:=cP YU oM;rw [ho] at h1;simp only [zaz] at h1;have:=h1 e (by simpa using A1);simpa [jZ] using this) p l.toArray.size t (Array.replicate l.toArray.size false) (by simp) (λi o ho QZ=>by
   simp [zas,Array.getElem?_replicate] at QZ;split at QZ <;> simp_all) (λi hi oM=>by simp [zas,Array.getElem?_replicate,oM]) (by
   have:((List.range p).filter λi=>!(Array.replicate l.toArray.size false).getD i true)=List.range p:=by
    rw [zdt];intro i hi;have hi':=List.mem_range.1 hi;have:i<l.length:=by omega
    simp [zas,Array.getElem?_replicate,this]
   rw [this];simp) (by simp;omega)
 rw [h1];refine h σ ⟨h2,λi=>?_,λpre i post he j hj=>?_⟩ g _ tmps dY (hh.step mA) (he.mono mA.dB) hn
 ·rw [h3];constructor
  ·exact λh=>h.1
  ·intro hi;have:i<l.length:=by omega
   exact ⟨hi,by simp [zas,Array.getElem?_replicate,this]⟩
 ·rcases h4 pre i post he j hj with h|h
  ·exact h
  ·simp [zas,Array.getElem?_replicate] at h;split at h <;> simp_all
def Vm (P:Program) (base:Nat) (env:Env) (st:St) (o:Oper) (x:EV) (st':St):Prop :=
 ∀ g w tmps,Inv g base w st->dV g w st env tmps->∃ f' args,(execOp (Act.eval ⟨tmps,[]⟩) o).run P w=.ok (.enter f' args) w /\
  Calls P f' args w λe w'=>∃ v g',e=.returned v/\bK g' w' st' x v/\Inv g' base w' st'/\Step base g w st g' w' st'
def OpF (P:Program) (base:Nat) (l:List Oper) (env:Env) (st:St) (o:Oper) (x:EV) (st':St):Prop:=OpE P base l env st o x st'∨(o.guard=none/\Vm P base env st o x st')
theorem bt.runσ {l:List Oper} {p:Nat} {σ:List Nat} {env:Env} {st:St} (hs:xu l p σ) (hp:p<=l.length) (xs:List EV) (F:List Nat->St->Prop)
  (Zt:∀ i j t,i<p->j<p->i≠j->eC l i=some t->eC l j≠some t)
  (Vg:∀ (i:Nat) o,i<p->l[i]?=some o->∀ t∈Kk l o,∀ j,j<p->j≠i->eC l j=some t->(j<i/\((dZ l []).getD i 0).testBit j=true)∨(i<j/\((dZ l []).getD j 0).testBit i=true))
  (Vl:xs.length=p) (hF0:F [] st)
  (pK:∀ pre i post st o,σ=pre++i::post->l[i]?=some o->F pre st->gD N o.dst=true/\∃ x st',xs[i]?=some x/\OpF P S.base l (na l o (gG env ((l.take p).take i) (xs.take i))) st o x st'/\F (pre++[i]) st')
  (Ct:∀ st,F σ st->cn P f N S Q l (l.drop p) k (gG env (l.take p) xs) st):bt P f N S Q (.inRegion l.toArray (σ++List.range' p (l.length-p))::k) env st:=by
 have wx:xs.length=(l.take p).length:=by simp;omega
 suffices key:∀ (post pre:List Nat) (st:St) (g:b7) (w:World) (tmps:Array Value),σ=pre++post->F pre st->Inv g S.base w st->rW S g w st->tmps.size=N ->
   (∀ (s:Tmp),(∀ (j:Nat) x,j∈pre->eC l j=some s->xs[j]?=some x->∃ v,tmps[s]?=some v/\bK g w st x v) /\
    ((∀ j,j∈pre->eC l j≠some s)->∀ y,lookup s env=some y->∃ v,tmps[s]?=some v/\bK g w st y v)) ->
   eH P f (ox S Q) (.inRegion l.toArray (post++List.range' p (l.length-p))::k) tmps w by
  intro g w tmps hinv hh he hN;exact key σ [] st g w tmps rfl hF0 hinv hh hN λs=>⟨λj x hj=>by (cases hj),λ_ y hy=>he s y hy⟩
 intro post
 induction post with
 | nil =>
  intro pre st g w tmps hσ hF hinv hh hN hJ;rw [zbn] at hσ;subst hσ;have A4:(l.drop p).length=l.length-p:=by simp
  rw [zcc,←A4];refine Ct st hF p (λj=>by rw [zbd]) g w tmps hinv hh (λs y hy=>?_) hN;rcases kr wx hy with ⟨j,o,h1,h2,h3⟩|⟨h1,h2⟩
  ·have hj:j<p:=by have:=(zad.1 h2).1;omega
   have ho:l[j]?=some o:=by rw [zal] at h1;rw [zaa hj] at h1;exact h1
   exact (hJ s).1 j y ((hs.mem j).2 hj) (by simp [eC,ho,h3]) h2
  ·refine (hJ s).2 (λj hj hd=>?_) y h2;have JY:=(hs.mem j).1 hj;cases ho:l[j]? with
   | none=>simp [eC,ho] at hd
   | some o=>exact h1 j o (by rw [zal,zaa JY];exact ho) (by simpa [eC,ho] using hd)
 | cons i post ih =>
  intro pre st g w tmps hσ hF hinv hh hN hJ;have hi:i<p:=(hs.mem i).1 (by rw [hσ];simp);have oM:i<l.length:=by omega
  obtain ⟨o,mX⟩:∃ o,l[i]?=some o:=⟨_,zaf oM⟩;have tN:=hs.mask pre i post hσ;have N3:i ∉ pre:=by
   have:=hs.nodup;rw [hσ,zdj] at this;exact λhm=>this.2.2 i hm i zah rfl
  have hprelt:∀ j,j∈pre->j<p:=λj hj=>(hs.mem j).1 (by rw [hσ];simp [hj]);obtain ⟨hd,x,st',hx,vJ,hF'⟩:=pK pre i post st o hσ mX hF
  -- what the operation looks at
  have he:dV g w st (na l o (gG env ((l.take p).take i) (xs.take i))) tmps:=by
   intro s y hy;obtain ⟨QB,JX⟩:=tM hy;rcases kr (by simp [wx]) JX with ⟨j,o',h1,h2,h3⟩|⟨h1,h2⟩
   ·have mK:j<i:=by have:=(zad.1 h2).1;simp at this;omega
    have Bl:l[j]?=some o':=by
     rw [zal,zaa mK,zal,zaa (by omega)] at h1;exact h1
    have uR:eC l j=some s:=by simp [eC,Bl,h3]
    rcases Vg i o hi mX s QB j (by omega) (by omega) uR with ⟨_,hb⟩|⟨cJ,_⟩
    ·exact (hJ s).1 j y (tN j hb) uR (by rw [zal,zaa mK] at h2;exact h2)
    ·omega
   ·refine (hJ s).2 (λj hj uR=>?_) y h2;have mK:j≠i:=λe=>N3 (e▸hj)
    rcases Vg i o hi mX s QB j (hprelt j hj) mK uR with ⟨cJ,_⟩|⟨cJ,hb⟩
    ·cases Bl:l[j]? with
     | none=>simp [eC,Bl] at uR
     | some o'=>exact h1 j o' (by rw [zal,zaa cJ,zal,zaa (hprelt j hj)];exact Bl) (by simpa [eC,Bl] using uR)
    ·-- j came ahead of i,though it must come behind it
     obtain ⟨a,b,Bb⟩:=zef hj;have:=hs.mask a j (b++i::post) (by rw [hσ,Bb];simp) i hb;exact absurd (by rw [Bb];simp [this]:i∈pre) N3
  have next:∀ (g':b7) (w':World) (v:Value),bK g' w' st' x v->Inv g' S.base w' st'->Step S.base g w st g' w' st' ->
    eH P f (ox S Q) (.inRegion l.toArray (post++List.range' p (l.length-p))::k) (Act.put ⟨tmps,[]⟩ o.dst v).tmps w':=by
   intro g' w' v Bg dY mA;refine ih (pre++[i]) st' g' w' _ (by rw [hσ];simp) hF' dY (hh.step mA) (by rw [iK];exact hN) λs=>⟨λj y hj uR hy=>?_,λNZ y hy=>?_⟩
   ·by_cases mK:j=i
    ·subst mK;have Ko:o.dst=some s:=by simpa [eC,mX] using uR
     rw [hx] at hy;cases hy;rw [Ko];have fT:s<tmps.size:=by
      rw [Ko] at hd;have Wi:s+1<=N:=zae hd;rw [hN];exact Wi
     exact ⟨v,by simp [Act.put,fT],Bg⟩
    ·have JY:j∈pre:=by
      rcases zbb.1 hj with h|h
      ·exact h
      ·exact absurd (zby.1 h) mK
     obtain ⟨u,h1,h2⟩:=(hJ s).1 j y JY uR hy;have pU:o.dst≠some s:=λe=>Zt j i s (hprelt j JY) hi mK uR (by simp [eC,mX,e])
     refine ⟨u,?_,h2.mono mA.dB⟩;cases Q6:o.dst with
     | none=>exact h1
     | some d =>
      have:d≠s:=λe=>pU (by rw [Q6,e])
      simp [Act.put,zcj,this,h1]
   ·have pU:o.dst≠some s:=λe=>NZ i (by simp) (by simp [eC,mX,e])
    obtain ⟨u,h1,h2⟩:=(hJ s).2 (λj hj=>NZ j (by simp [hj])) y hy;refine ⟨u,?_,h2.mono mA.dB⟩;cases Q6:o.dst with
    | none=>exact h1
    | some d =>
     have:d≠s:=λe=>pU (by rw [Q6,e])
     simp [Act.put,zcj,this,h1]
  have Gz:l.toArray[i]?=some o:=by simpa using mX
  show eH P f (ox S Q) (.inRegion l.toArray (i::_)::k) tmps w;have yi:st'=st->∀ (dm:Nat->Nat) (w':World) (v:Value),Good g w st x dm w' v ->
    eH P f (ox S Q) (.inRegion l.toArray (post++List.range' p (l.length-p))::k) (Act.put ⟨tmps,[]⟩ o.dst v).tmps w':=by
   rintro rfl dm w' v ⟨Bg,hb,hl⟩;obtain ⟨dY,mA⟩:=hinv.grow (g':={ g with lim:=dm }) hb hl rfl rfl;exact next _ w' v Bg dY mA
  rcases vJ with (⟨Pr,vJ⟩|⟨hg,vJ⟩|⟨hg,rfl,vJ⟩)|⟨hg,vJ⟩
  ·rcases vJ with ⟨hg,vJ⟩|⟨j,want,tt,c,b,y,env',hg,hj,Zy,Zz,rfl,hE,vJ⟩
   ·have hw:Region.wanted o (yielded l.toArray tmps)=true:=by simp [Region.wanted,hg]
    rcases vJ g S.base w tmps hinv he with ⟨v,dm,w',hr,ye⟩|⟨f',args,hr,hc⟩
    ·exact eH.value Gz hw hr (yi Pr dm w' v ye)
    ·exact eH.call Gz hw hr (hc.mono λe w' ⟨v,dm,h1,h2⟩=>⟨v,h1,yi Pr dm w' v h2⟩)
   ·obtain ⟨u,hu,ZA⟩:=he tt c Zy;have hw:Region.wanted o (yielded l.toArray tmps)=b:=by
     rw [←tr Zz ZA];have JY:((l.toArray)[j]?).bind (·.dst)=some tt:=by simpa using hj
     simp only [Region.wanted,hg,yielded,JY,zac,hu];cases u <;> rfl
    cases b with
    | false=>exact eH.xX Gz hw (yi Pr g.lim w undef ⟨.gd _ _ _ (λ_=>rfl) (λh=>by cases h),.refl _ _,λ_ _=>rfl⟩)
    | true =>
     have wrap:∀ dm w' v,Good g w st y dm w' v->Good g w st (.gd true y) dm w' v:=λdm w' v ⟨a,b,c⟩=>⟨.gd _ _ _ (λh=>by cases h) (λ_=>a),b,c⟩
     rcases vJ rfl g S.base w tmps hinv (he.gd hE rfl) with ⟨v,dm,w',hr,ye⟩|⟨f',args,hr,hc⟩
     ·exact eH.value Gz hw hr (yi Pr dm w' v (wrap _ _ _ ye))
     ·exact eH.call Gz hw hr (hc.mono λe w' ⟨v,dm,h1,h2⟩=>⟨v,h1,yi Pr dm w' v (wrap _ _ _ h2)⟩)
  ·have hw:Region.wanted o (yielded l.toArray tmps)=true:=by simp [Region.wanted,hg]
   obtain ⟨v,g',w',hr,Bg,dY,mA⟩:=vJ g w tmps hinv he;exact eH.value Gz hw hr (next g' w' v Bg dY mA)
  ·have hw:Region.wanted o (yielded l.toArray tmps)=true:=by simp [Region.wanted,hg]
   obtain ⟨g',w',hr,dY,mA⟩:=vJ g w tmps hinv he;exact eH.skip Gz hw hr (next g' w' undef (.d _ _ (.any _)) dY mA)
  ·have hw:Region.wanted o (yielded l.toArray tmps)=true:=by simp [Region.wanted,hg]
   obtain ⟨f',args,hr,hc⟩:=vJ g w tmps hinv he;exact eH.call Gz hw hr (hc.mono λe w' ⟨v,g',h1,Bg,dY,mA⟩=>⟨v,h1,next g' w' v Bg dY mA⟩)
def PA:List St->(St->Prop)->Prop
 | [],_=>True
 | s::r,p=>p s/\PA r p
theorem PA.get {p:St->Prop}:∀ {ss:List St} {i:Nat} {s:St},PA ss p->ss[i]?=some s->p s
 | s::r,0,s',h,hs=>by simp at hs;subst hs;exact h.1
 | s::r,i+1,s',h,hs=>PA.get h.2 (by simpa using hs)
 | [],i,s',h,hs=>by simp at hs
def WH (l:List Oper) (E:List Nat) (i m:Nat):Bool:=E.zipIdx.all λe=>(!((dZ l []).getD i 0).testBit e.1 || decide (e.2<m)) && (!((dZ l []).getD e.1 0).testBit i || decide (m<=e.2))
def Rn (l:List Oper) (E:List Nat) (i lo hi:Nat):Bool:=(List.range (E.length+1)).all λm=>!WH l E i m || (decide (lo<=m) && decide (m<=hi))
def Vn (P:Program) (N base:Nat) (l:List Oper) (E:List Nat) (iX:List St) (i:Nat) (o:Oper) (env:Env) (x:EV):Prop :=
  gD N o.dst=true /\
  ((∃ lo hi,(!E.any λe=>Nat.beq e i)=true/\Rn l E i lo hi=true/\PA ((iX.take (hi+1)).drop lo) λs=>uQ P l env s o x) ∨
   (∃ m s s',E[m]?=some i/\iX[m]?=some s/\iX[m+1]?=some s'/\o.guard=none/\(xY P base env s o x s'∨(x=.d .any/\Im P base env s o s')∨Vm P base env s o x s')))
def wO (P:Program) (N base:Nat) (l:List Oper) (E:List Nat) (iX:List St):Nat->List Oper->List EV->Env->Prop
 | _,[],[],_=>True
 | i,o::os,x::xs,env=>Vn P N base l E iX i o (na l o env) x/\wO P N base l E iX (i+1) os xs (env.put o.dst x)
 | _,_,_,_=>False
theorem wO.length {base:Nat} {l:List Oper} {E:List Nat} {iX:List St}:∀ {i:Nat} {os:List Oper} {xs:List EV} {env:Env},wO P N base l E iX i os xs env->xs.length=os.length
 | _,[],[],_,_=>rfl
 | _,o::os,x::xs,env,h=>by simp [wO.length h.2]
 | _,[],x::xs,_,h=>h.elim
 | _,o::os,[],_,h=>h.elim
theorem wO.get {base:Nat} {l:List Oper} {E:List Nat} {iX:List St}:∀ {i:Nat} {os:List Oper} {xs:List EV} {env:Env} {j:Nat} {o:Oper},wO P N base l E iX i os xs env->os[j]?=some o ->
  ∃ x,xs[j]?=some x/\Vn P N base l E iX (i+j) o (na l o (gG env (os.take j) (xs.take j))) x
 | i,o'::os,x::xs,env,0,o,h,ho=>by
  simp at ho;subst ho;exact ⟨x,rfl,by simpa [gG] using h.1⟩
 | i,o'::os,x::xs,env,j+1,o,h,ho=>by
  obtain ⟨y,h1,h2⟩:=wO.get (j:=j) h.2 (by simpa using ho);exact ⟨y,by simpa using h1,by simpa [gG,zcp,zdm 1 j] using h2⟩
 | i,[],xs,env,j,o,h,ho=>by simp at ho
 | i,o'::os,[],_,_,_,h,_=>h.elim
theorem bt.effσ {l:List Oper} {p:Nat} {σ:List Nat} {env:Env} {st yk:St} (hB:ct l p=true) (hs:xu l p σ) (E:List Nat) (iX:List St) (hE:σ.filter (λi=>E.any λe=>Nat.beq e i)=E) {xs:List EV}
  (h0:iX[0]?=some st) (hF:iX[E.length]?=some yk) (J1:wO P N S.base l E iX 0 (l.take p) xs env) (Ct:cn P f N S Q l (l.drop p) k (gG env (l.take p) xs) yk) :
  bt P f N S Q (.inRegion l.toArray (σ++List.range' p (l.length-p))::k) env st:=by
 simp only [ct,zaq] at hB;obtain ⟨⟨⟨⟨TC,YS⟩,YT⟩,YU⟩,Wj⟩:=hB;have hp:p<=l.length:=by simpa using Wj
 have Vl:xs.length=p:=by rw [J1.length];simp;omega
 refine bt.runσ hs hp xs (λpre s=>iX[(pre.filter λi=>E.any λe=>Nat.beq e i).length]?=some s) ?_ ?_ Vl h0 ?_ ?_
 ·intro i j t hi hj N0 ZB uR;have:=cP (cP YS hi) hj;simp [N0,ZB,uR] at this
 ·intro i o hi ho t ht j hj mK uR;have h1:=cP TC hi;rw [ho] at h1;simp only [zaz] at h1;have h2:=cP (h1 t ht) hj;simp only [uR,zek,zdl,zbx,zaq,zaj,zeo] at h2;rcases h2 with (h2|h2)|h2
  ·exact absurd h2.symm mK
  ·exact .inl h2
  ·exact .inr h2
 ·intro pre i post s o hσ ho N4;have hi:i<p:=(hs.mem i).1 (by rw [hσ];simp);obtain ⟨x,hx,mA⟩:=J1.get (j:=i) (o:=o) (by rw [zal,zaa hi];exact ho);rw [zca] at mA;obtain ⟨hd,mA⟩:=mA;refine ⟨hd,x,?_⟩
  -- how far the turning operations have come
  have IP:E=(pre.filter λi=>E.any λe=>Nat.beq e i)++((i::post).filter λi=>E.any λe=>Nat.beq e i):=by
   have:=hE;rw [hσ,zdu] at this;exact this.symm
  generalize hm:(pre.filter λi=>E.any λe=>Nat.beq e i).length=m at N4;have hmE:m<=E.length:=by rw [IP,zak,hm];omega
  rcases mA with ⟨lo,hi',fi,hb,l7⟩|⟨m',s0,s1,hEm,Ml,hs1,hg,vJ⟩
  ·have WI:(E.any λe=>Nat.beq e i)=false:=by simpa using fi
   have WJ:WH l E i m=true:=by
    unfold WH;rw [zaz];rintro ⟨e,j⟩ hej;have YZ:E[j]?=some e:=by
     have:=zfd.1 hej;simpa using this
    have Ub:(E.any λe'=>Nat.beq e' e)=true:=zfh.2 ⟨e,zbj YZ,zfb e⟩;simp only [zaq,zbx,zdk,zaj];have Ro:E.Nodup:=by rw [←hE];exact hs.nodup.filter _
    constructor
    ·cases Rp:((dZ l []).getD i 0).testBit e with
     | false=>exact .inl rfl
     | true =>
      right;have Dr:=hs.mask pre i post hσ e Rp;have ZO:e∈pre.filter λi=>E.any λe=>Nat.beq e i:=zcr.2 ⟨Dr,Ub⟩
      obtain ⟨a,ha,hae⟩:=List.mem_iff_getElem.1 ZO;have:E[a]?=some e:=by rw [IP,zao ha,zaf ha,hae]
      have haj:a=j:=by
       have h1:=(zad.1 this);have h2:=(zad.1 YZ);exact (List.getElem_inj Ro).1 (h1.2.trans h2.2.symm)
      omega
    ·cases Rp:((dZ l []).getD e 0).testBit i with
     | false=>exact .inl rfl
     | true =>
      right
      -- e comes behind i
      rcases zgb j m with hjm|hjm
      ·have h1:(pre.filter λi=>E.any λe=>Nat.beq e i)[j]?=some e:=by
        rw [IP,zao (by omega)] at YZ;exact YZ
       have Dr:e∈pre:=(zcr.1 (zbj h1)).1;obtain ⟨a,b,Bb⟩:=zef Dr;have:=hs.mask a e (b++i::post) (by rw [hσ,Bb];simp) i Rp;have N3:i ∉ pre:=by
        have:=hs.nodup;rw [hσ,zdj] at this;exact λhm=>this.2.2 i hm i zah rfl
       exact absurd (by rw [Bb];simp [this]:i∈pre) N3
      ·exact hjm
   have hbd:=zaz.1 hb m (List.mem_range.2 (by omega));rw [WJ] at hbd;simp only [zbu,zcw,zaq,zaj] at hbd;refine ⟨s,hx,.inl (.inl ⟨rfl,l7.get (i:=m-lo) ?_⟩),?_⟩
   ·rw [zbd,zal,zaa (by omega),show lo+(m-lo)=m by omega];exact N4
   ·rw [zdu,zbk,WI];simp only [zay,zbs,List.filter_nil,zbn];rw [hm];exact N4
  ·have Ub:(E.any λe'=>Nat.beq e' i)=true:=zfh.2 ⟨i,zbj hEm,zfb i⟩;have Ro:E.Nodup:=by rw [←hE];exact hs.nodup.filter _
   have hEm2:E[m]?=some i:=by
    rw [IP,zaw (by omega),hm,Nat.sub_self,zbk,Ub];rfl
   have hmm:m=m':=by
    have h1:=(zad.1 hEm2);have h2:=(zad.1 hEm);exact (List.getElem_inj Ro).1 (h1.2.trans h2.2.symm)
   subst hmm;rw [N4] at Ml;cases Ml;refine ⟨s1,hx,?_,?_⟩
   ·rcases vJ with h|⟨h1,h2⟩|h
    ·exact .inl (.inr (.inl ⟨hg,h⟩))
    ·exact .inl (.inr (.inr ⟨hg,h1,h2⟩))
    ·exact .inr ⟨hg,h⟩
   ·rw [zdu,zbk,Ub];simp only [zbt,List.filter_nil,zak,zam,hm];exact hs1
 ·intro s N4;rw [hE,hF] at N4;cases N4;exact Ct
theorem filter_one {σ:List Nat} (hn:σ.Nodup) {e:Nat} (he:e∈σ):σ.filter (λi=>i==e)=[e]:=by
 induction σ with
 | nil=>cases he
 | cons c r ih =>
  rw [zcd] at hn;by_cases hc:c=e
  ·subst hc;have:r.filter (λi=>i==c)=[]:=zdr.2 λi hi h=>hn.1 (by rw [zeo] at h;exact h▸hi);rw [zbk,zee,zaa rfl,this]
  ·rw [zbk];have:(c==e)=false:=by simpa using hc
   rw [this];simpa using ih hn.2 ((zan.1 he).resolve_left (zcn hc))
theorem xu.one {l:List Oper} {p:Nat} {σ:List Nat} (hs:xu l p σ) {e:Nat} (he:e<p):σ.filter (λi=>[e].any λe=>Nat.beq e i)=[e]:=by
 have h1:(λi=>[e].any λe=>Nat.beq e i)=λi=>i==e:=by
  funext i;simp only [zcx,zfe,zdl];rw [zbo,Nat.beq_eq,zeo,zfc]
 rw [h1];exact filter_one hs.nodup ((hs.mem e).2 he)
theorem MK {σ:List Nat} (hn:σ.Nodup) {a b:Nat} (Bb:a≠b) (ha:a∈σ) (hb:b∈σ) (q:Nat->Bool) (hq:∀ i,q i=(i==a || i==b)):σ.filter q=[a,b]∨σ.filter q=[b,a]:=by
 induction σ with
 | nil=>cases ha
 | cons c r ih =>
  rw [zcd] at hn;by_cases Vo:c=a
  ·subst Vo;left;have hbr:b∈r:=(zan.1 hb).resolve_left (zcn Bb);rw [zbk,hq,zee,zdv,zaa rfl];congr 1;have:r.filter q=r.filter λi=>i==b:=zej λi hi=>by
    have:i≠c:=λe=>hn.1 (e▸hi)
    rw [hq];simp [this]
   rw [this];exact filter_one hn.2 hbr
  ·by_cases WK:c=b
   ·subst WK;right;have har:a∈r:=(zan.1 ha).resolve_left (zcn Vo);rw [zbk,hq,zee,Bool.or_true,zaa rfl];congr 1;have:r.filter q=r.filter λi=>i==a:=zej λi hi=>by
     have:i≠c:=λe=>hn.1 (e▸hi)
     rw [hq];simp [this]
    rw [this];exact filter_one hn.2 har
   ·have har:a∈r:=(zan.1 ha).resolve_left (zcn Vo);have hbr:b∈r:=(zan.1 hb).resolve_left (zcn WK);have:=ih hn.2 har hbr;rw [zbk,hq];simpa [Vo,WK] using this
theorem xu.two {l:List Oper} {p:Nat} {σ:List Nat} (hs:xu l p σ) {a b:Nat} (Bb:a≠b) (ha:a<p) (hb:b<p) :
  σ.filter (λi=>[a,b].any λe=>Nat.beq e i)=[a,b]∨σ.filter (λi=>[b,a].any λe=>Nat.beq e i)=[b,a]:=by
 have q1:∀ i,([a,b].any λe=>Nat.beq e i)=(i==a || i==b):=λi=>by
  simp only [zcx,zfe,zdl];rw [zbo];simp only [zbx,Nat.beq_eq,zeo];exact ⟨λh=>h.elim (λh=>.inl h.symm) (λh=>.inr h.symm),λh=>h.elim (λh=>.inl h.symm) (λh=>.inr h.symm)⟩
 have q2:∀ i,([b,a].any λe=>Nat.beq e i)=(i==a || i==b):=λi=>by
  simp only [zcx,zfe,zdl];rw [zbo];simp only [zbx,Nat.beq_eq,zeo];exact ⟨λh=>h.elim (λh=>.inr h.symm) (λh=>.inl h.symm),λh=>h.elim (λh=>.inr h.symm) (λh=>.inl h.symm)⟩
 rcases MK hs.nodup Bb ((hs.mem a).2 ha) ((hs.mem b).2 hb) _ q1 with h|h
 ·exact .inl h
 ·right;have:(λi=>[b,a].any λe=>Nat.beq e i)=λi=>[a,b].any λe=>Nat.beq e i:=by
   funext i;rw [q1,q2]
  rw [this];exact h
theorem xu.two' {l:List Oper} {p:Nat} {σ:List Nat} (hs:xu l p σ) {a b:Nat} (ha:a<p) (hb:b<p) (hm:((dZ l []).getD b 0).testBit a=true) :
  σ.filter (λi=>[a,b].any λe=>Nat.beq e i)=[a,b]:=by
 have Bb:a≠b:=by
  rintro rfl;obtain ⟨x,y,ML⟩:=zef ((hs.mem a).2 ha);have h1:=hs.mask x a y ML a hm;have:=hs.nodup;rw [ML,zdj] at this;exact this.2.2 a h1 a zah rfl
 rcases hs.two Bb ha hb with h|h
 ·exact h
 ·exfalso;obtain ⟨x,y,ML⟩:=zef ((hs.mem b).2 hb);have h1:=hs.mask x b y ML a hm;rw [ML,zdu] at h;have q:([b,a].any λe=>Nat.beq e b)=true:=by simp
  rw [zbk,q] at h;have h2:a∈x.filter λi=>[b,a].any λe=>Nat.beq e i:=zcr.2 ⟨h1,by simp⟩
  obtain ⟨u,v,huv⟩:=zef h2;have hl:=zbq List.length h;have hbx:b ∉ x:=by
   have:=hs.nodup;rw [ML,zdj] at this;exact λhm=>this.2.2 b hm b zah rfl
  cases hx:x.filter λi=>[b,a].any λe=>Nat.beq e i with
  | nil=>rw [hx] at h2;cases h2
  | cons c r =>
   rw [hx] at h;simp only [List.cons_append,List.cons.injEq] at h;have:b∈x.filter λi=>[b,a].any λe=>Nat.beq e i:=by rw [hx,h.1];exact zah
   exact hbx (zcr.1 this).1
def kZ (P:Program) (f:Ctx) (N:Nat) (S:Start) (Q:EV->St->Prop) (l:List Oper) (p:Nat) (E:List Nat) (iX:List St) (i:Nat) (os:List Oper) (k:List Item) (env:Env):Prop :=
 ∃ xs yk,iX[E.length]?=some yk/\wO P N S.base l E iX i os xs env/\cn P f N S Q l (l.drop p) k (gG env os xs) yk
variable {l:List Oper} {p:Nat} {E:List Nat} {iX:List St} {i:Nat} {os:List Oper} {env:Env} {st:St} {d:Option Tmp} {op:Op} {ty:TypeId} {pos:String} {after:Array Edge} {x:EV}
theorem kZ.nil {yk:St} (hF:iX[E.length]?=some yk) (h:cn P f N S Q l (l.drop p) k env yk):kZ P f N S Q l p E iX i [] k env:=⟨[],yk,hF,trivial,h⟩
def Rq (P:Program) (l:List Oper) (env:Env) (o:Oper) (x:EV):List St->Prop
 | []=>True
 | s::r=>A3 P (na l o env) s o x/\Rq P l env o x r
theorem Rq.all {o:Oper} {P:Program} {l:List Oper} {env:Env} {x:EV} (hg:o.guard=none):∀ {ss:List St},Rq P l env o x ss->PA ss λs=>uQ P l (na l o env) s o x
 | [],_=>trivial
 | s::r,h=>⟨.inl ⟨hg,h.1⟩,Rq.all hg h.2⟩
theorem kZ.g (lo hi:Nat) (h:Rq P l env ⟨d,op,ty,pos,after,none⟩ x ((iX.take (hi+1)).drop lo)) (fi:(!E.any λe=>Nat.beq e i)=true) (hb:Rn l E i lo hi=true) (hd:gD N d=true)
  (hk:kZ P f N S Q l p E iX (i+1) os k (env.put d x)):kZ P f N S Q l p E iX i (⟨d,op,ty,pos,after,none⟩::os) k env:=by
 obtain ⟨xs,yk,h0,h1,h2⟩:=hk;exact ⟨x::xs,yk,h0,⟨⟨hd,.inl ⟨lo,hi,fi,hb,h.all rfl⟩⟩,h1⟩,h2⟩
theorem kZ.v {s s':St} (m:Nat) (h:xY P S.base (na l ⟨d,op,ty,pos,after,none⟩ env) s ⟨d,op,ty,pos,after,none⟩ x s') (hE:E[m]?=some i) (h1:iX[m]?=some s) (h2:iX[m+1]?=some s') (hd:gD N d=true)
  (hk:kZ P f N S Q l p E iX (i+1) os k (env.put d x)):kZ P f N S Q l p E iX i (⟨d,op,ty,pos,after,none⟩::os) k env:=by
 obtain ⟨xs,yk,h0,h3,h4⟩:=hk;exact ⟨x::xs,yk,h0,⟨⟨hd,.inr ⟨m,s,s',hE,h1,h2,rfl,.inl h⟩⟩,h3⟩,h4⟩
theorem kZ.u {s s':St} (m:Nat) (h:Im P S.base (na l ⟨d,op,ty,pos,after,none⟩ env) s ⟨d,op,ty,pos,after,none⟩ s') (hE:E[m]?=some i) (h1:iX[m]?=some s) (h2:iX[m+1]?=some s') (hd:gD N d=true)
  (hk:kZ P f N S Q l p E iX (i+1) os k (env.put d (.d .any))):kZ P f N S Q l p E iX i (⟨d,op,ty,pos,after,none⟩::os) k env:=by
 obtain ⟨xs,yk,h0,h3,h4⟩:=hk;exact ⟨.d .any::xs,yk,h0,⟨⟨hd,.inr ⟨m,s,s',hE,h1,h2,rfl,.inr (.inl ⟨rfl,h⟩)⟩⟩,h3⟩,h4⟩
theorem kZ.c {s s':St} (m:Nat) (h:Vm P S.base (na l ⟨d,op,ty,pos,after,none⟩ env) s ⟨d,op,ty,pos,after,none⟩ x s') (hE:E[m]?=some i) (h1:iX[m]?=some s) (h2:iX[m+1]?=some s') (hd:gD N d=true)
  (hk:kZ P f N S Q l p E iX (i+1) os k (env.put d x)):kZ P f N S Q l p E iX i (⟨d,op,ty,pos,after,none⟩::os) k env:=by
 obtain ⟨xs,yk,h0,h3,h4⟩:=hk;exact ⟨x::xs,yk,h0,⟨⟨hd,.inr ⟨m,s,s',hE,h1,h2,rfl,.inr (.inr h)⟩⟩,h3⟩,h4⟩
theorem bt.Y0 {σ:List Nat} {env:Env} {st:St} (hB:ct l p=true) (hs:xu l p σ) (hE:σ.filter (λi=>E.any λe=>Nat.beq e i)=E) (h0:iX[0]?=some st) (h:kZ P f N S Q l p E iX 0 (l.take p) k env) :
  bt P f N S Q (.inRegion l.toArray (σ++List.range' p (l.length-p))::k) env st:=by
 obtain ⟨xs,yk,h1,h2,h3⟩:=h;exact .effσ hB hs E iX hE h0 h1 h2 h3
theorem bt.reorder {todo:List Item} {env MM:Env} {st st0:St} (rs ts:List Nat) (hp:zW rs ts st0 st=true)
  (ho:rs.map (λr=>st.aQ[r]?)=st0.aQ.map (λx=>some (x.ren (da rs st.aQ.length) (da ts st.ar.length)))) (ht:ts.map (λr=>st.ar[r]?)=st0.ar.map some)
  (hr:rs.take S.st.aQ.length=List.range S.st.aQ.length) (xq:ts.take S.st.ar.length=List.range S.st.ar.length) (hl:(Nat.ble S.st.aQ.length rs.length && Nat.ble S.st.ar.length ts.length)=true)
  (h5:st0.aQ.all (kY st0.aQ.length st0.ar.length)=true) (tO:(MM.all λp=>pZ st0.aQ.length st0.ar.length p.2)=true)
  (hE:df env (MM.map λp=>(p.1,p.2.ren (da rs st.aQ.length) (da ts st.ar.length)))) (h:bt P f N S Q todo MM st0):bt P f N S Q todo env st:=by
 obtain ⟨p,YW,Mn,l1,l2⟩:=Part.of hp h5 ho ht;simp only [zaq] at hl;have zx:=zae hl.1;have zV:=zae hl.2;have same:∀ {l:List Nat} {n N:Nat},l.take n=List.range n->n<=l.length->∀ i,i<n->da l N i=i:=fun {l n N} hl hn i hi=>by
  have e:(l.take n)[i]?=some i:=by rw [hl,List.getElem?_range hi]
  rw [zal,zaa hi] at e;simp [da,e]
 have so:=λi hi=>same (N:=st.aQ.length) hr zx i hi
 have N2:=λi hi=>same (N:=st.ar.length) xq zV i hi
 have Dq:∀ {i:Nat},i<st0.ar.length->st0.ar[i]?=st.ar[da ts st.ar.length i]?:=fun {i} hi=>by
  rw [p.ar i _ (zaf hi),zaf hi]
 intro g w tmps hinv hh he hN;refine h (g.sub _ _) w tmps (hinv.part p) ⟨⟨hh.dB.cX,λo mX=>?_,by omega,λt e sz n hx=>?_,by omega,λt x' bO cJ kq mX=>?_⟩,hh.below,hh.lim,hh.frame,λb hb hw=>hh.fresh b hb (p.owned hw)⟩ (λi y hy=>?_) hN
 ·show g.ob (da rs st.aQ.length o)=S.g.ob o;rw [so o mX];exact hh.dB.ob o mX
 ·have cJ:t<S.st.ar.length:=(zad.1 hx).1;obtain ⟨n',a1,a2,a3⟩:=hh.dB.ar t e sz n hx;refine ⟨n',?_,a2,λe'=>?_⟩
  ·rw [Dq (by omega),N2 t cJ];exact a1
  ·show g.tk (da ts st.ar.length t)=S.g.tk t;rw [N2 t cJ];exact a3 e'
 ·rw [Dq (by have:=(zad.1 kq).1;exact this),N2 t cJ] at kq;obtain ⟨y,rows,a1,a2,a3,a4,a5⟩:=hh.dB.own t x' bO cJ kq mX;refine ⟨y,rows,a1,a2,a3,a4,λe'=>?_⟩;show g.tk (da ts st.ar.length t)=S.g.tk t;rw [N2 t cJ];exact a5 e'
 ·have QN:∀ {e0:Env},lookup i e0=some y->lookup i (e0.map λp=>(p.1,p.2.ren (da rs st.aQ.length) (da ts st.ar.length)))=some (y.ren (da rs st.aQ.length) (da ts st.ar.length))/\(i,y)∈e0:=by
   intro e0
   induction e0 with
   | nil=>intro hh;cases hh
   | cons q r ih =>
    obtain ⟨j,z⟩:=q;intro hh;unfold lookup at hh;simp only [zap];unfold lookup;cases hb:Nat.beq i j with
    | true =>
     rw [hb] at hh;cases hh;have:=zav hb;subst this;exact ⟨rfl,zah⟩
    | false =>
     rw [hb] at hh;exact ⟨(ih hh).1,zag _ (ih hh).2⟩
  obtain ⟨m1,m2⟩:=QN hy;obtain ⟨v,h1,h2⟩:=(he.sub hE) i _ m1;exact ⟨v,h1,h2.down p.ar (zaz.1 tO _ m2)⟩
theorem cn.reorder {ops rest:List Oper} {env MM:Env} {st st0:St} (rs ts:List Nat) (hp:zW rs ts st0 st=true)
  (ho:rs.map (λr=>st.aQ[r]?)=st0.aQ.map (λx=>some (x.ren (da rs st.aQ.length) (da ts st.ar.length)))) (ht:ts.map (λr=>st.ar[r]?)=st0.ar.map some)
  (hr:rs.take S.st.aQ.length=List.range S.st.aQ.length) (xq:ts.take S.st.ar.length=List.range S.st.ar.length) (hl:(Nat.ble S.st.aQ.length rs.length && Nat.ble S.st.ar.length ts.length)=true)
  (h5:st0.aQ.all (kY st0.aQ.length st0.ar.length)=true) (tO:(MM.all λp=>pZ st0.aQ.length st0.ar.length p.2)=true)
  (hE:df env (MM.map λp=>(p.1,p.2.ren (da rs st.aQ.length) (da ts st.ar.length)))) (h:cn P f N S Q ops rest k MM st0):cn P f N S Q ops rest k env st :=
 λj hj=>.reorder rs ts hp ho ht hr xq hl h5 tO hE (h j hj)
theorem bt.tb {id:Nat} {l:List Oper} {env:Env} {st:St} (p a:Nat) (iX:List St) (hm:P.follows .mixedOrders=true) (hB:ct l p=true) (ha:a<p) (h0:iX[0]?=some st)
  (h:kZ P f N S Q l p [a] iX 0 (l.take p) k env):bt P f N S Q (.code (.region id l.toArray true)::k) env st :=
 .IN p hm hB λ_ hσ=>.Y0 hB hσ (hσ.one ha) h0 h
theorem bt.wP {id:Nat} {l:List Oper} {env:Env} {st:St} (p a b:Nat) (iX:List St) (hm:P.follows .mixedOrders=true) (hB:ct l p=true) (ha:a<p) (hb:b<p) (Bb:((dZ l []).getD b 0).testBit a=true) (h0:iX[0]?=some st)
  (h:kZ P f N S Q l p [a,b] iX 0 (l.take p) k env):bt P f N S Q (.code (.region id l.toArray true)::k) env st :=
 .IN p hm hB λ_ hσ=>.Y0 hB hσ (hσ.two' ha hb Bb) h0 h
theorem bt.Uc {id:Nat} {l:List Oper} {env E0:Env} {st st0:St} (p a b:Nat) (Rr Rs:List St) (hm:P.follows .mixedOrders=true) (hB:ct l p=true) (Bb:a≠b) (ha:a<p) (hb:b<p) (h1:Rr[0]?=some st) (h2:Rs[0]?=some st)
  (H1:cn P f N S Q l (l.drop p) k E0 st0->kZ P f N S Q l p [a,b] Rr 0 (l.take p) k env) (H2:cn P f N S Q l (l.drop p) k E0 st0->kZ P f N S Q l p [b,a] Rs 0 (l.take p) k env)
  (h:cn P f N S Q l (l.drop p) k E0 st0):bt P f N S Q (.code (.region id l.toArray true)::k) env st :=
 .IN p hm hB λ_ hσ=>(hσ.two Bb ha hb).elim (λhE=>.Y0 hB hσ hE h1 (H1 h)) (λhE=>.Y0 hB hσ hE h2 (H2 h))
end run
section rules
variable {P:Program} {f:Ctx} {N:Nat} {S:Start} {Q:EV->St->Prop} {k:List Item} {todo:List Item} {base:Nat} {env:Env} {st:St} {ops rest:List Oper}
 {d:Option Tmp} {ty:TypeId} {pos:String} {after:Array Edge} {gd:Option (Nat×Bool)} {t t2 e:TypeId} {x y z:Operand}
section sl
variable {α:Type} {sz:Nat} {row:α->List D} {l:List α} {ev:EV} {inf:TypeInfo} {tk tk2 n n2:Nat}
theorem qW {l':List α} {zv:Value} {e0 w2:EV} (ht:P.underlying t=some (.slice e)) (hi:P.info? e=some inf) (hz:inf.zero=some zv) (fw:inf.size=sz) (rZ:zv.cells.size=sz) (hb:inf.bytes<=100000)
  (hx:cX env x=some e0) (h0:e0=.d (.e0 sz)∨e0=.d bd) (fc:st.ar[tk]?=some ⟨e,sz,0,some (([]:List α).map row)⟩) (hy:cX env y=some w2) (hs:wC w2=some (sz,l'.map row)) (hn:l'.length<=1000000000) :
  xY P base env st ⟨d,.call ⟨.builtin .append,#[x,y],#[t,t]⟩,ty,pos,after,gd⟩ (.vc tk ([]++l').length) (st.bD tk ⟨e,sz,([]++l').length,some (([]++l').map row)⟩):=by
 intro g w tmps hinv he;have hdx:dA g.lim w (.e0 sz) (Act.eval ⟨tmps,[]⟩ x):=by
  rcases h0 with rfl|rfl
  ·cases aP he hx with|d _ _ h=>exact h
  ·rw [(aP he hx).bN];exact .e0 sz none (.inl rfl)
 have hlen:tk<st.ar.length:=(zad.1 fc).1;have mY:bK g w st (.vc tk 0) (Act.eval ⟨tmps,[]⟩ x):=by
  generalize hv:Act.eval ⟨tmps,[]⟩ x=v at hdx;cases hdx with|e0 _ A hA=>exact Rh hlen fc ⟨A,rfl⟩
 obtain ⟨news,xr⟩:=vH (P:=P) (tH hs (aP he hy));obtain ⟨v',g',w',iE,k1,k2,k3⟩:=Ds (ty:=ty) (l:=([]:List α)) ht ht (.inr ⟨e,rfl⟩) hi hz fw rZ hb hinv mY fc (by simpa using hn) xr;exact ⟨v',g',w',by simp [execOp,resolve,invoke,builtin,iE],k1,k2,k3⟩
end sl
theorem bt.WL {e sz:Nat} (h:bt P f N S Q todo env (st.tok ⟨e,sz,0,some []⟩)):bt P f N S Q todo env st:=by
 intro g w tmps hinv hh he hN;obtain ⟨g',h1,_,_,h2,h3⟩:=hinv.s8 ⟨e,sz,0,some []⟩ (World.ownsRow_nil w S.base _ _) (.inl ⟨rfl,rfl⟩) (λrows hr=>by cases hr;exact ⟨rfl,by simp,by simp⟩);exact h g' w tmps h2 (hh.step h3) (he.mono h3.dB) hN
end rules
def mO (L:Nat->Bool):List Nat->Nat
 | []=>0
 | e::r=>(if L e then 1 else 0)+2*mO L r
theorem CA (L:Nat->Bool):∀ (E:List Nat) (j e:Nat),E[j]?=some e->(mO L E).testBit j=L e
 | e::r,0,e',h=>by
  simp at h;subst h;unfold mO;cases hL:L e <;> simp [Nat.testBit_zero] <;> omega
 | e::r,j+1,e',h=>by
  have ih:=CA L r j e' (by simpa using h);unfold mO;rw [Nat.testBit_succ];have:((if L e then 1 else 0)+2*mO L r) / 2=mO L r:=by cases L e <;> simp <;> omega
  rw [this];exact ih
theorem KD (L:Nat->Bool):∀ E:List Nat,mO L E<2 ^ E.length
 | []=>by simp [mO]
 | e::r=>by
  have:=KD L r;unfold mO;rw [zai,Nat.pow_succ];cases L e <;> simp <;> omega
theorem Ax {L L':Nat->Bool}:∀ {E:List Nat},(∀ e∈E,L' e=L e)->mO L' E=mO L E
 | [],_=>rfl
 | e::r,h=>by
  unfold mO;rw [h e zah,Ax λx hx=>h x (zag _ hx)]
theorem Hy {L:Nat->Bool} {i:Nat} (hi:L i=false):∀ {E:List Nat} {m:Nat},E.Nodup->E[m]?=some i->mO (λj=>j==i || L j) E=mO L E+2 ^ m
 | e::r,0,hn,h=>by
  simp at h;subst h;rw [zcd] at hn;unfold mO;rw [Ax (L:=L) (E:=r) λx hx=>by
   have:x≠e:=λhh=>hn.1 (hh▸hx)
   simp [this]]
  simp [hi];omega
 | e::r,m+1,hn,h=>by
  rw [zcd] at hn;have h':r[m]?=some i:=by simpa using h
  have ih:=Hy hi hn.2 h';have fi:e≠i:=λhh=>hn.1 (hh▸zbj h')
  unfold mO;rw [ih,Nat.pow_succ];have:(e==i)=false:=by simpa using fi
  simp only [this,zcw];omega
def WM (l:List Oper) (E:List Nat) (i n:Nat):Bool :=
 E.zipIdx.all λe=>(!((dZ l []).getD i 0).testBit e.1 || n.testBit e.2) && (!(((dZ l []).getD e.1 0).testBit i || Nat.beq e.1 i) || !n.testBit e.2) && (!n.testBit e.2 || E.zipIdx.all λe'=>!((dZ l []).getD e.1 0).testBit e'.1 || n.testBit e'.2)
def IQ (l:List Oper) (E:List Nat) (i:Nat) (ns:List Nat):Bool:=(List.range (2 ^ E.length)).all λn=>!WM l E i n || ns.any λk=>Nat.beq k n
section run
variable {P:Program} {f:Ctx} {N:Nat} {S:Start} {Q:EV->St->Prop} {k:List Item}
def KE (iX:List St):List Nat->(St->Prop)->Prop
 | [],_=>True
 | n::r,p=>(∃ s,iX[n]?=some s/\p s)/\KE iX r p
theorem KE.get {iX:List St} {p:St->Prop}:∀ {ns:List Nat} {n:Nat},KE iX ns p->n∈ns->∃ s,iX[n]?=some s/\p s
 | a::r,n,h,hn=>by
  rcases zan.1 hn with e|e
  ·rw [e];exact h.1
  ·exact KE.get h.2 e
def KF (iX:List St) (d:Nat):List Nat->(St->St->Prop)->Prop
 | [],_=>True
 | n::r,p=>(∃ s s',iX[n]?=some s/\iX[n+d]?=some s'/\p s s')/\KF iX d r p
theorem KF.get {iX:List St} {d:Nat} {p:St->St->Prop}:∀ {ns:List Nat} {n:Nat},KF iX d ns p->n∈ns->∃ s s',iX[n]?=some s/\iX[n+d]?=some s'/\p s s'
 | a::r,n,h,hn=>by
  rcases zan.1 hn with e|e
  ·rw [e];exact h.1
  ·exact KF.get h.2 e
def Vp (P:Program) (N base:Nat) (l:List Oper) (E:List Nat) (iX:List St) (i:Nat) (o:Oper) (env:Env) (x:EV):Prop :=
  gD N o.dst=true/\∃ ns,IQ l E i ns=true /\
  (((!E.any λe=>Nat.beq e i)=true/\((∀ s,uQ P l env s o x)∨KE iX ns λs=>uQ P l env s o x)) ∨
   (∃ m,E[m]?=some i/\o.guard=none/\KF iX (2 ^ m) ns λs s'=>xY P base env s o x s'∨x=.d .any/\Im P base env s o s'))
def wQ (P:Program) (N base:Nat) (l:List Oper) (E:List Nat) (iX:List St):Nat->List Oper->List EV->Env->Prop
 | _,[],[],_=>True
 | i,o::os,x::xs,env=>Vp P N base l E iX i o (na l o env) x/\wQ P N base l E iX (i+1) os xs (env.put o.dst x)
 | _,_,_,_=>False
theorem wQ.length {base:Nat} {l:List Oper} {E:List Nat} {iX:List St}:∀ {i:Nat} {os:List Oper} {xs:List EV} {env:Env},wQ P N base l E iX i os xs env->xs.length=os.length
 | _,[],[],_,_=>rfl
 | _,o::os,x::xs,env,h=>by simp [wQ.length h.2]
 | _,[],x::xs,_,h=>h.elim
 | _,o::os,[],_,h=>h.elim
theorem wQ.get {base:Nat} {l:List Oper} {E:List Nat} {iX:List St}:∀ {i:Nat} {os:List Oper} {xs:List EV} {env:Env} {j:Nat} {o:Oper},wQ P N base l E iX i os xs env->os[j]?=some o ->
  ∃ x,xs[j]?=some x/\Vp P N base l E iX (i+j) o (na l o (gG env (os.take j) (xs.take j))) x
 | i,o'::os,x::xs,env,0,o,h,ho=>by
  simp at ho;subst ho;exact ⟨x,rfl,by simpa [gG] using h.1⟩
 | i,o'::os,x::xs,env,j+1,o,h,ho=>by
  obtain ⟨y,h1,h2⟩:=wQ.get (j:=j) h.2 (by simpa using ho);exact ⟨y,by simpa using h1,by simpa [gG,zcp,zdm 1 j] using h2⟩
 | i,[],xs,env,j,o,h,ho=>by simp at ho
 | i,o'::os,[],_,_,_,h,_=>h.elim
theorem bt.effN {id p:Nat} {l:List Oper} {env:Env} {st yk:St} (hm:P.follows .mixedOrders=true) (hB:ct l p=true) (E:List Nat) (iX:List St) (hn:E.Nodup) (hp:∀ e∈E,e<p) {xs:List EV}
  (h0:iX[0]?=some st) (hF:iX[2 ^ E.length-1]?=some yk) (J1:wQ P N S.base l E iX 0 (l.take p) xs env) (Ct:cn P f N S Q l (l.drop p) k (gG env (l.take p) xs) yk) :
  bt P f N S Q (.code (.region id l.toArray true)::k) env st:=by
 have YQ:p<=l.length:=by
  simp only [ct,zaq] at hB;simpa using hB.2
 have Vl:xs.length=p:=by rw [J1.length];simp;omega
 have WN:∀ E:List Nat,mO (λ_=>false) E=0:=by
  intro E
  induction E with
  | nil=>rfl
  | cons e r ih=>unfold mO;rw [ih];rfl
 have WO:∀ (L:Nat->Bool) (E:List Nat),(∀ e∈E,L e=true)->mO L E=2 ^ E.length-1:=by
  intro L E
  induction E with
  | nil=>intro _;rfl
  | cons e r ih =>
   intro h;unfold mO;rw [h e zah,ih λx hx=>h x (zag _ hx),zai,Nat.pow_succ];have:=Nat.two_pow_pos r.length;simp;omega
 refine bt.WE p xs (λL s=>iX[mO L E]?=some s) hm hB Vl (by rw [WN];exact h0) ?_ ?_
 ·intro L s i o hi ho hLi tN N5 N4;obtain ⟨x,hx,mA⟩:=J1.get (j:=i) (o:=o) (by rw [zal,zaa hi];exact ho);rw [zca] at mA;obtain ⟨hd,ns,hb,mA⟩:=mA;refine ⟨hd,x,?_⟩;have WJ:WM l E i (mO L E)=true:=by
   unfold WM;rw [zaz];rintro ⟨e,j⟩ hej;have YZ:E[j]?=some e:=by
    have:=zfd.1 hej;simpa using this
   have Rp:=CA L E j e YZ;simp only [zaq,zbx,zdk,Rp];refine ⟨⟨?_,?_⟩,?_⟩
   ·cases uH:((dZ l []).getD i 0).testBit e with
    | false=>exact .inl rfl
    | true=>exact .inr (tN e uH)
   ·cases uH:((dZ l []).getD e 0).testBit i with
    | false =>
     cases hei:Nat.beq e i with
     | false=>exact .inl rfl
     | true=>exact .inr (zav hei▸hLi)
    | true =>
     right;cases hLe:L e with
     | false=>rfl
     | true=>rw [N5 e hLe i uH] at hLi;cases hLi
   ·cases hLe:L e with
    | false=>exact .inl rfl
    | true =>
     right;rw [zaz];rintro ⟨e',j'⟩ hej';have hEj':E[j']?=some e':=by
      have:=zfd.1 hej';simpa using this
     simp only [zbx,zdk,CA L E j' e' hEj'];cases uH:((dZ l []).getD e 0).testBit e' with
     | false=>exact .inl rfl
     | true=>exact .inr (N5 e hLe e' uH)
  have Dr:mO L E∈ns:=by
   have:=zaz.1 hb (mO L E) (List.mem_range.2 (KD L E));rw [WJ] at this;simp only [zbu,zcw] at this;obtain ⟨a,ha,Bb⟩:=zfh.1 this;rw [←zav Bb];exact ha
  rcases mA with ⟨fi,vJ⟩|⟨m,hEm,hg,vJ⟩
  ·have WI:(E.any λe=>Nat.beq e i)=false:=by simpa using fi
   have hop':uQ P l (na l o (gG env ((l.take p).take i) (xs.take i))) s o x:=by
    rcases vJ with h|h
    ·exact h s
    ·obtain ⟨s0,h1,h2⟩:=h.get Dr;rw [N4] at h1;cases h1;exact h2
   refine ⟨s,hx,.inl ⟨rfl,hop'⟩,?_⟩;rw [Ax (L:=L) λe he=>by
    have:e≠i:=λhh=>by
     have:=zfa.1 WI e he;rw [hh,zfb] at this;exact this rfl
    simp [this]]
   exact N4
  ·obtain ⟨s0,s1,h1,h2,h3⟩:=vJ.get Dr;rw [N4] at h1;cases h1;refine ⟨s1,hx,?_,?_⟩
   ·rcases h3 with h|⟨ha,jZ⟩
    ·exact .inr (.inl ⟨hg,h⟩)
    ·exact .inr (.inr ⟨hg,ha,jZ⟩)
   ·rw [Hy hLi hn hEm];exact h2
 ·intro L s hL N4;rw [WO L E λe he=>hL e (hp e he),hF] at N4;cases N4;exact Ct
def CB (P:Program) (f:Ctx) (N:Nat) (S:Start) (Q:EV->St->Prop) (l:List Oper) (p:Nat) (E:List Nat) (iX:List St) (i:Nat) (os:List Oper) (k:List Item) (env:Env):Prop :=
 ∃ xs yk,iX[2 ^ E.length-1]?=some yk/\wQ P N S.base l E iX i os xs env/\cn P f N S Q l (l.drop p) k (gG env os xs) yk
variable {l:List Oper} {p:Nat} {E:List Nat} {iX:List St} {i:Nat} {os:List Oper} {env:Env} {st:St} {d:Option Tmp} {op:Op} {ty:TypeId} {pos:String} {after:Array Edge} {x:EV}
theorem CB.nil {yk:St} (hF:iX[2 ^ E.length-1]?=some yk) (h:cn P f N S Q l (l.drop p) k env yk):CB P f N S Q l p E iX i [] k env:=⟨[],yk,hF,trivial,h⟩
theorem CB.s (h:∀ s,aL P (na l ⟨d,op,ty,pos,after,none⟩ env) s ⟨d,op,ty,pos,after,none⟩ x) (fi:(!E.any λe=>Nat.beq e i)=true) (hd:gD N d=true)
  (hk:CB P f N S Q l p E iX (i+1) os k (env.put d x)):CB P f N S Q l p E iX i (⟨d,op,ty,pos,after,none⟩::os) k env:=by
 obtain ⟨xs,yk,h0,h1,h2⟩:=hk;refine ⟨x::xs,yk,h0,⟨⟨hd,List.range (2 ^ E.length),?_,.inl ⟨fi,.inl λs=>.inl ⟨rfl,(h s).g⟩⟩⟩,h1⟩,h2⟩;unfold IQ;rw [zaz];intro n hn;simp only [zbx];exact .inr (zfh.2 ⟨n,hn,zfb n⟩)
theorem CB.g (ns:List Nat) (h:KE iX ns λs=>A3 P (na l ⟨d,op,ty,pos,after,none⟩ env) s ⟨d,op,ty,pos,after,none⟩ x) (fi:(!E.any λe=>Nat.beq e i)=true) (hb:IQ l E i ns=true) (hd:gD N d=true)
  (hk:CB P f N S Q l p E iX (i+1) os k (env.put d x)):CB P f N S Q l p E iX i (⟨d,op,ty,pos,after,none⟩::os) k env:=by
 obtain ⟨xs,yk,h0,h1,h2⟩:=hk;refine ⟨x::xs,yk,h0,⟨⟨hd,ns,hb,.inl ⟨fi,.inr ?_⟩⟩,h1⟩,h2⟩;have mk:∀ {ns:List Nat},(KE iX ns λs=>A3 P (na l ⟨d,op,ty,pos,after,none⟩ env) s ⟨d,op,ty,pos,after,none⟩ x)->KE iX ns λs=>uQ P l (na l ⟨d,op,ty,pos,after,none⟩ env) s ⟨d,op,ty,pos,after,none⟩ x:=by
  intro ns
  induction ns with
  | nil=>exact λ_=>trivial
  | cons a r ih=>exact λ⟨⟨s,a1,a2⟩,b⟩=>⟨⟨s,a1,.inl ⟨rfl,a2⟩⟩,ih b⟩
 exact mk h
theorem CB.v (m:Nat) (ns:List Nat) (h:KF iX (2 ^ m) ns λs s'=>xY P S.base (na l ⟨d,op,ty,pos,after,none⟩ env) s ⟨d,op,ty,pos,after,none⟩ x s') (hE:E[m]?=some i) (hb:IQ l E i ns=true) (hd:gD N d=true)
  (hk:CB P f N S Q l p E iX (i+1) os k (env.put d x)):CB P f N S Q l p E iX i (⟨d,op,ty,pos,after,none⟩::os) k env:=by
 obtain ⟨xs,yk,h0,h3,h4⟩:=hk;refine ⟨x::xs,yk,h0,⟨⟨hd,ns,hb,.inr ⟨m,hE,rfl,?_⟩⟩,h3⟩,h4⟩;have mk:∀ {ns:List Nat},(KF iX (2 ^ m) ns λs s'=>xY P S.base (na l ⟨d,op,ty,pos,after,none⟩ env) s ⟨d,op,ty,pos,after,none⟩ x s') ->
   KF iX (2 ^ m) ns λs s'=>xY P S.base (na l ⟨d,op,ty,pos,after,none⟩ env) s ⟨d,op,ty,pos,after,none⟩ x s'∨x=.d .any/\Im P S.base (na l ⟨d,op,ty,pos,after,none⟩ env) s ⟨d,op,ty,pos,after,none⟩ s':=by
  intro ns
  induction ns with
  | nil=>exact λ_=>trivial
  | cons a r ih=>exact λ⟨⟨s,s',a1,a2,a3⟩,b⟩=>⟨⟨s,s',a1,a2,.inl a3⟩,ih b⟩
 exact mk h
theorem bt.parts {id:Nat} (p:Nat) (E:List Nat) (iX:List St) (hm:P.follows .mixedOrders=true) (hB:ct l p=true) (hn:(E.all λe=>decide (e<p))=true) (hd:E.Nodup) (h0:iX[0]?=some st)
  (h:CB P f N S Q l p E iX 0 (l.take p) k env):bt P f N S Q (.code (.region id l.toArray true)::k) env st:=by
 obtain ⟨xs,yk,h1,h2,h3⟩:=h;exact .effN hm hB E iX hd (λe he=>by simpa using zaz.1 hn e he) h0 h1 h2 h3
end run
def Dx (g:b7) (w:World) (st:St) (cs:List EV) (vs:Array Value):Prop :=
 vs.size=cs.length/\∀ (i:Nat) c (u:Value),cs[i]?=some c->vs[i]?=some u->bK g w st c u/\u.oneCell'=true
theorem Dx.lay {g:b7} {w:World} {st:St} {cs new:List EV} {vs us:Array Value} {off:Nat} (h:Dx g w st cs vs) (hn:Dx g w st new us) (hf:off+new.length<=cs.length):Dx g w st (putCells cs off new) (lay vs us off):=by
 obtain ⟨h1,h2⟩:=NW vs us off (by rw [h.1,hn.1];exact hf);refine ⟨by rw [h1,h.1];simp [putCells];omega,λi c u hc hu=>?_⟩
 have hi:i<vs.size:=by rw [←h1];exact (zau.1 hu).1
 rw [h2 i hi] at hu;unfold putCells at hc;have DQ:=h.1;have Qz:=hn.1;by_cases hA:i<off
 ·rw [zab (by omega)] at hu;rw [zat,zao (by simp;omega),zal,zaa hA] at hc;exact h.2 i c u hc hu
 ·by_cases hB:i<off+new.length
  ·rw [zaa (by omega)] at hu;rw [zat,zaw (by simp;omega),zao (by simp;omega)] at hc;have e1:(cs.take off).length=off:=by simp;omega
   rw [e1] at hc;exact hn.2 _ c u hc hu
  ·rw [zab (by omega)] at hu;rw [zaw (by simp;omega)] at hc;have e1:(cs.take off++new).length=off+new.length:=by simp;omega
   rw [e1,zbd] at hc;have e2:off+new.length+(i-(off+new.length))=i:=by omega
   rw [e2] at hc;exact h.2 i c u hc hu
def PB (place:Nat->Option (Nat×Nat)) (env:Env):List EV->List (Nat×Operand)->Option (List EV)
 | cs,[]=>some cs
 | cs,(i,x)::l=>match place i,cX env x with
  | some (off,size),some e=>match gF e with
   | some new=>match Nat.beq new.length size,Nat.ble (off+size) cs.length with
    | true,true=>PB place env (putCells cs off new) l
    | _,_=>none
   | none=>none
  | _,_=>none
theorem KG {g:b7} {w:World} {st:St} {env:Env} {tmps:Array Value} (he:dV g w st env tmps) {place:Nat->Option (Nat×Nat)}:∀ (l:List (Nat×Operand)) (cs:List EV) (vs:Array Value) (r:List EV),PB place env cs l=some r->Dx g w st cs vs ->
  ∃ us,Instr.fill place vs (l.map λp=>(p.1,Act.eval ⟨tmps,[]⟩ p.2))=some us/\Dx g w st r us/\r.length=cs.length
 | [],cs,vs,r,h,hc=>by simp [PB] at h;subst h;exact ⟨vs,rfl,hc,rfl⟩
 | (i,x)::l,cs,vs,r,h,hc=>by
  unfold PB at h;split at h
  ·rename_i off size e hp hx;split at h
   ·rename_i new hn;split at h
    ·rename_i Hn Ho;have h1:=zav Hn;have h2:=zae Ho;have Zr:Dx g w st new (Act.eval ⟨tmps,[]⟩ x).cells:=qR hn (aP he hx);have Wd:=hc.lay Zr (off:=off) (by omega);obtain ⟨us,k1,k2,k3⟩:=KG he l _ _ r h Wd;refine ⟨us,?_,k2,by rw [k3];simp [putCells];omega⟩;have hs:=Zr.1;have DQ:=hc.1;simp only [zap,Instr.fill,hp];rw [zab (by simp;omega)];exact k1
    ·cases h
   ·cases h
  ·cases h
section rules
variable {P:Program} {base:Nat} {env:Env} {st:St} {d:Option Tmp} {ty:TypeId} {pos:String} {after:Array Edge} {gd:Option (Nat×Bool)} {t:TypeId}
theorem PC {fs:Array Field} {inf:TypeInfo} {z:Value} {zs r:List EV} {l:List (Nat×Operand)} (ht:P.underlying t=some (.struct fs)) (hi:P.info? t=some inf) (hz:inf.zero=some z) (rZ:gF (.d (cv z))=some zs)
  (T3:fs.toList.all (λf=>(P.info? f.type).isSome)=true) (hl:PB (placeOf P fs) env zs l=some r):aL P env st ⟨d,.build t l.toArray,ty,pos,after,gd⟩ (.agg r):=by
 intro g base w tmps hinv he;have Aq:Dx g w st zs z.cells:=qR (g:=g) (w:=w) (st:=st) rZ (.d _ _ (qO _ _ z));obtain ⟨us,h1,h2,h3⟩:=KG he l zs z.cells r hl Aq;refine ⟨.agg us,.agg r us h2.1 (λi u hu=>?_) λi c u hc hu=>(h2.2 i c u hc hu).1,λw' hb=>?_⟩
 ·have hi':i<r.length:=by rw [←h2.1];exact (zau.1 hu).1
  exact (h2.2 i _ u (zaf hi') hu).2
 ·have YQ:(fs.mapM (λf=>do pure (f.offset,←sizeOf f.type):Field->Sem (Nat×Nat))).run P w'=.ok (fs.toList.map λf=>(f.offset,Kj P f.type)).toArray w':=by
   rw [←Array.toArray_toList (xs:=fs),zfr];simp only [Sem.run_map,Dl (P:=P) fs.toList (λf hf=>zaz.1 T3 f hf) w',Result.andThen_ok]
  have MC:(λi:Nat=>((fs.toList.map λf=>(f.offset,Kj P f.type)).toArray)[i]?)=placeOf P fs:=by
   funext i;simp [placeOf]
  simp only [execOp,Instr.build,Sem.run_bind,tL hi hz,Result.andThen_ok,run_underlying ht,YQ,zep];rw [MC];simp [h1]
theorem Fg {ps:List (Nat×Nat)} {inf:TypeInfo} {z:Value} {zs r:List EV} {l:List (Nat×Operand)} (hp:placesOf P t=some ps) (hi:P.info? t=some inf) (hz:inf.zero=some z) (rZ:gF (.d (cv z))=some zs)
  (hl:PB (λi=>ps[i]?) env zs l=some r):aL P env st ⟨d,.build t l.toArray,ty,pos,after,gd⟩ (.agg r):=by
 unfold placesOf at hp;split at hp
 ·rename_i fs hu;split at hp
  ·rename_i l7;cases hp;refine PC hu hi hz rZ l7 ?_;rw [←hl];congr 1;funext i;simp [placeOf]
  ·cases hp
 ·cases hp
end rules
section cell
variable {P:Program} {f:Ctx} {N:Nat} {S:Start} {Q:EV->St->Prop} {todo:List Item} {env:Env} {st:St}
theorem Inv.qX {g:b7} {base o ci:Nat} {w:World} {T:TypeId} {cs:List EV} {x y:EV} (h:Inv g base w st) (ho:st.aQ[o]?=some (.row T cs)) (hc:cs[ci]?=some x) (hle:eG x y) :
  Inv g base w (st.set o (.row T (cs.set ci y)))/\Step base g w st g w (st.set o (.row T (cs.set ci y))):=by
 obtain ⟨b1,b2,vs,b3,b4,b5⟩:=h.row o T cs ho;exact h.setBlock (o:=o) (x:=.row T (cs.set ci y)) (w':=w) ⟨_,ho,by simp⟩ b2 rfl (λ_ _=>rfl) rfl rfl rfl
  (λQO My DR kq=>by
   cases kq;refine ⟨vs,b3,by simpa using b4,λi c u qK hu=>?_⟩;rw [zbl] at qK;split at qK
   ·rename_i Vk;subst Vk;split at qK
    ·cases qK;have h0:=b5 ci _ u hc hu;exact ⟨hle _ _ _ _ (h0.1.mono QO),h0.2⟩
    ·cases qK
   ·have h0:=b5 i c u qK hu;exact ⟨h0.1.mono QO,h0.2⟩) (λ_ es kq=>by cases kq)
theorem bt.qX (o ci:Nat) {T:TypeId} {cs:List EV} {x y:EV} (ho:st.aQ[o]?=some (.row T cs)) (hc:cs[ci]?=some x) (hle:eG x y)
  (h:bt P f N S Q todo env (st.set o (.row T (cs.set ci y)))):bt P f N S Q todo env st:=by
 intro g w tmps hinv hh he hn;obtain ⟨h1,h2⟩:=hinv.qX ho hc hle;exact h g w tmps h1 (hh.step h2) (he.mono h2.dB) hn
end cell
def KH (P:Program) (t:TypeId) (n:Nat):Bool:=match P.info? t with
 | some i=>Nat.beq i.size n
 | none=>false
def Fh (P:Program) (g:TypeId->Option (List FK)):Nat->List Field->Option (List FK)
 | _,[]=>some []
 | n,f::fs=>match Nat.beq f.offset n,decide (f.name ≠ "_"),g f.type with
  | true,true,some k=>match KH P f.type k.length,Fh P g (n+k.length) fs with
   | true,some ks=>some (k++ks)
   | _,_=>none
  | _,_,_=>none
def Bq (P:Program):Nat->TypeId->Option (List FK)
 | 0,_=>none
 | d+1,t=>match P.underlying t with
  | some (.struct fs)=>match P.stoodInHeld t with
   | true=>none
   | false=>Fh P (Bq P d) 0 fs.toList
  | some (.array n e)=>match d,GK (P.underlying e),KH P e 1 with
   | d'+1,some k,true=>some (List.replicate n k)
   | _,_,_=>none
  | u=>match GK u with
   | some k=>some [k]
   | none=>none
def PD:Option TypeDesc->Bool
 | some (.struct _)=>true
 | some (.array _ _)=>true
 | _=>false
def CC (P:Program) (t:TypeId) (xs:List Value):Value:=match PD (P.underlying t) with
 | true=>.agg xs.toArray
 | false=>xs.headD undef
theorem tQ:∀ {ks:List FK} {xs:List Value},fitAll ks xs=true->xs.length=ks.length
 | [],[],_=>rfl
 | [],_::_,h=>by cases h
 | _::_,[],h=>by cases h
 | k::ks,x::xs,h=>by simp only [fitAll,zaq] at h;simp [tQ h.2]
theorem wR:∀ (ks ls:List FK) (xs:List Value),fitAll (ks++ls) xs=true->fitAll ks (xs.take ks.length)=true/\fitAll ls (xs.drop ks.length)=true
 | [],ls,xs,h=>⟨by simp [fitAll],by simpa using h⟩
 | k::ks,ls,[],h=>by cases h
 | k::ks,ls,x::xs,h=>by
  simp only [List.cons_append,fitAll,zaq] at h;obtain ⟨h1,h2⟩:=wR ks ls xs h.2;exact ⟨by simp [fitAll,h.1,h1],by simpa using h2⟩
theorem Fi:∀ (n:Nat) (xs ys:List Value),xs.length=ys.length->dO xs ys=(dO (xs.take n) (ys.take n) && dO (xs.drop n) (ys.drop n))
 | 0,xs,ys,_=>by simp [dO]
 | n+1,[],[],_=>by simp [dO]
 | n+1,[],_::_,h=>by cases h
 | n+1,_::_,[],h=>by cases h
 | n+1,x::xs,y::ys,h=>by
  simp only [List.take_succ_cons,List.drop_succ_cons,dO];rw [Fi n xs ys (by simpa using h),Bool.and_assoc]
section eq
variable {P:Program}
theorem Ud (t:TypeId) (w:World) (u:TypeDesc) (hu:P.underlying t=some u):(isAgg t).run P w=.ok (PD (some u)) w:=by
 unfold isAgg;simp only [Sem.run_bind,run_underlying hu,Result.andThen_ok];cases u <;> rfl
theorem KI {t:TypeId} {n:Nat} (h:KH P t n=true):∃ i,P.info? t=some i/\i.size=n:=by
 unfold KH at h;split at h
 ·rename_i i hi;exact ⟨i,hi,zav h⟩
 ·cases h
theorem Hz {d:Nat} {t:TypeId} {ks:List FK} (h:Bq P d t=some ks) (ha:PD (P.underlying t)=false):∃ k,GK (P.underlying t)=some k/\ks=[k]:=by
 cases d with
 | zero=>cases h
 | succ d =>
  unfold Bq at h;split at h
  ·rename_i hu;rw [hu] at ha;cases ha
  ·rename_i hu;rw [hu] at ha;cases ha
  ·split at h
   ·rename_i k hk;cases h;exact ⟨k,hk,rfl⟩
   ·cases h
theorem HA {d:Nat} {t:TypeId} {ks:List FK} (h:Bq P d t=some ks) {X:Array Value} {off:Nat} {xs:List Value} (hl:xs.length=ks.length) (hs:KH P t ks.length=true)
  (hX:∀ (j:Nat) v,xs[j]?=some v->X[off+j]?=some v) (w:World):(part t X off).run P w=.ok (CC P t xs) w:=by
 obtain ⟨i,hi,fT⟩:=KI hs;cases ha:PD (P.underlying t) with
 | false =>
  obtain ⟨k,hk,rfl⟩:=Hz h ha
  match xs,hl with
  | [v],_ =>
   have:=vL hk (cs:=X) (off:=off) (v:=v) (by simpa using hX 0 v rfl) w;simpa [CC,ha] using this
 | true =>
  cases hu:P.underlying t with
  | none=>rw [hu] at ha;cases ha
  | some u =>
   have hA:=Ud (P:=P) t w u hu;rw [hu] at ha;rw [ha] at hA;have uC:CC P t xs=.agg xs.toArray:=by unfold CC;rw [hu,ha]
   have hx:X.extract off (off+ks.length)=xs.toArray:=by
    apply Array.ext';apply zcm;intro j;by_cases hj:j<xs.length
    ·have h1:=hX j _ (zaf hj);have h2:=(zau.1 h1).1;rw [zcl,Array.getElem?_extract];show _=xs[j]?;rw [zaf hj,zaa (by omega)];exact h1
    ·rw [zcl,Array.getElem?_eq_none (by simp;omega),zbp (by simp;omega)]
   simp only [part,Sem.run_bind,hA,Result.andThen_ok,zbt,pX hi,fT,hx,uC,Sem.run_pure]
theorem HB {d:Nat} (n:Nat) (w:World) (ih:∀ (t:TypeId) (ks:List FK) (xs ys:List Value),Bq P d t=some ks->fitAll ks xs=true->fitAll ks ys=true->(Op.equalIn (n+d) t (CC P t xs) (CC P t ys)).run P w=.ok (dO xs ys) w) :
  ∀ (fs:List Field) (k:Nat) (ks:List FK) (xs ys:List Value) (X Y:Array Value),Fh P (Bq P d) k fs=some ks->fitAll ks xs=true->fitAll ks ys=true ->
  (∀ (j:Nat) v,xs[j]?=some v->X[k+j]?=some v)->(∀ (j:Nat) v,ys[j]?=some v->Y[k+j]?=some v)->(Op.eqFields (n+d) X Y fs).run P w=.ok (dO xs ys) w
 | [],k,ks,xs,ys,X,Y,h,hx,hy,_,_=>by
  simp only [Fh,Option.some.injEq] at h;subst h
  match xs,ys with
  | [],[]=>rfl
  | _::_,_=>cases hx
  | [],_::_=>cases hy
 | f::fs,k,ks,xs,ys,X,Y,h,hx,hy,hX,hY=>by
  unfold Fh at h;split at h
  ·rename_i kk h1 h2 h3;split at h
   ·rename_i ZD h4 h5;simp only [Option.some.injEq] at h;subst h;have ho:=zav h1;have Kr:f.name ≠ "_" := zcs h2;obtain ⟨a1,a2⟩:=wR _ _ _ hx;obtain ⟨b1,b2⟩:=wR _ _ _ hy;have hlx:=tQ hx;have hly:=tQ hy;have px:=HA h3 (X:=X) (off:=f.offset) (tQ a1) h4 (λj v hv=>by
     rw [zal] at hv;split at hv
     ·rw [ho];exact hX j v hv
     ·cases hv) w
    have py:=HA h3 (X:=Y) (off:=f.offset) (tQ b1) h4 (λj v hv=>by
     rw [zal] at hv;split at hv
     ·rw [ho];exact hY j v hv
     ·cases hv) w
    have pe:=ih _ _ _ _ h3 a1 b1;have rest:=HB n w ih fs (k+kk.length) ZD _ _ X Y h5 a2 b2 (λj v hv=>by rw [zbd] at hv;have:=hX _ v hv;rwa [show k+kk.length+j=k+(kk.length+j) by omega])
     (λj v hv=>by rw [zbd] at hv;have:=hY _ v hv;rwa [show k+kk.length+j=k+(kk.length+j) by omega])
    rw [Fi kk.length xs ys (by omega)];simp only [Op.eqFields,zaa Kr,Sem.run_bind,px,py,pe,Result.andThen_ok,Sem.run_ite];cases dO (xs.take kk.length) (ys.take kk.length)
    ·rfl
    ·simpa using rest
   ·cases h
  ·cases h
theorem HC {e:TypeId} {k:FK} (hk:GK (P.underlying e)=some k) (hs:P.cellsOf e=1) (n:Nat) (w:World) (X Y:Array Value) :
  ∀ (m i:Nat) (xs ys:List Value),fitAll (List.replicate m k) xs=true->fitAll (List.replicate m k) ys=true ->
  (∀ (j:Nat) v,xs[j]?=some v->X[i+j]?=some v)->(∀ (j:Nat) v,ys[j]?=some v->Y[i+j]?=some v) ->
  (Op.eqItems (n+1) e (P.cellsOf e) X Y (List.range' i m)).run P w=.ok (dO xs ys) w
 | 0,i,xs,ys,hx,hy,_,_=>by
  match xs,ys with
  | [],[]=>rfl
  | _::_,_=>cases hx
  | [],_::_=>cases hy
 | m+1,i,[],ys,hx,_,_,_=>by cases hx
 | m+1,i,x::xs,[],_,hy,_,_=>by cases hy
 | m+1,i,x::xs,y::ys,hx,hy,hX,hY=>by
  simp only [List.replicate_succ,fitAll,zaq] at hx hy;have px:=vL hk (cs:=X) (off:=i) (by simpa using hX 0 x rfl) w;have py:=vL hk (cs:=Y) (off:=i) (by simpa using hY 0 y rfl) w;have pe:=yg hk hx.1 hy.1 n w;have ih:=HC hk hs n w X Y m (i+1) xs ys hx.2 hy.2 (λj v hv=>by have:=hX (j+1) v (by simpa using hv);rwa [show i+1+j=i+(j+1) by omega]) (λj v hv=>by have:=hY (j+1) v (by simpa using hv);rwa [show i+1+j=i+(j+1) by omega]);rw [hs] at ih ⊢;simp only [List.range'_succ,Op.eqItems,Sem.run_bind,Nat.mul_one,px,py,pe,Result.andThen_ok,Sem.run_ite,dO];cases Mm x y
  ·rfl
  ·simpa using ih
theorem KJ (n:Nat) (w:World):∀ (d:Nat) (t:TypeId) (ks:List FK) (xs ys:List Value),Bq P d t=some ks->fitAll ks xs=true->fitAll ks ys=true->(Op.equalIn (n+d) t (CC P t xs) (CC P t ys)).run P w=.ok (dO xs ys) w
 | 0,t,ks,xs,ys,h,_,_=>by cases h
 | d+1,t,ks,xs,ys,h,hx,hy=>by
  cases ha:PD (P.underlying t) with
  | false =>
   obtain ⟨k,hk,rfl⟩:=Hz h ha
   match xs,ys,hx,hy with
   | [x],[y],hx,hy =>
    simp only [fitAll,zeu] at hx hy;have:=yg hk hx hy (n+d) w;simp only [CC,ha,dO,List.headD_cons,zeu];exact this
   | [],_,hx,_=>cases hx
   | _::_::_,_,hx,_=>simp [fitAll] at hx
   | [x],[],_,hy=>cases hy
   | [x],_::_::_,_,hy=>simp [fitAll] at hy
  | true =>
   have WQ:∀ zs,CC P t zs=.agg zs.toArray:=λzs=>by unfold CC;rw [ha]
   rw [WQ,WQ];unfold Bq at h;cases hu:P.underlying t with
   | none=>rw [hu] at ha;cases ha
   | some u =>
    rw [hu] at h ha;cases u with
    | struct fs =>
     simp only at h;split at h
     ·cases h
     ·rename_i NZ;have T3:P.fieldsOf t=fs:=by simp [Program.fieldsOf,hu]
      rw [show n+(d+1)=(n+d)+1 by omega,run_equalIn_struct w (n+d) t _ _ (by rw [T3];exact hu) NZ,T3];exact HB n w (KJ n w d) fs.toList 0 ks xs ys _ _ h hx hy (λj v hv=>by simpa using hv) (λj v hv=>by simpa using hv)
    | array m e =>
     simp only at h;split at h
     ·rename_i d' k hk hs;cases h;obtain ⟨i,hi,fT⟩:=KI hs;have hc:P.cellsOf e=1:=by simp [Program.cellsOf,hi,fT]
      rw [show n+(d'+1+1)=(n+d'+1)+1 by omega,run_equalIn_array w (n+d'+1) _ _ hu hi,List.range_eq_range'];exact HC hk hc (n+d') w _ _ m 0 xs ys hx hy (λj v hv=>by simpa using hv) (λj v hv=>by simpa using hv)
     ·cases h
    | _=>cases ha
end eq
def N6 (P:Program) (t:TypeId):Option (List FK):=match P.eqGuardType P.depth t,PD (P.underlying t) with
 | false,true=>Bq P 4 t
 | _,_=>none
section rules
variable {P:Program} {base:Nat} {env:Env} {st:St} {d:Option Tmp} {ty:TypeId} {pos:String} {after:Array Edge} {gd:Option (Nat×Bool)} {t t2:TypeId} {x y:Operand}
variable {ks:List FK} {cs ds:List D} {xs ys:List Value}
theorem Rt (h:N6 P t=some ks) (hx:fitAll ks xs=true) (hy:fitAll ks ys=true) (w:World) (op:BinOp) (x y:Operand) :
  (eqGuard op t x y (.agg xs.toArray) (.agg ys.toArray)).run P w=.ok () w/\(Op.equalIn 10000 t (.agg xs.toArray) (.agg ys.toArray)).run P w=.ok (dO xs ys) w:=by
 unfold N6 at h;split at h
 ·rename_i hg ha;refine ⟨run_eqGuard_agg w op t x y _ _ hg,?_⟩;have:=KJ (P:=P) 9996 w 4 t ks xs ys h hx hy;have WQ:∀ zs,CC P t zs=.agg zs.toArray:=λzs=>by unfold CC;rw [ha]
  rw [WQ,WQ] at this;exact this
 ·cases h
section steq
variable (hk:N6 P t=some ks) (hx:cX env x=some (.d (.agg cs))) (hy:cX env y=some (.d (.agg ds))) (h1:TD cs=some xs) (h2:TD ds=some ys) (h3:fitAll ks xs=true) (h4:fitAll ks ys=true)
include hk hx hy h1 h2 h3 h4
theorem Ue:aL P env st ⟨d,.binOp .neq t x y t2,ty,pos,after,gd⟩ (.d (.ex (.bool (!dO xs ys)))):=qQ λg w tmps w' he=>by
 obtain ⟨k1,k2⟩:=Rt hk h3 h4 w' .neq x y;have e1:Act.eval ⟨tmps,[]⟩ x=.agg xs.toArray:=by cases aP he hx with|d _ _ h=>exact tu h1 h
 have e2:Act.eval ⟨tmps,[]⟩ y=.agg ys.toArray:=by cases aP he hy with|d _ _ h=>exact tu h2 h
 simp only [execOp,e1,e2,Sem.run_bind,k1,Result.andThen_ok,run_neq_struct,k2,Sem.run_pure]
end steq
theorem WR {a b:Int} {k:IntKind} {ts:Array TypeId} (hx:cX env x=some (.d (.ex (.int k a)))) (hy:cX env y=some (.d (.ex (.int k b)))) :
  aL P env st ⟨d,.call ⟨.builtin .min,#[x,y],ts⟩,ty,pos,after,gd⟩ (.d (.ex (.int k (if b<a then b else a)))):=qQ λg w tmps w' he=>by
 simp [execOp,(aP he hx).bN,(aP he hy).bN,resolve,invoke,builtin,run_min_int2]
theorem WS {a b:Int} {k:IntKind} {ts:Array TypeId} (hx:cX env x=some (.d (.ex (.int k a)))) (hy:cX env y=some (.d (.ex (.int k b)))) :
  aL P env st ⟨d,.call ⟨.builtin .max,#[x,y],ts⟩,ty,pos,after,gd⟩ (.d (.ex (.int k (if b > a then b else a)))):=qQ λg w tmps w' he=>by
 simp [execOp,(aP he hx).bN,(aP he hy).bN,resolve,invoke,builtin,run_max_int2]
end rules
section freezeCell
variable {P:Program} {f:Ctx} {N:Nat} {S:Start} {Q:EV->St->Prop} {todo:List Item} {env:Env} {st:St}
theorem bt.freezeCell {α:Type} {l:List α} {row:α->List D} (o ci:Nat) {tk e sz n:Nat} {T:TypeId} {cs:List EV} (ho:st.aQ[o]?=some (.row T cs)) (hc:cs[ci]?=some (.vc tk n)) (fc:st.ar[tk]?=some ⟨e,sz,n,some (l.map row)⟩)
  (h:bt P f N S Q todo env ((st.bD tk ⟨e,sz,l.length,none⟩).set o (.row T (cs.set ci (.d (.sl sz (l.map row))))))):bt P f N S Q todo env st:=by
 refine .WD fc λhn=>?_
 subst hn;intro g w tmps hinv hh he hN;obtain ⟨g',h1,h2,h3,h4⟩:=hinv.freeze fc;have Gx:(st.bD tk ⟨e,sz,l.length,none⟩).aQ[o]?=some (.row T cs):=ho;obtain ⟨a1,a2,us0,a3,a4,a5⟩:=hinv.row o T cs ho;obtain ⟨b1,b2,vs,b3,b4,b5⟩:=h2.row o T cs Gx;have A9:g'.ob o=g.ob o:=h3.dB.ob o (zad.1 ho).1;have DQ:us0=vs:=by rw [A9,a3] at b3;cases b3;rfl
 subst DQ;obtain ⟨k1,k2⟩:=h2.setBlock (o:=o) (x:=.row T (cs.set ci (.d (.sl sz (l.map row))))) (w':=w) ⟨_,Gx,by simp⟩ b2 rfl (λ_ _=>rfl) rfl rfl rfl
  (λQO My DR kq=>by
   cases kq;refine ⟨us0,b3,by simpa using b4,λi c u qK hu=>?_⟩;rw [zbl] at qK;split at qK
   ·rename_i Vk;subst Vk;split at qK
    ·cases qK;have h0:=a5 ci _ u hc hu;refine ⟨?_,h0.2⟩;rcases sV hinv fc h0.1 with hv|⟨n0,r0,A,hv⟩
     ·rw [hv];exact .d _ _ (h4.mono QO.cX)
     ·rw [r0,hv];exact .d _ _ (.nil sz A)
    ·cases qK
   ·have h0:=b5 i c u qK hu;exact ⟨h0.1.mono QO,h0.2⟩) (λ_ es kq=>by cases kq)
 exact h g' w tmps k1 (hh.step (h3.trans k2)) ((he.mono h3.dB).mono k2.dB) hN
variable {ops rest:List Oper} {k:List Item}
theorem cn.freezeCell {α:Type} {l:List α} {row:α->List D} (o ci:Nat) {tk e sz n:Nat} {T:TypeId} {cs:List EV} (ho:st.aQ[o]?=some (.row T cs)) (hc:cs[ci]?=some (.vc tk n)) (fc:st.ar[tk]?=some ⟨e,sz,n,some (l.map row)⟩)
  (h:cn P f N S Q ops rest k env ((st.bD tk ⟨e,sz,l.length,none⟩).set o (.row T (cs.set ci (.d (.sl sz (l.map row))))))):cn P f N S Q ops rest k env st :=
 λj hj=>.freezeCell o ci ho hc fc (h j hj)
theorem cn.qX (o ci:Nat) {T:TypeId} {cs:List EV} {x y:EV} (ho:st.aQ[o]?=some (.row T cs)) (hc:cs[ci]?=some x) (hle:eG x y)
  (h:cn P f N S Q ops rest k env (st.set o (.row T (cs.set ci y)))):cn P f N S Q ops rest k env st :=
 λj hj=>.qX o ci ho hc hle (h j hj)
end freezeCell
theorem aF.ofE {P:Program} {f:FuncId} {ds:List D} {r:D} (h:aR P f (ds.map EV.d) ⟨[],[]⟩ (QE (.d r) ⟨[],[]⟩)):aF P f ds (·=r) :=
 .of (h.mono λx s hq=>⟨r,hq.1,rfl⟩)
def Ru (t:Nat):List Nat->Bool
 | []=>false
 | a::l=>match Nat.beq t a with
  | true=>true
  | false=>Ru t l
def Uf {β:Type} (t:Nat):List (Nat×β)->Option β
 | []=>none
 | (a,y)::l=>match Nat.beq t a with
  | true=>some y
  | false=>Uf t l
def sJ:List Prop->Prop
 | []=>True
 | [p]=>p
 | p::q::l=>p/\sJ (q::l)
theorem sJ.c {p:Prop} {l:List Prop} (h:sJ (p::l)):p/\sJ l:=by
 cases l with
 | nil=>exact ⟨h,trivial⟩
 | cons q l=>exact h
def Al {α:Type} (p:α->Prop):List α->Prop
 | []=>True
 | a::l=>p a/\Al p l
theorem IS {p:Nat->Prop} {t:Nat}:∀ {l:List Nat},Al p l->Ru t l=true->p t
 | [],_,h=>by cases h
 | a::l,⟨h1,h2⟩,h=>by
  unfold Ru at h;split at h
  ·rename_i hb;have:=zav hb;subst this;exact h1
  ·exact IS h2 h
theorem Ay {β:Type} {p:Nat×β->Prop} {t:Nat} {y:β}:∀ {l:List (Nat×β)},Al p l->Uf t l=some y->p (t,y)
 | [],_,h=>by cases h
 | (a,z)::l,⟨h1,h2⟩,h=>by
  unfold Uf at h;split at h
  ·rename_i hb;have:=zav hb;subst this;cases h;exact h1
  ·exact Ay h2 h
def nh {α β:Type _}:List α->(List α->β)->β
 | [],k=>k []
 | a::l,k=>nh l λl'=>k (a::l')
theorem qY {α β:Type _}:∀ (l:List α) (k:List α->β),nh l k=k l
 | [],_=>rfl
 | a::l,k=>qY l λl'=>k (a::l')
def Rv {β:Type _} (env:Env) (d:Option Tmp) (x:EV) (k:Env->β):β:=match d with
 | some d=>k ((d,x)::env)
 | none=>k env
theorem Eo {β:Type _} (env:Env) (d:Option Tmp) (x:EV) (k:Env->β):Rv env d x k=k (env.put d x):=by cases d <;> rfl
structure FT where
 one:List Nat
 agg:List (Nat×Nat)
 sz:List (Nat×Nat)
 fo:List (Nat×List (Nat×Nat))
 zr:List (Nat×List D)
def FT.Ok (P:Program) (T:FT):Prop :=
 Al (λt=>(P.underlying t).map lT=some true) T.one/\Al (λx=>(P.underlying x.1).map lT=some false/\(P.info? x.1).map (·.size)=some x.2) T.agg/\Al (λx=>(P.info? x.1).map (·.size)=some x.2) T.sz /\
 Al (λx=>Al (λy=>fW P x.1 y.1=some y.2) x.2) T.fo/\Al (λx=>∃ z,(P.info? x.1).bind (·.zero)=some z/\gF (.d (cv z))=some (x.2.map EV.d)) T.zr
def dOf:Option D->Option EV
 | some x=>some (.d x)
 | none=>none
def isU8:IntKind->Bool
 | .u8=>true
 | _=>false
def ZP (op:BinOp) (a b:Int):Option Bool:=match op with
 | .lss=>some (decide (a<b))
 | .leq=>some (decide (a<=b))
 | .gtr=>some (decide (a > b))
 | .geq=>some (decide (a>=b))
 | .eql=>some (a==b)
 | .neq=>some (a != b)
 | _=>none
def ZQ (op:BinOp) (a b:List UInt8):Option Bool:=match op with
 | .eql=>some (a==b)
 | .neq=>some (a != b)
 | _=>none
def exB:Option Bool->Option D
 | some b=>some (.ex (.bool b))
 | none=>none
def WT (op:BinOp) (x y:D):Option D:=match x with
 | .ex (.int k a)=>match isU8 k with
  | true=>none
  | false=>match y with
   | .ex (.int k' b)=>match decide (k=k') with
    | true=>exB (ZP op a b)
    | false=>none
   | _=>none
 | .ex (.string ⟨⟨a⟩⟩)=>match y with
  | .ex (.string ⟨⟨b⟩⟩)=>exB (ZQ op a b)
  | _=>none
 | _=>none
def Vq (n:Nat) (cs:List EV) (off:Nat):Option EV:=match Nat.ble (off+n) cs.length with
 | true=>match Pj ((cs.drop off).take n) with
  | some ds=>some (.d (.agg ds))
  | none=>none
 | false=>none
def Vr (n:Nat) (cs:List D):Option EV:=match Nat.beq cs.length n with
 | true=>some (.d (.agg cs))
 | false=>match Nat.ble n cs.length with
  | true=>some (.d (.agg (cs.take n)))
  | false=>none
def rowOf (st:St) (o:Nat):Option (TypeId×List EV):=match st.aQ[o]? with
 | some (.row ty cs)=>some (ty,cs)
 | _=>none
def qv (T:FT) (env:Env) (st:St):Op->Option EV
 | .move x=>cX env x
 | .assign x=>cX env x
 | .nilCheck x=>match cX env x with
  | some (.ref o f)=>some (.ref o f)
  | _=>none
 | .extract x i=>match cX env x with
  | some (.d (.eF cs))=>dOf cs[i]?
  | some (.eF cs)=>cs[i]?
  | _=>none
 | .binOp op t x y t2=>match cX env x with
  | some (.d a)=>match cX env y with
   | some (.d b)=>dOf (WT op a b)
   | _=>none
  | _=>none
 | .unOp .not t x=>match cX env x with
  | some (.d (.ex (.bool a)))=>some (.d (.ex (.bool (!a))))
  | _=>none
 | .fieldAddr s x f=>match Uf s T.fo with
  | some fs=>match Uf f fs with
   | some off=>match cX env x with
    | some (.ref o o0)=>some (.ref o (o0+off))
    | some (.d (.ro cs))=>some (.d (.ro (cs.drop off)))
    | some (.vp t k i o)=>some (.vp t k i (o+off))
    | _=>none
   | none=>none
  | none=>none
 | .load t x=>match cX env x with
  | some (.ref o off)=>match rowOf st o with
   | some (_,cs)=>match Ru t T.one with
    | true=>cs[off]?
    | false=>match Uf t T.agg with
     | some n=>Vq n cs off
     | none=>none
   | none=>none
  | some (.d (.ro cs))=>match Ru t T.one with
   | true=>match cs with
    | c::_=>some (.d c)
    | []=>none
   | false=>match Uf t T.agg with
    | some n=>Vr n cs
    | none=>none
  | _=>none
 | _=>none
def pk (env:Env):Op->Option (EV×Prop)
 | .pick x y z=>match cX env x with
  | some (.d (.ex (.bool a)))=>match cX env y with
   | some (.gd c (.d (.ex (.bool v))))=>match cX env z with
    | some (.d (.ex (.bool false)))=>some (.d (.ex (.bool (a && v))),c=a)
    | _=>none
   | some (.d (.ex (.bool true)))=>match cX env z with
    | some (.gd c (.d (.ex (.bool v))))=>some (.d (.ex (.bool (a || v))),c=(!a))
    | _=>none
   | _=>none
  | _=>none
 | _=>none
section q
variable {P:Program} {T:FT} {env:Env} {st:St} {d:Option Tmp} {ty:TypeId} {pos:String} {after:Array Edge} {gd:Option (Nat×Bool)}
theorem WU {op:BinOp} {a b r:D} {x y:Operand} {t t2:TypeId} (hx:cX env x=some (.d a)) (hy:cX env y=some (.d b)) (h:WT op a b=some r):aL P env st ⟨d,.binOp op t x y t2,ty,pos,after,gd⟩ (.d r):=by
 unfold WT at h;split at h
 ·split at h
  ·cases h
  ·split at h
   ·split at h
    ·rename_i hk;have hk:=zcs hk;subst hk;unfold ZP exB at h;cases op <;> simp at h <;> subst h
     ·exact Ze hx hy
     ·exact Vc hx hy
     ·exact U8 hx hy
     ·exact U9 hx hy
     ·exact Va hx hy
     ·exact Vb hx hy
    ·cases h
   ·cases h
 ·split at h
  ·unfold ZQ exB at h;cases op <;> simp at h <;> subst h
   ·exact V0 hx hy
   ·exact V3 hx hy
  ·cases h
 ·cases h
theorem Fj (hT:T.Ok P) {op:Op} {x:EV} (h:qv T env st op=some x):aL P env st ⟨d,op,ty,pos,after,gd⟩ x:=by
 obtain ⟨h1,h2,h3,h4,h5⟩:=hT;unfold qv at h;split at h
 ·exact cD h
 ·exact J9 h
 ·split at h
  ·rename_i hx;cases h;exact eM hx
  ·cases h
 ·split at h
  ·rename_i hx;unfold dOf at h;split at h
   ·rename_i hc;cases h;exact cC hx hc
   ·cases h
  ·rename_i hx;exact Mx hx h
  ·cases h
 ·split at h
  ·rename_i a hx;split at h
   ·rename_i b hy;unfold dOf at h;split at h
    ·rename_i r hr;cases h;exact WU hx hy hr
    ·cases h
   ·cases h
  ·cases h
 ·split at h
  ·rename_i hx;cases h;exact Zh hx
  ·cases h
 ·split at h
  ·rename_i fs hl;split at h
   ·rename_i off hf;have:=Ay (Ay h4 hl) hf;split at h
    ·rename_i hx;cases h;exact bz this hx
    ·rename_i hx;cases h;exact Pk this hx
    ·rename_i hx;cases h;exact Pw this hx
    ·cases h
   ·cases h
  ·cases h
 ·split at h
  ·rename_i o off hx;split at h
   ·rename_i My cs hr;unfold rowOf at hr;split at hr
    ·rename_i ty2 cs2 ho;cases hr;split at h
     ·rename_i hm;exact cw (IS h1 hm) hx ho h
     ·split at h
      ·rename_i n hl;unfold Vq at h;split at h
       ·rename_i hn;split at h
        ·rename_i ds hd;cases h;have:=Ay h2 hl;exact bP this.1 this.2 hx ho (zae hn) hd
        ·cases h
       ·cases h
      ·cases h
    ·cases hr
   ·cases h
  ·rename_i cs hx;split at h
   ·rename_i hm;split at h
    ·cases h;exact V4 (IS h1 hm) hx
    ·cases h
   ·split at h
    ·rename_i n hl;have:=Ay h2 hl;unfold Vr at h;split at h
     ·rename_i hn;cases h;exact Po this.1 this.2 hx hn
     ·split at h
      ·rename_i hn;cases h;exact NP this.1 this.2 (zae hn) hx
      ·cases h
    ·cases h
  ·cases h
 ·cases h
theorem KK {op:Op} {x:EV} {p:Prop} (h:pk env op=some (x,p)) (hp:p):aL P env st ⟨d,op,ty,pos,after,gd⟩ x:=by
 unfold pk at h;split at h
 ·split at h
  ·rename_i a hx;split at h
   ·rename_i c v hy;split at h
    ·rename_i hz;simp only [Option.some.injEq,Prod.mk.injEq] at h;obtain ⟨rfl,rfl⟩:=h;subst hp;exact dE hx hy hz
    ·cases h
   ·rename_i hy;split at h
    ·rename_i c v hz;simp only [Option.some.injEq,Prod.mk.injEq] at h;obtain ⟨rfl,rfl⟩:=h;subst hp;exact vN hx hy hz
    ·cases h
   ·cases h
  ·cases h
 ·cases h
end q
inductive Hint where
 | g (x:EV)
 | v (x:EV) (st:St)
 | u (st:St)
 | t (x:EV) (tk:Nat) (tl:iu)
 | n (x:EV) (tl:iu)
 | r (o:Nat)
 | p (n:Nat)
  | f (k:Nat) (x:EV)
 | w (k:Nat) (st:St)
def forced (n:Nat):List Hint->Option (EV×List Hint)
 | .f k x::hs=>match Nat.beq k n with
  | true=>some (x,hs)
  | false=>none
 | _=>none
def Ug (n:Nat):List Hint->Option (St×List Hint)
 | .w k s::hs=>match Nat.beq k n with
  | true=>some (s,hs)
  | false=>none
 | _=>none
inductive Cf where
 | run (k:List Item)
 | ops (l rest:List Oper) (k:List Item)
 | draw (l:List Oper) (p:Nat) (os:List Oper) (k:List Item)
@[reducible] def PE (P:Program) (f:Ctx) (N:Nat) (S:Start) (Q:EV->St->Prop):Cf->Env->St->Prop
 | .run k=>bt P f N S Q k
 | .ops l r k=>cn P f N S Q l r k
 | .draw l p os k=>ve P f N S Q l p os k
structure Out where
 cf:Cf
 env:Env
 st:St
 ps:List Prop
def Y1 {β:Type _} (b:Bool) (env:Env):List Tmp->List Prop->(Env->List Prop->β)->β
 | [],ps,k=>k [] ps
 | t::ts,ps,k=>match lookup t env with
  | some (.gd c y)=>Y1 b env ts ((c=b)::ps) λe ps=>k ((t,y)::e) ps
  | some x=>Y1 b env ts ps λe ps=>k ((t,x)::e) ps
  | none=>Y1 b env ts ps k
theorem Br {β:Type _} {b:Bool} {env:Env}:∀ (ts:List Tmp) (ps:List Prop) (k:Env->List Prop->β),∃ e IT,Y1 b env ts ps k=k e IT/\(sJ IT->sJ ps/\zR b env e)
 | [],ps,k=>⟨[],ps,rfl,λh=>⟨h,trivial⟩⟩
 | t::ts,ps,k=>by
  unfold Y1;split
  ·rename_i c y hl;obtain ⟨e,IT,h1,h2⟩:=Br (b:=b) (env:=env) ts ((c=b)::ps) λe ps=>k ((t,y)::e) ps
   refine ⟨_,_,h1,λh=>?_⟩;obtain ⟨h34,h5⟩:=h2 h;obtain ⟨h3,h4⟩:=h34.c;exact ⟨h4,.inr (.inl (by rw [hl,h3])),h5⟩
  ·rename_i x fi hl;obtain ⟨e,IT,h1,h2⟩:=Br (b:=b) (env:=env) ts ps λe ps=>k ((t,x)::e) ps
   exact ⟨_,_,h1,λh=>⟨(h2 h).1,.inl hl,(h2 h).2⟩⟩
  ·obtain ⟨e,IT,h1,h2⟩:=Br (b:=b) (env:=env) ts ps k;exact ⟨e,IT,h1,h2⟩
def stepG (P:Program) (T:FT) (n:Nat) (st:St) (o:Oper) (b:Bool) (hs:List Hint) (F:Option Out) (K:EV->List Hint->List Prop->Option Out) (e:Env) (ps:List Prop):Option Out :=
 match forced n hs with
 | some (x,hs)=>K (.gd b x) hs ((b=true->A3 P e st o x)::ps)
 | none=>match qv T e st o.op with
  | some x=>K (.gd b x) hs ps
  | none=>match pk e o.op with
   | some (x,p)=>K (.gd b x) hs (p::ps)
   | none=>match hs with
    | .g x::hs=>K (.gd b x) hs ((b=true->A3 P e st o x)::ps)
    | _=>F
def N7 (P:Program) (T:FT) (n:Nat) (l:List Oper) (e:Env) (st:St) (o:Oper) (hs:List Hint) (ps:List Prop) (F:Option Out) (K:EV->List Hint->List Prop->Option Out):Option Out :=
 match o.guard with
 | none=>match forced n hs with
  | some (x,hs)=>K x hs (A3 P e st o x::ps)
  | none=>match qv T e st o.op with
   | some x=>K x hs ps
   | none=>match pk e o.op with
    | some (x,p)=>K x hs (p::ps)
    | none=>match hs with
     | .g x::hs=>K x hs (A3 P e st o x::ps)
     | _=>F
 | some (j,want)=>match (l[j]?).bind (·.dst) with
  | some t=>match lookup t e with
   | some c=>match Dk c want with
    | some b=>Y1 b e (EZ o.op) ps (stepG P T n st o b hs F K)
    | none=>F
   | none=>F
  | none=>F
theorem Fk {P:Program} {T:FT} (hT:T.Ok P) {n:Nat} {l:List Oper} {e:Env} {st:St} {o:Oper} {hs:List Hint} {ps:List Prop} {F:Option Out} {K:EV->List Hint->List Prop->Option Out} {out:Option Out} (h:N7 P T n l e st o hs ps F K=out) :
  out=F∨∃ x tv IT,out=K x tv IT/\(sJ IT->sJ ps/\uQ P l e st o x):=by
 obtain ⟨dst,op,ty,pos,after,guard⟩:=o;unfold N7 at h
 dsimp only at h
 split at h
 ·split at h
  ·exact .inr ⟨_,_,_,h.symm,λhp=>⟨hp.c.2,.inl ⟨rfl,hp.c.1⟩⟩⟩
  ·split at h
   ·rename_i x hq;exact .inr ⟨_,_,_,h.symm,λhp=>⟨hp,.inl ⟨rfl,(Fj hT hq).g⟩⟩⟩
   ·split at h
    ·rename_i x p hq;exact .inr ⟨_,_,_,h.symm,λhp=>⟨hp.c.2,.inl ⟨rfl,(KK hq hp.c.1).g⟩⟩⟩
    ·split at h
     ·exact .inr ⟨_,_,_,h.symm,λhp=>⟨hp.c.2,.inl ⟨rfl,hp.c.1⟩⟩⟩
     ·exact .inl h.symm
 ·rename_i j want;split at h
  ·rename_i t ht;split at h
   ·rename_i c hc;split at h
    ·rename_i b hb;obtain ⟨e',ps1,h1,h2⟩:=Br (b:=b) (env:=e) (EZ op) ps (stepG P T n st ⟨dst,op,ty,pos,after,some (j,want)⟩ b hs F K);rw [h1] at h;have mk:∀ x,(b=true->A3 P e' st ⟨dst,op,ty,pos,after,some (j,want)⟩ x)->zR b e e'->uQ P l e st ⟨dst,op,ty,pos,after,some (j,want)⟩ (.gd b x):=λx hx hE=>.inr ⟨j,want,t,c,b,x,e',rfl,ht,hc,hb,rfl,hE,hx⟩
     unfold stepG at h
     dsimp only at h
     split at h
     ·exact .inr ⟨_,_,_,h.symm,λhp=>⟨(h2 hp.c.2).1,mk _ hp.c.1 (h2 hp.c.2).2⟩⟩
     ·split at h
      ·rename_i x hq;exact .inr ⟨_,_,_,h.symm,λhp=>⟨(h2 hp).1,mk _ (λ_=>(Fj hT hq).g) (h2 hp).2⟩⟩
      ·split at h
       ·rename_i x p hq;exact .inr ⟨_,_,_,h.symm,λhp=>⟨(h2 hp.c.2).1,mk _ (λ_=>(KK hq hp.c.1).g) (h2 hp.c.2).2⟩⟩
       ·split at h
        ·exact .inr ⟨_,_,_,h.symm,λhp=>⟨(h2 hp.c.2).1,mk _ hp.c.1 (h2 hp.c.2).2⟩⟩
        ·exact .inl h.symm
    ·exact .inl h.symm
   ·exact .inl h.symm
  ·exact .inl h.symm
def Rw (P:Program) (base:Nat) (T:FT) (e:Env) (st:St) (o:Oper) (hs:List Hint) (ps:List Prop) (K:EV->St->List Hint->List Prop->Option Out):Option Out :=
  match o.guard with
  | some _=>none
  | none=>match st with
   | ⟨ob,tl⟩=>match hs with
    | .r n::hs=>match Nat.beq n ob.length with
      | false=>none
      | true=>match o.op with
        | .box t x=>match cX e x with
          | some y=>match gF y with
            | some cs=>nh cs λcs=>nh (ob++[.row t cs]) λos=>K (.ref n 0) ⟨os,tl⟩ hs ps
            | none=>none
          | none=>none
        | .alloc t=>match Uf t T.zr with
          | some zs=>nh (zs.map EV.d) λcs=>nh (ob++[.row t cs]) λos=>K (.ref n 0) ⟨os,tl⟩ hs ps
          | none=>none
        | _=>none
    | .v x st'::hs=>K x st' hs (xY P base e st o x st'::ps)
    | .u st'::hs=>K (.d .any) st' hs (Im P base e st o st'::ps)
    | .t x tk y::hs=>nh (tl.set tk y) λts=>K x ⟨ob,ts⟩ hs (xY P base e st o x (st.bD tk y)::ps)
    | .n x y::hs=>nh (tl++[y]) λts=>K x ⟨ob,ts⟩ hs (xY P base e st o x (st.tok y)::ps)
    | _=>none
def Rx (P:Program) (base:Nat) (T:FT) (n:Nat) (e:Env) (st:St) (o:Oper) (hs:List Hint) (ps:List Prop) (F:Option Out) (K:St->List Hint->List Prop->Option Out):Option Out :=
  match o.guard with
  | some _=>F
  | none=>match Ug n hs with
   | some (st',hs)=>K st' hs (Im P base e st o st'::ps)
   | none=>match o.op with
    | .store t x y=>match cX e x with
      | some (.ref ob off)=>match rowOf st ob with
        | some (ty,cs)=>match cX e y with
          | some y=>match gF y with
            | some new=>match Uf t T.sz with
              | some n=>match Nat.beq n new.length with
                | true=>match Nat.ble (off+new.length) cs.length with
                  | true=>match st with
                    | ⟨os,tl⟩=>nh (putCells cs off new) λcs=>nh (os.set ob (.row ty cs)) λos=>K ⟨os,tl⟩ hs ps
                  | false=>F
                | false=>F
              | none=>F
            | none=>F
          | none=>F
        | none=>F
      | _=>F
    | _=>F
section e
variable {P:Program} {base:Nat} {T:FT} (hT:T.Ok P) {e:Env} {st:St} {o:Oper} {hs:List Hint} {ps:List Prop} {out:Out}
include hT
theorem MN {K:EV->St->List Hint->List Prop->Option Out} (h:Rw P base T e st o hs ps K=some out) :
  o.guard=none/\∃ x st' tv IT,K x st' tv IT=some out/\(sJ IT->sJ ps/\(xY P base e st o x st'∨(x=.d .any/\Im P base e st o st'))):=by
 obtain ⟨dst,op,ty,pos,after,guard⟩:=o;unfold Rw at h
 dsimp only at h
 split at h
 ·cases h
 ·refine ⟨rfl,?_⟩;simp only [qY] at h;split at h
  ·split at h
   ·cases h
   ·rename_i hn;have hn:=zav hn;split at h
    ·rename_i t x;split at h
     ·rename_i y hy;split at h
      ·rename_i cs hc;refine ⟨_,_,_,_,h,λhp=>⟨hp,.inl ?_⟩⟩;rw [hn];exact Zn hy hc
      ·cases h
     ·cases h
    ·rename_i t;split at h
     ·rename_i zs hz;obtain ⟨z,MO,Y2⟩:=Ay hT.2.2.2.2 hz;refine ⟨_,_,_,_,h,λhp=>⟨hp,.inl ?_⟩⟩;rw [hn];exact gI MO Y2
     ·cases h
    ·cases h
  ·exact ⟨_,_,_,_,h,λhp=>⟨hp.c.2,.inl hp.c.1⟩⟩
  ·exact ⟨_,_,_,_,h,λhp=>⟨hp.c.2,.inr ⟨rfl,hp.c.1⟩⟩⟩
  ·exact ⟨_,_,_,_,h,λhp=>⟨hp.c.2,.inl hp.c.1⟩⟩
  ·exact ⟨_,_,_,_,h,λhp=>⟨hp.c.2,.inl hp.c.1⟩⟩
  ·cases h
theorem MP {n:Nat} {F r:Option Out} {K:St->List Hint->List Prop->Option Out} (h:Rx P base T n e st o hs ps F K=r):r=F∨(o.guard=none/\∃ st' tv IT,r=K st' tv IT/\(sJ IT->sJ ps/\Im P base e st o st')):=by
 obtain ⟨dst,op,ty,pos,after,guard⟩:=o;unfold Rx at h
 dsimp only at h
 split at h
 ·exact .inl h.symm
 ·split at h
  ·exact .inr ⟨rfl,_,_,_,h.symm,λhp=>⟨hp.c.2,hp.c.1⟩⟩
  simp only [qY] at h;split at h
  ·rename_i t x y;split at h
   ·rename_i ob off hx;split at h
    ·rename_i My cs hr;have hr:st.aQ[ob]?=some (.row My cs):=by
      unfold rowOf at hr;split at hr
      ·rename_i h1;cases hr;exact h1
      ·cases hr
     split at h
     ·rename_i yv hy;split at h
      ·rename_i new hc;split at h
       ·rename_i n hl;split at h
        ·rename_i hn;have hn:=zav hn;split at h
         ·rename_i hle;have fT:=Ay hT.2.2.1 hl;refine .inr ⟨rfl,_,_,_,h.symm,λhp=>⟨hp,s7 hx hy hr hc (zae hle) ?_⟩⟩;rw [←hn];exact fT
         ·exact .inl h.symm
        ·exact .inl h.symm
       ·exact .inl h.symm
      ·exact .inl h.symm
     ·exact .inl h.symm
    ·exact .inl h.symm
   ·exact .inl h.symm
  ·exact .inl h.symm
end e
def ctl (hs:List Hint) (ps:List Prop):List Item->(Cf->List Hint->List Prop->Option Out)->Option Out
 | .code (.seq x y)::k,K=>K (.run (.code x::.code y::k)) hs ps
 | .code .skip::k,K=>K (.run k) hs ps
 | .inBlock id::k,K=>K (.run k) hs ps
 | .code (.block id c)::k,K=>K (.run (.code c::.inBlock id::k)) hs ps
 | .code (.exit id)::k,K=>match exitTo id k with
  | some k'=>K (.run k') hs ps
  | none=>none
 | .code (.region id ⟨l⟩ false)::k,K=>K (.ops l l k) hs ps
 | .code (.region id ⟨l⟩ true)::k,K=>match hs with
  | .p p::hs=>nh (l.take p) λos=>K (.draw l p os k) hs ((ct l p=true)::ps)
  | _=>none
 | _,_=>none
def okO (N:Nat) (o:Oper):Bool:=match o.dst with
 | some d=>Nat.ble (d+1) N
 | none=>match o.guard with
  | none=>true
  | some _=>false
theorem N8 {N:Nat} {o:Oper} (h:okO N o=true):gD N o.dst=true/\(o.guard≠none->o.dst≠none):=by
 unfold okO at h;split at h
 ·rename_i d hd;rw [hd];exact ⟨h,λ_=>by simp⟩
 ·rename_i hd;rw [hd];split at h
  ·rename_i hg;exact ⟨rfl,λh=>absurd hg h⟩
  ·cases h
def go (P:Program) (base:Nat) (T:FT) (N:Nat):Nat->Cf->Env->St->List Hint->List Prop->Option Out
 | 0,cf,env,st,hs,ps=>match hs with
  | []=>some ⟨cf,env,st,ps⟩
  | _=>none
 | n+1,cf,env,st,hs,ps=>match cf with
  | .run k=>ctl hs ps k λcf hs ps=>go P base T N n cf env st hs ps
  | .ops l rest k=>match rest with
   | []=>go P base T N n (.run k) env st hs ps
   | o::rest=>match okO N o with
    | true=>Rx P base T (n+1) env st o hs ps
     (N7 P T (n+1) l env st o hs ps
      (Rw P base T env st o hs ps λx st hs ps=>Rv env o.dst x λenv=>go P base T N n (.ops l rest k) env st hs ps)
      λx hs ps=>Rv env o.dst x λenv=>go P base T N n (.ops l rest k) env st hs ps)
     λst hs ps=>Rv env o.dst (.d .any) λenv=>go P base T N n (.ops l rest k) env st hs ps
    | false=>none
  | .draw l p os k=>match os with
   | []=>nh (l.drop p) λr=>go P base T N n (.ops l r k) env st hs ps
   | o::os=>match okO N o with
    | true=>N7 P T (n+1) l (na l o env) st o hs ps none λx hs ps=>Rv env o.dst x λenv=>go P base T N n (.draw l p os k) env st hs ps
    | false=>none
section sound
variable {P:Program} {f:Ctx} {N:Nat} {S:Start} {Q:EV->St->Prop} {T:FT}
theorem cn.any {ops rest:List Oper} {k:List Item} {env:Env} {st:St} {o:Oper} {x:EV} (h:uQ P ops env st o x) (hd:gD N o.dst=true) (hs:o.guard≠none->o.dst≠none) (hk:cn P f N S Q ops rest k (env.put o.dst x) st) :
  cn P f N S Q ops (o::rest) k env st:=by
 obtain ⟨dst,op,ty,pos,after,guard⟩:=o;rcases h with ⟨hg,h⟩|⟨j,want,t,c,b,y,env',hg,hj,hl,hc,rfl,hE,h⟩
 ·have hg:guard=none:=hg;subst hg;exact .g h hd hk
 ·have hg:guard=_:=hg;subst hg;cases dst with
  | none=>exact absurd rfl (hs (by simp))
  | some d=>exact .ib hj hl hc hE hd h hk
theorem ve.any {l os:List Oper} {p:Nat} {k:List Item} {env:Env} {st:St} {o:Oper} {x:EV} (h:uQ P l (na l o env) st o x) (hd:gD N o.dst=true) (hk:ve P f N S Q l p os k (env.put o.dst x) st) :
  ve P f N S Q l p (o::os) k env st:=by
 obtain ⟨xs,h1,h2⟩:=hk;exact ⟨x::xs,⟨hd,h,h1⟩,h2⟩
theorem go_sound (hT:T.Ok P) (hm:P.follows .mixedOrders=true):∀ (n:Nat) (cf:Cf) (env:Env) (st:St) (hs:List Hint) (ps:List Prop) (out:Out),go P S.base T N n cf env st hs ps=some out->sJ out.ps ->
  sJ ps/\(PE P f N S Q out.cf out.env out.st->PE P f N S Q cf env st)
 | 0,cf,env,st,hs,ps,out,h,hp=>by
  unfold go at h;split at h
  ·cases h;exact ⟨hp,λh=>h⟩
  ·cases h
 | n+1,.run k,env,st,hs,ps,out,h,hp=>by
  unfold go at h
  dsimp only at h
  have ih:=λcf hs ps=>go_sound hT hm n cf env st hs ps out
  unfold ctl at h;split at h
  ·obtain ⟨h1,h2⟩:=ih _ _ _ h hp;exact ⟨h1,λh=>.seq (h2 h)⟩
  ·obtain ⟨h1,h2⟩:=ih _ _ _ h hp;exact ⟨h1,λh=>.skip (h2 h)⟩
  ·obtain ⟨h1,h2⟩:=ih _ _ _ h hp;exact ⟨h1,λh=>.inBlock (h2 h)⟩
  ·obtain ⟨h1,h2⟩:=ih _ _ _ h hp;exact ⟨h1,λh=>.block (h2 h)⟩
  ·split at h
   ·rename_i hk;obtain ⟨h1,h2⟩:=ih _ _ _ h hp;exact ⟨h1,λh=>.exit hk (h2 h)⟩
   ·cases h
  ·obtain ⟨h1,h2⟩:=ih _ _ _ h hp;exact ⟨h1,λh=>.region (h2 h)⟩
  ·split at h
   ·rw [qY] at h;obtain ⟨h1,h2⟩:=ih _ _ _ h hp;exact ⟨h1.c.2,λh=>.drawn _ hm h1.c.1 (h2 h)⟩
   ·cases h
  ·cases h
 | n+1,.ops l [] k,env,st,hs,ps,out,h,hp=>by
  unfold go at h
  dsimp only at h
  obtain ⟨h1,h2⟩:=go_sound hT hm n _ _ _ _ _ out h hp;exact ⟨h1,λh=>.nil (h2 h)⟩
 | n+1,.ops l (o::rest) k,env,st,hs,ps,out,h,hp=>by
  unfold go at h
  dsimp only at h
  split at h
  ·rename_i ho;obtain ⟨Gx,Ph⟩:=N8 ho;rcases MP (base:=S.base) hT h with h|⟨hg,st',tv,IT,h,hu⟩
   ·rcases Fk hT h.symm with h|⟨x,tv,IT,h,ha⟩
    ·obtain ⟨hg,x,st',tv,IT,h,ha⟩:=MN hT h.symm;rw [Eo] at h;obtain ⟨h1,h2⟩:=go_sound hT hm n _ _ _ _ _ out h hp;obtain ⟨h3,h4⟩:=ha h1;refine ⟨h3,λhk=>?_⟩;rcases h4 with h4|⟨rfl,h4⟩
     ·exact .op hg Gx h4 (h2 hk)
     ·exact .opU hg Gx h4 (h2 hk)
    ·rw [Eo] at h;obtain ⟨h1,h2⟩:=go_sound hT hm n _ _ _ _ _ out h.symm hp;obtain ⟨h3,h4⟩:=ha h1;exact ⟨h3,λh=>.any h4 Gx Ph (h2 h)⟩
   ·rw [Eo] at h;obtain ⟨h1,h2⟩:=go_sound hT hm n _ _ _ _ _ out h.symm hp;obtain ⟨h3,h4⟩:=hu h1;exact ⟨h3,λh=>.opU hg Gx h4 (h2 h)⟩
  ·cases h
 | n+1,.draw l p [] k,env,st,hs,ps,out,h,hp=>by
  unfold go at h
  dsimp only at h
  rw [qY] at h;obtain ⟨h1,h2⟩:=go_sound hT hm n _ _ _ _ _ out h hp;exact ⟨h1,λh=>.nil (h2 h)⟩
 | n+1,.draw l p (o::os) k,env,st,hs,ps,out,h,hp=>by
  unfold go at h
  dsimp only at h
  split at h
  ·rename_i ho;obtain ⟨Gx,Ph⟩:=N8 ho;rcases Fk hT h with h|⟨x,tv,IT,h,ha⟩
   ·cases h
   ·rw [Eo] at h;obtain ⟨h1,h2⟩:=go_sound hT hm n _ _ _ _ _ out h.symm hp;obtain ⟨h3,h4⟩:=ha h1;exact ⟨h3,λh=>.any h4 Gx (h2 h)⟩
  ·cases h
def MQ (T:FT) (env:Env) (st:St):List ResultVar->Option (List EV)
 | []=>some []
 | .tmp t::l=>match lookup t env with
  | some x=>match MQ T env st l with
   | some r=>some (x::r)
   | none=>none
  | none=>none
 | .cell a ty::l=>match lookup a env with
  | some (.ref o off)=>match qv T env st (.load ty (.tmp a)) with
   | some x=>match MQ T env st l with
    | some r=>some (x::r)
    | none=>none
   | none=>none
  | _=>none
theorem wS (hT:T.Ok P) {env:Env} {st:St}:∀ {l:List ResultVar} {es:List EV},MQ T env st l=some es->E8 P env st l es
 | [],es,h=>by cases h;trivial
 | .tmp t::l,es,h=>by
  unfold MQ at h;split at h
  ·rename_i x hx;split at h
   ·rename_i r hr;cases h;exact ⟨hx,wS hT hr⟩
   ·cases h
  ·cases h
 | .cell a ty::l,es,h=>by
  unfold MQ at h;split at h
  ·rename_i o off ha;split at h
   ·rename_i x hq;split at h
    ·rename_i r hr;cases h;exact ⟨⟨⟨o,off,ha⟩,Fj hT hq⟩,wS hT hr⟩
    ·cases h
   ·cases h
  ·cases h
theorem bt.rc {f:FuncId} (hT:T.Ok P) {fn:Func} {xs:List ResultVar} {es:List EV} {k:List Item} {env:Env} {st:St} (hf:P.funcs[f]?=some fn) (hr:fn.results=xs.toArray) (h:MQ T env st xs=some es) (hQ:Q (E9 es) st) :
  bt P (.of f) N S Q (.code .ret::k) env st:=.ZF xs es hf hr (wS hT h) hQ
theorem bt.ite {α:Type} {b:Bool} {d:Decidable (b=true)} {e1 e2:Option α} {r:α} {c:Operand} {x y:Code} {k:List Item} {env:Env} {st:St} (H:@ite _ (b=true) d e1 e2=some r) (hc:cX env c=some (.d (.ex (.bool b))))
  (ht:e1=some r->bt P f N S Q (.code x::k) env st) (hf:e2=some r->bt P f N S Q (.code y::k) env st):bt P f N S Q (.code (.cond c x y)::k) env st :=
 .cond hc (λh=>ht (by rw [zaa h] at H;exact H)) (λh=>hf (by rw [zab (by simp [h])] at H;exact H))
def MR (env:Env):List (Nat×EV)->Option Env
 | []=>some []
 | (i,_)::l=>match lookup i env with
  | some x=>match MR env l with
   | some r=>some ((i,x)::r)
   | none=>none
  | none=>none
theorem yl {env:Env}:∀ {l:List (Nat×EV)} {env':Env},MR env l=some env'->df env env'
 | [],env',h=>by cases h;trivial
 | (i,y)::l,env',h=>by
  unfold MR at h;split at h
  ·rename_i x hx;split at h
   ·rename_i r hr;cases h;exact .cons hx (.ak _) (yl hr)
   ·cases h
  ·cases h
section back
variable {todo:List Item} {env env':Env} {st st' s0:St}
theorem bt.z (h:bt P f N S Q todo env' st') (hs:st=st') (hE:MR env env'=some env'):bt P f N S Q todo env st:=hs▸.sub (yl hE) h
theorem bt.y (h:bt P f N S Q todo env' st') (hs:st=st') (hE:df env env'):bt P f N S Q todo env st:=hs▸.sub hE h
theorem bt.t (n m:Nat) (h:bt P f N S Q todo env' st') (hE:MR env env'=some env') (ho:st.aQ.take n=st'.aQ) (ht:st.ar.take m=st'.ar) (hn:(Nat.ble n st.aQ.length && Nat.ble m st.ar.length)=true)
  (tO:(Dp n m env' && st'.aQ.all (kY n m))=true) (hS:S.st=s0) (hb:(Nat.ble s0.aQ.length n && Nat.ble s0.ar.length m)=true):bt P f N S Q todo env st:=by
 simp only [zaq] at hn hb;exact .to n m (yl hE) ho ht hn.1 hn.2 tO (by rw [hS];exact zae hb.1) (by rw [hS];exact zae hb.2) h
end back
end sound
theorem Im.e {P:Program} {base:Nat} {env:Env} {st st1 st2:St} {o:Oper} (h:Im P base env st o st1) (he:st1=st2):Im P base env st o st2:=he▸h
theorem xY.e {P:Program} {base:Nat} {env:Env} {st st1 st2:St} {o:Oper} {x:EV} (h:xY P base env st o x st1) (he:st1=st2):xY P base env st o x st2:=he▸h
theorem QD.m {q:D->Prop} {r:EV} {st:St} {x:D} (hq:q x) (h:eG r (.d x)):QD q r st:=⟨x,h,hq⟩
theorem eG.mm {ds:List D} {es:List EV} (h:es=ds.map EV.d):eG (.eF es) (.d (.eF ds)):=by
 subst h;refine .vM ?_
 induction ds with
 | nil=>trivial
 | cons d ds ih=>exact ⟨.ak _,ih⟩
def ftB (P:Program) (T:FT):Bool :=
 T.one.all (λt=>decide ((P.underlying t).map lT=some true)) && T.agg.all (λx=>decide ((P.underlying x.1).map lT=some false) && decide ((P.info? x.1).map (·.size)=some x.2)) && T.sz.all (λx=>decide ((P.info? x.1).map (·.size)=some x.2)) &&
 T.fo.all (λx=>x.2.all λy=>decide (fW P x.1 y.1=some y.2))
theorem HD {α:Type} {p:α->Prop}:∀ {l:List α},(∀ x,x∈l->p x)->Al p l
 | [],_=>trivial
 | a::l,h=>⟨h a (by simp),HD λx hx=>h x (by simp [hx])⟩
theorem FT.ZR {P:Program} {T:FT} (h:ftB P T=true) (hz:Al (λx=>∃ z,(P.info? x.1).bind (·.zero)=some z/\gF (.d (cv z))=some (x.2.map EV.d)) T.zr):T.Ok P:=by
 simp only [ftB,zaq,zaz,zaj] at h;exact ⟨HD h.1.1.1,HD h.1.1.2,HD h.1.2,HD λx hx=>HD (h.2 x hx),hz⟩
def N9 (P:Program) (base:Nat) (T:FT) (N n:Nat) (cf:Cf) (env:Env) (st:St) (hs:List Hint):Option Out:=nh env λenv=>match st with
 | ⟨os,ts⟩=>nh os λos=>nh ts λts=>go P base T N n cf env ⟨os,ts⟩ hs []
theorem WV {P:Program} {base N n:Nat} {T:FT} {cf:Cf} {env:Env} {st:St} {hs:List Hint}:N9 P base T N n cf env st hs=go P base T N n cf env st hs []:=by
 unfold N9;simp only [qY]
theorem tw {P:Program} {f:Ctx} {N:Nat} {S:Start} {Q:EV->St->Prop} {T:FT} (hT:T.Ok P) (hm:P.follows .mixedOrders=true) {n:Nat} {cf:Cf} {env:Env} {st:St} {hs:List Hint} {out:Out} (h:N9 P S.base T N n cf env st hs=some out) (hp:sJ out.ps) :
  PE P f N S Q out.cf out.env out.st->PE P f N S Q cf env st:=(go_sound hT hm n cf env st hs [] out (WV▸h) hp).2
structure KL (P:Program) (t e sz:Nat):Prop where
 ht:P.underlying t=some (.slice e)
 hi:∃ inf z,P.info? e=some inf/\inf.zero=some z/\inf.size=sz/\z.cells.size=sz/\inf.bytes<=100000
theorem KL.of {P:Program} {t e sz b:Nat} {z:Value} (ht:P.underlying t=some (.slice e)) (h:∃ i,P.info? e=some i/\i.zero=some z/\i.size=sz/\i.bytes=b) (hz:z.cells.size=sz) (hb:Nat.ble b 100000=true):KL P t e sz :=
 let ⟨i,h1,h2,h3,h4⟩:=h
 ⟨ht,i,z,h1,h2,h3,hz,by rw [h4];exact zae hb⟩
section slt
variable {P:Program} {t e sz:Nat} (s:KL P t e sz) {base:Nat} {env:Env} {st:St} {d:Option Tmp} {ty:TypeId} {pos:String} {after:Array Edge} {gd:Option (Nat×Bool)} {x y:Operand} {α:Type} {row:α->List D} {l l':List α} {ev w:EV}
include s
theorem KL.n (hx:cX env x=some ev) (hs:wC ev=some (sz,l.map row)):A3 P env st ⟨d,.call ⟨.builtin .len,#[x],#[t]⟩,ty,pos,after,gd⟩ (.d (cI (l.length:Int))):=(Wx s.ht hx hs).g
theorem KL.ix [Inhabited α] {k:IntKind} {i:Int} (hx:cX env x=some ev) (hs:wC ev=some (sz,l.map row)) (hy:cX env y=some (.d (.ex (.int k i)))) (h:0<=i/\i<l.length) :
  A3 P env st ⟨d,.indexAddr t x y,ty,pos,after,gd⟩ (.d (.ro (row (nth l i.toNat)))):=by
 obtain ⟨inf,z,h1,_,h3,_⟩:=s.hi;exact (Ww s.ht h1 h3 hx hs hy h).g
theorem KL.a {tk:Nat} (hx:cX env x=some (.cY sz (l.map row) tk)) (fc:st.ar[tk]?=some ⟨e,sz,l.length,none⟩) (hy:cX env y=some w) (hs:wC w=some (sz,l'.map row)) (hn:l.length+l'.length<=1000000000) :
  xY P base env st ⟨d,.call ⟨.builtin .append,#[x,y],#[t,t]⟩,ty,pos,after,gd⟩ (.cY sz ((l++l').map row) tk) (st.bD tk ⟨e,sz,(l++l').length,none⟩):=by
 obtain ⟨inf,z,h1,h2,h3,h4,h5⟩:=s.hi;exact yX s.ht h1 h2 h3 h4 h5 hx fc hy hs hn
end slt
section ari
variable {P:Program} {env:Env} {st:St} {d:Option Tmp} {ty:TypeId} {pos:String} {after:Array Edge} {gd:Option (Nat×Bool)} {x y:Operand} {t t2:TypeId} {a b:Int}
theorem aJ (hx:cX env x=some (.d (cI a))) (hy:cX env y=some (.d (cI b))) (h:-9223372036854775808<=a+b/\a+b<=9223372036854775807):A3 P env st ⟨d,.binOp .add t x y t2,ty,pos,after,gd⟩ (.d (cI (a+b))):=(E5 hx hy h.1 h.2).g
theorem iF (hx:cX env x=some (.d (cI a))) (hy:cX env y=some (.d (cI b))) (h:-9223372036854775808<=a-b/\a-b<=9223372036854775807):A3 P env st ⟨d,.binOp .sub t x y t2,ty,pos,after,gd⟩ (.d (cI (a-b))):=(Wn hx hy h.1 h.2).g
end ari
abbrev Hint.a {α:Type} (tk e sz:Nat) (row:α->List D) (l:List α):Hint:=.t (.cY sz (l.map row) tk) tk ⟨e,sz,l.length,none⟩
def ZS (P:Program) (f:Nat):Bool:=match P.funcs[f]? with
 | some fn=>(fn.name == "runtime.NumGoroutine")==false && fn.body.isNone==false
 | none=>false
theorem enters_of {P:Program} {l:List Nat} (hl:l.all (ZS P)=true) {i f:Nat} (h:l[i]?=some f):Enters P f:=by
 have:=zaz.1 hl f (zbj h);unfold ZS at this;split at this
 ·rename_i fn hf;simp only [zaq,zeo] at this;exact ⟨fn,hf,this.1,this.2⟩
 ·cases this
abbrev Hint.i (n:Int):Hint:=.g (.d (cI n))
abbrev Hint.b (b:Bool):Hint:=.g (.d (cB b))
abbrev Hint.c (c:UInt8):Hint:=.g (.d (ZE c))
abbrev Hint.s (l:List UInt8):Hint:=.g (.d (cS l))
abbrev Hint.d (x:D):Hint:=.g (.d x)
section renew
variable {P:Program} {g:b7} {base:Nat} {w:World} {st:St}
def St.renew (st:St) (tk:Nat) (x x':iu):St:=(st.bD tk ⟨x.e,x.sz,0,none⟩).tok x'
theorem PF {tk t:Nat} {x x' y:iu} (hlen:tk<st.ar.length) (h:(st.renew tk x x').ar[t]?=some y) :
  (t=st.ar.length/\y=x')∨(t=tk/\y=⟨x.e,x.sz,0,none⟩)∨(t≠tk/\t<st.ar.length/\st.ar[t]?=some y):=by
 have hl:t<(st.renew tk x x').ar.length:=(zad.1 h).1;simp [St.renew,St.tok,St.bD] at hl;by_cases h1:t=st.ar.length
 ·subst h1;left;refine ⟨rfl,?_⟩;simpa [St.renew,St.tok,St.bD,zfc] using h
 ·right;have cJ:t<st.ar.length:=by omega
  by_cases h2:t=tk
  ·left;subst h2;refine ⟨rfl,?_⟩;simpa [St.renew,St.tok,St.bD,cJ,zao,zfc] using h
  ·right;refine ⟨h2,cJ,?_⟩;simpa [St.renew,St.tok,St.bD,cJ,zao,zbl,zcn h2] using h
theorem PG {tk t:Nat} {x x' y:iu} (ht:t≠tk) (h:st.ar[t]?=some y):(st.renew tk x x').ar[t]?=some y:=by
 have cJ:t<st.ar.length:=(zad.1 h).1;rw [←h];simp [St.renew,St.tok,St.bD,zao,cJ,zbl,zcn ht]
theorem HE {tk:Nat} {x x':iu}:(st.renew tk x x').ar[st.ar.length]?=some x':=by simp [St.renew,St.tok,St.bD]
theorem Inv.renew (h:Inv g base w st) {tk:Nat} {x x':iu} {rows bO:List (List D)} (fc:st.ar[tk]?=some x) (hx:x.own=some rows) (kq:x'.own=some bO)
  {v':Value} {w':World} {Vf:List Value} (kI:w'.ownsRow base x'.e x'.sz v' x'.n Vf)
  (hc:(v'.ownBlock=(g.tk tk).ownBlock/\w'.heap.size=w.heap.size/\w.grownBy w' (g.tk tk).ownBlock)∨(v'.ownBlock=some w.heap.size/\Below w.heap.size w w'))
  (mY:dn g.lim w x'.sz x'.n bO Vf) :
  ∃ g',g'.tk st.ar.length=v'/\Inv g' base w' (st.renew tk x x')/\Step base g w st g' w' (st.renew tk x x'):=by
 have EW:∀ b,(g.tk tk).ownBlock=some b->g.lim b=0:=λb hb=>(h.Ke fc hb).trans (Bc hx)
 have cJ:∀ b,(g.tk tk).ownBlock=some b->base<=b/\b<w.heap.size:=λb hb=>h.wz fc hb
 have hlen:tk<st.ar.length:=(zad.1 fc).1;have fw:w.heap.size<=w'.heap.size:=by rcases hc with ⟨_,h1,_⟩|⟨_,h1⟩;omega;exact h1.size
 have NN:w'.os=w.os/\w'.tape=w.tape/\w'.output=w.output:=by rcases hc with ⟨_,_,h1⟩|⟨_,h1⟩ <;> exact ⟨h1.os,h1.tape,h1.output⟩
 have mZ:∀ k,k<w.heap.size->(g.tk tk).ownBlock≠some k->w'.heap[k]?=w.heap[k]?:=by
  intro k hk fi;rcases hc with ⟨_,_,h1⟩|⟨_,h1⟩
  ·exact h1.block k hk (zcn fi)
  ·exact h1.block k hk
 have tE:∀ k,k<w.heap.size->(g.tk tk).ownBlock≠some k->v'.ownBlock≠some k:=by
  intro k hk fi;rcases hc with ⟨h1,_,_⟩|⟨h1,_⟩ <;> rw [h1]
  ·exact fi
  ·intro he;cases he;omega
 let g':b7:=⟨λb=>if v'.ownBlock=some b then 0 else g.lim b,g.ob,λt=>if t=tk then .slice none 0 0 else if t=st.ar.length then v' else g.tk t⟩
 have ya:∀ b,v'.ownBlock=some b->g'.lim b=0:=λb hb=>by show (if _ then _ else _)=_;rw [zaa hb]
 have mN:∀ b,v'.ownBlock≠some b->g'.lim b=g.lim b:=λb hb=>by show (if _ then _ else _)=_;rw [zab hb]
 have PH:g'.tk tk=.slice none 0 0:=by show (if tk=tk then _ else _)=_;rw [zaa rfl]
 have zw:g'.tk st.ar.length=v':=by show (if st.ar.length=tk then _ else _)=_;rw [zab (by omega),zaa rfl]
 have wD:∀ t,t≠tk->t<st.ar.length->g'.tk t=g.tk t:=λt ht hl=>by show (if t=tk then _ else _)=_;rw [zab ht,zab (by omega)]
 have Bd:∀ k,k<base->(g.tk tk).ownBlock≠some k:=λk hk he=>by have:=(cJ k he).1;omega
 have n9:Below base w w':=⟨NN.1,NN.2.1,NN.2.2,fw,λk hk=>mZ k (zbm hk h.base) (Bd k hk)⟩;have Be:Mj g.lim w g'.lim w':=by
  refine ⟨fw,λb hb=>?_,λb off hb ho=>?_⟩
  ·by_cases he:v'.ownBlock=some b
   ·rw [ya b he];have jZ:(g.tk tk).ownBlock=some b:=by
     rcases hc with ⟨h1,_,_⟩|⟨h1,_⟩
     ·rw [←h1];exact he
     ·rw [h1] at he;cases he;omega
    rw [EW b jZ];exact zfs _
   ·rw [mN b he];exact zar _
  ·by_cases he:(g.tk tk).ownBlock=some b
   ·rw [EW b he] at ho;omega
   ·exact World.cell?_of_block (w:=w) (a:=⟨b,off,none⟩) (mZ b hb he)
 have wL:=λ(t:Nat) (y:iu) (hy:(st.renew tk x x').ar[t]?=some y)=>PF hlen hy
 have hs:u9 g w st g' w' (st.renew tk x x'):=by
  refine ⟨Be,λ_ _=>rfl,zar _,λt e' J0 n' ht=>?_,by simp [St.renew,St.tok,St.bD],λt y KM j0 hy ho=>?_⟩
  ·have xq:t≠tk:=by
    intro e;subst e;rw [fc] at ht;cases ht;cases hx
   exact ⟨n',PG xq ht,zar _,λ_=>wD t xq (zad.1 ht).1⟩
  ·rcases wL t y hy with ⟨h1,_⟩|⟨_,h2⟩|⟨h1,h2,h3⟩
   ·omega
   ·rw [h2] at ho;cases ho
   ·exact ⟨y,KM,h3,ho,rfl,zar _,λ_=>wD t h1 h2⟩
 have Bf:∀ o,st.live o->g.ob o<w.heap.size/\(g.tk tk).ownBlock≠some (g.ob o):=λo ho=>⟨(h.wB ho).1,h.iT tk _ o fc ho⟩
 have iD:∀ t y,t≠tk->st.ar[t]?=some y->∀ b,(g.tk t).ownBlock=some b->b<w.heap.size/\(g.tk tk).ownBlock≠some b/\v'.ownBlock≠some b:=λt y xq hy b hb=>by
  have h1:=(h.wz hy hb).2;have h2:=h.oH t tk _ _ b xq hy fc hb;exact ⟨h1,h2,tE b h1 h2⟩
 refine ⟨g',zw,⟨zdo h.base fw,?_,?_,?_,h.ne,?_,?_,?_,h.DO.below n9,?_⟩,⟨hs,n9,λb hb=>mN b (tE b (zbm hb h.base) (Bd b hb)),λb hb hn=>?_,λb hb hw=>?_⟩⟩
 ·intro o ty cs hx;obtain ⟨h1,h2,vs,h3,h4,h5⟩:=h.row o ty cs hx;obtain ⟨k1,k2⟩:=Bf o ⟨_,hx,by simp⟩;exact ⟨h1,(mN _ (tE _ k1 k2)).trans h2,vs,by show w'.heap[g.ob o]?=_;rw [mZ _ k1 k2];exact h3,h4,λi c u hc hu=>⟨(h5 i c u hc hu).1.mono hs,(h5 i c u hc hu).2⟩⟩
 ·intro o es hx;obtain ⟨h1,ms,c,h3,h4,h5,h6⟩:=h.map o es hx;obtain ⟨k1,k2⟩:=Bf o ⟨_,hx,by simp⟩;exact ⟨h1,ms,c,by show w'.heap[g.ob o]?=_;rw [mZ _ k1 k2];exact h3,h4,λi k y m a b=>⟨(h5 i k y m a b).1,(h5 i k y m a b).2.mono hs⟩,h6⟩
 ·intro o y hx;obtain ⟨h1,h2,h3⟩:=h.raw o y hx;obtain ⟨k1,k2⟩:=Bf o ⟨_,hx,by simp⟩;exact ⟨h1,(mN _ (tE _ k1 k2)).trans h2,by show w'.heap[g.ob o]?=_;rw [mZ _ k1 k2];exact h3⟩
 ·intro t e' J0 n' ht;rcases wL t _ ht with ⟨h1,h2⟩|⟨h1,h2⟩|⟨h1,h2,h3⟩
  ·subst h2;cases kq
  ·subst h1;cases h2;rw [PH];exact ⟨[],World.ownsRow_nil w' base _ _,λb hb=>by cases hb⟩
  ·obtain ⟨ys,k1,k2⟩:=h.tail t e' J0 n' h3;rw [wD t h1 h2];exact ⟨ys,fv k1 λb hb=>mZ b (iD t _ h1 h3 b hb).1 (iD t _ h1 h3 b hb).2.1,λb hb=>by rw [mN b (iD t _ h1 h3 b hb).2.2];exact k2 b hb⟩
 ·intro t t' y y' b fi ht tJ hb;rcases wL t _ ht with ⟨h1,h2⟩|⟨h1,h2⟩|⟨h1,h2,h3⟩
  ·subst h1;rw [zw] at hb;rcases wL t' _ tJ with ⟨k1,k2⟩|⟨k1,k2⟩|⟨k1,k2,k3⟩
   ·exact absurd k1.symm fi
   ·rw [k1,PH];intro e;cases e
   ·rw [wD t' k1 k2];intro jZ;exact (iD t' _ k1 k3 b jZ).2.2 hb
  ·rw [h1,PH] at hb;cases hb
  ·rw [wD t h1 h2] at hb;rcases wL t' _ tJ with ⟨k1,k2⟩|⟨k1,k2⟩|⟨k1,k2,k3⟩
   ·rw [k1,zw];exact (iD t _ h1 h3 b hb).2.2
   ·rw [k1,PH];intro e;cases e
   ·rw [wD t' k1 k2];exact h.oH t t' _ _ b fi h3 k3 hb
 ·intro t y o ht ho;have mX:st.live o:=ho;obtain ⟨k1,k2⟩:=Bf o mX;rcases wL t _ ht with ⟨h1,h2⟩|⟨h1,h2⟩|⟨h1,h2,h3⟩
  ·rw [h1,zw];exact tE _ k1 k2
  ·rw [h1,PH];intro e;cases e
  ·rw [wD t h1 h2];exact h.iT t y o h3 mX
 ·intro t e' J0 n' KM ht;rcases wL t _ ht with ⟨h1,h2⟩|⟨h1,h2⟩|⟨h1,h2,h3⟩
  ·subst h1;subst h2;cases kq;rw [zw];exact ⟨_,kI,λb hb=>ya b hb,mY.mono Be⟩
  ·cases h2
  ·obtain ⟨ys,k1,k2,k3⟩:=h.own t e' J0 n' KM h3;rw [wD t h1 h2];exact ⟨ys,fv k1 λb hb=>mZ b (iD t _ h1 h3 b hb).1 (iD t _ h1 h3 b hb).2.1,λb hb=>by rw [mN b (iD t _ h1 h3 b hb).2.2];exact k2 b hb,k3.mono Be⟩
 ·have fi:(g.tk tk).ownBlock≠some b:=λe=>hn (.inr ⟨tk,x,fc,e⟩)
  exact ⟨mZ b hb fi,mN b (tE b hb fi)⟩
 ·rcases hw with ⟨o,h1,h2⟩|⟨t,y,h1,h2⟩
  ·exact .inl ⟨o,h1,h2⟩
  ·rcases wL t _ h1 with ⟨k1,k2⟩|⟨k1,k2⟩|⟨k1,k2,k3⟩
   ·rw [k1,zw] at h2;rcases hc with ⟨c1,_,_⟩|⟨c1,_⟩
    ·exact .inr ⟨tk,x,fc,by rw [←c1];exact h2⟩
    ·rw [c1] at h2;cases h2;omega
   ·rw [k1,PH] at h2;cases h2
   ·rw [wD t k1 k2] at h2;exact .inr ⟨t,y,k3,h2⟩
end renew
section rows
variable {P:Program} (w:World)
theorem rH {a b c:Nat} (h:min a b=c):Nat.min a b=c:=h
def laid (cur:List Value) (o:Nat) (cs:List Value):List Value:=cur.take o++cs++cur.drop (o+cs.length)
theorem jl {cur cs:List Value} {o:Nat} (h:o+cs.length<=cur.length):(laid cur o cs).length=cur.length:=by
 simp [laid];omega
theorem ym {cur cs:List Value} {o:Nat} (h:o+cs.length<=cur.length) (j:Nat):(laid cur o cs)[j]?=if o<=j/\j<o+cs.length then cs[j-o]? else cur[j]?:=by
 unfold laid;by_cases h1:j<o
 ·rw [zab (by omega),zat,zao (by simp;omega),zal,zaa h1]
 ·by_cases h2:j<o+cs.length
  ·rw [zaa ⟨by omega,h2⟩,zat,zaw (by simp;omega),zao (by simp;omega)];congr 1;simp;omega
  ·rw [zab (by omega),zaw (by simp;omega),zbd];congr 1;simp;omega
theorem oa {dT sT ty e:TypeId} {inf:TypeInfo} {sz b o IU WW MS WX:Nat} {cur:Array Value} {a:Addr} {cs:List Value} (ht:P.underlying dT=some (.slice e)) (hi:P.info? e=some inf) (fT:inf.size=sz)
  (hg:w.heap[b]?=some (.cells cur e (0,0))) (hl:cs.length=Nat.min MS IU*sz) (As:∀ j v,cs[j]?=some v->w.cell? (a.add j)=some v) (h1:∀ v∈cs,v.oneCell'=true) (Ba:o+cs.length<=cur.size) :
  (Builtin.copy_ #[dT,sT] ty #[.slice (some ⟨b,o,none⟩) IU WW,.slice (some a) MS WX]).run P w=.ok (goInt (Nat.min MS IU)) (w.setRow b (laid cur.toList o cs).toArray):=by
 subst fT;have hf:(Builtin.firstCells inf.size (Nat.min MS IU) (.slice (some a) MS WX)).run P w=.ok cs.toArray w:=run_firstCells_some w inf.size (Nat.min MS IU) a MS WX cs hl As;have mA:=run_storeCells_at P b o e cs 0 cur w hg (by simpa using Ba) h1;simp only [zdn] at mA;simp [Builtin.copy_,run_underlying ht,Builtin.lenOf,sizeOf,typeInfo,hi,hf,mA,goInt,laid]
theorem Az {t ty e:TypeId} {inf:TypeInfo} {z:Value} {sz b o n c:Nat} {cur:Array Value} (ht:P.underlying t=some (.slice e)) (hi:P.info? e=some inf) (hz:inf.zero=some z) (rZ:z.cells.size=sz)
  (hg:w.heap[b]?=some (.cells cur e (0,0))) (hn:0<n) (Ba:o+n*sz<=cur.size) (h1:∀ v∈(Builtin.zeroCells z.cells n).toList,v.oneCell'=true) :
  (Builtin.clear_ #[t] ty #[.slice (some ⟨b,o,none⟩) n c]).run P w=.ok (.tuple #[]) (w.setRow b (laid cur.toList o (Builtin.zeroCells z.cells n).toList).toArray):=by
 have fT:(Builtin.zeroCells z.cells n).toList.length=n*sz:=by rw [zda,size_zeroCells,rZ]
 have mA:=run_storeCells_at P b o e (Builtin.zeroCells z.cells n).toList 0 cur w hg (by rw [zdn,fT];exact Ba) h1;simp only [zdn] at mA;cases n with
 | zero=>simp at hn
 | succ n=>simp [Builtin.clear_,run_underlying ht,zeroValue,typeInfo,hi,hz,mA,laid]
theorem Fl {t ty e:TypeId} {A:Option Addr} {c:Nat} (ht:P.underlying t=some (.slice e)):(Builtin.clear_ #[t] ty #[.slice A 0 c]).run P w=.ok (.tuple #[]) w:=by
 cases A <;> simp [Builtin.clear_,run_underlying ht]
theorem HF (w:World) {o:Oper} {a:Act} {K:Act->World->Prop} {Q:Exit->Act->World->Prop} (d s:Operand) (t t':TypeId)
  (ho:o.op=.call { callee:=.builtin .copy,args:=#[d,s],argTypes:=#[t,t'] }) (v u:Value) (hd:a.eval d=v) (hs:a.eval s=u) {v':Value} {w':World}
  (hr:(Builtin.copy_ #[t,t'] o.type #[v,u]).run P w=.ok v' w') (h:K (a.put o.dst v') w'):o.wp P a w K Q:=by
 unfold Oper.wp execOp;simp only [ho,resolve,invoke,builtin,Sem.run_bind,Sem.run_pure,Result.andThen_ok,zep,zap,zbf,hd,hs,hr];exact h
theorem ku (w:World) {ops:Array Oper} {rest:List Oper} {o:Oper} {a:Act} {Q:Exit->Act->World->Prop} (Y3:o.guard=none) (d s:Operand) (t t':TypeId)
  (ho:o.op=.call { callee:=.builtin .copy,args:=#[d,s],argTypes:=#[t,t'] }) (v u:Value) (hd:a.eval d=v) (hs:a.eval s=u) {v':Value} {w':World}
  (hr:(Builtin.copy_ #[t,t'] o.type #[v,u]).run P w=.ok v' w') (h:wpList P ops Q rest (a.put o.dst v') w'):wpList P ops Q (o::rest) a w :=
 wpList_plain Y3 λ_ hK=>HF w d s t t' ho v u hd hs hr (hK _ _ h)
theorem ni {ops:Array Oper} {o:Oper} {a:Act} {w:World} {K:Act->World->Prop} {Q:Exit->Act->World->Prop} {E:Prop}
  (hg:o.guard=none) (d x:Operand) (dT sT:TypeId) (vJ:o.op=Op.call { callee:=Callee.builtin Builtin.copy,args:=#[d,x],argTypes:=#[dT,sT] })
  (v u:Value) (hd:a.eval d=v) (hx:a.eval x=u) {v':Value} {w':World} (hr:(Builtin.copy_ #[dT,sT] o.type #[v,u]).run P w=.ok v' w') (hK:K (a.put o.dst v') w') :
  if Region.wanted o (yielded ops a.tmps)=true then Oper.wp P o a w K Q else E:=by
 rw [zaa (by simp [Region.wanted,hg])];exact HF w d x dT sT vJ v u hd hx hr hK
theorem lf (w:World) {ops:Array Oper} {rest:List Oper} {o:Oper} {a:Act} {Q:Exit->Act->World->Prop} (Y3:o.guard=none) (d:Operand) (t:TypeId)
  (ho:o.op=.call { callee:=.builtin .clear,args:=#[d],argTypes:=#[t] }) (v:Value) (hd:a.eval d=v) {v':Value} {w':World}
  (hr:(Builtin.clear_ #[t] o.type #[v]).run P w=.ok v' w') (h:wpList P ops Q rest (a.put o.dst v') w'):wpList P ops Q (o::rest) a w :=
 wpList_plain Y3 λ_ hK=>by
  unfold Oper.wp execOp;simp only [ho,resolve,invoke,builtin,Sem.run_bind,Sem.run_pure,Result.andThen_ok,zep,zap,zbf,hd,hr];exact hK _ _ h
end rows
end Go.Abs
namespace Go.Abs
open Go.RowKit
section srcs
variable {P:Program} (w:World)
theorem PI {dT sT ty e:TypeId} {inf:TypeInfo} {sz b o IU WW m uc:Nat} {cur:Array Value} {A:Option Addr} {cs:List Value} (ht:P.underlying dT=some (.slice e)) (hi:P.info? e=some inf) (fT:inf.size=sz)
  (hg:w.heap[b]?=some (.cells cur e (0,0))) (hm:m<=IU) (hf:(Builtin.firstCells sz m (.slice A m uc)).run P w=.ok cs.toArray w) (h1:∀ v∈cs,v.oneCell'=true) (Ba:o+cs.length<=cur.size) :
  (Builtin.copy_ #[dT,sT] ty #[.slice (some ⟨b,o,none⟩) IU WW,.slice A m uc]).run P w=.ok (goInt m) (w.setRow b (laid cur.toList o cs).toArray):=by
 subst fT;have Uh:Nat.min m IU=m:=rH (by omega);have mA:=run_storeCells_at P b o e cs 0 cur w hg (by simpa using Ba) h1;simp only [zdn] at mA;simp [Builtin.copy_,run_underlying ht,Builtin.lenOf,sizeOf,typeInfo,hi,Uh,hf,mA,goInt,laid]
theorem Dy {t ty e:TypeId} {inf:TypeInfo} {sz b n c m uc:Nat} {cur:Array Value} {A:Option Addr} {cs:List Value} (ht:P.underlying t=some (.slice e)) (hi:P.info? e=some inf) (fT:inf.size=sz)
  (hg:w.heap[b]?=some (.cells cur e (0,0))) (uO:n+m<=c) (hf:(Builtin.firstCells sz m (.slice A m uc)).run P w=.ok cs.toArray w) (h1:∀ v∈cs,v.oneCell'=true) (Ba:n*sz+cs.length<=cur.size) :
  (Builtin.append_ #[t,t] ty #[.slice (some ⟨b,0,none⟩) n c,.slice A m uc]).run P w=.ok (.slice (some ⟨b,0,none⟩) (n+m) c) (w.setRow b (laid cur.toList (n*sz) cs).toArray):=by
 subst fT;have mA:=run_storeCells_at P b (n*inf.size) e cs 0 cur w hg (by simpa using Ba) h1;simp only [zdn] at mA;simp [Builtin.append_,run_underlying ht,sizeOf,typeInfo,hi,Builtin.lenOf,uO,hf,Addr.add_lit,mA,laid]
end srcs
theorem AA {cur cs:List Value} {o:Nat} (h:o+cs.length<=cur.length) {k:Nat} (hk:k<=o):(laid cur o cs).take k=cur.take k:=by
 apply zcm;intro j;rw [zal,zal,ym h];by_cases h1:j<k
 ·rw [zaa h1,zaa h1,zab (by omega)]
 ·rw [zab h1,zab h1]
theorem jW {cur cs:List Value} {o:Nat} (h:o+cs.length<=cur.length) {k:Nat} (hk:o+cs.length<=k):(laid cur o cs).take k=cur.take o++cs++(cur.take k).drop (o+cs.length):=by
 apply zcm;intro j;rw [zal,ym h];by_cases h1:j<o
 ·rw [zaa (by omega),zab (by omega),zat,zao (by simp;omega),zal,zaa h1]
 ·by_cases h2:j<o+cs.length
  ·rw [zaa (by omega),zaa ⟨by omega,h2⟩,zat,zaw (by simp;omega),zao (by simp;omega)];congr 1;simp;omega
  ·rw [zaw (by simp;omega),zbd,zal];have e:o+cs.length+(j-(cur.take o++cs).length)=j:=by simp;omega
   rw [e];by_cases h3:j<k
   ·rw [zaa h3,zab (by omega),zaa h3]
   ·rw [zab h3,zab h3]
theorem vh {z:Array Value} {n:Nat} (h:∀ k,k<z.size->(z[k]!).oneCell'=true):∀ v∈(Builtin.zeroCells z n).toList,v.oneCell'=true:=λv hv=>by
 simp only [Builtin.zeroCells,Array.toList_map,Array.toList_range,zdb,List.mem_range] at hv;obtain ⟨i,hi,rfl⟩:=hv;refine h _ (zem _ ?_);rcases zev z.size with h0|h0
 ·rw [h0] at hi;omega
 ·exact h0
section parts
variable {lim:Nat->Nat} {w:World} {sz n m:Nat} {rows bO:List (List D)} {xs ys:List Value}
theorem dn.take (h:dn lim w sz n rows xs) {k:Nat} (hk:k<=n):dn lim w sz k (rows.take k) (xs.take (k*sz)):=by
 have hl:=h.len;refine ⟨by rw [zba];omega,λr hr=>h.row r (zen hr),λi c u hc hu=>?_⟩
 rw [zal] at hu;split at hu
 ·refine h.rep i c u ?_ hu;rw [←zff k rows,zer,zao (zad.1 hc).1];exact hc
 ·cases hu
theorem dn.drop (h:dn lim w sz n rows xs) {k:Nat} (hk:k<=n):dn lim w sz (n-k) (rows.drop k) (xs.drop (k*sz)):=by
 have hl:=h.len;refine ⟨by rw [zbg];omega,λr hr=>h.row r (zdh hr),λi c u hc hu=>?_⟩
 rw [zbd] at hu;refine h.rep (k*sz+i) c u ?_ hu;have El:(rows.take k).flatten.length=k*sz:=by
  rw [j4 (λr hr=>h.row r (zen hr)),zba];congr 1;omega
 rw [←zff k rows,zer,zaw (by omega),El,show k*sz+i-k*sz=i from by omega];exact hc
theorem dn.app (h:dn lim w sz n rows xs) (hx:xs.length=n*sz) (h':dn lim w sz m bO ys):dn lim w sz (n+m) (rows++bO) (xs++ys):=by
 refine ⟨by rw [zak,h.len,h'.len],λr hr=>?_,λi c u hc hu=>?_⟩
 ·rcases zbb.1 hr with hr|hr
  ·exact h.row r hr
  ·exact h'.row r hr
 ·have El:rows.flatten.length=xs.length:=by rw [j4 h.row,h.len,hx]
  rw [zer] at hc;by_cases hi:i<xs.length
  ·rw [zao (by omega)] at hc;rw [zao hi] at hu;exact h.rep i c u hc hu
  ·rw [zaw (by omega)] at hc;rw [zaw (by omega)] at hu;rw [El] at hc;exact h'.rep _ c u hc hu
theorem dn.WY (h:dn lim w sz n rows xs) (hx:xs.length=n*sz) (h':dn lim w sz m bO ys) (hy:ys.length=m*sz) {i j:Nat} (N0:i<=j) (hj:j<=n) :
  dn lim w sz (i+m+(n-j)) (rows.take i++bO++rows.drop j) (xs.take (i*sz)++ys++xs.drop (j*sz)):=by
 have hle:i*sz<=n*sz:=zcz _ (by omega);refine ((h.take (by omega)).app (by rw [zba];omega) h').app (by rw [zak,zba,hy,zdi];omega) (h.drop hj)
theorem dn.one (h:dn lim w sz n rows xs) (hx:xs.length=n*sz):∀ x∈xs,x.oneCell'=true:=λx hm=>by
 obtain ⟨j,hj⟩:=zdg.1 hm;have hl:=(zad.1 hj).1;exact (h.rep j _ x (zaf (by rw [j4 h.row,h.len];omega)) hj).2
end parts
section con
variable {P:Program} {f:Ctx} {g:b7} {base:Nat} {w:World} {st:St}
theorem wT {tk n':Nat} {x:iu} {rows bO:List (List D)} (h:Inv g base w st) (fc:st.ar[tk]?=some x) (hx:x.own=some rows) {v':Value} {w':World} {Vf:List Value} (kI:w'.ownsRow base x.e x.sz v' n' Vf)
  (hc:(v'.ownBlock=(g.tk tk).ownBlock/\w'.heap.size=w.heap.size/\w.grownBy w' (g.tk tk).ownBlock)∨(v'.ownBlock=some w.heap.size/\Below w.heap.size w w')) (mY:dn g.lim w x.sz n' bO Vf) :
  ox ⟨g,w,st,base⟩ (QE (.vc st.ar.length n') (st.renew tk x ⟨x.e,x.sz,n',some bO⟩)) (.returned v') w':=by
 obtain ⟨g',h1,h2,h3⟩:=h.renew (x':=⟨x.e,x.sz,n',some bO⟩) fc hx rfl kI hc mY;refine ⟨v',_,_,g',rfl,⟨.ak _,rfl⟩,?_,h2,(rW.refl ⟨g,w,st,base⟩).step h3⟩;have hf:=(jk kI).1;refine .vc _ _ _ (by simp [St.renew,St.tok,St.bD]) (by obtain ⟨A,c,hv⟩:=hf;exact ⟨_,_,_,hv⟩) λy KM hy ho=>?_;rw [HE] at hy;cases hy;exact ⟨zar _,λ_=>.inl h1.symm⟩
theorem Ry {args:List EV} {a b c:EV} (he:args=[a,b,c]) {vs:Array Value} (h:uM g w st args vs):∃ x y z,vs=#[x,y,z]/\bK g w st a x/\bK g w st b y/\bK g w st c z:=by
 subst he;obtain ⟨h1,h2⟩:=h;obtain ⟨l⟩:=vs
 match l,h1 with
 | [x,y,z],_=>exact ⟨x,y,z,rfl,h2 0 _ _ rfl rfl,h2 1 _ _ rfl rfl,h2 2 _ _ rfl rfl⟩
theorem ZT {args:List EV} {a b c d:EV} (he:args=[a,b,c,d]) {vs:Array Value} (h:uM g w st args vs):∃ x y z u,vs=#[x,y,z,u]/\bK g w st a x/\bK g w st b y/\bK g w st c z/\bK g w st d u:=by
 subst he;obtain ⟨h1,h2⟩:=h;obtain ⟨l⟩:=vs
 match l,h1 with
 | [x,y,z,u],_=>exact ⟨x,y,z,u,rfl,h2 0 _ _ rfl rfl,h2 1 _ _ rfl rfl,h2 2 _ _ rfl rfl,h2 3 _ _ rfl rfl⟩
end con
section nilc
variable {P:Program} {f:Ctx} {N:Nat} {S:Start} {Q:EV->St->Prop} {k:List Item} {env:Env} {st:St} {ops rest:List Oper}
 {d:Option Tmp} {ty:TypeId} {pos:String} {after:Array Edge} {gd:Option (Nat×Bool)} {t t2 e:TypeId} {x y:Operand}
theorem cn.KN {sz:Nat} {rows:List (List D)} (ht:P.underlying t=some (.slice e)) (hx:cX env x=some (.d (.sl sz rows))) (hd:gD N d=true)
  (h:∀ b:Bool,(b=true->rows=[])->cn P f N S Q ops rest k (env.put d (.d (.ex (.bool b)))) st) :
  cn P f N S Q ops (⟨d,.binOp .eql t x (.const (.slice none 0 0)) t2,ty,pos,after,none⟩::rest) k env st:=by
 intro i hi g w tmps hinv hh he hn;have hr:=aP he hx;generalize hv:Act.eval ⟨tmps,[]⟩ x=v at hr;cases hr with
 | d _ _ hr =>
  obtain ⟨A,c,vs,rfl,_,_,GF,_⟩:=QQ hr;have ho:ops.toArray[i]?=some (⟨d,.binOp .eql t x (.const (.slice none 0 0)) t2,ty,pos,after,none⟩:Oper):=by simpa using (hi 0).symm
  have iE:(execOp (Act.eval ⟨tmps,[]⟩) (⟨d,.binOp .eql t x (.const (.slice none 0 0)) t2,ty,pos,after,none⟩:Oper)).run P w=.ok (.value (.bool A.isNone)) w:=by
   have h1:Act.eval ⟨tmps,[]⟩ (.const (.slice none 0 0))=.slice none 0 0:=rfl;simp [execOp,hv,h1,eqGuard,Lib.run_eql_slice_nil w t e A rows.length c 0 0 ht]
  rw [zai,iU];refine eH.value ho (by simp [Region.wanted]) iE ?_;subst hn;refine h A.isNone (λhb=>?_) (i+1) (λj=>by have:=hi (j+1);simpa [zcp,zdm 1 j] using this) g w _ hinv hh (qP he hd (.d _ _ (.ex _))) iK;cases A with
  | none=>exact zbc (GF rfl).1
  | some a=>cases hb
theorem aR.Oa {f:FuncId} {args:List EV} {n sz:Nat} {e:TypeId} {rows:List (List D)} (h:aR P f args ⟨[],[]⟩ (QE (.vc 0 n) ⟨[],[⟨e,sz,n,some rows⟩]⟩)):aR P f args ⟨[],[]⟩ (QD (·=.sl sz rows)):=by
 intro g w base vs hi ha;refine (h g w base vs hi ha).mono ?_;rintro e1 w' ⟨v,r,st',g',rfl,⟨hle,rfl⟩,hr,hinv,hh⟩;have Rz:=hle _ _ _ _ hr;obtain ⟨g2,k1,k2,k3,k4⟩:=hinv.freeze (tk:=0) rfl;refine ⟨v,.d (.sl sz rows),_,g2,rfl,⟨_,.ak _,rfl⟩,.d _ _ ?_,k2,hh.step k3⟩;rcases sV hinv rfl Rz with hv|⟨h0,T0,A,hv⟩
 ·rw [hv];exact k4
 ·rw [hv,T0];exact .nil sz A
section view
variable {α:Type} [Inhabited α] {sz:Nat} {row:α->List D} {l a:List α} {inf:TypeInfo} {tk n lo m:Nat}
theorem RA (ht:P.underlying t=some (.slice e)) (hx:cX env x=some (.vw tk n lo m)):aL P env st ⟨d,.call ⟨.builtin .len,#[x],#[t]⟩,ty,pos,after,gd⟩ (.d (cI (m:Int))):=λg base w tmps hinv he=>by
 have h:=aP he hx;generalize hv:Act.eval ⟨tmps,[]⟩ x=v at h;cases h with
 | vw _ _ _ _ _ _ hf =>
  obtain ⟨A,c,rfl⟩:=hf;exact ⟨_,.d _ _ (.ex _),λw' _=>Ej ht hv w'⟩
theorem IV {kk:IntKind} {i:Int} {e':Nat} (ht:P.underlying t=some (.slice e)) (hi:P.info? e=some inf) (fT:inf.size=sz) (hx:cX env x=some (.vw tk n lo m)) (fc:st.ar[tk]?=some ⟨e',sz,n,some (l.map row)⟩) (hy:cX env y=some (.d (.ex (.int kk i)))) (h:0<=i/\i<(m:Int)) :
  aL P env st ⟨d,.indexAddr t x y,ty,pos,after,gd⟩ (.vp tk n (lo+i.toNat) 0):=λg base w tmps hinv he=>by
 have hr:=aP he hx;generalize hv:Act.eval ⟨tmps,[]⟩ x=v at hr;cases hr with
 | vw _ _ _ _ _ cJ hf hh =>
  obtain ⟨_,h2⟩:=hh _ _ fc rfl;rcases h2 rfl with h0|⟨b,M,c,c',q1,q2⟩
  ·omega
  ·subst fT;refine ⟨.pointer (some ⟨b,lo*inf.size+i.toNat*inf.size,none⟩),.vp _ _ _ _ _ cJ ⟨_,_,rfl⟩ λz rows hz ho=>?_,λw' _=>?_⟩
   ·rw [fc] at hz;cases hz;refine ⟨zar _,λ_=>⟨b,M,c,q1,?_⟩⟩;rw [zdi,zdn]
   ·rw [q2] at hv;have:=Cn (d:=d) (ty:=ty) (pos:=pos) (after:=after) (gd:=gd) ht hi hv (aP he hy).bN h.1 h.2 w';rw [Addr.add_lit] at this;exact this
theorem Bs (hw:(l.drop lo).take a.length=a) {i:Nat} (hi:i<a.length):lo+i<l.length/\nth l (lo+i)=nth a i:=by
 have h1:a[i]?=l[lo+i]?:=by
  have:=zbq (λz=>z[i]?) hw;simp only [zal,zbd,zaa hi] at this;exact this.symm
 have h2:a[i]?=some a[i]:=zaf hi;rw [h2] at h1;have h3:=(zad.1 h1.symm).1;exact ⟨h3,by simp [nth,←h1,h2]⟩
theorem PJ {i o e':Nat} {c:D} (hw:(l.drop lo).take a.length=a) (h1:(P.underlying t).map lT=some true) (hx:cX env x=some (.vp tk n (lo+i) o)) (fc:st.ar[tk]?=some ⟨e',sz,n,some (l.map row)⟩) (hi:i<a.length) (hc:(row (nth a i))[o]?=some c) :
  aL P env st ⟨d,.load t x,ty,pos,after,gd⟩ (.d c):=yh h1 hx fc (Bs hw hi).1 (by rw [(Bs hw hi).2];exact hc)
theorem AB {i o e' m:Nat} {cs:List D} (hw:(l.drop lo).take a.length=a) (h1:(P.underlying t).map lT=some false) (hs:(P.info? t).map (·.size)=some m) (hx:cX env x=some (.vp tk n (lo+i) o)) (fc:st.ar[tk]?=some ⟨e',sz,n,some (l.map row)⟩) (hi:i<a.length)
  (hm:o+m<=sz) (hc:((row (nth a i)).drop o).take m=cs):aL P env st ⟨d,.load t x,ty,pos,after,gd⟩ (.d (.agg cs)):=mB h1 hs hx fc (Bs hw hi).1 hm (by rw [(Bs hw hi).2];exact hc)
theorem MT {z:Operand} {kl kh:IntKind} {i j:Int} {e':Nat} (ht:P.underlying t=some (.slice e)) (hi:P.info? e=some inf) (fT:inf.size=sz) (hx:cX env x=some (.vc tk n)) (fc:st.ar[tk]?=some ⟨e',sz,n,some (l.map row)⟩) (hy:cX env y=some (.d (.ex (.int kl i)))) (hz:cX env z=some (.d (.ex (.int kh j))))
  (h:0<=i/\i<=j/\j<=(l.length:Int)):aL P env st ⟨d,.slice t x (some y) (some z) none,ty,pos,after,gd⟩ (.vw tk n i.toNat ((l.take j.toNat).drop i.toNat).length):=λg base w tmps hinv he=>by
 have hm:((l.take j.toNat).drop i.toNat).length=j.toNat-i.toNat:=by rw [zbg,zba];omega
 rw [hm];have cJ:tk<st.ar.length:=(zad.1 fc).1;have hr:=aP he hx;generalize GG:Act.eval ⟨tmps,[]⟩ x=v' at hr;have iE:∀ A n' c,v'=.slice A n' c->(l.length:Int)<=c->∀ w':World,(execOp (Act.eval ⟨tmps,[]⟩) ⟨d,.slice t x (some y) (some z) none,ty,pos,after,gd⟩).run P w'=.ok (.value (sliced A i.toNat j.toNat c sz)) w':=λA n' c hv hc w'=>by
  rw [hv] at GG;simp only [execOp,GG,Sem.run_bind,run_sliceAt_slice w' t _ _ _ _ (by rw [uN ht];exact ht),Option.map_none,Option.map_some,(aP he hy).bN,(aP he hz).bN];rw [run_slice_lh w' t A n' c (by rw [uN ht];exact ht) kl kh i j h.1 h.2.1 (by omega)];simp [uN ht,pX hi,fT]
 rcases sV hinv fc hr with Hp|⟨n0,r0,A,hA⟩
 ·obtain ⟨Hp,xs,h2,_,h4⟩:=IG hinv fc Hp;have hn:n=l.length:=by have:=h4.len;simpa using this.symm
  rcases h2.2 with ⟨hv,h0⟩|⟨b,c,cur,hv,zX,hg,DS,zu,yU,xG⟩
  ·refine ⟨_,.vw _ _ _ _ _ cJ ⟨_,_,rfl⟩ λq rows hq ho=>?_,λw' _=>iE _ _ _ hv (by omega) w'⟩;rw [fc] at hq;cases hq;exact ⟨zar _,λ_=>.inl (by omega)⟩
  ·refine ⟨_,.vw _ _ _ _ _ cJ ⟨_,_,rfl⟩ λq rows hq ho=>?_,λw' _=>iE _ _ _ hv (by omega) w'⟩;rw [fc] at hq;cases hq;refine ⟨zar _,λ_=>?_⟩;rcases zev (j.toNat-i.toNat) with h0|h0
   ·exact .inl h0
   ·refine .inr ⟨b,n,c,c-i.toNat,by rw [←Hp,hv],?_⟩;have qK:¬ (c=i.toNat):=by omega
    simp [qK,Addr.add_lit]
 ·have hl:l=[]:=by simpa using r0
  rw [hl] at h;simp at h;refine ⟨_,.vw _ _ _ _ _ cJ ⟨_,_,rfl⟩ λq rows hq ho=>?_,λw' _=>iE _ _ _ hA (by rw [hl];simp) w'⟩;rw [fc] at hq;cases hq;exact ⟨zar _,λ_=>.inl (by omega)⟩
theorem Ob {i j:Nat} (hj:j<=l.length):(l.drop i).take ((l.take j).drop i).length=(l.take j).drop i:=by
 rw [List.drop_take,zba,zbg];rcases zgb i j with h|h
 ·rw [show min (j-i) (l.length-i)=j-i from by omega]
 ·rw [show j-i=0 from by omega];simp
end view
end nilc
section build
variable {P:Program} {env:Env} {st:St} {d:Option Tmp} {ty:TypeId} {pos:String} {after:Array Edge} {gd:Option (Nat×Bool)} {t t2 e:TypeId} {x y:Operand}
theorem zZ {α:Type} {base n sz:Nat} {l0:List α} {row:α->List D} {inf:TypeInfo} {z:Value} {zs:List D} {l:List (Nat×Operand)} (ht:P.underlying t=some (.slice e)) (hi:P.info? e=some inf) (fT:inf.size=sz) (hz:inf.zero=some z) (rZ:Nat.beq z.cells.size sz=true)
  (yb:(Nat.ble (n*sz) 16777216 && Nat.blt 0 n && Nat.blt 0 sz)=true) (NX:cellsD (.d (cv z))=some zs) (hl:DT (λi=>some (i*sz,sz)) env (List.replicate n zs).flatten l=some (l0.map row).flatten)
  (hr:((l0.map row).all (λr=>Nat.beq r.length sz) && Nat.beq (l0.map row).length n)=true) :
  xY P base env st ⟨d,.buildSlice t n l.toArray,ty,pos,after,gd⟩ (.vc st.ar.length l0.length) (st.tok ⟨e,sz,l0.length,some (l0.map row)⟩):=by
 simp only [zaq] at yb hr;have GJ:=zav rZ;have hn:=zav hr.2;have NV:=jj yb.1.2;have Ml:=jj yb.2;have hbg:=zae yb.1.1;intro g w tmps hinv he;have Aq:=lZ (g:=g) (w:=w) (st:=st) NX (.d _ _ (qO _ _ z));have QA:zs.length=sz:=by rw [←Aq.1,GJ]
 have Dm:(List.replicate n zs).flatten.length=n*sz:=by simp [QA]
 have j5:∀ r∈l0.map row,r.length=sz:=by
  intro r hm;have:=hr.1;rw [zaz] at this;exact zav (this r hm)
 have sI:EY g.lim w (List.replicate n zs).flatten ((Array.range (n*sz)).map (z.cells[· % z.cells.size]!)):=by
  refine ⟨by simp [Dm],λi c u hc hu=>?_⟩;have oM:i<n*sz:=by rw [←Dm];exact (zad.1 hc).1
  have yc:i % sz<sz:=zem _ Ml;have hdiv:i / sz<n:=zdw (by rw [zdp];exact oM);have Mz:i=i / sz*sz+i % sz:=by rw [zdp];exact (zew i sz).symm
  have hf:=kX (rows:=List.replicate n zs) (sz:=sz) (i:=i / sz) (j:=i % sz) (row:=zs) (c:=zs[i % sz]'(by omega)) (by intro row hm;rw [List.eq_of_mem_replicate hm];exact QA) (by simp [List.getElem?_replicate,hdiv]) (zaf (by omega));rw [←Mz,hc] at hf;have We:zs[i % sz]?=some c:=by cases hf;exact zaf (by omega)
  have Zs:z.cells[i % sz]?=some u:=by
   have j0:i % sz<z.cells.size:=by omega
   have:((Array.range (n*sz)).map (z.cells[· % z.cells.size]!))[i]?=some (z.cells[i % z.cells.size]!):=by simp [oM]
   rw [this] at hu;cases hu;rw [GJ,zdz z.cells (i % sz) j0,zbi j0]
  exact Aq.2 _ c u We Zs
 obtain ⟨us,h1,h2,h3⟩:=tK he l _ _ _ hl sI;have El:=j4 j5;have Qz:us.size=n*sz:=by rw [h2.1,El,hn]
 have hnm:n<=maxLen:=by
  have:n*1<=n*sz:=Nat.mul_le_mul_left n Ml;simp only [maxLen];omega
 have kM:(w.alloc (.cells us e)).ownsRow base e sz (.slice (some ⟨w.heap.size,0,none⟩) n n) n us.toList :=
  ⟨by simp [Qz],.inr ⟨w.heap.size,n,us,rfl,hinv.base,heap_alloc_new w _,zar _,hnm,Qz,by rw [zbw (by simp [Qz])]⟩⟩
 obtain ⟨g',k1,_,_,k2,k3⟩:=hinv.s8 ⟨e,sz,n,some (l0.map row)⟩ kM (.inr ⟨rfl,(Below.refl _ w).alloc (zar _) _⟩) (λrows hh=>by
  cases hh;exact ⟨hn,j5,λi c u hc hu=>h2.2 i c u hc (by simpa using hu)⟩)
 have WZ:l0.length=n:=by simpa using hn
 rw [WZ];refine ⟨.slice (some ⟨w.heap.size,0,none⟩) n n,g',_,?_,.vc _ _ _ (by simp [St.tok]) ⟨_,_,_,rfl⟩ λy rows hy ho=>?_,k2,k3⟩
 ·subst fT;have Hq:¬ (16777216<n*inf.size):=by omega
  have pU:¬ n*inf.size=0:=by
   intro h0;rcases Nat.mul_eq_zero.1 h0 with h|h <;> omega
  have Mk:Instr.fill (λi=>some (i*inf.size,inf.size)) (Array.map (λx=>z.cells[x % z.cells.size]!) (Array.range (n*inf.size))) (List.map (λp=>(p.1,Act.eval ⟨tmps,[]⟩ p.2)) l)=some us:=h1;simp [execOp,Instr.buildSlice,run_underlying ht,pX hi,Hq,pU,tL hi hz,Mk,newRow]
 ·have:y=⟨e,sz,n,some (l0.map row)⟩:=by simpa [St.tok,zfc] using hy
  subst this;exact ⟨zar _,λ_=>.inl k1.symm⟩
end build
section move
variable {P:Program} {f:Ctx} {N:Nat} {S:Start} {Q:EV->St->Prop} {k todo:List Item} {env:Env} {st:St}
theorem bt.move {i tk e sz n:Nat} {rows:List (List D)} (hl:lookup i env=some (.vc tk n)) (fc:st.ar[tk]?=some ⟨e,sz,n,some rows⟩)
  (h:bt P f N S Q todo ((i,.vc st.ar.length n)::env) (st.renew tk ⟨e,sz,n,some rows⟩ ⟨e,sz,n,some rows⟩)):bt P f N S Q todo env st:=by
 intro g w tmps hinv hh he hN;obtain ⟨xs,o1,o2,o3⟩:=hinv.own tk e sz n rows fc;obtain ⟨g',k1,k2,k3⟩:=hinv.renew (x':=⟨e,sz,n,some rows⟩) fc rfl rfl o1 (.inl ⟨rfl,rfl,⟨rfl,rfl,rfl,zar _,λ_ _ _=>rfl⟩⟩) o3;refine h g' w tmps k2 (hh.step k3) (λj y hy=>?_) hN;unfold lookup at hy;have A1:=he.mono k3.dB;cases hb:Nat.beq j i with
 | true =>
  rw [hb] at hy;cases hy;have:=zav hb;subst this;obtain ⟨v,m1,m2⟩:=he j _ hl;refine ⟨v,m1,?_⟩;have hf:∃ A m c,v=.slice A m c:=by cases m2 with|vc _ _ _ _ hf _=>exact hf
  refine .vc _ _ _ (by simp [St.renew,St.tok,St.bD]) hf λy KM hy ho=>?_
  rw [HE] at hy;cases hy;refine ⟨zar _,λ_=>?_⟩;rcases sV hinv fc m2 with hv|⟨n0,r0,A,hv⟩
  ·exact .inl (by rw [k1];exact hv)
  ·exact .inr ⟨n0,A,hv⟩
 | false =>
  rw [hb] at hy;exact A1 j y hy
def MU (ρ τ:Nat->Nat) (env:Env):Env:=env.map λp=>(p.1,p.2.ren ρ τ)
theorem Fm {ρ τ:Nat->Nat}:∀ (env:Env) (i:Nat) (y:EV),lookup i env=some y->lookup i (MU ρ τ env)=some (y.ren ρ τ)
 | [],i,y,h=>by simp [lookup] at h
 | (j,x)::env,i,y,h=>by
  unfold lookup at h;unfold MU;rw [zap];unfold lookup;cases hb:Nat.beq i j with
  | true=>rw [hb] at h;cases h;rfl
  | false =>
   rw [hb] at h;exact Fm env i y h
theorem bt.Oc (rs ts:List Nat) {s0 st':St} {env':Env} (hS:S.st=s0) (hp:zW rs ts st' st=true) (h5:st'.aQ.all (kY st'.aQ.length st'.ar.length)=true) (tO:Dp st'.aQ.length st'.ar.length env'=true)
  (hl:(Nat.ble s0.aQ.length rs.length && Nat.ble s0.ar.length ts.length)=true) (T0:rs.take s0.aQ.length=List.range s0.aQ.length) (TZ:ts.take s0.ar.length=List.range s0.ar.length)
  (ho:rs.map (λr=>st.aQ[r]?)=st'.aQ.map (λy=>some (y.ren (da rs st.aQ.length) (da ts st.ar.length)))) (ht:ts.map (λr=>st.ar[r]?)=st'.ar.map some)
  (hE:df env (MU (da rs st.aQ.length) (da ts st.ar.length) env')) (h:bt P f N S Q todo env' st'):bt P f N S Q todo env st:=by
 obtain ⟨p,YW,Mn,l1,l2⟩:=Part.of hp h5 ho ht;subst hS;simp only [zaq] at hl;have zx:=zae hl.1;have zV:=zae hl.2;have same:∀ {l:List Nat} {n N:Nat},l.take n=List.range n->n<=l.length->∀ i,i<n->da l N i=i:=fun {l n N} hl hn i hi=>by
  have e:(l.take n)[i]?=some i:=by rw [hl,List.getElem?_range hi]
  rw [zal,zaa hi] at e;simp [da,e]
 have so:=λi hi=>same (N:=st.aQ.length) T0 zx i hi
 have N2:=λi hi=>same (N:=st.ar.length) TZ zV i hi
 have Dq:∀ {i:Nat},i<st'.ar.length->st'.ar[i]?=st.ar[da ts st.ar.length i]?:=fun {i} hi=>by
  rw [p.ar i _ (zaf hi),zaf hi]
 intro g w tmps hinv hh he hN;refine h (g.sub _ _) w tmps (hinv.part p) ⟨⟨hh.dB.cX,λo mX=>?_,(by show S.st.aQ.length<=_;omega),λt e sz n hx=>?_,(by show S.st.ar.length<=_;omega),λt x' bO cJ kq mX=>?_⟩,hh.below,hh.lim,hh.frame,λb hb hw=>hh.fresh b hb (p.owned hw)⟩ (λi y hy=>?_) hN
 ·show g.ob (da rs st.aQ.length o)=S.g.ob o;rw [so o mX];exact hh.dB.ob o mX
 ·have cJ:t<S.st.ar.length:=(zad.1 hx).1;obtain ⟨n',a1,a2,a3⟩:=hh.dB.ar t e sz n hx;refine ⟨n',?_,a2,λe'=>?_⟩
  ·rw [Dq (by omega),N2 t cJ];exact a1
  ·show g.tk (da ts st.ar.length t)=S.g.tk t;rw [N2 t cJ];exact a3 e'
 ·rw [Dq (by have:=(zad.1 kq).1;exact this),N2 t cJ] at kq;obtain ⟨y,rows,a1,a2,a3,a4,a5⟩:=hh.dB.own t x' bO cJ kq mX;refine ⟨y,rows,a1,a2,a3,a4,λe'=>?_⟩;show g.tk (da ts st.ar.length t)=S.g.tk t;rw [N2 t cJ];exact a5 e'
 ·obtain ⟨v,m1,m2⟩:=(he.sub hE) i _ (Fm env' i y hy);exact ⟨v,m1,m2.down p.ar (Cu tO hy)⟩
theorem Vm.fJ {f':FuncId} {base:Nat} {l:List Operand} {ts:Array TypeId} {Rg es:List EV} {x r:EV} {s0 s1 st':St} {d:Option Tmp} {ty:TypeId} {pos:String} {after:Array Edge} (DP:Enters P f') (rs tk:List Nat)
  (h1:Co env l=some es) (hc:aR P f' Rg s0 (QE r s1)) (hle:wM es (Rg.map (EV.ren (da rs st.aQ.length) (da tk st.ar.length))))
  (hp:(zW rs tk s0 st && Rg.all (pZ s0.aQ.length s0.ar.length))=true) (h5:s0.aQ.all (kY s0.aQ.length s0.ar.length)=true)
  (ho:rs.map (λr=>st.aQ[r]?)=s0.aQ.map (λx=>some (x.ren (da rs st.aQ.length) (da tk st.ar.length)))) (ht:tk.map (λr=>st.ar[r]?)=s0.ar.map some)
  (hx:r.ren (da rs st.aQ.length) (da tk st.ar.length)=x) (hs:cq st s1 rs tk=st') :
  Vm P base env st ⟨d,.call ⟨.value (.func f'),l.toArray,ts⟩,ty,pos,after,none⟩ x st':=by
 simp only [zaq] at hp;have sF:=(hc.frame rs tk hp.1 h5 hp.2 ho ht).le hle;intro g w tmps hinv he;obtain ⟨k1,k2⟩:=vF he l es h1;refine ⟨f',_,Cp DP w rfl,(sF g w base _ hinv ⟨by simp [k1],λj x v hx hv=>k2 j x v hx (by simpa using hv)⟩).mono ?_⟩;rintro e w' ⟨v,r',st2,g',rfl,⟨W0,rfl⟩,hr,dY,Mw⟩;rw [hx] at W0;rw [hs] at dY hr Mw;exact ⟨v,g',rfl,W0 _ _ _ _ hr,dY,Mw.toStep⟩
end move
section ld
variable {P:Program} {env:Env} {st:St} {d:Option Tmp} {ty:TypeId} {pos:String} {after:Array Edge} {gd:Option (Nat×Bool)} {t:TypeId} {x:Operand}
theorem RB {o off n:Nat} {T:TypeId} {cs ds:List EV} (h1:(P.underlying t).map lT=some false) (hs:(P.info? t).map (·.size)=some n) (hx:cX env x=some (.ref o off)) (ho:st.aQ[o]?=some (.row T cs))
  (hn:off+n<=cs.length) (hds:(cs.drop off).take n=ds):aL P env st ⟨d,.load t x,ty,pos,after,gd⟩ (.agg ds):=λg base w tmps hinv he=>by
 subst hds;have h:=aP he hx;generalize hv:Act.eval ⟨tmps,[]⟩ x=v at h;cases h with
 | ref _ _ cJ =>
  obtain ⟨_,_,vs,hb,fT,zS⟩:=hinv.row o T cs ho;obtain ⟨hl,DQ⟩:=Kd (g:=g) (w:=w) (n:=n) (off:=off) hb fT hn;refine ⟨.agg ((vs.toList.drop off).take n).toArray,.agg _ _ ?_ ?_ ?_,λw' jZ=>?_⟩
  ·simp at hl ⊢;omega
  ·intro i u hu;have vC:=DQ i u (by simpa using hu);have j0:off+i<cs.length:=by rw [←fT];exact (zau.1 vC.2).1
   exact (zS (off+i) cs[off+i] u (zaf j0) vC.2).2
  ·intro i c u qK hu;have vC:=DQ i u (by simpa using hu);rw [zal] at qK;split at qK
   ·rw [zbd] at qK;exact (zS (off+i) _ u qK vC.2).1
   ·cases qK
  ·obtain ⟨inf,lY,Ip⟩:∃ inf,P.info? t=some inf/\inf.size=n:=by
    cases hh:P.info? t with
    | none=>rw [hh] at hs;cases hs
    | some inf=>rw [hh] at hs;exact ⟨inf,rfl,by simpa using hs⟩
   have EU:=rE (P:=P) (w:=w') (b:=g.ob o) (off:=off) hl (λj u hu=>by
    have h3:=(DQ j u hu).1;exact (jZ.cell (World.block_lt_of_cell? w _ h3)).trans h3)
   simp [execOp,hv,Instr.loadAt,Instr.sureAddr,loadVar,yT h1,sizeOf,typeInfo,lY,Ip,EU]
end ld
theorem z6 {P:Program} {ops:Array Oper} {o:Oper} {a:Act} {w:World} {K:Act->World->Prop} {Q:Exit->Act->World->Prop} {E:Prop}
  (hg:o.guard=none) (d x:Operand) (t:TypeId) (vJ:o.op=Op.call { callee:=Callee.builtin Builtin.append,args:=#[d,x],argTypes:=#[t,t] })
  (v u:Value) (hd:a.eval d=v) (hx:a.eval x=u) {v':Value} {w':World} (hr:(Builtin.append_ #[t,t] o.type #[v,u]).run P w=.ok v' w') (hK:K (a.put o.dst v') w') :
  if Region.wanted o (yielded ops a.tmps)=true then Oper.wp P o a w K Q else E:=by
 rw [zaa (by simp [Region.wanted,hg])];unfold Oper.wp execOp;simp only [vJ,resolve,invoke,builtin,Sem.run_bind,Sem.run_pure,Result.andThen_ok,zep,zap,zbf,hd,hx,hr];exact hK
def KO:List EV->List EV->Prop
 | [],[]=>True
 | x::xs,y::ys=>eG x y/\KO xs ys
 | _,_=>False
theorem KO.get:∀ {xs ys:List EV},KO xs ys->xs.length=ys.length/\∀ (i:Nat) y,ys[i]?=some y->∃ x,xs[i]?=some x/\eG x y
 | [],[],_=>⟨rfl,λi y h=>by simp at h⟩
 | x::xs,y::ys,h=>by
  obtain ⟨h1,h2⟩:=KO.get h.2;refine ⟨by simp [h1],λi z hz=>?_⟩;cases i with
  | zero=>simp at hz;subst hz;exact ⟨x,rfl,h.1⟩
  | succ i=>simpa using h2 i z (by simpa using hz)
 | [],_::_,h=>h.elim
 | _::_,[],h=>h.elim
theorem eG.aggE {xs ys:List EV} (h:KO xs ys):eG (.agg xs) (.agg ys):=by
 intro g w st v hv;obtain ⟨h1,h2⟩:=h.get;cases hv with
 | agg _ vs hs DU hc =>
  refine .agg _ vs (by rw [hs,h1]) DU λi y u hy hu=>?_
  obtain ⟨x,hx,hle⟩:=h2 i y hy;exact hle _ _ _ _ (hc i x u hx hu)
section gm
variable {κ α:Type} [BEq κ] [LawfulBEq κ]
def pE (sz:Nat) (row:α->List D):Nat->List (κ×List α)->List (κ×EV)
 | _,[]=>[]
 | t,p::l=>(p.1,.cY sz (p.2.map row) t)::pE sz row (t+1) l
def ma (e:TypeId) (sz:Nat) (l:List (κ×List α)):List iu:=l.map λp=>⟨e,sz,p.2.length,none⟩
def ZU (sz:Nat) (row:α->List D) (t:Nat) (l:List (κ×List α)) (k:κ):EV :=
 match eb l k with
 | some j=>.cY sz (((aC l k).getD []).map row) (t+j)
 | none=>.d bd
theorem KP (sz:Nat) (row:α->List D):∀ (t:Nat) (l:List (κ×List α)),(pE sz row t l).length=l.length
 | _,[]=>rfl
 | t,p::l=>by simp [pE,KP sz row (t+1) l]
theorem Bt (sz:Nat) (row:α->List D):∀ (t:Nat) (l:List (κ×List α)) (i:Nat),(pE sz row t l)[i]?=(l[i]?).map λp=>(p.1,.cY sz (p.2.map row) (t+i))
 | _,[],i=>by simp [pE]
 | t,p::l,0=>by simp [pE]
 | t,p::l,i+1=>by
  have:=Bt sz row (t+1) l i;simp only [pE,List.getElem?_cons_succ,this];rw [show t+1+i=t+(i+1) from by omega]
theorem AD (sz:Nat) (row:α->List D) (k:κ):∀ (t:Nat) (l:List (κ×List α)),eb (pE sz row t l) k=eb l k
 | _,[]=>rfl
 | t,p::l=>by
  have:=AD sz row k (t+1) l;unfold eb at this ⊢;rw [pE,List.findIdx?_cons,List.findIdx?_cons,this]
theorem MV (sz:Nat) (row:α->List D) (t:Nat) (l:List (κ×List α)) (k:κ):aC (pE sz row t l) k=match eb l k with
  | some j=>some (.cY sz (((aC l k).getD []).map row) (t+j))
  | none=>none:=by
 rw [nf,AD,nf l k];cases h:eb l k with
 | none=>rfl
 | some j =>
  have hj:=yf h;simp only [zac,Bt,zaf hj,Option.map_some,zcq]
theorem HG (sz:Nat) (row:α->List D) (q:κ×List α):∀ (t:Nat) (l:List (κ×List α)),pE sz row t (l++[q])=pE sz row t l++[(q.1,.cY sz (q.2.map row) (t+l.length))]
 | t,[]=>by simp [pE]
 | t,p::l=>by
  simp only [List.cons_append,pE,HG sz row q (t+1) l,zai];rw [show t+1+l.length=t+(l.length+1) from by omega]
theorem KQ (sz:Nat) (row:α->List D) (q:κ×List α):∀ (t:Nat) (l:List (κ×List α)) (j:Nat),pE sz row t (l.set j q)=(pE sz row t l).set j (q.1,.cY sz (q.2.map row) (t+j))
 | t,[],j=>by simp [pE]
 | t,p::l,0=>by simp [pE]
 | t,p::l,j+1=>by
  simp only [List.set_cons_succ,pE,KQ sz row q (t+1) l j];rw [show t+1+j=t+(j+1) from by omega]
theorem PK (sz:Nat) (row:α->List D) (t:Nat) (l:List (κ×List α)) (k:κ) (v:List α):c8 (pE sz row t l) k (.cY sz (v.map row) (t+(eb l k).getD l.length))=pE sz row t (c8 l k v):=by
 unfold c8;rw [AD];cases h:eb l k with
 | none=>simp only [Option.getD_none,HG]
 | some j=>simp only [zcq,KQ]
theorem KR (e:TypeId) (sz:Nat) (l:List (κ×List α)) (k:κ) (v:List α):ma e sz (c8 l k v)=match eb l k with
  | some j=>(ma e sz l).set j ⟨e,sz,v.length,none⟩
  | none=>ma e sz l++[⟨e,sz,v.length,none⟩]:=by
 unfold c8;cases h:eb l k with
 | none=>simp [ma]
 | some j=>simp [ma,List.map_set]
theorem Fo (e:TypeId) (sz:Nat) (l:List (κ×List α)):(ma e sz l).length=l.length:=by simp [ma]
end gm
section rules
variable {P:Program} {base:Nat} {env:Env} {st:St} {d:Option Tmp} {ty:TypeId} {pos:String} {after:Array Edge} {gd:Option (Nat×Bool)} {t e key:TypeId} {x y z:Operand}
 {κ α:Type} [BEq κ] [LawfulBEq κ] {sz t0:Nat} {row:α->List D}
theorem PM (K:vP P key κ) {o:Nat} {l:List (κ×List α)} {k:κ} {dk:D} {inf:TypeInfo} {zv:Value} (ht:P.underlying t=some (.map key e)) (hi:P.info? e=some inf) (hz:inf.zero=some zv) (YY:cv zv=bd)
  (hx:cX env x=some (.mp o)) (ho:st.aQ[o]?=some (.map (ml K.ke (pE sz row t0 l)))) (hy:cX env y=some (.d dk)) (hk:∀ lim w v,dA lim w dk v->v=K.ke k) :
  aL P env st ⟨d,.lookup t x y false,ty,pos,after,gd⟩ (ZU sz row t0 l k):=by
 intro g base w tmps hinv he;obtain ⟨v,h1,h2⟩:=yj (c:=false) (d:=d) (ty:=ty) (pos:=pos) (after:=after) (gd:=gd) K ht hi hz hx ho hy hk hinv he;refine ⟨v,?_,λw' hb=>by simpa using h2 w' hb⟩;rw [MV] at h1;unfold ZU;cases h:eb l k with
 | none =>
  rw [h] at h1;simp only at h1 ⊢;subst h1;exact .d _ _ (YY▸qO g.lim w v)
 | some j=>rw [h] at h1;exact h1
theorem PN {l:List (κ×List α)} {k:κ} {l':List α} {T:List iu} {inf:TypeInfo} {zv:Value} {w:EV} (ht:P.underlying t=some (.slice e)) (hi:P.info? e=some inf) (hz:inf.zero=some zv) (fw:inf.size=sz) (rZ:zv.cells.size=sz) (hb:inf.bytes<=100000)
  (hx:cX env x=some (ZU sz row t0 l k)) (hT:st.ar=T++ma e sz l) (h0:T.length=t0) (hy:cX env y=some w) (hs:wC w=some (sz,l'.map row)) (hn:((aC l k).getD []).length+l'.length<=1000000000) :
  xY P base env st ⟨d,.call ⟨.builtin .append,#[x,y],#[t,t]⟩,ty,pos,after,gd⟩ (.cY sz ((((aC l k).getD [])++l').map row) (t0+(eb l k).getD l.length)) ⟨st.aQ,T++ma e sz (c8 l k (((aC l k).getD [])++l'))⟩:=by
 rw [KR];unfold ZU at hx;cases h:eb l k with
 | none =>
  rw [h] at hx;have hl:aC l k=none:=by rw [nf,h];rfl
  rw [hl] at hn ⊢;simp only [Option.getD_none,zcc] at hn ⊢;have:=wK (base:=base) (st:=st) (d:=d) (ty:=ty) (pos:=pos) (after:=after) (gd:=gd) (row:=row) ht hi hz fw rZ hb hx hy hs (by simpa using hn);have e1:st.ar.length=t0+l.length:=by rw [hT,zak,Fo,h0]
  have e2:(st.tok ⟨e,sz,0,none⟩).bD st.ar.length ⟨e,sz,l'.length,none⟩=⟨st.aQ,T++(ma e sz l++[⟨e,sz,l'.length,none⟩])⟩:=by
   rw [←zat,←hT];simp [St.tok,St.bD]
  rw [e2,e1] at this;exact this
 | some j =>
  rw [h] at hx;have hj:=yf h;have hl:aC l k=some l[j].2:=by rw [nf,h];simp [zaf hj]
  rw [hl] at hx hn ⊢;simp only [zcq] at hx hn ⊢;have:=yX (base:=base) (st:=st) (d:=d) (ty:=ty) (pos:=pos) (after:=after) (gd:=gd) (row:=row) (l:=l[j].2) ht hi hz fw rZ hb hx (by
   rw [hT,zaw (by omega),h0,zfp];simp [ma,zaf hj]) hy hs hn
  have e2:st.bD (t0+j) ⟨e,sz,(l[j].2++l').length,none⟩=⟨st.aQ,T++(ma e sz l).set j ⟨e,sz,(l[j].2++l').length,none⟩⟩:=by
   unfold St.bD;rw [hT,List.set_append_right _ _ (by omega),h0,zfp]
  rw [e2] at this;exact this
theorem IW (K:vP P key κ) {o:Nat} {l:List (κ×List α)} {k:κ} {dk:D} {v:List α} (ht:P.underlying t=some (.map key e)) (hx:cX env x=some (.mp o)) (ho:st.aQ[o]?=some (.map (ml K.ke (pE sz row t0 l))))
  (hy:cX env y=some (.d dk)) (hk:∀ lim w v,dA lim w dk v->v=K.ke k) (hz:cX env z=some (.cY sz (v.map row) (t0+(eb l k).getD l.length))) :
  Im P base env st ⟨d,.mapUpdate t x y z,ty,pos,after,gd⟩ (st.set o (.map (ml K.ke (pE sz row t0 (c8 l k v))))):=by
 have:=IJ (base:=base) (d:=d) (ty:=ty) (pos:=pos) (after:=after) (gd:=gd) K ht hx ho hy hk hz;rw [PK] at this;exact this
theorem okG {n:Nat} {T:List iu} {ke:κ->Value} {l:List (κ×List α)} (h0:T.length=t0):kY n (T++ma e sz l).length (.map (ml ke (pE sz row t0 l)))=true:=by
 unfold kY ml;rw [zaz];intro p hp;obtain ⟨q,hq,rfl⟩:=zdb.1 hp;obtain ⟨i,hi⟩:=zdg.1 hq;rw [Bt] at hi;cases hl:l[i]? with
 | none=>rw [hl] at hi;cases hi
 | some r =>
  rw [hl] at hi;cases hi;have:=(zad.1 hl).1;simp only [pZ,Nat.blt_eq,zak,Fo,h0];omega
end rules
section run
variable {P:Program} {f:Ctx} {N:Nat} {S:Start} {Q:EV->St->Prop} {todo:List Item} {env env':Env} {st st':St} {κ α:Type} [BEq κ] [LawfulBEq κ]
theorem Ui {w:World} {b:Nat} {o:Obj} (h:w.heap[b]?=some o):({ w with heap:=w.heap.setIfInBounds b o }:World)=w:=by
 have:w.heap.setIfInBounds b o=w.heap:=by
  apply Array.ext_getElem?;intro i;rw [zcj];split
  ·rename_i hbi;subst hbi;split
   ·exact h.symm
   ·rename_i hb;rw [Array.getElem?_eq_none (by omega)]
  ·rfl
 rw [this]
theorem Inv.ZV {g:b7} {base o:Nat} {w:World} {es es':List (Value×EV)} (h:Inv g base w st) (ho:st.aQ[o]?=some (.map es)) (hl:es.length=es'.length)
  (hle:∀ (i:Nat) p q,es[i]?=some p->es'[i]?=some q->p.1=q.1/\eG p.2 q.2):Inv g base w (st.set o (.map es'))/\Step base g w st g w (st.set o (.map es')):=by
 obtain ⟨b1,ms,clock,b2,b3,b4,b5,b6⟩:=h.map o es ho;have:=h.MJ (es':=es') ho (ms':=ms) (clock':=clock) (by omega) (λi k x m uH Ua=>by
  have hi:i<es.length:=by rw [hl];exact (zad.1 uH).1
  have h1:=zaf hi;obtain ⟨a1,a2⟩:=hle i _ _ h1 uH;obtain ⟨c1,c2⟩:=b4 i es[i].1 es[i].2 m h1 Ua;exact ⟨c1.trans a1,a2 _ _ _ _ c2⟩) b5 b6
 rw [Ui b2] at this;exact this
theorem bt.Uj {e sz t0:Nat} {row:α->List D} (o:Nat) {T:List iu} {l:List (κ×List α)} {ke:κ->Value} (ho:st.aQ[o]?=some (.map (ml ke (pE sz row t0 l)))) (hT:st.ar=T++ma e sz l) (h0:T.length=t0)
  (hE:MR env env'=some env') (hs:st'=⟨st.aQ.set o (.map (kt ke (λx=>aj sz row x) l)),T⟩) (tO:(Dp st'.aQ.length st'.ar.length env' && st'.aQ.all (kY st'.aQ.length st'.ar.length))=true)
  (YV:S.st.aQ.length<=st.aQ.length) (hS2:S.st.ar.length<=T.length) (h:bt P f N S Q todo env' st'):bt P f N S Q todo env st:=by
 subst hs;intro g w tmps hinv hh he hN;obtain ⟨h1,h2⟩:=hinv.ZV (es':=kt ke (λx=>aj sz row x) l) ho (by simp [ml,kt,KP]) (λi p q hp hq=>by
  simp only [ml,kt,zbe,Bt] at hp hq;cases hl:l[i]? with
  | none=>rw [hl] at hp;cases hp
  | some r=>rw [hl] at hp hq;cases hp;cases hq;exact ⟨rfl,.cY _ _ _⟩)
 have hlen:(st.set o (.map (kt ke (λx=>aj sz row x) l))).aQ.length=st.aQ.length:=by simp [St.set]
 refine bt.to (st:=st.set o (.map (kt ke (λx=>aj sz row x) l))) (st':=⟨st.aQ.set o (.map (kt ke (λx=>aj sz row x) l)),T⟩) st.aQ.length T.length (yl hE) ?_ ?_ ?_ ?_ ?_ YV hS2 h g w tmps h1 (hh.step h2) (he.mono h2.dB) hN
 ·show (st.aQ.set o _).take st.aQ.length=st.aQ.set o _;rw [zbw (by simp)]
 ·show st.ar.take T.length=T;rw [hT];simp
 ·rw [hlen];exact Nat.ble_self_eq_true _
 ·show Nat.ble T.length st.ar.length=true;rw [hT];exact Nat.ble_eq_true_of_le (by simp)
 ·simpa [zgc] using tO
theorem bt.tG {s0:St} (n:Nat) (h:bt P f N S Q todo env' st') (hE:MR env env'=some env') (ho:st.aQ.take n=st'.aQ) (ht:st.ar=st'.ar) (hn:Nat.ble n st.aQ.length=true)
  (tO:(Dp n st'.ar.length env' && st'.aQ.all (kY n st'.ar.length))=true) (hS:S.st=s0) (hb:Nat.ble s0.aQ.length n=true) (Ho:Nat.ble s0.ar.length st'.ar.length=true):bt P f N S Q todo env st :=
 .to n st'.ar.length (yl hE) ho (by rw [ht];simp) hn (by rw [ht];exact Nat.ble_self_eq_true _) tO (by rw [hS];exact zae hb) (by rw [hS];exact zae Ho) h
end run
def oI (a b:List UInt8):Bool:=Op.bytesLess a b
section strings
variable {P:Program} {env:Env} {st:St} {d:Option Tmp} {ty:TypeId} {pos:String} {after:Array Edge} {gd:Option (Nat×Bool)} {t t2:TypeId} {x y:Operand} {a b:List UInt8} (hx:cX env x=some (.d (cS a))) (hy:cX env y=some (.d (cS b)))
include hx hy
theorem RC:aL P env st ⟨d,.binOp .lss t x y t2,ty,pos,after,gd⟩ (.d (cB (oI a b))):=qQ λg w tmps w' he=>by
 simp [execOp,(aP he hx).bN,(aP he hy).bN,eqGuard,binOp,Op.stringOp,oI]
end strings
def Uk (P:Program) (base:Nat) (T:FT) (N n:Nat) (cf:Cf) (env:Env) (st:St) (hs:List Hint):Option Out:=nh env λenv=>match st with
 | ⟨os,ts⟩=>nh os λos=>go P base T N n cf env ⟨os,ts⟩ hs []
theorem W3 {P:Program} {base N n:Nat} {T:FT} {cf:Cf} {env:Env} {st:St} {hs:List Hint}:Uk P base T N n cf env st hs=go P base T N n cf env st hs []:=by
 unfold Uk;simp only [qY]
theorem CD {P:Program} {f:Ctx} {N:Nat} {S:Start} {Q:EV->St->Prop} {T:FT} (hT:T.Ok P) (hm:P.follows .mixedOrders=true) {n:Nat} {cf:Cf} {env:Env} {st:St} {hs:List Hint} {out:Out} (h:Uk P S.base T N n cf env st hs=some out) (hp:sJ out.ps) :
  PE P f N S Q out.cf out.env out.st->PE P f N S Q cf env st:=(go_sound hT hm n cf env st hs [] out (W3▸h) hp).2
theorem uB.nil0 (sz:Nat):uB (.ex (.slice none 0 0)) (.e0 sz):=λ_ _ _ h=>by cases h;exact .e0 sz none (.inl rfl)
section tok
variable {P:Program} {f:Ctx} {N:Nat} {S:Start} {Q:EV->St->Prop} {todo:List Item} {env:Env} {st:St}
theorem Inv.Fp {g:b7} {base o ci sz:Nat} {w:World} {T:TypeId} {cs:List EV} (h:Inv g base w st) (ho:st.aQ[o]?=some (.row T cs)) (hc:cs[ci]?=some (.d (.e0 sz))) (e:Nat) :
  ∃ g',Inv g' base w ((st.tok ⟨e,sz,0,none⟩).set o (.row T (cs.set ci (.cY sz [] st.ar.length))))/\Step base g w st g' w ((st.tok ⟨e,sz,0,none⟩).set o (.row T (cs.set ci (.cY sz [] st.ar.length)))):=by
 obtain ⟨g1,h1,h2,h3⟩:=h.Is e sz;have Gx:(st.tok ⟨e,sz,0,none⟩).aQ[o]?=some (.row T cs):=ho;obtain ⟨b1,b2,vs,b3,b4,b5⟩:=h2.row o T cs Gx;obtain ⟨hi,hs⟩:=h2.setBlock (o:=o) (x:=.row T (cs.set ci (.cY sz [] st.ar.length))) (w':=w) ⟨_,Gx,by simp⟩ b2 rfl (λ_ _=>rfl) rfl rfl rfl
  (λQO My DR kq=>by
   cases kq;refine ⟨vs,b3,by simpa using b4,λi c u qK hu=>?_⟩;rw [zbl] at qK;split at qK
   ·rename_i Vk;subst Vk;split at qK
    ·cases qK;have h0:=b5 ci _ u hc hu;refine ⟨?_,h0.2⟩;cases h0.1 with
     | d _ _ hd =>
      cases hd with
      | e0 _ A _=>exact .cY sz [] _ _ e 0 (.nil sz _) (by simp [St.tok,St.set]) (zar _) (λ_=>.inr ⟨rfl,A,rfl⟩)
    ·cases qK
   ·have h0:=b5 i c u qK hu;exact ⟨h0.1.mono QO,h0.2⟩) (λ_ es kq=>by cases kq)
 exact ⟨g1,hi,h3.trans hs⟩
theorem bt.Fp {o ci e sz:Nat} {T:TypeId} {cs:List EV} (ho:st.aQ[o]?=some (.row T cs)) (hc:cs[ci]?=some (.d (.e0 sz)))
  (h:bt P f N S Q todo env ((st.tok ⟨e,sz,0,none⟩).set o (.row T (cs.set ci (.cY sz [] st.ar.length))))):bt P f N S Q todo env st:=by
 intro g w tmps hinv hh he hn;obtain ⟨g',h1,h2⟩:=hinv.Fp ho hc e;exact h g' w tmps h1 (hh.step h2) (he.mono h2.dB) hn
end tok
section fwp
variable {P:Program} {R:Ending->World->Prop} {k:List Item} {tmps:Array Value} {w:World}
theorem eH.beginRound {f:FuncId} {ds:List Deferred} {l:Nat} {w':World} (hr:(Instr.beginRound l).run P w=.ok () w') (h:eH P ⟨f,ds,some l⟩ R k tmps w'):eH P ⟨f,ds,some l⟩ R (.beginRound::k) tmps w :=
 eH.step (λ_=>stepR_beginRound rfl hr) h
theorem eH.round {f:Ctx} {ops:Array Oper} {i l:Nat} {rest:List Nat} {o:Oper} {f':FuncId} {tm:Array Value} {assign body:Code} {w':World}
  (ho:ops[i]?=some o) (hw:Region.wanted o (yielded ops tmps)=true) (hr:(execOp (Act.eval ⟨tmps,[]⟩) o).run P w=.ok (.round l f' tm assign body) w')
  (h:eH P ⟨f',[],some l⟩ (λ_ w2=>∃ w3,(Instr.endRound l none).run P w2=.ok (.bool true) w3/\eH P f R (.inRegion ops rest::k) (Act.put ⟨tmps,[]⟩ o.dst (.bool true)).tmps w3) [.code assign,.beginRound,.code body] tm w') :
  eH P f R (.inRegion ops (i::rest)::k) tmps w:=by
 intro cs;have hg:=stepGR_op (P:=P) (b:=bf f) (a:=⟨tmps,f.ds⟩) (k:=k) (cs:=cs) (w:=w) (rest:=rest) ho hw;rw [A6,A5 hr (by simp)] at hg;have pT:∀ v,((bf f).atR ⟨tmps,f.ds⟩ (.inRegion ops (i::rest)::k)).finish v=(bf f).atR (Act.put ⟨tmps,f.ds⟩ o.dst v) (.inRegion ops rest::k):=by
  intro v;rw [Frame.finish_atR,ho];rfl
 obtain ⟨e,w2,fr,⟨w3,he,hF⟩,EO,ZW⟩:=h ((bf f).atR ⟨tmps,f.ds⟩ (.inRegion ops (i::rest)::k)::cs);obtain ⟨rfl,tm2,rfl⟩:=ZW;have W4:Frame.round l f' tm assign body .normal=(bf ⟨f',[],some l⟩).atR ⟨tm,[]⟩ [.code assign,.beginRound,.code body]:=by simp [Frame.round,Frame.atR,bf]
 have Ak:Go.step P (lone ((bf f).atR ⟨tmps,f.ds⟩ (.inRegion ops (i::rest)::k)) cs w) =
   .next (lone ((bf ⟨f',[],some l⟩).atR ⟨tm,[]⟩ [.code assign,.beginRound,.code body]) ((bf f).atR ⟨tmps,f.ds⟩ (.inRegion ops (i::rest)::k)::cs) w'):=by
  rw [←W4];exact step_lone_go (by rw [hg];simp [stepG.apply,hr,Frame.atR])
 obtain ⟨e,w4,Zb,hR,hc,h1⟩:=hF cs;refine ⟨e,w4,Zb,hR,Comes.of_steps (.head Ak (Steps.trans EO (.one ?_))) hc,h1⟩;rw [←put_eq,←pT];exact stepR_round_end rfl rfl he
theorem eH.rangeFunc {f it:FuncId} {g:Operand} {ps:Array Tmp} {assign body:Code} {vs:Array Value} (hg:Act.eval ⟨tmps,[]⟩ g=.func (.func it) #[] vs) (DP:Enters P it)
  (h:Calls P it (#[.func (.yield (w.heap.size+1)) #[] #[]]++vs) ((w.alloc (.deferred (some []))).alloc (.loop { state:=.ready,pending:=none,fn:=f,tmps:=tmps,params:=ps,assign,body,defers:=w.heap.size }))
   λe w2=>(∃ v,e=.returned v)/\∃ w3,(Instr.endLoop (w.heap.size+1)).run P w2=.ok none w3/\eH P ⟨f,[{ target:=.collected w.heap.size,args:=#[] }],none⟩ R k tmps w3) :
  eH P (.of f) R (.code (.rangeFunc g ps assign body)::k) tmps w:=by
 intro cs;have he:=run_enterLoop_outer (P:=P) (w:=w) f tmps ps assign body;generalize hW:(w.alloc (.deferred (some []))).alloc (.loop { state:=.ready,pending:=none,fn:=f,tmps:=tmps,params:=ps,assign,body,defers:=w.heap.size })=W1 at he h;have Ul:(resolve (Act.eval ⟨tmps,[]⟩) (rangeCall g (w.heap.size+1)) 0).run P W1=.ok { target:=.fn (.func it) vs,args:=#[.func (.yield (w.heap.size+1)) #[] #[]] } W1:=by
  simp only [rangeCall,resolve];rw [hg];simp [Deferred.ofValue,Act.eval]
 have hinv:(invoke (.fn (.func it) vs) #[.func (.yield (w.heap.size+1)) #[] #[]]).run P W1=.ok (.enter it (#[.func (.yield (w.heap.size+1)) #[] #[]]++vs)) W1:=by
  simp only [invoke];exact wA DP _ _
 have Ak:=stepR_rangeFunc (P:=P) (b:=bf (.of f)) (a:=⟨tmps,[]⟩) (k:=k) (cs:=cs) (w:=w) he Ul hinv;obtain ⟨e,w2,fr,⟨⟨v,rfl⟩,w3,hend,hF⟩,EO,_,Ms⟩:=h ((bf (.of f)).atR ⟨tmps,[{ target:=.collected w.heap.size,args:=#[] }]⟩ (.inRangeFunc (w.heap.size+1)::k)::cs);obtain ⟨e,w4,Zb,hR,hc,h1⟩:=hF cs;refine ⟨e,w4,Zb,hR,Comes.of_steps (.head Ak (Steps.trans EO (.head (step_leave_returned Ms) (.one ?_)))) hc,h1⟩;rw [finish_atR_inRangeFunc];exact stepR_endRangeFunc hend
theorem eH.W5 {f:FuncId} {D:Nat} {fn:Func} {v:Value} {w':World} (hf:P.funcs[f]?=some fn) (ht:(Instr.takeDeferred D).run P w=.ok [] w') (hr:(results fn tmps).run P w'=.ok v w') (hR:R (.returned v) w') :
  eH P ⟨f,[{ target:=.collected D,args:=#[] }],none⟩ R (.code .ret::k) tmps w :=
 λcs=>⟨.returned v,w',_,hR,.head (stepR_ret rfl) (.one (step_collected (by simp) rfl rfl ht)),rfl,rfl,rfl,rfl,fn,hf,hr⟩
end fwp
section inv
variable {P:Program} {base:Nat} {g:b7} {w:World} {st:St}
theorem Inv.IX (hinv:Inv g base w st) {o:Nat} {y:Obj} (ho:st.aQ[o]?=some (.raw y)) (y':Obj):Inv g base (w.putObj (g.ob o) y') (st.set o (.raw y'))/\Step base g w st g (w.putObj (g.ob o) y') (st.set o (.raw y')):=by
 obtain ⟨hb,hl,JZ⟩:=hinv.raw o _ ho;exact hinv.setBlock (o:=o) (x:=.raw y') (w':=w.putObj (g.ob o) y')
   ⟨_,ho,by simp⟩ hl (by simp [World.putObj]) (λb jZ=>World.putObj_heap_other jZ) rfl rfl rfl (λ_ My DR e=>by cases e) (λ_ es e=>by cases e)
   (λy e=>by
    cases e;exact World.putObj_heap_same (zau.1 JZ).1)
end inv
section run
variable {P:Program} {f:FuncId} {N:Nat} {S:Start} {Q:EV->St->Prop} {k:List Item} {env:Env} {st:St}
theorem rW.W6 {S:Start} {g:b7} {w:World} {st:St} (h:rW S g w st) {o l:Nat} (hS:S.g.ob o=l) (cJ:o<S.st.aQ.length):g.ob o=l:=(h.dB.ob o cJ).trans hS
theorem bt.beginRound {l o:Nat} {r:Loop} (hS:S.g.ob o=l) (cJ:o<S.st.aQ.length) (ho:st.aQ[o]?=some (.raw (.loop r))) (hr:r.state=.ready)
  (h:bt P ⟨f,[],some l⟩ N S Q k env (st.set o (.raw (.loop { r with state:=.busy })))):bt P ⟨f,[],some l⟩ N S Q (.beginRound::k) env st:=by
 intro g w tmps hinv hh he hN;have A9:=hh.W6 hS cJ;obtain ⟨_,_,JZ⟩:=hinv.raw o _ ho;obtain ⟨h1,h2⟩:=hinv.IX ho (.loop { r with state:=.busy });rw [A9] at JZ h1 h2;exact eH.beginRound (run_beginRound JZ hr) (h g _ tmps h1 (hh.step h2) (he.mono h2.dB) hN)
theorem bt.EP {l:Nat} (hQ:Q (.d (cB true)) st):bt P ⟨f,[],some l⟩ N S Q [] env st :=
 λg w tmps hinv hh he hN=>eH.EP ⟨_,_,st,g,rfl,hQ,.d _ _ (.ex _),hinv,hh⟩
theorem bt.rangeFunc {i:Nat} {it:FuncId} {TO:List EV} {ps:Array Tmp} {assign body:Code} {st':St} (hx:lookup i env=some (.wv it TO)) (DP:Enters P it) (hlen:st'.aQ.length=st.aQ.length)
  (ZX:∀ (S1:Start) (tm:Array Value) (D l:Nat),S1.base=S.base->Inv S1.g S1.base S1.w S1.st->tm.size=N->dV S1.g S1.w S1.st env tm->S1.g.ob (st.aQ.length+1)=l ->
   S1.st=⟨st.aQ++[.raw (.deferred (some [])),.raw (.loop { state:=.ready,pending:=none,fn:=f,tmps:=tm,params:=ps,assign,body,defers:=D })],st.ar⟩ ->
   ∀ vs,uM S1.g S1.w S1.st (.d (.ex (.func (.yield l) #[] #[]))::TO) vs ->
   Calls P it vs S1.w (ox S1 λ_ st2=>st2=⟨st'.aQ++[.raw (.deferred (some [])),.raw (.loop { state:=.ready,pending:=none,fn:=f,tmps:=tm,params:=ps,assign,body,defers:=D })],st'.ar⟩))
  (hk:∀ (S1:Start) (D:Nat) (x:Obj),S1.base=S.base->S1.g.ob st.aQ.length=D->S1.st=⟨st'.aQ++[.raw (.deferred (some [])),.raw x],st'.ar⟩ ->
   bt P ⟨f,[{ target:=.collected D,args:=#[] }],none⟩ N S1 Q k env ⟨st'.aQ++[.raw (.deferred (some [])),.raw x],st'.ar⟩) :
  bt P (.of f) N S Q (.code (.rangeFunc (.tmp i) ps assign body)::k) env st:=by
 intro g w tmps hinv hh he hN;obtain ⟨v,Zm,hv2⟩:=he i _ hx;cases hv2 with
 | wv _ _ vs DQ sE =>
 have hg:Act.eval ⟨tmps,[]⟩ (.tmp i)=.func (.func it) #[] vs:=by simp [Act.eval,zas,Zm]
 obtain ⟨g1,i1,s1,ob1⟩:=hinv.newObj (.raw (.deferred (some []))) (.deferred (some [])) (λMy DR e=>by cases e) (λes e=>by cases e) (λy e=>by cases e;rfl);obtain ⟨g2,i2,s2,ob2⟩:=i1.newObj (.raw (.loop { state:=.ready,pending:=none,fn:=f,tmps:=tmps,params:=ps,assign,body,defers:=w.heap.size })) (.loop { state:=.ready,pending:=none,fn:=f,tmps:=tmps,params:=ps,assign,body,defers:=w.heap.size }) (λMy DR e=>by cases e) (λes e=>by cases e) (λy e=>by cases e;rfl);have mA:(st.add (.raw (.deferred (some [])))).add (.raw (.loop { state:=.ready,pending:=none,fn:=f,tmps:=tmps,params:=ps,assign,body,defers:=w.heap.size })) =
   ⟨st.aQ++[.raw (.deferred (some [])),.raw (.loop { state:=.ready,pending:=none,fn:=f,tmps:=tmps,params:=ps,assign,body,defers:=w.heap.size })],st.ar⟩:=by simp [St.add]
 rw [mA] at i2 s2;have zV:g2.ob (st.aQ.length+1)=w.heap.size+1:=by
  have:(st.add (.raw (.deferred (some [])))).aQ.length=st.aQ.length+1:=by simp [St.add]
  rw [←this,ob2];simp [World.size_alloc]
 have W8:=s1.trans s2;have hD2:g2.ob st.aQ.length=w.heap.size:=by
  have:st.aQ.length<(st.add (.raw (.deferred (some [])))).aQ.length:=by simp [St.add]
  rw [s2.dB.ob _ this,ob1]
 have Y4:=he.mono W8.dB;have Dz:uM g2 ((w.alloc (.deferred (some []))).alloc (.loop { state:=.ready,pending:=none,fn:=f,tmps:=tmps,params:=ps,assign,body,defers:=w.heap.size })) ⟨st.aQ++[.raw (.deferred (some [])),.raw (.loop { state:=.ready,pending:=none,fn:=f,tmps:=tmps,params:=ps,assign,body,defers:=w.heap.size })],st.ar⟩ (.d (.ex (.func (.yield (w.heap.size+1)) #[] #[]))::TO) (#[.func (.yield (w.heap.size+1)) #[] #[]]++vs):=by
  refine ⟨by simp [DQ,zdm],λj y u hy hu=>?_⟩;cases j with
  | zero =>
   rw [zdx (by simp)] at hu;simp at hy hu;subst hy;subst hu;exact .d _ _ (.ex _)
  | succ j =>
   simp only [List.getElem?_cons_succ] at hy;rw [Array.getElem?_append_right (by simp)] at hu;exact (sE j y u hy (by simpa using hu)).mono W8.dB
 refine eH.rangeFunc hg DP ?_;refine (ZX ⟨g2,_,_,S.base⟩ tmps w.heap.size (w.heap.size+1) rfl i2 hN Y4 zV rfl _ Dz).mono ?_;rintro e w2 ⟨v,r,st2,g3,rfl,rfl,hr,Vs,hh3⟩;refine ⟨⟨v,rfl⟩,?_⟩;have hoL:(⟨st'.aQ++[.raw (.deferred (some [])),.raw (.loop { state:=.ready,pending:=none,fn:=f,tmps:=tmps,params:=ps,assign,body,defers:=w.heap.size })],st'.ar⟩:St).aQ[st.aQ.length+1]?=some (.raw (.loop { state:=.ready,pending:=none,fn:=f,tmps:=tmps,params:=ps,assign,body,defers:=w.heap.size })):=by
  rw [zaw (by omega)];simp [hlen]
 have ZY:g3.ob (st.aQ.length+1)=w.heap.size+1:=(hh3.dB.ob _ (by simp)).trans zV;have ZZ:g3.ob st.aQ.length=w.heap.size:=(hh3.dB.ob _ (by simp)).trans hD2;obtain ⟨_,_,JZ⟩:=Vs.raw _ _ hoL;rw [ZY] at JZ;obtain ⟨q1,q2⟩:=Vs.IX hoL (.loop { state:=.exhausted,pending:=none,fn:=f,tmps:=tmps,params:=ps,assign,body,defers:=w.heap.size });rw [ZY] at q1 q2;refine ⟨_,run_endLoop JZ (by simp),?_⟩;have yd:(⟨st'.aQ++[.raw (.deferred (some [])),.raw (.loop { state:=.ready,pending:=none,fn:=f,tmps:=tmps,params:=ps,assign,body,defers:=w.heap.size })],st'.ar⟩:St).set (st.aQ.length+1) (.raw (.loop { state:=.exhausted,pending:=none,fn:=f,tmps:=tmps,params:=ps,assign,body,defers:=w.heap.size })) =
   ⟨st'.aQ++[.raw (.deferred (some [])),.raw (.loop { state:=.exhausted,pending:=none,fn:=f,tmps:=tmps,params:=ps,assign,body,defers:=w.heap.size })],st'.ar⟩:=by
  unfold St.set;simp only;rw [List.set_append_right _ _ (by omega),←hlen,zfp];rfl
 rw [yd] at q1 q2;have pK:=(W8.trans hh3.toStep).trans q2;refine (hk ⟨g3,_,_,S.base⟩ w.heap.size _ rfl ZZ rfl g3 _ tmps q1 (rW.refl ⟨g3,_,_,S.base⟩) (he.mono pK.dB) hN).mono ?_;rintro e w4 ⟨v4,r4,st4,g4,e1,e2,e3,e4,e5⟩;exact ⟨v4,r4,st4,g4,e1,e2,e3,e4,(hh.step pK).step e5.toStep⟩
theorem bt.W5 {fn:Func} {D o:Nat} (xs:List ResultVar) (es:List EV) (hf:P.funcs[f]?=some fn) (hr:fn.results=xs.toArray) (hS:S.g.ob o=D) (cJ:o<S.st.aQ.length) (ho:st.aQ[o]?=some (.raw (.deferred (some []))))
  (h:E8 P env (st.set o (.raw (.deferred none))) xs es) (hQ:Q (E9 es) (st.set o (.raw (.deferred none)))):bt P ⟨f,[{ target:=.collected D,args:=#[] }],none⟩ N S Q (.code .ret::k) env st:=by
 intro g w tmps hi hh he hn;have A9:=hh.W6 hS cJ;obtain ⟨_,_,JZ⟩:=hi.raw o _ ho;obtain ⟨q1,q2⟩:=hi.IX ho (.deferred none);rw [A9] at JZ q1 q2;have Y4:=he.mono q2.dB;obtain ⟨vs,h1,h2,h3⟩:=IA q1 Y4 h;have iE:(results fn tmps).run P (w.putObj D (.deferred none))=.ok (if h:vs.toArray.size=1 then vs.toArray[0] else .tuple vs.toArray) (w.putObj D (.deferred none)):=by
  have Wy:(results fn tmps)=(do let vs ←fn.results.mapM (Hr tmps);pure (if h:vs.size=1 then vs[0] else .tuple vs)):=by
   unfold results;congr 1
  rw [Wy,hr,zfr];simp only [Sem.run_bind,Sem.run_map,h1,Result.andThen_ok,Sem.run_pure]
 refine eH.W5 hf (run_takeDeferred JZ) iE ⟨_,E9 es,_,g,rfl,hQ,?_,q1,hh.step q2⟩;by_cases hl:vs.toArray.size=1
 ·rw [dif_pos hl]
  match vs,es,h2,hl,h3 with
  | [v],[e],_,_,h3=>exact h3 0 e v rfl rfl
  | [],_,_,hl,_=>simp at hl
  | _::_::_,_,_,hl,_=>simp at hl
 ·rw [dif_neg hl]
  match vs,es,h2,hl,h3 with
  | [v],_,_,hl,_=>simp at hl
  | [],[],_,_,_=>exact .eF _ _ rfl (by simp)
  | a::b::l,a'::b'::l',h2,_,h3=>exact .eF _ _ (by simpa using h2) (λi e v he hv=>h3 i e v he (by simpa using hv))
end run
theorem Calls.W9 {P:Program} {f:FuncId} {fn:Func} {c:Code} {N:Nat} {S:Start} {Q:EV->St->Prop} {args:List EV} {vs:Array Value} (hf:P.funcs[f]?=some fn) (hb:fn.body=some c) (hN:fn.ntmps=N) (hl:Nat.ble args.length N=true)
  (hi:Inv S.g S.base S.w S.st) (ha:uM S.g S.w S.st args vs) (h:bt P (.of f) N S Q [.code c] (An 0 args) S.st):Calls P f vs S.w (ox S Q):=by
 have Tz:=zae hl;have fT:=ha.1;refine eH.calls hf hb ?_;refine h S.g S.w _ hi (rW.refl S) ?_ (by simp [hN];omega);intro j y hy;obtain ⟨k,rfl,hk⟩:=va args 0 j y hy;have Qy:=(zad.1 hk).1;refine ⟨vs[k]'(by omega),?_,ha.2 k y _ hk (by simp [fT,Qy])⟩;rw [zca,zdx (by omega)];simp [fT,Qy]
section yield
variable {P:Program} {f:Ctx} {N:Nat} {S:Start} {Q:EV->St->Prop} {k:List Item} {env:Env} {st:St} {ops rest:List Oper} {ty:TypeId} {pos:String} {after:Array Edge}
theorem cn.Xa {b:Bool} {d t x y:Tmp} {j o l p:Nat} {c:EV} {r:Loop} {a:D} {ts:Array TypeId} {st':St} (hj:(ops[j]?).bind (·.dst)=some t) (hl:lookup t env=some c) (hc:Dk c true=some b) (hbt:b=true) (hd:gD N (some d)=true)
  (hx:lookup x env=some (.gd b (.d (.ex (.func (.yield l) #[] #[]))))) (hy:lookup y env=some (.gd b (.d a))) (ho:st.aQ[o]?=some (.raw (.loop r))) (cJ:o<S.st.aQ.length) (hS:S.g.ob o=l) (hp:r.params=#[p])
  (MW:∀ S2:Start,u9 S.g S.w S.st S2.g S2.w S2.st->S2.base=S.base->S2.st=st->Inv S2.g S2.base S2.w S2.st->∀ v,dA S2.g.lim S2.w a v ->
   eH P ⟨r.fn,[],some l⟩ (ox S2 λ_ st2=>∃ r2,st2.aQ[o]?=some (.raw (.loop r2))/\st'=st2.set o (.raw (.loop { r2 with state:=.ready,pending:=none }))) [.code r.assign,.beginRound,.code r.body] (r.tmps.setIfInBounds p v) S2.w)
  (hk:cn P f N S Q ops rest k ((d,.gd b (.d (cB true)))::env) st') :
  cn P f N S Q ops (⟨some d,.call ⟨.value (.tmp x),#[.tmp y],ts⟩,ty,pos,after,some (j,true)⟩::rest) k env st:=by
 subst hbt;intro i hi g w tmps hinv hh he hn;have mX:ops.toArray[i]?=some ⟨some d,.call ⟨.value (.tmp x),#[.tmp y],ts⟩,ty,pos,after,some (j,true)⟩:=by simpa using (hi 0).symm
 obtain ⟨v,hv,hr⟩:=he t c hl;have hw:Region.wanted ⟨some d,.call ⟨.value (.tmp x),#[.tmp y],ts⟩,ty,pos,after,some (j,true)⟩ (yielded ops.toArray tmps)=true:=by
  have Wc:=tr hc hr;have JY:((ops.toArray)[j]?).bind (·.dst)=some t:=by simpa using hj
  simp only [Region.wanted,yielded,JY,zac,hv];revert Wc;cases v <;> exact λh=>h
 rw [zai,iU];have hi':∀ j:Nat,rest[j]?=ops[i+1+j]?:=λj=>by have:=hi (j+1);simpa [zcp,zdm 1 j] using this
 obtain ⟨vx,hx1,hx2⟩:=he x _ hx;obtain ⟨vy,cZ,fU⟩:=he y _ hy;have WQ:vx=.func (.yield l) #[] #[]:=by
  cases hx2 with
  | gd _ _ _ _ h=>cases h rfl with|d _ _ h=>exact wJ h
 have hvy:dA g.lim w a vy:=by
  cases fU with
  | gd _ _ _ _ h=>cases h rfl with|d _ _ h=>exact h
 subst WQ;have A9:=hh.W6 hS cJ;obtain ⟨_,_,JZ⟩:=hinv.raw o _ ho;rw [A9] at JZ;have vQ:=run_yield (P:=P) (args:=#[vy]) JZ (by rw [hp];rfl);have iE:(execOp (Act.eval ⟨tmps,[]⟩) ⟨some d,.call ⟨.value (.tmp x),#[.tmp y],ts⟩,ty,pos,after,some (j,true)⟩).run P w=.ok (.round l r.fn (r.tmps.setIfInBounds p vy) r.assign r.body) w:=by
  have e1:Act.eval ⟨tmps,[]⟩ (.tmp x)=.func (.yield l) #[] #[]:=by simp [Act.eval,zas,hx1]
  have e2:Act.eval ⟨tmps,[]⟩ (.tmp y)=vy:=by simp [Act.eval,zas,cZ]
  rw [hp] at vQ;simp only [execOp,resolve];rw [e1];simp only [Deferred.ofValue,Sem.run_bind,Sem.run_pure,Result.andThen_ok,invoke];simpa [e2] using vQ
 refine eH.round mX hw iE ?_;refine (MW ⟨g,w,st,S.base⟩ hh.dB rfl rfl hinv vy hvy).mono ?_;rintro e w2 ⟨v2,r2,st2,g2,rfl,⟨rr,hor,Wz⟩,YX,Vt,Z0⟩;obtain ⟨_,_,Z1⟩:=Vt.raw o _ hor;obtain ⟨q1,q2⟩:=Vt.IX hor (.loop { rr with state:=.ready,pending:=none });have hob2:g2.ob o=l:=(Z0.dB.ob o (zad.1 ho).1).trans A9;rw [hob2] at Z1 q1 q2;rw [←Wz] at q1 q2;refine ⟨_,run_endRound none Z1,?_⟩;have pK:=Z0.toStep.trans q2;subst hn;exact hk (i+1) hi' g2 _ _ q1 (hh.step pK) (qP (d:=some d) (he.mono pK.dB) hd (.gd _ _ _ (λh=>by cases h) (λ_=>.d _ _ (.ex _)))) iK
end yield
theorem xu.three {l:List Oper} {p:Nat} {σ:List Nat} (hs:xu l p σ) {a b c:Nat} (Bb:a≠b) (ha:a<p) (hb:b<p) (hc:c<p) (Vo:((dZ l []).getD c 0).testBit a=true) (WK:((dZ l []).getD c 0).testBit b=true) :
  σ.filter (λi=>[a,b,c].any λe=>Nat.beq e i)=[a,b,c]∨σ.filter (λi=>[b,a,c].any λe=>Nat.beq e i)=[b,a,c]:=by
 obtain ⟨x,y,ML⟩:=zef ((hs.mem c).2 hc);have h1:=hs.mask x c y ML;have ax:=h1 a Vo;have bx:=h1 b WK;have nd:=hs.nodup;rw [ML,zdj,zcd] at nd;obtain ⟨_,⟨cy,_⟩,dis⟩:=nd;have cx:∀ i,i∈x->i≠c:=λi hi=>dis i hi c (zah ..)
 have ay:∀ i,i∈y->i≠a/\i≠b/\i≠c:=λi hi=>⟨λe=>dis a ax i (zag _ hi) e.symm,λe=>dis b bx i (zag _ hi) e.symm,λe=>cy (e▸hi)⟩
 have key:∀ (u v:Nat),((u=a/\v=b)∨(u=b/\v=a))->σ.filter (λi=>[u,v].any λe=>Nat.beq e i)=[u,v]->σ.filter (λi=>[u,v,c].any λe=>Nat.beq e i)=[u,v,c]:=by
  intro u v huv h;have q2:∀ i,([u,v].any λe=>Nat.beq e i)=true↔i=u∨i=v:=λi=>by
   simp only [zcx,zfe,zdl,zbx,Nat.beq_eq];exact ⟨λh=>h.imp zfn zfn,λh=>h.imp zfn zfn⟩
  have q3:∀ i,([u,v,c].any λe=>Nat.beq e i)=true↔i=u∨i=v∨i=c:=λi=>by
   simp only [zcx,zfe,zdl,zbx,Nat.beq_eq];exact ⟨λh=>h.imp zfn λh=>h.imp zfn zfn,λh=>h.imp zfn λh=>h.imp zfn zfn⟩
  have ny:∀ i,i∈y->i≠u/\i≠v/\i≠c:=λi hi=>by
   obtain ⟨p1,p2,p3⟩:=ay i hi;rcases huv with ⟨rfl,rfl⟩|⟨rfl,rfl⟩
   ·exact ⟨p1,p2,p3⟩
   ·exact ⟨p2,p1,p3⟩
  have cu:¬(c=u∨c=v):=by
   rcases huv with ⟨rfl,rfl⟩|⟨rfl,rfl⟩
   ·rintro (e|e)
    ·exact cx _ ax e.symm
    ·exact cx _ bx e.symm
   ·rintro (e|e)
    ·exact cx _ bx e.symm
    ·exact cx _ ax e.symm
  have y2:y.filter (λi=>[u,v].any λe=>Nat.beq e i)=[]:=zdr.2 λi hi k=>by
   obtain ⟨p1,p2,_⟩:=ny i hi;rcases (q2 i).1 k with e|e
   ·exact p1 e
   ·exact p2 e
  have y3:y.filter (λi=>[u,v,c].any λe=>Nat.beq e i)=[]:=zdr.2 λi hi k=>by
   obtain ⟨p1,p2,p3⟩:=ny i hi;rcases (q3 i).1 k with e|e|e
   ·exact p1 e
   ·exact p2 e
   ·exact p3 e
  have x3:x.filter (λi=>[u,v,c].any λe=>Nat.beq e i)=x.filter (λi=>[u,v].any λe=>Nat.beq e i):=zej λi hi=>by
   rw [zbo,q2,q3];exact ⟨λh=>h.imp id λh=>h.elim id λe=>absurd e (cx i hi),λh=>h.imp id .inl⟩
  rw [ML,zdu,zbk,zab (λk=>cu ((q2 c).1 k)),y2,zbn] at h;rw [ML,zdu,zbk,zaa ((q3 c).2 (.inr (.inr rfl))),y3,x3,h];rfl
 rcases hs.two Bb ha hb with h|h
 ·exact .inl (key a b (.inl ⟨rfl,rfl⟩) h)
 ·exact .inr (key b a (.inr ⟨rfl,rfl⟩) h)
section run
variable {P:Program} {f:Ctx} {N:Nat} {S:Start} {Q:EV->St->Prop} {k:List Item}
theorem bt.Um {id:Nat} {l:List Oper} {env E0:Env} {st st0:St} (p a b c:Nat) (Rr Rs:List St) (hm:P.follows .mixedOrders=true) (hB:ct l p=true) (Bb:a≠b) (ha:a<p) (hb:b<p) (hc:c<p)
  (Vo:((dZ l []).getD c 0).testBit a=true) (WK:((dZ l []).getD c 0).testBit b=true) (h1:Rr[0]?=some st) (h2:Rs[0]?=some st)
  (H1:cn P f N S Q l (l.drop p) k E0 st0->kZ P f N S Q l p [a,b,c] Rr 0 (l.take p) k env) (H2:cn P f N S Q l (l.drop p) k E0 st0->kZ P f N S Q l p [b,a,c] Rs 0 (l.take p) k env)
  (h:cn P f N S Q l (l.drop p) k E0 st0):bt P f N S Q (.code (.region id l.toArray true)::k) env st :=
 .IN p hm hB λ_ hσ=>(hσ.three Bb ha hb hc Vo WK).elim (λhE=>.Y0 hB hσ hE h1 (H1 h)) (λhE=>.Y0 hB hσ hE h2 (H2 h))
end run
end Go.Abs
namespace Go.Proofs.YtimkfiaffohhkaaGreatDoor
open Go.RowKit Go.Abs
theorem oc:Tryz.prog.follows .mixedOrders=true:=by kernel_rfl
theorem Z2:(Tryz.prog.info? 3).map (·.size)=some 1:=by kernel_rfl
theorem Bu:∃ i,Tryz.prog.info? 3=some i/\i.zero=some (.int .i64 0)/\i.size=1/\i.bytes=8:=info_parts (by kernel_rfl)
theorem sz_4:(Tryz.prog.info? 4).map (·.size)=some 1:=by kernel_rfl
theorem MX:∃ i,Tryz.prog.info? 4=some i/\i.zero=some (.bool false)/\i.size=1/\i.bytes=1:=info_parts (by kernel_rfl)
theorem PO:∃ i,Tryz.prog.info? 9=some i/\i.zero=some (.string ⟨#[]⟩)/\i.size=1/\i.bytes=16:=info_parts (by kernel_rfl)
theorem RD:∃ i,Tryz.prog.info? 23=some i/\i.zero=some (.slice none 0 0)/\i.size=1/\i.bytes=24:=info_parts (by kernel_rfl)
theorem Z3:(Tryz.prog.info? 26).map (·.size)=some 3:=by kernel_rfl
theorem HH:∃ i,Tryz.prog.info? 26=some i/\i.zero=some (.agg #[.slice none 0 0,.slice none 0 0,.slice none 0 0])/\i.size=3/\i.bytes=72:=info_parts (by kernel_rfl)
theorem sW:(Tryz.prog.info? 30).map (·.size)=some 6:=by kernel_rfl
theorem Vu:∃ i,Tryz.prog.info? 30=some i/\i.zero=some (.agg #[.slice none 0 0,.slice none 0 0,.slice none 0 0,.slice none 0 0,.slice none 0 0,.slice none 0 0])/\i.size=6/\i.bytes=144:=info_parts (by kernel_rfl)
theorem RE:∃ i,Tryz.prog.info? 34=some i/\i.zero=some (.agg #[.int .i64 0,.int .i64 0,.int .i64 0,.int .i64 0,.int .i64 0,.int .i64 0])/\i.size=6/\i.bytes=48:=info_parts (by kernel_rfl)
theorem Z4:∃ i,Tryz.prog.info? 38=some i/\i.zero=some (.agg #[.int .i64 0,.int .i64 0,.int .i64 0,.slice none 0 0])/\i.size=4/\i.bytes=48:=info_parts (by kernel_rfl)
theorem Od:(Tryz.prog.info? 40).map (·.size)=some 2:=by kernel_rfl
theorem Z5:∃ i,Tryz.prog.info? 40=some i/\i.zero=some (.agg #[.int .i64 0,.int .i64 0])/\i.size=2/\i.bytes=16:=info_parts (by kernel_rfl)
theorem Oe:(Tryz.prog.info? 54).map (·.size)=some 12:=by kernel_rfl
theorem DA:∃ i,Tryz.prog.info? 54=some i/\i.zero=some (.agg #[.int .i64 0,.int .i64 0,.int .i64 0,.int .i64 0,.string ⟨#[]⟩,.string ⟨#[]⟩,.int .i64 0,.int .i64 0,.int .i64 0,.bool false,.int .i64 0,.int .i64 0])/\i.size=12/\i.bytes=112:=info_parts (by kernel_rfl)
theorem gZ:(Tryz.prog.info? 58).map (·.size)=some 12:=by kernel_rfl
theorem iY:∃ i,Tryz.prog.info? 58=some i/\i.zero=some (.agg #[.int .i64 0,.int .i64 0,.int .i64 0,.string ⟨#[]⟩,.string ⟨#[]⟩,.int .i64 0,.int .i64 0,.int .i64 0,.int .i64 0,.bool false,.int .i64 0,.bool false])/\i.size=12/\i.bytes=112:=info_parts (by kernel_rfl)
theorem HJ:∃ i,Tryz.prog.info? 66=some i/\i.zero=some (.agg #[.int .i64 0,.int .i64 0,.int .i64 0,.int .i64 0])/\i.size=4/\i.bytes=32:=info_parts (by kernel_rfl)
theorem HK:∃ i,Tryz.prog.info? 76=some i/\i.zero=some (.agg #[.int .i64 0,.int .i64 0,.int .i64 0,.int .i64 0])/\i.size=4/\i.bytes=32:=info_parts (by kernel_rfl)
theorem Z6:(Tryz.prog.info? 79).map (·.size)=some 7:=by kernel_rfl
theorem Vv:∃ i,Tryz.prog.info? 79=some i/\i.zero=some (.agg #[.int .i64 0,.int .i64 0,.int .i64 0,.int .i64 0,.string ⟨#[]⟩,.string ⟨#[]⟩,.int .i64 0])/\i.size=7/\i.bytes=72:=info_parts (by kernel_rfl)
theorem Vw:∃ i,Tryz.prog.info? 89=some i/\i.zero=some (.agg #[.slice none 0 0,.slice none 0 0,.slice none 0 0,.slice none 0 0,.slice none 0 0,.slice none 0 0,.slice none 0 0])/\i.size=7/\i.bytes=168:=info_parts (by kernel_rfl)
theorem Of:(Tryz.prog.info? 98).map (·.size)=some 8:=by kernel_rfl
theorem DB:∃ i,Tryz.prog.info? 98=some i/\i.zero=some (.agg #[.int .i64 0,.int .i64 0,.int .i64 0,.string ⟨#[]⟩,.slice none 0 0,.slice none 0 0,.bool false,.bool false])/\i.size=8/\i.bytes=96:=info_parts (by kernel_rfl)
theorem Fq:(Tryz.prog.info? 106).map (·.size)=some 3:=by kernel_rfl
theorem tR:∃ i,Tryz.prog.info? 106=some i/\i.zero=some (.agg #[.int .i64 0,.int .i64 0,.int .i64 0])/\i.size=3/\i.bytes=24:=info_parts (by kernel_rfl)
theorem Xb:∃ i,Tryz.prog.info? 114=some i/\i.zero=some (.agg #[.int .i64 0,.int .i64 0])/\i.size=2/\i.bytes=16:=info_parts (by kernel_rfl)
theorem Xc:∃ i,Tryz.prog.info? 121=some i/\i.zero=some (.slice none 0 0)/\i.size=1/\i.bytes=24:=info_parts (by kernel_rfl)
theorem MY:∃ i,Tryz.prog.info? 123=some i/\i.zero=some (.agg #[.slice none 0 0,.slice none 0 0,.slice none 0 0])/\i.size=3/\i.bytes=72:=info_parts (by kernel_rfl)
theorem Xd:∃ i,Tryz.prog.info? 147=some i/\i.zero=some (.agg #[.slice none 0 0,.slice none 0 0])/\i.size=2/\i.bytes=48:=info_parts (by kernel_rfl)
theorem Xe:∃ i,Tryz.prog.info? 164=some i/\i.zero=some (.agg #[.int .i64 0,.int .i64 0])/\i.size=2/\i.bytes=16:=info_parts (by kernel_rfl)
theorem Xf:∃ i,Tryz.prog.info? 171=some i/\i.zero=some (.agg #[.bool false,.bool false,.bool false,.bool false,.bool false])/\i.size=5/\i.bytes=5:=info_parts (by kernel_rfl)
theorem Xg:(Tryz.prog.info? 175).map (·.size)=some 6:=by kernel_rfl
theorem Fs:∃ i,Tryz.prog.info? 175=some i/\i.zero=some (.agg #[.int .i64 0,.int .i64 0,.int .i64 0,.bool false,.bool false,.slice none 0 0])/\i.size=6/\i.bytes=56:=info_parts (by kernel_rfl)
theorem Xh:∃ i,Tryz.prog.info? 189=some i/\i.zero=some (.agg #[.int .i64 0,.int .i64 0])/\i.size=2/\i.bytes=16:=info_parts (by kernel_rfl)
theorem Xi:∃ i,Tryz.prog.info? 192=some i/\i.zero=some (.agg #[.int .i64 0,.int .i64 0,.int .i64 0,.string ⟨#[]⟩,.string ⟨#[]⟩,.int .i64 0,.int .i64 0,.int .i64 0,.int .i64 0,.bool false,.int .i64 0,.bool false])/\i.size=12/\i.bytes=112:=info_parts (by kernel_rfl)
theorem Xj:∃ i,Tryz.prog.info? 194=some i/\i.zero=some (.agg #[.int .i64 0,.int .i64 0,.int .i64 0,.string ⟨#[]⟩,.string ⟨#[]⟩,.int .i64 0,.int .i64 0,.int .i64 0,.int .i64 0,.bool false,.int .i64 0,.bool false,.slice none 0 0])/\i.size=13/\i.bytes=136:=info_parts (by kernel_rfl)
theorem Xk:∃ i,Tryz.prog.info? 236=some i/\i.zero=some (.agg #[.int .i64 0,.int .i64 0,.int .i64 0,.string ⟨#[]⟩,.string ⟨#[]⟩,.int .i64 0,.bool false])/\i.size=7/\i.bytes=72:=info_parts (by kernel_rfl)
theorem Xl:∃ i,Tryz.prog.info? 275=some i/\i.zero=some (.agg #[.map none,.map none,.map none,.map none,.map none,.slice none 0 0,.slice none 0 0])/\i.size=7/\i.bytes=88:=info_parts (by kernel_rfl)
theorem yY:fW Tryz.prog 30 1=some 3:=by kernel_rfl
theorem Og:fW Tryz.prog 30 2=some 4:=by kernel_rfl
theorem Ep:fW Tryz.prog 79 2=some 2:=by kernel_rfl
theorem yZ:fW Tryz.prog 79 3=some 3:=by kernel_rfl
theorem uS:fW Tryz.prog 89 0=some 0:=by kernel_rfl
theorem Er:fW Tryz.prog 89 1=some 6:=by kernel_rfl
theorem IY:fW Tryz.prog 98 1=some 1:=by kernel_rfl
theorem RF:fW Tryz.prog 123 0=some 0:=by kernel_rfl
theorem RG:fW Tryz.prog 123 1=some 1:=by kernel_rfl
theorem RH:fW Tryz.prog 123 2=some 2:=by kernel_rfl
theorem Bv:fW Tryz.prog 275 0=some 0:=by kernel_rfl
theorem vR:fW Tryz.prog 275 1=some 1:=by kernel_rfl
theorem r8:(Tryz.prog.underlying 3).map lT=some true:=by kernel_rfl
theorem Vx:(Tryz.prog.underlying 4).map lT=some true:=by kernel_rfl
theorem RI:(Tryz.prog.underlying 23).map lT=some true:=by kernel_rfl
theorem Xm:(Tryz.prog.underlying 26).map lT=some false:=by kernel_rfl
theorem CE:(Tryz.prog.underlying 27).map lT=some true:=by kernel_rfl
theorem p8:(Tryz.prog.underlying 30).map lT=some false:=by kernel_rfl
theorem IZ:(Tryz.prog.underlying 36).map lT=some true:=by kernel_rfl
theorem I0:(Tryz.prog.underlying 40).map lT=some false:=by kernel_rfl
theorem RJ:(Tryz.prog.underlying 54).map lT=some false:=by kernel_rfl
theorem eY:(Tryz.prog.underlying 58).map lT=some false:=by kernel_rfl
theorem Xn:(Tryz.prog.underlying 79).map lT=some false:=by kernel_rfl
theorem RK:(Tryz.prog.underlying 98).map lT=some false:=by kernel_rfl
theorem Bw:(Tryz.prog.underlying 106).map lT=some false:=by kernel_rfl
theorem Oh:(Tryz.prog.underlying 119).map lT=some true:=by kernel_rfl
theorem za:(Tryz.prog.underlying 120).map lT=some true:=by kernel_rfl
theorem zb:(Tryz.prog.underlying 121).map lT=some true:=by kernel_rfl
theorem Es:(Tryz.prog.underlying 272).map lT=some true:=by kernel_rfl
theorem zc:(Tryz.prog.underlying 273).map lT=some true:=by kernel_rfl
theorem Ft:placesOf Tryz.prog 26=some [(0,1),(1,1),(2,1)]:=by kernel_rfl
theorem KS:placesOf Tryz.prog 30=some [(0,3),(3,1),(4,1),(5,1)]:=by kernel_rfl
theorem Oi:placesOf Tryz.prog 34=some [(0,1),(1,1),(2,1),(3,1),(4,1),(5,1)]:=by kernel_rfl
theorem Oj:placesOf Tryz.prog 38=some [(0,1),(1,1),(2,1),(3,1)]:=by kernel_rfl
theorem Z7:placesOf Tryz.prog 40=some [(0,1),(1,1)]:=by kernel_rfl
theorem z7:placesOf Tryz.prog 54=some [(0,1),(1,1),(2,1),(3,1),(4,1),(5,1),(6,1),(7,1),(8,1),(9,1),(10,1),(11,1)]:=by kernel_rfl
theorem yn:placesOf Tryz.prog 58=some [(0,1),(1,1),(2,1),(3,1),(4,1),(5,1),(6,1),(7,1),(8,1),(9,1),(10,1),(11,1)]:=by kernel_rfl
theorem Vy:placesOf Tryz.prog 66=some [(0,1),(1,1),(2,1),(3,1)]:=by kernel_rfl
theorem Vz:placesOf Tryz.prog 76=some [(0,1),(1,1),(2,1),(3,1)]:=by kernel_rfl
theorem Ol:placesOf Tryz.prog 79=some [(0,1),(1,1),(2,1),(3,1),(4,1),(5,1),(6,1)]:=by kernel_rfl
theorem VA:placesOf Tryz.prog 89=some [(0,6),(6,1)]:=by kernel_rfl
theorem KT:placesOf Tryz.prog 98=some [(0,1),(1,1),(2,1),(3,1),(4,1),(5,1),(6,1),(7,1)]:=by kernel_rfl
theorem Xo:placesOf Tryz.prog 106=some [(0,1),(1,1),(2,1)]:=by kernel_rfl
theorem Xp:placesOf Tryz.prog 114=some [(0,1),(1,1)]:=by kernel_rfl
theorem MZ:placesOf Tryz.prog 123=some [(0,1),(1,1),(2,1)]:=by kernel_rfl
theorem Xq:placesOf Tryz.prog 147=some [(0,1),(1,1)]:=by kernel_rfl
theorem Xr:placesOf Tryz.prog 164=some [(0,1),(1,1)]:=by kernel_rfl
theorem RL:placesOf Tryz.prog 175=some [(0,1),(1,1),(2,1),(3,1),(4,1),(5,1)]:=by kernel_rfl
theorem Xs:placesOf Tryz.prog 189=some [(0,1),(1,1)]:=by kernel_rfl
theorem Xt:placesOf Tryz.prog 192=some [(0,12)]:=by kernel_rfl
theorem Xu:placesOf Tryz.prog 194=some [(0,12),(12,1)]:=by kernel_rfl
theorem Xv:placesOf Tryz.prog 236=some [(0,2),(2,1),(3,1),(4,1),(5,1),(6,1)]:=by kernel_rfl
theorem Xw:placesOf Tryz.prog 275=some [(0,1),(1,1),(2,1),(3,1),(4,1),(5,1),(6,1)]:=by kernel_rfl
theorem Z8:(Tryz.prog.info? 26).bind (·.zero)=some (.agg #[.slice none 0 0,.slice none 0 0,.slice none 0 0]):=by kernel_rfl
theorem Z9:(Tryz.prog.info? 28).bind (·.zero)=some (.slice none 0 0):=by kernel_rfl
theorem Om:(Tryz.prog.info? 30).bind (·.zero)=some (.agg #[.slice none 0 0,.slice none 0 0,.slice none 0 0,.slice none 0 0,.slice none 0 0,.slice none 0 0]):=by kernel_rfl
theorem KU:(Tryz.prog.info? 34).bind (·.zero)=some (.agg #[.int .i64 0,.int .i64 0,.int .i64 0,.int .i64 0,.int .i64 0,.int .i64 0]):=by kernel_rfl
theorem aaa:(Tryz.prog.info? 40).bind (·.zero)=some (.agg #[.int .i64 0,.int .i64 0]):=by kernel_rfl
theorem RM:(Tryz.prog.info? 54).bind (·.zero)=some (.agg #[.int .i64 0,.int .i64 0,.int .i64 0,.int .i64 0,.string ⟨#[]⟩,.string ⟨#[]⟩,.int .i64 0,.int .i64 0,.int .i64 0,.bool false,.int .i64 0,.int .i64 0]):=by kernel_rfl
theorem KV:(Tryz.prog.info? 58).bind (·.zero)=some (.agg #[.int .i64 0,.int .i64 0,.int .i64 0,.string ⟨#[]⟩,.string ⟨#[]⟩,.int .i64 0,.int .i64 0,.int .i64 0,.int .i64 0,.bool false,.int .i64 0,.bool false]):=by kernel_rfl
theorem aab:(Tryz.prog.info? 66).bind (·.zero)=some (.agg #[.int .i64 0,.int .i64 0,.int .i64 0,.int .i64 0]):=by kernel_rfl
theorem aac:(Tryz.prog.info? 76).bind (·.zero)=some (.agg #[.int .i64 0,.int .i64 0,.int .i64 0,.int .i64 0]):=by kernel_rfl
theorem aad:(Tryz.prog.info? 79).bind (·.zero)=some (.agg #[.int .i64 0,.int .i64 0,.int .i64 0,.int .i64 0,.string ⟨#[]⟩,.string ⟨#[]⟩,.int .i64 0]):=by kernel_rfl
theorem RN:(Tryz.prog.info? 98).bind (·.zero)=some (.agg #[.int .i64 0,.int .i64 0,.int .i64 0,.string ⟨#[]⟩,.slice none 0 0,.slice none 0 0,.bool false,.bool false]):=by kernel_rfl
theorem Xx:(Tryz.prog.info? 106).bind (·.zero)=some (.agg #[.int .i64 0,.int .i64 0,.int .i64 0]):=by kernel_rfl
theorem Xy:(Tryz.prog.info? 114).bind (·.zero)=some (.agg #[.int .i64 0,.int .i64 0]):=by kernel_rfl
theorem Fu:(Tryz.prog.info? 123).bind (·.zero)=some (.agg #[.slice none 0 0,.slice none 0 0,.slice none 0 0]):=by kernel_rfl
theorem Xz:(Tryz.prog.info? 147).bind (·.zero)=some (.agg #[.slice none 0 0,.slice none 0 0]):=by kernel_rfl
theorem XA:(Tryz.prog.info? 164).bind (·.zero)=some (.agg #[.int .i64 0,.int .i64 0]):=by kernel_rfl
theorem XB:(Tryz.prog.info? 171).bind (·.zero)=some (.agg #[.bool false,.bool false,.bool false,.bool false,.bool false]):=by kernel_rfl
theorem M0:(Tryz.prog.info? 175).bind (·.zero)=some (.agg #[.int .i64 0,.int .i64 0,.int .i64 0,.bool false,.bool false,.slice none 0 0]):=by kernel_rfl
theorem XC:(Tryz.prog.info? 189).bind (·.zero)=some (.agg #[.int .i64 0,.int .i64 0]):=by kernel_rfl
theorem XD:(Tryz.prog.info? 194).bind (·.zero)=some (.agg #[.int .i64 0,.int .i64 0,.int .i64 0,.string ⟨#[]⟩,.string ⟨#[]⟩,.int .i64 0,.int .i64 0,.int .i64 0,.int .i64 0,.bool false,.int .i64 0,.bool false,.slice none 0 0]):=by kernel_rfl
theorem XE:(Tryz.prog.info? 236).bind (·.zero)=some (.agg #[.int .i64 0,.int .i64 0,.int .i64 0,.string ⟨#[]⟩,.string ⟨#[]⟩,.int .i64 0,.bool false]):=by kernel_rfl
theorem XF:(Tryz.prog.info? 261).bind (·.zero)=some (.pointer none):=by kernel_rfl
theorem RO:iy Tryz.prog 34=some [.i .i64,.i .i64,.i .i64,.i .i64,.i .i64,.i .i64]:=by kernel_rfl
theorem aae:iy Tryz.prog 54=some [.i .i64,.i .i64,.i .i64,.i .i64,.s,.s,.i .i64,.i .i64,.i .i64,.b,.i .i64,.i .i64]:=by kernel_rfl
theorem VB:iy Tryz.prog 58=some [.i .i64,.i .i64,.i .i64,.s,.s,.i .i64,.i .i64,.i .i64,.i .i64,.b,.i .i64,.b]:=by kernel_rfl
theorem aaf:iy Tryz.prog 66=some [.i .i64,.i .i64,.i .i64,.i .i64]:=by kernel_rfl
theorem RP:iy Tryz.prog 76=some [.i .i64,.i .i64,.i .i64,.i .i64]:=by kernel_rfl
theorem XG:iy Tryz.prog 106=some [.i .i64,.i .i64,.i .i64]:=by kernel_rfl
theorem XH:iy Tryz.prog 114=some [.i .i64,.i .i64]:=by kernel_rfl
theorem XI:iy Tryz.prog 164=some [.i .i64,.i .i64]:=by kernel_rfl
theorem RQ:iy Tryz.prog 189=some [.i .i64,.i .i64]:=by kernel_rfl
theorem XJ:N6 Tryz.prog 236=some [.i .i64,.i .i64,.i .i64,.s,.s,.i .i64,.b]:=by kernel_rfl
def ens:List Nat:=[17,163,189,150,151,114,115,116,123,124,72,125,86,48,85,149,148,110,113,164,165,166,126,70,127,130,83,177,134,186,71,144,40,187,143,139,180,141,181,182,132,133,131,76,77,78,79,80,81,84,227,228,223,224,213,214,222,215,216,203,202,183,184,185,135,136,87,88,89,46,47,49,43,111,65,67,66,68,112,69,39,42,73,37,36,35,38,41,13,30,18,23,12,103,64,108,109,63,145,33,147,107,105,106,104,61,60,59,58,34,62,44,31,32,14,9,10,11,118,156,157,158,100,121,99,159,97,160,117,119,120,161,162,122,74,75,45,137,138,90,91,94,92,93,98,96,54,55,24,50,51,25,95,53,22,52,16,15,20,19,21,26,140,142,101,56,188,146,102,57,29,28,27]
theorem en (i:Nat) {f:Nat} (h:ens[i]?=some f):Go.Abs.Enters Tryz.prog f:=Go.Abs.enters_of (by kernel_rfl) h
def I1:FT:=⟨[3,4,9,22,23,24,27,28,36,45,96,108,119,120,121,234,249,261,272,273],[(26,3),(30,6),(34,6),(38,4),(40,2),(54,12),(58,12),(66,4),(76,4),(79,7),(98,8),(106,3),(114,2),(123,3),(147,2),(164,2),(171,5),(175,6),(189,2),(192,12),(194,13),(236,7)],[(3,1),(4,1),(9,1),(22,1),(23,1),(24,1),(26,3),(27,1),(28,1),(30,6),(34,6),(40,2),(54,12),(58,12),(66,4),(76,4),(79,7),(96,1),(98,8),(106,3),(114,2),(119,1),(120,1),(121,1),(123,3),(147,2),(164,2),(171,5),(175,6),(189,2),(194,13),(236,7),(261,1)],[(26,[(0,0),(1,1),(2,2)]),(30,[(0,0),(1,3),(2,4),(3,5)]),(34,[(0,0),(1,1),(2,2),(3,3),(4,4),(5,5)]),(38,[(0,0),(1,1),(2,2),(3,3)]),(40,[(0,0),(1,1)]),(42,[(0,0),(1,4)]),(54,[(0,0),(1,1),(2,2),(3,3),(4,4),(5,5),(6,6),(7,7),(8,8),(9,9),(10,10),(11,11)]),(58,[(0,0),(1,1),(2,2),(3,3),(4,4),(5,5),(6,6),(7,7),(8,8),(9,9),(10,10),(11,11)]),(66,[(2,2),(3,3)]),(76,[(0,0),(1,1),(2,2),(3,3)]),(79,[(0,0),(1,1),(2,2),(3,3),(4,4),(5,5),(6,6)]),(89,[(0,0)]),(98,[(0,0),(1,1),(3,3),(4,4),(5,5),(6,6),(7,7)]),(106,[(0,0),(1,1),(2,2)]),(123,[(0,0),(1,1),(2,2)]),(147,[(0,0),(1,1)]),(175,[(0,0),(3,3),(4,4),(5,5)]),(192,[(0,0)]),(194,[(0,0),(1,12)]),(275,[(0,0),(1,1),(2,2),(3,3),(4,4),(5,5),(6,6)])],[(26,[bd,bd,bd]),(28,[bd]),(30,[bd,bd,bd,bd,bd,bd]),(34,[cI 0,cI 0,cI 0,cI 0,cI 0,cI 0]),(40,[cI 0,cI 0]),(54,[cI 0,cI 0,cI 0,cI 0,cS ([]:List UInt8),cS ([]:List UInt8),cI 0,cI 0,cI 0,cB false,cI 0,cI 0]),(58,[cI 0,cI 0,cI 0,cS ([]:List UInt8),cS ([]:List UInt8),cI 0,cI 0,cI 0,cI 0,cB false,cI 0,cB false]),(66,[cI 0,cI 0,cI 0,cI 0]),(76,[cI 0,cI 0,cI 0,cI 0]),(79,[cI 0,cI 0,cI 0,cI 0,cS ([]:List UInt8),cS ([]:List UInt8),cI 0]),(98,[cI 0,cI 0,cI 0,cS ([]:List UInt8),bd,bd,cB false,cB false]),(106,[cI 0,cI 0,cI 0]),(114,[cI 0,cI 0]),(123,[bd,bd,bd]),(147,[bd,bd]),(164,[cI 0,cI 0]),(171,[cB false,cB false,cB false,cB false,cB false]),(175,[cI 0,cI 0,cI 0,cB false,cB false,bd]),(189,[cI 0,cI 0]),(194,[cI 0,cI 0,cI 0,cS ([]:List UInt8),cS ([]:List UInt8),cI 0,cI 0,cI 0,cI 0,cB false,cI 0,cB false,bd]),(236,[cI 0,cI 0,cI 0,cS ([]:List UInt8),cS ([]:List UInt8),cI 0,cB false]),(261,[.ex (.pointer none)])]⟩
theorem Fv:I1.Ok Tryz.prog:=FT.ZR (by kernel_rfl) ⟨⟨_,Z8,rfl⟩,⟨_,Z9,rfl⟩,⟨_,Om,rfl⟩,⟨_,KU,rfl⟩,⟨_,aaa,rfl⟩,⟨_,RM,rfl⟩,⟨_,KV,rfl⟩,⟨_,aab,rfl⟩,⟨_,aac,rfl⟩,⟨_,aad,rfl⟩,⟨_,RN,rfl⟩,⟨_,Xx,rfl⟩,⟨_,Xy,rfl⟩,⟨_,Fu,rfl⟩,⟨_,Xz,rfl⟩,⟨_,XA,rfl⟩,⟨_,XB,rfl⟩,⟨_,M0,rfl⟩,⟨_,XC,rfl⟩,⟨_,XD,rfl⟩,⟨_,XE,rfl⟩,⟨_,XF,rfl⟩,trivial⟩
theorem zd:KL Tryz.prog 22 106 3:=.of Tryz.underlying22 tR rfl rfl
theorem ir:KL Tryz.prog 23 58 12:=.of Tryz.underlying23 iY rfl rfl
theorem DV:KL Tryz.prog 24 76 4:=.of Tryz.underlying24 HK rfl rfl
theorem Cl:KL Tryz.prog 27 54 12:=.of Tryz.underlying27 DA rfl rfl
theorem J2:KL Tryz.prog 28 66 4:=.of Tryz.underlying28 HJ rfl rfl
theorem M1:KL Tryz.prog 36 79 7:=.of Tryz.underlying36 Vv rfl rfl
theorem DW:KL Tryz.prog 96 9 1:=.of Tryz.underlying96 PO rfl rfl
theorem I2:KL Tryz.prog 119 175 6:=.of Tryz.underlying119 Fs rfl rfl
theorem tS:KL Tryz.prog 120 98 8:=.of Tryz.underlying120 DB rfl rfl
theorem sK:KL Tryz.prog 121 3 1:=.of Tryz.underlying121 Bu rfl rfl
theorem Un:KL Tryz.prog 165 23 1:=.of Tryz.underlying165 RD rfl rfl
end Go.Proofs.YtimkfiaffohhkaaGreatDoor
namespace Go.Abs
open Go.Proofs Go.Proofs.YtimkfiaffohhkaaGreatDoor
section
variable {f:Ctx} {N p p':Nat} {S:Start} {Q:EV->St->Prop} {k k':List Item} {l o l' o':List Oper} {env env':Env} {st st':St} {ps:List Prop}
theorem bt.A (n:Nat) (hs:List Hint) (h:N9 Tryz.prog S.base I1 N n (.run k) env st hs=some ⟨.run k',env',st',ps⟩) (hp:sJ ps) (hk:bt Tryz.prog f N S Q k' env' st'):bt Tryz.prog f N S Q k env st:=tw Fv oc h hp hk
theorem bt.E (n:Nat) (h:N9 Tryz.prog S.base I1 N n (.run k) env st []=some ⟨.run k',env',st',[]⟩) (hk:bt Tryz.prog f N S Q k' env' st'):bt Tryz.prog f N S Q k env st:=.A n [] h trivial hk
theorem bt.AH (n:Nat) (hs:List Hint) (h:Uk Tryz.prog S.base I1 N n (.run k) env st hs=some ⟨.run k',env',st',ps⟩) (hp:sJ ps) (hk:bt Tryz.prog f N S Q k' env' st'):bt Tryz.prog f N S Q k env st:=CD Fv oc h hp hk
theorem bt.EH (n:Nat) (h:Uk Tryz.prog S.base I1 N n (.run k) env st []=some ⟨.run k',env',st',[]⟩) (hk:bt Tryz.prog f N S Q k' env' st'):bt Tryz.prog f N S Q k env st:=.AH n [] h trivial hk
theorem bt.B (n:Nat) (hs:List Hint) (h:N9 Tryz.prog S.base I1 N n (.run k) env st hs=some ⟨.ops l' o' k',env',st',ps⟩) (hp:sJ ps) (hk:cn Tryz.prog f N S Q l' o' k' env' st'):bt Tryz.prog f N S Q k env st:=tw Fv oc h hp hk
theorem bt.F (n:Nat) (h:N9 Tryz.prog S.base I1 N n (.run k) env st []=some ⟨.ops l' o' k',env',st',[]⟩) (hk:cn Tryz.prog f N S Q l' o' k' env' st'):bt Tryz.prog f N S Q k env st:=.B n [] h trivial hk
theorem bt.BH (n:Nat) (hs:List Hint) (h:Uk Tryz.prog S.base I1 N n (.run k) env st hs=some ⟨.ops l' o' k',env',st',ps⟩) (hp:sJ ps) (hk:cn Tryz.prog f N S Q l' o' k' env' st'):bt Tryz.prog f N S Q k env st:=CD Fv oc h hp hk
theorem bt.FH (n:Nat) (h:Uk Tryz.prog S.base I1 N n (.run k) env st []=some ⟨.ops l' o' k',env',st',[]⟩) (hk:cn Tryz.prog f N S Q l' o' k' env' st'):bt Tryz.prog f N S Q k env st:=.BH n [] h trivial hk
theorem bt.C (n:Nat) (hs:List Hint) (h:N9 Tryz.prog S.base I1 N n (.run k) env st hs=some ⟨.draw l' p' o' k',env',st',ps⟩) (hp:sJ ps) (hk:ve Tryz.prog f N S Q l' p' o' k' env' st'):bt Tryz.prog f N S Q k env st:=tw Fv oc h hp hk
theorem cn.A (n:Nat) (hs:List Hint) (h:N9 Tryz.prog S.base I1 N n (.ops l o k) env st hs=some ⟨.run k',env',st',ps⟩) (hp:sJ ps) (hk:bt Tryz.prog f N S Q k' env' st'):cn Tryz.prog f N S Q l o k env st:=tw Fv oc h hp hk
theorem cn.E (n:Nat) (h:N9 Tryz.prog S.base I1 N n (.ops l o k) env st []=some ⟨.run k',env',st',[]⟩) (hk:bt Tryz.prog f N S Q k' env' st'):cn Tryz.prog f N S Q l o k env st:=.A n [] h trivial hk
theorem cn.AH (n:Nat) (hs:List Hint) (h:Uk Tryz.prog S.base I1 N n (.ops l o k) env st hs=some ⟨.run k',env',st',ps⟩) (hp:sJ ps) (hk:bt Tryz.prog f N S Q k' env' st'):cn Tryz.prog f N S Q l o k env st:=CD Fv oc h hp hk
theorem cn.EH (n:Nat) (h:Uk Tryz.prog S.base I1 N n (.ops l o k) env st []=some ⟨.run k',env',st',[]⟩) (hk:bt Tryz.prog f N S Q k' env' st'):cn Tryz.prog f N S Q l o k env st:=.AH n [] h trivial hk
theorem cn.B (n:Nat) (hs:List Hint) (h:N9 Tryz.prog S.base I1 N n (.ops l o k) env st hs=some ⟨.ops l' o' k',env',st',ps⟩) (hp:sJ ps) (hk:cn Tryz.prog f N S Q l' o' k' env' st'):cn Tryz.prog f N S Q l o k env st:=tw Fv oc h hp hk
theorem cn.F (n:Nat) (h:N9 Tryz.prog S.base I1 N n (.ops l o k) env st []=some ⟨.ops l' o' k',env',st',[]⟩) (hk:cn Tryz.prog f N S Q l' o' k' env' st'):cn Tryz.prog f N S Q l o k env st:=.B n [] h trivial hk
theorem ve.A (n:Nat) (hs:List Hint) (h:N9 Tryz.prog S.base I1 N n (.draw l p o k) env st hs=some ⟨.run k',env',st',ps⟩) (hp:sJ ps) (hk:bt Tryz.prog f N S Q k' env' st'):ve Tryz.prog f N S Q l p o k env st:=tw Fv oc h hp hk
theorem ve.E (n:Nat) (h:N9 Tryz.prog S.base I1 N n (.draw l p o k) env st []=some ⟨.run k',env',st',[]⟩) (hk:bt Tryz.prog f N S Q k' env' st'):ve Tryz.prog f N S Q l p o k env st:=.A n [] h trivial hk
theorem bt.R {f:FuncId} {fn:Func} {xs:List ResultVar} {es:List EV} (hf:Tryz.prog.funcs[f]?=some fn) (hr:fn.results=xs.toArray) (h:MQ I1 env st xs=some es) (hQ:Q (E9 es) st):bt Tryz.prog (.of f) N S Q (.code .ret::k) env st:=.rc Fv hf hr h hQ
end
end Go.Abs
namespace Go.Proofs.YtimkfiaffohhkaaGreatDoor
end Go.Proofs.YtimkfiaffohhkaaGreatDoor
