/- The frame rule: a call by a contract on a part of the state. -/
import Derived.Test.YtpdanklncjopoaaG1
set_option linter.unusedSimpArgs false
set_option linter.unusedVariables false
set_option linter.unusedSectionVars false
namespace Go.Abs
open Go.RowKit

def mergeSt (st s1 : St) (rs ts : List Nat) : St :=
  ⟨mergeL st.objs rs (s1.objs.map (AObj.ren (renF rs st.objs.length) (renF ts st.tails.length))), mergeL st.tails ts s1.tails⟩

theorem Inv.mergeBack {g g1 : Ghost} {w w1 : World} {base : Nat} {st s0 s1 : St} {rs ts : List Nat} (h : Inv g base w st) (hr : Emb rs st.objs.length) (ht : Emb ts st.tails.length)
    (hlr : rs.length = s0.objs.length) (hlt : ts.length = s0.tails.length)
    (p : Part (renF rs st.objs.length) (renF ts st.tails.length) s0 st) (h1 : Inv g1 base w1 s1) (hs : Step base (g.sub (renF rs st.objs.length) (renF ts st.tails.length)) w s0 g1 w1 s1) :
    ∃ g', Inv g' base w1 (mergeSt st s1 rs ts) ∧ Step base g w st g' w1 (mergeSt st s1 rs ts) ∧
      ∀ x v, EVRep g1 w1 s1 x v → EVRep g' w1 (mergeSt st s1 rs ts) (x.ren (renF rs st.objs.length) (renF ts st.tails.length)) v := by
  have hl1 : rs.length ≤ s1.objs.length := by rw [hlr]; exact hs.sevo.objs
  have hl2 : ts.length ≤ s1.tails.length := by rw [hlt]; exact hs.sevo.tlen
  generalize hN : st.objs.length = N at *
  generalize hM : st.tails.length = M at *
  generalize hρ : renF rs N = ρ at *
  generalize hτ : renF ts M = τ at *
  have hst' : mergeSt st s1 rs ts = ⟨mergeL st.objs rs (s1.objs.map (AObj.ren ρ τ)), mergeL st.tails ts s1.tails⟩ := by unfold mergeSt; rw [hN, hM, hρ, hτ]
  rw [hst']
  generalize hS : (⟨mergeL st.objs rs (s1.objs.map (AObj.ren ρ τ)), mergeL st.tails ts s1.tails⟩ : St) = S
  have hSo : ∀ i, S.objs[ρ i]? = (s1.objs[i]?).map (AObj.ren ρ τ) := fun i => by
    rw [← hS, ← hρ]
    simp only
    rw [mergeL_get rs _ _ N hN hr (by simpa using hl1) i, List.getElem?_map, hρ]
  have hSt : ∀ i, S.tails[τ i]? = s1.tails[i]? := fun i => by
    rw [← hS, ← hτ]
    exact mergeL_get ts _ _ M hM ht hl2 i
  have hSo' : ∀ o, invF rs N o = none → S.objs[o]? = st.objs[o]? := fun o ho => by
    obtain ⟨k1, k2⟩ := inv_none ho
    rw [← hS]
    exact mergeL_other rs _ _ o (by rw [hN]; exact k1) fun hm => by
      obtain ⟨j, hj⟩ := List.mem_iff_getElem?.1 hm
      refine k2 j ?_
      simp [renF, hj]
  have hSt' : ∀ t, invF ts M t = none → S.tails[t]? = st.tails[t]? := fun t ho => by
    obtain ⟨k1, k2⟩ := inv_none ho
    rw [← hS]
    exact mergeL_other ts _ _ t (by rw [hM]; exact k1) fun hm => by
      obtain ⟨j, hj⟩ := List.mem_iff_getElem?.1 hm
      refine k2 j ?_
      simp [renF, hj]
  have hSl : N ≤ S.objs.length := by rw [← hS, ← hN]; show _ ≤ (mergeL _ _ _).length; rw [mergeL_len rs _ _ (by simpa using hl1)]; omega
  have hSlt : M ≤ S.tails.length := by rw [← hS, ← hM]; show _ ≤ (mergeL _ _ _).length; rw [mergeL_len ts _ _ hl2]; omega
  let g' : Ghost := ⟨g1.lim, fun o => match invF rs N o with | some i => g1.ob i | none => g.ob o, fun t => match invF ts M t with | some i => g1.tk i | none => g.tk t⟩
  have gob : ∀ i, g'.ob (ρ i) = g1.ob i := fun i => by
    show (match invF rs N (ρ i) with | some i => g1.ob i | none => g.ob (ρ i)) = _
    rw [← hρ, inv_ren hr i]
  have gtk : ∀ i, g'.tk (τ i) = g1.tk i := fun i => by
    show (match invF ts M (τ i) with | some i => g1.tk i | none => g.tk (τ i)) = _
    rw [← hτ, inv_ren ht i]
  have gob' : ∀ o, invF rs N o = none → g'.ob o = g.ob o := fun o ho => by
    show (match invF rs N o with | some i => g1.ob i | none => g.ob o) = _
    rw [ho]
  have gtk' : ∀ t, invF ts M t = none → g'.tk t = g.tk t := fun t ho => by
    show (match invF ts M t with | some i => g1.tk i | none => g.tk t) = _
    rw [ho]
  have rinv : ∀ {o i : Nat}, invF rs N o = some i → o = ρ i := fun {o i} e => by rw [← hρ]; exact (inv_some e).symm
  have tinv : ∀ {t i : Nat}, invF ts M t = some i → t = τ i := fun {t i} e => by rw [← hτ]; exact (inv_some e).symm
  have up : ∀ {x : EV} {v : Value}, EVRep g1 w1 s1 x v → EVRep g' w1 S (x.ren ρ τ) v := fun {x v} hx => by
    refine EVRep.up (fun o ho => ⟨gob o, ?_⟩) rfl (fun t ht => ⟨hSt t, gtk t⟩) hx
    have e := hSo o
    rw [List.getElem?_eq_getElem ho] at e
    exact (List.getElem?_eq_some_iff.1 e).1
  -- what the call does not own
  have hfar : ∀ b, b < w.heap.size → ¬ Owned (g.sub ρ τ) s0 b → w1.heap[b]? = w.heap[b]? ∧ g1.lim b = g.lim b := hs.frame
  have hnear : ∀ b, b < w.heap.size → Owned g1 s1 b → Owned (g.sub ρ τ) s0 b := hs.fresh
  have uo : ∀ o, invF rs N o = none → st.live o → g.ob o < w.heap.size ∧ ¬ Owned (g.sub ρ τ) s0 (g.ob o) := fun o ho hl => by
    refine ⟨(h.live_lt hl).1, fun hw => ?_⟩
    rcases hw with ⟨i, a1, a2⟩ | ⟨t, x, a1, a2⟩
    · have hne : ρ i ≠ o := fun e => by rw [← e, ← hρ, inv_ren hr i] at ho; cases ho
      exact h.ne _ _ hne (p.live a1) hl a2
    · exact h.tailObj _ x o (p.tails t x a1) hl a2
  have ut : ∀ t x b, invF ts M t = none → st.tails[t]? = some x → (g.tk t).ownBlock = some b → b < w.heap.size ∧ ¬ Owned (g.sub ρ τ) s0 b := fun t x b ho hx hb => by
    refine ⟨(h.tail_lt hx hb).2, fun hw => ?_⟩
    rcases hw with ⟨i, a1, a2⟩ | ⟨i, y, a1, a2⟩
    · exact h.tailObj t x _ hx (p.live a1) (by rw [hb]; exact congrArg some a2.symm)
    · have hne : τ i ≠ t := fun e => by rw [← e, ← hτ, inv_ren ht i] at ho; cases ho
      exact h.tailNe _ _ y x b hne (p.tails i y a1) hx a2 hb
  have s0o : ∀ {o i : Nat}, invF rs N o = some i → o < N → i < s0.objs.length := fun {o i} e ho => by rw [← hlr]; exact inv_small hr e ho
  have s0t : ∀ {t i : Nat}, invF ts M t = some i → t < M → i < s0.tails.length := fun {t i} e ho => by rw [← hlt]; exact inv_small ht e ho
  have s0tail : ∀ {i : Nat}, i < s0.tails.length → ∀ {x : Tail}, st.tails[τ i]? = some x → s0.tails[i]? = some x := fun {i} hi {x} hx => by
    have e := p.tails i _ (List.getElem?_eq_getElem hi)
    rw [hx] at e
    cases e
    exact List.getElem?_eq_getElem hi
  have hsev : SEvo g w st g' w1 S := by
    refine ⟨hs.sevo.evo, fun o ho => ?_, by rw [hN]; exact hSl, fun t e sz n hx => ?_, by rw [hM]; exact hSlt, fun t x' rows' hlt' hx ho => ?_⟩
    · cases hi : invF rs N o with
      | none => exact gob' o hi
      | some i =>
        have := rinv hi
        subst this
        rw [gob, hs.sevo.ob i (s0o hi (by omega))]
        rfl
    · cases hi : invF ts M t with
      | none => exact ⟨n, by rw [hSt' t hi]; exact hx, Nat.le_refl _, fun _ => gtk' t hi⟩
      | some i =>
        have := tinv hi
        subst this
        have hi0 := s0t hi (by rw [← hM]; exact (List.getElem?_eq_some_iff.1 hx).1)
        obtain ⟨n', a1, a2, a3⟩ := hs.sevo.tails i e sz n (s0tail hi0 hx)
        exact ⟨n', by rw [hSt]; exact a1, a2, fun e' => by rw [gtk, a3 e']; rfl⟩
    · cases hi : invF ts M t with
      | none =>
        rw [hSt' t hi] at hx
        exact ⟨x', rows', hx, ho, rfl, Nat.le_refl _, fun _ => gtk' t hi⟩
      | some i =>
        have := tinv hi
        subst this
        have hi0 := s0t hi (by omega)
        rw [hSt] at hx
        obtain ⟨x, rows, a1, a2, a3, a4, a5⟩ := hs.sevo.own i x' rows' hi0 hx ho
        exact ⟨x, rows, p.tails i x a1, a2, a3, a4, fun e' => by rw [gtk, a5 e']; rfl⟩
  have hlive : ∀ {o i : Nat}, invF rs N o = some i → S.live o → s1.live i := fun {o i} hi ⟨x, hx, hne⟩ => by
    have := rinv hi
    subst this
    rw [hSo] at hx
    obtain ⟨y, hy, rfl⟩ := Option.map_eq_some_iff.1 hx
    exact ⟨y, hy, fun e => hne (by subst e; rfl)⟩
  have hlive' : ∀ {o : Nat}, invF rs N o = none → S.live o → st.live o := fun {o} hi ⟨x, hx, hne⟩ => ⟨x, by rw [hSo' o hi] at hx; exact hx, hne⟩
  refine ⟨g', ⟨h1.base, ?_, ?_, ?_, ?_, ?_, ?_, ?_, h1.glob, ?_⟩, ⟨hsev, hs.below, hs.lim, fun b hb hn => hfar b hb fun hw => hn (p.owned hw), fun b hb hw => ?_⟩, fun x v hx => up hx⟩
  · intro o ty cs hx
    cases hi : invF rs N o with
    | none =>
      rw [hSo' o hi] at hx
      obtain ⟨k1, k2, vs, k3, k4, k5⟩ := h.row o ty cs hx
      obtain ⟨u1, u2⟩ := uo o hi ⟨_, hx, by simp⟩
      obtain ⟨f1, f2⟩ := hfar _ u1 u2
      rw [gob' o hi]
      exact ⟨k1, f2.trans k2, vs, f1.trans k3, k4, fun i c u hc hu => ⟨(k5 i c u hc hu).1.mono hsev, (k5 i c u hc hu).2⟩⟩
    | some i =>
      have := rinv hi
      subst this
      rw [hSo] at hx
      obtain ⟨y, hy, hyr⟩ := Option.map_eq_some_iff.1 hx
      cases y <;> simp only [AObj.ren] at hyr <;> cases hyr
      obtain ⟨k1, k2, vs, k3, k4, k5⟩ := h1.row i ty _ hy
      rw [gob]
      refine ⟨k1, k2, vs, k3, by rw [rens_map]; simpa using k4, fun j c u hc hu => ?_⟩
      rw [rens_map, List.getElem?_map] at hc
      obtain ⟨c', hc', rfl⟩ := Option.map_eq_some_iff.1 hc
      exact ⟨up (k5 j c' u hc' hu).1, (k5 j c' u hc' hu).2⟩
  · intro o es hx
    cases hi : invF rs N o with
    | none =>
      rw [hSo' o hi] at hx
      obtain ⟨k1, ms, c, k3, k4, k5, k6⟩ := h.map o es hx
      obtain ⟨u1, u2⟩ := uo o hi ⟨_, hx, by simp⟩
      obtain ⟨f1, f2⟩ := hfar _ u1 u2
      rw [gob' o hi]
      exact ⟨k1, ms, c, f1.trans k3, k4, fun i k x m a b => ⟨(k5 i k x m a b).1, (k5 i k x m a b).2.mono hsev⟩, k6⟩
    | some i =>
      have := rinv hi
      subst this
      rw [hSo] at hx
      obtain ⟨y, hy, hyr⟩ := Option.map_eq_some_iff.1 hx
      cases y <;> simp only [AObj.ren] at hyr <;> cases hyr
      obtain ⟨k1, ms, c, k3, k4, k5, k6⟩ := h1.map i _ hy
      rw [gob]
      refine ⟨k1, ms, c, k3, by simpa using k4, fun j k x m hm hm' => ?_, k6⟩
      rw [List.getElem?_map] at hm
      obtain ⟨q, hq, hqe⟩ := Option.map_eq_some_iff.1 hm
      cases hqe
      have := k5 j q.1 q.2 m hq hm'
      exact ⟨this.1, up this.2⟩
  · intro o y hx
    cases hi : invF rs N o with
    | none =>
      rw [hSo' o hi] at hx
      obtain ⟨k1, k2, k3⟩ := h.raw o y hx
      obtain ⟨u1, u2⟩ := uo o hi ⟨_, hx, by simp⟩
      obtain ⟨f1, f2⟩ := hfar _ u1 u2
      rw [gob' o hi]
      exact ⟨k1, f2.trans k2, f1.trans k3⟩
    | some i =>
      have := rinv hi
      subst this
      rw [hSo] at hx
      obtain ⟨z, hz, hzr⟩ := Option.map_eq_some_iff.1 hx
      cases z <;> simp only [AObj.ren] at hzr <;> cases hzr
      rw [gob]
      exact h1.raw i _ hz
  · intro o o' hne ho ho'
    have cross : ∀ {a b i : Nat}, invF rs N a = some i → invF rs N b = none → S.live a → S.live b → g'.ob a ≠ g'.ob b := fun {a b i} ha hb la lb e => by
      have := rinv ha
      subst this
      rw [gob, gob' b hb] at e
      obtain ⟨u1, u2⟩ := uo b hb (hlive' hb lb)
      exact u2 (hnear _ u1 (.inl ⟨i, hlive ha la, e⟩))
    cases hi : invF rs N o with
    | none =>
      cases hj : invF rs N o' with
      | none => rw [gob' o hi, gob' o' hj]; exact h.ne o o' hne (hlive' hi ho) (hlive' hj ho')
      | some j => exact (cross hj hi ho' ho).symm
    | some i =>
      cases hj : invF rs N o' with
      | none => exact cross hi hj ho ho'
      | some j =>
        have l1 := hlive hi ho
        have l2 := hlive hj ho'
        have := rinv hi
        subst this
        have := rinv hj
        subst this
        rw [gob, gob]
        exact h1.ne i j (fun e => hne (by rw [e])) l1 l2
  · intro t e sz n hx
    cases hi : invF ts M t with
    | none =>
      rw [hSt' t hi] at hx
      obtain ⟨xs, k1, k2⟩ := h.tail t e sz n hx
      rw [gtk' t hi]
      exact ⟨xs, ownsRow_keep k1 fun b hb => (hfar b (ut t _ b hi hx hb).1 (ut t _ b hi hx hb).2).1, fun b hb => by rw [← k2 b hb]; exact (hfar b (ut t _ b hi hx hb).1 (ut t _ b hi hx hb).2).2⟩
    | some i =>
      have := tinv hi
      subst this
      rw [hSt] at hx
      rw [gtk]
      exact h1.tail i e sz n hx
  · intro t t' x x' b hne hx hx' hb
    have cross : ∀ {a c i : Nat} {x x' : Tail}, invF ts M a = some i → invF ts M c = none → S.tails[a]? = some x → S.tails[c]? = some x' → (g'.tk a).ownBlock = some b → (g'.tk c).ownBlock = some b → False := fun {a c i x x'} ha hc la lc ea ec => by
      have := tinv ha
      subst this
      rw [gtk] at ea
      rw [gtk' c hc] at ec
      rw [hSt] at la
      rw [hSt' c hc] at lc
      obtain ⟨u1, u2⟩ := ut c _ b hc lc ec
      exact u2 (hnear b u1 (.inr ⟨i, _, la, ea⟩))
    cases hi : invF ts M t with
    | none =>
      cases hj : invF ts M t' with
      | none =>
        rw [gtk' t hi] at hb
        rw [gtk' t' hj]
        rw [hSt' t hi] at hx
        rw [hSt' t' hj] at hx'
        exact h.tailNe t t' x x' b hne hx hx' hb
      | some j => exact fun hb' => cross hj hi hx' hx hb' hb
    | some i =>
      cases hj : invF ts M t' with
      | none => exact fun hb' => cross hi hj hx hx' hb hb'
      | some j =>
        have := tinv hi
        subst this
        have := tinv hj
        subst this
        rw [gtk] at hb
        rw [gtk]
        rw [hSt] at hx hx'
        exact h1.tailNe i j x x' b (fun e => hne (by rw [e])) hx hx' hb
  · intro t x o hx ho hb
    cases hi : invF ts M t with
    | none =>
      rw [gtk' t hi] at hb
      rw [hSt' t hi] at hx
      cases hj : invF rs N o with
      | none =>
        rw [gob' o hj] at hb
        exact h.tailObj t x o hx (hlive' hj ho) hb
      | some j =>
        have l2 := hlive hj ho
        have := rinv hj
        subst this
        rw [gob] at hb
        obtain ⟨u1, u2⟩ := ut t _ _ hi hx hb
        exact u2 (hnear _ u1 (.inl ⟨j, l2, rfl⟩))
    | some i =>
      have := tinv hi
      subst this
      rw [gtk] at hb
      rw [hSt] at hx
      cases hj : invF rs N o with
      | none =>
        rw [gob' o hj] at hb
        obtain ⟨u1, u2⟩ := uo o hj (hlive' hj ho)
        exact u2 (hnear _ u1 (.inr ⟨i, _, hx, hb⟩))
      | some j =>
        have l2 := hlive hj ho
        have := rinv hj
        subst this
        rw [gob] at hb
        exact h1.tailObj i x j hx l2 hb
  · intro t e sz n rows hx
    cases hi : invF ts M t with
    | none =>
      rw [hSt' t hi] at hx
      obtain ⟨xs, k1, k2, k3⟩ := h.own t e sz n rows hx
      rw [gtk' t hi]
      exact ⟨xs, ownsRow_keep k1 fun b hb => (hfar b (ut t _ b hi hx hb).1 (ut t _ b hi hx hb).2).1, fun b hb => by rw [← k2 b hb]; exact (hfar b (ut t _ b hi hx hb).1 (ut t _ b hi hx hb).2).2, k3.mono hsev.evo⟩
    | some i =>
      have := tinv hi
      subst this
      rw [hSt] at hx
      rw [gtk]
      exact h1.own i e sz n rows hx
  · rcases hw with ⟨o, a1, a2⟩ | ⟨t, x, a1, a2⟩
    · cases hi : invF rs N o with
      | none => exact .inl ⟨o, hlive' hi a1, by rw [← gob' o hi]; exact a2⟩
      | some i =>
        have l1 := hlive hi a1
        have := rinv hi
        subst this
        rw [gob] at a2
        exact p.owned (hnear b hb (.inl ⟨i, l1, a2⟩))
    · cases hi : invF ts M t with
      | none =>
        rw [gtk' t hi] at a2
        rw [hSt' t hi] at a1
        exact .inr ⟨t, x, a1, a2⟩
      | some i =>
        have := tinv hi
        subst this
        rw [gtk] at a2
        rw [hSt] at a1
        exact p.owned (hnear b hb (.inr ⟨i, x, a1, a2⟩))

def EVlesE : List EV → List EV → Prop
  | [], [] => True
  | e :: es, x :: xs => EVle e x ∧ EVlesE es xs
  | _, _ => False
theorem EVlesE.get : ∀ {es xs : List EV}, EVlesE es xs → es.length = xs.length ∧ ∀ (i : Nat) x, xs[i]? = some x → ∃ e, es[i]? = some e ∧ EVle e x
  | [], [], _ => ⟨rfl, fun i y h => by simp at h⟩
  | e :: es, d :: ds, h => by
    obtain ⟨h1, h2⟩ := EVlesE.get h.2
    refine ⟨by simp [h1], fun i z hz => ?_⟩
    cases i with
    | zero => simp at hz; subst hz; exact ⟨e, rfl, h.1⟩
    | succ i => simpa using h2 i z (by simpa using hz)
  | [], _ :: _, h => h.elim
  | _ :: _, [], h => h.elim
theorem ACallS.le {P : Program} {f : FuncId} {es xs : List EV} {st : St} {q : EV → St → Prop} (h : ACallS P f xs st q) (hle : EVlesE es xs) : ACallS P f es st q := by
  intro g w base vs hi ha
  obtain ⟨h1, h2⟩ := hle.get
  refine h g w base vs hi ⟨by rw [ha.1, h1], fun i x v hx hv => ?_⟩
  obtain ⟨e, he, hl⟩ := h2 i x hx
  exact hl _ _ _ _ (ha.2 i e v he hv)

section call
variable {P : Program} {f : FuncId} {N : Nat} {S : Start} {Q : EV → St → Prop} {k : List Item} {env : Env} {st : St} {ops rest : List Oper}
  {d : Option Tmp} {ty : TypeId} {pos : String} {after : Array Edge}
/-- What a call leaves: a value, and a state. -/
def QE (x : EV) (st' : St) (e : EV) (s : St) : Prop := EVle e x ∧ s = st'
/-- The part of a state that a call is handed, to be computed. -/
def partB (rs ts : List Nat) (s0 st : St) : Bool :=
  embB rs st.objs.length && embB ts st.tails.length && Nat.beq rs.length s0.objs.length && Nat.beq ts.length s0.tails.length
theorem Part.of {rs ts : List Nat} {s0 st : St} (h : partB rs ts s0 st = true) (h5 : s0.objs.all (okObj s0.objs.length s0.tails.length) = true)
    (ho : rs.map (fun r => st.objs[r]?) = s0.objs.map (fun x => some (x.ren (renF rs st.objs.length) (renF ts st.tails.length)))) (ht : ts.map (fun r => st.tails[r]?) = s0.tails.map some) :
    Part (renF rs st.objs.length) (renF ts st.tails.length) s0 st ∧ Emb rs st.objs.length ∧ Emb ts st.tails.length ∧ rs.length = s0.objs.length ∧ ts.length = s0.tails.length := by
  simp only [partB, Bool.and_eq_true] at h
  rw [List.all_eq_true] at h5
  obtain ⟨⟨⟨h1, h2⟩, h3⟩, h4⟩ := h
  have e1 := Emb.of h1
  have e2 := Emb.of h2
  have l1 := Nat.eq_of_beq_eq_true h3
  have l2 := Nat.eq_of_beq_eq_true h4
  refine ⟨⟨fun o x hx => ?_, fun t x hx => ?_, fun o o' e => ren_inj e1 e, fun t t' e => ren_inj e2 e, fun o x hx => h5 x (List.mem_of_getElem? hx)⟩, e1, e2, l1, l2⟩
  · have hlt : o < rs.length := by rw [l1]; exact (List.getElem?_eq_some_iff.1 hx).1
    have := congrArg (fun l => l[o]?) ho
    simp only [List.getElem?_map, (ren_lt e1 hlt).2, hx, Option.map_some, Option.some.injEq] at this
    exact this
  · have hlt : t < ts.length := by rw [l2]; exact (List.getElem?_eq_some_iff.1 hx).1
    have := congrArg (fun l => l[t]?) ht
    simp only [List.getElem?_map, (ren_lt e2 hlt).2, hx, Option.map_some, Option.some.injEq] at this
    exact this
theorem EVle.ren {x y : EV} : True := trivial
/-- The frame rule. -/
theorem ACallS.frame {args : List EV} {s0 s1 : St} {e1 : EV} (rs ts : List Nat) (h : ACallS P f args s0 (QE e1 s1)) (hp : partB rs ts s0 st = true) (h5 : s0.objs.all (okObj s0.objs.length s0.tails.length) = true) (hok : args.all (okEV s0.objs.length s0.tails.length) = true)
    (ho : rs.map (fun r => st.objs[r]?) = s0.objs.map (fun x => some (x.ren (renF rs st.objs.length) (renF ts st.tails.length)))) (ht : ts.map (fun r => st.tails[r]?) = s0.tails.map some) :
    ACallS P f (args.map (EV.ren (renF rs st.objs.length) (renF ts st.tails.length))) st (QE (e1.ren (renF rs st.objs.length) (renF ts st.tails.length)) (mergeSt st s1 rs ts)) := by
  obtain ⟨p, e1', e2', l1, l2⟩ := Part.of hp h5 ho ht
  intro g w base vs hi ha
  rw [List.all_eq_true] at hok
  refine (h (g.sub _ _) w base vs (hi.part p) ⟨by have := ha.1; simpa using this, fun i x v hx hv => ?_⟩).mono ?_
  · exact (ha.2 i _ v (by rw [List.getElem?_map, hx]; rfl) hv).down p.tails (hok x (List.mem_of_getElem? hx))
  · rintro e w' ⟨v, r, s, g1, rfl, ⟨hle, rfl⟩, hr, hinv, hh⟩
    obtain ⟨g', k1, k2, k3⟩ := hi.mergeBack e1' e2' l1 l2 p hinv hh.toStep
    exact ⟨v, _, _, g', rfl, ⟨.rfl' _, rfl⟩, k3 _ _ (hle _ _ _ _ hr), k1, ⟨k2.sevo, k2.below, k2.lim, k2.frame, k2.fresh⟩⟩
/-- What a call made beyond what it leaves is let go: the kept places are told. -/
theorem ACallS.keep {args : List EV} {x : EV} {st' : St} (h : ACallS P f args st fun e s => ∃ (rs ts : List Nat), partB rs ts st' s = true ∧ st'.objs.all (okObj st'.objs.length st'.tails.length) = true ∧ okEV st'.objs.length st'.tails.length x = true ∧ (Nat.ble st.objs.length rs.length && Nat.ble st.tails.length ts.length) = true ∧
      rs.take st.objs.length = List.range st.objs.length ∧ ts.take st.tails.length = List.range st.tails.length ∧
      rs.map (fun r => s.objs[r]?) = st'.objs.map (fun y => some (y.ren (renF rs s.objs.length) (renF ts s.tails.length))) ∧ ts.map (fun r => s.tails[r]?) = st'.tails.map some ∧
      EVle e (x.ren (renF rs s.objs.length) (renF ts s.tails.length))) : ACallS P f args st (QE x st') := by
  intro g w base vs hi ha
  refine (h g w base vs hi ha).mono ?_
  rintro e w' ⟨v, r, s, g1, rfl, ⟨rs, ts, hp, h5, hx, hl, hr0, ht0, ho, ht, hle⟩, hr, hinv, hh⟩
  obtain ⟨p, e1', e2', l1, l2⟩ := Part.of hp h5 ho ht
  simp only [Bool.and_eq_true] at hl
  have hl1 := Nat.le_of_ble_eq_true hl.1
  have hl2 := Nat.le_of_ble_eq_true hl.2
  have same : ∀ {l : List Nat} {n N : Nat}, l.take n = List.range n → n ≤ l.length → ∀ i, i < n → renF l N i = i := fun {l n N} hl hn i hi => by
    have e : (l.take n)[i]? = some i := by rw [hl, List.getElem?_range hi]
    rw [List.getElem?_take, if_pos hi] at e
    simp [renF, e]
  have so := fun i hi => same (N := s.objs.length) hr0 hl1 i hi
  have stl := fun i hi => same (N := s.tails.length) ht0 hl2 i hi
  have hgetT : ∀ {i : Nat}, i < st'.tails.length → st'.tails[i]? = s.tails[renF ts s.tails.length i]? := fun {i} hi => by
    rw [p.tails i _ (List.getElem?_eq_getElem hi), List.getElem?_eq_getElem hi]
  refine ⟨v, x, st', g1.sub _ _, rfl, ⟨.rfl' _, rfl⟩, (hle _ _ _ _ hr).down p.tails hx, hinv.part p, ⟨⟨hh.sevo.evo, fun o ho' => ?_, (by show st.objs.length ≤ _; omega), fun t e sz n hx => ?_, (by show st.tails.length ≤ _; omega), fun t x' rows' hlt hx' ho' => ?_⟩, hh.below, hh.lim, hh.frame, fun b hb hw => hh.fresh b hb (p.owned hw)⟩⟩
  · show g1.ob (renF rs s.objs.length o) = g.ob o
    rw [so o ho']
    exact hh.sevo.ob o ho'
  · have hlt : t < st.tails.length := (List.getElem?_eq_some_iff.1 hx).1
    obtain ⟨n', a1, a2, a3⟩ := hh.sevo.tails t e sz n hx
    refine ⟨n', ?_, a2, fun e' => ?_⟩
    · rw [hgetT (by omega), stl t hlt]; exact a1
    · show g1.tk (renF ts s.tails.length t) = g.tk t
      rw [stl t hlt]
      exact a3 e'
  · rw [hgetT (by have := (List.getElem?_eq_some_iff.1 hx').1; exact this), stl t hlt] at hx'
    obtain ⟨y, rows, a1, a2, a3, a4, a5⟩ := hh.sevo.own t x' rows' hlt hx' ho'
    refine ⟨y, rows, a1, a2, a3, a4, fun e' => ?_⟩
    show g1.tk (renF ts s.tails.length t) = g.tk t
    rw [stl t hlt]
    exact a5 e'
end call
end Go.Abs
