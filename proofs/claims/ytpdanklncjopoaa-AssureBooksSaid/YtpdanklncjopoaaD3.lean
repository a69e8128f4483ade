/- Regions that may come in any order: several new variables, each with a copy of a struct. -/
import Derived.Test.YtpdanklncjopoaaD2
set_option linter.unusedSimpArgs false
set_option linter.unusedVariables false
set_option linter.unusedSectionVars false
namespace Go.Abs
open Go.RowKit
/-- In any order: what each operation keeps is there at the end. -/
theorem any_order {P : Program} {f : FuncId} {R : Ending → World → Prop} {k : List Item} {l : List Oper} (hacyc : ∀ (i : Nat) o, l[i]? = some o → ∀ e ∈ o.after, Region.binds .any e = true → e.on < i)
    (J : Array Bool → Array Value → World → Prop)
    (hstep : ∀ (listed : Array Bool) (tmps : Array Value) (w : World) (i : Nat) (o : Oper), listed.size = l.length → l[i]? = some o → listed.getD i true = false → (∀ e ∈ o.after, Region.binds .any e = true → listed.getD e.on false = true) → J listed tmps w →
      o.guard = none ∧ ((∃ v w', (execOp (Act.eval ⟨tmps, []⟩) o).run P w = .ok (.value v) w' ∧ J (listed.setIfInBounds i true) (Act.put ⟨tmps, []⟩ o.dst v).tmps w') ∨
        ∃ w', (execOp (Act.eval ⟨tmps, []⟩) o).run P w = .ok .skip w' ∧ J (listed.setIfInBounds i true) (Act.put ⟨tmps, []⟩ o.dst undef).tmps w'))
    (hend : ∀ (listed : Array Bool) (tmps : Array Value) (w : World), listed.size = l.length → (∀ i, i < l.length → listed.getD i false = true) → J listed tmps w → FWP P f R k tmps w) :
    ∀ (cnt fuel t : Nat) (listed : Array Bool) (tmps : Array Value) (w : World), listed.size = l.length → ((List.range l.length).filter fun i => !listed.getD i true).length = cnt → cnt ≤ fuel → J listed tmps w →
      FWP P f R (.inRegion l.toArray (Region.linearise.go .any l.toArray fuel t listed []) :: k) tmps w := by
  intro cnt
  induction cnt with
  | zero =>
    intro fuel t listed tmps w hs hcnt hfuel hJ
    have hallT : ∀ i, i < l.length → listed.getD i true = true := by
      intro i hi
      have h0 := List.eq_nil_of_length_eq_zero hcnt
      have hn : i ∉ (List.range l.length).filter fun i => !listed.getD i true := by rw [h0]; simp
      rw [List.mem_filter, List.mem_range] at hn
      cases hb : listed.getD i true with
      | true => rfl
      | false => exact absurd ⟨hi, by simp [hb]⟩ hn
    have hgo : Region.linearise.go .any l.toArray fuel t listed [] = [] := by
      cases fuel with
      | zero => rfl
      | succ fuel =>
        have hrd : ((List.range l.toArray.size).filter fun i => !listed.getD i true && ((l.toArray[i]?).map (·.after.all fun e => !Region.binds .any e || listed.getD e.on false)).getD false) = [] := by
          rw [List.filter_eq_nil_iff]
          intro i hi
          have hi' : i < l.length := by simpa using hi
          simp only [hallT i hi', Bool.not_true, Bool.false_and]
          simp
        simp only [Region.linearise.go, hrd]
        rfl
    rw [hgo]
    refine .regionEnd (hend listed tmps w hs (fun i hi => ?_) hJ)
    have := hallT i hi
    have hlt : i < listed.size := by omega
    simpa [Array.getD_eq_getD_getElem?, hlt] using this
  | succ cnt ih =>
    intro fuel t listed tmps w hs hcnt hfuel hJ
    obtain ⟨fuel, rfl⟩ : ∃ n, fuel = n + 1 := ⟨fuel - 1, by omega⟩
    have hex : ∃ i, i < l.length ∧ listed.getD i true = false := by
      have : (List.range l.length).filter (fun i => !listed.getD i true) ≠ [] := fun h => by rw [h] at hcnt; simp at hcnt
      obtain ⟨i, hi⟩ := List.exists_mem_of_ne_nil _ this
      rw [List.mem_filter, List.mem_range] at hi
      exact ⟨i, hi.1, by simpa using hi.2⟩
    have hDF : ∀ i, i < l.length → listed.getD i false = listed.getD i true := fun i hi => by
      have hlt : i < listed.size := by omega
      simp [Array.getD_eq_getD_getElem?, hlt]
    have hrd : ((List.range l.toArray.size).filter fun i => !listed.getD i true && ((l.toArray[i]?).map (·.after.all fun e => !Region.binds .any e || listed.getD e.on false)).getD false) = Region.ready .any l.toArray listed := rfl
    have hne : Region.ready .any l.toArray listed ≠ [] := by
      have hmin : ∀ n i, i ≤ n → i < l.length → listed.getD i true = false → ∃ i, i < l.length ∧ listed.getD i true = false ∧ ∀ j, j < i → listed.getD j true = true := by
        intro n
        induction n with
        | zero => intro i hi hp' h; exact ⟨i, hp', h, fun j hj => by omega⟩
        | succ n ihn =>
          intro i hi hp' h
          by_cases hh' : ∃ j, j < i ∧ listed.getD j true = false
          · obtain ⟨j, hj, hjl⟩ := hh'
            exact ihn j (by omega) (by omega) hjl
          · refine ⟨i, hp', h, fun j hj => ?_⟩
            cases hb : listed.getD j true with
            | true => rfl
            | false => exact absurd ⟨j, hj, hb⟩ hh'
      obtain ⟨i0, h0, h1⟩ := hex
      obtain ⟨i, hip, hiu, hbel⟩ := hmin i0 i0 (Nat.le_refl _) h0 h1
      have : i ∈ Region.ready .any l.toArray listed := by
        rw [mem_ready]
        refine ⟨hiu, l[i], by simp [hip], fun e he hb => ?_⟩
        have hlt := hacyc i l[i] (List.getElem?_eq_getElem hip) e he hb
        rw [hDF _ (by omega)]
        exact hbel _ hlt
      intro hnil
      rw [hnil] at this
      cases this
    simp only [Region.linearise.go, hrd]
    have hlen : 0 < (Region.ready .any l.toArray listed).length := List.length_pos_iff.2 hne
    have hmod := Nat.mod_lt t hlen
    generalize hi : (Region.ready .any l.toArray listed)[t % (Region.ready .any l.toArray listed).length] = i
    have hsome : (Region.ready .any l.toArray listed)[t % (Region.ready .any l.toArray listed).length]? = some i := by rw [List.getElem?_eq_getElem hmod, hi]
    rw [hsome]
    simp only []
    rw [linearise_go_acc]
    have him : i ∈ Region.ready .any l.toArray listed := List.mem_of_getElem? hsome
    obtain ⟨hiu, o, ho, hall⟩ := mem_ready.1 him
    have ho' : l[i]? = some o := by simpa using ho
    have hil := (List.getElem?_eq_some_iff.1 ho').1
    have hcnt' : ((List.range l.length).filter fun j => !(listed.setIfInBounds i true).getD j true).length = cnt := by
      have hset : ∀ j, (listed.setIfInBounds i true).getD j true = (listed.getD j true || decide (j = i)) := by
        intro j
        by_cases hji : j = i
        · subst hji; simp [Array.getD_eq_getD_getElem?, hs, hil]
        · rw [getD_set_ne true (Ne.symm hji)]; simp [hji]
      have hfil : ((List.range l.length).filter fun j => !(listed.setIfInBounds i true).getD j true) = ((List.range l.length).filter fun j => !listed.getD j true).filter fun j => !decide (j = i) := by
        rw [List.filter_filter]
        refine List.filter_congr fun j _ => ?_
        rw [hset j]
        cases listed.getD j true <;> simp
      rw [hfil]
      have hnd : ((List.range l.length).filter fun j => !listed.getD j true).Nodup := List.nodup_range.filter _
      have hmem : i ∈ (List.range l.length).filter fun j => !listed.getD j true := by rw [List.mem_filter, List.mem_range]; exact ⟨hil, by simp [hiu]⟩
      have hcount : ∀ (L : List Nat), L.Nodup → i ∈ L → (L.filter fun j => !decide (j = i)).length + 1 = L.length := by
        intro L
        induction L with
        | nil => intro _ h; cases h
        | cons a L ihL =>
          intro hn hm
          rw [List.nodup_cons] at hn
          by_cases ha : a = i
          · subst ha
            have : (L.filter fun j => !decide (j = a)) = L := by
              rw [List.filter_eq_self]
              intro b hb
              have : b ≠ a := fun e => hn.1 (e ▸ hb)
              simp [this]
            rw [List.filter_cons]
            simp [this]
          · have hm' : i ∈ L := by
              rcases List.mem_cons.1 hm with h | h
              · exact absurd h.symm ha
              · exact h
            rw [List.filter_cons]
            simp only [ha, decide_false, Bool.not_false, if_true, List.length_cons]
            rw [ihL hn.2 hm']
      have := hcount _ hnd hmem
      omega
    have hoA : l.toArray[i]? = some o := ho
    show FWP P f R (.inRegion l.toArray (i :: _) :: k) tmps w
    obtain ⟨hg, hv | hv⟩ := hstep listed tmps w i o hs ho' hiu hall hJ
    · obtain ⟨v, w', hr, hJ'⟩ := hv
      exact FWP.value hoA (by simp [Region.wanted, hg]) hr (ih fuel _ _ _ w' (by simpa using hs) hcnt' (by omega) hJ')
    · obtain ⟨w', hr, hJ'⟩ := hv
      exact FWP.skip hoA (by simp [Region.wanted, hg]) hr (ih fuel _ _ _ w' (by simpa using hs) hcnt' (by omega) hJ')

section inv
variable {g : Ghost} {base : Nat} {w : World} {st : St}
/-- A step that may turn blocks from M on, whoever owns them. -/
structure StepM (M base : Nat) (g : Ghost) (w : World) (st : St) (g' : Ghost) (w' : World) (st' : St) : Prop where
  sevo : SEvo g w st g' w' st'
  below : Below base w w'
  lim : ∀ b, b < base → g'.lim b = g.lim b
  frame : ∀ b, b < M → ¬ Owned g st b → w'.heap[b]? = w.heap[b]? ∧ g'.lim b = g.lim b
  fresh : ∀ b, b < M → Owned g' st' b → Owned g st b
theorem StepM.refl (M base : Nat) (g : Ghost) (w : World) (st : St) : StepM M base g w st g w st := ⟨.refl _ _ _, .refl _ _, fun _ _ => rfl, fun _ _ _ => ⟨rfl, rfl⟩, fun _ _ h => h⟩
theorem StepM.trans {M base : Nat} {g1 g2 g3 : Ghost} {w1 w2 w3 : World} {s1 s2 s3 : St} (h : StepM M base g1 w1 s1 g2 w2 s2) (k : StepM M base g2 w2 s2 g3 w3 s3) : StepM M base g1 w1 s1 g3 w3 s3 :=
  ⟨h.sevo.trans k.sevo, h.below.trans k.below, fun b hb => (k.lim b hb).trans (h.lim b hb),
    fun b hb hn => have k1 := k.frame b hb (fun ho => hn (h.fresh b hb ho)); have h1 := h.frame b hb hn; ⟨k1.1.trans h1.1, k1.2.trans h1.2⟩,
    fun b hb ho => h.fresh b hb (k.fresh b hb ho)⟩
theorem Hist.stepM {S : Start} {M : Nat} {g g' : Ghost} {w w' : World} {st st' : St} (h : Hist S g w st) (k : StepM M S.base g w st g' w' st') (hM : S.w.heap.size ≤ M) : Hist S g' w' st' :=
  ⟨h.sevo.trans k.sevo, h.below.trans k.below, fun b hb => (k.lim b hb).trans (h.lim b hb),
    fun b hb hn => have k1 := k.frame b (Nat.lt_of_lt_of_le hb hM) (fun ho => hn (h.fresh b hb ho)); have h1 := h.frame b hb hn; ⟨k1.1.trans h1.1, k1.2.trans h1.2⟩,
    fun b hb ho => h.fresh b hb (k.fresh b (Nat.lt_of_lt_of_le hb hM) ho)⟩
/-- A block that nobody owns, and of which nothing is published, turns. -/
theorem Inv.foreign (h : Inv g base w st) {M b : Nat} {w' : World} (hM : M ≤ b) (hb : base ≤ b) (hlim : g.lim b = 0) (hob : ∀ o, st.live o → g.ob o ≠ b) (htk : ∀ t x, st.tails[t]? = some x → (g.tk t).ownBlock ≠ some b) (hsz : w'.heap.size = w.heap.size)
    (hoth : ∀ c, c ≠ b → w'.heap[c]? = w.heap[c]?) (hos : w'.os = w.os) (htp : w'.tape = w.tape) (hout : w'.output = w.output) : Inv g base w' st ∧ StepM M base g w st g w' st := by
  have hbel : Below base w w' := ⟨hos, htp, hout, by omega, fun k hk => hoth k (by omega)⟩
  have hs : SEvo g w st g w' st := by
    refine ⟨evo_of_blocks (by omega) (fun c hc => ⟨Nat.le_refl _, ?_⟩), fun _ _ => rfl, Nat.le_refl _, fun t e sz n ht => ⟨n, ht, Nat.le_refl _, fun _ => rfl⟩, Nat.le_refl _, own_same fun _ _ _ _ h _ => ⟨h, rfl⟩⟩
    by_cases hcb : c = b
    · subst hcb; exact .inl hlim
    · exact .inr (hoth c hcb)
  have hrw : ∀ o y, st.objs[o]? = some (.raw y) → base ≤ g.ob o ∧ g.lim (g.ob o) = 0 ∧ w'.heap[g.ob o]? = some y := fun o y hx => by
    obtain ⟨h1, h2, h3⟩ := h.raw o y hx
    exact ⟨h1, h2, by rw [hoth _ (hob o ⟨_, hx, by simp⟩)]; exact h3⟩
  refine ⟨⟨by rw [hsz]; exact h.base, ?_, ?_, hrw, h.ne, ?_, h.tailNe, h.tailObj, h.glob.below hbel, fun t e sz n rows ht => ?_⟩, ⟨hs, hbel, fun _ _ => rfl, fun c hc _ => ⟨hoth c (by omega), rfl⟩, fun _ _ hw => hw⟩⟩
  · intro o ty cs hx
    obtain ⟨h1, h2, vs, h3, h4, h5⟩ := h.row o ty cs hx
    exact ⟨h1, h2, vs, by rw [hoth _ (hob o ⟨_, hx, by simp⟩)]; exact h3, h4, fun i c u hc hu => ⟨(h5 i c u hc hu).1.mono hs, (h5 i c u hc hu).2⟩⟩
  · intro o es hx
    obtain ⟨h1, ms, c, h3, h4, h5, h6⟩ := h.map o es hx
    exact ⟨h1, ms, c, by rw [hoth _ (hob o ⟨_, hx, by simp⟩)]; exact h3, h4, fun i k y m a b => ⟨(h5 i k y m a b).1, (h5 i k y m a b).2.mono hs⟩, h6⟩
  · intro t e sz n ht
    obtain ⟨xs, ⟨k1, k2⟩, h2⟩ := h.tail t e sz n ht
    refine ⟨xs, ⟨k1, ?_⟩, h2⟩
    rcases k2 with k2 | ⟨gb, cap, cur, e1, e2, e3, e4⟩
    · exact .inl k2
    · refine .inr ⟨gb, cap, cur, e1, e2, ?_, e4⟩
      rw [hoth gb]
      · exact e3
      · intro hgb; subst hgb; exact htk t _ ht (by rw [e1]; rfl)
  · obtain ⟨xs, h1, h2, h3⟩ := h.own t e sz n rows ht
    exact ⟨xs, ownsRow_keep h1 fun c hc => hoth c fun e => htk t _ ht (by rw [hc, e]), h2, h3.mono hs.evo⟩
/-- A block that nobody owns becomes an object. -/
theorem Inv.adopt (h : Inv g base w st) {M b : Nat} (hM : M ≤ b) {T : TypeId} {cs : List EV} {vs : Array Value} (hb : base ≤ b) (hlim : g.lim b = 0) (hob : ∀ o, st.live o → g.ob o ≠ b) (htk : ∀ t x, st.tails[t]? = some x → (g.tk t).ownBlock ≠ some b)
    (hbk : w.heap[b]? = some (.cells vs T (0, 0))) (hsz : vs.size = cs.length) (hc : ∀ (i : Nat) c (u : Value), cs[i]? = some c → vs[i]? = some u → EVRep g w st c u ∧ u.oneCell' = true) :
    ∃ g', g'.ob st.objs.length = b ∧ g'.lim = g.lim ∧ g'.tk = g.tk ∧ (∀ o, o < st.objs.length → g'.ob o = g.ob o) ∧ Inv g' base w (st.add (.row T cs)) ∧ StepM M base g w st g' w (st.add (.row T cs)) := by
  let g' : Ghost := ⟨g.lim, fun o => if o = st.objs.length then b else g.ob o, g.tk⟩
  have h1 : g'.ob st.objs.length = b := by show (if _ then _ else _) = _; rw [if_pos rfl]
  have h2 : ∀ o, o < st.objs.length → g'.ob o = g.ob o := fun o ho => by show (if _ then _ else _) = _; rw [if_neg (by omega)]
  have hold : ∀ o x, (st.add (.row T cs)).objs[o]? = some x → (o < st.objs.length ∧ st.objs[o]? = some x) ∨ (o = st.objs.length ∧ x = .row T cs) := by
    intro o x hx
    have hlt := (List.getElem?_eq_some_iff.1 hx).1
    simp [St.add] at hlt
    by_cases ho : o < st.objs.length
    · exact .inl ⟨ho, by simpa [St.add, List.getElem?_append_left ho] using hx⟩
    · have : o = st.objs.length := by omega
      subst this
      exact .inr ⟨rfl, by simpa [St.add, eq_comm] using hx⟩
  have hs : SEvo g w st g' w (st.add (.row T cs)) := ⟨.refl _ _, h2, by simp [St.add], fun t e sz n ht => ⟨n, ht, Nat.le_refl _, fun _ => rfl⟩, Nat.le_refl _, own_same fun _ _ _ _ h _ => ⟨h, rfl⟩⟩
  have hlive : ∀ o, (st.add (.row T cs)).live o → (o < st.objs.length ∧ st.live o) ∨ o = st.objs.length := by
    rintro o ⟨x, hx, hne⟩
    rcases hold o x hx with ⟨ho, hx'⟩ | ⟨ho, _⟩
    · exact .inl ⟨ho, x, hx', hne⟩
    · exact .inr ho
  have hrw : ∀ o y, (st.add (.row T cs)).objs[o]? = some (.raw y) → base ≤ g'.ob o ∧ g'.lim (g'.ob o) = 0 ∧ w.heap[g'.ob o]? = some y := fun o y hx => by
    rcases hold o _ hx with ⟨ho, hx'⟩ | ⟨rfl, he⟩
    · obtain ⟨k1, k2, k3⟩ := h.raw o y hx'
      rw [h2 o ho]
      exact ⟨k1, k2, k3⟩
    · cases he
  refine ⟨g', h1, rfl, rfl, h2, ⟨h.base, ?_, ?_, hrw, ?_, ?_, h.tailNe, ?_, h.glob, h.own⟩, ⟨hs, .refl _ _, fun _ _ => rfl, fun _ _ _ => ⟨rfl, rfl⟩, fun c hc hw => ?_⟩⟩
  · intro o ty cs' hx
    rcases hold o _ hx with ⟨ho, hx'⟩ | ⟨rfl, he⟩
    · obtain ⟨k1, k2, us, k3, k4, k5⟩ := h.row o ty cs' hx'
      rw [h2 o ho]
      exact ⟨k1, k2, us, k3, k4, fun i c u hc hu => ⟨(k5 i c u hc hu).1.mono hs, (k5 i c u hc hu).2⟩⟩
    · cases he
      rw [h1]
      exact ⟨hb, hlim, vs, hbk, hsz, fun i c u hcc hu => ⟨(hc i c u hcc hu).1.mono hs, (hc i c u hcc hu).2⟩⟩
  · intro o es hx
    rcases hold o _ hx with ⟨ho, hx'⟩ | ⟨rfl, he⟩
    · obtain ⟨k1, ms, c, k3, k4, k5, k6⟩ := h.map o es hx'
      rw [h2 o ho]
      exact ⟨k1, ms, c, k3, k4, fun i k y m a b => ⟨(k5 i k y m a b).1, (k5 i k y m a b).2.mono hs⟩, k6⟩
    · cases he
  · intro o o' hne ho ho'
    rcases hlive o ho with ⟨a1, a2⟩ | rfl <;> rcases hlive o' ho' with ⟨b1, b2⟩ | rfl
    · rw [h2 o a1, h2 o' b1]; exact h.ne o o' hne a2 b2
    · rw [h2 o a1, h1]; exact hob o a2
    · rw [h2 o' b1, h1]; exact (hob o' b2).symm
    · exact absurd rfl hne
  · intro t e sz n ht; exact h.tail t e sz n ht
  · intro t x o ht ho
    rcases hlive o ho with ⟨a1, a2⟩ | rfl
    · rw [h2 o a1]; exact h.tailObj t x o ht a2
    · rw [h1]; exact htk t x ht
  · rcases hw with ⟨o, a1, a2⟩ | a1
    · rcases hlive o a1 with ⟨b1, b2⟩ | rfl
      · exact .inl ⟨o, b2, by rw [← h2 o b1]; exact a2⟩
      · rw [h1] at a2; omega
    · exact .inr a1
end inv

/-! ### copies -/
section copies
variable {P : Program} {f : FuncId} {N : Nat} {S : Start} {Q : EV → St → Prop} {k : List Item} {env : Env} {st : St}
def copRows (T : TypeId) (X : Nat → List D) (j : Nat) : List AObj := (List.range j).map fun k => .row T ((X k).map EV.d)
theorem adoptAll {M : Nat} {g : Ghost} {base : Nat} {w : World} {T : TypeId} {X : Nat → List D} {bk : Nat → Nat} (h : Inv g base w st) : ∀ (n : Nat),
    (∀ k, k < n → M ≤ bk k) → (∀ k, k < n → base ≤ bk k ∧ g.lim (bk k) = 0 ∧ (∀ o, st.live o → g.ob o ≠ bk k) ∧ (∀ t x, st.tails[t]? = some x → (g.tk t).ownBlock ≠ some (bk k)) ∧
      ∃ vs : Array Value, w.heap[bk k]? = some (.cells vs T (0, 0)) ∧ vs.size = (X k).length ∧ ∀ (i : Nat) x u, (X k)[i]? = some x → vs[i]? = some u → DRep g.lim w x u ∧ u.oneCell' = true) →
    (∀ k k', k < n → k' < n → k ≠ k' → bk k ≠ bk k') →
    ∃ g', g'.lim = g.lim ∧ g'.tk = g.tk ∧ (∀ o, o < st.objs.length → g'.ob o = g.ob o) ∧ (∀ k, k < n → g'.ob (st.objs.length + k) = bk k) ∧ Inv g' base w ⟨st.objs ++ copRows T X n, st.tails⟩ ∧ StepM M base g w st g' w ⟨st.objs ++ copRows T X n, st.tails⟩
  | 0, _, _, _ => ⟨g, rfl, rfl, fun _ _ => rfl, fun _ hk => by omega, by simpa [copRows] using h, by simpa [copRows] using StepM.refl M base g w st⟩
  | n + 1, hM, hb, hd => by
    obtain ⟨g1, e1, e2, e3, e4, e5, e6⟩ := adoptAll h n (fun k hk => hM k (by omega)) (fun k hk => hb k (by omega)) (fun k k' a b => hd k k' (by omega) (by omega))
    obtain ⟨b1, b2, b3, b4, vs, b5, b6, b7⟩ := hb n (by omega)
    have hlen : (st.objs ++ copRows T X n).length = st.objs.length + n := by simp [copRows]
    obtain ⟨g2, f1, f2, f3, f4, f5, f6⟩ := e5.adopt (T := T) (b := bk n) (cs := (X n).map EV.d) (vs := vs) (hM n (by omega)) b1 (by rw [e1]; exact b2) (fun o ho => by
        by_cases hol : o < st.objs.length
        · rw [e3 o hol]
          refine b3 o ?_
          obtain ⟨x, hx, hne⟩ := ho
          exact ⟨x, by simpa [List.getElem?_append_left hol] using hx, hne⟩
        · obtain ⟨x, hx, hne⟩ := ho
          have hlt := (List.getElem?_eq_some_iff.1 hx).1
          simp only [hlen] at hlt
          have : o = st.objs.length + (o - st.objs.length) := by omega
          rw [this, e4 _ (by omega)]
          exact hd _ _ (by omega) (by omega) (by omega)) (fun t x ht => by rw [e2]; exact b4 t x ht) b5 (by simpa using b6) (fun i c u hc hu => by
        rw [List.getElem?_map] at hc
        obtain ⟨x, hx, rfl⟩ := Option.map_eq_some_iff.1 hc
        obtain ⟨m1, m2⟩ := b7 i x u hx hu
        exact ⟨.d _ _ (by rw [e1]; exact m1), m2⟩)
    have hst : (⟨st.objs ++ copRows T X n, st.tails⟩ : St).add (.row T ((X n).map EV.d)) = ⟨st.objs ++ copRows T X (n + 1), st.tails⟩ := by
      simp [St.add, copRows, List.range_succ]
    rw [hst] at f5 f6
    refine ⟨g2, f2.trans e1, f3.trans e2, fun o ho => (f4 o (by rw [hlen]; omega)).trans (e3 o ho), fun j hj => ?_, f5, e6.trans f6⟩
    by_cases hjn : j = n
    · subst hjn; rw [← hlen]; exact f1
    · rw [f4 _ (by rw [hlen]; omega)]; exact e4 j (by omega)
def copEnv (a : Nat → Nat) (len : Nat) : Nat → Env → Env
  | 0, env => env
  | n + 1, env => copEnv a len n ((a n, .ref (len + n) 0) :: env)
theorem copEnv_get {a : Nat → Nat} {len : Nat} : ∀ (n : Nat) {env : Env} {i : Nat} {y : EV}, lookup i (copEnv a len n env) = some y → (∃ j, j < n ∧ i = a j ∧ y = .ref (len + j) 0) ∨ lookup i env = some y
  | 0, env, i, y, h => .inr h
  | n + 1, env, i, y, h => by
    rcases copEnv_get n h with ⟨j, h1, h2⟩ | h1
    · exact .inl ⟨j, by omega, h2⟩
    · unfold lookup at h1
      cases hb : Nat.beq i (a n) with
      | true =>
        rw [hb] at h1
        simp only [Option.some.injEq] at h1
        exact .inl ⟨n, by omega, Nat.eq_of_beq_eq_true hb, h1.symm⟩
      | false => rw [hb] at h1; exact .inr h1
theorem envRep_put_none {g : Ghost} {w : World} {tmps : Array Value} {d : Nat} {v : Value} (he : EnvRep g w st env tmps) (h : lookup d env = none) : EnvRep g w st env (tmps.setIfInBounds d v) := by
  intro i y hy
  obtain ⟨u, h1, h2⟩ := he i y hy
  have : d ≠ i := fun e => by subst e; rw [h] at hy; cases hy
  exact ⟨u, by simp [Array.getElem?_setIfInBounds, this, h1], h2⟩
theorem put_get_ne {tmps : Array Value} {d i : Nat} {v : Value} (h : d ≠ i) : (tmps.setIfInBounds d v)[i]? = tmps[i]? := by simp [Array.getElem?_setIfInBounds, h]
theorem put_get_eq {tmps : Array Value} {d : Nat} {v : Value} (h : d < tmps.size) : (tmps.setIfInBounds d v)[d]? = some v := by simp [h]
/-- Several structs are copied into new variables, in whatever order. -/
theorem ARun.copies {id : Nat} {l : List Oper} (n m : Nat) (T : TypeId) (c a : Nat → Nat) (X : Nat → List D) {z : Value} (hm : P.follows .mixedOrders = true)
    (hacyc : ∀ (i : Nat) o, l[i]? = some o → ∀ e ∈ o.after, Region.binds .any e = true → e.on < i) (hlen : l.length = 3 * n)
    (hL : ∀ k, k < n → ∃ o, l[k]? = some o ∧ o.guard = none ∧ o.dst = some (c k) ∧ OpQ P env st o (.d (.agg (X k))))
    (hA : ∀ k, k < n → ∃ ty pos after, l[n + k]? = some ⟨some (a k), .alloc T, ty, pos, after, none⟩)
    (hSt : ∀ k, k < n → ∃ ty pos after, l[2 * n + k]? = some ⟨none, .store T (.tmp (a k)) (.tmp (c k)), ty, pos, after, none⟩ ∧ (∃ e ∈ after, e.on = k ∧ Region.binds .any e = true) ∧ ∃ e ∈ after, e.on = n + k ∧ Region.binds .any e = true)
    (haa : ∀ i j, i < n → j < n → i ≠ j → a i ≠ a j) (hcc : ∀ i j, i < n → j < n → i ≠ j → c i ≠ c j) (hac : ∀ i j, i < n → j < n → a i ≠ c j)
    (hna : ∀ k, k < n → lookup (a k) env = none ∧ a k < N) (hnc : ∀ k, k < n → lookup (c k) env = none ∧ c k < N) (hX : ∀ k, k < n → (X k).length = m)
    (hz : (P.info? T).bind (·.zero) = some z) (hzm : z.cells.size = m) (hsz : (P.info? T).map (·.size) = some m)
    (h : ARun P f N S Q k (copEnv a st.objs.length n env) ⟨st.objs ++ copRows T X n, st.tails⟩) : ARun P f N S Q (.code (.region id l.toArray true) :: k) env st := by
  obtain ⟨inf, hinf, hz', hs'⟩ : ∃ inf, P.info? T = some inf ∧ inf.zero = some z ∧ inf.size = m := by
    cases hh : P.info? T with
    | none => rw [hh] at hz; cases hz
    | some inf => rw [hh] at hz hsz; exact ⟨inf, rfl, hz, by simpa using hsz⟩
  intro g0 w0 tmps0 hinv0 hh0 he0 hN0
  refine FWP.regionDraw fun t => ?_
  have hsch : Region.schedule (P.follows .mixedOrders) l.toArray t = Region.linearise .any l.toArray t := by simp [Region.schedule, hm]
  rw [hsch]
  unfold Region.linearise
  have hownlt : ∀ o, st.live o → g0.ob o < w0.heap.size := fun o ho => (hinv0.live_lt ho).1
  have htklt : ∀ t x b, st.tails[t]? = some x → (g0.tk t).ownBlock = some b → b < w0.heap.size := by
    intro t x b hx hb
    exact (hinv0.tail_lt hx hb).2
  let J : Array Bool → Array Value → World → Prop := fun listed tmps w => ∃ (g : Ghost) (bk : Nat → Nat), Inv g S.base w st ∧ Hist S g w st ∧ EnvRep g w st env tmps ∧ tmps.size = N ∧ w0.heap.size ≤ w.heap.size ∧ g.ob = g0.ob ∧ g.tk = g0.tk ∧
    (∀ k, k < n → listed.getD k false = true → ∃ v, tmps[c k]? = some v ∧ DRep g.lim w (.agg (X k)) v) ∧
    (∀ k, k < n → listed.getD (n + k) false = true → w0.heap.size ≤ bk k ∧ g.lim (bk k) = 0 ∧ tmps[a k]? = some (.pointer (some ⟨bk k, 0, none⟩)) ∧
      ∃ vs : Array Value, w.heap[bk k]? = some (.cells vs T (0, 0)) ∧ vs.size = m ∧ (listed.getD (2 * n + k) false = true → ∀ (i : Nat) x u, (X k)[i]? = some x → vs[i]? = some u → DRep g.lim w x u ∧ u.oneCell' = true)) ∧
    (∀ k k', k < n → k' < n → listed.getD (n + k) false = true → listed.getD (n + k') false = true → k ≠ k' → bk k ≠ bk k') ∧
    ∀ k, k < n → listed.getD (2 * n + k) false = true → listed.getD (n + k) false = true
  have hJ0 : J (Array.replicate l.toArray.size false) tmps0 { w0 with drawn := w0.drawn + 1 } := by
    have hb : Below w0.heap.size w0 { w0 with drawn := w0.drawn + 1 } := (Below.refl _ w0).drew
    obtain ⟨hinv', hst⟩ := hinv0.grow (g' := g0) hb (fun _ _ => rfl) rfl rfl
    have hf : ∀ i, (Array.replicate l.toArray.size false).getD i false = false := fun i => by
      simp only [Array.getD_eq_getD_getElem?, Array.getElem?_replicate]
      split <;> rfl
    exact ⟨g0, fun _ => 0, hinv', hh0.step hst, he0.mono hst.sevo, hN0, Nat.le_refl _, rfl, rfl, (fun k _ h => by rw [hf] at h; cases h), (fun k _ h => by rw [hf] at h; cases h), (fun k k' _ _ h => by rw [hf] at h; cases h), (fun k _ h => by rw [hf] at h; cases h)⟩
  refine any_order (k := k) hacyc J ?_ ?_ l.length l.toArray.size t (Array.replicate l.toArray.size false) tmps0 _ (by simp) ?_ (by simp) hJ0
  · intro listed tmps w i o hs ho hiu hall hJ
    obtain ⟨g, bk, hinv, hh, he, hN, hw0, hgo, hgt, jL, jA, jD, jE⟩ := hJ
    have hDF : ∀ i, i < l.length → listed.getD i false = listed.getD i true := fun i hi => by
      have hlt : i < listed.size := by omega
      simp [Array.getD_eq_getD_getElem?, hlt]
    have hil : i < 3 * n := by rw [← hlen]; exact (List.getElem?_eq_some_iff.1 ho).1
    have hne : ∀ j, j ≠ i → (listed.setIfInBounds i true).getD j false = listed.getD j false := fun j hj => getD_set_ne false (Ne.symm hj)
    by_cases h1 : i < n
    · -- a load
      obtain ⟨o', ho', hg, hd, hq⟩ := hL i h1
      rw [ho] at ho'; cases ho'
      obtain ⟨v, hv, hrun⟩ := hq g S.base w tmps hinv he
      refine ⟨hg, .inl ⟨v, w, hrun w (.refl _ _), g, bk, hinv, hh, ?_, by rw [size_put]; exact hN, hw0, hgo, hgt, ?_, ?_, ?_, ?_⟩⟩
      · rw [hd]; exact envRep_put_none he (hnc i h1).1
      · intro j hj hlj
        rw [hd]
        by_cases hji : j = i
        · subst hji
          refine ⟨v, put_get_eq (by rw [hN]; exact (hnc j h1).2), ?_⟩
          cases hv with | d _ _ h => exact h
        · rw [hne j hji] at hlj
          obtain ⟨u, k1, k2⟩ := jL j hj hlj
          exact ⟨u, by rw [← k1]; exact put_get_ne (hcc i j h1 hj (Ne.symm hji)), k2⟩
      · intro j hj hlj
        rw [hne _ (by omega)] at hlj
        obtain ⟨k1, k2, k3, vs, k4, k5, k6⟩ := jA j hj hlj
        rw [hd]
        exact ⟨k1, k2, by rw [← k3]; exact put_get_ne (Ne.symm (hac j i hj h1)), vs, k4, k5, fun h => k6 (by rw [hne _ (by omega)] at h; exact h)⟩
      · intro j j' hj hj' h2 h3
        rw [hne _ (by omega)] at h2 h3
        exact jD j j' hj hj' h2 h3
      · intro j hj hlj
        rw [hne _ (by omega)] at hlj ⊢
        exact jE j hj hlj
    · by_cases h2 : i < 2 * n
      · -- an allocation
        obtain ⟨kk, rfl⟩ : ∃ kk, i = n + kk := ⟨i - n, by omega⟩
        have hkk : kk < n := by omega
        obtain ⟨ty, pos, after, ho'⟩ := hA kk hkk
        rw [ho] at ho'; cases ho'
        let g1 : Ghost := ⟨fun b => if b = w.heap.size then 0 else g.lim b, g.ob, g.tk⟩
        have hbel : Below w.heap.size w (w.alloc (.cells z.cells T)) := (Below.refl _ w).alloc (Nat.le_refl _) _
        have hlim1 : ∀ b, b < w.heap.size → g1.lim b = g.lim b := fun b hb => by show (if _ then _ else _) = _; rw [if_neg (by omega)]
        obtain ⟨hinv1, hst1⟩ := hinv.grow (g' := g1) hbel hlim1 rfl rfl
        have hnewb : (w.alloc (.cells z.cells T)).heap[w.heap.size]? = some (.cells z.cells T) := heap_alloc_new w _
        refine ⟨rfl, .inl ⟨.pointer (some ⟨w.heap.size, 0, none⟩), w.alloc (.cells z.cells T), ?_, g1, fun j => if j = kk then w.heap.size else bk j, hinv1, hh.step hst1, ?_, by rw [size_put]; exact hN, Nat.le_trans hw0 hbel.size, hgo, hgt, ?_, ?_, ?_, ?_⟩⟩
        · simp [execOp, Instr.alloc, zeroValue, typeInfo, hinf, hz', newVar, newRow]
        · exact envRep_put_none (he.mono hst1.sevo) (hna kk hkk).1
        · intro j hj hlj
          rw [hne _ (by omega)] at hlj
          obtain ⟨u, k1, k2⟩ := jL j hj hlj
          exact ⟨u, by rw [← k1]; exact put_get_ne (hac kk j hkk hj), k2.mono hst1.sevo.evo⟩
        · intro j hj hlj
          by_cases hjk : j = kk
          · subst hjk
            simp only [if_true]
            refine ⟨hw0, by show (if _ then _ else _) = _; rw [if_pos rfl], put_get_eq (by rw [hN]; exact (hna j hj).2), z.cells, hnewb, hzm, fun h3 => ?_⟩
            -- it can't have been stored to yet
            exfalso
            rw [hne _ (by omega)] at h3
            have h5 := jE j hj h3
            rw [hDF _ (by omega), hiu] at h5
            cases h5
          · rw [hne _ (by omega)] at hlj
            obtain ⟨k1, k2, k3, vs, k4, k5, k6⟩ := jA j hj hlj
            simp only [if_neg hjk]
            have hlt : bk j < w.heap.size := (Array.getElem?_eq_some_iff.1 k4).1
            refine ⟨k1, (hlim1 _ hlt).trans k2, by rw [← k3]; exact put_get_ne (haa kk j hkk hj (Ne.symm hjk)), vs, (hbel.block _ hlt).trans k4, k5, fun h3 i x u hx hu => ?_⟩
            rw [hne _ (by omega)] at h3
            obtain ⟨q1, q2⟩ := k6 h3 i x u hx hu
            exact ⟨q1.mono hst1.sevo.evo, q2⟩
        · intro j j' hj hj' h3 h4 hjj
          have old : ∀ j, j < n → j ≠ kk → (listed.setIfInBounds (n + kk) true).getD (n + j) false = true → bk j < w.heap.size := by
            intro j hj hjk hlj
            rw [hne _ (by omega)] at hlj
            obtain ⟨_, _, _, vs, k4, _⟩ := jA j hj hlj
            exact (Array.getElem?_eq_some_iff.1 k4).1
          show (if j = kk then w.heap.size else bk j) ≠ if j' = kk then w.heap.size else bk j'
          by_cases e1 : j = kk
          · rw [if_pos e1, if_neg (by omega)]
            have := old j' hj' (by omega) h4
            omega
          · rw [if_neg e1]
            have := old j hj e1 h3
            by_cases e2 : j' = kk
            · rw [if_pos e2]; omega
            · rw [if_neg e2]
              rw [hne _ (by omega)] at h3 h4
              exact jD j j' hj hj' h3 h4 hjj
        · intro j hj hlj
          rw [hne _ (by omega)] at hlj
          by_cases hjk : j = kk
          · subst hjk
            simp [Array.getD_eq_getD_getElem?, hs, show n + j < l.length from by omega]
          · rw [hne _ (by omega)]
            exact jE j hj hlj
      · -- a store
        obtain ⟨kk, rfl⟩ : ∃ kk, i = 2 * n + kk := ⟨i - 2 * n, by omega⟩
        have hkk : kk < n := by omega
        obtain ⟨ty, pos, after, ho', ⟨e1, he1, e1on, e1b⟩, e2, he2, e2on, e2b⟩ := hSt kk hkk
        rw [ho] at ho'; cases ho'
        have l1 : listed.getD kk false = true := by rw [← e1on]; exact hall e1 he1 e1b
        have l2 : listed.getD (n + kk) false = true := by rw [← e2on]; exact hall e2 he2 e2b
        obtain ⟨v, hv1, hv2⟩ := jL kk hkk l1
        obtain ⟨b1, b2, b3, vs, b4, b5, b6⟩ := jA kk hkk l2
        have hblt : bk kk < w.heap.size := (Array.getElem?_eq_some_iff.1 b4).1
        cases hv2 with
        | agg _ us hus hone hrep =>
          have husm : us.size = m := by rw [hus, hX kk hkk]
          have hst := run_storeCells_at P (bk kk) 0 T us.toList 0 vs w b4 (by simp; omega) (fun u hu => by
            obtain ⟨j, hj⟩ := List.mem_iff_getElem?.1 hu
            exact hone j u (by simpa using hj))
          have hrow : (vs.toList.take 0 ++ us.toList ++ vs.toList.drop (0 + us.toList.length)).toArray = us := by
            have : vs.toList.drop (0 + us.toList.length) = [] := List.drop_of_length_le (by simp; omega)
            rw [this]; simp
          simp only [Nat.add_zero] at hst
          rw [hrow] at hst
          have ev1 : Act.eval ⟨tmps, []⟩ (.tmp (a kk)) = .pointer (some ⟨bk kk, 0, none⟩) := by show tmps.getD (a kk) undef = _; rw [Array.getD_eq_getD_getElem?, b3]; rfl
          have ev2 : Act.eval ⟨tmps, []⟩ (.tmp (c kk)) = .agg us := by show tmps.getD (c kk) undef = _; rw [Array.getD_eq_getD_getElem?, hv1]; rfl
          have hoth : ∀ b, b ≠ bk kk → (w.setRow (bk kk) us).heap[b]? = w.heap[b]? := fun b hb' => setRow_other w _ b _ hb'
          obtain ⟨hinv1, hst1⟩ := hinv.foreign (M := w0.heap.size) (w' := w.setRow (bk kk) us) (b := bk kk) b1 (Nat.le_trans hinv0.base b1) b2 (fun o ho => by rw [hgo]; have := hownlt o ho; omega)
            (fun t x ht hbb => by rw [hgt] at hbb; have := htklt t x _ ht hbb; omega) (by simp) hoth rfl rfl rfl
          refine ⟨rfl, .inr ⟨w.setRow (bk kk) us, ?_, g, bk, hinv1, hh.stepM hst1 hh0.sevo.evo.size, he.mono hst1.sevo, hN, by simpa using hw0, hgo, hgt, ?_, ?_, ?_, ?_⟩⟩
          · simp [execOp, ev1, ev2, Instr.storeAt, Instr.sureAddr, storeVar, sizeOf, typeInfo, hinf, hs', Value.cells, husm, hst]
          · intro j hj hlj
            rw [hne _ (by omega)] at hlj
            obtain ⟨u, k1, k2⟩ := jL j hj hlj
            exact ⟨u, k1, k2.mono hst1.sevo.evo⟩
          · intro j hj hlj
            rw [hne _ (by omega)] at hlj
            obtain ⟨k1, k2, k3, ws, k4, k5, k6⟩ := jA j hj hlj
            by_cases hjk : j = kk
            · subst hjk
              refine ⟨k1, k2, k3, us, setRow_heap w _ vs _ T (0, 0) b4, husm, fun _ i x u hx hu => ⟨(hrep i x u hx hu).mono hst1.sevo.evo, hone i u hu⟩⟩
            · refine ⟨k1, k2, k3, ws, (hoth _ (jD j kk hj hkk hlj l2 hjk)).trans k4, k5, fun h3 i x u hx hu => ?_⟩
              rw [hne _ (by omega)] at h3
              obtain ⟨q1, q2⟩ := k6 h3 i x u hx hu
              exact ⟨q1.mono hst1.sevo.evo, q2⟩
          · intro j j' hj hj' h3 h4 hjj
            rw [hne _ (by omega)] at h3 h4
            exact jD j j' hj hj' h3 h4 hjj
          · intro j hj hlj
            rw [hne (n + j) (by omega)]
            by_cases hjk : j = kk
            · subst hjk; exact l2
            · rw [hne _ (by omega)] at hlj
              exact jE j hj hlj
  · intro listed tmps w hs hall hJ
    obtain ⟨g, bk, hinv, hh, he, hN, hw0, hgo, hgt, jL, jA, jD, jE⟩ := hJ
    obtain ⟨g', q1, q2, q3, q4, q5, q6⟩ := adoptAll (M := w0.heap.size) (T := T) (X := X) (bk := bk) hinv n (fun k hk => (jA k hk (hall _ (by omega))).1) (fun k hk => by
        obtain ⟨b1, b2, b3, vs, b4, b5, b6⟩ := jA k hk (hall _ (by omega))
        refine ⟨Nat.le_trans hinv0.base b1, b2, fun o ho => by rw [hgo]; have := hownlt o ho; omega, fun t x ht hbb => by rw [hgt] at hbb; have := htklt t x _ ht hbb; omega, vs, b4, by rw [b5, hX k hk], b6 (hall _ (by omega))⟩)
      (fun k k' hk hk' hne => jD k k' hk hk' (hall _ (by omega)) (hall _ (by omega)) hne)
    refine h g' w tmps q5 (hh.stepM q6 hh0.sevo.evo.size) (fun i y hy => ?_) hN
    rcases copEnv_get n hy with ⟨j, hj, rfl, rfl⟩ | hy
    · obtain ⟨b1, b2, b3, _⟩ := jA j hj (hall _ (by omega))
      refine ⟨_, b3, ?_⟩
      rw [← q4 j hj]
      exact .ref _ _ (by simp [copRows]; omega)
    · obtain ⟨v, k1, k2⟩ := he i y hy
      exact ⟨v, k1, k2.mono q6.sevo⟩
  · have : ((List.range l.length).filter fun i => !(Array.replicate l.toArray.size false).getD i true) = List.range l.length := by
      rw [List.filter_eq_self]
      intro i hi
      have hi' := List.mem_range.1 hi
      simp [Array.getD_eq_getD_getElem?, Array.getElem?_replicate, hi']
    rw [this]; simp
def acycB (l : List Oper) : Bool := allBelow l.length fun i => match l[i]? with
  | some o => o.after.toList.all fun e => !Region.binds .any e || decide (e.on < i)
  | none => true
theorem acyc_of {l : List Oper} (h : acycB l = true) (i : Nat) (o : Oper) (ho : l[i]? = some o) (e : Edge) (he : e ∈ o.after) (hb : Region.binds .any e = true) : e.on < i := by
  have h1 := allBelow_get h (List.getElem?_eq_some_iff.1 ho).1
  rw [ho] at h1
  simp only [List.all_eq_true] at h1
  have := h1 e (by simpa using he)
  simpa [hb] using this
def copB (n N : Nat) (cs as : List Nat) (env : Env) : Bool := allBelow n fun i =>
  Nat.blt (as.getD i 0) N && Nat.blt (cs.getD i 0) N && (lookup (as.getD i 0) env).isNone && (lookup (cs.getD i 0) env).isNone &&
    allBelow n fun j => (Nat.beq i j || (!Nat.beq (as.getD i 0) (as.getD j 0) && !Nat.beq (cs.getD i 0) (cs.getD j 0))) && !Nat.beq (as.getD i 0) (cs.getD j 0)
theorem beq_no {a b : Nat} (h : Nat.beq a b = false) : a ≠ b := fun e => by subst e; rw [Nat.beq_refl a] at h; cases h
/-- The same, checked by reckoning. -/
theorem ARun.copiesL {id : Nat} {l : List Oper} (n m : Nat) (T : TypeId) (cs as : List Nat) (Xs : List (List D)) {z : Value} (hm : P.follows .mixedOrders = true) (hacyc : acycB l = true) (hlen : Nat.beq l.length (3 * n) = true)
    (hL : ∀ k, k < n → ∃ o, l[k]? = some o ∧ o.guard = none ∧ o.dst = some (cs.getD k 0) ∧ OpQ P env st o (.d (.agg (Xs.getD k []))))
    (hA : ∀ k, k < n → ∃ ty pos after, l[n + k]? = some ⟨some (as.getD k 0), .alloc T, ty, pos, after, none⟩)
    (hSt : ∀ k, k < n → ∃ ty pos after, l[2 * n + k]? = some ⟨none, .store T (.tmp (as.getD k 0)) (.tmp (cs.getD k 0)), ty, pos, after, none⟩ ∧ (∃ e ∈ after, e.on = k ∧ Region.binds .any e = true) ∧ ∃ e ∈ after, e.on = n + k ∧ Region.binds .any e = true)
    (hB : copB n N cs as env = true) (hX : (Xs.all fun x => Nat.beq x.length m) = true) (hXl : Nat.beq Xs.length n = true)
    (hz : (P.info? T).bind (·.zero) = some z) (hzm : Nat.beq z.cells.size m = true) (hsz : (P.info? T).map (·.size) = some m)
    (h : ARun P f N S Q k (copEnv (fun k => as.getD k 0) st.objs.length n env) ⟨st.objs ++ copRows T (fun k => Xs.getD k []) n, st.tails⟩) : ARun P f N S Q (.code (.region id l.toArray true) :: k) env st := by
  have hXl' := Nat.eq_of_beq_eq_true hXl
  have hg : ∀ i, i < n → _ := fun i hi => allBelow_get hB hi
  simp only [Bool.and_eq_true, Bool.not_eq_true', Bool.or_eq_true, Option.isNone_iff_eq_none] at hg
  have hg2 : ∀ i j, i < n → j < n → _ := fun i j hi hj => allBelow_get (hg i hi).2 hj
  simp only [Bool.and_eq_true, Bool.not_eq_true', Bool.or_eq_true] at hg2
  refine ARun.copies n m T _ _ _ hm (acyc_of hacyc) (Nat.eq_of_beq_eq_true hlen) hL hA hSt ?_ ?_ ?_ ?_ ?_ ?_ hz (Nat.eq_of_beq_eq_true hzm) hsz h
  · intro i j hi hj hne
    rcases (hg2 i j hi hj).1 with h | h
    · exact absurd (Nat.eq_of_beq_eq_true h) hne
    · exact beq_no h.1
  · intro i j hi hj hne
    rcases (hg2 i j hi hj).1 with h | h
    · exact absurd (Nat.eq_of_beq_eq_true h) hne
    · exact beq_no h.2
  · intro i j hi hj
    exact beq_no (hg2 i j hi hj).2
  · intro i hi
    exact ⟨(hg i hi).1.1.2, blt_lt (hg i hi).1.1.1.1⟩
  · intro i hi
    exact ⟨(hg i hi).1.2, blt_lt (hg i hi).1.1.1.2⟩
  · intro i hi
    rw [List.all_eq_true] at hX
    have hi' : i < Xs.length := by omega
    have : Xs.getD i [] = Xs[i] := by rw [List.getD_eq_getElem?_getD, List.getElem?_eq_getElem hi']; rfl
    show (Xs.getD i []).length = m
    rw [this]
    exact Nat.eq_of_beq_eq_true (hX _ (List.getElem_mem hi'))
end copies
end Go.Abs
