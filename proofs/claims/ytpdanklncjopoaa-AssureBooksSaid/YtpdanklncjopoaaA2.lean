/- The judgement ARun and its rules for control, for quiet operations, for guarded operations and for calls. -/
import Derived.Test.YtpdanklncjopoaaA1
set_option linter.unusedSimpArgs false
set_option linter.unusedVariables false
namespace Go.Abs
open Go.RowKit

/-- One step of the world that keeps what was known. -/
structure Step (base : Nat) (g : Ghost) (w : World) (st : St) (g' : Ghost) (w' : World) (st' : St) : Prop where
  sevo : SEvo g w st g' w' st'
  below : Below base w w'
  lim : ∀ b, b < base → g'.lim b = g.lim b
  frame : ∀ b, b < w.heap.size → ¬ Owned g st b → w'.heap[b]? = w.heap[b]? ∧ g'.lim b = g.lim b
  fresh : ∀ b, b < w.heap.size → Owned g' st' b → Owned g st b
theorem Step.refl (base : Nat) (g : Ghost) (w : World) (st : St) : Step base g w st g w st := ⟨.refl _ _ _, .refl _ _, fun _ _ => rfl, fun _ _ _ => ⟨rfl, rfl⟩, fun _ _ h => h⟩
theorem Step.trans {base : Nat} {g1 g2 g3 : Ghost} {w1 w2 w3 : World} {s1 s2 s3 : St} (h : Step base g1 w1 s1 g2 w2 s2) (k : Step base g2 w2 s2 g3 w3 s3) : Step base g1 w1 s1 g3 w3 s3 :=
  ⟨h.sevo.trans k.sevo, h.below.trans k.below, fun b hb => (k.lim b hb).trans (h.lim b hb),
    fun b hb hn => have k1 := k.frame b (Nat.lt_of_lt_of_le hb h.sevo.evo.size) (fun ho => hn (h.fresh b hb ho)); have h1 := h.frame b hb hn; ⟨k1.1.trans h1.1, k1.2.trans h1.2⟩,
    fun b hb ho => h.fresh b hb (k.fresh b (Nat.lt_of_lt_of_le hb h.sevo.evo.size) ho)⟩
theorem Hist.step {S : Start} {g g' : Ghost} {w w' : World} {st st' : St} (h : Hist S g w st) (k : Step S.base g w st g' w' st') : Hist S g' w' st' :=
  ⟨h.sevo.trans k.sevo, h.below.trans k.below, fun b hb => (k.lim b hb).trans (h.lim b hb),
    fun b hb hn => have k1 := k.frame b (Nat.lt_of_lt_of_le hb h.sevo.evo.size) (fun ho => hn (h.fresh b hb ho)); have h1 := h.frame b hb hn; ⟨k1.1.trans h1.1, k1.2.trans h1.2⟩,
    fun b hb ho => h.fresh b hb (k.fresh b (Nat.lt_of_lt_of_le hb h.sevo.evo.size) ho)⟩
theorem Hist.refl (S : Start) : Hist S S.g S.w S.st := ⟨.refl _ _ _, .refl _ _, fun _ _ => rfl, fun _ _ _ => ⟨rfl, rfl⟩, fun _ _ h => h⟩
theorem Hist.toStep {S : Start} {g : Ghost} {w : World} {st : St} (h : Hist S g w st) : Step S.base S.g S.w S.st g w st := ⟨h.sevo, h.below, h.lim, h.frame, h.fresh⟩

def ARun (P : Program) (f : FuncId) (N : Nat) (S : Start) (Q : EV → St → Prop) (todo : List Item) (env : Env) (st : St) : Prop :=
  ∀ g w tmps, Inv g S.base w st → Hist S g w st → EnvRep g w st env tmps → tmps.size = N → FWP P f (RPost S Q) todo tmps w

def cv : Value → D
  | .agg cs => if cs.toList.all (·.oneCell') then .agg (cs.toList.map D.ex) else .ex (.agg cs)
  | v => .ex v
theorem cv_rep (lim : Nat → Nat) (w : World) (v : Value) : DRep lim w (cv v) v := by
  cases v <;> simp only [cv] <;> try exact .ex _
  rename_i cs
  split
  · rename_i h
    refine .agg _ _ (by simp) ?_ ?_
    · intro i u hu
      rw [List.all_eq_true] at h
      exact h u (by
        have : u ∈ cs := Array.mem_of_getElem? hu
        simpa using this)
    · intro i c u hc hu
      rw [List.getElem?_map] at hc
      have : cs.toList[i]? = some u := by simpa using hu
      rw [this] at hc
      simp only [Option.map_some, Option.some.injEq] at hc
      subst hc
      exact .ex u
  · exact .ex _

def evo (env : Env) : Operand → Option EV
  | .tmp t => lookup t env
  | .const (.agg cs) => match cs.toList.all (·.oneCell') with
    | true => some (.d (.agg (cs.toList.map D.ex)))
    | false => some (.d (.ex (.agg cs)))
  | .const v => some (.d (.ex v))
  | .func f => some (.d (.ex (.func (.func f) #[] #[])))
  | .global _ => none

theorem evo_const (env : Env) (v : Value) : evo env (.const v) = some (.d (cv v)) := by
  cases v <;> try rfl
  rename_i cs
  simp only [evo, cv]
  cases cs.toList.all (·.oneCell') <;> rfl
theorem evo_rep {g : Ghost} {w : World} {st : St} {env : Env} {tmps : Array Value} (h : EnvRep g w st env tmps) {x : Operand} {e : EV} (hx : evo env x = some e) : EVRep g w st e (Act.eval ⟨tmps, []⟩ x) := by
  cases x with
  | tmp t =>
    obtain ⟨v, h1, h2⟩ := h t e hx
    simp only [Act.eval, Array.getD_eq_getD_getElem?, h1, Option.getD_some]
    exact h2
  | const v =>
    rw [evo_const, Option.some.injEq] at hx
    subst hx
    exact .d _ _ (cv_rep _ _ v)
  | func f =>
    simp only [evo, Option.some.injEq] at hx
    subst hx
    exact .d _ _ (.ex _)
  | «global» x => simp [evo] at hx

section inv
variable {g : Ghost} {w : World} {st : St} {v : Value}
theorem EVRep.ex_inv {u : Value} (h : EVRep g w st (.d (.ex u)) v) : v = u := by
  cases h with | d _ _ h => cases h; rfl
end inv

section control
variable {P : Program} {f : FuncId} {N : Nat} {S : Start} {Q : EV → St → Prop} {k : List Item} {env : Env} {st : St}
theorem ARun.seq {x y : Code} (h : ARun P f N S Q (.code x :: .code y :: k) env st) : ARun P f N S Q (.code (.seq x y) :: k) env st := fun g w t a b c d => .seq (h g w t a b c d)
theorem ARun.skip (h : ARun P f N S Q k env st) : ARun P f N S Q (.code .skip :: k) env st := fun g w t a b c d => .skipC (h g w t a b c d)
theorem ARun.label {l : Nat} (h : ARun P f N S Q k env st) : ARun P f N S Q (.code (.label l) :: k) env st := fun g w t a b c d => .labelC (h g w t a b c d)
theorem ARun.inBlock {id : Nat} (h : ARun P f N S Q k env st) : ARun P f N S Q (.inBlock id :: k) env st := fun g w t a b c d => .inBlock (h g w t a b c d)
theorem ARun.block {id : Nat} {c : Code} (h : ARun P f N S Q (.code c :: .inBlock id :: k) env st) : ARun P f N S Q (.code (.block id c) :: k) env st := fun g w t a b c d => .block (h g w t a b c d)
theorem ARun.inLoop {c : Code} (h : ARun P f N S Q (.code c :: .inLoop c :: k) env st) : ARun P f N S Q (.inLoop c :: k) env st := fun g w t a b c d => .inLoop (h g w t a b c d)
theorem ARun.loop0 {c : Code} (h : ARun P f N S Q (.code c :: .inLoop c :: k) env st) : ARun P f N S Q (.code (.loop c) :: k) env st := fun g w t a b c d => .loop (h g w t a b c d)
theorem ARun.exit {id : Nat} {k' : List Item} (hk : exitTo id k = some k') (h : ARun P f N S Q k' env st) : ARun P f N S Q (.code (.exit id) :: k) env st := fun g w t a b c d => .exit hk (h g w t a b c d)
theorem ARun.goto {l : Nat} {k' : List Item} (hk : gotoIn l k = some k') (h : ARun P f N S Q k' env st) : ARun P f N S Q (.code (.goto l) :: k) env st := fun g w t a b c d => .goto hk (h g w t a b c d)
theorem ARun.cond {c : Operand} {x y : Code} {b : Bool} (hc : evo env c = some (.d (.ex (.bool b)))) (ht : b = true → ARun P f N S Q (.code x :: k) env st) (hf : b = false → ARun P f N S Q (.code y :: k) env st) :
    ARun P f N S Q (.code (.cond c x y) :: k) env st := by
  intro g w t hi hh he hn
  refine FWP.cond (t := b) (evo_rep he hc).ex_inv ?_
  cases b with
  | true => exact ht rfl g w t hi hh he hn
  | false => exact hf rfl g w t hi hh he hn

def EVle (x y : EV) : Prop := ∀ (g : Ghost) (w : World) (st : St) (v : Value), EVRep g w st x v → EVRep g w st y v
theorem EVle.rfl' (x : EV) : EVle x x := fun _ _ _ _ h => h
theorem EVle.any (x : EV) : EVle x (.d .any) := fun _ _ _ v _ => .d _ _ (.any v)
theorem EVle.tsl (sz : Nat) (rows : List (List D)) (t : Nat) : EVle (.tsl sz rows t) (.d (.sl sz rows)) := fun _ _ _ v h => by cases h with | tsl _ _ _ _ _ _ hd _ _ _ => exact .d _ _ hd
theorem EVle.nil (sz : Nat) : EVle (.d (.ex (.slice none 0 0))) (.d (.sl sz [])) := fun _ _ _ v h => by cases h.ex_inv; exact .d _ _ (.nil sz _)
theorem D.e0_sl {lim : Nat → Nat} {w : World} {sz : Nat} {v : Value} (h : DRep lim w (.e0 sz) v) : DRep lim w (.sl sz []) v := by
  cases h with
  | e0 _ A h =>
    rcases h with rfl | ⟨b, off, rfl⟩
    · exact .nil sz _
    · exact .sl sz [] b off 0 (Nat.le_refl _) (by simp) (by simp) (by simp)
theorem EVle.e0 (sz : Nat) : EVle (.d (.e0 sz)) (.d (.sl sz [])) := fun _ _ _ v h => by cases h with | d _ _ h => exact .d _ _ (D.e0_sl h)
theorem EVle.nil0 (sz : Nat) : EVle (.d (.ex (.slice none 0 0))) (.d (.e0 sz)) := fun _ _ _ v h => by cases h.ex_inv; exact .d _ _ (.e0 sz none (.inl rfl))
theorem EVle.eq {x y : EV} (h : x = y) : EVle x y := h ▸ EVle.rfl' x

def SubEnv (env : Env) : Env → Prop
  | [] => True
  | (i, y) :: t => (∃ x, lookup i env = some x ∧ EVle x y) ∧ SubEnv env t
theorem SubEnv.get {env : Env} : ∀ {env' : Env}, SubEnv env env' → ∀ i y, lookup i env' = some y → ∃ x, lookup i env = some x ∧ EVle x y
  | [], _, i, y, h => by simp [lookup] at h
  | (j, z) :: t, ⟨⟨x, hx, hle⟩, ht⟩, i, y, h => by
    unfold lookup at h
    cases hb : Nat.beq i j with
    | true =>
      rw [hb] at h
      simp only [Option.some.injEq] at h
      have := Nat.eq_of_beq_eq_true hb
      subst this
      subst h
      exact ⟨x, hx, hle⟩
    | false =>
      rw [hb] at h
      exact ht.get i y h
theorem EnvRep.sub {g : Ghost} {w : World} {tmps : Array Value} {env env' : Env} (h : EnvRep g w st env tmps) (hs : SubEnv env env') : EnvRep g w st env' tmps := by
  intro i y hy
  obtain ⟨x, hx, hle⟩ := hs.get i y hy
  obtain ⟨v, h1, h2⟩ := h i x hx
  exact ⟨v, h1, hle _ _ _ _ h2⟩
theorem ARun.sub {todo : List Item} {env' : Env} (hs : SubEnv env env') (h : ARun P f N S Q todo env' st) : ARun P f N S Q todo env st :=
  fun g w t a b c d => h g w t a b (c.sub hs) d

/-- A loop: a family of environments and states, a measure; the way back is by hypothesis. -/
theorem ARun.loop {c : Code} {ι : Type} (E : ι → Env) (T : ι → St) (I : ι → Prop) (μ : ι → Nat) (i0 : ι) (h0 : I i0) (hE : SubEnv env (E i0)) (hT : st = T i0)
    (step : ∀ i, I i → (∀ j, I j → μ j < μ i → ARun P f N S Q (.inLoop c :: k) (E j) (T j)) → ARun P f N S Q (.code c :: .inLoop c :: k) (E i) (T i)) :
    ARun P f N S Q (.code (.loop c) :: k) env st := by
  have key : ∀ n i, μ i < n → I i → ARun P f N S Q (.code c :: .inLoop c :: k) (E i) (T i) := by
    intro n
    induction n with
    | zero => intro i hi; omega
    | succ n ih =>
      intro i hi hI
      exact step i hI fun j hj hlt => .inLoop (ih j (by omega) hj)
  subst hT
  exact .loop0 (.sub hE (key _ i0 (Nat.lt_succ_self _) h0))

/-- Several ways come together ahead of k. -/
theorem ARun.join {todo : List Item} {ι : Type} (k' : List Item) (E : ι → Env) (T : ι → St) (I : ι → Prop)
    (hk : ∀ i, I i → ARun P f N S Q k' (E i) (T i)) (h : (∀ i, I i → ARun P f N S Q k' (E i) (T i)) → ARun P f N S Q todo env st) : ARun P f N S Q todo env st := h hk
theorem ARun.seqJoin {x y : Code} {ι : Type} (E : ι → Env) (T : ι → St) (I : ι → Prop)
    (hk : ∀ i, I i → ARun P f N S Q (.code y :: k) (E i) (T i)) (h : (∀ i, I i → ARun P f N S Q (.code y :: k) (E i) (T i)) → ARun P f N S Q (.code x :: .code y :: k) env st) :
    ARun P f N S Q (.code (.seq x y) :: k) env st := .seq (h hk)
theorem ARun.blockJoin {id : Nat} {c : Code} {ι : Type} (E : ι → Env) (T : ι → St) (I : ι → Prop)
    (hk : ∀ i, I i → ARun P f N S Q k (E i) (T i)) (h : (∀ i, I i → ARun P f N S Q (.inBlock id :: k) (E i) (T i)) → ARun P f N S Q (.code c :: .inBlock id :: k) env st) :
    ARun P f N S Q (.code (.block id c) :: k) env st := .block (h fun i hi => .inBlock (hk i hi))

theorem ARun.ret1 {fn : Func} {t : Tmp} {r : EV} (hf : P.funcs[f]? = some fn) (hr : fn.results = #[.tmp t]) (hl : lookup t env = some r) (hQ : Q r st) : ARun P f N S Q (.code .ret :: k) env st := by
  intro g w tmps hi hh he hn
  obtain ⟨v, h1, h2⟩ := he t r hl
  refine FWP.ret hf (results_tmp hr tmps P w) ⟨v, r, st, g, ?_, hQ, h2, hi, hh⟩
  rw [Array.getD_eq_getD_getElem?, h1]; rfl
theorem tup2 {g : Ghost} {w : World} {a b : EV} {u v : Value} (h1 : EVRep g w st a u) (h2 : EVRep g w st b v) : EVRep g w st (.tup [a, b]) (.tuple #[u, v]) := by
  refine .tup _ _ rfl ?_
  intro i c x hc hx
  match i with
  | 0 => simp at hc hx; subst hc; subst hx; exact h1
  | 1 => simp at hc hx; subst hc; subst hx; exact h2
  | n + 2 => simp at hc
theorem tup3 {g : Ghost} {w : World} {a b c : EV} {u v x : Value} (h1 : EVRep g w st a u) (h2 : EVRep g w st b v) (h3 : EVRep g w st c x) : EVRep g w st (.tup [a, b, c]) (.tuple #[u, v, x]) := by
  refine .tup _ _ rfl ?_
  intro i c x hc hx
  match i with
  | 0 => simp at hc hx; subst hc; subst hx; exact h1
  | 1 => simp at hc hx; subst hc; subst hx; exact h2
  | 2 => simp at hc hx; subst hc; subst hx; exact h3
  | n + 3 => simp at hc
theorem results_tmp3' {fn : Func} {t u v : Tmp} (h : fn.results = #[.tmp t, .tmp u, .tmp v]) (tmps : Array Value) (P : Program) (w : World) :
    (results fn tmps).run P w = .ok (.tuple #[tmps.getD t undef, tmps.getD u undef, tmps.getD v undef]) w := by simp [results, h]
theorem ARun.ret2 {fn : Func} {t u : Tmp} {r s : EV} (hf : P.funcs[f]? = some fn) (hr : fn.results = #[.tmp t, .tmp u]) (hl : lookup t env = some r) (hm : lookup u env = some s) (hQ : Q (.tup [r, s]) st) :
    ARun P f N S Q (.code .ret :: k) env st := by
  intro g w tmps hi hh he hn
  obtain ⟨v, h1, h2⟩ := he t r hl
  obtain ⟨x, h3, h4⟩ := he u s hm
  refine FWP.ret hf (results_tmp2 hr tmps P w) ⟨_, _, st, g, rfl, hQ, ?_, hi, hh⟩
  rw [Array.getD_eq_getD_getElem?, h1, Array.getD_eq_getD_getElem?, h3]
  exact tup2 h2 h4
theorem ARun.ret3 {fn : Func} {t u z : Tmp} {r s q : EV} (hf : P.funcs[f]? = some fn) (hr : fn.results = #[.tmp t, .tmp u, .tmp z]) (hl : lookup t env = some r) (hm : lookup u env = some s) (hz : lookup z env = some q)
    (hQ : Q (.tup [r, s, q]) st) : ARun P f N S Q (.code .ret :: k) env st := by
  intro g w tmps hi hh he hn
  obtain ⟨v, h1, h2⟩ := he t r hl
  obtain ⟨x, h3, h4⟩ := he u s hm
  obtain ⟨y, h5, h6⟩ := he z q hz
  refine FWP.ret hf (results_tmp3' hr tmps P w) ⟨_, _, st, g, rfl, hQ, ?_, hi, hh⟩
  rw [Array.getD_eq_getD_getElem?, h1, Array.getD_eq_getD_getElem?, h3, Array.getD_eq_getD_getElem?, h5]
  exact tup3 h2 h4 h6
theorem ARun.fin0 {fn : Func} (hf : P.funcs[f]? = some fn) (hr : fn.results = #[]) (hQ : Q (.tup []) st) : ARun P f N S Q [] env st := by
  intro g w tmps hi hh he hn
  refine FWP.fin hf (results_none hr tmps P w) ⟨_, _, st, g, rfl, hQ, .tup _ _ rfl (by simp), hi, hh⟩
theorem ARun.ret0 {fn : Func} (hf : P.funcs[f]? = some fn) (hr : fn.results = #[]) (hQ : Q (.tup []) st) : ARun P f N S Q (.code .ret :: k) env st := by
  intro g w tmps hi hh he hn
  refine FWP.ret hf (results_none hr tmps P w) ⟨_, _, st, g, rfl, hQ, .tup _ _ rfl (by simp), hi, hh⟩
end control

/-- What is left of a region's list of operations. -/
def AOps (P : Program) (f : FuncId) (N : Nat) (S : Start) (Q : EV → St → Prop) (ops rest : List Oper) (k : List Item) (env : Env) (st : St) : Prop :=
  ∀ i, (∀ j : Nat, rest[j]? = ops[i + j]?) → ARun P f N S Q (.inRegion ops.toArray (List.range' i rest.length) :: k) env st

def Env.put (env : Env) : Option Tmp → EV → Env
  | some d, x => (d, x) :: env
  | none, _ => env
def dstOk (N : Nat) : Option Tmp → Bool
  | some d => Nat.ble (d + 1) N
  | none => true

theorem envPut {g : Ghost} {w : World} {st : St} {env : Env} {tmps : Array Value} {d : Option Tmp} {x : EV} {v : Value} (h : EnvRep g w st env tmps) (hd : dstOk tmps.size d = true) (hv : EVRep g w st x v) :
    EnvRep g w st (env.put d x) (Act.put ⟨tmps, []⟩ d v).tmps := by
  cases d with
  | none => exact h
  | some d => exact h.put (Nat.le_of_ble_eq_true hd) hv
theorem size_put {tmps : Array Value} {d : Option Tmp} {v : Value} : (Act.put ⟨tmps, []⟩ d v).tmps.size = tmps.size := by
  cases d <;> simp [Act.put]

section regions
variable {P : Program} {f : FuncId} {N : Nat} {S : Start} {Q : EV → St → Prop} {k : List Item} {env : Env} {st : St} {ops rest : List Oper}
theorem ARun.region {id : Nat} {l : List Oper} (h : AOps P f N S Q l l k env st) : ARun P f N S Q (.code (.region id l.toArray false) :: k) env st := by
  intro g w t a b c d
  refine FWP.region ?_
  have := h 0 (by simp) g w t a b c d
  rw [List.range_eq_range']
  simpa using this
theorem AOps.nil (h : ARun P f N S Q k env st) : AOps P f N S Q ops [] k env st := fun i _ g w t a b c d => .regionEnd (h g w t a b c d)

/-- An operation that yields a value and may turn the state. -/
def OpV (P : Program) (base : Nat) (env : Env) (st : St) (o : Oper) (x : EV) (st' : St) : Prop :=
  ∀ g w tmps, Inv g base w st → EnvRep g w st env tmps → ∃ v g' w', (execOp (Act.eval ⟨tmps, []⟩) o).run P w = .ok (.value v) w' ∧ EVRep g' w' st' x v ∧ Inv g' base w' st' ∧ Step base g w st g' w' st'
def OpU (P : Program) (base : Nat) (env : Env) (st : St) (o : Oper) (st' : St) : Prop :=
  ∀ g w tmps, Inv g base w st → EnvRep g w st env tmps → ∃ g' w', (execOp (Act.eval ⟨tmps, []⟩) o).run P w = .ok .skip w' ∧ Inv g' base w' st' ∧ Step base g w st g' w' st'
/-- A quiet one: one value, also in every world that has but grown. -/
def OpQ (P : Program) (env : Env) (st : St) (o : Oper) (x : EV) : Prop :=
  ∀ g base w tmps, Inv g base w st → EnvRep g w st env tmps → ∃ v, EVRep g w st x v ∧ ∀ w', Below w.heap.size w w' → (execOp (Act.eval ⟨tmps, []⟩) o).run P w' = .ok (.value v) w'
theorem OpQ.v {base : Nat} {o : Oper} {x : EV} (h : OpQ P env st o x) : OpV P base env st o x st :=
  fun g w t a b => let ⟨v, h1, h2⟩ := h g base w t a b; ⟨v, g, w, h2 w (.refl _ _), h1, a, .refl _ _ _ _⟩

theorem range'_succ' {i n : Nat} : List.range' i (n + 1) = i :: List.range' (i + 1) n := by rw [List.range'_succ]

theorem AOps.op {o : Oper} {x : EV} {st' : St} (hg : o.guard = none) (hd : dstOk N o.dst = true) (h : OpV P S.base env st o x st') (hk : AOps P f N S Q ops rest k (env.put o.dst x) st') :
    AOps P f N S Q ops (o :: rest) k env st := by
  intro i hi g w tmps hinv hh he hn
  obtain ⟨v, g', w', hr, hx, hinv', hs⟩ := h g w tmps hinv he
  have ho : ops.toArray[i]? = some o := by simpa using (hi 0).symm
  have hw : Region.wanted o (yielded ops.toArray tmps) = true := by simp [Region.wanted, hg]
  rw [List.length_cons, range'_succ']
  refine FWP.value ho hw hr ?_
  subst hn
  exact hk (i + 1) (fun j => by have := hi (j + 1); simpa [Nat.add_assoc, Nat.add_comm 1 j] using this) g' w' _ hinv' (hh.step hs) (envPut (he.mono hs.sevo) hd hx) size_put
theorem AOps.opU {o : Oper} {st' : St} (hg : o.guard = none) (hd : dstOk N o.dst = true) (h : OpU P S.base env st o st') (hk : AOps P f N S Q ops rest k (env.put o.dst (.d .any)) st') :
    AOps P f N S Q ops (o :: rest) k env st := by
  intro i hi g w tmps hinv hh he hn
  obtain ⟨g', w', hr, hinv', hs⟩ := h g w tmps hinv he
  have ho : ops.toArray[i]? = some o := by simpa using (hi 0).symm
  have hw : Region.wanted o (yielded ops.toArray tmps) = true := by simp [Region.wanted, hg]
  rw [List.length_cons, range'_succ']
  refine FWP.skip ho hw hr ?_
  subst hn
  exact hk (i + 1) (fun j => by have := hi (j + 1); simpa [Nat.add_assoc, Nat.add_comm 1 j] using this) g' w' _ hinv' (hh.step hs) (envPut (he.mono hs.sevo) hd (.d _ _ (.any _))) size_put
end regions
end Go.Abs
