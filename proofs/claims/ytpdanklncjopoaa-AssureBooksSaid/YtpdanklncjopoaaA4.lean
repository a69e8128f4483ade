/- Contracts of functions, and the rules for calls. -/
import Derived.Test.YtpdanklncjopoaaA3
set_option linter.unusedSimpArgs false
set_option linter.unusedVariables false
namespace Go.Abs
open Go.RowKit

/-- What grows only beyond the blocks that were there leaves the state as it was. -/
theorem Inv.grow {g g' : Ghost} {base : Nat} {w w' : World} {st : St} (h : Inv g base w st) (hb : Below w.heap.size w w') (hl : ∀ b, b < w.heap.size → g'.lim b = g.lim b) (ho : g'.ob = g.ob) (ht : g'.tk = g.tk) :
    Inv g' base w' st ∧ Step base g w st g' w' st := by
  have hs : Step base g w st g' w' st := by
    refine ⟨⟨⟨hb.size, fun b hb' => by rw [hl b hb']; exact Nat.le_refl _, fun b off hb' _ => hb.cell (p := ⟨b, off, none⟩) hb'⟩, fun _ _ => by rw [ho], Nat.le_refl _, fun t e sz n h => ⟨n, h, Nat.le_refl _, fun _ => by rw [ht]⟩, Nat.le_refl _, own_same fun t x' rows' _ h _ => ⟨h, by rw [ht]⟩⟩, hb.mono h.base, fun b hb' => hl b (Nat.lt_of_lt_of_le hb' h.base),
      fun b hb' _ => ⟨hb.block b hb', hl b hb'⟩, fun b _ hw => by unfold Owned at hw ⊢; rw [ho, ht] at hw; exact hw⟩
  have hlt : ∀ (b : Nat) (x : Obj), w.heap[b]? = some x → b < w.heap.size := fun b x hx => (Array.getElem?_eq_some_iff.1 hx).1
  have hraw : ∀ o x, st.objs[o]? = some (.raw x) → base ≤ g'.ob o ∧ g'.lim (g'.ob o) = 0 ∧ w'.heap[g'.ob o]? = some x := by
    intro o x hx
    obtain ⟨h1, h2, h3⟩ := h.raw o x hx
    have hlt' := hlt _ _ h3
    rw [ho]
    exact ⟨h1, by rw [hl _ hlt']; exact h2, by rw [hb.block _ hlt']; exact h3⟩
  refine ⟨⟨Nat.le_trans h.base hb.size, ?_, ?_, hraw, ?_, ?_, ?_, ?_, h.glob.below hs.below, ?_⟩, hs⟩
  · intro o ty cs hx
    obtain ⟨h1, h2, vs, h3, h4, h5⟩ := h.row o ty cs hx
    have hlt' := hlt _ _ h3
    rw [ho]
    refine ⟨h1, by rw [hl _ hlt']; exact h2, vs, by rw [hb.block _ hlt']; exact h3, h4, fun i c u hc hu => ⟨(h5 i c u hc hu).1.mono hs.sevo, (h5 i c u hc hu).2⟩⟩
  · intro o es hx
    obtain ⟨h1, ms, clock, h3, h4, h5, h6, h7⟩ := h.map o es hx
    have hlt' := hlt _ _ h3
    rw [ho]
    exact ⟨h1, ms, clock, by rw [hb.block _ hlt']; exact h3, h4, fun i k x m a b => ⟨(h5 i k x m a b).1, (h5 i k x m a b).2.mono hs.sevo⟩, h6, h7⟩
  · rw [ho]; exact h.ne
  · intro t e sz n hx
    obtain ⟨xs, h1, h2⟩ := h.tail t e sz n hx
    rw [ht]
    refine ⟨xs, ?_, fun b hb' => ?_⟩
    · obtain ⟨k1, k2⟩ := h1
      refine ⟨k1, ?_⟩
      rcases k2 with k2 | ⟨gb, cap, cur, e1, e2, e3, e4⟩
      · exact .inl k2
      · exact .inr ⟨gb, cap, cur, e1, e2, by rw [hb.block _ (hlt _ _ e3)]; exact e3, e4⟩
    · rw [hl b (h1.lt b hb').2]; exact h2 b hb'
  · rw [ht]; exact h.tailNe
  · rw [ht, ho]; exact h.tailObj
  · intro t e sz n rows hx
    obtain ⟨xs, h1, h2, h3⟩ := h.own t e sz n rows hx
    rw [ht]
    exact ⟨xs, ownsRow_keep h1 fun b hb' => hb.block b (h1.lt b hb').2, fun b hb' => by rw [hl b (h1.lt b hb').2]; exact h2 b hb', h3.mono hs.sevo.evo⟩

def ArgsRep (g : Ghost) (w : World) (st : St) (args : List EV) (vs : Array Value) : Prop :=
  vs.size = args.length ∧ ∀ (i : Nat) x v, args[i]? = some x → vs[i]? = some v → EVRep g w st x v

/-- A call that may turn what the caller owns. -/
def ACallS (P : Program) (f : FuncId) (args : List EV) (st : St) (Q : EV → St → Prop) : Prop :=
  ∀ g w base vs, Inv g base w st → ArgsRep g w st args vs → Calls P f vs w (RPost ⟨g, w, st, base⟩ Q)

def DArgs (lim : Nat → Nat) (w : World) (args : List D) (vs : Array Value) : Prop :=
  vs.size = args.length ∧ ∀ (i : Nat) x v, args[i]? = some x → vs[i]? = some v → DRep lim w x v
/-- A call of data, with data for a result. -/
def ACall (P : Program) (f : FuncId) (args : List D) (q : D → Prop) : Prop :=
  ∀ lim w vs, Globs w.heap.size w → DArgs lim w args vs → Calls P f vs w fun e w' => ∃ v r lim', e = .returned v ∧ q r ∧ DRep lim' w' r v ∧ Evo lim w lim' w' ∧ Below w.heap.size w w' ∧ ∀ b, b < w.heap.size → lim' b = lim b

theorem ACall.mono {P : Program} {f : FuncId} {args : List D} {q q' : D → Prop} (h : ACall P f args q) (hq : ∀ x, q x → q' x) : ACall P f args q' :=
  fun lim w vs hg ha => (h lim w vs hg ha).mono fun e w' ⟨v, r, l, a, b, c⟩ => ⟨v, r, l, a, hq r b, c⟩
theorem ACallS.mono {P : Program} {f : FuncId} {args : List EV} {st : St} {Q Q' : EV → St → Prop} (h : ACallS P f args st Q) (hq : ∀ x s, Q x s → Q' x s) : ACallS P f args st Q' :=
  fun g w base vs hi ha => (h g w base vs hi ha).mono fun e w' ⟨v, r, s, g', a, b, c⟩ => ⟨v, r, s, g', a, hq r s b, c⟩

def argEnv : Nat → List EV → Env
  | _, [] => []
  | i, x :: l => (i, x) :: argEnv (i + 1) l
theorem argEnv_lookup : ∀ (l : List EV) (i j : Nat) (y : EV), lookup j (argEnv i l) = some y → ∃ k, j = i + k ∧ l[k]? = some y
  | [], i, j, y, h => by simp [argEnv, lookup] at h
  | x :: l, i, j, y, h => by
    unfold argEnv lookup at h
    cases hb : Nat.beq j i with
    | true =>
      rw [hb] at h
      simp only [Option.some.injEq] at h
      exact ⟨0, Nat.eq_of_beq_eq_true hb, by simp [h]⟩
    | false =>
      rw [hb] at h
      obtain ⟨k, h1, h2⟩ := argEnv_lookup l (i + 1) j y h
      exact ⟨k + 1, by omega, by simpa using h2⟩

section enter
variable {P : Program} {f : FuncId} {fn : Func} {c : Code} {N : Nat}
theorem ACallS.enter {args : List EV} {st : St} {Q : EV → St → Prop} (hf : P.funcs[f]? = some fn) (hb : fn.body = some c) (hN : fn.ntmps = N) (hl : Nat.ble args.length N = true)
    (h : ∀ S : Start, S.st = st → ARun P f N S Q [.code c] (argEnv 0 args) st) : ACallS P f args st Q := by
  intro g w base vs hi ha
  have hl' := Nat.le_of_ble_eq_true hl
  have hsz := ha.1
  refine FWP.calls hf hb ?_
  refine h ⟨g, w, st, base⟩ rfl g w _ hi (Hist.refl ⟨g, w, st, base⟩) ?_ (by simp [hN]; omega)
  intro j y hy
  obtain ⟨k, rfl, hk⟩ := argEnv_lookup args 0 j y hy
  have hk' := (List.getElem?_eq_some_iff.1 hk).1
  refine ⟨vs[k]'(by omega), ?_, ha.2 k y _ hk (by simp [hsz, hk'])⟩
  rw [Nat.zero_add, Array.getElem?_append_left (by omega)]
  simp [hsz, hk']

def QD (q : D → Prop) (r : EV) (_ : St) : Prop := ∃ x, EVle r (.d x) ∧ q x
theorem ACall.of {args : List D} {q : D → Prop} (h : ACallS P f (args.map EV.d) ⟨[], []⟩ (QD q)) : ACall P f args q := by
  intro lim w vs hglob ha
  have hinv : Inv ⟨lim, fun _ => 0, fun _ => .nilFunc⟩ w.heap.size w ⟨[], []⟩ :=
    ⟨Nat.le_refl _, fun o ty cs h => by simp at h, fun o es h => by simp at h, fun o x h => by simp at h, fun o o' _ ⟨x, h, _⟩ => by simp at h, fun t e sz n h => by simp at h, fun t t' x x' b _ h => by simp at h, fun t x o h => by simp at h, hglob, fun t e sz n rows h => by simp at h⟩
  refine (h _ w w.heap.size vs hinv ⟨by simpa using ha.1, fun i x v hx hv => ?_⟩).mono ?_
  · rw [List.getElem?_map] at hx
    cases hy : args[i]? with
    | none => rw [hy] at hx; simp at hx
    | some y =>
      rw [hy] at hx
      simp only [Option.map_some, Option.some.injEq] at hx
      subst hx
      exact .d _ _ (ha.2 i y v hy hv)
  · rintro e w' ⟨v, r, st', g', rfl, ⟨x, hle, hq⟩, hr, hi', hh⟩
    cases hle _ _ _ _ hr with
    | d _ _ hd => exact ⟨v, x, g'.lim, rfl, hq, hd, hh.sevo.evo, hh.below, hh.lim⟩
theorem ACall.enter {args : List D} {q : D → Prop} (hf : P.funcs[f]? = some fn) (hb : fn.body = some c) (hN : fn.ntmps = N) (hl : Nat.ble args.length N = true)
    (h : ∀ S : Start, ARun P f N S (QD q) [.code c] (argEnv 0 (args.map EV.d)) ⟨[], []⟩) : ACall P f args q :=
  .of (.enter hf hb hN (by simpa using hl) fun S _ => h S)
end enter

theorem QD.d {q : D → Prop} {x : D} {st : St} (h : q x) : QD q (.d x) st := ⟨x, .rfl' _, h⟩
theorem QD.tsl {q : D → Prop} {sz : Nat} {rows : List (List D)} {t : Nat} {st : St} (h : q (.sl sz rows)) : QD q (.tsl sz rows t) st := ⟨_, .tsl _ _ _, h⟩
theorem EVle.tup2 {a b : EV} {x y : D} (h1 : EVle a (.d x)) (h2 : EVle b (.d y)) : EVle (.tup [a, b]) (.d (.tup [x, y])) := by
  intro g w st v h
  cases h with
  | tup _ vs hs h =>
    have e0 : vs[0]? = some (vs[0]'(by simp at hs; omega)) := by simp at hs; simp [hs]
    have e1 : vs[1]? = some (vs[1]'(by simp at hs; omega)) := by simp at hs; simp [hs]
    refine .d _ _ (.tup _ vs (by simpa using hs) ?_)
    intro i c u hc hu
    match i with
    | 0 =>
      simp at hc; subst hc
      cases h1 _ _ _ _ (h 0 a u rfl hu) with | d _ _ hd => exact hd
    | 1 =>
      simp at hc; subst hc
      cases h2 _ _ _ _ (h 1 b u rfl hu) with | d _ _ hd => exact hd
    | n + 2 => simp at hc
theorem EVle.tup3 {a b c : EV} {x y z : D} (h1 : EVle a (.d x)) (h2 : EVle b (.d y)) (h3 : EVle c (.d z)) : EVle (.tup [a, b, c]) (.d (.tup [x, y, z])) := by
  intro g w st v h
  cases h with
  | tup _ vs hs h =>
    refine .d _ _ (.tup _ vs (by simpa using hs) ?_)
    intro i q u hc hu
    match i with
    | 0 =>
      simp at hc; subst hc
      cases h1 _ _ _ _ (h 0 a u rfl hu) with | d _ _ hd => exact hd
    | 1 =>
      simp at hc; subst hc
      cases h2 _ _ _ _ (h 1 b u rfl hu) with | d _ _ hd => exact hd
    | 2 =>
      simp at hc; subst hc
      cases h3 _ _ _ _ (h 2 c u rfl hu) with | d _ _ hd => exact hd
    | n + 3 => simp at hc
theorem QD.tup2 {q : D → Prop} {a b : EV} {x y : D} {st : St} (h1 : EVle a (.d x)) (h2 : EVle b (.d y)) (h : q (.tup [x, y])) : QD q (.tup [a, b]) st := ⟨_, .tup2 h1 h2, h⟩
theorem QD.tup3 {q : D → Prop} {a b c : EV} {x y z : D} {st : St} (h1 : EVle a (.d x)) (h2 : EVle b (.d y)) (h3 : EVle c (.d z)) (h : q (.tup [x, y, z])) : QD q (.tup [a, b, c]) st := ⟨_, .tup3 h1 h2 h3, h⟩

def evos (env : Env) : List Operand → Option (List EV)
  | [] => some []
  | x :: l => match evo env x, evos env l with
    | some e, some r => some (e :: r)
    | _, _ => none
theorem evos_rep {g : Ghost} {w : World} {st : St} {env : Env} {tmps : Array Value} (h : EnvRep g w st env tmps) : ∀ (l : List Operand) (es : List EV), evos env l = some es →
    l.length = es.length ∧ ∀ (i : Nat) e v, es[i]? = some e → (l.map (Act.eval ⟨tmps, []⟩))[i]? = some v → EVRep g w st e v
  | [], es, hx => by simp [evos] at hx; subst hx; simp
  | x :: l, es, hx => by
    unfold evos at hx
    split at hx
    · rename_i e r h1 h2
      simp only [Option.some.injEq] at hx
      subst hx
      obtain ⟨k1, k2⟩ := evos_rep h l r h2
      refine ⟨by simp [k1], fun i e' v he hv => ?_⟩
      cases i with
      | zero =>
        simp at he hv
        subst he; subst hv
        exact evo_rep h h1
      | succ i => exact k2 i e' v (by simpa using he) (by simpa using hv)
    · cases hx
def toD : EV → Option D
  | .d x => some x
  | .tsl sz rows _ => some (.sl sz rows)
  | _ => none
theorem toD_le {e : EV} {x : D} (h : toD e = some x) : EVle e (.d x) := by
  cases e <;> simp [toD] at h
  · subst h; exact .rfl' _
  · subst h; exact .tsl _ _ _
def toDs : List EV → Option (List D)
  | [] => some []
  | e :: l => match toD e, toDs l with
    | some x, some r => some (x :: r)
    | _, _ => none
theorem toDs_get : ∀ (es : List EV) (ds : List D), toDs es = some ds → es.length = ds.length ∧ ∀ (i : Nat) d, ds[i]? = some d → ∃ e, es[i]? = some e ∧ EVle e (.d d)
  | [], ds, h => by simp [toDs] at h; subst h; simp
  | e :: l, ds, h => by
    unfold toDs at h
    split at h
    · rename_i x r h1 h2
      simp only [Option.some.injEq] at h
      subst h
      obtain ⟨k1, k2⟩ := toDs_get l r h2
      refine ⟨by simp [k1], fun i d hd => ?_⟩
      cases i with
      | zero => simp at hd; subst hd; exact ⟨e, rfl, toD_le h1⟩
      | succ i => simpa using k2 i d (by simpa using hd)
    · cases h

section call
variable {P : Program} {f : FuncId} {N : Nat} {S : Start} {Q : EV → St → Prop} {k : List Item} {env : Env} {st : St} {ops rest : List Oper}
  {d : Option Tmp} {ty : TypeId} {pos : String} {after : Array Edge}

/-- What a function's body must have for a call to enter it. -/
def Enters (P : Program) (f : FuncId) : Prop := ∃ fn, P.funcs[f]? = some fn ∧ (fn.name == "runtime.NumGoroutine") = false ∧ fn.body.isNone = false
theorem callFunc_run {f' : FuncId} (h : Enters P f') (args : Array Value) (w : World) : (callFunc f' args).run P w = .ok (.enter f' args) w := by
  obtain ⟨fn, h1, h2, h3⟩ := h
  have h2' : fn.name ≠ "runtime.NumGoroutine" := by simpa using h2
  have h3' : fn.body ≠ none := by intro e; rw [e] at h3; cases h3
  simp [callFunc, h1, h2', h3']
theorem callS_run {f' : FuncId} {l : List Operand} {ts : Array TypeId} {ρ : Operand → Value} (h : Enters P f') (w : World) (hf : ρ (.func f') = .func (.func f') #[] #[]) {gd : Option (Nat × Bool)} :
    (execOp ρ ⟨d, .call ⟨.value (.func f'), l.toArray, ts⟩, ty, pos, after, gd⟩).run P w = .ok (.enter f' (l.map ρ).toArray) w := by
  simp [execOp, resolve, hf, Deferred.ofValue, invoke, callFunc_run h]
theorem callC_run {f' : FuncId} {l : List Operand} {ts : Array TypeId} {ρ : Operand → Value} {x : Operand} {vs : Array Value} (h : Enters P f') (w : World) (hf : ρ x = .func (.func f') #[] vs) {gd : Option (Nat × Bool)} :
    (execOp ρ ⟨d, .call ⟨.value x, l.toArray, ts⟩, ty, pos, after, gd⟩).run P w = .ok (.enter f' ((l.map ρ).toArray ++ vs)) w := by
  simp [execOp, resolve, hf, Deferred.ofValue, invoke, callFunc_run h]

theorem DArgs.of {g : Ghost} {w : World} {tmps : Array Value} {l : List Operand} {es : List EV} {ds : List D} (he : EnvRep g w st env tmps) (h1 : evos env l = some es) (h2 : toDs es = some ds) :
    DArgs g.lim w ds (l.map (Act.eval ⟨tmps, []⟩)).toArray := by
  obtain ⟨k1, k2⟩ := evos_rep he l es h1
  obtain ⟨m1, m2⟩ := toDs_get es ds h2
  refine ⟨by simp [k1, m1], fun i x v hx hv => ?_⟩
  obtain ⟨e, he', hle⟩ := m2 i x hx
  cases hle _ _ _ _ (k2 i e v he' (by simpa using hv)) with
  | d _ _ h => exact h

/-- A call by a contract on data. -/
theorem AOps.call {f' : FuncId} {l : List Operand} {ts : Array TypeId} {es : List EV} {ds : List D} {q : D → Prop} (hen : Enters P f') (hd : dstOk N d = true) (h1 : evos env l = some es) (h2 : toDs es = some ds)
    (hc : ACall P f' ds q) (hk : ∀ x, q x → AOps P f N S Q ops rest k (env.put d (.d x)) st) :
    AOps P f N S Q ops (⟨d, .call ⟨.value (.func f'), l.toArray, ts⟩, ty, pos, after, none⟩ :: rest) k env st := by
  intro i hi g w tmps hinv hh he hn
  have ho : ops.toArray[i]? = some ⟨d, .call ⟨.value (.func f'), l.toArray, ts⟩, ty, pos, after, none⟩ := by simpa using (hi 0).symm
  rw [List.length_cons, range'_succ']
  refine FWP.call ho (by simp [Region.wanted]) (callS_run hen w rfl) ?_
  refine (hc g.lim w _ (hinv.glob.mono hinv.base) (.of he h1 h2)).mono ?_
  rintro e w' ⟨v, r, lim', rfl, hq, hr, hev, hb, hl⟩
  obtain ⟨hinv', hs⟩ := hinv.grow (g' := { g with lim := lim' }) hb hl rfl rfl
  subst hn
  exact ⟨v, rfl, hk r hq (i + 1) (fun j => by have := hi (j + 1); simpa [Nat.add_assoc, Nat.add_comm 1 j] using this) _ w' _ hinv' (hh.step hs) (envPut (he.mono hs.sevo) hd (.d _ _ hr)) size_put⟩

/-- A call by a contract on the state. -/
theorem AOps.callS {f' : FuncId} {l : List Operand} {ts : Array TypeId} {es : List EV} {q : EV → St → Prop} (hen : Enters P f') (hd : dstOk N d = true) (h1 : evos env l = some es)
    (hc : ACallS P f' es st q) (hk : ∀ x st', q x st' → AOps P f N S Q ops rest k (env.put d x) st') :
    AOps P f N S Q ops (⟨d, .call ⟨.value (.func f'), l.toArray, ts⟩, ty, pos, after, none⟩ :: rest) k env st := by
  intro i hi g w tmps hinv hh he hn
  have ho : ops.toArray[i]? = some ⟨d, .call ⟨.value (.func f'), l.toArray, ts⟩, ty, pos, after, none⟩ := by simpa using (hi 0).symm
  rw [List.length_cons, range'_succ']
  refine FWP.call ho (by simp [Region.wanted]) (callS_run hen w rfl) ?_
  obtain ⟨k1, k2⟩ := evos_rep he l es h1
  refine (hc g w S.base _ hinv ⟨by simp [k1], fun j x v hx hv => k2 j x v hx (by simpa using hv)⟩).mono ?_
  rintro e w' ⟨v, r, st', g', rfl, hq, hr, hinv', hh'⟩
  have hs : Step S.base g w st g' w' st' := hh'.toStep
  subst hn
  exact ⟨v, rfl, hk r st' hq (i + 1) (fun j => by have := hi (j + 1); simpa [Nat.add_assoc, Nat.add_comm 1 j] using this) g' w' _ hinv' (hh.step hs) (envPut (he.mono hs.sevo) hd hr) size_put⟩

/-- A closure's call. -/
theorem AOps.callC {f' : FuncId} {l : List Operand} {ts : Array TypeId} {es cs : List EV} {x : Operand} {q : EV → St → Prop} (hen : Enters P f') (hd : dstOk N d = true) (hx : evo env x = some (.clo f' cs)) (h1 : evos env l = some es)
    (hc : ACallS P f' (es ++ cs) st q) (hk : ∀ x st', q x st' → AOps P f N S Q ops rest k (env.put d x) st') :
    AOps P f N S Q ops (⟨d, .call ⟨.value x, l.toArray, ts⟩, ty, pos, after, none⟩ :: rest) k env st := by
  intro i hi g w tmps hinv hh he hn
  have ho : ops.toArray[i]? = some ⟨d, .call ⟨.value x, l.toArray, ts⟩, ty, pos, after, none⟩ := by simpa using (hi 0).symm
  rw [List.length_cons, range'_succ']
  have hfx := evo_rep he hx
  generalize hval : Act.eval ⟨tmps, []⟩ x = val at hfx
  cases hfx with
  | clo _ _ vs hvs hcl =>
  refine FWP.call ho (by simp [Region.wanted]) (callC_run hen w hval) ?_
  obtain ⟨k1, k2⟩ := evos_rep he l es h1
  have harg : ArgsRep g w st (es ++ cs) ((l.map (Act.eval ⟨tmps, []⟩)).toArray ++ vs) := by
    refine ⟨by simp [k1, hvs], fun j y v hy hv => ?_⟩
    by_cases hj : j < es.length
    · rw [List.getElem?_append_left hj] at hy
      rw [Array.getElem?_append_left (by simpa [k1] using hj)] at hv
      exact k2 j y v hy (by simpa using hv)
    · rw [List.getElem?_append_right (by omega)] at hy
      rw [Array.getElem?_append_right (by simp [k1]; omega)] at hv
      exact hcl (j - es.length) y v hy (by simpa [k1] using hv)
  refine (hc g w S.base _ hinv harg).mono ?_
  rintro e w' ⟨v, r, st', g', rfl, hq, hr, hinv', hh'⟩
  have hs : Step S.base g w st g' w' st' := hh'.toStep
  subst hn
  exact ⟨v, rfl, hk r st' hq (i + 1) (fun j => by have := hi (j + 1); simpa [Nat.add_assoc, Nat.add_comm 1 j] using this) g' w' _ hinv' (hh.step hs) (envPut (he.mono hs.sevo) hd hr) size_put⟩
end call
end Go.Abs
