/- Our own texts G12 G13 G14 G15 LTys LF of this seat in one. -/
import Derived.Test.YtpdanklncjopoaaZ1
import Derived.Test.YtpdanklncjopoaaRows
/- Literals of maps: the entries come in whatever order. -/
set_option linter.unusedSimpArgs false
set_option linter.unusedVariables false
set_option linter.unusedSectionVars false
namespace Go.Abs
open Go.RowKit
section lit
variable {P : Program} {f : FuncId} {N : Nat} {S : Start} {Q : EV → St → Prop} {k : List Item} {κ : Type} [BEq κ] [LawfulBEq κ] {key : TypeId}
theorem ARun.split {todo : List Item} {env : Env} {st : St} (b : Bool) (ht : b = true → ARun P f N S Q todo env st) (hf : b = false → ARun P f N S Q todo env st) : ARun P f N S Q todo env st := by
  cases hb : b with
  | true => exact ht hb
  | false => exact hf hb

/-- The operations of a map's literal, one by one. -/
def MStep (P : Program) (N : Nat) (l : List Oper) (m : Nat) (t : TypeId) (K : KeyF P key κ) (ins : List (Nat × κ × EV)) (st0 : St) (i : Nat) (o : Oper) (env : Env) (x : EV) : Prop :=
  dstOk N o.dst = true ∧
  (((Nat.beq i m || ins.any fun e => Nat.beq e.1 i) = false ∧ ∀ st, (st = st0 ∨ ∃ es, st = st0.add (.map es)) → OpAny P l env st o x) ∨
   (i = m ∧ o.guard = none ∧ x = .mp st0.objs.length ∧ ∃ t, o.op = .makeMap t none) ∨
   (∃ kk v dk a b c, (i, kk, v) ∈ ins ∧ x = .d .any ∧ o.guard = none ∧ o.op = .insert t a b c ∧ evo env a = some (.mp st0.objs.length) ∧ evo env b = some (.d dk) ∧ (∀ lim w v, DRep lim w dk v → v = K.ke kk) ∧ evo env c = some v ∧
      ((masks l []).getD i 0).testBit m = true))
def MChain (P : Program) (N : Nat) (l : List Oper) (m : Nat) (t : TypeId) (K : KeyF P key κ) (ins : List (Nat × κ × EV)) (st0 : St) : Nat → List Oper → List EV → Env → Prop
  | _, [], [], _ => True
  | i, o :: os, x :: xs, env => MStep P N l m t K ins st0 i o (renv l o env) x ∧ MChain P N l m t K ins st0 (i + 1) os xs (env.put o.dst x)
  | _, _, _, _ => False
theorem MChain.length {l : List Oper} {m : Nat} {t : TypeId} {K : KeyF P key κ} {ins : List (Nat × κ × EV)} {st0 : St} : ∀ {i : Nat} {os : List Oper} {xs : List EV} {env : Env}, MChain P N l m t K ins st0 i os xs env → xs.length = os.length
  | _, [], [], _, _ => rfl
  | _, o :: os, x :: xs, env, h => by simp [MChain.length h.2]
  | _, [], x :: xs, _, h => h.elim
  | _, o :: os, [], _, h => h.elim
theorem MChain.get {l : List Oper} {m : Nat} {t : TypeId} {K : KeyF P key κ} {ins : List (Nat × κ × EV)} {st0 : St} : ∀ {i : Nat} {os : List Oper} {xs : List EV} {env : Env} {j : Nat} {o : Oper}, MChain P N l m t K ins st0 i os xs env → os[j]? = some o →
    ∃ x, xs[j]? = some x ∧ MStep P N l m t K ins st0 (i + j) o (renv l o (putAll env (os.take j) (xs.take j))) x
  | i, o' :: os, x :: xs, env, 0, o, h, ho => by
    simp at ho; subst ho
    exact ⟨x, rfl, by simpa [putAll] using h.1⟩
  | i, o' :: os, x :: xs, env, j + 1, o, h, ho => by
    obtain ⟨y, h1, h2⟩ := MChain.get (j := j) h.2 (by simpa using ho)
    exact ⟨y, by simpa using h1, by simpa [putAll, Nat.add_assoc, Nat.add_comm 1 j] using h2⟩
  | i, [], xs, env, j, o, h, ho => by simp at ho
  | i, o' :: os, [], _, _, _, h, _ => h.elim

theorem filter_more {β : Type} {L : Nat → Bool} {i : Nat} {x : β} : ∀ {ins : List (Nat × β)}, (ins.map (·.1)).Nodup → (i, x) ∈ ins → L i = false →
    (ins.filter fun e => e.1 == i || L e.1).Perm ((i, x) :: ins.filter fun e => L e.1)
  | [], _, h, _ => by cases h
  | e :: ins, hn, h, hL => by
    simp only [List.map_cons, List.nodup_cons] at hn
    have other : ∀ e' ∈ ins, e'.1 ≠ e.1 := fun e' he' hee => hn.1 (hee ▸ List.mem_map_of_mem (f := (·.1)) he')
    rcases List.mem_cons.1 h with he | he
    · subst he
      have hrest : (ins.filter fun e => e.1 == i || L e.1) = ins.filter fun e => L e.1 := List.filter_congr fun e' he' => by
        have := other e' he'
        simp [this]
      rw [List.filter_cons, List.filter_cons]
      simp [hL, hrest]
    · have ih := filter_more hn.2 he hL
      have hei : e.1 ≠ i := fun hh => other (i, x) he hh.symm
      rw [List.filter_cons, List.filter_cons]
      have h1 : (e.1 == i || L e.1) = L e.1 := by simp [hei]
      rw [h1]
      cases L e.1 with
      | true => simp only [if_true]; exact (ih.cons e).trans (.swap ..)
      | false => simpa using ih

theorem ARun.drawnMF {id : Nat} {l : List Oper} {env : Env} {st : St} {t e : TypeId} (p m : Nat) (K : KeyF P key κ) (ins : List (Nat × κ × EV)) (hm : P.follows .mixedOrders = true) (hB : drawB l p = true) (hu : P.underlying t = some (.map key e))
    (hmp : m < p) (hip : ∀ e ∈ ins, e.1 < p) (hmi : ∀ e ∈ ins, e.1 ≠ m) (hn1 : (ins.map (·.1)).Nodup) (hn2 : (ins.map (·.2.1)).Nodup) {xs : List EV} (hch : MChain P N l m t K ins st 0 (l.take p) xs env)
    (hsuf : ∀ es, es.Perm (ins.map (·.2)) → AOps P f N S Q l (l.drop p) k (putAll env (l.take p) xs) (st.add (.map (encE K.ke es)))) : ARun P f N S Q (.code (.region id l.toArray true) :: k) env st := by
  have hp : p ≤ l.length := by
    simp only [drawB, Bool.and_eq_true] at hB
    simpa using hB.2
  have hxp : xs.length = p := by rw [hch.length]; simp; omega
  refine ARun.drawnF p xs (fun L s => (L m = false ∧ s = st ∧ ∀ e ∈ ins, L e.1 = false) ∨ (L m = true ∧ ∃ es, s = st.add (.map (encE K.ke es)) ∧ es.Perm ((ins.filter fun e => L e.1).map (·.2)))) hm hB hxp (.inl ⟨rfl, rfl, fun _ _ => rfl⟩) ?_ ?_
  · intro L s i o hi ho hLi hmask hF
    obtain ⟨x, hx, hd, hst⟩ := hch.get (j := i) (o := o) (by rw [List.getElem?_take, if_pos hi]; exact ho)
    rw [Nat.zero_add] at hst
    refine ⟨hd, ?_⟩
    rcases hst with ⟨hne, hop⟩ | ⟨him, hg, hxe, t', hop⟩ | ⟨kk, v, dk, a, b, c, hin, hxe, hg, hop, ha, hb, hk, hc, hbit⟩
    · simp only [Bool.or_eq_false_iff] at hne
      have him : i ≠ m := fun e => by rw [e, Nat.beq_refl] at hne; cases hne.1
      have hie : ∀ e ∈ ins, e.1 ≠ i := fun e he hh => by
        have := List.any_eq_false.1 hne.2 e he
        rw [hh, Nat.beq_refl] at this
        exact this rfl
      refine ⟨x, s, hx, .inl ⟨rfl, hop s ?_⟩, ?_⟩
      · rcases hF with ⟨_, h, _⟩ | ⟨_, es, h, _⟩
        · exact .inl h
        · exact .inr ⟨_, h⟩
      · rcases hF with ⟨h1, h2, h3⟩ | ⟨h1, es, h2, h3⟩
        · exact .inl ⟨by simp [Ne.symm him, h1], h2, fun e he => by simp [hie e he, h3 e he]⟩
        · refine .inr ⟨by simp [h1], es, h2, ?_⟩
          have : (ins.filter fun e => e.1 == i || L e.1) = ins.filter fun e => L e.1 := List.filter_congr fun e he => by simp [hie e he]
          rw [this]; exact h3
    · subst him
      rcases hF with ⟨h1, h2, h3⟩ | ⟨h1, _⟩
      · subst h2
        refine ⟨x, s.add (.map []), hx, .inr (.inl ⟨hg, ?_⟩), .inr ⟨by simp, [], rfl, ?_⟩⟩
        · obtain ⟨d, op, ty, pos, after, gd⟩ := o
          simp only at hop hg
          subst hop; subst hxe
          exact v_makeMap
        · have : (ins.filter fun e => e.1 == i || L e.1) = [] := List.filter_eq_nil_iff.2 fun e he => by simp [hmi e he, h3 e he]
          rw [this]; exact .nil
      · rw [hLi] at h1; cases h1
    · have hLm := hmask m hbit
      rcases hF with ⟨h1, _⟩ | ⟨h1, es, h2, h3⟩
      · rw [hLm] at h1; cases h1
      · have hkn : kk ∉ es.map (·.1) := by
          intro hkin
          have h4 := (h3.map (·.1)).mem_iff.1 hkin
          obtain ⟨e1, he1, hk1⟩ := List.mem_map.1 h4
          obtain ⟨e2, he2, rfl⟩ := List.mem_map.1 he1
          obtain ⟨he3, hL3⟩ := List.mem_filter.1 he2
          have huniq : ∀ {ins : List (Nat × κ × EV)}, (ins.map (·.2.1)).Nodup → ∀ a ∈ ins, ∀ b ∈ ins, a.2.1 = b.2.1 → a = b := by
            intro ins
            induction ins with
            | nil => intro _ a ha; cases ha
            | cons c r ih =>
              intro hn a ha b hb hab
              simp only [List.map_cons, List.nodup_cons] at hn
              rcases List.mem_cons.1 ha with ha' | ha' <;> rcases List.mem_cons.1 hb with hb' | hb'
              · rw [ha', hb']
              · exact absurd (by rw [← ha', hab]; exact List.mem_map_of_mem (f := (·.2.1)) hb') hn.1
              · exact absurd (by rw [← hb', ← hab]; exact List.mem_map_of_mem (f := (·.2.1)) ha') hn.1
              · exact ih hn.2 a ha' b hb' hab
          have := huniq hn2 e2 he3 (i, kk, v) hin hk1
          rw [this] at hL3
          rw [hLi] at hL3
          cases hL3
        have haset : aset es kk v = es ++ [(kk, v)] := by unfold aset; rw [afind_none hkn]
        refine ⟨x, st.add (.map (encE K.ke (es ++ [(kk, v)]))), hx, .inr (.inr ⟨hg, hxe, ?_⟩), .inr ⟨by simp [hLm], _, rfl, ?_⟩⟩
        · obtain ⟨d, op, ty, pos, after, gd⟩ := o
          simp only at hop hg
          subst hop; subst h2
          have := u_insertE (base := S.base) (l := es) (d := d) (ty := ty) (pos := pos) (after := after) (gd := gd) (z := c) (st := st.add (.map (encE K.ke es))) K hu ha (by simp [St.add]) hb hk hc
          rw [haset] at this
          have hset : (st.add (.map (encE K.ke es))).set st.objs.length (.map (encE K.ke (es ++ [(kk, v)]))) = st.add (.map (encE K.ke (es ++ [(kk, v)]))) := by
            simp [St.add, St.set]
          rw [hset] at this
          exact this
        · have h5 := filter_more hn1 hin hLi
          have h6 := h5.map (·.2)
          refine List.Perm.trans ?_ h6.symm
          simp only [List.map_cons]
          exact (List.perm_append_singleton _ _).trans (h3.cons _)
  · intro L s hL hF
    rcases hF with ⟨h1, _⟩ | ⟨h1, es, h2, h3⟩
    · rw [hL m hmp] at h1; cases h1
    · subst h2
      have : (ins.filter fun e => L e.1) = ins := List.filter_eq_self.2 fun e he => hL _ (hip e he)
      rw [this] at h3
      exact hsuf es h3

/-- What is left of the operations of a map's literal. -/
def MOps (P : Program) (f : FuncId) (N : Nat) (S : Start) (Q : EV → St → Prop) (l : List Oper) (p m : Nat) (t : TypeId) (K : KeyF P key κ) (ins : List (Nat × κ × EV)) (i : Nat) (os : List Oper) (k : List Item) (env : Env) (st : St) : Prop :=
  ∃ xs, MChain P N l m t K ins st i os xs env ∧ ∀ es, es.Perm (ins.map (·.2)) → AOps P f N S Q l (l.drop p) k (putAll env os xs) (st.add (.map (encE K.ke es)))
variable {l : List Oper} {p m : Nat} {t : TypeId} {K : KeyF P key κ} {ins : List (Nat × κ × EV)} {i : Nat} {os : List Oper} {env : Env} {st : St} {d : Option Tmp} {op : Op} {ty : TypeId} {pos : String} {after : Array Edge} {x : EV}
theorem MOps.nil (h : ∀ es, es.Perm (ins.map (·.2)) → AOps P f N S Q l (l.drop p) k env (st.add (.map (encE K.ke es)))) : MOps P f N S Q l p m t K ins i [] k env st := ⟨[], trivial, h⟩
theorem MOps.g (h : ∀ s, (s = st ∨ ∃ es, s = st.add (.map es)) → OpG P (renv l ⟨d, op, ty, pos, after, none⟩ env) s ⟨d, op, ty, pos, after, none⟩ x) (hb : (Nat.beq i m || ins.any fun e => Nat.beq e.1 i) = false) (hd : dstOk N d = true)
    (hk : MOps P f N S Q l p m t K ins (i + 1) os k (env.put d x) st) : MOps P f N S Q l p m t K ins i (⟨d, op, ty, pos, after, none⟩ :: os) k env st := by
  obtain ⟨xs, h1, h2⟩ := hk
  exact ⟨x :: xs, ⟨⟨hd, .inl ⟨hb, fun s hs => .inl ⟨rfl, h s hs⟩⟩⟩, h1⟩, h2⟩
theorem MOps.q (h : ∀ s, (s = st ∨ ∃ es, s = st.add (.map es)) → OpQ P (renv l ⟨d, op, ty, pos, after, none⟩ env) s ⟨d, op, ty, pos, after, none⟩ x) (hb : (Nat.beq i m || ins.any fun e => Nat.beq e.1 i) = false) (hd : dstOk N d = true)
    (hk : MOps P f N S Q l p m t K ins (i + 1) os k (env.put d x) st) : MOps P f N S Q l p m t K ins i (⟨d, op, ty, pos, after, none⟩ :: os) k env st := .g (fun s hs => (h s hs).g) hb hd hk
theorem MOps.make {t' : TypeId} (hi : i = m) (hd : dstOk N d = true) (hk : MOps P f N S Q l p m t K ins (i + 1) os k (env.put d (.mp st.objs.length)) st) :
    MOps P f N S Q l p m t K ins i (⟨d, .makeMap t' none, ty, pos, after, none⟩ :: os) k env st := by
  obtain ⟨xs, h1, h2⟩ := hk
  exact ⟨.mp st.objs.length :: xs, ⟨⟨hd, .inr (.inl ⟨hi, rfl, rfl, t', rfl⟩)⟩, h1⟩, h2⟩
theorem MOps.insE {a b c : Operand} {kk : κ} {v : EV} {dk : D} (j : Nat) (hin : ins[j]? = some (i, kk, v)) (ha : evo (renv l ⟨none, .insert t a b c, ty, pos, after, none⟩ env) a = some (.mp st.objs.length))
    (hb : evo (renv l ⟨none, .insert t a b c, ty, pos, after, none⟩ env) b = some (.d dk)) (hkk : ∀ lim w v, DRep lim w dk v → v = K.ke kk) (hc : evo (renv l ⟨none, .insert t a b c, ty, pos, after, none⟩ env) c = some v)
    (hbit : ((masks l []).getD i 0).testBit m = true) (hk : MOps P f N S Q l p m t K ins (i + 1) os k env st) : MOps P f N S Q l p m t K ins i (⟨none, .insert t a b c, ty, pos, after, none⟩ :: os) k env st := by
  obtain ⟨xs, h1, h2⟩ := hk
  exact ⟨.d .any :: xs, ⟨⟨rfl, .inr (.inr ⟨kk, v, dk, a, b, c, List.mem_of_getElem? hin, rfl, rfl, rfl, ha, hb, hkk, hc, hbit⟩)⟩, h1⟩, h2⟩
theorem ARun.drawnM {id : Nat} {e : TypeId} (p m : Nat) (K : KeyF P key κ) (ins : List (Nat × κ × EV)) (hm : P.follows .mixedOrders = true) (hB : drawB l p = true) (hu : P.underlying t = some (.map key e))
    (hmp : m < p) (hip : (ins.all fun e => decide (e.1 < p) && !Nat.beq e.1 m) = true) (hn1 : (ins.map (·.1)).Nodup) (hn2 : (ins.map (·.2.1)).Nodup) (h : MOps P f N S Q l p m t K ins 0 (l.take p) k env st) :
    ARun P f N S Q (.code (.region id l.toArray true) :: k) env st := by
  obtain ⟨xs, h1, h2⟩ := h
  have hip' : ∀ e ∈ ins, e.1 < p ∧ e.1 ≠ m := fun e he => by
    have := List.all_eq_true.1 hip e he
    simp only [Bool.and_eq_true, decide_eq_true_eq, Bool.not_eq_true'] at this
    exact ⟨this.1, fun hh => by rw [hh, Nat.beq_refl] at this; cases this.2⟩
  exact .drawnMF p m K ins hm hB hu hmp (fun e he => (hip' e he).1) (fun e he => (hip' e he).2) hn1 hn2 h1 h2
end lit
end Go.Abs

/- Structs as keys of maps. -/
set_option linter.unusedSimpArgs false
set_option linter.unusedVariables false
set_option linter.unusedSectionVars false
namespace Go.Abs
open Go.RowKit
theorem aggKey {lim : Nat → Nat} {w : World} {ds : List D} {vs : List Value} {v : Value} (h : DRep lim w (.agg ds) v) (he : exs ds = some vs) : v = .agg vs.toArray := by
  have hm := exs_map he
  subst hm
  cases h with
  | agg _ us hs ho hc =>
    congr 1
    apply Array.ext'
    apply List.ext_getElem?
    intro i
    simp only [List.length_map] at hs
    by_cases hi : i < vs.length
    · have h1 : us[i]? = some (us[i]'(by omega)) := Array.getElem?_eq_getElem (by omega)
      have h2 := hc i (.ex vs[i]) _ (by simp [hi]) h1
      rw [Array.getElem?_toList, h1, drep_ex h2]
      simp [hi]
    · rw [List.getElem?_eq_none (by simp; omega), List.getElem?_eq_none (by simpa using hi)]
section keys
variable {P : Program}
theorem sameBits_one {k : FK} {v : Value} (h : fkFits k v = true) (n : Nat) : Instr.sameBits n v v = true := by
  cases v <;> cases k <;> simp [fkFits] at h <;> simp [Instr.sameBits] <;> (rw [beq_toListBytes]; simp)
theorem sameBits_flat : ∀ {ks : List FK} {vs : List Value}, fitAll ks vs = true → ∀ n, (vs.zip vs).all (fun p => Instr.sameBits n p.1 p.2) = true
  | [], [], _, n => rfl
  | k :: ks, v :: vs, h, n => by
    simp only [fitAll, Bool.and_eq_true] at h
    simp only [List.zip_cons_cons, List.all_cons, sameBits_one h.1, sameBits_flat h.2, Bool.and_self]
  | [], _ :: _, h, _ => by cases h
  | _ :: _, [], h, _ => by cases h
theorem checkKey_one {t : TypeId} {k : FK} (h : fkOf (P.underlying t) = some k) {v : Value} (hv : fkFits k v = true) (b : Bool) (n : Nat) (w : World) : (Instr.checkKey b (n + 1) t v).run P w = .ok () w := by
  cases hd : P.underlying t with
  | none => rw [hd] at h; cases h
  | some dsc =>
    rw [hd] at h
    cases dsc <;> simp only [fkOf, Option.some.injEq, reduceCtorEq] at h <;> subst h <;> cases v <;> simp [fkFits] at hv <;> simp [Instr.checkKey, run_underlying hd]
theorem checkFields (b : Bool) (n : Nat) (w : World) (X : Array Value) : ∀ (fs : List Field) (k : Nat) (ks : List FK) (vs : List Value), flatFrom P k fs = some ks → fitAll ks vs = true → (∀ (j : Nat) v, vs[j]? = some v → X[k + j]? = some v) →
    (forIn fs PUnit.unit (fun f _ => do
      if f.name ≠ "_" then do
        Instr.checkKey b (n + 1) f.type (← part f.type X f.offset)
        pure (.yield PUnit.unit)
      else pure (.yield PUnit.unit)) : Sem PUnit).run P w = .ok PUnit.unit w
  | [], k, ks, vs, h, hv, hX => by simp
  | f :: fs, k, ks, vs, h, hv, hX => by
    unfold flatFrom at h
    split at h
    · rename_i kk ks' h1 h2 h3 h4
      simp only [Option.some.injEq] at h
      subst h
      match vs with
      | [] => cases hv
      | v :: vs =>
        simp only [fitAll, Bool.and_eq_true] at hv
        have ho := Nat.eq_of_beq_eq_true h1
        have hname : f.name ≠ "_" := of_decide_eq_true h2
        have px := part_one h3 (cs := X) (off := f.offset) (hX 0 v rfl |> fun h => by rw [ho]; simpa using h) w
        have pc := checkKey_one h3 hv.1 b n w
        have ih := checkFields b n w X fs (k + 1) ks' vs h4 hv.2 (fun j v hv => by have := hX (j + 1) v (by simpa using hv); rwa [show k + 1 + j = k + (j + 1) by omega])
        rw [List.forIn_cons]
        simp only [if_pos hname, Sem.run_bind, px, pc, Result.andThen_ok, Sem.run_pure]
        exact ih
    · cases h
def stKF {κ : Type} [BEq κ] [LawfulBEq κ] {key : TypeId} {fs : Array Field} {ks : List FK} (vals : κ → List Value) (hu : P.underlying key = some (.struct fs)) (hk : flatKinds P key = some ks) (hf : ∀ a, fitAll ks (vals a) = true)
    (he : ∀ a b, eqVs (vals a) (vals b) = (a == b)) : KeyF P key κ :=
  askKF (fun a => .agg (vals a).toArray) hu (fun _ _ => rfl) (fun a b w => by
      have := (eq_flat (P := P) hk (hf a) (hf b) w .eql (.const (.bool true)) (.const (.bool true))).2
      rw [he a b] at this
      exact this)
    (fun a => by
      have := sameBits_flat (hf a) 9999
      show Instr.sameBits (9999 + 1) _ _ = true
      simp only [Instr.sameBits]
      simpa using this)
    (fun a b w => by
      have hfl : flatFrom P 0 fs.toList = some ks := by
        unfold flatKinds at hk
        rw [hu] at hk
        simp only at hk
        split at hk
        · cases hk
        · exact hk
      have := checkFields (P := P) b 9998 w (vals a).toArray fs.toList 0 ks (vals a) hfl (hf a) (fun j v hv => by simpa using hv)
      show (Instr.checkKey b (9999 + 1) key _).run P w = .ok () w
      unfold Instr.checkKey
      simp only [Sem.run_bind, run_underlying hu, Result.andThen_ok]
      rw [← Array.forIn_toList, show (9999 : Nat) = 9998 + 1 from rfl, this]
      rfl)
end keys
end Go.Abs

/- Regions that may come in any order: the orders told by lists; what turns the state comes in a known order; parts of a state renamed. -/
set_option linter.unusedSimpArgs false
set_option linter.unusedVariables false
set_option linter.unusedSectionVars false
namespace Go.Abs
open Go.RowKit
/-- A list of the first p operations that keeps to what must have come ahead. -/
structure Sched (l : List Oper) (p : Nat) (σ : List Nat) : Prop where
  nodup : σ.Nodup
  mem : ∀ i, i ∈ σ ↔ i < p
  mask : ∀ pre i post, σ = pre ++ i :: post → ∀ j, ((masks l []).getD i 0).testBit j = true → j ∈ pre
theorem lin_main {l : List Oper} {p : Nat} (hp : p ≤ l.length)
    (hord : ∀ i, p ≤ i → i < l.length → ∀ j, j < i → ((masks l []).getD i 0).testBit j = true)
    (hacyc : ∀ (i : Nat) o, l[i]? = some o → ∀ e ∈ o.after, Region.binds .any e = true → e.on < i) :
    ∀ (cnt fuel t : Nat) (listed : Array Bool), listed.size = l.length → Closed l listed → (∀ i, p ≤ i → i < l.length → listed.getD i true = false) →
      (((List.range p).filter fun i => !listed.getD i true).length = cnt) → cnt + (l.length - p) ≤ fuel →
      ∃ σ : List Nat, Region.linearise.go .any l.toArray fuel t listed [] = σ ++ List.range' p (l.length - p) ∧ σ.Nodup ∧ (∀ i, i ∈ σ ↔ i < p ∧ listed.getD i true = false) ∧
        ∀ pre i post, σ = pre ++ i :: post → ∀ j, ((masks l []).getD i 0).testBit j = true → j ∈ pre ∨ listed.getD j false = true := by
  intro cnt
  induction cnt with
  | zero =>
    intro fuel t listed hs hcl hsu hcnt hfuel
    have hall : ∀ i, i < p → listed.getD i true = true := by
      intro i hi
      have h0 := List.eq_nil_of_length_eq_zero hcnt
      have hn : i ∉ (List.range p).filter fun i => !listed.getD i true := by rw [h0]; simp
      rw [List.mem_filter, List.mem_range] at hn
      cases hb : listed.getD i true with
      | true => rfl
      | false => exact absurd ⟨hi, by simp [hb]⟩ hn
    have hgo := go_suffix hord hacyc fuel t p listed (Nat.le_refl _) hp (by omega) hs (fun i hi => by
      by_cases h : i < p
      · rw [hall i h]; simp [h]
      · rw [hsu i (by omega) hi]; simp [h])
    refine ⟨[], by rw [hgo]; rfl, List.nodup_nil, fun i => ⟨fun h => (by cases h), fun h => ?_⟩, fun pre i post h => by simp at h⟩
    rw [hall i h.1] at h; cases h.2
  | succ cnt ih =>
    intro fuel t listed hs hcl hsu hcnt hfuel
    obtain ⟨fuel, rfl⟩ : ∃ n, fuel = n + 1 := ⟨fuel - 1, by omega⟩
    -- an operation of the prefix that has not come up
    have hex : ∃ i, i < p ∧ listed.getD i true = false := by
      have : (List.range p).filter (fun i => !listed.getD i true) ≠ [] := fun h => by rw [h] at hcnt; simp at hcnt
      obtain ⟨i, hi⟩ := List.exists_mem_of_ne_nil _ this
      rw [List.mem_filter, List.mem_range] at hi
      exact ⟨i, hi.1, by simpa using hi.2⟩
    have hDF : ∀ i, i < l.length → listed.getD i false = listed.getD i true := fun i hi => by
      have hlt : i < listed.size := by omega
      simp [Array.getD_eq_getD_getElem?, hlt]
    have hrd : ((List.range l.toArray.size).filter fun i => !listed.getD i true && ((l.toArray[i]?).map (·.after.all fun e => !Region.binds .any e || listed.getD e.on false)).getD false) = Region.ready .any l.toArray listed := rfl
    -- the least such is ready
    have hne : Region.ready .any l.toArray listed ≠ [] := by
      have hmin : ∀ n i, i ≤ n → i < p → listed.getD i true = false → ∃ i, i < p ∧ listed.getD i true = false ∧ ∀ j, j < i → listed.getD j true = true := by
        intro n
        induction n with
        | zero => intro i hi hp' h; exact ⟨i, hp', h, fun j hj => by omega⟩
        | succ n ihn =>
          intro i hi hp' h
          by_cases hh' : ∃ j, j < i ∧ listed.getD j true = false
          · obtain ⟨j, hj, hjl⟩ := hh'
            exact ihn j (by omega) (by omega) hjl
          · refine ⟨i, hp', h, fun j hj => ?_⟩
            cases hb : listed.getD j true with
            | true => rfl
            | false => exact absurd ⟨j, hj, hb⟩ hh'
      obtain ⟨i0, h0, h1⟩ := hex
      obtain ⟨i, hip, hiu, hbel⟩ := hmin i0 i0 (Nat.le_refl _) h0 h1
      have hil : i < l.length := by omega
      have : i ∈ Region.ready .any l.toArray listed := by
        rw [mem_ready]
        refine ⟨hiu, l[i], by simp [hil], fun e he hb => ?_⟩
        have hlt := hacyc i l[i] (List.getElem?_eq_getElem hil) e he hb
        rw [hDF _ (by omega)]
        exact hbel _ hlt
      intro hnil
      rw [hnil] at this
      cases this
    simp only [Region.linearise.go, hrd]
    have hlen : 0 < (Region.ready .any l.toArray listed).length := List.length_pos_iff.2 hne
    have hmod := Nat.mod_lt t hlen
    generalize hi : (Region.ready .any l.toArray listed)[t % (Region.ready .any l.toArray listed).length] = i
    have hsome : (Region.ready .any l.toArray listed)[t % (Region.ready .any l.toArray listed).length]? = some i := by rw [List.getElem?_eq_getElem hmod, hi]
    rw [hsome]
    simp only []
    rw [linearise_go_acc]
    have him : i ∈ Region.ready .any l.toArray listed := List.mem_of_getElem? hsome
    obtain ⟨hiu, o, ho, hall⟩ := mem_ready.1 him
    have ho' : l[i]? = some o := by simpa using ho
    have hil := (List.getElem?_eq_some_iff.1 ho').1
    have hmask := ready_mask hcl ho' (fun e he hb => hall e he hb)
    have hip : i < p := by
      rcases Nat.lt_or_ge i p with h | h
      · exact h
      · obtain ⟨i0, h0, h1⟩ := hex
        have := hmask i0 (hord i h hil i0 (by omega))
        rw [hDF i0 (by omega), h1] at this
        cases this
    -- what remains behind it
    have hcnt' : ((List.range p).filter fun j => !(listed.setIfInBounds i true).getD j true).length = cnt := by
      have hset : ∀ j, (listed.setIfInBounds i true).getD j true = (listed.getD j true || decide (j = i)) := by
        intro j
        by_cases hji : j = i
        · subst hji; simp [Array.getD_eq_getD_getElem?, hs, hil]
        · rw [getD_set_ne true (Ne.symm hji)]; simp [hji]
      have hfil : ((List.range p).filter fun j => !(listed.setIfInBounds i true).getD j true) = ((List.range p).filter fun j => !listed.getD j true).filter fun j => !decide (j = i) := by
        rw [List.filter_filter]
        refine List.filter_congr fun j _ => ?_
        rw [hset j]
        cases listed.getD j true <;> simp
      rw [hfil]
      have hnd : ((List.range p).filter fun j => !listed.getD j true).Nodup := List.nodup_range.filter _
      have hmem : i ∈ (List.range p).filter fun j => !listed.getD j true := by rw [List.mem_filter, List.mem_range]; exact ⟨hip, by simp [hiu]⟩
      have hcount : ∀ (L : List Nat), L.Nodup → i ∈ L → (L.filter fun j => !decide (j = i)).length + 1 = L.length := by
        intro L
        induction L with
        | nil => intro _ h; cases h
        | cons a L ihL =>
          intro hn hm
          rw [List.nodup_cons] at hn
          by_cases ha : a = i
          · subst ha
            have : (L.filter fun j => !decide (j = a)) = L := by
              rw [List.filter_eq_self]
              intro b hb
              have : b ≠ a := fun e => hn.1 (e ▸ hb)
              simp [this]
            rw [List.filter_cons]
            simp [this]
          · have hm' : i ∈ L := by
              rcases List.mem_cons.1 hm with h | h
              · exact absurd h.symm ha
              · exact h
            rw [List.filter_cons]
            simp only [ha, decide_false, Bool.not_false, if_true, List.length_cons]
            rw [ihL hn.2 hm']
      have := hcount _ hnd hmem
      omega
    have hcl' : Closed l (listed.setIfInBounds i true) := by
      intro j oj hoj hlj e he' hb
      by_cases hji : j = i
      · subst hji
        rw [ho'] at hoj
        cases hoj
        exact getD_set_true (hall e he' hb)
      · rw [getD_set_ne false (Ne.symm hji)] at hlj
        exact getD_set_true (hcl j oj hoj hlj e he' hb)
    have hsu' : ∀ j, p ≤ j → j < l.length → (listed.setIfInBounds i true).getD j true = false := fun j hj hjl => by rw [getD_set_ne true (by omega)]; exact hsu j hj hjl
    obtain ⟨σ, h1, h2, h3, h4⟩ := ih fuel (t / (Region.ready .any l.toArray listed).length) _ (by simpa using hs) hcl' hsu' hcnt' (by omega)
    have hset : ∀ j, (listed.setIfInBounds i true).getD j true = (listed.getD j true || decide (j = i)) := by
      intro j
      by_cases hji : j = i
      · subst hji; simp [Array.getD_eq_getD_getElem?, hs, hil]
      · rw [getD_set_ne true (Ne.symm hji)]; simp [hji]
    refine ⟨i :: σ, ?_, ?_, ?_, ?_⟩
    · rw [h1]; rfl
    · rw [List.nodup_cons]
      refine ⟨fun hm => ?_, h2⟩
      have := ((h3 i).1 hm).2
      rw [hset] at this
      simp at this
    · intro j
      rw [List.mem_cons, h3, hset]
      constructor
      · rintro (rfl | ⟨a, b⟩)
        · exact ⟨hip, hiu⟩
        · refine ⟨a, ?_⟩
          cases hj : listed.getD j true with
          | false => rfl
          | true => rw [hj] at b; simp at b
      · rintro ⟨a, b⟩
        by_cases hji : j = i
        · exact .inl hji
        · exact .inr ⟨a, by simp [b, hji]⟩
    · intro pre i' post he j hj
      cases pre with
      | nil =>
        simp only [List.nil_append, List.cons.injEq] at he
        rw [← he.1] at hj
        exact .inr (hmask j hj)
      | cons a pre =>
        simp only [List.cons_append, List.cons.injEq] at he
        rcases h4 pre i' post he.2 j hj with h | h
        · exact .inl (List.mem_cons_of_mem _ h)
        · by_cases hji : j = i
          · left; rw [hji, he.1]; exact List.mem_cons_self
          · rw [getD_set_ne false (Ne.symm hji)] at h
            exact .inr h
section run
variable {P : Program} {f : FuncId} {N : Nat} {S : Start} {Q : EV → St → Prop} {k : List Item}
/-- A region that draws: all its orders. -/
theorem ARun.orders {id : Nat} {l : List Oper} {env : Env} {st : St} (p : Nat) (hm : P.follows .mixedOrders = true) (hB : drawB l p = true)
    (h : ∀ σ, Sched l p σ → ARun P f N S Q (.inRegion l.toArray (σ ++ List.range' p (l.length - p)) :: k) env st) : ARun P f N S Q (.code (.region id l.toArray true) :: k) env st := by
  simp only [drawB, Bool.and_eq_true] at hB
  obtain ⟨⟨⟨⟨hB1, hB2⟩, hB3⟩, hB4⟩, hB5⟩ := hB
  have hp : p ≤ l.length := by simpa using hB5
  intro g w tmps hinv hh he hn
  refine FWP.regionDraw fun t => ?_
  have hsch : Region.schedule (P.follows .mixedOrders) l.toArray t = Region.linearise .any l.toArray t := by simp [Region.schedule, hm]
  rw [hsch]
  have hb : Below w.heap.size w { w with drawn := w.drawn + 1 } := (Below.refl _ w).drew
  obtain ⟨hinv', hst⟩ := hinv.grow (g' := g) hb (fun _ _ => rfl) rfl rfl
  unfold Region.linearise
  obtain ⟨σ, h1, h2, h3, h4⟩ := lin_main (l := l) (p := p) hp (fun i hi hil j hj => by
      have h1 := allBelow_get hB3 hil
      simp only [Bool.or_eq_true, decide_eq_true_eq] at h1
      rcases h1 with h1 | h1
      · omega
      · exact allBelow_get h1 hj) (fun i o ho e he' hb' => by
      have hil := (List.getElem?_eq_some_iff.1 ho).1
      have h1 := allBelow_get hB4 hil
      rw [ho] at h1
      simp only [List.all_eq_true] at h1
      have := h1 e (by simpa using he')
      simpa [hb'] using this) p l.toArray.size t (Array.replicate l.toArray.size false) (by simp) (fun i o ho hli => by
      simp [Array.getD_eq_getD_getElem?, Array.getElem?_replicate] at hli
      split at hli <;> simp_all) (fun i hi hil => by simp [Array.getD_eq_getD_getElem?, Array.getElem?_replicate, hil]) (by
      have : ((List.range p).filter fun i => !(Array.replicate l.toArray.size false).getD i true) = List.range p := by
        rw [List.filter_eq_self]
        intro i hi
        have hi' := List.mem_range.1 hi
        have : i < l.length := by omega
        simp [Array.getD_eq_getD_getElem?, Array.getElem?_replicate, this]
      rw [this]; simp) (by simp; omega)
  rw [h1]
  refine h σ ⟨h2, fun i => ?_, fun pre i post he j hj => ?_⟩ g _ tmps hinv' (hh.step hst) (he.mono hst.sevo) hn
  · rw [h3]
    constructor
    · exact fun h => h.1
    · intro hi
      have : i < l.length := by omega
      exact ⟨hi, by simp [Array.getD_eq_getD_getElem?, Array.getElem?_replicate, this]⟩
  · rcases h4 pre i post he j hj with h | h
    · exact h
    · simp [Array.getD_eq_getD_getElem?, Array.getElem?_replicate] at h
      split at h <;> simp_all
/-- One order, run through. -/
theorem ARun.runσ {l : List Oper} {p : Nat} {σ : List Nat} {env : Env} {st : St} (hs : Sched l p σ) (hp : p ≤ l.length) (xs : List EV) (F : List Nat → St → Prop)
    (hC1 : ∀ i j t, i < p → j < p → i ≠ j → dstAt l i = some t → dstAt l j ≠ some t)
    (hC2 : ∀ (i : Nat) o, i < p → l[i]? = some o → ∀ t ∈ slots l o, ∀ j, j < p → j ≠ i → dstAt l j = some t → (j < i ∧ ((masks l []).getD i 0).testBit j = true) ∨ (i < j ∧ ((masks l []).getD j 0).testBit i = true))
    (hxp : xs.length = p) (hF0 : F [] st)
    (hstep : ∀ pre i post st o, σ = pre ++ i :: post → l[i]? = some o → F pre st → dstOk N o.dst = true ∧ ∃ x st', xs[i]? = some x ∧ OpE P S.base l (renv l o (putAll env ((l.take p).take i) (xs.take i))) st o x st' ∧ F (pre ++ [i]) st')
    (hsuf : ∀ st, F σ st → AOps P f N S Q l (l.drop p) k (putAll env (l.take p) xs) st) : ARun P f N S Q (.inRegion l.toArray (σ ++ List.range' p (l.length - p)) :: k) env st := by
  have hxl : xs.length = (l.take p).length := by simp; omega
  suffices key : ∀ (post pre : List Nat) (st : St) (g : Ghost) (w : World) (tmps : Array Value), σ = pre ++ post → F pre st → Inv g S.base w st → Hist S g w st → tmps.size = N →
      (∀ (s : Tmp), (∀ (j : Nat) x, j ∈ pre → dstAt l j = some s → xs[j]? = some x → ∃ v, tmps[s]? = some v ∧ EVRep g w st x v) ∧
        ((∀ j, j ∈ pre → dstAt l j ≠ some s) → ∀ y, lookup s env = some y → ∃ v, tmps[s]? = some v ∧ EVRep g w st y v)) →
      FWP P f (RPost S Q) (.inRegion l.toArray (post ++ List.range' p (l.length - p)) :: k) tmps w by
    intro g w tmps hinv hh he hN
    exact key σ [] st g w tmps rfl hF0 hinv hh hN fun s => ⟨fun j x hj => by (cases hj), fun _ y hy => he s y hy⟩
  intro post
  induction post with
  | nil =>
    intro pre st g w tmps hσ hF hinv hh hN hJ
    rw [List.append_nil] at hσ
    subst hσ
    have hdl : (l.drop p).length = l.length - p := by simp
    rw [List.nil_append, ← hdl]
    refine hsuf st hF p (fun j => by rw [List.getElem?_drop]) g w tmps hinv hh (fun s y hy => ?_) hN
    rcases lookup_putAll hxl hy with ⟨j, o, h1, h2, h3⟩ | ⟨h1, h2⟩
    · have hj : j < p := by have := (List.getElem?_eq_some_iff.1 h2).1; omega
      have ho : l[j]? = some o := by rw [List.getElem?_take] at h1; rw [if_pos hj] at h1; exact h1
      exact (hJ s).1 j y ((hs.mem j).2 hj) (by simp [dstAt, ho, h3]) h2
    · refine (hJ s).2 (fun j hj hd => ?_) y h2
      have hj' := (hs.mem j).1 hj
      cases ho : l[j]? with
      | none => simp [dstAt, ho] at hd
      | some o => exact h1 j o (by rw [List.getElem?_take, if_pos hj']; exact ho) (by simpa [dstAt, ho] using hd)
  | cons i post ih =>
    intro pre st g w tmps hσ hF hinv hh hN hJ
    have hi : i < p := (hs.mem i).1 (by rw [hσ]; simp)
    have hil : i < l.length := by omega
    obtain ⟨o, ho'⟩ : ∃ o, l[i]? = some o := ⟨_, List.getElem?_eq_getElem hil⟩
    have hmask := hs.mask pre i post hσ
    have hipre : i ∉ pre := by
      have := hs.nodup
      rw [hσ, List.nodup_append] at this
      exact fun hm => this.2.2 i hm i List.mem_cons_self rfl
    have hprelt : ∀ j, j ∈ pre → j < p := fun j hj => (hs.mem j).1 (by rw [hσ]; simp [hj])
    obtain ⟨hd, x, st', hx, hop, hF'⟩ := hstep pre i post st o hσ ho' hF
    -- what the operation looks at
    have he : EnvRep g w st (renv l o (putAll env ((l.take p).take i) (xs.take i))) tmps := by
      intro s y hy
      obtain ⟨hsl, hy'⟩ := renvOf_get hy
      rcases lookup_putAll (by simp [hxl]) hy' with ⟨j, o', h1, h2, h3⟩ | ⟨h1, h2⟩
      · have hji : j < i := by have := (List.getElem?_eq_some_iff.1 h2).1; simp at this; omega
        have hoj : l[j]? = some o' := by
          rw [List.getElem?_take, if_pos hji, List.getElem?_take, if_pos (by omega)] at h1; exact h1
        have hdj : dstAt l j = some s := by simp [dstAt, hoj, h3]
        rcases hC2 i o hi ho' s hsl j (by omega) (by omega) hdj with ⟨_, hb⟩ | ⟨hlt, _⟩
        · exact (hJ s).1 j y (hmask j hb) hdj (by rw [List.getElem?_take, if_pos hji] at h2; exact h2)
        · omega
      · refine (hJ s).2 (fun j hj hdj => ?_) y h2
        have hji : j ≠ i := fun e => hipre (e ▸ hj)
        rcases hC2 i o hi ho' s hsl j (hprelt j hj) hji hdj with ⟨hlt, _⟩ | ⟨hlt, hb⟩
        · cases hoj : l[j]? with
          | none => simp [dstAt, hoj] at hdj
          | some o' => exact h1 j o' (by rw [List.getElem?_take, if_pos hlt, List.getElem?_take, if_pos (hprelt j hj)]; exact hoj) (by simpa [dstAt, hoj] using hdj)
        · -- j came ahead of i, though it must come behind it
          obtain ⟨a, b, hab⟩ := List.append_of_mem hj
          have := hs.mask a j (b ++ i :: post) (by rw [hσ, hab]; simp) i hb
          exact absurd (by rw [hab]; simp [this] : i ∈ pre) hipre
    have next : ∀ (g' : Ghost) (w' : World) (v : Value), EVRep g' w' st' x v → Inv g' S.base w' st' → Step S.base g w st g' w' st' →
        FWP P f (RPost S Q) (.inRegion l.toArray (post ++ List.range' p (l.length - p)) :: k) (Act.put ⟨tmps, []⟩ o.dst v).tmps w' := by
      intro g' w' v hxr hinv' hst
      refine ih (pre ++ [i]) st' g' w' _ (by rw [hσ]; simp) hF' hinv' (hh.step hst) (by rw [size_put]; exact hN) fun s => ⟨fun j y hj hdj hy => ?_, fun hno y hy => ?_⟩
      · by_cases hji : j = i
        · subst hji
          have hods : o.dst = some s := by simpa [dstAt, ho'] using hdj
          rw [hx] at hy
          cases hy
          rw [hods]
          have hsz : s < tmps.size := by
            rw [hods] at hd
            have hd' : s + 1 ≤ N := Nat.le_of_ble_eq_true hd
            rw [hN]
            exact hd'
          exact ⟨v, by simp [Act.put, hsz], hxr⟩
        · have hj' : j ∈ pre := by
            rcases List.mem_append.1 hj with h | h
            · exact h
            · exact absurd (List.mem_singleton.1 h) hji
          obtain ⟨u, h1, h2⟩ := (hJ s).1 j y hj' hdj hy
          have hne' : o.dst ≠ some s := fun e => hC1 j i s (hprelt j hj') hi hji hdj (by simp [dstAt, ho', e])
          refine ⟨u, ?_, h2.mono hst.sevo⟩
          cases hod : o.dst with
          | none => exact h1
          | some d =>
            have : d ≠ s := fun e => hne' (by rw [hod, e])
            simp [Act.put, Array.getElem?_setIfInBounds, this, h1]
      · have hne' : o.dst ≠ some s := fun e => hno i (by simp) (by simp [dstAt, ho', e])
        obtain ⟨u, h1, h2⟩ := (hJ s).2 (fun j hj => hno j (by simp [hj])) y hy
        refine ⟨u, ?_, h2.mono hst.sevo⟩
        cases hod : o.dst with
        | none => exact h1
        | some d =>
          have : d ≠ s := fun e => hne' (by rw [hod, e])
          simp [Act.put, Array.getElem?_setIfInBounds, this, h1]
    have hoA : l.toArray[i]? = some o := by simpa using ho'
    show FWP P f (RPost S Q) (.inRegion l.toArray (i :: _) :: k) tmps w
    have nextG : st' = st → ∀ (lim' : Nat → Nat) (w' : World) (v : Value), Good g w st x lim' w' v →
        FWP P f (RPost S Q) (.inRegion l.toArray (post ++ List.range' p (l.length - p)) :: k) (Act.put ⟨tmps, []⟩ o.dst v).tmps w' := by
      rintro rfl lim' w' v ⟨hxr, hb, hl⟩
      obtain ⟨hinv', hst⟩ := hinv.grow (g' := { g with lim := lim' }) hb hl rfl rfl
      exact next _ w' v hxr hinv' hst
    rcases hop with ⟨hse, hop⟩ | ⟨hg, hop⟩ | ⟨hg, rfl, hop⟩
    · rcases hop with ⟨hg, hop⟩ | ⟨j, want, tt, c, b, y, env', hg, hj, hlk, hgc, rfl, hE, hop⟩
      · have hw : Region.wanted o (yielded l.toArray tmps) = true := by simp [Region.wanted, hg]
        rcases hop g S.base w tmps hinv he with ⟨v, lim', w', hr, hgood⟩ | ⟨f', args, hr, hc⟩
        · exact FWP.value hoA hw hr (nextG hse lim' w' v hgood)
        · exact FWP.call hoA hw hr (hc.mono fun e w' ⟨v, lim', h1, h2⟩ => ⟨v, h1, nextG hse lim' w' v h2⟩)
      · obtain ⟨u, hu, hur⟩ := he tt c hlk
        have hw : Region.wanted o (yielded l.toArray tmps) = b := by
          rw [← gcond_rep hgc hur]
          have hj' : ((l.toArray)[j]?).bind (·.dst) = some tt := by simpa using hj
          simp only [Region.wanted, hg, yielded, hj', Option.bind_some, hu]
          cases u <;> rfl
        cases b with
        | false => exact FWP.unwanted hoA hw (nextG hse g.lim w undef ⟨.gd _ _ _ (fun _ => rfl) (fun h => by cases h), .refl _ _, fun _ _ => rfl⟩)
        | true =>
          have wrap : ∀ lim' w' v, Good g w st y lim' w' v → Good g w st (.gd true y) lim' w' v := fun lim' w' v ⟨a, b, c⟩ => ⟨.gd _ _ _ (fun h => by cases h) (fun _ => a), b, c⟩
          rcases hop rfl g S.base w tmps hinv (he.gd hE rfl) with ⟨v, lim', w', hr, hgood⟩ | ⟨f', args, hr, hc⟩
          · exact FWP.value hoA hw hr (nextG hse lim' w' v (wrap _ _ _ hgood))
          · exact FWP.call hoA hw hr (hc.mono fun e w' ⟨v, lim', h1, h2⟩ => ⟨v, h1, nextG hse lim' w' v (wrap _ _ _ h2)⟩)
    · have hw : Region.wanted o (yielded l.toArray tmps) = true := by simp [Region.wanted, hg]
      obtain ⟨v, g', w', hr, hxr, hinv', hst⟩ := hop g w tmps hinv he
      exact FWP.value hoA hw hr (next g' w' v hxr hinv' hst)
    · have hw : Region.wanted o (yielded l.toArray tmps) = true := by simp [Region.wanted, hg]
      obtain ⟨g', w', hr, hinv', hst⟩ := hop g w tmps hinv he
      exact FWP.skip hoA hw hr (next g' w' undef (.d _ _ (.any _)) hinv' hst)


/-- What is asked of all states of a list. -/
def AllL : List St → (St → Prop) → Prop
  | [], _ => True
  | s :: r, p => p s ∧ AllL r p
theorem AllL.get {p : St → Prop} : ∀ {ss : List St} {i : Nat} {s : St}, AllL ss p → ss[i]? = some s → p s
  | s :: r, 0, s', h, hs => by simp at hs; subst hs; exact h.1
  | s :: r, i + 1, s', h, hs => AllL.get h.2 (by simpa using hs)
  | [], i, s', h, hs => by simp at hs
/-- May the operation i come up when the first m of the operations E (which turn the state) have come up? -/
def mayB (l : List Oper) (E : List Nat) (i m : Nat) : Bool := E.zipIdx.all fun e => (!((masks l []).getD i 0).testBit e.1 || decide (e.2 < m)) && (!((masks l []).getD e.1 0).testBit i || decide (m ≤ e.2))
def boundB (l : List Oper) (E : List Nat) (i lo hi : Nat) : Bool := (List.range (E.length + 1)).all fun m => !mayB l E i m || (decide (lo ≤ m) && decide (m ≤ hi))
def EStep (P : Program) (N base : Nat) (l : List Oper) (E : List Nat) (sts : List St) (i : Nat) (o : Oper) (env : Env) (x : EV) : Prop :=
  dstOk N o.dst = true ∧
  ((∃ lo hi, (!E.any fun e => Nat.beq e i) = true ∧ boundB l E i lo hi = true ∧ AllL ((sts.take (hi + 1)).drop lo) fun s => OpAny P l env s o x) ∨
   (∃ m s s', E[m]? = some i ∧ sts[m]? = some s ∧ sts[m + 1]? = some s' ∧ o.guard = none ∧ (OpV P base env s o x s' ∨ x = .d .any ∧ OpU P base env s o s')))
def EChain (P : Program) (N base : Nat) (l : List Oper) (E : List Nat) (sts : List St) : Nat → List Oper → List EV → Env → Prop
  | _, [], [], _ => True
  | i, o :: os, x :: xs, env => EStep P N base l E sts i o (renv l o env) x ∧ EChain P N base l E sts (i + 1) os xs (env.put o.dst x)
  | _, _, _, _ => False
theorem EChain.length {base : Nat} {l : List Oper} {E : List Nat} {sts : List St} : ∀ {i : Nat} {os : List Oper} {xs : List EV} {env : Env}, EChain P N base l E sts i os xs env → xs.length = os.length
  | _, [], [], _, _ => rfl
  | _, o :: os, x :: xs, env, h => by simp [EChain.length h.2]
  | _, [], x :: xs, _, h => h.elim
  | _, o :: os, [], _, h => h.elim
theorem EChain.get {base : Nat} {l : List Oper} {E : List Nat} {sts : List St} : ∀ {i : Nat} {os : List Oper} {xs : List EV} {env : Env} {j : Nat} {o : Oper}, EChain P N base l E sts i os xs env → os[j]? = some o →
    ∃ x, xs[j]? = some x ∧ EStep P N base l E sts (i + j) o (renv l o (putAll env (os.take j) (xs.take j))) x
  | i, o' :: os, x :: xs, env, 0, o, h, ho => by
    simp at ho; subst ho
    exact ⟨x, rfl, by simpa [putAll] using h.1⟩
  | i, o' :: os, x :: xs, env, j + 1, o, h, ho => by
    obtain ⟨y, h1, h2⟩ := EChain.get (j := j) h.2 (by simpa using ho)
    exact ⟨y, by simpa using h1, by simpa [putAll, Nat.add_assoc, Nat.add_comm 1 j] using h2⟩
  | i, [], xs, env, j, o, h, ho => by simp at ho
  | i, o' :: os, [], _, _, _, h, _ => h.elim
/-- An order in which what turns the state comes as told. -/
theorem ARun.effσ {l : List Oper} {p : Nat} {σ : List Nat} {env : Env} {st stF : St} (hB : drawB l p = true) (hs : Sched l p σ) (E : List Nat) (sts : List St) (hE : σ.filter (fun i => E.any fun e => Nat.beq e i) = E) {xs : List EV}
    (h0 : sts[0]? = some st) (hF : sts[E.length]? = some stF) (hch : EChain P N S.base l E sts 0 (l.take p) xs env) (hsuf : AOps P f N S Q l (l.drop p) k (putAll env (l.take p) xs) stF) :
    ARun P f N S Q (.inRegion l.toArray (σ ++ List.range' p (l.length - p)) :: k) env st := by
  simp only [drawB, Bool.and_eq_true] at hB
  obtain ⟨⟨⟨⟨hB1, hB2⟩, hB3⟩, hB4⟩, hB5⟩ := hB
  have hp : p ≤ l.length := by simpa using hB5
  have hxp : xs.length = p := by rw [hch.length]; simp; omega
  refine ARun.runσ hs hp xs (fun pre s => sts[(pre.filter fun i => E.any fun e => Nat.beq e i).length]? = some s) ?_ ?_ hxp h0 ?_ ?_
  · intro i j t hi hj hij hdi hdj
    have := allBelow_get (allBelow_get hB2 hi) hj
    simp [hij, hdi, hdj] at this
  · intro i o hi ho t ht j hj hji hdj
    have h1 := allBelow_get hB1 hi
    rw [ho] at h1
    simp only [List.all_eq_true] at h1
    have h2 := allBelow_get (h1 t ht) hj
    simp only [hdj, bne_self_eq_false, Bool.or_false, Bool.or_eq_true, Bool.and_eq_true, decide_eq_true_eq, beq_iff_eq] at h2
    rcases h2 with (h2 | h2) | h2
    · exact absurd h2.symm hji
    · exact .inl h2
    · exact .inr h2
  · intro pre i post s o hσ ho hFs
    have hi : i < p := (hs.mem i).1 (by rw [hσ]; simp)
    obtain ⟨x, hx, hst⟩ := hch.get (j := i) (o := o) (by rw [List.getElem?_take, if_pos hi]; exact ho)
    rw [Nat.zero_add] at hst
    obtain ⟨hd, hst⟩ := hst
    refine ⟨hd, x, ?_⟩
    -- how far the turning operations have come
    have hsplit : E = (pre.filter fun i => E.any fun e => Nat.beq e i) ++ ((i :: post).filter fun i => E.any fun e => Nat.beq e i) := by
      have := hE
      rw [hσ, List.filter_append] at this
      exact this.symm
    generalize hm : (pre.filter fun i => E.any fun e => Nat.beq e i).length = m at hFs
    have hmE : m ≤ E.length := by rw [hsplit, List.length_append, hm]; omega
    rcases hst with ⟨lo, hi', hne, hb, hall⟩ | ⟨m', s0, s1, hEm, hs0, hs1, hg, hop⟩
    · have hnoE : (E.any fun e => Nat.beq e i) = false := by simpa using hne
      have hmay : mayB l E i m = true := by
        unfold mayB
        rw [List.all_eq_true]
        rintro ⟨e, j⟩ hej
        have hEj : E[j]? = some e := by
          have := List.mem_zipIdx_iff_getElem?.1 hej
          simpa using this
        have hinE : (E.any fun e' => Nat.beq e' e) = true := List.any_eq_true.2 ⟨e, List.mem_of_getElem? hEj, Nat.beq_refl e⟩
        simp only [Bool.and_eq_true, Bool.or_eq_true, Bool.not_eq_true', decide_eq_true_eq]
        have hnodE : E.Nodup := by rw [← hE]; exact hs.nodup.filter _
        constructor
        · cases hbit : ((masks l []).getD i 0).testBit e with
          | false => exact .inl rfl
          | true =>
            right
            have hin := hs.mask pre i post hσ e hbit
            have hin2 : e ∈ pre.filter fun i => E.any fun e => Nat.beq e i := List.mem_filter.2 ⟨hin, hinE⟩
            obtain ⟨a, ha, hae⟩ := List.mem_iff_getElem.1 hin2
            have : E[a]? = some e := by rw [hsplit, List.getElem?_append_left ha, List.getElem?_eq_getElem ha, hae]
            have haj : a = j := by
              have h1 := (List.getElem?_eq_some_iff.1 this)
              have h2 := (List.getElem?_eq_some_iff.1 hEj)
              exact (List.getElem_inj hnodE).1 (h1.2.trans h2.2.symm)
            omega
        · cases hbit : ((masks l []).getD e 0).testBit i with
          | false => exact .inl rfl
          | true =>
            right
            -- e comes behind i
            rcases Nat.lt_or_ge j m with hjm | hjm
            · have h1 : (pre.filter fun i => E.any fun e => Nat.beq e i)[j]? = some e := by
                rw [hsplit, List.getElem?_append_left (by omega)] at hEj
                exact hEj
              have hin : e ∈ pre := (List.mem_filter.1 (List.mem_of_getElem? h1)).1
              obtain ⟨a, b, hab⟩ := List.append_of_mem hin
              have := hs.mask a e (b ++ i :: post) (by rw [hσ, hab]; simp) i hbit
              have hipre : i ∉ pre := by
                have := hs.nodup
                rw [hσ, List.nodup_append] at this
                exact fun hm => this.2.2 i hm i List.mem_cons_self rfl
              exact absurd (by rw [hab]; simp [this] : i ∈ pre) hipre
            · exact hjm
      have hbd := List.all_eq_true.1 hb m (List.mem_range.2 (by omega))
      rw [hmay] at hbd
      simp only [Bool.not_true, Bool.false_or, Bool.and_eq_true, decide_eq_true_eq] at hbd
      refine ⟨s, hx, .inl ⟨rfl, hall.get (i := m - lo) ?_⟩, ?_⟩
      · rw [List.getElem?_drop, List.getElem?_take, if_pos (by omega), show lo + (m - lo) = m by omega]
        exact hFs
      · rw [List.filter_append, List.filter_cons, hnoE]
        simp only [Bool.false_eq_true, if_false, List.filter_nil, List.append_nil]
        rw [hm]; exact hFs
    · have hinE : (E.any fun e' => Nat.beq e' i) = true := List.any_eq_true.2 ⟨i, List.mem_of_getElem? hEm, Nat.beq_refl i⟩
      have hnodE : E.Nodup := by rw [← hE]; exact hs.nodup.filter _
      have hEm2 : E[m]? = some i := by
        rw [hsplit, List.getElem?_append_right (by omega), hm, Nat.sub_self, List.filter_cons, hinE]
        rfl
      have hmm : m = m' := by
        have h1 := (List.getElem?_eq_some_iff.1 hEm2)
        have h2 := (List.getElem?_eq_some_iff.1 hEm)
        exact (List.getElem_inj hnodE).1 (h1.2.trans h2.2.symm)
      subst hmm
      rw [hFs] at hs0
      cases hs0
      refine ⟨s1, hx, ?_, ?_⟩
      · rcases hop with h | ⟨h1, h2⟩
        · exact .inr (.inl ⟨hg, h⟩)
        · exact .inr (.inr ⟨hg, h1, h2⟩)
      · rw [List.filter_append, List.filter_cons, hinE]
        simp only [if_true, List.filter_nil, List.length_append, List.length_singleton, hm]
        exact hs1
  · intro s hFs
    rw [hE, hF] at hFs
    cases hFs
    exact hsuf
theorem filter_one {σ : List Nat} (hn : σ.Nodup) {e : Nat} (he : e ∈ σ) : σ.filter (fun i => i == e) = [e] := by
  induction σ with
  | nil => cases he
  | cons c r ih =>
    rw [List.nodup_cons] at hn
    by_cases hc : c = e
    · subst hc
      have : r.filter (fun i => i == c) = [] := List.filter_eq_nil_iff.2 fun i hi h => hn.1 (by rw [beq_iff_eq] at h; exact h ▸ hi)
      rw [List.filter_cons, beq_self_eq_true, if_pos rfl, this]
    · rw [List.filter_cons]
      have : (c == e) = false := by simpa using hc
      rw [this]
      simpa using ih hn.2 ((List.mem_cons.1 he).resolve_left (Ne.symm hc))
theorem Sched.one {l : List Oper} {p : Nat} {σ : List Nat} (hs : Sched l p σ) {e : Nat} (he : e < p) : σ.filter (fun i => [e].any fun e => Nat.beq e i) = [e] := by
  have h1 : (fun i => [e].any fun e => Nat.beq e i) = fun i => i == e := by
    funext i
    simp only [List.any_cons, List.any_nil, Bool.or_false]
    rw [Bool.eq_iff_iff, Nat.beq_eq, beq_iff_eq, eq_comm]
  rw [h1]
  exact filter_one hs.nodup ((hs.mem e).2 he)
theorem filter_two {σ : List Nat} (hn : σ.Nodup) {a b : Nat} (hab : a ≠ b) (ha : a ∈ σ) (hb : b ∈ σ) (q : Nat → Bool) (hq : ∀ i, q i = (i == a || i == b)) : σ.filter q = [a, b] ∨ σ.filter q = [b, a] := by
  induction σ with
  | nil => cases ha
  | cons c r ih =>
    rw [List.nodup_cons] at hn
    by_cases hca : c = a
    · subst hca
      left
      have hbr : b ∈ r := (List.mem_cons.1 hb).resolve_left (Ne.symm hab)
      rw [List.filter_cons, hq, beq_self_eq_true, Bool.true_or, if_pos rfl]
      congr 1
      have : r.filter q = r.filter fun i => i == b := List.filter_congr fun i hi => by
        have : i ≠ c := fun e => hn.1 (e ▸ hi)
        rw [hq]; simp [this]
      rw [this]
      exact filter_one hn.2 hbr
    · by_cases hcb : c = b
      · subst hcb
        right
        have har : a ∈ r := (List.mem_cons.1 ha).resolve_left (Ne.symm hca)
        rw [List.filter_cons, hq, beq_self_eq_true, Bool.or_true, if_pos rfl]
        congr 1
        have : r.filter q = r.filter fun i => i == a := List.filter_congr fun i hi => by
          have : i ≠ c := fun e => hn.1 (e ▸ hi)
          rw [hq]; simp [this]
        rw [this]
        exact filter_one hn.2 har
      · have har : a ∈ r := (List.mem_cons.1 ha).resolve_left (Ne.symm hca)
        have hbr : b ∈ r := (List.mem_cons.1 hb).resolve_left (Ne.symm hcb)
        have := ih hn.2 har hbr
        rw [List.filter_cons, hq]
        simpa [hca, hcb] using this
theorem Sched.two {l : List Oper} {p : Nat} {σ : List Nat} (hs : Sched l p σ) {a b : Nat} (hab : a ≠ b) (ha : a < p) (hb : b < p) :
    σ.filter (fun i => [a, b].any fun e => Nat.beq e i) = [a, b] ∨ σ.filter (fun i => [b, a].any fun e => Nat.beq e i) = [b, a] := by
  have q1 : ∀ i, ([a, b].any fun e => Nat.beq e i) = (i == a || i == b) := fun i => by
    simp only [List.any_cons, List.any_nil, Bool.or_false]
    rw [Bool.eq_iff_iff]
    simp only [Bool.or_eq_true, Nat.beq_eq, beq_iff_eq]
    exact ⟨fun h => h.elim (fun h => .inl h.symm) (fun h => .inr h.symm), fun h => h.elim (fun h => .inl h.symm) (fun h => .inr h.symm)⟩
  have q2 : ∀ i, ([b, a].any fun e => Nat.beq e i) = (i == a || i == b) := fun i => by
    simp only [List.any_cons, List.any_nil, Bool.or_false]
    rw [Bool.eq_iff_iff]
    simp only [Bool.or_eq_true, Nat.beq_eq, beq_iff_eq]
    exact ⟨fun h => h.elim (fun h => .inr h.symm) (fun h => .inl h.symm), fun h => h.elim (fun h => .inr h.symm) (fun h => .inl h.symm)⟩
  rcases filter_two hs.nodup hab ((hs.mem a).2 ha) ((hs.mem b).2 hb) _ q1 with h | h
  · exact .inl h
  · right
    have : (fun i => [b, a].any fun e => Nat.beq e i) = fun i => [a, b].any fun e => Nat.beq e i := by
      funext i; rw [q1, q2]
    rw [this]; exact h
/-- Two of which one must come ahead. -/
theorem Sched.two' {l : List Oper} {p : Nat} {σ : List Nat} (hs : Sched l p σ) {a b : Nat} (ha : a < p) (hb : b < p) (hm : ((masks l []).getD b 0).testBit a = true) :
    σ.filter (fun i => [a, b].any fun e => Nat.beq e i) = [a, b] := by
  have hab : a ≠ b := by
    rintro rfl
    obtain ⟨x, y, hxy⟩ := List.append_of_mem ((hs.mem a).2 ha)
    have h1 := hs.mask x a y hxy a hm
    have := hs.nodup
    rw [hxy, List.nodup_append] at this
    exact this.2.2 a h1 a List.mem_cons_self rfl
  rcases hs.two hab ha hb with h | h
  · exact h
  · exfalso
    obtain ⟨x, y, hxy⟩ := List.append_of_mem ((hs.mem b).2 hb)
    have h1 := hs.mask x b y hxy a hm
    rw [hxy, List.filter_append] at h
    have q : ([b, a].any fun e => Nat.beq e b) = true := by simp
    rw [List.filter_cons, q] at h
    have h2 : a ∈ x.filter fun i => [b, a].any fun e => Nat.beq e i := List.mem_filter.2 ⟨h1, by simp⟩
    obtain ⟨u, v, huv⟩ := List.append_of_mem h2
    have hl := congrArg List.length h
    have hbx : b ∉ x := by
      have := hs.nodup
      rw [hxy, List.nodup_append] at this
      exact fun hm => this.2.2 b hm b List.mem_cons_self rfl
    cases hx : x.filter fun i => [b, a].any fun e => Nat.beq e i with
    | nil => rw [hx] at h2; cases h2
    | cons c r =>
      rw [hx] at h
      simp only [List.cons_append, List.cons.injEq] at h
      have : b ∈ x.filter fun i => [b, a].any fun e => Nat.beq e i := by rw [hx, h.1]; exact List.mem_cons_self
      exact hbx (List.mem_filter.1 this).1
/-- What is left of a region's prefix, in an order in which what turns the state comes as told. -/
def XOps (P : Program) (f : FuncId) (N : Nat) (S : Start) (Q : EV → St → Prop) (l : List Oper) (p : Nat) (E : List Nat) (sts : List St) (i : Nat) (os : List Oper) (k : List Item) (env : Env) : Prop :=
  ∃ xs stF, sts[E.length]? = some stF ∧ EChain P N S.base l E sts i os xs env ∧ AOps P f N S Q l (l.drop p) k (putAll env os xs) stF
variable {l : List Oper} {p : Nat} {E : List Nat} {sts : List St} {i : Nat} {os : List Oper} {env : Env} {st : St} {d : Option Tmp} {op : Op} {ty : TypeId} {pos : String} {after : Array Edge} {x : EV}
theorem XOps.nil {stF : St} (hF : sts[E.length]? = some stF) (h : AOps P f N S Q l (l.drop p) k env stF) : XOps P f N S Q l p E sts i [] k env := ⟨[], stF, hF, trivial, h⟩
def GAll (P : Program) (l : List Oper) (env : Env) (o : Oper) (x : EV) : List St → Prop
  | [] => True
  | s :: r => OpG P (renv l o env) s o x ∧ GAll P l env o x r
theorem GAll.all {o : Oper} {P : Program} {l : List Oper} {env : Env} {x : EV} (hg : o.guard = none) : ∀ {ss : List St}, GAll P l env o x ss → AllL ss fun s => OpAny P l (renv l o env) s o x
  | [], _ => trivial
  | s :: r, h => ⟨.inl ⟨hg, h.1⟩, GAll.all hg h.2⟩
theorem XOps.g (lo hi : Nat) (h : GAll P l env ⟨d, op, ty, pos, after, none⟩ x ((sts.take (hi + 1)).drop lo)) (hne : (!E.any fun e => Nat.beq e i) = true) (hb : boundB l E i lo hi = true) (hd : dstOk N d = true)
    (hk : XOps P f N S Q l p E sts (i + 1) os k (env.put d x)) : XOps P f N S Q l p E sts i (⟨d, op, ty, pos, after, none⟩ :: os) k env := by
  obtain ⟨xs, stF, h0, h1, h2⟩ := hk
  exact ⟨x :: xs, stF, h0, ⟨⟨hd, .inl ⟨lo, hi, hne, hb, h.all rfl⟩⟩, h1⟩, h2⟩
theorem XOps.guardG {d : Tmp} {j : Nat} {want b : Bool} {t : Tmp} {c : EV} {env' : Env} (lo hi : Nat) (hj : (l[j]?).bind (·.dst) = some t)
    (hl : lookup t (renv l ⟨some d, op, ty, pos, after, some (j, want)⟩ env) = some c) (hc : gcond c want = some b) (hE : GdEnv b (renv l ⟨some d, op, ty, pos, after, some (j, want)⟩ env) env') (hd : dstOk N (some d) = true)
    (h : b = true → AllL ((sts.take (hi + 1)).drop lo) fun s => OpG P env' s ⟨some d, op, ty, pos, after, some (j, want)⟩ x) (hne : (!E.any fun e => Nat.beq e i) = true) (hb : boundB l E i lo hi = true)
    (hk : XOps P f N S Q l p E sts (i + 1) os k ((d, .gd b x) :: env)) : XOps P f N S Q l p E sts i (⟨some d, op, ty, pos, after, some (j, want)⟩ :: os) k env := by
  obtain ⟨xs, stF, h0, h1, h2⟩ := hk
  refine ⟨.gd b x :: xs, stF, h0, ⟨⟨hd, .inl ⟨lo, hi, hne, hb, ?_⟩⟩, h1⟩, h2⟩
  have mk : ∀ {ss : List St}, (b = true → AllL ss fun s => OpG P env' s ⟨some d, op, ty, pos, after, some (j, want)⟩ x) → AllL ss fun s => OpAny P l (renv l ⟨some d, op, ty, pos, after, some (j, want)⟩ env) s ⟨some d, op, ty, pos, after, some (j, want)⟩ (.gd b x) := by
    intro ss
    induction ss with
    | nil => exact fun _ => trivial
    | cons s r ih => exact fun h => ⟨.inr ⟨j, want, t, c, b, x, env', rfl, hj, hl, hc, rfl, hE, fun hb => (h hb).1⟩, ih fun hb => (h hb).2⟩
  exact mk h
theorem XOps.v {s s' : St} (m : Nat) (h : OpV P S.base (renv l ⟨d, op, ty, pos, after, none⟩ env) s ⟨d, op, ty, pos, after, none⟩ x s') (hE : E[m]? = some i) (h1 : sts[m]? = some s) (h2 : sts[m + 1]? = some s') (hd : dstOk N d = true)
    (hk : XOps P f N S Q l p E sts (i + 1) os k (env.put d x)) : XOps P f N S Q l p E sts i (⟨d, op, ty, pos, after, none⟩ :: os) k env := by
  obtain ⟨xs, stF, h0, h3, h4⟩ := hk
  exact ⟨x :: xs, stF, h0, ⟨⟨hd, .inr ⟨m, s, s', hE, h1, h2, rfl, .inl h⟩⟩, h3⟩, h4⟩
theorem XOps.u {s s' : St} (m : Nat) (h : OpU P S.base (renv l ⟨d, op, ty, pos, after, none⟩ env) s ⟨d, op, ty, pos, after, none⟩ s') (hE : E[m]? = some i) (h1 : sts[m]? = some s) (h2 : sts[m + 1]? = some s') (hd : dstOk N d = true)
    (hk : XOps P f N S Q l p E sts (i + 1) os k (env.put d (.d .any))) : XOps P f N S Q l p E sts i (⟨d, op, ty, pos, after, none⟩ :: os) k env := by
  obtain ⟨xs, stF, h0, h3, h4⟩ := hk
  exact ⟨.d .any :: xs, stF, h0, ⟨⟨hd, .inr ⟨m, s, s', hE, h1, h2, rfl, .inr ⟨rfl, h⟩⟩⟩, h3⟩, h4⟩
theorem ARun.eff {σ : List Nat} {env : Env} {st : St} (hB : drawB l p = true) (hs : Sched l p σ) (hE : σ.filter (fun i => E.any fun e => Nat.beq e i) = E) (h0 : sts[0]? = some st) (h : XOps P f N S Q l p E sts 0 (l.take p) k env) :
    ARun P f N S Q (.inRegion l.toArray (σ ++ List.range' p (l.length - p)) :: k) env st := by
  obtain ⟨xs, stF, h1, h2, h3⟩ := h
  exact .effσ hB hs E sts hE h0 h1 h2 h3

/-- A state that is another one with its places renamed: what is run from that one is run from this one. -/
theorem ARun.reorder {todo : List Item} {env env0 : Env} {st st0 : St} (rs ts : List Nat) (hp : partB rs ts st0 st = true)
    (ho : rs.map (fun r => st.objs[r]?) = st0.objs.map (fun x => some (x.ren (renF rs st.objs.length) (renF ts st.tails.length)))) (ht : ts.map (fun r => st.tails[r]?) = st0.tails.map some)
    (hr : rs.take S.st.objs.length = List.range S.st.objs.length) (htt : ts.take S.st.tails.length = List.range S.st.tails.length) (hl : (Nat.ble S.st.objs.length rs.length && Nat.ble S.st.tails.length ts.length) = true)
    (h5 : st0.objs.all (okObj st0.objs.length st0.tails.length) = true) (hok : (env0.all fun p => okEV st0.objs.length st0.tails.length p.2) = true)
    (hE : SubEnv env (env0.map fun p => (p.1, p.2.ren (renF rs st.objs.length) (renF ts st.tails.length)))) (h : ARun P f N S Q todo env0 st0) : ARun P f N S Q todo env st := by
  obtain ⟨p, e1', e2', l1, l2⟩ := Part.of hp h5 ho ht
  simp only [Bool.and_eq_true] at hl
  have hl1 := Nat.le_of_ble_eq_true hl.1
  have hl2 := Nat.le_of_ble_eq_true hl.2
  have same : ∀ {l : List Nat} {n N : Nat}, l.take n = List.range n → n ≤ l.length → ∀ i, i < n → renF l N i = i := fun {l n N} hl hn i hi => by
    have e : (l.take n)[i]? = some i := by rw [hl, List.getElem?_range hi]
    rw [List.getElem?_take, if_pos hi] at e
    simp [renF, e]
  have so := fun i hi => same (N := st.objs.length) hr hl1 i hi
  have stl := fun i hi => same (N := st.tails.length) htt hl2 i hi
  have hgetT : ∀ {i : Nat}, i < st0.tails.length → st0.tails[i]? = st.tails[renF ts st.tails.length i]? := fun {i} hi => by
    rw [p.tails i _ (List.getElem?_eq_getElem hi), List.getElem?_eq_getElem hi]
  intro g w tmps hinv hh he hN
  refine h (g.sub _ _) w tmps (hinv.part p) ⟨⟨hh.sevo.evo, fun o ho' => ?_, by omega, fun t e sz n hx => ?_, by omega, fun t x' rows' hlt hx' ho' => ?_⟩, hh.below, hh.lim, hh.frame, fun b hb hw => hh.fresh b hb (p.owned hw)⟩ (fun i y hy => ?_) hN
  · show g.ob (renF rs st.objs.length o) = S.g.ob o
    rw [so o ho']
    exact hh.sevo.ob o ho'
  · have hlt : t < S.st.tails.length := (List.getElem?_eq_some_iff.1 hx).1
    obtain ⟨n', a1, a2, a3⟩ := hh.sevo.tails t e sz n hx
    refine ⟨n', ?_, a2, fun e' => ?_⟩
    · rw [hgetT (by omega), stl t hlt]; exact a1
    · show g.tk (renF ts st.tails.length t) = S.g.tk t
      rw [stl t hlt]
      exact a3 e'
  · rw [hgetT (by have := (List.getElem?_eq_some_iff.1 hx').1; exact this), stl t hlt] at hx'
    obtain ⟨y, rows, a1, a2, a3, a4, a5⟩ := hh.sevo.own t x' rows' hlt hx' ho'
    refine ⟨y, rows, a1, a2, a3, a4, fun e' => ?_⟩
    show g.tk (renF ts st.tails.length t) = S.g.tk t
    rw [stl t hlt]
    exact a5 e'
  · have hmap : ∀ {e0 : Env}, lookup i e0 = some y → lookup i (e0.map fun p => (p.1, p.2.ren (renF rs st.objs.length) (renF ts st.tails.length))) = some (y.ren (renF rs st.objs.length) (renF ts st.tails.length)) ∧ (i, y) ∈ e0 := by
      intro e0
      induction e0 with
      | nil => intro hh; cases hh
      | cons q r ih =>
        obtain ⟨j, z⟩ := q
        intro hh
        unfold lookup at hh
        simp only [List.map_cons]
        unfold lookup
        cases hb : Nat.beq i j with
        | true =>
          rw [hb] at hh
          cases hh
          have := Nat.eq_of_beq_eq_true hb
          subst this
          exact ⟨rfl, List.mem_cons_self⟩
        | false =>
          rw [hb] at hh
          exact ⟨(ih hh).1, List.mem_cons_of_mem _ (ih hh).2⟩
    obtain ⟨m1, m2⟩ := hmap hy
    obtain ⟨v, h1, h2⟩ := (he.sub hE) i _ m1
    exact ⟨v, h1, h2.down p.tails (List.all_eq_true.1 hok _ m2)⟩

theorem AOps.reorder {ops rest : List Oper} {env env0 : Env} {st st0 : St} (rs ts : List Nat) (hp : partB rs ts st0 st = true)
    (ho : rs.map (fun r => st.objs[r]?) = st0.objs.map (fun x => some (x.ren (renF rs st.objs.length) (renF ts st.tails.length)))) (ht : ts.map (fun r => st.tails[r]?) = st0.tails.map some)
    (hr : rs.take S.st.objs.length = List.range S.st.objs.length) (htt : ts.take S.st.tails.length = List.range S.st.tails.length) (hl : (Nat.ble S.st.objs.length rs.length && Nat.ble S.st.tails.length ts.length) = true)
    (h5 : st0.objs.all (okObj st0.objs.length st0.tails.length) = true) (hok : (env0.all fun p => okEV st0.objs.length st0.tails.length p.2) = true)
    (hE : SubEnv env (env0.map fun p => (p.1, p.2.ren (renF rs st.objs.length) (renF ts st.tails.length)))) (h : AOps P f N S Q ops rest k env0 st0) : AOps P f N S Q ops rest k env st :=
  fun j hj => .reorder rs ts hp ho ht hr htt hl h5 hok hE (h j hj)
/-- One operation that turns the state. -/
theorem ARun.orders1 {id : Nat} {l : List Oper} {env : Env} {st : St} (p a : Nat) (sts : List St) (hm : P.follows .mixedOrders = true) (hB : drawB l p = true) (ha : a < p) (h0 : sts[0]? = some st)
    (h : XOps P f N S Q l p [a] sts 0 (l.take p) k env) : ARun P f N S Q (.code (.region id l.toArray true) :: k) env st :=
  .orders p hm hB fun _ hσ => .eff hB hσ (hσ.one ha) h0 h
/-- Two, of which one must come ahead. -/
theorem ARun.orders2 {id : Nat} {l : List Oper} {env : Env} {st : St} (p a b : Nat) (sts : List St) (hm : P.follows .mixedOrders = true) (hB : drawB l p = true) (ha : a < p) (hb : b < p) (hab : ((masks l []).getD b 0).testBit a = true) (h0 : sts[0]? = some st)
    (h : XOps P f N S Q l p [a, b] sts 0 (l.take p) k env) : ARun P f N S Q (.code (.region id l.toArray true) :: k) env st :=
  .orders p hm hB fun _ hσ => .eff hB hσ (hσ.two' ha hb hab) h0 h
/-- Two in whatever order. -/
theorem ARun.ordersX {id : Nat} {l : List Oper} {env E0 : Env} {st st0 : St} (p a b : Nat) (sts1 sts2 : List St) (hm : P.follows .mixedOrders = true) (hB : drawB l p = true) (hab : a ≠ b) (ha : a < p) (hb : b < p) (h1 : sts1[0]? = some st) (h2 : sts2[0]? = some st)
    (H1 : AOps P f N S Q l (l.drop p) k E0 st0 → XOps P f N S Q l p [a, b] sts1 0 (l.take p) k env) (H2 : AOps P f N S Q l (l.drop p) k E0 st0 → XOps P f N S Q l p [b, a] sts2 0 (l.take p) k env)
    (h : AOps P f N S Q l (l.drop p) k E0 st0) : ARun P f N S Q (.code (.region id l.toArray true) :: k) env st :=
  .orders p hm hB fun _ hσ => (hσ.two hab ha hb).elim (fun hE => .eff hB hσ hE h1 (H1 h)) (fun hE => .eff hB hσ hE h2 (H2 h))
end run
end Go.Abs

/- Owned rows as the source of appends. -/
set_option linter.unusedSimpArgs false
set_option linter.unusedVariables false
set_option linter.unusedSectionVars false
namespace Go.Abs
open Go.RowKit
section rules
variable {P : Program} {f : FuncId} {N : Nat} {S : Start} {Q : EV → St → Prop} {k : List Item} {todo : List Item} {base : Nat} {env : Env} {st : St} {ops rest : List Oper}
  {d : Option Tmp} {ty : TypeId} {pos : String} {after : Array Edge} {gd : Option (Nat × Bool)} {t t2 e : TypeId} {x y z : Operand}
/-- An owned row, read. -/
theorem srcRep_vc {g : Ghost} {w : World} {tk e sz n : Nat} {rows : List (List D)} {v : Value} (hinv : Inv g base w st) (htl : st.tails[tk]? = some ⟨e, sz, n, some rows⟩) (hv : EVRep g w st (.vc tk n) v) : ∃ news, SrcRep P g.lim w sz v rows news := by
  obtain ⟨hvk, xs, hown, hlim, hrr⟩ := vc_val hinv htl hv
  have hn := hrr.len
  refine ⟨xs, ⟨?_, fun w' hw => ?_, by rw [hown.1, hn], fun u hu => ?_⟩, hrr.row, fun j u c hu hc => hrr.rep j c u hc hu⟩
  · obtain ⟨⟨A, c, rfl⟩, _⟩ := own_form hown
    rw [hn]; rfl
  · have hcells : ∀ gb, v.ownBlock = some gb → ∀ j u, xs[j]? = some u → w.cell? ((⟨gb, 0, none⟩ : Addr).add j) = some u := fun gb hg => hown.cells hg
    have hxl := hown.1
    rcases hown.2 with ⟨h1, h2⟩ | ⟨gb, cap, cur, h1, _⟩
    · subst h1
      have h0 : xs = [] := List.eq_nil_of_length_eq_zero (by rw [hxl, h2]; simp)
      subst h0
      simp [Builtin.firstCells]
    · subst h1
      rw [hn]
      refine run_firstCells_some w' sz n _ _ cap xs hxl fun j u hu => ?_
      have := hcells gb rfl j u hu
      simpa [World.cell?, hw] using this
  · obtain ⟨j, hj⟩ := List.mem_iff_getElem?.1 hu
    have hj' := (List.getElem?_eq_some_iff.1 hj).1
    have hfl := flat_len hrr.row
    exact (hrr.rep j _ u (List.getElem?_eq_getElem (by rw [hfl, hn, ← hown.1]; exact hj')) hj).2
section sl
variable {α : Type} {sz : Nat} {row : α → List D} {l : List α} {ev : EV} {inf : TypeInfo} {tk tk2 n n2 : Nat}
theorem v_appendVV {l' : List α} {zv : Value} {e2 : Nat} (ht : P.underlying t = some (.slice e)) (hi : P.info? e = some inf) (hz : inf.zero = some zv) (hsize : inf.size = sz) (hzs : zv.cells.size = sz) (hb : inf.bytes ≤ 100000)
    (hx : evo env x = some (.vc tk n)) (htl : st.tails[tk]? = some ⟨e, sz, n, some (l.map row)⟩) (hy : evo env y = some (.vc tk2 n2)) (htl2 : st.tails[tk2]? = some ⟨e2, sz, n2, some (l'.map row)⟩) (hn : l.length + l'.length ≤ 1000000000) :
    OpV P base env st ⟨d, .call ⟨.builtin .append, #[x, y], #[t, t]⟩, ty, pos, after, gd⟩ (.vc tk (l ++ l').length) (st.setTail tk ⟨e, sz, (l ++ l').length, some ((l ++ l').map row)⟩) :=
  append_coreV ht ht (.inr ⟨e, rfl⟩) hi hz hsize hzs hb hx htl hn fun g w tmps hinv he => srcRep_vc hinv htl2 (evo_rep he hy)
/-- append([]T{}, x...), x an owned row: data. -/
theorem g_append0V {l' : List α} {zv : Value} {e0 : EV} {e2 : Nat} (ht : P.underlying t = some (.slice e)) (hi : P.info? e = some inf) (hz : inf.zero = some zv) (hsize : inf.size = sz) (hzs : zv.cells.size = sz) (hb : inf.bytes ≤ 100000)
    (hx : evo env x = some e0) (h0 : e0 = .d (.e0 sz) ∨ e0 = .d nilD) (hy : evo env y = some (.vc tk2 n2)) (htl2 : st.tails[tk2]? = some ⟨e2, sz, n2, some (l'.map row)⟩) (hn : l'.length ≤ 1000000000) :
    OpG P env st ⟨d, .call ⟨.builtin .append, #[x, y], #[t, t]⟩, ty, pos, after, gd⟩ (.d (slOf sz row l')) := by
  intro g base w tmps hinv he
  have hn' : (l'.map row).length * inf.bytes ≤ 140737488355328 := by simpa using big_le hn hb
  have h63 : (l'.map row).length ≤ 4611686018427387904 := by simp; omega
  have hdx : DRep g.lim w (.e0 sz) (Act.eval ⟨tmps, []⟩ x) := by
    rcases h0 with rfl | rfl
    · cases evo_rep he hx with | d _ _ h => exact h
    · rw [(evo_rep he hx).ex_inv]; exact .e0 sz none (.inl rfl)
  obtain ⟨news, hsr⟩ := srcRep_vc (P := P) hinv htl2 (evo_rep he hy)
  show (∃ v lim' w', _ ∧ Good g w st (.d (.sl sz (l'.map row))) lim' w' v) ∨ _
  generalize l'.map row = rows' at hsr hn' h63
  generalize hv : Act.eval ⟨tmps, []⟩ x = v at hdx
  generalize hu : Act.eval ⟨tmps, []⟩ y = u at hsr
  cases hdx with
  | e0 _ A hA =>
    have hl := hsr.src.len
    by_cases hm : rows'.length = 0
    · have hr0 : rows' = [] := List.eq_nil_of_length_eq_zero hm
      subst hr0
      have hn0 : news = [] := List.eq_nil_of_length_eq_zero (by simpa using hsr.src.size)
      subst hn0
      have hf := hsr.src.cells w rfl
      refine .inl ⟨.slice A 0 0, g.lim, w, ?_, .d _ _ (D.e0_sl (.e0 sz A hA)), .refl _ _, fun _ _ => rfl⟩
      subst hsize
      simp only [List.length_nil] at hl hf
      cases A <;> simp [execOp, hv, hu, resolve, invoke, builtin, Builtin.append_, run_underlying ht, sizeOf, typeInfo, hi, hl, hf, storeCells]
    · have hfl := flat_len hsr.rows
      have hge := grownCap_ge w rows'.length 0 e
      obtain ⟨lim', h1, h2, h3⟩ := new_row (g := g) (w := w) (w0 := w.drew) (sz := sz) (cap := grownCap w rows'.length 0 e) (rows := rows') (vs := news.toArray ++ Builtin.zeroCells zv.cells (grownCap w rows'.length 0 e - rows'.length)) (e := e) rfl rfl rfl rfl
        hsr.rows hge (by simp [hsr.src.size]) (fun i c v hc hvv => by
          have hi' : i < news.length := by have := (List.getElem?_eq_some_iff.1 hc).1; rw [hsr.src.size]; omega
          rw [Array.getElem?_append_left (by simpa using hi')] at hvv
          exact hsr.rep i v c (by simpa using hvv) hc)
      refine .inl ⟨_, lim', _, ?_, .d _ _ h1, h2, h3⟩
      have hf := hsr.src.cells w.drew rfl
      subst hsize
      have h63' : ¬ (9223372036854775807 < (rows'.length : Int)) := by omega
      have h48' : ¬ (281474976710656 < Builtin.nextslicecap rows'.length 0 * inf.bytes) := by
        have := growslice_fits (need := rows'.length) (old := 0) (by omega) hn'
        omega
      have hfirst : (Builtin.firstCells inf.size 0 (.slice A 0 0)).run P w.drew = .ok #[] w.drew := by cases A <;> simp [Builtin.firstCells, loadCells, loadCellsFrom]
      have hm' : rows' ≠ [] := fun hh => hm (by rw [hh]; rfl)
      simp [execOp, hv, hu, resolve, invoke, builtin, Builtin.append_, run_underlying ht, sizeOf, typeInfo, zeroValue, hi, hz, hl, hm', h63', h48', Question.forced, hfirst, hf, newRow, grownCap]
end sl
end rules
end Go.Abs

set_option linter.unusedVariables false
namespace Go.Proofs.Ytpdanklncjopoaa
open Go.RowKit Go.Abs
theorem hMix : Try.prog.follows .mixedOrders = true := by kernel_rfl
theorem inf_3 : (Try.prog.info? 3).map (fun i => (i.zero, i.size, i.bytes)) = some (some (.int .i64 0), 1, 8) := by kernel_rfl
theorem sz_3 : (Try.prog.info? 3).map (·.size) = some 1 := by kernel_rfl
theorem in_3 : ∃ i, Try.prog.info? 3 = some i ∧ i.zero = some (.int .i64 0) ∧ i.size = 1 ∧ i.bytes = 8 := info_parts inf_3
theorem inf_5 : (Try.prog.info? 5).map (fun i => (i.zero, i.size, i.bytes)) = some (some (.int .u8 0), 1, 1) := by kernel_rfl
theorem sz_5 : (Try.prog.info? 5).map (·.size) = some 1 := by kernel_rfl
theorem in_5 : ∃ i, Try.prog.info? 5 = some i ∧ i.zero = some (.int .u8 0) ∧ i.size = 1 ∧ i.bytes = 1 := info_parts inf_5
theorem inf_34 : (Try.prog.info? 34).map (fun i => (i.zero, i.size, i.bytes)) = some (some (.agg #[.slice none 0 0, .slice none 0 0, .slice none 0 0, .slice none 0 0, .slice none 0 0, .slice none 0 0]), 6, 144) := by kernel_rfl
theorem sz_34 : (Try.prog.info? 34).map (·.size) = some 6 := by kernel_rfl
theorem in_34 : ∃ i, Try.prog.info? 34 = some i ∧ i.zero = some (.agg #[.slice none 0 0, .slice none 0 0, .slice none 0 0, .slice none 0 0, .slice none 0 0, .slice none 0 0]) ∧ i.size = 6 ∧ i.bytes = 144 := info_parts inf_34
theorem inf_39 : (Try.prog.info? 39).map (fun i => (i.zero, i.size, i.bytes)) = some (some (.agg #[.int .i64 0, .int .i64 0, .int .i64 0, .int .i64 0, .int .i64 0, .int .i64 0]), 6, 48) := by kernel_rfl
theorem sz_39 : (Try.prog.info? 39).map (·.size) = some 6 := by kernel_rfl
theorem in_39 : ∃ i, Try.prog.info? 39 = some i ∧ i.zero = some (.agg #[.int .i64 0, .int .i64 0, .int .i64 0, .int .i64 0, .int .i64 0, .int .i64 0]) ∧ i.size = 6 ∧ i.bytes = 48 := info_parts inf_39
theorem inf_42 : (Try.prog.info? 42).map (fun i => (i.zero, i.size, i.bytes)) = some (some (.slice none 0 0), 1, 24) := by kernel_rfl
theorem sz_42 : (Try.prog.info? 42).map (·.size) = some 1 := by kernel_rfl
theorem in_42 : ∃ i, Try.prog.info? 42 = some i ∧ i.zero = some (.slice none 0 0) ∧ i.size = 1 ∧ i.bytes = 24 := info_parts inf_42
theorem inf_52 : (Try.prog.info? 52).map (fun i => (i.zero, i.size, i.bytes)) = some (some (.agg #[.int .i64 0, .int .i64 0, .int .i64 0, .int .i64 0, .string ⟨#[]⟩, .string ⟨#[]⟩, .int .i64 0, .int .i64 0, .int .i64 0, .bool false, .int .i64 0, .int .i64 0]), 12, 112) := by kernel_rfl
theorem sz_52 : (Try.prog.info? 52).map (·.size) = some 12 := by kernel_rfl
theorem in_52 : ∃ i, Try.prog.info? 52 = some i ∧ i.zero = some (.agg #[.int .i64 0, .int .i64 0, .int .i64 0, .int .i64 0, .string ⟨#[]⟩, .string ⟨#[]⟩, .int .i64 0, .int .i64 0, .int .i64 0, .bool false, .int .i64 0, .int .i64 0]) ∧ i.size = 12 ∧ i.bytes = 112 := info_parts inf_52
theorem inf_58 : (Try.prog.info? 58).map (fun i => (i.zero, i.size, i.bytes)) = some (some (.agg #[.int .i64 0, .int .i64 0, .int .i64 0, .int .i64 0, .string ⟨#[]⟩, .string ⟨#[]⟩, .int .i64 0, .int .i64 0, .int .i64 0, .bool false, .int .i64 0, .int .i64 0, .int .i64 0, .string ⟨#[]⟩, .int .i64 0, .string ⟨#[]⟩, .slice none 0 0, .slice none 0 0, .int .i64 0, .int .i64 0, .int .i64 0, .slice none 0 0, .int .i64 0, .int .i64 0]), 24, 272) := by kernel_rfl
theorem sz_58 : (Try.prog.info? 58).map (·.size) = some 24 := by kernel_rfl
theorem in_58 : ∃ i, Try.prog.info? 58 = some i ∧ i.zero = some (.agg #[.int .i64 0, .int .i64 0, .int .i64 0, .int .i64 0, .string ⟨#[]⟩, .string ⟨#[]⟩, .int .i64 0, .int .i64 0, .int .i64 0, .bool false, .int .i64 0, .int .i64 0, .int .i64 0, .string ⟨#[]⟩, .int .i64 0, .string ⟨#[]⟩, .slice none 0 0, .slice none 0 0, .int .i64 0, .int .i64 0, .int .i64 0, .slice none 0 0, .int .i64 0, .int .i64 0]) ∧ i.size = 24 ∧ i.bytes = 272 := info_parts inf_58
theorem inf_60 : (Try.prog.info? 60).map (fun i => (i.zero, i.size, i.bytes)) = some (some (.agg #[.int .i64 0, .int .i64 0, .int .i64 0, .int .i64 0]), 4, 32) := by kernel_rfl
theorem sz_60 : (Try.prog.info? 60).map (·.size) = some 4 := by kernel_rfl
theorem in_60 : ∃ i, Try.prog.info? 60 = some i ∧ i.zero = some (.agg #[.int .i64 0, .int .i64 0, .int .i64 0, .int .i64 0]) ∧ i.size = 4 ∧ i.bytes = 32 := info_parts inf_60
theorem inf_64 : (Try.prog.info? 64).map (fun i => (i.zero, i.size, i.bytes)) = some (some (.agg #[.int .i64 0, .int .i64 0, .string ⟨#[]⟩, .string ⟨#[]⟩, .int .i64 0, .int .i64 0, .int .i64 0, .int .i64 0]), 8, 80) := by kernel_rfl
theorem sz_64 : (Try.prog.info? 64).map (·.size) = some 8 := by kernel_rfl
theorem in_64 : ∃ i, Try.prog.info? 64 = some i ∧ i.zero = some (.agg #[.int .i64 0, .int .i64 0, .string ⟨#[]⟩, .string ⟨#[]⟩, .int .i64 0, .int .i64 0, .int .i64 0, .int .i64 0]) ∧ i.size = 8 ∧ i.bytes = 80 := info_parts inf_64
theorem inf_75 : (Try.prog.info? 75).map (fun i => (i.zero, i.size, i.bytes)) = some (some (.agg #[.int .i64 0, .int .i64 0, .int .i64 0, .slice none 0 0, .slice none 0 0, .int .i64 0, .int .i64 0, .int .i64 0]), 8, 96) := by kernel_rfl
theorem sz_75 : (Try.prog.info? 75).map (·.size) = some 8 := by kernel_rfl
theorem in_75 : ∃ i, Try.prog.info? 75 = some i ∧ i.zero = some (.agg #[.int .i64 0, .int .i64 0, .int .i64 0, .slice none 0 0, .slice none 0 0, .int .i64 0, .int .i64 0, .int .i64 0]) ∧ i.size = 8 ∧ i.bytes = 96 := info_parts inf_75
theorem inf_78 : (Try.prog.info? 78).map (fun i => (i.zero, i.size, i.bytes)) = some (some (.agg #[.int .i64 0, .string ⟨#[]⟩, .slice none 0 0]), 3, 48) := by kernel_rfl
theorem sz_78 : (Try.prog.info? 78).map (·.size) = some 3 := by kernel_rfl
theorem in_78 : ∃ i, Try.prog.info? 78 = some i ∧ i.zero = some (.agg #[.int .i64 0, .string ⟨#[]⟩, .slice none 0 0]) ∧ i.size = 3 ∧ i.bytes = 48 := info_parts inf_78
theorem inf_80 : (Try.prog.info? 80).map (fun i => (i.zero, i.size, i.bytes)) = some (some (.agg #[.string ⟨#[]⟩, .int .i64 0]), 2, 24) := by kernel_rfl
theorem sz_80 : (Try.prog.info? 80).map (·.size) = some 2 := by kernel_rfl
theorem in_80 : ∃ i, Try.prog.info? 80 = some i ∧ i.zero = some (.agg #[.string ⟨#[]⟩, .int .i64 0]) ∧ i.size = 2 ∧ i.bytes = 24 := info_parts inf_80
theorem inf_90 : (Try.prog.info? 90).map (fun i => (i.zero, i.size, i.bytes)) = some (some (.agg #[.int .i64 0, .int .i64 0, .int .i64 0, .int .i64 0]), 4, 32) := by kernel_rfl
theorem sz_90 : (Try.prog.info? 90).map (·.size) = some 4 := by kernel_rfl
theorem in_90 : ∃ i, Try.prog.info? 90 = some i ∧ i.zero = some (.agg #[.int .i64 0, .int .i64 0, .int .i64 0, .int .i64 0]) ∧ i.size = 4 ∧ i.bytes = 32 := info_parts inf_90
theorem inf_107 : (Try.prog.info? 107).map (fun i => (i.zero, i.size, i.bytes)) = some (some (.agg #[.int .i64 0, .int .i64 0, .int .i64 0]), 3, 24) := by kernel_rfl
theorem sz_107 : (Try.prog.info? 107).map (·.size) = some 3 := by kernel_rfl
theorem in_107 : ∃ i, Try.prog.info? 107 = some i ∧ i.zero = some (.agg #[.int .i64 0, .int .i64 0, .int .i64 0]) ∧ i.size = 3 ∧ i.bytes = 24 := info_parts inf_107
theorem inf_126 : (Try.prog.info? 126).map (fun i => (i.zero, i.size, i.bytes)) = some (some (.agg #[.int .i64 0, .int .i64 0, .int .i64 0]), 3, 24) := by kernel_rfl
theorem sz_126 : (Try.prog.info? 126).map (·.size) = some 3 := by kernel_rfl
theorem in_126 : ∃ i, Try.prog.info? 126 = some i ∧ i.zero = some (.agg #[.int .i64 0, .int .i64 0, .int .i64 0]) ∧ i.size = 3 ∧ i.bytes = 24 := info_parts inf_126
theorem fo_30_0 : fieldOff Try.prog 30 0 = some 0 := by kernel_rfl
theorem fo_30_1 : fieldOff Try.prog 30 1 = some 1 := by kernel_rfl
theorem fo_30_2 : fieldOff Try.prog 30 2 = some 2 := by kernel_rfl
theorem fo_34_0 : fieldOff Try.prog 34 0 = some 0 := by kernel_rfl
theorem fo_34_1 : fieldOff Try.prog 34 1 = some 3 := by kernel_rfl
theorem fo_34_2 : fieldOff Try.prog 34 2 = some 4 := by kernel_rfl
theorem fo_34_3 : fieldOff Try.prog 34 3 = some 5 := by kernel_rfl
theorem fo_39_0 : fieldOff Try.prog 39 0 = some 0 := by kernel_rfl
theorem fo_39_1 : fieldOff Try.prog 39 1 = some 1 := by kernel_rfl
theorem fo_39_2 : fieldOff Try.prog 39 2 = some 2 := by kernel_rfl
theorem fo_39_3 : fieldOff Try.prog 39 3 = some 3 := by kernel_rfl
theorem fo_39_4 : fieldOff Try.prog 39 4 = some 4 := by kernel_rfl
theorem fo_39_5 : fieldOff Try.prog 39 5 = some 5 := by kernel_rfl
theorem fo_52_0 : fieldOff Try.prog 52 0 = some 0 := by kernel_rfl
theorem fo_52_3 : fieldOff Try.prog 52 3 = some 3 := by kernel_rfl
theorem fo_52_7 : fieldOff Try.prog 52 7 = some 7 := by kernel_rfl
theorem fo_58_0 : fieldOff Try.prog 58 0 = some 0 := by kernel_rfl
theorem fo_58_12 : fieldOff Try.prog 58 12 = some 23 := by kernel_rfl
theorem fo_60_0 : fieldOff Try.prog 60 0 = some 0 := by kernel_rfl
theorem fo_60_1 : fieldOff Try.prog 60 1 = some 1 := by kernel_rfl
theorem fo_60_2 : fieldOff Try.prog 60 2 = some 2 := by kernel_rfl
theorem fo_60_3 : fieldOff Try.prog 60 3 = some 3 := by kernel_rfl
theorem fo_64_0 : fieldOff Try.prog 64 0 = some 0 := by kernel_rfl
theorem fo_64_1 : fieldOff Try.prog 64 1 = some 1 := by kernel_rfl
theorem fo_64_6 : fieldOff Try.prog 64 6 = some 6 := by kernel_rfl
theorem fo_75_0 : fieldOff Try.prog 75 0 = some 0 := by kernel_rfl
theorem fo_75_6 : fieldOff Try.prog 75 6 = some 7 := by kernel_rfl
theorem fo_78_0 : fieldOff Try.prog 78 0 = some 0 := by kernel_rfl
theorem fo_78_1 : fieldOff Try.prog 78 1 = some 1 := by kernel_rfl
theorem fo_78_2 : fieldOff Try.prog 78 2 = some 2 := by kernel_rfl
theorem fo_80_0 : fieldOff Try.prog 80 0 = some 0 := by kernel_rfl
theorem fo_80_1 : fieldOff Try.prog 80 1 = some 1 := by kernel_rfl
theorem fo_90_3 : fieldOff Try.prog 90 3 = some 3 := by kernel_rfl
theorem fo_126_1 : fieldOff Try.prog 126 1 = some 1 := by kernel_rfl
theorem fo_126_2 : fieldOff Try.prog 126 2 = some 2 := by kernel_rfl
theorem one_3 : (Try.prog.underlying 3).map oneB = some true := by kernel_rfl
theorem one_9 : (Try.prog.underlying 9).map oneB = some true := by kernel_rfl
theorem one_26 : (Try.prog.underlying 26).map oneB = some true := by kernel_rfl
theorem one_27 : (Try.prog.underlying 27).map oneB = some true := by kernel_rfl
theorem one_28 : (Try.prog.underlying 28).map oneB = some true := by kernel_rfl
theorem one_31 : (Try.prog.underlying 31).map oneB = some true := by kernel_rfl
theorem one_32 : (Try.prog.underlying 32).map oneB = some true := by kernel_rfl
theorem one_34 : (Try.prog.underlying 34).map oneB = some false := by kernel_rfl
theorem one_39 : (Try.prog.underlying 39).map oneB = some false := by kernel_rfl
theorem one_42 : (Try.prog.underlying 42).map oneB = some true := by kernel_rfl
theorem one_52 : (Try.prog.underlying 52).map oneB = some false := by kernel_rfl
theorem one_58 : (Try.prog.underlying 58).map oneB = some false := by kernel_rfl
theorem one_60 : (Try.prog.underlying 60).map oneB = some false := by kernel_rfl
theorem one_64 : (Try.prog.underlying 64).map oneB = some false := by kernel_rfl
theorem one_75 : (Try.prog.underlying 75).map oneB = some false := by kernel_rfl
theorem one_76 : (Try.prog.underlying 76).map oneB = some true := by kernel_rfl
theorem one_78 : (Try.prog.underlying 78).map oneB = some false := by kernel_rfl
theorem one_80 : (Try.prog.underlying 80).map oneB = some false := by kernel_rfl
theorem one_90 : (Try.prog.underlying 90).map oneB = some false := by kernel_rfl
theorem one_126 : (Try.prog.underlying 126).map oneB = some false := by kernel_rfl
theorem pl_34 : placesOf Try.prog 34 = some [(0, 3), (3, 1), (4, 1), (5, 1)] := by kernel_rfl
theorem pl_39 : placesOf Try.prog 39 = some [(0, 1), (1, 1), (2, 1), (3, 1), (4, 1), (5, 1)] := by kernel_rfl
theorem pl_52 : placesOf Try.prog 52 = some [(0, 1), (1, 1), (2, 1), (3, 1), (4, 1), (5, 1), (6, 1), (7, 1), (8, 1), (9, 1), (10, 1), (11, 1)] := by kernel_rfl
theorem pl_58 : placesOf Try.prog 58 = some [(0, 12), (12, 1), (13, 1), (14, 1), (15, 1), (16, 1), (17, 1), (18, 1), (19, 1), (20, 1), (21, 1), (22, 1), (23, 1)] := by kernel_rfl
theorem pl_60 : placesOf Try.prog 60 = some [(0, 1), (1, 1), (2, 1), (3, 1)] := by kernel_rfl
theorem pl_64 : placesOf Try.prog 64 = some [(0, 1), (1, 1), (2, 1), (3, 1), (4, 1), (5, 1), (6, 1), (7, 1)] := by kernel_rfl
theorem pl_78 : placesOf Try.prog 78 = some [(0, 1), (1, 1), (2, 1)] := by kernel_rfl
theorem zr_39 : (Try.prog.info? 39).bind (·.zero) = some (.agg #[.int .i64 0, .int .i64 0, .int .i64 0, .int .i64 0, .int .i64 0, .int .i64 0]) := by kernel_rfl
theorem zr_42 : (Try.prog.info? 42).bind (·.zero) = some (.slice none 0 0) := by kernel_rfl
theorem zr_52 : (Try.prog.info? 52).bind (·.zero) = some (.agg #[.int .i64 0, .int .i64 0, .int .i64 0, .int .i64 0, .string ⟨#[]⟩, .string ⟨#[]⟩, .int .i64 0, .int .i64 0, .int .i64 0, .bool false, .int .i64 0, .int .i64 0]) := by kernel_rfl
theorem zr_58 : (Try.prog.info? 58).bind (·.zero) = some (.agg #[.int .i64 0, .int .i64 0, .int .i64 0, .int .i64 0, .string ⟨#[]⟩, .string ⟨#[]⟩, .int .i64 0, .int .i64 0, .int .i64 0, .bool false, .int .i64 0, .int .i64 0, .int .i64 0, .string ⟨#[]⟩, .int .i64 0, .string ⟨#[]⟩, .slice none 0 0, .slice none 0 0, .int .i64 0, .int .i64 0, .int .i64 0, .slice none 0 0, .int .i64 0, .int .i64 0]) := by kernel_rfl
theorem zr_60 : (Try.prog.info? 60).bind (·.zero) = some (.agg #[.int .i64 0, .int .i64 0, .int .i64 0, .int .i64 0]) := by kernel_rfl
theorem zr_64 : (Try.prog.info? 64).bind (·.zero) = some (.agg #[.int .i64 0, .int .i64 0, .string ⟨#[]⟩, .string ⟨#[]⟩, .int .i64 0, .int .i64 0, .int .i64 0, .int .i64 0]) := by kernel_rfl
theorem zr_75 : (Try.prog.info? 75).bind (·.zero) = some (.agg #[.int .i64 0, .int .i64 0, .int .i64 0, .slice none 0 0, .slice none 0 0, .int .i64 0, .int .i64 0, .int .i64 0]) := by kernel_rfl
theorem zr_78 : (Try.prog.info? 78).bind (·.zero) = some (.agg #[.int .i64 0, .string ⟨#[]⟩, .slice none 0 0]) := by kernel_rfl
theorem zr_80 : (Try.prog.info? 80).bind (·.zero) = some (.agg #[.string ⟨#[]⟩, .int .i64 0]) := by kernel_rfl
theorem zr_90 : (Try.prog.info? 90).bind (·.zero) = some (.agg #[.int .i64 0, .int .i64 0, .int .i64 0, .int .i64 0]) := by kernel_rfl
theorem zr_126 : (Try.prog.info? 126).bind (·.zero) = some (.agg #[.int .i64 0, .int .i64 0, .int .i64 0]) := by kernel_rfl
theorem zr_128 : (Try.prog.info? 128).bind (·.zero) = some (.agg #[.int .u8 0, .int .u8 0, .int .u8 0, .int .u8 0, .int .u8 0, .int .u8 0, .int .u8 0, .int .u8 0, .int .u8 0, .int .u8 0, .int .u8 0, .int .u8 0, .int .u8 0, .int .u8 0, .int .u8 0, .int .u8 0, .int .u8 0, .int .u8 0, .int .u8 0, .int .u8 0]) := by kernel_rfl
theorem fk_52 : flatKinds Try.prog 52 = some [.i .i64, .i .i64, .i .i64, .i .i64, .s, .s, .i .i64, .i .i64, .i .i64, .b, .i .i64, .i .i64] := by kernel_rfl
theorem fk_60 : flatKinds Try.prog 60 = some [.i .i64, .i .i64, .i .i64, .i .i64] := by kernel_rfl
theorem en_10 : Go.Abs.Enters Try.prog 10 := ⟨_, Try.func10, by kernel_rfl, rfl⟩
theorem en_13 : Go.Abs.Enters Try.prog 13 := ⟨_, Try.func13, by kernel_rfl, rfl⟩
theorem en_14 : Go.Abs.Enters Try.prog 14 := ⟨_, Try.func14, by kernel_rfl, rfl⟩
theorem en_17 : Go.Abs.Enters Try.prog 17 := ⟨_, Try.func17, by kernel_rfl, rfl⟩
theorem en_19 : Go.Abs.Enters Try.prog 19 := ⟨_, Try.func19, by kernel_rfl, rfl⟩
theorem en_21 : Go.Abs.Enters Try.prog 21 := ⟨_, Try.func21, by kernel_rfl, rfl⟩
theorem en_23 : Go.Abs.Enters Try.prog 23 := ⟨_, Try.func23, by kernel_rfl, rfl⟩
theorem en_25 : Go.Abs.Enters Try.prog 25 := ⟨_, Try.func25, by kernel_rfl, rfl⟩
theorem en_26 : Go.Abs.Enters Try.prog 26 := ⟨_, Try.func26, by kernel_rfl, rfl⟩
theorem en_27 : Go.Abs.Enters Try.prog 27 := ⟨_, Try.func27, by kernel_rfl, rfl⟩
theorem en_31 : Go.Abs.Enters Try.prog 31 := ⟨_, Try.func31, by kernel_rfl, rfl⟩
theorem en_32 : Go.Abs.Enters Try.prog 32 := ⟨_, Try.func32, by kernel_rfl, rfl⟩
theorem en_34 : Go.Abs.Enters Try.prog 34 := ⟨_, Try.func34, by kernel_rfl, rfl⟩
theorem en_35 : Go.Abs.Enters Try.prog 35 := ⟨_, Try.func35, by kernel_rfl, rfl⟩
theorem en_36 : Go.Abs.Enters Try.prog 36 := ⟨_, Try.func36, by kernel_rfl, rfl⟩
theorem en_38 : Go.Abs.Enters Try.prog 38 := ⟨_, Try.func38, by kernel_rfl, rfl⟩
theorem en_39 : Go.Abs.Enters Try.prog 39 := ⟨_, Try.func39, by kernel_rfl, rfl⟩
theorem en_41 : Go.Abs.Enters Try.prog 41 := ⟨_, Try.func41, by kernel_rfl, rfl⟩
theorem en_42 : Go.Abs.Enters Try.prog 42 := ⟨_, Try.func42, by kernel_rfl, rfl⟩
theorem en_43 : Go.Abs.Enters Try.prog 43 := ⟨_, Try.func43, by kernel_rfl, rfl⟩
theorem en_44 : Go.Abs.Enters Try.prog 44 := ⟨_, Try.func44, by kernel_rfl, rfl⟩
theorem en_49 : Go.Abs.Enters Try.prog 49 := ⟨_, Try.func49, by kernel_rfl, rfl⟩
theorem en_51 : Go.Abs.Enters Try.prog 51 := ⟨_, Try.func51, by kernel_rfl, rfl⟩
end Go.Proofs.Ytpdanklncjopoaa

set_option linter.unusedSimpArgs false
set_option linter.unusedVariables false
namespace Go.Proofs.Ytpdanklncjopoaa
open Go.RowKit Go.Abs
structure Usage where
  id : Int
  kind : Int
  account : Int
  sub : Int
  a : (List UInt8)
  b : (List UInt8)
  start : Int
  units : Int
  trunk : Int
  inbound : Bool
  source : Int
  serial : Int
instance : Inhabited Usage := ⟨⟨default, default, default, default, default, default, default, default, default, default, default, default⟩⟩
def Usage.row (x : Usage) : List D := [cI x.id, cI x.kind, cI x.account, cI x.sub, cS x.a, cS x.b, cI x.start, cI x.units, cI x.trunk, cB x.inbound, cI x.source, cI x.serial]
def Usage.vals (x : Usage) : List Value := [.int .i64 x.id, .int .i64 x.kind, .int .i64 x.account, .int .i64 x.sub, .string ⟨x.a.toArray⟩, .string ⟨x.b.toArray⟩, .int .i64 x.start, .int .i64 x.units, .int .i64 x.trunk, .bool x.inbound, .int .i64 x.source, .int .i64 x.serial]
structure Leak where
  ctl : Int
  key : Int
  left : Int
  right : Int
instance : Inhabited Leak := ⟨⟨default, default, default, default⟩⟩
def Leak.row (x : Leak) : List D := [cI x.ctl, cI x.key, cI x.left, cI x.right]
def Leak.vals (x : Leak) : List Value := [.int .i64 x.ctl, .int .i64 x.key, .int .i64 x.left, .int .i64 x.right]
structure Take where
  sub : Int
  product : (List UInt8)
  index : Int
  from_ : Int
  units : Int
instance : Inhabited Take := ⟨⟨default, default, default, default, default⟩⟩
def Take.row (x : Take) : List D := [cI x.sub, cS x.product, cI x.index, cI x.from_, cI x.units]
def Take.vals (x : Take) : List Value := [.int .i64 x.sub, .string ⟨x.product.toArray⟩, .int .i64 x.index, .int .i64 x.from_, .int .i64 x.units]
structure Segment where
  band : (List UInt8)
  start : Int
  units : Int
  amount : Int
instance : Inhabited Segment := ⟨⟨default, default, default, default⟩⟩
def Segment.row (x : Segment) : List D := [cS x.band, cI x.start, cI x.units, cI x.amount]
def Segment.vals (x : Segment) : List Value := [.string ⟨x.band.toArray⟩, .int .i64 x.start, .int .i64 x.units, .int .i64 x.amount]
structure Given where
  name : (List UInt8)
  amount : Int
instance : Inhabited Given := ⟨⟨default, default⟩⟩
def Given.row (x : Given) : List D := [cS x.name, cI x.amount]
def Given.vals (x : Given) : List Value := [.string ⟨x.name.toArray⟩, .int .i64 x.amount]
structure Rated where
  usage : Usage
  err : Int
  plan : (List UInt8)
  version : Int
  zone : (List UInt8)
  takes : (List Take)
  segments : (List Segment)
  setup : Int
  gross : Int
  net : Int
  given : (List Given)
  paid : Int
  owed : Int
instance : Inhabited Rated := ⟨⟨default, default, default, default, default, default, default, default, default, default, default, default, default⟩⟩
def Rated.row (x : Rated) : List D := [cI x.usage.id, cI x.usage.kind, cI x.usage.account, cI x.usage.sub, cS x.usage.a, cS x.usage.b, cI x.usage.start, cI x.usage.units, cI x.usage.trunk, cB x.usage.inbound, cI x.usage.source, cI x.usage.serial, cI x.err, cS x.plan, cI x.version, cS x.zone, slOf 5 Take.row x.takes, slOf 4 Segment.row x.segments, cI x.setup, cI x.gross, cI x.net, slOf 2 Given.row x.given, cI x.paid, cI x.owed]
structure Line where
  kind : Int
  sub : Int
  name : (List UInt8)
  category : (List UInt8)
  count : Int
  units : Int
  amount : Int
  rounded : Int
instance : Inhabited Line := ⟨⟨default, default, default, default, default, default, default, default⟩⟩
def Line.row (x : Line) : List D := [cI x.kind, cI x.sub, cS x.name, cS x.category, cI x.count, cI x.units, cI x.amount, cI x.rounded]
def Line.vals (x : Line) : List Value := [.int .i64 x.kind, .int .i64 x.sub, .string ⟨x.name.toArray⟩, .string ⟨x.category.toArray⟩, .int .i64 x.count, .int .i64 x.units, .int .i64 x.amount, .int .i64 x.rounded]
structure Range where
  source : Int
  from_ : Int
  to_ : Int
instance : Inhabited Range := ⟨⟨default, default, default⟩⟩
def Range.row (x : Range) : List D := [cI x.source, cI x.from_, cI x.to_]
def Range.vals (x : Range) : List Value := [.int .i64 x.source, .int .i64 x.from_, .int .i64 x.to_]
structure Balance where
  read : Int
  accepted : Int
  merged : Int
  rejected : Int
  suspended : Int
  open_ : Int
instance : Inhabited Balance := ⟨⟨default, default, default, default, default, default⟩⟩
def Balance.row (x : Balance) : List D := [cI x.read, cI x.accepted, cI x.merged, cI x.rejected, cI x.suspended, cI x.open_]
def Balance.vals (x : Balance) : List Value := [.int .i64 x.read, .int .i64 x.accepted, .int .i64 x.merged, .int .i64 x.rejected, .int .i64 x.suspended, .int .i64 x.open_]
structure Record where
  source : Int
  serial : Int
  kind : Int
  a : (List UInt8)
  b : (List UInt8)
  start : Int
  units : Int
  call : Int
  part : Int
  last : Bool
  trunk : Int
  inbound : Bool
instance : Inhabited Record := ⟨⟨default, default, default, default, default, default, default, default, default, default, default, default⟩⟩
def Record.row (x : Record) : List D := [cI x.source, cI x.serial, cI x.kind, cS x.a, cS x.b, cI x.start, cI x.units, cI x.call, cI x.part, cB x.last, cI x.trunk, cB x.inbound]
def Record.vals (x : Record) : List Value := [.int .i64 x.source, .int .i64 x.serial, .int .i64 x.kind, .string ⟨x.a.toArray⟩, .string ⟨x.b.toArray⟩, .int .i64 x.start, .int .i64 x.units, .int .i64 x.call, .int .i64 x.part, .bool x.last, .int .i64 x.trunk, .bool x.inbound]
structure Head where
  source : Int
  number : Int
  format : Int
  count : Int
instance : Inhabited Head := ⟨⟨default, default, default, default⟩⟩
def Head.row (x : Head) : List D := [cI x.source, cI x.number, cI x.format, cI x.count]
def Head.vals (x : Head) : List Value := [.int .i64 x.source, .int .i64 x.number, .int .i64 x.format, .int .i64 x.count]
structure Intake where
  seen : (List Range)
  open_ : (List Record)
  heads : (List Head)
instance : Inhabited Intake := ⟨⟨default, default, default⟩⟩
def Intake.row (x : Intake) : List D := [slOf 3 Range.row x.seen, slOf 12 Record.row x.open_, slOf 4 Head.row x.heads]
structure Reject where
  source : Int
  serial : Int
  index : Int
  err : Int
instance : Inhabited Reject := ⟨⟨default, default, default, default⟩⟩
def Reject.row (x : Reject) : List D := [cI x.source, cI x.serial, cI x.index, cI x.err]
def Reject.vals (x : Reject) : List Value := [.int .i64 x.source, .int .i64 x.serial, .int .i64 x.index, .int .i64 x.err]
structure Mediation where
  intake : Intake
  usages : (List Usage)
  suspense : (List Record)
  rejects : (List Reject)
instance : Inhabited Mediation := ⟨⟨default, default, default, default⟩⟩
def Mediation.row (x : Mediation) : List D := [slOf 3 Range.row x.intake.seen, slOf 12 Record.row x.intake.open_, slOf 4 Head.row x.intake.heads, slOf 12 Usage.row x.usages, slOf 12 Record.row x.suspense, slOf 4 Reject.row x.rejects]
structure Post where
  account : (List UInt8)
  amount : Int
instance : Inhabited Post := ⟨⟨default, default⟩⟩
def Post.row (x : Post) : List D := [cS x.account, cI x.amount]
def Post.vals (x : Post) : List Value := [.string ⟨x.account.toArray⟩, .int .i64 x.amount]
structure Entry where
  at_ : Int
  text : (List UInt8)
  posts : (List Post)
instance : Inhabited Entry := ⟨⟨default, default, default⟩⟩
def Entry.row (x : Entry) : List D := [cI x.at_, cS x.text, slOf 2 Post.row x.posts]
structure Period where
  from_ : Int
  to_ : Int
instance : Inhabited Period := ⟨⟨default, default⟩⟩
def Period.row (x : Period) : List D := [cI x.from_, cI x.to_]
def Period.vals (x : Period) : List Value := [.int .i64 x.from_, .int .i64 x.to_]
structure TaxLine where
  category : (List UInt8)
  points : Int
  base : Int
  rounded : Int
instance : Inhabited TaxLine := ⟨⟨default, default, default, default⟩⟩
def TaxLine.row (x : TaxLine) : List D := [cS x.category, cI x.points, cI x.base, cI x.rounded]
def TaxLine.vals (x : TaxLine) : List Value := [.string ⟨x.category.toArray⟩, .int .i64 x.points, .int .i64 x.base, .int .i64 x.rounded]
structure Invoice where
  account : Int
  period : Period
  lines : (List Line)
  taxes : (List TaxLine)
  net : Int
  tax : Int
  total : Int
instance : Inhabited Invoice := ⟨⟨default, default, default, default, default, default, default⟩⟩
def Invoice.row (x : Invoice) : List D := [cI x.account, cI x.period.from_, cI x.period.to_, slOf 8 Line.row x.lines, slOf 4 TaxLine.row x.taxes, cI x.net, cI x.tax, cI x.total]
def f_billinglaw54_usages_j1 (v0list : List Usage) : Option Bool :=
  some (decide ((v0list.length : Int) ≤ 24))
def f_billinglaw54_usages_l1 (v0list : List Usage) (v3il1 : Int) : Option ((Int) ⊕ Bool) :=
  if ((decide (v3il1 < (v0list.length : Int))) && (decide (v3il1 ≤ 24))) = true then (ck ((0 : Int) ≤ v3il1 ∧ v3il1 < (v0list.length : Int)) (ck ((!(decide (((nth v0list (Int.toNat (v3il1))).units) < 0))) = true → ((0 : Int) ≤ v3il1 ∧ v3il1 < (v0list.length : Int))) (if ((decide (((nth v0list (Int.toNat (v3il1))).units) < 0)) || (decide (((nth v0list (Int.toNat (v3il1))).units) > 1099511627776))) = true then some (.inr false) else ck ((-9223372036854775808 : Int) ≤ v3il1 + 1 ∧ v3il1 + 1 ≤ (9223372036854775807 : Int)) (some (.inl (v3il1 + 1)))))) else (f_billinglaw54_usages_j1 v0list).map (fun z => .inr z)
def f_billinglaw54_usages (v0list : List Usage) : Option Bool :=
  loop (fun s => f_billinglaw54_usages_l1 v0list s) 0
def f_assure_keys_j1 (v0list : List Int) (v1n : Int) (v5atj1 : Int) : Option (List Int) :=
  ck ((decide (v5atj1 < (v0list.length : Int))) = true → ((0 : Int) ≤ v5atj1 ∧ v5atj1 < (v0list.length : Int))) (if ((decide (v5atj1 < (v0list.length : Int))) && ((nth v0list (Int.toNat (v5atj1))) == v1n)) = true then some v0list else ck ((0 : Int) ≤ v5atj1 ∧ v5atj1 ≤ (v0list.length : Int)) (ck ((v0list.take (Int.toNat (v5atj1))).length ≤ 1000000000) (ck ((v0list.take (Int.toNat (v5atj1))).length + ([v1n] : List Int).length ≤ 1000000000) (ck ((0 : Int) ≤ v5atj1 ∧ v5atj1 ≤ (v0list.length : Int)) (ck (((v0list.take (Int.toNat (v5atj1))) ++ ([v1n] : List Int)).length + (v0list.drop (Int.toNat (v5atj1))).length ≤ 1000000000) (some (((v0list.take (Int.toNat (v5atj1))) ++ ([v1n] : List Int)) ++ (v0list.drop (Int.toNat (v5atj1))))))))))
def f_assure_keys_l1 (v0list : List Int) (v1n : Int) (v5atl1 : Int) (v6endl1 : Int) : Option ((Int × Int) ⊕ (List Int)) :=
  if (decide (v5atl1 < v6endl1)) = true then (ck ((-9223372036854775808 : Int) ≤ v5atl1 + v6endl1 ∧ v5atl1 + v6endl1 ≤ (9223372036854775807 : Int)) (ck (2 ≠ (0 : Int) ∧ (-9223372036854775808 : Int) ≤ Int.tdiv (v5atl1 + v6endl1) 2 ∧ Int.tdiv (v5atl1 + v6endl1) 2 ≤ (9223372036854775807 : Int)) (ck ((0 : Int) ≤ (Int.tdiv (v5atl1 + v6endl1) 2) ∧ (Int.tdiv (v5atl1 + v6endl1) 2) < (v0list.length : Int)) (if (decide ((nth v0list (Int.toNat (Int.tdiv (v5atl1 + v6endl1) 2))) < v1n)) = true then (ck ((-9223372036854775808 : Int) ≤ (Int.tdiv (v5atl1 + v6endl1) 2) + 1 ∧ (Int.tdiv (v5atl1 + v6endl1) 2) + 1 ≤ (9223372036854775807 : Int)) (some (.inl ((Int.tdiv (v5atl1 + v6endl1) 2) + 1, v6endl1)))) else some (.inl (v5atl1, Int.tdiv (v5atl1 + v6endl1) 2)))))) else (f_assure_keys_j1 v0list v1n v5atl1).map (fun z => .inr z)
def f_assure_keys (v0list : List Int) (v1n : Int) : Option (List Int) :=
  loop (fun s => f_assure_keys_l1 v0list v1n s.1 s.2) (0, (v0list.length : Int))
def f_assure_Usages_l1 (o0c0j1 : List (Int × Int)) (o2c0j1 : List (Int × Usage)) (v5j2 : List Int) (o1c0j2 : List (Int × Int)) (o3c0j2 : List (Int × Usage)) (v15l1 : List Leak) (v76l1 : Int) : Option ((List Leak × Int) ⊕ (List Leak)) :=
  if (decide (v76l1 < (v5j2.length : Int))) = true then (ck ((0 : Int) ≤ v76l1 ∧ v76l1 < (v5j2.length : Int)) (if (((alook o0c0j1 (nth v5j2 (Int.toNat (v76l1)))).getD 0) != ((alook o1c0j2 (nth v5j2 (Int.toNat (v76l1)))).getD 0)) = true then (ck (v15l1.length + ([(⟨2, nth v5j2 (Int.toNat (v76l1)), (alook o0c0j1 (nth v5j2 (Int.toNat (v76l1)))).getD 0, (alook o1c0j2 (nth v5j2 (Int.toNat (v76l1)))).getD 0⟩ : Leak)] : List Leak).length ≤ 1000000000) (ck ((-9223372036854775808 : Int) ≤ v76l1 + 1 ∧ v76l1 + 1 ≤ (9223372036854775807 : Int)) (some (.inl (v15l1 ++ ([(⟨2, nth v5j2 (Int.toNat (v76l1)), (alook o0c0j1 (nth v5j2 (Int.toNat (v76l1)))).getD 0, (alook o1c0j2 (nth v5j2 (Int.toNat (v76l1)))).getD 0⟩ : Leak)] : List Leak), v76l1 + 1))))) else if (!(eqVs (Usage.vals ((alook o2c0j1 (nth v5j2 (Int.toNat (v76l1)))).getD (⟨0, 0, 0, 0, ([] : List UInt8), ([] : List UInt8), 0, 0, 0, false, 0, 0⟩ : Usage))) (Usage.vals ((alook o3c0j2 (nth v5j2 (Int.toNat (v76l1)))).getD (⟨0, 0, 0, 0, ([] : List UInt8), ([] : List UInt8), 0, 0, 0, false, 0, 0⟩ : Usage))))) = true then (ck (v15l1.length + ([(⟨3, nth v5j2 (Int.toNat (v76l1)), ((alook o2c0j1 (nth v5j2 (Int.toNat (v76l1)))).getD (⟨0, 0, 0, 0, ([] : List UInt8), ([] : List UInt8), 0, 0, 0, false, 0, 0⟩ : Usage)).units, ((alook o3c0j2 (nth v5j2 (Int.toNat (v76l1)))).getD (⟨0, 0, 0, 0, ([] : List UInt8), ([] : List UInt8), 0, 0, 0, false, 0, 0⟩ : Usage)).units⟩ : Leak)] : List Leak).length ≤ 1000000000) (ck ((-9223372036854775808 : Int) ≤ v76l1 + 1 ∧ v76l1 + 1 ≤ (9223372036854775807 : Int)) (some (.inl (v15l1 ++ ([(⟨3, nth v5j2 (Int.toNat (v76l1)), ((alook o2c0j1 (nth v5j2 (Int.toNat (v76l1)))).getD (⟨0, 0, 0, 0, ([] : List UInt8), ([] : List UInt8), 0, 0, 0, false, 0, 0⟩ : Usage)).units, ((alook o3c0j2 (nth v5j2 (Int.toNat (v76l1)))).getD (⟨0, 0, 0, 0, ([] : List UInt8), ([] : List UInt8), 0, 0, 0, false, 0, 0⟩ : Usage)).units⟩ : Leak)] : List Leak), v76l1 + 1))))) else ck ((-9223372036854775808 : Int) ≤ v76l1 + 1 ∧ v76l1 + 1 ≤ (9223372036854775807 : Int)) (some (.inl (v15l1, v76l1 + 1))))) else some (.inr v15l1)
def f_assure_Usages_j2 (o0c0j1 : List (Int × Int)) (o2c0j1 : List (Int × Usage)) (v5j2 : List Int) (o1c0j2 : List (Int × Int)) (o3c0j2 : List (Int × Usage)) : Option (List Leak) :=
  loop (fun s => f_assure_Usages_l1 o0c0j1 o2c0j1 v5j2 o1c0j2 o3c0j2 s.1 s.2) (([] : List Leak), 0)
def f_assure_Usages_j3 (v1 : List Rated) (v49l2 : Int) (o1c0l2 : List (Int × Int)) (y1 : (List Int)) (o3c0j3 : List (Int × Usage)) : Option ((List Int × Int × (List (Int × Int)) × (List (Int × Usage))) ⊕ (List Leak)) :=
  ck ((-9223372036854775808 : Int) ≤ ((alook o1c0l2 (((nth v1 (Int.toNat (v49l2))).usage).id)).getD 0) + 1 ∧ ((alook o1c0l2 (((nth v1 (Int.toNat (v49l2))).usage).id)).getD 0) + 1 ≤ (9223372036854775807 : Int)) (ck ((-9223372036854775808 : Int) ≤ v49l2 + 1 ∧ v49l2 + 1 ≤ (9223372036854775807 : Int)) (some (.inl (y1, v49l2 + 1, aset o1c0l2 (((nth v1 (Int.toNat (v49l2))).usage).id) (((alook o1c0l2 (((nth v1 (Int.toNat (v49l2))).usage).id)).getD 0) + 1), o3c0j3))))
def f_assure_Usages_l2 (v1 : List Rated) (o0c0j1 : List (Int × Int)) (o2c0j1 : List (Int × Usage)) (v5l2 : List Int) (v49l2 : Int) (o1c0l2 : List (Int × Int)) (o3c0l2 : List (Int × Usage)) : Option ((List Int × Int × (List (Int × Int)) × (List (Int × Usage))) ⊕ (List Leak)) :=
  if (decide (v49l2 < (v1.length : Int))) = true then (ck ((0 : Int) ≤ v49l2 ∧ v49l2 < (v1.length : Int)) ((f_assure_keys v5l2 (((nth v1 (Int.toNat (v49l2))).usage).id)).bind fun y1 => if (((alook o1c0l2 (((nth v1 (Int.toNat (v49l2))).usage).id)).getD 0) == 0) = true then (f_assure_Usages_j3 v1 v49l2 o1c0l2 y1 (aset o3c0l2 (((nth v1 (Int.toNat (v49l2))).usage).id) ((nth v1 (Int.toNat (v49l2))).usage))) else f_assure_Usages_j3 v1 v49l2 o1c0l2 y1 o3c0l2)) else (f_assure_Usages_j2 o0c0j1 o2c0j1 v5l2 o1c0l2 o3c0l2).map (fun z => .inr z)
def f_assure_Usages_j1 (v1 : List Rated) (v5j1 : List Int) (o0c0j1 : List (Int × Int)) (o2c0j1 : List (Int × Usage)) : Option (List Leak) :=
  loop (fun s => f_assure_Usages_l2 v1 o0c0j1 o2c0j1 s.1 s.2.1 s.2.2.1 s.2.2.2) (v5j1, 0, ([] : List (Int × Int)), ([] : List (Int × Usage)))
def f_assure_Usages_j4 (v0 : List Usage) (v24l3 : Int) (o0c0l3 : List (Int × Int)) (y2 : (List Int)) (o2c0j4 : List (Int × Usage)) : Option ((List Int × Int × (List (Int × Int)) × (List (Int × Usage))) ⊕ (List Leak)) :=
  ck ((-9223372036854775808 : Int) ≤ ((alook o0c0l3 ((nth v0 (Int.toNat (v24l3))).id)).getD 0) + 1 ∧ ((alook o0c0l3 ((nth v0 (Int.toNat (v24l3))).id)).getD 0) + 1 ≤ (9223372036854775807 : Int)) (ck ((-9223372036854775808 : Int) ≤ v24l3 + 1 ∧ v24l3 + 1 ≤ (9223372036854775807 : Int)) (some (.inl (y2, v24l3 + 1, aset o0c0l3 ((nth v0 (Int.toNat (v24l3))).id) (((alook o0c0l3 ((nth v0 (Int.toNat (v24l3))).id)).getD 0) + 1), o2c0j4))))
def f_assure_Usages_l3 (v0 : List Usage) (v1 : List Rated) (v5l3 : List Int) (v24l3 : Int) (o0c0l3 : List (Int × Int)) (o2c0l3 : List (Int × Usage)) : Option ((List Int × Int × (List (Int × Int)) × (List (Int × Usage))) ⊕ (List Leak)) :=
  if (decide (v24l3 < (v0.length : Int))) = true then (ck ((0 : Int) ≤ v24l3 ∧ v24l3 < (v0.length : Int)) ((f_assure_keys v5l3 ((nth v0 (Int.toNat (v24l3))).id)).bind fun y2 => if (((alook o0c0l3 ((nth v0 (Int.toNat (v24l3))).id)).getD 0) == 0) = true then (f_assure_Usages_j4 v0 v24l3 o0c0l3 y2 (aset o2c0l3 ((nth v0 (Int.toNat (v24l3))).id) (nth v0 (Int.toNat (v24l3))))) else f_assure_Usages_j4 v0 v24l3 o0c0l3 y2 o2c0l3)) else (f_assure_Usages_j1 v1 v5l3 o0c0l3 o2c0l3).map (fun z => .inr z)
def f_assure_Usages (v0 : List Usage) (v1 : List Rated) : Option (List Leak) :=
  loop (fun s => f_assure_Usages_l3 v0 v1 s.1 s.2.1 s.2.2.1 s.2.2.2) ([], 0, ([] : List (Int × Int)), ([] : List (Int × Usage)))
def g_assure_differing_l1 (v0control : Int) (v1ids : List Int) (o0c0p : List (Int × Int)) (o1c0p : List (Int × Int)) (v9outl1 : List Leak) (v14l1 : Int) : Option ((List Leak × Int) ⊕ (List Leak)) :=
  if (decide (v14l1 < (v1ids.length : Int))) = true then (ck ((0 : Int) ≤ v14l1 ∧ v14l1 < (v1ids.length : Int)) (if (((alook o0c0p (nth v1ids (Int.toNat (v14l1)))).getD 0) != ((alook o1c0p (nth v1ids (Int.toNat (v14l1)))).getD 0)) = true then (ck (v9outl1.length + ([(⟨v0control, nth v1ids (Int.toNat (v14l1)), (alook o0c0p (nth v1ids (Int.toNat (v14l1)))).getD 0, (alook o1c0p (nth v1ids (Int.toNat (v14l1)))).getD 0⟩ : Leak)] : List Leak).length ≤ 1000000000) (ck ((-9223372036854775808 : Int) ≤ v14l1 + 1 ∧ v14l1 + 1 ≤ (9223372036854775807 : Int)) (some (.inl (v9outl1 ++ ([(⟨v0control, nth v1ids (Int.toNat (v14l1)), (alook o0c0p (nth v1ids (Int.toNat (v14l1)))).getD 0, (alook o1c0p (nth v1ids (Int.toNat (v14l1)))).getD 0⟩ : Leak)] : List Leak), v14l1 + 1))))) else ck ((-9223372036854775808 : Int) ≤ v14l1 + 1 ∧ v14l1 + 1 ≤ (9223372036854775807 : Int)) (some (.inl (v9outl1, v14l1 + 1))))) else some (.inr v9outl1)
def g_assure_differing (v0control : Int) (v1ids : List Int) (o0c0p : List (Int × Int)) (o1c0p : List (Int × Int)) : Option (List Leak) :=
  loop (fun s => g_assure_differing_l1 v0control v1ids o0c0p o1c0p s.1 s.2) (([] : List Leak), 0)
def f_assure_Invoices_j2 (o0c0j1 : List (Int × Int)) (v5idsj2 : List Int) (o1c0j2 : List (Int × Int)) : Option (List Leak) :=
  (g_assure_differing 5 v5idsj2 o0c0j1 o1c0j2).bind fun y1 => some y1
def f_assure_Invoices_l1 (v1lines : List Line) (o0c0j1 : List (Int × Int)) (v5idsl1 : List Int) (v36l1 : Int) (o1c0l1 : List (Int × Int)) : Option ((List Int × Int × (List (Int × Int))) ⊕ (List Leak)) :=
  if (decide (v36l1 < (v1lines.length : Int))) = true then (ck ((0 : Int) ≤ v36l1 ∧ v36l1 < (v1lines.length : Int)) (if ((((nth v1lines (Int.toNat (v36l1))).kind) == 1) || (((nth v1lines (Int.toNat (v36l1))).kind) == 3)) = true then ((f_assure_keys v5idsl1 ((nth v1lines (Int.toNat (v36l1))).sub)).bind fun y2 => ck ((-9223372036854775808 : Int) ≤ ((alook o1c0l1 ((nth v1lines (Int.toNat (v36l1))).sub)).getD 0) + ((nth v1lines (Int.toNat (v36l1))).amount) ∧ ((alook o1c0l1 ((nth v1lines (Int.toNat (v36l1))).sub)).getD 0) + ((nth v1lines (Int.toNat (v36l1))).amount) ≤ (9223372036854775807 : Int)) (ck ((-9223372036854775808 : Int) ≤ v36l1 + 1 ∧ v36l1 + 1 ≤ (9223372036854775807 : Int)) (some (.inl (y2, v36l1 + 1, aset o1c0l1 ((nth v1lines (Int.toNat (v36l1))).sub) (((alook o1c0l1 ((nth v1lines (Int.toNat (v36l1))).sub)).getD 0) + ((nth v1lines (Int.toNat (v36l1))).amount))))))) else ck ((-9223372036854775808 : Int) ≤ v36l1 + 1 ∧ v36l1 + 1 ≤ (9223372036854775807 : Int)) (some (.inl (v5idsl1, v36l1 + 1, o1c0l1))))) else (f_assure_Invoices_j2 o0c0j1 v5idsl1 o1c0l1).map (fun z => .inr z)
def f_assure_Invoices_j1 (v1lines : List Line) (v5idsj1 : List Int) (o0c0j1 : List (Int × Int)) : Option (List Leak) :=
  loop (fun s => f_assure_Invoices_l1 v1lines o0c0j1 s.1 s.2.1 s.2.2) (v5idsj1, 0, ([] : List (Int × Int)))
def f_assure_Invoices_l2 (v0rated : List Rated) (v1lines : List Line) (v5idsl2 : List Int) (v16l2 : Int) (o0c0l2 : List (Int × Int)) : Option ((List Int × Int × (List (Int × Int))) ⊕ (List Leak)) :=
  if (decide (v16l2 < (v0rated.length : Int))) = true then (ck ((0 : Int) ≤ v16l2 ∧ v16l2 < (v0rated.length : Int)) ((f_assure_keys v5idsl2 (((nth v0rated (Int.toNat (v16l2))).usage).sub)).bind fun y3 => ck ((-9223372036854775808 : Int) ≤ ((alook o0c0l2 (((nth v0rated (Int.toNat (v16l2))).usage).sub)).getD 0) + ((nth v0rated (Int.toNat (v16l2))).owed) ∧ ((alook o0c0l2 (((nth v0rated (Int.toNat (v16l2))).usage).sub)).getD 0) + ((nth v0rated (Int.toNat (v16l2))).owed) ≤ (9223372036854775807 : Int)) (ck ((-9223372036854775808 : Int) ≤ v16l2 + 1 ∧ v16l2 + 1 ≤ (9223372036854775807 : Int)) (some (.inl (y3, v16l2 + 1, aset o0c0l2 (((nth v0rated (Int.toNat (v16l2))).usage).sub) (((alook o0c0l2 (((nth v0rated (Int.toNat (v16l2))).usage).sub)).getD 0) + ((nth v0rated (Int.toNat (v16l2))).owed)))))))) else (f_assure_Invoices_j1 v1lines v5idsl2 o0c0l2).map (fun z => .inr z)
def f_assure_Invoices (v0rated : List Rated) (v1lines : List Line) : Option (List Leak) :=
  loop (fun s => f_assure_Invoices_l2 v0rated v1lines s.1 s.2.1 s.2.2) ([], 0, ([] : List (Int × Int)))
def f_billingref54_Same_l1 (v0a : List Leak) (v1b : List Leak) (v5il1 : Int) : Option ((Int) ⊕ Bool) :=
  if (decide (v5il1 < (v0a.length : Int))) = true then (ck ((0 : Int) ≤ v5il1 ∧ v5il1 < (v0a.length : Int)) (ck ((0 : Int) ≤ v5il1 ∧ v5il1 < (v1b.length : Int)) (if (!(eqVs (Leak.vals (nth v0a (Int.toNat (v5il1)))) (Leak.vals (nth v1b (Int.toNat (v5il1)))))) = true then some (.inr false) else ck ((-9223372036854775808 : Int) ≤ v5il1 + 1 ∧ v5il1 + 1 ≤ (9223372036854775807 : Int)) (some (.inl (v5il1 + 1)))))) else some (.inr true)
def f_billingref54_Same (v0a : List Leak) (v1b : List Leak) : Option Bool :=
  if ((v0a.length : Int) != (v1b.length : Int)) = true then some false else loop (fun s => f_billingref54_Same_l1 v0a v1b s) 0
def f_assure_name (v0control : Int) : Option (List UInt8) :=
  if (v0control == 1) = true then some ([105, 110, 116, 97, 107, 101] : List UInt8) else if (v0control == 2) = true then some ([117, 115, 97, 103, 101] : List UInt8) else if (v0control == 3) = true then some ([117, 110, 105, 116, 115] : List UInt8) else if (v0control == 4) = true then some ([109, 111, 110, 101, 121] : List UInt8) else if (v0control == 5) = true then some ([105, 110, 118, 111, 105, 99, 101] : List UInt8) else if (v0control == 6) = true then some ([108, 101, 100, 103, 101, 114] : List UInt8) else some ([63] : List UInt8)
def f_assure_decimal_j2 (v0n : Int) (v5ij2 : Int) (o0c0j2 : List UInt8) : Option (List UInt8) :=
  if (decide (v0n < 0)) = true then (ck ((0 : Int) ≤ v5ij2 ∧ v5ij2 < (20 : Int)) (ck (o0c0j2.length = 20) (ck (([45] : List UInt8).length + (o0c0j2.drop (Int.toNat (v5ij2))).length ≤ 9223372036854775807) (some (([45] : List UInt8) ++ (o0c0j2.drop (Int.toNat (v5ij2)))))))) else ck ((0 : Int) ≤ v5ij2 ∧ v5ij2 < (20 : Int)) (ck (o0c0j2.length = 20) (some (o0c0j2.drop (Int.toNat (v5ij2)))))
def f_assure_decimal_l1 (v0n : Int) (v3ul1 : Int) (v5il1 : Int) (o0c0l1 : List UInt8) : Option ((Int × Int × List UInt8) ⊕ (List UInt8)) :=
  if ((decide (v3ul1 > 0)) || (v5il1 == 20)) = true then (ck ((-9223372036854775808 : Int) ≤ v5il1 - 1 ∧ v5il1 - 1 ≤ (9223372036854775807 : Int)) (ck (10 ≠ (0 : Int)) (ck ((0 : Int) ≤ (v5il1 - 1) ∧ (v5il1 - 1) < (20 : Int)) (ck ((Int.toNat (v5il1 - 1)) < o0c0l1.length) (ck (10 ≠ (0 : Int)) (some (.inl (IntKind.wrap .u64 (Int.tdiv v3ul1 10), v5il1 - 1, o0c0l1.set (Int.toNat (v5il1 - 1)) (UInt8.ofInt (IntKind.wrap .u64 (48 + (Int.tmod v3ul1 10)))))))))))) else (f_assure_decimal_j2 v0n v5il1 o0c0l1).map (fun z => .inr z)
def f_assure_decimal_j1 (v0n : Int) (v3uj1 : Int) : Option (List UInt8) :=
  loop (fun s => f_assure_decimal_l1 v0n s.1 s.2.1 s.2.2) (v3uj1, 20, (List.replicate 20 0 : List UInt8))
def f_assure_decimal (v0n : Int) : Option (List UInt8) :=
  if (decide (v0n < 0)) = true then (f_assure_decimal_j1 v0n (IntKind.wrap .u64 (0 - (IntKind.wrap .u64 v0n)))) else f_assure_decimal_j1 v0n (IntKind.wrap .u64 v0n)
def f_assure_Text_j1 (v10l1 : Int) (v3bj1 : List UInt8) : Option ((List UInt8 × Int) ⊕ (List UInt8)) :=
  ck (v3bj1.length + ([10] : List UInt8).length ≤ 1000000000) (ck ((-9223372036854775808 : Int) ≤ v10l1 + 1 ∧ v10l1 + 1 ≤ (9223372036854775807 : Int)) (some (.inl (v3bj1 ++ ([10] : List UInt8), v10l1 + 1))))
def f_assure_Text_l2 (v0list : List Leak) (v10l1 : Int) (v3bl2 : List UInt8) (v26l2 : Int) : Option ((List UInt8 × Int) ⊕ ((List UInt8 × Int) ⊕ (List UInt8))) :=
  if (decide (v26l2 < 3)) = true then (ck (((0 : Int) ≤ v26l2 ∧ v26l2 < (3 : Int)) ∧ ([(nth v0list (Int.toNat (v10l1))).key, (nth v0list (Int.toNat (v10l1))).left, (nth v0list (Int.toNat (v10l1))).right] : List Int).length = 3) (ck (v3bl2.length + ([32] : List UInt8).length ≤ 1000000000) ((f_assure_decimal (nth ([(nth v0list (Int.toNat (v10l1))).key, (nth v0list (Int.toNat (v10l1))).left, (nth v0list (Int.toNat (v10l1))).right] : List Int) (Int.toNat (v26l2)))).bind fun y2 => ck ((v3bl2 ++ ([32] : List UInt8)).length + y2.length ≤ 1000000000) (ck ((-9223372036854775808 : Int) ≤ v26l2 + 1 ∧ v26l2 + 1 ≤ (9223372036854775807 : Int)) (some (.inl ((v3bl2 ++ ([32] : List UInt8)) ++ y2, v26l2 + 1))))))) else (f_assure_Text_j1 v10l1 v3bl2).map (fun z => .inr z)
def f_assure_Text_l1 (v0list : List Leak) (v3bl1 : List UInt8) (v10l1 : Int) : Option ((List UInt8 × Int) ⊕ (List UInt8)) :=
  if (decide (v10l1 < (v0list.length : Int))) = true then (ck ((0 : Int) ≤ v10l1 ∧ v10l1 < (v0list.length : Int)) ((f_assure_name ((nth v0list (Int.toNat (v10l1))).ctl)).bind fun y1 => ck (v3bl1.length + y1.length ≤ 1000000000) (loop (fun s => f_assure_Text_l2 v0list v10l1 s.1 s.2) (v3bl1 ++ y1, 0)))) else some (.inr v3bl1)
def f_assure_Text (v0list : List Leak) : Option (List UInt8) :=
  loop (fun s => f_assure_Text_l1 v0list s.1 s.2) (([] : List UInt8), 0)
def f_dedup_Count_l1 (v0seen : List Range) (v3nl1 : Int) (v8l1 : Int) : Option ((Int × Int) ⊕ Int) :=
  if (decide (v8l1 < (v0seen.length : Int))) = true then (ck ((0 : Int) ≤ v8l1 ∧ v8l1 < (v0seen.length : Int)) (ck ((-9223372036854775808 : Int) ≤ ((nth v0seen (Int.toNat (v8l1))).to_) - ((nth v0seen (Int.toNat (v8l1))).from_) ∧ ((nth v0seen (Int.toNat (v8l1))).to_) - ((nth v0seen (Int.toNat (v8l1))).from_) ≤ (9223372036854775807 : Int)) (ck ((-9223372036854775808 : Int) ≤ (((nth v0seen (Int.toNat (v8l1))).to_) - ((nth v0seen (Int.toNat (v8l1))).from_)) + 1 ∧ (((nth v0seen (Int.toNat (v8l1))).to_) - ((nth v0seen (Int.toNat (v8l1))).from_)) + 1 ≤ (9223372036854775807 : Int)) (ck ((-9223372036854775808 : Int) ≤ v3nl1 + ((((nth v0seen (Int.toNat (v8l1))).to_) - ((nth v0seen (Int.toNat (v8l1))).from_)) + 1) ∧ v3nl1 + ((((nth v0seen (Int.toNat (v8l1))).to_) - ((nth v0seen (Int.toNat (v8l1))).from_)) + 1) ≤ (9223372036854775807 : Int)) (ck ((-9223372036854775808 : Int) ≤ v8l1 + 1 ∧ v8l1 + 1 ≤ (9223372036854775807 : Int)) (some (.inl (v3nl1 + ((((nth v0seen (Int.toNat (v8l1))).to_) - ((nth v0seen (Int.toNat (v8l1))).from_)) + 1), v8l1 + 1)))))))) else some (.inr v3nl1)
def f_dedup_Count (v0seen : List Range) : Option Int :=
  loop (fun s => f_dedup_Count_l1 v0seen s.1 s.2) (0, 0)
def f_mediation_Balance_j1 (v0m : Mediation) (o2c0j1 : Int) : Option Balance :=
  (f_dedup_Count v0m.intake.seen).bind fun y1 => ck ((-9223372036854775808 : Int) ≤ y1 - (v0m.usages.length : Int) ∧ y1 - (v0m.usages.length : Int) ≤ (9223372036854775807 : Int)) (ck ((-9223372036854775808 : Int) ≤ (y1 - (v0m.usages.length : Int)) - (v0m.suspense.length : Int) ∧ (y1 - (v0m.usages.length : Int)) - (v0m.suspense.length : Int) ≤ (9223372036854775807 : Int)) (ck ((-9223372036854775808 : Int) ≤ ((y1 - (v0m.usages.length : Int)) - (v0m.suspense.length : Int)) - (v0m.intake.open_.length : Int) ∧ ((y1 - (v0m.usages.length : Int)) - (v0m.suspense.length : Int)) - (v0m.intake.open_.length : Int) ≤ (9223372036854775807 : Int)) (some (⟨o2c0j1, (v0m.usages.length : Int), ((y1 - (v0m.usages.length : Int)) - (v0m.suspense.length : Int)) - (v0m.intake.open_.length : Int), (v0m.rejects.length : Int), (v0m.suspense.length : Int), (v0m.intake.open_.length : Int)⟩ : Balance))))
def f_mediation_Balance_l1 (v0m : Mediation) (v24l1 : Int) (o2c0l1 : Int) : Option ((Int × Int) ⊕ Balance) :=
  if (decide (v24l1 < (v0m.intake.heads.length : Int))) = true then (ck ((0 : Int) ≤ v24l1 ∧ v24l1 < (v0m.intake.heads.length : Int)) (ck ((-9223372036854775808 : Int) ≤ o2c0l1 + ((nth v0m.intake.heads (Int.toNat (v24l1))).count) ∧ o2c0l1 + ((nth v0m.intake.heads (Int.toNat (v24l1))).count) ≤ (9223372036854775807 : Int)) (ck ((-9223372036854775808 : Int) ≤ v24l1 + 1 ∧ v24l1 + 1 ≤ (9223372036854775807 : Int)) (some (.inl (v24l1 + 1, o2c0l1 + ((nth v0m.intake.heads (Int.toNat (v24l1))).count))))))) else (f_mediation_Balance_j1 v0m o2c0l1).map (fun z => .inr z)
def f_mediation_Balance (v0m : Mediation) : Option Balance :=
  loop (fun s => f_mediation_Balance_l1 v0m s.1 s.2) (0, 0)
def g_assure_Intake_1 (v0key : Int) (v1left : Int) (v2right : Int) (y0t0p : List Leak) : Option (List Leak) :=
  if (v1left != v2right) = true then (ck (y0t0p.length + ([(⟨1, v0key, v1left, v2right⟩ : Leak)] : List Leak).length ≤ 1000000000) (some (y0t0p ++ ([(⟨1, v0key, v1left, v2right⟩ : Leak)] : List Leak)))) else some y0t0p
def f_assure_Intake (v0m : Mediation) (v1read : Int) : Option (List Leak) :=
  (f_mediation_Balance v0m).bind fun y1 => (g_assure_Intake_1 1 v1read y1.read ([] : List Leak)).bind fun y2 => ck ((-9223372036854775808 : Int) ≤ y1.accepted + y1.merged ∧ y1.accepted + y1.merged ≤ (9223372036854775807 : Int)) (ck ((-9223372036854775808 : Int) ≤ (y1.accepted + y1.merged) + y1.rejected ∧ (y1.accepted + y1.merged) + y1.rejected ≤ (9223372036854775807 : Int)) (ck ((-9223372036854775808 : Int) ≤ ((y1.accepted + y1.merged) + y1.rejected) + y1.suspended ∧ ((y1.accepted + y1.merged) + y1.rejected) + y1.suspended ≤ (9223372036854775807 : Int)) (ck ((-9223372036854775808 : Int) ≤ (((y1.accepted + y1.merged) + y1.rejected) + y1.suspended) + y1.open_ ∧ (((y1.accepted + y1.merged) + y1.rejected) + y1.suspended) + y1.open_ ≤ (9223372036854775807 : Int)) ((g_assure_Intake_1 2 y1.read ((((y1.accepted + y1.merged) + y1.rejected) + y1.suspended) + y1.open_) y2).bind fun y3 => some y3))))
def f_billinglaw54_awake : Option Bool :=
  (f_assure_Usages ([(⟨3, 0, 0, 0, ([] : List UInt8), ([] : List UInt8), 0, 0, 0, false, 0, 0⟩ : Usage)] : List Usage) ([] : List Rated)).bind fun y1 => (f_assure_Invoices ([(⟨(⟨0, 0, 0, 2, ([] : List UInt8), ([] : List UInt8), 0, 0, 0, false, 0, 0⟩ : Usage), 0, ([] : List UInt8), 0, ([] : List UInt8), ([] : List Take), ([] : List Segment), 0, 0, 0, ([] : List Given), 0, 700⟩ : Rated)] : List Rated) ([(⟨3, 2, ([] : List UInt8), ([] : List UInt8), 0, 0, 500, 0⟩ : Line)] : List Line)).bind fun y2 => (f_billingref54_Same y1 ([(⟨2, 3, 1, 0⟩ : Leak)] : List Leak)).bind fun y3 => (gcall y3 (f_assure_Text y2)).bind fun y4 => (gcall (y3 && (y4 == ([105, 110, 118, 111, 105, 99, 101, 32, 50, 32, 55, 48, 48, 32, 53, 48, 48, 10] : List UInt8))) (f_assure_Text y1)).bind fun y5 => (gcall ((y3 && (y4 == ([105, 110, 118, 111, 105, 99, 101, 32, 50, 32, 55, 48, 48, 32, 53, 48, 48, 10] : List UInt8))) && (y5 == ([117, 115, 97, 103, 101, 32, 51, 32, 49, 32, 48, 10] : List UInt8))) (f_assure_Intake (⟨(⟨([] : List Range), ([] : List Record), ([] : List Head)⟩ : Intake), ([] : List Usage), ([] : List Record), ([] : List Reject)⟩ : Mediation) 0)).bind fun y6 => (gcall (((y3 && (y4 == ([105, 110, 118, 111, 105, 99, 101, 32, 50, 32, 55, 48, 48, 32, 53, 48, 48, 10] : List UInt8))) && (y5 == ([117, 115, 97, 103, 101, 32, 51, 32, 49, 32, 48, 10] : List UInt8))) && ((y6.length : Int) == 0)) (f_assure_Intake (⟨(⟨([] : List Range), ([] : List Record), ([] : List Head)⟩ : Intake), ([] : List Usage), ([] : List Record), ([] : List Reject)⟩ : Mediation) 1)).bind fun y7 => some ((((y3 && (y4 == ([105, 110, 118, 111, 105, 99, 101, 32, 50, 32, 55, 48, 48, 32, 53, 48, 48, 10] : List UInt8))) && (y5 == ([117, 115, 97, 103, 101, 32, 51, 32, 49, 32, 48, 10] : List UInt8))) && ((y6.length : Int) == 0)) && ((y7.length : Int) == 1))
def f_billinglaw54_AssureFound_j1 (v0 : List Usage) (v1 : Int) (v2 : Int) (y0tj1 : List Rated) (v8j1 : List Rated) : Option Bool :=
  ck (v0.length ≤ 1000000000) (ck (y0tj1.length ≤ 1000000000) ((f_assure_Usages v0 y0tj1).bind fun y3 => if ((y3.length : Int) != 0) = true then some false else ck (v0.length ≤ 1000000000) ((f_assure_Usages v0 v8j1).bind fun y4 => ck ((0 : Int) ≤ v1 ∧ v1 < (v0.length : Int)) ((f_billingref54_Same y4 ([(⟨2, (nth v0 (Int.toNat (v1))).id, 1, 0⟩ : Leak)] : List Leak)).bind fun y5 => if (!y5) = true then some false else ck ((0 : Int) ≤ v1 ∧ v1 < (y0tj1.length : Int)) (ck (Int.toNat (v1) < y0tj1.length) (ck (v0.length ≤ 1000000000) ((f_assure_Usages v0 (y0tj1.set (Int.toNat (v1)) (⟨(⟨((nth y0tj1 (Int.toNat (v1))).usage).id, ((nth y0tj1 (Int.toNat (v1))).usage).kind, ((nth y0tj1 (Int.toNat (v1))).usage).account, ((nth y0tj1 (Int.toNat (v1))).usage).sub, ((nth y0tj1 (Int.toNat (v1))).usage).a, ((nth y0tj1 (Int.toNat (v1))).usage).b, ((nth y0tj1 (Int.toNat (v1))).usage).start, v2, ((nth y0tj1 (Int.toNat (v1))).usage).trunk, ((nth y0tj1 (Int.toNat (v1))).usage).inbound, ((nth y0tj1 (Int.toNat (v1))).usage).source, ((nth y0tj1 (Int.toNat (v1))).usage).serial⟩ : Usage), (nth y0tj1 (Int.toNat (v1))).err, (nth y0tj1 (Int.toNat (v1))).plan, (nth y0tj1 (Int.toNat (v1))).version, (nth y0tj1 (Int.toNat (v1))).zone, (nth y0tj1 (Int.toNat (v1))).takes, (nth y0tj1 (Int.toNat (v1))).segments, (nth y0tj1 (Int.toNat (v1))).setup, (nth y0tj1 (Int.toNat (v1))).gross, (nth y0tj1 (Int.toNat (v1))).net, (nth y0tj1 (Int.toNat (v1))).given, (nth y0tj1 (Int.toNat (v1))).paid, (nth y0tj1 (Int.toNat (v1))).owed⟩ : Rated))).bind fun y6 => ck ((0 : Int) ≤ v1 ∧ v1 < (v0.length : Int)) (if (v2 == ((nth v0 (Int.toNat (v1))).units)) = true then ((gcall ((y6.length : Int) == 0) (f_billinglaw54_awake)).bind fun y7 => some (((y6.length : Int) == 0) && y7)) else ck ((0 : Int) ≤ v1 ∧ v1 < (v0.length : Int)) (ck ((0 : Int) ≤ v1 ∧ v1 < (v0.length : Int)) ((f_billingref54_Same y6 ([(⟨3, (nth v0 (Int.toNat (v1))).id, (nth v0 (Int.toNat (v1))).units, v2⟩ : Leak)] : List Leak)).bind fun y8 => (gcall y8 (f_billinglaw54_awake)).bind fun y9 => some (y8 && y9)))))))))))
def f_billinglaw54_AssureFound_j2 (v0 : List Usage) (v1 : Int) (y0tl1 : List Rated) (v8l1 : List Rated) (v9l1 : Int) : Option ((List Rated × List Rated × Int) ⊕ Bool) :=
  ck ((0 : Int) ≤ v9l1 ∧ v9l1 < (v0.length : Int)) (ck (y0tl1.length + ([(⟨nth v0 (Int.toNat (v9l1)), 0, ([] : List UInt8), 0, ([] : List UInt8), ([] : List Take), ([] : List Segment), 0, 0, 0, ([] : List Given), 0, 0⟩ : Rated)] : List Rated).length ≤ 1000000000) (if (v9l1 != v1) = true then (ck ((0 : Int) ≤ v9l1 ∧ v9l1 < (v0.length : Int)) (ck (v8l1.length + ([(⟨nth v0 (Int.toNat (v9l1)), 0, ([] : List UInt8), 0, ([] : List UInt8), ([] : List Take), ([] : List Segment), 0, 0, 0, ([] : List Given), 0, 0⟩ : Rated)] : List Rated).length ≤ 1000000000) (ck ((-9223372036854775808 : Int) ≤ v9l1 + 1 ∧ v9l1 + 1 ≤ (9223372036854775807 : Int)) (some (.inl (y0tl1 ++ ([(⟨nth v0 (Int.toNat (v9l1)), 0, ([] : List UInt8), 0, ([] : List UInt8), ([] : List Take), ([] : List Segment), 0, 0, 0, ([] : List Given), 0, 0⟩ : Rated)] : List Rated), v8l1 ++ ([(⟨nth v0 (Int.toNat (v9l1)), 0, ([] : List UInt8), 0, ([] : List UInt8), ([] : List Take), ([] : List Segment), 0, 0, 0, ([] : List Given), 0, 0⟩ : Rated)] : List Rated), v9l1 + 1)))))) else ck ((-9223372036854775808 : Int) ≤ v9l1 + 1 ∧ v9l1 + 1 ≤ (9223372036854775807 : Int)) (some (.inl (y0tl1 ++ ([(⟨nth v0 (Int.toNat (v9l1)), 0, ([] : List UInt8), 0, ([] : List UInt8), ([] : List Take), ([] : List Segment), 0, 0, 0, ([] : List Given), 0, 0⟩ : Rated)] : List Rated), v8l1, v9l1 + 1)))))
def f_billinglaw54_AssureFound_l2 (v0 : List Usage) (v1 : Int) (y0tl1 : List Rated) (v8l1 : List Rated) (v9l1 : Int) (v10l2 : Int) : Option ((Int) ⊕ ((List Rated × List Rated × Int) ⊕ Bool)) :=
  if (decide (v10l2 < v9l1)) = true then (ck ((0 : Int) ≤ v10l2 ∧ v10l2 < (v0.length : Int)) (ck ((0 : Int) ≤ v9l1 ∧ v9l1 < (v0.length : Int)) (if (((nth v0 (Int.toNat (v10l2))).id) == ((nth v0 (Int.toNat (v9l1))).id)) = true then ((f_billinglaw54_awake).bind fun y10 => some (.inr (.inr y10))) else ck ((-9223372036854775808 : Int) ≤ v10l2 + 1 ∧ v10l2 + 1 ≤ (9223372036854775807 : Int)) (some (.inl (v10l2 + 1)))))) else (f_billinglaw54_AssureFound_j2 v0 v1 y0tl1 v8l1 v9l1).map (fun z => .inr z)
def f_billinglaw54_AssureFound_l1 (v0 : List Usage) (v1 : Int) (v2 : Int) (y0tl1 : List Rated) (v8l1 : List Rated) (v9l1 : Int) : Option ((List Rated × List Rated × Int) ⊕ Bool) :=
  if (decide (v9l1 < (v0.length : Int))) = true then (loop (fun s => f_billinglaw54_AssureFound_l2 v0 v1 y0tl1 v8l1 v9l1 s) 0) else (f_billinglaw54_AssureFound_j1 v0 v1 v2 y0tl1 v8l1).map (fun z => .inr z)
def f_billinglaw54_AssureFound (v0 : List Usage) (v1 : Int) (v2 : Int) : Option Bool :=
  (f_billinglaw54_usages v0).bind fun y1 => if (((((!y1) || (decide (v1 < 0))) || (decide (v1 ≥ (v0.length : Int)))) || (decide (v2 < 0))) || (decide (v2 > 1099511627776))) = true then ((f_billinglaw54_awake).bind fun y2 => some y2) else loop (fun s => f_billinglaw54_AssureFound_l1 v0 v1 v2 s.1 s.2.1 s.2.2) (([] : List Rated), ([] : List Rated), 0)
def f_billingref47_Clone (v0e : Entry) : Option Entry :=
  ck (v0e.posts.length ≤ 1000000000) (some v0e)
def f_billingref47_CloneAll_l1 (v0list : List Entry) (v3outl1 : List Entry) (v4il1 : Int) : Option ((List Entry × Int) ⊕ (List Entry)) :=
  if (decide (v4il1 < (v0list.length : Int))) = true then (ck ((0 : Int) ≤ v4il1 ∧ v4il1 < (v0list.length : Int)) ((f_billingref47_Clone (nth v0list (Int.toNat (v4il1)))).bind fun y1 => ck (v3outl1.length + ([y1] : List Entry).length ≤ 1000000000) (ck ((-9223372036854775808 : Int) ≤ v4il1 + 1 ∧ v4il1 + 1 ≤ (9223372036854775807 : Int)) (some (.inl (v3outl1 ++ ([y1] : List Entry), v4il1 + 1)))))) else some (.inr v3outl1)
def f_billingref47_CloneAll (v0list : List Entry) : Option (List Entry) :=
  loop (fun s => f_billingref47_CloneAll_l1 v0list s.1 s.2) (([] : List Entry), 0)
def f_assure_Books_j3 (v5j1 : List Int) (o0c0j1 : List (Int × Int)) (o1c0j2 : List (Int × Int)) (v18j3 : List Leak) : Option (List Leak) :=
  (g_assure_differing 6 v5j1 o0c0j1 o1c0j2).bind fun y1 => ck (v18j3.length + y1.length ≤ 1000000000) (some (v18j3 ++ y1))
def f_assure_Books_j2 (v5j1 : List Int) (o0c0j1 : List (Int × Int)) (v11j2 : Int) (o1c0j2 : List (Int × Int)) : Option (List Leak) :=
  if (v11j2 != 0) = true then (ck (([] : List Leak).length + ([(⟨6, 0, v11j2, 0⟩ : Leak)] : List Leak).length ≤ 1000000000) (f_assure_Books_j3 v5j1 o0c0j1 o1c0j2 (([] : List Leak) ++ ([(⟨6, 0, v11j2, 0⟩ : Leak)] : List Leak)))) else f_assure_Books_j3 v5j1 o0c0j1 o1c0j2 ([] : List Leak)
def f_assure_Books_l2 (v1 : List Entry) (o2c0j1 : List ((List UInt8) × Int)) (v49l1 : Int) (v11l2 : Int) (v56l2 : Int) (o1c0l2 : List (Int × Int)) : Option ((Int × Int × (List (Int × Int))) ⊕ ((Int × Int × (List (Int × Int))) ⊕ (List Leak))) :=
  if (decide (v56l2 < (((nth v1 (Int.toNat (v49l1))).posts).length : Int))) = true then (ck ((0 : Int) ≤ v56l2 ∧ v56l2 < (((nth v1 (Int.toNat (v49l1))).posts).length : Int)) (ck ((-9223372036854775808 : Int) ≤ v11l2 + ((nth ((nth v1 (Int.toNat (v49l1))).posts) (Int.toNat (v56l2))).amount) ∧ v11l2 + ((nth ((nth v1 (Int.toNat (v49l1))).posts) (Int.toNat (v56l2))).amount) ≤ (9223372036854775807 : Int)) (if (((alook o2c0j1 ((nth ((nth v1 (Int.toNat (v49l1))).posts) (Int.toNat (v56l2))).account)).isSome) && (((nth v1 (Int.toNat (v49l1))).text) == ([105, 110, 118, 111, 105, 99, 101] : List UInt8))) = true then (ck ((-9223372036854775808 : Int) ≤ ((alook o1c0l2 ((alook o2c0j1 ((nth ((nth v1 (Int.toNat (v49l1))).posts) (Int.toNat (v56l2))).account)).getD 0)).getD 0) + ((nth ((nth v1 (Int.toNat (v49l1))).posts) (Int.toNat (v56l2))).amount) ∧ ((alook o1c0l2 ((alook o2c0j1 ((nth ((nth v1 (Int.toNat (v49l1))).posts) (Int.toNat (v56l2))).account)).getD 0)).getD 0) + ((nth ((nth v1 (Int.toNat (v49l1))).posts) (Int.toNat (v56l2))).amount) ≤ (9223372036854775807 : Int)) (ck ((-9223372036854775808 : Int) ≤ v56l2 + 1 ∧ v56l2 + 1 ≤ (9223372036854775807 : Int)) (some (.inl (v11l2 + ((nth ((nth v1 (Int.toNat (v49l1))).posts) (Int.toNat (v56l2))).amount), v56l2 + 1, aset o1c0l2 ((alook o2c0j1 ((nth ((nth v1 (Int.toNat (v49l1))).posts) (Int.toNat (v56l2))).account)).getD 0) (((alook o1c0l2 ((alook o2c0j1 ((nth ((nth v1 (Int.toNat (v49l1))).posts) (Int.toNat (v56l2))).account)).getD 0)).getD 0) + ((nth ((nth v1 (Int.toNat (v49l1))).posts) (Int.toNat (v56l2))).amount))))))) else ck ((-9223372036854775808 : Int) ≤ v56l2 + 1 ∧ v56l2 + 1 ≤ (9223372036854775807 : Int)) (some (.inl (v11l2 + ((nth ((nth v1 (Int.toNat (v49l1))).posts) (Int.toNat (v56l2))).amount), v56l2 + 1, o1c0l2)))))) else ck ((-9223372036854775808 : Int) ≤ v49l1 + 1 ∧ v49l1 + 1 ≤ (9223372036854775807 : Int)) (some (.inr (.inl (v11l2, v49l1 + 1, o1c0l2))))
def f_assure_Books_l1 (v1 : List Entry) (v5j1 : List Int) (o0c0j1 : List (Int × Int)) (o2c0j1 : List ((List UInt8) × Int)) (v11l1 : Int) (v49l1 : Int) (o1c0l1 : List (Int × Int)) : Option ((Int × Int × (List (Int × Int))) ⊕ (List Leak)) :=
  if (decide (v49l1 < (v1.length : Int))) = true then (ck ((0 : Int) ≤ v49l1 ∧ v49l1 < (v1.length : Int)) (loop (fun s => f_assure_Books_l2 v1 o2c0j1 v49l1 s.1 s.2.1 s.2.2) (v11l1, 0, o1c0l1))) else (f_assure_Books_j2 v5j1 o0c0j1 v11l1 o1c0l1).map (fun z => .inr z)
def f_assure_Books_j1 (v1 : List Entry) (v5j1 : List Int) (o0c0j1 : List (Int × Int)) (o2c0j1 : List ((List UInt8) × Int)) : Option (List Leak) :=
  loop (fun s => f_assure_Books_l1 v1 v5j1 o0c0j1 o2c0j1 s.1 s.2.1 s.2.2) (0, 0, ([] : List (Int × Int)))
def f_assure_Books_l3 (v0 : List Invoice) (v1 : List Entry) (v5l3 : List Int) (v24l3 : Int) (o0c0l3 : List (Int × Int)) (o2c0l3 : List ((List UInt8) × Int)) : Option ((List Int × Int × (List (Int × Int)) × (List ((List UInt8) × Int))) ⊕ (List Leak)) :=
  if (decide (v24l3 < (v0.length : Int))) = true then (ck ((0 : Int) ≤ v24l3 ∧ v24l3 < (v0.length : Int)) ((f_assure_keys v5l3 ((nth v0 (Int.toNat (v24l3))).account)).bind fun y2 => (f_assure_decimal ((nth v0 (Int.toNat (v24l3))).account)).bind fun y3 => ck (([114, 101, 99, 101, 105, 118, 97, 98, 108, 101, 58] : List UInt8).length + y3.length ≤ 9223372036854775807) (ck ((-9223372036854775808 : Int) ≤ ((alook o0c0l3 ((nth v0 (Int.toNat (v24l3))).account)).getD 0) + ((nth v0 (Int.toNat (v24l3))).total) ∧ ((alook o0c0l3 ((nth v0 (Int.toNat (v24l3))).account)).getD 0) + ((nth v0 (Int.toNat (v24l3))).total) ≤ (9223372036854775807 : Int)) (ck ((-9223372036854775808 : Int) ≤ v24l3 + 1 ∧ v24l3 + 1 ≤ (9223372036854775807 : Int)) (some (.inl (y2, v24l3 + 1, aset o0c0l3 ((nth v0 (Int.toNat (v24l3))).account) (((alook o0c0l3 ((nth v0 (Int.toNat (v24l3))).account)).getD 0) + ((nth v0 (Int.toNat (v24l3))).total)), aset o2c0l3 (([114, 101, 99, 101, 105, 118, 97, 98, 108, 101, 58] : List UInt8) ++ y3) ((nth v0 (Int.toNat (v24l3))).account)))))))) else (f_assure_Books_j1 v1 v5l3 o0c0l3 o2c0l3).map (fun z => .inr z)
def f_assure_Books (v0 : List Invoice) (v1 : List Entry) : Option (List Leak) :=
  loop (fun s => f_assure_Books_l3 v0 v1 s.1 s.2.1 s.2.2.1 s.2.2.2) ([], 0, ([] : List (Int × Int)), ([] : List ((List UInt8) × Int)))
def f_billingref54_Keys_j1 (v0list : List Int) (v1n : Int) (v5atj1 : Int) : Option (List Int) :=
  ck ((decide (v5atj1 < (v0list.length : Int))) = true → ((0 : Int) ≤ v5atj1 ∧ v5atj1 < (v0list.length : Int))) (if ((decide (v5atj1 < (v0list.length : Int))) && ((nth v0list (Int.toNat (v5atj1))) == v1n)) = true then some v0list else ck ((0 : Int) ≤ v5atj1 ∧ v5atj1 ≤ (v0list.length : Int)) (ck (([] : List Int).length + (v0list.take (Int.toNat (v5atj1))).length ≤ 1000000000) (ck ((([] : List Int) ++ (v0list.take (Int.toNat (v5atj1)))).length + ([v1n] : List Int).length ≤ 1000000000) (ck ((0 : Int) ≤ v5atj1 ∧ v5atj1 ≤ (v0list.length : Int)) (ck (((([] : List Int) ++ (v0list.take (Int.toNat (v5atj1)))) ++ ([v1n] : List Int)).length + (v0list.drop (Int.toNat (v5atj1))).length ≤ 1000000000) (some (((([] : List Int) ++ (v0list.take (Int.toNat (v5atj1)))) ++ ([v1n] : List Int)) ++ (v0list.drop (Int.toNat (v5atj1))))))))))
def f_billingref54_Keys_l1 (v0list : List Int) (v1n : Int) (v5atl1 : Int) : Option ((Int) ⊕ (List Int)) :=
  ck ((decide (v5atl1 < (v0list.length : Int))) = true → ((0 : Int) ≤ v5atl1 ∧ v5atl1 < (v0list.length : Int))) (if ((decide (v5atl1 < (v0list.length : Int))) && (decide ((nth v0list (Int.toNat (v5atl1))) < v1n))) = true then (ck ((-9223372036854775808 : Int) ≤ v5atl1 + 1 ∧ v5atl1 + 1 ≤ (9223372036854775807 : Int)) (some (.inl (v5atl1 + 1)))) else (f_billingref54_Keys_j1 v0list v1n v5atl1).map (fun z => .inr z))
def f_billingref54_Keys (v0list : List Int) (v1n : Int) : Option (List Int) :=
  loop (fun s => f_billingref54_Keys_l1 v0list v1n s) 0
def f_billingref01_Number_l1 (v0nl1 : Int) (v3sl1 : List UInt8) : Option ((Int × List UInt8) ⊕ (List UInt8)) :=
  if (decide (v0nl1 > 0)) = true then (ck (10 ≠ (0 : Int)) (ck ((-9223372036854775808 : Int) ≤ 48 + (Int.tmod v0nl1 10) ∧ 48 + (Int.tmod v0nl1 10) ≤ (9223372036854775807 : Int)) (ck (([UInt8.ofInt (48 + (Int.tmod v0nl1 10))] : List UInt8).length + v3sl1.length ≤ 9223372036854775807) (ck (10 ≠ (0 : Int) ∧ (-9223372036854775808 : Int) ≤ Int.tdiv v0nl1 10 ∧ Int.tdiv v0nl1 10 ≤ (9223372036854775807 : Int)) (some (.inl (Int.tdiv v0nl1 10, ([UInt8.ofInt (48 + (Int.tmod v0nl1 10))] : List UInt8) ++ v3sl1))))))) else some (.inr v3sl1)
def f_billingref01_Number (v0n : Int) : Option (List UInt8) :=
  ck (10 ≠ (0 : Int)) (ck ((-9223372036854775808 : Int) ≤ 48 + (Int.tmod v0n 10) ∧ 48 + (Int.tmod v0n 10) ≤ (9223372036854775807 : Int)) (ck (10 ≠ (0 : Int) ∧ (-9223372036854775808 : Int) ≤ Int.tdiv v0n 10 ∧ Int.tdiv v0n 10 ≤ (9223372036854775807 : Int)) (loop (fun s => f_billingref01_Number_l1 s.1 s.2) (Int.tdiv v0n 10, ([UInt8.ofInt (48 + (Int.tmod v0n 10))] : List UInt8)))))
def f_billingref01_Int (v0n : Int) : Option (List UInt8) :=
  if (decide (v0n ≥ 0)) = true then ((f_billingref01_Number v0n).bind fun y1 => some y1) else if (decide (v0n > (-10))) = true then (ck ((-9223372036854775807 : Int) ≤ v0n ∧ v0n ≤ 9223372036854775807) ((f_billingref01_Number (-v0n)).bind fun y2 => ck (([45] : List UInt8).length + y2.length ≤ 9223372036854775807) (some (([45] : List UInt8) ++ y2)))) else ck (10 ≠ (0 : Int) ∧ (-9223372036854775808 : Int) ≤ Int.tdiv v0n 10 ∧ Int.tdiv v0n 10 ≤ (9223372036854775807 : Int)) (ck ((-9223372036854775807 : Int) ≤ Int.tdiv v0n 10 ∧ Int.tdiv v0n 10 ≤ 9223372036854775807) ((f_billingref01_Number (-(Int.tdiv v0n 10))).bind fun y3 => ck (([45] : List UInt8).length + y3.length ≤ 9223372036854775807) (ck (10 ≠ (0 : Int)) (ck ((-9223372036854775807 : Int) ≤ Int.tmod v0n 10 ∧ Int.tmod v0n 10 ≤ 9223372036854775807) ((f_billingref01_Number (-(Int.tmod v0n 10))).bind fun y4 => ck ((([45] : List UInt8) ++ y3).length + y4.length ≤ 9223372036854775807) (some ((([45] : List UInt8) ++ y3) ++ y4)))))))
def f_billingref47_Receivable (v0account : Int) : Option (List UInt8) :=
  (f_billingref01_Int v0account).bind fun y1 => ck (([114, 101, 99, 101, 105, 118, 97, 98, 108, 101, 58] : List UInt8).length + y1.length ≤ 9223372036854775807) (some (([114, 101, 99, 101, 105, 118, 97, 98, 108, 101, 58] : List UInt8) ++ y1))
def f_billingref47_Balance_l2 (v0list : List Entry) (v1account : List UInt8) (v6il1 : Int) (v5suml2 : Int) (v7kl2 : Int) : Option ((Int × Int) ⊕ ((Int × Int) ⊕ Int)) :=
  ck ((0 : Int) ≤ v6il1 ∧ v6il1 < (v0list.length : Int)) (if (decide (v7kl2 < (((nth v0list (Int.toNat (v6il1))).posts).length : Int))) = true then (ck ((0 : Int) ≤ v6il1 ∧ v6il1 < (v0list.length : Int)) (ck ((0 : Int) ≤ v7kl2 ∧ v7kl2 < (((nth v0list (Int.toNat (v6il1))).posts).length : Int)) (if (((nth ((nth v0list (Int.toNat (v6il1))).posts) (Int.toNat (v7kl2))).account) == v1account) = true then (ck ((0 : Int) ≤ v6il1 ∧ v6il1 < (v0list.length : Int)) (ck ((0 : Int) ≤ v7kl2 ∧ v7kl2 < (((nth v0list (Int.toNat (v6il1))).posts).length : Int)) (ck ((-9223372036854775808 : Int) ≤ v5suml2 + ((nth ((nth v0list (Int.toNat (v6il1))).posts) (Int.toNat (v7kl2))).amount) ∧ v5suml2 + ((nth ((nth v0list (Int.toNat (v6il1))).posts) (Int.toNat (v7kl2))).amount) ≤ (9223372036854775807 : Int)) (ck ((-9223372036854775808 : Int) ≤ v7kl2 + 1 ∧ v7kl2 + 1 ≤ (9223372036854775807 : Int)) (some (.inl (v5suml2 + ((nth ((nth v0list (Int.toNat (v6il1))).posts) (Int.toNat (v7kl2))).amount), v7kl2 + 1))))))) else ck ((-9223372036854775808 : Int) ≤ v7kl2 + 1 ∧ v7kl2 + 1 ≤ (9223372036854775807 : Int)) (some (.inl (v5suml2, v7kl2 + 1)))))) else ck ((-9223372036854775808 : Int) ≤ v6il1 + 1 ∧ v6il1 + 1 ≤ (9223372036854775807 : Int)) (some (.inr (.inl (v5suml2, v6il1 + 1)))))
def f_billingref47_Balance_l1 (v0list : List Entry) (v1account : List UInt8) (v5suml1 : Int) (v6il1 : Int) : Option ((Int × Int) ⊕ Int) :=
  if (decide (v6il1 < (v0list.length : Int))) = true then (loop (fun s => f_billingref47_Balance_l2 v0list v1account v6il1 s.1 s.2) (v5suml1, 0)) else some (.inr v5suml1)
def f_billingref47_Balance (v0list : List Entry) (v1account : List UInt8) : Option Int :=
  loop (fun s => f_billingref47_Balance_l1 v0list v1account s.1 s.2) (0, 0)
def f_billingref54_Books_j5 (v9j3 : List Int) (v5l1 : List Leak) (v11l1 : Int) (v12j4 : Int) (v13j5 : Int) : Option ((List Leak × Int) ⊕ (List Leak)) :=
  if (v12j4 != v13j5) = true then (ck ((0 : Int) ≤ v11l1 ∧ v11l1 < (v9j3.length : Int)) (ck (v5l1.length + ([(⟨6, nth v9j3 (Int.toNat (v11l1)), v12j4, v13j5⟩ : Leak)] : List Leak).length ≤ 1000000000) (ck ((-9223372036854775808 : Int) ≤ v11l1 + 1 ∧ v11l1 + 1 ≤ (9223372036854775807 : Int)) (some (.inl (v5l1 ++ ([(⟨6, nth v9j3 (Int.toNat (v11l1)), v12j4, v13j5⟩ : Leak)] : List Leak), v11l1 + 1)))))) else ck ((-9223372036854775808 : Int) ≤ v11l1 + 1 ∧ v11l1 + 1 ≤ (9223372036854775807 : Int)) (some (.inl (v5l1, v11l1 + 1)))
def f_billingref54_Books_l2 (v1 : List Entry) (v9j3 : List Int) (v5l1 : List Leak) (v11l1 : Int) (v12j4 : Int) (v13l2 : Int) (v15l2 : Int) : Option ((Int × Int) ⊕ ((List Leak × Int) ⊕ (List Leak))) :=
  if (decide (v15l2 < (v1.length : Int))) = true then (ck ((0 : Int) ≤ v15l2 ∧ v15l2 < (v1.length : Int)) (if (((nth v1 (Int.toNat (v15l2))).text) == ([105, 110, 118, 111, 105, 99, 101] : List UInt8)) = true then (ck ((-9223372036854775808 : Int) ≤ v15l2 + 1 ∧ v15l2 + 1 ≤ (9223372036854775807 : Int)) (ck ((0 : Int) ≤ v15l2 ∧ v15l2 ≤ v15l2 + 1 ∧ v15l2 + 1 ≤ (v1.length : Int)) (ck ((0 : Int) ≤ v11l1 ∧ v11l1 < (v9j3.length : Int)) ((f_billingref47_Receivable (nth v9j3 (Int.toNat (v11l1)))).bind fun y1 => (f_billingref47_Balance ((v1.take (Int.toNat (v15l2 + 1))).drop (Int.toNat (v15l2))) y1).bind fun y2 => ck ((-9223372036854775808 : Int) ≤ v13l2 + y2 ∧ v13l2 + y2 ≤ (9223372036854775807 : Int)) (ck ((-9223372036854775808 : Int) ≤ v15l2 + 1 ∧ v15l2 + 1 ≤ (9223372036854775807 : Int)) (some (.inl (v13l2 + y2, v15l2 + 1)))))))) else ck ((-9223372036854775808 : Int) ≤ v15l2 + 1 ∧ v15l2 + 1 ≤ (9223372036854775807 : Int)) (some (.inl (v13l2, v15l2 + 1))))) else (f_billingref54_Books_j5 v9j3 v5l1 v11l1 v12j4 v13l2).map (fun z => .inr z)
def f_billingref54_Books_j4 (v1 : List Entry) (v9j3 : List Int) (v5l1 : List Leak) (v11l1 : Int) (v12j4 : Int) : Option ((List Leak × Int) ⊕ (List Leak)) :=
  loop (fun s => f_billingref54_Books_l2 v1 v9j3 v5l1 v11l1 v12j4 s.1 s.2) (0, 0)
def f_billingref54_Books_l3 (v0 : List Invoice) (v1 : List Entry) (v9j3 : List Int) (v5l1 : List Leak) (v11l1 : Int) (v12l3 : Int) (v14l3 : Int) : Option ((Int × Int) ⊕ ((List Leak × Int) ⊕ (List Leak))) :=
  if (decide (v14l3 < (v0.length : Int))) = true then (ck ((0 : Int) ≤ v14l3 ∧ v14l3 < (v0.length : Int)) (ck ((0 : Int) ≤ v11l1 ∧ v11l1 < (v9j3.length : Int)) (if (((nth v0 (Int.toNat (v14l3))).account) == (nth v9j3 (Int.toNat (v11l1)))) = true then (ck ((0 : Int) ≤ v14l3 ∧ v14l3 < (v0.length : Int)) (ck ((-9223372036854775808 : Int) ≤ v12l3 + ((nth v0 (Int.toNat (v14l3))).total) ∧ v12l3 + ((nth v0 (Int.toNat (v14l3))).total) ≤ (9223372036854775807 : Int)) (ck ((-9223372036854775808 : Int) ≤ v14l3 + 1 ∧ v14l3 + 1 ≤ (9223372036854775807 : Int)) (some (.inl (v12l3 + ((nth v0 (Int.toNat (v14l3))).total), v14l3 + 1)))))) else ck ((-9223372036854775808 : Int) ≤ v14l3 + 1 ∧ v14l3 + 1 ≤ (9223372036854775807 : Int)) (some (.inl (v12l3, v14l3 + 1)))))) else (f_billingref54_Books_j4 v1 v9j3 v5l1 v11l1 v12l3).map (fun z => .inr z)
def f_billingref54_Books_l1 (v0 : List Invoice) (v1 : List Entry) (v9j3 : List Int) (v5l1 : List Leak) (v11l1 : Int) : Option ((List Leak × Int) ⊕ (List Leak)) :=
  if (decide (v11l1 < (v9j3.length : Int))) = true then (loop (fun s => f_billingref54_Books_l3 v0 v1 v9j3 v5l1 v11l1 s.1 s.2) (0, 0)) else some (.inr v5l1)
def f_billingref54_Books_j3 (v0 : List Invoice) (v1 : List Entry) (v5j2 : List Leak) (v9j3 : List Int) : Option (List Leak) :=
  loop (fun s => f_billingref54_Books_l1 v0 v1 v9j3 s.1 s.2) (v5j2, 0)
def f_billingref54_Books_l4 (v0 : List Invoice) (v1 : List Entry) (v5j2 : List Leak) (v9l4 : List Int) (v10l4 : Int) : Option ((List Int × Int) ⊕ (List Leak)) :=
  if (decide (v10l4 < (v0.length : Int))) = true then (ck ((0 : Int) ≤ v10l4 ∧ v10l4 < (v0.length : Int)) ((f_billingref54_Keys v9l4 ((nth v0 (Int.toNat (v10l4))).account)).bind fun y3 => ck ((-9223372036854775808 : Int) ≤ v10l4 + 1 ∧ v10l4 + 1 ≤ (9223372036854775807 : Int)) (some (.inl (y3, v10l4 + 1))))) else (f_billingref54_Books_j3 v0 v1 v5j2 v9l4).map (fun z => .inr z)
def f_billingref54_Books_j2 (v0 : List Invoice) (v1 : List Entry) (v5j2 : List Leak) : Option (List Leak) :=
  loop (fun s => f_billingref54_Books_l4 v0 v1 v5j2 s.1 s.2) ([], 0)
def f_billingref54_Books_j1 (v0 : List Invoice) (v1 : List Entry) (v6j1 : Int) : Option (List Leak) :=
  if (v6j1 != 0) = true then (ck (([] : List Leak).length + ([(⟨6, 0, v6j1, 0⟩ : Leak)] : List Leak).length ≤ 1000000000) (f_billingref54_Books_j2 v0 v1 (([] : List Leak) ++ ([(⟨6, 0, v6j1, 0⟩ : Leak)] : List Leak)))) else f_billingref54_Books_j2 v0 v1 ([] : List Leak)
def f_billingref54_Books_l6 (v1 : List Entry) (v7l5 : Int) (v6l6 : Int) (v8l6 : Int) : Option ((Int × Int) ⊕ ((Int × Int) ⊕ (List Leak))) :=
  ck ((0 : Int) ≤ v7l5 ∧ v7l5 < (v1.length : Int)) (if (decide (v8l6 < (((nth v1 (Int.toNat (v7l5))).posts).length : Int))) = true then (ck ((0 : Int) ≤ v7l5 ∧ v7l5 < (v1.length : Int)) (ck ((0 : Int) ≤ v8l6 ∧ v8l6 < (((nth v1 (Int.toNat (v7l5))).posts).length : Int)) (ck ((-9223372036854775808 : Int) ≤ v6l6 + ((nth ((nth v1 (Int.toNat (v7l5))).posts) (Int.toNat (v8l6))).amount) ∧ v6l6 + ((nth ((nth v1 (Int.toNat (v7l5))).posts) (Int.toNat (v8l6))).amount) ≤ (9223372036854775807 : Int)) (ck ((-9223372036854775808 : Int) ≤ v8l6 + 1 ∧ v8l6 + 1 ≤ (9223372036854775807 : Int)) (some (.inl (v6l6 + ((nth ((nth v1 (Int.toNat (v7l5))).posts) (Int.toNat (v8l6))).amount), v8l6 + 1))))))) else ck ((-9223372036854775808 : Int) ≤ v7l5 + 1 ∧ v7l5 + 1 ≤ (9223372036854775807 : Int)) (some (.inr (.inl (v6l6, v7l5 + 1)))))
def f_billingref54_Books_l5 (v0 : List Invoice) (v1 : List Entry) (v6l5 : Int) (v7l5 : Int) : Option ((Int × Int) ⊕ (List Leak)) :=
  if (decide (v7l5 < (v1.length : Int))) = true then (loop (fun s => f_billingref54_Books_l6 v1 v7l5 s.1 s.2) (v6l5, 0)) else (f_billingref54_Books_j1 v0 v1 v6l5).map (fun z => .inr z)
def f_billingref54_Books (v0 : List Invoice) (v1 : List Entry) : Option (List Leak) :=
  loop (fun s => f_billingref54_Books_l5 v0 v1 s.1 s.2) (0, 0)
def f_billinglaw54_AssureBooks_j2 (v0 : List Invoice) (v1 : List Entry) : Option Bool :=
  ck (v0.length ≤ 1000000000) ((f_billingref47_CloneAll v1).bind fun y2 => (f_assure_Books v0 y2).bind fun y3 => (f_billingref54_Books v0 v1).bind fun y4 => (f_billingref54_Same y3 y4).bind fun y5 => (gcall y5 (f_billinglaw54_awake)).bind fun y6 => some (y5 && y6))
def f_billinglaw54_AssureBooks_l2 (v1 : List Entry) (v6l1 : Int) (v7l2 : Int) : Option ((Int) ⊕ ((Int) ⊕ Bool)) :=
  ck ((0 : Int) ≤ v6l1 ∧ v6l1 < (v1.length : Int)) (if (decide (v7l2 < (((nth v1 (Int.toNat (v6l1))).posts).length : Int))) = true then (ck ((0 : Int) ≤ v6l1 ∧ v6l1 < (v1.length : Int)) (ck ((0 : Int) ≤ v7l2 ∧ v7l2 < (((nth v1 (Int.toNat (v6l1))).posts).length : Int)) (if ((decide (((nth ((nth v1 (Int.toNat (v6l1))).posts) (Int.toNat (v7l2))).amount) < (-1125899906842624))) || (decide (((nth ((nth v1 (Int.toNat (v6l1))).posts) (Int.toNat (v7l2))).amount) > 1125899906842624))) = true then ((f_billinglaw54_awake).bind fun y8 => some (.inr (.inr y8))) else ck ((-9223372036854775808 : Int) ≤ v7l2 + 1 ∧ v7l2 + 1 ≤ (9223372036854775807 : Int)) (some (.inl (v7l2 + 1)))))) else ck ((-9223372036854775808 : Int) ≤ v6l1 + 1 ∧ v6l1 + 1 ≤ (9223372036854775807 : Int)) (some (.inr (.inl (v6l1 + 1)))))
def f_billinglaw54_AssureBooks_l1 (v0 : List Invoice) (v1 : List Entry) (v6l1 : Int) : Option ((Int) ⊕ Bool) :=
  if (decide (v6l1 < (v1.length : Int))) = true then (ck ((0 : Int) ≤ v6l1 ∧ v6l1 < (v1.length : Int)) (if (decide ((((nth v1 (Int.toNat (v6l1))).posts).length : Int) > 24)) = true then ((f_billinglaw54_awake).bind fun y7 => some (.inr y7)) else loop (fun s => f_billinglaw54_AssureBooks_l2 v1 v6l1 s) 0)) else (f_billinglaw54_AssureBooks_j2 v0 v1).map (fun z => .inr z)
def f_billinglaw54_AssureBooks_j1 (v0 : List Invoice) (v1 : List Entry) : Option Bool :=
  loop (fun s => f_billinglaw54_AssureBooks_l1 v0 v1 s) 0
def f_billinglaw54_AssureBooks_l3 (v0 : List Invoice) (v1 : List Entry) (v5l3 : Int) : Option ((Int) ⊕ Bool) :=
  if (decide (v5l3 < (v0.length : Int))) = true then (ck ((0 : Int) ≤ v5l3 ∧ v5l3 < (v0.length : Int)) (ck ((!(decide (((nth v0 (Int.toNat (v5l3))).total) < (-1125899906842624)))) = true → ((0 : Int) ≤ v5l3 ∧ v5l3 < (v0.length : Int))) (ck ((!((decide (((nth v0 (Int.toNat (v5l3))).total) < (-1125899906842624))) || (decide (((nth v0 (Int.toNat (v5l3))).total) > 1125899906842624)))) = true → ((0 : Int) ≤ v5l3 ∧ v5l3 < (v0.length : Int))) (ck ((!(((decide (((nth v0 (Int.toNat (v5l3))).total) < (-1125899906842624))) || (decide (((nth v0 (Int.toNat (v5l3))).total) > 1125899906842624))) || (decide (((nth v0 (Int.toNat (v5l3))).account) < 1)))) = true → ((0 : Int) ≤ v5l3 ∧ v5l3 < (v0.length : Int))) (if ((((decide (((nth v0 (Int.toNat (v5l3))).total) < (-1125899906842624))) || (decide (((nth v0 (Int.toNat (v5l3))).total) > 1125899906842624))) || (decide (((nth v0 (Int.toNat (v5l3))).account) < 1))) || (decide (((nth v0 (Int.toNat (v5l3))).account) > 9999))) = true then ((f_billinglaw54_awake).bind fun y9 => some (.inr y9)) else ck ((-9223372036854775808 : Int) ≤ v5l3 + 1 ∧ v5l3 + 1 ≤ (9223372036854775807 : Int)) (some (.inl (v5l3 + 1)))))))) else (f_billinglaw54_AssureBooks_j1 v0 v1).map (fun z => .inr z)
def f_billinglaw54_AssureBooks (v0 : List Invoice) (v1 : List Entry) : Option Bool :=
  if ((decide ((v0.length : Int) > 24)) || (decide ((v1.length : Int) > 24))) = true then ((f_billinglaw54_awake).bind fun y1 => some y1) else loop (fun s => f_billinglaw54_AssureBooks_l3 v0 v1 s) 0
end Go.Proofs.Ytpdanklncjopoaa
