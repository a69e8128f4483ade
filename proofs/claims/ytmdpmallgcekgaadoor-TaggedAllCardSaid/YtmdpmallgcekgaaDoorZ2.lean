/- Our own texts G12 G13 G14 LTys LF E1 Sh LX LW0 of this seat in one. -/
import Derived.Test.YtmdpmallgcekgaaDoorZ1
import Derived.Test.YtmdpmallgcekgaaDoorRows
import Derived.Lib.ItoaNum
import Derived.Lib.Join
import Derived.Sort.Grow
import Derived.Deep.Draws
import Derived.Shelf.Strings.Builder1
import Derived.Shelf.Strings.Builder2
import Derived.Shelf.Strings.OnBuilder
import Derived.Shelf.Strconv.Itoa0
import Derived.Shelf.Strconv.Itoa1
import Derived.Shelf.LaysM
import Derived.Shelf.Strconv.Itoa2
import Derived.Shelf.Strconv.Itoa3
import Derived.Test.YtmdpmallgcekgaaDoorProg
/- Literals of maps: the entries come in whatever order. -/
set_option linter.unusedSimpArgs false
set_option linter.unusedVariables false
set_option linter.unusedSectionVars false
namespace Go.Abs
open Go.RowKit
section lit
variable {P : Program} {f : FuncId} {N : Nat} {S : Start} {Q : EV → St → Prop} {k : List Item} {κ : Type} [BEq κ] [LawfulBEq κ] {key : TypeId}
theorem ARun.split {todo : List Item} {env : Env} {st : St} (b : Bool) (ht : b = true → ARun P f N S Q todo env st) (hf : b = false → ARun P f N S Q todo env st) : ARun P f N S Q todo env st := by
  cases hb : b with
  | true => exact ht hb
  | false => exact hf hb

/-- The operations of a map's literal, one by one. -/
def MStep (P : Program) (N : Nat) (l : List Oper) (m : Nat) (t : TypeId) (K : KeyF P key κ) (ins : List (Nat × κ × EV)) (st0 : St) (i : Nat) (o : Oper) (env : Env) (x : EV) : Prop :=
  dstOk N o.dst = true ∧
  (((Nat.beq i m || ins.any fun e => Nat.beq e.1 i) = false ∧ ∀ st, (st = st0 ∨ ∃ es, st = st0.add (.map es)) → OpAny P l env st o x) ∨
   (i = m ∧ o.guard = none ∧ x = .mp st0.objs.length ∧ ∃ t, o.op = .makeMap t none) ∨
   (∃ kk v dk a b c, (i, kk, v) ∈ ins ∧ x = .d .any ∧ o.guard = none ∧ o.op = .insert t a b c ∧ evo env a = some (.mp st0.objs.length) ∧ evo env b = some (.d dk) ∧ (∀ lim w v, DRep lim w dk v → v = K.ke kk) ∧ evo env c = some v ∧
      ((masks l []).getD i 0).testBit m = true))
def MChain (P : Program) (N : Nat) (l : List Oper) (m : Nat) (t : TypeId) (K : KeyF P key κ) (ins : List (Nat × κ × EV)) (st0 : St) : Nat → List Oper → List EV → Env → Prop
  | _, [], [], _ => True
  | i, o :: os, x :: xs, env => MStep P N l m t K ins st0 i o (renv l o env) x ∧ MChain P N l m t K ins st0 (i + 1) os xs (env.put o.dst x)
  | _, _, _, _ => False
theorem MChain.length {l : List Oper} {m : Nat} {t : TypeId} {K : KeyF P key κ} {ins : List (Nat × κ × EV)} {st0 : St} : ∀ {i : Nat} {os : List Oper} {xs : List EV} {env : Env}, MChain P N l m t K ins st0 i os xs env → xs.length = os.length
  | _, [], [], _, _ => rfl
  | _, o :: os, x :: xs, env, h => by simp [MChain.length h.2]
  | _, [], x :: xs, _, h => h.elim
  | _, o :: os, [], _, h => h.elim
theorem MChain.get {l : List Oper} {m : Nat} {t : TypeId} {K : KeyF P key κ} {ins : List (Nat × κ × EV)} {st0 : St} : ∀ {i : Nat} {os : List Oper} {xs : List EV} {env : Env} {j : Nat} {o : Oper}, MChain P N l m t K ins st0 i os xs env → os[j]? = some o →
    ∃ x, xs[j]? = some x ∧ MStep P N l m t K ins st0 (i + j) o (renv l o (putAll env (os.take j) (xs.take j))) x
  | i, o' :: os, x :: xs, env, 0, o, h, ho => by
    simp at ho; subst ho
    exact ⟨x, rfl, by simpa [putAll] using h.1⟩
  | i, o' :: os, x :: xs, env, j + 1, o, h, ho => by
    obtain ⟨y, h1, h2⟩ := MChain.get (j := j) h.2 (by simpa using ho)
    exact ⟨y, by simpa using h1, by simpa [putAll, Nat.add_assoc, Nat.add_comm 1 j] using h2⟩
  | i, [], xs, env, j, o, h, ho => by simp at ho
  | i, o' :: os, [], _, _, _, h, _ => h.elim

theorem filter_more {β : Type} {L : Nat → Bool} {i : Nat} {x : β} : ∀ {ins : List (Nat × β)}, (ins.map (·.1)).Nodup → (i, x) ∈ ins → L i = false →
    (ins.filter fun e => e.1 == i || L e.1).Perm ((i, x) :: ins.filter fun e => L e.1)
  | [], _, h, _ => by cases h
  | e :: ins, hn, h, hL => by
    simp only [List.map_cons, List.nodup_cons] at hn
    have other : ∀ e' ∈ ins, e'.1 ≠ e.1 := fun e' he' hee => hn.1 (hee ▸ List.mem_map_of_mem (f := (·.1)) he')
    rcases List.mem_cons.1 h with he | he
    · subst he
      have hrest : (ins.filter fun e => e.1 == i || L e.1) = ins.filter fun e => L e.1 := List.filter_congr fun e' he' => by
        have := other e' he'
        simp [this]
      rw [List.filter_cons, List.filter_cons]
      simp [hL, hrest]
    · have ih := filter_more hn.2 he hL
      have hei : e.1 ≠ i := fun hh => other (i, x) he hh.symm
      rw [List.filter_cons, List.filter_cons]
      have h1 : (e.1 == i || L e.1) = L e.1 := by simp [hei]
      rw [h1]
      cases L e.1 with
      | true => simp only [if_true]; exact (ih.cons e).trans (.swap ..)
      | false => simpa using ih

theorem ARun.drawnMF {id : Nat} {l : List Oper} {env : Env} {st : St} {t e : TypeId} (p m : Nat) (K : KeyF P key κ) (ins : List (Nat × κ × EV)) (hm : P.follows .mixedOrders = true) (hB : drawB l p = true) (hu : P.underlying t = some (.map key e))
    (hmp : m < p) (hip : ∀ e ∈ ins, e.1 < p) (hmi : ∀ e ∈ ins, e.1 ≠ m) (hn1 : (ins.map (·.1)).Nodup) (hn2 : (ins.map (·.2.1)).Nodup) {xs : List EV} (hch : MChain P N l m t K ins st 0 (l.take p) xs env)
    (hsuf : ∀ es, es.Perm (ins.map (·.2)) → AOps P f N S Q l (l.drop p) k (putAll env (l.take p) xs) (st.add (.map (encE K.ke es)))) : ARun P f N S Q (.code (.region id l.toArray true) :: k) env st := by
  have hp : p ≤ l.length := by
    simp only [drawB, Bool.and_eq_true] at hB
    simpa using hB.2
  have hxp : xs.length = p := by rw [hch.length]; simp; omega
  refine ARun.drawnF p xs (fun L s => (L m = false ∧ s = st ∧ ∀ e ∈ ins, L e.1 = false) ∨ (L m = true ∧ ∃ es, s = st.add (.map (encE K.ke es)) ∧ es.Perm ((ins.filter fun e => L e.1).map (·.2)))) hm hB hxp (.inl ⟨rfl, rfl, fun _ _ => rfl⟩) ?_ ?_
  · intro L s i o hi ho hLi hmask hF
    obtain ⟨x, hx, hd, hst⟩ := hch.get (j := i) (o := o) (by rw [List.getElem?_take, if_pos hi]; exact ho)
    rw [Nat.zero_add] at hst
    refine ⟨hd, ?_⟩
    rcases hst with ⟨hne, hop⟩ | ⟨him, hg, hxe, t', hop⟩ | ⟨kk, v, dk, a, b, c, hin, hxe, hg, hop, ha, hb, hk, hc, hbit⟩
    · simp only [Bool.or_eq_false_iff] at hne
      have him : i ≠ m := fun e => by rw [e, Nat.beq_refl] at hne; cases hne.1
      have hie : ∀ e ∈ ins, e.1 ≠ i := fun e he hh => by
        have := List.any_eq_false.1 hne.2 e he
        rw [hh, Nat.beq_refl] at this
        exact this rfl
      refine ⟨x, s, hx, .inl ⟨rfl, hop s ?_⟩, ?_⟩
      · rcases hF with ⟨_, h, _⟩ | ⟨_, es, h, _⟩
        · exact .inl h
        · exact .inr ⟨_, h⟩
      · rcases hF with ⟨h1, h2, h3⟩ | ⟨h1, es, h2, h3⟩
        · exact .inl ⟨by simp [Ne.symm him, h1], h2, fun e he => by simp [hie e he, h3 e he]⟩
        · refine .inr ⟨by simp [h1], es, h2, ?_⟩
          have : (ins.filter fun e => e.1 == i || L e.1) = ins.filter fun e => L e.1 := List.filter_congr fun e he => by simp [hie e he]
          rw [this]; exact h3
    · subst him
      rcases hF with ⟨h1, h2, h3⟩ | ⟨h1, _⟩
      · subst h2
        refine ⟨x, s.add (.map []), hx, .inr (.inl ⟨hg, ?_⟩), .inr ⟨by simp, [], rfl, ?_⟩⟩
        · obtain ⟨d, op, ty, pos, after, gd⟩ := o
          simp only at hop hg
          subst hop; subst hxe
          exact v_makeMap
        · have : (ins.filter fun e => e.1 == i || L e.1) = [] := List.filter_eq_nil_iff.2 fun e he => by simp [hmi e he, h3 e he]
          rw [this]; exact .nil
      · rw [hLi] at h1; cases h1
    · have hLm := hmask m hbit
      rcases hF with ⟨h1, _⟩ | ⟨h1, es, h2, h3⟩
      · rw [hLm] at h1; cases h1
      · have hkn : kk ∉ es.map (·.1) := by
          intro hkin
          have h4 := (h3.map (·.1)).mem_iff.1 hkin
          obtain ⟨e1, he1, hk1⟩ := List.mem_map.1 h4
          obtain ⟨e2, he2, rfl⟩ := List.mem_map.1 he1
          obtain ⟨he3, hL3⟩ := List.mem_filter.1 he2
          have huniq : ∀ {ins : List (Nat × κ × EV)}, (ins.map (·.2.1)).Nodup → ∀ a ∈ ins, ∀ b ∈ ins, a.2.1 = b.2.1 → a = b := by
            intro ins
            induction ins with
            | nil => intro _ a ha; cases ha
            | cons c r ih =>
              intro hn a ha b hb hab
              simp only [List.map_cons, List.nodup_cons] at hn
              rcases List.mem_cons.1 ha with ha' | ha' <;> rcases List.mem_cons.1 hb with hb' | hb'
              · rw [ha', hb']
              · exact absurd (by rw [← ha', hab]; exact List.mem_map_of_mem (f := (·.2.1)) hb') hn.1
              · exact absurd (by rw [← hb', ← hab]; exact List.mem_map_of_mem (f := (·.2.1)) ha') hn.1
              · exact ih hn.2 a ha' b hb' hab
          have := huniq hn2 e2 he3 (i, kk, v) hin hk1
          rw [this] at hL3
          rw [hLi] at hL3
          cases hL3
        have haset : aset es kk v = es ++ [(kk, v)] := by unfold aset; rw [afind_none hkn]
        refine ⟨x, st.add (.map (encE K.ke (es ++ [(kk, v)]))), hx, .inr (.inr ⟨hg, hxe, ?_⟩), .inr ⟨by simp [hLm], _, rfl, ?_⟩⟩
        · obtain ⟨d, op, ty, pos, after, gd⟩ := o
          simp only at hop hg
          subst hop; subst h2
          have := u_insertE (base := S.base) (l := es) (d := d) (ty := ty) (pos := pos) (after := after) (gd := gd) (z := c) (st := st.add (.map (encE K.ke es))) K hu ha (by simp [St.add]) hb hk hc
          rw [haset] at this
          have hset : (st.add (.map (encE K.ke es))).set st.objs.length (.map (encE K.ke (es ++ [(kk, v)]))) = st.add (.map (encE K.ke (es ++ [(kk, v)]))) := by
            simp [St.add, St.set]
          rw [hset] at this
          exact this
        · have h5 := filter_more hn1 hin hLi
          have h6 := h5.map (·.2)
          refine List.Perm.trans ?_ h6.symm
          simp only [List.map_cons]
          exact (List.perm_append_singleton _ _).trans (h3.cons _)
  · intro L s hL hF
    rcases hF with ⟨h1, _⟩ | ⟨h1, es, h2, h3⟩
    · rw [hL m hmp] at h1; cases h1
    · subst h2
      have : (ins.filter fun e => L e.1) = ins := List.filter_eq_self.2 fun e he => hL _ (hip e he)
      rw [this] at h3
      exact hsuf es h3

/-- What is left of the operations of a map's literal. -/
def MOps (P : Program) (f : FuncId) (N : Nat) (S : Start) (Q : EV → St → Prop) (l : List Oper) (p m : Nat) (t : TypeId) (K : KeyF P key κ) (ins : List (Nat × κ × EV)) (i : Nat) (os : List Oper) (k : List Item) (env : Env) (st : St) : Prop :=
  ∃ xs, MChain P N l m t K ins st i os xs env ∧ ∀ es, es.Perm (ins.map (·.2)) → AOps P f N S Q l (l.drop p) k (putAll env os xs) (st.add (.map (encE K.ke es)))
variable {l : List Oper} {p m : Nat} {t : TypeId} {K : KeyF P key κ} {ins : List (Nat × κ × EV)} {i : Nat} {os : List Oper} {env : Env} {st : St} {d : Option Tmp} {op : Op} {ty : TypeId} {pos : String} {after : Array Edge} {x : EV}
theorem MOps.nil (h : ∀ es, es.Perm (ins.map (·.2)) → AOps P f N S Q l (l.drop p) k env (st.add (.map (encE K.ke es)))) : MOps P f N S Q l p m t K ins i [] k env st := ⟨[], trivial, h⟩
theorem MOps.g (h : ∀ s, (s = st ∨ ∃ es, s = st.add (.map es)) → OpG P (renv l ⟨d, op, ty, pos, after, none⟩ env) s ⟨d, op, ty, pos, after, none⟩ x) (hb : (Nat.beq i m || ins.any fun e => Nat.beq e.1 i) = false) (hd : dstOk N d = true)
    (hk : MOps P f N S Q l p m t K ins (i + 1) os k (env.put d x) st) : MOps P f N S Q l p m t K ins i (⟨d, op, ty, pos, after, none⟩ :: os) k env st := by
  obtain ⟨xs, h1, h2⟩ := hk
  exact ⟨x :: xs, ⟨⟨hd, .inl ⟨hb, fun s hs => .inl ⟨rfl, h s hs⟩⟩⟩, h1⟩, h2⟩
theorem MOps.q (h : ∀ s, (s = st ∨ ∃ es, s = st.add (.map es)) → OpQ P (renv l ⟨d, op, ty, pos, after, none⟩ env) s ⟨d, op, ty, pos, after, none⟩ x) (hb : (Nat.beq i m || ins.any fun e => Nat.beq e.1 i) = false) (hd : dstOk N d = true)
    (hk : MOps P f N S Q l p m t K ins (i + 1) os k (env.put d x) st) : MOps P f N S Q l p m t K ins i (⟨d, op, ty, pos, after, none⟩ :: os) k env st := .g (fun s hs => (h s hs).g) hb hd hk
theorem MOps.make {t' : TypeId} (hi : i = m) (hd : dstOk N d = true) (hk : MOps P f N S Q l p m t K ins (i + 1) os k (env.put d (.mp st.objs.length)) st) :
    MOps P f N S Q l p m t K ins i (⟨d, .makeMap t' none, ty, pos, after, none⟩ :: os) k env st := by
  obtain ⟨xs, h1, h2⟩ := hk
  exact ⟨.mp st.objs.length :: xs, ⟨⟨hd, .inr (.inl ⟨hi, rfl, rfl, t', rfl⟩)⟩, h1⟩, h2⟩
theorem MOps.insE {a b c : Operand} {kk : κ} {v : EV} {dk : D} (j : Nat) (hin : ins[j]? = some (i, kk, v)) (ha : evo (renv l ⟨none, .insert t a b c, ty, pos, after, none⟩ env) a = some (.mp st.objs.length))
    (hb : evo (renv l ⟨none, .insert t a b c, ty, pos, after, none⟩ env) b = some (.d dk)) (hkk : ∀ lim w v, DRep lim w dk v → v = K.ke kk) (hc : evo (renv l ⟨none, .insert t a b c, ty, pos, after, none⟩ env) c = some v)
    (hbit : ((masks l []).getD i 0).testBit m = true) (hk : MOps P f N S Q l p m t K ins (i + 1) os k env st) : MOps P f N S Q l p m t K ins i (⟨none, .insert t a b c, ty, pos, after, none⟩ :: os) k env st := by
  obtain ⟨xs, h1, h2⟩ := hk
  exact ⟨.d .any :: xs, ⟨⟨rfl, .inr (.inr ⟨kk, v, dk, a, b, c, List.mem_of_getElem? hin, rfl, rfl, rfl, ha, hb, hkk, hc, hbit⟩)⟩, h1⟩, h2⟩
theorem ARun.drawnM {id : Nat} {e : TypeId} (p m : Nat) (K : KeyF P key κ) (ins : List (Nat × κ × EV)) (hm : P.follows .mixedOrders = true) (hB : drawB l p = true) (hu : P.underlying t = some (.map key e))
    (hmp : m < p) (hip : (ins.all fun e => decide (e.1 < p) && !Nat.beq e.1 m) = true) (hn1 : (ins.map (·.1)).Nodup) (hn2 : (ins.map (·.2.1)).Nodup) (h : MOps P f N S Q l p m t K ins 0 (l.take p) k env st) :
    ARun P f N S Q (.code (.region id l.toArray true) :: k) env st := by
  obtain ⟨xs, h1, h2⟩ := h
  have hip' : ∀ e ∈ ins, e.1 < p ∧ e.1 ≠ m := fun e he => by
    have := List.all_eq_true.1 hip e he
    simp only [Bool.and_eq_true, decide_eq_true_eq, Bool.not_eq_true'] at this
    exact ⟨this.1, fun hh => by rw [hh, Nat.beq_refl] at this; cases this.2⟩
  exact .drawnMF p m K ins hm hB hu hmp (fun e he => (hip' e he).1) (fun e he => (hip' e he).2) hn1 hn2 h1 h2
end lit
end Go.Abs

/- Structs as keys of maps. -/
set_option linter.unusedSimpArgs false
set_option linter.unusedVariables false
set_option linter.unusedSectionVars false
namespace Go.Abs
open Go.RowKit
theorem aggKey {lim : Nat → Nat} {w : World} {ds : List D} {vs : List Value} {v : Value} (h : DRep lim w (.agg ds) v) (he : exs ds = some vs) : v = .agg vs.toArray := by
  have hm := exs_map he
  subst hm
  cases h with
  | agg _ us hs ho hc =>
    congr 1
    apply Array.ext'
    apply List.ext_getElem?
    intro i
    simp only [List.length_map] at hs
    by_cases hi : i < vs.length
    · have h1 : us[i]? = some (us[i]'(by omega)) := Array.getElem?_eq_getElem (by omega)
      have h2 := hc i (.ex vs[i]) _ (by simp [hi]) h1
      rw [Array.getElem?_toList, h1, drep_ex h2]
      simp [hi]
    · rw [List.getElem?_eq_none (by simp; omega), List.getElem?_eq_none (by simpa using hi)]
section keys
variable {P : Program}
theorem sameBits_one {k : FK} {v : Value} (h : fkFits k v = true) (n : Nat) : Instr.sameBits n v v = true := by
  cases v <;> cases k <;> simp [fkFits] at h <;> simp [Instr.sameBits] <;> (rw [beq_toListBytes]; simp)
theorem sameBits_flat : ∀ {ks : List FK} {vs : List Value}, fitAll ks vs = true → ∀ n, (vs.zip vs).all (fun p => Instr.sameBits n p.1 p.2) = true
  | [], [], _, n => rfl
  | k :: ks, v :: vs, h, n => by
    simp only [fitAll, Bool.and_eq_true] at h
    simp only [List.zip_cons_cons, List.all_cons, sameBits_one h.1, sameBits_flat h.2, Bool.and_self]
  | [], _ :: _, h, _ => by cases h
  | _ :: _, [], h, _ => by cases h
theorem checkKey_one {t : TypeId} {k : FK} (h : fkOf (P.underlying t) = some k) {v : Value} (hv : fkFits k v = true) (b : Bool) (n : Nat) (w : World) : (Instr.checkKey b (n + 1) t v).run P w = .ok () w := by
  cases hd : P.underlying t with
  | none => rw [hd] at h; cases h
  | some dsc =>
    rw [hd] at h
    cases dsc <;> simp only [fkOf, Option.some.injEq, reduceCtorEq] at h <;> subst h <;> cases v <;> simp [fkFits] at hv <;> simp [Instr.checkKey, run_underlying hd]
theorem checkFields (b : Bool) (n : Nat) (w : World) (X : Array Value) : ∀ (fs : List Field) (k : Nat) (ks : List FK) (vs : List Value), flatFrom P k fs = some ks → fitAll ks vs = true → (∀ (j : Nat) v, vs[j]? = some v → X[k + j]? = some v) →
    (forIn fs PUnit.unit (fun f _ => do
      if f.name ≠ "_" then do
        Instr.checkKey b (n + 1) f.type (← part f.type X f.offset)
        pure (.yield PUnit.unit)
      else pure (.yield PUnit.unit)) : Sem PUnit).run P w = .ok PUnit.unit w
  | [], k, ks, vs, h, hv, hX => by simp
  | f :: fs, k, ks, vs, h, hv, hX => by
    unfold flatFrom at h
    split at h
    · rename_i kk ks' h1 h2 h3 h4
      simp only [Option.some.injEq] at h
      subst h
      match vs with
      | [] => cases hv
      | v :: vs =>
        simp only [fitAll, Bool.and_eq_true] at hv
        have ho := Nat.eq_of_beq_eq_true h1
        have hname : f.name ≠ "_" := of_decide_eq_true h2
        have px := part_one h3 (cs := X) (off := f.offset) (hX 0 v rfl |> fun h => by rw [ho]; simpa using h) w
        have pc := checkKey_one h3 hv.1 b n w
        have ih := checkFields b n w X fs (k + 1) ks' vs h4 hv.2 (fun j v hv => by have := hX (j + 1) v (by simpa using hv); rwa [show k + 1 + j = k + (j + 1) by omega])
        rw [List.forIn_cons]
        simp only [if_pos hname, Sem.run_bind, px, pc, Result.andThen_ok, Sem.run_pure]
        exact ih
    · cases h
def stKF {κ : Type} [BEq κ] [LawfulBEq κ] {key : TypeId} {fs : Array Field} {ks : List FK} (vals : κ → List Value) (hu : P.underlying key = some (.struct fs)) (hk : flatKinds P key = some ks) (hf : ∀ a, fitAll ks (vals a) = true)
    (he : ∀ a b, eqVs (vals a) (vals b) = (a == b)) : KeyF P key κ :=
  askKF (fun a => .agg (vals a).toArray) hu (fun _ _ => rfl) (fun a b w => by
      have := (eq_flat (P := P) hk (hf a) (hf b) w .eql (.const (.bool true)) (.const (.bool true))).2
      rw [he a b] at this
      exact this)
    (fun a => by
      have := sameBits_flat (hf a) 9999
      show Instr.sameBits (9999 + 1) _ _ = true
      simp only [Instr.sameBits]
      simpa using this)
    (fun a b w => by
      have hfl : flatFrom P 0 fs.toList = some ks := by
        unfold flatKinds at hk
        rw [hu] at hk
        simp only at hk
        split at hk
        · cases hk
        · exact hk
      have := checkFields (P := P) b 9998 w (vals a).toArray fs.toList 0 ks (vals a) hfl (hf a) (fun j v hv => by simpa using hv)
      show (Instr.checkKey b (9999 + 1) key _).run P w = .ok () w
      unfold Instr.checkKey
      simp only [Sem.run_bind, run_underlying hu, Result.andThen_ok]
      rw [← Array.forIn_toList, show (9999 : Nat) = 9998 + 1 from rfl, this]
      rfl)
end keys
end Go.Abs

/- Regions that may come in any order: the orders told by lists; what turns the state comes in a known order; parts of a state renamed. -/
set_option linter.unusedSimpArgs false
set_option linter.unusedVariables false
set_option linter.unusedSectionVars false
namespace Go.Abs
open Go.RowKit
/-- A list of the first p operations that keeps to what must have come ahead. -/
structure Sched (l : List Oper) (p : Nat) (σ : List Nat) : Prop where
  nodup : σ.Nodup
  mem : ∀ i, i ∈ σ ↔ i < p
  mask : ∀ pre i post, σ = pre ++ i :: post → ∀ j, ((masks l []).getD i 0).testBit j = true → j ∈ pre
theorem lin_main {l : List Oper} {p : Nat} (hp : p ≤ l.length)
    (hord : ∀ i, p ≤ i → i < l.length → ∀ j, j < i → ((masks l []).getD i 0).testBit j = true)
    (hacyc : ∀ (i : Nat) o, l[i]? = some o → ∀ e ∈ o.after, Region.binds .any e = true → e.on < i) :
    ∀ (cnt fuel t : Nat) (listed : Array Bool), listed.size = l.length → Closed l listed → (∀ i, p ≤ i → i < l.length → listed.getD i true = false) →
      (((List.range p).filter fun i => !listed.getD i true).length = cnt) → cnt + (l.length - p) ≤ fuel →
      ∃ σ : List Nat, Region.linearise.go .any l.toArray fuel t listed [] = σ ++ List.range' p (l.length - p) ∧ σ.Nodup ∧ (∀ i, i ∈ σ ↔ i < p ∧ listed.getD i true = false) ∧
        ∀ pre i post, σ = pre ++ i :: post → ∀ j, ((masks l []).getD i 0).testBit j = true → j ∈ pre ∨ listed.getD j false = true := by
  intro cnt
  induction cnt with
  | zero =>
    intro fuel t listed hs hcl hsu hcnt hfuel
    have hall : ∀ i, i < p → listed.getD i true = true := by
      intro i hi
      have h0 := List.eq_nil_of_length_eq_zero hcnt
      have hn : i ∉ (List.range p).filter fun i => !listed.getD i true := by rw [h0]; simp
      rw [List.mem_filter, List.mem_range] at hn
      cases hb : listed.getD i true with
      | true => rfl
      | false => exact absurd ⟨hi, by simp [hb]⟩ hn
    have hgo := go_suffix hord hacyc fuel t p listed (Nat.le_refl _) hp (by omega) hs (fun i hi => by
      by_cases h : i < p
      · rw [hall i h]; simp [h]
      · rw [hsu i (by omega) hi]; simp [h])
    refine ⟨[], by rw [hgo]; rfl, List.nodup_nil, fun i => ⟨fun h => (by cases h), fun h => ?_⟩, fun pre i post h => by simp at h⟩
    rw [hall i h.1] at h; cases h.2
  | succ cnt ih =>
    intro fuel t listed hs hcl hsu hcnt hfuel
    obtain ⟨fuel, rfl⟩ : ∃ n, fuel = n + 1 := ⟨fuel - 1, by omega⟩
    -- an operation of the prefix that has not come up
    have hex : ∃ i, i < p ∧ listed.getD i true = false := by
      have : (List.range p).filter (fun i => !listed.getD i true) ≠ [] := fun h => by rw [h] at hcnt; simp at hcnt
      obtain ⟨i, hi⟩ := List.exists_mem_of_ne_nil _ this
      rw [List.mem_filter, List.mem_range] at hi
      exact ⟨i, hi.1, by simpa using hi.2⟩
    have hDF : ∀ i, i < l.length → listed.getD i false = listed.getD i true := fun i hi => by
      have hlt : i < listed.size := by omega
      simp [Array.getD_eq_getD_getElem?, hlt]
    have hrd : ((List.range l.toArray.size).filter fun i => !listed.getD i true && ((l.toArray[i]?).map (·.after.all fun e => !Region.binds .any e || listed.getD e.on false)).getD false) = Region.ready .any l.toArray listed := rfl
    -- the least such is ready
    have hne : Region.ready .any l.toArray listed ≠ [] := by
      have hmin : ∀ n i, i ≤ n → i < p → listed.getD i true = false → ∃ i, i < p ∧ listed.getD i true = false ∧ ∀ j, j < i → listed.getD j true = true := by
        intro n
        induction n with
        | zero => intro i hi hp' h; exact ⟨i, hp', h, fun j hj => by omega⟩
        | succ n ihn =>
          intro i hi hp' h
          by_cases hh' : ∃ j, j < i ∧ listed.getD j true = false
          · obtain ⟨j, hj, hjl⟩ := hh'
            exact ihn j (by omega) (by omega) hjl
          · refine ⟨i, hp', h, fun j hj => ?_⟩
            cases hb : listed.getD j true with
            | true => rfl
            | false => exact absurd ⟨j, hj, hb⟩ hh'
      obtain ⟨i0, h0, h1⟩ := hex
      obtain ⟨i, hip, hiu, hbel⟩ := hmin i0 i0 (Nat.le_refl _) h0 h1
      have hil : i < l.length := by omega
      have : i ∈ Region.ready .any l.toArray listed := by
        rw [mem_ready]
        refine ⟨hiu, l[i], by simp [hil], fun e he hb => ?_⟩
        have hlt := hacyc i l[i] (List.getElem?_eq_getElem hil) e he hb
        rw [hDF _ (by omega)]
        exact hbel _ hlt
      intro hnil
      rw [hnil] at this
      cases this
    simp only [Region.linearise.go, hrd]
    have hlen : 0 < (Region.ready .any l.toArray listed).length := List.length_pos_iff.2 hne
    have hmod := Nat.mod_lt t hlen
    generalize hi : (Region.ready .any l.toArray listed)[t % (Region.ready .any l.toArray listed).length] = i
    have hsome : (Region.ready .any l.toArray listed)[t % (Region.ready .any l.toArray listed).length]? = some i := by rw [List.getElem?_eq_getElem hmod, hi]
    rw [hsome]
    simp only []
    rw [linearise_go_acc]
    have him : i ∈ Region.ready .any l.toArray listed := List.mem_of_getElem? hsome
    obtain ⟨hiu, o, ho, hall⟩ := mem_ready.1 him
    have ho' : l[i]? = some o := by simpa using ho
    have hil := (List.getElem?_eq_some_iff.1 ho').1
    have hmask := ready_mask hcl ho' (fun e he hb => hall e he hb)
    have hip : i < p := by
      rcases Nat.lt_or_ge i p with h | h
      · exact h
      · obtain ⟨i0, h0, h1⟩ := hex
        have := hmask i0 (hord i h hil i0 (by omega))
        rw [hDF i0 (by omega), h1] at this
        cases this
    -- what remains behind it
    have hcnt' : ((List.range p).filter fun j => !(listed.setIfInBounds i true).getD j true).length = cnt := by
      have hset : ∀ j, (listed.setIfInBounds i true).getD j true = (listed.getD j true || decide (j = i)) := by
        intro j
        by_cases hji : j = i
        · subst hji; simp [Array.getD_eq_getD_getElem?, hs, hil]
        · rw [getD_set_ne true (Ne.symm hji)]; simp [hji]
      have hfil : ((List.range p).filter fun j => !(listed.setIfInBounds i true).getD j true) = ((List.range p).filter fun j => !listed.getD j true).filter fun j => !decide (j = i) := by
        rw [List.filter_filter]
        refine List.filter_congr fun j _ => ?_
        rw [hset j]
        cases listed.getD j true <;> simp
      rw [hfil]
      have hnd : ((List.range p).filter fun j => !listed.getD j true).Nodup := List.nodup_range.filter _
      have hmem : i ∈ (List.range p).filter fun j => !listed.getD j true := by rw [List.mem_filter, List.mem_range]; exact ⟨hip, by simp [hiu]⟩
      have hcount : ∀ (L : List Nat), L.Nodup → i ∈ L → (L.filter fun j => !decide (j = i)).length + 1 = L.length := by
        intro L
        induction L with
        | nil => intro _ h; cases h
        | cons a L ihL =>
          intro hn hm
          rw [List.nodup_cons] at hn
          by_cases ha : a = i
          · subst ha
            have : (L.filter fun j => !decide (j = a)) = L := by
              rw [List.filter_eq_self]
              intro b hb
              have : b ≠ a := fun e => hn.1 (e ▸ hb)
              simp [this]
            rw [List.filter_cons]
            simp [this]
          · have hm' : i ∈ L := by
              rcases List.mem_cons.1 hm with h | h
              · exact absurd h.symm ha
              · exact h
            rw [List.filter_cons]
            simp only [ha, decide_false, Bool.not_false, if_true, List.length_cons]
            rw [ihL hn.2 hm']
      have := hcount _ hnd hmem
      omega
    have hcl' : Closed l (listed.setIfInBounds i true) := by
      intro j oj hoj hlj e he' hb
      by_cases hji : j = i
      · subst hji
        rw [ho'] at hoj
        cases hoj
        exact getD_set_true (hall e he' hb)
      · rw [getD_set_ne false (Ne.symm hji)] at hlj
        exact getD_set_true (hcl j oj hoj hlj e he' hb)
    have hsu' : ∀ j, p ≤ j → j < l.length → (listed.setIfInBounds i true).getD j true = false := fun j hj hjl => by rw [getD_set_ne true (by omega)]; exact hsu j hj hjl
    obtain ⟨σ, h1, h2, h3, h4⟩ := ih fuel (t / (Region.ready .any l.toArray listed).length) _ (by simpa using hs) hcl' hsu' hcnt' (by omega)
    have hset : ∀ j, (listed.setIfInBounds i true).getD j true = (listed.getD j true || decide (j = i)) := by
      intro j
      by_cases hji : j = i
      · subst hji; simp [Array.getD_eq_getD_getElem?, hs, hil]
      · rw [getD_set_ne true (Ne.symm hji)]; simp [hji]
    refine ⟨i :: σ, ?_, ?_, ?_, ?_⟩
    · rw [h1]; rfl
    · rw [List.nodup_cons]
      refine ⟨fun hm => ?_, h2⟩
      have := ((h3 i).1 hm).2
      rw [hset] at this
      simp at this
    · intro j
      rw [List.mem_cons, h3, hset]
      constructor
      · rintro (rfl | ⟨a, b⟩)
        · exact ⟨hip, hiu⟩
        · refine ⟨a, ?_⟩
          cases hj : listed.getD j true with
          | false => rfl
          | true => rw [hj] at b; simp at b
      · rintro ⟨a, b⟩
        by_cases hji : j = i
        · exact .inl hji
        · exact .inr ⟨a, by simp [b, hji]⟩
    · intro pre i' post he j hj
      cases pre with
      | nil =>
        simp only [List.nil_append, List.cons.injEq] at he
        rw [← he.1] at hj
        exact .inr (hmask j hj)
      | cons a pre =>
        simp only [List.cons_append, List.cons.injEq] at he
        rcases h4 pre i' post he.2 j hj with h | h
        · exact .inl (List.mem_cons_of_mem _ h)
        · by_cases hji : j = i
          · left; rw [hji, he.1]; exact List.mem_cons_self
          · rw [getD_set_ne false (Ne.symm hji)] at h
            exact .inr h
section run
variable {P : Program} {f : FuncId} {N : Nat} {S : Start} {Q : EV → St → Prop} {k : List Item}
/-- A region that draws: all its orders. -/
theorem ARun.orders {id : Nat} {l : List Oper} {env : Env} {st : St} (p : Nat) (hm : P.follows .mixedOrders = true) (hB : drawB l p = true)
    (h : ∀ σ, Sched l p σ → ARun P f N S Q (.inRegion l.toArray (σ ++ List.range' p (l.length - p)) :: k) env st) : ARun P f N S Q (.code (.region id l.toArray true) :: k) env st := by
  simp only [drawB, Bool.and_eq_true] at hB
  obtain ⟨⟨⟨⟨hB1, hB2⟩, hB3⟩, hB4⟩, hB5⟩ := hB
  have hp : p ≤ l.length := by simpa using hB5
  intro g w tmps hinv hh he hn
  refine FWP.regionDraw fun t => ?_
  have hsch : Region.schedule (P.follows .mixedOrders) l.toArray t = Region.linearise .any l.toArray t := by simp [Region.schedule, hm]
  rw [hsch]
  have hb : Below w.heap.size w { w with drawn := w.drawn + 1 } := (Below.refl _ w).drew
  obtain ⟨hinv', hst⟩ := hinv.grow (g' := g) hb (fun _ _ => rfl) rfl rfl
  unfold Region.linearise
  obtain ⟨σ, h1, h2, h3, h4⟩ := lin_main (l := l) (p := p) hp (fun i hi hil j hj => by
      have h1 := allBelow_get hB3 hil
      simp only [Bool.or_eq_true, decide_eq_true_eq] at h1
      rcases h1 with h1 | h1
      · omega
      · exact allBelow_get h1 hj) (fun i o ho e he' hb' => by
      have hil := (List.getElem?_eq_some_iff.1 ho).1
      have h1 := allBelow_get hB4 hil
      rw [ho] at h1
      simp only [List.all_eq_true] at h1
      have := h1 e (by simpa using he')
      simpa [hb'] using this) p l.toArray.size t (Array.replicate l.toArray.size false) (by simp) (fun i o ho hli => by
      simp [Array.getD_eq_getD_getElem?, Array.getElem?_replicate] at hli
      split at hli <;> simp_all) (fun i hi hil => by simp [Array.getD_eq_getD_getElem?, Array.getElem?_replicate, hil]) (by
      have : ((List.range p).filter fun i => !(Array.replicate l.toArray.size false).getD i true) = List.range p := by
        rw [List.filter_eq_self]
        intro i hi
        have hi' := List.mem_range.1 hi
        have : i < l.length := by omega
        simp [Array.getD_eq_getD_getElem?, Array.getElem?_replicate, this]
      rw [this]; simp) (by simp; omega)
  rw [h1]
  refine h σ ⟨h2, fun i => ?_, fun pre i post he j hj => ?_⟩ g _ tmps hinv' (hh.step hst) (he.mono hst.sevo) hn
  · rw [h3]
    constructor
    · exact fun h => h.1
    · intro hi
      have : i < l.length := by omega
      exact ⟨hi, by simp [Array.getD_eq_getD_getElem?, Array.getElem?_replicate, this]⟩
  · rcases h4 pre i post he j hj with h | h
    · exact h
    · simp [Array.getD_eq_getD_getElem?, Array.getElem?_replicate] at h
      split at h <;> simp_all
/-- One order, run through. -/
theorem ARun.runσ {l : List Oper} {p : Nat} {σ : List Nat} {env : Env} {st : St} (hs : Sched l p σ) (hp : p ≤ l.length) (xs : List EV) (F : List Nat → St → Prop)
    (hC1 : ∀ i j t, i < p → j < p → i ≠ j → dstAt l i = some t → dstAt l j ≠ some t)
    (hC2 : ∀ (i : Nat) o, i < p → l[i]? = some o → ∀ t ∈ slots l o, ∀ j, j < p → j ≠ i → dstAt l j = some t → (j < i ∧ ((masks l []).getD i 0).testBit j = true) ∨ (i < j ∧ ((masks l []).getD j 0).testBit i = true))
    (hxp : xs.length = p) (hF0 : F [] st)
    (hstep : ∀ pre i post st o, σ = pre ++ i :: post → l[i]? = some o → F pre st → dstOk N o.dst = true ∧ ∃ x st', xs[i]? = some x ∧ OpE P S.base l (renv l o (putAll env ((l.take p).take i) (xs.take i))) st o x st' ∧ F (pre ++ [i]) st')
    (hsuf : ∀ st, F σ st → AOps P f N S Q l (l.drop p) k (putAll env (l.take p) xs) st) : ARun P f N S Q (.inRegion l.toArray (σ ++ List.range' p (l.length - p)) :: k) env st := by
  have hxl : xs.length = (l.take p).length := by simp; omega
  suffices key : ∀ (post pre : List Nat) (st : St) (g : Ghost) (w : World) (tmps : Array Value), σ = pre ++ post → F pre st → Inv g S.base w st → Hist S g w st → tmps.size = N →
      (∀ (s : Tmp), (∀ (j : Nat) x, j ∈ pre → dstAt l j = some s → xs[j]? = some x → ∃ v, tmps[s]? = some v ∧ EVRep g w st x v) ∧
        ((∀ j, j ∈ pre → dstAt l j ≠ some s) → ∀ y, lookup s env = some y → ∃ v, tmps[s]? = some v ∧ EVRep g w st y v)) →
      FWP P f (RPost S Q) (.inRegion l.toArray (post ++ List.range' p (l.length - p)) :: k) tmps w by
    intro g w tmps hinv hh he hN
    exact key σ [] st g w tmps rfl hF0 hinv hh hN fun s => ⟨fun j x hj => by (cases hj), fun _ y hy => he s y hy⟩
  intro post
  induction post with
  | nil =>
    intro pre st g w tmps hσ hF hinv hh hN hJ
    rw [List.append_nil] at hσ
    subst hσ
    have hdl : (l.drop p).length = l.length - p := by simp
    rw [List.nil_append, ← hdl]
    refine hsuf st hF p (fun j => by rw [List.getElem?_drop]) g w tmps hinv hh (fun s y hy => ?_) hN
    rcases lookup_putAll hxl hy with ⟨j, o, h1, h2, h3⟩ | ⟨h1, h2⟩
    · have hj : j < p := by have := (List.getElem?_eq_some_iff.1 h2).1; omega
      have ho : l[j]? = some o := by rw [List.getElem?_take] at h1; rw [if_pos hj] at h1; exact h1
      exact (hJ s).1 j y ((hs.mem j).2 hj) (by simp [dstAt, ho, h3]) h2
    · refine (hJ s).2 (fun j hj hd => ?_) y h2
      have hj' := (hs.mem j).1 hj
      cases ho : l[j]? with
      | none => simp [dstAt, ho] at hd
      | some o => exact h1 j o (by rw [List.getElem?_take, if_pos hj']; exact ho) (by simpa [dstAt, ho] using hd)
  | cons i post ih =>
    intro pre st g w tmps hσ hF hinv hh hN hJ
    have hi : i < p := (hs.mem i).1 (by rw [hσ]; simp)
    have hil : i < l.length := by omega
    obtain ⟨o, ho'⟩ : ∃ o, l[i]? = some o := ⟨_, List.getElem?_eq_getElem hil⟩
    have hmask := hs.mask pre i post hσ
    have hipre : i ∉ pre := by
      have := hs.nodup
      rw [hσ, List.nodup_append] at this
      exact fun hm => this.2.2 i hm i List.mem_cons_self rfl
    have hprelt : ∀ j, j ∈ pre → j < p := fun j hj => (hs.mem j).1 (by rw [hσ]; simp [hj])
    obtain ⟨hd, x, st', hx, hop, hF'⟩ := hstep pre i post st o hσ ho' hF
    -- what the operation looks at
    have he : EnvRep g w st (renv l o (putAll env ((l.take p).take i) (xs.take i))) tmps := by
      intro s y hy
      obtain ⟨hsl, hy'⟩ := renvOf_get hy
      rcases lookup_putAll (by simp [hxl]) hy' with ⟨j, o', h1, h2, h3⟩ | ⟨h1, h2⟩
      · have hji : j < i := by have := (List.getElem?_eq_some_iff.1 h2).1; simp at this; omega
        have hoj : l[j]? = some o' := by
          rw [List.getElem?_take, if_pos hji, List.getElem?_take, if_pos (by omega)] at h1; exact h1
        have hdj : dstAt l j = some s := by simp [dstAt, hoj, h3]
        rcases hC2 i o hi ho' s hsl j (by omega) (by omega) hdj with ⟨_, hb⟩ | ⟨hlt, _⟩
        · exact (hJ s).1 j y (hmask j hb) hdj (by rw [List.getElem?_take, if_pos hji] at h2; exact h2)
        · omega
      · refine (hJ s).2 (fun j hj hdj => ?_) y h2
        have hji : j ≠ i := fun e => hipre (e ▸ hj)
        rcases hC2 i o hi ho' s hsl j (hprelt j hj) hji hdj with ⟨hlt, _⟩ | ⟨hlt, hb⟩
        · cases hoj : l[j]? with
          | none => simp [dstAt, hoj] at hdj
          | some o' => exact h1 j o' (by rw [List.getElem?_take, if_pos hlt, List.getElem?_take, if_pos (hprelt j hj)]; exact hoj) (by simpa [dstAt, hoj] using hdj)
        · -- j came ahead of i, though it must come behind it
          obtain ⟨a, b, hab⟩ := List.append_of_mem hj
          have := hs.mask a j (b ++ i :: post) (by rw [hσ, hab]; simp) i hb
          exact absurd (by rw [hab]; simp [this] : i ∈ pre) hipre
    have next : ∀ (g' : Ghost) (w' : World) (v : Value), EVRep g' w' st' x v → Inv g' S.base w' st' → Step S.base g w st g' w' st' →
        FWP P f (RPost S Q) (.inRegion l.toArray (post ++ List.range' p (l.length - p)) :: k) (Act.put ⟨tmps, []⟩ o.dst v).tmps w' := by
      intro g' w' v hxr hinv' hst
      refine ih (pre ++ [i]) st' g' w' _ (by rw [hσ]; simp) hF' hinv' (hh.step hst) (by rw [size_put]; exact hN) fun s => ⟨fun j y hj hdj hy => ?_, fun hno y hy => ?_⟩
      · by_cases hji : j = i
        · subst hji
          have hods : o.dst = some s := by simpa [dstAt, ho'] using hdj
          rw [hx] at hy
          cases hy
          rw [hods]
          have hsz : s < tmps.size := by
            rw [hods] at hd
            have hd' : s + 1 ≤ N := Nat.le_of_ble_eq_true hd
            rw [hN]
            exact hd'
          exact ⟨v, by simp [Act.put, hsz], hxr⟩
        · have hj' : j ∈ pre := by
            rcases List.mem_append.1 hj with h | h
            · exact h
            · exact absurd (List.mem_singleton.1 h) hji
          obtain ⟨u, h1, h2⟩ := (hJ s).1 j y hj' hdj hy
          have hne' : o.dst ≠ some s := fun e => hC1 j i s (hprelt j hj') hi hji hdj (by simp [dstAt, ho', e])
          refine ⟨u, ?_, h2.mono hst.sevo⟩
          cases hod : o.dst with
          | none => exact h1
          | some d =>
            have : d ≠ s := fun e => hne' (by rw [hod, e])
            simp [Act.put, Array.getElem?_setIfInBounds, this, h1]
      · have hne' : o.dst ≠ some s := fun e => hno i (by simp) (by simp [dstAt, ho', e])
        obtain ⟨u, h1, h2⟩ := (hJ s).2 (fun j hj => hno j (by simp [hj])) y hy
        refine ⟨u, ?_, h2.mono hst.sevo⟩
        cases hod : o.dst with
        | none => exact h1
        | some d =>
          have : d ≠ s := fun e => hne' (by rw [hod, e])
          simp [Act.put, Array.getElem?_setIfInBounds, this, h1]
    have hoA : l.toArray[i]? = some o := by simpa using ho'
    show FWP P f (RPost S Q) (.inRegion l.toArray (i :: _) :: k) tmps w
    have nextG : st' = st → ∀ (lim' : Nat → Nat) (w' : World) (v : Value), Good g w st x lim' w' v →
        FWP P f (RPost S Q) (.inRegion l.toArray (post ++ List.range' p (l.length - p)) :: k) (Act.put ⟨tmps, []⟩ o.dst v).tmps w' := by
      rintro rfl lim' w' v ⟨hxr, hb, hl⟩
      obtain ⟨hinv', hst⟩ := hinv.grow (g' := { g with lim := lim' }) hb hl rfl rfl
      exact next _ w' v hxr hinv' hst
    rcases hop with ⟨hse, hop⟩ | ⟨hg, hop⟩ | ⟨hg, rfl, hop⟩
    · rcases hop with ⟨hg, hop⟩ | ⟨j, want, tt, c, b, y, env', hg, hj, hlk, hgc, rfl, hE, hop⟩
      · have hw : Region.wanted o (yielded l.toArray tmps) = true := by simp [Region.wanted, hg]
        rcases hop g S.base w tmps hinv he with ⟨v, lim', w', hr, hgood⟩ | ⟨f', args, hr, hc⟩
        · exact FWP.value hoA hw hr (nextG hse lim' w' v hgood)
        · exact FWP.call hoA hw hr (hc.mono fun e w' ⟨v, lim', h1, h2⟩ => ⟨v, h1, nextG hse lim' w' v h2⟩)
      · obtain ⟨u, hu, hur⟩ := he tt c hlk
        have hw : Region.wanted o (yielded l.toArray tmps) = b := by
          rw [← gcond_rep hgc hur]
          have hj' : ((l.toArray)[j]?).bind (·.dst) = some tt := by simpa using hj
          simp only [Region.wanted, hg, yielded, hj', Option.bind_some, hu]
          cases u <;> rfl
        cases b with
        | false => exact FWP.unwanted hoA hw (nextG hse g.lim w undef ⟨.gd _ _ _ (fun _ => rfl) (fun h => by cases h), .refl _ _, fun _ _ => rfl⟩)
        | true =>
          have wrap : ∀ lim' w' v, Good g w st y lim' w' v → Good g w st (.gd true y) lim' w' v := fun lim' w' v ⟨a, b, c⟩ => ⟨.gd _ _ _ (fun h => by cases h) (fun _ => a), b, c⟩
          rcases hop rfl g S.base w tmps hinv (he.gd hE rfl) with ⟨v, lim', w', hr, hgood⟩ | ⟨f', args, hr, hc⟩
          · exact FWP.value hoA hw hr (nextG hse lim' w' v (wrap _ _ _ hgood))
          · exact FWP.call hoA hw hr (hc.mono fun e w' ⟨v, lim', h1, h2⟩ => ⟨v, h1, nextG hse lim' w' v (wrap _ _ _ h2)⟩)
    · have hw : Region.wanted o (yielded l.toArray tmps) = true := by simp [Region.wanted, hg]
      obtain ⟨v, g', w', hr, hxr, hinv', hst⟩ := hop g w tmps hinv he
      exact FWP.value hoA hw hr (next g' w' v hxr hinv' hst)
    · have hw : Region.wanted o (yielded l.toArray tmps) = true := by simp [Region.wanted, hg]
      obtain ⟨g', w', hr, hinv', hst⟩ := hop g w tmps hinv he
      exact FWP.skip hoA hw hr (next g' w' undef (.d _ _ (.any _)) hinv' hst)


/-- What is asked of all states of a list. -/
def AllL : List St → (St → Prop) → Prop
  | [], _ => True
  | s :: r, p => p s ∧ AllL r p
theorem AllL.get {p : St → Prop} : ∀ {ss : List St} {i : Nat} {s : St}, AllL ss p → ss[i]? = some s → p s
  | s :: r, 0, s', h, hs => by simp at hs; subst hs; exact h.1
  | s :: r, i + 1, s', h, hs => AllL.get h.2 (by simpa using hs)
  | [], i, s', h, hs => by simp at hs
/-- May the operation i come up when the first m of the operations E (which turn the state) have come up? -/
def mayB (l : List Oper) (E : List Nat) (i m : Nat) : Bool := E.zipIdx.all fun e => (!((masks l []).getD i 0).testBit e.1 || decide (e.2 < m)) && (!((masks l []).getD e.1 0).testBit i || decide (m ≤ e.2))
def boundB (l : List Oper) (E : List Nat) (i lo hi : Nat) : Bool := (List.range (E.length + 1)).all fun m => !mayB l E i m || (decide (lo ≤ m) && decide (m ≤ hi))
def EStep (P : Program) (N base : Nat) (l : List Oper) (E : List Nat) (sts : List St) (i : Nat) (o : Oper) (env : Env) (x : EV) : Prop :=
  dstOk N o.dst = true ∧
  ((∃ lo hi, (!E.any fun e => Nat.beq e i) = true ∧ boundB l E i lo hi = true ∧ AllL ((sts.take (hi + 1)).drop lo) fun s => OpAny P l env s o x) ∨
   (∃ m s s', E[m]? = some i ∧ sts[m]? = some s ∧ sts[m + 1]? = some s' ∧ o.guard = none ∧ (OpV P base env s o x s' ∨ x = .d .any ∧ OpU P base env s o s')))
def EChain (P : Program) (N base : Nat) (l : List Oper) (E : List Nat) (sts : List St) : Nat → List Oper → List EV → Env → Prop
  | _, [], [], _ => True
  | i, o :: os, x :: xs, env => EStep P N base l E sts i o (renv l o env) x ∧ EChain P N base l E sts (i + 1) os xs (env.put o.dst x)
  | _, _, _, _ => False
theorem EChain.length {base : Nat} {l : List Oper} {E : List Nat} {sts : List St} : ∀ {i : Nat} {os : List Oper} {xs : List EV} {env : Env}, EChain P N base l E sts i os xs env → xs.length = os.length
  | _, [], [], _, _ => rfl
  | _, o :: os, x :: xs, env, h => by simp [EChain.length h.2]
  | _, [], x :: xs, _, h => h.elim
  | _, o :: os, [], _, h => h.elim
theorem EChain.get {base : Nat} {l : List Oper} {E : List Nat} {sts : List St} : ∀ {i : Nat} {os : List Oper} {xs : List EV} {env : Env} {j : Nat} {o : Oper}, EChain P N base l E sts i os xs env → os[j]? = some o →
    ∃ x, xs[j]? = some x ∧ EStep P N base l E sts (i + j) o (renv l o (putAll env (os.take j) (xs.take j))) x
  | i, o' :: os, x :: xs, env, 0, o, h, ho => by
    simp at ho; subst ho
    exact ⟨x, rfl, by simpa [putAll] using h.1⟩
  | i, o' :: os, x :: xs, env, j + 1, o, h, ho => by
    obtain ⟨y, h1, h2⟩ := EChain.get (j := j) h.2 (by simpa using ho)
    exact ⟨y, by simpa using h1, by simpa [putAll, Nat.add_assoc, Nat.add_comm 1 j] using h2⟩
  | i, [], xs, env, j, o, h, ho => by simp at ho
  | i, o' :: os, [], _, _, _, h, _ => h.elim
/-- An order in which what turns the state comes as told. -/
theorem ARun.effσ {l : List Oper} {p : Nat} {σ : List Nat} {env : Env} {st stF : St} (hB : drawB l p = true) (hs : Sched l p σ) (E : List Nat) (sts : List St) (hE : σ.filter (fun i => E.any fun e => Nat.beq e i) = E) {xs : List EV}
    (h0 : sts[0]? = some st) (hF : sts[E.length]? = some stF) (hch : EChain P N S.base l E sts 0 (l.take p) xs env) (hsuf : AOps P f N S Q l (l.drop p) k (putAll env (l.take p) xs) stF) :
    ARun P f N S Q (.inRegion l.toArray (σ ++ List.range' p (l.length - p)) :: k) env st := by
  simp only [drawB, Bool.and_eq_true] at hB
  obtain ⟨⟨⟨⟨hB1, hB2⟩, hB3⟩, hB4⟩, hB5⟩ := hB
  have hp : p ≤ l.length := by simpa using hB5
  have hxp : xs.length = p := by rw [hch.length]; simp; omega
  refine ARun.runσ hs hp xs (fun pre s => sts[(pre.filter fun i => E.any fun e => Nat.beq e i).length]? = some s) ?_ ?_ hxp h0 ?_ ?_
  · intro i j t hi hj hij hdi hdj
    have := allBelow_get (allBelow_get hB2 hi) hj
    simp [hij, hdi, hdj] at this
  · intro i o hi ho t ht j hj hji hdj
    have h1 := allBelow_get hB1 hi
    rw [ho] at h1
    simp only [List.all_eq_true] at h1
    have h2 := allBelow_get (h1 t ht) hj
    simp only [hdj, bne_self_eq_false, Bool.or_false, Bool.or_eq_true, Bool.and_eq_true, decide_eq_true_eq, beq_iff_eq] at h2
    rcases h2 with (h2 | h2) | h2
    · exact absurd h2.symm hji
    · exact .inl h2
    · exact .inr h2
  · intro pre i post s o hσ ho hFs
    have hi : i < p := (hs.mem i).1 (by rw [hσ]; simp)
    obtain ⟨x, hx, hst⟩ := hch.get (j := i) (o := o) (by rw [List.getElem?_take, if_pos hi]; exact ho)
    rw [Nat.zero_add] at hst
    obtain ⟨hd, hst⟩ := hst
    refine ⟨hd, x, ?_⟩
    -- how far the turning operations have come
    have hsplit : E = (pre.filter fun i => E.any fun e => Nat.beq e i) ++ ((i :: post).filter fun i => E.any fun e => Nat.beq e i) := by
      have := hE
      rw [hσ, List.filter_append] at this
      exact this.symm
    generalize hm : (pre.filter fun i => E.any fun e => Nat.beq e i).length = m at hFs
    have hmE : m ≤ E.length := by rw [hsplit, List.length_append, hm]; omega
    rcases hst with ⟨lo, hi', hne, hb, hall⟩ | ⟨m', s0, s1, hEm, hs0, hs1, hg, hop⟩
    · have hnoE : (E.any fun e => Nat.beq e i) = false := by simpa using hne
      have hmay : mayB l E i m = true := by
        unfold mayB
        rw [List.all_eq_true]
        rintro ⟨e, j⟩ hej
        have hEj : E[j]? = some e := by
          have := List.mem_zipIdx_iff_getElem?.1 hej
          simpa using this
        have hinE : (E.any fun e' => Nat.beq e' e) = true := List.any_eq_true.2 ⟨e, List.mem_of_getElem? hEj, Nat.beq_refl e⟩
        simp only [Bool.and_eq_true, Bool.or_eq_true, Bool.not_eq_true', decide_eq_true_eq]
        have hnodE : E.Nodup := by rw [← hE]; exact hs.nodup.filter _
        constructor
        · cases hbit : ((masks l []).getD i 0).testBit e with
          | false => exact .inl rfl
          | true =>
            right
            have hin := hs.mask pre i post hσ e hbit
            have hin2 : e ∈ pre.filter fun i => E.any fun e => Nat.beq e i := List.mem_filter.2 ⟨hin, hinE⟩
            obtain ⟨a, ha, hae⟩ := List.mem_iff_getElem.1 hin2
            have : E[a]? = some e := by rw [hsplit, List.getElem?_append_left ha, List.getElem?_eq_getElem ha, hae]
            have haj : a = j := by
              have h1 := (List.getElem?_eq_some_iff.1 this)
              have h2 := (List.getElem?_eq_some_iff.1 hEj)
              exact (List.getElem_inj hnodE).1 (h1.2.trans h2.2.symm)
            omega
        · cases hbit : ((masks l []).getD e 0).testBit i with
          | false => exact .inl rfl
          | true =>
            right
            -- e comes behind i
            rcases Nat.lt_or_ge j m with hjm | hjm
            · have h1 : (pre.filter fun i => E.any fun e => Nat.beq e i)[j]? = some e := by
                rw [hsplit, List.getElem?_append_left (by omega)] at hEj
                exact hEj
              have hin : e ∈ pre := (List.mem_filter.1 (List.mem_of_getElem? h1)).1
              obtain ⟨a, b, hab⟩ := List.append_of_mem hin
              have := hs.mask a e (b ++ i :: post) (by rw [hσ, hab]; simp) i hbit
              have hipre : i ∉ pre := by
                have := hs.nodup
                rw [hσ, List.nodup_append] at this
                exact fun hm => this.2.2 i hm i List.mem_cons_self rfl
              exact absurd (by rw [hab]; simp [this] : i ∈ pre) hipre
            · exact hjm
      have hbd := List.all_eq_true.1 hb m (List.mem_range.2 (by omega))
      rw [hmay] at hbd
      simp only [Bool.not_true, Bool.false_or, Bool.and_eq_true, decide_eq_true_eq] at hbd
      refine ⟨s, hx, .inl ⟨rfl, hall.get (i := m - lo) ?_⟩, ?_⟩
      · rw [List.getElem?_drop, List.getElem?_take, if_pos (by omega), show lo + (m - lo) = m by omega]
        exact hFs
      · rw [List.filter_append, List.filter_cons, hnoE]
        simp only [Bool.false_eq_true, if_false, List.filter_nil, List.append_nil]
        rw [hm]; exact hFs
    · have hinE : (E.any fun e' => Nat.beq e' i) = true := List.any_eq_true.2 ⟨i, List.mem_of_getElem? hEm, Nat.beq_refl i⟩
      have hnodE : E.Nodup := by rw [← hE]; exact hs.nodup.filter _
      have hEm2 : E[m]? = some i := by
        rw [hsplit, List.getElem?_append_right (by omega), hm, Nat.sub_self, List.filter_cons, hinE]
        rfl
      have hmm : m = m' := by
        have h1 := (List.getElem?_eq_some_iff.1 hEm2)
        have h2 := (List.getElem?_eq_some_iff.1 hEm)
        exact (List.getElem_inj hnodE).1 (h1.2.trans h2.2.symm)
      subst hmm
      rw [hFs] at hs0
      cases hs0
      refine ⟨s1, hx, ?_, ?_⟩
      · rcases hop with h | ⟨h1, h2⟩
        · exact .inr (.inl ⟨hg, h⟩)
        · exact .inr (.inr ⟨hg, h1, h2⟩)
      · rw [List.filter_append, List.filter_cons, hinE]
        simp only [if_true, List.filter_nil, List.length_append, List.length_singleton, hm]
        exact hs1
  · intro s hFs
    rw [hE, hF] at hFs
    cases hFs
    exact hsuf
theorem filter_one {σ : List Nat} (hn : σ.Nodup) {e : Nat} (he : e ∈ σ) : σ.filter (fun i => i == e) = [e] := by
  induction σ with
  | nil => cases he
  | cons c r ih =>
    rw [List.nodup_cons] at hn
    by_cases hc : c = e
    · subst hc
      have : r.filter (fun i => i == c) = [] := List.filter_eq_nil_iff.2 fun i hi h => hn.1 (by rw [beq_iff_eq] at h; exact h ▸ hi)
      rw [List.filter_cons, beq_self_eq_true, if_pos rfl, this]
    · rw [List.filter_cons]
      have : (c == e) = false := by simpa using hc
      rw [this]
      simpa using ih hn.2 ((List.mem_cons.1 he).resolve_left (Ne.symm hc))
theorem Sched.one {l : List Oper} {p : Nat} {σ : List Nat} (hs : Sched l p σ) {e : Nat} (he : e < p) : σ.filter (fun i => [e].any fun e => Nat.beq e i) = [e] := by
  have h1 : (fun i => [e].any fun e => Nat.beq e i) = fun i => i == e := by
    funext i
    simp only [List.any_cons, List.any_nil, Bool.or_false]
    rw [Bool.eq_iff_iff, Nat.beq_eq, beq_iff_eq, eq_comm]
  rw [h1]
  exact filter_one hs.nodup ((hs.mem e).2 he)
theorem filter_two {σ : List Nat} (hn : σ.Nodup) {a b : Nat} (hab : a ≠ b) (ha : a ∈ σ) (hb : b ∈ σ) (q : Nat → Bool) (hq : ∀ i, q i = (i == a || i == b)) : σ.filter q = [a, b] ∨ σ.filter q = [b, a] := by
  induction σ with
  | nil => cases ha
  | cons c r ih =>
    rw [List.nodup_cons] at hn
    by_cases hca : c = a
    · subst hca
      left
      have hbr : b ∈ r := (List.mem_cons.1 hb).resolve_left (Ne.symm hab)
      rw [List.filter_cons, hq, beq_self_eq_true, Bool.true_or, if_pos rfl]
      congr 1
      have : r.filter q = r.filter fun i => i == b := List.filter_congr fun i hi => by
        have : i ≠ c := fun e => hn.1 (e ▸ hi)
        rw [hq]; simp [this]
      rw [this]
      exact filter_one hn.2 hbr
    · by_cases hcb : c = b
      · subst hcb
        right
        have har : a ∈ r := (List.mem_cons.1 ha).resolve_left (Ne.symm hca)
        rw [List.filter_cons, hq, beq_self_eq_true, Bool.or_true, if_pos rfl]
        congr 1
        have : r.filter q = r.filter fun i => i == a := List.filter_congr fun i hi => by
          have : i ≠ c := fun e => hn.1 (e ▸ hi)
          rw [hq]; simp [this]
        rw [this]
        exact filter_one hn.2 har
      · have har : a ∈ r := (List.mem_cons.1 ha).resolve_left (Ne.symm hca)
        have hbr : b ∈ r := (List.mem_cons.1 hb).resolve_left (Ne.symm hcb)
        have := ih hn.2 har hbr
        rw [List.filter_cons, hq]
        simpa [hca, hcb] using this
theorem Sched.two {l : List Oper} {p : Nat} {σ : List Nat} (hs : Sched l p σ) {a b : Nat} (hab : a ≠ b) (ha : a < p) (hb : b < p) :
    σ.filter (fun i => [a, b].any fun e => Nat.beq e i) = [a, b] ∨ σ.filter (fun i => [b, a].any fun e => Nat.beq e i) = [b, a] := by
  have q1 : ∀ i, ([a, b].any fun e => Nat.beq e i) = (i == a || i == b) := fun i => by
    simp only [List.any_cons, List.any_nil, Bool.or_false]
    rw [Bool.eq_iff_iff]
    simp only [Bool.or_eq_true, Nat.beq_eq, beq_iff_eq]
    exact ⟨fun h => h.elim (fun h => .inl h.symm) (fun h => .inr h.symm), fun h => h.elim (fun h => .inl h.symm) (fun h => .inr h.symm)⟩
  have q2 : ∀ i, ([b, a].any fun e => Nat.beq e i) = (i == a || i == b) := fun i => by
    simp only [List.any_cons, List.any_nil, Bool.or_false]
    rw [Bool.eq_iff_iff]
    simp only [Bool.or_eq_true, Nat.beq_eq, beq_iff_eq]
    exact ⟨fun h => h.elim (fun h => .inr h.symm) (fun h => .inl h.symm), fun h => h.elim (fun h => .inr h.symm) (fun h => .inl h.symm)⟩
  rcases filter_two hs.nodup hab ((hs.mem a).2 ha) ((hs.mem b).2 hb) _ q1 with h | h
  · exact .inl h
  · right
    have : (fun i => [b, a].any fun e => Nat.beq e i) = fun i => [a, b].any fun e => Nat.beq e i := by
      funext i; rw [q1, q2]
    rw [this]; exact h
/-- Two of which one must come ahead. -/
theorem Sched.two' {l : List Oper} {p : Nat} {σ : List Nat} (hs : Sched l p σ) {a b : Nat} (ha : a < p) (hb : b < p) (hm : ((masks l []).getD b 0).testBit a = true) :
    σ.filter (fun i => [a, b].any fun e => Nat.beq e i) = [a, b] := by
  have hab : a ≠ b := by
    rintro rfl
    obtain ⟨x, y, hxy⟩ := List.append_of_mem ((hs.mem a).2 ha)
    have h1 := hs.mask x a y hxy a hm
    have := hs.nodup
    rw [hxy, List.nodup_append] at this
    exact this.2.2 a h1 a List.mem_cons_self rfl
  rcases hs.two hab ha hb with h | h
  · exact h
  · exfalso
    obtain ⟨x, y, hxy⟩ := List.append_of_mem ((hs.mem b).2 hb)
    have h1 := hs.mask x b y hxy a hm
    rw [hxy, List.filter_append] at h
    have q : ([b, a].any fun e => Nat.beq e b) = true := by simp
    rw [List.filter_cons, q] at h
    have h2 : a ∈ x.filter fun i => [b, a].any fun e => Nat.beq e i := List.mem_filter.2 ⟨h1, by simp⟩
    obtain ⟨u, v, huv⟩ := List.append_of_mem h2
    have hl := congrArg List.length h
    have hbx : b ∉ x := by
      have := hs.nodup
      rw [hxy, List.nodup_append] at this
      exact fun hm => this.2.2 b hm b List.mem_cons_self rfl
    cases hx : x.filter fun i => [b, a].any fun e => Nat.beq e i with
    | nil => rw [hx] at h2; cases h2
    | cons c r =>
      rw [hx] at h
      simp only [List.cons_append, List.cons.injEq] at h
      have : b ∈ x.filter fun i => [b, a].any fun e => Nat.beq e i := by rw [hx, h.1]; exact List.mem_cons_self
      exact hbx (List.mem_filter.1 this).1
/-- What is left of a region's prefix, in an order in which what turns the state comes as told. -/
def XOps (P : Program) (f : FuncId) (N : Nat) (S : Start) (Q : EV → St → Prop) (l : List Oper) (p : Nat) (E : List Nat) (sts : List St) (i : Nat) (os : List Oper) (k : List Item) (env : Env) : Prop :=
  ∃ xs stF, sts[E.length]? = some stF ∧ EChain P N S.base l E sts i os xs env ∧ AOps P f N S Q l (l.drop p) k (putAll env os xs) stF
variable {l : List Oper} {p : Nat} {E : List Nat} {sts : List St} {i : Nat} {os : List Oper} {env : Env} {st : St} {d : Option Tmp} {op : Op} {ty : TypeId} {pos : String} {after : Array Edge} {x : EV}
theorem XOps.nil {stF : St} (hF : sts[E.length]? = some stF) (h : AOps P f N S Q l (l.drop p) k env stF) : XOps P f N S Q l p E sts i [] k env := ⟨[], stF, hF, trivial, h⟩
def GAll (P : Program) (l : List Oper) (env : Env) (o : Oper) (x : EV) : List St → Prop
  | [] => True
  | s :: r => OpG P (renv l o env) s o x ∧ GAll P l env o x r
theorem GAll.all {o : Oper} {P : Program} {l : List Oper} {env : Env} {x : EV} (hg : o.guard = none) : ∀ {ss : List St}, GAll P l env o x ss → AllL ss fun s => OpAny P l (renv l o env) s o x
  | [], _ => trivial
  | s :: r, h => ⟨.inl ⟨hg, h.1⟩, GAll.all hg h.2⟩
theorem XOps.g (lo hi : Nat) (h : GAll P l env ⟨d, op, ty, pos, after, none⟩ x ((sts.take (hi + 1)).drop lo)) (hne : (!E.any fun e => Nat.beq e i) = true) (hb : boundB l E i lo hi = true) (hd : dstOk N d = true)
    (hk : XOps P f N S Q l p E sts (i + 1) os k (env.put d x)) : XOps P f N S Q l p E sts i (⟨d, op, ty, pos, after, none⟩ :: os) k env := by
  obtain ⟨xs, stF, h0, h1, h2⟩ := hk
  exact ⟨x :: xs, stF, h0, ⟨⟨hd, .inl ⟨lo, hi, hne, hb, h.all rfl⟩⟩, h1⟩, h2⟩
theorem XOps.guardG {d : Tmp} {j : Nat} {want b : Bool} {t : Tmp} {c : EV} {env' : Env} (lo hi : Nat) (hj : (l[j]?).bind (·.dst) = some t)
    (hl : lookup t (renv l ⟨some d, op, ty, pos, after, some (j, want)⟩ env) = some c) (hc : gcond c want = some b) (hE : GdEnv b (renv l ⟨some d, op, ty, pos, after, some (j, want)⟩ env) env') (hd : dstOk N (some d) = true)
    (h : b = true → AllL ((sts.take (hi + 1)).drop lo) fun s => OpG P env' s ⟨some d, op, ty, pos, after, some (j, want)⟩ x) (hne : (!E.any fun e => Nat.beq e i) = true) (hb : boundB l E i lo hi = true)
    (hk : XOps P f N S Q l p E sts (i + 1) os k ((d, .gd b x) :: env)) : XOps P f N S Q l p E sts i (⟨some d, op, ty, pos, after, some (j, want)⟩ :: os) k env := by
  obtain ⟨xs, stF, h0, h1, h2⟩ := hk
  refine ⟨.gd b x :: xs, stF, h0, ⟨⟨hd, .inl ⟨lo, hi, hne, hb, ?_⟩⟩, h1⟩, h2⟩
  have mk : ∀ {ss : List St}, (b = true → AllL ss fun s => OpG P env' s ⟨some d, op, ty, pos, after, some (j, want)⟩ x) → AllL ss fun s => OpAny P l (renv l ⟨some d, op, ty, pos, after, some (j, want)⟩ env) s ⟨some d, op, ty, pos, after, some (j, want)⟩ (.gd b x) := by
    intro ss
    induction ss with
    | nil => exact fun _ => trivial
    | cons s r ih => exact fun h => ⟨.inr ⟨j, want, t, c, b, x, env', rfl, hj, hl, hc, rfl, hE, fun hb => (h hb).1⟩, ih fun hb => (h hb).2⟩
  exact mk h
theorem XOps.v {s s' : St} (m : Nat) (h : OpV P S.base (renv l ⟨d, op, ty, pos, after, none⟩ env) s ⟨d, op, ty, pos, after, none⟩ x s') (hE : E[m]? = some i) (h1 : sts[m]? = some s) (h2 : sts[m + 1]? = some s') (hd : dstOk N d = true)
    (hk : XOps P f N S Q l p E sts (i + 1) os k (env.put d x)) : XOps P f N S Q l p E sts i (⟨d, op, ty, pos, after, none⟩ :: os) k env := by
  obtain ⟨xs, stF, h0, h3, h4⟩ := hk
  exact ⟨x :: xs, stF, h0, ⟨⟨hd, .inr ⟨m, s, s', hE, h1, h2, rfl, .inl h⟩⟩, h3⟩, h4⟩
theorem XOps.u {s s' : St} (m : Nat) (h : OpU P S.base (renv l ⟨d, op, ty, pos, after, none⟩ env) s ⟨d, op, ty, pos, after, none⟩ s') (hE : E[m]? = some i) (h1 : sts[m]? = some s) (h2 : sts[m + 1]? = some s') (hd : dstOk N d = true)
    (hk : XOps P f N S Q l p E sts (i + 1) os k (env.put d (.d .any))) : XOps P f N S Q l p E sts i (⟨d, op, ty, pos, after, none⟩ :: os) k env := by
  obtain ⟨xs, stF, h0, h3, h4⟩ := hk
  exact ⟨.d .any :: xs, stF, h0, ⟨⟨hd, .inr ⟨m, s, s', hE, h1, h2, rfl, .inr ⟨rfl, h⟩⟩⟩, h3⟩, h4⟩
theorem ARun.eff {σ : List Nat} {env : Env} {st : St} (hB : drawB l p = true) (hs : Sched l p σ) (hE : σ.filter (fun i => E.any fun e => Nat.beq e i) = E) (h0 : sts[0]? = some st) (h : XOps P f N S Q l p E sts 0 (l.take p) k env) :
    ARun P f N S Q (.inRegion l.toArray (σ ++ List.range' p (l.length - p)) :: k) env st := by
  obtain ⟨xs, stF, h1, h2, h3⟩ := h
  exact .effσ hB hs E sts hE h0 h1 h2 h3

/-- A state that is another one with its places renamed: what is run from that one is run from this one. -/
theorem ARun.reorder {todo : List Item} {env env0 : Env} {st st0 : St} (rs ts : List Nat) (hp : partB rs ts st0 st = true)
    (ho : rs.map (fun r => st.objs[r]?) = st0.objs.map (fun x => some (x.ren (renF rs st.objs.length) (renF ts st.tails.length)))) (ht : ts.map (fun r => st.tails[r]?) = st0.tails.map some)
    (hr : rs.take S.st.objs.length = List.range S.st.objs.length) (htt : ts.take S.st.tails.length = List.range S.st.tails.length) (hl : (Nat.ble S.st.objs.length rs.length && Nat.ble S.st.tails.length ts.length) = true)
    (h5 : st0.objs.all (okObj st0.objs.length st0.tails.length) = true) (hok : (env0.all fun p => okEV st0.objs.length st0.tails.length p.2) = true)
    (hE : SubEnv env (env0.map fun p => (p.1, p.2.ren (renF rs st.objs.length) (renF ts st.tails.length)))) (h : ARun P f N S Q todo env0 st0) : ARun P f N S Q todo env st := by
  obtain ⟨p, e1', e2', l1, l2⟩ := Part.of hp h5 ho ht
  simp only [Bool.and_eq_true] at hl
  have hl1 := Nat.le_of_ble_eq_true hl.1
  have hl2 := Nat.le_of_ble_eq_true hl.2
  have same : ∀ {l : List Nat} {n N : Nat}, l.take n = List.range n → n ≤ l.length → ∀ i, i < n → renF l N i = i := fun {l n N} hl hn i hi => by
    have e : (l.take n)[i]? = some i := by rw [hl, List.getElem?_range hi]
    rw [List.getElem?_take, if_pos hi] at e
    simp [renF, e]
  have so := fun i hi => same (N := st.objs.length) hr hl1 i hi
  have stl := fun i hi => same (N := st.tails.length) htt hl2 i hi
  have hgetT : ∀ {i : Nat}, i < st0.tails.length → st0.tails[i]? = st.tails[renF ts st.tails.length i]? := fun {i} hi => by
    rw [p.tails i _ (List.getElem?_eq_getElem hi), List.getElem?_eq_getElem hi]
  intro g w tmps hinv hh he hN
  refine h (g.sub _ _) w tmps (hinv.part p) ⟨⟨hh.sevo.evo, fun o ho' => ?_, by omega, fun t e sz n hx => ?_, by omega, fun t x' rows' hlt hx' ho' => ?_⟩, hh.below, hh.lim, hh.frame, fun b hb hw => hh.fresh b hb (p.owned hw)⟩ (fun i y hy => ?_) hN
  · show g.ob (renF rs st.objs.length o) = S.g.ob o
    rw [so o ho']
    exact hh.sevo.ob o ho'
  · have hlt : t < S.st.tails.length := (List.getElem?_eq_some_iff.1 hx).1
    obtain ⟨n', a1, a2, a3⟩ := hh.sevo.tails t e sz n hx
    refine ⟨n', ?_, a2, fun e' => ?_⟩
    · rw [hgetT (by omega), stl t hlt]; exact a1
    · show g.tk (renF ts st.tails.length t) = S.g.tk t
      rw [stl t hlt]
      exact a3 e'
  · rw [hgetT (by have := (List.getElem?_eq_some_iff.1 hx').1; exact this), stl t hlt] at hx'
    obtain ⟨y, rows, a1, a2, a3, a4, a5⟩ := hh.sevo.own t x' rows' hlt hx' ho'
    refine ⟨y, rows, a1, a2, a3, a4, fun e' => ?_⟩
    show g.tk (renF ts st.tails.length t) = S.g.tk t
    rw [stl t hlt]
    exact a5 e'
  · have hmap : ∀ {e0 : Env}, lookup i e0 = some y → lookup i (e0.map fun p => (p.1, p.2.ren (renF rs st.objs.length) (renF ts st.tails.length))) = some (y.ren (renF rs st.objs.length) (renF ts st.tails.length)) ∧ (i, y) ∈ e0 := by
      intro e0
      induction e0 with
      | nil => intro hh; cases hh
      | cons q r ih =>
        obtain ⟨j, z⟩ := q
        intro hh
        unfold lookup at hh
        simp only [List.map_cons]
        unfold lookup
        cases hb : Nat.beq i j with
        | true =>
          rw [hb] at hh
          cases hh
          have := Nat.eq_of_beq_eq_true hb
          subst this
          exact ⟨rfl, List.mem_cons_self⟩
        | false =>
          rw [hb] at hh
          exact ⟨(ih hh).1, List.mem_cons_of_mem _ (ih hh).2⟩
    obtain ⟨m1, m2⟩ := hmap hy
    obtain ⟨v, h1, h2⟩ := (he.sub hE) i _ m1
    exact ⟨v, h1, h2.down p.tails (List.all_eq_true.1 hok _ m2)⟩

theorem AOps.reorder {ops rest : List Oper} {env env0 : Env} {st st0 : St} (rs ts : List Nat) (hp : partB rs ts st0 st = true)
    (ho : rs.map (fun r => st.objs[r]?) = st0.objs.map (fun x => some (x.ren (renF rs st.objs.length) (renF ts st.tails.length)))) (ht : ts.map (fun r => st.tails[r]?) = st0.tails.map some)
    (hr : rs.take S.st.objs.length = List.range S.st.objs.length) (htt : ts.take S.st.tails.length = List.range S.st.tails.length) (hl : (Nat.ble S.st.objs.length rs.length && Nat.ble S.st.tails.length ts.length) = true)
    (h5 : st0.objs.all (okObj st0.objs.length st0.tails.length) = true) (hok : (env0.all fun p => okEV st0.objs.length st0.tails.length p.2) = true)
    (hE : SubEnv env (env0.map fun p => (p.1, p.2.ren (renF rs st.objs.length) (renF ts st.tails.length)))) (h : AOps P f N S Q ops rest k env0 st0) : AOps P f N S Q ops rest k env st :=
  fun j hj => .reorder rs ts hp ho ht hr htt hl h5 hok hE (h j hj)
/-- One operation that turns the state. -/
theorem ARun.orders1 {id : Nat} {l : List Oper} {env : Env} {st : St} (p a : Nat) (sts : List St) (hm : P.follows .mixedOrders = true) (hB : drawB l p = true) (ha : a < p) (h0 : sts[0]? = some st)
    (h : XOps P f N S Q l p [a] sts 0 (l.take p) k env) : ARun P f N S Q (.code (.region id l.toArray true) :: k) env st :=
  .orders p hm hB fun _ hσ => .eff hB hσ (hσ.one ha) h0 h
/-- Two, of which one must come ahead. -/
theorem ARun.orders2 {id : Nat} {l : List Oper} {env : Env} {st : St} (p a b : Nat) (sts : List St) (hm : P.follows .mixedOrders = true) (hB : drawB l p = true) (ha : a < p) (hb : b < p) (hab : ((masks l []).getD b 0).testBit a = true) (h0 : sts[0]? = some st)
    (h : XOps P f N S Q l p [a, b] sts 0 (l.take p) k env) : ARun P f N S Q (.code (.region id l.toArray true) :: k) env st :=
  .orders p hm hB fun _ hσ => .eff hB hσ (hσ.two' ha hb hab) h0 h
/-- Two in whatever order. -/
theorem ARun.ordersX {id : Nat} {l : List Oper} {env E0 : Env} {st st0 : St} (p a b : Nat) (sts1 sts2 : List St) (hm : P.follows .mixedOrders = true) (hB : drawB l p = true) (hab : a ≠ b) (ha : a < p) (hb : b < p) (h1 : sts1[0]? = some st) (h2 : sts2[0]? = some st)
    (H1 : AOps P f N S Q l (l.drop p) k E0 st0 → XOps P f N S Q l p [a, b] sts1 0 (l.take p) k env) (H2 : AOps P f N S Q l (l.drop p) k E0 st0 → XOps P f N S Q l p [b, a] sts2 0 (l.take p) k env)
    (h : AOps P f N S Q l (l.drop p) k E0 st0) : ARun P f N S Q (.code (.region id l.toArray true) :: k) env st :=
  .orders p hm hB fun _ hσ => (hσ.two hab ha hb).elim (fun hE => .eff hB hσ hE h1 (H1 h)) (fun hE => .eff hB hσ hE h2 (H2 h))
end run
end Go.Abs

set_option linter.unusedVariables false
namespace Go.Proofs.YtmdpmallgcekgaaDoor
open Go.RowKit Go.Abs
theorem hMix : Tryd.prog.follows .mixedOrders = true := by kernel_rfl
theorem inf_3 : (Tryd.prog.info? 3).map (fun i => (i.zero, i.size, i.bytes)) = some (some (.int .i64 0), 1, 8) := by kernel_rfl
theorem sz_3 : (Tryd.prog.info? 3).map (·.size) = some 1 := by kernel_rfl
theorem in_3 : ∃ i, Tryd.prog.info? 3 = some i ∧ i.zero = some (.int .i64 0) ∧ i.size = 1 ∧ i.bytes = 8 := info_parts inf_3
theorem inf_4 : (Tryd.prog.info? 4).map (fun i => (i.zero, i.size, i.bytes)) = some (some (.bool false), 1, 1) := by kernel_rfl
theorem sz_4 : (Tryd.prog.info? 4).map (·.size) = some 1 := by kernel_rfl
theorem in_4 : ∃ i, Tryd.prog.info? 4 = some i ∧ i.zero = some (.bool false) ∧ i.size = 1 ∧ i.bytes = 1 := info_parts inf_4
theorem inf_5 : (Tryd.prog.info? 5).map (fun i => (i.zero, i.size, i.bytes)) = some (some (.int .u8 0), 1, 1) := by kernel_rfl
theorem sz_5 : (Tryd.prog.info? 5).map (·.size) = some 1 := by kernel_rfl
theorem in_5 : ∃ i, Tryd.prog.info? 5 = some i ∧ i.zero = some (.int .u8 0) ∧ i.size = 1 ∧ i.bytes = 1 := info_parts inf_5
theorem inf_9 : (Tryd.prog.info? 9).map (fun i => (i.zero, i.size, i.bytes)) = some (some (.string ⟨#[]⟩), 1, 16) := by kernel_rfl
theorem sz_9 : (Tryd.prog.info? 9).map (·.size) = some 1 := by kernel_rfl
theorem in_9 : ∃ i, Tryd.prog.info? 9 = some i ∧ i.zero = some (.string ⟨#[]⟩) ∧ i.size = 1 ∧ i.bytes = 16 := info_parts inf_9
theorem inf_25 : (Tryd.prog.info? 25).map (fun i => (i.zero, i.size, i.bytes)) = some (some (.slice none 0 0), 1, 24) := by kernel_rfl
theorem sz_25 : (Tryd.prog.info? 25).map (·.size) = some 1 := by kernel_rfl
theorem in_25 : ∃ i, Tryd.prog.info? 25 = some i ∧ i.zero = some (.slice none 0 0) ∧ i.size = 1 ∧ i.bytes = 24 := info_parts inf_25
theorem inf_34 : (Tryd.prog.info? 34).map (fun i => (i.zero, i.size, i.bytes)) = some (some (.agg #[.int .i64 0, .int .i64 0, .int .i64 0, .string ⟨#[]⟩, .string ⟨#[]⟩, .int .i64 0, .int .i64 0, .int .i64 0, .int .i64 0, .bool false, .int .i64 0, .bool false]), 12, 112) := by kernel_rfl
theorem sz_34 : (Tryd.prog.info? 34).map (·.size) = some 12 := by kernel_rfl
theorem in_34 : ∃ i, Tryd.prog.info? 34 = some i ∧ i.zero = some (.agg #[.int .i64 0, .int .i64 0, .int .i64 0, .string ⟨#[]⟩, .string ⟨#[]⟩, .int .i64 0, .int .i64 0, .int .i64 0, .int .i64 0, .bool false, .int .i64 0, .bool false]) ∧ i.size = 12 ∧ i.bytes = 112 := info_parts inf_34
theorem inf_47 : (Tryd.prog.info? 47).map (fun i => (i.zero, i.size, i.bytes)) = some (some (.agg #[.int .i64 0, .slice none 0 0]), 2, 32) := by kernel_rfl
theorem sz_47 : (Tryd.prog.info? 47).map (·.size) = some 2 := by kernel_rfl
theorem in_47 : ∃ i, Tryd.prog.info? 47 = some i ∧ i.zero = some (.agg #[.int .i64 0, .slice none 0 0]) ∧ i.size = 2 ∧ i.bytes = 32 := info_parts inf_47
theorem inf_66 : (Tryd.prog.info? 66).map (fun i => (i.zero, i.size, i.bytes)) = some (some (.agg #[.int .i64 0, .int .i64 0, .int .i64 0, .int .i64 0]), 4, 32) := by kernel_rfl
theorem sz_66 : (Tryd.prog.info? 66).map (·.size) = some 4 := by kernel_rfl
theorem in_66 : ∃ i, Tryd.prog.info? 66 = some i ∧ i.zero = some (.agg #[.int .i64 0, .int .i64 0, .int .i64 0, .int .i64 0]) ∧ i.size = 4 ∧ i.bytes = 32 := info_parts inf_66
theorem inf_72 : (Tryd.prog.info? 72).map (fun i => (i.zero, i.size, i.bytes)) = some (some (.pointer none), 1, 8) := by kernel_rfl
theorem sz_72 : (Tryd.prog.info? 72).map (·.size) = some 1 := by kernel_rfl
theorem in_72 : ∃ i, Tryd.prog.info? 72 = some i ∧ i.zero = some (.pointer none) ∧ i.size = 1 ∧ i.bytes = 8 := info_parts inf_72
theorem fo_34_0 : fieldOff Tryd.prog 34 0 = some 0 := by kernel_rfl
theorem fo_34_1 : fieldOff Tryd.prog 34 1 = some 1 := by kernel_rfl
theorem fo_34_2 : fieldOff Tryd.prog 34 2 = some 2 := by kernel_rfl
theorem fo_34_3 : fieldOff Tryd.prog 34 3 = some 3 := by kernel_rfl
theorem fo_34_4 : fieldOff Tryd.prog 34 4 = some 4 := by kernel_rfl
theorem fo_34_5 : fieldOff Tryd.prog 34 5 = some 5 := by kernel_rfl
theorem fo_34_6 : fieldOff Tryd.prog 34 6 = some 6 := by kernel_rfl
theorem fo_34_7 : fieldOff Tryd.prog 34 7 = some 7 := by kernel_rfl
theorem fo_34_8 : fieldOff Tryd.prog 34 8 = some 8 := by kernel_rfl
theorem fo_34_9 : fieldOff Tryd.prog 34 9 = some 9 := by kernel_rfl
theorem fo_34_10 : fieldOff Tryd.prog 34 10 = some 10 := by kernel_rfl
theorem fo_34_11 : fieldOff Tryd.prog 34 11 = some 11 := by kernel_rfl
theorem fo_47_0 : fieldOff Tryd.prog 47 0 = some 0 := by kernel_rfl
theorem fo_47_1 : fieldOff Tryd.prog 47 1 = some 1 := by kernel_rfl
theorem one_3 : (Tryd.prog.underlying 3).map oneB = some true := by kernel_rfl
theorem one_4 : (Tryd.prog.underlying 4).map oneB = some true := by kernel_rfl
theorem one_5 : (Tryd.prog.underlying 5).map oneB = some true := by kernel_rfl
theorem one_9 : (Tryd.prog.underlying 9).map oneB = some true := by kernel_rfl
theorem one_25 : (Tryd.prog.underlying 25).map oneB = some true := by kernel_rfl
theorem one_34 : (Tryd.prog.underlying 34).map oneB = some false := by kernel_rfl
theorem one_47 : (Tryd.prog.underlying 47).map oneB = some false := by kernel_rfl
theorem one_66 : (Tryd.prog.underlying 66).map oneB = some false := by kernel_rfl
theorem pl_34 : placesOf Tryd.prog 34 = some [(0, 1), (1, 1), (2, 1), (3, 1), (4, 1), (5, 1), (6, 1), (7, 1), (8, 1), (9, 1), (10, 1), (11, 1)] := by kernel_rfl
theorem pl_47 : placesOf Tryd.prog 47 = some [(0, 1), (1, 1)] := by kernel_rfl
theorem pl_66 : placesOf Tryd.prog 66 = some [(0, 1), (1, 1), (2, 1), (3, 1)] := by kernel_rfl
theorem zr_25 : (Tryd.prog.info? 25).bind (·.zero) = some (.slice none 0 0) := by kernel_rfl
theorem zr_34 : (Tryd.prog.info? 34).bind (·.zero) = some (.agg #[.int .i64 0, .int .i64 0, .int .i64 0, .string ⟨#[]⟩, .string ⟨#[]⟩, .int .i64 0, .int .i64 0, .int .i64 0, .int .i64 0, .bool false, .int .i64 0, .bool false]) := by kernel_rfl
theorem zr_47 : (Tryd.prog.info? 47).bind (·.zero) = some (.agg #[.int .i64 0, .slice none 0 0]) := by kernel_rfl
theorem fk_34 : flatKinds Tryd.prog 34 = some [.i .i64, .i .i64, .i .i64, .s, .s, .i .i64, .i .i64, .i .i64, .i .i64, .b, .i .i64, .b] := by kernel_rfl
theorem fk_66 : flatKinds Tryd.prog 66 = some [.i .i64, .i .i64, .i .i64, .i .i64] := by kernel_rfl
theorem en_9 : Go.Abs.Enters Tryd.prog 9 := ⟨_, Tryd.func9, by kernel_rfl, rfl⟩
theorem en_10 : Go.Abs.Enters Tryd.prog 10 := ⟨_, Tryd.func10, by kernel_rfl, rfl⟩
theorem en_11 : Go.Abs.Enters Tryd.prog 11 := ⟨_, Tryd.func11, by kernel_rfl, rfl⟩
theorem en_12 : Go.Abs.Enters Tryd.prog 12 := ⟨_, Tryd.func12, by kernel_rfl, rfl⟩
theorem en_13 : Go.Abs.Enters Tryd.prog 13 := ⟨_, Tryd.func13, by kernel_rfl, rfl⟩
theorem en_14 : Go.Abs.Enters Tryd.prog 14 := ⟨_, Tryd.func14, by kernel_rfl, rfl⟩
theorem en_15 : Go.Abs.Enters Tryd.prog 15 := ⟨_, Tryd.func15, by kernel_rfl, rfl⟩
theorem en_16 : Go.Abs.Enters Tryd.prog 16 := ⟨_, Tryd.func16, by kernel_rfl, rfl⟩
theorem en_17 : Go.Abs.Enters Tryd.prog 17 := ⟨_, Tryd.func17, by kernel_rfl, rfl⟩
theorem en_18 : Go.Abs.Enters Tryd.prog 18 := ⟨_, Tryd.func18, by kernel_rfl, rfl⟩
theorem en_19 : Go.Abs.Enters Tryd.prog 19 := ⟨_, Tryd.func19, by kernel_rfl, rfl⟩
theorem en_20 : Go.Abs.Enters Tryd.prog 20 := ⟨_, Tryd.func20, by kernel_rfl, rfl⟩
theorem en_21 : Go.Abs.Enters Tryd.prog 21 := ⟨_, Tryd.func21, by kernel_rfl, rfl⟩
theorem en_22 : Go.Abs.Enters Tryd.prog 22 := ⟨_, Tryd.func22, by kernel_rfl, rfl⟩
theorem en_23 : Go.Abs.Enters Tryd.prog 23 := ⟨_, Tryd.func23, by kernel_rfl, rfl⟩
theorem en_24 : Go.Abs.Enters Tryd.prog 24 := ⟨_, Tryd.func24, by kernel_rfl, rfl⟩
theorem en_25 : Go.Abs.Enters Tryd.prog 25 := ⟨_, Tryd.func25, by kernel_rfl, rfl⟩
theorem en_26 : Go.Abs.Enters Tryd.prog 26 := ⟨_, Tryd.func26, by kernel_rfl, rfl⟩
theorem en_27 : Go.Abs.Enters Tryd.prog 27 := ⟨_, Tryd.func27, by kernel_rfl, rfl⟩
theorem en_28 : Go.Abs.Enters Tryd.prog 28 := ⟨_, Tryd.func28, by kernel_rfl, rfl⟩
theorem en_29 : Go.Abs.Enters Tryd.prog 29 := ⟨_, Tryd.func29, by kernel_rfl, rfl⟩
theorem en_30 : Go.Abs.Enters Tryd.prog 30 := ⟨_, Tryd.func30, by kernel_rfl, rfl⟩
theorem en_31 : Go.Abs.Enters Tryd.prog 31 := ⟨_, Tryd.func31, by kernel_rfl, rfl⟩
theorem en_32 : Go.Abs.Enters Tryd.prog 32 := ⟨_, Tryd.func32, by kernel_rfl, rfl⟩
theorem en_33 : Go.Abs.Enters Tryd.prog 33 := ⟨_, Tryd.func33, by kernel_rfl, rfl⟩
theorem en_34 : Go.Abs.Enters Tryd.prog 34 := ⟨_, Tryd.func34, by kernel_rfl, rfl⟩
theorem en_35 : Go.Abs.Enters Tryd.prog 35 := ⟨_, Tryd.func35, by kernel_rfl, rfl⟩
theorem en_36 : Go.Abs.Enters Tryd.prog 36 := ⟨_, Tryd.func36, by kernel_rfl, rfl⟩
theorem en_37 : Go.Abs.Enters Tryd.prog 37 := ⟨_, Tryd.func37, by kernel_rfl, rfl⟩
theorem en_38 : Go.Abs.Enters Tryd.prog 38 := ⟨_, Tryd.func38, by kernel_rfl, rfl⟩
theorem en_39 : Go.Abs.Enters Tryd.prog 39 := ⟨_, Tryd.func39, by kernel_rfl, rfl⟩
theorem en_40 : Go.Abs.Enters Tryd.prog 40 := ⟨_, Tryd.func40, by kernel_rfl, rfl⟩
theorem en_41 : Go.Abs.Enters Tryd.prog 41 := ⟨_, Tryd.func41, by kernel_rfl, rfl⟩
theorem en_42 : Go.Abs.Enters Tryd.prog 42 := ⟨_, Tryd.func42, by kernel_rfl, rfl⟩
theorem en_43 : Go.Abs.Enters Tryd.prog 43 := ⟨_, Tryd.func43, by kernel_rfl, rfl⟩
theorem en_44 : Go.Abs.Enters Tryd.prog 44 := ⟨_, Tryd.func44, by kernel_rfl, rfl⟩
theorem en_45 : Go.Abs.Enters Tryd.prog 45 := ⟨_, Tryd.func45, by kernel_rfl, rfl⟩
theorem en_46 : Go.Abs.Enters Tryd.prog 46 := ⟨_, Tryd.func46, by kernel_rfl, rfl⟩
theorem en_47 : Go.Abs.Enters Tryd.prog 47 := ⟨_, Tryd.func47, by kernel_rfl, rfl⟩
theorem en_48 : Go.Abs.Enters Tryd.prog 48 := ⟨_, Tryd.func48, by kernel_rfl, rfl⟩
theorem en_53 : Go.Abs.Enters Tryd.prog 53 := ⟨_, Tryd.func53, by kernel_rfl, rfl⟩
end Go.Proofs.YtmdpmallgcekgaaDoor

set_option linter.unusedSimpArgs false
set_option linter.unusedVariables false
namespace Go.Proofs.YtmdpmallgcekgaaDoor
open Go.RowKit Go.Abs
structure Element where
  tag : Int
  value : (List UInt8)
instance : Inhabited Element := ⟨⟨default, default⟩⟩
def Element.row (x : Element) : List D := [cI x.tag, slOf 1 rB8 x.value]
structure Record where
  source : Int
  serial : Int
  kind : Int
  a : (List UInt8)
  b : (List UInt8)
  start : Int
  units : Int
  call : Int
  part : Int
  last : Bool
  trunk : Int
  inbound : Bool
instance : Inhabited Record := ⟨⟨default, default, default, default, default, default, default, default, default, default, default, default⟩⟩
def Record.row (x : Record) : List D := [cI x.source, cI x.serial, cI x.kind, cS x.a, cS x.b, cI x.start, cI x.units, cI x.call, cI x.part, cB x.last, cI x.trunk, cB x.inbound]
def Record.vals (x : Record) : List Value := [.int .i64 x.source, .int .i64 x.serial, .int .i64 x.kind, .string ⟨x.a.toArray⟩, .string ⟨x.b.toArray⟩, .int .i64 x.start, .int .i64 x.units, .int .i64 x.call, .int .i64 x.part, .bool x.last, .int .i64 x.trunk, .bool x.inbound]
structure Reject where
  source : Int
  serial : Int
  index : Int
  err : Int
instance : Inhabited Reject := ⟨⟨default, default, default, default⟩⟩
def Reject.row (x : Reject) : List D := [cI x.source, cI x.serial, cI x.index, cI x.err]
def Reject.vals (x : Reject) : List Value := [.int .i64 x.source, .int .i64 x.serial, .int .i64 x.index, .int .i64 x.err]
def x_Itoa (n : Int) : Option (List UInt8) := ck (-9223372036854775808 ≤ n ∧ n ≤ 9223372036854775807) (some (Go.Lib.itoa n))
def x_Join (xs : List (List UInt8)) (sep : List UInt8) : Option (List UInt8) := ck (xs.length ≤ 1000000000 ∧ (Go.Lib.join xs sep).length ≤ 1000000000) (some (Go.Lib.join xs sep))
def f_billinglaw10_light_j1 (v0list : List Element) (v3nj1 : Int) : Option Bool :=
  some ((decide ((v0list.length : Int) ≤ 300)) && (decide (v3nj1 ≤ 3000)))
def f_billinglaw10_light_l1 (v0list : List Element) (v3nl1 : Int) (v4il1 : Int) : Option ((Int × Int) ⊕ Bool) :=
  if (((decide (v4il1 < (v0list.length : Int))) && (decide (v4il1 ≤ 300))) && (decide (v3nl1 ≤ 3000))) = true then (ck ((0 : Int) ≤ v4il1 ∧ v4il1 < (v0list.length : Int)) (some (.inl (IntKind.wrap .i64 (v3nl1 + (((nth v0list (Int.toNat (v4il1))).value).length : Int)), IntKind.wrap .i64 (v4il1 + 1))))) else (f_billinglaw10_light_j1 v0list v3nl1).map (fun z => .inr z)
def f_billinglaw10_light (v0list : List Element) : Option Bool :=
  loop (fun s => f_billinglaw10_light_l1 v0list s.1 s.2) (0, 0)
def g_tagged_put (v1tag : Int) (v2value : List UInt8) : Option (List UInt8) :=
  ck (([UInt8.ofInt v1tag, UInt8.ofInt (v2value.length : Int)] : List UInt8).length ≤ 1000000000) (ck (([UInt8.ofInt v1tag, UInt8.ofInt (v2value.length : Int)] : List UInt8).length + v2value.length ≤ 1000000000) (some (([UInt8.ofInt v1tag, UInt8.ofInt (v2value.length : Int)] : List UInt8) ++ v2value)))
def g_tagged_put_v1 (v1tag : Int) (v2value : List UInt8) (y0t0p : List UInt8) : Option (List UInt8) :=
  ck (y0t0p.length + ([UInt8.ofInt v1tag, UInt8.ofInt (v2value.length : Int)] : List UInt8).length ≤ 1000000000) (ck ((y0t0p ++ ([UInt8.ofInt v1tag, UInt8.ofInt (v2value.length : Int)] : List UInt8)).length + v2value.length ≤ 1000000000) (some ((y0t0p ++ ([UInt8.ofInt v1tag, UInt8.ofInt (v2value.length : Int)] : List UInt8)) ++ v2value)))
def f_tagged_Build_l1 (v0list : List Element) (v4outl1 : List UInt8) (v5lastl1 : Int) (v10l1 : Int) : Option ((List UInt8 × Int × Int) ⊕ ((List UInt8) × Int)) :=
  if (decide (v10l1 < (v0list.length : Int))) = true then (ck ((0 : Int) ≤ v10l1 ∧ v10l1 < (v0list.length : Int)) (if ((decide (((nth v0list (Int.toNat (v10l1))).tag) < 1)) || (decide (((nth v0list (Int.toNat (v10l1))).tag) > 255))) = true then some (.inr (([] : List UInt8), 6)) else if (decide (((nth v0list (Int.toNat (v10l1))).tag) ≤ v5lastl1)) = true then some (.inr (([] : List UInt8), 9)) else if (decide ((((nth v0list (Int.toNat (v10l1))).value).length : Int) > 255)) = true then some (.inr (([] : List UInt8), 5)) else (g_tagged_put_v1 ((nth v0list (Int.toNat (v10l1))).tag) ((nth v0list (Int.toNat (v10l1))).value) v4outl1).bind fun y1 => ck ((-9223372036854775808 : Int) ≤ v10l1 + 1 ∧ v10l1 + 1 ≤ (9223372036854775807 : Int)) (some (.inl (y1, (nth v0list (Int.toNat (v10l1))).tag, v10l1 + 1))))) else some (.inr (v4outl1, 0))
def f_tagged_Build (v0list : List Element) : Option ((List UInt8) × Int) :=
  loop (fun s => f_tagged_Build_l1 v0list s.1 s.2.1 s.2.2) (([] : List UInt8), 0, 0)
def f_tagged_Elements_l1 (v0bl1 : List UInt8) (v4outl1 : List Element) (v5lastl1 : Int) : Option ((List UInt8 × List Element × Int) ⊕ ((List Element) × Int)) :=
  if (decide ((v0bl1.length : Int) > 0)) = true then (ck ((0 : Int) ≤ 0 ∧ 0 < (v0bl1.length : Int)) (if (((nth v0bl1 (Int.toNat (0))).toNat : Int) == 0) = true then some (.inr (([] : List Element), 6)) else if (decide (((nth v0bl1 (Int.toNat (0))).toNat : Int) ≤ v5lastl1)) = true then some (.inr (([] : List Element), 9)) else ck ((!(decide ((v0bl1.length : Int) < 2))) = true → ((-9223372036854775808 : Int) ≤ (v0bl1.length : Int) - 2 ∧ (v0bl1.length : Int) - 2 ≤ (9223372036854775807 : Int))) (ck ((!(decide ((v0bl1.length : Int) < 2))) = true → ((0 : Int) ≤ 1 ∧ 1 < (v0bl1.length : Int))) (if ((decide ((v0bl1.length : Int) < 2)) || (decide (((v0bl1.length : Int) - 2) < ((nth v0bl1 (Int.toNat (1))).toNat : Int)))) = true then some (.inr (([] : List Element), 2)) else ck ((0 : Int) ≤ 1 ∧ 1 < (v0bl1.length : Int)) (ck ((-9223372036854775808 : Int) ≤ 2 + ((nth v0bl1 (Int.toNat (1))).toNat : Int) ∧ 2 + ((nth v0bl1 (Int.toNat (1))).toNat : Int) ≤ (9223372036854775807 : Int)) (ck ((0 : Int) ≤ (2 : Int) ∧ (2 : Int) ≤ 2 + ((nth v0bl1 (Int.toNat (1))).toNat : Int) ∧ 2 + ((nth v0bl1 (Int.toNat (1))).toNat : Int) ≤ (v0bl1.length : Int)) (ck (((v0bl1.take (Int.toNat (2 + ((nth v0bl1 (Int.toNat (1))).toNat : Int)))).drop (Int.toNat ((2 : Int)))).length ≤ 1000000000) (ck (v4outl1.length + ([(⟨((nth v0bl1 (Int.toNat (0))).toNat : Int), (v0bl1.take (Int.toNat (2 + ((nth v0bl1 (Int.toNat (1))).toNat : Int)))).drop (Int.toNat ((2 : Int)))⟩ : Element)] : List Element).length ≤ 1000000000) (ck ((0 : Int) ≤ 2 + ((nth v0bl1 (Int.toNat (1))).toNat : Int) ∧ 2 + ((nth v0bl1 (Int.toNat (1))).toNat : Int) ≤ (v0bl1.length : Int)) (some (.inl (v0bl1.drop (Int.toNat (2 + ((nth v0bl1 (Int.toNat (1))).toNat : Int))), v4outl1 ++ ([(⟨((nth v0bl1 (Int.toNat (0))).toNat : Int), (v0bl1.take (Int.toNat (2 + ((nth v0bl1 (Int.toNat (1))).toNat : Int)))).drop (Int.toNat ((2 : Int)))⟩ : Element)] : List Element), ((nth v0bl1 (Int.toNat (0))).toNat : Int))))))))))))) else some (.inr (v4outl1, 0))
def f_tagged_Elements (v0b : List UInt8) : Option ((List Element) × Int) :=
  loop (fun s => f_tagged_Elements_l1 s.1 s.2.1 s.2.2) (v0b, ([] : List Element), 0)
def f_textual_within (v0n : Int) (v1lo : Int) (v2hi : Int) : Option Bool :=
  some ((decide (v0n ≥ v1lo)) && (decide (v0n ≤ v2hi)))
def f_digits_digit (v0c : UInt8) : Option Bool :=
  some ((decide (v0c ≥ 48)) && (decide (v0c ≤ 57)))
def f_digits_Valid_j1 (v0s : List UInt8) : Option Bool :=
  some ((decide ((v0s.length : Int) ≥ 1)) && (decide ((v0s.length : Int) ≤ 15)))
def f_digits_Valid_l1 (v0s : List UInt8) (v6l1 : Int) : Option ((Int) ⊕ Bool) :=
  if (decide (v6l1 < (v0s.length : Int))) = true then (ck ((0 : Int) ≤ v6l1 ∧ v6l1 < (v0s.length : Int)) ((f_digits_digit (nth v0s (Int.toNat (v6l1)))).bind fun y1 => if (!y1) = true then some (.inr false) else ck ((-9223372036854775808 : Int) ≤ v6l1 + 1 ∧ v6l1 + 1 ≤ (9223372036854775807 : Int)) (some (.inl (v6l1 + 1))))) else (f_digits_Valid_j1 v0s).map (fun z => .inr z)
def f_digits_Valid (v0s : List UInt8) : Option Bool :=
  loop (fun s => f_digits_Valid_l1 v0s s) 0
def f_textual_check_j1 (v0 : Record) (v4j1 : Int) : Option Int :=
  (f_textual_within v0.source 1 99).bind fun y1 => (gcall (!(!y1)) (f_textual_within v0.serial 1 999999999)).bind fun y2 => if ((!y1) || (!y2)) = true then some 6 else (f_textual_within v0.kind 1 4).bind fun y3 => if (!y3) = true then some 7 else (f_digits_Valid v0.a).bind fun y4 => (gcall (!(!y4)) (f_digits_Valid v0.b)).bind fun y5 => if ((!y4) || ((!y5) && (!(((v0.kind == 3) || (v0.kind == 4)) && (v0.b == ([] : List UInt8)))))) = true then some 12 else (f_textual_within v0.start 0 12622780799).bind fun y6 => if (!y6) = true then some 15 else (f_textual_within v0.units 0 v4j1).bind fun y7 => if (!y7) = true then some 6 else ck ((v0.kind == 1) = true → ((-9223372036854775808 : Int) ≤ v0.start + v0.units ∧ v0.start + v0.units ≤ (9223372036854775807 : Int))) (if ((v0.kind == 1) && (decide ((v0.start + v0.units) > 12622780800))) = true then some 15 else (f_textual_within v0.call 0 999999999).bind fun y8 => (gcall (!(!y8)) (f_textual_within v0.part 0 99)).bind fun y9 => if ((!y8) || (!y9)) = true then some 6 else if (((v0.part == 0) != (v0.call == 0)) || (v0.last && (v0.part == 0))) = true then some 8 else (f_textual_within v0.trunk 0 999).bind fun y10 => if (!y10) = true then some 6 else if (v0.inbound && (v0.trunk == 0)) = true then some 8 else some 0)
def f_textual_check (v0 : Record) : Option Int :=
  if (v0.kind == 1) = true then (f_textual_check_j1 v0 604800) else f_textual_check_j1 v0 1099511627776
def f_textual_Encode_j3 (v7j3 : List (List UInt8)) : Option ((List UInt8) × Int) :=
  (x_Join v7j3 ([32] : List UInt8)).bind fun y6 => some (y6, 0)
def f_textual_Encode_j4 (v0 : Record) (v7j2 : List (List UInt8)) (v8j4 : List UInt8) : Option ((List UInt8) × Int) :=
  (x_Itoa v0.trunk).bind fun y7 => ck (v7j2.length + ([v8j4, y7] : List (List UInt8)).length ≤ 1000000000) (f_textual_Encode_j3 (v7j2 ++ ([v8j4, y7] : List (List UInt8))))
def f_textual_Encode_j2 (v0 : Record) (v7j2 : List (List UInt8)) : Option ((List UInt8) × Int) :=
  if (v0.trunk != 0) = true then (if v0.inbound = true then (f_textual_Encode_j4 v0 v7j2 ([105, 110] : List UInt8)) else f_textual_Encode_j4 v0 v7j2 ([111, 117, 116] : List UInt8)) else f_textual_Encode_j3 v7j2
def f_textual_Encode_j1 (v0 : Record) (v6j1 : List UInt8) : Option ((List UInt8) × Int) :=
  ck ((-9223372036854775808 : Int) ≤ v0.kind - 1 ∧ v0.kind - 1 ≤ (9223372036854775807 : Int)) (ck ((0 : Int) ≤ v0.kind - 1 ∧ v0.kind - 1 ≤ v0.kind ∧ v0.kind ≤ (([118, 116, 100, 99] : List UInt8).length : Int)) ((x_Itoa v0.source).bind fun y2 => (x_Itoa v0.serial).bind fun y3 => (x_Itoa v0.start).bind fun y4 => (x_Itoa v0.units).bind fun y5 => if (v0.part != 0) = true then ((x_Itoa v0.call).bind fun y8 => (x_Itoa v0.part).bind fun y9 => ck (([(([118, 116, 100, 99] : List UInt8).take (Int.toNat (v0.kind))).drop (Int.toNat (v0.kind - 1)), y2, y3, v0.a, v6j1, y4, y5] : List (List UInt8)).length + ([([112, 97, 114, 116] : List UInt8), y8, y9] : List (List UInt8)).length ≤ 1000000000) (if v0.last = true then (ck ((([(([118, 116, 100, 99] : List UInt8).take (Int.toNat (v0.kind))).drop (Int.toNat (v0.kind - 1)), y2, y3, v0.a, v6j1, y4, y5] : List (List UInt8)) ++ ([([112, 97, 114, 116] : List UInt8), y8, y9] : List (List UInt8))).length + ([([108, 97, 115, 116] : List UInt8)] : List (List UInt8)).length ≤ 1000000000) (f_textual_Encode_j2 v0 ((([(([118, 116, 100, 99] : List UInt8).take (Int.toNat (v0.kind))).drop (Int.toNat (v0.kind - 1)), y2, y3, v0.a, v6j1, y4, y5] : List (List UInt8)) ++ ([([112, 97, 114, 116] : List UInt8), y8, y9] : List (List UInt8))) ++ ([([108, 97, 115, 116] : List UInt8)] : List (List UInt8))))) else f_textual_Encode_j2 v0 (([(([118, 116, 100, 99] : List UInt8).take (Int.toNat (v0.kind))).drop (Int.toNat (v0.kind - 1)), y2, y3, v0.a, v6j1, y4, y5] : List (List UInt8)) ++ ([([112, 97, 114, 116] : List UInt8), y8, y9] : List (List UInt8))))) else f_textual_Encode_j2 v0 ([(([118, 116, 100, 99] : List UInt8).take (Int.toNat (v0.kind))).drop (Int.toNat (v0.kind - 1)), y2, y3, v0.a, v6j1, y4, y5] : List (List UInt8))))
def f_textual_Encode (v0 : Record) : Option ((List UInt8) × Int) :=
  (f_textual_check v0).bind fun y1 => if (y1 != 0) = true then some (([] : List UInt8), y1) else if (v0.b == ([] : List UInt8)) = true then (f_textual_Encode_j1 v0 ([45] : List UInt8)) else f_textual_Encode_j1 v0 v0.b
def f_digits_Pack_j1 (v0s : List UInt8) (v4bl1 : List UInt8) (v5il1 : Int) (v6lowj1 : UInt8) : Option ((List UInt8 × Int) ⊕ ((List UInt8) × Int)) :=
  ck ((0 : Int) ≤ v5il1 ∧ v5il1 < (v0s.length : Int)) (ck ((0 : Int) ≤ 4) (ck (v4bl1.length + ([(u8shl ((nth v0s (Int.toNat (v5il1))) - 48) 4) ||| v6lowj1] : List UInt8).length ≤ 1000000000) (ck ((-9223372036854775808 : Int) ≤ v5il1 + 2 ∧ v5il1 + 2 ≤ (9223372036854775807 : Int)) (some (.inl (v4bl1 ++ ([(u8shl ((nth v0s (Int.toNat (v5il1))) - 48) 4) ||| v6lowj1] : List UInt8), v5il1 + 2))))))
def f_digits_Pack_l1 (v0s : List UInt8) (v4bl1 : List UInt8) (v5il1 : Int) : Option ((List UInt8 × Int) ⊕ ((List UInt8) × Int)) :=
  if (decide (v5il1 < (v0s.length : Int))) = true then (ck ((-9223372036854775808 : Int) ≤ v5il1 + 1 ∧ v5il1 + 1 ≤ (9223372036854775807 : Int)) (if (decide ((v5il1 + 1) < (v0s.length : Int))) = true then (ck ((-9223372036854775808 : Int) ≤ v5il1 + 1 ∧ v5il1 + 1 ≤ (9223372036854775807 : Int)) (ck ((0 : Int) ≤ (v5il1 + 1) ∧ (v5il1 + 1) < (v0s.length : Int)) (f_digits_Pack_j1 v0s v4bl1 v5il1 ((nth v0s (Int.toNat (v5il1 + 1))) - 48)))) else f_digits_Pack_j1 v0s v4bl1 v5il1 15)) else some (.inr (v4bl1, 0))
def f_digits_Pack (v0s : List UInt8) : Option ((List UInt8) × Int) :=
  (f_digits_Valid v0s).bind fun y1 => if (!y1) = true then some (([] : List UInt8), 12) else loop (fun s => f_digits_Pack_l1 v0s s.1 s.2) (([] : List UInt8), 0)
def f_tagged_bytes_l1 (v0nl1 : Int) (v3outl1 : List UInt8) : Option ((Int × List UInt8) ⊕ (List UInt8)) :=
  if (decide (v0nl1 > 0)) = true then (ck (([UInt8.ofInt v0nl1] : List UInt8).length + v3outl1.length ≤ 1000000000) (ck ((0 : Int) ≤ 8 ∧ 8 < (63 : Int)) (some (.inl (v0nl1 / 2 ^ (Int.toNat (8)), ([UInt8.ofInt v0nl1] : List UInt8) ++ v3outl1))))) else some (.inr v3outl1)
def f_tagged_bytes (v0n : Int) : Option (List UInt8) :=
  loop (fun s => f_tagged_bytes_l1 s.1 s.2) (v0n, [])
def f_tagged_flag (v0holds : Bool) (v1n : Int) : Option Int :=
  if v0holds = true then some v1n else some 0
def g_tagged_put_v2 (v1tag : Int) (v2value : List UInt8) (y0t0p : List UInt8) : Option (List UInt8) :=
  ck (y0t0p.length + ([UInt8.ofInt v1tag, UInt8.ofInt (v2value.length : Int)] : List UInt8).length ≤ 1000000000) (ck ((y0t0p ++ ([UInt8.ofInt v1tag, UInt8.ofInt (v2value.length : Int)] : List UInt8)).length + v2value.length ≤ 1000000000) (some ((y0t0p ++ ([UInt8.ofInt v1tag, UInt8.ofInt (v2value.length : Int)] : List UInt8)) ++ v2value)))
def g_tagged_Encode_1 (v0tag : Int) (v1value : List UInt8) (y0t0p : List UInt8) : Option (List UInt8) :=
  if (decide ((v1value.length : Int) > 0)) = true then ((g_tagged_put_v2 v0tag v1value y0t0p).bind fun y1 => some y1) else some y0t0p
def f_tagged_Encode (v0 : Record) : Option ((List UInt8) × Int) :=
  (f_textual_Encode v0).bind fun y1 => if (y1.2 != 0) = true then some (([] : List UInt8), y1.2) else (f_digits_Pack v0.a).bind fun y2 => (f_digits_Pack v0.b).bind fun y3 => ck ((0 : Int) ≤ 2 ∧ (2 : Int) ≤ 2 ∧ 2 ≤ (1000000000 : Int)) ((f_tagged_bytes v0.kind).bind fun y4 => (g_tagged_Encode_1 1 y4 (List.replicate (Int.toNat (2)) 0 : List UInt8)).bind fun y5 => (f_tagged_bytes v0.source).bind fun y6 => (g_tagged_Encode_1 2 y6 y5).bind fun y7 => (f_tagged_bytes v0.serial).bind fun y8 => (g_tagged_Encode_1 3 y8 y7).bind fun y9 => (g_tagged_Encode_1 4 y2.1 y9).bind fun y10 => (g_tagged_Encode_1 5 y3.1 y10).bind fun y11 => (f_tagged_bytes v0.start).bind fun y12 => (g_tagged_Encode_1 6 y12 y11).bind fun y13 => (f_tagged_bytes v0.units).bind fun y14 => (g_tagged_Encode_1 7 y14 y13).bind fun y15 => (f_tagged_bytes v0.call).bind fun y16 => (g_tagged_Encode_1 8 y16 y15).bind fun y17 => (f_tagged_bytes v0.part).bind fun y18 => (g_tagged_Encode_1 9 y18 y17).bind fun y19 => (f_tagged_bytes v0.trunk).bind fun y20 => (g_tagged_Encode_1 10 y20 y19).bind fun y21 => (f_tagged_flag v0.last 1).bind fun y22 => (f_tagged_flag v0.inbound 2).bind fun y23 => ck ((-9223372036854775808 : Int) ≤ y22 + y23 ∧ y22 + y23 ≤ (9223372036854775807 : Int)) ((f_tagged_bytes (y22 + y23)).bind fun y24 => (g_tagged_Encode_1 11 y24 y21).bind fun y25 => ck ((-9223372036854775808 : Int) ≤ (y25.length : Int) - 2 ∧ (y25.length : Int) - 2 ≤ (9223372036854775807 : Int)) (ck ((0 : Int) ≤ 8 ∧ 8 < (63 : Int)) (ck ((0 : Int) ≤ 0 ∧ 0 < (y25.length : Int)) (ck (Int.toNat (0) < y25.length) (ck ((0 : Int) ≤ 1 ∧ 1 < ((y25.set (Int.toNat (0)) (UInt8.ofInt (((y25.length : Int) - 2) / 2 ^ (Int.toNat (8))))).length : Int)) (ck (Int.toNat (1) < (y25.set (Int.toNat (0)) (UInt8.ofInt (((y25.length : Int) - 2) / 2 ^ (Int.toNat (8))))).length) (some ((y25.set (Int.toNat (0)) (UInt8.ofInt (((y25.length : Int) - 2) / 2 ^ (Int.toNat (8))))).set (Int.toNat (1)) (UInt8.ofInt ((y25.length : Int) - 2)), 0)))))))))
def f_billinglaw10_awake : Option Bool :=
  (f_tagged_Build ([(⟨5, ([1, 2] : List UInt8)⟩ : Element)] : List Element)).bind fun y1 => (f_tagged_Build ([(⟨5, ([] : List UInt8)⟩ : Element), (⟨5, ([] : List UInt8)⟩ : Element)] : List Element)).bind fun y2 => (f_tagged_Elements ([0, 0] : List UInt8)).bind fun y3 => (f_tagged_Elements ([1, 2, 0] : List UInt8)).bind fun y4 => (f_tagged_Encode (⟨1, 300, 3, ([49, 50, 51] : List UInt8), ([] : List UInt8), 0, 2, 0, 0, false, 0, false⟩ : Record)).bind fun y5 => if (((((y1.2 != 0) || (y2.2 != 9)) || (y3.2 != 6)) || (y4.2 != 2)) || (y5.2 != 0)) = true then some false else some ((y1.1 == ([5, 2, 1, 2] : List UInt8)) && (y5.1 == ([0, 17, 1, 1, 3, 2, 1, 1, 3, 2, 1, 44, 4, 2, 18, 63, 7, 1, 2] : List UInt8)))
def f_billingref10_Build_l1 (v0list : List Element) (v4outl1 : List UInt8) (v5lastl1 : Int) (v6il1 : Int) : Option ((List UInt8 × Int × Int) ⊕ ((List UInt8) × Int)) :=
  if (decide (v6il1 < (v0list.length : Int))) = true then (ck ((0 : Int) ≤ v6il1 ∧ v6il1 < (v0list.length : Int)) (if ((decide (((nth v0list (Int.toNat (v6il1))).tag) < 1)) || (decide (((nth v0list (Int.toNat (v6il1))).tag) > 255))) = true then some (.inr (([] : List UInt8), 6)) else if (decide (((nth v0list (Int.toNat (v6il1))).tag) ≤ v5lastl1)) = true then some (.inr (([] : List UInt8), 9)) else if (decide ((((nth v0list (Int.toNat (v6il1))).value).length : Int) > 255)) = true then some (.inr (([] : List UInt8), 5)) else ck (v4outl1.length + ([UInt8.ofInt ((nth v0list (Int.toNat (v6il1))).tag), UInt8.ofInt (((nth v0list (Int.toNat (v6il1))).value).length : Int)] : List UInt8).length ≤ 1000000000) (ck ((v4outl1 ++ ([UInt8.ofInt ((nth v0list (Int.toNat (v6il1))).tag), UInt8.ofInt (((nth v0list (Int.toNat (v6il1))).value).length : Int)] : List UInt8)).length + ((nth v0list (Int.toNat (v6il1))).value).length ≤ 1000000000) (ck ((-9223372036854775808 : Int) ≤ v6il1 + 1 ∧ v6il1 + 1 ≤ (9223372036854775807 : Int)) (some (.inl ((v4outl1 ++ ([UInt8.ofInt ((nth v0list (Int.toNat (v6il1))).tag), UInt8.ofInt (((nth v0list (Int.toNat (v6il1))).value).length : Int)] : List UInt8)) ++ ((nth v0list (Int.toNat (v6il1))).value), (nth v0list (Int.toNat (v6il1))).tag, v6il1 + 1))))))) else some (.inr (v4outl1, 0))
def f_billingref10_Build (v0list : List Element) : Option ((List UInt8) × Int) :=
  loop (fun s => f_billingref10_Build_l1 v0list s.1 s.2.1 s.2.2) (([] : List UInt8), 0, 0)
def f_billingref10_Same_l1 (v0a : List Element) (v1b : List Element) (v5il1 : Int) : Option ((Int) ⊕ Bool) :=
  if (decide (v5il1 < (v0a.length : Int))) = true then (ck ((0 : Int) ≤ v5il1 ∧ v5il1 < (v0a.length : Int)) (ck ((0 : Int) ≤ v5il1 ∧ v5il1 < (v1b.length : Int)) (ck ((!(((nth v0a (Int.toNat (v5il1))).tag) != ((nth v1b (Int.toNat (v5il1))).tag))) = true → ((0 : Int) ≤ v5il1 ∧ v5il1 < (v0a.length : Int))) (ck ((!(((nth v0a (Int.toNat (v5il1))).tag) != ((nth v1b (Int.toNat (v5il1))).tag))) = true → ((0 : Int) ≤ v5il1 ∧ v5il1 < (v1b.length : Int))) (if ((((nth v0a (Int.toNat (v5il1))).tag) != ((nth v1b (Int.toNat (v5il1))).tag)) || (((nth v0a (Int.toNat (v5il1))).value) != ((nth v1b (Int.toNat (v5il1))).value))) = true then some (.inr false) else ck ((-9223372036854775808 : Int) ≤ v5il1 + 1 ∧ v5il1 + 1 ≤ (9223372036854775807 : Int)) (some (.inl (v5il1 + 1)))))))) else some (.inr true)
def f_billingref10_Same (v0a : List Element) (v1b : List Element) : Option Bool :=
  if ((v0a.length : Int) != (v1b.length : Int)) = true then some false else loop (fun s => f_billingref10_Same_l1 v0a v1b s) 0
def f_billinglaw10_TaggedBuilds (v0list : List Element) : Option Bool :=
  (f_billinglaw10_light v0list).bind fun y1 => if (!y1) = true then ((f_billinglaw10_awake).bind fun y2 => some y2) else (f_tagged_Build v0list).bind fun y3 => (f_billingref10_Build v0list).bind fun y4 => if ((y3.1 != y4.1) || (y3.2 != y4.2)) = true then some false else if (y3.2 != 0) = true then ((f_billinglaw10_awake).bind fun y5 => some y5) else (f_tagged_Elements y3.1).bind fun y6 => (gcall (y6.2 == 0) (f_billingref10_Same y6.1 v0list)).bind fun y7 => (gcall ((y6.2 == 0) && y7) (f_billinglaw10_awake)).bind fun y8 => some (((y6.2 == 0) && y7) && y8)
def f_billingref10_Elements_l1 (v0 : List UInt8) (v4l1 : List Element) (v5l1 : Int) (v6l1 : Int) : Option ((List Element × Int × Int) ⊕ ((List Element) × Int)) :=
  if (decide (v6l1 < (v0.length : Int))) = true then (ck ((0 : Int) ≤ v6l1 ∧ v6l1 < (v0.length : Int)) (if (((nth v0 (Int.toNat (v6l1))).toNat : Int) == 0) = true then some (.inr (([] : List Element), 6)) else if (decide (((nth v0 (Int.toNat (v6l1))).toNat : Int) ≤ v5l1)) = true then some (.inr (([] : List Element), 9)) else ck ((-9223372036854775808 : Int) ≤ v6l1 + 1 ∧ v6l1 + 1 ≤ (9223372036854775807 : Int)) (ck ((!((v6l1 + 1) == (v0.length : Int))) = true → ((-9223372036854775808 : Int) ≤ v6l1 + 2 ∧ v6l1 + 2 ≤ (9223372036854775807 : Int))) (ck ((!((v6l1 + 1) == (v0.length : Int))) = true → ((-9223372036854775808 : Int) ≤ v6l1 + 1 ∧ v6l1 + 1 ≤ (9223372036854775807 : Int))) (ck ((!((v6l1 + 1) == (v0.length : Int))) = true → ((0 : Int) ≤ (v6l1 + 1) ∧ (v6l1 + 1) < (v0.length : Int))) (ck ((!((v6l1 + 1) == (v0.length : Int))) = true → ((-9223372036854775808 : Int) ≤ (v6l1 + 2) + ((nth v0 (Int.toNat (v6l1 + 1))).toNat : Int) ∧ (v6l1 + 2) + ((nth v0 (Int.toNat (v6l1 + 1))).toNat : Int) ≤ (9223372036854775807 : Int))) (if (((v6l1 + 1) == (v0.length : Int)) || (decide (((v6l1 + 2) + ((nth v0 (Int.toNat (v6l1 + 1))).toNat : Int)) > (v0.length : Int)))) = true then some (.inr (([] : List Element), 2)) else ck ((-9223372036854775808 : Int) ≤ v6l1 + 1 ∧ v6l1 + 1 ≤ (9223372036854775807 : Int)) (ck ((0 : Int) ≤ (v6l1 + 1) ∧ (v6l1 + 1) < (v0.length : Int)) (ck ((-9223372036854775808 : Int) ≤ v6l1 + 2 ∧ v6l1 + 2 ≤ (9223372036854775807 : Int)) (ck ((-9223372036854775808 : Int) ≤ v6l1 + 2 ∧ v6l1 + 2 ≤ (9223372036854775807 : Int)) (ck ((-9223372036854775808 : Int) ≤ (v6l1 + 2) + ((nth v0 (Int.toNat (v6l1 + 1))).toNat : Int) ∧ (v6l1 + 2) + ((nth v0 (Int.toNat (v6l1 + 1))).toNat : Int) ≤ (9223372036854775807 : Int)) (ck ((0 : Int) ≤ v6l1 + 2 ∧ v6l1 + 2 ≤ (v6l1 + 2) + ((nth v0 (Int.toNat (v6l1 + 1))).toNat : Int) ∧ (v6l1 + 2) + ((nth v0 (Int.toNat (v6l1 + 1))).toNat : Int) ≤ (v0.length : Int)) (ck (((v0.take (Int.toNat ((v6l1 + 2) + ((nth v0 (Int.toNat (v6l1 + 1))).toNat : Int)))).drop (Int.toNat (v6l1 + 2))).length ≤ 1000000000) (ck (v4l1.length + ([(⟨((nth v0 (Int.toNat (v6l1))).toNat : Int), (v0.take (Int.toNat ((v6l1 + 2) + ((nth v0 (Int.toNat (v6l1 + 1))).toNat : Int)))).drop (Int.toNat (v6l1 + 2))⟩ : Element)] : List Element).length ≤ 1000000000) (ck ((-9223372036854775808 : Int) ≤ v6l1 + 2 ∧ v6l1 + 2 ≤ (9223372036854775807 : Int)) (ck ((-9223372036854775808 : Int) ≤ (v6l1 + 2) + ((nth v0 (Int.toNat (v6l1 + 1))).toNat : Int) ∧ (v6l1 + 2) + ((nth v0 (Int.toNat (v6l1 + 1))).toNat : Int) ≤ (9223372036854775807 : Int)) (some (.inl (v4l1 ++ ([(⟨((nth v0 (Int.toNat (v6l1))).toNat : Int), (v0.take (Int.toNat ((v6l1 + 2) + ((nth v0 (Int.toNat (v6l1 + 1))).toNat : Int)))).drop (Int.toNat (v6l1 + 2))⟩ : Element)] : List Element), ((nth v0 (Int.toNat (v6l1))).toNat : Int), (v6l1 + 2) + ((nth v0 (Int.toNat (v6l1 + 1))).toNat : Int)))))))))))))))))))) else some (.inr (v4l1, 0))
def f_billingref10_Elements (v0 : List UInt8) : Option ((List Element) × Int) :=
  loop (fun s => f_billingref10_Elements_l1 v0 s.1 s.2.1 s.2.2) (([] : List Element), 0, 0)
def f_billinglaw10_TaggedElements (v0b : List UInt8) : Option Bool :=
  if (decide ((v0b.length : Int) > 3000)) = true then ((f_billinglaw10_awake).bind fun y1 => some y1) else (f_tagged_Elements v0b).bind fun y2 => (f_billingref10_Elements v0b).bind fun y3 => (f_billingref10_Same y2.1 y3.1).bind fun y4 => if ((!y4) || (y2.2 != y3.2)) = true then some false else if (y2.2 != 0) = true then ((f_billinglaw10_awake).bind fun y5 => some y5) else (f_tagged_Build y2.1).bind fun y6 => (gcall ((y6.2 == 0) && (y6.1 == v0b)) (f_billinglaw10_awake)).bind fun y7 => some (((y6.2 == 0) && (y6.1 == v0b)) && y7)
def f_billinglaw10_short (v0r : Record) : Option Bool :=
  some ((decide ((v0r.a.length : Int) ≤ 200)) && (decide ((v0r.b.length : Int) ≤ 200)))
def f_billingref09_in (v0n : Int) (v1low : Int) (v2high : Int) : Option Bool :=
  some ((decide (v0n ≥ v1low)) && (decide (v0n ≤ v2high)))
def f_billingref02_Valid_j1 (v0s : List UInt8) : Option Bool :=
  some ((decide ((v0s.length : Int) ≥ 1)) && (decide ((v0s.length : Int) ≤ 15)))
def f_billingref02_Valid_l1 (v0s : List UInt8) (v3il1 : Int) : Option ((Int) ⊕ Bool) :=
  if (decide (v3il1 < (v0s.length : Int))) = true then (ck ((0 : Int) ≤ v3il1 ∧ v3il1 < (v0s.length : Int)) (ck ((!(decide ((nth v0s (Int.toNat (v3il1))) < 48))) = true → ((0 : Int) ≤ v3il1 ∧ v3il1 < (v0s.length : Int))) (if ((decide ((nth v0s (Int.toNat (v3il1))) < 48)) || (decide ((nth v0s (Int.toNat (v3il1))) > 57))) = true then some (.inr false) else ck ((-9223372036854775808 : Int) ≤ v3il1 + 1 ∧ v3il1 + 1 ≤ (9223372036854775807 : Int)) (some (.inl (v3il1 + 1)))))) else (f_billingref02_Valid_j1 v0s).map (fun z => .inr z)
def f_billingref02_Valid (v0s : List UInt8) : Option Bool :=
  loop (fun s => f_billingref02_Valid_l1 v0s s) 0
def f_billingref09_Error (v0 : Record) : Option Int :=
  (f_billingref09_in v0.source 1 99).bind fun y1 => (gcall (!(!y1)) (f_billingref09_in v0.serial 1 999999999)).bind fun y2 => if ((!y1) || (!y2)) = true then some 6 else (f_billingref09_in v0.kind 1 4).bind fun y3 => if (!y3) = true then some 7 else (f_billingref02_Valid v0.a).bind fun y4 => if (!y4) = true then some 12 else (f_billingref02_Valid v0.b).bind fun y5 => if ((!y5) && ((v0.b != ([] : List UInt8)) || ((v0.kind != 3) && (v0.kind != 4)))) = true then some 12 else (f_billingref09_in v0.start 0 12622780799).bind fun y6 => if (!y6) = true then some 15 else (f_billingref09_in v0.units 0 1099511627776).bind fun y7 => if ((!y7) || ((v0.kind == 1) && (decide (v0.units > 604800)))) = true then some 6 else ck ((v0.kind == 1) = true → ((-9223372036854775808 : Int) ≤ v0.start + v0.units ∧ v0.start + v0.units ≤ (9223372036854775807 : Int))) (if ((v0.kind == 1) && (decide ((v0.start + v0.units) > 12622780800))) = true then some 15 else (f_billingref09_in v0.call 0 999999999).bind fun y8 => (gcall (!(!y8)) (f_billingref09_in v0.part 0 99)).bind fun y9 => if ((!y8) || (!y9)) = true then some 6 else if (((v0.part == 0) != (v0.call == 0)) || (v0.last && (v0.part == 0))) = true then some 8 else (f_billingref09_in v0.trunk 0 999).bind fun y10 => if (!y10) = true then some 6 else if (v0.inbound && (v0.trunk == 0)) = true then some 8 else some 0)
def f_billingref02_Pack_j1 (v0s : List UInt8) (v4outl1 : List UInt8) (v5il1 : Int) (v6lowj1 : UInt8) : Option ((List UInt8 × Int) ⊕ ((List UInt8) × Int)) :=
  ck ((0 : Int) ≤ v5il1 ∧ v5il1 < (v0s.length : Int)) (ck ((0 : Int) ≤ 4) (ck (v4outl1.length + ([(u8shl ((nth v0s (Int.toNat (v5il1))) - 48) 4) ||| v6lowj1] : List UInt8).length ≤ 1000000000) (ck ((-9223372036854775808 : Int) ≤ v5il1 + 2 ∧ v5il1 + 2 ≤ (9223372036854775807 : Int)) (some (.inl (v4outl1 ++ ([(u8shl ((nth v0s (Int.toNat (v5il1))) - 48) 4) ||| v6lowj1] : List UInt8), v5il1 + 2))))))
def f_billingref02_Pack_l1 (v0s : List UInt8) (v4outl1 : List UInt8) (v5il1 : Int) : Option ((List UInt8 × Int) ⊕ ((List UInt8) × Int)) :=
  if (decide (v5il1 < (v0s.length : Int))) = true then (ck ((-9223372036854775808 : Int) ≤ v5il1 + 1 ∧ v5il1 + 1 ≤ (9223372036854775807 : Int)) (if (decide ((v5il1 + 1) < (v0s.length : Int))) = true then (ck ((-9223372036854775808 : Int) ≤ v5il1 + 1 ∧ v5il1 + 1 ≤ (9223372036854775807 : Int)) (ck ((0 : Int) ≤ (v5il1 + 1) ∧ (v5il1 + 1) < (v0s.length : Int)) (f_billingref02_Pack_j1 v0s v4outl1 v5il1 ((nth v0s (Int.toNat (v5il1 + 1))) - 48)))) else f_billingref02_Pack_j1 v0s v4outl1 v5il1 15)) else some (.inr (v4outl1, 0))
def f_billingref02_Pack (v0s : List UInt8) : Option ((List UInt8) × Int) :=
  (f_billingref02_Valid v0s).bind fun y1 => if (!y1) = true then some (([] : List UInt8), 12) else loop (fun s => f_billingref02_Pack_l1 v0s s.1 s.2) (([] : List UInt8), 0)
def f_billingref10_shortest_l1 (v0nl1 : Int) (v3outl1 : List UInt8) : Option ((Int × List UInt8) ⊕ (List UInt8)) :=
  if (decide (v0nl1 > 0)) = true then (ck (256 ≠ (0 : Int)) (ck (([UInt8.ofInt (Int.tmod v0nl1 256)] : List UInt8).length + v3outl1.length ≤ 1000000000) (ck (256 ≠ (0 : Int) ∧ (-9223372036854775808 : Int) ≤ Int.tdiv v0nl1 256 ∧ Int.tdiv v0nl1 256 ≤ (9223372036854775807 : Int)) (some (.inl (Int.tdiv v0nl1 256, ([UInt8.ofInt (Int.tmod v0nl1 256)] : List UInt8) ++ v3outl1)))))) else some (.inr v3outl1)
def f_billingref10_shortest (v0n : Int) : Option (List UInt8) :=
  loop (fun s => f_billingref10_shortest_l1 s.1 s.2) (v0n, [])
def f_billingref10_flags_j1 (v0r : Record) (v3nj1 : Int) : Option Int :=
  if v0r.inbound = true then (ck ((-9223372036854775808 : Int) ≤ v3nj1 + 2 ∧ v3nj1 + 2 ≤ (9223372036854775807 : Int)) (some (v3nj1 + 2))) else some v3nj1
def f_billingref10_flags (v0r : Record) : Option Int :=
  if v0r.last = true then (ck ((-9223372036854775808 : Int) ≤ 0 + 1 ∧ 0 + 1 ≤ (9223372036854775807 : Int)) (f_billingref10_flags_j1 v0r (0 + 1))) else f_billingref10_flags_j1 v0r 0
def f_billingref10_Encode_j2 (v9j2 : List Element) : Option ((List UInt8) × Int) :=
  (f_billingref10_Build v9j2).bind fun y13 => ck (256 ≠ (0 : Int) ∧ (-9223372036854775808 : Int) ≤ Int.tdiv (y13.1.length : Int) 256 ∧ Int.tdiv (y13.1.length : Int) 256 ≤ (9223372036854775807 : Int)) (ck (256 ≠ (0 : Int)) (ck (([UInt8.ofInt (Int.tdiv (y13.1.length : Int) 256), UInt8.ofInt (Int.tmod (y13.1.length : Int) 256)] : List UInt8).length + y13.1.length ≤ 1000000000) (some (([UInt8.ofInt (Int.tdiv (y13.1.length : Int) 256), UInt8.ofInt (Int.tmod (y13.1.length : Int) 256)] : List UInt8) ++ y13.1, 0))))
def f_billingref10_Encode_l1 (y2 : (List UInt8) × Int) (v7j1 : List UInt8) (y3 : (List UInt8)) (y4 : (List UInt8)) (y5 : (List UInt8)) (y6 : (List UInt8)) (y7 : (List UInt8)) (y8 : (List UInt8)) (y9 : (List UInt8)) (y10 : (List UInt8)) (y12 : (List UInt8)) (v9l1 : List Element) (v10l1 : Int) : Option ((List Element × Int) ⊕ ((List UInt8) × Int)) :=
  if (decide (v10l1 < (([([] : List UInt8), y3, y4, y5, y2.1, v7j1, y6, y7, y8, y9, y10, y12] : List (List UInt8)).length : Int))) = true then (ck ((0 : Int) ≤ v10l1 ∧ v10l1 < (([([] : List UInt8), y3, y4, y5, y2.1, v7j1, y6, y7, y8, y9, y10, y12] : List (List UInt8)).length : Int)) (if (decide (((nth ([([] : List UInt8), y3, y4, y5, y2.1, v7j1, y6, y7, y8, y9, y10, y12] : List (List UInt8)) (Int.toNat (v10l1))).length : Int) > 0)) = true then (ck ((0 : Int) ≤ v10l1 ∧ v10l1 < (([([] : List UInt8), y3, y4, y5, y2.1, v7j1, y6, y7, y8, y9, y10, y12] : List (List UInt8)).length : Int)) (ck (v9l1.length + ([(⟨v10l1, nth ([([] : List UInt8), y3, y4, y5, y2.1, v7j1, y6, y7, y8, y9, y10, y12] : List (List UInt8)) (Int.toNat (v10l1))⟩ : Element)] : List Element).length ≤ 1000000000) (ck ((-9223372036854775808 : Int) ≤ v10l1 + 1 ∧ v10l1 + 1 ≤ (9223372036854775807 : Int)) (some (.inl (v9l1 ++ ([(⟨v10l1, nth ([([] : List UInt8), y3, y4, y5, y2.1, v7j1, y6, y7, y8, y9, y10, y12] : List (List UInt8)) (Int.toNat (v10l1))⟩ : Element)] : List Element), v10l1 + 1)))))) else ck ((-9223372036854775808 : Int) ≤ v10l1 + 1 ∧ v10l1 + 1 ≤ (9223372036854775807 : Int)) (some (.inl (v9l1, v10l1 + 1))))) else (f_billingref10_Encode_j2 v9l1).map (fun z => .inr z)
def f_billingref10_Encode_j1 (v0 : Record) (y2 : (List UInt8) × Int) (v7j1 : List UInt8) : Option ((List UInt8) × Int) :=
  (f_billingref10_shortest v0.kind).bind fun y3 => (f_billingref10_shortest v0.source).bind fun y4 => (f_billingref10_shortest v0.serial).bind fun y5 => (f_billingref10_shortest v0.start).bind fun y6 => (f_billingref10_shortest v0.units).bind fun y7 => (f_billingref10_shortest v0.call).bind fun y8 => (f_billingref10_shortest v0.part).bind fun y9 => (f_billingref10_shortest v0.trunk).bind fun y10 => (f_billingref10_flags v0).bind fun y11 => (f_billingref10_shortest y11).bind fun y12 => loop (fun s => f_billingref10_Encode_l1 y2 v7j1 y3 y4 y5 y6 y7 y8 y9 y10 y12 s.1 s.2) (([] : List Element), 1)
def f_billingref10_Encode (v0 : Record) : Option ((List UInt8) × Int) :=
  (f_billingref09_Error v0).bind fun y1 => if (y1 != 0) = true then some (([] : List UInt8), y1) else (f_billingref02_Pack v0.a).bind fun y2 => if (v0.b != ([] : List UInt8)) = true then ((f_billingref02_Pack v0.b).bind fun y14 => f_billingref10_Encode_j1 v0 y2 y14.1) else f_billingref10_Encode_j1 v0 y2 []
def f_billinglaw10_TaggedEncodes (v0r : Record) : Option Bool :=
  (f_billinglaw10_short v0r).bind fun y1 => if (!y1) = true then ((f_billinglaw10_awake).bind fun y2 => some y2) else (f_tagged_Encode v0r).bind fun y3 => (f_billingref10_Encode v0r).bind fun y4 => (gcall ((y3.1 == y4.1) && (y3.2 == y4.2)) (f_billinglaw10_awake)).bind fun y5 => some (((y3.1 == y4.1) && (y3.2 == y4.2)) && y5)
def f_tagged_size (v0b : List UInt8) : Option (Int × Int) :=
  if (decide ((v0b.length : Int) < 2)) = true then some (0, 2) else ck ((0 : Int) ≤ 0 ∧ 0 < (v0b.length : Int)) (ck ((0 : Int) ≤ 8 ∧ 8 < (63 : Int) ∧ (-9223372036854775808 : Int) ≤ ((nth v0b (Int.toNat (0))).toNat : Int) * 2 ^ (Int.toNat (8)) ∧ ((nth v0b (Int.toNat (0))).toNat : Int) * 2 ^ (Int.toNat (8)) ≤ (9223372036854775807 : Int)) (ck ((-9223372036854775808 : Int) ≤ 2 + (((nth v0b (Int.toNat (0))).toNat : Int) * 2 ^ (Int.toNat (8))) ∧ 2 + (((nth v0b (Int.toNat (0))).toNat : Int) * 2 ^ (Int.toNat (8))) ≤ (9223372036854775807 : Int)) (ck ((0 : Int) ≤ 1 ∧ 1 < (v0b.length : Int)) (ck ((-9223372036854775808 : Int) ≤ (2 + (((nth v0b (Int.toNat (0))).toNat : Int) * 2 ^ (Int.toNat (8)))) + ((nth v0b (Int.toNat (1))).toNat : Int) ∧ (2 + (((nth v0b (Int.toNat (0))).toNat : Int) * 2 ^ (Int.toNat (8)))) + ((nth v0b (Int.toNat (1))).toNat : Int) ≤ (9223372036854775807 : Int)) (if (decide ((v0b.length : Int) < ((2 + (((nth v0b (Int.toNat (0))).toNat : Int) * 2 ^ (Int.toNat (8)))) + ((nth v0b (Int.toNat (1))).toNat : Int)))) = true then some (0, 2) else some ((2 + (((nth v0b (Int.toNat (0))).toNat : Int) * 2 ^ (Int.toNat (8)))) + ((nth v0b (Int.toNat (1))).toNat : Int), 0))))))
def f_tagged_number_l1 (v0value : List UInt8) (v4nl1 : Int) (v23l1 : Int) : Option ((Int × Int) ⊕ (Int × Bool)) :=
  if (decide (v23l1 < (v0value.length : Int))) = true then (ck ((0 : Int) ≤ v23l1 ∧ v23l1 < (v0value.length : Int)) (ck ((0 : Int) ≤ 8 ∧ 8 < (63 : Int) ∧ (-9223372036854775808 : Int) ≤ v4nl1 * 2 ^ (Int.toNat (8)) ∧ v4nl1 * 2 ^ (Int.toNat (8)) ≤ (9223372036854775807 : Int)) (ck ((-9223372036854775808 : Int) ≤ (v4nl1 * 2 ^ (Int.toNat (8))) + ((nth v0value (Int.toNat (v23l1))).toNat : Int) ∧ (v4nl1 * 2 ^ (Int.toNat (8))) + ((nth v0value (Int.toNat (v23l1))).toNat : Int) ≤ (9223372036854775807 : Int)) (ck ((-9223372036854775808 : Int) ≤ v23l1 + 1 ∧ v23l1 + 1 ≤ (9223372036854775807 : Int)) (some (.inl ((v4nl1 * 2 ^ (Int.toNat (8))) + ((nth v0value (Int.toNat (v23l1))).toNat : Int), v23l1 + 1))))))) else some (.inr (v4nl1, true))
def f_tagged_number (v0value : List UInt8) : Option (Int × Bool) :=
  ck ((!((decide ((v0value.length : Int) < 1)) || (decide ((v0value.length : Int) > 6)))) = true → ((0 : Int) ≤ 0 ∧ 0 < (v0value.length : Int))) (if (((decide ((v0value.length : Int) < 1)) || (decide ((v0value.length : Int) > 6))) || ((nth v0value (Int.toNat (0))) == 0)) = true then some (0, false) else loop (fun s => f_tagged_number_l1 v0value s.1 s.2) (0, 0))
def f_digits_Unpack_j1 (v4sj1 : List UInt8) : Option ((List UInt8) × Int) :=
  (f_digits_Valid v4sj1).bind fun y1 => if (!y1) = true then some (([] : List UInt8), 12) else some (v4sj1, 0)
def f_digits_Unpack_l1 (v0b : List UInt8) (v4sl1 : List UInt8) (v9l1 : Int) : Option ((List UInt8 × Int) ⊕ ((List UInt8) × Int)) :=
  if (decide (v9l1 < (v0b.length : Int))) = true then (ck ((0 : Int) ≤ v9l1 ∧ v9l1 < (v0b.length : Int)) (ck ((0 : Int) ≤ 4) (ck (v4sl1.length + ([48 + (u8shr (nth v0b (Int.toNat (v9l1))) 4)] : List UInt8).length ≤ 1000000000) (ck ((!(((nth v0b (Int.toNat (v9l1))) &&& 15) != 15)) = true → ((-9223372036854775808 : Int) ≤ (v0b.length : Int) - 1 ∧ (v0b.length : Int) - 1 ≤ (9223372036854775807 : Int))) (if ((((nth v0b (Int.toNat (v9l1))) &&& 15) != 15) || (decide (v9l1 < ((v0b.length : Int) - 1)))) = true then (ck ((v4sl1 ++ ([48 + (u8shr (nth v0b (Int.toNat (v9l1))) 4)] : List UInt8)).length + ([48 + ((nth v0b (Int.toNat (v9l1))) &&& 15)] : List UInt8).length ≤ 1000000000) (ck ((-9223372036854775808 : Int) ≤ v9l1 + 1 ∧ v9l1 + 1 ≤ (9223372036854775807 : Int)) (some (.inl ((v4sl1 ++ ([48 + (u8shr (nth v0b (Int.toNat (v9l1))) 4)] : List UInt8)) ++ ([48 + ((nth v0b (Int.toNat (v9l1))) &&& 15)] : List UInt8), v9l1 + 1))))) else ck ((-9223372036854775808 : Int) ≤ v9l1 + 1 ∧ v9l1 + 1 ≤ (9223372036854775807 : Int)) (some (.inl (v4sl1 ++ ([48 + (u8shr (nth v0b (Int.toNat (v9l1))) 4)] : List UInt8), v9l1 + 1)))))))) else (f_digits_Unpack_j1 v4sl1).map (fun z => .inr z)
def f_digits_Unpack (v0b : List UInt8) : Option ((List UInt8) × Int) :=
  loop (fun s => f_digits_Unpack_l1 v0b s.1 s.2) (([] : List UInt8), 0)
def g_tagged_field_j1 (v1 : Element) (o0c0p : Record) (v55j1 : Bool) : Option (Bool × Record) :=
  if v55j1 = true then ((f_digits_Unpack v1.value).bind fun y9 => if (v1.tag == 4) = true then some ((y9.2 == 0), (⟨o0c0p.source, o0c0p.serial, o0c0p.kind, y9.1, o0c0p.b, o0c0p.start, o0c0p.units, o0c0p.call, o0c0p.part, o0c0p.last, o0c0p.trunk, o0c0p.inbound⟩ : Record)) else some ((y9.2 == 0), (⟨o0c0p.source, o0c0p.serial, o0c0p.kind, o0c0p.a, y9.1, o0c0p.start, o0c0p.units, o0c0p.call, o0c0p.part, o0c0p.last, o0c0p.trunk, o0c0p.inbound⟩ : Record))) else if (v1.tag == 11) = true then (ck ((!((v1.value.length : Int) != 1)) = true → ((0 : Int) ≤ 0 ∧ 0 < (v1.value.length : Int))) (ck ((!(((v1.value.length : Int) != 1) || (decide ((nth v1.value (Int.toNat (0))) < 1)))) = true → ((0 : Int) ≤ 0 ∧ 0 < (v1.value.length : Int))) (if ((((v1.value.length : Int) != 1) || (decide ((nth v1.value (Int.toNat (0))) < 1))) || (decide ((nth v1.value (Int.toNat (0))) > 3))) = true then some (false, o0c0p) else ck ((0 : Int) ≤ 0 ∧ 0 < (v1.value.length : Int)) (ck ((0 : Int) ≤ 0 ∧ 0 < (v1.value.length : Int)) (some (true, (⟨o0c0p.source, o0c0p.serial, o0c0p.kind, o0c0p.a, o0c0p.b, o0c0p.start, o0c0p.units, o0c0p.call, o0c0p.part, (((nth v1.value (Int.toNat (0))) &&& 1) != 0), o0c0p.trunk, (((nth v1.value (Int.toNat (0))) &&& 2) != 0)⟩ : Record))))))) else some (false, o0c0p)
def g_tagged_field (v1 : Element) (o0c0p : Record) : Option (Bool × Record) :=
  if (decide (v1.tag = 1)) = true then ((f_tagged_number v1.value).bind fun y1 => some (y1.2, (⟨o0c0p.source, o0c0p.serial, y1.1, o0c0p.a, o0c0p.b, o0c0p.start, o0c0p.units, o0c0p.call, o0c0p.part, o0c0p.last, o0c0p.trunk, o0c0p.inbound⟩ : Record))) else if (decide (v1.tag = 2)) = true then ((f_tagged_number v1.value).bind fun y2 => some (y2.2, (⟨y2.1, o0c0p.serial, o0c0p.kind, o0c0p.a, o0c0p.b, o0c0p.start, o0c0p.units, o0c0p.call, o0c0p.part, o0c0p.last, o0c0p.trunk, o0c0p.inbound⟩ : Record))) else if (decide (v1.tag = 3)) = true then ((f_tagged_number v1.value).bind fun y3 => some (y3.2, (⟨o0c0p.source, y3.1, o0c0p.kind, o0c0p.a, o0c0p.b, o0c0p.start, o0c0p.units, o0c0p.call, o0c0p.part, o0c0p.last, o0c0p.trunk, o0c0p.inbound⟩ : Record))) else if (decide (v1.tag = 6)) = true then ((f_tagged_number v1.value).bind fun y4 => some (y4.2, (⟨o0c0p.source, o0c0p.serial, o0c0p.kind, o0c0p.a, o0c0p.b, y4.1, o0c0p.units, o0c0p.call, o0c0p.part, o0c0p.last, o0c0p.trunk, o0c0p.inbound⟩ : Record))) else if (decide (v1.tag = 7)) = true then ((f_tagged_number v1.value).bind fun y5 => some (y5.2, (⟨o0c0p.source, o0c0p.serial, o0c0p.kind, o0c0p.a, o0c0p.b, o0c0p.start, y5.1, o0c0p.call, o0c0p.part, o0c0p.last, o0c0p.trunk, o0c0p.inbound⟩ : Record))) else if (decide (v1.tag = 8)) = true then ((f_tagged_number v1.value).bind fun y6 => some (y6.2, (⟨o0c0p.source, o0c0p.serial, o0c0p.kind, o0c0p.a, o0c0p.b, o0c0p.start, o0c0p.units, y6.1, o0c0p.part, o0c0p.last, o0c0p.trunk, o0c0p.inbound⟩ : Record))) else if (decide (v1.tag = 9)) = true then ((f_tagged_number v1.value).bind fun y7 => some (y7.2, (⟨o0c0p.source, o0c0p.serial, o0c0p.kind, o0c0p.a, o0c0p.b, o0c0p.start, o0c0p.units, o0c0p.call, y7.1, o0c0p.last, o0c0p.trunk, o0c0p.inbound⟩ : Record))) else if (decide (v1.tag = 10)) = true then ((f_tagged_number v1.value).bind fun y8 => some (y8.2, (⟨o0c0p.source, o0c0p.serial, o0c0p.kind, o0c0p.a, o0c0p.b, o0c0p.start, o0c0p.units, o0c0p.call, o0c0p.part, o0c0p.last, y8.1, o0c0p.inbound⟩ : Record))) else if (v1.tag == 4) = true then (g_tagged_field_j1 v1 o0c0p (v1.tag == 4)) else g_tagged_field_j1 v1 o0c0p (v1.tag == 5)
def f_tagged_Decode_j2 (o1c0j2 : Int) (o1c1j2 : Int) (o1c2j2 : Int) (o1c3j2 : List UInt8) (o1c4j2 : List UInt8) (o1c5j2 : Int) (o1c6j2 : Int) (o1c7j2 : Int) (o1c8j2 : Int) (o1c9j2 : Bool) (o1c10j2 : Int) (o1c11j2 : Bool) : Option (Record × Int) :=
  (f_textual_Encode (⟨o1c0j2, o1c1j2, o1c2j2, o1c3j2, o1c4j2, o1c5j2, o1c6j2, o1c7j2, o1c8j2, o1c9j2, o1c10j2, o1c11j2⟩ : Record)).bind fun y3 => if (y3.2 != 0) = true then some ((⟨0, 0, 0, ([] : List UInt8), ([] : List UInt8), 0, 0, 0, 0, false, 0, false⟩ : Record), y3.2) else some ((⟨o1c0j2, o1c1j2, o1c2j2, o1c3j2, o1c4j2, o1c5j2, o1c6j2, o1c7j2, o1c8j2, o1c9j2, o1c10j2, o1c11j2⟩ : Record), 0)
def f_tagged_Decode_l1 (y2 : (List Element) × Int) (v41l1 : Int) (o1c0l1 : Int) (o1c1l1 : Int) (o1c2l1 : Int) (o1c3l1 : List UInt8) (o1c4l1 : List UInt8) (o1c5l1 : Int) (o1c6l1 : Int) (o1c7l1 : Int) (o1c8l1 : Int) (o1c9l1 : Bool) (o1c10l1 : Int) (o1c11l1 : Bool) : Option ((Int × Int × Int × Int × List UInt8 × List UInt8 × Int × Int × Int × Int × Bool × Int × Bool) ⊕ (Record × Int)) :=
  if (decide (v41l1 < (y2.1.length : Int))) = true then (ck ((0 : Int) ≤ v41l1 ∧ v41l1 < (y2.1.length : Int)) ((g_tagged_field (nth y2.1 (Int.toNat (v41l1))) (⟨o1c0l1, o1c1l1, o1c2l1, o1c3l1, o1c4l1, o1c5l1, o1c6l1, o1c7l1, o1c8l1, o1c9l1, o1c10l1, o1c11l1⟩ : Record)).bind fun y4 => if (!y4.1) = true then some (.inr ((⟨0, 0, 0, ([] : List UInt8), ([] : List UInt8), 0, 0, 0, 0, false, 0, false⟩ : Record), 1)) else ck ((-9223372036854775808 : Int) ≤ v41l1 + 1 ∧ v41l1 + 1 ≤ (9223372036854775807 : Int)) (some (.inl (v41l1 + 1, y4.2.source, y4.2.serial, y4.2.kind, y4.2.a, y4.2.b, y4.2.start, y4.2.units, y4.2.call, y4.2.part, y4.2.last, y4.2.trunk, y4.2.inbound))))) else (f_tagged_Decode_j2 o1c0l1 o1c1l1 o1c2l1 o1c3l1 o1c4l1 o1c5l1 o1c6l1 o1c7l1 o1c8l1 o1c9l1 o1c10l1 o1c11l1).map (fun z => .inr z)
def f_tagged_Decode_j1 (v0b : List UInt8) (v5ej1 : Int) : Option (Record × Int) :=
  if (v5ej1 != 0) = true then some ((⟨0, 0, 0, ([] : List UInt8), ([] : List UInt8), 0, 0, 0, 0, false, 0, false⟩ : Record), v5ej1) else ck ((0 : Int) ≤ (2 : Int) ∧ (2 : Int) ≤ (v0b.length : Int)) ((f_tagged_Elements (v0b.drop (Int.toNat ((2 : Int))))).bind fun y2 => if (y2.2 != 0) = true then some ((⟨0, 0, 0, ([] : List UInt8), ([] : List UInt8), 0, 0, 0, 0, false, 0, false⟩ : Record), y2.2) else loop (fun s => f_tagged_Decode_l1 y2 s.1 s.2.1 s.2.2.1 s.2.2.2.1 s.2.2.2.2.1 s.2.2.2.2.2.1 s.2.2.2.2.2.2.1 s.2.2.2.2.2.2.2.1 s.2.2.2.2.2.2.2.2.1 s.2.2.2.2.2.2.2.2.2.1 s.2.2.2.2.2.2.2.2.2.2.1 s.2.2.2.2.2.2.2.2.2.2.2.1 s.2.2.2.2.2.2.2.2.2.2.2.2) (0, 0, 0, 0, ([] : List UInt8), ([] : List UInt8), 0, 0, 0, 0, false, 0, false))
def f_tagged_Decode (v0b : List UInt8) : Option (Record × Int) :=
  (f_tagged_size v0b).bind fun y1 => if ((y1.2 == 0) && (decide (y1.1 < (v0b.length : Int)))) = true then (f_tagged_Decode_j1 v0b 3) else f_tagged_Decode_j1 v0b y1.2
def f_billingref02_Unpack_j1 (v0b : List UInt8) (v4sj1 : List UInt8) : Option ((List UInt8) × Int) :=
  (f_billingref02_Valid v4sj1).bind fun y1 => ck ((!(!y1)) = true → ((-9223372036854775808 : Int) ≤ 2 * (v0b.length : Int) ∧ 2 * (v0b.length : Int) ≤ (9223372036854775807 : Int))) (ck ((!(!y1)) = true → ((-9223372036854775808 : Int) ≤ (2 * (v0b.length : Int)) - (v4sj1.length : Int) ∧ (2 * (v0b.length : Int)) - (v4sj1.length : Int) ≤ (9223372036854775807 : Int))) (if ((!y1) || (decide (((2 * (v0b.length : Int)) - (v4sj1.length : Int)) > 1))) = true then some (([] : List UInt8), 12) else some (v4sj1, 0)))
def f_billingref02_Unpack_l1 (v0b : List UInt8) (v4sl1 : List UInt8) (v5il1 : Int) : Option ((List UInt8 × Int) ⊕ ((List UInt8) × Int)) :=
  if ((decide (v5il1 < (v0b.length : Int))) && (decide (v5il1 ≤ 15))) = true then (ck ((0 : Int) ≤ v5il1 ∧ v5il1 < (v0b.length : Int)) (ck ((0 : Int) ≤ 4) (ck ((0 : Int) ≤ v5il1 ∧ v5il1 < (v0b.length : Int)) (ck (v4sl1.length + ([48 + (u8shr (nth v0b (Int.toNat (v5il1))) 4)] : List UInt8).length ≤ 9223372036854775807) (ck ((!(((nth v0b (Int.toNat (v5il1))) &&& 15) != 15)) = true → ((-9223372036854775808 : Int) ≤ (v0b.length : Int) - 1 ∧ (v0b.length : Int) - 1 ≤ (9223372036854775807 : Int))) (if ((((nth v0b (Int.toNat (v5il1))) &&& 15) != 15) || (decide (v5il1 < ((v0b.length : Int) - 1)))) = true then (ck ((v4sl1 ++ ([48 + (u8shr (nth v0b (Int.toNat (v5il1))) 4)] : List UInt8)).length + ([48 + ((nth v0b (Int.toNat (v5il1))) &&& 15)] : List UInt8).length ≤ 9223372036854775807) (ck ((-9223372036854775808 : Int) ≤ v5il1 + 1 ∧ v5il1 + 1 ≤ (9223372036854775807 : Int)) (some (.inl ((v4sl1 ++ ([48 + (u8shr (nth v0b (Int.toNat (v5il1))) 4)] : List UInt8)) ++ ([48 + ((nth v0b (Int.toNat (v5il1))) &&& 15)] : List UInt8), v5il1 + 1))))) else ck ((-9223372036854775808 : Int) ≤ v5il1 + 1 ∧ v5il1 + 1 ≤ (9223372036854775807 : Int)) (some (.inl (v4sl1 ++ ([48 + (u8shr (nth v0b (Int.toNat (v5il1))) 4)] : List UInt8), v5il1 + 1))))))))) else (f_billingref02_Unpack_j1 v0b v4sl1).map (fun z => .inr z)
def f_billingref02_Unpack (v0b : List UInt8) : Option ((List UInt8) × Int) :=
  loop (fun s => f_billingref02_Unpack_l1 v0b s.1 s.2) (([] : List UInt8), 0)
def f_billingref10_number_l1 (v0b : List UInt8) (v3nl1 : Int) (v4il1 : Int) : Option ((Int × Int) ⊕ Int) :=
  if (decide (v4il1 < (v0b.length : Int))) = true then (ck ((-9223372036854775808 : Int) ≤ v3nl1 * 256 ∧ v3nl1 * 256 ≤ (9223372036854775807 : Int)) (ck ((0 : Int) ≤ v4il1 ∧ v4il1 < (v0b.length : Int)) (ck ((-9223372036854775808 : Int) ≤ (v3nl1 * 256) + ((nth v0b (Int.toNat (v4il1))).toNat : Int) ∧ (v3nl1 * 256) + ((nth v0b (Int.toNat (v4il1))).toNat : Int) ≤ (9223372036854775807 : Int)) (ck ((-9223372036854775808 : Int) ≤ v4il1 + 1 ∧ v4il1 + 1 ≤ (9223372036854775807 : Int)) (some (.inl ((v3nl1 * 256) + ((nth v0b (Int.toNat (v4il1))).toNat : Int), v4il1 + 1))))))) else some (.inr v3nl1)
def f_billingref10_number (v0b : List UInt8) : Option Int :=
  ck ((!((decide ((v0b.length : Int) < 1)) || (decide ((v0b.length : Int) > 6)))) = true → ((0 : Int) ≤ 0 ∧ 0 < (v0b.length : Int))) (if (((decide ((v0b.length : Int) < 1)) || (decide ((v0b.length : Int) > 6))) || ((nth v0b (Int.toNat (0))) == 0)) = true then some (-1) else loop (fun s => f_billingref10_number_l1 v0b s.1 s.2) (0, 0))
def f_billingref10_field_j1 (v0 : Record) (y1 : (List UInt8) × Int) (o0c3j1 : List UInt8) (o0c4j1 : List UInt8) : Option (Record × Bool) :=
  some ((⟨v0.source, v0.serial, v0.kind, o0c3j1, o0c4j1, v0.start, v0.units, v0.call, v0.part, v0.last, v0.trunk, v0.inbound⟩ : Record), (y1.2 == 0))
def f_billingref10_field_j2 (v0 : Record) (v1 : Element) (y2 : Int) (o0c0j2 : Int) (o0c1j2 : Int) (o0c2j2 : Int) (o0c5j2 : Int) (o0c6j2 : Int) (o0c7j2 : Int) (o0c8j2 : Int) (o0c10j2 : Int) : Option (Record × Bool) :=
  some ((⟨o0c0j2, o0c1j2, o0c2j2, v0.a, v0.b, o0c5j2, o0c6j2, o0c7j2, o0c8j2, v0.last, o0c10j2, v0.inbound⟩ : Record), ((decide (y2 > 0)) && (decide (v1.tag ≤ 11))))
def f_billingref10_field (v0 : Record) (v1 : Element) : Option (Record × Bool) :=
  if ((v1.tag == 4) || (v1.tag == 5)) = true then ((f_billingref02_Unpack v1.value).bind fun y1 => if (v1.tag == 4) = true then (f_billingref10_field_j1 v0 y1 y1.1 v0.b) else f_billingref10_field_j1 v0 y1 v0.a y1.1) else (f_billingref10_number v1.value).bind fun y2 => if (v1.tag == 1) = true then (f_billingref10_field_j2 v0 v1 y2 v0.source v0.serial y2 v0.start v0.units v0.call v0.part v0.trunk) else if (v1.tag == 2) = true then (f_billingref10_field_j2 v0 v1 y2 y2 v0.serial v0.kind v0.start v0.units v0.call v0.part v0.trunk) else if (v1.tag == 3) = true then (f_billingref10_field_j2 v0 v1 y2 v0.source y2 v0.kind v0.start v0.units v0.call v0.part v0.trunk) else if (v1.tag == 6) = true then (f_billingref10_field_j2 v0 v1 y2 v0.source v0.serial v0.kind y2 v0.units v0.call v0.part v0.trunk) else if (v1.tag == 7) = true then (f_billingref10_field_j2 v0 v1 y2 v0.source v0.serial v0.kind v0.start y2 v0.call v0.part v0.trunk) else if (v1.tag == 8) = true then (f_billingref10_field_j2 v0 v1 y2 v0.source v0.serial v0.kind v0.start v0.units y2 v0.part v0.trunk) else if (v1.tag == 9) = true then (f_billingref10_field_j2 v0 v1 y2 v0.source v0.serial v0.kind v0.start v0.units v0.call y2 v0.trunk) else if (v1.tag == 10) = true then (f_billingref10_field_j2 v0 v1 y2 v0.source v0.serial v0.kind v0.start v0.units v0.call v0.part y2) else if (v1.tag == 11) = true then (ck (2 ≠ (0 : Int)) (some ((⟨v0.source, v0.serial, v0.kind, v0.a, v0.b, v0.start, v0.units, v0.call, v0.part, ((Int.tmod y2 2) == 1), v0.trunk, decide (y2 ≥ 2)⟩ : Record), ((((v1.value.length : Int) == 1) && (decide (y2 ≥ 1))) && (decide (y2 ≤ 3)))))) else f_billingref10_field_j2 v0 v1 y2 v0.source v0.serial v0.kind v0.start v0.units v0.call v0.part v0.trunk
def f_billingref10_Decode_j1 (v7j1 : Bool) (o1c0j1 : Int) (o1c1j1 : Int) (o1c2j1 : Int) (o1c3j1 : List UInt8) (o1c4j1 : List UInt8) (o1c5j1 : Int) (o1c6j1 : Int) (o1c7j1 : Int) (o1c8j1 : Int) (o1c9j1 : Bool) (o1c10j1 : Int) (o1c11j1 : Bool) : Option (Record × Int) :=
  if (!v7j1) = true then some ((⟨0, 0, 0, ([] : List UInt8), ([] : List UInt8), 0, 0, 0, 0, false, 0, false⟩ : Record), 1) else (f_billingref09_Error (⟨o1c0j1, o1c1j1, o1c2j1, o1c3j1, o1c4j1, o1c5j1, o1c6j1, o1c7j1, o1c8j1, o1c9j1, o1c10j1, o1c11j1⟩ : Record)).bind fun y2 => if (y2 != 0) = true then some ((⟨0, 0, 0, ([] : List UInt8), ([] : List UInt8), 0, 0, 0, 0, false, 0, false⟩ : Record), y2) else some ((⟨o1c0j1, o1c1j1, o1c2j1, o1c3j1, o1c4j1, o1c5j1, o1c6j1, o1c7j1, o1c8j1, o1c9j1, o1c10j1, o1c11j1⟩ : Record), 0)
def f_billingref10_Decode_l1 (y1 : (List Element) × Int) (v7l1 : Bool) (v8l1 : Int) (o1c0l1 : Int) (o1c1l1 : Int) (o1c2l1 : Int) (o1c3l1 : List UInt8) (o1c4l1 : List UInt8) (o1c5l1 : Int) (o1c6l1 : Int) (o1c7l1 : Int) (o1c8l1 : Int) (o1c9l1 : Bool) (o1c10l1 : Int) (o1c11l1 : Bool) : Option ((Bool × Int × Int × Int × Int × List UInt8 × List UInt8 × Int × Int × Int × Int × Bool × Int × Bool) ⊕ (Record × Int)) :=
  if (decide (v8l1 < (y1.1.length : Int))) = true then (ck ((0 : Int) ≤ v8l1 ∧ v8l1 < (y1.1.length : Int)) ((f_billingref10_field (⟨o1c0l1, o1c1l1, o1c2l1, o1c3l1, o1c4l1, o1c5l1, o1c6l1, o1c7l1, o1c8l1, o1c9l1, o1c10l1, o1c11l1⟩ : Record) (nth y1.1 (Int.toNat (v8l1)))).bind fun y3 => ck ((-9223372036854775808 : Int) ≤ v8l1 + 1 ∧ v8l1 + 1 ≤ (9223372036854775807 : Int)) (some (.inl ((v7l1 && y3.2), v8l1 + 1, y3.1.source, y3.1.serial, y3.1.kind, y3.1.a, y3.1.b, y3.1.start, y3.1.units, y3.1.call, y3.1.part, y3.1.last, y3.1.trunk, y3.1.inbound))))) else (f_billingref10_Decode_j1 v7l1 o1c0l1 o1c1l1 o1c2l1 o1c3l1 o1c4l1 o1c5l1 o1c6l1 o1c7l1 o1c8l1 o1c9l1 o1c10l1 o1c11l1).map (fun z => .inr z)
def f_billingref10_Decode (v0 : List UInt8) : Option (Record × Int) :=
  ck ((!(decide ((v0.length : Int) < 2))) = true → ((-9223372036854775808 : Int) ≤ (v0.length : Int) - 2 ∧ (v0.length : Int) - 2 ≤ (9223372036854775807 : Int))) (ck ((!(decide ((v0.length : Int) < 2))) = true → ((0 : Int) ≤ 0 ∧ 0 < (v0.length : Int))) (ck ((!(decide ((v0.length : Int) < 2))) = true → ((-9223372036854775808 : Int) ≤ ((nth v0 (Int.toNat (0))).toNat : Int) * 256 ∧ ((nth v0 (Int.toNat (0))).toNat : Int) * 256 ≤ (9223372036854775807 : Int))) (ck ((!(decide ((v0.length : Int) < 2))) = true → ((0 : Int) ≤ 1 ∧ 1 < (v0.length : Int))) (ck ((!(decide ((v0.length : Int) < 2))) = true → ((-9223372036854775808 : Int) ≤ (((nth v0 (Int.toNat (0))).toNat : Int) * 256) + ((nth v0 (Int.toNat (1))).toNat : Int) ∧ (((nth v0 (Int.toNat (0))).toNat : Int) * 256) + ((nth v0 (Int.toNat (1))).toNat : Int) ≤ (9223372036854775807 : Int))) (if ((decide ((v0.length : Int) < 2)) || (decide (((v0.length : Int) - 2) < ((((nth v0 (Int.toNat (0))).toNat : Int) * 256) + ((nth v0 (Int.toNat (1))).toNat : Int))))) = true then some ((⟨0, 0, 0, ([] : List UInt8), ([] : List UInt8), 0, 0, 0, 0, false, 0, false⟩ : Record), 2) else ck ((-9223372036854775808 : Int) ≤ (v0.length : Int) - 2 ∧ (v0.length : Int) - 2 ≤ (9223372036854775807 : Int)) (ck ((0 : Int) ≤ 0 ∧ 0 < (v0.length : Int)) (ck ((-9223372036854775808 : Int) ≤ ((nth v0 (Int.toNat (0))).toNat : Int) * 256 ∧ ((nth v0 (Int.toNat (0))).toNat : Int) * 256 ≤ (9223372036854775807 : Int)) (ck ((0 : Int) ≤ 1 ∧ 1 < (v0.length : Int)) (ck ((-9223372036854775808 : Int) ≤ (((nth v0 (Int.toNat (0))).toNat : Int) * 256) + ((nth v0 (Int.toNat (1))).toNat : Int) ∧ (((nth v0 (Int.toNat (0))).toNat : Int) * 256) + ((nth v0 (Int.toNat (1))).toNat : Int) ≤ (9223372036854775807 : Int)) (if (decide (((v0.length : Int) - 2) > ((((nth v0 (Int.toNat (0))).toNat : Int) * 256) + ((nth v0 (Int.toNat (1))).toNat : Int)))) = true then some ((⟨0, 0, 0, ([] : List UInt8), ([] : List UInt8), 0, 0, 0, 0, false, 0, false⟩ : Record), 3) else ck ((0 : Int) ≤ (2 : Int) ∧ (2 : Int) ≤ (v0.length : Int)) ((f_billingref10_Elements (v0.drop (Int.toNat ((2 : Int))))).bind fun y1 => if (y1.2 != 0) = true then some ((⟨0, 0, 0, ([] : List UInt8), ([] : List UInt8), 0, 0, 0, 0, false, 0, false⟩ : Record), y1.2) else loop (fun s => f_billingref10_Decode_l1 y1 s.1 s.2.1 s.2.2.1 s.2.2.2.1 s.2.2.2.2.1 s.2.2.2.2.2.1 s.2.2.2.2.2.2.1 s.2.2.2.2.2.2.2.1 s.2.2.2.2.2.2.2.2.1 s.2.2.2.2.2.2.2.2.2.1 s.2.2.2.2.2.2.2.2.2.2.1 s.2.2.2.2.2.2.2.2.2.2.2.1 s.2.2.2.2.2.2.2.2.2.2.2.2.1 s.2.2.2.2.2.2.2.2.2.2.2.2.2) (true, 0, 0, 0, 0, ([] : List UInt8), ([] : List UInt8), 0, 0, 0, 0, false, 0, false))))))))))))
def f_billinglaw10_TaggedDecodes (v0b : List UInt8) : Option Bool :=
  if (decide ((v0b.length : Int) > 500)) = true then ((f_billinglaw10_awake).bind fun y1 => some y1) else (f_tagged_Decode v0b).bind fun y2 => (f_billingref10_Decode v0b).bind fun y3 => (gcall ((eqVs (Record.vals y2.1) (Record.vals y3.1)) && (y2.2 == y3.2)) (f_billinglaw10_awake)).bind fun y4 => some (((eqVs (Record.vals y2.1) (Record.vals y3.1)) && (y2.2 == y3.2)) && y4)
def f_billinglaw10_TaggedBack_j1 (v1 : List UInt8) : Option Bool :=
  (f_tagged_Decode v1).bind fun y4 => if (y4.2 != 0) = true then ((f_billinglaw10_awake).bind fun y5 => some y5) else (f_tagged_Encode y4.1).bind fun y6 => (gcall ((y6.2 == 0) && (y6.1 == v1)) (f_billinglaw10_awake)).bind fun y7 => some (((y6.2 == 0) && (y6.1 == v1)) && y7)
def f_billinglaw10_TaggedBack (v0 : Record) (v1 : List UInt8) (v2 : Int) : Option Bool :=
  (f_billinglaw10_short v0).bind fun y1 => if ((!y1) || (decide ((v1.length : Int) > 500))) = true then ((f_billinglaw10_awake).bind fun y2 => some y2) else (f_tagged_Encode v0).bind fun y3 => if (y3.2 == 0) = true then ((f_tagged_Decode y3.1).bind fun y8 => ck (([] : List UInt8).length + y3.1.length ≤ 1000000000) (ck ((([] : List UInt8) ++ y3.1).length + ([0] : List UInt8).length ≤ 1000000000) ((f_tagged_Decode ((([] : List UInt8) ++ y3.1) ++ ([0] : List UInt8))).bind fun y9 => if (((y8.2 != 0) || (!(eqVs (Record.vals y8.1) (Record.vals v0)))) || (y9.2 != 3)) = true then some false else if ((decide (v2 ≥ 0)) && (decide (v2 < (y3.1.length : Int)))) = true then (ck ((0 : Int) ≤ v2 ∧ v2 ≤ (y3.1.length : Int)) ((f_tagged_Decode (y3.1.take (Int.toNat (v2)))).bind fun y10 => if (y10.2 != 2) = true then some false else f_billinglaw10_TaggedBack_j1 v1)) else f_billinglaw10_TaggedBack_j1 v1))) else f_billinglaw10_TaggedBack_j1 v1
def f_tagged_All_j1 (v5outj1 : List Record) (v6noj1 : List Reject) : Option ((List Record) × (List Reject) × Int) :=
  some (v5outj1, v6noj1, 0)
def f_tagged_All_j2 (v0bl1 : List UInt8) (v7il1 : Int) (y1 : Int × Int) (v5outj2 : List Record) (v6noj2 : List Reject) : Option ((List UInt8 × List Record × List Reject × Int) ⊕ ((List Record) × (List Reject) × Int)) :=
  ck ((0 : Int) ≤ y1.1 ∧ y1.1 ≤ (v0bl1.length : Int)) (ck ((-9223372036854775808 : Int) ≤ v7il1 + 1 ∧ v7il1 + 1 ≤ (9223372036854775807 : Int)) (some (.inl (v0bl1.drop (Int.toNat (y1.1)), v5outj2, v6noj2, v7il1 + 1))))
def f_tagged_All_l1 (v0bl1 : List UInt8) (v5outl1 : List Record) (v6nol1 : List Reject) (v7il1 : Int) : Option ((List UInt8 × List Record × List Reject × Int) ⊕ ((List Record) × (List Reject) × Int)) :=
  if (decide ((v0bl1.length : Int) > 0)) = true then (if (v7il1 == 4096) = true then some (.inr (([] : List Record), ([] : List Reject), 5)) else (f_tagged_size v0bl1).bind fun y1 => if (y1.2 != 0) = true then some (.inr (([] : List Record), ([] : List Reject), y1.2)) else ck ((0 : Int) ≤ y1.1 ∧ y1.1 ≤ (v0bl1.length : Int)) ((f_tagged_Decode (v0bl1.take (Int.toNat (y1.1)))).bind fun y2 => if (y2.2 != 0) = true then (ck (v6nol1.length + ([(⟨0, 0, v7il1, y2.2⟩ : Reject)] : List Reject).length ≤ 1000000000) (f_tagged_All_j2 v0bl1 v7il1 y1 v5outl1 (v6nol1 ++ ([(⟨0, 0, v7il1, y2.2⟩ : Reject)] : List Reject)))) else ck (v5outl1.length + ([y2.1] : List Record).length ≤ 1000000000) (f_tagged_All_j2 v0bl1 v7il1 y1 (v5outl1 ++ ([y2.1] : List Record)) v6nol1))) else (f_tagged_All_j1 v5outl1 v6nol1).map (fun z => .inr z)
def f_tagged_All (v0b : List UInt8) : Option ((List Record) × (List Reject) × Int) :=
  loop (fun s => f_tagged_All_l1 s.1 s.2.1 s.2.2.1 s.2.2.2) (v0b, ([] : List Record), ([] : List Reject), 0)
def f_billingref10_All_j1 (v5j1 : List Record) (v6j1 : List Reject) : Option ((List Record) × (List Reject) × Int) :=
  some (v5j1, v6j1, 0)
def f_billingref10_All_j2 (v0 : List UInt8) (v7l1 : Int) (v8l1 : Int) (v5j2 : List Record) (v6j2 : List Reject) (o0c0j2 : Int) (o0c1j2 : Int) (o0c2j2 : Int) (o0c3j2 : List UInt8) (o0c4j2 : List UInt8) (o0c5j2 : Int) (o0c6j2 : Int) (o0c7j2 : Int) (o0c8j2 : Int) (o0c9j2 : Bool) (o0c10j2 : Int) (o0c11j2 : Bool) : Option ((List Record × List Reject × Int × Int) ⊕ ((List Record) × (List Reject) × Int)) :=
  ck ((-9223372036854775808 : Int) ≤ v8l1 + 1 ∧ v8l1 + 1 ≤ (9223372036854775807 : Int)) (some (.inl (v5j2, v6j2, ((v7l1 + 2) + (((nth v0 (Int.toNat (v7l1))).toNat : Int) * 256)) + ((nth v0 (Int.toNat (v7l1 + 1))).toNat : Int), v8l1 + 1)))
def f_billingref10_All_l1 (v0 : List UInt8) (v5l1 : List Record) (v6l1 : List Reject) (v7l1 : Int) (v8l1 : Int) : Option ((List Record × List Reject × Int × Int) ⊕ ((List Record) × (List Reject) × Int)) :=
  if (decide (v7l1 < (v0.length : Int))) = true then (if (v8l1 == 4096) = true then some (.inr (([] : List Record), ([] : List Reject), 5)) else ck ((-9223372036854775808 : Int) ≤ v7l1 + 2 ∧ v7l1 + 2 ≤ (9223372036854775807 : Int)) (ck ((!(decide ((v7l1 + 2) > (v0.length : Int)))) = true → ((-9223372036854775808 : Int) ≤ v7l1 + 2 ∧ v7l1 + 2 ≤ (9223372036854775807 : Int))) (ck ((!(decide ((v7l1 + 2) > (v0.length : Int)))) = true → ((0 : Int) ≤ v7l1 ∧ v7l1 < (v0.length : Int))) (ck ((!(decide ((v7l1 + 2) > (v0.length : Int)))) = true → ((-9223372036854775808 : Int) ≤ ((nth v0 (Int.toNat (v7l1))).toNat : Int) * 256 ∧ ((nth v0 (Int.toNat (v7l1))).toNat : Int) * 256 ≤ (9223372036854775807 : Int))) (ck ((!(decide ((v7l1 + 2) > (v0.length : Int)))) = true → ((-9223372036854775808 : Int) ≤ (v7l1 + 2) + (((nth v0 (Int.toNat (v7l1))).toNat : Int) * 256) ∧ (v7l1 + 2) + (((nth v0 (Int.toNat (v7l1))).toNat : Int) * 256) ≤ (9223372036854775807 : Int))) (ck ((!(decide ((v7l1 + 2) > (v0.length : Int)))) = true → ((-9223372036854775808 : Int) ≤ v7l1 + 1 ∧ v7l1 + 1 ≤ (9223372036854775807 : Int))) (ck ((!(decide ((v7l1 + 2) > (v0.length : Int)))) = true → ((0 : Int) ≤ (v7l1 + 1) ∧ (v7l1 + 1) < (v0.length : Int))) (ck ((!(decide ((v7l1 + 2) > (v0.length : Int)))) = true → ((-9223372036854775808 : Int) ≤ ((v7l1 + 2) + (((nth v0 (Int.toNat (v7l1))).toNat : Int) * 256)) + ((nth v0 (Int.toNat (v7l1 + 1))).toNat : Int) ∧ ((v7l1 + 2) + (((nth v0 (Int.toNat (v7l1))).toNat : Int) * 256)) + ((nth v0 (Int.toNat (v7l1 + 1))).toNat : Int) ≤ (9223372036854775807 : Int))) (if ((decide ((v7l1 + 2) > (v0.length : Int))) || (decide ((((v7l1 + 2) + (((nth v0 (Int.toNat (v7l1))).toNat : Int) * 256)) + ((nth v0 (Int.toNat (v7l1 + 1))).toNat : Int)) > (v0.length : Int)))) = true then some (.inr (([] : List Record), ([] : List Reject), 2)) else ck ((-9223372036854775808 : Int) ≤ v7l1 + 2 ∧ v7l1 + 2 ≤ (9223372036854775807 : Int)) (ck ((0 : Int) ≤ v7l1 ∧ v7l1 < (v0.length : Int)) (ck ((-9223372036854775808 : Int) ≤ ((nth v0 (Int.toNat (v7l1))).toNat : Int) * 256 ∧ ((nth v0 (Int.toNat (v7l1))).toNat : Int) * 256 ≤ (9223372036854775807 : Int)) (ck ((-9223372036854775808 : Int) ≤ (v7l1 + 2) + (((nth v0 (Int.toNat (v7l1))).toNat : Int) * 256) ∧ (v7l1 + 2) + (((nth v0 (Int.toNat (v7l1))).toNat : Int) * 256) ≤ (9223372036854775807 : Int)) (ck ((-9223372036854775808 : Int) ≤ v7l1 + 1 ∧ v7l1 + 1 ≤ (9223372036854775807 : Int)) (ck ((0 : Int) ≤ (v7l1 + 1) ∧ (v7l1 + 1) < (v0.length : Int)) (ck ((-9223372036854775808 : Int) ≤ ((v7l1 + 2) + (((nth v0 (Int.toNat (v7l1))).toNat : Int) * 256)) + ((nth v0 (Int.toNat (v7l1 + 1))).toNat : Int) ∧ ((v7l1 + 2) + (((nth v0 (Int.toNat (v7l1))).toNat : Int) * 256)) + ((nth v0 (Int.toNat (v7l1 + 1))).toNat : Int) ≤ (9223372036854775807 : Int)) (ck ((0 : Int) ≤ v7l1 ∧ v7l1 ≤ ((v7l1 + 2) + (((nth v0 (Int.toNat (v7l1))).toNat : Int) * 256)) + ((nth v0 (Int.toNat (v7l1 + 1))).toNat : Int) ∧ ((v7l1 + 2) + (((nth v0 (Int.toNat (v7l1))).toNat : Int) * 256)) + ((nth v0 (Int.toNat (v7l1 + 1))).toNat : Int) ≤ (v0.length : Int)) ((f_billingref10_Decode ((v0.take (Int.toNat (((v7l1 + 2) + (((nth v0 (Int.toNat (v7l1))).toNat : Int) * 256)) + ((nth v0 (Int.toNat (v7l1 + 1))).toNat : Int)))).drop (Int.toNat (v7l1)))).bind fun y1 => if (y1.2 == 0) = true then (ck (v5l1.length + ([y1.1] : List Record).length ≤ 1000000000) (f_billingref10_All_j2 v0 v7l1 v8l1 (v5l1 ++ ([y1.1] : List Record)) v6l1 y1.1.source y1.1.serial y1.1.kind y1.1.a y1.1.b y1.1.start y1.1.units y1.1.call y1.1.part y1.1.last y1.1.trunk y1.1.inbound)) else ck (v6l1.length + ([(⟨0, 0, v8l1, y1.2⟩ : Reject)] : List Reject).length ≤ 1000000000) (f_billingref10_All_j2 v0 v7l1 v8l1 v5l1 (v6l1 ++ ([(⟨0, 0, v8l1, y1.2⟩ : Reject)] : List Reject)) y1.1.source y1.1.serial y1.1.kind y1.1.a y1.1.b y1.1.start y1.1.units y1.1.call y1.1.part y1.1.last y1.1.trunk y1.1.inbound)))))))))))))))))) else (f_billingref10_All_j1 v5l1 v6l1).map (fun z => .inr z)
def f_billingref10_All (v0 : List UInt8) : Option ((List Record) × (List Reject) × Int) :=
  loop (fun s => f_billingref10_All_l1 v0 s.1 s.2.1 s.2.2.1 s.2.2.2) (([] : List Record), ([] : List Reject), 0, 0)
def f_billingref09_Same_l1 (v0a : List Record) (v1b : List Record) (v5il1 : Int) : Option ((Int) ⊕ Bool) :=
  if (decide (v5il1 < (v0a.length : Int))) = true then (ck ((0 : Int) ≤ v5il1 ∧ v5il1 < (v0a.length : Int)) (ck ((0 : Int) ≤ v5il1 ∧ v5il1 < (v1b.length : Int)) (if (!(eqVs (Record.vals (nth v0a (Int.toNat (v5il1)))) (Record.vals (nth v1b (Int.toNat (v5il1)))))) = true then some (.inr false) else ck ((-9223372036854775808 : Int) ≤ v5il1 + 1 ∧ v5il1 + 1 ≤ (9223372036854775807 : Int)) (some (.inl (v5il1 + 1)))))) else some (.inr true)
def f_billingref09_Same (v0a : List Record) (v1b : List Record) : Option Bool :=
  if ((v0a.length : Int) != (v1b.length : Int)) = true then some false else loop (fun s => f_billingref09_Same_l1 v0a v1b s) 0
def f_billingref09_SameRejects_l1 (v0a : List Reject) (v1b : List Reject) (v5il1 : Int) : Option ((Int) ⊕ Bool) :=
  if (decide (v5il1 < (v0a.length : Int))) = true then (ck ((0 : Int) ≤ v5il1 ∧ v5il1 < (v0a.length : Int)) (ck ((0 : Int) ≤ v5il1 ∧ v5il1 < (v1b.length : Int)) (if (!(eqVs (Reject.vals (nth v0a (Int.toNat (v5il1)))) (Reject.vals (nth v1b (Int.toNat (v5il1)))))) = true then some (.inr false) else ck ((-9223372036854775808 : Int) ≤ v5il1 + 1 ∧ v5il1 + 1 ≤ (9223372036854775807 : Int)) (some (.inl (v5il1 + 1)))))) else some (.inr true)
def f_billingref09_SameRejects (v0a : List Reject) (v1b : List Reject) : Option Bool :=
  if ((v0a.length : Int) != (v1b.length : Int)) = true then some false else loop (fun s => f_billingref09_SameRejects_l1 v0a v1b s) 0
def f_billinglaw10_TaggedAll (v0b : List UInt8) : Option Bool :=
  if (decide ((v0b.length : Int) > 3000)) = true then ((f_billinglaw10_awake).bind fun y1 => some y1) else (f_tagged_All v0b).bind fun y2 => (f_billingref10_All v0b).bind fun y3 => (f_billingref09_Same y2.1 y3.1).bind fun y4 => (gcall y4 (f_billingref09_SameRejects y2.2.1 y3.2.1)).bind fun y5 => (gcall ((y4 && y5) && (y2.2.2 == y3.2.2)) (f_billinglaw10_awake)).bind fun y6 => some (((y4 && y5) && (y2.2.2 == y3.2.2)) && y6)
end Go.Proofs.YtmdpmallgcekgaaDoor

/- Contracts of the library, as contracts on data. -/
set_option linter.unusedSimpArgs false
set_option linter.unusedVariables false
namespace Go.Abs
open Go.RowKit
theorem DArgs.one {lim : Nat → Nat} {w : World} {d : D} {vs : Array Value} (h : DArgs lim w [d] vs) : ∃ v, vs = #[v] ∧ DRep lim w d v := by
  obtain ⟨h1, h2⟩ := h
  match vs, h1 with
  | ⟨[v]⟩, _ => exact ⟨v, rfl, h2 0 d v rfl rfl⟩
theorem DArgs.two {lim : Nat → Nat} {w : World} {d e : D} {vs : Array Value} (h : DArgs lim w [d, e] vs) : ∃ v u, vs = #[v, u] ∧ DRep lim w d v ∧ DRep lim w e u := by
  obtain ⟨h1, h2⟩ := h
  match vs, h1 with
  | ⟨[v, u]⟩, _ => exact ⟨v, u, rfl, h2 0 d v rfl rfl, h2 1 e u rfl rfl⟩
theorem below_grow (w : World) (k : Nat) (os : Array Obj) : Below w.heap.size w (Go.Sort.grow (w.drewN k) os) :=
  ⟨rfl, rfl, rfl, by simp [Go.Sort.grow], fun b hb => by
    show ((w.drewN k).heap ++ os)[b]? = _
    rw [Array.getElem?_append_left (show b < (w.drewN k).heap.size from hb)]
    rfl⟩
/-- A contract of a callee that makes memory and gives a value without references. -/
theorem ACall.lib {P : Program} {f : FuncId} {args : List D} {u : Value}
    (h : ∀ lim w vs, Globs w.heap.size w → DArgs lim w args vs → Calls P f vs w fun e w' => e = .returned u ∧ Below w.heap.size w w') : ACall P f args (· = .ex u) := by
  intro lim w vs hg ha
  refine (h lim w vs hg ha).mono ?_
  rintro e w' ⟨rfl, hb⟩
  exact ⟨u, .ex u, lim, rfl, rfl, .ex u, ⟨hb.size, fun _ _ => Nat.le_refl _, fun b off hb' _ => hb.cell (p := ⟨b, off, none⟩) hb'⟩, hb, fun _ _ => rfl⟩
theorem strs_cells {lim : Nat → Nat} {w : World} {xs : List (List UInt8)} {v : Value} (h : DRep lim w (.sl 1 (xs.map rS)) v) :
    (∃ A c, v = .slice A 0 c ∧ xs = []) ∨ ∃ b off c, v = .slice (some ⟨b, off, none⟩) xs.length c ∧ xs.length ≤ c ∧ b < w.heap.size ∧ ∀ (j : Nat) x, xs[j]? = some x → w.cell? ⟨b, off + j, none⟩ = some (.string ⟨x.toArray⟩) := by
  generalize hr : xs.map rS = rows at h
  cases h with
  | nil _ A =>
    have : xs = [] := by simpa using hr
    exact .inl ⟨A, 0, rfl, this⟩
  | sl _ _ b off c hc hrow hx hcell =>
    subst hr
    rw [List.length_map] at *
    by_cases h0 : xs = []
    · subst h0; exact .inl ⟨_, c, rfl, rfl⟩
    · refine .inr ⟨b, off, c, rfl, hc, ?_, fun j x hj => ?_⟩
      · have hl : 0 < xs.length := List.length_pos_iff.2 h0
        obtain ⟨_, u, hu, _⟩ := hx 0 (by omega)
        exact World.block_lt_of_cell? w _ hu
      · have hjl := (List.getElem?_eq_some_iff.1 hj).1
        obtain ⟨_, u, hu, _⟩ := hx j (by omega)
        have := hcell j 0 (rS x) (.ex (.string ⟨x.toArray⟩)) u (by rw [List.getElem?_map, hj]; rfl) rfl (by rw [Nat.mul_one, Nat.add_zero]; exact hu)
        rw [hu, drep_ex this]
end Go.Abs

/- Contracts of the library at this program (laid by the shelf's program, in plain words). -/
set_option linter.unusedVariables false
namespace Go.Proofs.YtmdpmallgcekgaaDoor
open Go.Shelf
def Tryd.lays156_ren : Go.Shelf.Ren := ⟨fun | 156 => 40 | 165 => 50 | 166 => 51 | 169 => 52 | 240 => 55 | 241 => 56 | 276 => 61 | 277 => 62 | n => n, fun | 31 => 68 | 9 => 9 | 3 => 3 | 4 => 4 | 0 => 0 | 20 => 20 | 72 => 81 | 76 => 85 | 70 => 79 | 37 => 25 | 75 => 84 | 127 => 90 | 164 => 97 | 5 => 5 | 80 => 87 | n => n, fun | n => n⟩
theorem Tryd.lays156 : Go.Proofs.Lays.n156 Tryd.prog Tryd.lays156_ren := {
  mixed := by kernel_rfl
  f156 := Tryd.func40.trans (congrArg some (by kernel_rfl))
  f165 := Tryd.func50.trans (congrArg some (by kernel_rfl))
  f166 := Tryd.func51.trans (congrArg some (by kernel_rfl))
  f169 := Tryd.func52.trans (congrArg some (by kernel_rfl))
  f240 := Tryd.func55.trans (congrArg some (by kernel_rfl))
  f241 := Tryd.func56.trans (congrArg some (by kernel_rfl))
  f276 := Tryd.func61.trans (congrArg some (by kernel_rfl))
  f277 := Tryd.func62.trans (congrArg some (by kernel_rfl))
  t0 := Tryd.underlying0
  a0 := Tryd.isAgg0
  z0 := Tryd.sizeOf0
  v0 := Tryd.zeroValue0
  t3 := Tryd.underlying3
  a3 := Tryd.isAgg3
  z3 := Tryd.sizeOf3
  v3 := Tryd.zeroValue3
  t4 := Tryd.underlying4
  a4 := Tryd.isAgg4
  z4 := Tryd.sizeOf4
  v4 := Tryd.zeroValue4
  t9 := Tryd.underlying9
  a9 := Tryd.isAgg9
  z9 := Tryd.sizeOf9
  v9 := Tryd.zeroValue9
  t20 := Tryd.underlying20
  a20 := Tryd.isAgg20
  z20 := Tryd.sizeOf20
  v20 := Tryd.zeroValue20
  t31 := Tryd.underlying68
  a31 := Tryd.isAgg68
  z31 := Tryd.sizeOf68
  v31 := Tryd.zeroValue68
  t37 := Tryd.underlying25
  a37 := Tryd.isAgg25
  z37 := Tryd.sizeOf25
  v37 := Tryd.zeroValue25
  t70 := Tryd.underlying79
  a70 := Tryd.isAgg79
  z70 := Tryd.sizeOf79
  v70 := Tryd.zeroValue79
  t72 := Tryd.underlying81
  a72 := Tryd.isAgg81
  z72 := Tryd.sizeOf81
  v72 := Tryd.zeroValue81
  t75 := Tryd.underlying84
  a75 := Tryd.isAgg84
  z75 := Tryd.sizeOf84
  v75 := Tryd.zeroValue84
  t76 := Tryd.underlying85
  a76 := Tryd.isAgg85
  z76 := Tryd.sizeOf85
  v76 := Tryd.zeroValue85
  t127 := Tryd.underlying90
  a127 := Tryd.isAgg90
  z127 := Tryd.sizeOf90
  v127 := Tryd.zeroValue90
  t164 := Tryd.underlying97
  a164 := Tryd.isAgg97
  z164 := Tryd.sizeOf97
  v164 := Tryd.zeroValue97 }
theorem Tryd.Builder_Extra_156 : Builder.Extra Tryd.prog Tryd.lays156_ren := {
  sizeBuilder := by kernel_rfl
  liesBuilder := by kernel_rfl
  t5 := Tryd.underlying5
  a5 := Tryd.isAgg5
  z5 := Tryd.sizeOf5
  v5 := Tryd.zeroValue5
  infoByte := by kernel_rfl
  cellsByte := by kernel_rfl
  sizeByte := by kernel_rfl
  neB5 := by decide }
open Go.RowKit in
/-- No element: the empty string; the world is as it was. (Whatever the slice's address and capacity: a nil slice too.) (LAID: no walk: one application.) -/
theorem Tryd.strings_Join_none (a : Option Addr) (c : Nat) (sep : ByteArray) (w : World) :
    Calls Tryd.prog 40 #[.slice a 0 c, .string sep] w fun e w' => e = .returned (.string ⟨#[]⟩) ∧ w' = w := Any.strings_Join_none Tryd.lays156 Tryd.Builder_Extra_156 a c sep w
open Go.RowKit in
/-- strings.Join: "Join concatenates the elements of its first argument to create a single string. The separator string sep is placed between elements in the resulting string.": HOWEVER MANY ELEMENTS. Below the heap's end the world is as it was. (LAID: no walk: one application.) -/
theorem Tryd.strings_Join (bk o c : Nat) (xs : List ByteArray) (sep : ByteArray) (w : World) (hcells : ∀ (j : Nat) x, xs[j]? = some x → w.cell? ⟨bk, o + j, none⟩ = some (.string x)) (hbk : bk < w.heap.size) (hN : xs.length ≤ 140737488355328) (hcap : xs.length ≤ c) (hlen : (Lib.join (xs.map (·.data.toList)) sep.data.toList).length ≤ 140737488355328) :
    Calls Tryd.prog 40 #[.slice (some ⟨bk, o, none⟩) xs.length c, .string sep] w fun e w' => e = .returned (.string ⟨(Lib.join (xs.map (·.data.toList)) sep.data.toList).toArray⟩) ∧ Below w.heap.size w w' := Any.strings_Join Tryd.lays156 Tryd.Builder_Extra_156 bk o c xs sep w hcells hbk hN hcap hlen
def Tryd.laysM171_ren : Go.Shelf.Ren := ⟨fun | 171 => 39 | 243 => 49 | 246 => 54 | 283 => 57 | 284 => 58 | 285 => 59 | 286 => 60 | 129 => 64 | 317 => 63 | 318 => 65 | 319 => 66 | 320 => 67 | 337 => 68 | 338 => 69 | n => n, fun | 3 => 3 | 9 => 9 | 2 => 2 | 4 => 4 | 171 => 91 | 0 => 0 | 53 => 92 | 37 => 25 | 5 => 5 | 173 => 95 | 212 => 101 | 51 => 102 | 20 => 20 | 213 => 103 | 46 => 55 | 232 => 107 | 233 => 108 | n => n, fun | 17 => 0 | 18 => 2 | 19 => 3 | n => n⟩
theorem Tryd.laysM171 : Go.Proofs.LaysM.n171 Tryd.prog Tryd.laysM171_ren := {
  mixed := by kernel_rfl
  f129 := Tryd.func64.trans (congrArg some (by kernel_rfl))
  f171 := Tryd.func39.trans (congrArg some (by kernel_rfl))
  f243 := Tryd.func49.trans (congrArg some (by kernel_rfl))
  f246 := Tryd.func54.trans (congrArg some (by kernel_rfl))
  f283 := Tryd.func57.trans (congrArg some (by kernel_rfl))
  f284 := Tryd.func58.trans (congrArg some (by kernel_rfl))
  f285 := Tryd.func59.trans (congrArg some (by kernel_rfl))
  f286 := Tryd.func60.trans (congrArg some (by kernel_rfl))
  f317 := Tryd.func63.trans (congrArg some (by kernel_rfl))
  f318 := Tryd.func65.trans (congrArg some (by kernel_rfl))
  f319 := Tryd.func66.trans (congrArg some (by kernel_rfl))
  f320 := Tryd.func67.trans (congrArg some (by kernel_rfl))
  f337 := Tryd.func68.trans (congrArg some (by kernel_rfl))
  f338 := Tryd.func69.trans (congrArg some (by kernel_rfl))
  t0 := Tryd.underlying0
  a0 := Tryd.isAgg0
  z0 := Tryd.sizeOf0
  v0 := Tryd.zeroValue0
  t2 := Tryd.underlying2
  a2 := Tryd.isAgg2
  z2 := Tryd.sizeOf2
  v2 := Tryd.zeroValue2
  t3 := Tryd.underlying3
  a3 := Tryd.isAgg3
  z3 := Tryd.sizeOf3
  v3 := Tryd.zeroValue3
  t4 := Tryd.underlying4
  a4 := Tryd.isAgg4
  z4 := Tryd.sizeOf4
  v4 := Tryd.zeroValue4
  t5 := Tryd.underlying5
  a5 := Tryd.isAgg5
  z5 := Tryd.sizeOf5
  v5 := Tryd.zeroValue5
  t9 := Tryd.underlying9
  a9 := Tryd.isAgg9
  z9 := Tryd.sizeOf9
  v9 := Tryd.zeroValue9
  t20 := Tryd.underlying20
  a20 := Tryd.isAgg20
  z20 := Tryd.sizeOf20
  v20 := Tryd.zeroValue20
  t37 := Tryd.underlying25
  a37 := Tryd.isAgg25
  z37 := Tryd.sizeOf25
  v37 := Tryd.zeroValue25
  t46 := Tryd.underlying55
  a46 := Tryd.isAgg55
  z46 := Tryd.sizeOf55
  v46 := Tryd.zeroValue55
  t51 := Tryd.underlying102
  a51 := Tryd.isAgg102
  z51 := Tryd.sizeOf102
  v51 := Tryd.zeroValue102
  t53 := Tryd.underlying92
  a53 := Tryd.isAgg92
  z53 := Tryd.sizeOf92
  v53 := Tryd.zeroValue92
  t171 := Tryd.underlying91
  a171 := Tryd.isAgg91
  z171 := Tryd.sizeOf91
  v171 := Tryd.zeroValue91
  t173 := Tryd.underlying95
  a173 := Tryd.isAgg95
  z173 := Tryd.sizeOf95
  v173 := Tryd.zeroValue95
  t212 := Tryd.underlying101
  a212 := Tryd.isAgg101
  z212 := Tryd.sizeOf101
  v212 := Tryd.zeroValue101
  t213 := Tryd.underlying103
  a213 := Tryd.isAgg103
  z213 := Tryd.sizeOf103
  t232 := Tryd.underlying107
  a232 := Tryd.isAgg107
  z232 := Tryd.sizeOf107
  v232 := Tryd.zeroValue107
  t233 := Tryd.underlying108
  a233 := Tryd.isAgg108
  z233 := Tryd.sizeOf108
  v233 := Tryd.zeroValue108
  g17 := by kernel_rfl
  g18 := by kernel_rfl
  g19 := by kernel_rfl
  i0 := by kernel_rfl
  i2 := by kernel_rfl
  i3 := by kernel_rfl
  i4 := by kernel_rfl
  i5 := by kernel_rfl
  i9 := by kernel_rfl
  i20 := by kernel_rfl
  i37 := by kernel_rfl
  i46 := by kernel_rfl
  i51 := by kernel_rfl
  i53 := by kernel_rfl
  i171 := by kernel_rfl
  i173 := by kernel_rfl
  i212 := by kernel_rfl
  i232 := by kernel_rfl
  i233 := by kernel_rfl
  m17 := by kernel_rfl
  m18 := by kernel_rfl
  m19 := by kernel_rfl }
open Go.RowKit Go.Sort Go.Lib in
/-- strconv.Itoa: "Itoa is equivalent to FormatInt(int64(i), 10).": i's DECIMAL NUMERAL ('Lib.itoa': a '-' where i is negative, then the digits), FOR EVERY int. The world behind the call: the world before it, new blocks behind the heap (the library's 'var a [24]byte'), draws. (LAID: no walk: one application.) -/
theorem Tryd.strconv_Itoa (n : Int) (h0 : -9223372036854775808 ≤ n) (h1 : n ≤ 9223372036854775807) (w : World) (htab : Lib.TabIs Tryd.prog w "internal/strconv.uint64pow10" .u64 Lib.pow10Tab) :
    Calls Tryd.prog 39 #[.int .i64 n] w fun e w' => e = .returned (.string ⟨(Lib.itoa n).toArray⟩) ∧ ∃ k os, w' = grow (w.drewN k) os := Any.strconv_Itoa Tryd.laysM171 n h0 h1 w htab
end Go.Proofs.YtmdpmallgcekgaaDoor

set_option linter.unusedVariables false
namespace Go.Proofs.YtmdpmallgcekgaaDoor
open Go.RowKit Go.Abs
theorem tab_is {w : World} (h : Globs w.heap.size w) : Go.Lib.TabIs Tryd.prog w "internal/strconv.uint64pow10" .u64 Go.Lib.pow10Tab := by
  obtain ⟨_, ty, fr, h2⟩ := h.1 (0, (Go.Lib.pow10Tab.map fun z => Value.int .u64 z).toArray) (by simp [GL])
  have hn : Tryd.prog.globalNamed "internal/strconv.uint64pow10" = some 0 := by kernel_rfl
  unfold Go.Lib.TabIs World.var?
  rw [hn]
  simp only [Option.bind_some]
  simp only at h2
  rw [h2]
theorem c_x_Itoa {n : Int} {r : List UInt8} (H : x_Itoa n = some r) : ACall Tryd.prog 39 [cI n] (· = cS r) := by
  obtain ⟨h, H⟩ := ck_some H; cases H
  refine ACall.lib fun lim w vs hg ha => ?_
  obtain ⟨v, rfl, hv⟩ := ha.one
  rw [drep_ex hv]
  refine (Tryd.strconv_Itoa n h.1 h.2 w (tab_is hg)).mono ?_
  rintro e w' ⟨rfl, k, os, rfl⟩
  exact ⟨rfl, below_grow w k os⟩
theorem c_x_Join {xs : List (List UInt8)} {sep r : List UInt8} (H : x_Join xs sep = some r) : ACall Tryd.prog 40 [slOf 1 rS xs, cS sep] (· = cS r) := by
  obtain ⟨h, H⟩ := ck_some H; cases H
  refine ACall.lib fun lim w vs hg ha => ?_
  obtain ⟨v, u, rfl, hv, hu⟩ := ha.two
  rw [drep_ex hu]
  rcases strs_cells hv with ⟨A, c, rfl, rfl⟩ | ⟨b, off, c, rfl, hc, hb, hcell⟩
  · exact (Tryd.strings_Join_none A c ⟨sep.toArray⟩ w).mono fun e w' ⟨he, hw⟩ => ⟨he, hw ▸ Below.refl _ _⟩
  · have hm : (xs.map fun x => (⟨x.toArray⟩ : ByteArray)).map (·.data.toList) = xs := by simp [Function.comp_def]
    have := Tryd.strings_Join b off c (xs.map fun x => (⟨x.toArray⟩ : ByteArray)) ⟨sep.toArray⟩ w (fun j x hj => by
      rw [List.getElem?_map] at hj
      obtain ⟨y, hy, rfl⟩ := Option.map_eq_some_iff.1 hj
      exact hcell j y hy) hb (by simp; omega) (by simpa using hc) (by rw [hm]; simp; omega)
    rw [hm, List.length_map] at this
    exact this
end Go.Proofs.YtmdpmallgcekgaaDoor

set_option linter.unusedSimpArgs false
set_option linter.unusedVariables false
namespace Go.Proofs.YtmdpmallgcekgaaDoor
open Go.RowKit Go.Abs
set_option maxRecDepth 100000 in
set_option maxHeartbeats 1000000 in
theorem c_f_billinglaw10_light {v0list : List Element} {r : Bool} (H : f_billinglaw10_light v0list = some r) : ACall Tryd.prog 9 [slOf 2 Element.row v0list] (· = cB r) := by
  obtain ⟨i47, hi47, hz47, hs47, hb47⟩ := in_47
  refine ACall.enter' Tryd.func9 rfl Tryd.ntmps9 rfl fun S hS => ?_
  unfold f_billinglaw10_light at H
  change ARun _ _ _ _ _ _ [(0, .d (slOf 2 Element.row v0list))] _
  refine .seq ?_
  refine .region ?_
  refine .q (q_assign rfl) rfl ?_
  refine .nil ?_
  refine .seq ?_
  refine .region ?_
  refine .q (q_assign rfl) rfl ?_
  refine .nil ?_
  refine .seq ?_
  refine .seq ?_
  refine .region ?_
  refine .q (q_assign rfl) rfl ?_
  refine .nil ?_
  refine .blockJoin2 (ι := Int) (fun s => [(0, .d (slOf 2 Element.row v0list)), (3, .d (cI s))]) (fun s => ⟨[], []⟩) (fun s => f_billinglaw10_light_j1 v0list s = some r) ?_ ?_
  · rintro v3nj1 H
    replace H : f_billinglaw10_light_j1 v0list v3nj1 = some r := H
    unfold f_billinglaw10_light_j1 at H
    change ARun _ _ _ _ _ _ [(0, .d (slOf 2 Element.row v0list)), (3, .d (cI v3nj1))] ⟨[], []⟩
    refine .seq ?_
    refine .region ?_
    refine .q (q_move rfl) rfl ?_
    refine .q (q_lenL (l := v0list) (row := Element.row) Tryd.underlying22 rfl rfl) rfl ?_
    refine .q (q_leq rfl rfl) rfl ?_
    refine .q (q_move rfl) rfl ?_
    refine .guardG (env' := [(3, _)]) rfl rfl rfl ⟨.inl rfl, trivial⟩ rfl (fun hg => OpQ.g (q_move rfl)) ?_
    refine .guardG (env' := [(31, _)]) rfl rfl rfl ⟨.inr (.inl rfl), trivial⟩ rfl (fun hg => OpQ.g (q_leq rfl rfl)) ?_
    refine .q (q_pickAndB rfl rfl rfl) rfl ?_
    refine .q (q_assign rfl) rfl ?_
    refine .nil ?_
    refine .retN [.tmp 2] [.d (cB ((decide ((v0list.length : Int) ≤ 300)) && (decide (v3nj1 ≤ 3000))))] Tryd.func9 Tryd.results9 ⟨rfl, trivial⟩ ?_
    cases H
    exact ⟨_, .rfl' _, rfl⟩
  · intro hj1 hj1x
    obtain ⟨n1, H⟩ := loop_some H
    refine .loop (ι := Nat × (Int × Int)) (fun p => [(0, .d (slOf 2 Element.row v0list)), (3, .d (cI p.2.1)), (4, .d (cI p.2.2))]) (fun p => ⟨[], []⟩) (fun p => iter (fun s => f_billinglaw10_light_l1 v0list s.1 s.2) p.1 p.2 = some r) (·.1) (n1, (0, 0)) H (.cons rfl (.rfl' _) (.cons rfl (.rfl' _) (.cons rfl (.rfl' _) (.nil)))) rfl ?_
    rintro ⟨m1, v3nl1, v4il1⟩ HI ih1
    obtain ⟨n1, q1, hm1, H, HK1⟩ := iter_succ HI
    clear HI
    replace H : f_billinglaw10_light_l1 v0list v3nl1 v4il1 = some q1 := H
    unfold f_billinglaw10_light_l1 at H
    change ARun _ _ _ _ _ _ [(0, .d (slOf 2 Element.row v0list)), (3, .d (cI v3nl1)), (4, .d (cI v4il1))] ⟨[], []⟩
    refine .seq ?_
    refine .seq ?_
    refine .region ?_
    refine .q (q_move rfl) rfl ?_
    refine .q (q_move rfl) rfl ?_
    refine .q (q_lenL (l := v0list) (row := Element.row) Tryd.underlying22 rfl rfl) rfl ?_
    refine .q (q_lss rfl rfl) rfl ?_
    refine .q (q_move rfl) rfl ?_
    refine .guardG (env' := [(4, _)]) rfl rfl rfl ⟨.inl rfl, trivial⟩ rfl (fun hg => OpQ.g (q_move rfl)) ?_
    refine .guardG (env' := [(10, _)]) rfl rfl rfl ⟨.inr (.inl rfl), trivial⟩ rfl (fun hg => OpQ.g (q_leq rfl rfl)) ?_
    refine .q (q_pickAndB rfl rfl rfl) rfl ?_
    refine .q (q_move rfl) rfl ?_
    refine .guardG (env' := [(3, _)]) rfl rfl rfl ⟨.inl rfl, trivial⟩ rfl (fun hg => OpQ.g (q_move rfl)) ?_
    refine .guardG (env' := [(14, _)]) rfl rfl rfl ⟨.inr (.inl rfl), trivial⟩ rfl (fun hg => OpQ.g (q_leq rfl rfl)) ?_
    refine .q (q_pickAndB rfl rfl rfl) rfl ?_
    refine .nil ?_
    refine .cond rfl (fun hc => ?_) (fun hc => ?_)
    · replace H := ifT hc H; clear hc
      refine .skip ?_
      refine .seq ?_
      refine .block ?_
      refine .region ?_
      refine .q (q_move rfl) rfl ?_
      refine .q (q_move rfl) rfl ?_
      refine .q (q_move rfl) rfl ?_
      obtain ⟨hk1, H⟩ := ck_some H
      refine .q (x := .d (.ro (Element.row (nth v0list (Int.toNat (v4il1)))))) (q_idxL (row := Element.row) (l := v0list) (i := v4il1) Tryd.underlying22 hi47 hs47 rfl rfl rfl hk1) rfl ?_
      refine .q (q_fieldRo fo_47_1 rfl) rfl ?_
      refine .q (x := .d (slOf 1 rB8 ((nth v0list (Int.toNat (v4il1))).value))) (q_load one_25 rfl) rfl ?_
      refine .q (q_lenL (l := (nth v0list (Int.toNat (v4il1))).value) (row := rB8) Tryd.underlying25 rfl rfl) rfl ?_
      refine .q (x := .d (cI (IntKind.wrap .i64 (v3nl1 + (((nth v0list (Int.toNat (v4il1))).value).length : Int))))) (q_add rfl rfl rfl) rfl ?_
      refine .q (q_assign rfl) rfl ?_
      refine .nil ?_
      refine .inBlock ?_
      refine .region ?_
      refine .q (q_move rfl) rfl ?_
      refine .q (x := .d (cI (IntKind.wrap .i64 (v4il1 + 1)))) (q_add rfl rfl rfl) rfl ?_
      refine .q (q_assign rfl) rfl ?_
      refine .nil ?_
      cases H
      exact .sub (.cons rfl (.rfl' _) (.cons rfl (.rfl' _) (.cons rfl (.rfl' _) (.nil)))) (ih1 (n1, (IntKind.wrap .i64 (v3nl1 + (((nth v0list (Int.toNat (v4il1))).value).length : Int)), IntKind.wrap .i64 (v4il1 + 1))) HK1 hm1)
    · replace H := ifF hc H; clear hc
      refine .exit rfl ?_
      obtain ⟨q0, H9, hq0⟩ := map_some' H; clear H; cases hq0
      cases HK1
      have H := H9
      exact .sub (.cons rfl (.rfl' _) (.cons rfl (.rfl' _) (.nil))) (hj1x v3nl1 H)

set_option maxRecDepth 100000 in
set_option maxHeartbeats 1000000 in
theorem c_g_tagged_put {v1tag : Int} {v2value : List UInt8} {r : (List UInt8)} (H : g_tagged_put v1tag v2value = some r) : ACallS Tryd.prog 25 [.d (nilD), .d (cI v1tag), .d (slOf 1 rB8 v2value)] ⟨[], []⟩ (QE (.tsl 1 (r.map rB8) 0) ⟨[], [⟨5, 1, r.length, none⟩]⟩) := by
  obtain ⟨i5, hi5, hz5, hs5, hb5⟩ := in_5
  refine ACallS.keep ?_
  refine ACallS.enter Tryd.func25 rfl Tryd.ntmps25 rfl fun S hS => ?_
  unfold g_tagged_put at H
  change ARun _ _ _ _ _ _ [(0, .d (nilD)), (1, .d (cI v1tag)), (2, .d (slOf 1 rB8 v2value))] _
  refine .seq ?_
  refine .region ?_
  refine .q (q_assign rfl) rfl ?_
  refine .nil ?_
  refine .seq ?_
  refine .region ?_
  refine .q (q_move rfl) rfl ?_
  refine .q (q_move rfl) rfl ?_
  refine .q (x := .d (cU8 (UInt8.ofInt v1tag))) (q_conv8 Tryd.underlying3 Tryd.underlying5 rfl) rfl ?_
  refine .q (q_move rfl) rfl ?_
  refine .q (q_lenL (l := v2value) (row := rB8) Tryd.underlying25 rfl rfl) rfl ?_
  refine .q (x := .d (cU8 (UInt8.ofInt (v2value.length : Int)))) (q_conv8 Tryd.underlying3 Tryd.underlying5 rfl) rfl ?_
  refine .g (x := .d (slOf 1 rB8 ([UInt8.ofInt v1tag, UInt8.ofInt (v2value.length : Int)] : List UInt8))) (g_buildSliceN (n := 2) (rows := ([UInt8.ofInt v1tag, UInt8.ofInt (v2value.length : Int)] : List UInt8).map rB8) Tryd.underlying25 hi5 hs5 hz5 rfl rfl rfl rfl rfl) rfl ?_
  obtain ⟨hk1, H⟩ := ck_some H
  refine .v (x := .tsl 1 (([UInt8.ofInt v1tag, UInt8.ofInt (v2value.length : Int)] : List UInt8).map rB8) 0) (v_appendNilL (l' := ([UInt8.ofInt v1tag, UInt8.ofInt (v2value.length : Int)] : List UInt8)) (row := rB8) Tryd.underlying25 hi5 hz5 hs5 rfl (by rw [hb5]; decide) rfl rfl rfl hk1) rfl ?_
  refine .withSt (st' := ⟨[], [⟨5, 1, ([UInt8.ofInt v1tag, UInt8.ofInt (v2value.length : Int)] : List UInt8).length, none⟩]⟩) rfl ?_
  refine .q (q_assign rfl) rfl ?_
  refine .nil ?_
  refine .seq ?_
  refine .region ?_
  refine .q (q_move rfl) rfl ?_
  refine .q (q_move rfl) rfl ?_
  obtain ⟨hk2, H⟩ := ck_some H
  refine .v (x := .tsl 1 ((([UInt8.ofInt v1tag, UInt8.ofInt (v2value.length : Int)] : List UInt8) ++ v2value).map rB8) 0) (v_appendL (l := ([UInt8.ofInt v1tag, UInt8.ofInt (v2value.length : Int)] : List UInt8)) (l' := v2value) (row := rB8) Tryd.underlying25 hi5 hz5 hs5 rfl (by rw [hb5]; decide) rfl rfl rfl rfl hk2) rfl ?_
  refine .withSt (st' := ⟨[], [⟨5, 1, (([UInt8.ofInt v1tag, UInt8.ofInt (v2value.length : Int)] : List UInt8) ++ v2value).length, none⟩]⟩) rfl ?_
  refine .q (q_assign rfl) rfl ?_
  refine .nil ?_
  refine .retN [.tmp 6] [.tsl 1 ((([UInt8.ofInt v1tag, UInt8.ofInt (v2value.length : Int)] : List UInt8) ++ v2value).map rB8) 0] Tryd.func25 Tryd.results25 ⟨rfl, trivial⟩ ?_
  cases H
  exact ⟨[], [0], rfl, rfl, rfl, rfl, rfl, rfl, rfl, rfl, .rfl' _⟩

set_option maxRecDepth 100000 in
set_option maxHeartbeats 1000000 in
theorem c_g_tagged_put_v1 {v1tag : Int} {v2value : List UInt8} {y0t0p : List UInt8} {r : (List UInt8)} (H : g_tagged_put_v1 v1tag v2value y0t0p = some r) : ACallS Tryd.prog 25 [.tsl 1 (y0t0p.map rB8) 0, .d (cI v1tag), .d (slOf 1 rB8 v2value)] ⟨[], [⟨5, 1, y0t0p.length, none⟩]⟩ (QE (.tsl 1 (r.map rB8) 0) ⟨[], [⟨5, 1, r.length, none⟩]⟩) := by
  obtain ⟨i5, hi5, hz5, hs5, hb5⟩ := in_5
  refine ACallS.keep ?_
  refine ACallS.enter Tryd.func25 rfl Tryd.ntmps25 rfl fun S hS => ?_
  unfold g_tagged_put_v1 at H
  change ARun _ _ _ _ _ _ [(0, .tsl 1 (y0t0p.map rB8) 0), (1, .d (cI v1tag)), (2, .d (slOf 1 rB8 v2value))] _
  refine .seq ?_
  refine .region ?_
  refine .q (q_assign rfl) rfl ?_
  refine .nil ?_
  refine .seq ?_
  refine .region ?_
  refine .q (q_move rfl) rfl ?_
  refine .q (q_move rfl) rfl ?_
  refine .q (x := .d (cU8 (UInt8.ofInt v1tag))) (q_conv8 Tryd.underlying3 Tryd.underlying5 rfl) rfl ?_
  refine .q (q_move rfl) rfl ?_
  refine .q (q_lenL (l := v2value) (row := rB8) Tryd.underlying25 rfl rfl) rfl ?_
  refine .q (x := .d (cU8 (UInt8.ofInt (v2value.length : Int)))) (q_conv8 Tryd.underlying3 Tryd.underlying5 rfl) rfl ?_
  refine .g (x := .d (slOf 1 rB8 ([UInt8.ofInt v1tag, UInt8.ofInt (v2value.length : Int)] : List UInt8))) (g_buildSliceN (n := 2) (rows := ([UInt8.ofInt v1tag, UInt8.ofInt (v2value.length : Int)] : List UInt8).map rB8) Tryd.underlying25 hi5 hs5 hz5 rfl rfl rfl rfl rfl) rfl ?_
  obtain ⟨hk1, H⟩ := ck_some H
  refine .v (x := .tsl 1 ((y0t0p ++ ([UInt8.ofInt v1tag, UInt8.ofInt (v2value.length : Int)] : List UInt8)).map rB8) 0) (v_appendL (l := y0t0p) (l' := ([UInt8.ofInt v1tag, UInt8.ofInt (v2value.length : Int)] : List UInt8)) (row := rB8) Tryd.underlying25 hi5 hz5 hs5 rfl (by rw [hb5]; decide) rfl rfl rfl rfl hk1) rfl ?_
  refine .withSt (st' := ⟨[], [⟨5, 1, (y0t0p ++ ([UInt8.ofInt v1tag, UInt8.ofInt (v2value.length : Int)] : List UInt8)).length, none⟩]⟩) rfl ?_
  refine .q (q_assign rfl) rfl ?_
  refine .nil ?_
  refine .seq ?_
  refine .region ?_
  refine .q (q_move rfl) rfl ?_
  refine .q (q_move rfl) rfl ?_
  obtain ⟨hk2, H⟩ := ck_some H
  refine .v (x := .tsl 1 (((y0t0p ++ ([UInt8.ofInt v1tag, UInt8.ofInt (v2value.length : Int)] : List UInt8)) ++ v2value).map rB8) 0) (v_appendL (l := y0t0p ++ ([UInt8.ofInt v1tag, UInt8.ofInt (v2value.length : Int)] : List UInt8)) (l' := v2value) (row := rB8) Tryd.underlying25 hi5 hz5 hs5 rfl (by rw [hb5]; decide) rfl rfl rfl rfl hk2) rfl ?_
  refine .withSt (st' := ⟨[], [⟨5, 1, ((y0t0p ++ ([UInt8.ofInt v1tag, UInt8.ofInt (v2value.length : Int)] : List UInt8)) ++ v2value).length, none⟩]⟩) rfl ?_
  refine .q (q_assign rfl) rfl ?_
  refine .nil ?_
  refine .retN [.tmp 6] [.tsl 1 (((y0t0p ++ ([UInt8.ofInt v1tag, UInt8.ofInt (v2value.length : Int)] : List UInt8)) ++ v2value).map rB8) 0] Tryd.func25 Tryd.results25 ⟨rfl, trivial⟩ ?_
  cases H
  exact ⟨[], [0], rfl, rfl, rfl, rfl, rfl, rfl, rfl, rfl, .rfl' _⟩

set_option maxRecDepth 100000 in
set_option maxHeartbeats 1000000 in
theorem c_f_tagged_Build {v0list : List Element} {r : (List UInt8) × Int} (H : f_tagged_Build v0list = some r) : ACall Tryd.prog 11 [slOf 2 Element.row v0list] (· = .tup [slOf 1 rB8 r.1, cI r.2]) := by
  obtain ⟨i47, hi47, hz47, hs47, hb47⟩ := in_47
  refine ACall.enter' Tryd.func11 rfl Tryd.ntmps11 rfl fun S hS => ?_
  unfold f_tagged_Build at H
  change ARun _ _ _ _ _ _ [(0, .d (slOf 2 Element.row v0list))] _
  refine .seq ?_
  refine .region ?_
  refine .q (q_assign rfl) rfl ?_
  refine .q (q_assign rfl) rfl ?_
  refine .nil ?_
  refine .seq ?_
  refine .region ?_
  refine .q (q_assign rfl) rfl ?_
  refine .nil ?_
  refine .seq ?_
  refine .region ?_
  refine .q (q_assign rfl) rfl ?_
  refine .nil ?_
  refine .seq ?_
  refine .seq ?_
  refine .region ?_
  refine .q (q_move rfl) rfl ?_
  refine .q (q_lenL (l := v0list) (row := Element.row) Tryd.underlying22 rfl rfl) rfl ?_
  refine .q (q_move rfl) rfl ?_
  refine .nil ?_
  refine .block ?_
  refine .tok (i := 4) (e := 5) (sz := 1) rfl ?_
  refine .withSt (st' := ⟨[], [⟨5, 1, ([] : List UInt8).length, none⟩]⟩) rfl ?_
  obtain ⟨n1, H⟩ := loop_some H
  refine .withSt (st' := ⟨[], [⟨5, 1, ([] : List UInt8).length, none⟩]⟩) rfl <| .loop (ι := Nat × (List UInt8 × Int × Int)) (fun p => [(4, .tsl 1 (p.2.1.map rB8) 0), (5, .d (cI p.2.2.1)), (8, .d (slOf 2 Element.row v0list)), (9, .d (cI (v0list.length : Int))), (10, .d (cI p.2.2.2))]) (fun p => ⟨[], [⟨5, 1, p.2.1.length, none⟩]⟩) (fun p => iter (fun s => f_tagged_Build_l1 v0list s.1 s.2.1 s.2.2) p.1 p.2 = some r) (·.1) (n1, (([] : List UInt8), 0, 0)) H (.cons rfl (.rfl' _) (.cons rfl (.rfl' _) (.cons rfl (.rfl' _) (.cons rfl (.rfl' _) (.cons rfl (.rfl' _) (.nil)))))) rfl ?_
  rintro ⟨m1, v4outl1, v5lastl1, v10l1⟩ HI ih1
  obtain ⟨n1, q1, hm1, H, HK1⟩ := iter_succ HI
  clear HI
  replace H : f_tagged_Build_l1 v0list v4outl1 v5lastl1 v10l1 = some q1 := H
  unfold f_tagged_Build_l1 at H
  change ARun _ _ _ _ _ _ [(4, .tsl 1 (v4outl1.map rB8) 0), (5, .d (cI v5lastl1)), (8, .d (slOf 2 Element.row v0list)), (9, .d (cI (v0list.length : Int))), (10, .d (cI v10l1))] ⟨[], [⟨5, 1, v4outl1.length, none⟩]⟩
  refine .seq ?_
  refine .region ?_
  refine .q (q_lss rfl rfl) rfl ?_
  refine .nil ?_
  refine .seq ?_
  refine .cond rfl (fun hc => ?_) (fun hc => ?_)
  · replace H := ifT hc H; clear hc
    refine .skip ?_
    refine .seq ?_
    refine .block ?_
    refine .seq ?_
    refine .region ?_
    obtain ⟨hk1, H⟩ := ck_some H
    refine .q (x := .d (.ro (Element.row (nth v0list (Int.toNat (v10l1)))))) (q_idxL (row := Element.row) (l := v0list) (i := v10l1) Tryd.underlying22 hi47 hs47 rfl rfl rfl hk1) rfl ?_
    refine .q (x := .d (.agg (Element.row (nth v0list (Int.toNat (v10l1)))))) (q_loadAll one_47 sz_47 rfl rfl) rfl ?_
    refine .v (x := .ref 0 0) (v_alloc zr_47 rfl) rfl ?_
    refine .withSt (st' := ⟨[.row 47 [.d (cI 0), .d (nilD)]], [⟨5, 1, v4outl1.length, none⟩]⟩) rfl ?_
    refine .u (u_store rfl rfl rfl rfl (Nat.le_of_ble_eq_true rfl) sz_47) rfl ?_
    refine .withSt (st' := ⟨[.row 47 [.d (cI ((nth v0list (Int.toNat (v10l1))).tag)), .d (slOf 1 rB8 ((nth v0list (Int.toNat (v10l1))).value))]], [⟨5, 1, v4outl1.length, none⟩]⟩) rfl ?_
    refine .nil ?_
    refine .seq ?_
    refine .block ?_
    refine .seq ?_
    refine .region ?_
    refine .q (q_fieldRef fo_47_0 rfl) rfl ?_
    refine .q (x := .d (cI ((nth v0list (Int.toNat (v10l1))).tag))) (q_loadO one_3 rfl rfl rfl) rfl ?_
    refine .q (q_lss rfl rfl) rfl ?_
    refine .q (q_move rfl) rfl ?_
    refine .guardG (env' := [(7, _)]) rfl rfl rfl ⟨.inl rfl, trivial⟩ rfl (fun hg => OpQ.g (q_fieldRef fo_47_0 rfl)) ?_
    refine .guardG (b := (!(decide (((nth v0list (Int.toNat (v10l1))).tag) < 1)))) (x := .d (cI ((nth v0list (Int.toNat (v10l1))).tag))) (env' := [(19, _)]) rfl rfl rfl ⟨.inr (.inl rfl), trivial⟩ rfl (fun hg => OpQ.g (q_loadO one_3 rfl rfl rfl)) ?_
    refine .guardG (env' := [(20, _)]) rfl rfl rfl ⟨.inr (.inl rfl), trivial⟩ rfl (fun hg => OpQ.g (q_gtr rfl rfl)) ?_
    refine .q (q_pickOrB rfl rfl rfl) rfl ?_
    refine .q (q_assign rfl) rfl ?_
    refine .nil ?_
    refine .cond rfl (fun hc => ?_) (fun hc => ?_)
    · replace H := ifT hc H; clear hc
      refine .seq ?_
      refine .region ?_
      refine .q (q_assign rfl) rfl ?_
      refine .q (q_assign rfl) rfl ?_
      refine .nil ?_
      refine .retN [.tmp 2, .tmp 3] [.d (nilD), .d (cI 6)] Tryd.func11 Tryd.results11 ⟨rfl, rfl, trivial⟩ ?_
      cases H
      cases HK1
      exact ⟨_, EVle.tupL (ds := [slOf 1 rB8 ([] : List UInt8), cI 6]) ⟨.nil 1, .rfl' _, trivial⟩, rfl⟩
    · replace H := ifF hc H; clear hc
      refine .seq ?_
      refine .region ?_
      refine .q (q_fieldRef fo_47_0 rfl) rfl ?_
      refine .q (x := .d (cI ((nth v0list (Int.toNat (v10l1))).tag))) (q_loadO one_3 rfl rfl rfl) rfl ?_
      refine .q (q_move rfl) rfl ?_
      refine .q (q_leq rfl rfl) rfl ?_
      refine .q (q_assign rfl) rfl ?_
      refine .nil ?_
      refine .cond rfl (fun hc => ?_) (fun hc => ?_)
      · replace H := ifT hc H; clear hc
        refine .seq ?_
        refine .region ?_
        refine .q (q_assign rfl) rfl ?_
        refine .q (q_assign rfl) rfl ?_
        refine .nil ?_
        refine .retN [.tmp 2, .tmp 3] [.d (nilD), .d (cI 9)] Tryd.func11 Tryd.results11 ⟨rfl, rfl, trivial⟩ ?_
        cases H
        cases HK1
        exact ⟨_, EVle.tupL (ds := [slOf 1 rB8 ([] : List UInt8), cI 9]) ⟨.nil 1, .rfl' _, trivial⟩, rfl⟩
      · replace H := ifF hc H; clear hc
        refine .seq ?_
        refine .region ?_
        refine .q (q_fieldRef fo_47_1 rfl) rfl ?_
        refine .q (x := .d (slOf 1 rB8 ((nth v0list (Int.toNat (v10l1))).value))) (q_loadO one_25 rfl rfl rfl) rfl ?_
        refine .q (q_lenL (l := (nth v0list (Int.toNat (v10l1))).value) (row := rB8) Tryd.underlying25 rfl rfl) rfl ?_
        refine .q (q_gtr rfl rfl) rfl ?_
        refine .q (q_assign rfl) rfl ?_
        refine .nil ?_
        refine .cond rfl (fun hc => ?_) (fun hc => ?_)
        · replace H := ifT hc H; clear hc
          refine .seq ?_
          refine .region ?_
          refine .q (q_assign rfl) rfl ?_
          refine .q (q_assign rfl) rfl ?_
          refine .nil ?_
          refine .retN [.tmp 2, .tmp 3] [.d (nilD), .d (cI 5)] Tryd.func11 Tryd.results11 ⟨rfl, rfl, trivial⟩ ?_
          cases H
          cases HK1
          exact ⟨_, EVle.tupL (ds := [slOf 1 rB8 ([] : List UInt8), cI 5]) ⟨.nil 1, .rfl' _, trivial⟩, rfl⟩
        · replace H := ifF hc H; clear hc
          refine .skip ?_
          refine .inBlock ?_
          refine .seq ?_
          refine .region ?_
          refine .q (q_move rfl) rfl ?_
          refine .q (q_fieldRef fo_47_0 rfl) rfl ?_
          refine .q (x := .d (cI ((nth v0list (Int.toNat (v10l1))).tag))) (q_loadO one_3 rfl rfl rfl) rfl ?_
          refine .q (q_fieldRef fo_47_1 rfl) rfl ?_
          refine .q (x := .d (slOf 1 rB8 ((nth v0list (Int.toNat (v10l1))).value))) (q_loadO one_25 rfl rfl rfl) rfl ?_
          obtain ⟨y1, hy1, H⟩ := bind_some' H
          refine .callF en_25 rfl [] [0] (x := .tsl 1 (y1.map rB8) 0) (st' := ⟨[.row 47 [.d (cI ((nth v0list (Int.toNat (v10l1))).tag)), .d (slOf 1 rB8 ((nth v0list (Int.toNat (v10l1))).value))]], [⟨5, 1, y1.length, none⟩]⟩) rfl (c_g_tagged_put_v1 (hy1)) ⟨.rfl' _, .rfl' _, .rfl' _, trivial⟩ rfl rfl rfl rfl rfl rfl ?_
          refine .withSt (st' := ⟨[.row 47 [.d (cI ((nth v0list (Int.toNat (v10l1))).tag)), .d (slOf 1 rB8 ((nth v0list (Int.toNat (v10l1))).value))]], [⟨5, 1, y1.length, none⟩]⟩) rfl ?_
          refine .q (q_assign rfl) rfl ?_
          refine .nil ?_
          refine .region ?_
          refine .q (q_fieldRef fo_47_0 rfl) rfl ?_
          refine .q (x := .d (cI ((nth v0list (Int.toNat (v10l1))).tag))) (q_loadO one_3 rfl rfl rfl) rfl ?_
          refine .q (q_assign rfl) rfl ?_
          refine .nil ?_
          refine .inBlock ?_
          refine .region ?_
          obtain ⟨hk2, H⟩ := ck_some H
          refine .q (q_addI rfl rfl hk2.1 hk2.2) rfl ?_
          refine .q (q_move rfl) rfl ?_
          refine .nil ?_
          cases H
          exact .to 0 1 (env' := [(4, .tsl 1 (y1.map rB8) 0), (5, .d (cI ((nth v0list (Int.toNat (v10l1))).tag))), (8, .d (slOf 2 Element.row v0list)), (9, .d (cI (v0list.length : Int))), (10, .d (cI (v10l1 + 1)))]) (st' := ⟨[], [⟨5, 1, y1.length, none⟩]⟩) (.cons rfl (.rfl' _) (.cons rfl (.rfl' _) (.cons rfl (.rfl' _) (.cons rfl (.rfl' _) (.cons rfl (.rfl' _) (.nil)))))) rfl rfl rfl rfl rfl (by rw [hS]; exact Nat.le_of_ble_eq_true rfl) (by rw [hS]; exact Nat.le_of_ble_eq_true rfl) <| .sub (.cons rfl (.rfl' _) (.cons rfl (.rfl' _) (.cons rfl (.rfl' _) (.cons rfl (.rfl' _) (.cons rfl (.rfl' _) (.nil)))))) (ih1 (n1, (y1, (nth v0list (Int.toNat (v10l1))).tag, v10l1 + 1)) HK1 hm1)
  · replace H := ifF hc H; clear hc
    refine .exit rfl ?_
    refine .seq ?_
    refine .region ?_
    refine .q (q_move rfl) rfl ?_
    refine .q (q_assign rfl) rfl ?_
    refine .q (q_assign rfl) rfl ?_
    refine .nil ?_
    refine .retN [.tmp 2, .tmp 3] [.tsl 1 (v4outl1.map rB8) 0, .d (cI 0)] Tryd.func11 Tryd.results11 ⟨rfl, rfl, trivial⟩ ?_
    cases H
    cases HK1
    exact ⟨_, EVle.tupL (ds := [slOf 1 rB8 v4outl1, cI 0]) ⟨.tsl _ _ _, .rfl' _, trivial⟩, rfl⟩

set_option maxRecDepth 100000 in
set_option maxHeartbeats 1000000 in
theorem c_f_tagged_Elements {v0b : List UInt8} {r : (List Element) × Int} (H : f_tagged_Elements v0b = some r) : ACall Tryd.prog 13 [slOf 1 rB8 v0b] (· = .tup [slOf 2 Element.row r.1, cI r.2]) := by
  obtain ⟨i5, hi5, hz5, hs5, hb5⟩ := in_5
  obtain ⟨i47, hi47, hz47, hs47, hb47⟩ := in_47
  refine ACall.enter' Tryd.func13 rfl Tryd.ntmps13 rfl fun S hS => ?_
  unfold f_tagged_Elements at H
  change ARun _ _ _ _ _ _ [(0, .d (slOf 1 rB8 v0b))] _
  refine .seq ?_
  refine .region ?_
  refine .q (q_assign rfl) rfl ?_
  refine .q (q_assign rfl) rfl ?_
  refine .nil ?_
  refine .seq ?_
  refine .region ?_
  refine .q (q_assign rfl) rfl ?_
  refine .nil ?_
  refine .seq ?_
  refine .region ?_
  refine .q (q_assign rfl) rfl ?_
  refine .nil ?_
  refine .seq ?_
  refine .block ?_
  refine .tok (i := 4) (e := 47) (sz := 2) rfl ?_
  refine .withSt (st' := ⟨[], [⟨47, 2, ([] : List Element).length, none⟩]⟩) rfl ?_
  obtain ⟨n1, H⟩ := loop_some H
  refine .withSt (st' := ⟨[], [⟨47, 2, ([] : List Element).length, none⟩]⟩) rfl <| .loop (ι := Nat × (List UInt8 × List Element × Int)) (fun p => [(0, .d (slOf 1 rB8 p.2.1)), (4, .tsl 2 (p.2.2.1.map Element.row) 0), (5, .d (cI p.2.2.2))]) (fun p => ⟨[], [⟨47, 2, p.2.2.1.length, none⟩]⟩) (fun p => iter (fun s => f_tagged_Elements_l1 s.1 s.2.1 s.2.2) p.1 p.2 = some r) (·.1) (n1, (v0b, ([] : List Element), 0)) H (.cons rfl (.rfl' _) (.cons rfl (.rfl' _) (.cons rfl (.rfl' _) (.nil)))) rfl ?_
  rintro ⟨m1, v0bl1, v4outl1, v5lastl1⟩ HI ih1
  obtain ⟨n1, q1, hm1, H, HK1⟩ := iter_succ HI
  clear HI
  replace H : f_tagged_Elements_l1 v0bl1 v4outl1 v5lastl1 = some q1 := H
  unfold f_tagged_Elements_l1 at H
  change ARun _ _ _ _ _ _ [(0, .d (slOf 1 rB8 v0bl1)), (4, .tsl 2 (v4outl1.map Element.row) 0), (5, .d (cI v5lastl1))] ⟨[], [⟨47, 2, v4outl1.length, none⟩]⟩
  refine .seq ?_
  refine .seq ?_
  refine .region ?_
  refine .q (q_move rfl) rfl ?_
  refine .q (q_lenL (l := v0bl1) (row := rB8) Tryd.underlying25 rfl rfl) rfl ?_
  refine .q (q_gtr rfl rfl) rfl ?_
  refine .nil ?_
  refine .cond rfl (fun hc => ?_) (fun hc => ?_)
  · replace H := ifT hc H; clear hc
    refine .skip ?_
    refine .block ?_
    refine .seq ?_
    refine .region ?_
    refine .q (q_move rfl) rfl ?_
    obtain ⟨hk1, H⟩ := ck_some H
    refine .q (x := .d (.ro (rB8 (nth v0bl1 (Int.toNat (0)))))) (q_idxL (row := rB8) (l := v0bl1) (i := 0) Tryd.underlying25 hi5 hs5 rfl rfl rfl hk1) rfl ?_
    refine .q (x := .d (cU8 (nth v0bl1 (Int.toNat (0))))) (q_load one_5 rfl) rfl ?_
    refine .q (x := .d (cI ((nth v0bl1 (Int.toNat (0))).toNat : Int))) (q_conv8i (a := nth v0bl1 (Int.toNat (0))) Tryd.underlying5 Tryd.underlying3 rfl) rfl ?_
    refine .q (q_assign rfl) rfl ?_
    refine .nil ?_
    refine .seq ?_
    refine .block ?_
    refine .seq ?_
    refine .region ?_
    refine .q (q_move rfl) rfl ?_
    refine .q (q_eql rfl rfl) rfl ?_
    refine .q (q_assign rfl) rfl ?_
    refine .nil ?_
    refine .cond rfl (fun hc => ?_) (fun hc => ?_)
    · replace H := ifT hc H; clear hc
      refine .seq ?_
      refine .region ?_
      refine .q (q_assign rfl) rfl ?_
      refine .q (q_assign rfl) rfl ?_
      refine .nil ?_
      refine .retN [.tmp 2, .tmp 3] [.d (nilD), .d (cI 6)] Tryd.func13 Tryd.results13 ⟨rfl, rfl, trivial⟩ ?_
      cases H
      cases HK1
      exact ⟨_, EVle.tupL (ds := [slOf 2 Element.row ([] : List Element), cI 6]) ⟨.nil 2, .rfl' _, trivial⟩, rfl⟩
    · replace H := ifF hc H; clear hc
      refine .seq ?_
      refine .region ?_
      refine .q (q_move rfl) rfl ?_
      refine .q (q_move rfl) rfl ?_
      refine .q (q_leq rfl rfl) rfl ?_
      refine .q (q_assign rfl) rfl ?_
      refine .nil ?_
      refine .cond rfl (fun hc => ?_) (fun hc => ?_)
      · replace H := ifT hc H; clear hc
        refine .seq ?_
        refine .region ?_
        refine .q (q_assign rfl) rfl ?_
        refine .q (q_assign rfl) rfl ?_
        refine .nil ?_
        refine .retN [.tmp 2, .tmp 3] [.d (nilD), .d (cI 9)] Tryd.func13 Tryd.results13 ⟨rfl, rfl, trivial⟩ ?_
        cases H
        cases HK1
        exact ⟨_, EVle.tupL (ds := [slOf 2 Element.row ([] : List Element), cI 9]) ⟨.nil 2, .rfl' _, trivial⟩, rfl⟩
      · replace H := ifF hc H; clear hc
        refine .seq ?_
        refine .region ?_
        refine .q (q_move rfl) rfl ?_
        refine .q (q_lenL (l := v0bl1) (row := rB8) Tryd.underlying25 rfl rfl) rfl ?_
        refine .q (q_lss rfl rfl) rfl ?_
        refine .q (q_move rfl) rfl ?_
        refine .guardG (env' := [(0, _)]) rfl rfl rfl ⟨.inl rfl, trivial⟩ rfl (fun hg => OpQ.g (q_move rfl)) ?_
        refine .guardG (env' := [(27, _)]) rfl rfl rfl ⟨.inr (.inl rfl), trivial⟩ rfl (fun hg => OpQ.g (q_lenL (l := v0bl1) (row := rB8) Tryd.underlying25 rfl rfl)) ?_
        obtain ⟨hk2, H⟩ := ck_some H
        refine .guardG (env' := [(28, _)]) rfl rfl rfl ⟨.inr (.inl rfl), trivial⟩ rfl (fun hg => OpQ.g (q_subI rfl rfl (hk2 hg).1 (hk2 hg).2)) ?_
        refine .guardG (env' := [(0, _)]) rfl rfl rfl ⟨.inl rfl, trivial⟩ rfl (fun hg => OpQ.g (q_move rfl)) ?_
        obtain ⟨hk3, H⟩ := ck_some H
        refine .guardG (b := (!(decide ((v0bl1.length : Int) < 2)))) (x := .d (.ro (rB8 (nth v0bl1 (Int.toNat (1)))))) (env' := [(30, _)]) rfl rfl rfl ⟨.inr (.inl rfl), trivial⟩ rfl (fun hg => OpQ.g (q_idxL (row := rB8) (l := v0bl1) (i := 1) Tryd.underlying25 hi5 hs5 rfl rfl rfl (hk3 hg))) ?_
        refine .guardG (b := (!(decide ((v0bl1.length : Int) < 2)))) (x := .d (cU8 (nth v0bl1 (Int.toNat (1))))) (env' := [(31, _)]) rfl rfl rfl ⟨.inr (.inl rfl), trivial⟩ rfl (fun hg => OpQ.g (q_load one_5 rfl)) ?_
        refine .guardG (b := (!(decide ((v0bl1.length : Int) < 2)))) (x := .d (cI ((nth v0bl1 (Int.toNat (1))).toNat : Int))) (env' := [(32, _)]) rfl rfl rfl ⟨.inr (.inl rfl), trivial⟩ rfl (fun hg => OpQ.g (q_conv8i (a := nth v0bl1 (Int.toNat (1))) Tryd.underlying5 Tryd.underlying3 rfl)) ?_
        refine .guardG (env' := [(29, _), (33, _)]) rfl rfl rfl ⟨.inr (.inl rfl), ⟨.inr (.inl rfl), trivial⟩⟩ rfl (fun hg => OpQ.g (q_lss rfl rfl)) ?_
        refine .q (q_pickOrB rfl rfl rfl) rfl ?_
        refine .q (q_assign rfl) rfl ?_
        refine .nil ?_
        refine .cond rfl (fun hc => ?_) (fun hc => ?_)
        · replace H := ifT hc H; clear hc
          refine .seq ?_
          refine .region ?_
          refine .q (q_assign rfl) rfl ?_
          refine .q (q_assign rfl) rfl ?_
          refine .nil ?_
          refine .retN [.tmp 2, .tmp 3] [.d (nilD), .d (cI 2)] Tryd.func13 Tryd.results13 ⟨rfl, rfl, trivial⟩ ?_
          cases H
          cases HK1
          exact ⟨_, EVle.tupL (ds := [slOf 2 Element.row ([] : List Element), cI 2]) ⟨.nil 2, .rfl' _, trivial⟩, rfl⟩
        · replace H := ifF hc H; clear hc
          refine .skip ?_
          refine .inBlock ?_
          refine .seq ?_
          refine .region ?_
          refine .q (q_move rfl) rfl ?_
          obtain ⟨hk4, H⟩ := ck_some H
          refine .q (x := .d (.ro (rB8 (nth v0bl1 (Int.toNat (1)))))) (q_idxL (row := rB8) (l := v0bl1) (i := 1) Tryd.underlying25 hi5 hs5 rfl rfl rfl hk4) rfl ?_
          refine .q (x := .d (cU8 (nth v0bl1 (Int.toNat (1))))) (q_load one_5 rfl) rfl ?_
          refine .q (x := .d (cI ((nth v0bl1 (Int.toNat (1))).toNat : Int))) (q_conv8i (a := nth v0bl1 (Int.toNat (1))) Tryd.underlying5 Tryd.underlying3 rfl) rfl ?_
          obtain ⟨hk5, H⟩ := ck_some H
          refine .q (q_addI rfl rfl hk5.1 hk5.2) rfl ?_
          refine .q (q_assign rfl) rfl ?_
          refine .nil ?_
          refine .seq ?_
          refine .region ?_
          refine .q (q_move rfl) rfl ?_
          refine .q (q_move rfl) rfl ?_
          refine .g (x := .d (.e0 1)) ((hs5 ▸ g_buildSlice0 Tryd.underlying25 hi5)) rfl ?_
          refine .q (q_move rfl) rfl ?_
          refine .q (q_move rfl) rfl ?_
          obtain ⟨hk6, H⟩ := ck_some H
          refine .q (x := .d (slOf 1 rB8 ((v0bl1.take (Int.toNat (2 + ((nth v0bl1 (Int.toNat (1))).toNat : Int)))).drop (Int.toNat ((2 : Int)))))) (q_slLHL (l := v0bl1) (row := rB8) Tryd.underlying25 hi5 hs5 rfl rfl rfl rfl hk6) rfl ?_
          obtain ⟨hk7, H⟩ := ck_some H
          refine .g (x := .d (slOf 1 rB8 ((v0bl1.take (Int.toNat (2 + ((nth v0bl1 (Int.toNat (1))).toNat : Int)))).drop (Int.toNat ((2 : Int)))))) (g_append0L (l' := (v0bl1.take (Int.toNat (2 + ((nth v0bl1 (Int.toNat (1))).toNat : Int)))).drop (Int.toNat ((2 : Int)))) (row := rB8) Tryd.underlying25 hi5 hz5 hs5 rfl (by rw [hb5]; decide) rfl (.inl rfl) rfl rfl hk7) rfl ?_
          refine .q (x := .d (.agg (Element.row (⟨((nth v0bl1 (Int.toNat (0))).toNat : Int), (v0bl1.take (Int.toNat (2 + ((nth v0bl1 (Int.toNat (1))).toNat : Int)))).drop (Int.toNat ((2 : Int)))⟩ : Element)))) (q_buildP pl_47 hi47 hz47 rfl rfl) rfl ?_
          refine .g (x := .d (slOf 2 Element.row ([(⟨((nth v0bl1 (Int.toNat (0))).toNat : Int), (v0bl1.take (Int.toNat (2 + ((nth v0bl1 (Int.toNat (1))).toNat : Int)))).drop (Int.toNat ((2 : Int)))⟩ : Element)] : List Element))) (g_buildSlice1 Tryd.underlying22 hi47 hs47 hz47 rfl rfl rfl rfl rfl) rfl ?_
          obtain ⟨hk8, H⟩ := ck_some H
          refine .v (x := .tsl 2 ((v4outl1 ++ ([(⟨((nth v0bl1 (Int.toNat (0))).toNat : Int), (v0bl1.take (Int.toNat (2 + ((nth v0bl1 (Int.toNat (1))).toNat : Int)))).drop (Int.toNat ((2 : Int)))⟩ : Element)] : List Element)).map Element.row) 0) (v_appendL (l := v4outl1) (l' := ([(⟨((nth v0bl1 (Int.toNat (0))).toNat : Int), (v0bl1.take (Int.toNat (2 + ((nth v0bl1 (Int.toNat (1))).toNat : Int)))).drop (Int.toNat ((2 : Int)))⟩ : Element)] : List Element)) (row := Element.row) Tryd.underlying22 hi47 hz47 hs47 rfl (by rw [hb47]; decide) rfl rfl rfl rfl hk8) rfl ?_
          refine .withSt (st' := ⟨[], [⟨47, 2, (v4outl1 ++ ([(⟨((nth v0bl1 (Int.toNat (0))).toNat : Int), (v0bl1.take (Int.toNat (2 + ((nth v0bl1 (Int.toNat (1))).toNat : Int)))).drop (Int.toNat ((2 : Int)))⟩ : Element)] : List Element)).length, none⟩]⟩) rfl ?_
          refine .q (q_assign rfl) rfl ?_
          refine .nil ?_
          refine .region ?_
          refine .q (q_move rfl) rfl ?_
          refine .q (q_move rfl) rfl ?_
          obtain ⟨hk9, H⟩ := ck_some H
          refine .q (x := .d (slOf 1 rB8 (v0bl1.drop (Int.toNat (2 + ((nth v0bl1 (Int.toNat (1))).toNat : Int)))))) (q_slLL (l := v0bl1) (row := rB8) Tryd.underlying25 hi5 hs5 rfl rfl rfl hk9) rfl ?_
          refine .q (q_move rfl) rfl ?_
          refine .q (q_assign rfl) rfl ?_
          refine .q (q_assign rfl) rfl ?_
          refine .nil ?_
          refine .inBlock ?_
          cases H
          exact .withSt (st' := ⟨[], [⟨47, 2, (v4outl1 ++ ([(⟨((nth v0bl1 (Int.toNat (0))).toNat : Int), (v0bl1.take (Int.toNat (2 + ((nth v0bl1 (Int.toNat (1))).toNat : Int)))).drop (Int.toNat ((2 : Int)))⟩ : Element)] : List Element)).length, none⟩]⟩) rfl <| .sub (.cons rfl (.rfl' _) (.cons rfl (.rfl' _) (.cons rfl (.rfl' _) (.nil)))) (ih1 (n1, (v0bl1.drop (Int.toNat (2 + ((nth v0bl1 (Int.toNat (1))).toNat : Int))), v4outl1 ++ ([(⟨((nth v0bl1 (Int.toNat (0))).toNat : Int), (v0bl1.take (Int.toNat (2 + ((nth v0bl1 (Int.toNat (1))).toNat : Int)))).drop (Int.toNat ((2 : Int)))⟩ : Element)] : List Element), ((nth v0bl1 (Int.toNat (0))).toNat : Int))) HK1 hm1)
  · replace H := ifF hc H; clear hc
    refine .exit rfl ?_
    refine .seq ?_
    refine .region ?_
    refine .q (q_move rfl) rfl ?_
    refine .q (q_assign rfl) rfl ?_
    refine .q (q_assign rfl) rfl ?_
    refine .nil ?_
    refine .retN [.tmp 2, .tmp 3] [.tsl 2 (v4outl1.map Element.row) 0, .d (cI 0)] Tryd.func13 Tryd.results13 ⟨rfl, rfl, trivial⟩ ?_
    cases H
    cases HK1
    exact ⟨_, EVle.tupL (ds := [slOf 2 Element.row v4outl1, cI 0]) ⟨.tsl _ _ _, .rfl' _, trivial⟩, rfl⟩

set_option maxRecDepth 100000 in
set_option maxHeartbeats 1000000 in
theorem c_f_textual_within {v0n : Int} {v1lo : Int} {v2hi : Int} {r : Bool} (H : f_textual_within v0n v1lo v2hi = some r) : ACall Tryd.prog 48 [cI v0n, cI v1lo, cI v2hi] (· = cB r) := by
  refine ACall.enter' Tryd.func48 rfl Tryd.ntmps48 rfl fun S hS => ?_
  unfold f_textual_within at H
  change ARun _ _ _ _ _ _ [(0, .d (cI v0n)), (1, .d (cI v1lo)), (2, .d (cI v2hi))] _
  refine .seq ?_
  refine .region ?_
  refine .q (q_assign rfl) rfl ?_
  refine .nil ?_
  refine .seq ?_
  refine .region ?_
  refine .q (q_move rfl) rfl ?_
  refine .q (q_move rfl) rfl ?_
  refine .q (q_geq rfl rfl) rfl ?_
  refine .q (q_move rfl) rfl ?_
  refine .guardG (env' := [(0, _)]) rfl rfl rfl ⟨.inl rfl, trivial⟩ rfl (fun hg => OpQ.g (q_move rfl)) ?_
  refine .guardG (env' := [(2, _)]) rfl rfl rfl ⟨.inl rfl, trivial⟩ rfl (fun hg => OpQ.g (q_move rfl)) ?_
  refine .guardG (env' := [(11, _), (12, _)]) rfl rfl rfl ⟨.inr (.inl rfl), ⟨.inr (.inl rfl), trivial⟩⟩ rfl (fun hg => OpQ.g (q_leq rfl rfl)) ?_
  refine .q (q_pickAndB rfl rfl rfl) rfl ?_
  refine .q (q_assign rfl) rfl ?_
  refine .nil ?_
  refine .retN [.tmp 6] [.d (cB ((decide (v0n ≥ v1lo)) && (decide (v0n ≤ v2hi))))] Tryd.func48 Tryd.results48 ⟨rfl, trivial⟩ ?_
  cases H
  exact ⟨_, .rfl' _, rfl⟩

set_option maxRecDepth 100000 in
set_option maxHeartbeats 1000000 in
theorem c_f_digits_digit {v0c : UInt8} {r : Bool} (H : f_digits_digit v0c = some r) : ACall Tryd.prog 53 [cU8 v0c] (· = cB r) := by
  refine ACall.enter' Tryd.func53 rfl Tryd.ntmps53 rfl fun S hS => ?_
  unfold f_digits_digit at H
  change ARun _ _ _ _ _ _ [(0, .d (cU8 v0c))] _
  refine .seq ?_
  refine .region ?_
  refine .q (q_assign rfl) rfl ?_
  refine .nil ?_
  refine .seq ?_
  refine .region ?_
  refine .q (q_move rfl) rfl ?_
  refine .q (x := .d (cB (decide (v0c ≥ 48)))) (q8_geq (a := v0c) (b := 48) rfl rfl) rfl ?_
  refine .q (q_move rfl) rfl ?_
  refine .guardG (env' := [(0, _)]) rfl rfl rfl ⟨.inl rfl, trivial⟩ rfl (fun hg => OpQ.g (q_move rfl)) ?_
  refine .guardG (b := decide (v0c ≥ 48)) (x := .d (cB (decide (v0c ≤ 57)))) (env' := [(6, _)]) rfl rfl rfl ⟨.inr (.inl rfl), trivial⟩ rfl (fun hg => OpQ.g (q8_leq (a := v0c) (b := 57) rfl rfl)) ?_
  refine .q (q_pickAndB rfl rfl rfl) rfl ?_
  refine .q (q_assign rfl) rfl ?_
  refine .nil ?_
  refine .retN [.tmp 2] [.d (cB ((decide (v0c ≥ 48)) && (decide (v0c ≤ 57))))] Tryd.func53 Tryd.results53 ⟨rfl, trivial⟩ ?_
  cases H
  exact ⟨_, .rfl' _, rfl⟩

set_option maxRecDepth 100000 in
set_option maxHeartbeats 1000000 in
theorem c_f_digits_Valid {v0s : List UInt8} {r : Bool} (H : f_digits_Valid v0s = some r) : ACall Tryd.prog 41 [cS v0s] (· = cB r) := by
  refine ACall.enter' Tryd.func41 rfl Tryd.ntmps41 rfl fun S hS => ?_
  unfold f_digits_Valid at H
  change ARun _ _ _ _ _ _ [(0, .d (cS v0s))] _
  refine .seq ?_
  refine .region ?_
  refine .q (q_assign rfl) rfl ?_
  refine .nil ?_
  refine .seq ?_
  refine .seq ?_
  refine .region ?_
  refine .q (q_move rfl) rfl ?_
  refine .q (q_lenS Tryd.underlying9 rfl) rfl ?_
  refine .q (q_move rfl) rfl ?_
  refine .nil ?_
  refine .blockJoin2 (ι := Unit) (fun s => [(0, .d (cS v0s))]) (fun s => ⟨[], []⟩) (fun s => f_digits_Valid_j1 v0s = some r) ?_ ?_
  · rintro _ H
    replace H : f_digits_Valid_j1 v0s = some r := H
    unfold f_digits_Valid_j1 at H
    change ARun _ _ _ _ _ _ [(0, .d (cS v0s))] ⟨[], []⟩
    refine .seq ?_
    refine .region ?_
    refine .q (q_move rfl) rfl ?_
    refine .q (q_lenS Tryd.underlying9 rfl) rfl ?_
    refine .q (q_geq rfl rfl) rfl ?_
    refine .q (q_move rfl) rfl ?_
    refine .guardG (env' := [(0, _)]) rfl rfl rfl ⟨.inl rfl, trivial⟩ rfl (fun hg => OpQ.g (q_move rfl)) ?_
    refine .guardG (env' := [(19, _)]) rfl rfl rfl ⟨.inr (.inl rfl), trivial⟩ rfl (fun hg => OpQ.g (q_lenS Tryd.underlying9 rfl)) ?_
    refine .guardG (env' := [(20, _)]) rfl rfl rfl ⟨.inr (.inl rfl), trivial⟩ rfl (fun hg => OpQ.g (q_leq rfl rfl)) ?_
    refine .q (q_pickAndB rfl rfl rfl) rfl ?_
    refine .q (q_assign rfl) rfl ?_
    refine .nil ?_
    refine .retN [.tmp 2] [.d (cB ((decide ((v0s.length : Int) ≥ 1)) && (decide ((v0s.length : Int) ≤ 15))))] Tryd.func41 Tryd.results41 ⟨rfl, trivial⟩ ?_
    cases H
    exact ⟨_, .rfl' _, rfl⟩
  · intro hj1 hj1x
    obtain ⟨n1, H⟩ := loop_some H
    refine .loop (ι := Nat × (Int)) (fun p => [(0, .d (cS v0s)), (5, .d (cI (v0s.length : Int))), (6, .d (cI p.2))]) (fun p => ⟨[], []⟩) (fun p => iter (fun s => f_digits_Valid_l1 v0s s) p.1 p.2 = some r) (·.1) (n1, 0) H (.cons rfl (.rfl' _) (.cons rfl (.rfl' _) (.cons rfl (.rfl' _) (.nil)))) rfl ?_
    rintro ⟨m1, v6l1⟩ HI ih1
    obtain ⟨n1, q1, hm1, H, HK1⟩ := iter_succ HI
    clear HI
    replace H : f_digits_Valid_l1 v0s v6l1 = some q1 := H
    unfold f_digits_Valid_l1 at H
    change ARun _ _ _ _ _ _ [(0, .d (cS v0s)), (5, .d (cI (v0s.length : Int))), (6, .d (cI v6l1))] ⟨[], []⟩
    refine .seq ?_
    refine .region ?_
    refine .q (q_lss rfl rfl) rfl ?_
    refine .nil ?_
    refine .seq ?_
    refine .cond rfl (fun hc => ?_) (fun hc => ?_)
    · replace H := ifT hc H; clear hc
      refine .skip ?_
      refine .seq ?_
      refine .block ?_
      refine .seq ?_
      refine .region ?_
      refine .q (q_move rfl) rfl ?_
      refine .q (q_assign rfl) rfl ?_
      refine .nil ?_
      refine .seq ?_
      refine .region ?_
      refine .q (q_move rfl) rfl ?_
      refine .q (q_move rfl) rfl ?_
      obtain ⟨hk1, H⟩ := ck_some H
      refine .q (x := .d (cU8 (nth v0s (Int.toNat (v6l1))))) (q_indexL (i := v6l1) Tryd.underlying9 rfl rfl hk1) rfl ?_
      obtain ⟨y1, hy1, H⟩ := bind_some' H
      refine .g (x := .d (cB y1)) (g_call en_53 rfl rfl (c_f_digits_digit (hy1))) rfl ?_
      refine .q (q_not rfl) rfl ?_
      refine .nil ?_
      refine .cond rfl (fun hc => ?_) (fun hc => ?_)
      · replace H := ifT hc H; clear hc
        refine .seq ?_
        refine .region ?_
        refine .q (q_assign rfl) rfl ?_
        refine .nil ?_
        refine .retN [.tmp 2] [.d (cB false)] Tryd.func41 Tryd.results41 ⟨rfl, trivial⟩ ?_
        cases H
        cases HK1
        exact ⟨_, .rfl' _, rfl⟩
      · replace H := ifF hc H; clear hc
        refine .skip ?_
        refine .inBlock ?_
        refine .region ?_
        obtain ⟨hk2, H⟩ := ck_some H
        refine .q (q_addI rfl rfl hk2.1 hk2.2) rfl ?_
        refine .q (q_move rfl) rfl ?_
        refine .nil ?_
        cases H
        exact .sub (.cons rfl (.rfl' _) (.cons rfl (.rfl' _) (.cons rfl (.rfl' _) (.nil)))) (ih1 (n1, (v6l1 + 1)) HK1 hm1)
    · replace H := ifF hc H; clear hc
      refine .exit rfl ?_
      obtain ⟨q0, H9, hq0⟩ := map_some' H; clear H; cases hq0
      cases HK1
      have H := H9
      exact .sub (.cons rfl (.rfl' _) (.nil)) (hj1x () H)

set_option maxRecDepth 100000 in
set_option maxHeartbeats 1000000 in
theorem c_f_textual_check {v0 : Record} {r : Int} (H : f_textual_check v0 = some r) : ACall Tryd.prog 38 [.agg (Record.row v0)] (· = cI r) := by
  refine ACall.enter' Tryd.func38 rfl Tryd.ntmps38 rfl fun S hS => ?_
  unfold f_textual_check at H
  change ARun _ _ _ _ _ _ [(0, .d (.agg (Record.row v0)))] _
  refine .seq ?_
  refine .region ?_
  refine .v (x := .ref 0 0) (v_box rfl rfl) rfl ?_
  refine .withSt (st' := ⟨[.row 34 [.d (cI v0.source), .d (cI v0.serial), .d (cI v0.kind), .d (cS v0.a), .d (cS v0.b), .d (cI v0.start), .d (cI v0.units), .d (cI v0.call), .d (cI v0.part), .d (cB v0.last), .d (cI v0.trunk), .d (cB v0.inbound)]], []⟩) rfl ?_
  refine .q (q_assign rfl) rfl ?_
  refine .nil ?_
  refine .seq ?_
  refine .region ?_
  refine .q (q_fieldRef fo_34_2 rfl) rfl ?_
  refine .q (x := .d (cI v0.kind)) (q_loadO one_3 rfl rfl rfl) rfl ?_
  refine .q (q_eql rfl rfl) rfl ?_
  refine .q (q_move rfl) rfl ?_
  refine .guardG (env' := [(1, _)]) rfl rfl rfl ⟨.inl rfl, trivial⟩ rfl (fun hg => OpQ.g (q_fieldRef fo_34_2 rfl)) ?_
  refine .guardG (b := (!(v0.kind == 3))) (x := .d (cI v0.kind)) (env' := [(9, _)]) rfl rfl rfl ⟨.inr (.inl rfl), trivial⟩ rfl (fun hg => OpQ.g (q_loadO one_3 rfl rfl rfl)) ?_
  refine .guardG (env' := [(10, _)]) rfl rfl rfl ⟨.inr (.inl rfl), trivial⟩ rfl (fun hg => OpQ.g (q_eql rfl rfl)) ?_
  refine .q (q_pickOrB rfl rfl rfl) rfl ?_
  refine .q (q_assign rfl) rfl ?_
  refine .nil ?_
  refine .seq ?_
  refine .region ?_
  refine .q (q_assign rfl) rfl ?_
  refine .nil ?_
  refine .seqJoin (ι := Int) (fun s => [(1, .ref 0 0), (3, .d (cB ((v0.kind == 3) || (v0.kind == 4)))), (4, .d (cI s))]) (fun s => ⟨[.row 34 [.d (cI v0.source), .d (cI v0.serial), .d (cI v0.kind), .d (cS v0.a), .d (cS v0.b), .d (cI v0.start), .d (cI v0.units), .d (cI v0.call), .d (cI v0.part), .d (cB v0.last), .d (cI v0.trunk), .d (cB v0.inbound)]], []⟩) (fun s => f_textual_check_j1 v0 s = some r) ?_ ?_
  · rintro v4j1 H
    replace H : f_textual_check_j1 v0 v4j1 = some r := H
    unfold f_textual_check_j1 at H
    change ARun _ _ _ _ _ _ [(1, .ref 0 0), (3, .d (cB ((v0.kind == 3) || (v0.kind == 4)))), (4, .d (cI v4j1))] ⟨[.row 34 [.d (cI v0.source), .d (cI v0.serial), .d (cI v0.kind), .d (cS v0.a), .d (cS v0.b), .d (cI v0.start), .d (cI v0.units), .d (cI v0.call), .d (cI v0.part), .d (cB v0.last), .d (cI v0.trunk), .d (cB v0.inbound)]], []⟩
    refine .seq ?_
    refine .block ?_
    refine .seq ?_
    refine .region ?_
    refine .q (q_fieldRef fo_34_0 rfl) rfl ?_
    refine .q (x := .d (cI v0.source)) (q_loadO one_3 rfl rfl rfl) rfl ?_
    obtain ⟨y1, hy1, H⟩ := bind_some' H
    refine .g (x := .d (cB y1)) (g_call en_48 rfl rfl (c_f_textual_within (hy1))) rfl ?_
    refine .q (q_not rfl) rfl ?_
    refine .q (q_move rfl) rfl ?_
    refine .guardG (env' := [(1, _)]) rfl rfl rfl ⟨.inl rfl, trivial⟩ rfl (fun hg => OpQ.g (q_fieldRef fo_34_1 rfl)) ?_
    refine .guardG (b := (!(!y1))) (x := .d (cI v0.serial)) (env' := [(22, _)]) rfl rfl rfl ⟨.inr (.inl rfl), trivial⟩ rfl (fun hg => OpQ.g (q_loadO one_3 rfl rfl rfl)) ?_
    obtain ⟨y2, hy2, H⟩ := bind_some' H
    refine .guardG (b := (!(!y1))) (x := .d (cB y2)) (env' := [(23, _)]) rfl rfl rfl ⟨.inr (.inl rfl), trivial⟩ rfl (fun hg => (g_call en_48 rfl rfl (c_f_textual_within (gcall_some hy2 hg)))) ?_
    refine .guardG (env' := [(24, _)]) rfl rfl rfl ⟨.inr (.inl rfl), trivial⟩ rfl (fun hg => OpQ.g (q_not rfl)) ?_
    refine .q (q_pickOrB rfl rfl rfl) rfl ?_
    refine .q (q_assign rfl) rfl ?_
    refine .nil ?_
    refine .cond rfl (fun hc => ?_) (fun hc => ?_)
    · replace H := ifT hc H; clear hc
      refine .seq ?_
      refine .region ?_
      refine .q (q_assign rfl) rfl ?_
      refine .nil ?_
      refine .retN [.tmp 2] [.d (cI 6)] Tryd.func38 Tryd.results38 ⟨rfl, trivial⟩ ?_
      cases H
      exact ⟨_, .rfl' _, rfl⟩
    · replace H := ifF hc H; clear hc
      refine .seq ?_
      refine .region ?_
      refine .q (q_fieldRef fo_34_2 rfl) rfl ?_
      refine .q (x := .d (cI v0.kind)) (q_loadO one_3 rfl rfl rfl) rfl ?_
      obtain ⟨y3, hy3, H⟩ := bind_some' H
      refine .g (x := .d (cB y3)) (g_call en_48 rfl rfl (c_f_textual_within (hy3))) rfl ?_
      refine .q (q_not rfl) rfl ?_
      refine .q (q_assign rfl) rfl ?_
      refine .nil ?_
      refine .cond rfl (fun hc => ?_) (fun hc => ?_)
      · replace H := ifT hc H; clear hc
        refine .seq ?_
        refine .region ?_
        refine .q (q_assign rfl) rfl ?_
        refine .nil ?_
        refine .retN [.tmp 2] [.d (cI 7)] Tryd.func38 Tryd.results38 ⟨rfl, trivial⟩ ?_
        cases H
        exact ⟨_, .rfl' _, rfl⟩
      · replace H := ifF hc H; clear hc
        refine .seq ?_
        refine .region ?_
        refine .q (q_fieldRef fo_34_3 rfl) rfl ?_
        refine .q (x := .d (cS v0.a)) (q_loadO one_9 rfl rfl rfl) rfl ?_
        obtain ⟨y4, hy4, H⟩ := bind_some' H
        refine .g (x := .d (cB y4)) (g_call en_41 rfl rfl (c_f_digits_Valid (hy4))) rfl ?_
        refine .q (q_not rfl) rfl ?_
        refine .q (q_move rfl) rfl ?_
        refine .guardG (env' := [(1, _)]) rfl rfl rfl ⟨.inl rfl, trivial⟩ rfl (fun hg => OpQ.g (q_fieldRef fo_34_4 rfl)) ?_
        refine .guardG (b := (!(!y4))) (x := .d (cS v0.b)) (env' := [(38, _)]) rfl rfl rfl ⟨.inr (.inl rfl), trivial⟩ rfl (fun hg => OpQ.g (q_loadO one_9 rfl rfl rfl)) ?_
        obtain ⟨y5, hy5, H⟩ := bind_some' H
        refine .guardG (b := (!(!y4))) (x := .d (cB y5)) (env' := [(39, _)]) rfl rfl rfl ⟨.inr (.inl rfl), trivial⟩ rfl (fun hg => (g_call en_41 rfl rfl (c_f_digits_Valid (gcall_some hy5 hg)))) ?_
        refine .guardG (env' := [(40, _)]) rfl rfl rfl ⟨.inr (.inl rfl), trivial⟩ rfl (fun hg => OpQ.g (q_not rfl)) ?_
        refine .guardG (env' := [(41, _)]) rfl rfl rfl ⟨.inr (.inl rfl), trivial⟩ rfl (fun hg => OpQ.g (q_move rfl)) ?_
        refine .guardG (env' := [(3, _)]) rfl rfl rfl ⟨.inl rfl, trivial⟩ rfl (fun hg => OpQ.g (q_move rfl)) ?_
        refine .guardG (env' := [(43, _)]) rfl rfl rfl ⟨.inr (.inl rfl), trivial⟩ rfl (fun hg => OpQ.g (q_move rfl)) ?_
        refine .guardG (env' := [(1, _)]) rfl rfl rfl ⟨.inl rfl, trivial⟩ rfl (fun hg => OpQ.g (q_fieldRef fo_34_4 rfl)) ?_
        refine .guardG (b := (((!(!y4)) && (!y5)) && ((v0.kind == 3) || (v0.kind == 4)))) (x := .d (cS v0.b)) (env' := [(45, _)]) rfl rfl rfl ⟨.inr (.inl rfl), trivial⟩ rfl (fun hg => OpQ.g (q_loadO one_9 rfl rfl rfl)) ?_
        refine .guardG (env' := [(46, _)]) rfl rfl rfl ⟨.inr (.inl rfl), trivial⟩ rfl (fun hg => OpQ.g (q_seql rfl rfl)) ?_
        refine .guardG (env' := [(44, _), (47, _)]) rfl rfl rfl ⟨.inr (.inl rfl), ⟨.inr (.inr ⟨_, _, rfl, rfl⟩), trivial⟩⟩ rfl (fun hg => OpQ.g (q_pickAndB rfl rfl rfl)) ?_
        refine .guardG (env' := [(48, _)]) rfl rfl rfl ⟨.inr (.inl rfl), trivial⟩ rfl (fun hg => OpQ.g (q_not rfl)) ?_
        refine .guardG (env' := [(42, _), (49, _)]) rfl rfl rfl ⟨.inr (.inl rfl), ⟨.inr (.inr ⟨_, _, rfl, rfl⟩), trivial⟩⟩ rfl (fun hg => OpQ.g (q_pickAndB rfl rfl rfl)) ?_
        refine .q (q_pickOrB rfl rfl rfl) rfl ?_
        refine .q (q_assign rfl) rfl ?_
        refine .nil ?_
        refine .cond rfl (fun hc => ?_) (fun hc => ?_)
        · replace H := ifT hc H; clear hc
          refine .seq ?_
          refine .region ?_
          refine .q (q_assign rfl) rfl ?_
          refine .nil ?_
          refine .retN [.tmp 2] [.d (cI 12)] Tryd.func38 Tryd.results38 ⟨rfl, trivial⟩ ?_
          cases H
          exact ⟨_, .rfl' _, rfl⟩
        · replace H := ifF hc H; clear hc
          refine .seq ?_
          refine .region ?_
          refine .q (q_fieldRef fo_34_5 rfl) rfl ?_
          refine .q (x := .d (cI v0.start)) (q_loadO one_3 rfl rfl rfl) rfl ?_
          obtain ⟨y6, hy6, H⟩ := bind_some' H
          refine .g (x := .d (cB y6)) (g_call en_48 rfl rfl (c_f_textual_within (hy6))) rfl ?_
          refine .q (q_not rfl) rfl ?_
          refine .q (q_assign rfl) rfl ?_
          refine .nil ?_
          refine .cond rfl (fun hc => ?_) (fun hc => ?_)
          · replace H := ifT hc H; clear hc
            refine .seq ?_
            refine .region ?_
            refine .q (q_assign rfl) rfl ?_
            refine .nil ?_
            refine .retN [.tmp 2] [.d (cI 15)] Tryd.func38 Tryd.results38 ⟨rfl, trivial⟩ ?_
            cases H
            exact ⟨_, .rfl' _, rfl⟩
          · replace H := ifF hc H; clear hc
            refine .seq ?_
            refine .region ?_
            refine .q (q_fieldRef fo_34_6 rfl) rfl ?_
            refine .q (x := .d (cI v0.units)) (q_loadO one_3 rfl rfl rfl) rfl ?_
            refine .q (q_move rfl) rfl ?_
            obtain ⟨y7, hy7, H⟩ := bind_some' H
            refine .g (x := .d (cB y7)) (g_call en_48 rfl rfl (c_f_textual_within (hy7))) rfl ?_
            refine .q (q_not rfl) rfl ?_
            refine .q (q_assign rfl) rfl ?_
            refine .nil ?_
            refine .cond rfl (fun hc => ?_) (fun hc => ?_)
            · replace H := ifT hc H; clear hc
              refine .seq ?_
              refine .region ?_
              refine .q (q_assign rfl) rfl ?_
              refine .nil ?_
              refine .retN [.tmp 2] [.d (cI 6)] Tryd.func38 Tryd.results38 ⟨rfl, trivial⟩ ?_
              cases H
              exact ⟨_, .rfl' _, rfl⟩
            · replace H := ifF hc H; clear hc
              refine .seq ?_
              refine .region ?_
              refine .q (q_fieldRef fo_34_2 rfl) rfl ?_
              refine .q (x := .d (cI v0.kind)) (q_loadO one_3 rfl rfl rfl) rfl ?_
              refine .q (q_eql rfl rfl) rfl ?_
              refine .q (q_move rfl) rfl ?_
              refine .guardG (env' := [(1, _)]) rfl rfl rfl ⟨.inl rfl, trivial⟩ rfl (fun hg => OpQ.g (q_fieldRef fo_34_5 rfl)) ?_
              refine .guardG (b := (v0.kind == 1)) (x := .d (cI v0.start)) (env' := [(68, _)]) rfl rfl rfl ⟨.inr (.inl rfl), trivial⟩ rfl (fun hg => OpQ.g (q_loadO one_3 rfl rfl rfl)) ?_
              refine .guardG (env' := [(1, _)]) rfl rfl rfl ⟨.inl rfl, trivial⟩ rfl (fun hg => OpQ.g (q_fieldRef fo_34_6 rfl)) ?_
              refine .guardG (b := (v0.kind == 1)) (x := .d (cI v0.units)) (env' := [(70, _)]) rfl rfl rfl ⟨.inr (.inl rfl), trivial⟩ rfl (fun hg => OpQ.g (q_loadO one_3 rfl rfl rfl)) ?_
              obtain ⟨hk1, H⟩ := ck_some H
              refine .guardG (env' := [(69, _), (71, _)]) rfl rfl rfl ⟨.inr (.inl rfl), ⟨.inr (.inl rfl), trivial⟩⟩ rfl (fun hg => OpQ.g (q_addI rfl rfl (hk1 hg).1 (hk1 hg).2)) ?_
              refine .guardG (env' := [(72, _)]) rfl rfl rfl ⟨.inr (.inl rfl), trivial⟩ rfl (fun hg => OpQ.g (q_gtr rfl rfl)) ?_
              refine .q (q_pickAndB rfl rfl rfl) rfl ?_
              refine .q (q_assign rfl) rfl ?_
              refine .nil ?_
              refine .cond rfl (fun hc => ?_) (fun hc => ?_)
              · replace H := ifT hc H; clear hc
                refine .seq ?_
                refine .region ?_
                refine .q (q_assign rfl) rfl ?_
                refine .nil ?_
                refine .retN [.tmp 2] [.d (cI 15)] Tryd.func38 Tryd.results38 ⟨rfl, trivial⟩ ?_
                cases H
                exact ⟨_, .rfl' _, rfl⟩
              · replace H := ifF hc H; clear hc
                refine .seq ?_
                refine .region ?_
                refine .q (q_fieldRef fo_34_7 rfl) rfl ?_
                refine .q (x := .d (cI v0.call)) (q_loadO one_3 rfl rfl rfl) rfl ?_
                obtain ⟨y8, hy8, H⟩ := bind_some' H
                refine .g (x := .d (cB y8)) (g_call en_48 rfl rfl (c_f_textual_within (hy8))) rfl ?_
                refine .q (q_not rfl) rfl ?_
                refine .q (q_move rfl) rfl ?_
                refine .guardG (env' := [(1, _)]) rfl rfl rfl ⟨.inl rfl, trivial⟩ rfl (fun hg => OpQ.g (q_fieldRef fo_34_8 rfl)) ?_
                refine .guardG (b := (!(!y8))) (x := .d (cI v0.part)) (env' := [(81, _)]) rfl rfl rfl ⟨.inr (.inl rfl), trivial⟩ rfl (fun hg => OpQ.g (q_loadO one_3 rfl rfl rfl)) ?_
                obtain ⟨y9, hy9, H⟩ := bind_some' H
                refine .guardG (b := (!(!y8))) (x := .d (cB y9)) (env' := [(82, _)]) rfl rfl rfl ⟨.inr (.inl rfl), trivial⟩ rfl (fun hg => (g_call en_48 rfl rfl (c_f_textual_within (gcall_some hy9 hg)))) ?_
                refine .guardG (env' := [(83, _)]) rfl rfl rfl ⟨.inr (.inl rfl), trivial⟩ rfl (fun hg => OpQ.g (q_not rfl)) ?_
                refine .q (q_pickOrB rfl rfl rfl) rfl ?_
                refine .q (q_assign rfl) rfl ?_
                refine .nil ?_
                refine .cond rfl (fun hc => ?_) (fun hc => ?_)
                · replace H := ifT hc H; clear hc
                  refine .seq ?_
                  refine .region ?_
                  refine .q (q_assign rfl) rfl ?_
                  refine .nil ?_
                  refine .retN [.tmp 2] [.d (cI 6)] Tryd.func38 Tryd.results38 ⟨rfl, trivial⟩ ?_
                  cases H
                  exact ⟨_, .rfl' _, rfl⟩
                · replace H := ifF hc H; clear hc
                  refine .seq ?_
                  refine .region ?_
                  refine .q (q_fieldRef fo_34_8 rfl) rfl ?_
                  refine .q (x := .d (cI v0.part)) (q_loadO one_3 rfl rfl rfl) rfl ?_
                  refine .q (q_eql rfl rfl) rfl ?_
                  refine .q (q_fieldRef fo_34_7 rfl) rfl ?_
                  refine .q (x := .d (cI v0.call)) (q_loadO one_3 rfl rfl rfl) rfl ?_
                  refine .q (q_eql rfl rfl) rfl ?_
                  refine .q (x := .d (cB ((v0.part == 0) != (v0.call == 0)))) (q_bneq rfl Tryd.underlying4 rfl) rfl ?_
                  refine .q (q_move rfl) rfl ?_
                  refine .guardG (env' := [(1, _)]) rfl rfl rfl ⟨.inl rfl, trivial⟩ rfl (fun hg => OpQ.g (q_fieldRef fo_34_9 rfl)) ?_
                  refine .guardG (b := (!((v0.part == 0) != (v0.call == 0)))) (x := .d (cB v0.last)) (env' := [(95, _)]) rfl rfl rfl ⟨.inr (.inl rfl), trivial⟩ rfl (fun hg => OpQ.g (q_loadO one_4 rfl rfl rfl)) ?_
                  refine .guardG (env' := [(96, _)]) rfl rfl rfl ⟨.inr (.inl rfl), trivial⟩ rfl (fun hg => OpQ.g (q_move rfl)) ?_
                  refine .guardG (env' := [(1, _)]) rfl rfl rfl ⟨.inl rfl, trivial⟩ rfl (fun hg => OpQ.g (q_fieldRef fo_34_8 rfl)) ?_
                  refine .guardG (b := ((!((v0.part == 0) != (v0.call == 0))) && v0.last)) (x := .d (cI v0.part)) (env' := [(98, _)]) rfl rfl rfl ⟨.inr (.inl rfl), trivial⟩ rfl (fun hg => OpQ.g (q_loadO one_3 rfl rfl rfl)) ?_
                  refine .guardG (env' := [(99, _)]) rfl rfl rfl ⟨.inr (.inl rfl), trivial⟩ rfl (fun hg => OpQ.g (q_eql rfl rfl)) ?_
                  refine .guardG (env' := [(97, _), (100, _)]) rfl rfl rfl ⟨.inr (.inl rfl), ⟨.inr (.inr ⟨_, _, rfl, rfl⟩), trivial⟩⟩ rfl (fun hg => OpQ.g (q_pickAndB rfl rfl rfl)) ?_
                  refine .q (q_pickOrB rfl rfl rfl) rfl ?_
                  refine .q (q_assign rfl) rfl ?_
                  refine .nil ?_
                  refine .cond rfl (fun hc => ?_) (fun hc => ?_)
                  · replace H := ifT hc H; clear hc
                    refine .seq ?_
                    refine .region ?_
                    refine .q (q_assign rfl) rfl ?_
                    refine .nil ?_
                    refine .retN [.tmp 2] [.d (cI 8)] Tryd.func38 Tryd.results38 ⟨rfl, trivial⟩ ?_
                    cases H
                    exact ⟨_, .rfl' _, rfl⟩
                  · replace H := ifF hc H; clear hc
                    refine .seq ?_
                    refine .region ?_
                    refine .q (q_fieldRef fo_34_10 rfl) rfl ?_
                    refine .q (x := .d (cI v0.trunk)) (q_loadO one_3 rfl rfl rfl) rfl ?_
                    obtain ⟨y10, hy10, H⟩ := bind_some' H
                    refine .g (x := .d (cB y10)) (g_call en_48 rfl rfl (c_f_textual_within (hy10))) rfl ?_
                    refine .q (q_not rfl) rfl ?_
                    refine .q (q_assign rfl) rfl ?_
                    refine .nil ?_
                    refine .cond rfl (fun hc => ?_) (fun hc => ?_)
                    · replace H := ifT hc H; clear hc
                      refine .seq ?_
                      refine .region ?_
                      refine .q (q_assign rfl) rfl ?_
                      refine .nil ?_
                      refine .retN [.tmp 2] [.d (cI 6)] Tryd.func38 Tryd.results38 ⟨rfl, trivial⟩ ?_
                      cases H
                      exact ⟨_, .rfl' _, rfl⟩
                    · replace H := ifF hc H; clear hc
                      refine .seq ?_
                      refine .region ?_
                      refine .q (q_fieldRef fo_34_11 rfl) rfl ?_
                      refine .q (x := .d (cB v0.inbound)) (q_loadO one_4 rfl rfl rfl) rfl ?_
                      refine .q (q_move rfl) rfl ?_
                      refine .guardG (env' := [(1, _)]) rfl rfl rfl ⟨.inl rfl, trivial⟩ rfl (fun hg => OpQ.g (q_fieldRef fo_34_10 rfl)) ?_
                      refine .guardG (b := v0.inbound) (x := .d (cI v0.trunk)) (env' := [(112, _)]) rfl rfl rfl ⟨.inr (.inl rfl), trivial⟩ rfl (fun hg => OpQ.g (q_loadO one_3 rfl rfl rfl)) ?_
                      refine .guardG (env' := [(113, _)]) rfl rfl rfl ⟨.inr (.inl rfl), trivial⟩ rfl (fun hg => OpQ.g (q_eql rfl rfl)) ?_
                      refine .q (q_pickAndB rfl rfl rfl) rfl ?_
                      refine .q (q_assign rfl) rfl ?_
                      refine .nil ?_
                      refine .cond rfl (fun hc => ?_) (fun hc => ?_)
                      · replace H := ifT hc H; clear hc
                        refine .seq ?_
                        refine .region ?_
                        refine .q (q_assign rfl) rfl ?_
                        refine .nil ?_
                        refine .retN [.tmp 2] [.d (cI 8)] Tryd.func38 Tryd.results38 ⟨rfl, trivial⟩ ?_
                        cases H
                        exact ⟨_, .rfl' _, rfl⟩
                      · replace H := ifF hc H; clear hc
                        refine .skip ?_
                        refine .inBlock ?_
                        refine .seq ?_
                        refine .region ?_
                        refine .q (q_assign rfl) rfl ?_
                        refine .nil ?_
                        refine .retN [.tmp 2] [.d (cI 0)] Tryd.func38 Tryd.results38 ⟨rfl, trivial⟩ ?_
                        cases H
                        exact ⟨_, .rfl' _, rfl⟩
  · intro hj1
    refine .seq ?_
    refine .region ?_
    refine .q (q_fieldRef fo_34_2 rfl) rfl ?_
    refine .q (x := .d (cI v0.kind)) (q_loadO one_3 rfl rfl rfl) rfl ?_
    refine .q (q_eql rfl rfl) rfl ?_
    refine .nil ?_
    refine .cond rfl (fun hc => ?_) (fun hc => ?_)
    · replace H := ifT hc H; clear hc
      refine .region ?_
      refine .q (q_assign rfl) rfl ?_
      refine .nil ?_
      exact .sub (.cons rfl (.rfl' _) (.cons rfl (.rfl' _) (.cons rfl (.rfl' _) (.nil)))) (hj1 604800 H)
    · replace H := ifF hc H; clear hc
      refine .skip ?_
      exact .sub (.cons rfl (.rfl' _) (.cons rfl (.rfl' _) (.cons rfl (.rfl' _) (.nil)))) (hj1 1099511627776 H)

set_option maxRecDepth 100000 in
set_option maxHeartbeats 1000000 in
theorem c_f_textual_Encode {v0 : Record} {r : (List UInt8) × Int} (H : f_textual_Encode v0 = some r) : ACall Tryd.prog 26 [.agg (Record.row v0)] (· = .tup [cS r.1, cI r.2]) := by
  obtain ⟨i9, hi9, hz9, hs9, hb9⟩ := in_9
  refine ACall.enter' Tryd.func26 rfl Tryd.ntmps26 rfl fun S hS => ?_
  unfold f_textual_Encode at H
  change ARun _ _ _ _ _ _ [(0, .d (.agg (Record.row v0)))] _
  refine .seq ?_
  refine .region ?_
  refine .v (x := .ref 0 0) (v_box rfl rfl) rfl ?_
  refine .withSt (st' := ⟨[.row 34 [.d (cI v0.source), .d (cI v0.serial), .d (cI v0.kind), .d (cS v0.a), .d (cS v0.b), .d (cI v0.start), .d (cI v0.units), .d (cI v0.call), .d (cI v0.part), .d (cB v0.last), .d (cI v0.trunk), .d (cB v0.inbound)]], []⟩) rfl ?_
  refine .q (q_assign rfl) rfl ?_
  refine .q (q_assign rfl) rfl ?_
  refine .nil ?_
  refine .seq ?_
  refine .seq ?_
  refine .region ?_
  refine .q (x := .d (.agg (Record.row v0))) (q_loadOA one_34 sz_34 rfl rfl (Nat.le_of_ble_eq_true rfl) rfl) rfl ?_
  obtain ⟨y1, hy1, H⟩ := bind_some' H
  refine .g (x := .d (cI y1)) (g_call en_38 rfl rfl (c_f_textual_check (hy1))) rfl ?_
  refine .q (q_assign rfl) rfl ?_
  refine .nil ?_
  refine .seq ?_
  refine .region ?_
  refine .q (q_move rfl) rfl ?_
  refine .q (q_neq rfl rfl) rfl ?_
  refine .nil ?_
  refine .cond rfl (fun hc => ?_) (fun hc => ?_)
  · replace H := ifT hc H; clear hc
    refine .seq ?_
    refine .region ?_
    refine .q (q_move rfl) rfl ?_
    refine .q (q_assign rfl) rfl ?_
    refine .q (q_assign rfl) rfl ?_
    refine .nil ?_
    refine .retN [.tmp 2, .tmp 3] [.d (cS ([] : List UInt8)), .d (cI y1)] Tryd.func26 Tryd.results26 ⟨rfl, rfl, trivial⟩ ?_
    cases H
    exact ⟨_, EVle.tupL (ds := [cS ([] : List UInt8), cI y1]) ⟨.rfl' _, .rfl' _, trivial⟩, rfl⟩
  · replace H := ifF hc H; clear hc
    refine .skip ?_
    refine .seq ?_
    refine .region ?_
    refine .q (q_assign rfl) rfl ?_
    refine .nil ?_
    refine .seq ?_
    refine .region ?_
    refine .q (q_fieldRef fo_34_4 rfl) rfl ?_
    refine .q (x := .d (cS v0.b)) (q_loadO one_9 rfl rfl rfl) rfl ?_
    refine .q (q_assign rfl) rfl ?_
    refine .nil ?_
    refine .seqJoin (ι := List UInt8) (fun s => [(1, .ref 0 0), (5, .d (.ex (.func (.func 39) #[] #[]))), (6, .d (cS s))]) (fun s => ⟨[.row 34 [.d (cI v0.source), .d (cI v0.serial), .d (cI v0.kind), .d (cS v0.a), .d (cS v0.b), .d (cI v0.start), .d (cI v0.units), .d (cI v0.call), .d (cI v0.part), .d (cB v0.last), .d (cI v0.trunk), .d (cB v0.inbound)]], []⟩) (fun s => f_textual_Encode_j1 v0 s = some r) ?_ ?_
    · rintro v6j1 H
      replace H : f_textual_Encode_j1 v0 v6j1 = some r := H
      unfold f_textual_Encode_j1 at H
      change ARun _ _ _ _ _ _ [(1, .ref 0 0), (5, .d (.ex (.func (.func 39) #[] #[]))), (6, .d (cS v6j1))] ⟨[.row 34 [.d (cI v0.source), .d (cI v0.serial), .d (cI v0.kind), .d (cS v0.a), .d (cS v0.b), .d (cI v0.start), .d (cI v0.units), .d (cI v0.call), .d (cI v0.part), .d (cB v0.last), .d (cI v0.trunk), .d (cB v0.inbound)]], []⟩
      refine .seq ?_
      refine .drawn 25 hMix (by kernel_rfl) ?_
      show DOps _ _ _ _ _ _ _ (_ :: _) _ _ _
      refine .q (q_fieldRef fo_34_2 rfl) rfl ?_
      refine .q (x := .d (cI v0.kind)) (q_loadO one_3 rfl rfl rfl) rfl ?_
      obtain ⟨hk1, H⟩ := ck_some H
      refine .q (q_subI rfl rfl hk1.1 hk1.2) rfl ?_
      refine .q (q_fieldRef fo_34_2 rfl) rfl ?_
      refine .q (x := .d (cI v0.kind)) (q_loadO one_3 rfl rfl rfl) rfl ?_
      obtain ⟨hk2, H⟩ := ck_some H
      refine .q (x := .d (cS ((([118, 116, 100, 99] : List UInt8).take (Int.toNat (v0.kind))).drop (Int.toNat (v0.kind - 1))))) (q_strLHL Tryd.underlying9 rfl rfl rfl hk2) rfl ?_
      refine .q (q_move rfl) rfl ?_
      refine .q (q_fieldRef fo_34_0 rfl) rfl ?_
      refine .q (x := .d (cI v0.source)) (q_loadO one_3 rfl rfl rfl) rfl ?_
      obtain ⟨y2, hy2, H⟩ := bind_some' H
      refine .g (x := .d (cS y2)) (g_callF en_39 rfl rfl rfl (c_x_Itoa (hy2))) rfl ?_
      refine .q (q_move rfl) rfl ?_
      refine .q (q_fieldRef fo_34_1 rfl) rfl ?_
      refine .q (x := .d (cI v0.serial)) (q_loadO one_3 rfl rfl rfl) rfl ?_
      obtain ⟨y3, hy3, H⟩ := bind_some' H
      refine .g (x := .d (cS y3)) (g_callF en_39 rfl rfl rfl (c_x_Itoa (hy3))) rfl ?_
      refine .q (q_fieldRef fo_34_3 rfl) rfl ?_
      refine .q (x := .d (cS v0.a)) (q_loadO one_9 rfl rfl rfl) rfl ?_
      refine .q (q_move rfl) rfl ?_
      refine .q (q_move rfl) rfl ?_
      refine .q (q_fieldRef fo_34_5 rfl) rfl ?_
      refine .q (x := .d (cI v0.start)) (q_loadO one_3 rfl rfl rfl) rfl ?_
      obtain ⟨y4, hy4, H⟩ := bind_some' H
      refine .g (x := .d (cS y4)) (g_callF en_39 rfl rfl rfl (c_x_Itoa (hy4))) rfl ?_
      refine .q (q_move rfl) rfl ?_
      refine .q (q_fieldRef fo_34_6 rfl) rfl ?_
      refine .q (x := .d (cI v0.units)) (q_loadO one_3 rfl rfl rfl) rfl ?_
      obtain ⟨y5, hy5, H⟩ := bind_some' H
      refine .g (x := .d (cS y5)) (g_callF en_39 rfl rfl rfl (c_x_Itoa (hy5))) rfl ?_
      refine .nil ?_
      show AOps _ _ _ _ _ _ (_ :: _) _ _ _
      refine .v (x := .tsl 1 (([(([118, 116, 100, 99] : List UInt8).take (Int.toNat (v0.kind))).drop (Int.toNat (v0.kind - 1)), y2, y3, v0.a, v6j1, y4, y5] : List (List UInt8)).map rS) 0) (v_buildSliceT (n := 7) Tryd.underlying68 hi9 hs9 hz9 rfl rfl rfl rfl rfl) rfl ?_
      refine .withSt (st' := ⟨[.row 34 [.d (cI v0.source), .d (cI v0.serial), .d (cI v0.kind), .d (cS v0.a), .d (cS v0.b), .d (cI v0.start), .d (cI v0.units), .d (cI v0.call), .d (cI v0.part), .d (cB v0.last), .d (cI v0.trunk), .d (cB v0.inbound)]], [⟨9, 1, ([(([118, 116, 100, 99] : List UInt8).take (Int.toNat (v0.kind))).drop (Int.toNat (v0.kind - 1)), y2, y3, v0.a, v6j1, y4, y5] : List (List UInt8)).length, none⟩]⟩) rfl ?_
      refine .q (q_assign rfl) rfl ?_
      refine .nil ?_
      refine .seqJoin (ι := List (List UInt8)) (fun s => [(1, .ref 0 0), (5, .d (.ex (.func (.func 39) #[] #[]))), (7, .tsl 1 (s.map rS) 0)]) (fun s => ⟨[.row 34 [.d (cI v0.source), .d (cI v0.serial), .d (cI v0.kind), .d (cS v0.a), .d (cS v0.b), .d (cI v0.start), .d (cI v0.units), .d (cI v0.call), .d (cI v0.part), .d (cB v0.last), .d (cI v0.trunk), .d (cB v0.inbound)]], [⟨9, 1, s.length, none⟩]⟩) (fun s => f_textual_Encode_j2 v0 s = some r) ?_ ?_
      · rintro v7j2 H
        replace H : f_textual_Encode_j2 v0 v7j2 = some r := H
        unfold f_textual_Encode_j2 at H
        change ARun _ _ _ _ _ _ [(1, .ref 0 0), (5, .d (.ex (.func (.func 39) #[] #[]))), (7, .tsl 1 (v7j2.map rS) 0)] ⟨[.row 34 [.d (cI v0.source), .d (cI v0.serial), .d (cI v0.kind), .d (cS v0.a), .d (cS v0.b), .d (cI v0.start), .d (cI v0.units), .d (cI v0.call), .d (cI v0.part), .d (cB v0.last), .d (cI v0.trunk), .d (cB v0.inbound)]], [⟨9, 1, v7j2.length, none⟩]⟩
        refine .seqJoin (ι := List (List UInt8)) (fun s => [(7, .tsl 1 (s.map rS) 0)]) (fun s => ⟨[.row 34 [.d (cI v0.source), .d (cI v0.serial), .d (cI v0.kind), .d (cS v0.a), .d (cS v0.b), .d (cI v0.start), .d (cI v0.units), .d (cI v0.call), .d (cI v0.part), .d (cB v0.last), .d (cI v0.trunk), .d (cB v0.inbound)]], [⟨9, 1, s.length, none⟩]⟩) (fun s => f_textual_Encode_j3 s = some r) ?_ ?_
        · rintro v7j3 H
          replace H : f_textual_Encode_j3 v7j3 = some r := H
          unfold f_textual_Encode_j3 at H
          change ARun _ _ _ _ _ _ [(7, .tsl 1 (v7j3.map rS) 0)] ⟨[.row 34 [.d (cI v0.source), .d (cI v0.serial), .d (cI v0.kind), .d (cS v0.a), .d (cS v0.b), .d (cI v0.start), .d (cI v0.units), .d (cI v0.call), .d (cI v0.part), .d (cB v0.last), .d (cI v0.trunk), .d (cB v0.inbound)]], [⟨9, 1, v7j3.length, none⟩]⟩
          refine .seq ?_
          refine .region ?_
          refine .q (q_move rfl) rfl ?_
          obtain ⟨y6, hy6, H⟩ := bind_some' H
          refine .g (x := .d (cS y6)) (g_call en_40 rfl rfl (c_x_Join (hy6))) rfl ?_
          refine .q (q_assign rfl) rfl ?_
          refine .q (q_assign rfl) rfl ?_
          refine .nil ?_
          refine .retN [.tmp 2, .tmp 3] [.d (cS y6), .d (cI 0)] Tryd.func26 Tryd.results26 ⟨rfl, rfl, trivial⟩ ?_
          cases H
          exact ⟨_, EVle.tupL (ds := [cS y6, cI 0]) ⟨.rfl' _, .rfl' _, trivial⟩, rfl⟩
        · intro hj3
          refine .seq ?_
          refine .region ?_
          refine .q (q_fieldRef fo_34_10 rfl) rfl ?_
          refine .q (x := .d (cI v0.trunk)) (q_loadO one_3 rfl rfl rfl) rfl ?_
          refine .q (q_neq rfl rfl) rfl ?_
          refine .nil ?_
          refine .cond rfl (fun hc => ?_) (fun hc => ?_)
          · replace H := ifT hc H; clear hc
            refine .seq ?_
            refine .region ?_
            refine .q (q_assign rfl) rfl ?_
            refine .nil ?_
            refine .seqJoin (ι := List UInt8) (fun s => [(1, .ref 0 0), (5, .d (.ex (.func (.func 39) #[] #[]))), (7, .tsl 1 (v7j2.map rS) 0), (8, .d (cS s))]) (fun s => ⟨[.row 34 [.d (cI v0.source), .d (cI v0.serial), .d (cI v0.kind), .d (cS v0.a), .d (cS v0.b), .d (cI v0.start), .d (cI v0.units), .d (cI v0.call), .d (cI v0.part), .d (cB v0.last), .d (cI v0.trunk), .d (cB v0.inbound)]], [⟨9, 1, v7j2.length, none⟩]⟩) (fun s => f_textual_Encode_j4 v0 v7j2 s = some r) ?_ ?_
            · rintro v8j4 H
              replace H : f_textual_Encode_j4 v0 v7j2 v8j4 = some r := H
              unfold f_textual_Encode_j4 at H
              change ARun _ _ _ _ _ _ [(1, .ref 0 0), (5, .d (.ex (.func (.func 39) #[] #[]))), (7, .tsl 1 (v7j2.map rS) 0), (8, .d (cS v8j4))] ⟨[.row 34 [.d (cI v0.source), .d (cI v0.serial), .d (cI v0.kind), .d (cS v0.a), .d (cS v0.b), .d (cI v0.start), .d (cI v0.units), .d (cI v0.call), .d (cI v0.part), .d (cB v0.last), .d (cI v0.trunk), .d (cB v0.inbound)]], [⟨9, 1, v7j2.length, none⟩]⟩
              refine .region ?_
              refine .q (q_move rfl) rfl ?_
              refine .q (q_move rfl) rfl ?_
              refine .q (q_move rfl) rfl ?_
              refine .q (q_fieldRef fo_34_10 rfl) rfl ?_
              refine .q (x := .d (cI v0.trunk)) (q_loadO one_3 rfl rfl rfl) rfl ?_
              obtain ⟨y7, hy7, H⟩ := bind_some' H
              refine .g (x := .d (cS y7)) (g_callF en_39 rfl rfl rfl (c_x_Itoa (hy7))) rfl ?_
              refine .g (x := .d (slOf 1 rS ([v8j4, y7] : List (List UInt8)))) (g_buildSliceN (n := 2) (rows := ([v8j4, y7] : List (List UInt8)).map rS) Tryd.underlying68 hi9 hs9 hz9 rfl rfl rfl rfl rfl) rfl ?_
              obtain ⟨hk3, H⟩ := ck_some H
              refine .v (x := .tsl 1 ((v7j2 ++ ([v8j4, y7] : List (List UInt8))).map rS) 0) (v_appendL (l := v7j2) (l' := ([v8j4, y7] : List (List UInt8))) (row := rS) Tryd.underlying68 hi9 hz9 hs9 rfl (by rw [hb9]; decide) rfl rfl rfl rfl hk3) rfl ?_
              refine .withSt (st' := ⟨[.row 34 [.d (cI v0.source), .d (cI v0.serial), .d (cI v0.kind), .d (cS v0.a), .d (cS v0.b), .d (cI v0.start), .d (cI v0.units), .d (cI v0.call), .d (cI v0.part), .d (cB v0.last), .d (cI v0.trunk), .d (cB v0.inbound)]], [⟨9, 1, (v7j2 ++ ([v8j4, y7] : List (List UInt8))).length, none⟩]⟩) rfl ?_
              refine .q (q_assign rfl) rfl ?_
              refine .nil ?_
              exact .withSt (st' := ⟨[.row 34 [.d (cI v0.source), .d (cI v0.serial), .d (cI v0.kind), .d (cS v0.a), .d (cS v0.b), .d (cI v0.start), .d (cI v0.units), .d (cI v0.call), .d (cI v0.part), .d (cB v0.last), .d (cI v0.trunk), .d (cB v0.inbound)]], [⟨9, 1, (v7j2 ++ ([v8j4, y7] : List (List UInt8))).length, none⟩]⟩) rfl <| .sub (.cons rfl (.rfl' _) (.nil)) (hj3 (v7j2 ++ ([v8j4, y7] : List (List UInt8))) H)
            · intro hj4
              refine .seq ?_
              refine .region ?_
              refine .q (q_fieldRef fo_34_11 rfl) rfl ?_
              refine .q (x := .d (cB v0.inbound)) (q_loadO one_4 rfl rfl rfl) rfl ?_
              refine .nil ?_
              refine .cond rfl (fun hc => ?_) (fun hc => ?_)
              · replace H := ifT hc H; clear hc
                refine .region ?_
                refine .q (q_assign rfl) rfl ?_
                refine .nil ?_
                exact .sub (.cons rfl (.rfl' _) (.cons rfl (.rfl' _) (.cons rfl (.rfl' _) (.cons rfl (.rfl' _) (.nil))))) (hj4 ([105, 110] : List UInt8) H)
              · replace H := ifF hc H; clear hc
                refine .skip ?_
                exact .sub (.cons rfl (.rfl' _) (.cons rfl (.rfl' _) (.cons rfl (.rfl' _) (.cons rfl (.rfl' _) (.nil))))) (hj4 ([111, 117, 116] : List UInt8) H)
          · replace H := ifF hc H; clear hc
            refine .skip ?_
            exact .withSt (st' := ⟨[.row 34 [.d (cI v0.source), .d (cI v0.serial), .d (cI v0.kind), .d (cS v0.a), .d (cS v0.b), .d (cI v0.start), .d (cI v0.units), .d (cI v0.call), .d (cI v0.part), .d (cB v0.last), .d (cI v0.trunk), .d (cB v0.inbound)]], [⟨9, 1, v7j2.length, none⟩]⟩) rfl <| .sub (.cons rfl (.rfl' _) (.nil)) (hj3 v7j2 H)
      · intro hj2
        refine .seq ?_
        refine .region ?_
        refine .q (q_fieldRef fo_34_8 rfl) rfl ?_
        refine .q (x := .d (cI v0.part)) (q_loadO one_3 rfl rfl rfl) rfl ?_
        refine .q (q_neq rfl rfl) rfl ?_
        refine .nil ?_
        refine .cond rfl (fun hc => ?_) (fun hc => ?_)
        · replace H := ifT hc H; clear hc
          refine .seq ?_
          refine .drawn 10 hMix (by kernel_rfl) ?_
          show DOps _ _ _ _ _ _ _ (_ :: _) _ _ _
          refine .q (q_move rfl) rfl ?_
          refine .q (q_move rfl) rfl ?_
          refine .q (q_fieldRef fo_34_7 rfl) rfl ?_
          refine .q (x := .d (cI v0.call)) (q_loadO one_3 rfl rfl rfl) rfl ?_
          obtain ⟨y8, hy8, H⟩ := bind_some' H
          refine .g (x := .d (cS y8)) (g_callF en_39 rfl rfl rfl (c_x_Itoa (hy8))) rfl ?_
          refine .q (q_move rfl) rfl ?_
          refine .q (q_fieldRef fo_34_8 rfl) rfl ?_
          refine .q (x := .d (cI v0.part)) (q_loadO one_3 rfl rfl rfl) rfl ?_
          obtain ⟨y9, hy9, H⟩ := bind_some' H
          refine .g (x := .d (cS y9)) (g_callF en_39 rfl rfl rfl (c_x_Itoa (hy9))) rfl ?_
          refine .g (x := .d (slOf 1 rS ([([112, 97, 114, 116] : List UInt8), y8, y9] : List (List UInt8)))) (g_buildSliceN (n := 3) (rows := ([([112, 97, 114, 116] : List UInt8), y8, y9] : List (List UInt8)).map rS) Tryd.underlying68 hi9 hs9 hz9 rfl rfl rfl rfl rfl) rfl ?_
          refine .nil ?_
          show AOps _ _ _ _ _ _ (_ :: _) _ _ _
          obtain ⟨hk4, H⟩ := ck_some H
          refine .v (x := .tsl 1 ((([(([118, 116, 100, 99] : List UInt8).take (Int.toNat (v0.kind))).drop (Int.toNat (v0.kind - 1)), y2, y3, v0.a, v6j1, y4, y5] : List (List UInt8)) ++ ([([112, 97, 114, 116] : List UInt8), y8, y9] : List (List UInt8))).map rS) 0) (v_appendL (l := ([(([118, 116, 100, 99] : List UInt8).take (Int.toNat (v0.kind))).drop (Int.toNat (v0.kind - 1)), y2, y3, v0.a, v6j1, y4, y5] : List (List UInt8))) (l' := ([([112, 97, 114, 116] : List UInt8), y8, y9] : List (List UInt8))) (row := rS) Tryd.underlying68 hi9 hz9 hs9 rfl (by rw [hb9]; decide) rfl rfl rfl rfl hk4) rfl ?_
          refine .withSt (st' := ⟨[.row 34 [.d (cI v0.source), .d (cI v0.serial), .d (cI v0.kind), .d (cS v0.a), .d (cS v0.b), .d (cI v0.start), .d (cI v0.units), .d (cI v0.call), .d (cI v0.part), .d (cB v0.last), .d (cI v0.trunk), .d (cB v0.inbound)]], [⟨9, 1, (([(([118, 116, 100, 99] : List UInt8).take (Int.toNat (v0.kind))).drop (Int.toNat (v0.kind - 1)), y2, y3, v0.a, v6j1, y4, y5] : List (List UInt8)) ++ ([([112, 97, 114, 116] : List UInt8), y8, y9] : List (List UInt8))).length, none⟩]⟩) rfl ?_
          refine .q (q_assign rfl) rfl ?_
          refine .nil ?_
          refine .seq ?_
          refine .region ?_
          refine .q (q_fieldRef fo_34_9 rfl) rfl ?_
          refine .q (x := .d (cB v0.last)) (q_loadO one_4 rfl rfl rfl) rfl ?_
          refine .nil ?_
          refine .cond rfl (fun hc => ?_) (fun hc => ?_)
          · replace H := ifT hc H; clear hc
            refine .region ?_
            refine .q (q_move rfl) rfl ?_
            refine .g (x := .d (slOf 1 rS ([([108, 97, 115, 116] : List UInt8)] : List (List UInt8)))) (g_buildSlice1 Tryd.underlying68 hi9 hs9 hz9 rfl rfl rfl rfl rfl) rfl ?_
            obtain ⟨hk5, H⟩ := ck_some H
            refine .v (x := .tsl 1 (((([(([118, 116, 100, 99] : List UInt8).take (Int.toNat (v0.kind))).drop (Int.toNat (v0.kind - 1)), y2, y3, v0.a, v6j1, y4, y5] : List (List UInt8)) ++ ([([112, 97, 114, 116] : List UInt8), y8, y9] : List (List UInt8))) ++ ([([108, 97, 115, 116] : List UInt8)] : List (List UInt8))).map rS) 0) (v_appendL (l := ([(([118, 116, 100, 99] : List UInt8).take (Int.toNat (v0.kind))).drop (Int.toNat (v0.kind - 1)), y2, y3, v0.a, v6j1, y4, y5] : List (List UInt8)) ++ ([([112, 97, 114, 116] : List UInt8), y8, y9] : List (List UInt8))) (l' := ([([108, 97, 115, 116] : List UInt8)] : List (List UInt8))) (row := rS) Tryd.underlying68 hi9 hz9 hs9 rfl (by rw [hb9]; decide) rfl rfl rfl rfl hk5) rfl ?_
            refine .withSt (st' := ⟨[.row 34 [.d (cI v0.source), .d (cI v0.serial), .d (cI v0.kind), .d (cS v0.a), .d (cS v0.b), .d (cI v0.start), .d (cI v0.units), .d (cI v0.call), .d (cI v0.part), .d (cB v0.last), .d (cI v0.trunk), .d (cB v0.inbound)]], [⟨9, 1, ((([(([118, 116, 100, 99] : List UInt8).take (Int.toNat (v0.kind))).drop (Int.toNat (v0.kind - 1)), y2, y3, v0.a, v6j1, y4, y5] : List (List UInt8)) ++ ([([112, 97, 114, 116] : List UInt8), y8, y9] : List (List UInt8))) ++ ([([108, 97, 115, 116] : List UInt8)] : List (List UInt8))).length, none⟩]⟩) rfl ?_
            refine .q (q_assign rfl) rfl ?_
            refine .nil ?_
            exact .withSt (st' := ⟨[.row 34 [.d (cI v0.source), .d (cI v0.serial), .d (cI v0.kind), .d (cS v0.a), .d (cS v0.b), .d (cI v0.start), .d (cI v0.units), .d (cI v0.call), .d (cI v0.part), .d (cB v0.last), .d (cI v0.trunk), .d (cB v0.inbound)]], [⟨9, 1, ((([(([118, 116, 100, 99] : List UInt8).take (Int.toNat (v0.kind))).drop (Int.toNat (v0.kind - 1)), y2, y3, v0.a, v6j1, y4, y5] : List (List UInt8)) ++ ([([112, 97, 114, 116] : List UInt8), y8, y9] : List (List UInt8))) ++ ([([108, 97, 115, 116] : List UInt8)] : List (List UInt8))).length, none⟩]⟩) rfl <| .sub (.cons rfl (.rfl' _) (.cons rfl (.rfl' _) (.cons rfl (.rfl' _) (.nil)))) (hj2 ((([(([118, 116, 100, 99] : List UInt8).take (Int.toNat (v0.kind))).drop (Int.toNat (v0.kind - 1)), y2, y3, v0.a, v6j1, y4, y5] : List (List UInt8)) ++ ([([112, 97, 114, 116] : List UInt8), y8, y9] : List (List UInt8))) ++ ([([108, 97, 115, 116] : List UInt8)] : List (List UInt8))) H)
          · replace H := ifF hc H; clear hc
            refine .skip ?_
            exact .withSt (st' := ⟨[.row 34 [.d (cI v0.source), .d (cI v0.serial), .d (cI v0.kind), .d (cS v0.a), .d (cS v0.b), .d (cI v0.start), .d (cI v0.units), .d (cI v0.call), .d (cI v0.part), .d (cB v0.last), .d (cI v0.trunk), .d (cB v0.inbound)]], [⟨9, 1, (([(([118, 116, 100, 99] : List UInt8).take (Int.toNat (v0.kind))).drop (Int.toNat (v0.kind - 1)), y2, y3, v0.a, v6j1, y4, y5] : List (List UInt8)) ++ ([([112, 97, 114, 116] : List UInt8), y8, y9] : List (List UInt8))).length, none⟩]⟩) rfl <| .sub (.cons rfl (.rfl' _) (.cons rfl (.rfl' _) (.cons rfl (.rfl' _) (.nil)))) (hj2 (([(([118, 116, 100, 99] : List UInt8).take (Int.toNat (v0.kind))).drop (Int.toNat (v0.kind - 1)), y2, y3, v0.a, v6j1, y4, y5] : List (List UInt8)) ++ ([([112, 97, 114, 116] : List UInt8), y8, y9] : List (List UInt8))) H)
        · replace H := ifF hc H; clear hc
          refine .skip ?_
          exact .withSt (st' := ⟨[.row 34 [.d (cI v0.source), .d (cI v0.serial), .d (cI v0.kind), .d (cS v0.a), .d (cS v0.b), .d (cI v0.start), .d (cI v0.units), .d (cI v0.call), .d (cI v0.part), .d (cB v0.last), .d (cI v0.trunk), .d (cB v0.inbound)]], [⟨9, 1, ([(([118, 116, 100, 99] : List UInt8).take (Int.toNat (v0.kind))).drop (Int.toNat (v0.kind - 1)), y2, y3, v0.a, v6j1, y4, y5] : List (List UInt8)).length, none⟩]⟩) rfl <| .sub (.cons rfl (.rfl' _) (.cons rfl (.rfl' _) (.cons rfl (.rfl' _) (.nil)))) (hj2 ([(([118, 116, 100, 99] : List UInt8).take (Int.toNat (v0.kind))).drop (Int.toNat (v0.kind - 1)), y2, y3, v0.a, v6j1, y4, y5] : List (List UInt8)) H)
    · intro hj1
      refine .seq ?_
      refine .region ?_
      refine .q (q_move rfl) rfl ?_
      refine .q (q_seql rfl rfl) rfl ?_
      refine .nil ?_
      refine .cond rfl (fun hc => ?_) (fun hc => ?_)
      · replace H := ifT hc H; clear hc
        refine .region ?_
        refine .q (q_assign rfl) rfl ?_
        refine .nil ?_
        exact .sub (.cons rfl (.rfl' _) (.cons rfl (.rfl' _) (.cons rfl (.rfl' _) (.nil)))) (hj1 ([45] : List UInt8) H)
      · replace H := ifF hc H; clear hc
        refine .skip ?_
        exact .sub (.cons rfl (.rfl' _) (.cons rfl (.rfl' _) (.cons rfl (.rfl' _) (.nil)))) (hj1 v0.b H)

end Go.Proofs.YtmdpmallgcekgaaDoor
