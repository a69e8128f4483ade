/- Maps that the running calls own. -/
import Derived.Test.YtpdanklncjopoaaB6
set_option linter.unusedSimpArgs false
set_option linter.unusedVariables false
set_option linter.unusedSectionVars false
namespace Go.Abs
open Go.RowKit

/-- Keys of one kind. -/
structure KeyKind (P : Program) (key : TypeId) (κ : Type) [BEq κ] [LawfulBEq κ] where
  ke : κ → Value
  kd : TypeDesc
  und : P.underlying key = some kd
  same : ∀ a b, Instr.sameNow kd (ke a) (ke b) = some (a == b)
  bits : ∀ a, Instr.sameBits 10000 (ke a) (ke a) = true
  check : ∀ a b w, (Instr.checkKey b 10000 key (ke a)).run P w = .ok () w

def intKeys {P : Program} {key : TypeId} (h : P.underlying key = some (.int .i64)) : KeyKind P key Int where
  ke n := .int .i64 n
  kd := .int .i64
  und := h
  same a b := by simp [Instr.sameNow]
  bits a := by simp [Instr.sameBits]
  check a b w := by
    have : ∀ n, (Instr.checkKey b (n + 1) key (.int .i64 a)).run P w = .ok () w := fun n => by simp [Instr.checkKey, run_underlying h]
    exact this 9999
def strKeys {P : Program} {key : TypeId} (h : P.underlying key = some .string) : KeyKind P key (List UInt8) where
  ke s := .string ⟨s.toArray⟩
  kd := .string
  und := h
  same a b := by
    simp only [Instr.sameNow]
    rw [beq_toListBytes]
    simp
  bits a := by
    simp only [Instr.sameBits]
    rw [beq_toListBytes]; simp
  check a b w := by
    have : ∀ n, (Instr.checkKey b (n + 1) key (.string ⟨a.toArray⟩)).run P w = .ok () w := fun n => by simp [Instr.checkKey, run_underlying h]
    exact this 9999

section alist
variable {κ α : Type} [BEq κ] [LawfulBEq κ]
def afind (l : List (κ × α)) (k : κ) : Option Nat := l.findIdx? fun p => k == p.1
def alook (l : List (κ × α)) (k : κ) : Option α := (l.find? fun p => k == p.1).map (·.2)
def aset (l : List (κ × α)) (k : κ) (v : α) : List (κ × α) := match afind l k with
  | some j => l.set j (k, v)
  | none => l ++ [(k, v)]
theorem alook_nil (k : κ) : alook ([] : List (κ × α)) k = none := rfl
theorem alook_afind (l : List (κ × α)) (k : κ) : alook l k = (afind l k).bind fun j => (l[j]?).map (·.2) := by
  induction l with
  | nil => rfl
  | cons p l ih =>
    unfold alook afind at *
    rw [List.find?_cons, List.findIdx?_cons]
    by_cases h : k == p.1
    · simp [h]
    · simp only [h, Bool.false_eq_true, if_false] at *
      rw [ih]
      cases List.findIdx? (fun p => k == p.fst) l <;> simp
theorem alook_aset (l : List (κ × α)) (k k' : κ) (v : α) : alook (aset l k v) k' = if k' == k then some v else alook l k' := by
  induction l with
  | nil =>
    unfold aset afind alook
    by_cases h : k' == k <;> simp [List.find?_cons, h]
  | cons p l ih =>
    unfold aset afind at *
    rw [List.findIdx?_cons]
    by_cases h : k == p.1
    · simp only [h, if_true, List.set_cons_zero]
      have hk : k = p.1 := eq_of_beq h
      unfold alook
      rw [List.find?_cons, List.find?_cons]
      by_cases h' : k' == k
      · simp [h']
      · have : (k' == p.1) = false := by rw [← hk]; simpa using h'
        simp [h', this]
    · simp only [h, Bool.false_eq_true, if_false]
      have hcons : alook ((match Option.map (fun x => x + 1) (List.findIdx? (fun p => k == p.1) l) with
          | some j => (p :: l).set j (k, v)
          | none => (p :: l) ++ [(k, v)])) k' = if k' == p.1 then some p.2 else alook (match List.findIdx? (fun p => k == p.1) l with
          | some j => l.set j (k, v)
          | none => l ++ [(k, v)]) k' := by
        cases List.findIdx? (fun p => k == p.1) l with
        | none =>
          simp only [Option.map_none, List.cons_append]
          unfold alook
          rw [List.find?_cons]
          by_cases h2 : k' == p.1 <;> simp [h2]
        | some j =>
          simp only [Option.map_some, List.set_cons_succ]
          unfold alook
          rw [List.find?_cons]
          by_cases h2 : k' == p.1 <;> simp [h2]
      refine hcons.trans ?_
      rw [ih]
      by_cases h2 : k' == p.1
      · have hk : k' = p.1 := eq_of_beq h2
        have h3 : (k' == k) = false := by
          rw [hk]
          rw [Bool.eq_false_iff]
          intro he
          exact h (by rw [eq_of_beq he]; simp)
        simp [h2, h3, alook, List.find?_cons]
      · by_cases h3 : k' == k
        · simp [h2, h3]
        · simp [h2, h3, alook, List.find?_cons]
end alist

/-- A map's contents, laid out. -/
def mEnc {κ α : Type} (ke : κ → Value) (val : α → D) (l : List (κ × α)) : List (Value × EV) := l.map fun p => (ke p.1, .d (val p.2))

section find
variable {P : Program} {key : TypeId} {κ α : Type} [BEq κ] [LawfulBEq κ] (K : KeyKind P key κ)
theorem findNow_eq (k : κ) : ∀ (l : List (κ × α)) (ms : List MapEntry) (i : Nat), ms.map (·.key) = l.map (fun p => K.ke p.1) →
    Instr.findNow K.kd (K.ke k) ms i = some ((afind l k).bind fun j => (ms[j]?).map fun m => (i + j, m.val))
  | [], [], i, _ => rfl
  | [], m :: ms, i, h => by simp at h
  | p :: l, [], i, h => by simp at h
  | p :: l, m :: ms, i, h => by
    simp only [List.map_cons, List.cons.injEq] at h
    unfold Instr.findNow
    rw [h.1, K.same]
    by_cases hk : k == p.1
    · simp [hk, afind, List.findIdx?_cons]
    · have hkf : (k == p.1) = false := by simpa using hk
      rw [hkf]
      simp only []
      rw [findNow_eq k l ms (i + 1) h.2]
      unfold afind
      rw [List.findIdx?_cons, hkf]
      simp only [Bool.false_eq_true, if_false]
      cases List.findIdx? (fun p => k == p.1) l with
      | none => rfl
      | some j =>
        simp only [Option.bind_some, Option.map_some, List.getElem?_cons_succ]
        congr 2
        funext m
        congr 1
        omega
theorem findKey_run (k : κ) {l : List (κ × α)} {ms : List MapEntry} (h : ms.map (·.key) = l.map (fun p => K.ke p.1)) (w : World) :
    (Instr.findKey key (K.ke k) ms).run P w = .ok ((afind l k).bind fun j => (ms[j]?).map fun m => (j, m.val)) w := by
  simp only [Instr.findKey, Sem.run_bind, run_underlying K.und, Result.andThen_ok, findNow_eq K k l ms 0 h, Sem.run_pure, Nat.zero_add]
end find

theorem afind_lt {κ α : Type} [BEq κ] {l : List (κ × α)} {k : κ} {j : Nat} (h : afind l k = some j) : j < l.length := by
  unfold afind at h
  rw [List.findIdx?_eq_some_iff_getElem] at h
  exact h.1

section rules
variable {P : Program} {base : Nat} {env : Env} {st : St} {d : Option Tmp} {ty : TypeId} {pos : String} {after : Array Edge} {gd : Option (Nat × Bool)} {t t2 e key : TypeId} {x y z : Operand}
  {κ α : Type} [BEq κ] [LawfulBEq κ]

theorem map_keys {g : Ghost} {w : World} {st : St} {l : List (κ × α)} {ke : κ → Value} {val : α → D} {ms : Array MapEntry} (hl : ms.size = (mEnc ke val l).length)
    (h : ∀ (i : Nat) k x (m : MapEntry), (mEnc ke val l)[i]? = some (k, x) → ms[i]? = some m → m.key = k ∧ EVRep g w st x m.val) : ms.toList.map (·.key) = l.map fun p => ke p.1 := by
  apply List.ext_getElem?
  intro i
  rw [List.getElem?_map, List.getElem?_map]
  have hlen : ms.size = l.length := by simpa [mEnc] using hl
  by_cases hi : i < l.length
  · have h1 : ms[i]? = some (ms[i]'(by omega)) := Array.getElem?_eq_getElem (by omega)
    have h2 : l[i]? = some l[i] := List.getElem?_eq_getElem hi
    have h3 := (h i (ke l[i].1) (.d (val l[i].2)) _ (by simp [mEnc, h2]) h1).1
    rw [h2, Array.getElem?_toList, h1]
    simp [h3]
  · rw [List.getElem?_eq_none (by simp; omega), List.getElem?_eq_none (by omega)]; rfl

/-- m[k]: what is not there reads as zero. -/
theorem q_lookup (K : KeyKind P key κ) {o : Nat} {l : List (κ × α)} {val : α → D} {k : κ} {inf : TypeInfo} {zv : Value} {a0 : α} (ht : P.underlying t = some (.map key e)) (hi : P.info? e = some inf) (hz : inf.zero = some zv) (hz0 : cv zv = val a0)
    (hx : evo env x = some (.mp o)) (ho : st.objs[o]? = some (.map (mEnc K.ke val l))) (hy : evo env y = some (.d (.ex (K.ke k)))) :
    OpQ P env st ⟨d, .lookup t x y false, ty, pos, after, gd⟩ (.d (val ((alook l k).getD a0))) := by
  intro g base w tmps hinv he
  have hxr := evo_rep he hx
  generalize hv : Act.eval ⟨tmps, []⟩ x = v at hxr
  have hyv := (evo_rep he hy).ex_inv
  cases hxr with
  | mp _ hlt =>
    obtain ⟨_, ms, clock, hb, hl, hrep, _⟩ := hinv.map o _ ho
    have hkeys := map_keys hl hrep
    have hblk : g.ob o < w.heap.size := (Array.getElem?_eq_some_iff.1 hb).1
    rw [alook_afind]
    cases hf : afind l k with
    | none =>
      refine ⟨zv, .d _ _ (by simpa [hz0] using cv_rep g.lim w zv), fun w' hb' => ?_⟩
      have hb2 : w'.heap[g.ob o]? = some (.map ms clock) := (hb'.block _ hblk).trans hb
      have hfk := findKey_run (P := P) K k (l := l) hkeys w'
      rw [hf] at hfk
      simp [execOp, hv, hyv, Instr.lookup, run_underlying ht, getObj, Sem.run, hb2, K.check, hfk, zero_run hi hz]
    | some j =>
      have hj := afind_lt hf
      have hlen : ms.size = l.length := by simpa [mEnc] using hl
      have h1 : ms[j]? = some (ms[j]'(by omega)) := Array.getElem?_eq_getElem (by omega)
      have h2 : l[j]? = some l[j] := List.getElem?_eq_getElem hj
      have h3 := (hrep j (K.ke l[j].1) (.d (val l[j].2)) _ (by simp [mEnc, h2]) h1).2
      refine ⟨(ms[j]'(by omega)).val, by simpa [h2] using h3, fun w' hb' => ?_⟩
      have hb2 : w'.heap[g.ob o]? = some (.map ms clock) := (hb'.block _ hblk).trans hb
      have hfk := findKey_run (P := P) K k (l := l) hkeys w'
      rw [hf] at hfk
      have h1' : ms.toList[j]? = some (ms[j]'(by omega)) := by rw [Array.getElem?_toList]; exact h1
      simp only [Option.bind_some, h1', Option.map_some] at hfk
      simp [execOp, hv, hyv, Instr.lookup, run_underlying ht, getObj, Sem.run, hb2, K.check, hfk]

/-- v, ok := m[k]. -/
theorem q_lookupOk (K : KeyKind P key κ) {o : Nat} {l : List (κ × α)} {val : α → D} {k : κ} {inf : TypeInfo} {zv : Value} {a0 : α} (ht : P.underlying t = some (.map key e)) (hi : P.info? e = some inf) (hz : inf.zero = some zv) (hz0 : cv zv = val a0)
    (hx : evo env x = some (.mp o)) (ho : st.objs[o]? = some (.map (mEnc K.ke val l))) (hy : evo env y = some (.d (.ex (K.ke k)))) :
    OpQ P env st ⟨d, .lookup t x y true, ty, pos, after, gd⟩ (.d (.tup [val ((alook l k).getD a0), .ex (.bool (alook l k).isSome)])) := by
  intro g base w tmps hinv he
  have hxr := evo_rep he hx
  generalize hv : Act.eval ⟨tmps, []⟩ x = v at hxr
  have hyv := (evo_rep he hy).ex_inv
  have mk : ∀ (u : Value) (b : Bool) (c : D), DRep g.lim w c u → EVRep g w st (.d (.tup [c, .ex (.bool b)])) (.tuple #[u, .bool b]) := by
    intro u b c h
    refine .d _ _ (.tup _ _ rfl ?_)
    intro i c' u' hc hu
    match i with
    | 0 => simp at hc hu; subst hc; subst hu; exact h
    | 1 => simp at hc hu; subst hc; subst hu; exact .ex _
    | n + 2 => simp at hc
  cases hxr with
  | mp _ hlt =>
    obtain ⟨_, ms, clock, hb, hl, hrep, _⟩ := hinv.map o _ ho
    have hkeys := map_keys hl hrep
    have hblk : g.ob o < w.heap.size := (Array.getElem?_eq_some_iff.1 hb).1
    rw [alook_afind]
    cases hf : afind l k with
    | none =>
      simp only [Option.bind_none, Option.getD_none, Option.isSome_none]
      refine ⟨_, mk zv false _ (by rw [← hz0]; exact cv_rep g.lim w zv), fun w' hb' => ?_⟩
      have hb2 : w'.heap[g.ob o]? = some (.map ms clock) := (hb'.block _ hblk).trans hb
      have hfk := findKey_run (P := P) K k (l := l) hkeys w'
      rw [hf] at hfk
      simp [execOp, hv, hyv, Instr.lookup, run_underlying ht, getObj, Sem.run, hb2, K.check, hfk, zero_run hi hz]
    | some j =>
      have hj := afind_lt hf
      have hlen : ms.size = l.length := by simpa [mEnc] using hl
      have h1 : ms[j]? = some (ms[j]'(by omega)) := Array.getElem?_eq_getElem (by omega)
      have h2 : l[j]? = some l[j] := List.getElem?_eq_getElem hj
      have h3 := (hrep j (K.ke l[j].1) (.d (val l[j].2)) _ (by simp [mEnc, h2]) h1).2
      have h3' : DRep g.lim w (val l[j].2) (ms[j]'(by omega)).val := by cases h3 with | d _ _ h => exact h
      simp only [Option.bind_some, h2, Option.map_some, Option.getD_some, Option.isSome_some]
      refine ⟨_, mk (ms[j]'(by omega)).val true _ h3', fun w' hb' => ?_⟩
      have hb2 : w'.heap[g.ob o]? = some (.map ms clock) := (hb'.block _ hblk).trans hb
      have hfk := findKey_run (P := P) K k (l := l) hkeys w'
      rw [hf] at hfk
      have h1' : ms.toList[j]? = some (ms[j]'(by omega)) := by rw [Array.getElem?_toList]; exact h1
      simp only [Option.bind_some, h1', Option.map_some] at hfk
      simp [execOp, hv, hyv, Instr.lookup, run_underlying ht, getObj, Sem.run, hb2, K.check, hfk]

theorem v_makeMap : OpV P base env st ⟨d, .makeMap t none, ty, pos, after, gd⟩ (.mp st.objs.length) (st.add (.map [])) := by
  intro g w tmps hinv he
  obtain ⟨g', hi, hs, hob⟩ := hinv.newObj (.map []) (.map #[] 0) (fun ty' cs' e => by cases e) (fun es e => by cases e; exact ⟨rfl, rfl⟩)
  refine ⟨.map (some w.heap.size), g', _, ?_, ?_, hi, hs⟩
  · simp [execOp, Instr.makeMap]
  · rw [← hob]; exact .mp _ (by simp [St.add])

/-- m[k] = v. -/
theorem u_mapUpdate (K : KeyKind P key κ) {o : Nat} {l : List (κ × α)} {val : α → D} {k : κ} {a : α} {ev : EV} (ht : P.underlying t = some (.map key e)) (hx : evo env x = some (.mp o)) (ho : st.objs[o]? = some (.map (mEnc K.ke val l)))
    (hy : evo env y = some (.d (.ex (K.ke k)))) (hz : evo env z = some ev) (hzd : toD ev = some (val a)) :
    OpU P base env st ⟨d, .mapUpdate t x y z, ty, pos, after, gd⟩ (st.set o (.map (mEnc K.ke val (aset l k a)))) := by
  intro g w tmps hinv he
  have hxr := evo_rep he hx
  generalize hv : Act.eval ⟨tmps, []⟩ x = v at hxr
  have hyv := (evo_rep he hy).ex_inv
  have hzr : EVRep g w st (.d (val a)) (Act.eval ⟨tmps, []⟩ z) := toD_le hzd _ _ _ _ (evo_rep he hz)
  generalize hu : Act.eval ⟨tmps, []⟩ z = u at hzr
  cases hxr with
  | mp _ hlt =>
    obtain ⟨hbase, ms, clock, hb, hl, hrep, hborn, hdist⟩ := hinv.map o _ ho
    have hkeys := map_keys hl hrep
    have hblk : g.ob o < w.heap.size := (Array.getElem?_eq_some_iff.1 hb).1
    have hlen : ms.size = l.length := by simpa [mEnc] using hl
    have hfk := findKey_run (P := P) K k (l := l) hkeys w
    -- a map's block is nowhere published: no cell of it can be
    have hset : ∀ ob : Obj, ({ w with heap := w.heap.setIfInBounds (g.ob o) ob } : World).heap.size = w.heap.size := fun ob => by simp
    have hoth : ∀ ob : Obj, ∀ b, b ≠ g.ob o → ({ w with heap := w.heap.setIfInBounds (g.ob o) ob } : World).heap[b]? = w.heap[b]? := fun ob b hb' => by simp [Array.getElem?_setIfInBounds, Ne.symm hb']
    have hsame : ∀ ob : Obj, ({ w with heap := w.heap.setIfInBounds (g.ob o) ob } : World).heap[g.ob o]? = some ob := fun ob => by simp [hblk]
    have key : ∀ (ms' : Array MapEntry) (clock' : Nat), ms'.size = (aset l k a).length →
        (∀ (i : Nat) (p : κ × α) (m : MapEntry), (aset l k a)[i]? = some p → ms'[i]? = some m → m.key = K.ke p.1 ∧ EVRep g w st (.d (val p.2)) m.val) →
        (∀ (i : Nat) (m : MapEntry), ms'[i]? = some m → m.born < clock') → (∀ (i j : Nat) (m m' : MapEntry), ms'[i]? = some m → ms'[j]? = some m' → m.born = m'.born → i = j) →
        (execOp (Act.eval ⟨tmps, []⟩) ⟨d, .mapUpdate t x y z, ty, pos, after, gd⟩).run P w = .ok .skip { w with heap := w.heap.setIfInBounds (g.ob o) (.map ms' clock') } →
        ∃ g' w', (execOp (Act.eval ⟨tmps, []⟩) ⟨d, .mapUpdate t x y z, ty, pos, after, gd⟩).run P w = .ok .skip w' ∧ Inv g' base w' (st.set o (.map (mEnc K.ke val (aset l k a)))) ∧ Step base g w st g' w' (st.set o (.map (mEnc K.ke val (aset l k a)))) := by
      intro ms' clock' k1 k2 k3 k4 k5
      -- the ghost that says that nothing of this block is published
      let g2 : Ghost := ⟨fun b => if b = g.ob o then 0 else g.lim b, g.ob, g.tk⟩
      have hnoc : ∀ off, w.cell? ⟨g.ob o, off, none⟩ = none := fun off => by simp [World.cell?, hb]
      have hevo : Evo g.lim w g.lim { w with heap := w.heap.setIfInBounds (g.ob o) (.map ms' clock') } := by
        refine ⟨by rw [hset]; exact Nat.le_refl _, fun _ _ => Nat.le_refl _, fun b off hb' ho' => ?_⟩
        by_cases hbo : b = g.ob o
        · subst hbo
          rw [hnoc]
          simp [World.cell?, hblk]
        · exact World.cell?_of_block (w := w) (a := ⟨b, off, none⟩) (hoth _ b hbo)
      have hlive : st.live o := ⟨_, ho, by simp⟩
      have hlo : o < st.objs.length := (List.getElem?_eq_some_iff.1 ho).1
      have hs : SEvo g w st g { w with heap := w.heap.setIfInBounds (g.ob o) (.map ms' clock') } (st.set o (.map (mEnc K.ke val (aset l k a)))) :=
        ⟨hevo, fun _ _ => rfl, by simp [St.set], fun t e sz n ht => ⟨n, ht, Nat.le_refl _, fun _ => rfl⟩, Nat.le_refl _, own_same fun _ _ _ _ h _ => ⟨h, rfl⟩⟩
      have hother : ∀ o' y, o' ≠ o → (st.set o (.map (mEnc K.ke val (aset l k a)))).objs[o']? = some y → st.objs[o']? = some y := by
        intro o' y hne hy'
        simpa [St.set, List.getElem?_set, Ne.symm hne] using hy'
      have hrw : ∀ o' y, (st.set o (.map (mEnc K.ke val (aset l k a)))).objs[o']? = some (.raw y) → base ≤ g.ob o' ∧ g.lim (g.ob o') = 0 ∧ (w.heap.setIfInBounds (g.ob o) (.map ms' clock'))[g.ob o']? = some y := by
        intro o' y hx'
        have hne : o' ≠ o := by
          rintro rfl
          simp [St.set, hlo] at hx'
        have hy' := hother o' _ hne hx'
        obtain ⟨h1, h2, h3⟩ := hinv.raw o' y hy'
        have hne' := hinv.ne o' o hne ⟨_, hy', by simp⟩ hlive
        exact ⟨h1, h2, by rw [hoth _ _ hne']; exact h3⟩
      refine ⟨g, _, k5, ⟨by rw [hset]; exact hinv.base, ?_, ?_, hrw, ?_, ?_, hinv.tailNe, ?_, hinv.glob.below ⟨rfl, rfl, rfl, by rw [hset]; exact Nat.le_refl _, fun b hb' => hoth _ b (by omega)⟩, ?_⟩, ⟨hs, ⟨rfl, rfl, rfl, by rw [hset]; exact Nat.le_refl _, fun b hb' => hoth _ b (by omega)⟩, fun _ _ => rfl,
          fun b _ hn => ⟨hoth _ b (fun e => hn (.inl ⟨o, hlive, e.symm⟩)), rfl⟩, fun b _ hw => hw.elim (fun ⟨o', a1, a2⟩ => .inl ⟨o', live_set hlive a1, a2⟩) .inr⟩⟩
      · intro o' ty' cs hx'
        have hne : o' ≠ o := by
          rintro rfl
          simp [St.set, hlo] at hx'
        have hy' := hother o' _ hne hx'
        obtain ⟨h1, h2, vs, h3, h4, h5⟩ := hinv.row o' ty' cs hy'
        have hne' := hinv.ne o' o hne ⟨_, hy', by simp⟩ hlive
        exact ⟨h1, h2, vs, by rw [hoth _ _ hne']; exact h3, h4, fun i c u hc hu => ⟨(h5 i c u hc hu).1.mono hs, (h5 i c u hc hu).2⟩⟩
      · intro o' es hx'
        by_cases hne : o' = o
        · subst hne
          have hes : mEnc K.ke val (aset l k a) = es := by simpa [St.set, hlo] using hx'
          subst hes
          refine ⟨hbase, ms', clock', hsame _, by simpa [mEnc] using k1, fun i kk yy m hm1 hm2 => ?_, k3, k4⟩
          simp only [mEnc, List.getElem?_map] at hm1
          cases hp : (aset l k a)[i]? with
          | none => rw [hp] at hm1; cases hm1
          | some p =>
            rw [hp] at hm1
            cases hm1
            exact ⟨(k2 i p m hp hm2).1, (k2 i p m hp hm2).2.mono hs⟩
        · have hy' := hother o' _ hne hx'
          obtain ⟨h1, ms2, c2, h3, h4, h5, h6⟩ := hinv.map o' es hy'
          have hne' := hinv.ne o' o hne ⟨_, hy', by simp⟩ hlive
          exact ⟨h1, ms2, c2, by rw [hoth _ _ hne']; exact h3, h4, fun i kk yy m a b => ⟨(h5 i kk yy m a b).1, (h5 i kk yy m a b).2.mono hs⟩, h6⟩
      · exact fun o1 o2 hne h1 h2 => hinv.ne o1 o2 hne (live_set hlive h1) (live_set hlive h2)
      · intro t' e' sz' n' ht'
        obtain ⟨xs, h1, h2⟩ := hinv.tail t' e' sz' n' ht'
        refine ⟨xs, ?_, h2⟩
        obtain ⟨m1, m2⟩ := h1
        refine ⟨m1, ?_⟩
        rcases m2 with m2 | ⟨gb, cap, cur, e1, e2, e3, e4⟩
        · exact .inl m2
        · refine .inr ⟨gb, cap, cur, e1, e2, ?_, e4⟩
          rw [hoth _ gb ?_]
          · exact e3
          · intro hgb
            subst hgb
            rw [hb] at e3
            cases e3
      · exact fun t' x' o' ht' hl' => hinv.tailObj t' x' o' ht' (live_set hlive hl')
      · intro t' e' sz' n' rows ht'
        obtain ⟨xs, h1, h2, h3⟩ := hinv.own t' e' sz' n' rows ht'
        exact ⟨xs, ownsRow_keep h1 fun b hb' => hoth _ b fun e => hinv.tailObj t' _ o ht' hlive (by rw [hb', e]), h2, h3.mono hevo⟩
    cases hf : afind l k with
    | none =>
      rw [hf] at hfk
      simp only [Option.bind_none] at hfk
      have haset : aset l k a = l ++ [(k, a)] := by unfold aset; rw [hf]
      refine key (ms.push ⟨K.ke k, u, clock⟩) (clock + 1) (by simp [haset, hlen]) ?_ ?_ ?_ ?_
      · intro i p m hp hm
        rw [haset] at hp
        by_cases hi : i < l.length
        · rw [List.getElem?_append_left hi] at hp
          rw [Array.getElem?_push_lt (by omega)] at hm
          have := hrep i (K.ke p.1) (.d (val p.2)) m (by simp [mEnc, hp]) (by rw [Array.getElem?_eq_getElem (by omega)]; exact hm)
          exact this
        · have hi' : i = l.length := by
            have := (List.getElem?_eq_some_iff.1 hp).1
            simp at this
            omega
          subst hi'
          simp at hp
          subst hp
          rw [← hlen] at hm
          simp at hm
          subst hm
          exact ⟨rfl, hzr⟩
      · intro i m hm
        by_cases hi : i < ms.size
        · rw [Array.getElem?_push_lt hi] at hm
          have := hborn i m (by rw [Array.getElem?_eq_getElem hi]; exact hm)
          omega
        · have hlt' := (Array.getElem?_eq_some_iff.1 hm).1
          simp at hlt'
          have : i = ms.size := by omega
          subst this
          simp at hm
          subst hm
          exact Nat.lt_succ_self _
      · intro i j m m' hm hm' hbb
        have get : ∀ (i : Nat) m, (ms.push ⟨K.ke k, u, clock⟩)[i]? = some m → (i < ms.size ∧ ms[i]? = some m) ∨ (i = ms.size ∧ m.born = clock) := by
          intro i m hm
          by_cases hi : i < ms.size
          · rw [Array.getElem?_push_lt hi] at hm
            exact .inl ⟨hi, by rw [Array.getElem?_eq_getElem hi]; exact hm⟩
          · have hlt' := (Array.getElem?_eq_some_iff.1 hm).1
            simp at hlt'
            have : i = ms.size := by omega
            subst this
            simp at hm
            subst hm
            exact .inr ⟨rfl, rfl⟩
        rcases get i m hm with ⟨h1, h2⟩ | ⟨h1, h2⟩ <;> rcases get j m' hm' with ⟨h3, h4⟩ | ⟨h3, h4⟩
        · exact hdist i j m m' h2 h4 hbb
        · have := hborn i m h2; omega
        · have := hborn j m' h4; omega
        · omega
      · simp [execOp, hv, hyv, hu, Instr.mapUpdate, run_underlying ht, getObj, setObj, Sem.run, hb, K.check, hfk]
    | some j =>
      have hj := afind_lt hf
      have haset : aset l k a = l.set j (k, a) := by unfold aset; rw [hf]
      have hlj : (k == l[j].1) = true := by
        unfold afind at hf
        rw [List.findIdx?_eq_some_iff_getElem] at hf
        exact hf.2.1
      have hkj : k = l[j].1 := eq_of_beq hlj
      have h1 : ms[j]? = some (ms[j]'(by omega)) := Array.getElem?_eq_getElem (by omega)
      have h1' : ms.toList[j]? = some (ms[j]'(by omega)) := by rw [Array.getElem?_toList]; exact h1
      rw [hf] at hfk
      simp only [Option.bind_some, h1', Option.map_some] at hfk
      have hkey : (ms[j]'(by omega)).key = K.ke k := by
        have := (hrep j (K.ke l[j].1) (.d (val l[j].2)) _ (by simp [mEnc, List.getElem?_eq_getElem hj]) h1).1
        rw [this, hkj]
      have hmod : ∀ (i : Nat) m, (ms.modify j fun e => { e with key := K.ke k, val := u })[i]? = some m → (i = j ∧ m = { (ms[j]'(by omega)) with key := K.ke k, val := u }) ∨ (i ≠ j ∧ ms[i]? = some m) := by
        intro i m hm
        rw [Array.getElem?_modify] at hm
        by_cases hij : j = i
        · subst hij
          rw [if_pos rfl, h1] at hm
          cases hm
          exact .inl ⟨rfl, rfl⟩
        · rw [if_neg hij] at hm
          exact .inr ⟨Ne.symm hij, hm⟩
      refine key (ms.modify j fun e => { e with key := K.ke k, val := u }) clock (by simp [haset, hlen]) ?_ ?_ ?_ ?_
      · intro i p m hp hm
        rw [haset, List.getElem?_set] at hp
        rcases hmod i m hm with ⟨rfl, rfl⟩ | ⟨hne, hm'⟩
        · rw [if_pos rfl] at hp
          simp [hj] at hp
          subst hp
          exact ⟨rfl, hzr⟩
        · rw [if_neg (Ne.symm hne)] at hp
          exact hrep i (K.ke p.1) (.d (val p.2)) m (by simp [mEnc, hp]) hm'
      · intro i m hm
        rcases hmod i m hm with ⟨rfl, rfl⟩ | ⟨hne, hm'⟩
        · exact hborn _ (ms[i]'(by omega)) h1
        · exact hborn _ _ hm'
      · intro i i' m m' hm hm' hbb
        rcases hmod i m hm with ⟨rfl, rfl⟩ | ⟨hne, h2⟩ <;> rcases hmod i' m' hm' with ⟨rfl, rfl⟩ | ⟨hne', h2'⟩
        · rfl
        · exact hdist _ _ (ms[i]'(by omega)) _ h1 h2' hbb
        · exact hdist _ _ _ (ms[i']'(by omega)) h2 h1 hbb
        · exact hdist _ _ _ _ h2 h2' hbb
      · have hbits : Instr.sameBits 10000 (K.ke k) (K.ke k) = true := K.bits k
        simp [execOp, hv, hyv, hu, Instr.mapUpdate, run_underlying ht, getObj, setObj, Sem.run, hb, K.check, hfk, Instr.keyThatStays, h1, hkey, hbits]
end rules
end Go.Abs
