/- Our own texts G11 G12 G13 G14 G15 G16 G17 G18 G19 G20 LTys LF E1 of this seat in one. -/
import Derived.Test.YtccmaffefdcikaaDoorZ1
import Derived.ChangeKeysEq
import Derived.Test.YtccmaffefdcikaaDoorRows
import Derived.Lib.ItoaNum
import Derived.Lib.Join
import Derived.Sort.Grow
import Derived.Deep.Draws
/- Maps of whatever the running calls own; literals of maps; entries taken away. -/
set_option linter.unusedSimpArgs false
set_option linter.unusedVariables false
set_option linter.unusedSectionVars false
namespace Go.Abs
open Go.RowKit

/-- Keys, by how they are found. -/
structure KeyF (P : Program) (key : TypeId) (κ : Type) [BEq κ] [LawfulBEq κ] where
  ke : κ → Value
  find : ∀ {α : Type} (k : κ) (l : List (κ × α)) (ms : List MapEntry) (w : World), ms.map (·.key) = l.map (fun p => ke p.1) →
    (Instr.findKey key (ke k) ms).run P w = .ok ((afind l k).bind fun j => (ms[j]?).map fun m => (j, m.val)) w
  bits : ∀ a, Instr.sameBits 10000 (ke a) (ke a) = true
  check : ∀ a b w, (Instr.checkKey b 10000 key (ke a)).run P w = .ok () w
def KeyKind.toF {P : Program} {key : TypeId} {κ : Type} [BEq κ] [LawfulBEq κ] (K : KeyKind P key κ) : KeyF P key κ where
  ke := K.ke
  find k l ms w h := findKey_run K k h w
  bits := K.bits
  check := K.check
def intKF {P : Program} {key : TypeId} (h : P.underlying key = some (.int .i64)) : KeyF P key Int := (intKeys h).toF
def strKF {P : Program} {key : TypeId} (h : P.underlying key = some .string) : KeyF P key (List UInt8) := (strKeys h).toF
theorem exKey {lim : Nat → Nat} {w : World} {u v : Value} (h : DRep lim w (.ex u) v) : v = u := by cases h; rfl

/-- Keys that are found by asking whether they are equal. -/
def askKF {P : Program} {key : TypeId} {κ : Type} [BEq κ] [LawfulBEq κ] (ke : κ → Value) {kd : TypeDesc} (hu : P.underlying key = some kd)
    (hnow : ∀ a b, Instr.sameNow kd (ke a) (ke b) = none) (heq : ∀ a b w, (Op.equal key (ke a) (ke b)).run P w = .ok (a == b) w)
    (hbits : ∀ a, Instr.sameBits 10000 (ke a) (ke a) = true) (hcheck : ∀ a b w, (Instr.checkKey b 10000 key (ke a)).run P w = .ok () w) : KeyF P key κ where
  ke := ke
  find := by
    intro α k l ms w h
    have ask : ∀ (l : List (κ × α)) (ms : List MapEntry) (i : Nat), ms.map (·.key) = l.map (fun p => ke p.1) →
        (Instr.findAsking key (ke k) ms i).run P w = .ok ((afind l k).bind fun j => (ms[j]?).map fun m => (i + j, m.val)) w := by
      intro l
      induction l with
      | nil =>
        intro ms i h
        have : ms = [] := by simpa using h
        subst this
        simp [Instr.findAsking, afind]
      | cons p l ih =>
        intro ms i h
        cases ms with
        | nil => simp at h
        | cons m ms =>
          simp only [List.map_cons, List.cons.injEq] at h
          have h2 := ih ms (i + 1) h.2
          unfold Instr.findAsking
          rw [h.1]
          simp only [Sem.run_bind, heq, Result.andThen_ok]
          by_cases hk : k == p.1
          · simp [hk, afind, List.findIdx?_cons]
          · have hkf : (k == p.1) = false := by simpa using hk
            simp only [hkf, Bool.false_eq_true, if_false, h2]
            unfold afind
            rw [List.findIdx?_cons, hkf]
            simp only [Bool.false_eq_true, if_false]
            cases List.findIdx? (fun p => k == p.1) l with
            | none => rfl
            | some j =>
              simp only [Option.bind_some, Option.map_some, List.getElem?_cons_succ]
              congr 2
              funext m
              congr 1
              omega
    have hf : ∀ (ms : List MapEntry) (l : List (κ × α)), ms.map (·.key) = l.map (fun p => ke p.1) → Instr.findNow kd (ke k) ms 0 = none ∨ ms = [] := by
      intro ms l h
      cases ms with
      | nil => exact .inr rfl
      | cons m ms =>
        cases l with
        | nil => simp at h
        | cons p l =>
          simp only [List.map_cons, List.cons.injEq] at h
          left
          unfold Instr.findNow
          rw [h.1, hnow]
    rcases hf ms l h with h0 | h0
    · simp only [Instr.findKey, Sem.run_bind, run_underlying hu, Result.andThen_ok, h0]
      have := ask l ms 0 h
      simpa using this
    · subst h0
      have : l = [] := by simpa using h.symm
      subst this
      simp [Instr.findKey, run_underlying hu, Instr.findNow, afind]
  bits := hbits
  check := hcheck

/-- A map's contents: entries of whatever kind. -/
def encE {κ : Type} (ke : κ → Value) (l : List (κ × EV)) : List (Value × EV) := l.map fun p => (ke p.1, p.2)
def valE {κ α : Type} (val : α → D) (l : List (κ × α)) : List (κ × EV) := l.map fun p => (p.1, .d (val p.2))
theorem mEnc_eq {κ α : Type} {ke : κ → Value} {val : α → D} {l : List (κ × α)} : mEnc ke val l = encE ke (valE val l) := by
  simp [mEnc, encE, valE]

section alist
variable {κ α β : Type} [BEq κ] [LawfulBEq κ]
theorem eraseIdx_map' {γ δ : Type} (f : γ → δ) : ∀ (l : List γ) (j : Nat), (l.map f).eraseIdx j = (l.eraseIdx j).map f
  | [], _ => rfl
  | _ :: _, 0 => rfl
  | a :: l, j + 1 => by simp [eraseIdx_map' f l j]
def aerase (l : List (κ × α)) (k : κ) : List (κ × α) := match afind l k with
  | some j => l.eraseIdx j
  | none => l
theorem afind_map (f : α → β) (l : List (κ × α)) (k : κ) : afind (l.map fun p => (p.1, f p.2)) k = afind l k := by
  unfold afind; rw [List.findIdx?_map]; rfl
theorem alook_map (f : α → β) (l : List (κ × α)) (k : κ) : alook (l.map fun p => (p.1, f p.2)) k = (alook l k).map f := by
  rw [alook_afind, alook_afind, afind_map]
  cases afind l k with
  | none => rfl
  | some j => simp only [Option.bind_some, List.getElem?_map]; cases l[j]? <;> rfl
theorem aset_map (f : α → β) (l : List (κ × α)) (k : κ) (a : α) : aset (l.map fun p => (p.1, f p.2)) k (f a) = (aset l k a).map fun p => (p.1, f p.2) := by
  unfold aset
  rw [afind_map]
  cases afind l k with
  | none => simp
  | some j => simp [List.map_set]
theorem aerase_map (f : α → β) (l : List (κ × α)) (k : κ) : aerase (l.map fun p => (p.1, f p.2)) k = (aerase l k).map fun p => (p.1, f p.2) := by
  unfold aerase
  rw [afind_map]
  cases afind l k with
  | none => rfl
  | some j => simp only []; rw [eraseIdx_map']
theorem afind_some {l : List (κ × α)} {k : κ} {j : Nat} (h : afind l k = some j) : ∃ a, l[j]? = some (k, a) := by
  unfold afind at h
  rw [List.findIdx?_eq_some_iff_getElem] at h
  obtain ⟨h1, h2, _⟩ := h
  exact ⟨l[j].2, by rw [List.getElem?_eq_getElem h1, eq_of_beq h2]⟩
/-- In a list without double keys, what stands there is found. -/
theorem alook_of_mem : ∀ {l : List (κ × α)} {k : κ} {a : α}, (l.map (·.1)).Nodup → (k, a) ∈ l → alook l k = some a
  | [], _, _, _, h => by cases h
  | p :: l, k, a, hn, h => by
    simp only [List.map_cons, List.nodup_cons] at hn
    unfold alook
    rw [List.find?_cons]
    rcases List.mem_cons.1 h with rfl | h
    · simp
    · have hne : (k == p.1) = false := by
        rw [Bool.eq_false_iff]
        intro he
        exact hn.1 (eq_of_beq he ▸ List.mem_map_of_mem (f := (·.1)) h)
      rw [hne]
      exact alook_of_mem hn.2 h
theorem alook_none {l : List (κ × α)} {k : κ} (h : k ∉ l.map (·.1)) : alook l k = none := by
  unfold alook
  rw [List.find?_eq_none.2]
  · rfl
  · intro p hp he
    exact h (eq_of_beq he ▸ List.mem_map_of_mem (f := (·.1)) hp)
theorem afind_none {l : List (κ × α)} {k : κ} (h : k ∉ l.map (·.1)) : afind l k = none := by
  unfold afind
  rw [List.findIdx?_eq_none_iff]
  intro p hp
  rw [Bool.eq_false_iff]
  intro he
  exact h (eq_of_beq he ▸ List.mem_map_of_mem (f := (·.1)) hp)
end alist

section inv
variable {P : Program} {base : Nat} {g : Ghost} {w : World} {st : St}
/-- A map's contents are replaced. -/
theorem Inv.setMap (hinv : Inv g base w st) {o : Nat} {es es' : List (Value × EV)} (ho : st.objs[o]? = some (.map es)) {ms' : Array MapEntry} {clock' : Nat} (k1 : ms'.size = es'.length)
    (k2 : ∀ (i : Nat) k x (m : MapEntry), es'[i]? = some (k, x) → ms'[i]? = some m → m.key = k ∧ EVRep g w st x m.val)
    (k3 : ∀ (i : Nat) (m : MapEntry), ms'[i]? = some m → m.born < clock') (k4 : ∀ (i j : Nat) (m m' : MapEntry), ms'[i]? = some m → ms'[j]? = some m' → m.born = m'.born → i = j) :
    Inv g base { w with heap := w.heap.setIfInBounds (g.ob o) (.map ms' clock') } (st.set o (.map es')) ∧ Step base g w st g { w with heap := w.heap.setIfInBounds (g.ob o) (.map ms' clock') } (st.set o (.map es')) := by
  obtain ⟨hbase, ms, clock, hb, hl, hrep, hborn, hdist⟩ := hinv.map o _ ho
  have hblk : g.ob o < w.heap.size := (Array.getElem?_eq_some_iff.1 hb).1
  have hset : ∀ ob : Obj, ({ w with heap := w.heap.setIfInBounds (g.ob o) ob } : World).heap.size = w.heap.size := fun ob => by simp
  have hoth : ∀ ob : Obj, ∀ b, b ≠ g.ob o → ({ w with heap := w.heap.setIfInBounds (g.ob o) ob } : World).heap[b]? = w.heap[b]? := fun ob b hb' => by simp [Array.getElem?_setIfInBounds, Ne.symm hb']
  have hsame : ∀ ob : Obj, ({ w with heap := w.heap.setIfInBounds (g.ob o) ob } : World).heap[g.ob o]? = some ob := fun ob => by simp [hblk]
  have hnoc : ∀ off, w.cell? ⟨g.ob o, off, none⟩ = none := fun off => by simp [World.cell?, hb]
  have hevo : Evo g.lim w g.lim { w with heap := w.heap.setIfInBounds (g.ob o) (.map ms' clock') } := by
    refine ⟨by rw [hset]; exact Nat.le_refl _, fun _ _ => Nat.le_refl _, fun b off hb' ho' => ?_⟩
    by_cases hbo : b = g.ob o
    · subst hbo
      rw [hnoc]
      simp [World.cell?, hblk]
    · exact World.cell?_of_block (w := w) (a := ⟨b, off, none⟩) (hoth _ b hbo)
  have hlive : st.live o := ⟨_, ho, by simp⟩
  have hlo : o < st.objs.length := (List.getElem?_eq_some_iff.1 ho).1
  have hs : SEvo g w st g { w with heap := w.heap.setIfInBounds (g.ob o) (.map ms' clock') } (st.set o (.map es')) :=
    ⟨hevo, fun _ _ => rfl, by simp [St.set], fun t e sz n ht => ⟨n, ht, Nat.le_refl _, fun _ => rfl⟩, Nat.le_refl _, own_same fun _ _ _ _ h _ => ⟨h, rfl⟩⟩
  have hother : ∀ o' y, o' ≠ o → (st.set o (.map es')).objs[o']? = some y → st.objs[o']? = some y := by
    intro o' y hne hy'
    simpa [St.set, List.getElem?_set, Ne.symm hne] using hy'
  have hrw : ∀ o' y, (st.set o (.map es')).objs[o']? = some (.raw y) → base ≤ g.ob o' ∧ g.lim (g.ob o') = 0 ∧ (w.heap.setIfInBounds (g.ob o) (.map ms' clock'))[g.ob o']? = some y := by
    intro o' y hx'
    have hne : o' ≠ o := by
      rintro rfl
      simp [St.set, hlo] at hx'
    have hy' := hother o' _ hne hx'
    obtain ⟨h1, h2, h3⟩ := hinv.raw o' y hy'
    have hne' := hinv.ne o' o hne ⟨_, hy', by simp⟩ hlive
    exact ⟨h1, h2, by rw [hoth _ _ hne']; exact h3⟩
  refine ⟨⟨by rw [hset]; exact hinv.base, ?_, ?_, hrw, ?_, ?_, hinv.tailNe, ?_, hinv.glob.below ⟨rfl, rfl, rfl, by rw [hset]; exact Nat.le_refl _, fun b hb' => hoth _ b (by omega)⟩, ?_⟩, ⟨hs, ⟨rfl, rfl, rfl, by rw [hset]; exact Nat.le_refl _, fun b hb' => hoth _ b (by omega)⟩, fun _ _ => rfl,
      fun b _ hn => ⟨hoth _ b (fun e => hn (.inl ⟨o, hlive, e.symm⟩)), rfl⟩, fun b _ hw => hw.elim (fun ⟨o', a1, a2⟩ => .inl ⟨o', live_set hlive a1, a2⟩) .inr⟩⟩
  · intro o' ty' cs hx'
    have hne : o' ≠ o := by
      rintro rfl
      simp [St.set, hlo] at hx'
    have hy' := hother o' _ hne hx'
    obtain ⟨h1, h2, vs, h3, h4, h5⟩ := hinv.row o' ty' cs hy'
    have hne' := hinv.ne o' o hne ⟨_, hy', by simp⟩ hlive
    exact ⟨h1, h2, vs, by rw [hoth _ _ hne']; exact h3, h4, fun i c u hc hu => ⟨(h5 i c u hc hu).1.mono hs, (h5 i c u hc hu).2⟩⟩
  · intro o' es2 hx'
    by_cases hne : o' = o
    · subst hne
      have hes : es' = es2 := by simpa [St.set, hlo] using hx'
      subst hes
      exact ⟨hbase, ms', clock', hsame _, k1, fun i kk yy m hm1 hm2 => ⟨(k2 i kk yy m hm1 hm2).1, (k2 i kk yy m hm1 hm2).2.mono hs⟩, k3, k4⟩
    · have hy' := hother o' _ hne hx'
      obtain ⟨h1, ms2, c2, h3, h4, h5, h6⟩ := hinv.map o' es2 hy'
      have hne' := hinv.ne o' o hne ⟨_, hy', by simp⟩ hlive
      exact ⟨h1, ms2, c2, by rw [hoth _ _ hne']; exact h3, h4, fun i kk yy m a b => ⟨(h5 i kk yy m a b).1, (h5 i kk yy m a b).2.mono hs⟩, h6⟩
  · exact fun o1 o2 hne h1 h2 => hinv.ne o1 o2 hne (live_set hlive h1) (live_set hlive h2)
  · intro t' e' sz' n' ht'
    obtain ⟨xs, h1, h2⟩ := hinv.tail t' e' sz' n' ht'
    exact ⟨xs, ownsRow_keep h1 fun b hb' => hoth _ b fun e => hinv.tailObj t' _ o ht' hlive (by rw [hb', e]), h2⟩
  · exact fun t' x' o' ht' hl' => hinv.tailObj t' x' o' ht' (live_set hlive hl')
  · intro t' e' sz' n' rows ht'
    obtain ⟨xs, h1, h2, h3⟩ := hinv.own t' e' sz' n' rows ht'
    exact ⟨xs, ownsRow_keep h1 fun b hb' => hoth _ b fun e => hinv.tailObj t' _ o ht' hlive (by rw [hb', e]), h2, h3.mono hevo⟩
end inv

section rules
variable {P : Program} {base : Nat} {env : Env} {st : St} {d : Option Tmp} {ty : TypeId} {pos : String} {after : Array Edge} {gd : Option (Nat × Bool)} {t t2 e key : TypeId} {x y z : Operand}
  {κ α : Type} [BEq κ] [LawfulBEq κ]

theorem encE_keys {g : Ghost} {w : World} {st : St} {l : List (κ × EV)} {ke : κ → Value} {ms : Array MapEntry} (hl : ms.size = (encE ke l).length)
    (h : ∀ (i : Nat) k x (m : MapEntry), (encE ke l)[i]? = some (k, x) → ms[i]? = some m → m.key = k ∧ EVRep g w st x m.val) : ms.toList.map (·.key) = l.map fun p => ke p.1 := by
  apply List.ext_getElem?
  intro i
  rw [List.getElem?_map, List.getElem?_map]
  have hlen : ms.size = l.length := by simpa [encE] using hl
  by_cases hi : i < l.length
  · have h1 : ms[i]? = some (ms[i]'(by omega)) := Array.getElem?_eq_getElem (by omega)
    have h2 : l[i]? = some l[i] := List.getElem?_eq_getElem hi
    have h3 := (h i (ke l[i].1) l[i].2 _ (by simp [encE, h2]) h1).1
    rw [h2, Array.getElem?_toList, h1]
    simp [h3]
  · rw [List.getElem?_eq_none (by simp; omega), List.getElem?_eq_none (by omega)]; rfl

/-- What a look into a map comes to. -/
theorem lookup_core (K : KeyF P key κ) {o : Nat} {l : List (κ × EV)} {k : κ} {dk : D} {inf : TypeInfo} {zv : Value} {c : Bool} (ht : P.underlying t = some (.map key e)) (hi : P.info? e = some inf) (hz : inf.zero = some zv)
    (hx : evo env x = some (.mp o)) (ho : st.objs[o]? = some (.map (encE K.ke l))) (hy : evo env y = some (.d dk)) (hk : ∀ lim w v, DRep lim w dk v → v = K.ke k)
    {g : Ghost} {w : World} {tmps : Array Value} (hinv : Inv g base w st) (he : EnvRep g w st env tmps) :
    ∃ v, (match alook l k with | some x => EVRep g w st x v | none => v = zv) ∧
      ∀ w', Below w.heap.size w w' → (execOp (Act.eval ⟨tmps, []⟩) ⟨d, .lookup t x y c, ty, pos, after, gd⟩).run P w' = .ok (.value (if c = true then .tuple #[v, .bool (alook l k).isSome] else v)) w' := by
  have hxr := evo_rep he hx
  generalize hv : Act.eval ⟨tmps, []⟩ x = v at hxr
  have hyv : Act.eval ⟨tmps, []⟩ y = K.ke k := by
    have := evo_rep he hy
    cases this with | d _ _ h => exact hk _ _ _ h
  cases hxr with
  | mp _ hlt =>
    obtain ⟨_, ms, clock, hb, hl, hrep, _⟩ := hinv.map o _ ho
    have hkeys := encE_keys hl hrep
    have hblk : g.ob o < w.heap.size := (Array.getElem?_eq_some_iff.1 hb).1
    rw [alook_afind]
    cases hf : afind l k with
    | none =>
      refine ⟨zv, rfl, fun w' hb' => ?_⟩
      have hb2 : w'.heap[g.ob o]? = some (.map ms clock) := (hb'.block _ hblk).trans hb
      have hfk := K.find k l ms.toList w' hkeys
      rw [hf] at hfk
      simp [execOp, hv, hyv, Instr.lookup, run_underlying ht, getObj, Sem.run, hb2, K.check, hfk, zero_run hi hz]
    | some j =>
      have hj := afind_lt hf
      have hlen : ms.size = l.length := by simpa [encE] using hl
      have h1 : ms[j]? = some (ms[j]'(by omega)) := Array.getElem?_eq_getElem (by omega)
      have h2 : l[j]? = some l[j] := List.getElem?_eq_getElem hj
      have h3 := (hrep j (K.ke l[j].1) l[j].2 _ (by simp [encE, h2]) h1).2
      simp only [Option.bind_some, h2, Option.map_some, Option.isSome_some]
      refine ⟨(ms[j]'(by omega)).val, h3, fun w' hb' => ?_⟩
      have hb2 : w'.heap[g.ob o]? = some (.map ms clock) := (hb'.block _ hblk).trans hb
      have hfk := K.find k l ms.toList w' hkeys
      rw [hf] at hfk
      have h1' : ms.toList[j]? = some (ms[j]'(by omega)) := by rw [Array.getElem?_toList]; exact h1
      simp only [Option.bind_some, h1', Option.map_some] at hfk
      simp [execOp, hv, hyv, Instr.lookup, run_underlying ht, getObj, Sem.run, hb2, K.check, hfk]
theorem pair_rep {g : Ghost} {w : World} {st : St} {u : Value} {b : Bool} {c : D} (h : EVRep g w st (.d c) u) : EVRep g w st (.d (.tup [c, .ex (.bool b)])) (.tuple #[u, .bool b]) := by
  have h' : DRep g.lim w c u := by cases h with | d _ _ h => exact h
  refine .d _ _ (.tup _ _ rfl ?_)
  intro i c' u' hc hu
  match i with
  | 0 => simp at hc hu; subst hc; subst hu; exact h'
  | 1 => simp at hc hu; subst hc; subst hu; exact .ex _
  | n + 2 => simp at hc
theorem alook_valE {val : α → D} {l : List (κ × α)} {k : κ} : alook (valE val l) k = (alook l k).map fun a => .d (val a) := alook_map (fun a => EV.d (val a)) l k
/-- m[k], for data. -/
theorem q_lookupD (K : KeyF P key κ) {o : Nat} {l : List (κ × α)} {val : α → D} {k : κ} {dk : D} {inf : TypeInfo} {zv : Value} {a0 : α} (ht : P.underlying t = some (.map key e)) (hi : P.info? e = some inf) (hz : inf.zero = some zv) (hz0 : DLe (cv zv) (val a0))
    (hx : evo env x = some (.mp o)) (ho : st.objs[o]? = some (.map (mEnc K.ke val l))) (hy : evo env y = some (.d dk)) (hk : ∀ lim w v, DRep lim w dk v → v = K.ke k) :
    OpQ P env st ⟨d, .lookup t x y false, ty, pos, after, gd⟩ (.d (val ((alook l k).getD a0))) := by
  intro g base w tmps hinv he
  rw [mEnc_eq] at ho
  obtain ⟨v, h1, h2⟩ := lookup_core (c := false) (d := d) (ty := ty) (pos := pos) (after := after) (gd := gd) K ht hi hz hx ho hy hk hinv he
  rw [alook_valE] at h1
  refine ⟨v, ?_, fun w' hb => by simpa using h2 w' hb⟩
  cases hl : alook l k with
  | none => rw [hl] at h1; simp only [Option.map_none] at h1; subst h1; exact .d _ _ (hz0 _ _ _ (cv_rep g.lim w v))
  | some a => rw [hl] at h1; exact h1
/-- v, ok := m[k], for data. -/
theorem q_lookupOkD (K : KeyF P key κ) {o : Nat} {l : List (κ × α)} {val : α → D} {k : κ} {dk : D} {inf : TypeInfo} {zv : Value} {a0 : α} (ht : P.underlying t = some (.map key e)) (hi : P.info? e = some inf) (hz : inf.zero = some zv) (hz0 : DLe (cv zv) (val a0))
    (hx : evo env x = some (.mp o)) (ho : st.objs[o]? = some (.map (mEnc K.ke val l))) (hy : evo env y = some (.d dk)) (hk : ∀ lim w v, DRep lim w dk v → v = K.ke k) :
    OpQ P env st ⟨d, .lookup t x y true, ty, pos, after, gd⟩ (.d (.tup [val ((alook l k).getD a0), .ex (.bool (alook l k).isSome)])) := by
  intro g base w tmps hinv he
  rw [mEnc_eq] at ho
  obtain ⟨v, h1, h2⟩ := lookup_core (c := true) (d := d) (ty := ty) (pos := pos) (after := after) (gd := gd) K ht hi hz hx ho hy hk hinv he
  rw [alook_valE] at h1 h2
  refine ⟨_, ?_, h2⟩
  rw [if_pos rfl]
  cases hl : alook l k with
  | none => rw [hl] at h1; simp only [Option.map_none] at h1; subst h1; exact pair_rep (.d _ _ (hz0 _ _ _ (cv_rep g.lim w v)))
  | some a => rw [hl] at h1; exact pair_rep h1
/-- p, ok := m[k], for entries of whatever kind: the key is there. -/
theorem q_lookupSome (K : KeyF P key κ) {o : Nat} {l l0 : List (κ × EV)} {k : κ} {dk : D} {ev : EV} {inf : TypeInfo} {zv : Value} (ht : P.underlying t = some (.map key e)) (hi : P.info? e = some inf) (hz : inf.zero = some zv)
    (hx : evo env x = some (.mp o)) (ho : st.objs[o]? = some (.map (encE K.ke l))) (hp : l.Perm l0) (hn : (l0.map (·.1)).Nodup) (hm : (k, ev) ∈ l0) (hy : evo env y = some (.d dk)) (hk : ∀ lim w v, DRep lim w dk v → v = K.ke k) :
    OpQ P env st ⟨d, .lookup t x y true, ty, pos, after, gd⟩ (.tup [ev, .d (.ex (.bool true))]) := by
  intro g base w tmps hinv he
  obtain ⟨v, h1, h2⟩ := lookup_core (c := true) (d := d) (ty := ty) (pos := pos) (after := after) (gd := gd) K ht hi hz hx ho hy hk hinv he
  have hl : alook l k = some ev := alook_of_mem ((hp.map _).nodup_iff.2 hn) (hp.mem_iff.2 hm)
  rw [hl] at h1 h2
  exact ⟨_, tup2 h1 (.d _ _ (.ex _)), h2⟩
/-- The key is not there. -/
theorem q_lookupNone (K : KeyF P key κ) {o : Nat} {l l0 : List (κ × EV)} {k : κ} {dk : D} {inf : TypeInfo} {zv : Value} (ht : P.underlying t = some (.map key e)) (hi : P.info? e = some inf) (hz : inf.zero = some zv)
    (hx : evo env x = some (.mp o)) (ho : st.objs[o]? = some (.map (encE K.ke l))) (hp : l.Perm l0) (hm : k ∉ l0.map (·.1)) (hy : evo env y = some (.d dk)) (hk : ∀ lim w v, DRep lim w dk v → v = K.ke k) :
    OpQ P env st ⟨d, .lookup t x y true, ty, pos, after, gd⟩ (.tup [.d .any, .d (.ex (.bool false))]) := by
  intro g base w tmps hinv he
  obtain ⟨v, h1, h2⟩ := lookup_core (c := true) (d := d) (ty := ty) (pos := pos) (after := after) (gd := gd) K ht hi hz hx ho hy hk hinv he
  have hl : alook l k = none := alook_none fun h => hm ((hp.map _).mem_iff.1 h)
  rw [hl] at h1 h2
  exact ⟨_, tup2 (.d _ _ (.any _)) (.d _ _ (.ex _)), h2⟩

/-- What is put into a map. -/
theorem update_core (K : KeyF P key κ) {o : Nat} {l : List (κ × EV)} {k : κ} {dk : D} {ev : EV} (ht : P.underlying t = some (.map key e)) (hx : evo env x = some (.mp o)) (ho : st.objs[o]? = some (.map (encE K.ke l)))
    (hy : evo env y = some (.d dk)) (hk : ∀ lim w v, DRep lim w dk v → v = K.ke k) {g : Ghost} {w : World} {tmps : Array Value} (hinv : Inv g base w st) (he : EnvRep g w st env tmps) (hz : EVRep g w st ev (Act.eval ⟨tmps, []⟩ z)) :
    ∃ w', (Instr.mapUpdate t (Act.eval ⟨tmps, []⟩ x) (Act.eval ⟨tmps, []⟩ y) (Act.eval ⟨tmps, []⟩ z)).run P w = .ok () w' ∧ Inv g base w' (st.set o (.map (encE K.ke (aset l k ev)))) ∧ Step base g w st g w' (st.set o (.map (encE K.ke (aset l k ev)))) := by
  have hxr := evo_rep he hx
  generalize hv : Act.eval ⟨tmps, []⟩ x = v at hxr
  have hyv : Act.eval ⟨tmps, []⟩ y = K.ke k := by
    have := evo_rep he hy
    cases this with | d _ _ h => exact hk _ _ _ h
  generalize hu : Act.eval ⟨tmps, []⟩ z = u at hz
  cases hxr with
  | mp _ hlt =>
    obtain ⟨hbase, ms, clock, hb, hl, hrep, hborn, hdist⟩ := hinv.map o _ ho
    have hkeys := encE_keys hl hrep
    have hblk : g.ob o < w.heap.size := (Array.getElem?_eq_some_iff.1 hb).1
    have hlen : ms.size = l.length := by simpa [encE] using hl
    have hfk := K.find k l ms.toList w hkeys
    have fin : ∀ (ms' : Array MapEntry) (clock' : Nat), ms'.size = (aset l k ev).length →
        (∀ (i : Nat) (p : κ × EV) (m : MapEntry), (aset l k ev)[i]? = some p → ms'[i]? = some m → m.key = K.ke p.1 ∧ EVRep g w st p.2 m.val) →
        (∀ (i : Nat) (m : MapEntry), ms'[i]? = some m → m.born < clock') → (∀ (i j : Nat) (m m' : MapEntry), ms'[i]? = some m → ms'[j]? = some m' → m.born = m'.born → i = j) →
        (Instr.mapUpdate t (.map (some (g.ob o))) (K.ke k) u).run P w = .ok () { w with heap := w.heap.setIfInBounds (g.ob o) (.map ms' clock') } →
        ∃ w', (Instr.mapUpdate t (.map (some (g.ob o))) (Act.eval ⟨tmps, []⟩ y) u).run P w = .ok () w' ∧ Inv g base w' (st.set o (.map (encE K.ke (aset l k ev)))) ∧ Step base g w st g w' (st.set o (.map (encE K.ke (aset l k ev)))) := by
      intro ms' clock' k1 k2 k3 k4 k5
      obtain ⟨q1, q2⟩ := hinv.setMap (es' := encE K.ke (aset l k ev)) ho (ms' := ms') (clock' := clock') (by simpa [encE] using k1) (fun i kk yy m hm1 hm2 => by
        simp only [encE, List.getElem?_map] at hm1
        cases hp : (aset l k ev)[i]? with
        | none => rw [hp] at hm1; cases hm1
        | some p => rw [hp] at hm1; cases hm1; exact k2 i p m hp hm2) k3 k4
      exact ⟨_, by rw [hyv]; exact k5, q1, q2⟩
    cases hf : afind l k with
    | none =>
      rw [hf] at hfk
      simp only [Option.bind_none] at hfk
      have haset : aset l k ev = l ++ [(k, ev)] := by unfold aset; rw [hf]
      refine fin (ms.push ⟨K.ke k, u, clock⟩) (clock + 1) (by simp [haset, hlen]) ?_ ?_ ?_ ?_
      · intro i p m hp hm
        rw [haset] at hp
        by_cases hi : i < l.length
        · rw [List.getElem?_append_left hi] at hp
          rw [Array.getElem?_push_lt (by omega)] at hm
          exact hrep i (K.ke p.1) p.2 m (by simp [encE, hp]) (by rw [Array.getElem?_eq_getElem (by omega)]; exact hm)
        · have hi' : i = l.length := by
            have := (List.getElem?_eq_some_iff.1 hp).1
            simp at this
            omega
          subst hi'
          simp at hp
          subst hp
          rw [← hlen] at hm
          simp at hm
          subst hm
          exact ⟨rfl, hz⟩
      · intro i m hm
        by_cases hi : i < ms.size
        · rw [Array.getElem?_push_lt hi] at hm
          have := hborn i m (by rw [Array.getElem?_eq_getElem hi]; exact hm)
          omega
        · have hlt' := (Array.getElem?_eq_some_iff.1 hm).1
          simp at hlt'
          have : i = ms.size := by omega
          subst this
          simp at hm
          subst hm
          exact Nat.lt_succ_self _
      · intro i j m m' hm hm' hbb
        have get : ∀ (i : Nat) m, (ms.push ⟨K.ke k, u, clock⟩)[i]? = some m → (i < ms.size ∧ ms[i]? = some m) ∨ (i = ms.size ∧ m.born = clock) := by
          intro i m hm
          by_cases hi : i < ms.size
          · rw [Array.getElem?_push_lt hi] at hm
            exact .inl ⟨hi, by rw [Array.getElem?_eq_getElem hi]; exact hm⟩
          · have hlt' := (Array.getElem?_eq_some_iff.1 hm).1
            simp at hlt'
            have : i = ms.size := by omega
            subst this
            simp at hm
            subst hm
            exact .inr ⟨rfl, rfl⟩
        rcases get i m hm with ⟨h1, h2⟩ | ⟨h1, h2⟩ <;> rcases get j m' hm' with ⟨h3, h4⟩ | ⟨h3, h4⟩
        · exact hdist i j m m' h2 h4 hbb
        · have := hborn i m h2; omega
        · have := hborn j m' h4; omega
        · omega
      · simp [Instr.mapUpdate, run_underlying ht, getObj, setObj, Sem.run, hb, K.check, hfk]
    | some j =>
      have hj := afind_lt hf
      have haset : aset l k ev = l.set j (k, ev) := by unfold aset; rw [hf]
      have hlj : (k == l[j].1) = true := by
        unfold afind at hf
        rw [List.findIdx?_eq_some_iff_getElem] at hf
        exact hf.2.1
      have hkj : k = l[j].1 := eq_of_beq hlj
      have h1 : ms[j]? = some (ms[j]'(by omega)) := Array.getElem?_eq_getElem (by omega)
      have h1' : ms.toList[j]? = some (ms[j]'(by omega)) := by rw [Array.getElem?_toList]; exact h1
      rw [hf] at hfk
      simp only [Option.bind_some, h1', Option.map_some] at hfk
      have hkey : (ms[j]'(by omega)).key = K.ke k := by
        have := (hrep j (K.ke l[j].1) l[j].2 _ (by simp [encE, List.getElem?_eq_getElem hj]) h1).1
        rw [this, hkj]
      have hmod : ∀ (i : Nat) m, (ms.modify j fun e => { e with key := K.ke k, val := u })[i]? = some m → (i = j ∧ m = { (ms[j]'(by omega)) with key := K.ke k, val := u }) ∨ (i ≠ j ∧ ms[i]? = some m) := by
        intro i m hm
        rw [Array.getElem?_modify] at hm
        by_cases hij : j = i
        · subst hij
          rw [if_pos rfl, h1] at hm
          cases hm
          exact .inl ⟨rfl, rfl⟩
        · rw [if_neg hij] at hm
          exact .inr ⟨Ne.symm hij, hm⟩
      refine fin (ms.modify j fun e => { e with key := K.ke k, val := u }) clock (by simp [haset, hlen]) ?_ ?_ ?_ ?_
      · intro i p m hp hm
        rw [haset, List.getElem?_set] at hp
        rcases hmod i m hm with ⟨rfl, rfl⟩ | ⟨hne, hm'⟩
        · rw [if_pos rfl] at hp
          simp [hj] at hp
          subst hp
          exact ⟨rfl, hz⟩
        · rw [if_neg (Ne.symm hne)] at hp
          exact hrep i (K.ke p.1) p.2 m (by simp [encE, hp]) hm'
      · intro i m hm
        rcases hmod i m hm with ⟨rfl, rfl⟩ | ⟨hne, hm'⟩
        · exact hborn _ (ms[i]'(by omega)) h1
        · exact hborn _ _ hm'
      · intro i i' m m' hm hm' hbb
        rcases hmod i m hm with ⟨rfl, rfl⟩ | ⟨hne, h2⟩ <;> rcases hmod i' m' hm' with ⟨rfl, rfl⟩ | ⟨hne', h2'⟩
        · rfl
        · exact hdist _ _ (ms[i]'(by omega)) _ h1 h2' hbb
        · exact hdist _ _ _ (ms[i']'(by omega)) h2 h1 hbb
        · exact hdist _ _ _ _ h2 h2' hbb
      · have hbits : Instr.sameBits 10000 (K.ke k) (K.ke k) = true := K.bits k
        simp [Instr.mapUpdate, run_underlying ht, getObj, setObj, Sem.run, hb, K.check, hfk, Instr.keyThatStays, h1, hkey, hbits]
theorem u_mapUpdateE (K : KeyF P key κ) {o : Nat} {l : List (κ × EV)} {k : κ} {dk : D} {ev : EV} (ht : P.underlying t = some (.map key e)) (hx : evo env x = some (.mp o)) (ho : st.objs[o]? = some (.map (encE K.ke l)))
    (hy : evo env y = some (.d dk)) (hk : ∀ lim w v, DRep lim w dk v → v = K.ke k) (hz : evo env z = some ev) :
    OpU P base env st ⟨d, .mapUpdate t x y z, ty, pos, after, gd⟩ (st.set o (.map (encE K.ke (aset l k ev)))) := by
  intro g w tmps hinv he
  obtain ⟨w', h1, h2, h3⟩ := update_core (z := z) K ht hx ho hy hk hinv he (evo_rep he hz)
  exact ⟨g, w', by simp [execOp, h1], h2, h3⟩
theorem u_insertE (K : KeyF P key κ) {o : Nat} {l : List (κ × EV)} {k : κ} {dk : D} {ev : EV} (ht : P.underlying t = some (.map key e)) (hx : evo env x = some (.mp o)) (ho : st.objs[o]? = some (.map (encE K.ke l)))
    (hy : evo env y = some (.d dk)) (hk : ∀ lim w v, DRep lim w dk v → v = K.ke k) (hz : evo env z = some ev) :
    OpU P base env st ⟨d, .insert t x y z, ty, pos, after, gd⟩ (st.set o (.map (encE K.ke (aset l k ev)))) := by
  intro g w tmps hinv he
  obtain ⟨w', h1, h2, h3⟩ := update_core (z := z) K ht hx ho hy hk hinv he (evo_rep he hz)
  exact ⟨g, w', by simp [execOp, h1], h2, h3⟩
/-- m[k] = v, for data. -/
theorem u_mapUpdateD (K : KeyF P key κ) {o : Nat} {l : List (κ × α)} {val : α → D} {k : κ} {dk : D} {a : α} {ev : EV} (ht : P.underlying t = some (.map key e)) (hx : evo env x = some (.mp o)) (ho : st.objs[o]? = some (.map (mEnc K.ke val l)))
    (hy : evo env y = some (.d dk)) (hk : ∀ lim w v, DRep lim w dk v → v = K.ke k) (hz : evo env z = some ev) (hle : EVle ev (.d (val a))) :
    OpU P base env st ⟨d, .mapUpdate t x y z, ty, pos, after, gd⟩ (st.set o (.map (mEnc K.ke val (aset l k a)))) := by
  intro g w tmps hinv he
  rw [mEnc_eq] at ho
  obtain ⟨w', h1, h2, h3⟩ := update_core (z := z) K ht hx ho hy hk hinv he (hle _ _ _ _ (evo_rep he hz))
  have hs : encE K.ke (aset (valE val l) k (.d (val a))) = mEnc K.ke val (aset l k a) := by
    rw [mEnc_eq]; unfold valE; rw [aset_map (fun a => EV.d (val a))]
  rw [hs] at h2 h3
  exact ⟨g, w', by simp [execOp, h1], h2, h3⟩
/-- delete(m, k), for data. -/
theorem v_deleteD (K : KeyF P key κ) {o : Nat} {l : List (κ × α)} {val : α → D} {k : κ} {dk : D} (ht : P.underlying t = some (.map key e)) (hx : evo env x = some (.mp o)) (ho : st.objs[o]? = some (.map (mEnc K.ke val l)))
    (hy : evo env y = some (.d dk)) (hk : ∀ lim w v, DRep lim w dk v → v = K.ke k) :
    OpV P base env st ⟨d, .call ⟨.builtin .delete, #[x, y], #[t, t2]⟩, ty, pos, after, gd⟩ (.d (.tup [])) (st.set o (.map (mEnc K.ke val (aerase l k)))) := by
  intro g w tmps hinv he
  have hxr := evo_rep he hx
  generalize hv : Act.eval ⟨tmps, []⟩ x = v at hxr
  have hyv : Act.eval ⟨tmps, []⟩ y = K.ke k := by
    have := evo_rep he hy
    cases this with | d _ _ h => exact hk _ _ _ h
  cases hxr with
  | mp _ hlt =>
    obtain ⟨hbase, ms, clock, hb, hl, hrep, hborn, hdist⟩ := hinv.map o _ ho
    have hkeys := map_keys hl hrep
    have hblk : g.ob o < w.heap.size := (Array.getElem?_eq_some_iff.1 hb).1
    have hlen : ms.size = l.length := by simpa [mEnc] using hl
    have hfk := K.find k l ms.toList w hkeys
    have fin : ∀ (ms' : Array MapEntry), ms'.size = (aerase l k).length →
        (∀ (i : Nat) (p : κ × α) (m : MapEntry), (aerase l k)[i]? = some p → ms'[i]? = some m → m.key = K.ke p.1 ∧ EVRep g w st (.d (val p.2)) m.val) →
        (∀ (i : Nat) (m : MapEntry), ms'[i]? = some m → m.born < clock) → (∀ (i j : Nat) (m m' : MapEntry), ms'[i]? = some m → ms'[j]? = some m' → m.born = m'.born → i = j) →
        (execOp (Act.eval ⟨tmps, []⟩) ⟨d, .call ⟨.builtin .delete, #[x, y], #[t, t2]⟩, ty, pos, after, gd⟩).run P w = .ok (.value (.tuple #[])) { w with heap := w.heap.setIfInBounds (g.ob o) (.map ms' clock) } →
        ∃ v g' w', (execOp (Act.eval ⟨tmps, []⟩) ⟨d, .call ⟨.builtin .delete, #[x, y], #[t, t2]⟩, ty, pos, after, gd⟩).run P w = .ok (.value v) w' ∧ EVRep g' w' (st.set o (.map (mEnc K.ke val (aerase l k)))) (.d (.tup [])) v ∧ Inv g' base w' (st.set o (.map (mEnc K.ke val (aerase l k)))) ∧ Step base g w st g' w' (st.set o (.map (mEnc K.ke val (aerase l k)))) := by
      intro ms' k1 k2 k3 k4 k5
      obtain ⟨q1, q2⟩ := hinv.setMap (es' := mEnc K.ke val (aerase l k)) ho (ms' := ms') (clock' := clock) (by simpa [mEnc] using k1) (fun i kk yy m hm1 hm2 => by
        simp only [mEnc, List.getElem?_map] at hm1
        cases hp : (aerase l k)[i]? with
        | none => rw [hp] at hm1; cases hm1
        | some p => rw [hp] at hm1; cases hm1; exact k2 i p m hp hm2) k3 k4
      exact ⟨_, g, _, k5, .d _ _ (.tup _ _ rfl (fun i c u h => by simp at h)), q1, q2⟩
    cases hf : afind l k with
    | none =>
      rw [hf] at hfk
      simp only [Option.bind_none] at hfk
      have her : aerase l k = l := by unfold aerase; rw [hf]
      refine fin ms (by rw [her, hlen]) (fun i p m hp hm => ?_) hborn hdist ?_
      · rw [her] at hp
        exact hrep i (K.ke p.1) (.d (val p.2)) m (by simp [mEnc, hp]) hm
      · simp [execOp, resolve, invoke, builtin, hv, hyv, Builtin.delete_, run_underlying ht, getObj, setObj, Sem.run, hb, K.check, hfk]
    | some j =>
      have hj := afind_lt hf
      have her : aerase l k = l.eraseIdx j := by unfold aerase; rw [hf]
      have h1 : ms[j]? = some (ms[j]'(by omega)) := Array.getElem?_eq_getElem (by omega)
      have h1' : ms.toList[j]? = some (ms[j]'(by omega)) := by rw [Array.getElem?_toList]; exact h1
      rw [hf] at hfk
      simp only [Option.bind_some, h1', Option.map_some] at hfk
      have hms : ms.eraseIdxIfInBounds j = (ms.toList.eraseIdx j).toArray := by
        apply Array.toList_inj.1
        unfold Array.eraseIdxIfInBounds
        rw [dif_pos (by omega)]
        simp
      have hget : ∀ (i : Nat) m, (ms.eraseIdxIfInBounds j)[i]? = some m → ms[if i < j then i else i + 1]? = some m := by
        intro i m hm
        rw [hms] at hm
        simp only [List.getElem?_toArray, List.getElem?_eraseIdx, Array.getElem?_toList] at hm
        split at hm
        · rename_i h; rw [if_pos h]; exact hm
        · rename_i h; rw [if_neg h]; exact hm
      refine fin (ms.eraseIdxIfInBounds j) ?_ (fun i p m hp hm => ?_) (fun i m hm => hborn _ m (hget i m hm)) (fun i i' m m' hm hm' hbb => ?_) ?_
      · rw [her, hms]
        simp [List.length_eraseIdx, hlen, hj]
      · rw [her, List.getElem?_eraseIdx] at hp
        have hm' := hget i m hm
        split at hp
        · rename_i h; rw [if_pos h] at hm'; exact hrep i (K.ke p.1) (.d (val p.2)) m (by simp [mEnc, hp]) hm'
        · rename_i h; rw [if_neg h] at hm'; exact hrep (i + 1) (K.ke p.1) (.d (val p.2)) m (by simp [mEnc, hp]) hm'
      · have := hdist _ _ m m' (hget i m hm) (hget i' m' hm') hbb
        split at this <;> split at this <;> omega
      · simp [execOp, resolve, invoke, builtin, hv, hyv, Builtin.delete_, run_underlying ht, getObj, setObj, Sem.run, hb, K.check, hfk]
end rules
end Go.Abs

/- Literals of maps: the entries come in whatever order. -/
set_option linter.unusedSimpArgs false
set_option linter.unusedVariables false
set_option linter.unusedSectionVars false
namespace Go.Abs
open Go.RowKit
section lit
variable {P : Program} {f : FuncId} {N : Nat} {S : Start} {Q : EV → St → Prop} {k : List Item} {κ : Type} [BEq κ] [LawfulBEq κ] {key : TypeId}
theorem ARun.split {todo : List Item} {env : Env} {st : St} (b : Bool) (ht : b = true → ARun P f N S Q todo env st) (hf : b = false → ARun P f N S Q todo env st) : ARun P f N S Q todo env st := by
  cases hb : b with
  | true => exact ht hb
  | false => exact hf hb

/-- The operations of a map's literal, one by one. -/
def MStep (P : Program) (N : Nat) (l : List Oper) (m : Nat) (t : TypeId) (K : KeyF P key κ) (ins : List (Nat × κ × EV)) (st0 : St) (i : Nat) (o : Oper) (env : Env) (x : EV) : Prop :=
  dstOk N o.dst = true ∧
  (((Nat.beq i m || ins.any fun e => Nat.beq e.1 i) = false ∧ ∀ st, (st = st0 ∨ ∃ es, st = st0.add (.map es)) → OpAny P l env st o x) ∨
   (i = m ∧ o.guard = none ∧ x = .mp st0.objs.length ∧ ∃ t, o.op = .makeMap t none) ∨
   (∃ kk v dk a b c, (i, kk, v) ∈ ins ∧ x = .d .any ∧ o.guard = none ∧ o.op = .insert t a b c ∧ evo env a = some (.mp st0.objs.length) ∧ evo env b = some (.d dk) ∧ (∀ lim w v, DRep lim w dk v → v = K.ke kk) ∧ evo env c = some v ∧
      ((masks l []).getD i 0).testBit m = true))
def MChain (P : Program) (N : Nat) (l : List Oper) (m : Nat) (t : TypeId) (K : KeyF P key κ) (ins : List (Nat × κ × EV)) (st0 : St) : Nat → List Oper → List EV → Env → Prop
  | _, [], [], _ => True
  | i, o :: os, x :: xs, env => MStep P N l m t K ins st0 i o (renv l o env) x ∧ MChain P N l m t K ins st0 (i + 1) os xs (env.put o.dst x)
  | _, _, _, _ => False
theorem MChain.length {l : List Oper} {m : Nat} {t : TypeId} {K : KeyF P key κ} {ins : List (Nat × κ × EV)} {st0 : St} : ∀ {i : Nat} {os : List Oper} {xs : List EV} {env : Env}, MChain P N l m t K ins st0 i os xs env → xs.length = os.length
  | _, [], [], _, _ => rfl
  | _, o :: os, x :: xs, env, h => by simp [MChain.length h.2]
  | _, [], x :: xs, _, h => h.elim
  | _, o :: os, [], _, h => h.elim
theorem MChain.get {l : List Oper} {m : Nat} {t : TypeId} {K : KeyF P key κ} {ins : List (Nat × κ × EV)} {st0 : St} : ∀ {i : Nat} {os : List Oper} {xs : List EV} {env : Env} {j : Nat} {o : Oper}, MChain P N l m t K ins st0 i os xs env → os[j]? = some o →
    ∃ x, xs[j]? = some x ∧ MStep P N l m t K ins st0 (i + j) o (renv l o (putAll env (os.take j) (xs.take j))) x
  | i, o' :: os, x :: xs, env, 0, o, h, ho => by
    simp at ho; subst ho
    exact ⟨x, rfl, by simpa [putAll] using h.1⟩
  | i, o' :: os, x :: xs, env, j + 1, o, h, ho => by
    obtain ⟨y, h1, h2⟩ := MChain.get (j := j) h.2 (by simpa using ho)
    exact ⟨y, by simpa using h1, by simpa [putAll, Nat.add_assoc, Nat.add_comm 1 j] using h2⟩
  | i, [], xs, env, j, o, h, ho => by simp at ho
  | i, o' :: os, [], _, _, _, h, _ => h.elim

theorem filter_more {β : Type} {L : Nat → Bool} {i : Nat} {x : β} : ∀ {ins : List (Nat × β)}, (ins.map (·.1)).Nodup → (i, x) ∈ ins → L i = false →
    (ins.filter fun e => e.1 == i || L e.1).Perm ((i, x) :: ins.filter fun e => L e.1)
  | [], _, h, _ => by cases h
  | e :: ins, hn, h, hL => by
    simp only [List.map_cons, List.nodup_cons] at hn
    have other : ∀ e' ∈ ins, e'.1 ≠ e.1 := fun e' he' hee => hn.1 (hee ▸ List.mem_map_of_mem (f := (·.1)) he')
    rcases List.mem_cons.1 h with he | he
    · subst he
      have hrest : (ins.filter fun e => e.1 == i || L e.1) = ins.filter fun e => L e.1 := List.filter_congr fun e' he' => by
        have := other e' he'
        simp [this]
      rw [List.filter_cons, List.filter_cons]
      simp [hL, hrest]
    · have ih := filter_more hn.2 he hL
      have hei : e.1 ≠ i := fun hh => other (i, x) he hh.symm
      rw [List.filter_cons, List.filter_cons]
      have h1 : (e.1 == i || L e.1) = L e.1 := by simp [hei]
      rw [h1]
      cases L e.1 with
      | true => simp only [if_true]; exact (ih.cons e).trans (.swap ..)
      | false => simpa using ih

theorem ARun.drawnMF {id : Nat} {l : List Oper} {env : Env} {st : St} {t e : TypeId} (p m : Nat) (K : KeyF P key κ) (ins : List (Nat × κ × EV)) (hm : P.follows .mixedOrders = true) (hB : drawB l p = true) (hu : P.underlying t = some (.map key e))
    (hmp : m < p) (hip : ∀ e ∈ ins, e.1 < p) (hmi : ∀ e ∈ ins, e.1 ≠ m) (hn1 : (ins.map (·.1)).Nodup) (hn2 : (ins.map (·.2.1)).Nodup) {xs : List EV} (hch : MChain P N l m t K ins st 0 (l.take p) xs env)
    (hsuf : ∀ es, es.Perm (ins.map (·.2)) → AOps P f N S Q l (l.drop p) k (putAll env (l.take p) xs) (st.add (.map (encE K.ke es)))) : ARun P f N S Q (.code (.region id l.toArray true) :: k) env st := by
  have hp : p ≤ l.length := by
    simp only [drawB, Bool.and_eq_true] at hB
    simpa using hB.2
  have hxp : xs.length = p := by rw [hch.length]; simp; omega
  refine ARun.drawnF p xs (fun L s => (L m = false ∧ s = st ∧ ∀ e ∈ ins, L e.1 = false) ∨ (L m = true ∧ ∃ es, s = st.add (.map (encE K.ke es)) ∧ es.Perm ((ins.filter fun e => L e.1).map (·.2)))) hm hB hxp (.inl ⟨rfl, rfl, fun _ _ => rfl⟩) ?_ ?_
  · intro L s i o hi ho hLi hmask _ hF
    obtain ⟨x, hx, hd, hst⟩ := hch.get (j := i) (o := o) (by rw [List.getElem?_take, if_pos hi]; exact ho)
    rw [Nat.zero_add] at hst
    refine ⟨hd, ?_⟩
    rcases hst with ⟨hne, hop⟩ | ⟨him, hg, hxe, t', hop⟩ | ⟨kk, v, dk, a, b, c, hin, hxe, hg, hop, ha, hb, hk, hc, hbit⟩
    · simp only [Bool.or_eq_false_iff] at hne
      have him : i ≠ m := fun e => by rw [e, Nat.beq_refl] at hne; cases hne.1
      have hie : ∀ e ∈ ins, e.1 ≠ i := fun e he hh => by
        have := List.any_eq_false.1 hne.2 e he
        rw [hh, Nat.beq_refl] at this
        exact this rfl
      refine ⟨x, s, hx, .inl ⟨rfl, hop s ?_⟩, ?_⟩
      · rcases hF with ⟨_, h, _⟩ | ⟨_, es, h, _⟩
        · exact .inl h
        · exact .inr ⟨_, h⟩
      · rcases hF with ⟨h1, h2, h3⟩ | ⟨h1, es, h2, h3⟩
        · exact .inl ⟨by simp [Ne.symm him, h1], h2, fun e he => by simp [hie e he, h3 e he]⟩
        · refine .inr ⟨by simp [h1], es, h2, ?_⟩
          have : (ins.filter fun e => e.1 == i || L e.1) = ins.filter fun e => L e.1 := List.filter_congr fun e he => by simp [hie e he]
          rw [this]; exact h3
    · subst him
      rcases hF with ⟨h1, h2, h3⟩ | ⟨h1, _⟩
      · subst h2
        refine ⟨x, s.add (.map []), hx, .inr (.inl ⟨hg, ?_⟩), .inr ⟨by simp, [], rfl, ?_⟩⟩
        · obtain ⟨d, op, ty, pos, after, gd⟩ := o
          simp only at hop hg
          subst hop; subst hxe
          exact v_makeMap
        · have : (ins.filter fun e => e.1 == i || L e.1) = [] := List.filter_eq_nil_iff.2 fun e he => by simp [hmi e he, h3 e he]
          rw [this]; exact .nil
      · rw [hLi] at h1; cases h1
    · have hLm := hmask m hbit
      rcases hF with ⟨h1, _⟩ | ⟨h1, es, h2, h3⟩
      · rw [hLm] at h1; cases h1
      · have hkn : kk ∉ es.map (·.1) := by
          intro hkin
          have h4 := (h3.map (·.1)).mem_iff.1 hkin
          obtain ⟨e1, he1, hk1⟩ := List.mem_map.1 h4
          obtain ⟨e2, he2, rfl⟩ := List.mem_map.1 he1
          obtain ⟨he3, hL3⟩ := List.mem_filter.1 he2
          have huniq : ∀ {ins : List (Nat × κ × EV)}, (ins.map (·.2.1)).Nodup → ∀ a ∈ ins, ∀ b ∈ ins, a.2.1 = b.2.1 → a = b := by
            intro ins
            induction ins with
            | nil => intro _ a ha; cases ha
            | cons c r ih =>
              intro hn a ha b hb hab
              simp only [List.map_cons, List.nodup_cons] at hn
              rcases List.mem_cons.1 ha with ha' | ha' <;> rcases List.mem_cons.1 hb with hb' | hb'
              · rw [ha', hb']
              · exact absurd (by rw [← ha', hab]; exact List.mem_map_of_mem (f := (·.2.1)) hb') hn.1
              · exact absurd (by rw [← hb', ← hab]; exact List.mem_map_of_mem (f := (·.2.1)) ha') hn.1
              · exact ih hn.2 a ha' b hb' hab
          have := huniq hn2 e2 he3 (i, kk, v) hin hk1
          rw [this] at hL3
          rw [hLi] at hL3
          cases hL3
        have haset : aset es kk v = es ++ [(kk, v)] := by unfold aset; rw [afind_none hkn]
        refine ⟨x, st.add (.map (encE K.ke (es ++ [(kk, v)]))), hx, .inr (.inr ⟨hg, hxe, ?_⟩), .inr ⟨by simp [hLm], _, rfl, ?_⟩⟩
        · obtain ⟨d, op, ty, pos, after, gd⟩ := o
          simp only at hop hg
          subst hop; subst h2
          have := u_insertE (base := S.base) (l := es) (d := d) (ty := ty) (pos := pos) (after := after) (gd := gd) (z := c) (st := st.add (.map (encE K.ke es))) K hu ha (by simp [St.add]) hb hk hc
          rw [haset] at this
          have hset : (st.add (.map (encE K.ke es))).set st.objs.length (.map (encE K.ke (es ++ [(kk, v)]))) = st.add (.map (encE K.ke (es ++ [(kk, v)]))) := by
            simp [St.add, St.set]
          rw [hset] at this
          exact this
        · have h5 := filter_more hn1 hin hLi
          have h6 := h5.map (·.2)
          refine List.Perm.trans ?_ h6.symm
          simp only [List.map_cons]
          exact (List.perm_append_singleton _ _).trans (h3.cons _)
  · intro L s hL hF
    rcases hF with ⟨h1, _⟩ | ⟨h1, es, h2, h3⟩
    · rw [hL m hmp] at h1; cases h1
    · subst h2
      have : (ins.filter fun e => L e.1) = ins := List.filter_eq_self.2 fun e he => hL _ (hip e he)
      rw [this] at h3
      exact hsuf es h3

/-- What is left of the operations of a map's literal. -/
def MOps (P : Program) (f : FuncId) (N : Nat) (S : Start) (Q : EV → St → Prop) (l : List Oper) (p m : Nat) (t : TypeId) (K : KeyF P key κ) (ins : List (Nat × κ × EV)) (i : Nat) (os : List Oper) (k : List Item) (env : Env) (st : St) : Prop :=
  ∃ xs, MChain P N l m t K ins st i os xs env ∧ ∀ es, es.Perm (ins.map (·.2)) → AOps P f N S Q l (l.drop p) k (putAll env os xs) (st.add (.map (encE K.ke es)))
variable {l : List Oper} {p m : Nat} {t : TypeId} {K : KeyF P key κ} {ins : List (Nat × κ × EV)} {i : Nat} {os : List Oper} {env : Env} {st : St} {d : Option Tmp} {op : Op} {ty : TypeId} {pos : String} {after : Array Edge} {x : EV}
theorem MOps.nil (h : ∀ es, es.Perm (ins.map (·.2)) → AOps P f N S Q l (l.drop p) k env (st.add (.map (encE K.ke es)))) : MOps P f N S Q l p m t K ins i [] k env st := ⟨[], trivial, h⟩
theorem MOps.g (h : ∀ s, (s = st ∨ ∃ es, s = st.add (.map es)) → OpG P (renv l ⟨d, op, ty, pos, after, none⟩ env) s ⟨d, op, ty, pos, after, none⟩ x) (hb : (Nat.beq i m || ins.any fun e => Nat.beq e.1 i) = false) (hd : dstOk N d = true)
    (hk : MOps P f N S Q l p m t K ins (i + 1) os k (env.put d x) st) : MOps P f N S Q l p m t K ins i (⟨d, op, ty, pos, after, none⟩ :: os) k env st := by
  obtain ⟨xs, h1, h2⟩ := hk
  exact ⟨x :: xs, ⟨⟨hd, .inl ⟨hb, fun s hs => .inl ⟨rfl, h s hs⟩⟩⟩, h1⟩, h2⟩
theorem MOps.q (h : ∀ s, (s = st ∨ ∃ es, s = st.add (.map es)) → OpQ P (renv l ⟨d, op, ty, pos, after, none⟩ env) s ⟨d, op, ty, pos, after, none⟩ x) (hb : (Nat.beq i m || ins.any fun e => Nat.beq e.1 i) = false) (hd : dstOk N d = true)
    (hk : MOps P f N S Q l p m t K ins (i + 1) os k (env.put d x) st) : MOps P f N S Q l p m t K ins i (⟨d, op, ty, pos, after, none⟩ :: os) k env st := .g (fun s hs => (h s hs).g) hb hd hk
theorem MOps.make {t' : TypeId} (hi : i = m) (hd : dstOk N d = true) (hk : MOps P f N S Q l p m t K ins (i + 1) os k (env.put d (.mp st.objs.length)) st) :
    MOps P f N S Q l p m t K ins i (⟨d, .makeMap t' none, ty, pos, after, none⟩ :: os) k env st := by
  obtain ⟨xs, h1, h2⟩ := hk
  exact ⟨.mp st.objs.length :: xs, ⟨⟨hd, .inr (.inl ⟨hi, rfl, rfl, t', rfl⟩)⟩, h1⟩, h2⟩
theorem MOps.insE {a b c : Operand} {kk : κ} {v : EV} {dk : D} (j : Nat) (hin : ins[j]? = some (i, kk, v)) (ha : evo (renv l ⟨none, .insert t a b c, ty, pos, after, none⟩ env) a = some (.mp st.objs.length))
    (hb : evo (renv l ⟨none, .insert t a b c, ty, pos, after, none⟩ env) b = some (.d dk)) (hkk : ∀ lim w v, DRep lim w dk v → v = K.ke kk) (hc : evo (renv l ⟨none, .insert t a b c, ty, pos, after, none⟩ env) c = some v)
    (hbit : ((masks l []).getD i 0).testBit m = true) (hk : MOps P f N S Q l p m t K ins (i + 1) os k env st) : MOps P f N S Q l p m t K ins i (⟨none, .insert t a b c, ty, pos, after, none⟩ :: os) k env st := by
  obtain ⟨xs, h1, h2⟩ := hk
  exact ⟨.d .any :: xs, ⟨⟨rfl, .inr (.inr ⟨kk, v, dk, a, b, c, List.mem_of_getElem? hin, rfl, rfl, rfl, ha, hb, hkk, hc, hbit⟩)⟩, h1⟩, h2⟩
theorem ARun.drawnM {id : Nat} {e : TypeId} (p m : Nat) (K : KeyF P key κ) (ins : List (Nat × κ × EV)) (hm : P.follows .mixedOrders = true) (hB : drawB l p = true) (hu : P.underlying t = some (.map key e))
    (hmp : m < p) (hip : (ins.all fun e => decide (e.1 < p) && !Nat.beq e.1 m) = true) (hn1 : (ins.map (·.1)).Nodup) (hn2 : (ins.map (·.2.1)).Nodup) (h : MOps P f N S Q l p m t K ins 0 (l.take p) k env st) :
    ARun P f N S Q (.code (.region id l.toArray true) :: k) env st := by
  obtain ⟨xs, h1, h2⟩ := h
  have hip' : ∀ e ∈ ins, e.1 < p ∧ e.1 ≠ m := fun e he => by
    have := List.all_eq_true.1 hip e he
    simp only [Bool.and_eq_true, decide_eq_true_eq, Bool.not_eq_true'] at this
    exact ⟨this.1, fun hh => by rw [hh, Nat.beq_refl] at this; cases this.2⟩
  exact .drawnMF p m K ins hm hB hu hmp (fun e he => (hip' e he).1) (fun e he => (hip' e he).2) hn1 hn2 h1 h2
end lit
end Go.Abs

/- Structs as keys of maps. -/
set_option linter.unusedSimpArgs false
set_option linter.unusedVariables false
set_option linter.unusedSectionVars false
namespace Go.Abs
open Go.RowKit
theorem aggKey {lim : Nat → Nat} {w : World} {ds : List D} {vs : List Value} {v : Value} (h : DRep lim w (.agg ds) v) (he : exs ds = some vs) : v = .agg vs.toArray := by
  have hm := exs_map he
  subst hm
  cases h with
  | agg _ us hs ho hc =>
    congr 1
    apply Array.ext'
    apply List.ext_getElem?
    intro i
    simp only [List.length_map] at hs
    by_cases hi : i < vs.length
    · have h1 : us[i]? = some (us[i]'(by omega)) := Array.getElem?_eq_getElem (by omega)
      have h2 := hc i (.ex vs[i]) _ (by simp [hi]) h1
      rw [Array.getElem?_toList, h1, drep_ex h2]
      simp [hi]
    · rw [List.getElem?_eq_none (by simp; omega), List.getElem?_eq_none (by simpa using hi)]
section keys
variable {P : Program}
theorem sameBits_one {k : FK} {v : Value} (h : fkFits k v = true) (n : Nat) : Instr.sameBits n v v = true := by
  cases v <;> cases k <;> simp [fkFits] at h <;> simp [Instr.sameBits] <;> (rw [beq_toListBytes]; simp)
theorem sameBits_flat : ∀ {ks : List FK} {vs : List Value}, fitAll ks vs = true → ∀ n, (vs.zip vs).all (fun p => Instr.sameBits n p.1 p.2) = true
  | [], [], _, n => rfl
  | k :: ks, v :: vs, h, n => by
    simp only [fitAll, Bool.and_eq_true] at h
    simp only [List.zip_cons_cons, List.all_cons, sameBits_one h.1, sameBits_flat h.2, Bool.and_self]
  | [], _ :: _, h, _ => by cases h
  | _ :: _, [], h, _ => by cases h
theorem checkKey_one {t : TypeId} {k : FK} (h : fkOf (P.underlying t) = some k) {v : Value} (hv : fkFits k v = true) (b : Bool) (n : Nat) (w : World) : (Instr.checkKey b (n + 1) t v).run P w = .ok () w := by
  cases hd : P.underlying t with
  | none => rw [hd] at h; cases h
  | some dsc =>
    rw [hd] at h
    cases dsc <;> simp only [fkOf, Option.some.injEq, reduceCtorEq] at h <;> subst h <;> cases v <;> simp [fkFits] at hv <;> simp [Instr.checkKey, run_underlying hd]
theorem checkFields (b : Bool) (n : Nat) (w : World) (X : Array Value) : ∀ (fs : List Field) (k : Nat) (ks : List FK) (vs : List Value), flatFrom P k fs = some ks → fitAll ks vs = true → (∀ (j : Nat) v, vs[j]? = some v → X[k + j]? = some v) →
    (forIn fs PUnit.unit (fun f _ => do
      if f.name ≠ "_" then do
        Instr.checkKey b (n + 1) f.type (← part f.type X f.offset)
        pure (.yield PUnit.unit)
      else pure (.yield PUnit.unit)) : Sem PUnit).run P w = .ok PUnit.unit w
  | [], k, ks, vs, h, hv, hX => by simp
  | f :: fs, k, ks, vs, h, hv, hX => by
    unfold flatFrom at h
    split at h
    · rename_i kk ks' h1 h2 h3 h4
      simp only [Option.some.injEq] at h
      subst h
      match vs with
      | [] => cases hv
      | v :: vs =>
        simp only [fitAll, Bool.and_eq_true] at hv
        have ho := Nat.eq_of_beq_eq_true h1
        have hname : f.name ≠ "_" := of_decide_eq_true h2
        have px := part_one h3 (cs := X) (off := f.offset) (hX 0 v rfl |> fun h => by rw [ho]; simpa using h) w
        have pc := checkKey_one h3 hv.1 b n w
        have ih := checkFields b n w X fs (k + 1) ks' vs h4 hv.2 (fun j v hv => by have := hX (j + 1) v (by simpa using hv); rwa [show k + 1 + j = k + (j + 1) by omega])
        rw [List.forIn_cons]
        simp only [if_pos hname, Sem.run_bind, px, pc, Result.andThen_ok, Sem.run_pure]
        exact ih
    · cases h
def stKF {κ : Type} [BEq κ] [LawfulBEq κ] {key : TypeId} {fs : Array Field} {ks : List FK} (vals : κ → List Value) (hu : P.underlying key = some (.struct fs)) (hk : flatKinds P key = some ks) (hf : ∀ a, fitAll ks (vals a) = true)
    (he : ∀ a b, eqVs (vals a) (vals b) = (a == b)) : KeyF P key κ :=
  askKF (fun a => .agg (vals a).toArray) hu (fun _ _ => rfl) (fun a b w => by
      have := (eq_flat (P := P) hk (hf a) (hf b) w .eql (.const (.bool true)) (.const (.bool true))).2
      rw [he a b] at this
      exact this)
    (fun a => by
      have := sameBits_flat (hf a) 9999
      show Instr.sameBits (9999 + 1) _ _ = true
      simp only [Instr.sameBits]
      simpa using this)
    (fun a b w => by
      have hfl : flatFrom P 0 fs.toList = some ks := by
        unfold flatKinds at hk
        rw [hu] at hk
        simp only at hk
        split at hk
        · cases hk
        · exact hk
      have := checkFields (P := P) b 9998 w (vals a).toArray fs.toList 0 ks (vals a) hfl (hf a) (fun j v hv => by simpa using hv)
      show (Instr.checkKey b (9999 + 1) key _).run P w = .ok () w
      unfold Instr.checkKey
      simp only [Sem.run_bind, run_underlying hu, Result.andThen_ok]
      rw [← Array.forIn_toList, show (9999 : Nat) = 9998 + 1 from rfl, this]
      rfl)
end keys
end Go.Abs

/- Regions that may come in any order: the orders told by lists; what turns the state comes in a known order; parts of a state renamed. -/
set_option linter.unusedSimpArgs false
set_option linter.unusedVariables false
set_option linter.unusedSectionVars false
namespace Go.Abs
open Go.RowKit
/-- A list of the first p operations that keeps to what must have come ahead. -/
structure Sched (l : List Oper) (p : Nat) (σ : List Nat) : Prop where
  nodup : σ.Nodup
  mem : ∀ i, i ∈ σ ↔ i < p
  mask : ∀ pre i post, σ = pre ++ i :: post → ∀ j, ((masks l []).getD i 0).testBit j = true → j ∈ pre
theorem lin_main {l : List Oper} {p : Nat} (hp : p ≤ l.length)
    (hord : ∀ i, p ≤ i → i < l.length → ∀ j, j < i → ((masks l []).getD i 0).testBit j = true)
    (hacyc : ∀ (i : Nat) o, l[i]? = some o → ∀ e ∈ o.after, Region.binds .any e = true → e.on < i) :
    ∀ (cnt fuel t : Nat) (listed : Array Bool), listed.size = l.length → Closed l listed → (∀ i, p ≤ i → i < l.length → listed.getD i true = false) →
      (((List.range p).filter fun i => !listed.getD i true).length = cnt) → cnt + (l.length - p) ≤ fuel →
      ∃ σ : List Nat, Region.linearise.go .any l.toArray fuel t listed [] = σ ++ List.range' p (l.length - p) ∧ σ.Nodup ∧ (∀ i, i ∈ σ ↔ i < p ∧ listed.getD i true = false) ∧
        ∀ pre i post, σ = pre ++ i :: post → ∀ j, ((masks l []).getD i 0).testBit j = true → j ∈ pre ∨ listed.getD j false = true := by
  intro cnt
  induction cnt with
  | zero =>
    intro fuel t listed hs hcl hsu hcnt hfuel
    have hall : ∀ i, i < p → listed.getD i true = true := by
      intro i hi
      have h0 := List.eq_nil_of_length_eq_zero hcnt
      have hn : i ∉ (List.range p).filter fun i => !listed.getD i true := by rw [h0]; simp
      rw [List.mem_filter, List.mem_range] at hn
      cases hb : listed.getD i true with
      | true => rfl
      | false => exact absurd ⟨hi, by simp [hb]⟩ hn
    have hgo := go_suffix hord hacyc fuel t p listed (Nat.le_refl _) hp (by omega) hs (fun i hi => by
      by_cases h : i < p
      · rw [hall i h]; simp [h]
      · rw [hsu i (by omega) hi]; simp [h])
    refine ⟨[], by rw [hgo]; rfl, List.nodup_nil, fun i => ⟨fun h => (by cases h), fun h => ?_⟩, fun pre i post h => by simp at h⟩
    rw [hall i h.1] at h; cases h.2
  | succ cnt ih =>
    intro fuel t listed hs hcl hsu hcnt hfuel
    obtain ⟨fuel, rfl⟩ : ∃ n, fuel = n + 1 := ⟨fuel - 1, by omega⟩
    -- an operation of the beginning that has not come up
    have hex : ∃ i, i < p ∧ listed.getD i true = false := by
      have : (List.range p).filter (fun i => !listed.getD i true) ≠ [] := fun h => by rw [h] at hcnt; simp at hcnt
      obtain ⟨i, hi⟩ := List.exists_mem_of_ne_nil _ this
      rw [List.mem_filter, List.mem_range] at hi
      exact ⟨i, hi.1, by simpa using hi.2⟩
    have hDF : ∀ i, i < l.length → listed.getD i false = listed.getD i true := fun i hi => by
      have hlt : i < listed.size := by omega
      simp [Array.getD_eq_getD_getElem?, hlt]
    have hrd : ((List.range l.toArray.size).filter fun i => !listed.getD i true && ((l.toArray[i]?).map (·.after.all fun e => !Region.binds .any e || listed.getD e.on false)).getD false) = Region.ready .any l.toArray listed := rfl
    -- the least such is ready
    have hne : Region.ready .any l.toArray listed ≠ [] := by
      have hmin : ∀ n i, i ≤ n → i < p → listed.getD i true = false → ∃ i, i < p ∧ listed.getD i true = false ∧ ∀ j, j < i → listed.getD j true = true := by
        intro n
        induction n with
        | zero => intro i hi hp' h; exact ⟨i, hp', h, fun j hj => by omega⟩
        | succ n ihn =>
          intro i hi hp' h
          by_cases hh' : ∃ j, j < i ∧ listed.getD j true = false
          · obtain ⟨j, hj, hjl⟩ := hh'
            exact ihn j (by omega) (by omega) hjl
          · refine ⟨i, hp', h, fun j hj => ?_⟩
            cases hb : listed.getD j true with
            | true => rfl
            | false => exact absurd ⟨j, hj, hb⟩ hh'
      obtain ⟨i0, h0, h1⟩ := hex
      obtain ⟨i, hip, hiu, hbel⟩ := hmin i0 i0 (Nat.le_refl _) h0 h1
      have hil : i < l.length := by omega
      have : i ∈ Region.ready .any l.toArray listed := by
        rw [mem_ready]
        refine ⟨hiu, l[i], by simp [hil], fun e he hb => ?_⟩
        have hlt := hacyc i l[i] (List.getElem?_eq_getElem hil) e he hb
        rw [hDF _ (by omega)]
        exact hbel _ hlt
      intro hnil
      rw [hnil] at this
      cases this
    simp only [Region.linearise.go, hrd]
    have hlen : 0 < (Region.ready .any l.toArray listed).length := List.length_pos_iff.2 hne
    have hmod := Nat.mod_lt t hlen
    generalize hi : (Region.ready .any l.toArray listed)[t % (Region.ready .any l.toArray listed).length] = i
    have hsome : (Region.ready .any l.toArray listed)[t % (Region.ready .any l.toArray listed).length]? = some i := by rw [List.getElem?_eq_getElem hmod, hi]
    rw [hsome]
    simp only []
    rw [linearise_go_acc]
    have him : i ∈ Region.ready .any l.toArray listed := List.mem_of_getElem? hsome
    obtain ⟨hiu, o, ho, hall⟩ := mem_ready.1 him
    have ho' : l[i]? = some o := by simpa using ho
    have hil := (List.getElem?_eq_some_iff.1 ho').1
    have hmask := ready_mask hcl ho' (fun e he hb => hall e he hb)
    have hip : i < p := by
      rcases Nat.lt_or_ge i p with h | h
      · exact h
      · obtain ⟨i0, h0, h1⟩ := hex
        have := hmask i0 (hord i h hil i0 (by omega))
        rw [hDF i0 (by omega), h1] at this
        cases this
    -- what remains behind it
    have hcnt' : ((List.range p).filter fun j => !(listed.setIfInBounds i true).getD j true).length = cnt := by
      have hset : ∀ j, (listed.setIfInBounds i true).getD j true = (listed.getD j true || decide (j = i)) := by
        intro j
        by_cases hji : j = i
        · subst hji; simp [Array.getD_eq_getD_getElem?, hs, hil]
        · rw [getD_set_ne true (Ne.symm hji)]; simp [hji]
      have hfil : ((List.range p).filter fun j => !(listed.setIfInBounds i true).getD j true) = ((List.range p).filter fun j => !listed.getD j true).filter fun j => !decide (j = i) := by
        rw [List.filter_filter]
        refine List.filter_congr fun j _ => ?_
        rw [hset j]
        cases listed.getD j true <;> simp
      rw [hfil]
      have hnd : ((List.range p).filter fun j => !listed.getD j true).Nodup := List.nodup_range.filter _
      have hmem : i ∈ (List.range p).filter fun j => !listed.getD j true := by rw [List.mem_filter, List.mem_range]; exact ⟨hip, by simp [hiu]⟩
      have hcount : ∀ (L : List Nat), L.Nodup → i ∈ L → (L.filter fun j => !decide (j = i)).length + 1 = L.length := by
        intro L
        induction L with
        | nil => intro _ h; cases h
        | cons a L ihL =>
          intro hn hm
          rw [List.nodup_cons] at hn
          by_cases ha : a = i
          · subst ha
            have : (L.filter fun j => !decide (j = a)) = L := by
              rw [List.filter_eq_self]
              intro b hb
              have : b ≠ a := fun e => hn.1 (e ▸ hb)
              simp [this]
            rw [List.filter_cons]
            simp [this]
          · have hm' : i ∈ L := by
              rcases List.mem_cons.1 hm with h | h
              · exact absurd h.symm ha
              · exact h
            rw [List.filter_cons]
            simp only [ha, decide_false, Bool.not_false, if_true, List.length_cons]
            rw [ihL hn.2 hm']
      have := hcount _ hnd hmem
      omega
    have hcl' : Closed l (listed.setIfInBounds i true) := by
      intro j oj hoj hlj e he' hb
      by_cases hji : j = i
      · subst hji
        rw [ho'] at hoj
        cases hoj
        exact getD_set_true (hall e he' hb)
      · rw [getD_set_ne false (Ne.symm hji)] at hlj
        exact getD_set_true (hcl j oj hoj hlj e he' hb)
    have hsu' : ∀ j, p ≤ j → j < l.length → (listed.setIfInBounds i true).getD j true = false := fun j hj hjl => by rw [getD_set_ne true (by omega)]; exact hsu j hj hjl
    obtain ⟨σ, h1, h2, h3, h4⟩ := ih fuel (t / (Region.ready .any l.toArray listed).length) _ (by simpa using hs) hcl' hsu' hcnt' (by omega)
    have hset : ∀ j, (listed.setIfInBounds i true).getD j true = (listed.getD j true || decide (j = i)) := by
      intro j
      by_cases hji : j = i
      · subst hji; simp [Array.getD_eq_getD_getElem?, hs, hil]
      · rw [getD_set_ne true (Ne.symm hji)]; simp [hji]
    refine ⟨i :: σ, ?_, ?_, ?_, ?_⟩
    · rw [h1]; rfl
    · rw [List.nodup_cons]
      refine ⟨fun hm => ?_, h2⟩
      have := ((h3 i).1 hm).2
      rw [hset] at this
      simp at this
    · intro j
      rw [List.mem_cons, h3, hset]
      constructor
      · rintro (rfl | ⟨a, b⟩)
        · exact ⟨hip, hiu⟩
        · refine ⟨a, ?_⟩
          cases hj : listed.getD j true with
          | false => rfl
          | true => rw [hj] at b; simp at b
      · rintro ⟨a, b⟩
        by_cases hji : j = i
        · exact .inl hji
        · exact .inr ⟨a, by simp [b, hji]⟩
    · intro pre i' post he j hj
      cases pre with
      | nil =>
        simp only [List.nil_append, List.cons.injEq] at he
        rw [← he.1] at hj
        exact .inr (hmask j hj)
      | cons a pre =>
        simp only [List.cons_append, List.cons.injEq] at he
        rcases h4 pre i' post he.2 j hj with h | h
        · exact .inl (List.mem_cons_of_mem _ h)
        · by_cases hji : j = i
          · left; rw [hji, he.1]; exact List.mem_cons_self
          · rw [getD_set_ne false (Ne.symm hji)] at h
            exact .inr h
section run
variable {P : Program} {f : FuncId} {N : Nat} {S : Start} {Q : EV → St → Prop} {k : List Item}
/-- A region that draws: all its orders. -/
theorem ARun.orders {id : Nat} {l : List Oper} {env : Env} {st : St} (p : Nat) (hm : P.follows .mixedOrders = true) (hB : drawB l p = true)
    (h : ∀ σ, Sched l p σ → ARun P f N S Q (.inRegion l.toArray (σ ++ List.range' p (l.length - p)) :: k) env st) : ARun P f N S Q (.code (.region id l.toArray true) :: k) env st := by
  simp only [drawB, Bool.and_eq_true] at hB
  obtain ⟨⟨⟨⟨hB1, hB2⟩, hB3⟩, hB4⟩, hB5⟩ := hB
  have hp : p ≤ l.length := by simpa using hB5
  intro g w tmps hinv hh he hn
  refine FWP.regionDraw fun t => ?_
  have hsch : Region.schedule (P.follows .mixedOrders) l.toArray t = Region.linearise .any l.toArray t := by simp [Region.schedule, hm]
  rw [hsch]
  have hb : Below w.heap.size w { w with drawn := w.drawn + 1 } := (Below.refl _ w).drew
  obtain ⟨hinv', hst⟩ := hinv.grow (g' := g) hb (fun _ _ => rfl) rfl rfl
  unfold Region.linearise
  obtain ⟨σ, h1, h2, h3, h4⟩ := lin_main (l := l) (p := p) hp (fun i hi hil j hj => by
      have h1 := allBelow_get hB3 hil
      simp only [Bool.or_eq_true, decide_eq_true_eq] at h1
      rcases h1 with h1 | h1
      · omega
      · exact allBelow_get h1 hj) (fun i o ho e he' hb' => by
      have hil := (List.getElem?_eq_some_iff.1 ho).1
      have h1 := allBelow_get hB4 hil
      rw [ho] at h1
      simp only [List.all_eq_true] at h1
      have := h1 e (by simpa using he')
      simpa [hb'] using this) p l.toArray.size t (Array.replicate l.toArray.size false) (by simp) (fun i o ho hli => by
      simp [Array.getD_eq_getD_getElem?, Array.getElem?_replicate] at hli
      split at hli <;> simp_all) (fun i hi hil => by simp [Array.getD_eq_getD_getElem?, Array.getElem?_replicate, hil]) (by
      have : ((List.range p).filter fun i => !(Array.replicate l.toArray.size false).getD i true) = List.range p := by
        rw [List.filter_eq_self]
        intro i hi
        have hi' := List.mem_range.1 hi
        have : i < l.length := by omega
        simp [Array.getD_eq_getD_getElem?, Array.getElem?_replicate, this]
      rw [this]; simp) (by simp; omega)
  rw [h1]
  refine h σ ⟨h2, fun i => ?_, fun pre i post he j hj => ?_⟩ g _ tmps hinv' (hh.step hst) (he.mono hst.sevo) hn
  · rw [h3]
    constructor
    · exact fun h => h.1
    · intro hi
      have : i < l.length := by omega
      exact ⟨hi, by simp [Array.getD_eq_getD_getElem?, Array.getElem?_replicate, this]⟩
  · rcases h4 pre i post he j hj with h | h
    · exact h
    · simp [Array.getD_eq_getD_getElem?, Array.getElem?_replicate] at h
      split at h <;> simp_all
/-- One order, run through. -/
theorem ARun.runσ {l : List Oper} {p : Nat} {σ : List Nat} {env : Env} {st : St} (hs : Sched l p σ) (hp : p ≤ l.length) (xs : List EV) (F : List Nat → St → Prop)
    (hC1 : ∀ i j t, i < p → j < p → i ≠ j → dstAt l i = some t → dstAt l j ≠ some t)
    (hC2 : ∀ (i : Nat) o, i < p → l[i]? = some o → ∀ t ∈ slots l o, ∀ j, j < p → j ≠ i → dstAt l j = some t → (j < i ∧ ((masks l []).getD i 0).testBit j = true) ∨ (i < j ∧ ((masks l []).getD j 0).testBit i = true))
    (hxp : xs.length = p) (hF0 : F [] st)
    (hstep : ∀ pre i post st o, σ = pre ++ i :: post → l[i]? = some o → F pre st → dstOk N o.dst = true ∧ ∃ x st', xs[i]? = some x ∧ OpE P S.base l (renv l o (putAll env ((l.take p).take i) (xs.take i))) st o x st' ∧ F (pre ++ [i]) st')
    (hsuf : ∀ st, F σ st → AOps P f N S Q l (l.drop p) k (putAll env (l.take p) xs) st) : ARun P f N S Q (.inRegion l.toArray (σ ++ List.range' p (l.length - p)) :: k) env st := by
  have hxl : xs.length = (l.take p).length := by simp; omega
  suffices key : ∀ (post pre : List Nat) (st : St) (g : Ghost) (w : World) (tmps : Array Value), σ = pre ++ post → F pre st → Inv g S.base w st → Hist S g w st → tmps.size = N →
      (∀ (s : Tmp), (∀ (j : Nat) x, j ∈ pre → dstAt l j = some s → xs[j]? = some x → ∃ v, tmps[s]? = some v ∧ EVRep g w st x v) ∧
        ((∀ j, j ∈ pre → dstAt l j ≠ some s) → ∀ y, lookup s env = some y → ∃ v, tmps[s]? = some v ∧ EVRep g w st y v)) →
      FWP P f (RPost S Q) (.inRegion l.toArray (post ++ List.range' p (l.length - p)) :: k) tmps w by
    intro g w tmps hinv hh he hN
    exact key σ [] st g w tmps rfl hF0 hinv hh hN fun s => ⟨fun j x hj => by (cases hj), fun _ y hy => he s y hy⟩
  intro post
  induction post with
  | nil =>
    intro pre st g w tmps hσ hF hinv hh hN hJ
    rw [List.append_nil] at hσ
    subst hσ
    have hdl : (l.drop p).length = l.length - p := by simp
    rw [List.nil_append, ← hdl]
    refine hsuf st hF p (fun j => by rw [List.getElem?_drop]) g w tmps hinv hh (fun s y hy => ?_) hN
    rcases lookup_putAll hxl hy with ⟨j, o, h1, h2, h3⟩ | ⟨h1, h2⟩
    · have hj : j < p := by have := (List.getElem?_eq_some_iff.1 h2).1; omega
      have ho : l[j]? = some o := by rw [List.getElem?_take] at h1; rw [if_pos hj] at h1; exact h1
      exact (hJ s).1 j y ((hs.mem j).2 hj) (by simp [dstAt, ho, h3]) h2
    · refine (hJ s).2 (fun j hj hd => ?_) y h2
      have hj' := (hs.mem j).1 hj
      cases ho : l[j]? with
      | none => simp [dstAt, ho] at hd
      | some o => exact h1 j o (by rw [List.getElem?_take, if_pos hj']; exact ho) (by simpa [dstAt, ho] using hd)
  | cons i post ih =>
    intro pre st g w tmps hσ hF hinv hh hN hJ
    have hi : i < p := (hs.mem i).1 (by rw [hσ]; simp)
    have hil : i < l.length := by omega
    obtain ⟨o, ho'⟩ : ∃ o, l[i]? = some o := ⟨_, List.getElem?_eq_getElem hil⟩
    have hmask := hs.mask pre i post hσ
    have hipre : i ∉ pre := by
      have := hs.nodup
      rw [hσ, List.nodup_append] at this
      exact fun hm => this.2.2 i hm i List.mem_cons_self rfl
    have hprelt : ∀ j, j ∈ pre → j < p := fun j hj => (hs.mem j).1 (by rw [hσ]; simp [hj])
    obtain ⟨hd, x, st', hx, hop, hF'⟩ := hstep pre i post st o hσ ho' hF
    -- what the operation looks at
    have he : EnvRep g w st (renv l o (putAll env ((l.take p).take i) (xs.take i))) tmps := by
      intro s y hy
      obtain ⟨hsl, hy'⟩ := renvOf_get hy
      rcases lookup_putAll (by simp [hxl]) hy' with ⟨j, o', h1, h2, h3⟩ | ⟨h1, h2⟩
      · have hji : j < i := by have := (List.getElem?_eq_some_iff.1 h2).1; simp at this; omega
        have hoj : l[j]? = some o' := by
          rw [List.getElem?_take, if_pos hji, List.getElem?_take, if_pos (by omega)] at h1; exact h1
        have hdj : dstAt l j = some s := by simp [dstAt, hoj, h3]
        rcases hC2 i o hi ho' s hsl j (by omega) (by omega) hdj with ⟨_, hb⟩ | ⟨hlt, _⟩
        · exact (hJ s).1 j y (hmask j hb) hdj (by rw [List.getElem?_take, if_pos hji] at h2; exact h2)
        · omega
      · refine (hJ s).2 (fun j hj hdj => ?_) y h2
        have hji : j ≠ i := fun e => hipre (e ▸ hj)
        rcases hC2 i o hi ho' s hsl j (hprelt j hj) hji hdj with ⟨hlt, _⟩ | ⟨hlt, hb⟩
        · cases hoj : l[j]? with
          | none => simp [dstAt, hoj] at hdj
          | some o' => exact h1 j o' (by rw [List.getElem?_take, if_pos hlt, List.getElem?_take, if_pos (hprelt j hj)]; exact hoj) (by simpa [dstAt, hoj] using hdj)
        · -- j came ahead of i, though it must come behind it
          obtain ⟨a, b, hab⟩ := List.append_of_mem hj
          have := hs.mask a j (b ++ i :: post) (by rw [hσ, hab]; simp) i hb
          exact absurd (by rw [hab]; simp [this] : i ∈ pre) hipre
    have next : ∀ (g' : Ghost) (w' : World) (v : Value), EVRep g' w' st' x v → Inv g' S.base w' st' → Step S.base g w st g' w' st' →
        FWP P f (RPost S Q) (.inRegion l.toArray (post ++ List.range' p (l.length - p)) :: k) (Act.put ⟨tmps, []⟩ o.dst v).tmps w' := by
      intro g' w' v hxr hinv' hst
      refine ih (pre ++ [i]) st' g' w' _ (by rw [hσ]; simp) hF' hinv' (hh.step hst) (by rw [size_put]; exact hN) fun s => ⟨fun j y hj hdj hy => ?_, fun hno y hy => ?_⟩
      · by_cases hji : j = i
        · subst hji
          have hods : o.dst = some s := by simpa [dstAt, ho'] using hdj
          rw [hx] at hy
          cases hy
          rw [hods]
          have hsz : s < tmps.size := by
            rw [hods] at hd
            have hd' : s + 1 ≤ N := Nat.le_of_ble_eq_true hd
            rw [hN]
            exact hd'
          exact ⟨v, by simp [Act.put, hsz], hxr⟩
        · have hj' : j ∈ pre := by
            rcases List.mem_append.1 hj with h | h
            · exact h
            · exact absurd (List.mem_singleton.1 h) hji
          obtain ⟨u, h1, h2⟩ := (hJ s).1 j y hj' hdj hy
          have hne' : o.dst ≠ some s := fun e => hC1 j i s (hprelt j hj') hi hji hdj (by simp [dstAt, ho', e])
          refine ⟨u, ?_, h2.mono hst.sevo⟩
          cases hod : o.dst with
          | none => exact h1
          | some d =>
            have : d ≠ s := fun e => hne' (by rw [hod, e])
            simp [Act.put, Array.getElem?_setIfInBounds, this, h1]
      · have hne' : o.dst ≠ some s := fun e => hno i (by simp) (by simp [dstAt, ho', e])
        obtain ⟨u, h1, h2⟩ := (hJ s).2 (fun j hj => hno j (by simp [hj])) y hy
        refine ⟨u, ?_, h2.mono hst.sevo⟩
        cases hod : o.dst with
        | none => exact h1
        | some d =>
          have : d ≠ s := fun e => hne' (by rw [hod, e])
          simp [Act.put, Array.getElem?_setIfInBounds, this, h1]
    have hoA : l.toArray[i]? = some o := by simpa using ho'
    show FWP P f (RPost S Q) (.inRegion l.toArray (i :: _) :: k) tmps w
    have nextG : st' = st → ∀ (lim' : Nat → Nat) (w' : World) (v : Value), Good g w st x lim' w' v →
        FWP P f (RPost S Q) (.inRegion l.toArray (post ++ List.range' p (l.length - p)) :: k) (Act.put ⟨tmps, []⟩ o.dst v).tmps w' := by
      rintro rfl lim' w' v ⟨hxr, hb, hl⟩
      obtain ⟨hinv', hst⟩ := hinv.grow (g' := { g with lim := lim' }) hb hl rfl rfl
      exact next _ w' v hxr hinv' hst
    rcases hop with ⟨hse, hop⟩ | ⟨hg, hop⟩ | ⟨hg, rfl, hop⟩
    · rcases hop with ⟨hg, hop⟩ | ⟨j, want, tt, c, b, y, env', hg, hj, hlk, hgc, rfl, hE, hop⟩
      · have hw : Region.wanted o (yielded l.toArray tmps) = true := by simp [Region.wanted, hg]
        rcases hop g S.base w tmps hinv he with ⟨v, lim', w', hr, hgood⟩ | ⟨f', args, hr, hc⟩
        · exact FWP.value hoA hw hr (nextG hse lim' w' v hgood)
        · exact FWP.call hoA hw hr (hc.mono fun e w' ⟨v, lim', h1, h2⟩ => ⟨v, h1, nextG hse lim' w' v h2⟩)
      · obtain ⟨u, hu, hur⟩ := he tt c hlk
        have hw : Region.wanted o (yielded l.toArray tmps) = b := by
          rw [← gcond_rep hgc hur]
          have hj' : ((l.toArray)[j]?).bind (·.dst) = some tt := by simpa using hj
          simp only [Region.wanted, hg, yielded, hj', Option.bind_some, hu]
          cases u <;> rfl
        cases b with
        | false => exact FWP.unwanted hoA hw (nextG hse g.lim w undef ⟨.gd _ _ _ (fun _ => rfl) (fun h => by cases h), .refl _ _, fun _ _ => rfl⟩)
        | true =>
          have wrap : ∀ lim' w' v, Good g w st y lim' w' v → Good g w st (.gd true y) lim' w' v := fun lim' w' v ⟨a, b, c⟩ => ⟨.gd _ _ _ (fun h => by cases h) (fun _ => a), b, c⟩
          rcases hop rfl g S.base w tmps hinv (he.gd hE rfl) with ⟨v, lim', w', hr, hgood⟩ | ⟨f', args, hr, hc⟩
          · exact FWP.value hoA hw hr (nextG hse lim' w' v (wrap _ _ _ hgood))
          · exact FWP.call hoA hw hr (hc.mono fun e w' ⟨v, lim', h1, h2⟩ => ⟨v, h1, nextG hse lim' w' v (wrap _ _ _ h2)⟩)
    · have hw : Region.wanted o (yielded l.toArray tmps) = true := by simp [Region.wanted, hg]
      obtain ⟨v, g', w', hr, hxr, hinv', hst⟩ := hop g w tmps hinv he
      exact FWP.value hoA hw hr (next g' w' v hxr hinv' hst)
    · have hw : Region.wanted o (yielded l.toArray tmps) = true := by simp [Region.wanted, hg]
      obtain ⟨g', w', hr, hinv', hst⟩ := hop g w tmps hinv he
      exact FWP.skip hoA hw hr (next g' w' undef (.d _ _ (.any _)) hinv' hst)


/-- What is asked of all states of a list. -/
def AllL : List St → (St → Prop) → Prop
  | [], _ => True
  | s :: r, p => p s ∧ AllL r p
theorem AllL.get {p : St → Prop} : ∀ {ss : List St} {i : Nat} {s : St}, AllL ss p → ss[i]? = some s → p s
  | s :: r, 0, s', h, hs => by simp at hs; subst hs; exact h.1
  | s :: r, i + 1, s', h, hs => AllL.get h.2 (by simpa using hs)
  | [], i, s', h, hs => by simp at hs
/-- May the operation i come up when the first m of the operations E (which turn the state) have come up? -/
def mayB (l : List Oper) (E : List Nat) (i m : Nat) : Bool := E.zipIdx.all fun e => (!((masks l []).getD i 0).testBit e.1 || decide (e.2 < m)) && (!((masks l []).getD e.1 0).testBit i || decide (m ≤ e.2))
def boundB (l : List Oper) (E : List Nat) (i lo hi : Nat) : Bool := (List.range (E.length + 1)).all fun m => !mayB l E i m || (decide (lo ≤ m) && decide (m ≤ hi))
def EStep (P : Program) (N base : Nat) (l : List Oper) (E : List Nat) (sts : List St) (i : Nat) (o : Oper) (env : Env) (x : EV) : Prop :=
  dstOk N o.dst = true ∧
  ((∃ lo hi, (!E.any fun e => Nat.beq e i) = true ∧ boundB l E i lo hi = true ∧ AllL ((sts.take (hi + 1)).drop lo) fun s => OpAny P l env s o x) ∨
   (∃ m s s', E[m]? = some i ∧ sts[m]? = some s ∧ sts[m + 1]? = some s' ∧ o.guard = none ∧ (OpV P base env s o x s' ∨ x = .d .any ∧ OpU P base env s o s')))
def EChain (P : Program) (N base : Nat) (l : List Oper) (E : List Nat) (sts : List St) : Nat → List Oper → List EV → Env → Prop
  | _, [], [], _ => True
  | i, o :: os, x :: xs, env => EStep P N base l E sts i o (renv l o env) x ∧ EChain P N base l E sts (i + 1) os xs (env.put o.dst x)
  | _, _, _, _ => False
theorem EChain.length {base : Nat} {l : List Oper} {E : List Nat} {sts : List St} : ∀ {i : Nat} {os : List Oper} {xs : List EV} {env : Env}, EChain P N base l E sts i os xs env → xs.length = os.length
  | _, [], [], _, _ => rfl
  | _, o :: os, x :: xs, env, h => by simp [EChain.length h.2]
  | _, [], x :: xs, _, h => h.elim
  | _, o :: os, [], _, h => h.elim
theorem EChain.get {base : Nat} {l : List Oper} {E : List Nat} {sts : List St} : ∀ {i : Nat} {os : List Oper} {xs : List EV} {env : Env} {j : Nat} {o : Oper}, EChain P N base l E sts i os xs env → os[j]? = some o →
    ∃ x, xs[j]? = some x ∧ EStep P N base l E sts (i + j) o (renv l o (putAll env (os.take j) (xs.take j))) x
  | i, o' :: os, x :: xs, env, 0, o, h, ho => by
    simp at ho; subst ho
    exact ⟨x, rfl, by simpa [putAll] using h.1⟩
  | i, o' :: os, x :: xs, env, j + 1, o, h, ho => by
    obtain ⟨y, h1, h2⟩ := EChain.get (j := j) h.2 (by simpa using ho)
    exact ⟨y, by simpa using h1, by simpa [putAll, Nat.add_assoc, Nat.add_comm 1 j] using h2⟩
  | i, [], xs, env, j, o, h, ho => by simp at ho
  | i, o' :: os, [], _, _, _, h, _ => h.elim
/-- An order in which what turns the state comes as told. -/
theorem ARun.effσ {l : List Oper} {p : Nat} {σ : List Nat} {env : Env} {st stF : St} (hB : drawB l p = true) (hs : Sched l p σ) (E : List Nat) (sts : List St) (hE : σ.filter (fun i => E.any fun e => Nat.beq e i) = E) {xs : List EV}
    (h0 : sts[0]? = some st) (hF : sts[E.length]? = some stF) (hch : EChain P N S.base l E sts 0 (l.take p) xs env) (hsuf : AOps P f N S Q l (l.drop p) k (putAll env (l.take p) xs) stF) :
    ARun P f N S Q (.inRegion l.toArray (σ ++ List.range' p (l.length - p)) :: k) env st := by
  simp only [drawB, Bool.and_eq_true] at hB
  obtain ⟨⟨⟨⟨hB1, hB2⟩, hB3⟩, hB4⟩, hB5⟩ := hB
  have hp : p ≤ l.length := by simpa using hB5
  have hxp : xs.length = p := by rw [hch.length]; simp; omega
  refine ARun.runσ hs hp xs (fun pre s => sts[(pre.filter fun i => E.any fun e => Nat.beq e i).length]? = some s) ?_ ?_ hxp h0 ?_ ?_
  · intro i j t hi hj hij hdi hdj
    have := allBelow_get (allBelow_get hB2 hi) hj
    simp [hij, hdi, hdj] at this
  · intro i o hi ho t ht j hj hji hdj
    have h1 := allBelow_get hB1 hi
    rw [ho] at h1
    simp only [List.all_eq_true] at h1
    have h2 := allBelow_get (h1 t ht) hj
    simp only [hdj, bne_self_eq_false, Bool.or_false, Bool.or_eq_true, Bool.and_eq_true, decide_eq_true_eq, beq_iff_eq] at h2
    rcases h2 with (h2 | h2) | h2
    · exact absurd h2.symm hji
    · exact .inl h2
    · exact .inr h2
  · intro pre i post s o hσ ho hFs
    have hi : i < p := (hs.mem i).1 (by rw [hσ]; simp)
    obtain ⟨x, hx, hst⟩ := hch.get (j := i) (o := o) (by rw [List.getElem?_take, if_pos hi]; exact ho)
    rw [Nat.zero_add] at hst
    obtain ⟨hd, hst⟩ := hst
    refine ⟨hd, x, ?_⟩
    -- how far the turning operations have come
    have hsplit : E = (pre.filter fun i => E.any fun e => Nat.beq e i) ++ ((i :: post).filter fun i => E.any fun e => Nat.beq e i) := by
      have := hE
      rw [hσ, List.filter_append] at this
      exact this.symm
    generalize hm : (pre.filter fun i => E.any fun e => Nat.beq e i).length = m at hFs
    have hmE : m ≤ E.length := by rw [hsplit, List.length_append, hm]; omega
    rcases hst with ⟨lo, hi', hne, hb, hall⟩ | ⟨m', s0, s1, hEm, hs0, hs1, hg, hop⟩
    · have hnoE : (E.any fun e => Nat.beq e i) = false := by simpa using hne
      have hmay : mayB l E i m = true := by
        unfold mayB
        rw [List.all_eq_true]
        rintro ⟨e, j⟩ hej
        have hEj : E[j]? = some e := by
          have := List.mem_zipIdx_iff_getElem?.1 hej
          simpa using this
        have hinE : (E.any fun e' => Nat.beq e' e) = true := List.any_eq_true.2 ⟨e, List.mem_of_getElem? hEj, Nat.beq_refl e⟩
        simp only [Bool.and_eq_true, Bool.or_eq_true, Bool.not_eq_true', decide_eq_true_eq]
        have hnodE : E.Nodup := by rw [← hE]; exact hs.nodup.filter _
        constructor
        · cases hbit : ((masks l []).getD i 0).testBit e with
          | false => exact .inl rfl
          | true =>
            right
            have hin := hs.mask pre i post hσ e hbit
            have hin2 : e ∈ pre.filter fun i => E.any fun e => Nat.beq e i := List.mem_filter.2 ⟨hin, hinE⟩
            obtain ⟨a, ha, hae⟩ := List.mem_iff_getElem.1 hin2
            have : E[a]? = some e := by rw [hsplit, List.getElem?_append_left ha, List.getElem?_eq_getElem ha, hae]
            have haj : a = j := by
              have h1 := (List.getElem?_eq_some_iff.1 this)
              have h2 := (List.getElem?_eq_some_iff.1 hEj)
              exact (List.getElem_inj hnodE).1 (h1.2.trans h2.2.symm)
            omega
        · cases hbit : ((masks l []).getD e 0).testBit i with
          | false => exact .inl rfl
          | true =>
            right
            -- e comes behind i
            rcases Nat.lt_or_ge j m with hjm | hjm
            · have h1 : (pre.filter fun i => E.any fun e => Nat.beq e i)[j]? = some e := by
                rw [hsplit, List.getElem?_append_left (by omega)] at hEj
                exact hEj
              have hin : e ∈ pre := (List.mem_filter.1 (List.mem_of_getElem? h1)).1
              obtain ⟨a, b, hab⟩ := List.append_of_mem hin
              have := hs.mask a e (b ++ i :: post) (by rw [hσ, hab]; simp) i hbit
              have hipre : i ∉ pre := by
                have := hs.nodup
                rw [hσ, List.nodup_append] at this
                exact fun hm => this.2.2 i hm i List.mem_cons_self rfl
              exact absurd (by rw [hab]; simp [this] : i ∈ pre) hipre
            · exact hjm
      have hbd := List.all_eq_true.1 hb m (List.mem_range.2 (by omega))
      rw [hmay] at hbd
      simp only [Bool.not_true, Bool.false_or, Bool.and_eq_true, decide_eq_true_eq] at hbd
      refine ⟨s, hx, .inl ⟨rfl, hall.get (i := m - lo) ?_⟩, ?_⟩
      · rw [List.getElem?_drop, List.getElem?_take, if_pos (by omega), show lo + (m - lo) = m by omega]
        exact hFs
      · rw [List.filter_append, List.filter_cons, hnoE]
        simp only [Bool.false_eq_true, if_false, List.filter_nil, List.append_nil]
        rw [hm]; exact hFs
    · have hinE : (E.any fun e' => Nat.beq e' i) = true := List.any_eq_true.2 ⟨i, List.mem_of_getElem? hEm, Nat.beq_refl i⟩
      have hnodE : E.Nodup := by rw [← hE]; exact hs.nodup.filter _
      have hEm2 : E[m]? = some i := by
        rw [hsplit, List.getElem?_append_right (by omega), hm, Nat.sub_self, List.filter_cons, hinE]
        rfl
      have hmm : m = m' := by
        have h1 := (List.getElem?_eq_some_iff.1 hEm2)
        have h2 := (List.getElem?_eq_some_iff.1 hEm)
        exact (List.getElem_inj hnodE).1 (h1.2.trans h2.2.symm)
      subst hmm
      rw [hFs] at hs0
      cases hs0
      refine ⟨s1, hx, ?_, ?_⟩
      · rcases hop with h | ⟨h1, h2⟩
        · exact .inr (.inl ⟨hg, h⟩)
        · exact .inr (.inr ⟨hg, h1, h2⟩)
      · rw [List.filter_append, List.filter_cons, hinE]
        simp only [if_true, List.filter_nil, List.length_append, List.length_singleton, hm]
        exact hs1
  · intro s hFs
    rw [hE, hF] at hFs
    cases hFs
    exact hsuf
theorem filter_one {σ : List Nat} (hn : σ.Nodup) {e : Nat} (he : e ∈ σ) : σ.filter (fun i => i == e) = [e] := by
  induction σ with
  | nil => cases he
  | cons c r ih =>
    rw [List.nodup_cons] at hn
    by_cases hc : c = e
    · subst hc
      have : r.filter (fun i => i == c) = [] := List.filter_eq_nil_iff.2 fun i hi h => hn.1 (by rw [beq_iff_eq] at h; exact h ▸ hi)
      rw [List.filter_cons, beq_self_eq_true, if_pos rfl, this]
    · rw [List.filter_cons]
      have : (c == e) = false := by simpa using hc
      rw [this]
      simpa using ih hn.2 ((List.mem_cons.1 he).resolve_left (Ne.symm hc))
theorem Sched.one {l : List Oper} {p : Nat} {σ : List Nat} (hs : Sched l p σ) {e : Nat} (he : e < p) : σ.filter (fun i => [e].any fun e => Nat.beq e i) = [e] := by
  have h1 : (fun i => [e].any fun e => Nat.beq e i) = fun i => i == e := by
    funext i
    simp only [List.any_cons, List.any_nil, Bool.or_false]
    rw [Bool.eq_iff_iff, Nat.beq_eq, beq_iff_eq, eq_comm]
  rw [h1]
  exact filter_one hs.nodup ((hs.mem e).2 he)
theorem filter_two {σ : List Nat} (hn : σ.Nodup) {a b : Nat} (hab : a ≠ b) (ha : a ∈ σ) (hb : b ∈ σ) (q : Nat → Bool) (hq : ∀ i, q i = (i == a || i == b)) : σ.filter q = [a, b] ∨ σ.filter q = [b, a] := by
  induction σ with
  | nil => cases ha
  | cons c r ih =>
    rw [List.nodup_cons] at hn
    by_cases hca : c = a
    · subst hca
      left
      have hbr : b ∈ r := (List.mem_cons.1 hb).resolve_left (Ne.symm hab)
      rw [List.filter_cons, hq, beq_self_eq_true, Bool.true_or, if_pos rfl]
      congr 1
      have : r.filter q = r.filter fun i => i == b := List.filter_congr fun i hi => by
        have : i ≠ c := fun e => hn.1 (e ▸ hi)
        rw [hq]; simp [this]
      rw [this]
      exact filter_one hn.2 hbr
    · by_cases hcb : c = b
      · subst hcb
        right
        have har : a ∈ r := (List.mem_cons.1 ha).resolve_left (Ne.symm hca)
        rw [List.filter_cons, hq, beq_self_eq_true, Bool.or_true, if_pos rfl]
        congr 1
        have : r.filter q = r.filter fun i => i == a := List.filter_congr fun i hi => by
          have : i ≠ c := fun e => hn.1 (e ▸ hi)
          rw [hq]; simp [this]
        rw [this]
        exact filter_one hn.2 har
      · have har : a ∈ r := (List.mem_cons.1 ha).resolve_left (Ne.symm hca)
        have hbr : b ∈ r := (List.mem_cons.1 hb).resolve_left (Ne.symm hcb)
        have := ih hn.2 har hbr
        rw [List.filter_cons, hq]
        simpa [hca, hcb] using this
theorem Sched.two {l : List Oper} {p : Nat} {σ : List Nat} (hs : Sched l p σ) {a b : Nat} (hab : a ≠ b) (ha : a < p) (hb : b < p) :
    σ.filter (fun i => [a, b].any fun e => Nat.beq e i) = [a, b] ∨ σ.filter (fun i => [b, a].any fun e => Nat.beq e i) = [b, a] := by
  have q1 : ∀ i, ([a, b].any fun e => Nat.beq e i) = (i == a || i == b) := fun i => by
    simp only [List.any_cons, List.any_nil, Bool.or_false]
    rw [Bool.eq_iff_iff]
    simp only [Bool.or_eq_true, Nat.beq_eq, beq_iff_eq]
    exact ⟨fun h => h.elim (fun h => .inl h.symm) (fun h => .inr h.symm), fun h => h.elim (fun h => .inl h.symm) (fun h => .inr h.symm)⟩
  have q2 : ∀ i, ([b, a].any fun e => Nat.beq e i) = (i == a || i == b) := fun i => by
    simp only [List.any_cons, List.any_nil, Bool.or_false]
    rw [Bool.eq_iff_iff]
    simp only [Bool.or_eq_true, Nat.beq_eq, beq_iff_eq]
    exact ⟨fun h => h.elim (fun h => .inr h.symm) (fun h => .inl h.symm), fun h => h.elim (fun h => .inr h.symm) (fun h => .inl h.symm)⟩
  rcases filter_two hs.nodup hab ((hs.mem a).2 ha) ((hs.mem b).2 hb) _ q1 with h | h
  · exact .inl h
  · right
    have : (fun i => [b, a].any fun e => Nat.beq e i) = fun i => [a, b].any fun e => Nat.beq e i := by
      funext i; rw [q1, q2]
    rw [this]; exact h
/-- Two of which one must come ahead. -/
theorem Sched.two' {l : List Oper} {p : Nat} {σ : List Nat} (hs : Sched l p σ) {a b : Nat} (ha : a < p) (hb : b < p) (hm : ((masks l []).getD b 0).testBit a = true) :
    σ.filter (fun i => [a, b].any fun e => Nat.beq e i) = [a, b] := by
  have hab : a ≠ b := by
    rintro rfl
    obtain ⟨x, y, hxy⟩ := List.append_of_mem ((hs.mem a).2 ha)
    have h1 := hs.mask x a y hxy a hm
    have := hs.nodup
    rw [hxy, List.nodup_append] at this
    exact this.2.2 a h1 a List.mem_cons_self rfl
  rcases hs.two hab ha hb with h | h
  · exact h
  · exfalso
    obtain ⟨x, y, hxy⟩ := List.append_of_mem ((hs.mem b).2 hb)
    have h1 := hs.mask x b y hxy a hm
    rw [hxy, List.filter_append] at h
    have q : ([b, a].any fun e => Nat.beq e b) = true := by simp
    rw [List.filter_cons, q] at h
    have h2 : a ∈ x.filter fun i => [b, a].any fun e => Nat.beq e i := List.mem_filter.2 ⟨h1, by simp⟩
    obtain ⟨u, v, huv⟩ := List.append_of_mem h2
    have hl := congrArg List.length h
    have hbx : b ∉ x := by
      have := hs.nodup
      rw [hxy, List.nodup_append] at this
      exact fun hm => this.2.2 b hm b List.mem_cons_self rfl
    cases hx : x.filter fun i => [b, a].any fun e => Nat.beq e i with
    | nil => rw [hx] at h2; cases h2
    | cons c r =>
      rw [hx] at h
      simp only [List.cons_append, List.cons.injEq] at h
      have : b ∈ x.filter fun i => [b, a].any fun e => Nat.beq e i := by rw [hx, h.1]; exact List.mem_cons_self
      exact hbx (List.mem_filter.1 this).1
/-- What is left of a region's beginning, in an order in which what turns the state comes as told. -/
def XOps (P : Program) (f : FuncId) (N : Nat) (S : Start) (Q : EV → St → Prop) (l : List Oper) (p : Nat) (E : List Nat) (sts : List St) (i : Nat) (os : List Oper) (k : List Item) (env : Env) : Prop :=
  ∃ xs stF, sts[E.length]? = some stF ∧ EChain P N S.base l E sts i os xs env ∧ AOps P f N S Q l (l.drop p) k (putAll env os xs) stF
variable {l : List Oper} {p : Nat} {E : List Nat} {sts : List St} {i : Nat} {os : List Oper} {env : Env} {st : St} {d : Option Tmp} {op : Op} {ty : TypeId} {pos : String} {after : Array Edge} {x : EV}
theorem XOps.nil {stF : St} (hF : sts[E.length]? = some stF) (h : AOps P f N S Q l (l.drop p) k env stF) : XOps P f N S Q l p E sts i [] k env := ⟨[], stF, hF, trivial, h⟩
def GAll (P : Program) (l : List Oper) (env : Env) (o : Oper) (x : EV) : List St → Prop
  | [] => True
  | s :: r => OpG P (renv l o env) s o x ∧ GAll P l env o x r
theorem GAll.all {o : Oper} {P : Program} {l : List Oper} {env : Env} {x : EV} (hg : o.guard = none) : ∀ {ss : List St}, GAll P l env o x ss → AllL ss fun s => OpAny P l (renv l o env) s o x
  | [], _ => trivial
  | s :: r, h => ⟨.inl ⟨hg, h.1⟩, GAll.all hg h.2⟩
theorem XOps.g (lo hi : Nat) (h : GAll P l env ⟨d, op, ty, pos, after, none⟩ x ((sts.take (hi + 1)).drop lo)) (hne : (!E.any fun e => Nat.beq e i) = true) (hb : boundB l E i lo hi = true) (hd : dstOk N d = true)
    (hk : XOps P f N S Q l p E sts (i + 1) os k (env.put d x)) : XOps P f N S Q l p E sts i (⟨d, op, ty, pos, after, none⟩ :: os) k env := by
  obtain ⟨xs, stF, h0, h1, h2⟩ := hk
  exact ⟨x :: xs, stF, h0, ⟨⟨hd, .inl ⟨lo, hi, hne, hb, h.all rfl⟩⟩, h1⟩, h2⟩
theorem XOps.guardG {d : Tmp} {j : Nat} {want b : Bool} {t : Tmp} {c : EV} {env' : Env} (lo hi : Nat) (hj : (l[j]?).bind (·.dst) = some t)
    (hl : lookup t (renv l ⟨some d, op, ty, pos, after, some (j, want)⟩ env) = some c) (hc : gcond c want = some b) (hE : GdEnv b (renv l ⟨some d, op, ty, pos, after, some (j, want)⟩ env) env') (hd : dstOk N (some d) = true)
    (h : b = true → AllL ((sts.take (hi + 1)).drop lo) fun s => OpG P env' s ⟨some d, op, ty, pos, after, some (j, want)⟩ x) (hne : (!E.any fun e => Nat.beq e i) = true) (hb : boundB l E i lo hi = true)
    (hk : XOps P f N S Q l p E sts (i + 1) os k ((d, .gd b x) :: env)) : XOps P f N S Q l p E sts i (⟨some d, op, ty, pos, after, some (j, want)⟩ :: os) k env := by
  obtain ⟨xs, stF, h0, h1, h2⟩ := hk
  refine ⟨.gd b x :: xs, stF, h0, ⟨⟨hd, .inl ⟨lo, hi, hne, hb, ?_⟩⟩, h1⟩, h2⟩
  have mk : ∀ {ss : List St}, (b = true → AllL ss fun s => OpG P env' s ⟨some d, op, ty, pos, after, some (j, want)⟩ x) → AllL ss fun s => OpAny P l (renv l ⟨some d, op, ty, pos, after, some (j, want)⟩ env) s ⟨some d, op, ty, pos, after, some (j, want)⟩ (.gd b x) := by
    intro ss
    induction ss with
    | nil => exact fun _ => trivial
    | cons s r ih => exact fun h => ⟨.inr ⟨j, want, t, c, b, x, env', rfl, hj, hl, hc, rfl, hE, fun hb => (h hb).1⟩, ih fun hb => (h hb).2⟩
  exact mk h
theorem XOps.v {s s' : St} (m : Nat) (h : OpV P S.base (renv l ⟨d, op, ty, pos, after, none⟩ env) s ⟨d, op, ty, pos, after, none⟩ x s') (hE : E[m]? = some i) (h1 : sts[m]? = some s) (h2 : sts[m + 1]? = some s') (hd : dstOk N d = true)
    (hk : XOps P f N S Q l p E sts (i + 1) os k (env.put d x)) : XOps P f N S Q l p E sts i (⟨d, op, ty, pos, after, none⟩ :: os) k env := by
  obtain ⟨xs, stF, h0, h3, h4⟩ := hk
  exact ⟨x :: xs, stF, h0, ⟨⟨hd, .inr ⟨m, s, s', hE, h1, h2, rfl, .inl h⟩⟩, h3⟩, h4⟩
theorem XOps.u {s s' : St} (m : Nat) (h : OpU P S.base (renv l ⟨d, op, ty, pos, after, none⟩ env) s ⟨d, op, ty, pos, after, none⟩ s') (hE : E[m]? = some i) (h1 : sts[m]? = some s) (h2 : sts[m + 1]? = some s') (hd : dstOk N d = true)
    (hk : XOps P f N S Q l p E sts (i + 1) os k (env.put d (.d .any))) : XOps P f N S Q l p E sts i (⟨d, op, ty, pos, after, none⟩ :: os) k env := by
  obtain ⟨xs, stF, h0, h3, h4⟩ := hk
  exact ⟨.d .any :: xs, stF, h0, ⟨⟨hd, .inr ⟨m, s, s', hE, h1, h2, rfl, .inr ⟨rfl, h⟩⟩⟩, h3⟩, h4⟩
theorem ARun.eff {σ : List Nat} {env : Env} {st : St} (hB : drawB l p = true) (hs : Sched l p σ) (hE : σ.filter (fun i => E.any fun e => Nat.beq e i) = E) (h0 : sts[0]? = some st) (h : XOps P f N S Q l p E sts 0 (l.take p) k env) :
    ARun P f N S Q (.inRegion l.toArray (σ ++ List.range' p (l.length - p)) :: k) env st := by
  obtain ⟨xs, stF, h1, h2, h3⟩ := h
  exact .effσ hB hs E sts hE h0 h1 h2 h3

/-- A state that is another one with its places renamed: what is run from that one is run from this one. -/
theorem ARun.reorder {todo : List Item} {env env0 : Env} {st st0 : St} (rs ts : List Nat) (hp : partB rs ts st0 st = true)
    (ho : rs.map (fun r => st.objs[r]?) = st0.objs.map (fun x => some (x.ren (renF rs st.objs.length) (renF ts st.tails.length)))) (ht : ts.map (fun r => st.tails[r]?) = st0.tails.map some)
    (hr : rs.take S.st.objs.length = List.range S.st.objs.length) (htt : ts.take S.st.tails.length = List.range S.st.tails.length) (hl : (Nat.ble S.st.objs.length rs.length && Nat.ble S.st.tails.length ts.length) = true)
    (h5 : st0.objs.all (okObj st0.objs.length st0.tails.length) = true) (hok : (env0.all fun p => okEV st0.objs.length st0.tails.length p.2) = true)
    (hE : SubEnv env (env0.map fun p => (p.1, p.2.ren (renF rs st.objs.length) (renF ts st.tails.length)))) (h : ARun P f N S Q todo env0 st0) : ARun P f N S Q todo env st := by
  obtain ⟨p, e1', e2', l1, l2⟩ := Part.of hp h5 ho ht
  simp only [Bool.and_eq_true] at hl
  have hl1 := Nat.le_of_ble_eq_true hl.1
  have hl2 := Nat.le_of_ble_eq_true hl.2
  have same : ∀ {l : List Nat} {n N : Nat}, l.take n = List.range n → n ≤ l.length → ∀ i, i < n → renF l N i = i := fun {l n N} hl hn i hi => by
    have e : (l.take n)[i]? = some i := by rw [hl, List.getElem?_range hi]
    rw [List.getElem?_take, if_pos hi] at e
    simp [renF, e]
  have so := fun i hi => same (N := st.objs.length) hr hl1 i hi
  have stl := fun i hi => same (N := st.tails.length) htt hl2 i hi
  have hgetT : ∀ {i : Nat}, i < st0.tails.length → st0.tails[i]? = st.tails[renF ts st.tails.length i]? := fun {i} hi => by
    rw [p.tails i _ (List.getElem?_eq_getElem hi), List.getElem?_eq_getElem hi]
  intro g w tmps hinv hh he hN
  refine h (g.sub _ _) w tmps (hinv.part p) ⟨⟨hh.sevo.evo, fun o ho' => ?_, by omega, fun t e sz n hx => ?_, by omega, fun t x' rows' hlt hx' ho' => ?_⟩, hh.below, hh.lim, hh.frame, fun b hb hw => hh.fresh b hb (p.owned hw)⟩ (fun i y hy => ?_) hN
  · show g.ob (renF rs st.objs.length o) = S.g.ob o
    rw [so o ho']
    exact hh.sevo.ob o ho'
  · have hlt : t < S.st.tails.length := (List.getElem?_eq_some_iff.1 hx).1
    obtain ⟨n', a1, a2, a3⟩ := hh.sevo.tails t e sz n hx
    refine ⟨n', ?_, a2, fun e' => ?_⟩
    · rw [hgetT (by omega), stl t hlt]; exact a1
    · show g.tk (renF ts st.tails.length t) = S.g.tk t
      rw [stl t hlt]
      exact a3 e'
  · rw [hgetT (by have := (List.getElem?_eq_some_iff.1 hx').1; exact this), stl t hlt] at hx'
    obtain ⟨y, rows, a1, a2, a3, a4, a5⟩ := hh.sevo.own t x' rows' hlt hx' ho'
    refine ⟨y, rows, a1, a2, a3, a4, fun e' => ?_⟩
    show g.tk (renF ts st.tails.length t) = S.g.tk t
    rw [stl t hlt]
    exact a5 e'
  · have hmap : ∀ {e0 : Env}, lookup i e0 = some y → lookup i (e0.map fun p => (p.1, p.2.ren (renF rs st.objs.length) (renF ts st.tails.length))) = some (y.ren (renF rs st.objs.length) (renF ts st.tails.length)) ∧ (i, y) ∈ e0 := by
      intro e0
      induction e0 with
      | nil => intro hh; cases hh
      | cons q r ih =>
        obtain ⟨j, z⟩ := q
        intro hh
        unfold lookup at hh
        simp only [List.map_cons]
        unfold lookup
        cases hb : Nat.beq i j with
        | true =>
          rw [hb] at hh
          cases hh
          have := Nat.eq_of_beq_eq_true hb
          subst this
          exact ⟨rfl, List.mem_cons_self⟩
        | false =>
          rw [hb] at hh
          exact ⟨(ih hh).1, List.mem_cons_of_mem _ (ih hh).2⟩
    obtain ⟨m1, m2⟩ := hmap hy
    obtain ⟨v, h1, h2⟩ := (he.sub hE) i _ m1
    exact ⟨v, h1, h2.down p.tails (List.all_eq_true.1 hok _ m2)⟩

theorem AOps.reorder {ops rest : List Oper} {env env0 : Env} {st st0 : St} (rs ts : List Nat) (hp : partB rs ts st0 st = true)
    (ho : rs.map (fun r => st.objs[r]?) = st0.objs.map (fun x => some (x.ren (renF rs st.objs.length) (renF ts st.tails.length)))) (ht : ts.map (fun r => st.tails[r]?) = st0.tails.map some)
    (hr : rs.take S.st.objs.length = List.range S.st.objs.length) (htt : ts.take S.st.tails.length = List.range S.st.tails.length) (hl : (Nat.ble S.st.objs.length rs.length && Nat.ble S.st.tails.length ts.length) = true)
    (h5 : st0.objs.all (okObj st0.objs.length st0.tails.length) = true) (hok : (env0.all fun p => okEV st0.objs.length st0.tails.length p.2) = true)
    (hE : SubEnv env (env0.map fun p => (p.1, p.2.ren (renF rs st.objs.length) (renF ts st.tails.length)))) (h : AOps P f N S Q ops rest k env0 st0) : AOps P f N S Q ops rest k env st :=
  fun j hj => .reorder rs ts hp ho ht hr htt hl h5 hok hE (h j hj)
/-- One operation that turns the state. -/
theorem ARun.orders1 {id : Nat} {l : List Oper} {env : Env} {st : St} (p a : Nat) (sts : List St) (hm : P.follows .mixedOrders = true) (hB : drawB l p = true) (ha : a < p) (h0 : sts[0]? = some st)
    (h : XOps P f N S Q l p [a] sts 0 (l.take p) k env) : ARun P f N S Q (.code (.region id l.toArray true) :: k) env st :=
  .orders p hm hB fun _ hσ => .eff hB hσ (hσ.one ha) h0 h
/-- Two, of which one must come ahead. -/
theorem ARun.orders2 {id : Nat} {l : List Oper} {env : Env} {st : St} (p a b : Nat) (sts : List St) (hm : P.follows .mixedOrders = true) (hB : drawB l p = true) (ha : a < p) (hb : b < p) (hab : ((masks l []).getD b 0).testBit a = true) (h0 : sts[0]? = some st)
    (h : XOps P f N S Q l p [a, b] sts 0 (l.take p) k env) : ARun P f N S Q (.code (.region id l.toArray true) :: k) env st :=
  .orders p hm hB fun _ hσ => .eff hB hσ (hσ.two' ha hb hab) h0 h
/-- Two in whatever order. -/
theorem ARun.ordersX {id : Nat} {l : List Oper} {env E0 : Env} {st st0 : St} (p a b : Nat) (sts1 sts2 : List St) (hm : P.follows .mixedOrders = true) (hB : drawB l p = true) (hab : a ≠ b) (ha : a < p) (hb : b < p) (h1 : sts1[0]? = some st) (h2 : sts2[0]? = some st)
    (H1 : AOps P f N S Q l (l.drop p) k E0 st0 → XOps P f N S Q l p [a, b] sts1 0 (l.take p) k env) (H2 : AOps P f N S Q l (l.drop p) k E0 st0 → XOps P f N S Q l p [b, a] sts2 0 (l.take p) k env)
    (h : AOps P f N S Q l (l.drop p) k E0 st0) : ARun P f N S Q (.code (.region id l.toArray true) :: k) env st :=
  .orders p hm hB fun _ hσ => (hσ.two hab ha hb).elim (fun hE => .eff hB hσ hE h1 (H1 h)) (fun hE => .eff hB hσ hE h2 (H2 h))
end run
end Go.Abs

/- Owned rows as the source of appends. -/
set_option linter.unusedSimpArgs false
set_option linter.unusedVariables false
set_option linter.unusedSectionVars false
namespace Go.Abs
open Go.RowKit
section rules
variable {P : Program} {f : FuncId} {N : Nat} {S : Start} {Q : EV → St → Prop} {k : List Item} {todo : List Item} {base : Nat} {env : Env} {st : St} {ops rest : List Oper}
  {d : Option Tmp} {ty : TypeId} {pos : String} {after : Array Edge} {gd : Option (Nat × Bool)} {t t2 e : TypeId} {x y z : Operand}
/-- An owned row, read. -/
theorem srcRep_vc {g : Ghost} {w : World} {tk e sz n : Nat} {rows : List (List D)} {v : Value} (hinv : Inv g base w st) (htl : st.tails[tk]? = some ⟨e, sz, n, some rows⟩) (hv : EVRep g w st (.vc tk n) v) : ∃ news, SrcRep P g.lim w sz v rows news := by
  rcases vc_or hinv htl hv with hvk | ⟨n0, r0, A1, hA1⟩
  rotate_left
  · subst r0; subst hA1
    refine ⟨[], ⟨rfl, fun w' hw => ?_, by simp, by simp⟩, by simp, by simp⟩
    cases A1 <;> simp [Builtin.firstCells, loadCells, loadCellsFrom]
  obtain ⟨hvk, xs, hown, hlim, hrr⟩ := vc_val hinv htl hvk
  have hn := hrr.len
  refine ⟨xs, ⟨?_, fun w' hw => ?_, by rw [hown.1, hn], fun u hu => ?_⟩, hrr.row, fun j u c hu hc => hrr.rep j c u hc hu⟩
  · obtain ⟨⟨A, c, rfl⟩, _⟩ := own_form hown
    rw [hn]; rfl
  · have hcells : ∀ gb, v.ownBlock = some gb → ∀ j u, xs[j]? = some u → w.cell? ((⟨gb, 0, none⟩ : Addr).add j) = some u := fun gb hg => hown.cells hg
    have hxl := hown.1
    rcases hown.2 with ⟨h1, h2⟩ | ⟨gb, cap, cur, h1, _⟩
    · subst h1
      have h0 : xs = [] := List.eq_nil_of_length_eq_zero (by rw [hxl, h2]; simp)
      subst h0
      simp [Builtin.firstCells]
    · subst h1
      rw [hn]
      refine run_firstCells_some w' sz n _ _ cap xs hxl fun j u hu => ?_
      have := hcells gb rfl j u hu
      simpa [World.cell?, hw] using this
  · obtain ⟨j, hj⟩ := List.mem_iff_getElem?.1 hu
    have hj' := (List.getElem?_eq_some_iff.1 hj).1
    have hfl := flat_len hrr.row
    exact (hrr.rep j _ u (List.getElem?_eq_getElem (by rw [hfl, hn, ← hown.1]; exact hj')) hj).2
section sl
variable {α : Type} {sz : Nat} {row : α → List D} {l : List α} {ev : EV} {inf : TypeInfo} {tk tk2 n n2 : Nat}
theorem v_appendVV {l' : List α} {zv : Value} {e2 : Nat} (ht : P.underlying t = some (.slice e)) (hi : P.info? e = some inf) (hz : inf.zero = some zv) (hsize : inf.size = sz) (hzs : zv.cells.size = sz) (hb : inf.bytes ≤ 100000)
    (hx : evo env x = some (.vc tk n)) (htl : st.tails[tk]? = some ⟨e, sz, n, some (l.map row)⟩) (hy : evo env y = some (.vc tk2 n2)) (htl2 : st.tails[tk2]? = some ⟨e2, sz, n2, some (l'.map row)⟩) (hn : l.length + l'.length ≤ 1000000000) :
    OpV P base env st ⟨d, .call ⟨.builtin .append, #[x, y], #[t, t]⟩, ty, pos, after, gd⟩ (.vc tk (l ++ l').length) (st.setTail tk ⟨e, sz, (l ++ l').length, some ((l ++ l').map row)⟩) :=
  append_coreV ht ht (.inr ⟨e, rfl⟩) hi hz hsize hzs hb hx htl hn fun g w tmps hinv he => srcRep_vc hinv htl2 (evo_rep he hy)
/-- append([]T{}, x...), x an owned row: data. -/
theorem g_append0V {l' : List α} {zv : Value} {e0 : EV} {e2 : Nat} (ht : P.underlying t = some (.slice e)) (hi : P.info? e = some inf) (hz : inf.zero = some zv) (hsize : inf.size = sz) (hzs : zv.cells.size = sz) (hb : inf.bytes ≤ 100000)
    (hx : evo env x = some e0) (h0 : e0 = .d (.e0 sz) ∨ e0 = .d nilD) (hy : evo env y = some (.vc tk2 n2)) (htl2 : st.tails[tk2]? = some ⟨e2, sz, n2, some (l'.map row)⟩) (hn : l'.length ≤ 1000000000) :
    OpG P env st ⟨d, .call ⟨.builtin .append, #[x, y], #[t, t]⟩, ty, pos, after, gd⟩ (.d (slOf sz row l')) := by
  intro g base w tmps hinv he
  have hn' : (l'.map row).length * inf.bytes ≤ 140737488355328 := by simpa using big_le hn hb
  have h63 : (l'.map row).length ≤ 4611686018427387904 := by simp; omega
  have hdx : DRep g.lim w (.e0 sz) (Act.eval ⟨tmps, []⟩ x) := by
    rcases h0 with rfl | rfl
    · cases evo_rep he hx with | d _ _ h => exact h
    · rw [(evo_rep he hx).ex_inv]; exact .e0 sz none (.inl rfl)
  obtain ⟨news, hsr⟩ := srcRep_vc (P := P) hinv htl2 (evo_rep he hy)
  show (∃ v lim' w', _ ∧ Good g w st (.d (.sl sz (l'.map row))) lim' w' v) ∨ _
  generalize l'.map row = rows' at hsr hn' h63
  generalize hv : Act.eval ⟨tmps, []⟩ x = v at hdx
  generalize hu : Act.eval ⟨tmps, []⟩ y = u at hsr
  cases hdx with
  | e0 _ A hA =>
    have hl := hsr.src.len
    by_cases hm : rows'.length = 0
    · have hr0 : rows' = [] := List.eq_nil_of_length_eq_zero hm
      subst hr0
      have hn0 : news = [] := List.eq_nil_of_length_eq_zero (by simpa using hsr.src.size)
      subst hn0
      have hf := hsr.src.cells w rfl
      refine .inl ⟨.slice A 0 0, g.lim, w, ?_, .d _ _ (D.e0_sl (.e0 sz A hA)), .refl _ _, fun _ _ => rfl⟩
      subst hsize
      simp only [List.length_nil] at hl hf
      cases A <;> simp [execOp, hv, hu, resolve, invoke, builtin, Builtin.append_, run_underlying ht, sizeOf, typeInfo, hi, hl, hf, storeCells]
    · have hfl := flat_len hsr.rows
      have hge := grownCap_ge w rows'.length 0 e
      obtain ⟨lim', h1, h2, h3⟩ := new_row (g := g) (w := w) (w0 := w.drew) (sz := sz) (cap := grownCap w rows'.length 0 e) (rows := rows') (vs := news.toArray ++ Builtin.zeroCells zv.cells (grownCap w rows'.length 0 e - rows'.length)) (e := e) rfl rfl rfl rfl
        hsr.rows hge (by simp [hsr.src.size]) (fun i c v hc hvv => by
          have hi' : i < news.length := by have := (List.getElem?_eq_some_iff.1 hc).1; rw [hsr.src.size]; omega
          rw [Array.getElem?_append_left (by simpa using hi')] at hvv
          exact hsr.rep i v c (by simpa using hvv) hc)
      refine .inl ⟨_, lim', _, ?_, .d _ _ h1, h2, h3⟩
      have hf := hsr.src.cells w.drew rfl
      subst hsize
      have h63' : ¬ (9223372036854775807 < (rows'.length : Int)) := by omega
      have h48' : ¬ (281474976710656 < Builtin.nextslicecap rows'.length 0 * inf.bytes) := by
        have := growslice_fits (need := rows'.length) (old := 0) (by omega) hn'
        omega
      have hfirst : (Builtin.firstCells inf.size 0 (.slice A 0 0)).run P w.drew = .ok #[] w.drew := by cases A <;> simp [Builtin.firstCells, loadCells, loadCellsFrom]
      have hm' : rows' ≠ [] := fun hh => hm (by rw [hh]; rfl)
      simp [execOp, hv, hu, resolve, invoke, builtin, Builtin.append_, run_underlying ht, sizeOf, typeInfo, zeroValue, hi, hz, hl, hm', h63', h48', Question.forced, hfirst, hf, newRow, grownCap]
/-- An append to a slice without room, into a row that is set aside. -/
theorem v_append0P {l' : List α} {zv : Value} {e0 : EV} {w2 : EV} (ht : P.underlying t = some (.slice e)) (hi : P.info? e = some inf) (hz : inf.zero = some zv) (hsize : inf.size = sz) (hzs : zv.cells.size = sz) (hb : inf.bytes ≤ 100000)
    (hx : evo env x = some e0) (h0 : e0 = .d (.e0 sz) ∨ e0 = .d nilD) (htl : st.tails[tk]? = some ⟨e, sz, 0, some (([] : List α).map row)⟩) (hy : evo env y = some w2) (hs : asSl w2 = some (sz, l'.map row)) (hn : l'.length ≤ 1000000000) :
    OpV P base env st ⟨d, .call ⟨.builtin .append, #[x, y], #[t, t]⟩, ty, pos, after, gd⟩ (.vc tk ([] ++ l').length) (st.setTail tk ⟨e, sz, ([] ++ l').length, some (([] ++ l').map row)⟩) := by
  intro g w tmps hinv he
  have hdx : DRep g.lim w (.e0 sz) (Act.eval ⟨tmps, []⟩ x) := by
    rcases h0 with rfl | rfl
    · cases evo_rep he hx with | d _ _ h => exact h
    · rw [(evo_rep he hx).ex_inv]; exact .e0 sz none (.inl rfl)
  have hlen : tk < st.tails.length := (List.getElem?_eq_some_iff.1 htl).1
  have hrep : EVRep g w st (.vc tk 0) (Act.eval ⟨tmps, []⟩ x) := by
    generalize hv : Act.eval ⟨tmps, []⟩ x = v at hdx
    cases hdx with | e0 _ A hA => exact vc_emp hlen htl ⟨A, rfl⟩
  obtain ⟨news, hsr⟩ := srcRep_sl (P := P) (asSl_rep hs (evo_rep he hy))
  obtain ⟨v', g', w', hrun, k1, k2, k3⟩ := append_valV (ty := ty) (l := ([] : List α)) ht ht (.inr ⟨e, rfl⟩) hi hz hsize hzs hb hinv hrep htl (by simpa using hn) hsr
  exact ⟨v', g', w', by simp [execOp, resolve, invoke, builtin, hrun], k1, k2, k3⟩
end sl
/-- A row is set aside. -/
theorem ARun.tokP {e sz : Nat} (h : ARun P f N S Q todo env (st.tok ⟨e, sz, 0, some []⟩)) : ARun P f N S Q todo env st := by
  intro g w tmps hinv hh he hN
  obtain ⟨g', h1, _, _, h2, h3⟩ := hinv.newTail ⟨e, sz, 0, some []⟩ (World.ownsRow_nil w S.base _ _) (.inl ⟨rfl, rfl⟩) (fun rows hr => by cases hr; exact ⟨rfl, by simp, by simp⟩)
  exact h g' w tmps h2 (hh.step h3) (he.mono h3.sevo) hN
/-- A slice without room becomes an owned row. -/
theorem ARun.tokE {i : Nat} {e sz : Nat} (hx : lookup i env = some (.d (.e0 sz))) (h : ARun P f N S Q todo ((i, .vc st.tails.length 0) :: env) (st.tok ⟨e, sz, 0, some []⟩)) : ARun P f N S Q todo env st := by
  intro g w tmps hinv hh he hN
  obtain ⟨g', h1, _, _, h2, h3⟩ := hinv.newTail ⟨e, sz, 0, some []⟩ (World.ownsRow_nil w S.base _ _) (.inl ⟨rfl, rfl⟩) (fun rows hr => by cases hr; exact ⟨rfl, by simp, by simp⟩)
  refine h g' w tmps h2 (hh.step h3) (fun j y hy => ?_) hN
  unfold lookup at hy
  cases hb : Nat.beq j i with
  | true =>
    rw [hb] at hy
    cases hy
    have := Nat.eq_of_beq_eq_true hb
    subst this
    obtain ⟨v, m1, m2⟩ := he j _ hx
    have hA : ∃ A, v = .slice A 0 0 := by
      cases m2 with | d _ _ hd => cases hd with | e0 _ A _ => exact ⟨A, rfl⟩
    exact ⟨v, m1, vc_emp (e := e) (sz := sz) (rows := []) (by simp [St.tok]) (by simp [St.tok]) hA⟩
  | false =>
    rw [hb] at hy
    exact (he.mono h3.sevo) j y hy
theorem AOps.tokP {e sz : Nat} (h : AOps P f N S Q ops rest k env (st.tok ⟨e, sz, 0, some []⟩)) : AOps P f N S Q ops rest k env st := fun j hj => .tokP (h j hj)
theorem AOps.tokE {i : Nat} {e sz : Nat} (hx : lookup i env = some (.d (.e0 sz))) (h : AOps P f N S Q ops rest k ((i, .vc st.tails.length 0) :: env) (st.tok ⟨e, sz, 0, some []⟩)) : AOps P f N S Q ops rest k env st := fun j hj => .tokE hx (h j hj)
end rules
end Go.Abs

/- Regions that may come in any order: several operations that turn the state, each its own part of it. -/
set_option linter.unusedSimpArgs false
set_option linter.unusedVariables false
set_option linter.unusedSectionVars false
namespace Go.Abs
open Go.RowKit
/-- Which of the operations E have come up, as a number. -/
def codeN (L : Nat → Bool) : List Nat → Nat
  | [] => 0
  | e :: r => (if L e then 1 else 0) + 2 * codeN L r
theorem codeN_bit (L : Nat → Bool) : ∀ (E : List Nat) (j e : Nat), E[j]? = some e → (codeN L E).testBit j = L e
  | e :: r, 0, e', h => by
    simp at h; subst h
    unfold codeN
    cases hL : L e <;> simp [Nat.testBit_zero] <;> omega
  | e :: r, j + 1, e', h => by
    have ih := codeN_bit L r j e' (by simpa using h)
    unfold codeN
    rw [Nat.testBit_succ]
    have : ((if L e then 1 else 0) + 2 * codeN L r) / 2 = codeN L r := by cases L e <;> simp <;> omega
    rw [this]; exact ih
theorem codeN_lt (L : Nat → Bool) : ∀ E : List Nat, codeN L E < 2 ^ E.length
  | [] => by simp [codeN]
  | e :: r => by
    have := codeN_lt L r
    unfold codeN
    rw [List.length_cons, Nat.pow_succ]
    cases L e <;> simp <;> omega
theorem codeN_same {L L' : Nat → Bool} : ∀ {E : List Nat}, (∀ e ∈ E, L' e = L e) → codeN L' E = codeN L E
  | [], _ => rfl
  | e :: r, h => by
    unfold codeN
    rw [h e List.mem_cons_self, codeN_same fun x hx => h x (List.mem_cons_of_mem _ hx)]
theorem codeN_add {L : Nat → Bool} {i : Nat} (hi : L i = false) : ∀ {E : List Nat} {m : Nat}, E.Nodup → E[m]? = some i → codeN (fun j => j == i || L j) E = codeN L E + 2 ^ m
  | e :: r, 0, hn, h => by
    simp at h; subst h
    rw [List.nodup_cons] at hn
    unfold codeN
    rw [codeN_same (L := L) (E := r) fun x hx => by
      have : x ≠ e := fun hh => hn.1 (hh ▸ hx)
      simp [this]]
    simp [hi]; omega
  | e :: r, m + 1, hn, h => by
    rw [List.nodup_cons] at hn
    have h' : r[m]? = some i := by simpa using h
    have ih := codeN_add hi hn.2 h'
    have hne : e ≠ i := fun hh => hn.1 (hh ▸ List.mem_of_getElem? h')
    unfold codeN
    rw [ih, Nat.pow_succ]
    have : (e == i) = false := by simpa using hne
    simp only [this, Bool.false_or]
    omega
/-- May operation i come up when those of E that the number tells have come up? -/
def mayN (l : List Oper) (E : List Nat) (i n : Nat) : Bool :=
  E.zipIdx.all fun e => (!((masks l []).getD i 0).testBit e.1 || n.testBit e.2) && (!((masks l []).getD e.1 0).testBit i || !n.testBit e.2) && (!n.testBit e.2 || E.zipIdx.all fun e' => !((masks l []).getD e.1 0).testBit e'.1 || n.testBit e'.2)
def boundN (l : List Oper) (E : List Nat) (i : Nat) (ns : List Nat) : Bool := (List.range (2 ^ E.length)).all fun n => !mayN l E i n || ns.any fun k => Nat.beq k n
section run
variable {P : Program} {f : FuncId} {N : Nat} {S : Start} {Q : EV → St → Prop} {k : List Item}
def AllN (sts : List St) : List Nat → (St → Prop) → Prop
  | [], _ => True
  | n :: r, p => (∃ s, sts[n]? = some s ∧ p s) ∧ AllN sts r p
theorem AllN.get {sts : List St} {p : St → Prop} : ∀ {ns : List Nat} {n : Nat}, AllN sts ns p → n ∈ ns → ∃ s, sts[n]? = some s ∧ p s
  | a :: r, n, h, hn => by
    rcases List.mem_cons.1 hn with e | e
    · rw [e]; exact h.1
    · exact AllN.get h.2 e
def All2 (sts : List St) (d : Nat) : List Nat → (St → St → Prop) → Prop
  | [], _ => True
  | n :: r, p => (∃ s s', sts[n]? = some s ∧ sts[n + d]? = some s' ∧ p s s') ∧ All2 sts d r p
theorem All2.get {sts : List St} {d : Nat} {p : St → St → Prop} : ∀ {ns : List Nat} {n : Nat}, All2 sts d ns p → n ∈ ns → ∃ s s', sts[n]? = some s ∧ sts[n + d]? = some s' ∧ p s s'
  | a :: r, n, h, hn => by
    rcases List.mem_cons.1 hn with e | e
    · rw [e]; exact h.1
    · exact All2.get h.2 e
def NStep (P : Program) (N base : Nat) (l : List Oper) (E : List Nat) (sts : List St) (i : Nat) (o : Oper) (env : Env) (x : EV) : Prop :=
  dstOk N o.dst = true ∧ ∃ ns, boundN l E i ns = true ∧
  (((!E.any fun e => Nat.beq e i) = true ∧ ((∀ s, OpAny P l env s o x) ∨ AllN sts ns fun s => OpAny P l env s o x)) ∨
   (∃ m, E[m]? = some i ∧ o.guard = none ∧ All2 sts (2 ^ m) ns fun s s' => OpV P base env s o x s' ∨ x = .d .any ∧ OpU P base env s o s'))
def NChain (P : Program) (N base : Nat) (l : List Oper) (E : List Nat) (sts : List St) : Nat → List Oper → List EV → Env → Prop
  | _, [], [], _ => True
  | i, o :: os, x :: xs, env => NStep P N base l E sts i o (renv l o env) x ∧ NChain P N base l E sts (i + 1) os xs (env.put o.dst x)
  | _, _, _, _ => False
theorem NChain.length {base : Nat} {l : List Oper} {E : List Nat} {sts : List St} : ∀ {i : Nat} {os : List Oper} {xs : List EV} {env : Env}, NChain P N base l E sts i os xs env → xs.length = os.length
  | _, [], [], _, _ => rfl
  | _, o :: os, x :: xs, env, h => by simp [NChain.length h.2]
  | _, [], x :: xs, _, h => h.elim
  | _, o :: os, [], _, h => h.elim
theorem NChain.get {base : Nat} {l : List Oper} {E : List Nat} {sts : List St} : ∀ {i : Nat} {os : List Oper} {xs : List EV} {env : Env} {j : Nat} {o : Oper}, NChain P N base l E sts i os xs env → os[j]? = some o →
    ∃ x, xs[j]? = some x ∧ NStep P N base l E sts (i + j) o (renv l o (putAll env (os.take j) (xs.take j))) x
  | i, o' :: os, x :: xs, env, 0, o, h, ho => by
    simp at ho; subst ho
    exact ⟨x, rfl, by simpa [putAll] using h.1⟩
  | i, o' :: os, x :: xs, env, j + 1, o, h, ho => by
    obtain ⟨y, h1, h2⟩ := NChain.get (j := j) h.2 (by simpa using ho)
    exact ⟨y, by simpa using h1, by simpa [putAll, Nat.add_assoc, Nat.add_comm 1 j] using h2⟩
  | i, [], xs, env, j, o, h, ho => by simp at ho
  | i, o' :: os, [], _, _, _, h, _ => h.elim
theorem ARun.effN {id : Nat} {l : List Oper} {p : Nat} {env : Env} {st stF : St} (hm : P.follows .mixedOrders = true) (hB : drawB l p = true) (E : List Nat) (sts : List St) (hn : E.Nodup) (hp : ∀ e ∈ E, e < p) {xs : List EV}
    (h0 : sts[0]? = some st) (hF : sts[2 ^ E.length - 1]? = some stF) (hch : NChain P N S.base l E sts 0 (l.take p) xs env) (hsuf : AOps P f N S Q l (l.drop p) k (putAll env (l.take p) xs) stF) :
    ARun P f N S Q (.code (.region id l.toArray true) :: k) env st := by
  have hpl : p ≤ l.length := by
    simp only [drawB, Bool.and_eq_true] at hB
    simpa using hB.2
  have hxp : xs.length = p := by rw [hch.length]; simp; omega
  have hcode0 : ∀ E : List Nat, codeN (fun _ => false) E = 0 := by
    intro E
    induction E with
    | nil => rfl
    | cons e r ih => unfold codeN; rw [ih]; rfl
  have hcode1 : ∀ (L : Nat → Bool) (E : List Nat), (∀ e ∈ E, L e = true) → codeN L E = 2 ^ E.length - 1 := by
    intro L E
    induction E with
    | nil => intro _; rfl
    | cons e r ih =>
      intro h
      unfold codeN
      rw [h e List.mem_cons_self, ih fun x hx => h x (List.mem_cons_of_mem _ hx), List.length_cons, Nat.pow_succ]
      have := Nat.two_pow_pos r.length
      simp; omega
  refine ARun.drawnF p xs (fun L s => sts[codeN L E]? = some s) hm hB hxp (by rw [hcode0]; exact h0) ?_ ?_
  · intro L s i o hi ho hLi hmask hclosed hFs
    obtain ⟨x, hx, hst⟩ := hch.get (j := i) (o := o) (by rw [List.getElem?_take, if_pos hi]; exact ho)
    rw [Nat.zero_add] at hst
    obtain ⟨hd, ns, hb, hst⟩ := hst
    refine ⟨hd, x, ?_⟩
    have hmay : mayN l E i (codeN L E) = true := by
      unfold mayN
      rw [List.all_eq_true]
      rintro ⟨e, j⟩ hej
      have hEj : E[j]? = some e := by
        have := List.mem_zipIdx_iff_getElem?.1 hej
        simpa using this
      have hbit := codeN_bit L E j e hEj
      simp only [Bool.and_eq_true, Bool.or_eq_true, Bool.not_eq_true', hbit]
      refine ⟨⟨?_, ?_⟩, ?_⟩
      · cases hm1 : ((masks l []).getD i 0).testBit e with
        | false => exact .inl rfl
        | true => exact .inr (hmask e hm1)
      · cases hm1 : ((masks l []).getD e 0).testBit i with
        | false => exact .inl rfl
        | true =>
          right
          cases hLe : L e with
          | false => rfl
          | true => rw [hclosed e hLe i hm1] at hLi; cases hLi
      · cases hLe : L e with
        | false => exact .inl rfl
        | true =>
          right
          rw [List.all_eq_true]
          rintro ⟨e', j'⟩ hej'
          have hEj' : E[j']? = some e' := by
            have := List.mem_zipIdx_iff_getElem?.1 hej'
            simpa using this
          simp only [Bool.or_eq_true, Bool.not_eq_true', codeN_bit L E j' e' hEj']
          cases hm1 : ((masks l []).getD e 0).testBit e' with
          | false => exact .inl rfl
          | true => exact .inr (hclosed e hLe e' hm1)
    have hin : codeN L E ∈ ns := by
      have := List.all_eq_true.1 hb (codeN L E) (List.mem_range.2 (codeN_lt L E))
      rw [hmay] at this
      simp only [Bool.not_true, Bool.false_or] at this
      obtain ⟨a, ha, hab⟩ := List.any_eq_true.1 this
      rw [← Nat.eq_of_beq_eq_true hab]; exact ha
    rcases hst with ⟨hne, hop⟩ | ⟨m, hEm, hg, hop⟩
    · have hnoE : (E.any fun e => Nat.beq e i) = false := by simpa using hne
      have hop' : OpAny P l (renv l o (putAll env ((l.take p).take i) (xs.take i))) s o x := by
        rcases hop with h | h
        · exact h s
        · obtain ⟨s0, h1, h2⟩ := h.get hin
          rw [hFs] at h1
          cases h1
          exact h2
      refine ⟨s, hx, .inl ⟨rfl, hop'⟩, ?_⟩
      rw [codeN_same (L := L) fun e he => by
        have : e ≠ i := fun hh => by
          have := List.any_eq_false.1 hnoE e he
          rw [hh, Nat.beq_refl] at this
          exact this rfl
        simp [this]]
      exact hFs
    · obtain ⟨s0, s1, h1, h2, h3⟩ := hop.get hin
      rw [hFs] at h1
      cases h1
      refine ⟨s1, hx, ?_, ?_⟩
      · rcases h3 with h | ⟨ha, hb'⟩
        · exact .inr (.inl ⟨hg, h⟩)
        · exact .inr (.inr ⟨hg, ha, hb'⟩)
      · rw [codeN_add hLi hn hEm]; exact h2
  · intro L s hL hFs
    rw [hcode1 L E fun e he => hL e (hp e he), hF] at hFs
    cases hFs
    exact hsuf
/-- What is left of a region's operations. -/
def NOps (P : Program) (f : FuncId) (N : Nat) (S : Start) (Q : EV → St → Prop) (l : List Oper) (p : Nat) (E : List Nat) (sts : List St) (i : Nat) (os : List Oper) (k : List Item) (env : Env) : Prop :=
  ∃ xs stF, sts[2 ^ E.length - 1]? = some stF ∧ NChain P N S.base l E sts i os xs env ∧ AOps P f N S Q l (l.drop p) k (putAll env os xs) stF
variable {l : List Oper} {p : Nat} {E : List Nat} {sts : List St} {i : Nat} {os : List Oper} {env : Env} {st : St} {d : Option Tmp} {op : Op} {ty : TypeId} {pos : String} {after : Array Edge} {x : EV}
theorem NOps.nil {stF : St} (hF : sts[2 ^ E.length - 1]? = some stF) (h : AOps P f N S Q l (l.drop p) k env stF) : NOps P f N S Q l p E sts i [] k env := ⟨[], stF, hF, trivial, h⟩
/-- An operation that does not look at the state. -/
theorem NOps.s (h : ∀ s, OpQ P (renv l ⟨d, op, ty, pos, after, none⟩ env) s ⟨d, op, ty, pos, after, none⟩ x) (hne : (!E.any fun e => Nat.beq e i) = true) (hd : dstOk N d = true)
    (hk : NOps P f N S Q l p E sts (i + 1) os k (env.put d x)) : NOps P f N S Q l p E sts i (⟨d, op, ty, pos, after, none⟩ :: os) k env := by
  obtain ⟨xs, stF, h0, h1, h2⟩ := hk
  refine ⟨x :: xs, stF, h0, ⟨⟨hd, List.range (2 ^ E.length), ?_, .inl ⟨hne, .inl fun s => .inl ⟨rfl, (h s).g⟩⟩⟩, h1⟩, h2⟩
  unfold boundN
  rw [List.all_eq_true]
  intro n hn
  simp only [Bool.or_eq_true]
  exact .inr (List.any_eq_true.2 ⟨n, hn, Nat.beq_refl n⟩)
theorem NOps.g (ns : List Nat) (h : AllN sts ns fun s => OpG P (renv l ⟨d, op, ty, pos, after, none⟩ env) s ⟨d, op, ty, pos, after, none⟩ x) (hne : (!E.any fun e => Nat.beq e i) = true) (hb : boundN l E i ns = true) (hd : dstOk N d = true)
    (hk : NOps P f N S Q l p E sts (i + 1) os k (env.put d x)) : NOps P f N S Q l p E sts i (⟨d, op, ty, pos, after, none⟩ :: os) k env := by
  obtain ⟨xs, stF, h0, h1, h2⟩ := hk
  refine ⟨x :: xs, stF, h0, ⟨⟨hd, ns, hb, .inl ⟨hne, .inr ?_⟩⟩, h1⟩, h2⟩
  have mk : ∀ {ns : List Nat}, (AllN sts ns fun s => OpG P (renv l ⟨d, op, ty, pos, after, none⟩ env) s ⟨d, op, ty, pos, after, none⟩ x) → AllN sts ns fun s => OpAny P l (renv l ⟨d, op, ty, pos, after, none⟩ env) s ⟨d, op, ty, pos, after, none⟩ x := by
    intro ns
    induction ns with
    | nil => exact fun _ => trivial
    | cons a r ih => exact fun ⟨⟨s, a1, a2⟩, b⟩ => ⟨⟨s, a1, .inl ⟨rfl, a2⟩⟩, ih b⟩
  exact mk h
theorem NOps.guardG {d : Tmp} {j : Nat} {want b : Bool} {t : Tmp} {c : EV} {env' : Env} (ns : List Nat) (hj : (l[j]?).bind (·.dst) = some t)
    (hl : lookup t (renv l ⟨some d, op, ty, pos, after, some (j, want)⟩ env) = some c) (hc : gcond c want = some b) (hE : GdEnv b (renv l ⟨some d, op, ty, pos, after, some (j, want)⟩ env) env') (hd : dstOk N (some d) = true)
    (h : b = true → AllN sts ns fun s => OpG P env' s ⟨some d, op, ty, pos, after, some (j, want)⟩ x) (hs : (ns.all fun n => (sts[n]?).isSome) = true) (hne : (!E.any fun e => Nat.beq e i) = true) (hb : boundN l E i ns = true)
    (hk : NOps P f N S Q l p E sts (i + 1) os k ((d, .gd b x) :: env)) : NOps P f N S Q l p E sts i (⟨some d, op, ty, pos, after, some (j, want)⟩ :: os) k env := by
  obtain ⟨xs, stF, h0, h1, h2⟩ := hk
  refine ⟨.gd b x :: xs, stF, h0, ⟨⟨hd, ns, hb, .inl ⟨hne, .inr ?_⟩⟩, h1⟩, h2⟩
  have mk : ∀ {ns : List Nat}, (b = true → AllN sts ns fun s => OpG P env' s ⟨some d, op, ty, pos, after, some (j, want)⟩ x) → (ns.all fun n => (sts[n]?).isSome) = true →
      AllN sts ns fun s => OpAny P l (renv l ⟨some d, op, ty, pos, after, some (j, want)⟩ env) s ⟨some d, op, ty, pos, after, some (j, want)⟩ (.gd b x) := by
    intro ns
    induction ns with
    | nil => exact fun _ _ => trivial
    | cons a r ih =>
      intro h hs
      simp only [List.all_cons, Bool.and_eq_true] at hs
      obtain ⟨s, hs1⟩ := Option.isSome_iff_exists.1 hs.1
      refine ⟨⟨s, hs1, .inr ⟨j, want, t, c, b, x, env', rfl, hj, hl, hc, rfl, hE, fun hb => ?_⟩⟩, ih (fun hb => (h hb).2) hs.2⟩
      obtain ⟨s', a1, a2⟩ := (h hb).1
      rw [hs1] at a1
      cases a1
      exact a2
  exact mk h hs
theorem NOps.v (m : Nat) (ns : List Nat) (h : All2 sts (2 ^ m) ns fun s s' => OpV P S.base (renv l ⟨d, op, ty, pos, after, none⟩ env) s ⟨d, op, ty, pos, after, none⟩ x s') (hE : E[m]? = some i) (hb : boundN l E i ns = true) (hd : dstOk N d = true)
    (hk : NOps P f N S Q l p E sts (i + 1) os k (env.put d x)) : NOps P f N S Q l p E sts i (⟨d, op, ty, pos, after, none⟩ :: os) k env := by
  obtain ⟨xs, stF, h0, h3, h4⟩ := hk
  refine ⟨x :: xs, stF, h0, ⟨⟨hd, ns, hb, .inr ⟨m, hE, rfl, ?_⟩⟩, h3⟩, h4⟩
  have mk : ∀ {ns : List Nat}, (All2 sts (2 ^ m) ns fun s s' => OpV P S.base (renv l ⟨d, op, ty, pos, after, none⟩ env) s ⟨d, op, ty, pos, after, none⟩ x s') →
      All2 sts (2 ^ m) ns fun s s' => OpV P S.base (renv l ⟨d, op, ty, pos, after, none⟩ env) s ⟨d, op, ty, pos, after, none⟩ x s' ∨ x = .d .any ∧ OpU P S.base (renv l ⟨d, op, ty, pos, after, none⟩ env) s ⟨d, op, ty, pos, after, none⟩ s' := by
    intro ns
    induction ns with
    | nil => exact fun _ => trivial
    | cons a r ih => exact fun ⟨⟨s, s', a1, a2, a3⟩, b⟩ => ⟨⟨s, s', a1, a2, .inl a3⟩, ih b⟩
  exact mk h
theorem NOps.u (m : Nat) (ns : List Nat) (h : All2 sts (2 ^ m) ns fun s s' => OpU P S.base (renv l ⟨d, op, ty, pos, after, none⟩ env) s ⟨d, op, ty, pos, after, none⟩ s') (hE : E[m]? = some i) (hb : boundN l E i ns = true) (hd : dstOk N d = true)
    (hk : NOps P f N S Q l p E sts (i + 1) os k (env.put d (.d .any))) : NOps P f N S Q l p E sts i (⟨d, op, ty, pos, after, none⟩ :: os) k env := by
  obtain ⟨xs, stF, h0, h3, h4⟩ := hk
  refine ⟨.d .any :: xs, stF, h0, ⟨⟨hd, ns, hb, .inr ⟨m, hE, rfl, ?_⟩⟩, h3⟩, h4⟩
  have mk : ∀ {ns : List Nat}, (All2 sts (2 ^ m) ns fun s s' => OpU P S.base (renv l ⟨d, op, ty, pos, after, none⟩ env) s ⟨d, op, ty, pos, after, none⟩ s') →
      All2 sts (2 ^ m) ns fun s s' => OpV P S.base (renv l ⟨d, op, ty, pos, after, none⟩ env) s ⟨d, op, ty, pos, after, none⟩ (.d .any) s' ∨ EV.d .any = .d .any ∧ OpU P S.base (renv l ⟨d, op, ty, pos, after, none⟩ env) s ⟨d, op, ty, pos, after, none⟩ s' := by
    intro ns
    induction ns with
    | nil => exact fun _ => trivial
    | cons a r ih => exact fun ⟨⟨s, s', a1, a2, a3⟩, b⟩ => ⟨⟨s, s', a1, a2, .inr ⟨rfl, a3⟩⟩, ih b⟩
  exact mk h
theorem ARun.parts {id : Nat} (p : Nat) (E : List Nat) (sts : List St) (hm : P.follows .mixedOrders = true) (hB : drawB l p = true) (hn : (E.all fun e => decide (e < p)) = true) (hd : E.Nodup) (h0 : sts[0]? = some st)
    (h : NOps P f N S Q l p E sts 0 (l.take p) k env) : ARun P f N S Q (.code (.region id l.toArray true) :: k) env st := by
  obtain ⟨xs, stF, h1, h2, h3⟩ := h
  exact .effN hm hB E sts hd (fun e he => by simpa using List.all_eq_true.1 hn e he) h0 h1 h2 h3
end run
end Go.Abs

/- Structs whose parts the call owns: maps, slices that may turn, references. -/
set_option linter.unusedSimpArgs false
set_option linter.unusedVariables false
namespace Go.Abs
open Go.RowKit

def CRepE (g : Ghost) (w : World) (st : St) (cs : List EV) (vs : Array Value) : Prop :=
  vs.size = cs.length ∧ ∀ (i : Nat) c (u : Value), cs[i]? = some c → vs[i]? = some u → EVRep g w st c u ∧ u.oneCell' = true
theorem CRepE.lay {g : Ghost} {w : World} {st : St} {cs new : List EV} {vs us : Array Value} {off : Nat} (h : CRepE g w st cs vs) (hn : CRepE g w st new us) (hf : off + new.length ≤ cs.length) : CRepE g w st (putCells cs off new) (lay vs us off) := by
  obtain ⟨h1, h2⟩ := lay_get vs us off (by rw [h.1, hn.1]; exact hf)
  refine ⟨by rw [h1, h.1]; simp [putCells]; omega, fun i c u hc hu => ?_⟩
  have hi : i < vs.size := by rw [← h1]; exact (Array.getElem?_eq_some_iff.1 hu).1
  rw [h2 i hi] at hu
  unfold putCells at hc
  have hvs := h.1
  have hus := hn.1
  by_cases hA : i < off
  · rw [if_neg (by omega)] at hu
    rw [List.append_assoc, List.getElem?_append_left (by simp; omega), List.getElem?_take, if_pos hA] at hc
    exact h.2 i c u hc hu
  · by_cases hB : i < off + new.length
    · rw [if_pos (by omega)] at hu
      rw [List.append_assoc, List.getElem?_append_right (by simp; omega), List.getElem?_append_left (by simp; omega)] at hc
      have e1 : (cs.take off).length = off := by simp; omega
      rw [e1] at hc
      exact hn.2 _ c u hc hu
    · rw [if_neg (by omega)] at hu
      rw [List.getElem?_append_right (by simp; omega)] at hc
      have e1 : (cs.take off ++ new).length = off + new.length := by simp; omega
      rw [e1, List.getElem?_drop] at hc
      have e2 : off + new.length + (i - (off + new.length)) = i := by omega
      rw [e2] at hc
      exact h.2 i c u hc hu

/-- The parts, laid one by one. -/
def layE (place : Nat → Option (Nat × Nat)) (env : Env) : List EV → List (Nat × Operand) → Option (List EV)
  | cs, [] => some cs
  | cs, (i, x) :: l => match place i, evo env x with
    | some (off, size), some e => match cellsE e with
      | some new => match Nat.beq new.length size, Nat.ble (off + size) cs.length with
        | true, true => layE place env (putCells cs off new) l
        | _, _ => none
      | none => none
    | _, _ => none
theorem layE_rep {g : Ghost} {w : World} {st : St} {env : Env} {tmps : Array Value} (he : EnvRep g w st env tmps) {place : Nat → Option (Nat × Nat)} : ∀ (l : List (Nat × Operand)) (cs : List EV) (vs : Array Value) (r : List EV), layE place env cs l = some r → CRepE g w st cs vs →
    ∃ us, Instr.fill place vs (l.map fun p => (p.1, Act.eval ⟨tmps, []⟩ p.2)) = some us ∧ CRepE g w st r us ∧ r.length = cs.length
  | [], cs, vs, r, h, hc => by simp [layE] at h; subst h; exact ⟨vs, rfl, hc, rfl⟩
  | (i, x) :: l, cs, vs, r, h, hc => by
    unfold layE at h
    split at h
    · rename_i off size e hp hx
      split at h
      · rename_i new hn
        split at h
        · rename_i hb1 hb2
          have h1 := Nat.eq_of_beq_eq_true hb1
          have h2 := Nat.le_of_ble_eq_true hb2
          have hcn : CRepE g w st new (Act.eval ⟨tmps, []⟩ x).cells := cellsE_rep hn (evo_rep he hx)
          have hlay := hc.lay hcn (off := off) (by omega)
          obtain ⟨us, k1, k2, k3⟩ := layE_rep he l _ _ r h hlay
          refine ⟨us, ?_, k2, by rw [k3]; simp [putCells]; omega⟩
          have hs := hcn.1
          have hvs := hc.1
          simp only [List.map_cons, Instr.fill, hp]
          rw [if_neg (by simp; omega)]
          exact k1
        · cases h
      · cases h
    · cases h

section rules
variable {P : Program} {base : Nat} {env : Env} {st : St} {d : Option Tmp} {ty : TypeId} {pos : String} {after : Array Edge} {gd : Option (Nat × Bool)} {t : TypeId}

/-- A struct literal whose parts may be owned. -/
theorem q_buildE0 {fs : Array Field} {inf : TypeInfo} {z : Value} {zs r : List EV} {l : List (Nat × Operand)} (ht : P.underlying t = some (.struct fs)) (hi : P.info? t = some inf) (hz : inf.zero = some z) (hzs : cellsE (.d (cv z)) = some zs)
    (hfs : fs.toList.all (fun f => (P.info? f.type).isSome) = true) (hl : layE (placeOf P fs) env zs l = some r) : OpQ P env st ⟨d, .build t l.toArray, ty, pos, after, gd⟩ (.agg r) := by
  intro g base w tmps hinv he
  have hz' : CRepE g w st zs z.cells := cellsE_rep (g := g) (w := w) (st := st) hzs (.d _ _ (cv_rep _ _ z))
  obtain ⟨us, h1, h2, h3⟩ := layE_rep he l zs z.cells r hl hz'
  refine ⟨.agg us, .agg r us h2.1 (fun i u hu => ?_) fun i c u hc hu => (h2.2 i c u hc hu).1, fun w' hb => ?_⟩
  · have hi' : i < r.length := by rw [← h2.1]; exact (Array.getElem?_eq_some_iff.1 hu).1
    exact (h2.2 i _ u (List.getElem?_eq_getElem hi') hu).2
  · have hpl : (fs.mapM (fun f => do pure (f.offset, ← sizeOf f.type) : Field → Sem (Nat × Nat))).run P w' = .ok (fs.toList.map fun f => (f.offset, szOf P f.type)).toArray w' := by
      rw [← Array.toArray_toList (xs := fs), List.mapM_toArray]
      simp only [Sem.run_map, mapM_places (P := P) fs.toList (fun f hf => List.all_eq_true.1 hfs f hf) w', Result.andThen_ok]
    have hplace : (fun i : Nat => ((fs.toList.map fun f => (f.offset, szOf P f.type)).toArray)[i]?) = placeOf P fs := by
      funext i
      simp [placeOf]
    simp only [execOp, Instr.build, Sem.run_bind, zero_run hi hz, Result.andThen_ok, run_underlying ht, hpl, List.map_toArray]
    rw [hplace]
    simp [h1]
theorem q_buildE {ps : List (Nat × Nat)} {inf : TypeInfo} {z : Value} {zs r : List EV} {l : List (Nat × Operand)} (hp : placesOf P t = some ps) (hi : P.info? t = some inf) (hz : inf.zero = some z) (hzs : cellsE (.d (cv z)) = some zs)
    (hl : layE (fun i => ps[i]?) env zs l = some r) : OpQ P env st ⟨d, .build t l.toArray, ty, pos, after, gd⟩ (.agg r) := by
  unfold placesOf at hp
  split at hp
  · rename_i fs hu
    split at hp
    · rename_i hall
      cases hp
      refine q_buildE0 hu hi hz hzs hall ?_
      rw [← hl]
      congr 1
      funext i
      simp [placeOf]
    · cases hp
  · cases hp
end rules

section cell
variable {P : Program} {f : FuncId} {N : Nat} {S : Start} {Q : EV → St → Prop} {todo : List Item} {env : Env} {st : St}
/-- A cell told weaker. -/
theorem Inv.cellLe {g : Ghost} {base : Nat} {w : World} {o ci : Nat} {T : TypeId} {cs : List EV} {x y : EV} (h : Inv g base w st) (ho : st.objs[o]? = some (.row T cs)) (hc : cs[ci]? = some x) (hle : EVle x y) :
    Inv g base w (st.set o (.row T (cs.set ci y))) ∧ Step base g w st g w (st.set o (.row T (cs.set ci y))) := by
  obtain ⟨b1, b2, vs, b3, b4, b5⟩ := h.row o T cs ho
  exact h.setBlock (o := o) (x := .row T (cs.set ci y)) (w' := w) ⟨_, ho, by simp⟩ b2 rfl (fun _ _ => rfl) rfl rfl rfl
    (fun hsv ty' cs' hx' => by
      cases hx'
      refine ⟨vs, b3, by simpa using b4, fun i c u hci hu => ?_⟩
      rw [List.getElem?_set] at hci
      split at hci
      · rename_i hic
        subst hic
        split at hci
        · cases hci
          have h0 := b5 ci _ u hc hu
          exact ⟨hle _ _ _ _ (h0.1.mono hsv), h0.2⟩
        · cases hci
      · have h0 := b5 i c u hci hu
        exact ⟨h0.1.mono hsv, h0.2⟩) (fun _ es hx' => by cases hx')
theorem ARun.cellLe (o ci : Nat) {T : TypeId} {cs : List EV} {x y : EV} (ho : st.objs[o]? = some (.row T cs)) (hc : cs[ci]? = some x) (hle : EVle x y)
    (h : ARun P f N S Q todo env (st.set o (.row T (cs.set ci y)))) : ARun P f N S Q todo env st := by
  intro g w tmps hinv hh he hn
  obtain ⟨h1, h2⟩ := hinv.cellLe ho hc hle
  exact h g w tmps h1 (hh.step h2) (he.mono h2.sevo) hn
end cell
end Go.Abs

/- Arrays of one cell an element, as parts of structs and as values: told as lists, read by 'nth'. -/
set_option linter.unusedSimpArgs false
set_option linter.unusedVariables false
namespace Go.Abs
open Go.RowKit

/-- The elements i, i + 1, .., so many of them. -/
def exF {α β : Type} [Inhabited α] (c : α → β) (l : List α) (i : Nat) : Nat → List β
  | 0 => []
  | n + 1 => c (nth l i) :: exF c l (i + 1) n
theorem exF_len {α β : Type} [Inhabited α] (c : α → β) (l : List α) : ∀ (n i : Nat), (exF c l i n).length = n
  | 0, _ => rfl
  | n + 1, i => by simp [exF, exF_len c l n (i + 1)]
theorem exF_get {α β : Type} [Inhabited α] (c : α → β) (l : List α) : ∀ (n i j : Nat), j < n → (exF c l i n)[j]? = some (c (nth l (i + j)))
  | 0, _, _, h => absurd h (Nat.not_lt_zero _)
  | n + 1, i, 0, h => rfl
  | n + 1, i, j + 1, h => by
    simp only [exF, List.getElem?_cons_succ]
    rw [exF_get c l n (i + 1) j (by omega)]
    congr 3; omega
/-- An array with another element. -/
def setN {α : Type} [Inhabited α] (l : List α) (n i : Nat) (a : α) : List α := (exF id l 0 n).set i a
theorem setN_len {α : Type} [Inhabited α] (l : List α) (n i : Nat) (a : α) : (setN l n i a).length = n := by simp [setN, exF_len]
theorem nth_setN {α : Type} [Inhabited α] {l : List α} {n i j : Nat} {a : α} (hj : j < n) : nth (setN l n i a) j = if i = j then a else nth l j := by
  have h : (setN l n i a)[j]? = some (if i = j then a else nth l j) := by
    unfold setN
    rw [List.getElem?_set, exF_len]
    by_cases hij : i = j
    · subst hij; simp [hj]
    · rw [if_neg hij, if_neg hij, exF_get _ _ _ _ _ hj]; simp
  unfold nth
  rw [List.getD_eq_getElem?_getD, h]; rfl
theorem exF_set {α β : Type} [Inhabited α] (c : α → β) (l : List α) {n i : Nat} (a : α) : exF c (setN l n i a) 0 n = (exF c l 0 n).set i (c a) := by
  apply List.ext_getElem?
  intro j
  by_cases hj : j < n
  · rw [exF_get _ _ _ _ _ hj, List.getElem?_set, exF_len]
    rw [Nat.zero_add, nth_setN hj]
    by_cases hij : i = j
    · subst hij; simp [hj]
    · rw [if_neg hij, if_neg hij, exF_get _ _ _ _ _ hj]; simp
  · rw [List.getElem?_eq_none (by rw [exF_len]; omega), List.getElem?_eq_none (by simp [exF_len]; omega)]

section rules
variable {P : Program} {base : Nat} {env : Env} {st : St} {d : Option Tmp} {ty : TypeId} {pos : String} {after : Array Edge} {gd : Option (Nat × Bool)} {t e : TypeId} {x y : Operand}
  {α : Type} [Inhabited α] {c1 : α → D} {l : List α} {o off n : Nat} {T : TypeId} {cs : List EV}

/-- '&a[i]', of an array in memory. -/
theorem q_idxK {kk : IntKind} {i : Int} (ht : P.underlying t = some (.array n e)) (hi : ∃ inf, P.info? e = some inf ∧ inf.size = 1) (hx : evo env x = some (.ref o off)) (hy : evo env y = some (.d (.ex (.int kk i)))) (h : 0 ≤ i ∧ i < (n : Int)) :
    OpQ P env st ⟨d, .indexAddr t x y, ty, pos, after, gd⟩ (.ref o (off + i.toNat)) := by
  have := q_idxArr (st := st) (d := d) (ty := ty) (pos := pos) (after := after) (gd := gd) (m := i.toNat) ht hi hx hy (by omega) (by omega)
  simpa using this
theorem q_loadK {i : Nat} (h1 : (P.underlying t).map oneB = some true) (hx : evo env x = some (.ref o (off + i))) (ho : st.objs[o]? = some (.row T cs)) (hcs : (cs.drop off).take n = exF (fun b => EV.d (c1 b)) l 0 n) (hi : i < n) :
    OpQ P env st ⟨d, .load t x, ty, pos, after, gd⟩ (.d (c1 (nth l i))) := by
  refine q_loadO h1 hx ho ?_
  have h2 : ((cs.drop off).take n)[i]? = some (EV.d (c1 (nth l i))) := by rw [hcs, exF_get _ _ _ _ _ hi, Nat.zero_add]
  rw [List.getElem?_take, if_pos hi, List.getElem?_drop] at h2
  exact h2
theorem u_storeK {i : Nat} {a : α} (hx : evo env x = some (.ref o (off + i))) (hy : evo env y = some (.d (c1 a))) (ho : st.objs[o]? = some (.row T cs)) (hcs : (cs.drop off).take n = exF (fun b => EV.d (c1 b)) l 0 n) (hc : cellsE (.d (c1 a)) = some [.d (c1 a)]) (hi : i < n)
    (hs : (P.info? t).map (·.size) = some 1) : OpU P base env st ⟨d, .store t x y, ty, pos, after, gd⟩ (st.set o (.row T (cs.take off ++ exF (fun b => EV.d (c1 b)) (setN l n i a) 0 n ++ cs.drop (off + n)))) := by
  have hlen : off + n ≤ cs.length := by
    have h2 : ((cs.drop off).take n).length = n := by rw [hcs, exF_len]
    rw [List.length_take, List.length_drop] at h2
    omega
  have := u_store (base := base) (d := d) (ty := ty) (pos := pos) (after := after) (gd := gd) hx hy ho hc (by simp; omega) hs
  have e1 : putCells cs (off + i) [.d (c1 a)] = cs.take off ++ exF (fun b => EV.d (c1 b)) (setN l n i a) 0 n ++ cs.drop (off + n) := by
    rw [exF_set, ← hcs]
    unfold putCells
    apply List.ext_getElem?
    intro j
    have hA : (cs.take off).length = off := by simp; omega
    have hB : (((cs.drop off).take n).set i (EV.d (c1 a))).length = n := by simp; omega
    by_cases h1 : j < off
    · rw [List.append_assoc, List.getElem?_append_left (by simp; omega), List.append_assoc, List.getElem?_append_left (by omega), List.getElem?_take, List.getElem?_take, if_pos (by omega), if_pos h1]
    · by_cases h2 : j < off + n
      · have hR : ∀ X : List EV, X.length = n → (cs.take off ++ X ++ cs.drop (off + n))[j]? = X[j - off]? := fun X hX => by
          rw [List.append_assoc, List.getElem?_append_right (by omega), hA, List.getElem?_append_left (by omega)]
        rw [hR _ hB, List.getElem?_set]
        by_cases h3 : i = j - off
        · rw [if_pos h3, if_pos (by simp; omega), List.append_assoc, List.getElem?_append_right (by simp; omega)]
          have : j - (cs.take (off + i)).length = 0 := by simp; omega
          rw [this]; rfl
        · rw [if_neg h3, List.getElem?_take, if_pos (by omega), List.getElem?_drop]
          have e0 : off + (j - off) = j := by omega
          rw [e0]
          by_cases h4 : j < off + i
          · rw [List.append_assoc, List.getElem?_append_left (by simp; omega), List.getElem?_take, if_pos h4]
          · have hC : (cs.take (off + i) ++ [EV.d (c1 a)]).length = off + i + 1 := by simp; omega
            rw [List.getElem?_append_right (by omega), List.getElem?_drop, hC]
            congr 1; simp; omega
      · have hC : (cs.take (off + i) ++ [EV.d (c1 a)]).length = off + i + 1 := by simp; omega
        have hD : (cs.take off ++ ((cs.drop off).take n).set i (EV.d (c1 a))).length = off + n := by rw [List.length_append, hA, hB]
        rw [List.getElem?_append_right (by omega), List.getElem?_append_right (by omega), List.getElem?_drop, List.getElem?_drop, hC, hD]
        congr 1; simp; omega
  rwa [e1] at this
/-- a[i], of an array value. -/
theorem q_indexK {ds : List D} {inf : TypeInfo} {k : IntKind} {i : Int} (ht : P.underlying t = some (.array n e)) (h1 : (P.underlying e).map oneB = some true) (hi : P.info? e = some inf) (hs : inf.size = 1)
    (hx : evo env x = some (.d (.agg ds))) (hds : ds = exF c1 l 0 n) (hy : evo env y = some (.d (.ex (.int k i)))) (h : 0 ≤ i ∧ i < (n : Int)) : OpQ P env st ⟨d, .index t x y, ty, pos, after, gd⟩ (.d (c1 (nth l i.toNat))) :=
  q_indexA ht h1 hi hs hx hy (Int.toNat_of_nonneg h.1).symm (by omega) (by rw [hds, exF_get _ _ _ _ _ (by omega), Nat.zero_add])
end rules
end Go.Abs

/- Equality of structs that hold structs and arrays. -/
set_option linter.unusedSimpArgs false
set_option linter.unusedVariables false
namespace Go.Abs
open Go.RowKit

def sizeB (P : Program) (t : TypeId) (n : Nat) : Bool := match P.info? t with
  | some i => Nat.beq i.size n
  | none => false
def flatFs (P : Program) (g : TypeId → Option (List FK)) : Nat → List Field → Option (List FK)
  | _, [] => some []
  | n, f :: fs => match Nat.beq f.offset n, decide (f.name ≠ "_"), g f.type with
    | true, true, some k => match sizeB P f.type k.length, flatFs P g (n + k.length) fs with
      | true, some ks => some (k ++ ks)
      | _, _ => none
    | _, _, _ => none
/-- The cells of a value that holds no references, one by one. -/
def flatT (P : Program) : Nat → TypeId → Option (List FK)
  | 0, _ => none
  | d + 1, t => match P.underlying t with
    | some (.struct fs) => match P.stoodInHeld t with
      | true => none
      | false => flatFs P (flatT P d) 0 fs.toList
    | some (.array n e) => match d, fkOf (P.underlying e), sizeB P e 1 with
      | d' + 1, some k, true => some (List.replicate n k)
      | _, _, _ => none
    | u => match fkOf u with
      | some k => some [k]
      | none => none
def aggB : Option TypeDesc → Bool
  | some (.struct _) => true
  | some (.array _ _) => true
  | _ => false
def valT (P : Program) (t : TypeId) (xs : List Value) : Value := match aggB (P.underlying t) with
  | true => .agg xs.toArray
  | false => xs.headD undef

theorem fitAll_len : ∀ {ks : List FK} {xs : List Value}, fitAll ks xs = true → xs.length = ks.length
  | [], [], _ => rfl
  | [], _ :: _, h => by cases h
  | _ :: _, [], h => by cases h
  | k :: ks, x :: xs, h => by simp only [fitAll, Bool.and_eq_true] at h; simp [fitAll_len h.2]
theorem fitAll_split : ∀ (ks ls : List FK) (xs : List Value), fitAll (ks ++ ls) xs = true → fitAll ks (xs.take ks.length) = true ∧ fitAll ls (xs.drop ks.length) = true
  | [], ls, xs, h => ⟨by simp [fitAll], by simpa using h⟩
  | k :: ks, ls, [], h => by cases h
  | k :: ks, ls, x :: xs, h => by
    simp only [List.cons_append, fitAll, Bool.and_eq_true] at h
    obtain ⟨h1, h2⟩ := fitAll_split ks ls xs h.2
    exact ⟨by simp [fitAll, h.1, h1], by simpa using h2⟩
theorem eqVs_split : ∀ (n : Nat) (xs ys : List Value), xs.length = ys.length → eqVs xs ys = (eqVs (xs.take n) (ys.take n) && eqVs (xs.drop n) (ys.drop n))
  | 0, xs, ys, _ => by simp [eqVs]
  | n + 1, [], [], _ => by simp [eqVs]
  | n + 1, [], _ :: _, h => by cases h
  | n + 1, _ :: _, [], h => by cases h
  | n + 1, x :: xs, y :: ys, h => by
    simp only [List.take_succ_cons, List.drop_succ_cons, eqVs]
    rw [eqVs_split n xs ys (by simpa using h), Bool.and_assoc]

section eq
variable {P : Program}
theorem isAgg_b (t : TypeId) (w : World) (u : TypeDesc) (hu : P.underlying t = some u) : (isAgg t).run P w = .ok (aggB (some u)) w := by
  unfold isAgg
  simp only [Sem.run_bind, run_underlying hu, Result.andThen_ok]
  cases u <;> rfl
theorem sizeB_of {t : TypeId} {n : Nat} (h : sizeB P t n = true) : ∃ i, P.info? t = some i ∧ i.size = n := by
  unfold sizeB at h
  split at h
  · rename_i i hi; exact ⟨i, hi, Nat.eq_of_beq_eq_true h⟩
  · cases h
theorem flatT_one {d : Nat} {t : TypeId} {ks : List FK} (h : flatT P d t = some ks) (ha : aggB (P.underlying t) = false) : ∃ k, fkOf (P.underlying t) = some k ∧ ks = [k] := by
  cases d with
  | zero => cases h
  | succ d =>
    unfold flatT at h
    split at h
    · rename_i hu; rw [hu] at ha; cases ha
    · rename_i hu; rw [hu] at ha; cases ha
    · split at h
      · rename_i k hk; cases h; exact ⟨k, hk, rfl⟩
      · cases h
/-- A part of a row of cells. -/
theorem part_flat {d : Nat} {t : TypeId} {ks : List FK} (h : flatT P d t = some ks) {X : Array Value} {off : Nat} {xs : List Value} (hl : xs.length = ks.length) (hs : sizeB P t ks.length = true)
    (hX : ∀ (j : Nat) v, xs[j]? = some v → X[off + j]? = some v) (w : World) : (part t X off).run P w = .ok (valT P t xs) w := by
  obtain ⟨i, hi, hsz⟩ := sizeB_of hs
  cases ha : aggB (P.underlying t) with
  | false =>
    obtain ⟨k, hk, rfl⟩ := flatT_one h ha
    match xs, hl with
    | [v], _ =>
      have := part_one hk (cs := X) (off := off) (v := v) (by simpa using hX 0 v rfl) w
      simpa [valT, ha] using this
  | true =>
    cases hu : P.underlying t with
    | none => rw [hu] at ha; cases ha
    | some u =>
      have hA := isAgg_b (P := P) t w u hu
      rw [hu] at ha
      rw [ha] at hA
      have hval : valT P t xs = .agg xs.toArray := by unfold valT; rw [hu, ha]
      have hx : X.extract off (off + ks.length) = xs.toArray := by
        apply Array.ext'
        apply List.ext_getElem?
        intro j
        by_cases hj : j < xs.length
        · have h1 := hX j _ (List.getElem?_eq_getElem hj)
          have h2 := (Array.getElem?_eq_some_iff.1 h1).1
          rw [Array.getElem?_toList, Array.getElem?_extract]
          show _ = xs[j]?
          rw [List.getElem?_eq_getElem hj, if_pos (by omega)]
          exact h1
        · rw [Array.getElem?_toList, Array.getElem?_eq_none (by simp; omega), List.getElem?_eq_none (by simp; omega)]
      simp only [part, Sem.run_bind, hA, Result.andThen_ok, if_true, size_of hi, hsz, hx, hval, Sem.run_pure]
theorem eqFs_flat {d : Nat} (n : Nat) (w : World) (ih : ∀ (t : TypeId) (ks : List FK) (xs ys : List Value), flatT P d t = some ks → fitAll ks xs = true → fitAll ks ys = true → (Op.equalIn (n + d) t (valT P t xs) (valT P t ys)).run P w = .ok (eqVs xs ys) w) :
    ∀ (fs : List Field) (k : Nat) (ks : List FK) (xs ys : List Value) (X Y : Array Value), flatFs P (flatT P d) k fs = some ks → fitAll ks xs = true → fitAll ks ys = true →
    (∀ (j : Nat) v, xs[j]? = some v → X[k + j]? = some v) → (∀ (j : Nat) v, ys[j]? = some v → Y[k + j]? = some v) → (Op.eqFields (n + d) X Y fs).run P w = .ok (eqVs xs ys) w
  | [], k, ks, xs, ys, X, Y, h, hx, hy, _, _ => by
    simp only [flatFs, Option.some.injEq] at h
    subst h
    match xs, ys with
    | [], [] => rfl
    | _ :: _, _ => cases hx
    | [], _ :: _ => cases hy
  | f :: fs, k, ks, xs, ys, X, Y, h, hx, hy, hX, hY => by
    unfold flatFs at h
    split at h
    · rename_i kk h1 h2 h3
      split at h
      · rename_i ks' h4 h5
        simp only [Option.some.injEq] at h
        subst h
        have ho := Nat.eq_of_beq_eq_true h1
        have hname : f.name ≠ "_" := of_decide_eq_true h2
        obtain ⟨a1, a2⟩ := fitAll_split _ _ _ hx
        obtain ⟨b1, b2⟩ := fitAll_split _ _ _ hy
        have hlx := fitAll_len hx
        have hly := fitAll_len hy
        have px := part_flat h3 (X := X) (off := f.offset) (fitAll_len a1) h4 (fun j v hv => by
          rw [List.getElem?_take] at hv
          split at hv
          · rw [ho]; exact hX j v hv
          · cases hv) w
        have py := part_flat h3 (X := Y) (off := f.offset) (fitAll_len b1) h4 (fun j v hv => by
          rw [List.getElem?_take] at hv
          split at hv
          · rw [ho]; exact hY j v hv
          · cases hv) w
        have pe := ih _ _ _ _ h3 a1 b1
        have rest := eqFs_flat n w ih fs (k + kk.length) ks' _ _ X Y h5 a2 b2 (fun j v hv => by rw [List.getElem?_drop] at hv; have := hX _ v hv; rwa [show k + kk.length + j = k + (kk.length + j) by omega])
          (fun j v hv => by rw [List.getElem?_drop] at hv; have := hY _ v hv; rwa [show k + kk.length + j = k + (kk.length + j) by omega])
        rw [eqVs_split kk.length xs ys (by omega)]
        simp only [Op.eqFields, if_pos hname, Sem.run_bind, px, py, pe, Result.andThen_ok, Sem.run_ite]
        cases eqVs (xs.take kk.length) (ys.take kk.length)
        · rfl
        · simpa using rest
      · cases h
    · cases h
theorem eqIs_flat {e : TypeId} {k : FK} (hk : fkOf (P.underlying e) = some k) (hs : P.cellsOf e = 1) (n : Nat) (w : World) (X Y : Array Value) :
    ∀ (m i : Nat) (xs ys : List Value), fitAll (List.replicate m k) xs = true → fitAll (List.replicate m k) ys = true →
    (∀ (j : Nat) v, xs[j]? = some v → X[i + j]? = some v) → (∀ (j : Nat) v, ys[j]? = some v → Y[i + j]? = some v) →
    (Op.eqItems (n + 1) e (P.cellsOf e) X Y (List.range' i m)).run P w = .ok (eqVs xs ys) w
  | 0, i, xs, ys, hx, hy, _, _ => by
    match xs, ys with
    | [], [] => rfl
    | _ :: _, _ => cases hx
    | [], _ :: _ => cases hy
  | m + 1, i, [], ys, hx, _, _, _ => by cases hx
  | m + 1, i, x :: xs, [], _, hy, _, _ => by cases hy
  | m + 1, i, x :: xs, y :: ys, hx, hy, hX, hY => by
    simp only [List.replicate_succ, fitAll, Bool.and_eq_true] at hx hy
    have px := part_one hk (cs := X) (off := i) (by simpa using hX 0 x rfl) w
    have py := part_one hk (cs := Y) (off := i) (by simpa using hY 0 y rfl) w
    have pe := equalIn_one hk hx.1 hy.1 n w
    have ih := eqIs_flat hk hs n w X Y m (i + 1) xs ys hx.2 hy.2 (fun j v hv => by have := hX (j + 1) v (by simpa using hv); rwa [show i + 1 + j = i + (j + 1) by omega]) (fun j v hv => by have := hY (j + 1) v (by simpa using hv); rwa [show i + 1 + j = i + (j + 1) by omega])
    rw [hs] at ih ⊢
    simp only [List.range'_succ, Op.eqItems, Sem.run_bind, Nat.mul_one, px, py, pe, Result.andThen_ok, Sem.run_ite, eqVs]
    cases eqV x y
    · rfl
    · simpa using ih
theorem eqT_flat (n : Nat) (w : World) : ∀ (d : Nat) (t : TypeId) (ks : List FK) (xs ys : List Value), flatT P d t = some ks → fitAll ks xs = true → fitAll ks ys = true → (Op.equalIn (n + d) t (valT P t xs) (valT P t ys)).run P w = .ok (eqVs xs ys) w
  | 0, t, ks, xs, ys, h, _, _ => by cases h
  | d + 1, t, ks, xs, ys, h, hx, hy => by
    cases ha : aggB (P.underlying t) with
    | false =>
      obtain ⟨k, hk, rfl⟩ := flatT_one h ha
      match xs, ys, hx, hy with
      | [x], [y], hx, hy =>
        simp only [fitAll, Bool.and_true] at hx hy
        have := equalIn_one hk hx hy (n + d) w
        simp only [valT, ha, eqVs, List.headD_cons, Bool.and_true]
        exact this
      | [], _, hx, _ => cases hx
      | _ :: _ :: _, _, hx, _ => simp [fitAll] at hx
      | [x], [], _, hy => cases hy
      | [x], _ :: _ :: _, _, hy => simp [fitAll] at hy
    | true =>
      have hvx : ∀ zs, valT P t zs = .agg zs.toArray := fun zs => by unfold valT; rw [ha]
      rw [hvx, hvx]
      unfold flatT at h
      cases hu : P.underlying t with
      | none => rw [hu] at ha; cases ha
      | some u =>
        rw [hu] at h ha
        cases u with
        | struct fs =>
          simp only at h
          split at h
          · cases h
          · rename_i hno
            have hfs : P.fieldsOf t = fs := by simp [Program.fieldsOf, hu]
            rw [show n + (d + 1) = (n + d) + 1 by omega, run_equalIn_struct w (n + d) t _ _ (by rw [hfs]; exact hu) hno, hfs]
            exact eqFs_flat n w (eqT_flat n w d) fs.toList 0 ks xs ys _ _ h hx hy (fun j v hv => by simpa using hv) (fun j v hv => by simpa using hv)
        | array m e =>
          simp only at h
          split at h
          · rename_i d' k hk hs
            cases h
            obtain ⟨i, hi, hsz⟩ := sizeB_of hs
            have hc : P.cellsOf e = 1 := by simp [Program.cellsOf, hi, hsz]
            rw [show n + (d' + 1 + 1) = (n + d' + 1) + 1 by omega, run_equalIn_array w (n + d' + 1) _ _ hu hi, List.range_eq_range']
            exact eqIs_flat hk hc (n + d') w _ _ m 0 xs ys hx hy (fun j v hv => by simpa using hv) (fun j v hv => by simpa using hv)
          · cases h
        | _ => cases ha
end eq
def flatG (P : Program) (t : TypeId) : Option (List FK) := match P.eqGuardType P.depth t, aggB (P.underlying t) with
  | false, true => flatT P 4 t
  | _, _ => none
section rules
variable {P : Program} {base : Nat} {env : Env} {st : St} {d : Option Tmp} {ty : TypeId} {pos : String} {after : Array Edge} {gd : Option (Nat × Bool)} {t t2 : TypeId} {x y : Operand}
variable {ks : List FK} {cs ds : List D} {xs ys : List Value}
theorem eqG_flat (h : flatG P t = some ks) (hx : fitAll ks xs = true) (hy : fitAll ks ys = true) (w : World) (op : BinOp) (x y : Operand) :
    (eqGuard op t x y (.agg xs.toArray) (.agg ys.toArray)).run P w = .ok () w ∧ (Op.equalIn 10000 t (.agg xs.toArray) (.agg ys.toArray)).run P w = .ok (eqVs xs ys) w := by
  unfold flatG at h
  split at h
  · rename_i hg ha
    refine ⟨run_eqGuard_agg w op t x y _ _ hg, ?_⟩
    have := eqT_flat (P := P) 9996 w 4 t ks xs ys h hx hy
    have hvx : ∀ zs, valT P t zs = .agg zs.toArray := fun zs => by unfold valT; rw [ha]
    rw [hvx, hvx] at this
    exact this
  · cases h
section steq
variable (hk : flatG P t = some ks) (hx : evo env x = some (.d (.agg cs))) (hy : evo env y = some (.d (.agg ds))) (h1 : exs cs = some xs) (h2 : exs ds = some ys) (h3 : fitAll ks xs = true) (h4 : fitAll ks ys = true)
include hk hx hy h1 h2 h3 h4
theorem q_gteql : OpQ P env st ⟨d, .binOp .eql t x y t2, ty, pos, after, gd⟩ (.d (.ex (.bool (eqVs xs ys)))) := q_ex fun g w tmps w' he => by
  obtain ⟨k1, k2⟩ := eqG_flat hk h3 h4 w' .eql x y
  have e1 : Act.eval ⟨tmps, []⟩ x = .agg xs.toArray := by cases evo_rep he hx with | d _ _ h => exact agg_exact h1 h
  have e2 : Act.eval ⟨tmps, []⟩ y = .agg ys.toArray := by cases evo_rep he hy with | d _ _ h => exact agg_exact h2 h
  simp only [execOp, e1, e2, Sem.run_bind, k1, Result.andThen_ok, run_eql_struct, k2, Sem.run_pure]
theorem q_gtneq : OpQ P env st ⟨d, .binOp .neq t x y t2, ty, pos, after, gd⟩ (.d (.ex (.bool (!eqVs xs ys)))) := q_ex fun g w tmps w' he => by
  obtain ⟨k1, k2⟩ := eqG_flat hk h3 h4 w' .neq x y
  have e1 : Act.eval ⟨tmps, []⟩ x = .agg xs.toArray := by cases evo_rep he hx with | d _ _ h => exact agg_exact h1 h
  have e2 : Act.eval ⟨tmps, []⟩ y = .agg ys.toArray := by cases evo_rep he hy with | d _ _ h => exact agg_exact h2 h
  simp only [execOp, e1, e2, Sem.run_bind, k1, Result.andThen_ok, run_neq_struct, k2, Sem.run_pure]
end steq
theorem q_minI {a b : Int} {k : IntKind} {ts : Array TypeId} (hx : evo env x = some (.d (.ex (.int k a)))) (hy : evo env y = some (.d (.ex (.int k b)))) :
    OpQ P env st ⟨d, .call ⟨.builtin .min, #[x, y], ts⟩, ty, pos, after, gd⟩ (.d (.ex (.int k (if b < a then b else a)))) := q_ex fun g w tmps w' he => by
  simp [execOp, (evo_rep he hx).ex_inv, (evo_rep he hy).ex_inv, resolve, invoke, builtin, run_min_int2]
theorem q_maxI {a b : Int} {k : IntKind} {ts : Array TypeId} (hx : evo env x = some (.d (.ex (.int k a)))) (hy : evo env y = some (.d (.ex (.int k b)))) :
    OpQ P env st ⟨d, .call ⟨.builtin .max, #[x, y], ts⟩, ty, pos, after, gd⟩ (.d (.ex (.int k (if b > a then b else a)))) := q_ex fun g w tmps w' he => by
  simp [execOp, (evo_rep he hx).ex_inv, (evo_rep he hy).ex_inv, resolve, invoke, builtin, run_max_int2]
end rules
end Go.Abs

/- Rows of references, and parts of arrays in structs, as slices. -/
set_option linter.unusedSimpArgs false
set_option linter.unusedVariables false
set_option linter.unusedSectionVars false
namespace Go.Abs
open Go.RowKit
section rules
variable {P : Program} {base : Nat} {env : Env} {st : St} {d : Option Tmp} {ty : TypeId} {pos : String} {after : Array Edge} {gd : Option (Nat × Bool)} {t t2 e : TypeId} {x y z : Operand}
/-- '[]*T{&x, &y, ..}': a row of references. -/
theorem v_buildSliceR {n : Nat} {inf : TypeInfo} {z : Value} {zc : EV} {r : List EV} {l : List (Nat × Operand)} (ht : P.underlying t = some (.slice e)) (hi : P.info? e = some inf) (hsz : inf.size = 1) (hz : inf.zero = some z) (hzs : Nat.beq z.cells.size 1 = true)
    (hbig : (Nat.ble n 16777216 && Nat.blt 0 n) = true) (hzr : cellsE (.d (cv z)) = some [zc]) (hl : layE (fun i => some (i * 1, 1)) env (List.replicate n zc) l = some r) :
    OpV P base env st ⟨d, .buildSlice t n l.toArray, ty, pos, after, gd⟩ (.osl st.objs.length 0 n n) (st.add (.row e r)) := by
  simp only [Bool.and_eq_true] at hbig
  have hzs' := Nat.eq_of_beq_eq_true hzs
  have hbg := Nat.le_of_ble_eq_true hbig.1
  have hn0 := blt_lt hbig.2
  intro g w tmps hinv he
  have hz' := cellsE_rep (g := g) (w := w) (st := st) hzr (.d _ _ (cv_rep _ _ z))
  have hcells : CRepE g w st (List.replicate n zc) ((Array.range (n * 1)).map (z.cells[· % z.cells.size]!)) := by
    refine ⟨by simp, fun i c u hc hu => ?_⟩
    have hil : i < n := by have := (List.getElem?_eq_some_iff.1 hc).1; simpa using this
    have huz : z.cells[0]? = some u := by
      have : ((Array.range (n * 1)).map (z.cells[· % z.cells.size]!))[i]? = some (z.cells[i % z.cells.size]!) := by simp [hil]
      rw [this] at hu
      cases hu
      rw [hzs', Nat.mod_one, getElem!_pos z.cells 0 (by omega), Array.getElem?_eq_getElem (by omega)]
    have hcz : c = zc := by
      rw [List.getElem?_replicate, if_pos hil] at hc
      cases hc; rfl
    subst hcz
    exact hz'.2 0 c u rfl huz
  obtain ⟨us, h1, h2, h3⟩ := layE_rep he l _ _ _ hl hcells
  obtain ⟨g', hi', hs, hob⟩ := hinv.newObj (.row e r) (.cells us e) (fun ty' cs' e' => by cases e'; exact ⟨_, rfl, h2.1, h2.2⟩) (fun es e' => by cases e')
  refine ⟨.slice (some ⟨w.heap.size, 0, none⟩) n n, g', _, ?_, ?_, hi', hs⟩
  · have hbig' : ¬ (16777216 < n * inf.size) := by rw [hsz]; omega
    have hne' : ¬ n * inf.size = 0 := by rw [hsz]; omega
    have h1' : Instr.fill (fun i => some (i * inf.size, inf.size)) (Array.map (fun x => z.cells[x % z.cells.size]!) (Array.range (n * inf.size))) (List.map (fun p => (p.1, Act.eval ⟨tmps, []⟩ p.2)) l) = some us := by rw [hsz]; exact h1
    simp [execOp, Instr.buildSlice, run_underlying ht, size_of hi, hbig', hne', zero_run hi hz, h1', newRow]
  · rw [← hob]; exact .osl _ _ _ _ (by simp [St.add])
theorem q_lenOsl {o off n c : Nat} (ht : P.underlying t = some (.slice e)) (hx : evo env x = some (.osl o off n c)) :
    OpQ P env st ⟨d, .call ⟨.builtin .len, #[x], #[t]⟩, ty, pos, after, gd⟩ (.d (.ex (.int .i64 n))) := q_ex fun g w tmps w' he => by
  have h := evo_rep he hx
  generalize hv : Act.eval ⟨tmps, []⟩ x = v at h
  cases h with
  | osl => exact len_run ht hv w'
theorem q_idxOsl {o off n c m : Nat} {inf : TypeInfo} {k : IntKind} {i : Int} (ht : P.underlying t = some (.slice e)) (hi : P.info? e = some inf) (hsz : inf.size = 1) (hx : evo env x = some (.osl o off n c)) (hy : evo env y = some (.d (.ex (.int k i)))) (hm : i = m) (hlt : m < n) :
    OpQ P env st ⟨d, .indexAddr t x y, ty, pos, after, gd⟩ (.ref o (off + m)) := fun g base w tmps hinv he => by
  subst hm
  have h := evo_rep he hx
  have hyv := (evo_rep he hy).ex_inv
  generalize hv : Act.eval ⟨tmps, []⟩ x = v at h
  cases h with
  | osl _ _ _ _ hlt' =>
    refine ⟨.pointer (some ⟨g.ob o, off + m, none⟩), .ref _ _ hlt', fun w' _ => ?_⟩
    have := index_run (d := d) (ty := ty) (pos := pos) (after := after) (gd := gd) ht hi hv hyv (by omega) (by omega) w'
    rw [hsz] at this
    simpa [Addr.add_lit] using this
variable {α : Type} {c1 : α → D} {l : List α} {o : Nat} {T : TypeId} {cs : List EV}
theorem srcRep_oslK {off m c : Nat} {g : Ghost} {w : World} {v : Value} (hinv : Inv g base w st) (hv : EVRep g w st (.osl o off m c) v) (ho : st.objs[o]? = some (.row T cs)) (hcs : (cs.drop off).take m = l.map fun b => EV.d (c1 b)) (hn : l.length = m) :
    ∃ news, SrcRep P g.lim w 1 v (l.map fun b => [c1 b]) news := by
  cases hv with
  | osl _ _ _ _ hlt =>
    obtain ⟨_, _, vs, hb, hsz, hreps⟩ := hinv.row o T _ ho
    have hfl : (l.map fun b => [c1 b]).flatten = l.map c1 := by
      clear hn ho hsz hreps hcs
      induction l with
      | nil => rfl
      | cons a l ih => simp [ih]
    have hle : off + m ≤ cs.length ∨ m = 0 := by
      have h2 : ((cs.drop off).take m).length = m := by rw [hcs]; simpa using hn
      rw [List.length_take, List.length_drop] at h2
      omega
    have hvl : ((vs.toList.drop off).take m).length = l.length := by
      rw [List.length_take, List.length_drop, Array.length_toList, hsz]
      omega
    have hrep : ∀ (j : Nat) u c, ((vs.toList.drop off).take m)[j]? = some u → (l.map c1)[j]? = some c → DRep g.lim w c u ∧ u.oneCell' = true := fun j u c hu hc => by
      rw [List.getElem?_map] at hc
      obtain ⟨a, ha, rfl⟩ := Option.map_eq_some_iff.1 hc
      have h3 : ((cs.drop off).take m)[j]? = some (.d (c1 a)) := by rw [hcs, List.getElem?_map, ha]; rfl
      rw [List.getElem?_take] at h3 hu
      split at h3
      · rename_i hjm
        rw [if_pos hjm] at hu
        rw [List.getElem?_drop] at h3 hu
        have h1 := hreps (off + j) (.d (c1 a)) u h3 (by simpa using hu)
        exact ⟨by cases h1.1 with | d _ _ h => exact h, h1.2⟩
      · cases h3
    refine ⟨(vs.toList.drop off).take m, ⟨by simp [Builtin.lenOf, hn], fun w' hw => ?_, by rw [hvl]; simp, fun u hu => ?_⟩, by simp, fun j u c hu hc => hrep j u c hu (by rw [← hfl]; exact hc)⟩
    · refine run_firstCells_some w' 1 _ _ m c _ (by rw [hvl]; simp) fun j u hu => ?_
      rw [Addr.add_lit]
      rw [List.getElem?_take] at hu
      split at hu
      · rw [List.getElem?_drop] at hu
        have : w.cell? ⟨g.ob o, off + j, none⟩ = some u := by rw [cell_of_row w _ (off + j) vs T (0, 0) hb]; simpa using hu
        simpa [World.cell?, hw] using this
      · cases hu
    · obtain ⟨j, hj⟩ := List.mem_iff_getElem?.1 hu
      have hjl := (List.getElem?_eq_some_iff.1 hj).1
      have hjl' : j < (l.map c1).length := by rw [hvl] at hjl; simpa using hjl
      exact (hrep j u _ hj (List.getElem?_eq_getElem hjl')).2
variable {l' : List α}
theorem v_appendOslVK {tk n m off c : Nat} {inf : TypeInfo} {zv : Value} (ht : P.underlying t = some (.slice e)) (hi : P.info? e = some inf) (hz : inf.zero = some zv) (hsize : inf.size = 1) (hzs : zv.cells.size = 1) (hb : inf.bytes ≤ 100000)
    (hx : evo env x = some (.vc tk n)) (htl : st.tails[tk]? = some ⟨e, 1, n, some (l.map fun b => [c1 b])⟩) (hy : evo env y = some (.osl o off m c)) (ho : st.objs[o]? = some (.row T cs)) (hcs : (cs.drop off).take m = l'.map fun b => EV.d (c1 b)) (hn : l'.length = m ∧ l.length + l'.length ≤ 1000000000) :
    OpV P base env st ⟨d, .call ⟨.builtin .append, #[x, y], #[t, t]⟩, ty, pos, after, gd⟩ (.vc tk (l ++ l').length) (st.setTail tk ⟨e, 1, (l ++ l').length, some ((l ++ l').map fun b => [c1 b])⟩) :=
  append_coreV ht ht (.inr ⟨e, rfl⟩) hi hz hsize hzs hb hx htl hn.2 fun g w tmps hinv he => srcRep_oslK hinv (evo_rep he hy) ho hcs hn.1
theorem v_appendOslK {tk m off c : Nat} {inf : TypeInfo} {zv : Value} (ht : P.underlying t = some (.slice e)) (hi : P.info? e = some inf) (hz : inf.zero = some zv) (hsize : inf.size = 1) (hzs : zv.cells.size = 1) (hb : inf.bytes ≤ 100000)
    (hx : evo env x = some (.tsl 1 (l.map fun b => [c1 b]) tk)) (htl : st.tails[tk]? = some ⟨e, 1, l.length, none⟩) (hy : evo env y = some (.osl o off m c)) (ho : st.objs[o]? = some (.row T cs)) (hcs : (cs.drop off).take m = l'.map fun b => EV.d (c1 b)) (hn : l'.length = m ∧ l.length + l'.length ≤ 1000000000) :
    OpV P base env st ⟨d, .call ⟨.builtin .append, #[x, y], #[t, t]⟩, ty, pos, after, gd⟩ (.tsl 1 ((l ++ l').map fun b => [c1 b]) tk) (st.setTail tk ⟨e, 1, (l ++ l').length, none⟩) := by
  intro g w tmps hinv he
  obtain ⟨news, hsr⟩ := srcRep_oslK (P := P) hinv (evo_rep he hy) ho hcs hn.1
  have e1 : (l ++ l').map (fun b => [c1 b]) = l.map (fun b => [c1 b]) ++ l'.map (fun b => [c1 b]) := by simp
  have e2 : (l ++ l').length = (l.map (fun b => [c1 b]) ++ l'.map (fun b => [c1 b])).length := by simp
  rw [e1, e2]
  obtain ⟨v', g', w', hrun, h1, h2, h3⟩ := append_val (ty := ty) (rows := l.map fun b => [c1 b]) ht ht (.inr ⟨e, rfl⟩) hi hz hsize hzs hinv (evo_rep he hx) (by simpa using htl) (by simpa using big_le hn.2 hb) (by simp; omega) hsr
  exact ⟨v', g', w', by simp [execOp, resolve, invoke, builtin, hrun], h1, h2, h3⟩
end rules
theorem q_shrI63 {P : Program} {env : Env} {st : St} {d : Option Tmp} {ty : TypeId} {pos : String} {after : Array Edge} {gd : Option (Nat × Bool)} {t t2 : TypeId} {x y : Operand} {k : IntKind} {a b : Int} (hx : evo env x = some (.d (cI a))) (hy : evo env y = some (.d (.ex (.int k b)))) (h : 0 ≤ b ∧ b ≤ 63) :
    OpQ P env st ⟨d, .binOp .shr t x y t2, ty, pos, after, gd⟩ (.d (cI (a / 2 ^ b.toNat))) := q_shr hx hy h.1 (by
      rw [Nat.min_eq_left (by simp [IntKind.bits]; omega), Int.fdiv_eq_ediv_of_nonneg]
      exact Int.le_of_lt (Int.pow_pos (by decide)))
section freezeCell
variable {P : Program} {f : FuncId} {N : Nat} {S : Start} {Q : EV → St → Prop} {todo : List Item} {env : Env} {st : St}
/-- An owned row that a variable in memory holds is let go. -/
theorem ARun.freezeCell {α : Type} {l : List α} {row : α → List D} (o ci : Nat) {tk e sz n : Nat} {T : TypeId} {cs : List EV} (ho : st.objs[o]? = some (.row T cs)) (hc : cs[ci]? = some (.vc tk n)) (htl : st.tails[tk]? = some ⟨e, sz, n, some (l.map row)⟩)
    (h : ARun P f N S Q todo env ((st.setTail tk ⟨e, sz, l.length, none⟩).set o (.row T (cs.set ci (.d (.sl sz (l.map row))))))) : ARun P f N S Q todo env st := by
  refine .lenV htl fun hn => ?_
  subst hn
  intro g w tmps hinv hh he hN
  obtain ⟨g', h1, h2, h3, h4⟩ := hinv.freeze htl
  have ho1 : (st.setTail tk ⟨e, sz, l.length, none⟩).objs[o]? = some (.row T cs) := ho
  obtain ⟨a1, a2, us0, a3, a4, a5⟩ := hinv.row o T cs ho
  obtain ⟨b1, b2, vs, b3, b4, b5⟩ := h2.row o T cs ho1
  have hob : g'.ob o = g.ob o := h3.sevo.ob o (List.getElem?_eq_some_iff.1 ho).1
  have hvs : us0 = vs := by rw [hob, a3] at b3; cases b3; rfl
  subst hvs
  obtain ⟨k1, k2⟩ := h2.setBlock (o := o) (x := .row T (cs.set ci (.d (.sl sz (l.map row))))) (w' := w) ⟨_, ho1, by simp⟩ b2 rfl (fun _ _ => rfl) rfl rfl rfl
    (fun hsv ty' cs' hx' => by
      cases hx'
      refine ⟨us0, b3, by simpa using b4, fun i c u hci hu => ?_⟩
      rw [List.getElem?_set] at hci
      split at hci
      · rename_i hic
        subst hic
        split at hci
        · cases hci
          have h0 := a5 ci _ u hc hu
          refine ⟨?_, h0.2⟩
          rcases vc_or hinv htl h0.1 with hv | ⟨n0, r0, A, hv⟩
          · rw [hv]; exact .d _ _ (h4.mono hsv.evo)
          · rw [r0, hv]; exact .d _ _ (.nil sz A)
        · cases hci
      · have h0 := b5 i c u hci hu
        exact ⟨h0.1.mono hsv, h0.2⟩) (fun _ es hx' => by cases hx')
  exact h g' w tmps k1 (hh.step (h3.trans k2)) ((he.mono h3.sevo).mono k2.sevo) hN
variable {ops rest : List Oper} {k : List Item}
theorem AOps.freezeCell {α : Type} {l : List α} {row : α → List D} (o ci : Nat) {tk e sz n : Nat} {T : TypeId} {cs : List EV} (ho : st.objs[o]? = some (.row T cs)) (hc : cs[ci]? = some (.vc tk n)) (htl : st.tails[tk]? = some ⟨e, sz, n, some (l.map row)⟩)
    (h : AOps P f N S Q ops rest k env ((st.setTail tk ⟨e, sz, l.length, none⟩).set o (.row T (cs.set ci (.d (.sl sz (l.map row))))))) : AOps P f N S Q ops rest k env st :=
  fun j hj => .freezeCell o ci ho hc htl (h j hj)
theorem AOps.cellLe (o ci : Nat) {T : TypeId} {cs : List EV} {x y : EV} (ho : st.objs[o]? = some (.row T cs)) (hc : cs[ci]? = some x) (hle : EVle x y)
    (h : AOps P f N S Q ops rest k env (st.set o (.row T (cs.set ci y)))) : AOps P f N S Q ops rest k env st :=
  fun j hj => .cellLe o ci ho hc hle (h j hj)
end freezeCell
/-- A call that is handed data and functions alone. -/
theorem ACall.ofE {P : Program} {f : FuncId} {ds : List D} {r : D} (h : ACallS P f (ds.map EV.d) ⟨[], []⟩ (QE (.d r) ⟨[], []⟩)) : ACall P f ds (· = r) :=
  .of (h.mono fun x s hq => ⟨r, hq.1, rfl⟩)
end Go.Abs

set_option linter.unusedVariables false
namespace Go.Proofs.YtccmaffefdcikaaDoor
open Go.RowKit Go.Abs
theorem hMix : Tryd.prog.follows .mixedOrders = true := by kernel_rfl
theorem inf_3 : (Tryd.prog.info? 3).map (fun i => (i.zero, i.size, i.bytes)) = some (some (.int .i64 0), 1, 8) := by kernel_rfl
theorem sz_3 : (Tryd.prog.info? 3).map (·.size) = some 1 := by kernel_rfl
theorem in_3 : ∃ i, Tryd.prog.info? 3 = some i ∧ i.zero = some (.int .i64 0) ∧ i.size = 1 ∧ i.bytes = 8 := info_parts inf_3
theorem inf_5 : (Tryd.prog.info? 5).map (fun i => (i.zero, i.size, i.bytes)) = some (some (.int .u8 0), 1, 1) := by kernel_rfl
theorem sz_5 : (Tryd.prog.info? 5).map (·.size) = some 1 := by kernel_rfl
theorem in_5 : ∃ i, Tryd.prog.info? 5 = some i ∧ i.zero = some (.int .u8 0) ∧ i.size = 1 ∧ i.bytes = 1 := info_parts inf_5
theorem inf_9 : (Tryd.prog.info? 9).map (fun i => (i.zero, i.size, i.bytes)) = some (some (.string ⟨#[]⟩), 1, 16) := by kernel_rfl
theorem sz_9 : (Tryd.prog.info? 9).map (·.size) = some 1 := by kernel_rfl
theorem in_9 : ∃ i, Tryd.prog.info? 9 = some i ∧ i.zero = some (.string ⟨#[]⟩) ∧ i.size = 1 ∧ i.bytes = 16 := info_parts inf_9
theorem inf_22 : (Tryd.prog.info? 22).map (fun i => (i.zero, i.size, i.bytes)) = some (some (.slice none 0 0), 1, 24) := by kernel_rfl
theorem sz_22 : (Tryd.prog.info? 22).map (·.size) = some 1 := by kernel_rfl
theorem in_22 : ∃ i, Tryd.prog.info? 22 = some i ∧ i.zero = some (.slice none 0 0) ∧ i.size = 1 ∧ i.bytes = 24 := info_parts inf_22
theorem inf_27 : (Tryd.prog.info? 27).map (fun i => (i.zero, i.size, i.bytes)) = some (some (.agg #[.int .i64 0, .int .i64 0, .int .i64 0, .int .i64 0, .int .i64 0, .int .i64 0]), 6, 48) := by kernel_rfl
theorem sz_27 : (Tryd.prog.info? 27).map (·.size) = some 6 := by kernel_rfl
theorem in_27 : ∃ i, Tryd.prog.info? 27 = some i ∧ i.zero = some (.agg #[.int .i64 0, .int .i64 0, .int .i64 0, .int .i64 0, .int .i64 0, .int .i64 0]) ∧ i.size = 6 ∧ i.bytes = 48 := info_parts inf_27
theorem inf_31 : (Tryd.prog.info? 31).map (fun i => (i.zero, i.size, i.bytes)) = some (some (.agg #[.int .i64 0, .int .i64 0, .int .i64 0, .slice none 0 0]), 4, 48) := by kernel_rfl
theorem sz_31 : (Tryd.prog.info? 31).map (·.size) = some 4 := by kernel_rfl
theorem in_31 : ∃ i, Tryd.prog.info? 31 = some i ∧ i.zero = some (.agg #[.int .i64 0, .int .i64 0, .int .i64 0, .slice none 0 0]) ∧ i.size = 4 ∧ i.bytes = 48 := info_parts inf_31
theorem inf_32 : (Tryd.prog.info? 32).map (fun i => (i.zero, i.size, i.bytes)) = some (some (.slice none 0 0), 1, 24) := by kernel_rfl
theorem sz_32 : (Tryd.prog.info? 32).map (·.size) = some 1 := by kernel_rfl
theorem in_32 : ∃ i, Tryd.prog.info? 32 = some i ∧ i.zero = some (.slice none 0 0) ∧ i.size = 1 ∧ i.bytes = 24 := info_parts inf_32
theorem inf_39 : (Tryd.prog.info? 39).map (fun i => (i.zero, i.size, i.bytes)) = some (some (.agg #[.int .i64 0, .int .i64 0, .int .i64 0, .string ⟨#[]⟩, .string ⟨#[]⟩, .int .i64 0, .int .i64 0, .int .i64 0, .int .i64 0, .bool false, .int .i64 0, .bool false]), 12, 112) := by kernel_rfl
theorem sz_39 : (Tryd.prog.info? 39).map (·.size) = some 12 := by kernel_rfl
theorem in_39 : ∃ i, Tryd.prog.info? 39 = some i ∧ i.zero = some (.agg #[.int .i64 0, .int .i64 0, .int .i64 0, .string ⟨#[]⟩, .string ⟨#[]⟩, .int .i64 0, .int .i64 0, .int .i64 0, .int .i64 0, .bool false, .int .i64 0, .bool false]) ∧ i.size = 12 ∧ i.bytes = 112 := info_parts inf_39
theorem inf_42 : (Tryd.prog.info? 42).map (fun i => (i.zero, i.size, i.bytes)) = some (some (.agg #[.int .i64 0, .int .i64 0, .int .i64 0, .int .i64 0]), 4, 32) := by kernel_rfl
theorem sz_42 : (Tryd.prog.info? 42).map (·.size) = some 4 := by kernel_rfl
theorem in_42 : ∃ i, Tryd.prog.info? 42 = some i ∧ i.zero = some (.agg #[.int .i64 0, .int .i64 0, .int .i64 0, .int .i64 0]) ∧ i.size = 4 ∧ i.bytes = 32 := info_parts inf_42
theorem inf_75 : (Tryd.prog.info? 75).map (fun i => (i.zero, i.size, i.bytes)) = some (some (.pointer none), 1, 8) := by kernel_rfl
theorem sz_75 : (Tryd.prog.info? 75).map (·.size) = some 1 := by kernel_rfl
theorem in_75 : ∃ i, Tryd.prog.info? 75 = some i ∧ i.zero = some (.pointer none) ∧ i.size = 1 ∧ i.bytes = 8 := info_parts inf_75
theorem inf_92 : (Tryd.prog.info? 92).map (fun i => (i.zero, i.size, i.bytes)) = some (some (.agg #[.int .i64 0, .slice none 0 0]), 2, 32) := by kernel_rfl
theorem sz_92 : (Tryd.prog.info? 92).map (·.size) = some 2 := by kernel_rfl
theorem in_92 : ∃ i, Tryd.prog.info? 92 = some i ∧ i.zero = some (.agg #[.int .i64 0, .slice none 0 0]) ∧ i.size = 2 ∧ i.bytes = 32 := info_parts inf_92
theorem fo_27_0 : fieldOff Tryd.prog 27 0 = some 0 := by kernel_rfl
theorem fo_27_1 : fieldOff Tryd.prog 27 1 = some 1 := by kernel_rfl
theorem fo_31_0 : fieldOff Tryd.prog 31 0 = some 0 := by kernel_rfl
theorem fo_31_1 : fieldOff Tryd.prog 31 1 = some 1 := by kernel_rfl
theorem fo_31_2 : fieldOff Tryd.prog 31 2 = some 2 := by kernel_rfl
theorem fo_31_3 : fieldOff Tryd.prog 31 3 = some 3 := by kernel_rfl
theorem fo_39_0 : fieldOff Tryd.prog 39 0 = some 0 := by kernel_rfl
theorem fo_39_1 : fieldOff Tryd.prog 39 1 = some 1 := by kernel_rfl
theorem fo_39_2 : fieldOff Tryd.prog 39 2 = some 2 := by kernel_rfl
theorem fo_39_3 : fieldOff Tryd.prog 39 3 = some 3 := by kernel_rfl
theorem fo_39_4 : fieldOff Tryd.prog 39 4 = some 4 := by kernel_rfl
theorem fo_39_5 : fieldOff Tryd.prog 39 5 = some 5 := by kernel_rfl
theorem fo_39_6 : fieldOff Tryd.prog 39 6 = some 6 := by kernel_rfl
theorem fo_39_7 : fieldOff Tryd.prog 39 7 = some 7 := by kernel_rfl
theorem fo_39_8 : fieldOff Tryd.prog 39 8 = some 8 := by kernel_rfl
theorem fo_39_9 : fieldOff Tryd.prog 39 9 = some 9 := by kernel_rfl
theorem fo_39_10 : fieldOff Tryd.prog 39 10 = some 10 := by kernel_rfl
theorem fo_39_11 : fieldOff Tryd.prog 39 11 = some 11 := by kernel_rfl
theorem fo_42_0 : fieldOff Tryd.prog 42 0 = some 0 := by kernel_rfl
theorem fo_42_1 : fieldOff Tryd.prog 42 1 = some 1 := by kernel_rfl
theorem fo_42_2 : fieldOff Tryd.prog 42 2 = some 2 := by kernel_rfl
theorem fo_42_3 : fieldOff Tryd.prog 42 3 = some 3 := by kernel_rfl
theorem fo_92_0 : fieldOff Tryd.prog 92 0 = some 0 := by kernel_rfl
theorem fo_92_1 : fieldOff Tryd.prog 92 1 = some 1 := by kernel_rfl
theorem one_3 : (Tryd.prog.underlying 3).map oneB = some true := by kernel_rfl
theorem one_4 : (Tryd.prog.underlying 4).map oneB = some true := by kernel_rfl
theorem one_5 : (Tryd.prog.underlying 5).map oneB = some true := by kernel_rfl
theorem one_9 : (Tryd.prog.underlying 9).map oneB = some true := by kernel_rfl
theorem one_22 : (Tryd.prog.underlying 22).map oneB = some true := by kernel_rfl
theorem one_27 : (Tryd.prog.underlying 27).map oneB = some false := by kernel_rfl
theorem one_31 : (Tryd.prog.underlying 31).map oneB = some false := by kernel_rfl
theorem one_32 : (Tryd.prog.underlying 32).map oneB = some true := by kernel_rfl
theorem one_39 : (Tryd.prog.underlying 39).map oneB = some false := by kernel_rfl
theorem one_42 : (Tryd.prog.underlying 42).map oneB = some false := by kernel_rfl
theorem one_75 : (Tryd.prog.underlying 75).map oneB = some true := by kernel_rfl
theorem one_92 : (Tryd.prog.underlying 92).map oneB = some false := by kernel_rfl
theorem pl_27 : placesOf Tryd.prog 27 = some [(0, 1), (1, 5)] := by kernel_rfl
theorem pl_31 : placesOf Tryd.prog 31 = some [(0, 1), (1, 1), (2, 1), (3, 1)] := by kernel_rfl
theorem pl_39 : placesOf Tryd.prog 39 = some [(0, 1), (1, 1), (2, 1), (3, 1), (4, 1), (5, 1), (6, 1), (7, 1), (8, 1), (9, 1), (10, 1), (11, 1)] := by kernel_rfl
theorem pl_42 : placesOf Tryd.prog 42 = some [(0, 1), (1, 1), (2, 1), (3, 1)] := by kernel_rfl
theorem pl_92 : placesOf Tryd.prog 92 = some [(0, 1), (1, 1)] := by kernel_rfl
theorem zr_27 : (Tryd.prog.info? 27).bind (·.zero) = some (.agg #[.int .i64 0, .int .i64 0, .int .i64 0, .int .i64 0, .int .i64 0, .int .i64 0]) := by kernel_rfl
theorem zr_32 : (Tryd.prog.info? 32).bind (·.zero) = some (.slice none 0 0) := by kernel_rfl
theorem zr_39 : (Tryd.prog.info? 39).bind (·.zero) = some (.agg #[.int .i64 0, .int .i64 0, .int .i64 0, .string ⟨#[]⟩, .string ⟨#[]⟩, .int .i64 0, .int .i64 0, .int .i64 0, .int .i64 0, .bool false, .int .i64 0, .bool false]) := by kernel_rfl
theorem zr_42 : (Tryd.prog.info? 42).bind (·.zero) = some (.agg #[.int .i64 0, .int .i64 0, .int .i64 0, .int .i64 0]) := by kernel_rfl
theorem zr_92 : (Tryd.prog.info? 92).bind (·.zero) = some (.agg #[.int .i64 0, .slice none 0 0]) := by kernel_rfl
theorem zr_112 : (Tryd.prog.info? 112).bind (·.zero) = some (.agg #[.int .u8 0, .int .u8 0, .int .u8 0, .int .u8 0, .int .u8 0, .int .u8 0, .int .u8 0, .int .u8 0]) := by kernel_rfl
theorem fk_42 : flatKinds Tryd.prog 42 = some [.i .i64, .i .i64, .i .i64, .i .i64] := by kernel_rfl
theorem fg_27 : flatG Tryd.prog 27 = some [.i .i64, .i .i64, .i .i64, .i .i64, .i .i64, .i .i64] := by kernel_rfl
theorem en_6 : Go.Abs.Enters Tryd.prog 6 := ⟨_, Tryd.func6, by kernel_rfl, rfl⟩
theorem en_7 : Go.Abs.Enters Tryd.prog 7 := ⟨_, Tryd.func7, by kernel_rfl, rfl⟩
theorem en_8 : Go.Abs.Enters Tryd.prog 8 := ⟨_, Tryd.func8, by kernel_rfl, rfl⟩
theorem en_9 : Go.Abs.Enters Tryd.prog 9 := ⟨_, Tryd.func9, by kernel_rfl, rfl⟩
theorem en_10 : Go.Abs.Enters Tryd.prog 10 := ⟨_, Tryd.func10, by kernel_rfl, rfl⟩
theorem en_11 : Go.Abs.Enters Tryd.prog 11 := ⟨_, Tryd.func11, by kernel_rfl, rfl⟩
theorem en_12 : Go.Abs.Enters Tryd.prog 12 := ⟨_, Tryd.func12, by kernel_rfl, rfl⟩
theorem en_13 : Go.Abs.Enters Tryd.prog 13 := ⟨_, Tryd.func13, by kernel_rfl, rfl⟩
theorem en_14 : Go.Abs.Enters Tryd.prog 14 := ⟨_, Tryd.func14, by kernel_rfl, rfl⟩
theorem en_15 : Go.Abs.Enters Tryd.prog 15 := ⟨_, Tryd.func15, by kernel_rfl, rfl⟩
theorem en_16 : Go.Abs.Enters Tryd.prog 16 := ⟨_, Tryd.func16, by kernel_rfl, rfl⟩
theorem en_17 : Go.Abs.Enters Tryd.prog 17 := ⟨_, Tryd.func17, by kernel_rfl, rfl⟩
theorem en_18 : Go.Abs.Enters Tryd.prog 18 := ⟨_, Tryd.func18, by kernel_rfl, rfl⟩
theorem en_19 : Go.Abs.Enters Tryd.prog 19 := ⟨_, Tryd.func19, by kernel_rfl, rfl⟩
theorem en_20 : Go.Abs.Enters Tryd.prog 20 := ⟨_, Tryd.func20, by kernel_rfl, rfl⟩
theorem en_21 : Go.Abs.Enters Tryd.prog 21 := ⟨_, Tryd.func21, by kernel_rfl, rfl⟩
theorem en_22 : Go.Abs.Enters Tryd.prog 22 := ⟨_, Tryd.func22, by kernel_rfl, rfl⟩
theorem en_23 : Go.Abs.Enters Tryd.prog 23 := ⟨_, Tryd.func23, by kernel_rfl, rfl⟩
theorem en_24 : Go.Abs.Enters Tryd.prog 24 := ⟨_, Tryd.func24, by kernel_rfl, rfl⟩
theorem en_25 : Go.Abs.Enters Tryd.prog 25 := ⟨_, Tryd.func25, by kernel_rfl, rfl⟩
theorem en_26 : Go.Abs.Enters Tryd.prog 26 := ⟨_, Tryd.func26, by kernel_rfl, rfl⟩
theorem en_27 : Go.Abs.Enters Tryd.prog 27 := ⟨_, Tryd.func27, by kernel_rfl, rfl⟩
theorem en_28 : Go.Abs.Enters Tryd.prog 28 := ⟨_, Tryd.func28, by kernel_rfl, rfl⟩
theorem en_29 : Go.Abs.Enters Tryd.prog 29 := ⟨_, Tryd.func29, by kernel_rfl, rfl⟩
theorem en_30 : Go.Abs.Enters Tryd.prog 30 := ⟨_, Tryd.func30, by kernel_rfl, rfl⟩
theorem en_31 : Go.Abs.Enters Tryd.prog 31 := ⟨_, Tryd.func31, by kernel_rfl, rfl⟩
theorem en_32 : Go.Abs.Enters Tryd.prog 32 := ⟨_, Tryd.func32, by kernel_rfl, rfl⟩
theorem en_33 : Go.Abs.Enters Tryd.prog 33 := ⟨_, Tryd.func33, by kernel_rfl, rfl⟩
theorem en_34 : Go.Abs.Enters Tryd.prog 34 := ⟨_, Tryd.func34, by kernel_rfl, rfl⟩
theorem en_35 : Go.Abs.Enters Tryd.prog 35 := ⟨_, Tryd.func35, by kernel_rfl, rfl⟩
theorem en_36 : Go.Abs.Enters Tryd.prog 36 := ⟨_, Tryd.func36, by kernel_rfl, rfl⟩
theorem en_37 : Go.Abs.Enters Tryd.prog 37 := ⟨_, Tryd.func37, by kernel_rfl, rfl⟩
theorem en_38 : Go.Abs.Enters Tryd.prog 38 := ⟨_, Tryd.func38, by kernel_rfl, rfl⟩
theorem en_39 : Go.Abs.Enters Tryd.prog 39 := ⟨_, Tryd.func39, by kernel_rfl, rfl⟩
theorem en_40 : Go.Abs.Enters Tryd.prog 40 := ⟨_, Tryd.func40, by kernel_rfl, rfl⟩
theorem en_41 : Go.Abs.Enters Tryd.prog 41 := ⟨_, Tryd.func41, by kernel_rfl, rfl⟩
theorem en_42 : Go.Abs.Enters Tryd.prog 42 := ⟨_, Tryd.func42, by kernel_rfl, rfl⟩
theorem en_43 : Go.Abs.Enters Tryd.prog 43 := ⟨_, Tryd.func43, by kernel_rfl, rfl⟩
theorem en_44 : Go.Abs.Enters Tryd.prog 44 := ⟨_, Tryd.func44, by kernel_rfl, rfl⟩
theorem en_45 : Go.Abs.Enters Tryd.prog 45 := ⟨_, Tryd.func45, by kernel_rfl, rfl⟩
theorem en_46 : Go.Abs.Enters Tryd.prog 46 := ⟨_, Tryd.func46, by kernel_rfl, rfl⟩
theorem en_47 : Go.Abs.Enters Tryd.prog 47 := ⟨_, Tryd.func47, by kernel_rfl, rfl⟩
theorem en_48 : Go.Abs.Enters Tryd.prog 48 := ⟨_, Tryd.func48, by kernel_rfl, rfl⟩
theorem en_49 : Go.Abs.Enters Tryd.prog 49 := ⟨_, Tryd.func49, by kernel_rfl, rfl⟩
theorem en_50 : Go.Abs.Enters Tryd.prog 50 := ⟨_, Tryd.func50, by kernel_rfl, rfl⟩
theorem en_51 : Go.Abs.Enters Tryd.prog 51 := ⟨_, Tryd.func51, by kernel_rfl, rfl⟩
theorem en_52 : Go.Abs.Enters Tryd.prog 52 := ⟨_, Tryd.func52, by kernel_rfl, rfl⟩
theorem en_53 : Go.Abs.Enters Tryd.prog 53 := ⟨_, Tryd.func53, by kernel_rfl, rfl⟩
theorem en_54 : Go.Abs.Enters Tryd.prog 54 := ⟨_, Tryd.func54, by kernel_rfl, rfl⟩
theorem en_55 : Go.Abs.Enters Tryd.prog 55 := ⟨_, Tryd.func55, by kernel_rfl, rfl⟩
theorem en_56 : Go.Abs.Enters Tryd.prog 56 := ⟨_, Tryd.func56, by kernel_rfl, rfl⟩
theorem en_57 : Go.Abs.Enters Tryd.prog 57 := ⟨_, Tryd.func57, by kernel_rfl, rfl⟩
theorem en_58 : Go.Abs.Enters Tryd.prog 58 := ⟨_, Tryd.func58, by kernel_rfl, rfl⟩
theorem en_59 : Go.Abs.Enters Tryd.prog 59 := ⟨_, Tryd.func59, by kernel_rfl, rfl⟩
theorem en_60 : Go.Abs.Enters Tryd.prog 60 := ⟨_, Tryd.func60, by kernel_rfl, rfl⟩
theorem en_61 : Go.Abs.Enters Tryd.prog 61 := ⟨_, Tryd.func61, by kernel_rfl, rfl⟩
theorem en_62 : Go.Abs.Enters Tryd.prog 62 := ⟨_, Tryd.func62, by kernel_rfl, rfl⟩
theorem en_63 : Go.Abs.Enters Tryd.prog 63 := ⟨_, Tryd.func63, by kernel_rfl, rfl⟩
theorem en_64 : Go.Abs.Enters Tryd.prog 64 := ⟨_, Tryd.func64, by kernel_rfl, rfl⟩
theorem en_65 : Go.Abs.Enters Tryd.prog 65 := ⟨_, Tryd.func65, by kernel_rfl, rfl⟩
theorem en_66 : Go.Abs.Enters Tryd.prog 66 := ⟨_, Tryd.func66, by kernel_rfl, rfl⟩
theorem en_67 : Go.Abs.Enters Tryd.prog 67 := ⟨_, Tryd.func67, by kernel_rfl, rfl⟩
theorem en_68 : Go.Abs.Enters Tryd.prog 68 := ⟨_, Tryd.func68, by kernel_rfl, rfl⟩
theorem en_69 : Go.Abs.Enters Tryd.prog 69 := ⟨_, Tryd.func69, by kernel_rfl, rfl⟩
theorem en_70 : Go.Abs.Enters Tryd.prog 70 := ⟨_, Tryd.func70, by kernel_rfl, rfl⟩
theorem en_71 : Go.Abs.Enters Tryd.prog 71 := ⟨_, Tryd.func71, by kernel_rfl, rfl⟩
theorem en_76 : Go.Abs.Enters Tryd.prog 76 := ⟨_, Tryd.func76, by kernel_rfl, rfl⟩
theorem en_77 : Go.Abs.Enters Tryd.prog 77 := ⟨_, Tryd.func77, by kernel_rfl, rfl⟩
theorem en_78 : Go.Abs.Enters Tryd.prog 78 := ⟨_, Tryd.func78, by kernel_rfl, rfl⟩
theorem en_79 : Go.Abs.Enters Tryd.prog 79 := ⟨_, Tryd.func79, by kernel_rfl, rfl⟩
theorem en_80 : Go.Abs.Enters Tryd.prog 80 := ⟨_, Tryd.func80, by kernel_rfl, rfl⟩
theorem en_81 : Go.Abs.Enters Tryd.prog 81 := ⟨_, Tryd.func81, by kernel_rfl, rfl⟩
theorem en_82 : Go.Abs.Enters Tryd.prog 82 := ⟨_, Tryd.func82, by kernel_rfl, rfl⟩
theorem en_86 : Go.Abs.Enters Tryd.prog 86 := ⟨_, Tryd.func86, by kernel_rfl, rfl⟩
theorem en_87 : Go.Abs.Enters Tryd.prog 87 := ⟨_, Tryd.func87, by kernel_rfl, rfl⟩
theorem en_94 : Go.Abs.Enters Tryd.prog 94 := ⟨_, Tryd.func94, by kernel_rfl, rfl⟩
end Go.Proofs.YtccmaffefdcikaaDoor

set_option linter.unusedSimpArgs false
set_option linter.unusedVariables false
namespace Go.Proofs.YtccmaffefdcikaaDoor
open Go.RowKit Go.Abs
structure Record where
  source : Int
  serial : Int
  kind : Int
  a : (List UInt8)
  b : (List UInt8)
  start : Int
  units : Int
  call : Int
  part : Int
  last : Bool
  trunk : Int
  inbound : Bool
instance : Inhabited Record := ⟨⟨default, default, default, default, default, default, default, default, default, default, default, default⟩⟩
def Record.row (x : Record) : List D := [cI x.source, cI x.serial, cI x.kind, cS x.a, cS x.b, cI x.start, cI x.units, cI x.call, cI x.part, cB x.last, cI x.trunk, cB x.inbound]
def Record.vals (x : Record) : List Value := [.int .i64 x.source, .int .i64 x.serial, .int .i64 x.kind, .string ⟨x.a.toArray⟩, .string ⟨x.b.toArray⟩, .int .i64 x.start, .int .i64 x.units, .int .i64 x.call, .int .i64 x.part, .bool x.last, .int .i64 x.trunk, .bool x.inbound]
structure Totals where
  count : Int
  units : (List Int)
instance : Inhabited Totals := ⟨⟨default, default⟩⟩
def Totals.row (x : Totals) : List D := [cI x.count, cI (nth x.units 0), cI (nth x.units 1), cI (nth x.units 2), cI (nth x.units 3), cI (nth x.units 4)]
def Totals.vals (x : Totals) : List Value := [.int .i64 x.count, .int .i64 (nth x.units 0), .int .i64 (nth x.units 1), .int .i64 (nth x.units 2), .int .i64 (nth x.units 3), .int .i64 (nth x.units 4)]
structure Head where
  source : Int
  number : Int
  format : Int
  count : Int
instance : Inhabited Head := ⟨⟨default, default, default, default⟩⟩
def Head.row (x : Head) : List D := [cI x.source, cI x.number, cI x.format, cI x.count]
def Head.vals (x : Head) : List Value := [.int .i64 x.source, .int .i64 x.number, .int .i64 x.format, .int .i64 x.count]
structure Batch where
  source : Int
  number : Int
  format : Int
  records : (List Record)
instance : Inhabited Batch := ⟨⟨default, default, default, default⟩⟩
def Batch.row (x : Batch) : List D := [cI x.source, cI x.number, cI x.format, slOf 12 Record.row x.records]
structure Element where
  tag : Int
  value : (List UInt8)
instance : Inhabited Element := ⟨⟨default, default⟩⟩
def Element.row (x : Element) : List D := [cI x.tag, slOf 1 rB8 x.value]
def x_Itoa (n : Int) : Option (List UInt8) := ck (-9223372036854775808 ≤ n ∧ n ≤ 9223372036854775807) (some (Go.Lib.itoa n))
def x_Join (xs : List (List UInt8)) (sep : List UInt8) : Option (List UInt8) := ck (xs.length ≤ 1000000000 ∧ (Go.Lib.join xs sep).length ≤ 1000000000) (some (Go.Lib.join xs sep))
def f_billinglaw12_few_j1 (v0l : List Record) : Option Bool :=
  some (decide ((v0l.length : Int) ≤ 40))
def f_billinglaw12_few_l1 (v0l : List Record) (v3il1 : Int) : Option ((Int) ⊕ Bool) :=
  if ((decide (v3il1 < (v0l.length : Int))) && (decide (v3il1 < 41))) = true then (ck ((0 : Int) ≤ v3il1 ∧ v3il1 < (v0l.length : Int)) (ck ((!(decide ((((nth v0l (Int.toNat (v3il1))).a).length : Int) > 200))) = true → ((0 : Int) ≤ v3il1 ∧ v3il1 < (v0l.length : Int))) (if ((decide ((((nth v0l (Int.toNat (v3il1))).a).length : Int) > 200)) || (decide ((((nth v0l (Int.toNat (v3il1))).b).length : Int) > 200))) = true then some (.inr false) else ck ((-9223372036854775808 : Int) ≤ v3il1 + 1 ∧ v3il1 + 1 ≤ (9223372036854775807 : Int)) (some (.inl (v3il1 + 1)))))) else (f_billinglaw12_few_j1 v0l).map (fun z => .inr z)
def f_billinglaw12_few (v0l : List Record) : Option Bool :=
  loop (fun s => f_billinglaw12_few_l1 v0l s) 0
def f_batch_within (v0n : Int) (v1lo : Int) (v2hi : Int) : Option Bool :=
  some ((decide (v0n ≥ v1lo)) && (decide (v0n ≤ v2hi)))
def f_batch_Totals_l1 (v0records : List Record) (v11l1 : Int) (o1c1l1 : Int) (o1c2l1 : Int) (o1c3l1 : Int) (o1c4l1 : Int) (o1c5l1 : Int) : Option ((Int × Int × Int × Int × Int × Int) ⊕ Totals) :=
  if (decide (v11l1 < (v0records.length : Int))) = true then (ck ((0 : Int) ≤ v11l1 ∧ v11l1 < (v0records.length : Int)) ((f_batch_within ((nth v0records (Int.toNat (v11l1))).kind) 1 4).bind fun y1 => (gcall y1 (f_batch_within ((nth v0records (Int.toNat (v11l1))).units) 0 1099511627776)).bind fun y2 => if (y1 && y2) = true then (ck ((0 : Int) ≤ ((nth v0records (Int.toNat (v11l1))).kind) ∧ ((nth v0records (Int.toNat (v11l1))).kind) < (5 : Int)) (ck (Int.toNat ((nth v0records (Int.toNat (v11l1))).kind) < 5) (ck ((-9223372036854775808 : Int) ≤ (nth ([o1c1l1, o1c2l1, o1c3l1, o1c4l1, o1c5l1] : List Int) (Int.toNat ((nth v0records (Int.toNat (v11l1))).kind))) + ((nth v0records (Int.toNat (v11l1))).units) ∧ (nth ([o1c1l1, o1c2l1, o1c3l1, o1c4l1, o1c5l1] : List Int) (Int.toNat ((nth v0records (Int.toNat (v11l1))).kind))) + ((nth v0records (Int.toNat (v11l1))).units) ≤ (9223372036854775807 : Int)) (ck ((0 : Int) ≤ ((nth v0records (Int.toNat (v11l1))).kind) ∧ ((nth v0records (Int.toNat (v11l1))).kind) < (5 : Int)) (ck (Int.toNat ((nth v0records (Int.toNat (v11l1))).kind) < 5) (ck ((-9223372036854775808 : Int) ≤ v11l1 + 1 ∧ v11l1 + 1 ≤ (9223372036854775807 : Int)) (some (.inl (v11l1 + 1, nth (setN ([o1c1l1, o1c2l1, o1c3l1, o1c4l1, o1c5l1] : List Int) 5 (Int.toNat ((nth v0records (Int.toNat (v11l1))).kind)) ((nth ([o1c1l1, o1c2l1, o1c3l1, o1c4l1, o1c5l1] : List Int) (Int.toNat ((nth v0records (Int.toNat (v11l1))).kind))) + ((nth v0records (Int.toNat (v11l1))).units))) 0, nth (setN ([o1c1l1, o1c2l1, o1c3l1, o1c4l1, o1c5l1] : List Int) 5 (Int.toNat ((nth v0records (Int.toNat (v11l1))).kind)) ((nth ([o1c1l1, o1c2l1, o1c3l1, o1c4l1, o1c5l1] : List Int) (Int.toNat ((nth v0records (Int.toNat (v11l1))).kind))) + ((nth v0records (Int.toNat (v11l1))).units))) 1, nth (setN ([o1c1l1, o1c2l1, o1c3l1, o1c4l1, o1c5l1] : List Int) 5 (Int.toNat ((nth v0records (Int.toNat (v11l1))).kind)) ((nth ([o1c1l1, o1c2l1, o1c3l1, o1c4l1, o1c5l1] : List Int) (Int.toNat ((nth v0records (Int.toNat (v11l1))).kind))) + ((nth v0records (Int.toNat (v11l1))).units))) 2, nth (setN ([o1c1l1, o1c2l1, o1c3l1, o1c4l1, o1c5l1] : List Int) 5 (Int.toNat ((nth v0records (Int.toNat (v11l1))).kind)) ((nth ([o1c1l1, o1c2l1, o1c3l1, o1c4l1, o1c5l1] : List Int) (Int.toNat ((nth v0records (Int.toNat (v11l1))).kind))) + ((nth v0records (Int.toNat (v11l1))).units))) 3, nth (setN ([o1c1l1, o1c2l1, o1c3l1, o1c4l1, o1c5l1] : List Int) 5 (Int.toNat ((nth v0records (Int.toNat (v11l1))).kind)) ((nth ([o1c1l1, o1c2l1, o1c3l1, o1c4l1, o1c5l1] : List Int) (Int.toNat ((nth v0records (Int.toNat (v11l1))).kind))) + ((nth v0records (Int.toNat (v11l1))).units))) 4))))))))) else ck ((-9223372036854775808 : Int) ≤ v11l1 + 1 ∧ v11l1 + 1 ≤ (9223372036854775807 : Int)) (some (.inl (v11l1 + 1, o1c1l1, o1c2l1, o1c3l1, o1c4l1, o1c5l1))))) else some (.inr (⟨(v0records.length : Int), ([o1c1l1, o1c2l1, o1c3l1, o1c4l1, o1c5l1] : List Int)⟩ : Totals))
def f_batch_Totals (v0records : List Record) : Option Totals :=
  loop (fun s => f_batch_Totals_l1 v0records s.1 s.2.1 s.2.2.1 s.2.2.2.1 s.2.2.2.2.1 s.2.2.2.2.2) (0, 0, 0, 0, 0, 0)
def f_batch_headOf (v0b : Batch) : Option Head :=
  some (⟨v0b.source, v0b.number, v0b.format, (v0b.records.length : Int)⟩ : Head)
def f_batch_checkHead (v0h : Head) : Option Int :=
  (f_batch_within v0h.source 1 99).bind fun y1 => (gcall (!(!y1)) (f_batch_within v0h.number 1 999999999)).bind fun y2 => if ((!y1) || (!y2)) = true then some 6 else (f_batch_within v0h.format 1 3).bind fun y3 => if (!y3) = true then some 7 else (f_batch_within v0h.count 0 4096).bind fun y4 => if (!y4) = true then some 5 else some 0
def f_textual_within (v0n : Int) (v1lo : Int) (v2hi : Int) : Option Bool :=
  some ((decide (v0n ≥ v1lo)) && (decide (v0n ≤ v2hi)))
def f_digits_digit (v0c : UInt8) : Option Bool :=
  some ((decide (v0c ≥ 48)) && (decide (v0c ≤ 57)))
def f_digits_Valid_j1 (v0s : List UInt8) : Option Bool :=
  some ((decide ((v0s.length : Int) ≥ 1)) && (decide ((v0s.length : Int) ≤ 15)))
def f_digits_Valid_l1 (v0s : List UInt8) (v6l1 : Int) : Option ((Int) ⊕ Bool) :=
  if (decide (v6l1 < (v0s.length : Int))) = true then (ck ((0 : Int) ≤ v6l1 ∧ v6l1 < (v0s.length : Int)) ((f_digits_digit (nth v0s (Int.toNat (v6l1)))).bind fun y1 => if (!y1) = true then some (.inr false) else ck ((-9223372036854775808 : Int) ≤ v6l1 + 1 ∧ v6l1 + 1 ≤ (9223372036854775807 : Int)) (some (.inl (v6l1 + 1))))) else (f_digits_Valid_j1 v0s).map (fun z => .inr z)
def f_digits_Valid (v0s : List UInt8) : Option Bool :=
  loop (fun s => f_digits_Valid_l1 v0s s) 0
def f_textual_check_j1 (v0 : Record) (v4j1 : Int) : Option Int :=
  (f_textual_within v0.source 1 99).bind fun y1 => (gcall (!(!y1)) (f_textual_within v0.serial 1 999999999)).bind fun y2 => if ((!y1) || (!y2)) = true then some 6 else (f_textual_within v0.kind 1 4).bind fun y3 => if (!y3) = true then some 7 else (f_digits_Valid v0.a).bind fun y4 => (gcall (!(!y4)) (f_digits_Valid v0.b)).bind fun y5 => if ((!y4) || ((!y5) && (!(((v0.kind == 3) || (v0.kind == 4)) && (v0.b == ([] : List UInt8)))))) = true then some 12 else (f_textual_within v0.start 0 12622780799).bind fun y6 => if (!y6) = true then some 15 else (f_textual_within v0.units 0 v4j1).bind fun y7 => if (!y7) = true then some 6 else ck ((v0.kind == 1) = true → ((-9223372036854775808 : Int) ≤ v0.start + v0.units ∧ v0.start + v0.units ≤ (9223372036854775807 : Int))) (if ((v0.kind == 1) && (decide ((v0.start + v0.units) > 12622780800))) = true then some 15 else (f_textual_within v0.call 0 999999999).bind fun y8 => (gcall (!(!y8)) (f_textual_within v0.part 0 99)).bind fun y9 => if ((!y8) || (!y9)) = true then some 6 else if (((v0.part == 0) != (v0.call == 0)) || (v0.last && (v0.part == 0))) = true then some 8 else (f_textual_within v0.trunk 0 999).bind fun y10 => if (!y10) = true then some 6 else if (v0.inbound && (v0.trunk == 0)) = true then some 8 else some 0)
def f_textual_check (v0 : Record) : Option Int :=
  if (v0.kind == 1) = true then (f_textual_check_j1 v0 604800) else f_textual_check_j1 v0 1099511627776
def f_textual_Encode_j3 (v7j3 : List (List UInt8)) : Option ((List UInt8) × Int) :=
  (x_Join v7j3 ([32] : List UInt8)).bind fun y6 => some (y6, 0)
def f_textual_Encode_j4 (v0 : Record) (v7j2 : List (List UInt8)) (v8j4 : List UInt8) : Option ((List UInt8) × Int) :=
  (x_Itoa v0.trunk).bind fun y7 => ck (v7j2.length + ([v8j4, y7] : List (List UInt8)).length ≤ 1000000000) (f_textual_Encode_j3 (v7j2 ++ ([v8j4, y7] : List (List UInt8))))
def f_textual_Encode_j2 (v0 : Record) (v7j2 : List (List UInt8)) : Option ((List UInt8) × Int) :=
  if (v0.trunk != 0) = true then (if v0.inbound = true then (f_textual_Encode_j4 v0 v7j2 ([105, 110] : List UInt8)) else f_textual_Encode_j4 v0 v7j2 ([111, 117, 116] : List UInt8)) else f_textual_Encode_j3 v7j2
def f_textual_Encode_j1 (v0 : Record) (v6j1 : List UInt8) : Option ((List UInt8) × Int) :=
  ck ((-9223372036854775808 : Int) ≤ v0.kind - 1 ∧ v0.kind - 1 ≤ (9223372036854775807 : Int)) (ck ((0 : Int) ≤ v0.kind - 1 ∧ v0.kind - 1 ≤ v0.kind ∧ v0.kind ≤ (([118, 116, 100, 99] : List UInt8).length : Int)) ((x_Itoa v0.source).bind fun y2 => (x_Itoa v0.serial).bind fun y3 => (x_Itoa v0.start).bind fun y4 => (x_Itoa v0.units).bind fun y5 => if (v0.part != 0) = true then ((x_Itoa v0.call).bind fun y8 => (x_Itoa v0.part).bind fun y9 => ck (([(([118, 116, 100, 99] : List UInt8).take (Int.toNat (v0.kind))).drop (Int.toNat (v0.kind - 1)), y2, y3, v0.a, v6j1, y4, y5] : List (List UInt8)).length + ([([112, 97, 114, 116] : List UInt8), y8, y9] : List (List UInt8)).length ≤ 1000000000) (if v0.last = true then (ck ((([(([118, 116, 100, 99] : List UInt8).take (Int.toNat (v0.kind))).drop (Int.toNat (v0.kind - 1)), y2, y3, v0.a, v6j1, y4, y5] : List (List UInt8)) ++ ([([112, 97, 114, 116] : List UInt8), y8, y9] : List (List UInt8))).length + ([([108, 97, 115, 116] : List UInt8)] : List (List UInt8)).length ≤ 1000000000) (f_textual_Encode_j2 v0 ((([(([118, 116, 100, 99] : List UInt8).take (Int.toNat (v0.kind))).drop (Int.toNat (v0.kind - 1)), y2, y3, v0.a, v6j1, y4, y5] : List (List UInt8)) ++ ([([112, 97, 114, 116] : List UInt8), y8, y9] : List (List UInt8))) ++ ([([108, 97, 115, 116] : List UInt8)] : List (List UInt8))))) else f_textual_Encode_j2 v0 (([(([118, 116, 100, 99] : List UInt8).take (Int.toNat (v0.kind))).drop (Int.toNat (v0.kind - 1)), y2, y3, v0.a, v6j1, y4, y5] : List (List UInt8)) ++ ([([112, 97, 114, 116] : List UInt8), y8, y9] : List (List UInt8))))) else f_textual_Encode_j2 v0 ([(([118, 116, 100, 99] : List UInt8).take (Int.toNat (v0.kind))).drop (Int.toNat (v0.kind - 1)), y2, y3, v0.a, v6j1, y4, y5] : List (List UInt8))))
def f_textual_Encode (v0 : Record) : Option ((List UInt8) × Int) :=
  (f_textual_check v0).bind fun y1 => if (y1 != 0) = true then some (([] : List UInt8), y1) else if (v0.b == ([] : List UInt8)) = true then (f_textual_Encode_j1 v0 ([45] : List UInt8)) else f_textual_Encode_j1 v0 v0.b
def f_batch_Check_l1 (v0b : Batch) (v17l1 : Int) : Option ((Int) ⊕ Int) :=
  if (decide (v17l1 < (v0b.records.length : Int))) = true then (ck ((0 : Int) ≤ v17l1 ∧ v17l1 < (v0b.records.length : Int)) ((f_textual_Encode (nth v0b.records (Int.toNat (v17l1)))).bind fun y3 => if (y3.2 != 0) = true then some (.inr y3.2) else if (((nth v0b.records (Int.toNat (v17l1))).source) != v0b.source) = true then some (.inr 8) else ck ((-9223372036854775808 : Int) ≤ v17l1 + 1 ∧ v17l1 + 1 ≤ (9223372036854775807 : Int)) (some (.inl (v17l1 + 1))))) else some (.inr 0)
def f_batch_Check (v0b : Batch) : Option Int :=
  (f_batch_headOf v0b).bind fun y1 => (f_batch_checkHead y1).bind fun y2 => if (y2 != 0) = true then some y2 else loop (fun s => f_batch_Check_l1 v0b s) 0
def f_codec_grown (v0b : List UInt8) (v1n : Int) : Option (List UInt8) :=
  ck ((-9223372036854775808 : Int) ≤ (v0b.length : Int) + v1n ∧ (v0b.length : Int) + v1n ≤ (9223372036854775807 : Int)) (ck ((0 : Int) ≤ (v0b.length : Int) ∧ (v0b.length : Int) ≤ ((v0b.length : Int) + v1n) ∧ ((v0b.length : Int) + v1n) ≤ (1000000000 : Int)) (some (v0b.take (min v0b.length (List.replicate (Int.toNat ((v0b.length : Int))) 0 : List UInt8).length) ++ (List.replicate (Int.toNat ((v0b.length : Int))) 0 : List UInt8).drop (min v0b.length (List.replicate (Int.toNat ((v0b.length : Int))) 0 : List UInt8).length))))
def f_codec_zigzag (v0n : Int) : Option Int :=
  ck ((0 : Int) ≤ 1) (some (bXor .u64 (IntKind.wrap .u64 ((IntKind.wrap .u64 v0n) * 2 ^ (min (Int.toNat (1)) 64))) (IntKind.wrap .u64 (v0n / 2 ^ (Int.toNat (63))))))
def g_codec_add_j1 (v0bj1 : List UInt8) (v5uj1 : Int) : Option (List UInt8) :=
  ck (v0bj1.length + ([UInt8.ofInt v5uj1] : List UInt8).length ≤ 1000000000) (some (v0bj1 ++ ([UInt8.ofInt v5uj1] : List UInt8)))
def g_codec_add_l1 (v0bl1 : List UInt8) (v5ul1 : Int) : Option ((List UInt8 × Int) ⊕ (List UInt8)) :=
  if (decide (v5ul1 ≥ 128)) = true then (ck (v0bl1.length + ([(UInt8.ofInt v5ul1) ||| 128] : List UInt8).length ≤ 1000000000) (ck ((0 : Int) ≤ 7) (some (.inl (v0bl1 ++ ([(UInt8.ofInt v5ul1) ||| 128] : List UInt8), Int.fdiv v5ul1 (2 ^ (min (Int.toNat (7)) 64))))))) else (g_codec_add_j1 v0bl1 v5ul1).map (fun z => .inr z)
def g_codec_add (v1n : Int) (y0t0p : List UInt8) : Option (List UInt8) :=
  (f_codec_zigzag v1n).bind fun y1 => loop (fun s => g_codec_add_l1 s.1 s.2) (y0t0p, y1)
def f_codec_PutNumber (v0b : List UInt8) (v1n : Int) : Option (List UInt8) :=
  (f_codec_grown v0b 10).bind fun y1 => (g_codec_add v1n y1).bind fun y2 => some y2
def f_batch_number (v0n : Int) : Option ((List UInt8) × Int) :=
  (f_codec_PutNumber ([] : List UInt8) v0n).bind fun y1 => some (y1, 0)
def f_digits_Pack_j1 (v0s : List UInt8) (v4bl1 : List UInt8) (v5il1 : Int) (v6lowj1 : UInt8) : Option ((List UInt8 × Int) ⊕ ((List UInt8) × Int)) :=
  ck ((0 : Int) ≤ v5il1 ∧ v5il1 < (v0s.length : Int)) (ck ((0 : Int) ≤ 4) (ck (v4bl1.length + ([(u8shl ((nth v0s (Int.toNat (v5il1))) - 48) 4) ||| v6lowj1] : List UInt8).length ≤ 1000000000) (ck ((-9223372036854775808 : Int) ≤ v5il1 + 2 ∧ v5il1 + 2 ≤ (9223372036854775807 : Int)) (some (.inl (v4bl1 ++ ([(u8shl ((nth v0s (Int.toNat (v5il1))) - 48) 4) ||| v6lowj1] : List UInt8), v5il1 + 2))))))
def f_digits_Pack_l1 (v0s : List UInt8) (v4bl1 : List UInt8) (v5il1 : Int) : Option ((List UInt8 × Int) ⊕ ((List UInt8) × Int)) :=
  if (decide (v5il1 < (v0s.length : Int))) = true then (ck ((-9223372036854775808 : Int) ≤ v5il1 + 1 ∧ v5il1 + 1 ≤ (9223372036854775807 : Int)) (if (decide ((v5il1 + 1) < (v0s.length : Int))) = true then (ck ((-9223372036854775808 : Int) ≤ v5il1 + 1 ∧ v5il1 + 1 ≤ (9223372036854775807 : Int)) (ck ((0 : Int) ≤ (v5il1 + 1) ∧ (v5il1 + 1) < (v0s.length : Int)) (f_digits_Pack_j1 v0s v4bl1 v5il1 ((nth v0s (Int.toNat (v5il1 + 1))) - 48)))) else f_digits_Pack_j1 v0s v4bl1 v5il1 15)) else some (.inr (v4bl1, 0))
def f_digits_Pack (v0s : List UInt8) : Option ((List UInt8) × Int) :=
  (f_digits_Valid v0s).bind fun y1 => if (!y1) = true then some (([] : List UInt8), 12) else loop (fun s => f_digits_Pack_l1 v0s s.1 s.2) (([] : List UInt8), 0)
def f_tagged_bytes_l1 (v0nl1 : Int) (v3outl1 : List UInt8) : Option ((Int × List UInt8) ⊕ (List UInt8)) :=
  if (decide (v0nl1 > 0)) = true then (ck (([UInt8.ofInt v0nl1] : List UInt8).length + v3outl1.length ≤ 1000000000) (ck ((0 : Int) ≤ 8 ∧ 8 < (63 : Int)) (some (.inl (v0nl1 / 2 ^ (Int.toNat (8)), ([UInt8.ofInt v0nl1] : List UInt8) ++ v3outl1))))) else some (.inr v3outl1)
def f_tagged_bytes (v0n : Int) : Option (List UInt8) :=
  loop (fun s => f_tagged_bytes_l1 s.1 s.2) (v0n, [])
def f_tagged_flag (v0holds : Bool) (v1n : Int) : Option Int :=
  if v0holds = true then some v1n else some 0
def g_tagged_put (v1tag : Int) (v2value : List UInt8) (y0t0p : List UInt8) : Option (List UInt8) :=
  ck (y0t0p.length + ([UInt8.ofInt v1tag, UInt8.ofInt (v2value.length : Int)] : List UInt8).length ≤ 1000000000) (ck ((y0t0p ++ ([UInt8.ofInt v1tag, UInt8.ofInt (v2value.length : Int)] : List UInt8)).length + v2value.length ≤ 1000000000) (some ((y0t0p ++ ([UInt8.ofInt v1tag, UInt8.ofInt (v2value.length : Int)] : List UInt8)) ++ v2value)))
def g_tagged_Encode_1 (v0tag : Int) (v1value : List UInt8) (y0t0p : List UInt8) : Option (List UInt8) :=
  if (decide ((v1value.length : Int) > 0)) = true then ((g_tagged_put v0tag v1value y0t0p).bind fun y1 => some y1) else some y0t0p
def f_tagged_Encode (v0 : Record) : Option ((List UInt8) × Int) :=
  (f_textual_Encode v0).bind fun y1 => if (y1.2 != 0) = true then some (([] : List UInt8), y1.2) else (f_digits_Pack v0.a).bind fun y2 => (f_digits_Pack v0.b).bind fun y3 => ck ((0 : Int) ≤ 2 ∧ (2 : Int) ≤ 2 ∧ 2 ≤ (1000000000 : Int)) ((f_tagged_bytes v0.kind).bind fun y4 => (g_tagged_Encode_1 1 y4 (List.replicate (Int.toNat (2)) 0 : List UInt8)).bind fun y5 => (f_tagged_bytes v0.source).bind fun y6 => (g_tagged_Encode_1 2 y6 y5).bind fun y7 => (f_tagged_bytes v0.serial).bind fun y8 => (g_tagged_Encode_1 3 y8 y7).bind fun y9 => (g_tagged_Encode_1 4 y2.1 y9).bind fun y10 => (g_tagged_Encode_1 5 y3.1 y10).bind fun y11 => (f_tagged_bytes v0.start).bind fun y12 => (g_tagged_Encode_1 6 y12 y11).bind fun y13 => (f_tagged_bytes v0.units).bind fun y14 => (g_tagged_Encode_1 7 y14 y13).bind fun y15 => (f_tagged_bytes v0.call).bind fun y16 => (g_tagged_Encode_1 8 y16 y15).bind fun y17 => (f_tagged_bytes v0.part).bind fun y18 => (g_tagged_Encode_1 9 y18 y17).bind fun y19 => (f_tagged_bytes v0.trunk).bind fun y20 => (g_tagged_Encode_1 10 y20 y19).bind fun y21 => (f_tagged_flag v0.last 1).bind fun y22 => (f_tagged_flag v0.inbound 2).bind fun y23 => ck ((-9223372036854775808 : Int) ≤ y22 + y23 ∧ y22 + y23 ≤ (9223372036854775807 : Int)) ((f_tagged_bytes (y22 + y23)).bind fun y24 => (g_tagged_Encode_1 11 y24 y21).bind fun y25 => ck ((-9223372036854775808 : Int) ≤ (y25.length : Int) - 2 ∧ (y25.length : Int) - 2 ≤ (9223372036854775807 : Int)) (ck ((0 : Int) ≤ 8 ∧ 8 < (63 : Int)) (ck ((0 : Int) ≤ 0 ∧ 0 < (y25.length : Int)) (ck (Int.toNat (0) < y25.length) (ck ((0 : Int) ≤ 1 ∧ 1 < ((y25.set (Int.toNat (0)) (UInt8.ofInt (((y25.length : Int) - 2) / 2 ^ (Int.toNat (8))))).length : Int)) (ck (Int.toNat (1) < (y25.set (Int.toNat (0)) (UInt8.ofInt (((y25.length : Int) - 2) / 2 ^ (Int.toNat (8))))).length) (some ((y25.set (Int.toNat (0)) (UInt8.ofInt (((y25.length : Int) - 2) / 2 ^ (Int.toNat (8))))).set (Int.toNat (1)) (UInt8.ofInt ((y25.length : Int) - 2)), 0)))))))))
def f_packed_PutDecimal_j1 (y0tj1 : List UInt8) (v1nj1 : Int) : Option ((List UInt8) × Int) :=
  if (decide (v1nj1 > 0)) = true then some (([] : List UInt8), 6) else some (y0tj1, 0)
def f_packed_PutDecimal_l1 (v0b : List UInt8) (y0tl1 : List UInt8) (v1nl1 : Int) (v9il1 : Int) : Option ((List UInt8 × Int × Int) ⊕ ((List UInt8) × Int)) :=
  if (decide (v9il1 ≥ (v0b.length : Int))) = true then (ck (10 ≠ (0 : Int) ∧ (-9223372036854775808 : Int) ≤ Int.tdiv v1nl1 10 ∧ Int.tdiv v1nl1 10 ≤ (9223372036854775807 : Int)) (ck (10 ≠ (0 : Int)) (ck ((0 : Int) ≤ 4 ∧ 4 < (63 : Int) ∧ (-9223372036854775808 : Int) ≤ (Int.tmod (Int.tdiv v1nl1 10) 10) * 2 ^ (Int.toNat (4)) ∧ (Int.tmod (Int.tdiv v1nl1 10) 10) * 2 ^ (Int.toNat (4)) ≤ (9223372036854775807 : Int)) (ck (10 ≠ (0 : Int)) (ck ((0 : Int) ≤ v9il1 ∧ v9il1 < (y0tl1.length : Int)) (ck (Int.toNat (v9il1) < y0tl1.length) (ck (100 ≠ (0 : Int) ∧ (-9223372036854775808 : Int) ≤ Int.tdiv v1nl1 100 ∧ Int.tdiv v1nl1 100 ≤ (9223372036854775807 : Int)) (ck ((-9223372036854775808 : Int) ≤ v9il1 - 1 ∧ v9il1 - 1 ≤ (9223372036854775807 : Int)) (some (.inl (y0tl1.set (Int.toNat (v9il1)) (UInt8.ofInt (bOr .i64 ((Int.tmod (Int.tdiv v1nl1 10) 10) * 2 ^ (Int.toNat (4))) (Int.tmod v1nl1 10))), Int.tdiv v1nl1 100, v9il1 - 1))))))))))) else (f_packed_PutDecimal_j1 y0tl1 v1nl1).map (fun z => .inr z)
def f_packed_PutDecimal (v0b : List UInt8) (v1n : Int) (v2size : Int) : Option ((List UInt8) × Int) :=
  if (((decide (v2size < 1)) || (decide (v2size > 9))) || (decide (v1n < 0))) = true then some (([] : List UInt8), 6) else ck ((-9223372036854775808 : Int) ≤ (v0b.length : Int) + v2size ∧ (v0b.length : Int) + v2size ≤ (9223372036854775807 : Int)) (ck ((0 : Int) ≤ ((v0b.length : Int) + v2size) ∧ ((v0b.length : Int) + v2size) ≤ ((v0b.length : Int) + v2size) ∧ ((v0b.length : Int) + v2size) ≤ (1000000000 : Int)) (ck ((-9223372036854775808 : Int) ≤ ((v0b.take (min v0b.length (List.replicate (Int.toNat ((v0b.length : Int) + v2size)) 0 : List UInt8).length) ++ (List.replicate (Int.toNat ((v0b.length : Int) + v2size)) 0 : List UInt8).drop (min v0b.length (List.replicate (Int.toNat ((v0b.length : Int) + v2size)) 0 : List UInt8).length)).length : Int) - 1 ∧ ((v0b.take (min v0b.length (List.replicate (Int.toNat ((v0b.length : Int) + v2size)) 0 : List UInt8).length) ++ (List.replicate (Int.toNat ((v0b.length : Int) + v2size)) 0 : List UInt8).drop (min v0b.length (List.replicate (Int.toNat ((v0b.length : Int) + v2size)) 0 : List UInt8).length)).length : Int) - 1 ≤ (9223372036854775807 : Int)) (loop (fun s => f_packed_PutDecimal_l1 v0b s.1 s.2.1 s.2.2) (v0b.take (min v0b.length (List.replicate (Int.toNat ((v0b.length : Int) + v2size)) 0 : List UInt8).length) ++ (List.replicate (Int.toNat ((v0b.length : Int) + v2size)) 0 : List UInt8).drop (min v0b.length (List.replicate (Int.toNat ((v0b.length : Int) + v2size)) 0 : List UInt8).length), v1n, ((v0b.take (min v0b.length (List.replicate (Int.toNat ((v0b.length : Int) + v2size)) 0 : List UInt8).length) ++ (List.replicate (Int.toNat ((v0b.length : Int) + v2size)) 0 : List UInt8).drop (min v0b.length (List.replicate (Int.toNat ((v0b.length : Int) + v2size)) 0 : List UInt8).length)).length : Int) - 1))))
def f_packed_bit (v0holds : Bool) (v1n : UInt8) : Option UInt8 :=
  if v0holds = true then some v1n else some 0
def f_packed_sum_l1 (v0b : List UInt8) (v3nl1 : UInt8) (v8l1 : Int) : Option ((UInt8 × Int) ⊕ UInt8) :=
  if (decide (v8l1 < (v0b.length : Int))) = true then (ck ((0 : Int) ≤ v8l1 ∧ v8l1 < (v0b.length : Int)) (ck ((-9223372036854775808 : Int) ≤ v8l1 + 1 ∧ v8l1 + 1 ≤ (9223372036854775807 : Int)) (some (.inl (v3nl1 + (nth v0b (Int.toNat (v8l1))), v8l1 + 1))))) else some (.inr v3nl1)
def f_packed_sum (v0b : List UInt8) : Option UInt8 :=
  loop (fun s => f_packed_sum_l1 v0b s.1 s.2) (0, 0)
def g_packed_Encode_1 (v0n : Int) (v1size : Int) : Option (List UInt8) :=
  (f_packed_PutDecimal ([] : List UInt8) v0n v1size).bind fun y1 => some y1.1
def g_packed_Encode_1_v1 (v0n : Int) (v1size : Int) (y0t0p : List UInt8) : Option (List UInt8) :=
  (f_packed_PutDecimal y0t0p v0n v1size).bind fun y1 => some y1.1
def g_packed_putNumber_j1 (y0t0p : List UInt8) (o0c0j1 : List UInt8) : Option (List UInt8) :=
  ck (o0c0j1.length = 8 ∧ y0t0p.length + o0c0j1.length ≤ 1000000000) (some (y0t0p ++ o0c0j1))
def g_packed_putNumber_l1 (v1s : List UInt8) (y0t0p : List UInt8) (v15l1 : Int) (o0c0l1 : List UInt8) : Option ((Int × List UInt8) ⊕ (List UInt8)) :=
  if (decide (v15l1 < (v1s.length : Int))) = true then (ck ((0 : Int) ≤ v15l1 ∧ v15l1 < (v1s.length : Int)) (ck (2 ≠ (0 : Int)) (if ((Int.tmod v15l1 2) == 0) = true then (ck (2 ≠ (0 : Int) ∧ (-9223372036854775808 : Int) ≤ Int.tdiv v15l1 2 ∧ Int.tdiv v15l1 2 ≤ (9223372036854775807 : Int)) (ck ((0 : Int) ≤ (Int.tdiv v15l1 2) ∧ (Int.tdiv v15l1 2) < (8 : Int)) (ck ((Int.toNat (Int.tdiv v15l1 2)) < o0c0l1.length) (ck ((0 : Int) ≤ (Int.tdiv v15l1 2) ∧ (Int.tdiv v15l1 2) < (8 : Int)) (ck ((Int.toNat (Int.tdiv v15l1 2)) < o0c0l1.length) (ck ((-9223372036854775808 : Int) ≤ v15l1 + 1 ∧ v15l1 + 1 ≤ (9223372036854775807 : Int)) (some (.inl (v15l1 + 1, o0c0l1.set (Int.toNat (Int.tdiv v15l1 2)) ((nth o0c0l1 (Int.toNat (Int.tdiv v15l1 2))) ||| ((nth v1s (Int.toNat (v15l1))) - 48))))))))))) else ck ((-9223372036854775808 : Int) ≤ v15l1 + 1 ∧ v15l1 + 1 ≤ (9223372036854775807 : Int)) (ck (2 ≠ (0 : Int) ∧ (-9223372036854775808 : Int) ≤ Int.tdiv (v15l1 + 1) 2 ∧ Int.tdiv (v15l1 + 1) 2 ≤ (9223372036854775807 : Int)) (ck ((0 : Int) ≤ 4) (ck ((0 : Int) ≤ (Int.tdiv (v15l1 + 1) 2) ∧ (Int.tdiv (v15l1 + 1) 2) < (8 : Int)) (ck ((Int.toNat (Int.tdiv (v15l1 + 1) 2)) < o0c0l1.length) (ck ((-9223372036854775808 : Int) ≤ v15l1 + 1 ∧ v15l1 + 1 ≤ (9223372036854775807 : Int)) (some (.inl (v15l1 + 1, o0c0l1.set (Int.toNat (Int.tdiv (v15l1 + 1) 2)) (u8shl ((nth v1s (Int.toNat (v15l1))) - 48) 4)))))))))))) else (g_packed_putNumber_j1 y0t0p o0c0l1).map (fun z => .inr z)
def g_packed_putNumber (v1s : List UInt8) (y0t0p : List UInt8) : Option (List UInt8) :=
  ck ((0 : Int) ≤ 4 ∧ 4 < (63 : Int) ∧ (-9223372036854775808 : Int) ≤ (v1s.length : Int) * 2 ^ (Int.toNat (4)) ∧ (v1s.length : Int) * 2 ^ (Int.toNat (4)) ≤ (9223372036854775807 : Int)) (ck ((0 : Int) ≤ 0 ∧ 0 < (8 : Int)) (ck ((Int.toNat (0)) < (List.replicate 8 0 : List UInt8).length) (loop (fun s => g_packed_putNumber_l1 v1s y0t0p s.1 s.2) (0, (List.replicate 8 0 : List UInt8).set (Int.toNat (0)) (UInt8.ofInt ((v1s.length : Int) * 2 ^ (Int.toNat (4))))))))
def f_packed_Encode (v0 : Record) : Option ((List UInt8) × Int) :=
  (f_textual_Encode v0).bind fun y1 => if (y1.2 != 0) = true then some (([] : List UInt8), y1.2) else (g_packed_Encode_1 v0.source 1).bind fun y2 => (g_packed_Encode_1_v1 v0.serial 5 y2).bind fun y3 => ck ((0 : Int) ≤ 4 ∧ 4 < (63 : Int) ∧ (-9223372036854775808 : Int) ≤ v0.kind * 2 ^ (Int.toNat (4)) ∧ v0.kind * 2 ^ (Int.toNat (4)) ≤ (9223372036854775807 : Int)) ((f_packed_bit v0.last 1).bind fun y4 => (f_packed_bit v0.inbound 2).bind fun y5 => ck (y3.length + ([((UInt8.ofInt (v0.kind * 2 ^ (Int.toNat (4)))) ||| y4) ||| y5] : List UInt8).length ≤ 1000000000) ((g_packed_putNumber v0.a (y3 ++ ([((UInt8.ofInt (v0.kind * 2 ^ (Int.toNat (4)))) ||| y4) ||| y5] : List UInt8))).bind fun y6 => (g_packed_putNumber v0.b y6).bind fun y7 => (g_packed_Encode_1_v1 v0.start 6 y7).bind fun y8 => (g_packed_Encode_1_v1 v0.units 7 y8).bind fun y9 => (g_packed_Encode_1_v1 v0.call 5 y9).bind fun y10 => (g_packed_Encode_1_v1 v0.part 1 y10).bind fun y11 => (g_packed_Encode_1_v1 v0.trunk 2 y11).bind fun y12 => (f_packed_sum y12).bind fun y13 => ck (y12.length + ([y13] : List UInt8).length ≤ 1000000000) (some (y12 ++ ([y13] : List UInt8), 0))))
def f_batch_line (v0r : Record) : Option ((List UInt8) × Int) :=
  (f_textual_Encode v0r).bind fun y1 => ck (y1.1.length + ([10] : List UInt8).length ≤ 9223372036854775807) (some (y1.1 ++ ([10] : List UInt8), y1.2))
def g_api_Record_byte_l1 (v0list : List Record) (v5outl1 : List UInt8) (v12l1 : Int) : Option ((List UInt8 × Int) ⊕ (List UInt8)) :=
  if (decide (v12l1 < (v0list.length : Int))) = true then (ck ((0 : Int) ≤ v12l1 ∧ v12l1 < (v0list.length : Int)) ((f_tagged_Encode (nth v0list (Int.toNat (v12l1)))).bind fun y1 => ck (v5outl1.length + y1.1.length ≤ 1000000000) (ck ((-9223372036854775808 : Int) ≤ v12l1 + 1 ∧ v12l1 + 1 ≤ (9223372036854775807 : Int)) (some (.inl (v5outl1 ++ y1.1, v12l1 + 1)))))) else some (.inr v5outl1)
def g_api_Record_byte (v0list : List Record) : Option (List UInt8) :=
  loop (fun s => g_api_Record_byte_l1 v0list s.1 s.2) (([] : List UInt8), 0)
def g_api_Record_byte_v1_l1 (v0list : List Record) (v5outl1 : List UInt8) (v12l1 : Int) : Option ((List UInt8 × Int) ⊕ (List UInt8)) :=
  if (decide (v12l1 < (v0list.length : Int))) = true then (ck ((0 : Int) ≤ v12l1 ∧ v12l1 < (v0list.length : Int)) ((f_packed_Encode (nth v0list (Int.toNat (v12l1)))).bind fun y1 => ck (v5outl1.length + y1.1.length ≤ 1000000000) (ck ((-9223372036854775808 : Int) ≤ v12l1 + 1 ∧ v12l1 + 1 ≤ (9223372036854775807 : Int)) (some (.inl (v5outl1 ++ y1.1, v12l1 + 1)))))) else some (.inr v5outl1)
def g_api_Record_byte_v1 (v0list : List Record) : Option (List UInt8) :=
  loop (fun s => g_api_Record_byte_v1_l1 v0list s.1 s.2) (([] : List UInt8), 0)
def g_api_Record_string_l1 (v0list : List Record) (v5outl1 : List UInt8) (v12l1 : Int) : Option ((List UInt8 × Int) ⊕ (List UInt8)) :=
  if (decide (v12l1 < (v0list.length : Int))) = true then (ck ((0 : Int) ≤ v12l1 ∧ v12l1 < (v0list.length : Int)) ((f_batch_line (nth v0list (Int.toNat (v12l1)))).bind fun y1 => ck (v5outl1.length + y1.1.length ≤ 1000000000) (ck ((-9223372036854775808 : Int) ≤ v12l1 + 1 ∧ v12l1 + 1 ≤ (9223372036854775807 : Int)) (some (.inl (v5outl1 ++ y1.1, v12l1 + 1)))))) else some (.inr v5outl1)
def g_api_Record_string (v0list : List Record) : Option (List UInt8) :=
  loop (fun s => g_api_Record_string_l1 v0list s.1 s.2) (([] : List UInt8), 0)
def f_batch_payload (v0format : Int) (v1records : List Record) : Option (List UInt8) :=
  if (v0format == 2) = true then ((g_api_Record_byte v1records).bind fun y1 => some y1) else if (v0format == 3) = true then ((g_api_Record_byte_v1 v1records).bind fun y2 => some y2) else (g_api_Record_string v1records).bind fun y3 => some y3
def f_frame_Sum_l1 (v0b : List UInt8) (v3nl1 : Int) (v8l1 : Int) : Option ((Int × Int) ⊕ Int) :=
  if (decide (v8l1 < (v0b.length : Int))) = true then (ck ((0 : Int) ≤ v8l1 ∧ v8l1 < (v0b.length : Int)) (ck ((-9223372036854775808 : Int) ≤ v8l1 + 1 ∧ v8l1 + 1 ≤ (9223372036854775807 : Int)) (some (.inl (IntKind.wrap .u32 ((bXor .u32 v3nl1 (IntKind.wrap .u32 ((nth v0b (Int.toNat (v8l1))).toNat : Int))) * 16777619), v8l1 + 1))))) else some (.inr v3nl1)
def f_frame_Sum (v0b : List UInt8) : Option Int :=
  loop (fun s => f_frame_Sum_l1 v0b s.1 s.2) (2166136261, 0)
def g_frame_wrap (v1payload : List UInt8) : Option (List UInt8) :=
  (f_frame_Sum v1payload).bind fun y1 => (f_codec_PutNumber ([] : List UInt8) (v1payload.length : Int)).bind fun y2 => ck (y2.length ≤ 1000000000) (ck ((0 : Int) ≤ 24) (ck ((0 : Int) ≤ 16) (ck ((0 : Int) ≤ 8) (ck (y2.length + ([UInt8.ofInt (Int.fdiv y1 (2 ^ (min (Int.toNat (24)) 32))), UInt8.ofInt (Int.fdiv y1 (2 ^ (min (Int.toNat (16)) 32))), UInt8.ofInt (Int.fdiv y1 (2 ^ (min (Int.toNat (8)) 32))), UInt8.ofInt y1] : List UInt8).length ≤ 1000000000) (ck ((y2 ++ ([UInt8.ofInt (Int.fdiv y1 (2 ^ (min (Int.toNat (24)) 32))), UInt8.ofInt (Int.fdiv y1 (2 ^ (min (Int.toNat (16)) 32))), UInt8.ofInt (Int.fdiv y1 (2 ^ (min (Int.toNat (8)) 32))), UInt8.ofInt y1] : List UInt8)).length + v1payload.length ≤ 1000000000) (some ((y2 ++ ([UInt8.ofInt (Int.fdiv y1 (2 ^ (min (Int.toNat (24)) 32))), UInt8.ofInt (Int.fdiv y1 (2 ^ (min (Int.toNat (16)) 32))), UInt8.ofInt (Int.fdiv y1 (2 ^ (min (Int.toNat (8)) 32))), UInt8.ofInt y1] : List UInt8)) ++ v1payload)))))))
def g_frame_wrap_v1 (v1payload : List UInt8) (y0t0p : List UInt8) : Option (List UInt8) :=
  (f_frame_Sum v1payload).bind fun y1 => (f_codec_PutNumber ([] : List UInt8) (v1payload.length : Int)).bind fun y2 => ck (y0t0p.length + y2.length ≤ 1000000000) (ck ((0 : Int) ≤ 24) (ck ((0 : Int) ≤ 16) (ck ((0 : Int) ≤ 8) (ck ((y0t0p ++ y2).length + ([UInt8.ofInt (Int.fdiv y1 (2 ^ (min (Int.toNat (24)) 32))), UInt8.ofInt (Int.fdiv y1 (2 ^ (min (Int.toNat (16)) 32))), UInt8.ofInt (Int.fdiv y1 (2 ^ (min (Int.toNat (8)) 32))), UInt8.ofInt y1] : List UInt8).length ≤ 1000000000) (ck (((y0t0p ++ y2) ++ ([UInt8.ofInt (Int.fdiv y1 (2 ^ (min (Int.toNat (24)) 32))), UInt8.ofInt (Int.fdiv y1 (2 ^ (min (Int.toNat (16)) 32))), UInt8.ofInt (Int.fdiv y1 (2 ^ (min (Int.toNat (8)) 32))), UInt8.ofInt y1] : List UInt8)).length + v1payload.length ≤ 1000000000) (some (((y0t0p ++ y2) ++ ([UInt8.ofInt (Int.fdiv y1 (2 ^ (min (Int.toNat (24)) 32))), UInt8.ofInt (Int.fdiv y1 (2 ^ (min (Int.toNat (16)) 32))), UInt8.ofInt (Int.fdiv y1 (2 ^ (min (Int.toNat (8)) 32))), UInt8.ofInt y1] : List UInt8)) ++ v1payload)))))))
def f_frame_Join_l1 (v0list : List (List UInt8)) (v4outl1 : List UInt8) (v9l1 : Int) : Option ((List UInt8 × Int) ⊕ ((List UInt8) × Int)) :=
  if (decide (v9l1 < (v0list.length : Int))) = true then (ck ((0 : Int) ≤ v9l1 ∧ v9l1 < (v0list.length : Int)) (if (decide (((nth v0list (Int.toNat (v9l1))).length : Int) > 1048576)) = true then some (.inr (([] : List UInt8), 5)) else (g_frame_wrap_v1 (nth v0list (Int.toNat (v9l1))) v4outl1).bind fun y1 => ck ((-9223372036854775808 : Int) ≤ v9l1 + 1 ∧ v9l1 + 1 ≤ (9223372036854775807 : Int)) (some (.inl (y1, v9l1 + 1))))) else some (.inr (v4outl1, 0))
def f_frame_Join (v0list : List (List UInt8)) : Option ((List UInt8) × Int) :=
  loop (fun s => f_frame_Join_l1 v0list s.1 s.2) (([] : List UInt8), 0)
def g_batch_all_int_byte_l1 (v0list : List Int) (v5outl1 : List UInt8) (v12l1 : Int) : Option ((List UInt8 × Int) ⊕ (List UInt8)) :=
  if (decide (v12l1 < (v0list.length : Int))) = true then (ck ((0 : Int) ≤ v12l1 ∧ v12l1 < (v0list.length : Int)) ((f_batch_number (nth v0list (Int.toNat (v12l1)))).bind fun y1 => ck (v5outl1.length + y1.1.length ≤ 1000000000) (ck ((-9223372036854775808 : Int) ≤ v12l1 + 1 ∧ v12l1 + 1 ≤ (9223372036854775807 : Int)) (some (.inl (v5outl1 ++ y1.1, v12l1 + 1)))))) else some (.inr v5outl1)
def g_batch_all_int_byte (v0list : List Int) : Option (List UInt8) :=
  loop (fun s => g_batch_all_int_byte_l1 v0list s.1 s.2) (([] : List UInt8), 0)
def f_batch_Write (v0b : Batch) : Option ((List UInt8) × Int) :=
  (f_batch_Check v0b).bind fun y1 => if (y1 != 0) = true then some (([] : List UInt8), y1) else (f_batch_headOf v0b).bind fun y2 => (f_batch_Totals v0b.records).bind fun y3 => (g_batch_all_int_byte ([y2.source, y2.number, y2.format, y2.count] : List Int)).bind fun y4 => (f_batch_payload v0b.format v0b.records).bind fun y5 => ck (([nth y3.units 1, nth y3.units 2, nth y3.units 3, nth y3.units 4] : List Int).length = 4 ∧ ([y3.count] : List Int).length + ([nth y3.units 1, nth y3.units 2, nth y3.units 3, nth y3.units 4] : List Int).length ≤ 1000000000) ((g_batch_all_int_byte (([y3.count] : List Int) ++ ([nth y3.units 1, nth y3.units 2, nth y3.units 3, nth y3.units 4] : List Int))).bind fun y6 => (f_frame_Join ([y4, y5, y6] : List (List UInt8))).bind fun y7 => some (y7.1, y7.2))
def f_codec_back (v0u : Int) : Option Int :=
  ck ((0 : Int) ≤ 1) (ck ((-9223372036854775807 : Int) ≤ IntKind.wrap .i64 (bAnd .u64 v0u 1) ∧ IntKind.wrap .i64 (bAnd .u64 v0u 1) ≤ 9223372036854775807) (some (bXor .i64 (IntKind.wrap .i64 (Int.fdiv v0u (2 ^ (min (Int.toNat (1)) 64)))) (-(IntKind.wrap .i64 (bAnd .u64 v0u 1))))))
def f_codec_scan_l1 (v0b : List UInt8) (v5ul1 : Int) (v6il1 : Int) : Option ((Int × Int) ⊕ (Int × Int × Int)) :=
  if (decide (v6il1 < (v0b.length : Int))) = true then (ck ((0 : Int) ≤ v6il1 ∧ v6il1 < (v0b.length : Int)) (if (((v6il1 == 9) && ((nth v0b (Int.toNat (v6il1))) != 1)) || ((decide (v6il1 > 0)) && ((nth v0b (Int.toNat (v6il1))) == 0))) = true then some (.inr (0, 0, 1)) else ck ((-9223372036854775808 : Int) ≤ 7 * v6il1 ∧ 7 * v6il1 ≤ (9223372036854775807 : Int)) (ck ((0 : Int) ≤ 7 * v6il1) (if (decide ((nth v0b (Int.toNat (v6il1))) < 128)) = true then ((f_codec_back (bOr .u64 v5ul1 (IntKind.wrap .u64 ((IntKind.wrap .u64 (((nth v0b (Int.toNat (v6il1))) &&& 127).toNat : Int)) * 2 ^ (min (Int.toNat (7 * v6il1)) 64))))).bind fun y1 => ck ((-9223372036854775808 : Int) ≤ v6il1 + 1 ∧ v6il1 + 1 ≤ (9223372036854775807 : Int)) (some (.inr (y1, v6il1 + 1, 0)))) else ck ((-9223372036854775808 : Int) ≤ v6il1 + 1 ∧ v6il1 + 1 ≤ (9223372036854775807 : Int)) (some (.inl (bOr .u64 v5ul1 (IntKind.wrap .u64 ((IntKind.wrap .u64 (((nth v0b (Int.toNat (v6il1))) &&& 127).toNat : Int)) * 2 ^ (min (Int.toNat (7 * v6il1)) 64))), v6il1 + 1))))))) else some (.inr (0, 0, 2))
def f_codec_scan (v0b : List UInt8) : Option (Int × Int × Int) :=
  loop (fun s => f_codec_scan_l1 v0b s.1 s.2) (0, 0)
def f_codec_rest (v0b : List UInt8) (v1i : Int) : Option (List UInt8) :=
  ck ((-9223372036854775808 : Int) ≤ (v0b.length : Int) - v1i ∧ (v0b.length : Int) - v1i ≤ (9223372036854775807 : Int)) (ck ((0 : Int) ≤ ((v0b.length : Int) - v1i) ∧ ((v0b.length : Int) - v1i) ≤ ((v0b.length : Int) - v1i) ∧ ((v0b.length : Int) - v1i) ≤ (1000000000 : Int)) (ck ((0 : Int) ≤ v1i ∧ v1i ≤ (v0b.length : Int) ∧ (v0b.length : Int) ≤ (v0b.length : Int) ∧ (v0b.length : Int) ≤ (v0b.length : Int)) (some (((v0b.take (Int.toNat ((v0b.length : Int)))).drop (Int.toNat (v1i))).take (min ((v0b.take (Int.toNat ((v0b.length : Int)))).drop (Int.toNat (v1i))).length (List.replicate (Int.toNat ((v0b.length : Int) - v1i)) 0 : List UInt8).length) ++ (List.replicate (Int.toNat ((v0b.length : Int) - v1i)) 0 : List UInt8).drop (min ((v0b.take (Int.toNat ((v0b.length : Int)))).drop (Int.toNat (v1i))).length (List.replicate (Int.toNat ((v0b.length : Int) - v1i)) 0 : List UInt8).length)))))
def f_codec_Number (v0b : List UInt8) : Option (Int × (List UInt8) × Int) :=
  (f_codec_scan v0b).bind fun y1 => if (y1.2.2 != 0) = true then some (0, ([] : List UInt8), y1.2.2) else (f_codec_rest v0b y1.2.1).bind fun y2 => some (y1.1, y2, 0)
def f_frame_locate (v0 : List UInt8) : Option (Int × Int × Int) :=
  ck ((0 : Int) ≤ (if 10 < (v0.length : Int) then 10 else (v0.length : Int)) ∧ (if 10 < (v0.length : Int) then 10 else (v0.length : Int)) ≤ (if 10 < (v0.length : Int) then 10 else (v0.length : Int)) ∧ (if 10 < (v0.length : Int) then 10 else (v0.length : Int)) ≤ (v0.length : Int)) ((f_codec_Number (v0.take (Int.toNat ((if 10 < (v0.length : Int) then 10 else (v0.length : Int)))))).bind fun y1 => if (y1.2.2 != 0) = true then some (0, 0, y1.2.2) else if (decide (y1.1 < 0)) = true then some (0, 0, 1) else if (decide (y1.1 > 1048576)) = true then some (0, 0, 5) else ck ((-9223372036854775808 : Int) ≤ ((v0.take (Int.toNat ((if 10 < (v0.length : Int) then 10 else (v0.length : Int))))).length : Int) - (y1.2.1.length : Int) ∧ ((v0.take (Int.toNat ((if 10 < (v0.length : Int) then 10 else (v0.length : Int))))).length : Int) - (y1.2.1.length : Int) ≤ (9223372036854775807 : Int)) (ck ((-9223372036854775808 : Int) ≤ (v0.length : Int) - (((v0.take (Int.toNat ((if 10 < (v0.length : Int) then 10 else (v0.length : Int))))).length : Int) - (y1.2.1.length : Int)) ∧ (v0.length : Int) - (((v0.take (Int.toNat ((if 10 < (v0.length : Int) then 10 else (v0.length : Int))))).length : Int) - (y1.2.1.length : Int)) ≤ (9223372036854775807 : Int)) (ck ((-9223372036854775808 : Int) ≤ 4 + y1.1 ∧ 4 + y1.1 ≤ (9223372036854775807 : Int)) (if (decide (((v0.length : Int) - (((v0.take (Int.toNat ((if 10 < (v0.length : Int) then 10 else (v0.length : Int))))).length : Int) - (y1.2.1.length : Int))) < (4 + y1.1))) = true then some (0, 0, 2) else ck ((0 : Int) ≤ (((v0.take (Int.toNat ((if 10 < (v0.length : Int) then 10 else (v0.length : Int))))).length : Int) - (y1.2.1.length : Int)) ∧ (((v0.take (Int.toNat ((if 10 < (v0.length : Int) then 10 else (v0.length : Int))))).length : Int) - (y1.2.1.length : Int)) < (v0.length : Int)) (ck ((0 : Int) ≤ 24) (ck ((-9223372036854775808 : Int) ≤ (((v0.take (Int.toNat ((if 10 < (v0.length : Int) then 10 else (v0.length : Int))))).length : Int) - (y1.2.1.length : Int)) + 1 ∧ (((v0.take (Int.toNat ((if 10 < (v0.length : Int) then 10 else (v0.length : Int))))).length : Int) - (y1.2.1.length : Int)) + 1 ≤ (9223372036854775807 : Int)) (ck ((0 : Int) ≤ ((((v0.take (Int.toNat ((if 10 < (v0.length : Int) then 10 else (v0.length : Int))))).length : Int) - (y1.2.1.length : Int)) + 1) ∧ ((((v0.take (Int.toNat ((if 10 < (v0.length : Int) then 10 else (v0.length : Int))))).length : Int) - (y1.2.1.length : Int)) + 1) < (v0.length : Int)) (ck ((0 : Int) ≤ 16) (ck ((-9223372036854775808 : Int) ≤ (((v0.take (Int.toNat ((if 10 < (v0.length : Int) then 10 else (v0.length : Int))))).length : Int) - (y1.2.1.length : Int)) + 2 ∧ (((v0.take (Int.toNat ((if 10 < (v0.length : Int) then 10 else (v0.length : Int))))).length : Int) - (y1.2.1.length : Int)) + 2 ≤ (9223372036854775807 : Int)) (ck ((0 : Int) ≤ ((((v0.take (Int.toNat ((if 10 < (v0.length : Int) then 10 else (v0.length : Int))))).length : Int) - (y1.2.1.length : Int)) + 2) ∧ ((((v0.take (Int.toNat ((if 10 < (v0.length : Int) then 10 else (v0.length : Int))))).length : Int) - (y1.2.1.length : Int)) + 2) < (v0.length : Int)) (ck ((0 : Int) ≤ 8) (ck ((-9223372036854775808 : Int) ≤ (((v0.take (Int.toNat ((if 10 < (v0.length : Int) then 10 else (v0.length : Int))))).length : Int) - (y1.2.1.length : Int)) + 3 ∧ (((v0.take (Int.toNat ((if 10 < (v0.length : Int) then 10 else (v0.length : Int))))).length : Int) - (y1.2.1.length : Int)) + 3 ≤ (9223372036854775807 : Int)) (ck ((0 : Int) ≤ ((((v0.take (Int.toNat ((if 10 < (v0.length : Int) then 10 else (v0.length : Int))))).length : Int) - (y1.2.1.length : Int)) + 3) ∧ ((((v0.take (Int.toNat ((if 10 < (v0.length : Int) then 10 else (v0.length : Int))))).length : Int) - (y1.2.1.length : Int)) + 3) < (v0.length : Int)) (ck ((-9223372036854775808 : Int) ≤ (((v0.take (Int.toNat ((if 10 < (v0.length : Int) then 10 else (v0.length : Int))))).length : Int) - (y1.2.1.length : Int)) + 4 ∧ (((v0.take (Int.toNat ((if 10 < (v0.length : Int) then 10 else (v0.length : Int))))).length : Int) - (y1.2.1.length : Int)) + 4 ≤ (9223372036854775807 : Int)) (ck ((-9223372036854775808 : Int) ≤ (((v0.take (Int.toNat ((if 10 < (v0.length : Int) then 10 else (v0.length : Int))))).length : Int) - (y1.2.1.length : Int)) + 4 ∧ (((v0.take (Int.toNat ((if 10 < (v0.length : Int) then 10 else (v0.length : Int))))).length : Int) - (y1.2.1.length : Int)) + 4 ≤ (9223372036854775807 : Int)) (ck ((-9223372036854775808 : Int) ≤ ((((v0.take (Int.toNat ((if 10 < (v0.length : Int) then 10 else (v0.length : Int))))).length : Int) - (y1.2.1.length : Int)) + 4) + y1.1 ∧ ((((v0.take (Int.toNat ((if 10 < (v0.length : Int) then 10 else (v0.length : Int))))).length : Int) - (y1.2.1.length : Int)) + 4) + y1.1 ≤ (9223372036854775807 : Int)) (ck ((0 : Int) ≤ (((v0.take (Int.toNat ((if 10 < (v0.length : Int) then 10 else (v0.length : Int))))).length : Int) - (y1.2.1.length : Int)) + 4 ∧ (((v0.take (Int.toNat ((if 10 < (v0.length : Int) then 10 else (v0.length : Int))))).length : Int) - (y1.2.1.length : Int)) + 4 ≤ ((((v0.take (Int.toNat ((if 10 < (v0.length : Int) then 10 else (v0.length : Int))))).length : Int) - (y1.2.1.length : Int)) + 4) + y1.1 ∧ ((((v0.take (Int.toNat ((if 10 < (v0.length : Int) then 10 else (v0.length : Int))))).length : Int) - (y1.2.1.length : Int)) + 4) + y1.1 ≤ (v0.length : Int)) ((f_frame_Sum ((v0.take (Int.toNat (((((v0.take (Int.toNat ((if 10 < (v0.length : Int) then 10 else (v0.length : Int))))).length : Int) - (y1.2.1.length : Int)) + 4) + y1.1))).drop (Int.toNat ((((v0.take (Int.toNat ((if 10 < (v0.length : Int) then 10 else (v0.length : Int))))).length : Int) - (y1.2.1.length : Int)) + 4)))).bind fun y2 => if (y2 != (bOr .u32 (bOr .u32 (bOr .u32 (IntKind.wrap .u32 ((IntKind.wrap .u32 ((nth v0 (Int.toNat (((v0.take (Int.toNat ((if 10 < (v0.length : Int) then 10 else (v0.length : Int))))).length : Int) - (y1.2.1.length : Int)))).toNat : Int)) * 2 ^ (min (Int.toNat (24)) 32))) (IntKind.wrap .u32 ((IntKind.wrap .u32 ((nth v0 (Int.toNat ((((v0.take (Int.toNat ((if 10 < (v0.length : Int) then 10 else (v0.length : Int))))).length : Int) - (y1.2.1.length : Int)) + 1))).toNat : Int)) * 2 ^ (min (Int.toNat (16)) 32)))) (IntKind.wrap .u32 ((IntKind.wrap .u32 ((nth v0 (Int.toNat ((((v0.take (Int.toNat ((if 10 < (v0.length : Int) then 10 else (v0.length : Int))))).length : Int) - (y1.2.1.length : Int)) + 2))).toNat : Int)) * 2 ^ (min (Int.toNat (8)) 32)))) (IntKind.wrap .u32 ((nth v0 (Int.toNat ((((v0.take (Int.toNat ((if 10 < (v0.length : Int) then 10 else (v0.length : Int))))).length : Int) - (y1.2.1.length : Int)) + 3))).toNat : Int)))) = true then some (0, 0, 4) else ck ((-9223372036854775808 : Int) ≤ (((v0.take (Int.toNat ((if 10 < (v0.length : Int) then 10 else (v0.length : Int))))).length : Int) - (y1.2.1.length : Int)) + 4 ∧ (((v0.take (Int.toNat ((if 10 < (v0.length : Int) then 10 else (v0.length : Int))))).length : Int) - (y1.2.1.length : Int)) + 4 ≤ (9223372036854775807 : Int)) (ck ((-9223372036854775808 : Int) ≤ (((v0.take (Int.toNat ((if 10 < (v0.length : Int) then 10 else (v0.length : Int))))).length : Int) - (y1.2.1.length : Int)) + 4 ∧ (((v0.take (Int.toNat ((if 10 < (v0.length : Int) then 10 else (v0.length : Int))))).length : Int) - (y1.2.1.length : Int)) + 4 ≤ (9223372036854775807 : Int)) (ck ((-9223372036854775808 : Int) ≤ ((((v0.take (Int.toNat ((if 10 < (v0.length : Int) then 10 else (v0.length : Int))))).length : Int) - (y1.2.1.length : Int)) + 4) + y1.1 ∧ ((((v0.take (Int.toNat ((if 10 < (v0.length : Int) then 10 else (v0.length : Int))))).length : Int) - (y1.2.1.length : Int)) + 4) + y1.1 ≤ (9223372036854775807 : Int)) (some ((((v0.take (Int.toNat ((if 10 < (v0.length : Int) then 10 else (v0.length : Int))))).length : Int) - (y1.2.1.length : Int)) + 4, ((((v0.take (Int.toNat ((if 10 < (v0.length : Int) then 10 else (v0.length : Int))))).length : Int) - (y1.2.1.length : Int)) + 4) + y1.1, 0))))))))))))))))))))))
def f_frame_copied (v0b : List UInt8) (v1from : Int) (v2to : Int) : Option (List UInt8) :=
  ck ((-9223372036854775808 : Int) ≤ v2to - v1from ∧ v2to - v1from ≤ (9223372036854775807 : Int)) (ck ((0 : Int) ≤ (v2to - v1from) ∧ (v2to - v1from) ≤ (v2to - v1from) ∧ (v2to - v1from) ≤ (1000000000 : Int)) (ck ((0 : Int) ≤ v1from ∧ v1from ≤ v2to ∧ v2to ≤ v2to ∧ v2to ≤ (v0b.length : Int)) (some (((v0b.take (Int.toNat (v2to))).drop (Int.toNat (v1from))).take (min ((v0b.take (Int.toNat (v2to))).drop (Int.toNat (v1from))).length (List.replicate (Int.toNat (v2to - v1from)) 0 : List UInt8).length) ++ (List.replicate (Int.toNat (v2to - v1from)) 0 : List UInt8).drop (min ((v0b.take (Int.toNat (v2to))).drop (Int.toNat (v1from))).length (List.replicate (Int.toNat (v2to - v1from)) 0 : List UInt8).length)))))
def f_frame_Unwrap (v0b : List UInt8) : Option ((List UInt8) × (List UInt8) × Int) :=
  (f_frame_locate v0b).bind fun y1 => if (y1.2.2 != 0) = true then some (([] : List UInt8), ([] : List UInt8), y1.2.2) else (f_frame_copied v0b y1.1 y1.2.1).bind fun y2 => (f_frame_copied v0b y1.2.1 (v0b.length : Int)).bind fun y3 => some (y2, y3, 0)
def g_batch_numbers_j1 (v0bj1 : List UInt8) (o1c0j1 : Int) (o1c1j1 : Int) (o1c2j1 : Int) (o1c3j1 : Int) : Option (Int × Head) :=
  if (decide ((v0bj1.length : Int) > 0)) = true then some (3, (⟨o1c0j1, o1c1j1, o1c2j1, o1c3j1⟩ : Head)) else some (0, (⟨o1c0j1, o1c1j1, o1c2j1, o1c3j1⟩ : Head))
def g_batch_numbers (v0b : List UInt8) (o1c0p : Head) : Option (Int × Head) :=
  (f_codec_Number v0b).bind fun y1 => if (y1.2.2 != 0) = true then some (y1.2.2, o1c0p) else (f_codec_Number y1.2.1).bind fun y2 => if (y2.2.2 != 0) = true then some (y2.2.2, (⟨y1.1, o1c0p.number, o1c0p.format, o1c0p.count⟩ : Head)) else (f_codec_Number y2.2.1).bind fun y3 => if (y3.2.2 != 0) = true then some (y3.2.2, (⟨y1.1, y2.1, o1c0p.format, o1c0p.count⟩ : Head)) else (f_codec_Number y3.2.1).bind fun y4 => if (y4.2.2 != 0) = true then some (y4.2.2, (⟨y1.1, y2.1, y3.1, o1c0p.count⟩ : Head)) else g_batch_numbers_j1 y4.2.1 y1.1 y2.1 y3.1 y4.1
def f_batch_first (v0data : List UInt8) : Option (Head × (List UInt8) × Int) :=
  (f_frame_Unwrap v0data).bind fun y1 => if (y1.2.2 != 0) = true then some ((⟨0, 0, 0, 0⟩ : Head), ([] : List UInt8), y1.2.2) else (g_batch_numbers y1.1 (⟨0, 0, 0, 0⟩ : Head)).bind fun y2 => if (y2.1 != 0) = true then some ((⟨0, 0, 0, 0⟩ : Head), ([] : List UInt8), y2.1) else (f_batch_checkHead y2.2).bind fun y3 => if (y3 != 0) = true then some ((⟨0, 0, 0, 0⟩ : Head), ([] : List UInt8), y3) else some (y2.2, y1.2.1, 0)
def f_batch_Head (v0data : List UInt8) : Option (Head × Int) :=
  (f_batch_first v0data).bind fun y1 => some (y1.1, y1.2.2)
def f_billinglaw12_awake : Option Bool :=
  (f_batch_Totals ([(⟨6, 1, 1, ([49] : List UInt8), ([50] : List UInt8), 0, 90, 0, 0, false, 0, false⟩ : Record), (⟨0, 0, 2, ([] : List UInt8), ([] : List UInt8), 0, 1, 0, 0, false, 0, false⟩ : Record)] : List Record)).bind fun y1 => (f_batch_Write (⟨1, 1, 1, ([] : List Record)⟩ : Batch)).bind fun y2 => (f_batch_Head y2.1).bind fun y3 => (gcall (((((((y1.count == 2) && ((nth y1.units 1) == 90)) && ((nth y1.units 2) == 1)) && (y2.2 == 0)) && ((y2.1.length : Int) == 24)) && (y3.2 == 0)) && (eqVs (Head.vals y3.1) (Head.vals (⟨1, 1, 1, 0⟩ : Head)))) (f_batch_Check (⟨5, 1, 1, ([(⟨6, 1, 1, ([49] : List UInt8), ([50] : List UInt8), 0, 90, 0, 0, false, 0, false⟩ : Record)] : List Record)⟩ : Batch))).bind fun y4 => some ((((((((y1.count == 2) && ((nth y1.units 1) == 90)) && ((nth y1.units 2) == 1)) && (y2.2 == 0)) && ((y2.1.length : Int) == 24)) && (y3.2 == 0)) && (eqVs (Head.vals y3.1) (Head.vals (⟨1, 1, 1, 0⟩ : Head)))) && (y4 == 8))
def f_billingref12_Totals_l1 (v0records : List Record) (v4il1 : Int) (o1c1l1 : Int) (o1c2l1 : Int) (o1c3l1 : Int) (o1c4l1 : Int) (o1c5l1 : Int) : Option ((Int × Int × Int × Int × Int × Int) ⊕ Totals) :=
  if (decide (v4il1 < (v0records.length : Int))) = true then (ck ((0 : Int) ≤ v4il1 ∧ v4il1 < (v0records.length : Int)) (if ((((decide (((nth v0records (Int.toNat (v4il1))).kind) ≥ 1)) && (decide (((nth v0records (Int.toNat (v4il1))).kind) < 5))) && (decide (((nth v0records (Int.toNat (v4il1))).units) ≥ 0))) && (decide (((nth v0records (Int.toNat (v4il1))).units) ≤ 1099511627776))) = true then (ck ((0 : Int) ≤ ((nth v0records (Int.toNat (v4il1))).kind) ∧ ((nth v0records (Int.toNat (v4il1))).kind) < (5 : Int)) (ck (Int.toNat ((nth v0records (Int.toNat (v4il1))).kind) < 5) (ck ((-9223372036854775808 : Int) ≤ (nth ([o1c1l1, o1c2l1, o1c3l1, o1c4l1, o1c5l1] : List Int) (Int.toNat ((nth v0records (Int.toNat (v4il1))).kind))) + ((nth v0records (Int.toNat (v4il1))).units) ∧ (nth ([o1c1l1, o1c2l1, o1c3l1, o1c4l1, o1c5l1] : List Int) (Int.toNat ((nth v0records (Int.toNat (v4il1))).kind))) + ((nth v0records (Int.toNat (v4il1))).units) ≤ (9223372036854775807 : Int)) (ck ((0 : Int) ≤ ((nth v0records (Int.toNat (v4il1))).kind) ∧ ((nth v0records (Int.toNat (v4il1))).kind) < (5 : Int)) (ck (Int.toNat ((nth v0records (Int.toNat (v4il1))).kind) < 5) (ck ((-9223372036854775808 : Int) ≤ v4il1 + 1 ∧ v4il1 + 1 ≤ (9223372036854775807 : Int)) (some (.inl (v4il1 + 1, nth (setN ([o1c1l1, o1c2l1, o1c3l1, o1c4l1, o1c5l1] : List Int) 5 (Int.toNat ((nth v0records (Int.toNat (v4il1))).kind)) ((nth ([o1c1l1, o1c2l1, o1c3l1, o1c4l1, o1c5l1] : List Int) (Int.toNat ((nth v0records (Int.toNat (v4il1))).kind))) + ((nth v0records (Int.toNat (v4il1))).units))) 0, nth (setN ([o1c1l1, o1c2l1, o1c3l1, o1c4l1, o1c5l1] : List Int) 5 (Int.toNat ((nth v0records (Int.toNat (v4il1))).kind)) ((nth ([o1c1l1, o1c2l1, o1c3l1, o1c4l1, o1c5l1] : List Int) (Int.toNat ((nth v0records (Int.toNat (v4il1))).kind))) + ((nth v0records (Int.toNat (v4il1))).units))) 1, nth (setN ([o1c1l1, o1c2l1, o1c3l1, o1c4l1, o1c5l1] : List Int) 5 (Int.toNat ((nth v0records (Int.toNat (v4il1))).kind)) ((nth ([o1c1l1, o1c2l1, o1c3l1, o1c4l1, o1c5l1] : List Int) (Int.toNat ((nth v0records (Int.toNat (v4il1))).kind))) + ((nth v0records (Int.toNat (v4il1))).units))) 2, nth (setN ([o1c1l1, o1c2l1, o1c3l1, o1c4l1, o1c5l1] : List Int) 5 (Int.toNat ((nth v0records (Int.toNat (v4il1))).kind)) ((nth ([o1c1l1, o1c2l1, o1c3l1, o1c4l1, o1c5l1] : List Int) (Int.toNat ((nth v0records (Int.toNat (v4il1))).kind))) + ((nth v0records (Int.toNat (v4il1))).units))) 3, nth (setN ([o1c1l1, o1c2l1, o1c3l1, o1c4l1, o1c5l1] : List Int) 5 (Int.toNat ((nth v0records (Int.toNat (v4il1))).kind)) ((nth ([o1c1l1, o1c2l1, o1c3l1, o1c4l1, o1c5l1] : List Int) (Int.toNat ((nth v0records (Int.toNat (v4il1))).kind))) + ((nth v0records (Int.toNat (v4il1))).units))) 4))))))))) else ck ((-9223372036854775808 : Int) ≤ v4il1 + 1 ∧ v4il1 + 1 ≤ (9223372036854775807 : Int)) (some (.inl (v4il1 + 1, o1c1l1, o1c2l1, o1c3l1, o1c4l1, o1c5l1))))) else some (.inr (⟨(v0records.length : Int), ([o1c1l1, o1c2l1, o1c3l1, o1c4l1, o1c5l1] : List Int)⟩ : Totals))
def f_billingref12_Totals (v0records : List Record) : Option Totals :=
  loop (fun s => f_billingref12_Totals_l1 v0records s.1 s.2.1 s.2.2.1 s.2.2.2.1 s.2.2.2.2.1 s.2.2.2.2.2) (0, 0, 0, 0, 0, 0)
def f_billinglaw12_BatchTotals_l1 (y4 : Totals) (y5 : Totals) (y6 : Totals) (v8kl1 : Int) : Option ((Int) ⊕ Bool) :=
  if (decide (v8kl1 < 5)) = true then (ck ((0 : Int) ≤ v8kl1 ∧ v8kl1 < (5 : Int)) (ck (Int.toNat (v8kl1) < 5) (ck ((0 : Int) ≤ v8kl1 ∧ v8kl1 < (5 : Int)) (ck (Int.toNat (v8kl1) < 5) (ck ((0 : Int) ≤ v8kl1 ∧ v8kl1 < (5 : Int)) (ck (Int.toNat (v8kl1) < 5) (ck ((-9223372036854775808 : Int) ≤ (nth y4.units (Int.toNat (v8kl1))) + (nth y5.units (Int.toNat (v8kl1))) ∧ (nth y4.units (Int.toNat (v8kl1))) + (nth y5.units (Int.toNat (v8kl1))) ≤ (9223372036854775807 : Int)) (if ((nth y6.units (Int.toNat (v8kl1))) != ((nth y4.units (Int.toNat (v8kl1))) + (nth y5.units (Int.toNat (v8kl1))))) = true then some (.inr false) else ck ((-9223372036854775808 : Int) ≤ v8kl1 + 1 ∧ v8kl1 + 1 ≤ (9223372036854775807 : Int)) (some (.inl (v8kl1 + 1))))))))))) else (f_billinglaw12_awake).bind fun y8 => some (.inr y8)
def f_billinglaw12_BatchTotals (v0a : List Record) (v1b : List Record) : Option Bool :=
  (f_billinglaw12_few v0a).bind fun y1 => (gcall (!(!y1)) (f_billinglaw12_few v1b)).bind fun y2 => if ((!y1) || (!y2)) = true then ((f_billinglaw12_awake).bind fun y3 => some y3) else (f_batch_Totals v0a).bind fun y4 => (f_batch_Totals v1b).bind fun y5 => ck (([] : List Record).length + v0a.length ≤ 1000000000) (ck ((([] : List Record) ++ v0a).length + v1b.length ≤ 1000000000) ((f_batch_Totals ((([] : List Record) ++ v0a) ++ v1b)).bind fun y6 => (f_billingref12_Totals v0a).bind fun y7 => ck ((!(!(eqVs (Totals.vals y4) (Totals.vals y7)))) = true → ((-9223372036854775808 : Int) ≤ y4.count + y5.count ∧ y4.count + y5.count ≤ (9223372036854775807 : Int))) (if ((!(eqVs (Totals.vals y4) (Totals.vals y7))) || (y6.count != (y4.count + y5.count))) = true then some false else loop (fun s => f_billinglaw12_BatchTotals_l1 y4 y5 y6 s) 0)))
def f_billingref12_head (v0source : Int) (v1number : Int) (v2format : Int) : Option Int :=
  if ((((decide (v0source < 1)) || (decide (v0source > 99))) || (decide (v1number < 1))) || (decide (v1number > 999999999))) = true then some 6 else if ((decide (v2format < 1)) || (decide (v2format ≥ 4))) = true then some 7 else some 0
def f_billingref09_in (v0n : Int) (v1low : Int) (v2high : Int) : Option Bool :=
  some ((decide (v0n ≥ v1low)) && (decide (v0n ≤ v2high)))
def f_billingref02_Valid_j1 (v0s : List UInt8) : Option Bool :=
  some ((decide ((v0s.length : Int) ≥ 1)) && (decide ((v0s.length : Int) ≤ 15)))
def f_billingref02_Valid_l1 (v0s : List UInt8) (v3il1 : Int) : Option ((Int) ⊕ Bool) :=
  if (decide (v3il1 < (v0s.length : Int))) = true then (ck ((0 : Int) ≤ v3il1 ∧ v3il1 < (v0s.length : Int)) (ck ((!(decide ((nth v0s (Int.toNat (v3il1))) < 48))) = true → ((0 : Int) ≤ v3il1 ∧ v3il1 < (v0s.length : Int))) (if ((decide ((nth v0s (Int.toNat (v3il1))) < 48)) || (decide ((nth v0s (Int.toNat (v3il1))) > 57))) = true then some (.inr false) else ck ((-9223372036854775808 : Int) ≤ v3il1 + 1 ∧ v3il1 + 1 ≤ (9223372036854775807 : Int)) (some (.inl (v3il1 + 1)))))) else (f_billingref02_Valid_j1 v0s).map (fun z => .inr z)
def f_billingref02_Valid (v0s : List UInt8) : Option Bool :=
  loop (fun s => f_billingref02_Valid_l1 v0s s) 0
def f_billingref09_Error (v0 : Record) : Option Int :=
  (f_billingref09_in v0.source 1 99).bind fun y1 => (gcall (!(!y1)) (f_billingref09_in v0.serial 1 999999999)).bind fun y2 => if ((!y1) || (!y2)) = true then some 6 else (f_billingref09_in v0.kind 1 4).bind fun y3 => if (!y3) = true then some 7 else (f_billingref02_Valid v0.a).bind fun y4 => if (!y4) = true then some 12 else (f_billingref02_Valid v0.b).bind fun y5 => if ((!y5) && ((v0.b != ([] : List UInt8)) || ((v0.kind != 3) && (v0.kind != 4)))) = true then some 12 else (f_billingref09_in v0.start 0 12622780799).bind fun y6 => if (!y6) = true then some 15 else (f_billingref09_in v0.units 0 1099511627776).bind fun y7 => if ((!y7) || ((v0.kind == 1) && (decide (v0.units > 604800)))) = true then some 6 else ck ((v0.kind == 1) = true → ((-9223372036854775808 : Int) ≤ v0.start + v0.units ∧ v0.start + v0.units ≤ (9223372036854775807 : Int))) (if ((v0.kind == 1) && (decide ((v0.start + v0.units) > 12622780800))) = true then some 15 else (f_billingref09_in v0.call 0 999999999).bind fun y8 => (gcall (!(!y8)) (f_billingref09_in v0.part 0 99)).bind fun y9 => if ((!y8) || (!y9)) = true then some 6 else if (((v0.part == 0) != (v0.call == 0)) || (v0.last && (v0.part == 0))) = true then some 8 else (f_billingref09_in v0.trunk 0 999).bind fun y10 => if (!y10) = true then some 6 else if (v0.inbound && (v0.trunk == 0)) = true then some 8 else some 0)
def f_billingref12_Check_l1 (v0b : Batch) (v4il1 : Int) : Option ((Int) ⊕ Int) :=
  if (decide (v4il1 < (v0b.records.length : Int))) = true then (ck ((0 : Int) ≤ v4il1 ∧ v4il1 < (v0b.records.length : Int)) ((f_billingref09_Error (nth v0b.records (Int.toNat (v4il1)))).bind fun y2 => if (y2 != 0) = true then some (.inr y2) else ck ((0 : Int) ≤ v4il1 ∧ v4il1 < (v0b.records.length : Int)) (if (((nth v0b.records (Int.toNat (v4il1))).source) != v0b.source) = true then some (.inr 8) else ck ((-9223372036854775808 : Int) ≤ v4il1 + 1 ∧ v4il1 + 1 ≤ (9223372036854775807 : Int)) (some (.inl (v4il1 + 1)))))) else some (.inr 0)
def f_billingref12_Check (v0b : Batch) : Option Int :=
  (f_billingref12_head v0b.source v0b.number v0b.format).bind fun y1 => if (y1 != 0) = true then some y1 else if (decide ((v0b.records.length : Int) > 4096)) = true then some 5 else loop (fun s => f_billingref12_Check_l1 v0b s) 0
def f_billinglaw12_BatchLengths_j1 (v0b : Batch) (y0tj1 : List Record) : Option Bool :=
  (f_batch_Check (⟨v0b.source, v0b.number, v0b.format, y0tj1⟩ : Batch)).bind fun y2 => (f_billingref12_Check (⟨v0b.source, v0b.number, v0b.format, y0tj1⟩ : Batch)).bind fun y3 => (gcall (y2 == y3) (f_billinglaw12_awake)).bind fun y4 => some ((y2 == y3) && y4)
def f_billinglaw12_BatchLengths_l1 (v0b : Batch) (v1r : Record) (y0tl1 : List Record) (v8il1 : Int) : Option ((List Record × Int) ⊕ Bool) :=
  if (decide (v8il1 < (y0tl1.length : Int))) = true then (ck ((0 : Int) ≤ v8il1 ∧ v8il1 < (y0tl1.length : Int)) (ck (Int.toNat (v8il1) < y0tl1.length) (ck ((-9223372036854775808 : Int) ≤ v8il1 + 1 ∧ v8il1 + 1 ≤ (9223372036854775807 : Int)) (some (.inl (y0tl1.set (Int.toNat (v8il1)) v1r, v8il1 + 1)))))) else (f_billinglaw12_BatchLengths_j1 v0b y0tl1).map (fun z => .inr z)
def f_billinglaw12_BatchLengths (v0b : Batch) (v1r : Record) (v2more : Int) : Option Bool :=
  if (((((decide ((v0b.records.length : Int) > 0)) || (decide (v2more < (-2)))) || (decide (v2more > 2))) || (decide ((v1r.a.length : Int) > 20))) || (decide ((v1r.b.length : Int) > 20))) = true then ((f_billinglaw12_awake).bind fun y1 => some y1) else ck ((-9223372036854775808 : Int) ≤ 4096 + v2more ∧ 4096 + v2more ≤ (9223372036854775807 : Int)) (ck ((0 : Int) ≤ (4096 + v2more) ∧ (4096 + v2more) ≤ (4096 + v2more) ∧ (4096 + v2more) ≤ (1000000000 : Int)) (loop (fun s => f_billinglaw12_BatchLengths_l1 v0b v1r s.1 s.2) ((List.replicate (Int.toNat (4096 + v2more)) (⟨0, 0, 0, ([] : List UInt8), ([] : List UInt8), 0, 0, 0, 0, false, 0, false⟩ : Record) : List Record), 0)))
def f_billingref09_Number_l1 (v0nl1 : Int) (v3sl1 : List UInt8) : Option ((Int × List UInt8) ⊕ (List UInt8)) :=
  if (decide (v0nl1 > 0)) = true then (ck (10 ≠ (0 : Int)) (ck ((-9223372036854775808 : Int) ≤ 48 + (Int.tmod v0nl1 10) ∧ 48 + (Int.tmod v0nl1 10) ≤ (9223372036854775807 : Int)) (ck (([UInt8.ofInt (48 + (Int.tmod v0nl1 10))] : List UInt8).length + v3sl1.length ≤ 9223372036854775807) (ck (10 ≠ (0 : Int) ∧ (-9223372036854775808 : Int) ≤ Int.tdiv v0nl1 10 ∧ Int.tdiv v0nl1 10 ≤ (9223372036854775807 : Int)) (some (.inl (Int.tdiv v0nl1 10, ([UInt8.ofInt (48 + (Int.tmod v0nl1 10))] : List UInt8) ++ v3sl1))))))) else some (.inr v3sl1)
def f_billingref09_Number (v0n : Int) : Option (List UInt8) :=
  ck (10 ≠ (0 : Int)) (ck ((-9223372036854775808 : Int) ≤ 48 + (Int.tmod v0n 10) ∧ 48 + (Int.tmod v0n 10) ≤ (9223372036854775807 : Int)) (ck (10 ≠ (0 : Int) ∧ (-9223372036854775808 : Int) ≤ Int.tdiv v0n 10 ∧ Int.tdiv v0n 10 ≤ (9223372036854775807 : Int)) (loop (fun s => f_billingref09_Number_l1 s.1 s.2) (Int.tdiv v0n 10, ([UInt8.ofInt (48 + (Int.tmod v0n 10))] : List UInt8)))))
def f_billingref09_Encode_j4 (v0 : Record) (v7j4 : List UInt8) : Option ((List UInt8) × Int) :=
  if ((decide (v0.trunk > 0)) && (!v0.inbound)) = true then (ck (v7j4.length + ([32, 111, 117, 116, 32] : List UInt8).length ≤ 9223372036854775807) ((f_billingref09_Number v0.trunk).bind fun y6 => ck ((v7j4 ++ ([32, 111, 117, 116, 32] : List UInt8)).length + y6.length ≤ 9223372036854775807) (some ((v7j4 ++ ([32, 111, 117, 116, 32] : List UInt8)) ++ y6, 0)))) else some (v7j4, 0)
def f_billingref09_Encode_j3 (v0 : Record) (v7j3 : List UInt8) : Option ((List UInt8) × Int) :=
  if ((decide (v0.trunk > 0)) && v0.inbound) = true then (ck (v7j3.length + ([32, 105, 110, 32] : List UInt8).length ≤ 9223372036854775807) ((f_billingref09_Number v0.trunk).bind fun y7 => ck ((v7j3 ++ ([32, 105, 110, 32] : List UInt8)).length + y7.length ≤ 9223372036854775807) (f_billingref09_Encode_j4 v0 ((v7j3 ++ ([32, 105, 110, 32] : List UInt8)) ++ y7)))) else f_billingref09_Encode_j4 v0 v7j3
def f_billingref09_Encode_j2 (v0 : Record) (v7j2 : List UInt8) : Option ((List UInt8) × Int) :=
  if v0.last = true then (ck (v7j2.length + ([32, 108, 97, 115, 116] : List UInt8).length ≤ 9223372036854775807) (f_billingref09_Encode_j3 v0 (v7j2 ++ ([32, 108, 97, 115, 116] : List UInt8)))) else f_billingref09_Encode_j3 v0 v7j2
def f_billingref09_Encode_j1 (v0 : Record) (v6j1 : List UInt8) : Option ((List UInt8) × Int) :=
  ck ((-9223372036854775808 : Int) ≤ v0.kind - 1 ∧ v0.kind - 1 ≤ (9223372036854775807 : Int)) (ck ((0 : Int) ≤ v0.kind - 1 ∧ v0.kind - 1 ≤ v0.kind ∧ v0.kind ≤ (([118, 116, 100, 99] : List UInt8).length : Int)) (ck (((([118, 116, 100, 99] : List UInt8).take (Int.toNat (v0.kind))).drop (Int.toNat (v0.kind - 1))).length + ([32] : List UInt8).length ≤ 9223372036854775807) ((f_billingref09_Number v0.source).bind fun y2 => ck ((((([118, 116, 100, 99] : List UInt8).take (Int.toNat (v0.kind))).drop (Int.toNat (v0.kind - 1))) ++ ([32] : List UInt8)).length + y2.length ≤ 9223372036854775807) (ck (((((([118, 116, 100, 99] : List UInt8).take (Int.toNat (v0.kind))).drop (Int.toNat (v0.kind - 1))) ++ ([32] : List UInt8)) ++ y2).length + ([32] : List UInt8).length ≤ 9223372036854775807) ((f_billingref09_Number v0.serial).bind fun y3 => ck ((((((([118, 116, 100, 99] : List UInt8).take (Int.toNat (v0.kind))).drop (Int.toNat (v0.kind - 1))) ++ ([32] : List UInt8)) ++ y2) ++ ([32] : List UInt8)).length + y3.length ≤ 9223372036854775807) (ck (((((((([118, 116, 100, 99] : List UInt8).take (Int.toNat (v0.kind))).drop (Int.toNat (v0.kind - 1))) ++ ([32] : List UInt8)) ++ y2) ++ ([32] : List UInt8)) ++ y3).length + ([32] : List UInt8).length ≤ 9223372036854775807) (ck ((((((((([118, 116, 100, 99] : List UInt8).take (Int.toNat (v0.kind))).drop (Int.toNat (v0.kind - 1))) ++ ([32] : List UInt8)) ++ y2) ++ ([32] : List UInt8)) ++ y3) ++ ([32] : List UInt8)).length + v0.a.length ≤ 9223372036854775807) (ck (((((((((([118, 116, 100, 99] : List UInt8).take (Int.toNat (v0.kind))).drop (Int.toNat (v0.kind - 1))) ++ ([32] : List UInt8)) ++ y2) ++ ([32] : List UInt8)) ++ y3) ++ ([32] : List UInt8)) ++ v0.a).length + ([32] : List UInt8).length ≤ 9223372036854775807) (ck ((((((((((([118, 116, 100, 99] : List UInt8).take (Int.toNat (v0.kind))).drop (Int.toNat (v0.kind - 1))) ++ ([32] : List UInt8)) ++ y2) ++ ([32] : List UInt8)) ++ y3) ++ ([32] : List UInt8)) ++ v0.a) ++ ([32] : List UInt8)).length + v6j1.length ≤ 9223372036854775807) (ck (((((((((((([118, 116, 100, 99] : List UInt8).take (Int.toNat (v0.kind))).drop (Int.toNat (v0.kind - 1))) ++ ([32] : List UInt8)) ++ y2) ++ ([32] : List UInt8)) ++ y3) ++ ([32] : List UInt8)) ++ v0.a) ++ ([32] : List UInt8)) ++ v6j1).length + ([32] : List UInt8).length ≤ 9223372036854775807) ((f_billingref09_Number v0.start).bind fun y4 => ck ((((((((((((([118, 116, 100, 99] : List UInt8).take (Int.toNat (v0.kind))).drop (Int.toNat (v0.kind - 1))) ++ ([32] : List UInt8)) ++ y2) ++ ([32] : List UInt8)) ++ y3) ++ ([32] : List UInt8)) ++ v0.a) ++ ([32] : List UInt8)) ++ v6j1) ++ ([32] : List UInt8)).length + y4.length ≤ 9223372036854775807) (ck (((((((((((((([118, 116, 100, 99] : List UInt8).take (Int.toNat (v0.kind))).drop (Int.toNat (v0.kind - 1))) ++ ([32] : List UInt8)) ++ y2) ++ ([32] : List UInt8)) ++ y3) ++ ([32] : List UInt8)) ++ v0.a) ++ ([32] : List UInt8)) ++ v6j1) ++ ([32] : List UInt8)) ++ y4).length + ([32] : List UInt8).length ≤ 9223372036854775807) ((f_billingref09_Number v0.units).bind fun y5 => ck ((((((((((((((([118, 116, 100, 99] : List UInt8).take (Int.toNat (v0.kind))).drop (Int.toNat (v0.kind - 1))) ++ ([32] : List UInt8)) ++ y2) ++ ([32] : List UInt8)) ++ y3) ++ ([32] : List UInt8)) ++ v0.a) ++ ([32] : List UInt8)) ++ v6j1) ++ ([32] : List UInt8)) ++ y4) ++ ([32] : List UInt8)).length + y5.length ≤ 9223372036854775807) (if (decide (v0.part > 0)) = true then (ck (((((((((((((((([118, 116, 100, 99] : List UInt8).take (Int.toNat (v0.kind))).drop (Int.toNat (v0.kind - 1))) ++ ([32] : List UInt8)) ++ y2) ++ ([32] : List UInt8)) ++ y3) ++ ([32] : List UInt8)) ++ v0.a) ++ ([32] : List UInt8)) ++ v6j1) ++ ([32] : List UInt8)) ++ y4) ++ ([32] : List UInt8)) ++ y5).length + ([32, 112, 97, 114, 116, 32] : List UInt8).length ≤ 9223372036854775807) ((f_billingref09_Number v0.call).bind fun y8 => ck ((((((((((((((((([118, 116, 100, 99] : List UInt8).take (Int.toNat (v0.kind))).drop (Int.toNat (v0.kind - 1))) ++ ([32] : List UInt8)) ++ y2) ++ ([32] : List UInt8)) ++ y3) ++ ([32] : List UInt8)) ++ v0.a) ++ ([32] : List UInt8)) ++ v6j1) ++ ([32] : List UInt8)) ++ y4) ++ ([32] : List UInt8)) ++ y5) ++ ([32, 112, 97, 114, 116, 32] : List UInt8)).length + y8.length ≤ 9223372036854775807) (ck (((((((((((((((((([118, 116, 100, 99] : List UInt8).take (Int.toNat (v0.kind))).drop (Int.toNat (v0.kind - 1))) ++ ([32] : List UInt8)) ++ y2) ++ ([32] : List UInt8)) ++ y3) ++ ([32] : List UInt8)) ++ v0.a) ++ ([32] : List UInt8)) ++ v6j1) ++ ([32] : List UInt8)) ++ y4) ++ ([32] : List UInt8)) ++ y5) ++ ([32, 112, 97, 114, 116, 32] : List UInt8)) ++ y8).length + ([32] : List UInt8).length ≤ 9223372036854775807) ((f_billingref09_Number v0.part).bind fun y9 => ck ((((((((((((((((((([118, 116, 100, 99] : List UInt8).take (Int.toNat (v0.kind))).drop (Int.toNat (v0.kind - 1))) ++ ([32] : List UInt8)) ++ y2) ++ ([32] : List UInt8)) ++ y3) ++ ([32] : List UInt8)) ++ v0.a) ++ ([32] : List UInt8)) ++ v6j1) ++ ([32] : List UInt8)) ++ y4) ++ ([32] : List UInt8)) ++ y5) ++ ([32, 112, 97, 114, 116, 32] : List UInt8)) ++ y8) ++ ([32] : List UInt8)).length + y9.length ≤ 9223372036854775807) (f_billingref09_Encode_j2 v0 ((((((((((((((((((([118, 116, 100, 99] : List UInt8).take (Int.toNat (v0.kind))).drop (Int.toNat (v0.kind - 1))) ++ ([32] : List UInt8)) ++ y2) ++ ([32] : List UInt8)) ++ y3) ++ ([32] : List UInt8)) ++ v0.a) ++ ([32] : List UInt8)) ++ v6j1) ++ ([32] : List UInt8)) ++ y4) ++ ([32] : List UInt8)) ++ y5) ++ ([32, 112, 97, 114, 116, 32] : List UInt8)) ++ y8) ++ ([32] : List UInt8)) ++ y9)))))) else f_billingref09_Encode_j2 v0 ((((((((((((((([118, 116, 100, 99] : List UInt8).take (Int.toNat (v0.kind))).drop (Int.toNat (v0.kind - 1))) ++ ([32] : List UInt8)) ++ y2) ++ ([32] : List UInt8)) ++ y3) ++ ([32] : List UInt8)) ++ v0.a) ++ ([32] : List UInt8)) ++ v6j1) ++ ([32] : List UInt8)) ++ y4) ++ ([32] : List UInt8)) ++ y5)))))))))))))))
def f_billingref09_Encode (v0 : Record) : Option ((List UInt8) × Int) :=
  (f_billingref09_Error v0).bind fun y1 => if (y1 != 0) = true then some (([] : List UInt8), y1) else if (v0.b == ([] : List UInt8)) = true then (f_billingref09_Encode_j1 v0 ([45] : List UInt8)) else f_billingref09_Encode_j1 v0 v0.b
def f_billingref02_Pack_j1 (v0s : List UInt8) (v4outl1 : List UInt8) (v5il1 : Int) (v6lowj1 : UInt8) : Option ((List UInt8 × Int) ⊕ ((List UInt8) × Int)) :=
  ck ((0 : Int) ≤ v5il1 ∧ v5il1 < (v0s.length : Int)) (ck ((0 : Int) ≤ 4) (ck (v4outl1.length + ([(u8shl ((nth v0s (Int.toNat (v5il1))) - 48) 4) ||| v6lowj1] : List UInt8).length ≤ 1000000000) (ck ((-9223372036854775808 : Int) ≤ v5il1 + 2 ∧ v5il1 + 2 ≤ (9223372036854775807 : Int)) (some (.inl (v4outl1 ++ ([(u8shl ((nth v0s (Int.toNat (v5il1))) - 48) 4) ||| v6lowj1] : List UInt8), v5il1 + 2))))))
def f_billingref02_Pack_l1 (v0s : List UInt8) (v4outl1 : List UInt8) (v5il1 : Int) : Option ((List UInt8 × Int) ⊕ ((List UInt8) × Int)) :=
  if (decide (v5il1 < (v0s.length : Int))) = true then (ck ((-9223372036854775808 : Int) ≤ v5il1 + 1 ∧ v5il1 + 1 ≤ (9223372036854775807 : Int)) (if (decide ((v5il1 + 1) < (v0s.length : Int))) = true then (ck ((-9223372036854775808 : Int) ≤ v5il1 + 1 ∧ v5il1 + 1 ≤ (9223372036854775807 : Int)) (ck ((0 : Int) ≤ (v5il1 + 1) ∧ (v5il1 + 1) < (v0s.length : Int)) (f_billingref02_Pack_j1 v0s v4outl1 v5il1 ((nth v0s (Int.toNat (v5il1 + 1))) - 48)))) else f_billingref02_Pack_j1 v0s v4outl1 v5il1 15)) else some (.inr (v4outl1, 0))
def f_billingref02_Pack (v0s : List UInt8) : Option ((List UInt8) × Int) :=
  (f_billingref02_Valid v0s).bind fun y1 => if (!y1) = true then some (([] : List UInt8), 12) else loop (fun s => f_billingref02_Pack_l1 v0s s.1 s.2) (([] : List UInt8), 0)
def f_billingref10_shortest_l1 (v0nl1 : Int) (v3outl1 : List UInt8) : Option ((Int × List UInt8) ⊕ (List UInt8)) :=
  if (decide (v0nl1 > 0)) = true then (ck (256 ≠ (0 : Int)) (ck (([UInt8.ofInt (Int.tmod v0nl1 256)] : List UInt8).length + v3outl1.length ≤ 1000000000) (ck (256 ≠ (0 : Int) ∧ (-9223372036854775808 : Int) ≤ Int.tdiv v0nl1 256 ∧ Int.tdiv v0nl1 256 ≤ (9223372036854775807 : Int)) (some (.inl (Int.tdiv v0nl1 256, ([UInt8.ofInt (Int.tmod v0nl1 256)] : List UInt8) ++ v3outl1)))))) else some (.inr v3outl1)
def f_billingref10_shortest (v0n : Int) : Option (List UInt8) :=
  loop (fun s => f_billingref10_shortest_l1 s.1 s.2) (v0n, [])
def f_billingref10_flags_j1 (v0r : Record) (v3nj1 : Int) : Option Int :=
  if v0r.inbound = true then (ck ((-9223372036854775808 : Int) ≤ v3nj1 + 2 ∧ v3nj1 + 2 ≤ (9223372036854775807 : Int)) (some (v3nj1 + 2))) else some v3nj1
def f_billingref10_flags (v0r : Record) : Option Int :=
  if v0r.last = true then (ck ((-9223372036854775808 : Int) ≤ 0 + 1 ∧ 0 + 1 ≤ (9223372036854775807 : Int)) (f_billingref10_flags_j1 v0r (0 + 1))) else f_billingref10_flags_j1 v0r 0
def f_billingref10_Build_l1 (v0list : List Element) (v4outl1 : List UInt8) (v5lastl1 : Int) (v6il1 : Int) : Option ((List UInt8 × Int × Int) ⊕ ((List UInt8) × Int)) :=
  if (decide (v6il1 < (v0list.length : Int))) = true then (ck ((0 : Int) ≤ v6il1 ∧ v6il1 < (v0list.length : Int)) (if ((decide (((nth v0list (Int.toNat (v6il1))).tag) < 1)) || (decide (((nth v0list (Int.toNat (v6il1))).tag) > 255))) = true then some (.inr (([] : List UInt8), 6)) else if (decide (((nth v0list (Int.toNat (v6il1))).tag) ≤ v5lastl1)) = true then some (.inr (([] : List UInt8), 9)) else if (decide ((((nth v0list (Int.toNat (v6il1))).value).length : Int) > 255)) = true then some (.inr (([] : List UInt8), 5)) else ck (v4outl1.length + ([UInt8.ofInt ((nth v0list (Int.toNat (v6il1))).tag), UInt8.ofInt (((nth v0list (Int.toNat (v6il1))).value).length : Int)] : List UInt8).length ≤ 1000000000) (ck ((v4outl1 ++ ([UInt8.ofInt ((nth v0list (Int.toNat (v6il1))).tag), UInt8.ofInt (((nth v0list (Int.toNat (v6il1))).value).length : Int)] : List UInt8)).length + ((nth v0list (Int.toNat (v6il1))).value).length ≤ 1000000000) (ck ((-9223372036854775808 : Int) ≤ v6il1 + 1 ∧ v6il1 + 1 ≤ (9223372036854775807 : Int)) (some (.inl ((v4outl1 ++ ([UInt8.ofInt ((nth v0list (Int.toNat (v6il1))).tag), UInt8.ofInt (((nth v0list (Int.toNat (v6il1))).value).length : Int)] : List UInt8)) ++ ((nth v0list (Int.toNat (v6il1))).value), (nth v0list (Int.toNat (v6il1))).tag, v6il1 + 1))))))) else some (.inr (v4outl1, 0))
def f_billingref10_Build (v0list : List Element) : Option ((List UInt8) × Int) :=
  loop (fun s => f_billingref10_Build_l1 v0list s.1 s.2.1 s.2.2) (([] : List UInt8), 0, 0)
def f_billingref10_Encode_j2 (v9j2 : List Element) : Option ((List UInt8) × Int) :=
  (f_billingref10_Build v9j2).bind fun y13 => ck (256 ≠ (0 : Int) ∧ (-9223372036854775808 : Int) ≤ Int.tdiv (y13.1.length : Int) 256 ∧ Int.tdiv (y13.1.length : Int) 256 ≤ (9223372036854775807 : Int)) (ck (256 ≠ (0 : Int)) (ck (([UInt8.ofInt (Int.tdiv (y13.1.length : Int) 256), UInt8.ofInt (Int.tmod (y13.1.length : Int) 256)] : List UInt8).length + y13.1.length ≤ 1000000000) (some (([UInt8.ofInt (Int.tdiv (y13.1.length : Int) 256), UInt8.ofInt (Int.tmod (y13.1.length : Int) 256)] : List UInt8) ++ y13.1, 0))))
def f_billingref10_Encode_l1 (y2 : (List UInt8) × Int) (v7j1 : List UInt8) (y3 : (List UInt8)) (y4 : (List UInt8)) (y5 : (List UInt8)) (y6 : (List UInt8)) (y7 : (List UInt8)) (y8 : (List UInt8)) (y9 : (List UInt8)) (y10 : (List UInt8)) (y12 : (List UInt8)) (v9l1 : List Element) (v10l1 : Int) : Option ((List Element × Int) ⊕ ((List UInt8) × Int)) :=
  if (decide (v10l1 < (([([] : List UInt8), y3, y4, y5, y2.1, v7j1, y6, y7, y8, y9, y10, y12] : List (List UInt8)).length : Int))) = true then (ck ((0 : Int) ≤ v10l1 ∧ v10l1 < (([([] : List UInt8), y3, y4, y5, y2.1, v7j1, y6, y7, y8, y9, y10, y12] : List (List UInt8)).length : Int)) (if (decide (((nth ([([] : List UInt8), y3, y4, y5, y2.1, v7j1, y6, y7, y8, y9, y10, y12] : List (List UInt8)) (Int.toNat (v10l1))).length : Int) > 0)) = true then (ck ((0 : Int) ≤ v10l1 ∧ v10l1 < (([([] : List UInt8), y3, y4, y5, y2.1, v7j1, y6, y7, y8, y9, y10, y12] : List (List UInt8)).length : Int)) (ck (v9l1.length + ([(⟨v10l1, nth ([([] : List UInt8), y3, y4, y5, y2.1, v7j1, y6, y7, y8, y9, y10, y12] : List (List UInt8)) (Int.toNat (v10l1))⟩ : Element)] : List Element).length ≤ 1000000000) (ck ((-9223372036854775808 : Int) ≤ v10l1 + 1 ∧ v10l1 + 1 ≤ (9223372036854775807 : Int)) (some (.inl (v9l1 ++ ([(⟨v10l1, nth ([([] : List UInt8), y3, y4, y5, y2.1, v7j1, y6, y7, y8, y9, y10, y12] : List (List UInt8)) (Int.toNat (v10l1))⟩ : Element)] : List Element), v10l1 + 1)))))) else ck ((-9223372036854775808 : Int) ≤ v10l1 + 1 ∧ v10l1 + 1 ≤ (9223372036854775807 : Int)) (some (.inl (v9l1, v10l1 + 1))))) else (f_billingref10_Encode_j2 v9l1).map (fun z => .inr z)
def f_billingref10_Encode_j1 (v0 : Record) (y2 : (List UInt8) × Int) (v7j1 : List UInt8) : Option ((List UInt8) × Int) :=
  (f_billingref10_shortest v0.kind).bind fun y3 => (f_billingref10_shortest v0.source).bind fun y4 => (f_billingref10_shortest v0.serial).bind fun y5 => (f_billingref10_shortest v0.start).bind fun y6 => (f_billingref10_shortest v0.units).bind fun y7 => (f_billingref10_shortest v0.call).bind fun y8 => (f_billingref10_shortest v0.part).bind fun y9 => (f_billingref10_shortest v0.trunk).bind fun y10 => (f_billingref10_flags v0).bind fun y11 => (f_billingref10_shortest y11).bind fun y12 => loop (fun s => f_billingref10_Encode_l1 y2 v7j1 y3 y4 y5 y6 y7 y8 y9 y10 y12 s.1 s.2) (([] : List Element), 1)
def f_billingref10_Encode (v0 : Record) : Option ((List UInt8) × Int) :=
  (f_billingref09_Error v0).bind fun y1 => if (y1 != 0) = true then some (([] : List UInt8), y1) else (f_billingref02_Pack v0.a).bind fun y2 => if (v0.b != ([] : List UInt8)) = true then ((f_billingref02_Pack v0.b).bind fun y14 => f_billingref10_Encode_j1 v0 y2 y14.1) else f_billingref10_Encode_j1 v0 y2 []
def f_billingref11_PutDecimal_j1 (v0b : List UInt8) (y0tj1 : List UInt8) (v1nj1 : Int) : Option ((List UInt8) × Int) :=
  if (decide (v1nj1 > 0)) = true then some (([] : List UInt8), 6) else ck (([] : List UInt8).length + v0b.length ≤ 1000000000) (ck ((([] : List UInt8) ++ v0b).length + y0tj1.length ≤ 1000000000) (some ((([] : List UInt8) ++ v0b) ++ y0tj1, 0)))
def f_billingref11_PutDecimal_l1 (v0b : List UInt8) (y0tl1 : List UInt8) (v1nl1 : Int) (v9il1 : Int) : Option ((List UInt8 × Int × Int) ⊕ ((List UInt8) × Int)) :=
  if (decide (v9il1 ≥ 0)) = true then (ck (10 ≠ (0 : Int) ∧ (-9223372036854775808 : Int) ≤ Int.tdiv v1nl1 10 ∧ Int.tdiv v1nl1 10 ≤ (9223372036854775807 : Int)) (ck (10 ≠ (0 : Int)) (ck ((-9223372036854775808 : Int) ≤ (Int.tmod (Int.tdiv v1nl1 10) 10) * 16 ∧ (Int.tmod (Int.tdiv v1nl1 10) 10) * 16 ≤ (9223372036854775807 : Int)) (ck (10 ≠ (0 : Int)) (ck ((-9223372036854775808 : Int) ≤ ((Int.tmod (Int.tdiv v1nl1 10) 10) * 16) + (Int.tmod v1nl1 10) ∧ ((Int.tmod (Int.tdiv v1nl1 10) 10) * 16) + (Int.tmod v1nl1 10) ≤ (9223372036854775807 : Int)) (ck ((0 : Int) ≤ v9il1 ∧ v9il1 < (y0tl1.length : Int)) (ck (Int.toNat (v9il1) < y0tl1.length) (ck (100 ≠ (0 : Int) ∧ (-9223372036854775808 : Int) ≤ Int.tdiv v1nl1 100 ∧ Int.tdiv v1nl1 100 ≤ (9223372036854775807 : Int)) (ck ((-9223372036854775808 : Int) ≤ v9il1 - 1 ∧ v9il1 - 1 ≤ (9223372036854775807 : Int)) (some (.inl (y0tl1.set (Int.toNat (v9il1)) (UInt8.ofInt (((Int.tmod (Int.tdiv v1nl1 10) 10) * 16) + (Int.tmod v1nl1 10))), Int.tdiv v1nl1 100, v9il1 - 1)))))))))))) else (f_billingref11_PutDecimal_j1 v0b y0tl1 v1nl1).map (fun z => .inr z)
def f_billingref11_PutDecimal (v0b : List UInt8) (v1n : Int) (v2size : Int) : Option ((List UInt8) × Int) :=
  if (((decide (v2size < 1)) || (decide (v2size > 9))) || (decide (v1n < 0))) = true then some (([] : List UInt8), 6) else ck ((0 : Int) ≤ v2size ∧ v2size ≤ v2size ∧ v2size ≤ (1000000000 : Int)) (ck ((-9223372036854775808 : Int) ≤ v2size - 1 ∧ v2size - 1 ≤ (9223372036854775807 : Int)) (loop (fun s => f_billingref11_PutDecimal_l1 v0b s.1 s.2.1 s.2.2) ((List.replicate (Int.toNat (v2size)) 0 : List UInt8), v1n, v2size - 1)))
def f_billingref11_digits_l1 (v0s : List UInt8) (y0tl1 : List UInt8) (v4il1 : Int) : Option ((List UInt8 × Int) ⊕ (List UInt8)) :=
  if (decide (v4il1 < (v0s.length : Int))) = true then (ck ((-9223372036854775808 : Int) ≤ v4il1 + 1 ∧ v4il1 + 1 ≤ (9223372036854775807 : Int)) (ck (2 ≠ (0 : Int)) (if ((Int.tmod (v4il1 + 1) 2) == 0) = true then (ck (2 ≠ (0 : Int) ∧ (-9223372036854775808 : Int) ≤ Int.tdiv (v4il1 + 1) 2 ∧ Int.tdiv (v4il1 + 1) 2 ≤ (9223372036854775807 : Int)) (ck (2 ≠ (0 : Int) ∧ (-9223372036854775808 : Int) ≤ Int.tdiv (v4il1 + 1) 2 ∧ Int.tdiv (v4il1 + 1) 2 ≤ (9223372036854775807 : Int)) (ck ((0 : Int) ≤ (Int.tdiv (v4il1 + 1) 2) ∧ (Int.tdiv (v4il1 + 1) 2) < (y0tl1.length : Int)) (ck (Int.toNat (Int.tdiv (v4il1 + 1) 2) < y0tl1.length) (ck ((0 : Int) ≤ v4il1 ∧ v4il1 < (v0s.length : Int)) (ck ((0 : Int) ≤ (Int.tdiv (v4il1 + 1) 2) ∧ (Int.tdiv (v4il1 + 1) 2) < (y0tl1.length : Int)) (ck (Int.toNat (Int.tdiv (v4il1 + 1) 2) < y0tl1.length) (ck ((-9223372036854775808 : Int) ≤ v4il1 + 1 ∧ v4il1 + 1 ≤ (9223372036854775807 : Int)) (some (.inl (y0tl1.set (Int.toNat (Int.tdiv (v4il1 + 1) 2)) ((nth y0tl1 (Int.toNat (Int.tdiv (v4il1 + 1) 2))) + (((nth v0s (Int.toNat (v4il1))) - 48) * 16)), v4il1 + 1))))))))))) else ck (2 ≠ (0 : Int) ∧ (-9223372036854775808 : Int) ≤ Int.tdiv (v4il1 + 1) 2 ∧ Int.tdiv (v4il1 + 1) 2 ≤ (9223372036854775807 : Int)) (ck (2 ≠ (0 : Int) ∧ (-9223372036854775808 : Int) ≤ Int.tdiv (v4il1 + 1) 2 ∧ Int.tdiv (v4il1 + 1) 2 ≤ (9223372036854775807 : Int)) (ck ((0 : Int) ≤ (Int.tdiv (v4il1 + 1) 2) ∧ (Int.tdiv (v4il1 + 1) 2) < (y0tl1.length : Int)) (ck (Int.toNat (Int.tdiv (v4il1 + 1) 2) < y0tl1.length) (ck ((0 : Int) ≤ v4il1 ∧ v4il1 < (v0s.length : Int)) (ck ((0 : Int) ≤ (Int.tdiv (v4il1 + 1) 2) ∧ (Int.tdiv (v4il1 + 1) 2) < (y0tl1.length : Int)) (ck (Int.toNat (Int.tdiv (v4il1 + 1) 2) < y0tl1.length) (ck ((-9223372036854775808 : Int) ≤ v4il1 + 1 ∧ v4il1 + 1 ≤ (9223372036854775807 : Int)) (some (.inl (y0tl1.set (Int.toNat (Int.tdiv (v4il1 + 1) 2)) ((nth y0tl1 (Int.toNat (Int.tdiv (v4il1 + 1) 2))) + ((nth v0s (Int.toNat (v4il1))) - 48)), v4il1 + 1))))))))))))) else some (.inr y0tl1)
def f_billingref11_digits (v0s : List UInt8) : Option (List UInt8) :=
  ck ((0 : Int) ≤ 8 ∧ (8 : Int) ≤ 8 ∧ 8 ≤ (1000000000 : Int)) (ck ((-9223372036854775808 : Int) ≤ (v0s.length : Int) * 16 ∧ (v0s.length : Int) * 16 ≤ (9223372036854775807 : Int)) (ck ((0 : Int) ≤ 0 ∧ 0 < ((List.replicate (Int.toNat (8)) 0 : List UInt8).length : Int)) (ck (Int.toNat (0) < (List.replicate (Int.toNat (8)) 0 : List UInt8).length) (loop (fun s => f_billingref11_digits_l1 v0s s.1 s.2) ((List.replicate (Int.toNat (8)) 0 : List UInt8).set (Int.toNat (0)) (UInt8.ofInt ((v0s.length : Int) * 16)), 0)))))
def f_billingref11_sum_l1 (v0b : List UInt8) (v3nl1 : Int) (v4il1 : Int) : Option ((Int × Int) ⊕ UInt8) :=
  if (decide (v4il1 < (v0b.length : Int))) = true then (ck ((0 : Int) ≤ v4il1 ∧ v4il1 < (v0b.length : Int)) (ck ((-9223372036854775808 : Int) ≤ v3nl1 + ((nth v0b (Int.toNat (v4il1))).toNat : Int) ∧ v3nl1 + ((nth v0b (Int.toNat (v4il1))).toNat : Int) ≤ (9223372036854775807 : Int)) (ck (256 ≠ (0 : Int)) (ck ((-9223372036854775808 : Int) ≤ v4il1 + 1 ∧ v4il1 + 1 ≤ (9223372036854775807 : Int)) (some (.inl (Int.tmod (v3nl1 + ((nth v0b (Int.toNat (v4il1))).toNat : Int)) 256, v4il1 + 1))))))) else some (.inr (UInt8.ofInt v3nl1))
def f_billingref11_sum (v0b : List UInt8) : Option UInt8 :=
  loop (fun s => f_billingref11_sum_l1 v0b s.1 s.2) (0, 0)
def f_billingref11_Encode_j2 (v0 : Record) (v5j2 : Int) : Option ((List UInt8) × Int) :=
  (f_billingref11_PutDecimal ([] : List UInt8) v0.source 1).bind fun y2 => (f_billingref11_PutDecimal y2.1 v0.serial 5).bind fun y3 => ck ((-9223372036854775808 : Int) ≤ v0.kind * 16 ∧ v0.kind * 16 ≤ (9223372036854775807 : Int)) (ck ((-9223372036854775808 : Int) ≤ (v0.kind * 16) + v5j2 ∧ (v0.kind * 16) + v5j2 ≤ (9223372036854775807 : Int)) (ck (y3.1.length + ([UInt8.ofInt ((v0.kind * 16) + v5j2)] : List UInt8).length ≤ 1000000000) ((f_billingref11_digits v0.a).bind fun y4 => ck ((y3.1 ++ ([UInt8.ofInt ((v0.kind * 16) + v5j2)] : List UInt8)).length + y4.length ≤ 1000000000) ((f_billingref11_digits v0.b).bind fun y5 => ck (((y3.1 ++ ([UInt8.ofInt ((v0.kind * 16) + v5j2)] : List UInt8)) ++ y4).length + y5.length ≤ 1000000000) ((f_billingref11_PutDecimal (((y3.1 ++ ([UInt8.ofInt ((v0.kind * 16) + v5j2)] : List UInt8)) ++ y4) ++ y5) v0.start 6).bind fun y6 => (f_billingref11_PutDecimal y6.1 v0.units 7).bind fun y7 => (f_billingref11_PutDecimal y7.1 v0.call 5).bind fun y8 => (f_billingref11_PutDecimal y8.1 v0.part 1).bind fun y9 => (f_billingref11_PutDecimal y9.1 v0.trunk 2).bind fun y10 => (f_billingref11_sum y10.1).bind fun y11 => ck (y10.1.length + ([y11] : List UInt8).length ≤ 1000000000) (some (y10.1 ++ ([y11] : List UInt8), 0)))))))
def f_billingref11_Encode_j1 (v0 : Record) (v5j1 : Int) : Option ((List UInt8) × Int) :=
  if v0.inbound = true then (ck ((-9223372036854775808 : Int) ≤ v5j1 + 2 ∧ v5j1 + 2 ≤ (9223372036854775807 : Int)) (f_billingref11_Encode_j2 v0 (v5j1 + 2))) else f_billingref11_Encode_j2 v0 v5j1
def f_billingref11_Encode (v0 : Record) : Option ((List UInt8) × Int) :=
  (f_billingref09_Error v0).bind fun y1 => if (y1 != 0) = true then some (([] : List UInt8), y1) else if v0.last = true then (ck ((-9223372036854775808 : Int) ≤ 0 + 1 ∧ 0 + 1 ≤ (9223372036854775807 : Int)) (f_billingref11_Encode_j1 v0 (0 + 1))) else f_billingref11_Encode_j1 v0 0
def f_billingref07_Bytes_j2 (v3uj2 : Int) (v4outj2 : List UInt8) : Option (List UInt8) :=
  ck (v4outj2.length + ([UInt8.ofInt v3uj2] : List UInt8).length ≤ 1000000000) (some (v4outj2 ++ ([UInt8.ofInt v3uj2] : List UInt8)))
def f_billingref07_Bytes_l1 (v3ul1 : Int) (v4outl1 : List UInt8) : Option ((Int × List UInt8) ⊕ (List UInt8)) :=
  if (decide (v3ul1 > 127)) = true then (ck (128 ≠ (0 : Int)) (ck (v4outl1.length + ([UInt8.ofInt (IntKind.wrap .u64 (128 + (Int.tmod v3ul1 128)))] : List UInt8).length ≤ 1000000000) (ck (128 ≠ (0 : Int)) (some (.inl (IntKind.wrap .u64 (Int.tdiv v3ul1 128), v4outl1 ++ ([UInt8.ofInt (IntKind.wrap .u64 (128 + (Int.tmod v3ul1 128)))] : List UInt8))))))) else (f_billingref07_Bytes_j2 v3ul1 v4outl1).map (fun z => .inr z)
def f_billingref07_Bytes_j1 (v3uj1 : Int) : Option (List UInt8) :=
  loop (fun s => f_billingref07_Bytes_l1 s.1 s.2) (v3uj1, ([] : List UInt8))
def f_billingref07_Bytes (v0n : Int) : Option (List UInt8) :=
  if (decide (v0n < 0)) = true then (ck ((-9223372036854775808 : Int) ≤ v0n + 1 ∧ v0n + 1 ≤ (9223372036854775807 : Int)) (ck ((-9223372036854775807 : Int) ≤ v0n + 1 ∧ v0n + 1 ≤ 9223372036854775807) (f_billingref07_Bytes_j1 (IntKind.wrap .u64 ((IntKind.wrap .u64 (2 * (IntKind.wrap .u64 (-(v0n + 1))))) + 1))))) else f_billingref07_Bytes_j1 (IntKind.wrap .u64 (2 * (IntKind.wrap .u64 v0n)))
def f_billingref07_join (v0a : List UInt8) (v1b : List UInt8) : Option (List UInt8) :=
  ck (([] : List UInt8).length + v0a.length ≤ 1000000000) (ck ((([] : List UInt8) ++ v0a).length + v1b.length ≤ 1000000000) (some ((([] : List UInt8) ++ v0a) ++ v1b)))
def f_billingref07_PutNumber (v0b : List UInt8) (v1n : Int) : Option (List UInt8) :=
  (f_billingref07_Bytes v1n).bind fun y1 => (f_billingref07_join v0b y1).bind fun y2 => some y2
def f_billingref12_numbers_l1 (v0l : List Int) (v3outl1 : List UInt8) (v4il1 : Int) : Option ((List UInt8 × Int) ⊕ (List UInt8)) :=
  if (decide (v4il1 < (v0l.length : Int))) = true then (ck ((0 : Int) ≤ v4il1 ∧ v4il1 < (v0l.length : Int)) ((f_billingref07_PutNumber v3outl1 (nth v0l (Int.toNat (v4il1)))).bind fun y1 => ck ((-9223372036854775808 : Int) ≤ v4il1 + 1 ∧ v4il1 + 1 ≤ (9223372036854775807 : Int)) (some (.inl (y1, v4il1 + 1))))) else some (.inr v3outl1)
def f_billingref12_numbers (v0l : List Int) : Option (List UInt8) :=
  loop (fun s => f_billingref12_numbers_l1 v0l s.1 s.2) ([], 0)
def f_billingref12_Payloads_j1 (v0 : Batch) (v3j1 : List UInt8) : Option (List (List UInt8)) :=
  (f_billingref12_Totals v0.records).bind fun y1 => (f_billingref12_numbers ([v0.source, v0.number, v0.format, y1.count] : List Int)).bind fun y2 => (f_billingref12_numbers ([y1.count, nth y1.units 1, nth y1.units 2, nth y1.units 3, nth y1.units 4] : List Int)).bind fun y3 => some ([y2, v3j1, y3] : List (List UInt8))
def f_billingref12_Payloads_l1 (v0 : Batch) (v3l1 : List UInt8) (v4l1 : Int) : Option ((List UInt8 × Int) ⊕ (List (List UInt8))) :=
  if (decide (v4l1 < (v0.records.length : Int))) = true then (ck ((0 : Int) ≤ v4l1 ∧ v4l1 < (v0.records.length : Int)) (if (v0.format == 1) = true then ((f_billingref09_Encode (nth v0.records (Int.toNat (v4l1)))).bind fun y4 => ck (y4.1.length + ([10] : List UInt8).length ≤ 9223372036854775807) (ck (v3l1.length + (y4.1 ++ ([10] : List UInt8)).length ≤ 1000000000) (ck ((-9223372036854775808 : Int) ≤ v4l1 + 1 ∧ v4l1 + 1 ≤ (9223372036854775807 : Int)) (some (.inl (v3l1 ++ (y4.1 ++ ([10] : List UInt8)), v4l1 + 1)))))) else if (v0.format == 2) = true then ((f_billingref10_Encode (nth v0.records (Int.toNat (v4l1)))).bind fun y5 => ck (v3l1.length + y5.1.length ≤ 1000000000) (ck ((-9223372036854775808 : Int) ≤ v4l1 + 1 ∧ v4l1 + 1 ≤ (9223372036854775807 : Int)) (some (.inl (v3l1 ++ y5.1, v4l1 + 1))))) else (f_billingref11_Encode (nth v0.records (Int.toNat (v4l1)))).bind fun y6 => ck (v3l1.length + y6.1.length ≤ 1000000000) (ck ((-9223372036854775808 : Int) ≤ v4l1 + 1 ∧ v4l1 + 1 ≤ (9223372036854775807 : Int)) (some (.inl (v3l1 ++ y6.1, v4l1 + 1)))))) else (f_billingref12_Payloads_j1 v0 v3l1).map (fun z => .inr z)
def f_billingref12_Payloads (v0 : Batch) : Option (List (List UInt8)) :=
  loop (fun s => f_billingref12_Payloads_l1 v0 s.1 s.2) (([] : List UInt8), 0)
def f_billingref08_Sum_l1 (v0b : List UInt8) (v3nl1 : Int) (v4il1 : Int) : Option ((Int × Int) ⊕ Int) :=
  if (decide (v4il1 < (v0b.length : Int))) = true then (ck ((0 : Int) ≤ v4il1 ∧ v4il1 < (v0b.length : Int)) (ck ((-9223372036854775808 : Int) ≤ v4il1 + 1 ∧ v4il1 + 1 ≤ (9223372036854775807 : Int)) (some (.inl (IntKind.wrap .u32 ((bXor .u32 v3nl1 (IntKind.wrap .u32 ((nth v0b (Int.toNat (v4il1))).toNat : Int))) * 16777619), v4il1 + 1))))) else some (.inr v3nl1)
def f_billingref08_Sum (v0b : List UInt8) : Option Int :=
  loop (fun s => f_billingref08_Sum_l1 v0b s.1 s.2) (2166136261, 0)
def f_billingref08_Wrap (v0b : List UInt8) : Option ((List UInt8) × Int) :=
  if (decide ((v0b.length : Int) > 1048576)) = true then some (([] : List UInt8), 5) else (f_billingref08_Sum v0b).bind fun y1 => (f_billingref07_PutNumber ([] : List UInt8) (v0b.length : Int)).bind fun y2 => ck ((0 : Int) ≤ 24) (ck ((0 : Int) ≤ 16) (ck ((0 : Int) ≤ 8) (ck (y2.length + ([UInt8.ofInt (Int.fdiv y1 (2 ^ (min (Int.toNat (24)) 32))), UInt8.ofInt (Int.fdiv y1 (2 ^ (min (Int.toNat (16)) 32))), UInt8.ofInt (Int.fdiv y1 (2 ^ (min (Int.toNat (8)) 32))), UInt8.ofInt y1] : List UInt8).length ≤ 1000000000) (ck ((y2 ++ ([UInt8.ofInt (Int.fdiv y1 (2 ^ (min (Int.toNat (24)) 32))), UInt8.ofInt (Int.fdiv y1 (2 ^ (min (Int.toNat (16)) 32))), UInt8.ofInt (Int.fdiv y1 (2 ^ (min (Int.toNat (8)) 32))), UInt8.ofInt y1] : List UInt8)).length + v0b.length ≤ 1000000000) (some ((y2 ++ ([UInt8.ofInt (Int.fdiv y1 (2 ^ (min (Int.toNat (24)) 32))), UInt8.ofInt (Int.fdiv y1 (2 ^ (min (Int.toNat (16)) 32))), UInt8.ofInt (Int.fdiv y1 (2 ^ (min (Int.toNat (8)) 32))), UInt8.ofInt y1] : List UInt8)) ++ v0b, 0))))))
def f_billingref08_Join_l1 (v0list : List (List UInt8)) (v4outl1 : List UInt8) (v5il1 : Int) : Option ((List UInt8 × Int) ⊕ ((List UInt8) × Int)) :=
  if (decide (v5il1 < (v0list.length : Int))) = true then (ck ((0 : Int) ≤ v5il1 ∧ v5il1 < (v0list.length : Int)) ((f_billingref08_Wrap (nth v0list (Int.toNat (v5il1)))).bind fun y1 => if (y1.2 != 0) = true then some (.inr (([] : List UInt8), y1.2)) else ck (v4outl1.length + y1.1.length ≤ 1000000000) (ck ((-9223372036854775808 : Int) ≤ v5il1 + 1 ∧ v5il1 + 1 ≤ (9223372036854775807 : Int)) (some (.inl (v4outl1 ++ y1.1, v5il1 + 1)))))) else some (.inr (v4outl1, 0))
def f_billingref08_Join (v0list : List (List UInt8)) : Option ((List UInt8) × Int) :=
  loop (fun s => f_billingref08_Join_l1 v0list s.1 s.2) (([] : List UInt8), 0)
def f_billingref12_Write (v0b : Batch) : Option ((List UInt8) × Int) :=
  (f_billingref12_Check v0b).bind fun y1 => if (y1 != 0) = true then some (([] : List UInt8), y1) else (f_billingref12_Payloads v0b).bind fun y2 => (f_billingref08_Join y2).bind fun y3 => some (y3.1, y3.2)
def f_billinglaw12_BatchWrites (v0b : Batch) : Option Bool :=
  (f_billinglaw12_few v0b.records).bind fun y1 => if (!y1) = true then ((f_billinglaw12_awake).bind fun y2 => some y2) else (f_batch_Write v0b).bind fun y3 => (f_billingref12_Write v0b).bind fun y4 => (f_batch_Check v0b).bind fun y5 => (f_billingref12_Check v0b).bind fun y6 => (gcall (((y5 == y6) && (y3.1 == y4.1)) && (y3.2 == y4.2)) (f_billinglaw12_awake)).bind fun y7 => some ((((y5 == y6) && (y3.1 == y4.1)) && (y3.2 == y4.2)) && y7)
end Go.Proofs.YtccmaffefdcikaaDoor

/- Contracts of the library, as contracts on data. -/
set_option linter.unusedSimpArgs false
set_option linter.unusedVariables false
namespace Go.Abs
open Go.RowKit
theorem DArgs.one {lim : Nat → Nat} {w : World} {d : D} {vs : Array Value} (h : DArgs lim w [d] vs) : ∃ v, vs = #[v] ∧ DRep lim w d v := by
  obtain ⟨h1, h2⟩ := h
  match vs, h1 with
  | ⟨[v]⟩, _ => exact ⟨v, rfl, h2 0 d v rfl rfl⟩
theorem DArgs.two {lim : Nat → Nat} {w : World} {d e : D} {vs : Array Value} (h : DArgs lim w [d, e] vs) : ∃ v u, vs = #[v, u] ∧ DRep lim w d v ∧ DRep lim w e u := by
  obtain ⟨h1, h2⟩ := h
  match vs, h1 with
  | ⟨[v, u]⟩, _ => exact ⟨v, u, rfl, h2 0 d v rfl rfl, h2 1 e u rfl rfl⟩
theorem below_grow (w : World) (k : Nat) (os : Array Obj) : Below w.heap.size w (Go.Sort.grow (w.drewN k) os) :=
  ⟨rfl, rfl, rfl, by simp [Go.Sort.grow], fun b hb => by
    show ((w.drewN k).heap ++ os)[b]? = _
    rw [Array.getElem?_append_left (show b < (w.drewN k).heap.size from hb)]
    rfl⟩
/-- A contract of a callee that makes memory and gives a value without references. -/
theorem ACall.lib {P : Program} {f : FuncId} {args : List D} {u : Value}
    (h : ∀ lim w vs, Globs w.heap.size w → DArgs lim w args vs → Calls P f vs w fun e w' => e = .returned u ∧ Below w.heap.size w w') : ACall P f args (· = .ex u) := by
  intro lim w vs hg ha
  refine (h lim w vs hg ha).mono ?_
  rintro e w' ⟨rfl, hb⟩
  exact ⟨u, .ex u, lim, rfl, rfl, .ex u, ⟨hb.size, fun _ _ => Nat.le_refl _, fun b off hb' _ => hb.cell (p := ⟨b, off, none⟩) hb'⟩, hb, fun _ _ => rfl⟩
theorem strs_cells {lim : Nat → Nat} {w : World} {xs : List (List UInt8)} {v : Value} (h : DRep lim w (.sl 1 (xs.map rS)) v) :
    (∃ A c, v = .slice A 0 c ∧ xs = []) ∨ ∃ b off c, v = .slice (some ⟨b, off, none⟩) xs.length c ∧ xs.length ≤ c ∧ b < w.heap.size ∧ ∀ (j : Nat) x, xs[j]? = some x → w.cell? ⟨b, off + j, none⟩ = some (.string ⟨x.toArray⟩) := by
  generalize hr : xs.map rS = rows at h
  cases h with
  | nil _ A =>
    have : xs = [] := by simpa using hr
    exact .inl ⟨A, 0, rfl, this⟩
  | sl _ _ b off c hc hrow hx hcell =>
    subst hr
    rw [List.length_map] at *
    by_cases h0 : xs = []
    · subst h0; exact .inl ⟨_, c, rfl, rfl⟩
    · refine .inr ⟨b, off, c, rfl, hc, ?_, fun j x hj => ?_⟩
      · have hl : 0 < xs.length := List.length_pos_iff.2 h0
        obtain ⟨_, u, hu, _⟩ := hx 0 (by omega)
        exact World.block_lt_of_cell? w _ hu
      · have hjl := (List.getElem?_eq_some_iff.1 hj).1
        obtain ⟨_, u, hu, _⟩ := hx j (by omega)
        have := hcell j 0 (rS x) (.ex (.string ⟨x.toArray⟩)) u (by rw [List.getElem?_map, hj]; rfl) rfl (by rw [Nat.mul_one, Nat.add_zero]; exact hu)
        rw [hu, drep_ex this]
end Go.Abs
