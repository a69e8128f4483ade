/- Regions that draw their order: a prefix of growing operations in whatever order, then the rest, whose order is forced. -/
import Derived.Test.YtpdanklncjopoaaB2
set_option linter.unusedSimpArgs false
set_option linter.unusedVariables false
set_option linter.unusedSectionVars false
namespace Go.Abs
open Go.RowKit

def tmpsOf : List Operand → List Tmp
  | [] => []
  | .tmp t :: l => t :: tmpsOf l
  | _ :: l => tmpsOf l
def opTmps : Op → List Tmp
  | .move x | .assign x | .box _ x | .load _ x | .nilCheck x | .unOp _ _ x | .convert _ _ x | .sliceToArrayPointer _ x | .makeInterface _ x
  | .makeChan _ x | .fieldAddr _ x _ | .field _ x _ | .range _ x | .next x _ | .entry x | .typeAssert x _ _ _ | .extract x _ | .panic x | .recv _ x _ => tmpsOf [x]
  | .pick c a b => tmpsOf [c, a, b]
  | .build _ ps | .buildSlice _ _ ps => tmpsOf (ps.toList.map (·.2))
  | .store _ a v | .binOp _ _ a v _ | .makeSlice _ a v | .indexAddr _ a v | .index _ a v | .lookup _ a v _ | .mapEntry _ a v | .send a v => tmpsOf [a, v]
  | .makeFunc _ first captured => tmpsOf (first.toList ++ captured.toList)
  | .makeMap _ r => tmpsOf r.toList
  | .slice _ x l h m => tmpsOf (x :: (l.toList ++ h.toList ++ m.toList))
  | .mapUpdate _ m k v | .entryStore _ m k v | .insert _ m k v => tmpsOf [m, k, v]
  | .call c => tmpsOf ((match c.callee with | .value f => [f] | .invoke r _ => [r] | .builtin _ => []) ++ c.args.toList)
  | _ => []
/-- The slots that an operation looks at. -/
def slots (l : List Oper) (o : Oper) : List Tmp := match o.guard with
  | none => opTmps o.op
  | some (j, _) => match (l[j]?).bind (·.dst) with
    | some t => t :: opTmps o.op
    | none => opTmps o.op
def renvOf (env : Env) : List Tmp → Env
  | [] => []
  | t :: ts => match lookup t env with
    | some x => (t, x) :: renvOf env ts
    | none => renvOf env ts
def renv (l : List Oper) (o : Oper) (env : Env) : Env := renvOf env (slots l o)
theorem renvOf_get {env : Env} {t : Tmp} {y : EV} : ∀ {ts : List Tmp}, lookup t (renvOf env ts) = some y → t ∈ ts ∧ lookup t env = some y
  | [], h => by simp [renvOf, lookup] at h
  | s :: ts, h => by
    unfold renvOf at h
    split at h
    · rename_i x hx
      unfold lookup at h
      cases hb : Nat.beq t s with
      | true =>
        rw [hb] at h
        have := Nat.eq_of_beq_eq_true hb
        subst this
        exact ⟨by simp, hx.trans h⟩
      | false =>
        rw [hb] at h
        obtain ⟨h1, h2⟩ := renvOf_get h
        exact ⟨by simp [h1], h2⟩
    · obtain ⟨h1, h2⟩ := renvOf_get h
      exact ⟨by simp [h1], h2⟩

/-! ### which operation waits for which -/
def maskOf (acc : List Nat) : List Edge → Nat
  | [] => 0
  | e :: es => (if Region.binds .any e then 2 ^ e.on ||| acc.getD e.on 0 else 0) ||| maskOf acc es
def masks : List Oper → List Nat → List Nat
  | [], acc => acc
  | o :: l, acc => masks l (acc ++ [maskOf acc o.after.toList])
def GoodMask (listed : Array Bool) (i m : Nat) : Prop := listed.getD i false = true → ∀ j, m.testBit j = true → listed.getD j false = true
def Closed (ops : List Oper) (listed : Array Bool) : Prop := ∀ (i : Nat) o, ops[i]? = some o → listed.getD i false = true → ∀ e ∈ o.after, Region.binds .any e = true → listed.getD e.on false = true

theorem maskOf_good {listed : Array Bool} {acc : List Nat} (h : ∀ (k : Nat) m, acc[k]? = some m → GoodMask listed k m) : ∀ (es : List Edge), (∀ e ∈ es, Region.binds .any e = true → listed.getD e.on false = true) → ∀ j, (maskOf acc es).testBit j = true → listed.getD j false = true
  | [], _, j, hj => by simp [maskOf] at hj
  | e :: es, he, j, hj => by
    unfold maskOf at hj
    rw [Nat.testBit_or, Bool.or_eq_true] at hj
    rcases hj with hj | hj
    · split at hj
      · rename_i hb
        have hon := he e (by simp) hb
        rw [Nat.testBit_or, Bool.or_eq_true] at hj
        rcases hj with hj | hj
        · rw [Nat.testBit_two_pow] at hj
          have : e.on = j := by simpa using hj
          rw [← this]; exact hon
        · rw [List.getD_eq_getElem?_getD] at hj
          cases hm : acc[e.on]? with
          | none => rw [hm] at hj; simp at hj
          | some m => rw [hm] at hj; exact h e.on m hm hon j hj
      · simp at hj
    · exact maskOf_good h es (fun e' he' => he e' (by simp [he'])) j hj
theorem masks_good {ops : List Oper} {listed : Array Bool} (hc : Closed ops listed) : ∀ (l : List Oper) (acc : List Nat), (∀ j : Nat, l[j]? = ops[acc.length + j]?) → (∀ (k : Nat) m, acc[k]? = some m → GoodMask listed k m) →
    ∀ (k : Nat) m, (masks l acc)[k]? = some m → GoodMask listed k m
  | [], acc, _, h => h
  | o :: l, acc, hl, h => by
    unfold masks
    refine masks_good hc l _ (fun j => by have := hl (j + 1); simpa [Nat.add_assoc, Nat.add_comm 1 j] using this) fun k m hk => ?_
    by_cases hlt : k < acc.length
    · rw [List.getElem?_append_left hlt] at hk; exact h k m hk
    · have hk' := (List.getElem?_eq_some_iff.1 hk).1
      simp at hk'
      have : k = acc.length := by omega
      subst this
      have : m = maskOf acc o.after.toList := by simpa [eq_comm] using hk
      subst this
      intro hlisted
      have ho : ops[acc.length]? = some o := by simpa using (hl 0).symm
      exact maskOf_good h _ (fun e he hb => hc _ o ho hlisted e (by simpa using he) hb)
/-- The bits of an operation that may come up now are listed. -/
theorem ready_mask {ops : List Oper} {listed : Array Bool} (hc : Closed ops listed) {i : Nat} {o : Oper} (ho : ops[i]? = some o) (hr : ∀ e ∈ o.after, Region.binds .any e = true → listed.getD e.on false = true) :
    ∀ j, ((masks ops []).getD i 0).testBit j = true → listed.getD j false = true := by
  -- list it: the greater set is closed, too, but for i itself: go by the mask's own making
  have key : ∀ (l : List Oper) (acc : List Nat), (∀ j : Nat, l[j]? = ops[acc.length + j]?) → (∀ (k : Nat) m, acc[k]? = some m → GoodMask listed k m) → (acc.length ≤ i) →
      ∃ acc', (masks l acc)[i]? = some (maskOf acc' o.after.toList) ∧ ∀ (k : Nat) m, acc'[k]? = some m → GoodMask listed k m := by
    intro l
    induction l with
    | nil =>
      intro acc hl _ hle
      have := hl (i - acc.length)
      rw [show acc.length + (i - acc.length) = i by omega, ho] at this
      simp at this
    | cons o' l ih =>
      intro acc hl hg hle
      have hl' : ∀ j : Nat, l[j]? = ops[(acc ++ [maskOf acc o'.after.toList]).length + j]? := fun j => by have := hl (j + 1); simpa [Nat.add_assoc, Nat.add_comm 1 j] using this
      have hg' : ∀ (k : Nat) m, (acc ++ [maskOf acc o'.after.toList])[k]? = some m → GoodMask listed k m := by
        intro k m hk
        by_cases hlt : k < acc.length
        · rw [List.getElem?_append_left hlt] at hk; exact hg k m hk
        · have hk' := (List.getElem?_eq_some_iff.1 hk).1
          simp at hk'
          have : k = acc.length := by omega
          subst this
          have : m = maskOf acc o'.after.toList := by simpa [eq_comm] using hk
          subst this
          intro hlisted
          have ho' : ops[acc.length]? = some o' := by simpa using (hl 0).symm
          exact maskOf_good hg _ (fun e he hb => hc _ o' ho' hlisted e (by simpa using he) hb)
      by_cases he : acc.length = i
      · subst he
        have ho' : o' = o := by
          have := hl 0
          rw [Nat.add_zero, ho] at this
          simpa using this
        subst ho'
        have hm : ∀ (l : List Oper) (acc : List Nat) (k : Nat) m, acc[k]? = some m → (masks l acc)[k]? = some m := by
          intro l
          induction l with
          | nil => intro acc k m h; exact h
          | cons o'' l ih' =>
            intro acc k m h
            unfold masks
            exact ih' _ k m (by rw [List.getElem?_append_left (List.getElem?_eq_some_iff.1 h).1]; exact h)
        refine ⟨acc, ?_, hg⟩
        unfold masks
        exact hm l _ _ _ (by simp)
      · unfold masks
        exact ih _ hl' hg' (by simp; omega)
  obtain ⟨acc', h1, h2⟩ := key ops [] (by simp) (by simp) (Nat.zero_le _)
  intro j hj
  rw [List.getD_eq_getElem?_getD, h1, Option.getD_some] at hj
  exact maskOf_good h2 _ (fun e he hb => hr e (by simpa using he) hb) j hj

def allBelow (n : Nat) (q : Nat → Bool) : Bool := (List.range n).all q
theorem allBelow_get {n : Nat} {q : Nat → Bool} (h : allBelow n q = true) {i : Nat} (hi : i < n) : q i = true := by
  unfold allBelow at h
  rw [List.all_eq_true] at h
  exact h i (List.mem_range.2 hi)
def dstAt (l : List Oper) (i : Nat) : Option Tmp := (l[i]?).bind (·.dst)
def drawB (l : List Oper) (p : Nat) : Bool :=
  let ms := masks l []
  allBelow p (fun i => match l[i]? with
    | some o => (slots l o).all fun t => allBelow p fun j => i == j || dstAt l j != some t || (decide (j < i) && (ms.getD i 0).testBit j) || (decide (i < j) && (ms.getD j 0).testBit i)
    | none => true) &&
  allBelow p (fun i => allBelow p fun j => i == j || (dstAt l i).isNone || dstAt l i != dstAt l j) &&
  allBelow l.length (fun i => decide (i < p) || allBelow i fun j => (ms.getD i 0).testBit j) &&
  allBelow l.length (fun i => match l[i]? with
    | some o => o.after.toList.all fun e => !Region.binds .any e || decide (e.on < i)
    | none => true) &&
  decide (p ≤ l.length)

/-- One operation, guarded or not. -/
def OpAny (P : Program) (l : List Oper) (env : Env) (st : St) (o : Oper) (x : EV) : Prop :=
  (o.guard = none ∧ OpG P env st o x) ∨
  ∃ (j : Nat) (want : Bool) (t : Tmp) (c : EV) (b : Bool) (y : EV) (env' : Env), o.guard = some (j, want) ∧ (l[j]?).bind (·.dst) = some t ∧ lookup t env = some c ∧ gcond c want = some b ∧ x = .gd b y ∧ GdEnv b env env' ∧ (b = true → OpG P env' st o y)

def putAll : Env → List Oper → List EV → Env
  | env, o :: os, x :: xs => putAll (env.put o.dst x) os xs
  | env, _, _ => env
def Chain (P : Program) (N : Nat) (l : List Oper) (st : St) : List Oper → List EV → Env → Prop
  | [], [], _ => True
  | o :: os, x :: xs, env => dstOk N o.dst = true ∧ OpAny P l (renv l o env) st o x ∧ Chain P N l st os xs (env.put o.dst x)
  | _, _, _ => False

theorem Chain.length {P : Program} {N : Nat} {l : List Oper} {st : St} : ∀ {os : List Oper} {xs : List EV} {env : Env}, Chain P N l st os xs env → xs.length = os.length
  | [], [], _, _ => rfl
  | o :: os, x :: xs, env, h => by simp [Chain.length h.2.2]
  | [], x :: xs, _, h => h.elim
  | o :: os, [], _, h => h.elim
theorem lookup_put {env : Env} {d : Option Tmp} {x : EV} {s : Tmp} : lookup s (env.put d x) = if d = some s then some x else lookup s env := by
  cases d with
  | none => simp [Env.put]
  | some d =>
    simp only [Env.put, lookup]
    cases hb : Nat.beq s d with
    | true => have := Nat.eq_of_beq_eq_true hb; subst this; simp
    | false =>
      have : ¬ d = s := by rintro rfl; rw [Nat.beq_refl] at hb; cases hb
      simp [this]
theorem lookup_putAll {s : Tmp} {y : EV} : ∀ {os : List Oper} {xs : List EV} {env : Env}, xs.length = os.length → lookup s (putAll env os xs) = some y →
    (∃ (j : Nat) (o : Oper), os[j]? = some o ∧ xs[j]? = some y ∧ o.dst = some s) ∨ ((∀ (j : Nat) (o : Oper), os[j]? = some o → o.dst ≠ some s) ∧ lookup s env = some y)
  | [], [], env, _, h => .inr ⟨by simp, h⟩
  | o :: os, x :: xs, env, hl, h => by
    rcases lookup_putAll (os := os) (xs := xs) (env := env.put o.dst x) (by simpa using hl) h with ⟨j, o', h1, h2, h3⟩ | ⟨h1, h2⟩
    · exact .inl ⟨j + 1, o', by simpa using h1, by simpa using h2, h3⟩
    · rw [lookup_put] at h2
      split at h2
      · rename_i hd
        cases h2
        exact .inl ⟨0, o, rfl, rfl, hd⟩
      · rename_i hd
        refine .inr ⟨fun j o' ho => ?_, h2⟩
        cases j with
        | zero => simp at ho; subst ho; exact hd
        | succ j => exact h1 j o' (by simpa using ho)
  | [], _ :: _, _, hl, _ => by simp at hl
  | _ :: _, [], _, hl, _ => by simp at hl
/-- What the chain says of operation number i. -/
theorem Chain.get {P : Program} {N : Nat} {l : List Oper} {st : St} : ∀ {os : List Oper} {xs : List EV} {env : Env} {i : Nat} {o : Oper}, Chain P N l st os xs env → os[i]? = some o →
    ∃ x, xs[i]? = some x ∧ dstOk N o.dst = true ∧ OpAny P l (renv l o (putAll env (os.take i) (xs.take i))) st o x
  | o' :: os, x :: xs, env, 0, o, h, ho => by
    simp at ho; subst ho
    exact ⟨x, rfl, h.1, by simpa [putAll] using h.2.1⟩
  | o' :: os, x :: xs, env, i + 1, o, h, ho => by
    obtain ⟨y, h1, h2, h3⟩ := Chain.get (i := i) h.2.2 (by simpa using ho)
    exact ⟨y, by simpa using h1, h2, by simpa [putAll] using h3⟩
  | [], xs, env, i, o, h, ho => by simp at ho
  | o' :: os, [], _, _, _, h, _ => h.elim

section drawn
variable {P : Program} {f : FuncId} {N : Nat} {S : Start} {Q : EV → St → Prop} {k : List Item}

theorem go_suffix {l : List Oper} {p : Nat} (hord : ∀ i, p ≤ i → i < l.length → ∀ j, j < i → ((masks l []).getD i 0).testBit j = true)
    (hacyc : ∀ (i : Nat) o, l[i]? = some o → ∀ e ∈ o.after, Region.binds .any e = true → e.on < i) :
    ∀ (fuel t m : Nat) (listed : Array Bool), p ≤ m → m ≤ l.length → l.length - m ≤ fuel → listed.size = l.length → (∀ i, i < l.length → listed.getD i true = decide (i < m)) →
      Region.linearise.go .any l.toArray fuel t listed [] = List.range' m (l.length - m)
  | fuel, t, m, listed, hp, hm, hf, hs, hl => by
    have hD : ∀ i, i < l.length → listed.getD i false = decide (i < m) := fun i hi => by
      rw [← hl i hi]; simp [Array.getD_eq_getD_getElem?, hs, hi]
    have hcl : Closed l listed := by
      intro i o ho hli e he hb
      have hi := (List.getElem?_eq_some_iff.1 ho).1
      have := hacyc i o ho e he hb
      rw [hD i hi] at hli
      rw [hD _ (by omega)]
      simp at hli ⊢
      omega
    have hready : Region.ready .any l.toArray listed = if m < l.length then [m] else [] := by
      have hmem : ∀ i, i ∈ Region.ready .any l.toArray listed ↔ i = m ∧ m < l.length := by
        intro i
        rw [mem_ready]
        constructor
        · rintro ⟨h0, o, ho, hall⟩
          have ho' : l[i]? = some o := by simpa using ho
          have hi := (List.getElem?_eq_some_iff.1 ho').1
          rw [hl i hi] at h0
          have him : m ≤ i := by simpa using h0
          have hmask := ready_mask hcl ho' (fun e he hb => hall e he hb)
          by_cases he : i = m
          · exact ⟨he, by omega⟩
          · have h1 := hmask m (hord i (by omega) hi m (by omega))
            rw [hD m (by omega)] at h1
            simp at h1
        · rintro ⟨rfl, hlt⟩
          refine ⟨by rw [hl i hlt]; simp, l[i], by simp [hlt], fun e he hb => ?_⟩
          have := hacyc i l[i] (List.getElem?_eq_getElem hlt) e he hb
          rw [hD _ (by omega)]
          simpa using this
      have hnd : (Region.ready .any l.toArray listed).Nodup := (List.nodup_range).filter _
      split
      · rename_i hlt
        have h1 : ∀ i ∈ Region.ready .any l.toArray listed, i = m := fun i hi => ((hmem i).1 hi).1
        have h2 : m ∈ Region.ready .any l.toArray listed := (hmem m).2 ⟨rfl, hlt⟩
        generalize Region.ready .any l.toArray listed = rs at *
        match rs with
        | [] => cases h2
        | [a] => rw [h1 a (by simp)]
        | a :: b :: rs' =>
          have ha := h1 a (by simp)
          have hb := h1 b (by simp)
          simp [ha, hb] at hnd
      · rename_i hlt
        exact List.eq_nil_iff_forall_not_mem.2 fun i hi => hlt ((hmem i).1 hi).2
    cases fuel with
    | zero =>
      have : l.length - m = 0 := by omega
      rw [this]; rfl
    | succ fuel =>
      have hrd : ((List.range l.toArray.size).filter fun i => !listed.getD i true && ((l.toArray[i]?).map (·.after.all fun e => !Region.binds .any e || listed.getD e.on false)).getD false) = Region.ready .any l.toArray listed := rfl
      simp only [Region.linearise.go, hrd, hready]
      by_cases hlt : m < l.length
      · rw [if_pos hlt]
        simp only [List.length_singleton, Nat.mod_one, List.getElem?_cons_zero]
        rw [linearise_go_acc, go_suffix hord hacyc fuel _ (m + 1) _ (by omega) hlt (by omega) (by simpa using hs) ?_]
        · have : l.length - m = (l.length - (m + 1)) + 1 := by omega
          rw [this, List.range'_succ]
          rfl
        · intro i hi
          by_cases he : i = m
          · subst he
            simp [Array.getD_eq_getD_getElem?, hs, hi]
          · rw [getD_set_ne true (Ne.symm he), hl i hi]
            have : (i < m) = (i < m + 1) := by apply propext; omega
            simp [this]
      · rw [if_neg hlt]
        have : l.length - m = 0 := by omega
        rw [this]; rfl

theorem drawn_main {l : List Oper} {p : Nat} {env : Env} {st : St} {xs : List EV} (hp : p ≤ l.length)
    (hC1 : ∀ i j t, i < p → j < p → i ≠ j → dstAt l i = some t → dstAt l j ≠ some t)
    (hC2 : ∀ (i : Nat) o, i < p → l[i]? = some o → ∀ t ∈ slots l o, ∀ j, j < p → j ≠ i → dstAt l j = some t → (j < i ∧ ((masks l []).getD i 0).testBit j = true) ∨ (i < j ∧ ((masks l []).getD j 0).testBit i = true))
    (hord : ∀ i, p ≤ i → i < l.length → ∀ j, j < i → ((masks l []).getD i 0).testBit j = true)
    (hacyc : ∀ (i : Nat) o, l[i]? = some o → ∀ e ∈ o.after, Region.binds .any e = true → e.on < i)
    (hch : Chain P N l st (l.take p) xs env) (hsuf : AOps P f N S Q l (l.drop p) k (putAll env (l.take p) xs) st) :
    ∀ (cnt fuel t : Nat) (listed : Array Bool) (g : Ghost) (w : World) (tmps : Array Value), listed.size = l.length → Closed l listed → (∀ i, p ≤ i → i < l.length → listed.getD i true = false) →
      (((List.range p).filter fun i => !listed.getD i true).length = cnt) → cnt + (l.length - p) ≤ fuel → Inv g S.base w st → Hist S g w st → tmps.size = N →
      (∀ (s : Tmp), (∀ (j : Nat) x, j < p → listed.getD j false = true → dstAt l j = some s → xs[j]? = some x → ∃ v, tmps[s]? = some v ∧ EVRep g w st x v) ∧
        ((∀ j, j < p → listed.getD j false = true → dstAt l j ≠ some s) → ∀ y, lookup s env = some y → ∃ v, tmps[s]? = some v ∧ EVRep g w st y v)) →
      FWP P f (RPost S Q) (.inRegion l.toArray (Region.linearise.go .any l.toArray fuel t listed []) :: k) tmps w := by
  have hxl := hch.length
  have hxl' : xs.length = p := by rw [hxl]; simp; omega
  intro cnt
  induction cnt with
  | zero =>
    intro fuel t listed g w tmps hs hcl hsu hcnt hfuel hinv hh hN hJ
    have hall : ∀ i, i < p → listed.getD i true = true := by
      intro i hi
      have h0 := List.eq_nil_of_length_eq_zero hcnt
      have hn : i ∉ (List.range p).filter fun i => !listed.getD i true := by rw [h0]; simp
      rw [List.mem_filter, List.mem_range] at hn
      cases hb : listed.getD i true with
      | true => rfl
      | false => exact absurd ⟨hi, by simp [hb]⟩ hn
    have hgo := go_suffix hord hacyc fuel t p listed (Nat.le_refl _) hp (by omega) hs (fun i hi => by
      by_cases h : i < p
      · rw [hall i h]; simp [h]
      · rw [hsu i (by omega) hi]; simp [h])
    rw [hgo]
    have hdl : (l.drop p).length = l.length - p := by simp
    rw [← hdl]
    have hallF : ∀ i, i < p → listed.getD i false = true := fun i hi => by
      have := hall i hi
      have hlt : i < listed.size := by omega
      simpa [Array.getD_eq_getD_getElem?, hlt] using this
    refine hsuf p (fun j => by rw [List.getElem?_drop]) g w tmps hinv hh (fun s y hy => ?_) hN
    rcases lookup_putAll hxl hy with ⟨j, o, h1, h2, h3⟩ | ⟨h1, h2⟩
    · have hj : j < p := by have := (List.getElem?_eq_some_iff.1 h2).1; omega
      have ho : l[j]? = some o := by rw [List.getElem?_take] at h1; rw [if_pos hj] at h1; exact h1
      exact (hJ s).1 j y hj (hallF j hj) (by simp [dstAt, ho, h3]) h2
    · refine (hJ s).2 (fun j hj _ hd => ?_) y h2
      cases ho : l[j]? with
      | none => simp [dstAt, ho] at hd
      | some o => exact h1 j o (by rw [List.getElem?_take, if_pos hj]; exact ho) (by simpa [dstAt, ho] using hd)
  | succ cnt ih =>
    intro fuel t listed g w tmps hs hcl hsu hcnt hfuel hinv hh hN hJ
    obtain ⟨fuel, rfl⟩ : ∃ n, fuel = n + 1 := ⟨fuel - 1, by omega⟩
    -- an operation of the prefix that has not come up
    have hex : ∃ i, i < p ∧ listed.getD i true = false := by
      have : (List.range p).filter (fun i => !listed.getD i true) ≠ [] := fun h => by rw [h] at hcnt; simp at hcnt
      obtain ⟨i, hi⟩ := List.exists_mem_of_ne_nil _ this
      rw [List.mem_filter, List.mem_range] at hi
      exact ⟨i, hi.1, by simpa using hi.2⟩
    have hDF : ∀ i, i < l.length → listed.getD i false = listed.getD i true := fun i hi => by
      have hlt : i < listed.size := by omega
      simp [Array.getD_eq_getD_getElem?, hlt]
    have hrd : ((List.range l.toArray.size).filter fun i => !listed.getD i true && ((l.toArray[i]?).map (·.after.all fun e => !Region.binds .any e || listed.getD e.on false)).getD false) = Region.ready .any l.toArray listed := rfl
    -- the least such is ready
    have hne : Region.ready .any l.toArray listed ≠ [] := by
      have hmin : ∀ n i, i ≤ n → i < p → listed.getD i true = false → ∃ i, i < p ∧ listed.getD i true = false ∧ ∀ j, j < i → listed.getD j true = true := by
        intro n
        induction n with
        | zero => intro i hi hp' h; exact ⟨i, hp', h, fun j hj => by omega⟩
        | succ n ihn =>
          intro i hi hp' h
          by_cases hh' : ∃ j, j < i ∧ listed.getD j true = false
          · obtain ⟨j, hj, hjl⟩ := hh'
            exact ihn j (by omega) (by omega) hjl
          · refine ⟨i, hp', h, fun j hj => ?_⟩
            cases hb : listed.getD j true with
            | true => rfl
            | false => exact absurd ⟨j, hj, hb⟩ hh'
      obtain ⟨i0, h0, h1⟩ := hex
      obtain ⟨i, hip, hiu, hbel⟩ := hmin i0 i0 (Nat.le_refl _) h0 h1
      have hil : i < l.length := by omega
      have : i ∈ Region.ready .any l.toArray listed := by
        rw [mem_ready]
        refine ⟨hiu, l[i], by simp [hil], fun e he hb => ?_⟩
        have hlt := hacyc i l[i] (List.getElem?_eq_getElem hil) e he hb
        rw [hDF _ (by omega)]
        exact hbel _ hlt
      intro hnil
      rw [hnil] at this
      cases this
    simp only [Region.linearise.go, hrd]
    have hlen : 0 < (Region.ready .any l.toArray listed).length := List.length_pos_iff.2 hne
    have hmod := Nat.mod_lt t hlen
    generalize hi : (Region.ready .any l.toArray listed)[t % (Region.ready .any l.toArray listed).length] = i
    have hsome : (Region.ready .any l.toArray listed)[t % (Region.ready .any l.toArray listed).length]? = some i := by rw [List.getElem?_eq_getElem hmod, hi]
    rw [hsome]
    simp only []
    rw [linearise_go_acc]
    have him : i ∈ Region.ready .any l.toArray listed := List.mem_of_getElem? hsome
    obtain ⟨hiu, o, ho, hall⟩ := mem_ready.1 him
    have ho' : l[i]? = some o := by simpa using ho
    have hil := (List.getElem?_eq_some_iff.1 ho').1
    have hmask := ready_mask hcl ho' (fun e he hb => hall e he hb)
    have hip : i < p := by
      rcases Nat.lt_or_ge i p with h | h
      · exact h
      · obtain ⟨i0, h0, h1⟩ := hex
        have := hmask i0 (hord i h hil i0 (by omega))
        rw [hDF i0 (by omega), h1] at this
        cases this
    obtain ⟨x, hx, hd, hop⟩ := hch.get (i := i) (o := o) (by rw [List.getElem?_take, if_pos hip]; exact ho')
    have hgm := masks_good hcl l [] (by simp) (by simp)
    -- what the operation looks at
    have he : EnvRep g w st (renv l o (putAll env ((l.take p).take i) (xs.take i))) tmps := by
      intro s y hy
      obtain ⟨hsl, hy'⟩ := renvOf_get hy
      rcases lookup_putAll (by simp [hxl]) hy' with ⟨j, o', h1, h2, h3⟩ | ⟨h1, h2⟩
      · have hji : j < i := by have := (List.getElem?_eq_some_iff.1 h2).1; simp at this; omega
        have hoj : l[j]? = some o' := by
          rw [List.getElem?_take, if_pos hji, List.getElem?_take, if_pos (by omega)] at h1; exact h1
        have hdj : dstAt l j = some s := by simp [dstAt, hoj, h3]
        rcases hC2 i o hip ho' s hsl j (by omega) (by omega) hdj with ⟨_, hb⟩ | ⟨hlt, _⟩
        · exact (hJ s).1 j y (by omega) (hmask j hb) hdj (by rw [List.getElem?_take, if_pos hji] at h2; exact h2)
        · omega
      · refine (hJ s).2 (fun j hj hlj hdj => ?_) y h2
        by_cases hji : j = i
        · subst hji
          rw [hDF j hil, hiu] at hlj
          cases hlj
        · rcases hC2 i o hip ho' s hsl j hj hji hdj with ⟨hlt, _⟩ | ⟨hlt, hb⟩
          · cases hoj : l[j]? with
            | none => simp [dstAt, hoj] at hdj
            | some o' => exact h1 j o' (by rw [List.getElem?_take, if_pos hlt, List.getElem?_take, if_pos hj]; exact hoj) (by simpa [dstAt, hoj] using hdj)
          · have hjl : j < l.length := by omega
            have hmj : (masks l [])[j]? = some ((masks l []).getD j 0) := by
              cases hm : (masks l [])[j]? with
              | none => rw [List.getD_eq_getElem?_getD, hm] at hb; simp at hb
              | some m => rw [List.getD_eq_getElem?_getD, hm]; rfl
            have := hgm j _ hmj hlj i hb
            rw [hDF i hil, hiu] at this
            cases this
    -- what remains behind it
    have hcnt' : ((List.range p).filter fun j => !(listed.setIfInBounds i true).getD j true).length = cnt := by
      have hset : ∀ j, (listed.setIfInBounds i true).getD j true = (listed.getD j true || decide (j = i)) := by
        intro j
        by_cases hji : j = i
        · subst hji; simp [Array.getD_eq_getD_getElem?, hs, hil]
        · rw [getD_set_ne true (Ne.symm hji)]; simp [hji]
      have hfil : ((List.range p).filter fun j => !(listed.setIfInBounds i true).getD j true) = ((List.range p).filter fun j => !listed.getD j true).filter fun j => !decide (j = i) := by
        rw [List.filter_filter]
        refine List.filter_congr fun j _ => ?_
        rw [hset j]
        cases listed.getD j true <;> simp
      rw [hfil]
      have hnd : ((List.range p).filter fun j => !listed.getD j true).Nodup := List.nodup_range.filter _
      have hmem : i ∈ (List.range p).filter fun j => !listed.getD j true := by rw [List.mem_filter, List.mem_range]; exact ⟨hip, by simp [hiu]⟩
      have hcount : ∀ (L : List Nat), L.Nodup → i ∈ L → (L.filter fun j => !decide (j = i)).length + 1 = L.length := by
        intro L
        induction L with
        | nil => intro _ h; cases h
        | cons a L ihL =>
          intro hn hm
          rw [List.nodup_cons] at hn
          by_cases ha : a = i
          · subst ha
            have : (L.filter fun j => !decide (j = a)) = L := by
              rw [List.filter_eq_self]
              intro b hb
              have : b ≠ a := fun e => hn.1 (e ▸ hb)
              simp [this]
            rw [List.filter_cons]
            simp [this]
          · have hm' : i ∈ L := by
              rcases List.mem_cons.1 hm with h | h
              · exact absurd h.symm ha
              · exact h
            rw [List.filter_cons]
            simp only [ha, decide_false, Bool.not_false, if_true, List.length_cons]
            rw [ihL hn.2 hm']
      have := hcount _ hnd hmem
      omega
    have hcl' : Closed l (listed.setIfInBounds i true) := by
      intro j oj hoj hlj e he' hb
      by_cases hji : j = i
      · subst hji
        rw [ho'] at hoj
        cases hoj
        exact getD_set_true (hall e he' hb)
      · rw [getD_set_ne false (Ne.symm hji)] at hlj
        exact getD_set_true (hcl j oj hoj hlj e he' hb)
    have hsu' : ∀ j, p ≤ j → j < l.length → (listed.setIfInBounds i true).getD j true = false := fun j hj hjl => by rw [getD_set_ne true (by omega)]; exact hsu j hj hjl
    -- the step
    have next : ∀ (lim' : Nat → Nat) (w' : World) (v : Value), Good g w st x lim' w' v →
        FWP P f (RPost S Q) (.inRegion l.toArray (Region.linearise.go .any l.toArray fuel (t / (Region.ready .any l.toArray listed).length) (listed.setIfInBounds i true) []) :: k) (Act.put ⟨tmps, []⟩ o.dst v).tmps w' := by
      rintro lim' w' v ⟨hxr, hb, hl⟩
      obtain ⟨hinv', hst⟩ := hinv.grow (g' := { g with lim := lim' }) hb hl rfl rfl
      refine ih fuel _ _ _ w' _ (by simpa using hs) hcl' hsu' hcnt' (by omega) hinv' (hh.step hst) (by rw [size_put]; exact hN) fun s => ⟨fun j y hj hlj hdj hy => ?_, fun hno y hy => ?_⟩
      · by_cases hji : j = i
        · subst hji
          have hods : o.dst = some s := by simpa [dstAt, ho'] using hdj
          rw [hx] at hy
          cases hy
          rw [hods]
          have hsz : s < tmps.size := by
            rw [hods] at hd
            have hd' : s + 1 ≤ N := Nat.le_of_ble_eq_true hd
            rw [hN]
            exact hd'
          exact ⟨v, by simp [Act.put, hsz], hxr⟩
        · rw [getD_set_ne false (Ne.symm hji)] at hlj
          obtain ⟨u, h1, h2⟩ := (hJ s).1 j y hj hlj hdj hy
          have hne' : o.dst ≠ some s := fun e => hC1 j i s hj hip hji hdj (by simp [dstAt, ho', e])
          refine ⟨u, ?_, h2.mono hst.sevo⟩
          cases hod : o.dst with
          | none => exact h1
          | some d =>
            have : d ≠ s := fun e => hne' (by rw [hod, e])
            simp [Act.put, Array.getElem?_setIfInBounds, this, h1]
      · have hne' : o.dst ≠ some s := fun e => hno i hip (by simp [Array.getD_eq_getD_getElem?, hs, hil]) (by simp [dstAt, ho', e])
        obtain ⟨u, h1, h2⟩ := (hJ s).2 (fun j hj hlj => hno j hj (by
          by_cases hji : j = i
          · subst hji; simp [Array.getD_eq_getD_getElem?, hs, hil]
          · rw [getD_set_ne false (Ne.symm hji)]; exact hlj)) y hy
        refine ⟨u, ?_, h2.mono hst.sevo⟩
        cases hod : o.dst with
        | none => exact h1
        | some d =>
          have : d ≠ s := fun e => hne' (by rw [hod, e])
          simp [Act.put, Array.getElem?_setIfInBounds, this, h1]
    have hoA : l.toArray[i]? = some o := ho
    show FWP P f (RPost S Q) (.inRegion l.toArray (i :: _) :: k) tmps w
    rcases hop with ⟨hg, hop⟩ | ⟨j, want, tt, c, b, y, env', hg, hj, hlk, hgc, rfl, hE, hop⟩
    · have hw : Region.wanted o (yielded l.toArray tmps) = true := by simp [Region.wanted, hg]
      rcases hop g S.base w tmps hinv he with ⟨v, lim', w', hr, hgood⟩ | ⟨f', args, hr, hc⟩
      · exact FWP.value hoA hw hr (next lim' w' v hgood)
      · exact FWP.call hoA hw hr (hc.mono fun e w' ⟨v, lim', h1, h2⟩ => ⟨v, h1, next lim' w' v h2⟩)
    · obtain ⟨u, hu, hur⟩ := he tt c hlk
      have hw : Region.wanted o (yielded l.toArray tmps) = b := by
        rw [← gcond_rep hgc hur]
        have hj' : ((l.toArray)[j]?).bind (·.dst) = some tt := by simpa using hj
        simp only [Region.wanted, hg, yielded, hj', Option.bind_some, hu]
        cases u <;> rfl
      cases b with
      | false => exact FWP.unwanted hoA hw (next g.lim w undef ⟨.gd _ _ _ (fun _ => rfl) (fun h => by cases h), .refl _ _, fun _ _ => rfl⟩)
      | true =>
        have wrap : ∀ lim' w' v, Good g w st y lim' w' v → Good g w st (.gd true y) lim' w' v := fun lim' w' v ⟨a, b, c⟩ => ⟨.gd _ _ _ (fun h => by cases h) (fun _ => a), b, c⟩
        rcases hop rfl g S.base w tmps hinv (he.gd hE rfl) with ⟨v, lim', w', hr, hgood⟩ | ⟨f', args, hr, hc⟩
        · exact FWP.value hoA hw hr (next lim' w' v (wrap _ _ _ hgood))
        · exact FWP.call hoA hw hr (hc.mono fun e w' ⟨v, lim', h1, h2⟩ => ⟨v, h1, next lim' w' v (wrap _ _ _ h2)⟩)

/-- What is left of the prefix of a region that draws. -/
def DOps (P : Program) (f : FuncId) (N : Nat) (S : Start) (Q : EV → St → Prop) (l : List Oper) (p : Nat) (os : List Oper) (k : List Item) (env : Env) (st : St) : Prop :=
  ∃ xs, Chain P N l st os xs env ∧ AOps P f N S Q l (l.drop p) k (putAll env os xs) st
variable {l : List Oper} {p : Nat} {os : List Oper} {env : Env} {st : St}
theorem DOps.nil (h : AOps P f N S Q l (l.drop p) k env st) : DOps P f N S Q l p [] k env st := ⟨[], trivial, h⟩
theorem DOps.g {d : Option Tmp} {op : Op} {ty : TypeId} {pos : String} {after : Array Edge} {x : EV} (h : OpG P (renv l ⟨d, op, ty, pos, after, none⟩ env) st ⟨d, op, ty, pos, after, none⟩ x) (hd : dstOk N d = true)
    (hk : DOps P f N S Q l p os k (env.put d x) st) : DOps P f N S Q l p (⟨d, op, ty, pos, after, none⟩ :: os) k env st := by
  obtain ⟨xs, h1, h2⟩ := hk
  exact ⟨x :: xs, ⟨hd, .inl ⟨rfl, h⟩, h1⟩, h2⟩
theorem DOps.q {d : Option Tmp} {op : Op} {ty : TypeId} {pos : String} {after : Array Edge} {x : EV} (h : OpQ P (renv l ⟨d, op, ty, pos, after, none⟩ env) st ⟨d, op, ty, pos, after, none⟩ x) (hd : dstOk N d = true)
    (hk : DOps P f N S Q l p os k (env.put d x) st) : DOps P f N S Q l p (⟨d, op, ty, pos, after, none⟩ :: os) k env st := .g h.g hd hk
theorem DOps.guardG {d : Tmp} {op : Op} {ty : TypeId} {pos : String} {after : Array Edge} {j : Nat} {want b : Bool} {t : Tmp} {c x : EV} {env' : Env} (hj : (l[j]?).bind (·.dst) = some t)
    (hl : lookup t (renv l ⟨some d, op, ty, pos, after, some (j, want)⟩ env) = some c) (hc : gcond c want = some b) (hE : GdEnv b (renv l ⟨some d, op, ty, pos, after, some (j, want)⟩ env) env') (hd : dstOk N (some d) = true)
    (h : b = true → OpG P env' st ⟨some d, op, ty, pos, after, some (j, want)⟩ x) (hk : DOps P f N S Q l p os k ((d, .gd b x) :: env) st) : DOps P f N S Q l p (⟨some d, op, ty, pos, after, some (j, want)⟩ :: os) k env st := by
  obtain ⟨xs, h1, h2⟩ := hk
  exact ⟨.gd b x :: xs, ⟨hd, .inr ⟨j, want, t, c, b, x, env', rfl, hj, hl, hc, rfl, hE, h⟩, h1⟩, h2⟩

theorem ARun.drawn {id : Nat} (p : Nat) (hm : P.follows .mixedOrders = true) (hB : drawB l p = true) (h : DOps P f N S Q l p (l.take p) k env st) : ARun P f N S Q (.code (.region id l.toArray true) :: k) env st := by
  obtain ⟨xs, hch, hsuf⟩ := h
  simp only [drawB, Bool.and_eq_true] at hB
  obtain ⟨⟨⟨⟨hB1, hB2⟩, hB3⟩, hB4⟩, hB5⟩ := hB
  have hp : p ≤ l.length := by simpa using hB5
  intro g w tmps hinv hh he hn
  refine FWP.regionDraw fun t => ?_
  have hsch : Region.schedule (P.follows .mixedOrders) l.toArray t = Region.linearise .any l.toArray t := by simp [Region.schedule, hm]
  rw [hsch]
  have hb : Below w.heap.size w { w with drawn := w.drawn + 1 } := (Below.refl _ w).drew
  obtain ⟨hinv', hst⟩ := hinv.grow (g' := g) hb (fun _ _ => rfl) rfl rfl
  unfold Region.linearise
  refine drawn_main (p := p) (xs := xs) hp ?_ ?_ ?_ ?_ hch hsuf p _ t _ g _ tmps (by simp) ?_ ?_ ?_ ?_ hinv' (hh.step hst) hn fun s => ⟨fun j x hj hlj => ?_, fun _ y hy => ?_⟩
  · intro i j t hi hj hij hdi hdj
    have := allBelow_get (allBelow_get hB2 hi) hj
    simp [hij, hdi, hdj] at this
  · intro i o hi ho t ht j hj hji hdj
    have h1 := allBelow_get hB1 hi
    rw [ho] at h1
    simp only [List.all_eq_true] at h1
    have h2 := allBelow_get (h1 t ht) hj
    simp only [hdj, bne_self_eq_false, Bool.or_false, Bool.or_eq_true, Bool.and_eq_true, decide_eq_true_eq, beq_iff_eq] at h2
    rcases h2 with (h2 | h2) | h2
    · exact absurd h2.symm hji
    · exact .inl h2
    · exact .inr h2
  · intro i hi hil j hj
    have h1 := allBelow_get hB3 hil
    simp only [Bool.or_eq_true, decide_eq_true_eq] at h1
    rcases h1 with h1 | h1
    · omega
    · exact allBelow_get h1 hj
  · intro i o ho e he' hb'
    have hil := (List.getElem?_eq_some_iff.1 ho).1
    have h1 := allBelow_get hB4 hil
    rw [ho] at h1
    simp only [List.all_eq_true] at h1
    have := h1 e (by simpa using he')
    simpa [hb'] using this
  · intro i o ho hli
    simp [Array.getD_eq_getD_getElem?, Array.getElem?_replicate] at hli
    split at hli <;> simp_all
  · intro i hi hil
    simp [Array.getD_eq_getD_getElem?, Array.getElem?_replicate, hil]
  · have : ((List.range p).filter fun i => !(Array.replicate l.toArray.size false).getD i true) = List.range p := by
      rw [List.filter_eq_self]
      intro i hi
      have hi' := List.mem_range.1 hi
      have : i < l.length := by omega
      simp [Array.getD_eq_getD_getElem?, Array.getElem?_replicate, this]
    rw [this]; simp
  · simp; omega
  · simp [Array.getD_eq_getD_getElem?, Array.getElem?_replicate] at hlj
    split at hlj <;> simp_all
  · exact (he.mono hst.sevo) s y hy
end drawn
end Go.Abs
