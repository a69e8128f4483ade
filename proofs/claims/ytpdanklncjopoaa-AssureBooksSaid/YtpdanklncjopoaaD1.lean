/- The core of lifted functions (checked steps, loops), and the rules in typed form. -/
import Derived.Test.YtpdanklncjopoaaB9
set_option linter.unusedSimpArgs false
set_option linter.unusedVariables false
set_option linter.unusedSectionVars false
namespace Go.Abs
open Go.RowKit

/-! ### the words of lifted functions -/
def ck {α : Type} (p : Prop) [Decidable p] (k : Option α) : Option α := if p then k else none
theorem ck_some {α : Type} {p : Prop} [Decidable p] {k : Option α} {r : α} (h : ck p k = some r) : p ∧ k = some r := by
  unfold ck at h
  split at h
  · exact ⟨by assumption, h⟩
  · cases h
theorem ck_pos {α : Type} {p : Prop} [Decidable p] {k : Option α} (h : p) : ck p k = k := if_pos h
def gcall {α : Type} [Inhabited α] (b : Bool) (o : Option α) : Option α := if b = true then o else some default
theorem gcall_some {α : Type} [Inhabited α] {b : Bool} {o : Option α} {y : α} (h : gcall b o = some y) : b = true → o = some y := fun hb => by
  rw [gcall, if_pos hb] at h; exact h
theorem bind_some' {α β : Type} {o : Option α} {k : α → Option β} {r : β} (h : o.bind k = some r) : ∃ y, o = some y ∧ k y = some r := by
  cases o with
  | none => cases h
  | some y => exact ⟨y, rfl, h⟩
theorem map_some' {α β : Type} {o : Option α} {k : α → β} {r : β} (h : o.map k = some r) : ∃ y, o = some y ∧ k y = r := by
  cases o with
  | none => cases h
  | some y => exact ⟨y, rfl, by simpa using h⟩
theorem ifT {α : Type} {b : Bool} {x y : Option α} {r : α} (hc : b = true) (h : (if b = true then x else y) = some r) : x = some r := by rw [if_pos hc] at h; exact h
theorem ifF {α : Type} {b : Bool} {x y : Option α} {r : α} (hc : b = false) (h : (if b = true then x else y) = some r) : y = some r := by rw [if_neg (by rw [hc]; exact Bool.false_ne_true)] at h; exact h
def iter {S R : Type} (step : S → Option (S ⊕ R)) : Nat → S → Option R
  | 0, _ => none
  | n + 1, s => match step s with
    | none => none
    | some (.inl s') => iter step n s'
    | some (.inr r) => some r
def loop {S R : Type} (step : S → Option (S ⊕ R)) (s : S) : Option R := iter step 18446744073709551616 s
theorem loop_some {S R : Type} {step : S → Option (S ⊕ R)} {s : S} {r : R} (h : loop step s = some r) : ∃ n, iter step n s = some r := ⟨_, h⟩
def Kof {S R : Type} (step : S → Option (S ⊕ R)) (n : Nat) (ρ : R) : S ⊕ R → Prop
  | .inl s => iter step n s = some ρ
  | .inr r => r = ρ
theorem iter_succ {S R : Type} {step : S → Option (S ⊕ R)} {n : Nat} {s : S} {ρ : R} (h : iter step n s = some ρ) : ∃ m q, m < n ∧ step s = some q ∧ Kof step m ρ q := by
  cases n with
  | zero => cases h
  | succ m =>
    unfold iter at h
    split at h
    · cases h
    · rename_i s' hs; exact ⟨m, _, Nat.lt_succ_self _, hs, h⟩
    · rename_i r hs; cases h; exact ⟨m, _, Nat.lt_succ_self _, hs, rfl⟩
theorem iter_mono {S R : Type} {step : S → Option (S ⊕ R)} : ∀ {n m : Nat} {s : S} {r : R}, iter step n s = some r → n ≤ m → iter step m s = some r
  | 0, _, _, _, h, _ => by cases h
  | n + 1, 0, _, _, _, hm => by omega
  | n + 1, m + 1, s, r, h, hm => by
    unfold iter at h ⊢
    split at h
    · cases h
    · exact iter_mono h (by omega)
    · exact h
/-- A loop computes F, if each round keeps it and a measure falls. -/
theorem loop_spec {S R : Type} {step : S → Option (S ⊕ R)} (F : S → Option R) (I : S → Prop) (μ : S → Nat)
    (h : ∀ s, I s → (∃ r, step s = some (.inr r) ∧ F s = some r) ∨ ∃ s', step s = some (.inl s') ∧ I s' ∧ μ s' < μ s ∧ F s' = F s) {s : S} (hI : I s) (hμ : μ s < 18446744073709551616) : loop step s = F s := by
  have key : ∀ n s, I s → μ s < n → ∃ r, iter step n s = some r ∧ F s = some r := by
    intro n
    induction n with
    | zero => intro s _ hn; omega
    | succ n ih =>
      intro s hI hn
      rcases h s hI with ⟨r, h1, h2⟩ | ⟨s', h1, h2, h3, h4⟩
      · exact ⟨r, by unfold iter; rw [h1], h2⟩
      · obtain ⟨r, k1, k2⟩ := ih s' h2 (by omega)
        exact ⟨r, by unfold iter; rw [h1]; exact k1, by rw [← h4]; exact k2⟩
  obtain ⟨r, h1, h2⟩ := key _ s hI hμ
  rw [h2]; exact h1
/-- A loop comes to an end with what is wanted. -/
theorem loop_post {S R : Type} {step : S → Option (S ⊕ R)} (Q : R → Prop) (I : S → Prop) (μ : S → Nat)
    (h : ∀ s, I s → (∃ r, step s = some (.inr r) ∧ Q r) ∨ ∃ s', step s = some (.inl s') ∧ I s' ∧ μ s' < μ s) {s : S} (hI : I s) (hμ : μ s < 18446744073709551616) : ∃ r, loop step s = some r ∧ Q r := by
  have key : ∀ n s, I s → μ s < n → ∃ r, iter step n s = some r ∧ Q r := by
    intro n
    induction n with
    | zero => intro s _ hn; omega
    | succ n ih =>
      intro s hI hn
      rcases h s hI with ⟨r, h1, h2⟩ | ⟨s', h1, h2, h3⟩
      · exact ⟨r, by unfold iter; rw [h1], h2⟩
      · obtain ⟨r, k1, k2⟩ := ih s' h2 (by omega)
        exact ⟨r, by unfold iter; rw [h1]; exact k1, k2⟩
  exact key _ s hI hμ

/-! ### data -/
abbrev cU8 (b : UInt8) : D := .ex (.int .u8 (b.toNat : Int))
abbrev cK (k : IntKind) (n : Int) : D := .ex (.int k n)
abbrev nilD : D := .ex (.slice none 0 0)
def rK (k : IntKind) (n : Int) : List D := [.ex (.int k n)]
def rBo (b : Bool) : List D := [.ex (.bool b)]
def rSl {α : Type} (sz : Nat) (row : α → List D) (l : List α) : List D := [.sl sz (l.map row)]
theorem EVle.d {x y : D} (h : DLe x y) : EVle (.d x) (.d y) := fun g w st v hv => by cases hv with | d _ _ hd => exact .d _ _ (h _ _ _ hd)
theorem DLe.e0 (sz : Nat) : DLe (.e0 sz) (.sl sz []) := fun _ _ _ h => D.e0_sl h
theorem DLe.tup {xs ys : List D} (h : DLes xs ys) : DLe (.tup xs) (.tup ys) := by
  intro lim w v hv
  obtain ⟨h1, h2⟩ := h.get
  cases hv with
  | tup _ vs hs hc =>
    refine .tup _ vs (by rw [hs, h1]) fun i c u hi hu => ?_
    obtain ⟨x, hx, hle⟩ := h2 i c hi
    exact hle lim w u (hc i x u hx hu)
theorem DLe.ro {xs ys : List D} (h : DLes xs ys) : DLe (.ro xs) (.ro ys) := by
  intro lim w v hv
  obtain ⟨h1, h2⟩ := h.get
  cases hv with
  | ro _ b off hx hc =>
    refine .ro ys b off (fun k hk => hx k (by rw [h1]; exact hk)) fun j c u hj hu => ?_
    obtain ⟨x, hx', hle⟩ := h2 j c hj
    exact hle lim w u (hc j x u hx' hu)
section weak
variable {P : Program} {f : FuncId} {N : Nat} {S : Start} {Q : EV → St → Prop} {k : List Item} {todo : List Item} {env : Env} {st : St} {ops rest : List Oper}
theorem EnvRep.weak {g : Ghost} {w : World} {tmps : Array Value} {i : Nat} {x y : EV} (he : EnvRep g w st env tmps) (hl : lookup i env = some x) (hle : EVle x y) : EnvRep g w st ((i, y) :: env) tmps := by
  intro j z hz
  unfold lookup at hz
  cases hb : Nat.beq j i with
  | true =>
    rw [hb] at hz
    simp only [Option.some.injEq] at hz
    subst hz
    have := Nat.eq_of_beq_eq_true hb
    subst this
    obtain ⟨v, h1, h2⟩ := he j x hl
    exact ⟨v, h1, hle _ _ _ _ h2⟩
  | false => rw [hb] at hz; exact he j z hz
theorem ARun.weak {i : Nat} {x y : EV} (hl : lookup i env = some x) (hle : EVle x y) (h : ARun P f N S Q todo ((i, y) :: env) st) : ARun P f N S Q todo env st :=
  fun g w t a b c d => h g w t a b (c.weak hl hle) d
theorem AOps.weak {i : Nat} {x y : EV} (hl : lookup i env = some x) (hle : EVle x y) (h : AOps P f N S Q ops rest k ((i, y) :: env) st) : AOps P f N S Q ops rest k env st :=
  fun j hj => .weak hl hle (h j hj)
theorem AOps.withSt {st' : St} (h : st = st') (hk : AOps P f N S Q ops rest k env st') : AOps P f N S Q ops rest k env st := h ▸ hk
end weak
theorem OpQ.le {P : Program} {env : Env} {st : St} {o : Oper} {x y : EV} (h : OpQ P env st o x) (hle : EVle x y) : OpQ P env st o y := fun g b w t hi he =>
  let ⟨v, h1, h2⟩ := h g b w t hi he
  ⟨v, hle _ _ _ _ h1, h2⟩
theorem OpG.le {P : Program} {env : Env} {st : St} {o : Oper} {x y : EV} (h : OpG P env st o x) (hle : EVle x y) : OpG P env st o y := fun g b w t hi he => by
  rcases h g b w t hi he with ⟨v, l, w', h1, h2, h3, h4⟩ | ⟨f, a, h1, h2⟩
  · exact .inl ⟨v, l, w', h1, hle _ _ _ _ h2, h3, h4⟩
  · exact .inr ⟨f, a, h1, h2.mono fun e w' ⟨v, l, k0, k1, k2, k3⟩ => ⟨v, l, k0, hle _ _ _ _ k1, k2, k3⟩⟩

section q
variable {P : Program} {base : Nat} {env : Env} {st : St} {d : Option Tmp} {ty : TypeId} {pos : String} {after : Array Edge} {gd : Option (Nat × Bool)} {t t2 e : TypeId} {x y z : Operand}
/-! ### numbers of eight bits -/
section u8
variable {a b : UInt8} (hx : evo env x = some (.d (cU8 a))) (hy : evo env y = some (.d (cU8 b)))
theorem u8w (n : Int) : IntKind.u8.wrap n = ((UInt8.ofInt n).toNat : Int) := by
  simp only [IntKind.wrap, IntKind.signed, IntKind.bits, UInt8.ofInt]
  simp [UInt8.toNat_ofNat']
  omega
theorem u8add (a b : UInt8) : IntKind.u8.wrap ((a.toNat : Int) + b.toNat) = ((a + b).toNat : Int) := by
  rw [u8w, UInt8.toNat_add]; simp [UInt8.ofInt, UInt8.toNat_ofNat']; omega
theorem u8sub (a b : UInt8) : IntKind.u8.wrap ((a.toNat : Int) - b.toNat) = ((a - b).toNat : Int) := by
  have h1 := a.toNat_lt
  have h2 := b.toNat_lt
  rw [u8w, UInt8.toNat_sub]; simp [UInt8.ofInt, UInt8.toNat_ofNat']; omega
theorem u8mul (a b : UInt8) : IntKind.u8.wrap ((a.toNat : Int) * b.toNat) = ((a * b).toNat : Int) := by
  rw [u8w, UInt8.toNat_mul, ← Int.natCast_mul]
  generalize a.toNat * b.toNat = n
  simp [UInt8.ofInt, UInt8.toNat_ofNat']; omega
theorem u8quo (a b : UInt8) : IntKind.u8.wrap ((a.toNat : Int).tdiv b.toNat) = ((a / b).toNat : Int) := by
  have h1 := a.toNat_lt
  have h2 := Nat.div_le_self a.toNat b.toNat
  rw [Int.tdiv_eq_ediv_of_nonneg (by omega), ← Int.natCast_ediv, u8w, UInt8.toNat_div]
  generalize a.toNat / b.toNat = n at h2
  simp [UInt8.ofInt, UInt8.toNat_ofNat']; omega
theorem u8ne {b : UInt8} (h0 : b ≠ 0) : (b.toNat : Int) ≠ 0 := fun h => h0 (UInt8.toNat_inj.1 (by
  have : b.toNat = 0 := by omega
  rw [this]; rfl))
theorem u8_beq (a b : UInt8) : ((a.toNat : Int) == (b.toNat : Int)) = (a == b) := by
  rw [Bool.eq_iff_iff]
  simp only [beq_iff_eq]
  constructor
  · intro h; exact UInt8.toNat_inj.1 (by omega)
  · intro h; rw [h]
include hx hy
theorem q8_lss : OpQ P env st ⟨d, .binOp .lss t x y t2, ty, pos, after, gd⟩ (.d (cB (decide (a < b)))) := by
  have := q_lss (P := P) (st := st) (d := d) (ty := ty) (pos := pos) (after := after) (gd := gd) (t := t) (t2 := t2) hx hy
  rwa [show decide (((a.toNat : Int)) < (b.toNat : Int)) = decide (a < b) from by rw [decide_eq_decide, UInt8.lt_iff_toNat_lt]; omega] at this
theorem q8_leq : OpQ P env st ⟨d, .binOp .leq t x y t2, ty, pos, after, gd⟩ (.d (cB (decide (a ≤ b)))) := by
  have := q_leq (P := P) (st := st) (d := d) (ty := ty) (pos := pos) (after := after) (gd := gd) (t := t) (t2 := t2) hx hy
  rwa [show decide (((a.toNat : Int)) ≤ (b.toNat : Int)) = decide (a ≤ b) from by rw [decide_eq_decide, UInt8.le_iff_toNat_le]; omega] at this
theorem q8_gtr : OpQ P env st ⟨d, .binOp .gtr t x y t2, ty, pos, after, gd⟩ (.d (cB (decide (a > b)))) := by
  have := q_gtr (P := P) (st := st) (d := d) (ty := ty) (pos := pos) (after := after) (gd := gd) (t := t) (t2 := t2) hx hy
  rwa [show decide (((a.toNat : Int)) > (b.toNat : Int)) = decide (a > b) from by rw [decide_eq_decide, gt_iff_lt, gt_iff_lt, UInt8.lt_iff_toNat_lt]; omega] at this
theorem q8_geq : OpQ P env st ⟨d, .binOp .geq t x y t2, ty, pos, after, gd⟩ (.d (cB (decide (a ≥ b)))) := by
  have := q_geq (P := P) (st := st) (d := d) (ty := ty) (pos := pos) (after := after) (gd := gd) (t := t) (t2 := t2) hx hy
  rwa [show decide (((a.toNat : Int)) ≥ (b.toNat : Int)) = decide (a ≥ b) from by rw [decide_eq_decide, ge_iff_le, ge_iff_le, UInt8.le_iff_toNat_le]; omega] at this
theorem q8_eql : OpQ P env st ⟨d, .binOp .eql t x y t2, ty, pos, after, gd⟩ (.d (cB (a == b))) := by
  have := q_eql (P := P) (st := st) (d := d) (ty := ty) (pos := pos) (after := after) (gd := gd) (t := t) (t2 := t2) hx hy
  rwa [u8_beq] at this
theorem q8_neq : OpQ P env st ⟨d, .binOp .neq t x y t2, ty, pos, after, gd⟩ (.d (cB (a != b))) := by
  have := q_neq (P := P) (st := st) (d := d) (ty := ty) (pos := pos) (after := after) (gd := gd) (t := t) (t2 := t2) hx hy
  rwa [show ((a.toNat : Int) != (b.toNat : Int)) = (a != b) from by unfold bne; rw [u8_beq]] at this
theorem q8_add : OpQ P env st ⟨d, .binOp .add t x y t2, ty, pos, after, gd⟩ (.d (cU8 (a + b))) := q_add hx hy (u8add a b)
theorem q8_sub : OpQ P env st ⟨d, .binOp .sub t x y t2, ty, pos, after, gd⟩ (.d (cU8 (a - b))) := q_sub hx hy (u8sub a b)
theorem q8_mul : OpQ P env st ⟨d, .binOp .mul t x y t2, ty, pos, after, gd⟩ (.d (cU8 (a * b))) := q_mul hx hy (u8mul a b)
theorem q8_quo (h0 : b ≠ 0) : OpQ P env st ⟨d, .binOp .quo t x y t2, ty, pos, after, gd⟩ (.d (cU8 (a / b))) := q_quo hx hy (u8ne h0) (u8quo a b)
theorem q8_rem (h0 : b ≠ 0) : OpQ P env st ⟨d, .binOp .rem t x y t2, ty, pos, after, gd⟩ (.d (cU8 (a % b))) :=
  q_rem hx hy (u8ne h0) (by rw [Int.tmod_eq_emod_of_nonneg (by omega), ← Int.natCast_emod, UInt8.toNat_mod])
end u8
/-- From one kind of numbers to eight bits, and back. -/
theorem q_conv8 {k : IntKind} {n : Int} (hs : P.underlying t = some (.int k)) (ht : P.underlying t2 = some (.int .u8)) (hx : evo env x = some (.d (.ex (.int k n)))) :
    OpQ P env st ⟨d, .convert t t2 x, ty, pos, after, gd⟩ (.d (cU8 (UInt8.ofInt n))) := q_conv hs ht hx (u8w n)
theorem q_conv8i {a : UInt8} (hs : P.underlying t = some (.int .u8)) (ht : P.underlying t2 = some (.int .i64)) (hx : evo env x = some (.d (cU8 a))) :
    OpQ P env st ⟨d, .convert t t2 x, ty, pos, after, gd⟩ (.d (cI (a.toNat : Int))) := q_conv hs ht hx (by have := a.toNat_lt; exact i64w (by omega) (by omega))
theorem q_conv88 {a : UInt8} (hs : P.underlying t = some (.int .u8)) (ht : P.underlying t2 = some (.int .u8)) (hx : evo env x = some (.d (cU8 a))) :
    OpQ P env st ⟨d, .convert t t2 x, ty, pos, after, gd⟩ (.d (cU8 a)) := q_conv hs ht hx (by rw [u8w]; have := a.toNat_lt; simp [UInt8.ofInt, UInt8.toNat_ofNat']; omega)
theorem q_convII {n : Int} (hs : P.underlying t = some (.int .i64)) (ht : P.underlying t2 = some (.int .i64)) (hx : evo env x = some (.d (cI n))) (h : -9223372036854775808 ≤ n ∧ n ≤ 9223372036854775807) :
    OpQ P env st ⟨d, .convert t t2 x, ty, pos, after, gd⟩ (.d (cI n)) := q_conv hs ht hx (i64w h.1 h.2)
/-- Whole quotients and remainders of any sign. -/
theorem q_quoT {a b : Int} (hx : evo env x = some (.d (cI a))) (hy : evo env y = some (.d (cI b))) (h : b ≠ 0 ∧ -9223372036854775808 ≤ a.tdiv b ∧ a.tdiv b ≤ 9223372036854775807) :
    OpQ P env st ⟨d, .binOp .quo t x y t2, ty, pos, after, gd⟩ (.d (cI (a.tdiv b))) := q_quo hx hy h.1 (i64w h.2.1 h.2.2)
theorem q_remT {a b : Int} (hx : evo env x = some (.d (cI a))) (hy : evo env y = some (.d (cI b))) (h : b ≠ 0) :
    OpQ P env st ⟨d, .binOp .rem t x y t2, ty, pos, after, gd⟩ (.d (cI (a.tmod b))) := q_rem hx hy h rfl
/-- a << n of whole numbers. -/
theorem q_shlI {k : IntKind} {a b : Int} (hx : evo env x = some (.d (cI a))) (hy : evo env y = some (.d (.ex (.int k b)))) (h : 0 ≤ b ∧ b < 63 ∧ -9223372036854775808 ≤ a * 2 ^ b.toNat ∧ a * 2 ^ b.toNat ≤ 9223372036854775807) :
    OpQ P env st ⟨d, .binOp .shl t x y t2, ty, pos, after, gd⟩ (.d (cI (a * 2 ^ b.toNat))) := q_shl hx hy h.1 (by
      rw [Nat.min_eq_left (by simp [IntKind.bits]; omega)]; exact i64w h.2.2.1 h.2.2.2)
theorem q_shrI {k : IntKind} {a b : Int} (hx : evo env x = some (.d (cI a))) (hy : evo env y = some (.d (.ex (.int k b)))) (h : 0 ≤ b ∧ b < 63) :
    OpQ P env st ⟨d, .binOp .shr t x y t2, ty, pos, after, gd⟩ (.d (cI (a / 2 ^ b.toNat))) := q_shr hx hy h.1 (by
      rw [Nat.min_eq_left (by simp [IntKind.bits]; omega), Int.fdiv_eq_ediv_of_nonneg]
      exact Int.le_of_lt (Int.pow_pos (by decide)))

/-! ### slices -/
section sl
variable {α : Type} {sz : Nat} {row : α → List D} {l : List α} {ev : EV} {inf : TypeInfo}
theorem q_idxL [Inhabited α] {k : IntKind} {i : Int} (ht : P.underlying t = some (.slice e)) (hi : P.info? e = some inf) (hsz : inf.size = sz) (hx : evo env x = some ev) (hs : asSl ev = some (sz, l.map row)) (hy : evo env y = some (.d (.ex (.int k i)))) (h : 0 ≤ i ∧ i < l.length) :
    OpQ P env st ⟨d, .indexAddr t x y, ty, pos, after, gd⟩ (.d (.ro (row (nth l i.toNat)))) := q_idxN (n := i.toNat) ht hi hsz hx hs hy (by omega) (mapnth (by omega))
theorem q_indexL {a : List UInt8} {k : IntKind} {i : Int} (ht : P.underlying t = some .string) (hx : evo env x = some (.d (cS a))) (hy : evo env y = some (.d (.ex (.int k i)))) (h : 0 ≤ i ∧ i < a.length) :
    OpQ P env st ⟨d, .index t x y, ty, pos, after, gd⟩ (.d (cU8 (nth a i.toNat))) := by
  have := q_indexN (n := i.toNat) (st := st) (d := d) (ty := ty) (pos := pos) (after := after) (gd := gd) ht hx hy (by omega) (by omega)
  exact this
theorem q_lenL (ht : P.underlying t = some (.slice e)) (hx : evo env x = some ev) (hs : asSl ev = some (sz, l.map row)) :
    OpQ P env st ⟨d, .call ⟨.builtin .len, #[x], #[t]⟩, ty, pos, after, gd⟩ (.d (cI (l.length : Int))) := by
  have := q_lenA (st := st) (d := d) (ty := ty) (pos := pos) (after := after) (gd := gd) ht hx hs
  rwa [List.length_map] at this
theorem q_slLHL {kl kh : IntKind} {a b : Int} (ht : P.underlying t = some (.slice e)) (hi : P.info? e = some inf) (hsz : inf.size = sz) (hx : evo env x = some ev) (hs : asSl ev = some (sz, l.map row)) (hy : evo env y = some (.d (.ex (.int kl a)))) (hz : evo env z = some (.d (.ex (.int kh b)))) (h : 0 ≤ a ∧ a ≤ b ∧ b ≤ l.length) :
    OpQ P env st ⟨d, .slice t x (some y) (some z) none, ty, pos, after, gd⟩ (.d (slOf sz row ((l.take b.toNat).drop a.toNat))) := by
  have := q_slLH (st := st) (d := d) (ty := ty) (pos := pos) (after := after) (gd := gd) ht hi hsz hx hs hy hz h.1 h.2.1 (by simpa using h.2.2)
  simpa [slOf] using this
theorem q_slHL {kh : IntKind} {b : Int} (ht : P.underlying t = some (.slice e)) (hi : P.info? e = some inf) (hsz : inf.size = sz) (hx : evo env x = some ev) (hs : asSl ev = some (sz, l.map row)) (hz : evo env z = some (.d (.ex (.int kh b)))) (h : 0 ≤ b ∧ b ≤ l.length) :
    OpQ P env st ⟨d, .slice t x none (some z) none, ty, pos, after, gd⟩ (.d (slOf sz row (l.take b.toNat))) := by
  have := q_slH (st := st) (d := d) (ty := ty) (pos := pos) (after := after) (gd := gd) ht hi hsz hx hs hz h.1 (by simpa using h.2)
  simpa [slOf] using this
theorem q_slLL {kl : IntKind} {a : Int} (ht : P.underlying t = some (.slice e)) (hi : P.info? e = some inf) (hsz : inf.size = sz) (hx : evo env x = some ev) (hs : asSl ev = some (sz, l.map row)) (hy : evo env y = some (.d (.ex (.int kl a)))) (h : 0 ≤ a ∧ a ≤ l.length) :
    OpQ P env st ⟨d, .slice t x (some y) none none, ty, pos, after, gd⟩ (.d (slOf sz row (l.drop a.toNat))) := by
  have := q_slL (st := st) (d := d) (ty := ty) (pos := pos) (after := after) (gd := gd) ht hi hsz hx hs hy h.1 (by simpa using h.2)
  simpa [slOf] using this
theorem q_strLHL {a : List UInt8} {kl kh : IntKind} {i j : Int} (ht : P.underlying t = some .string) (hx : evo env x = some (.d (cS a))) (hy : evo env y = some (.d (.ex (.int kl i)))) (hz : evo env z = some (.d (.ex (.int kh j)))) (h : 0 ≤ i ∧ i ≤ j ∧ j ≤ a.length) :
    OpQ P env st ⟨d, .slice t x (some y) (some z) none, ty, pos, after, gd⟩ (.d (cS ((a.take j.toNat).drop i.toNat))) := by
  have := q_strLH (st := st) (d := d) (ty := ty) (pos := pos) (after := after) (gd := gd) ht hx hy hz h.1 h.2.1 h.2.2
  rwa [← List.drop_take] at this
/-! appends -/
theorem big_le {n b : Nat} (h : n ≤ 1000000000) (hb : b ≤ 100000) : n * b ≤ 140737488355328 := Nat.le_trans (Nat.mul_le_mul h hb) (by decide)
theorem v_appendL {l' : List α} {tk : Nat} {z : Value} {w : EV} (ht : P.underlying t = some (.slice e)) (hi : P.info? e = some inf) (hz : inf.zero = some z) (hsize : inf.size = sz) (hzs : z.cells.size = sz) (hb : inf.bytes ≤ 100000)
    (hx : evo env x = some (.tsl sz (l.map row) tk)) (htl : st.tails[tk]? = some ⟨e, sz, l.length, none⟩) (hy : evo env y = some w) (hs : asSl w = some (sz, l'.map row)) (hn : l.length + l'.length ≤ 1000000000) :
    OpV P base env st ⟨d, .call ⟨.builtin .append, #[x, y], #[t, t]⟩, ty, pos, after, gd⟩ (.tsl sz ((l ++ l').map row) tk) (st.setTail tk ⟨e, sz, (l ++ l').length, none⟩) := by
  have := v_append (base := base) (d := d) (ty := ty) (pos := pos) (after := after) (gd := gd) ht hi hz hsize hzs hx (by simpa using htl) hy hs (by simpa using big_le hn hb) (by simp; omega)
  simpa using this
theorem v_appendStrL {l a : List UInt8} {tk : Nat} {z : Value} (ht : P.underlying t = some (.slice e)) (ht2 : P.underlying t2 = some .string) (hi : P.info? e = some inf) (hz : inf.zero = some z) (hsize : inf.size = 1) (hzs : z.cells.size = 1) (hb : inf.bytes ≤ 100000)
    (hx : evo env x = some (.tsl 1 (l.map rB8) tk)) (htl : st.tails[tk]? = some ⟨e, 1, l.length, none⟩) (hy : evo env y = some (.d (cS a))) (hn : l.length + a.length ≤ 1000000000) :
    OpV P base env st ⟨d, .call ⟨.builtin .append, #[x, y], #[t, t2]⟩, ty, pos, after, gd⟩ (.tsl 1 ((l ++ a).map rB8) tk) (st.setTail tk ⟨e, 1, (l ++ a).length, none⟩) := by
  have := v_appendStr (base := base) (d := d) (ty := ty) (pos := pos) (after := after) (gd := gd) ht ht2 hi hz hsize hzs hx (by simpa using htl) hy (by simpa using big_le hn hb) (by simp; omega)
  have e1 : byteRows a = a.map rB8 := rfl
  rw [e1] at this
  simpa using this
theorem v_appendNilL {l' : List α} {z : Value} {w : EV} (ht : P.underlying t = some (.slice e)) (hi : P.info? e = some inf) (hz : inf.zero = some z) (hsize : inf.size = sz) (hzs : z.cells.size = sz) (hb : inf.bytes ≤ 100000)
    (hx : evo env x = some (.d nilD)) (hy : evo env y = some w) (hs : asSl w = some (sz, l'.map row)) (hn : l'.length ≤ 1000000000) :
    OpV P base env st ⟨d, .call ⟨.builtin .append, #[x, y], #[t, t]⟩, ty, pos, after, gd⟩ (.tsl sz (l'.map row) st.tails.length) ((st.tok ⟨e, sz, 0, none⟩).setTail st.tails.length ⟨e, sz, l'.length, none⟩) := by
  have := v_appendNil (base := base) (st := st) (d := d) (ty := ty) (pos := pos) (after := after) (gd := gd) ht hi hz hsize hzs hx hy hs (by simpa using big_le hn hb) (by simp; omega)
  simpa using this
theorem g_append0L {l' : List α} {z : Value} {w e0 : EV} (ht : P.underlying t = some (.slice e)) (hi : P.info? e = some inf) (hz : inf.zero = some z) (hsize : inf.size = sz) (hzs : z.cells.size = sz) (hb : inf.bytes ≤ 100000)
    (hx : evo env x = some e0) (h0 : e0 = .d (.e0 sz) ∨ e0 = .d nilD) (hy : evo env y = some w) (hs : asSl w = some (sz, l'.map row)) (hn : l'.length ≤ 1000000000) :
    OpG P env st ⟨d, .call ⟨.builtin .append, #[x, y], #[t, t]⟩, ty, pos, after, gd⟩ (.d (slOf sz row l')) :=
  g_append0 ht hi hz hsize hzs hx h0 hy hs (by simpa using big_le hn hb) (by simp; omega)
theorem q_bytesStrL {a : List UInt8} (hs : P.underlying t = some (.slice e)) (he' : P.underlying e = some (.int .u8)) (hd : P.underlying t2 = some .string) (hx : evo env x = some ev) (hsl : asSl ev = some (1, a.map rB8)) :
    OpQ P env st ⟨d, .convert t t2 x, ty, pos, after, gd⟩ (.d (cS a)) := q_bytesStr hs he' hd hx hsl
end sl
/-! ### bits -/
def bAnd (k : IntKind) (a b : Int) : Int := k.wrap ((BitVec.ofInt k.bits a &&& BitVec.ofInt k.bits b).toNat)
def bOr (k : IntKind) (a b : Int) : Int := k.wrap ((BitVec.ofInt k.bits a ||| BitVec.ofInt k.bits b).toNat)
def bXor (k : IntKind) (a b : Int) : Int := k.wrap ((BitVec.ofInt k.bits a ^^^ BitVec.ofInt k.bits b).toNat)
def bAndNot (k : IntKind) (a b : Int) : Int := k.wrap ((BitVec.ofInt k.bits a &&& ~~~(BitVec.ofInt k.bits b)).toNat)
section bits
variable {k : IntKind} {a b : Int} (hx : evo env x = some (.d (.ex (.int k a)))) (hy : evo env y = some (.d (.ex (.int k b))))
include hx hy
theorem q_and : OpQ P env st ⟨d, .binOp .and t x y t2, ty, pos, after, gd⟩ (.d (.ex (.int k (bAnd k a b)))) := q_bits hx hy (.inl rfl) fun w => rfl
theorem q_or : OpQ P env st ⟨d, .binOp .or t x y t2, ty, pos, after, gd⟩ (.d (.ex (.int k (bOr k a b)))) := q_bits hx hy (.inr (.inl rfl)) fun w => rfl
theorem q_xor : OpQ P env st ⟨d, .binOp .xor t x y t2, ty, pos, after, gd⟩ (.d (.ex (.int k (bXor k a b)))) := q_bits hx hy (.inr (.inr (.inl rfl))) fun w => rfl
theorem q_andNot : OpQ P env st ⟨d, .binOp .andNot t x y t2, ty, pos, after, gd⟩ (.d (.ex (.int k (bAndNot k a b)))) := q_bits hx hy (.inr (.inr (.inr rfl))) fun w => rfl
end bits
theorem u8ofInt (a : UInt8) : BitVec.ofInt 8 (a.toNat : Int) = a.toBitVec := by
  apply BitVec.eq_of_toNat_eq
  have := a.toNat_lt
  simp [BitVec.toNat_ofInt]
theorem u8wn (n : Nat) (h : n < 256) : IntKind.u8.wrap (n : Int) = (n : Int) := by
  simp only [IntKind.wrap, IntKind.signed, IntKind.bits]
  simp; omega
section bits8
variable {a b : UInt8} (hx : evo env x = some (.d (cU8 a))) (hy : evo env y = some (.d (cU8 b)))
include hx hy
theorem q8_and : OpQ P env st ⟨d, .binOp .and t x y t2, ty, pos, after, gd⟩ (.d (cU8 (a &&& b))) := by
  have h := q_and (P := P) (st := st) (d := d) (ty := ty) (pos := pos) (after := after) (gd := gd) (t := t) (t2 := t2) hx hy
  have e : bAnd .u8 a.toNat b.toNat = ((a &&& b).toNat : Int) := by
    show IntKind.u8.wrap ((BitVec.ofInt 8 (a.toNat : Int) &&& BitVec.ofInt 8 (b.toNat : Int)).toNat : Int) = _
    rw [u8ofInt, u8ofInt, u8wn _ (BitVec.isLt _)]; rfl
  rwa [e] at h
theorem q8_or : OpQ P env st ⟨d, .binOp .or t x y t2, ty, pos, after, gd⟩ (.d (cU8 (a ||| b))) := by
  have h := q_or (P := P) (st := st) (d := d) (ty := ty) (pos := pos) (after := after) (gd := gd) (t := t) (t2 := t2) hx hy
  have e : bOr .u8 a.toNat b.toNat = ((a ||| b).toNat : Int) := by
    show IntKind.u8.wrap ((BitVec.ofInt 8 (a.toNat : Int) ||| BitVec.ofInt 8 (b.toNat : Int)).toNat : Int) = _
    rw [u8ofInt, u8ofInt, u8wn _ (BitVec.isLt _)]; rfl
  rwa [e] at h
theorem q8_xor : OpQ P env st ⟨d, .binOp .xor t x y t2, ty, pos, after, gd⟩ (.d (cU8 (a ^^^ b))) := by
  have h := q_xor (P := P) (st := st) (d := d) (ty := ty) (pos := pos) (after := after) (gd := gd) (t := t) (t2 := t2) hx hy
  have e : bXor .u8 a.toNat b.toNat = ((a ^^^ b).toNat : Int) := by
    show IntKind.u8.wrap ((BitVec.ofInt 8 (a.toNat : Int) ^^^ BitVec.ofInt 8 (b.toNat : Int)).toNat : Int) = _
    rw [u8ofInt, u8ofInt, u8wn _ (BitVec.isLt _)]; rfl
  rwa [e] at h
end bits8
def u8shl (a : UInt8) (n : Int) : UInt8 := UInt8.ofInt ((a.toNat : Int) * 2 ^ (min n.toNat 8))
def u8shr (a : UInt8) (n : Int) : UInt8 := UInt8.ofNat (a.toNat / 2 ^ (min n.toNat 8))
theorem q8_shl {k : IntKind} {a : UInt8} {n : Int} (hx : evo env x = some (.d (cU8 a))) (hy : evo env y = some (.d (.ex (.int k n)))) (h : 0 ≤ n) :
    OpQ P env st ⟨d, .binOp .shl t x y t2, ty, pos, after, gd⟩ (.d (cU8 (u8shl a n))) := q_shl hx hy h (u8w _)
theorem q8_shr {k : IntKind} {a : UInt8} {n : Int} (hx : evo env x = some (.d (cU8 a))) (hy : evo env y = some (.d (.ex (.int k n)))) (h : 0 ≤ n) :
    OpQ P env st ⟨d, .binOp .shr t x y t2, ty, pos, after, gd⟩ (.d (cU8 (u8shr a n))) := q_shr hx hy h (by
      show Int.fdiv (a.toNat : Int) (2 ^ (min n.toNat 8)) = _
      have h1 := a.toNat_lt
      have h2 := Nat.div_le_self a.toNat (2 ^ (min n.toNat 8))
      rw [Int.fdiv_eq_ediv_of_nonneg _ (Int.le_of_lt (Int.pow_pos (by decide)))]
      unfold u8shr
      rw [UInt8.toNat_ofNat', Nat.mod_eq_of_lt (by omega)]
      norm_cast)
end q
end Go.Abs
