/- Rules for quiet operations: moves, numbers, strings, reading published and owned memory. -/
import Derived.Test.YtpdanklncjopoaaA2
set_option linter.unusedSimpArgs false
set_option linter.unusedVariables false
namespace Go.Abs
open Go.RowKit

section q
variable {P : Program} {env : Env} {st : St} {d : Option Tmp} {ty : TypeId} {pos : String} {after : Array Edge} {gd : Option (Nat × Bool)}

theorem q_move {x : Operand} {e : EV} (hx : evo env x = some e) : OpQ P env st ⟨d, .move x, ty, pos, after, gd⟩ e :=
  fun g base w tmps hi he => ⟨_, evo_rep he hx, fun _ _ => rfl⟩
theorem q_assign {x : Operand} {e : EV} (hx : evo env x = some e) : OpQ P env st ⟨d, .assign x, ty, pos, after, gd⟩ e :=
  fun g base w tmps hi he => ⟨_, evo_rep he hx, fun _ _ => rfl⟩

/-- An operation on exact values, by what it comes to in every world. -/
theorem q_ex {o : Oper} {r : Value} (h : ∀ g w tmps w', EnvRep g w st env tmps → (execOp (Act.eval ⟨tmps, []⟩) o).run P w' = .ok (.value r) w') : OpQ P env st o (.d (.ex r)) :=
  fun g base w tmps hi he => ⟨r, .d _ _ (.ex r), fun w' _ => h g w tmps w' he⟩

variable {t t2 : TypeId} {x y : Operand}
section two
variable {k : IntKind} {a b : Int} (hx : evo env x = some (.d (.ex (.int k a)))) (hy : evo env y = some (.d (.ex (.int k b))))
include hx hy
theorem q_lss : OpQ P env st ⟨d, .binOp .lss t x y t2, ty, pos, after, gd⟩ (.d (.ex (.bool (decide (a < b))))) := q_ex fun g w tmps w' he => by
  simp [execOp, (evo_rep he hx).ex_inv, (evo_rep he hy).ex_inv, eqGuard, binOp, Op.intCmp]
theorem q_leq : OpQ P env st ⟨d, .binOp .leq t x y t2, ty, pos, after, gd⟩ (.d (.ex (.bool (decide (a ≤ b))))) := q_ex fun g w tmps w' he => by
  simp [execOp, (evo_rep he hx).ex_inv, (evo_rep he hy).ex_inv, eqGuard, binOp, Op.intCmp]
theorem q_gtr : OpQ P env st ⟨d, .binOp .gtr t x y t2, ty, pos, after, gd⟩ (.d (.ex (.bool (decide (a > b))))) := q_ex fun g w tmps w' he => by
  simp [execOp, (evo_rep he hx).ex_inv, (evo_rep he hy).ex_inv, eqGuard, binOp, Op.intCmp]
theorem q_geq : OpQ P env st ⟨d, .binOp .geq t x y t2, ty, pos, after, gd⟩ (.d (.ex (.bool (decide (a ≥ b))))) := q_ex fun g w tmps w' he => by
  simp [execOp, (evo_rep he hx).ex_inv, (evo_rep he hy).ex_inv, eqGuard, binOp, Op.intCmp]
theorem q_eql : OpQ P env st ⟨d, .binOp .eql t x y t2, ty, pos, after, gd⟩ (.d (.ex (.bool (a == b)))) := q_ex fun g w tmps w' he => by
  simp [execOp, (evo_rep he hx).ex_inv, (evo_rep he hy).ex_inv, eqGuard, binOp, Op.intCmp]
theorem q_neq : OpQ P env st ⟨d, .binOp .neq t x y t2, ty, pos, after, gd⟩ (.d (.ex (.bool (a != b)))) := q_ex fun g w tmps w' he => by
  simp [execOp, (evo_rep he hx).ex_inv, (evo_rep he hy).ex_inv, eqGuard, binOp, Op.intCmp]
theorem q_add {c : Int} (hc : k.wrap (a + b) = c) : OpQ P env st ⟨d, .binOp .add t x y t2, ty, pos, after, gd⟩ (.d (.ex (.int k c))) := q_ex fun g w tmps w' he => by
  simp [execOp, (evo_rep he hx).ex_inv, (evo_rep he hy).ex_inv, eqGuard, binOp, Op.intArith, hc]
theorem q_sub {c : Int} (hc : k.wrap (a - b) = c) : OpQ P env st ⟨d, .binOp .sub t x y t2, ty, pos, after, gd⟩ (.d (.ex (.int k c))) := q_ex fun g w tmps w' he => by
  simp [execOp, (evo_rep he hx).ex_inv, (evo_rep he hy).ex_inv, eqGuard, binOp, Op.intArith, hc]
theorem q_mul {c : Int} (hc : k.wrap (a * b) = c) : OpQ P env st ⟨d, .binOp .mul t x y t2, ty, pos, after, gd⟩ (.d (.ex (.int k c))) := q_ex fun g w tmps w' he => by
  simp [execOp, (evo_rep he hx).ex_inv, (evo_rep he hy).ex_inv, eqGuard, binOp, Op.intArith, hc]
theorem q_quo {c : Int} (hb : b ≠ 0) (hc : k.wrap (a.tdiv b) = c) : OpQ P env st ⟨d, .binOp .quo t x y t2, ty, pos, after, gd⟩ (.d (.ex (.int k c))) := q_ex fun g w tmps w' he => by
  simp [execOp, (evo_rep he hx).ex_inv, (evo_rep he hy).ex_inv, eqGuard, binOp, Op.intDiv, hb, hc]
theorem q_rem {c : Int} (hb : b ≠ 0) (hc : a.tmod b = c) : OpQ P env st ⟨d, .binOp .rem t x y t2, ty, pos, after, gd⟩ (.d (.ex (.int k c))) := q_ex fun g w tmps w' he => by
  simp [execOp, (evo_rep he hx).ex_inv, (evo_rep he hy).ex_inv, eqGuard, binOp, Op.intDiv, hb, hc]
theorem q_bits {op : BinOp} {c : Int} (hop : op = .and ∨ op = .or ∨ op = .xor ∨ op = .andNot) (hc : ∀ w, (Op.intBits op k a b).run P w = .ok (.int k c) w) :
    OpQ P env st ⟨d, .binOp op t x y t2, ty, pos, after, gd⟩ (.d (.ex (.int k c))) := q_ex fun g w tmps w' he => by
  rcases hop with rfl | rfl | rfl | rfl <;> simp [execOp, (evo_rep he hx).ex_inv, (evo_rep he hy).ex_inv, eqGuard, binOp, hc]
end two
section shift
variable {k k' : IntKind} {a b : Int} (hx : evo env x = some (.d (.ex (.int k a)))) (hy : evo env y = some (.d (.ex (.int k' b))))
include hx hy
theorem q_shl {c : Int} (hb : 0 ≤ b) (hc : k.wrap (a * 2 ^ (min b.toNat k.bits)) = c) : OpQ P env st ⟨d, .binOp .shl t x y t2, ty, pos, after, gd⟩ (.d (.ex (.int k c))) := q_ex fun g w tmps w' he => by
  have : ¬ b < 0 := by omega
  simp [execOp, (evo_rep he hx).ex_inv, (evo_rep he hy).ex_inv, eqGuard, binOp, Op.shift, this, hc]
theorem q_shr {c : Int} (hb : 0 ≤ b) (hc : a.fdiv (2 ^ (min b.toNat k.bits)) = c) : OpQ P env st ⟨d, .binOp .shr t x y t2, ty, pos, after, gd⟩ (.d (.ex (.int k c))) := q_ex fun g w tmps w' he => by
  have : ¬ b < 0 := by omega
  simp [execOp, (evo_rep he hx).ex_inv, (evo_rep he hy).ex_inv, eqGuard, binOp, Op.shift, this, hc]
end shift

section strings
variable {a b : List UInt8} (hx : evo env x = some (.d (.ex (.string ⟨a.toArray⟩)))) (hy : evo env y = some (.d (.ex (.string ⟨b.toArray⟩))))
include hx hy
theorem q_seql : OpQ P env st ⟨d, .binOp .eql t x y t2, ty, pos, after, gd⟩ (.d (.ex (.bool (a == b)))) := q_ex fun g w tmps w' he => by
  simp [execOp, (evo_rep he hx).ex_inv, (evo_rep he hy).ex_inv, eqGuard, binOp, Op.stringOp]
theorem q_sneq : OpQ P env st ⟨d, .binOp .neq t x y t2, ty, pos, after, gd⟩ (.d (.ex (.bool (a != b)))) := q_ex fun g w tmps w' he => by
  simp [execOp, (evo_rep he hx).ex_inv, (evo_rep he hy).ex_inv, eqGuard, binOp, Op.stringOp, bne]
theorem q_sadd (h : a.length + b.length ≤ 9223372036854775807) : OpQ P env st ⟨d, .binOp .add t x y t2, ty, pos, after, gd⟩ (.d (.ex (.string ⟨(a ++ b).toArray⟩))) := q_ex fun g w tmps w' he => by
  have := run_string_add_sum (P := P) (w := w') ⟨a.toArray⟩ ⟨b.toArray⟩ (by simpa [ByteArray.size] using h)
  simp [execOp, (evo_rep he hx).ex_inv, (evo_rep he hy).ex_inv, eqGuard, binOp, this, ByteArray.mk_append_mk]
end strings

theorem run_eqBool (ht : P.underlying t = some .bool) (a b : Bool) (n : Nat) (w : World) : (Op.equalIn (n + 1) t (.bool a) (.bool b)).run P w = .ok (a == b) w := by
  simp [Op.equalIn, run_underlying ht]

section bools
variable {a b : Bool} (hx : evo env x = some (.d (.ex (.bool a)))) 
include hx
theorem q_not : OpQ P env st ⟨d, .unOp .not t x, ty, pos, after, gd⟩ (.d (.ex (.bool (!a)))) := q_ex fun g w tmps w' he => by
  simp [execOp, (evo_rep he hx).ex_inv, Op.unary]
theorem q_beql (ht : P.underlying t = some .bool) (hy : evo env y = some (.d (.ex (.bool b)))) : OpQ P env st ⟨d, .binOp .eql t x y t2, ty, pos, after, gd⟩ (.d (.ex (.bool (a == b)))) := q_ex fun g w tmps w' he => by
  have h := run_eqBool ht a b 9999 w'
  simp [execOp, (evo_rep he hx).ex_inv, (evo_rep he hy).ex_inv, eqGuard, binOp, Op.equal, Op.maxDepth, h]
theorem q_bneq (ht : P.underlying t = some .bool) (hy : evo env y = some (.d (.ex (.bool b)))) : OpQ P env st ⟨d, .binOp .neq t x y t2, ty, pos, after, gd⟩ (.d (.ex (.bool (a != b)))) := q_ex fun g w tmps w' he => by
  have h := run_eqBool ht a b 9999 w'
  simp [execOp, (evo_rep he hx).ex_inv, (evo_rep he hy).ex_inv, eqGuard, binOp, Op.equal, Op.maxDepth, h, bne]
/-- 'a && b' and 'a or b': the second operand was met under a guard. -/
theorem q_pickAnd {z : Operand} {b q : Bool} (hy : evo env y = some (.gd a (.d (.ex (.bool b))))) (hz : evo env z = some (.d (.ex (.bool q)))) :
    OpQ P env st ⟨d, .pick x y z, ty, pos, after, gd⟩ (.d (.ex (.bool (if a = true then b else q)))) := q_ex fun g w tmps w' he => by
  cases a with
  | false => simp [execOp, (evo_rep he hx).ex_inv, (evo_rep he hz).ex_inv, asBool]
  | true =>
    have := evo_rep he hy
    cases this with
    | gd _ _ _ h0 h => simp [execOp, (evo_rep he hx).ex_inv, (h rfl).ex_inv, asBool]
theorem q_pickOr {z : Operand} {b q : Bool} (hy : evo env y = some (.d (.ex (.bool q)))) (hz : evo env z = some (.gd (!a) (.d (.ex (.bool b))))) :
    OpQ P env st ⟨d, .pick x y z, ty, pos, after, gd⟩ (.d (.ex (.bool (if a = true then q else b)))) := q_ex fun g w tmps w' he => by
  cases a with
  | true => simp [execOp, (evo_rep he hx).ex_inv, (evo_rep he hy).ex_inv, asBool]
  | false =>
    have := evo_rep he hz
    cases this with
    | gd _ _ _ h0 h => simp [execOp, (evo_rep he hx).ex_inv, (h rfl).ex_inv, asBool]
end bools

theorem q_conv {k k' : IntKind} {n c : Int} (hs : P.underlying t = some (.int k)) (ht : P.underlying t2 = some (.int k')) (hx : evo env x = some (.d (.ex (.int k n)))) (hc : k'.wrap n = c) :
    OpQ P env st ⟨d, .convert t t2 x, ty, pos, after, gd⟩ (.d (.ex (.int k' c))) := q_ex fun g w tmps w' he => by
  simp [execOp, (evo_rep he hx).ex_inv, convert, run_underlying hs, run_underlying ht, Conv.intToInt, hc]
theorem q_neg {k : IntKind} {n c : Int} (hx : evo env x = some (.d (.ex (.int k n)))) (hc : k.wrap (0 - n) = c) :
    OpQ P env st ⟨d, .unOp .neg t x, ty, pos, after, gd⟩ (.d (.ex (.int k c))) := q_ex fun g w tmps w' he => by
  simp only [execOp, (evo_rep he hx).ex_inv, Op.unary, Op.intArith, hc, Sem.run_bind, Sem.run_pure, Result.andThen_ok]

theorem q_lenS {a : List UInt8} (ht : P.underlying t = some .string) (hx : evo env x = some (.d (.ex (.string ⟨a.toArray⟩)))) :
    OpQ P env st ⟨d, .call ⟨.builtin .len, #[x], #[t]⟩, ty, pos, after, gd⟩ (.d (.ex (.int .i64 a.length))) := q_ex fun g w tmps w' he => by
  simp [execOp, (evo_rep he hx).ex_inv, resolve, invoke, builtin, Builtin.len_, run_underlying ht, goInt, ByteArray.size_mk']
theorem q_lenNil {e : TypeId} (ht : P.underlying t = some (.slice e)) (hx : evo env x = some (.d (.ex (.slice none 0 0)))) :
    OpQ P env st ⟨d, .call ⟨.builtin .len, #[x], #[t]⟩, ty, pos, after, gd⟩ (.d (.ex (.int .i64 0))) := q_ex fun g w tmps w' he => by
  simp [execOp, (evo_rep he hx).ex_inv, resolve, invoke, builtin, Builtin.len_, run_underlying ht, goInt]
theorem len_run {e : TypeId} (ht : P.underlying t = some (.slice e)) {ρ : Operand → Value} {A : Option Addr} {n c : Nat} (hv : ρ x = .slice A n c) (w : World) :
    (execOp ρ ⟨d, .call ⟨.builtin .len, #[x], #[t]⟩, ty, pos, after, gd⟩).run P w = .ok (.value (.int .i64 n)) w := by
  simp [execOp, hv, resolve, invoke, builtin, Builtin.len_, run_underlying ht, goInt]
theorem sl_form {lim : Nat → Nat} {w : World} {sz : Nat} {rows : List (List D)} {v : Value} (h : DRep lim w (.sl sz rows) v) : ∃ A c, v = .slice A rows.length c := by
  cases h with
  | nil _ A => exact ⟨A, 0, rfl⟩
  | sl _ _ b off cap => exact ⟨_, _, rfl⟩
theorem q_len {e : TypeId} {sz : Nat} {rows : List (List D)} (ht : P.underlying t = some (.slice e)) (hx : evo env x = some (.d (.sl sz rows))) :
    OpQ P env st ⟨d, .call ⟨.builtin .len, #[x], #[t]⟩, ty, pos, after, gd⟩ (.d (.ex (.int .i64 rows.length))) := q_ex fun g w tmps w' he => by
  cases evo_rep he hx with
  | d _ _ h => obtain ⟨A, c, hv⟩ := sl_form h; exact len_run ht hv w'
theorem q_lenT {e : TypeId} {sz : Nat} {rows : List (List D)} {n : Nat} (ht : P.underlying t = some (.slice e)) (hx : evo env x = some (.tsl sz rows n)) :
    OpQ P env st ⟨d, .call ⟨.builtin .len, #[x], #[t]⟩, ty, pos, after, gd⟩ (.d (.ex (.int .i64 rows.length))) := q_ex fun g w tmps w' he => by
  cases evo_rep he hx with
  | tsl _ _ _ _ _ _ h => obtain ⟨A, c, hv⟩ := sl_form h; exact len_run ht hv w'
theorem q_lenO {e : TypeId} {o off n c : Nat} (ht : P.underlying t = some (.slice e)) (hx : evo env x = some (.osl o off n c)) :
    OpQ P env st ⟨d, .call ⟨.builtin .len, #[x], #[t]⟩, ty, pos, after, gd⟩ (.d (.ex (.int .i64 n))) := q_ex fun g w tmps w' he => by
  have h := evo_rep he hx
  generalize hv : Act.eval ⟨tmps, []⟩ x = v at h
  cases h
  exact len_run ht hv w'

/-- 's[i]' of a string. -/
theorem q_indexS {a : List UInt8} {k : IntKind} {i : Int} {c : UInt8} (ht : P.underlying t = some .string) (hx : evo env x = some (.d (.ex (.string ⟨a.toArray⟩)))) (hy : evo env y = some (.d (.ex (.int k i))))
    (h0 : 0 ≤ i) (hc : a[i.toNat]? = some c) : OpQ P env st ⟨d, .index t x y, ty, pos, after, gd⟩ (.d (.ex (.int .u8 (c.toNat : Int)))) := q_ex fun g w tmps w' he => by
  have hl : i.toNat < a.length := (List.getElem?_eq_some_iff.1 hc).1
  have hb : (⟨a.toArray⟩ : ByteArray)[i.toNat]? = some c := by
    rw [ByteArray.getElem?_lt' _ _ (by simpa [ByteArray.size] using hl)]
    have := (List.getElem?_eq_some_iff.1 hc).2
    simpa [ByteArray.getElem_eq_getElem_data] using this
  simp [execOp, (evo_rep he hx).ex_inv, (evo_rep he hy).ex_inv, Instr.index, asIntOf, run_underlying ht, h0, hb]

/-- '&s[i]' of a slice whose contents are known. -/
theorem index_run {e : TypeId} {ρ : Operand → Value} {A : Addr} {n c : Nat} {k : IntKind} {i : Int} {inf : TypeInfo} (ht : P.underlying t = some (.slice e)) (hi : P.info? e = some inf)
    (hv : ρ x = .slice (some A) n c) (hy : ρ y = .int k i) (h0 : 0 ≤ i) (hn : i < n) (w : World) :
    (execOp ρ ⟨d, .indexAddr t x y, ty, pos, after, gd⟩).run P w = .ok (.value (.pointer (some (A.add (i.toNat * inf.size))))) w := by
  simp [execOp, hv, hy, Instr.indexAt, asIntOf, run_underlying ht, sizeOf, typeInfo, hi, h0, hn]
theorem sl_ro {lim : Nat → Nat} {w : World} {sz : Nat} {rows : List (List D)} {v : Value} {n : Nat} {row : List D} (h : DRep lim w (.sl sz rows) v) (hr : rows[n]? = some row) :
    ∃ b off c, v = .slice (some ⟨b, off, none⟩) rows.length c ∧ n < rows.length ∧ DRep lim w (.ro row) (.pointer (some (Addr.add ⟨b, off, none⟩ (n * sz)))) := by
  cases h with
  | nil => simp at hr
  | sl _ _ b off cap hc hrow hx hcell =>
    have hn := (List.getElem?_eq_some_iff.1 hr).1
    refine ⟨b, off, cap, rfl, hn, ?_⟩
    rw [Addr.add_lit]
    have hl := hrow row (List.mem_of_getElem? hr)
    refine .ro row b (off + n * sz) ?_ ?_
    · intro j hj
      have := hx (n * sz + j) (idx_lt hn (by omega))
      rw [Nat.add_assoc]
      exact this
    · intro j c u hc hu
      rw [Nat.add_assoc] at hu
      exact hcell n j row c u hr hc hu
theorem q_idx {e : TypeId} {sz : Nat} {rows : List (List D)} {k : IntKind} {i : Int} {row : List D} {inf : TypeInfo} (ht : P.underlying t = some (.slice e)) (hi : P.info? e = some inf) (hsz : inf.size = sz)
    (hx : evo env x = some (.d (.sl sz rows))) (hy : evo env y = some (.d (.ex (.int k i)))) (h0 : 0 ≤ i) (hr : rows[i.toNat]? = some row) :
    OpQ P env st ⟨d, .indexAddr t x y, ty, pos, after, gd⟩ (.d (.ro row)) := fun g base w tmps hinv he => by
  cases evo_rep he hx with
  | d _ _ h =>
    obtain ⟨b, off, c, hv, hn, hro⟩ := sl_ro h hr
    exact ⟨_, .d _ _ (by rw [hsz]; exact hro), fun w' _ => index_run ht hi hv (evo_rep he hy).ex_inv h0 (by omega) w'⟩
theorem q_idxT {e : TypeId} {sz : Nat} {rows : List (List D)} {k : IntKind} {i : Int} {row : List D} {inf : TypeInfo} {n : Nat} (ht : P.underlying t = some (.slice e)) (hi : P.info? e = some inf) (hsz : inf.size = sz)
    (hx : evo env x = some (.tsl sz rows n)) (hy : evo env y = some (.d (.ex (.int k i)))) (h0 : 0 ≤ i) (hr : rows[i.toNat]? = some row) :
    OpQ P env st ⟨d, .indexAddr t x y, ty, pos, after, gd⟩ (.d (.ro row)) := fun g base w tmps hinv he => by
  cases evo_rep he hx with
  | tsl _ _ _ _ _ _ h =>
    obtain ⟨b, off, c, hv, hn, hro⟩ := sl_ro h hr
    exact ⟨_, .d _ _ (by rw [hsz]; exact hro), fun w' _ => index_run ht hi hv (evo_rep he hy).ex_inv h0 (by omega) w'⟩

theorem isAgg_one (hd : ∃ dsc, P.underlying t = some dsc ∧ (∀ fs, dsc ≠ .struct fs) ∧ (∀ n e, dsc ≠ .array n e)) (w : World) : (isAgg t).run P w = .ok false w := by
  obtain ⟨dsc, h, h1, h2⟩ := hd
  simp only [isAgg, Sem.run_bind, run_underlying h, Result.andThen_ok]
  cases dsc <;> first | rfl | exact absurd rfl (h1 _) | exact absurd rfl (h2 _ _)
def oneB : TypeDesc → Bool
  | .struct _ | .array _ _ => false
  | _ => true
theorem isAgg_of (h : (P.underlying t).map oneB = some true) (w : World) : (isAgg t).run P w = .ok false w := by
  cases hd : P.underlying t with
  | none => rw [hd] at h; simp at h
  | some dsc =>
    refine isAgg_one ⟨dsc, hd, ?_, ?_⟩ w
    · intro fs e; subst e; rw [hd] at h; simp [oneB] at h
    · intro n e' e; subst e; rw [hd] at h; simp [oneB] at h
theorem isAgg_yes (h : (P.underlying t).map oneB = some false) (w : World) : (isAgg t).run P w = .ok true w := by
  cases hd : P.underlying t with
  | none => rw [hd] at h; simp at h
  | some dsc =>
    rw [hd] at h
    cases dsc <;> simp [oneB] at h <;> simp [isAgg, run_underlying hd]

/-- '*p' where p points into published memory: one cell. -/
theorem q_load {cs : List D} {c : D} (h1 : (P.underlying t).map oneB = some true) (hx : evo env x = some (.d (.ro (c :: cs)))) : OpQ P env st ⟨d, .load t x, ty, pos, after, gd⟩ (.d c) := fun g base w tmps hinv he => by
  have h := evo_rep he hx
  generalize hv : Act.eval ⟨tmps, []⟩ x = v at h
  cases h with
  | d _ _ h =>
    cases h with
    | ro _ b off hx' hc =>
      obtain ⟨hl, u, hu, _⟩ := hx' 0 (by simp)
      have hu' : w.cell? ⟨b, off, none⟩ = some u := by simpa using hu
      refine ⟨u, .d _ _ (hc 0 c u rfl hu), fun w' hb => ?_⟩
      have hu'' : w'.cell? ⟨b, off, none⟩ = some u := (hb.cell (World.block_lt_of_cell? w _ hu')).trans hu'
      simp [execOp, hv, Instr.loadAt, Instr.sureAddr, loadVar, isAgg_of h1, hu'']
end q
end Go.Abs
