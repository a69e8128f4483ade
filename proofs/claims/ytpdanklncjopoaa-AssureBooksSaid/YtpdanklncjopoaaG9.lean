/- Maps of data: what they refer to. -/
import Derived.Test.YtpdanklncjopoaaG8
set_option linter.unusedSimpArgs false
set_option linter.unusedVariables false
set_option linter.unusedSectionVars false
namespace Go.Abs
open Go.RowKit
theorem okMap {n m : Nat} {κ α : Type} {ke : κ → Value} {val : α → D} {l : List (κ × α)} : okObj n m (.map (mEnc ke val l)) = true := by
  unfold okObj mEnc
  rw [List.all_eq_true]
  intro p hp
  obtain ⟨q, _, rfl⟩ := List.mem_map.1 hp
  rfl
theorem renMap {ρ τ : Nat → Nat} {κ α : Type} {ke : κ → Value} {val : α → D} {l : List (κ × α)} : AObj.ren ρ τ (.map (mEnc ke val l)) = .map (mEnc ke val l) := by
  simp [AObj.ren, mEnc, EV.ren]
theorem renArr {ρ τ : Nat → Nat} {T : TypeId} {α : Type} {l : List α} {c1 : α → D} : AObj.ren ρ τ (.row T (l.map fun b => EV.d (c1 b))) = .row T (l.map fun b => EV.d (c1 b)) := by
  have h : ∀ l : List α, EV.ren.rens ρ τ (l.map fun b => EV.d (c1 b)) = l.map fun b => EV.d (c1 b) := by
    intro l
    induction l with
    | nil => rfl
    | cons x l ih => rw [List.map_cons, EV.ren.rens, ih]; rfl
  rw [AObj.ren, h]
section v
variable {P : Program} {base : Nat} {env : Env} {st : St} {d : Option Tmp} {ty : TypeId} {pos : String} {after : Array Edge} {gd : Option (Nat × Bool)} {t t2 : TypeId} {x y : Operand}
theorem q_lenMap {o : Nat} {es : List (Value × EV)} {n : Nat} {key e : TypeId} (ht : P.underlying t = some (.map key e)) (hx : evo env x = some (.mp o)) (ho : st.objs[o]? = some (.map es)) (hn : es.length = n) :
    OpQ P env st ⟨d, .call ⟨.builtin .len, #[x], #[t]⟩, ty, pos, after, gd⟩ (.d (cI (n : Int))) := by
  intro g base w tmps hinv he
  have hxr := evo_rep he hx
  generalize hv : Act.eval ⟨tmps, []⟩ x = v at hxr
  cases hxr with
  | mp _ hlt =>
    obtain ⟨_, ms, clock, hb, hl, hrep, _⟩ := hinv.map o _ ho
    have hblk : g.ob o < w.heap.size := (Array.getElem?_eq_some_iff.1 hb).1
    refine ⟨.int .i64 (n : Int), .d _ _ (.ex _), fun w' hb' => ?_⟩
    have hb2 : w'.heap[g.ob o]? = some (.map ms clock) := (hb'.block _ hblk).trans hb
    simp [execOp, hv, hn, hl, resolve, invoke, builtin, Builtin.len_, goInt, run_underlying ht, getObj, Sem.run, hb2]
/-- string(a[m:]), of an array that the call owns. -/
theorem q_arrStr {o m n : Nat} {T e : TypeId} {l : List UInt8} (hs : P.underlying t = some (.slice e)) (he' : P.underlying e = some (.int .u8)) (hd : P.underlying t2 = some .string) (hx : evo env x = some (.osl o (0 + m * 1) (n - m) (n - m)))
    (ho : st.objs[o]? = some (.row T (l.map fun b => EV.d (cU8 b)))) (hn : l.length = n) : OpQ P env st ⟨d, .convert t t2 x, ty, pos, after, gd⟩ (.d (cS (l.drop m))) :=
  q_ownStr hs he' hd hx ho (by simp [hn]) fun j b hj => by
    rw [List.getElem?_drop] at hj
    rw [Nat.zero_add, Nat.mul_one, List.getElem?_map, hj]; rfl
/-- a[i], of an array value. -/
theorem q_indexAV {n : Nat} {e : TypeId} {inf : TypeInfo} {α : Type} [Inhabited α] {l : List α} {c1 : α → D} {k : IntKind} {i : Int} (ht : P.underlying t = some (.array n e)) (h1 : (P.underlying e).map oneB = some true) (hi : P.info? e = some inf) (hs : inf.size = 1)
    (hx : evo env x = some (.d (.agg (l.map c1)))) (hy : evo env y = some (.d (.ex (.int k i)))) (h : 0 ≤ i ∧ i < (n : Int)) (hl : l.length = n) : OpQ P env st ⟨d, .index t x y, ty, pos, after, gd⟩ (.d (c1 (nth l i.toNat))) :=
  q_indexA ht h1 hi hs hx hy (Int.toNat_of_nonneg h.1).symm (by omega) (by rw [List.getElem?_map, List.getElem?_eq_getElem (by omega), nth_eq (by omega)]; rfl)
end v
end Go.Abs
