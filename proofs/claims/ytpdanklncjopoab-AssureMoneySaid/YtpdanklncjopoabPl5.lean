import Derived.Test.YtpdanklncjopoabPl4
set_option linter.unusedSimpArgs false
set_option linter.unusedVariables false
namespace Go.Proofs.Ytpdanklncjopoab
open Go.RowKit Go.Abs

def sumOn (l : List (Int × Int)) (x : Int) : Int := l.foldl (fun a p => if p.1 == x then wr (a + p.2) else a) 0
theorem sumOn_snoc (l : List (Int × Int)) (p : Int × Int) (x : Int) : sumOn (l ++ [p]) x = if p.1 == x then wr (sumOn l x + p.2) else sumOn l x := by
  unfold sumOn; rw [List.foldl_append]; rfl
theorem sumOn_yes {l : List (Int × Int)} {a b x : Int} (h : a = x) : sumOn (l ++ [(a, b)]) x = wr (sumOn l x + b) := by
  rw [sumOn_snoc, if_pos (by simp [h])]
theorem sumOn_no {l : List (Int × Int)} {a b x : Int} (h : ¬ a = x) : sumOn (l ++ [(a, b)]) x = sumOn l x := by
  rw [sumOn_snoc, if_neg (by simpa using h)]
def SumA (l : List (Int × Int)) (e : List (Int × Int)) : Prop := ∀ x, (alook e x).getD 0 = sumOn l x
theorem SumA.nil : SumA [] [] := fun x => by simp [alook_nil, sumOn]
theorem SumA.snoc {l e : List (Int × Int)} {a b : Int} (h : SumA l e) : SumA (l ++ [(a, b)]) (aset e a (wr ((alook e a).getD 0 + b))) := by
  intro x
  rw [alook_aset, sumOn_snoc]
  by_cases hx : x = a
  · subst hx
    simp only [beq_self_eq_true, if_true, Option.getD_some]
    rw [h x]
  · have hb : (x == a) = false := by simpa using hx
    have hc : (a == x) = false := by simpa using fun h => hx (Eq.symm h)
    simp only [hb, hc, Bool.false_eq_true, if_false]
    exact h x
def owedL (rs : List Rated) : List (Int × Int) := rs.map fun r => (r.usage.sub, r.owed)
def lineL (ls : List Line) : List (Int × Int) := (ls.filter charged).map fun l => (l.sub, l.amount)
theorem owedL_take {rs : List Rated} {k : Nat} (h : k < rs.length) : owedL (rs.take (k + 1)) = owedL (rs.take k) ++ [((nth rs k).usage.sub, (nth rs k).owed)] := by
  unfold owedL; rw [take_nth h, List.map_append]; rfl
theorem lineL_yes {ls : List Line} {k : Nat} (h : k < ls.length) (hc : charged (nth ls k) = true) : lineL (ls.take (k + 1)) = lineL (ls.take k) ++ [((nth ls k).sub, (nth ls k).amount)] := by
  unfold lineL; rw [filter_yes h hc, List.map_append]; rfl
theorem lineL_no {ls : List Line} {k : Nat} (h : k < ls.length) (hc : charged (nth ls k) = false) : lineL (ls.take (k + 1)) = lineL (ls.take k) := by
  unfold lineL; rw [filter_no h hc]
def fsts (l : List (Int × Int)) : List Int := l.map (·.1)
theorem fsts_snoc (l : List (Int × Int)) (a b : Int) : fsts (l ++ [(a, b)]) = fsts l ++ [a] := by simp [fsts]
theorem keysOn_snoc (l : List Int) (a : Int) (s : List Int) : keysOn (l ++ [a]) s = insK (keysOn l s) a := by
  unfold keysOn; rw [List.foldl_append]; rfl
def keysI (rs : List Rated) (ls : List Line) : List Int := keysOn (fsts (lineL ls)) (keysOn (fsts (owedL rs)) [])
theorem owedL_len {rs : List Rated} {k : Nat} : (keysOn (fsts (owedL (rs.take k))) []).length ≤ rs.length := by
  have h1 := keysOn_len (fsts (owedL (rs.take k))) []
  have h2 : (rs.take k).length ≤ rs.length := take_le
  simp only [fsts, owedL, List.length_map, List.length_nil] at h1 h2
  simp only [fsts, owedL]
  omega
theorem lineL_len {rs : List Rated} {ls : List Line} {k : Nat} : (keysOn (fsts (lineL (ls.take k))) (keysOn (fsts (owedL rs)) [])).length ≤ ls.length + rs.length := by
  have h1 := keysOn_len (fsts (lineL (ls.take k))) (keysOn (fsts (owedL rs)) [])
  have h2 : ((ls.take k).filter charged).length ≤ ls.length := filter_take_le
  have h3 := keysOn_len (fsts (owedL rs)) []
  simp only [fsts, owedL, lineL, List.length_map, List.length_nil] at h1 h3
  simp only [fsts, owedL, lineL]
  omega
theorem keysI_len (rs : List Rated) (ls : List Line) : (keysI rs ls).length ≤ ls.length + rs.length := by
  have h := lineL_len (rs := rs) (ls := ls) (k := ls.length)
  rw [List.take_length] at h
  exact h
def leakS (rs : List Rated) (ls : List Line) (x : Int) : List Leak := if sumOn (owedL rs) x = sumOn (lineL ls) x then [] else [⟨5, x, sumOn (owedL rs) x, sumOn (lineL ls) x⟩]
def invF (rs : List Rated) (ls : List Line) : List Leak := ((keysI rs ls).map (leakS rs ls)).flatten
theorem leakS_len (rs : List Rated) (ls : List Line) (x : Int) : (leakS rs ls x).length ≤ 1 := by
  unfold leakS; split <;> simp
theorem diff_inv {rs : List Rated} {ls : List Line} {ea eb : List (Int × Int)} (ha : SumA (owedL rs) ea) (hb : SumA (lineL ls) eb) : diffF 5 ea eb (keysI rs ls) = invF rs ls := by
  unfold diffF invF
  congr 2
  funext x
  unfold diffOf leakS
  rw [ha x, hb x]
end Go.Proofs.Ytpdanklncjopoab
