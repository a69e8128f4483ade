/- A row's arguments opened: what the given reading says of a typed argument, as data of this layer. -/
import Derived.Test.YtpdanklncjopoaaB9
import Derived.Deep.Slices
import Derived.ChangeArms
set_option linter.unusedSimpArgs false
set_option linter.unusedVariables false
set_option linter.unusedSectionVars false
namespace Go.Abs
open Go.RowKit Go.ChangeShapes Go.WideShapes Go.Deep

inductive Sh where
  | i (k : IntKind)
  | b
  | s
  | sl (row : List Sh)
inductive DFits : Sh → D → Prop where
  | i (k : IntKind) (n : Int) (h : (Lit.int k n).wf = true) : DFits (.i k) (.ex (.int k n))
  | b (x : Bool) : DFits .b (.ex (.bool x))
  | s (l : List UInt8) (h : l.length ≤ maxLen) : DFits .s (.ex (.string ⟨l.toArray⟩))
  | sl (row : List Sh) (rows : List (List D)) (hn : rows.length ≤ maxLen) (h1 : ∀ r, r ∈ rows → r.length = row.length)
      (h : ∀ r, r ∈ rows → ∀ (i : Nat) sh d, row[i]? = some sh → r[i]? = some d → DFits sh d) : DFits (.sl row) (.sl row.length rows)
def shapeFs (P : Program) (rec : TypeId → Option (List Sh)) : List Field → Nat → Option (List Sh)
  | [], _ => some []
  | f :: fs, off => match rec f.type with
    | some r => if Nat.beq f.offset off && Nat.beq r.length (P.cellsOf f.type) then (shapeFs P rec fs (off + r.length)).map (r ++ ·) else none
    | none => none
def shape (P : Program) : Nat → TypeId → Option (List Sh)
  | 0, _ => none
  | n + 1, t => match P.underlying t with
    | some (.int k) => some [.i k]
    | some .bool => some [.b]
    | some .string => some [.s]
    | some (.slice e) => match shape P n e with
      | some r => if Nat.beq r.length (P.cellsOf e) && Nat.blt 0 r.length then some [.sl r] else none
      | none => none
    | some (.struct fs) => match shapeFs P (shape P n) fs.toList 0 with
      | some r => if Nat.beq r.length (P.cellsOf t) then some r else none
      | none => none
    | _ => none
/-- What is read is data of the shape. -/
def Opens (lim : Nat → Nat) (w : World) (shs : List Sh) (cs : List Value) : Prop :=
  ∃ ds : List D, ds.length = shs.length ∧ cs.length = shs.length ∧ ∀ (i : Nat) sh d c, shs[i]? = some sh → ds[i]? = some d → cs[i]? = some c → DFits sh d ∧ DRep lim w d c ∧ c.oneCell' = true
theorem Opens.one {lim : Nat → Nat} {w : World} {sh : Sh} {d : D} {c : Value} (h1 : DFits sh d) (h2 : DRep lim w d c) (h3 : c.oneCell' = true) : Opens lim w [sh] [c] := by
  refine ⟨[d], rfl, rfl, fun i sh' d' c' ha hb hc => ?_⟩
  cases i with
  | zero => simp at ha hb hc; subst ha; subst hb; subst hc; exact ⟨h1, h2, h3⟩
  | succ i => simp at ha
theorem Opens.nil {lim : Nat → Nat} {w : World} : Opens lim w [] [] := ⟨[], rfl, rfl, fun i _ _ _ h => by simp at h⟩
theorem Opens.append {lim : Nat → Nat} {w : World} {s1 s2 : List Sh} {c1 c2 : List Value} (h : Opens lim w s1 c1) (k : Opens lim w s2 c2) : Opens lim w (s1 ++ s2) (c1 ++ c2) := by
  obtain ⟨d1, a1, b1, e1⟩ := h
  obtain ⟨d2, a2, b2, e2⟩ := k
  refine ⟨d1 ++ d2, by simp [a1, a2], by simp [b1, b2], fun i sh d c ha hb hc => ?_⟩
  by_cases hi : i < s1.length
  · rw [List.getElem?_append_left hi] at ha
    rw [List.getElem?_append_left (by omega)] at hb hc
    exact e1 i sh d c ha hb hc
  · rw [List.getElem?_append_right (by omega)] at ha hb hc
    rw [a1] at hb
    rw [b1] at hc
    exact e2 _ sh d c ha hb hc
section opening
variable {H : Type} {enc : TypeId × Value → H} {P : Program} {w : World} {held : Bool} {lim : Nat → Nat}
theorem opens_fields {rec : TypeId → Option (List Sh)} (cs : List Value) : ∀ (fs : List Field) (off : Nat) (shs : List Sh), shapeFs P rec fs off = some shs → cs.length = off + shs.length →
    (∀ (i : Nat) f, fs[i]? = some f → ∀ r, rec f.type = some r → r.length = P.cellsOf f.type → Opens lim w r ((cs.drop f.offset).take (P.cellsOf f.type))) → Opens lim w shs (cs.drop off)
  | [], off, shs, h, hl, _ => by
    simp [shapeFs] at h; subst h
    rw [List.drop_of_length_le (by simp at hl; omega)]
    exact .nil
  | f :: fs, off, shs, h, hl, hf => by
    unfold shapeFs at h
    split at h
    · rename_i r hr
      split at h
      · rename_i hc
        rw [Bool.and_eq_true] at hc
        replace hc := And.intro (Nat.eq_of_beq_eq_true hc.1) (Nat.eq_of_beq_eq_true hc.2)
        obtain ⟨rest, hrest, rfl⟩ := Option.map_eq_some_iff.1 h
        simp only [List.length_append] at hl
        have h1 := hf 0 f rfl r hr hc.2
        have h2 := opens_fields cs fs (off + r.length) rest hrest (by omega) fun i g hg => hf (i + 1) g (by simpa using hg)
        have e : cs.drop off = (cs.drop f.offset).take (P.cellsOf f.type) ++ cs.drop (off + r.length) := by
          rw [hc.1, ← hc.2, ← List.drop_drop, List.take_append_drop]
        rw [e]
        exact h1.append h2
      · cases h
    · cases h
theorem opens_shape (hlim : ∀ b off u, w.cell? ⟨b, off, none⟩ = some u → off < lim b) : ∀ (n : Nat) (t : TypeId) (shs : List Sh), shape P n t = some shs → ∀ fuel cs x, DataW.trod enc P w 0 (fun _ => true) held fuel t cs = some x → Opens lim w shs cs
  | 0, _, _, h => by simp [shape] at h
  | n + 1, t, shs, h => by
    intro fuel cs x ht
    unfold shape at h
    split at h
    · rename_i k hu
      cases h
      obtain ⟨m, rfl, _, hw⟩ := DataW.trod_int hu ht
      exact .one (.i k m hw) (.ex _) rfl
    · rename_i hu
      cases h
      obtain ⟨b, rfl, _⟩ := DataW.trod_bool hu ht
      exact .one (.b b) (.ex _) rfl
    · rename_i hu
      cases h
      obtain ⟨⟨a⟩, rfl, _, hs⟩ := DataW.trod_string hu ht
      exact .one (.s a.toList (by simpa [ByteArray.size] using hs)) (.ex _) rfl
    · rename_i e hu
      split at h
      · rename_i r hr
        split at h
        · rename_i hc
          cases h
          rw [Bool.and_eq_true] at hc
          obtain ⟨hc1, hc2⟩ := And.intro (Nat.eq_of_beq_eq_true hc.1) (blt_lt hc.2)
          rcases open_slice hu ht with ⟨rfl, _⟩ | ⟨a, len, cap, m, n', D0, Pl, rfl, hb, hl, hm, hmm, hx, hi⟩
          · exact .one (.sl r [] (Nat.zero_le _) (fun _ h => by cases h) (fun _ h => by cases h)) (.nil _ _) rfl
          · simp only [if_true] at hmm
            subst hmm
            obtain ⟨F, hF⟩ := choose_lt (n := m) (p := fun i (ds : List D) => ds.length = r.length ∧ ∀ (j : Nat) sh d, r[j]? = some sh → ds[j]? = some d → ∃ c, w.cell? (a.add (i * r.length + j)) = some c ∧ DFits sh d ∧ DRep lim w d c ∧ c.oneCell' = true) (fun i hi' => by
              obtain ⟨cs', h1, h2⟩ := hi i hi'
              obtain ⟨ds, k1, k2, k3⟩ := opens_shape hlim n e r hr n' cs' _ h2
              obtain ⟨_, h3, h4⟩ := World.cells?_some h1
              refine ⟨ds, k1, fun j sh d hj hd => ?_⟩
              have hjl : j < r.length := (List.getElem?_eq_some_iff.1 hj).1
              have hc' : cs'[j]? = some (cs'[j]'(by omega)) := List.getElem?_eq_getElem (by omega)
              refine ⟨cs'[j]'(by omega), ?_, k3 j sh d _ hj hd hc'⟩
              rw [← hc', ← h4 j (by omega), ← hc1, Go.Deep.add_add])
            have hfit : DFits (.sl r) (.sl r.length ((List.range len).map F)) := by
              refine .sl r _ (by simp; omega) (fun row hrow => ?_) fun row hrow i sh d hs hd => ?_
              · obtain ⟨i, hi2, rfl⟩ := List.mem_map.1 hrow
                exact (hF i (by have := List.mem_range.1 hi2; omega)).1
              · obtain ⟨i', hi2, rfl⟩ := List.mem_map.1 hrow
                obtain ⟨c, _, hh, _⟩ := (hF i' (by have := List.mem_range.1 hi2; omega)).2 i sh d hs hd
                exact hh
            refine .one hfit ?_ rfl
            rcases Nat.eq_zero_or_pos m with h0 | h0
            · subst h0
              have : len = 0 := by omega
              subst this
              exact .nil _ _
            · have hspot : a.spot = none := by
                obtain ⟨cs', h1, h2⟩ := hi 0 h0
                obtain ⟨_, h3, h4⟩ := World.cells?_some h1
                have h5 := h4 0 (by omega)
                have h6 : cs'[0]? = some (cs'[0]'(by omega)) := List.getElem?_eq_getElem (by omega)
                rw [h6] at h5
                unfold World.cell? at h5
                split at h5
                · split at h5
                  · cases h5
                  · rename_i hsp
                    simpa [Addr.add] using hsp
                · cases h5
              obtain ⟨b, off, sp⟩ := a
              simp only at hspot
              subst hspot
              have hcell : ∀ i j, i < m → j < r.length → ∀ sh d, r[j]? = some sh → (F i)[j]? = some d → ∃ c, w.cell? ⟨b, off + (i * r.length + j), none⟩ = some c ∧ DFits sh d ∧ DRep lim w d c ∧ c.oneCell' = true := fun i j hi' hj sh d hs hd => by
                obtain ⟨c, h1, h2⟩ := (hF i hi').2 j sh d hs hd
                rw [Addr.add_lit] at h1
                exact ⟨c, h1, h2⟩
              have hlen : ((List.range len).map F).length = len := by simp
              have key := DRep.sl (lim := lim) (w := w) r.length ((List.range len).map F) b off m (by rw [hlen]; exact hl) (fun row hrow => by
                obtain ⟨i, hi2, rfl⟩ := List.mem_map.1 hrow
                exact (hF i (by have := List.mem_range.1 hi2; omega)).1) (fun k hk => by
                rw [hlen] at hk
                have hdiv : k / r.length < len := Nat.div_lt_of_lt_mul (by rw [Nat.mul_comm]; exact hk)
                have hmod : k % r.length < r.length := Nat.mod_lt _ hc2
                obtain ⟨c, h1, h2, h3, h4⟩ := hcell (k / r.length) (k % r.length) (by omega) hmod _ _ (List.getElem?_eq_getElem hmod) (List.getElem?_eq_getElem (by rw [(hF _ (by omega)).1]; exact hmod))
                have e : k / r.length * r.length + k % r.length = k := by rw [Nat.mul_comm]; exact Nat.div_add_mod k r.length
                rw [e] at h1
                exact ⟨hlim _ _ _ h1, c, h1, h4⟩) (fun i j row c u h1 h2 h3 => by
                rw [List.getElem?_map] at h1
                obtain ⟨i', hi2, rfl⟩ := Option.map_eq_some_iff.1 h1
                have hil : i < len := by have := (List.getElem?_eq_some_iff.1 hi2).1; simpa using this
                have : i' = i := by rw [List.getElem?_range hil] at hi2; cases hi2; rfl
                subst this
                have hjl : j < r.length := by have := (List.getElem?_eq_some_iff.1 h2).1; rw [(hF _ (by omega)).1] at this; exact this
                obtain ⟨c', k1, k2, k3, k4⟩ := hcell i' j (by omega) hjl _ _ (List.getElem?_eq_getElem hjl) h2
                rw [h3] at k1
                cases k1
                exact k3)
              rw [hlen] at key
              exact key
        · cases h
      · cases h
    · rename_i fs hu
      split at h
      · rename_i r hr
        split at h
        · rename_i hc
          cases h
          have hc' := Nat.eq_of_beq_eq_true hc
          obtain ⟨ys, n', _, hy, hlen, hyl, hf⟩ := DataW.trod_struct hu ht
          have := opens_fields (lim := lim) (w := w) (P := P) cs fs.toList 0 _ hr (by omega) fun i f hi r' hr' hl' => by
            have h1 := hf i f (by simpa using hi)
            have hys : ys[i]? = some (ys[i]'(by have := (List.getElem?_eq_some_iff.1 hi).1; simp at this; omega)) := List.getElem?_eq_getElem _
            exact opens_shape hlim n f.type r' hr' n' _ _ (h1.trans hys)
          simpa using this
        · cases h
      · cases h
    · cases h
end opening
end Go.Abs
