/- Rows that the call alone owns: made, read, written, grown, let go. -/
import Derived.Test.YtpdanklncjopoaaD5
import Derived.Laws.MakeOwn
set_option linter.unusedSimpArgs false
set_option linter.unusedVariables false
set_option linter.unusedSectionVars false
namespace Go.Abs
open Go.RowKit

section rep
variable {g : Ghost} {base : Nat} {w : World} {st : St}
/-- The value of an owned row. -/
theorem vc_val (h : Inv g base w st) {t e sz n : Nat} {rows : List (List D)} {v : Value} (htl : st.tails[t]? = some ⟨e, sz, n, some rows⟩) (hv : EVRep g w st (.vc t n) v) :
    v = g.tk t ∧ ∃ xs, w.ownsRow base e sz v n xs ∧ (∀ b, v.ownBlock = some b → g.lim b = 0) ∧ RowsRep g.lim w sz n rows xs := by
  cases hv with
  | vc _ _ _ ht hf hh =>
    have hvk := (hh _ rows htl rfl).2 rfl
    subst hvk
    exact ⟨rfl, h.own t e sz n rows htl⟩
theorem vc_rep {t e sz n : Nat} {rows : List (List D)} {x : Tail} (hlt : t < st.tails.length) (htl : st.tails[t]? = some ⟨e, sz, n, some rows⟩) (hf : ∃ A m c, g.tk t = .slice A m c) : EVRep g w st (.vc t n) (g.tk t) :=
  .vc t n _ hlt hf fun x rows' hx ho => by rw [htl] at hx; cases hx; exact ⟨Nat.le_refl _, fun _ => rfl⟩
theorem own_form {w : World} {base e sz n : Nat} {v : Value} {xs : List Value} (h : w.ownsRow base e sz v n xs) : (∃ A c, v = .slice A n c) ∧ (n ≠ 0 → ∃ b c, v = .slice (some ⟨b, 0, none⟩) n c) := by
  rcases h.2 with ⟨rfl, rfl⟩ | ⟨b, cap, cur, rfl, _⟩
  · exact ⟨⟨_, _, rfl⟩, fun h0 => absurd rfl h0⟩
  · exact ⟨⟨_, _, rfl⟩, fun _ => ⟨_, _, rfl⟩⟩
theorem RowsRep.get {lim : Nat → Nat} {sz n : Nat} {rows : List (List D)} {xs : List Value} (h : RowsRep lim w sz n rows xs) (hx : xs.length = n * sz) {i j : Nat} {row : List D} {c : D} (hi : rows[i]? = some row) (hj : row[j]? = some c) :
    ∃ u, xs[i * sz + j]? = some u ∧ DRep lim w c u ∧ u.oneCell' = true := by
  have hl := h.row row (List.mem_of_getElem? hi)
  have hlt : i * sz + j < xs.length := by
    rw [hx, ← h.len]
    exact idx_lt (List.getElem?_eq_some_iff.1 hi).1 (by rw [← hl]; exact (List.getElem?_eq_some_iff.1 hj).1)
  exact ⟨_, List.getElem?_eq_getElem hlt, h.rep _ c _ (flat_get h.row hi hj) (List.getElem?_eq_getElem hlt)⟩
/-- A store in an owned row. -/
theorem own_store {P : Program} {e sz n : Nat} {b cap : Nat} {xs : List Value} (h : w.ownsRow base e sz (.slice (some ⟨b, 0, none⟩) n cap) n xs) (off : Nat) (new : List Value) (hfit : off + new.length ≤ n * sz) (h1 : ∀ v ∈ new, v.oneCell' = true) :
    ∃ w', (storeCells ⟨b, off, none⟩ new 0).run P w = .ok () w' ∧ w'.ownsRow base e sz (.slice (some ⟨b, 0, none⟩) n cap) n (xs.take off ++ new ++ xs.drop (off + new.length)) ∧ w.grownBy w' (some b) ∧ w'.heap.size = w.heap.size := by
  rcases h.2 with ⟨h', _⟩ | ⟨g', cap', cur, h', hb, hg, hnc, hcm, hcs, htake⟩
  · cases h'
  · cases h'
    have hle : n * sz ≤ cap * sz := Nat.mul_le_mul_right _ hnc
    have hst := run_storeCells_at P b off e new 0 cur w hg (by simp; omega) h1
    simp only [Nat.add_zero] at hst
    refine ⟨_, hst, ⟨?_, .inr ⟨b, cap, _, rfl, hb, setRow_heap w b cur _ e (0, 0) hg, hnc, hcm, ?_, ?_⟩⟩, ⟨rfl, rfl, rfl, by simp, fun k _ hk => setRow_other w b k _ (fun e => hk (by rw [e]))⟩, by simp⟩
    · have := h.1
      simp; omega
    · simp; omega
    · have hx := h.1
      apply List.ext_getElem?
      intro j
      simp only [List.toList_toArray]
      rw [List.getElem?_take]
      have hcur : ∀ j, j < n * sz → cur.toList[j]? = xs[j]? := fun j hj => by rw [← htake, List.getElem?_take, if_pos hj]
      by_cases hj : j < n * sz
      · rw [if_pos hj]
        by_cases h1 : j < off
        · rw [List.append_assoc, List.append_assoc, List.getElem?_append_left (by simp; omega), List.getElem?_append_left (by simp; omega), List.getElem?_take, List.getElem?_take, if_pos h1, if_pos h1]
          exact hcur j hj
        · by_cases h2 : j < off + new.length
          · have key : ∀ l r : List Value, l.length = off → (l ++ new ++ r)[j]? = new[j - off]? := fun l r hl => by
              rw [List.append_assoc, List.getElem?_append_right (by omega), hl, List.getElem?_append_left (by omega)]
            rw [key _ _ (by simp; omega), key _ _ (by simp; omega)]
          · have key : ∀ l r : List Value, l.length = off → (l ++ new ++ r)[j]? = r[j - (off + new.length)]? := fun l r hl => by
              rw [List.getElem?_append_right (by simp; omega)]; congr 1; simp; omega
            rw [key _ _ (by simp; omega), key _ _ (by simp; omega), List.getElem?_drop, List.getElem?_drop]
            have e3 : off + new.length + (j - (off + new.length)) = j := by omega
            rw [e3]
            exact hcur j hj
      · rw [if_neg hj]
        rw [List.getElem?_eq_none]
        simp; omega
/-- The contents after a store. -/
theorem rows_store {lim : Nat → Nat} {sz n : Nat} {rows : List (List D)} {xs us : List Value} (h : RowsRep lim w sz n rows xs) (hx : xs.length = n * sz) {i off : Nat} {row new : List D} (hi : rows[i]? = some row) (hoff : off + new.length ≤ sz)
    (hu : us.length = new.length) (hrep : ∀ (j : Nat) c u, new[j]? = some c → us[j]? = some u → DRep lim w c u ∧ u.oneCell' = true) :
    RowsRep lim w sz n (rows.set i (row.take off ++ new ++ row.drop (off + new.length))) (xs.take (i * sz + off) ++ us ++ xs.drop (i * sz + off + us.length)) := by
  have hrl := h.row row (List.mem_of_getElem? hi)
  have hin : i < rows.length := (List.getElem?_eq_some_iff.1 hi).1
  have hnl : (row.take off ++ new ++ row.drop (off + new.length)).length = sz := by simp; omega
  have hrows : ∀ r, r ∈ rows.set i (row.take off ++ new ++ row.drop (off + new.length)) → r.length = sz := fun r hr => by
    rcases List.mem_or_eq_of_mem_set hr with h1 | h1
    · exact h.row r h1
    · rw [h1]; exact hnl
  refine ⟨by simpa using h.len, hrows, fun j c u hc hu' => ?_⟩
  have hfl := flat_len hrows
  have hjl : j < n * sz := by rw [← h.len]; have := (List.getElem?_eq_some_iff.1 hc).1; rw [hfl] at this; simpa using this
  have hsz : 0 < sz := by
    rcases Nat.eq_zero_or_pos sz with h0 | h0
    · subst h0; omega
    · exact h0
  have hdm : j = (j / sz) * sz + j % sz := by rw [Nat.mul_comm]; exact (Nat.div_add_mod j sz).symm
  have hq : j / sz < rows.length := by rw [h.len]; exact Nat.div_lt_of_lt_mul (by rw [Nat.mul_comm]; exact hjl)
  have hm : j % sz < sz := Nat.mod_lt _ hsz
  have hlt : i * sz + off + us.length ≤ n * sz := by
    have : (i + 1) * sz ≤ n * sz := Nat.mul_le_mul_right _ (by rw [← h.len]; omega)
    rw [Nat.add_mul] at this
    omega
  by_cases hqi : j / sz = i
  · -- in the row that is written
    have hget : (rows.set i (row.take off ++ new ++ row.drop (off + new.length)))[j / sz]? = some (row.take off ++ new ++ row.drop (off + new.length)) := by rw [hqi, List.getElem?_set, if_pos rfl, if_pos hin]
    have hcc := flat_get hrows hget (List.getElem?_eq_getElem (show j % sz < _ by rw [hnl]; exact hm))
    rw [← hdm, hc] at hcc
    have hcell : (row.take off ++ new ++ row.drop (off + new.length))[j % sz]? = some c := by cases hcc; exact List.getElem?_eq_getElem _
    rw [hqi] at hdm
    by_cases h1 : j % sz < off
    · rw [List.append_assoc, List.getElem?_append_left (by simp; omega), List.getElem?_take, if_pos h1] at hcell
      rw [List.append_assoc, List.getElem?_append_left (by simp; omega), List.getElem?_take, if_pos (by omega)] at hu'
      obtain ⟨u2, a1, a2⟩ := h.get hx hi hcell
      rw [← hdm, hu'] at a1
      cases a1
      exact a2
    · by_cases h2 : j % sz < off + new.length
      · rw [List.append_assoc, List.getElem?_append_right (by simp; omega), List.getElem?_append_left (by simp; omega)] at hcell
        rw [List.append_assoc, List.getElem?_append_right (by simp; omega), List.getElem?_append_left (by simp; omega)] at hu'
        have e1 : (List.take off row).length = off := by simp; omega
        have e2 : (List.take (i * sz + off) xs).length = i * sz + off := by simp; omega
        rw [e1] at hcell
        rw [e2] at hu'
        have e3 : j - (i * sz + off) = j % sz - off := by omega
        rw [e3] at hu'
        exact hrep _ c u hcell hu'
      · rw [List.getElem?_append_right (by simp; omega)] at hcell hu'
        have e1 : (List.take off row ++ new).length = off + new.length := by simp; omega
        have e2 : (List.take (i * sz + off) xs ++ us).length = i * sz + off + us.length := by simp; omega
        rw [e1, List.getElem?_drop] at hcell
        rw [e2, List.getElem?_drop] at hu'
        have e3 : off + new.length + (j % sz - (off + new.length)) = j % sz := by omega
        have e4 : i * sz + off + us.length + (j - (i * sz + off + us.length)) = j := by omega
        rw [e3] at hcell
        rw [e4] at hu'
        obtain ⟨u2, a1, a2⟩ := h.get hx hi hcell
        rw [← hdm, hu'] at a1
        cases a1
        exact a2
  · have hget : (rows.set i (row.take off ++ new ++ row.drop (off + new.length)))[j / sz]? = some rows[j / sz] := by rw [List.getElem?_set, if_neg (Ne.symm hqi)]; exact List.getElem?_eq_getElem hq
    have hrl2 := h.row rows[j / sz] (List.getElem_mem hq)
    have hcc := flat_get hrows hget (List.getElem?_eq_getElem (show j % sz < _ by rw [hrl2]; exact hm))
    rw [← hdm, hc] at hcc
    have hcell : rows[j / sz][j % sz]? = some c := by cases hcc; exact List.getElem?_eq_getElem _
    have hux : xs[j]? = some u := by
      by_cases h1 : j < i * sz + off
      · rw [List.append_assoc, List.getElem?_append_left (by simp; omega), List.getElem?_take, if_pos h1] at hu'
        exact hu'
      · have : ¬ j < i * sz + off + us.length := by
          intro h2
          apply hqi
          have h3 : j < (i + 1) * sz := by rw [Nat.add_mul]; omega
          have h4 : i * sz ≤ j := by omega
          exact Nat.le_antisymm (Nat.le_of_lt_succ (Nat.div_lt_of_lt_mul (by rw [Nat.mul_comm]; exact h3))) ((Nat.le_div_iff_mul_le hsz).2 h4)
        rw [List.getElem?_append_right (by simp; omega)] at hu'
        have e2 : (List.take (i * sz + off) xs ++ us).length = i * sz + off + us.length := by simp; omega
        rw [e2, List.getElem?_drop] at hu'
        have e4 : i * sz + off + us.length + (j - (i * sz + off + us.length)) = j := by omega
        rw [e4] at hu'
        exact hu'
    obtain ⟨u2, a1, a2⟩ := h.get hx (List.getElem?_eq_getElem hq) hcell
    rw [← hdm, hux] at a1
    cases a1
    exact a2
end rep

section rules
variable {P : Program} {f : FuncId} {N : Nat} {S : Start} {Q : EV → St → Prop} {k : List Item} {todo : List Item} {base : Nat} {env : Env} {st : St} {ops rest : List Oper}
  {d : Option Tmp} {ty : TypeId} {pos : String} {after : Array Edge} {gd : Option (Nat × Bool)} {t t2 e : TypeId} {x y z : Operand}
/-- The length is that of the contents. -/
theorem ARun.lenV {α : Type} {tk : Nat} {e sz n : Nat} {l : List α} {row : α → List D} (htl : st.tails[tk]? = some ⟨e, sz, n, some (l.map row)⟩) (h : n = l.length → ARun P f N S Q todo env st) : ARun P f N S Q todo env st := by
  intro g w tmps hinv
  obtain ⟨xs, _, _, h3⟩ := hinv.own tk e sz n _ htl
  exact h (by have := h3.len; simpa using this.symm) g w tmps hinv
theorem AOps.lenV {α : Type} {tk : Nat} {e sz n : Nat} {l : List α} {row : α → List D} (htl : st.tails[tk]? = some ⟨e, sz, n, some (l.map row)⟩) (h : n = l.length → AOps P f N S Q ops rest k env st) : AOps P f N S Q ops rest k env st :=
  fun i hi => .lenV htl fun hn => h hn i hi
/-- An owned row is let go: from here on it grows as a published one. -/
theorem Inv.freeze {g : Ghost} {w : World} {tk e sz n : Nat} {rows : List (List D)} (h : Inv g base w st) (htl : st.tails[tk]? = some ⟨e, sz, n, some rows⟩) :
    ∃ g', g'.tk tk = g.tk tk ∧ Inv g' base w (st.setTail tk ⟨e, sz, n, none⟩) ∧ Step base g w st g' w (st.setTail tk ⟨e, sz, n, none⟩) ∧ DRep g'.lim w (.sl sz rows) (g.tk tk) := by
  obtain ⟨xs, h1, h2, h3⟩ := h.own tk e sz n rows htl
  obtain ⟨g', k1, k2, k3, k4⟩ := h.turn (x' := ⟨e, sz, n, none⟩) (v' := g.tk tk) (w' := w) htl h1 (.inl ⟨rfl, rfl, ⟨rfl, rfl, rfl, Nat.le_refl _, fun _ _ _ => rfl⟩⟩) (fun hh => by cases hh) (fun rows _ rows' hh => by cases hh) (fun rows hh => by cases hh)
  refine ⟨g', k1, k3, k4, own_sl h1 h3.len h3.row (fun b hb => by rw [k2 b hb, pub_none rfl]; exact Nat.le_refl _) fun j u c hu hc => ?_⟩
  exact ⟨(h3.rep j c u hc hu).1.mono k4.sevo.evo, (h3.rep j c u hc hu).2⟩
theorem ARun.freeze {i tk e sz n : Nat} {rows : List (List D)} (hl : lookup i env = some (.vc tk n)) (htl : st.tails[tk]? = some ⟨e, sz, n, some rows⟩)
    (h : ARun P f N S Q todo ((i, .tsl sz rows tk) :: env) (st.setTail tk ⟨e, sz, n, none⟩)) : ARun P f N S Q todo env st := by
  intro g w tmps hinv hh he hN
  obtain ⟨g', h1, h2, h3, h4⟩ := hinv.freeze htl
  refine h g' w tmps h2 (hh.step h3) (fun j y hy => ?_) hN
  unfold lookup at hy
  have he' := he.mono h3.sevo
  cases hb : Nat.beq j i with
  | true =>
    rw [hb] at hy
    cases hy
    have := Nat.eq_of_beq_eq_true hb
    subst this
    obtain ⟨v, m1, m2⟩ := he j _ hl
    have hv := (vc_val hinv htl m2).1
    subst hv
    have hlen : tk < st.tails.length := (List.getElem?_eq_some_iff.1 htl).1
    obtain ⟨xs, o1, _, o3⟩ := hinv.own tk e sz n rows htl
    exact ⟨_, m1, .tsl sz rows tk _ e n h4 (by simp [St.setTail, List.getElem?_set, hlen]) (Nat.le_of_eq o3.len) (fun _ => h1.symm)⟩
  | false =>
    rw [hb] at hy
    exact he' j y hy
theorem AOps.freeze {i tk e sz n : Nat} {rows : List (List D)} (hl : lookup i env = some (.vc tk n)) (htl : st.tails[tk]? = some ⟨e, sz, n, some rows⟩)
    (h : AOps P f N S Q ops rest k ((i, .tsl sz rows tk) :: env) (st.setTail tk ⟨e, sz, n, none⟩)) : AOps P f N S Q ops rest k env st :=
  fun j hj => .freeze hl htl (h j hj)
/-- A nil slice becomes an owned row. -/
theorem ARun.tokV {i : Nat} {e sz : Nat} (hx : lookup i env = some (.d (.ex (.slice none 0 0)))) (h : ARun P f N S Q todo ((i, .vc st.tails.length 0) :: env) (st.tok ⟨e, sz, 0, some []⟩)) : ARun P f N S Q todo env st := by
  intro g w tmps hinv hh he hN
  obtain ⟨g', h1, _, _, h2, h3⟩ := hinv.newTail ⟨e, sz, 0, some []⟩ (World.ownsRow_nil w S.base _ _) (.inl ⟨rfl, rfl⟩) (fun rows hr => by cases hr; exact ⟨rfl, by simp, by simp⟩)
  refine h g' w tmps h2 (hh.step h3) (fun j y hy => ?_) hN
  unfold lookup at hy
  cases hb : Nat.beq j i with
  | true =>
    rw [hb] at hy
    cases hy
    have := Nat.eq_of_beq_eq_true hb
    subst this
    obtain ⟨v, m1, m2⟩ := he j _ hx
    have hv := m2.ex_inv
    subst hv
    refine ⟨_, m1, .vc _ _ _ (by simp [St.tok]) ⟨_, _, _, rfl⟩ fun x rows hx ho => ?_⟩
    have : x = ⟨e, sz, 0, some []⟩ := by simpa [St.tok, eq_comm] using hx
    subst this
    exact ⟨Nat.le_refl _, fun _ => h1.symm⟩
  | false =>
    rw [hb] at hy
    exact (he.mono h3.sevo) j y hy
theorem AOps.tokV {i : Nat} {e sz : Nat} (hx : lookup i env = some (.d (.ex (.slice none 0 0)))) (h : AOps P f N S Q ops rest k ((i, .vc st.tails.length 0) :: env) (st.tok ⟨e, sz, 0, some []⟩)) : AOps P f N S Q ops rest k env st :=
  fun j hj => .tokV hx (h j hj)
theorem AOps.tok {i : Nat} {e sz : Nat} (hx : lookup i env = some (.d (.ex (.slice none 0 0)))) (h : AOps P f N S Q ops rest k ((i, .tsl sz [] st.tails.length) :: env) (st.tok ⟨e, sz, 0, none⟩)) : AOps P f N S Q ops rest k env st :=
  fun j hj => .tok hx (h j hj)

section sl
variable {α : Type} {sz : Nat} {row : α → List D} {l : List α} {ev : EV} {inf : TypeInfo} {tk n : Nat}
theorem q_lenV (ht : P.underlying t = some (.slice e)) (hx : evo env x = some (.vc tk n)) {e' : Nat} (htl : st.tails[tk]? = some ⟨e', sz, n, some (l.map row)⟩) :
    OpQ P env st ⟨d, .call ⟨.builtin .len, #[x], #[t]⟩, ty, pos, after, gd⟩ (.d (cI (l.length : Int))) := fun g base w tmps hinv he => by
  obtain ⟨_, xs, h2, _, h4⟩ := vc_val hinv htl (evo_rep he hx)
  obtain ⟨⟨A, c, hv⟩, _⟩ := own_form h2
  have hn : n = l.length := by have := h4.len; simpa using this.symm
  rw [← hn]
  exact ⟨_, .d _ _ (.ex _), fun w' _ => len_run ht hv w'⟩
theorem q_idxV [Inhabited α] {kk : IntKind} {i : Int} {e' : Nat} (ht : P.underlying t = some (.slice e)) (hi : P.info? e = some inf) (hsz : inf.size = sz) (hx : evo env x = some (.vc tk n)) (htl : st.tails[tk]? = some ⟨e', sz, n, some (l.map row)⟩) (hy : evo env y = some (.d (.ex (.int kk i)))) (h : 0 ≤ i ∧ i < l.length) :
    OpQ P env st ⟨d, .indexAddr t x y, ty, pos, after, gd⟩ (.vp tk n i.toNat 0) := fun g base w tmps hinv he => by
  obtain ⟨hvk, xs, h2, _, h4⟩ := vc_val hinv htl (evo_rep he hx)
  have hn : n = l.length := by have := h4.len; simpa using this.symm
  obtain ⟨b, c, hv⟩ := (own_form h2).2 (by omega)
  have hlen : tk < st.tails.length := (List.getElem?_eq_some_iff.1 htl).1
  subst hsz
  refine ⟨.pointer (some ⟨b, i.toNat * inf.size, none⟩), .vp _ _ _ _ _ hlen ⟨_, _, rfl⟩ fun x rows hx ho => ?_, fun w' _ => ?_⟩
  · rw [htl] at hx
    cases hx
    exact ⟨Nat.le_refl _, fun _ => ⟨b, n, c, by rw [← hvk, hv], rfl⟩⟩
  · have := index_run (d := d) (ty := ty) (pos := pos) (after := after) (gd := gd) ht hi hv (evo_rep he hy).ex_inv h.1 (by omega) w'
    rw [Addr.add_lit, Nat.zero_add] at this
    exact this
theorem q_fieldVp {s : TypeId} {f off : Nat} {i o : Nat} (hf : fieldOff P s f = some off) (hx : evo env x = some (.vp tk n i o)) :
    OpQ P env st ⟨d, .fieldAddr s x f, ty, pos, after, gd⟩ (.vp tk n i (o + off)) := fun g base w tmps hinv he => by
  have h := evo_rep he hx
  generalize hv : Act.eval ⟨tmps, []⟩ x = v at h
  cases h with
  | vp _ _ _ _ _ ht hf' hh =>
    obtain ⟨b, o', rfl⟩ := hf'
    refine ⟨.pointer (some ⟨b, o' + off, none⟩), .vp _ _ _ _ _ ht ⟨_, _, rfl⟩ fun x rows hx ho => ?_, fun w' _ => by simp [execOp, hv, fieldPlace_run hf, Addr.add_lit]⟩
    obtain ⟨h1, h2⟩ := hh x rows hx ho
    refine ⟨h1, fun e => ?_⟩
    obtain ⟨b2, m, c, a1, a2⟩ := h2 e
    cases a2
    exact ⟨b, m, c, a1, by rw [Nat.add_assoc]⟩
/-- What is read at a place of an owned row. -/
theorem vp_cells {g : Ghost} {w : World} {i o e' : Nat} {v : Value} {r : List D} {rows : List (List D)} (hinv : Inv g base w st) (htl : st.tails[tk]? = some ⟨e', sz, n, some rows⟩) (hv : EVRep g w st (.vp tk n i o) v) (hr : rows[i]? = some r) :
    ∃ b c xs, g.tk tk = .slice (some ⟨b, 0, none⟩) n c ∧ v = .pointer (some ⟨b, i * sz + o, none⟩) ∧ w.ownsRow base e' sz (.slice (some ⟨b, 0, none⟩) n c) n xs ∧ g.lim b = 0 ∧ RowsRep g.lim w sz n rows xs ∧ b < w.heap.size ∧
      ∀ j cc, r[j]? = some cc → ∃ u, w.cell? ⟨b, i * sz + j, none⟩ = some u ∧ xs[i * sz + j]? = some u ∧ DRep g.lim w cc u ∧ u.oneCell' = true := by
  cases hv with
  | vp _ _ _ _ _ ht hf' hh =>
    obtain ⟨b, m, c, a1, a2⟩ := (hh _ rows htl rfl).2 rfl
    obtain ⟨xs, h1, h2, h3⟩ := hinv.own tk e' sz n rows htl
    rw [a1] at h1 h2
    have hm : m = n := by
      rcases h1.2 with ⟨hh, _⟩ | ⟨_, _, _, hh, _⟩
      · cases hh
      · cases hh; rfl
    subst hm
    refine ⟨b, c, xs, a1, a2, h1, h2 b rfl, h3, (h1.lt b rfl).2, fun j cc hj => ?_⟩
    obtain ⟨u, k1, k2⟩ := h3.get h1.1 hr hj
    have := h1.cells (g := b) rfl _ u k1
    rw [Addr.add_lit, Nat.zero_add] at this
    exact ⟨u, this, k1, k2⟩
theorem q_loadVp [Inhabited α] {i o e' : Nat} {c : D} (h1 : (P.underlying t).map oneB = some true) (hx : evo env x = some (.vp tk n i o)) (htl : st.tails[tk]? = some ⟨e', sz, n, some (l.map row)⟩) (hi : i < l.length) (hc : (row (nth l i))[o]? = some c) :
    OpQ P env st ⟨d, .load t x, ty, pos, after, gd⟩ (.d c) := fun g base w tmps hinv he => by
  obtain ⟨b, cp, xs, a1, a2, a3, a4, a5, a6, a7⟩ := vp_cells hinv htl (evo_rep he hx) (mapnth hi)
  obtain ⟨u, k1, k2, k3, k4⟩ := a7 o c hc
  refine ⟨u, .d _ _ k3, fun w' hb => ?_⟩
  have := (hb.cell (p := ⟨b, i * sz + o, none⟩) a6).trans k1
  simp [execOp, a2, Instr.loadAt, Instr.sureAddr, loadVar, isAgg_of h1, this]
theorem q_loadVpA [Inhabited α] {i o e' m : Nat} {cs : List D} (h1 : (P.underlying t).map oneB = some false) (hs : (P.info? t).map (·.size) = some m) (hx : evo env x = some (.vp tk n i o)) (htl : st.tails[tk]? = some ⟨e', sz, n, some (l.map row)⟩) (hi : i < l.length)
    (hm : o + m ≤ sz) (hc : ((row (nth l i)).drop o).take m = cs) : OpQ P env st ⟨d, .load t x, ty, pos, after, gd⟩ (.d (.agg cs)) := fun g base w tmps hinv he => by
  obtain ⟨b, cp, xs, a1, a2, a3, a4, a5, a6, a7⟩ := vp_cells hinv htl (evo_rep he hx) (mapnth hi)
  have hrl : (row (nth l i)).length = sz := a5.row _ (List.mem_of_getElem? (mapnth hi))
  have hl : cs.length = m := by rw [← hc]; simp; omega
  let us : List Value := (xs.drop (i * sz + o)).take m
  have hus : ∀ j u, us[j]? = some u → j < m ∧ xs[i * sz + (o + j)]? = some u := fun j u hu => by
    simp only [us, List.getElem?_take, List.getElem?_drop] at hu
    split at hu
    · rename_i hj
      exact ⟨hj, by rw [← hu]; congr 1; omega⟩
    · cases hu
  have hcell : ∀ j, j < m → ∃ cc u, cs[j]? = some cc ∧ us[j]? = some u ∧ w.cell? ⟨b, i * sz + o + j, none⟩ = some u ∧ DRep g.lim w cc u ∧ u.oneCell' = true := fun j hj => by
    have e1 : (row (nth l i))[o + j]? = some ((row (nth l i))[o + j]'(by omega)) := List.getElem?_eq_getElem _
    obtain ⟨u, k1, k2, k3, k4⟩ := a7 (o + j) _ e1
    refine ⟨_, u, by rw [show cs[j]? = (((row (nth l i)).drop o).take m)[j]? from by rw [hc], List.getElem?_take, if_pos hj, List.getElem?_drop]; exact e1, ?_, by rw [Nat.add_assoc]; exact k1, k3, k4⟩
    simp only [us, List.getElem?_take, List.getElem?_drop]
    rw [if_pos hj, ← k2]; congr 1; omega
  have hul : us.length = m := by
    have h1 := a3.1
    have hin : i < n := by have := a5.len; simp at this; omega
    have h2 : (i + 1) * sz ≤ n * sz := Nat.mul_le_mul_right _ hin
    rw [Nat.add_mul] at h2
    simp [us]; omega
  refine ⟨.agg us.toArray, .d _ _ (.agg _ _ (by simp [hul, hl]) (fun j u hu => ?_) (fun j cc u hcc hu => ?_)), fun w' hb => ?_⟩
  · obtain ⟨hj, _⟩ := hus j u (by simpa using hu)
    obtain ⟨cc, u', b1, b2, b3, b4, b5⟩ := hcell j hj
    have : us[j]? = some u := by simpa using hu
    rw [b2] at this; cases this; exact b5
  · obtain ⟨hj, _⟩ := hus j u (by simpa using hu)
    obtain ⟨cc', u', b1, b2, b3, b4, b5⟩ := hcell j hj
    have : us[j]? = some u := by simpa using hu
    rw [b2] at this; cases this
    rw [b1] at hcc; cases hcc
    exact b4
  · obtain ⟨inf, hinf, hsz'⟩ : ∃ inf, P.info? t = some inf ∧ inf.size = m := by
      cases hh : P.info? t with
      | none => rw [hh] at hs; cases hs
      | some inf => rw [hh] at hs; exact ⟨inf, rfl, by simpa using hs⟩
    have hload := loadCells_run (P := P) (w := w') (b := b) (off := i * sz + o) hul (fun j u hu => by
      obtain ⟨hj, _⟩ := hus j u hu
      obtain ⟨cc, u', b1, b2, b3, b4, b5⟩ := hcell j hj
      rw [b2] at hu; cases hu
      exact (hb.cell (p := ⟨b, i * sz + o + j, none⟩) a6).trans b3)
    simp [execOp, a2, Instr.loadAt, Instr.sureAddr, loadVar, isAgg_yes h1, sizeOf, typeInfo, hinf, hsz', hload]
/-- A store at a place of an owned row. -/
theorem u_storeV [Inhabited α] {i o e' m : Nat} {new : List D} {a : α} (hx : evo env x = some (.vp tk n i o)) (htl : st.tails[tk]? = some ⟨e', sz, n, some (l.map row)⟩) (hi : i < l.length) (hy : evo env y = some ev) (hc : cellsD ev = some new)
    (hs : (P.info? t).map (·.size) = some m) (hm : new.length = m) (hof : o + m ≤ sz) (ha : (row (nth l i)).take o ++ new ++ (row (nth l i)).drop (o + new.length) = row a) :
    OpU P base env st ⟨d, .store t x y, ty, pos, after, gd⟩ (st.setTail tk ⟨e', sz, n, some ((l.set i a).map row)⟩) := by
  intro g w tmps hinv he
  obtain ⟨b, cp, xs, a1, a2, a3, a4, a5, a6, a7⟩ := vp_cells hinv htl (evo_rep he hx) (mapnth hi)
  have hcr := cellsD_rep hc (evo_rep he hy)
  generalize hu : Act.eval ⟨tmps, []⟩ y = u at hcr
  have hul : u.cells.toList.length = new.length := by simpa using hcr.1
  have hin : i < n := by have := a5.len; simp at this; omega
  have h2 : (i + 1) * sz ≤ n * sz := Nat.mul_le_mul_right _ hin
  rw [Nat.add_mul] at h2
  have hone : ∀ v ∈ u.cells.toList, v.oneCell' = true := fun v hv => by
    obtain ⟨j, hj⟩ := List.mem_iff_getElem?.1 hv
    have hjl := (List.getElem?_eq_some_iff.1 hj).1
    exact (hcr.2 j new[j] v (List.getElem?_eq_getElem (by omega)) (by simpa using hj)).2
  obtain ⟨w', k1, k2, k3, k4⟩ := own_store (P := P) a3 (i * sz + o) u.cells.toList (by omega) hone
  have hrows := rows_store (us := u.cells.toList) (new := new) (off := o) a5 a3.1 (mapnth hi) (by omega) hul (fun j c v hcc hv => hcr.2 j c v hcc (by simpa using hv))
  rw [ha] at hrows
  have hset : (l.map row).set i (row a) = (l.set i a).map row := by rw [List.map_set]
  rw [hset] at hrows
  obtain ⟨g', q1, q2, q3, q4⟩ := hinv.turn (x' := ⟨e', sz, n, some ((l.set i a).map row)⟩) (v' := g.tk tk) (w' := w') htl (by rw [a1]; exact k2) (.inl ⟨rfl, k4, by rw [a1]; exact k3⟩) (fun hh => by cases hh) (fun rows _ rows' _ => ⟨rfl, Nat.le_refl _, fun _ => rfl⟩) (fun rows hh => by cases hh; exact hrows)
  refine ⟨g', w', ?_, q3, q4⟩
  obtain ⟨inf, hinf, hsz'⟩ : ∃ inf, P.info? t = some inf ∧ inf.size = m := by
    cases hh : P.info? t with
    | none => rw [hh] at hs; cases hs
    | some inf => rw [hh] at hs; exact ⟨inf, rfl, by simpa using hs⟩
  have hcz : u.cells.size = m := by have := hcr.1; omega
  simp [execOp, hu, a2, Instr.storeAt, Instr.sureAddr, storeVar, sizeOf, typeInfo, hinf, hsz', hcz, k1]
/-- An owned row is made. -/
theorem v_makeV {z : Value} {kl kc : IntKind} {a b : Int} {a0 : α} (ht : P.underlying t = some (.slice e)) (hi : P.info? e = some inf) (hz : inf.zero = some z) (hsz : inf.size = sz) (hzs : z.cells.size = sz) (hby : inf.bytes ≤ 100000)
    (hzr : cellsD (.d (cv z)) = some (row a0)) (hx : evo env x = some (.d (.ex (.int kl a)))) (hy : evo env y = some (.d (.ex (.int kc b)))) (h : 0 ≤ a ∧ a ≤ b ∧ b ≤ 1000000000) :
    OpV P base env st ⟨d, .makeSlice t x y, ty, pos, after, gd⟩ (.vc st.tails.length (List.replicate a.toNat a0).length) (st.tok ⟨e, sz, (List.replicate a.toNat a0).length, some ((List.replicate a.toNat a0).map row)⟩) := by
  intro g w tmps hinv he
  have hbig : (inf.bytes : Int) * b ≤ 281474976710656 := by
    have h1 : inf.bytes * b.toNat ≤ 100000 * 1000000000 := Nat.mul_le_mul hby (by omega)
    generalize hq : inf.bytes * b.toNat = q at h1
    have h2 : (inf.bytes : Int) * b = (q : Int) := by rw [← hq, Int.natCast_mul, Int.toNat_of_nonneg (by omega)]
    omega
  have hr := run_make (P := P) w t e inf z ht hi hz kl kc a b h.1 h.2.1 hbig (by omega)
  rw [hsz] at hr
  have hzc := cellsD_rep (g := g) (w := w) (st := st) hzr (.d _ _ (cv_rep _ _ z))
  have hrl : (row a0).length = sz := by rw [← hzc.1, hzs]
  have hown : (w.alloc (.cells (madeCells z.cells (b.toNat * sz)) e)).ownsRow base e sz (.slice (some ⟨w.heap.size, 0, none⟩) a.toNat b.toNat) a.toNat ((madeCells z.cells (b.toNat * sz)).toList.take (a.toNat * sz)) := by
    have hle : a.toNat * sz ≤ b.toNat * sz := Nat.mul_le_mul_right _ (by omega)
    refine ⟨by rw [List.length_take, Array.length_toList, size_madeCells]; omega, .inr ⟨w.heap.size, b.toNat, _, rfl, hinv.base, heap_alloc_new w _, by omega, by simp only [maxLen]; omega, size_madeCells _ _, rfl⟩⟩
  have hrows : RowsRep g.lim w sz a.toNat ((List.replicate a.toNat a0).map row) ((madeCells z.cells (b.toNat * sz)).toList.take (a.toNat * sz)) := by
    refine ⟨by simp, fun r hr => by
      simp only [List.map_replicate] at hr
      rw [List.eq_of_mem_replicate hr]; exact hrl, fun i c u hc hu => ?_⟩
    have hrr : ∀ r ∈ (List.replicate a.toNat a0).map row, r.length = sz := fun r hr => by
      simp only [List.map_replicate] at hr
      rw [List.eq_of_mem_replicate hr]; exact hrl
    have hfl := flat_len hrr
    have hil : i < a.toNat * sz := by have := (List.getElem?_eq_some_iff.1 hc).1; rw [hfl] at this; simpa using this
    have hs0 : 0 < sz := by
      rcases Nat.eq_zero_or_pos sz with h0 | h0
      · rw [h0] at hil; omega
      · exact h0
    have hmod : i % sz < sz := Nat.mod_lt _ hs0
    have hdiv : i / sz < a.toNat := Nat.div_lt_of_lt_mul (by rw [Nat.mul_comm]; exact hil)
    have hdm : i = i / sz * sz + i % sz := by rw [Nat.mul_comm]; exact (Nat.div_add_mod i sz).symm
    have hf := flat_get (i := i / sz) (j := i % sz) (row := row a0) (c := (row a0)[i % sz]'(by omega)) hrr (by simp [List.getElem?_replicate, hdiv]) (List.getElem?_eq_getElem (by omega))
    rw [← hdm, hc] at hf
    have hcz : (row a0)[i % sz]? = some c := by cases hf; exact List.getElem?_eq_getElem (by omega)
    have huz : z.cells[i % sz]? = some u := by
      rw [List.getElem?_take, if_pos hil] at hu
      have hle : a.toNat * sz ≤ b.toNat * sz := Nat.mul_le_mul_right _ (by omega)
      have hlt' : i % sz < z.cells.size := by omega
      have h3 : (madeCells z.cells (b.toNat * sz)).toList[i]? = some (z.cells[i % z.cells.size]!) := by simp [madeCells, show i < b.toNat * sz by omega]
      rw [h3] at hu
      cases hu
      rw [hzs, getElem!_pos z.cells (i % sz) hlt', Array.getElem?_eq_getElem hlt']
    exact hzc.2 _ c u hcz huz
  have e1 : (List.replicate a.toNat a0).length = a.toNat := by simp
  rw [e1]
  obtain ⟨g', q1, q2, q3, q4, q5⟩ := hinv.newTail ⟨e, sz, a.toNat, some ((List.replicate a.toNat a0).map row)⟩ hown (.inr ⟨rfl, (Below.refl _ w).alloc (Nat.le_refl _) _⟩) (fun rows hh => by cases hh; exact hrows)
  refine ⟨.slice (some ⟨w.heap.size, 0, none⟩) a.toNat b.toNat, g', _, ?_, ?_, q4, q5⟩
  · simp [execOp, (evo_rep he hx).ex_inv, (evo_rep he hy).ex_inv, hr]
  · refine .vc _ _ _ (by simp [St.tok]) ⟨_, _, _, rfl⟩ fun x' rows hx' ho => ?_
    have : x' = ⟨e, sz, a.toNat, some ((List.replicate a.toNat a0).map row)⟩ := by simpa [St.tok, eq_comm] using hx'
    subst this
    exact ⟨Nat.le_refl _, fun _ => q1.symm⟩
end sl
end rules
end Go.Abs
