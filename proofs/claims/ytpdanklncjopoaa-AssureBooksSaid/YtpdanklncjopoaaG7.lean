/- Regions that may come in any order: operations that may be done in each of two states, and what leads from the one to the other. -/
import Derived.Test.YtpdanklncjopoaaG6
set_option linter.unusedSimpArgs false
set_option linter.unusedVariables false
set_option linter.unusedSectionVars false
namespace Go.Abs
open Go.RowKit
section drawn
variable {P : Program} {f : FuncId} {N : Nat} {S : Start} {Q : EV → St → Prop} {k : List Item}
theorem drawn_mainU {l : List Oper} {p : Nat} {env : Env} {st st' : St} {xs : List EV} {op : Op} {ty : TypeId} {pos : String} {after : Array Edge} (hp : p + 1 ≤ l.length)
    (hal : l[p]? = some ⟨none, op, ty, pos, after, none⟩) (hU : OpU P S.base (renv l ⟨none, op, ty, pos, after, none⟩ (putAll env (l.take p) xs)) st ⟨none, op, ty, pos, after, none⟩ st')
    (hC1 : ∀ i j t, i < p → j < p → i ≠ j → dstAt l i = some t → dstAt l j ≠ some t)
    (hC2 : ∀ (i : Nat) o, i < p → l[i]? = some o → ∀ t ∈ slots l o, ∀ j, j < p → j ≠ i → dstAt l j = some t → (j < i ∧ ((masks l []).getD i 0).testBit j = true) ∨ (i < j ∧ ((masks l []).getD j 0).testBit i = true))
    (hC3 : ∀ t ∈ slots l ⟨none, op, ty, pos, after, none⟩, ∀ j, j < p → dstAt l j = some t → ((masks l []).getD p 0).testBit j = true)
    (hord : ∀ i, p + 1 ≤ i → i < l.length → ∀ j, j < i → ((masks l []).getD i 0).testBit j = true)
    (hacyc : ∀ (i : Nat) o, l[i]? = some o → ∀ e ∈ o.after, Region.binds .any e = true → e.on < i)
    (hch1 : Chain P N l st (l.take p) xs env) (hch2 : Chain P N l st' (l.take p) xs env) (hsuf : AOps P f N S Q l (l.drop (p + 1)) k (putAll env (l.take p) xs) st') :
    ∀ (cnt fuel t : Nat) (listed : Array Bool) (g : Ghost) (w : World) (tmps : Array Value) (cu : St), cu = (if listed.getD p false = true then st' else st) → listed.size = l.length → Closed l listed → (∀ i, p + 1 ≤ i → i < l.length → listed.getD i true = false) →
      (((List.range (p + 1)).filter fun i => !listed.getD i true).length = cnt) → cnt + (l.length - (p + 1)) ≤ fuel → Inv g S.base w cu → Hist S g w cu → tmps.size = N →
      (∀ (s : Tmp), (∀ (j : Nat) x, j < p → listed.getD j false = true → dstAt l j = some s → xs[j]? = some x → ∃ v, tmps[s]? = some v ∧ EVRep g w cu x v) ∧
        ((∀ j, j < p → listed.getD j false = true → dstAt l j ≠ some s) → ∀ y, lookup s env = some y → ∃ v, tmps[s]? = some v ∧ EVRep g w cu y v)) →
      FWP P f (RPost S Q) (.inRegion l.toArray (Region.linearise.go .any l.toArray fuel t listed []) :: k) tmps w := by
  have hxl := hch1.length
  have hxl' : xs.length = p := by rw [hxl]; simp; omega
  intro cnt
  induction cnt with
  | zero =>
    intro fuel t listed g w tmps cu hcu hs hcl hsu hcnt hfuel hinv hh hN hJ
    have hall : ∀ i, i < p + 1 → listed.getD i true = true := by
      intro i hi
      have h0 := List.eq_nil_of_length_eq_zero hcnt
      have hn : i ∉ (List.range (p + 1)).filter fun i => !listed.getD i true := by rw [h0]; simp
      rw [List.mem_filter, List.mem_range] at hn
      cases hb : listed.getD i true with
      | true => rfl
      | false => exact absurd ⟨hi, by simp [hb]⟩ hn
    have hgo := go_suffix hord hacyc fuel t (p + 1) listed (Nat.le_refl _) hp (by omega) hs (fun i hi => by
      by_cases h : i < p + 1
      · rw [hall i h]; simp [h]
      · rw [hsu i (by omega) hi]; simp [h])
    rw [hgo]
    have hdl : (l.drop (p + 1)).length = l.length - (p + 1) := by simp
    rw [← hdl]
    have hallF : ∀ i, i < p + 1 → listed.getD i false = true := fun i hi => by
      have := hall i hi
      have hlt : i < listed.size := by omega
      simpa [Array.getD_eq_getD_getElem?, hlt] using this
    rw [if_pos (hallF p (by omega))] at hcu
    subst hcu
    refine hsuf (p + 1) (fun j => by rw [List.getElem?_drop]) g w tmps hinv hh (fun s y hy => ?_) hN
    rcases lookup_putAll hxl hy with ⟨j, o, h1, h2, h3⟩ | ⟨h1, h2⟩
    · have hj : j < p := by have := (List.getElem?_eq_some_iff.1 h2).1; omega
      have ho : l[j]? = some o := by rw [List.getElem?_take] at h1; rw [if_pos hj] at h1; exact h1
      exact (hJ s).1 j y hj (hallF j (by omega)) (by simp [dstAt, ho, h3]) h2
    · refine (hJ s).2 (fun j hj _ hd => ?_) y h2
      cases ho : l[j]? with
      | none => simp [dstAt, ho] at hd
      | some o => exact h1 j o (by rw [List.getElem?_take, if_pos hj]; exact ho) (by simpa [dstAt, ho] using hd)
  | succ cnt ih =>
    intro fuel t listed g w tmps cu hcu hs hcl hsu hcnt hfuel hinv hh hN hJ
    obtain ⟨fuel, rfl⟩ : ∃ n, fuel = n + 1 := ⟨fuel - 1, by omega⟩
    -- an operation of the prefix that has not come up
    have hex : ∃ i, i < p + 1 ∧ listed.getD i true = false := by
      have : (List.range (p + 1)).filter (fun i => !listed.getD i true) ≠ [] := fun h => by rw [h] at hcnt; simp at hcnt
      obtain ⟨i, hi⟩ := List.exists_mem_of_ne_nil _ this
      rw [List.mem_filter, List.mem_range] at hi
      exact ⟨i, hi.1, by simpa using hi.2⟩
    have hDF : ∀ i, i < l.length → listed.getD i false = listed.getD i true := fun i hi => by
      have hlt : i < listed.size := by omega
      simp [Array.getD_eq_getD_getElem?, hlt]
    have hrd : ((List.range l.toArray.size).filter fun i => !listed.getD i true && ((l.toArray[i]?).map (·.after.all fun e => !Region.binds .any e || listed.getD e.on false)).getD false) = Region.ready .any l.toArray listed := rfl
    -- the least such is ready
    have hne : Region.ready .any l.toArray listed ≠ [] := by
      have hmin : ∀ n i, i ≤ n → i < p + 1 → listed.getD i true = false → ∃ i, i < p + 1 ∧ listed.getD i true = false ∧ ∀ j, j < i → listed.getD j true = true := by
        intro n
        induction n with
        | zero => intro i hi hp' h; exact ⟨i, hp', h, fun j hj => by omega⟩
        | succ n ihn =>
          intro i hi hp' h
          by_cases hh' : ∃ j, j < i ∧ listed.getD j true = false
          · obtain ⟨j, hj, hjl⟩ := hh'
            exact ihn j (by omega) (by omega) hjl
          · refine ⟨i, hp', h, fun j hj => ?_⟩
            cases hb : listed.getD j true with
            | true => rfl
            | false => exact absurd ⟨j, hj, hb⟩ hh'
      obtain ⟨i0, h0, h1⟩ := hex
      obtain ⟨i, hip, hiu, hbel⟩ := hmin i0 i0 (Nat.le_refl _) h0 h1
      have hil : i < l.length := by omega
      have : i ∈ Region.ready .any l.toArray listed := by
        rw [mem_ready]
        refine ⟨hiu, l[i], by simp [hil], fun e he hb => ?_⟩
        have hlt := hacyc i l[i] (List.getElem?_eq_getElem hil) e he hb
        rw [hDF _ (by omega)]
        exact hbel _ hlt
      intro hnil
      rw [hnil] at this
      cases this
    simp only [Region.linearise.go, hrd]
    have hlen : 0 < (Region.ready .any l.toArray listed).length := List.length_pos_iff.2 hne
    have hmod := Nat.mod_lt t hlen
    generalize hi : (Region.ready .any l.toArray listed)[t % (Region.ready .any l.toArray listed).length] = i
    have hsome : (Region.ready .any l.toArray listed)[t % (Region.ready .any l.toArray listed).length]? = some i := by rw [List.getElem?_eq_getElem hmod, hi]
    rw [hsome]
    simp only []
    rw [linearise_go_acc]
    have him : i ∈ Region.ready .any l.toArray listed := List.mem_of_getElem? hsome
    obtain ⟨hiu, o, ho, hall⟩ := mem_ready.1 him
    have ho' : l[i]? = some o := by simpa using ho
    have hil := (List.getElem?_eq_some_iff.1 ho').1
    have hmask := ready_mask hcl ho' (fun e he hb => hall e he hb)
    have hip1 : i < p + 1 := by
      rcases Nat.lt_or_ge i (p + 1) with h | h
      · exact h
      · obtain ⟨i0, h0, h1⟩ := hex
        have := hmask i0 (hord i h hil i0 (by omega))
        rw [hDF i0 (by omega), h1] at this
        cases this
    -- what remains behind it
    have hcnt' : ((List.range (p + 1)).filter fun j => !(listed.setIfInBounds i true).getD j true).length = cnt := by
      have hset : ∀ j, (listed.setIfInBounds i true).getD j true = (listed.getD j true || decide (j = i)) := by
        intro j
        by_cases hji : j = i
        · subst hji; simp [Array.getD_eq_getD_getElem?, hs, hil]
        · rw [getD_set_ne true (Ne.symm hji)]; simp [hji]
      have hfil : ((List.range (p + 1)).filter fun j => !(listed.setIfInBounds i true).getD j true) = ((List.range (p + 1)).filter fun j => !listed.getD j true).filter fun j => !decide (j = i) := by
        rw [List.filter_filter]
        refine List.filter_congr fun j _ => ?_
        rw [hset j]
        cases listed.getD j true <;> simp
      rw [hfil]
      have hnd : ((List.range (p + 1)).filter fun j => !listed.getD j true).Nodup := List.nodup_range.filter _
      have hmem : i ∈ (List.range (p + 1)).filter fun j => !listed.getD j true := by rw [List.mem_filter, List.mem_range]; exact ⟨hip1, by simp [hiu]⟩
      have hcount : ∀ (L : List Nat), L.Nodup → i ∈ L → (L.filter fun j => !decide (j = i)).length + 1 = L.length := by
        intro L
        induction L with
        | nil => intro _ h; cases h
        | cons a L ihL =>
          intro hn hm
          rw [List.nodup_cons] at hn
          by_cases ha : a = i
          · subst ha
            have : (L.filter fun j => !decide (j = a)) = L := by
              rw [List.filter_eq_self]
              intro b hb
              have : b ≠ a := fun e => hn.1 (e ▸ hb)
              simp [this]
            rw [List.filter_cons]
            simp [this]
          · have hm' : i ∈ L := by
              rcases List.mem_cons.1 hm with h | h
              · exact absurd h.symm ha
              · exact h
            rw [List.filter_cons]
            simp only [ha, decide_false, Bool.not_false, if_true, List.length_cons]
            rw [ihL hn.2 hm']
      have := hcount _ hnd hmem
      omega
    have hcl' : Closed l (listed.setIfInBounds i true) := by
      intro j oj hoj hlj e he' hb
      by_cases hji : j = i
      · subst hji
        rw [ho'] at hoj
        cases hoj
        exact getD_set_true (hall e he' hb)
      · rw [getD_set_ne false (Ne.symm hji)] at hlj
        exact getD_set_true (hcl j oj hoj hlj e he' hb)
    have hsu' : ∀ j, p + 1 ≤ j → j < l.length → (listed.setIfInBounds i true).getD j true = false := fun j hj hjl => by rw [getD_set_ne true (by omega)]; exact hsu j hj hjl
    have hoA : l.toArray[i]? = some o := ho
    by_cases hpi : i = p
    · -- the store
      subst hpi
      rw [hal] at ho'
      cases ho'
      have hlp : listed.getD i false = false := by rw [hDF i hil, hiu]
      have hcu' : cu = st := by rw [hcu, if_neg (by rw [hlp]; simp)]
      have hw : Region.wanted ⟨none, op, ty, pos, after, none⟩ (yielded l.toArray tmps) = true := by simp [Region.wanted]
      have he : EnvRep g w cu (renv l ⟨none, op, ty, pos, after, none⟩ (putAll env (l.take i) xs)) tmps := by
        intro s y hy
        obtain ⟨hsl, hy'⟩ := renvOf_get hy
        rcases lookup_putAll hxl hy' with ⟨j, o', h1, h2, h3⟩ | ⟨h1, h2⟩
        · have hji : j < i := by have := (List.getElem?_eq_some_iff.1 h2).1; omega
          have hoj : l[j]? = some o' := by rw [List.getElem?_take, if_pos hji] at h1; exact h1
          have hdj : dstAt l j = some s := by simp [dstAt, hoj, h3]
          exact (hJ s).1 j y hji (hmask j (hC3 s hsl j hji hdj)) hdj h2
        · refine (hJ s).2 (fun j hj hlj hdj => ?_) y h2
          cases hoj : l[j]? with
          | none => simp [dstAt, hoj] at hdj
          | some o' => exact h1 j o' (by rw [List.getElem?_take, if_pos hj]; exact hoj) (by simpa [dstAt, hoj] using hdj)
      rw [hcu'] at he hinv hh hJ
      obtain ⟨g', w', hr, hinv', hst⟩ := hU g w tmps hinv he
      show FWP P f (RPost S Q) (.inRegion l.toArray (i :: _) :: k) tmps w
      refine FWP.skip hoA hw hr ?_
      refine ih fuel _ _ g' w' _ st' (by rw [if_pos (by simp [Array.getD_eq_getD_getElem?, hs, hil])]) (by simpa using hs) hcl' hsu' hcnt' (by omega) hinv' (hh.step hst) (by rw [size_put]; exact hN) (fun s => ⟨fun j y hj hlj hdj hy => ?_, fun hno y hy => ?_⟩)
      · rw [getD_set_ne false (by omega)] at hlj
        obtain ⟨u, h1, h2⟩ := (hJ s).1 j y hj hlj hdj hy
        exact ⟨u, h1, h2.mono hst.sevo⟩
      · obtain ⟨u, h1, h2⟩ := (hJ s).2 (fun j hj hlj => hno j hj (by rw [getD_set_ne false (by omega)]; exact hlj)) y hy
        exact ⟨u, h1, h2.mono hst.sevo⟩
    have hip : i < p := by omega
    have hch : Chain P N l cu (l.take p) xs env := by rw [hcu]; split
                                                      · exact hch2
                                                      · exact hch1
    obtain ⟨x, hx, hd, hop⟩ := hch.get (i := i) (o := o) (by rw [List.getElem?_take, if_pos hip]; exact ho')
    have hgm := masks_good hcl l [] (by simp) (by simp)
    -- what the operation looks at
    have he : EnvRep g w cu (renv l o (putAll env ((l.take p).take i) (xs.take i))) tmps := by
      intro s y hy
      obtain ⟨hsl, hy'⟩ := renvOf_get hy
      rcases lookup_putAll (by simp [hxl]) hy' with ⟨j, o', h1, h2, h3⟩ | ⟨h1, h2⟩
      · have hji : j < i := by have := (List.getElem?_eq_some_iff.1 h2).1; simp at this; omega
        have hoj : l[j]? = some o' := by
          rw [List.getElem?_take, if_pos hji, List.getElem?_take, if_pos (by omega)] at h1; exact h1
        have hdj : dstAt l j = some s := by simp [dstAt, hoj, h3]
        rcases hC2 i o hip ho' s hsl j (by omega) (by omega) hdj with ⟨_, hb⟩ | ⟨hlt, _⟩
        · exact (hJ s).1 j y (by omega) (hmask j hb) hdj (by rw [List.getElem?_take, if_pos hji] at h2; exact h2)
        · omega
      · refine (hJ s).2 (fun j hj hlj hdj => ?_) y h2
        by_cases hji : j = i
        · subst hji
          rw [hDF j hil, hiu] at hlj
          cases hlj
        · rcases hC2 i o hip ho' s hsl j hj hji hdj with ⟨hlt, _⟩ | ⟨hlt, hb⟩
          · cases hoj : l[j]? with
            | none => simp [dstAt, hoj] at hdj
            | some o' => exact h1 j o' (by rw [List.getElem?_take, if_pos hlt, List.getElem?_take, if_pos hj]; exact hoj) (by simpa [dstAt, hoj] using hdj)
          · have hjl : j < l.length := by omega
            have hmj : (masks l [])[j]? = some ((masks l []).getD j 0) := by
              cases hm : (masks l [])[j]? with
              | none => rw [List.getD_eq_getElem?_getD, hm] at hb; simp at hb
              | some m => rw [List.getD_eq_getElem?_getD, hm]; rfl
            have := hgm j _ hmj hlj i hb
            rw [hDF i hil, hiu] at this
            cases this
    -- the step
    have next : ∀ (lim' : Nat → Nat) (w' : World) (v : Value), Good g w cu x lim' w' v →
        FWP P f (RPost S Q) (.inRegion l.toArray (Region.linearise.go .any l.toArray fuel (t / (Region.ready .any l.toArray listed).length) (listed.setIfInBounds i true) []) :: k) (Act.put ⟨tmps, []⟩ o.dst v).tmps w' := by
      rintro lim' w' v ⟨hxr, hb, hl⟩
      obtain ⟨hinv', hst⟩ := hinv.grow (g' := { g with lim := lim' }) hb hl rfl rfl
      refine ih fuel _ _ _ w' _ cu (by rw [hcu, getD_set_ne false (by omega)]) (by simpa using hs) hcl' hsu' hcnt' (by omega) hinv' (hh.step hst) (by rw [size_put]; exact hN) (fun s => ⟨fun j y hj hlj hdj hy => ?_, fun hno y hy => ?_⟩)
      · by_cases hji : j = i
        · subst hji
          have hods : o.dst = some s := by simpa [dstAt, ho'] using hdj
          rw [hx] at hy
          cases hy
          rw [hods]
          have hsz : s < tmps.size := by
            rw [hods] at hd
            have hd' : s + 1 ≤ N := Nat.le_of_ble_eq_true hd
            rw [hN]
            exact hd'
          exact ⟨v, by simp [Act.put, hsz], hxr⟩
        · rw [getD_set_ne false (Ne.symm hji)] at hlj
          obtain ⟨u, h1, h2⟩ := (hJ s).1 j y hj hlj hdj hy
          have hne' : o.dst ≠ some s := fun e => hC1 j i s hj hip hji hdj (by simp [dstAt, ho', e])
          refine ⟨u, ?_, h2.mono hst.sevo⟩
          cases hod : o.dst with
          | none => exact h1
          | some d =>
            have : d ≠ s := fun e => hne' (by rw [hod, e])
            simp [Act.put, Array.getElem?_setIfInBounds, this, h1]
      · have hne' : o.dst ≠ some s := fun e => hno i hip (by simp [Array.getD_eq_getD_getElem?, hs, hil]) (by simp [dstAt, ho', e])
        obtain ⟨u, h1, h2⟩ := (hJ s).2 (fun j hj hlj => hno j hj (by
          by_cases hji : j = i
          · subst hji; simp [Array.getD_eq_getD_getElem?, hs, hil]
          · rw [getD_set_ne false (Ne.symm hji)]; exact hlj)) y hy
        refine ⟨u, ?_, h2.mono hst.sevo⟩
        cases hod : o.dst with
        | none => exact h1
        | some d =>
          have : d ≠ s := fun e => hne' (by rw [hod, e])
          simp [Act.put, Array.getElem?_setIfInBounds, this, h1]
    show FWP P f (RPost S Q) (.inRegion l.toArray (i :: _) :: k) tmps w
    rcases hop with ⟨hg, hop⟩ | ⟨j, want, tt, c, b, y, env', hg, hj, hlk, hgc, rfl, hE, hop⟩
    · have hw : Region.wanted o (yielded l.toArray tmps) = true := by simp [Region.wanted, hg]
      rcases hop g S.base w tmps hinv he with ⟨v, lim', w', hr, hgood⟩ | ⟨f', args, hr, hc⟩
      · exact FWP.value hoA hw hr (next lim' w' v hgood)
      · exact FWP.call hoA hw hr (hc.mono fun e w' ⟨v, lim', h1, h2⟩ => ⟨v, h1, next lim' w' v h2⟩)
    · obtain ⟨u, hu, hur⟩ := he tt c hlk
      have hw : Region.wanted o (yielded l.toArray tmps) = b := by
        rw [← gcond_rep hgc hur]
        have hj' : ((l.toArray)[j]?).bind (·.dst) = some tt := by simpa using hj
        simp only [Region.wanted, hg, yielded, hj', Option.bind_some, hu]
        cases u <;> rfl
      cases b with
      | false => exact FWP.unwanted hoA hw (next g.lim w undef ⟨.gd _ _ _ (fun _ => rfl) (fun h => by cases h), .refl _ _, fun _ _ => rfl⟩)
      | true =>
        have wrap : ∀ lim' w' v, Good g w cu y lim' w' v → Good g w cu (.gd true y) lim' w' v := fun lim' w' v ⟨a, b, c⟩ => ⟨.gd _ _ _ (fun h => by cases h) (fun _ => a), b, c⟩
        rcases hop rfl g S.base w tmps hinv (he.gd hE rfl) with ⟨v, lim', w', hr, hgood⟩ | ⟨f', args, hr, hc⟩
        · exact FWP.value hoA hw hr (next lim' w' v (wrap _ _ _ hgood))
        · exact FWP.call hoA hw hr (hc.mono fun e w' ⟨v, lim', h1, h2⟩ => ⟨v, h1, next lim' w' v (wrap _ _ _ h2)⟩)


variable {l : List Oper} {p : Nat} {os : List Oper} {xs : List EV} {env : Env} {st st' : St}
theorem Chain.g' {d : Option Tmp} {op : Op} {ty : TypeId} {pos : String} {after : Array Edge} {x : EV} (h : OpG P (renv l ⟨d, op, ty, pos, after, none⟩ env) st ⟨d, op, ty, pos, after, none⟩ x) (hd : dstOk N d = true)
    (hk : Chain P N l st os xs (env.put d x)) : Chain P N l st (⟨d, op, ty, pos, after, none⟩ :: os) (x :: xs) env := ⟨hd, .inl ⟨rfl, h⟩, hk⟩
theorem Chain.q' {d : Option Tmp} {op : Op} {ty : TypeId} {pos : String} {after : Array Edge} {x : EV} (h : OpQ P (renv l ⟨d, op, ty, pos, after, none⟩ env) st ⟨d, op, ty, pos, after, none⟩ x) (hd : dstOk N d = true)
    (hk : Chain P N l st os xs (env.put d x)) : Chain P N l st (⟨d, op, ty, pos, after, none⟩ :: os) (x :: xs) env := .g' h.g hd hk
theorem Chain.guardG' {d : Tmp} {op : Op} {ty : TypeId} {pos : String} {after : Array Edge} {j : Nat} {want b : Bool} {t : Tmp} {c x : EV} {env' : Env} (hj : (l[j]?).bind (·.dst) = some t)
    (hl : lookup t (renv l ⟨some d, op, ty, pos, after, some (j, want)⟩ env) = some c) (hc : gcond c want = some b) (hE : GdEnv b (renv l ⟨some d, op, ty, pos, after, some (j, want)⟩ env) env') (hd : dstOk N (some d) = true)
    (h : b = true → OpG P env' st ⟨some d, op, ty, pos, after, some (j, want)⟩ x) (hk : Chain P N l st os xs ((d, .gd b x) :: env)) : Chain P N l st (⟨some d, op, ty, pos, after, some (j, want)⟩ :: os) (.gd b x :: xs) env :=
  ⟨hd, .inr ⟨j, want, t, c, b, x, env', rfl, hj, hl, hc, rfl, hE, h⟩, hk⟩
theorem Chain.nil' : Chain P N l st [] [] env := trivial
def drawU (l : List Oper) (p : Nat) : Bool :=
  let ms := masks l []
  allBelow p (fun i => match l[i]? with
    | some o => (slots l o).all fun t => allBelow p fun j => i == j || dstAt l j != some t || (decide (j < i) && (ms.getD i 0).testBit j) || (decide (i < j) && (ms.getD j 0).testBit i)
    | none => true) &&
  allBelow p (fun i => allBelow p fun j => i == j || (dstAt l i).isNone || dstAt l i != dstAt l j) &&
  allBelow l.length (fun i => decide (i < p + 1) || allBelow i fun j => (ms.getD i 0).testBit j) &&
  allBelow l.length (fun i => match l[i]? with
    | some o => o.after.toList.all fun e => !Region.binds .any e || decide (e.on < i)
    | none => true) &&
  (match l[p]? with
    | some o => (slots l o).all fun t => allBelow p fun j => dstAt l j != some t || (ms.getD p 0).testBit j
    | none => true) &&
  decide (p + 1 ≤ l.length)
theorem ARun.drawnU {id : Nat} (p : Nat) {op : Op} {ty : TypeId} {pos : String} {after : Array Edge} (hm : P.follows .mixedOrders = true) (hB : drawU l p = true) (hal : l[p]? = some ⟨none, op, ty, pos, after, none⟩)
    (hch1 : Chain P N l st (l.take p) xs env) (hU : OpU P S.base (renv l ⟨none, op, ty, pos, after, none⟩ (putAll env (l.take p) xs)) st ⟨none, op, ty, pos, after, none⟩ st')
    (hch2 : Chain P N l st' (l.take p) xs env) (hsuf : AOps P f N S Q l (l.drop (p + 1)) k (putAll env (l.take p) xs) st') : ARun P f N S Q (.code (.region id l.toArray true) :: k) env st := by
  simp only [drawU, Bool.and_eq_true] at hB
  obtain ⟨⟨⟨⟨⟨hB1, hB2⟩, hB3⟩, hB4⟩, hB6⟩, hB5⟩ := hB
  have hp : p + 1 ≤ l.length := by simpa using hB5
  intro g w tmps hinv hh he hn
  refine FWP.regionDraw fun t => ?_
  have hsch : Region.schedule (P.follows .mixedOrders) l.toArray t = Region.linearise .any l.toArray t := by simp [Region.schedule, hm]
  rw [hsch]
  have hb : Below w.heap.size w { w with drawn := w.drawn + 1 } := (Below.refl _ w).drew
  obtain ⟨hinv', hst⟩ := hinv.grow (g' := g) hb (fun _ _ => rfl) rfl rfl
  unfold Region.linearise
  have hslot : ∀ (i : Nat) o, i < p → l[i]? = some o → ∀ t ∈ slots l o, ∀ j, j < p → j ≠ i → dstAt l j = some t → (j < i ∧ ((masks l []).getD i 0).testBit j = true) ∨ (i < j ∧ ((masks l []).getD j 0).testBit i = true) := by
    intro i o hi ho t ht j hj hji hdj
    have h1 := allBelow_get hB1 hi
    rw [ho] at h1
    simp only [List.all_eq_true] at h1
    have h2 := allBelow_get (h1 t ht) hj
    simp only [hdj, bne_self_eq_false, Bool.or_false, Bool.or_eq_true, Bool.and_eq_true, decide_eq_true_eq, beq_iff_eq] at h2
    rcases h2 with (h2 | h2) | h2
    · exact absurd h2.symm hji
    · exact .inl h2
    · exact .inr h2
  refine drawn_mainU (p := p) (xs := xs) (st := st) hp hal hU ?_ hslot ?_ ?_ ?_ hch1 hch2 hsuf (p + 1) _ t _ g _ tmps st (by
      rw [if_neg]
      simp [Array.getD_eq_getD_getElem?, Array.getElem?_replicate]
      split <;> simp_all) (by simp) ?_ ?_ ?_ ?_ hinv' (hh.step hst) hn (fun s => ⟨fun j x hj hlj => ?_, fun _ y hy => ?_⟩)
  · intro i j t hi hj hij hdi hdj
    have h1 := allBelow_get hB2 hi
    have := allBelow_get h1 hj
    simp [hij, hdi, hdj] at this
  · intro t ht j hj hdj
    rw [hal] at hB6
    simp only [List.all_eq_true] at hB6
    have := allBelow_get (hB6 t ht) hj
    simpa [hdj] using this
  · intro i hi hil j hj
    have h1 := allBelow_get hB3 hil
    simp only [Bool.or_eq_true, decide_eq_true_eq] at h1
    rcases h1 with h1 | h1
    · omega
    · exact allBelow_get h1 hj
  · intro i o ho e he' hb'
    have hil := (List.getElem?_eq_some_iff.1 ho).1
    have h1 := allBelow_get hB4 hil
    rw [ho] at h1
    simp only [List.all_eq_true] at h1
    have := h1 e (by simpa using he')
    simpa [hb'] using this
  · intro i o ho hli
    simp [Array.getD_eq_getD_getElem?, Array.getElem?_replicate] at hli
    split at hli <;> simp_all
  · intro i hi hil
    simp [Array.getD_eq_getD_getElem?, Array.getElem?_replicate, hil]
  · have : ((List.range (p + 1)).filter fun i => !(Array.replicate l.toArray.size false).getD i true) = List.range (p + 1) := by
      rw [List.filter_eq_self]
      intro i hi
      have hi' := List.mem_range.1 hi
      have : i < l.length := by omega
      simp [Array.getD_eq_getD_getElem?, Array.getElem?_replicate, this]
    rw [this]; simp
  · simp; omega
  · simp [Array.getD_eq_getD_getElem?, Array.getElem?_replicate] at hlj
    split at hlj <;> simp_all
  · exact (he.mono hst.sevo) s y hy
theorem OpU.stc {base : Nat} {o : Oper} {s1 : St} (h : OpU P base env st o s1) (e : s1 = st') : OpU P base env st o st' := e ▸ h
end drawn
end Go.Abs
