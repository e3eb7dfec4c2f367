/- A text of the proof of the seat's laws: a step logic over the machine, or pure functions that the Go functions come to. No condition. -/
import Derived.Test.YtmmpieknnnlnhaaPF2a
namespace Go.Cat.G3
open Go Go.Cat Go.Proofs
set_option linter.unusedVariables false
set_option linter.unusedSimpArgs false
/-! ### How deep a switch lies -/
inductive Walk (m : Sides) : Nat → Int → Prop
  | root : Walk m 0 1
  | step {n : Nat} {e : End} {v : Graph_side} : Walk m n e.Switch → (e, v) ∈ m → Walk m (n + 1) v.other.Switch
structure BInv (ls : List Link) (m : Founds) (i : Nat) (d : Nat → Nat) : Prop where
  zero : d 0 = 0
  par : ∀ j x, 1 ≤ j → m[j]? = some x → ∃ j', j' < j ∧ ∃ y, m[j']? = some y ∧ y.1 = x.2.Switch ∧ d j = d j' + 1 ∧ ∃ o n, findE 0 ls x.2 = some (o, n) ∧ o.Switch = x.1
  mono : ∀ j j', j ≤ j' → j' < m.length → d j ≤ d j'
  top : i < m.length → ∀ j, j < m.length → d j ≤ d i + 1
  seen : ∀ j y, j < i → m[j]? = some y → ∀ x ∈ nbs ls y.1 [1, 2, 3, 4], ∃ j' z, m[j']? = some z ∧ z.1 = x.2.Switch ∧ d j' ≤ d j + 1
theorem get_pre {α : Type} {a b : List α} (h : a <+: b) {j : Nat} {x : α} (hx : a[j]? = some x) : b[j]? = some x := by
  obtain ⟨t, rfl⟩ := h
  rw [List.getElem?_append_left (List.getElem?_eq_some_iff.1 hx).1]; exact hx
theorem BInv.add {ls : List Link} {m : Founds} {i : Nat} {d : Nat → Nat} (h : BInv ls m i d) {s p : Int} {e : End} {o : End} {n : Int} (hi : m[i]? = some (s, e)) (hf : findE 0 ls ⟨s, p⟩ = some (o, n)) :
    BInv ls (m ++ [(o.Switch, ⟨s, p⟩)]) i (fun j => if j = m.length then d i + 1 else d j) := by
  have hlt : i < m.length := (List.getElem?_eq_some_iff.1 hi).1
  have hd : ∀ j, j < m.length → (if j = m.length then d i + 1 else d j) = d j := fun j hj => if_neg (by omega)
  refine ⟨?_, ?_, ?_, ?_, ?_⟩
  · rw [hd 0 (by omega)]; exact h.zero
  · intro j x hj hx
    by_cases hjl : j < m.length
    · rw [List.getElem?_append_left hjl] at hx
      obtain ⟨j', h1, y, h2, h3, h4, h5⟩ := h.par j x hj hx
      refine ⟨j', h1, y, by rw [List.getElem?_append_left (by omega)]; exact h2, h3, ?_, h5⟩
      rw [hd j hjl, hd j' (by omega)]; exact h4
    · have hjl2 := (List.getElem?_eq_some_iff.1 hx).1
      simp at hjl2
      have : j = m.length := by omega
      subst this
      rw [List.getElem?_append_right (by omega)] at hx
      simp at hx; subst hx
      refine ⟨i, hlt, (s, e), by rw [List.getElem?_append_left hlt]; exact hi, rfl, ?_, o, n, hf, rfl⟩
      rw [hd i hlt]; simp
  · intro j j' hjj hj'
    simp at hj'
    by_cases h1 : j' = m.length
    · rw [if_pos h1]
      by_cases h2 : j = m.length
      · rw [if_pos h2]; exact Nat.le_refl _
      · rw [if_neg h2]; exact h.top hlt j (by omega)
    · rw [if_neg h1, hd j (by omega)]; exact h.mono j j' hjj (by omega)
  · intro _ j hj
    simp at hj
    rw [hd i hlt]
    by_cases h2 : j = m.length
    · rw [if_pos h2]; exact Nat.le_refl _
    · rw [if_neg h2]; exact h.top hlt j (by omega)
  · intro j y hj hy x hx
    rw [List.getElem?_append_left (by omega)] at hy
    obtain ⟨j', z, h1, h2, h3⟩ := h.seen j y hj hy x hx
    have hj' := (List.getElem?_eq_some_iff.1 h1).1
    refine ⟨j', z, by rw [List.getElem?_append_left hj']; exact h1, h2, ?_⟩
    rw [hd j' hj', hd j (by omega)]; exact h3
theorem fold_binv {ls : List Link} (hE : Ends ls) {s : Int} {i : Nat} {e : End} : ∀ (xs : List (Int × End)) (m : Founds) (d : Nat → Nat), (∀ x ∈ xs, ∃ i, findE 0 ls ⟨s, x.1⟩ = some (x.2, i)) → TInv m → BInv ls m i d → m[i]? = some (s, e) →
    ∃ d', BInv ls (xs.foldl (tstep s) m) i d' ∧ (∀ j, j < m.length → d' j = d j) ∧ ∀ x ∈ xs, ∃ j' z, (xs.foldl (tstep s) m)[j']? = some z ∧ z.1 = x.2.Switch ∧ d' j' ≤ d' i + 1 := by
  intro xs
  induction xs with
  | nil => intro m d _ _ h _; exact ⟨d, h, fun _ _ => rfl, fun x hx => by cases hx⟩
  | cons x xs ih =>
    intro m d hx hT h hi
    rw [List.foldl_cons]
    obtain ⟨n, hn⟩ := hx x (by simp)
    have hlt : i < m.length := (List.getElem?_eq_some_iff.1 hi).1
    have h1 := hE _ _ hn
    simp only at h1
    unfold tstep
    by_cases hh : mhas m x.2.Switch = true
    · rw [if_pos hh]
      obtain ⟨d', g1, g2, g3⟩ := ih m d (fun y hy => hx y (by simp [hy])) hT h hi
      refine ⟨d', g1, g2, fun y hy => ?_⟩
      rcases List.mem_cons.1 hy with rfl | hy
      · have hk := founds_has.1 hh
        obtain ⟨z, hz, hz2⟩ := List.mem_map.1 hk
        obtain ⟨j, hj⟩ := List.getElem?_of_mem hz
        have hjl := (List.getElem?_eq_some_iff.1 hj).1
        have hpre := (fold_tinv hE xs m (fun y hy => hx y (by simp [hy])) hT hi).2.2
        exact ⟨j, z, get_pre hpre hj, hz2, by rw [g2 j hjl, g2 i hlt]; exact h.top hlt j hjl⟩
      · exact g3 y hy
    · rw [if_neg hh]
      have hT2 := hT.add hi h1.2.2 ⟨h1.1, h1.2.1⟩ (by simpa using hh)
      have hi2 : (m ++ [(x.2.Switch, (⟨s, x.1⟩ : End))])[i]? = some (s, e) := by rw [List.getElem?_append_left hlt]; exact hi
      obtain ⟨d', g1, g2, g3⟩ := ih (m ++ [(x.2.Switch, ⟨s, x.1⟩)]) _ (fun y hy => hx y (by simp [hy])) hT2 (h.add hi hn) hi2
      have hpre := (fold_tinv hE xs _ (fun y hy => hx y (by simp [hy])) hT2 hi2).2.2
      have hd' : ∀ j, j < m.length → d' j = d j := fun j hj => by rw [g2 j (by simp; omega), if_neg (by omega)]
      refine ⟨d', g1, hd', fun y hy => ?_⟩
      rcases List.mem_cons.1 hy with rfl | hy
      · refine ⟨m.length, (y.2.Switch, ⟨s, y.1⟩), get_pre hpre (by simp), rfl, ?_⟩
        rw [g2 m.length (by simp), if_pos rfl, hd' i hlt]; exact Nat.le_refl _
      · exact g3 y hy
theorem tb_binv {ls : List Link} (hE : Ends ls) : ∀ (f i : Nat) (m : Founds) (d : Nat → Nat), i ≤ 6 → 6 - i < f → i ≤ m.length → TInv m → BInv ls m i d → ∃ d', BInv ls (tb ls f i m) (tb ls f i m).length d' := by
  intro f
  induction f with
  | zero => intro i _ _ _ h; omega
  | succ f ih =>
    intro i m d hi6 hf hil hT h
    have hfew := hT.few
    rw [tb]
    by_cases hlt : i < m.length
    · have hmi : m[i]? = some (m[i].1, m[i].2) := List.getElem?_eq_getElem hlt
      obtain ⟨hT2, hi2, hpre⟩ := fold_tinv hE (nbs ls m[i].1 [1, 2, 3, 4]) m (fun y hy => nbs_mem hy) hT hmi
      obtain ⟨d', g1, g2, g3⟩ := fold_binv hE (nbs ls m[i].1 [1, 2, 3, 4]) m d (fun y hy => nbs_mem hy) hT h hmi
      have hlen := hpre.length_le
      rw [hmi]
      simp only
      refine ih (i + 1) _ d' (by omega) (by omega) (by have : m.length ≤ (tscan ls m[i].1 m [1, 2, 3, 4]).length := hlen; omega) hT2 ?_
      refine ⟨g1.zero, g1.par, g1.mono, ?_, ?_⟩
      · intro h1 j hj
        have := g1.top (by omega) j hj
        have := g1.mono i (i + 1) (by omega) h1
        omega
      · intro j y hj hy x hx
        by_cases hji : j < i
        · exact g1.seen j y hji hy x hx
        · have : j = i := by omega
          subst this
          have hy' : (tscan ls m[j].1 m [1, 2, 3, 4])[j]? = some (m[j].1, m[j].2) := hi2
          rw [hy'] at hy
          cases hy
          exact g3 x hx
    · have hn : m[i]? = none := List.getElem?_eq_none (by omega)
      rw [hn]
      have : i = m.length := by omega
      subst this
      exact ⟨d, h⟩
theorem binv_start (ls : List Link) : BInv ls tstart 0 (fun _ => 0) := by
  refine ⟨rfl, fun j x hj hx => ?_, fun _ _ _ _ => Nat.le_refl _, fun _ _ _ => by omega, fun j _ h => by omega⟩
  have := (List.getElem?_eq_some_iff.1 hx).1
  simp [tstart] at this; omega
theorem found_binv {ls : List Link} (hok : okG (gr ls) = true) : ∃ d, BInv ls (found ls) (found ls).length d :=
  tb_binv (ends_ok hok) 7 0 tstart _ (by omega) (by omega) (by simp) tinv_start (binv_start ls)
theorem walk_len {ls : List Link} {n : Nat} {s : Int} (hok : okG (gr ls) = true) {d : Nat → Nat} {m : Founds} (hT : TInv m) (h : BInv ls m m.length d) (hw : Walk (entries 0 ls) n s) : ∃ j z, m[j]? = some z ∧ z.1 = s ∧ d j ≤ n := by
  have hs : sidesP (gr ls) = some (entries 0 ls) := by rw [sidesP_eq, if_pos hok]
  have hso := (sidesP_ok hs).1
  induction hw with
  | root => exact ⟨0, _, hT.one, rfl, by rw [h.zero]; exact Nat.le_refl _⟩
  | @step n e v hw hv ih =>
    obtain ⟨j, z, h1, h2, h3⟩ := ih
    have hf : (findE 0 ls e).map (fun x => (⟨x.1, x.2⟩ : Graph_side)) = some v := by rw [← mget_entries]; exact (mget_mem hso.nd).2 hv
    have hb := hso.ok _ hv
    simp only at hb
    have hx : (e.Port, v.other) ∈ nbs ls z.1 [1, 2, 3, 4] := by
      unfold nbs
      rw [List.mem_filterMap]
      refine ⟨e.Port, by simp; omega, ?_⟩
      rw [h2]
      have : (⟨e.Switch, e.Port⟩ : End) = e := rfl
      rw [this]
      cases hfe : findE 0 ls e with
      | none => rw [hfe] at hf; cases hf
      | some x => rw [hfe] at hf; cases hf; rfl
    obtain ⟨j', z', g1, g2, g3⟩ := h.seen j z (List.getElem?_eq_some_iff.1 h1).1 h1 _ hx
    exact ⟨j', z', g1, g2, by omega⟩
theorem way_deep {ls : List Link} {d : Nat → Nat} {m : Founds} (hT : TInv m) (h : BInv ls m m.length d) : ∀ (j : Nat) (x : Int × End), m[j]? = some x → ∃ w, Way m x.1 w ∧ w.length = d j := by
  intro j
  induction j using Nat.strongRecOn with
  | ind j ih =>
    intro x hx
    by_cases hj : j = 0
    · subst hj
      rw [hT.one] at hx
      cases hx
      exact ⟨[], .root, by rw [h.zero]; rfl⟩
    · obtain ⟨j', h1, y, h2, h3, h4, _⟩ := h.par j x (by omega) hx
      obtain ⟨w, hw, hl⟩ := ih j' h1 y h2
      have hx1 : x.1 ≠ 1 := by
        intro he
        have h0 := hT.one
        have hl0 := (List.getElem?_eq_some_iff.1 h0)
        have hlj := (List.getElem?_eq_some_iff.1 hx)
        have e1 : (m.map (·.1))[0]'(by simpa using hl0.1) = 1 := by simp [hl0.2]
        have e2 : (m.map (·.1))[j]'(by simpa using hlj.1) = 1 := by simp [hlj.2, he]
        exact List.pairwise_iff_getElem.1 hT.nd 0 j (by simpa using hl0.1) (by simpa using hlj.1) (by omega) (e1.trans e2.symm)
      exact ⟨x.2 :: w, .step (mget_nodup hT.nd (List.mem_of_getElem? hx)) hx1 (h3 ▸ hw), by simp [hl, h4]⟩
theorem way_fun {m : Founds} {s : Int} {w w' : List End} (h : Way m s w) (h' : Way m s w') : w = w' := by
  induction h generalizing w' with
  | root => cases h' with
    | root => rfl
    | step _ h1 _ => exact absurd rfl h1
  | step hm hs _ ih => cases h' with
    | root => exact absurd rfl hs
    | step hm' _ hw' =>
      rw [hm] at hm'; cases hm'
      rw [ih hw']
/-- Every end of a way leads on. -/
theorem way_link {ls : List Link} {d : Nat → Nat} {m : Founds} (hT : TInv m) (h : BInv ls m m.length d) {s : Int} {e : End} (hm : mget? m s = some e) (hs : s ≠ 1) : ∃ o n, findE 0 ls e = some (o, n) ∧ o.Switch = s := by
  obtain ⟨j, hj⟩ := List.getElem?_of_mem (mget_in hm)
  have hj0 : 1 ≤ j := by
    apply Classical.byContradiction
    intro hn
    have : j = 0 := by omega
    subst this
    rw [hT.one] at hj
    cases hj; exact hs rfl
  obtain ⟨_, _, _, _, _, _, o, n, h1, h2⟩ := h.par j _ hj0 hj
  exact ⟨o, n, h1, h2⟩
theorem way_walk {ls : List Link} (hok : okG (gr ls) = true) {d : Nat → Nat} {m : Founds} (hT : TInv m) (h : BInv ls m m.length d) {s : Int} {w : List End} (hw : Way m s w) : Walk (entries 0 ls) w.length s := by
  have hs : sidesP (gr ls) = some (entries 0 ls) := by rw [sidesP_eq, if_pos hok]
  have hso := (sidesP_ok hs).1
  induction hw with
  | root => exact .root
  | @step s e w hm hs hw ih =>
    obtain ⟨o, n, h1, rfl⟩ := way_link hT h hm hs
    exact .step (v := ⟨o, n⟩) ih ((mget_mem hso.nd).1 (by rw [mget_entries, h1]; rfl))
/-- What a first way is. -/
theorem first_is {ls : List Link} (hok : okG (gr ls) = true) (hls : ls.length ≤ 30) (s : Int) :
    (mhas (found ls) s = true ∧ ∃ w, Way (found ls) s w ∧ tree_First 1000 ls s = some (w.reverse, true) ∧ w.length ≤ 5 ∧ Walk (entries 0 ls) w.length s ∧ ∀ n, Walk (entries 0 ls) n s → w.length ≤ n)
    ∨ (mhas (found ls) s = false ∧ tree_First 1000 ls s = some ([], false) ∧ ∀ n, ¬ Walk (entries 0 ls) n s) := by
  have hT := found_inv hok hls
  obtain ⟨d, hB⟩ := found_binv hok
  unfold tree_First
  rw [tree_find_eq ls hls]
  simp only [bind_u]
  rw [if_pos hok]
  generalize found ls = m at hT hB
  simp only [Option.getD_some, Bool.not_true, Bool.false_or]
  cases hh : mhas m s with
  | false =>
    right
    refine ⟨rfl, by simp, fun n hn => ?_⟩
    obtain ⟨j, z, h1, h2, _⟩ := walk_len hok hT hB hn
    have : mhas m s = true := founds_has.2 (List.mem_map.2 ⟨z, List.mem_of_getElem? h1, h2⟩)
    rw [this] at hh; cases hh
  | true =>
    left
    have hh' := hh
    rw [founds_has] at hh'
    obtain ⟨x, hx, hx2⟩ := List.mem_map.1 hh'
    obtain ⟨j, hj⟩ := List.getElem?_of_mem hx
    have hjl := (List.getElem?_eq_some_iff.1 hj).1
    have hfew := hT.few
    obtain ⟨w, hw, hl⟩ := hT.way j x hj
    rw [hx2] at hw
    refine ⟨rfl, w, hw, ?_, by omega, way_walk hok hT hB hw, fun n hn => ?_⟩
    · rw [if_neg (by simp)]
      have hp : tree_found__parent 1000 (some m) s = some (mgetD m s ⟨0, 0⟩, (mhas m s && s != 1)) := by
        unfold tree_found__parent
        simp only [Option.getD_some]
        rw [hh]; simp
      rw [hp]
      simp only [bind_u]
      rw [first_way hT.has1 hw 1000 [] (by omega) (by simp; omega)]
      simp only [bind_u, List.nil_append]
      unfold slices_Reverse_End
      rw [if_pos (by omega)]
      rfl
    · obtain ⟨j', z, h1, h2, h3⟩ := walk_len hok hT hB hn
      obtain ⟨w', hw', hl'⟩ := way_deep hT hB j' z h1
      rw [h2] at hw'
      rw [way_fun hw hw']; omega
end Go.Cat.G3
