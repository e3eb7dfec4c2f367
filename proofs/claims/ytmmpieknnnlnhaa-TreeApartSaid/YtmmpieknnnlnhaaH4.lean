/- A text of the proof of the seat's laws: a step logic over the machine, or pure functions that the Go functions come to. No condition. -/
import Derived.Test.YtmmpieknnnlnhaaP1
set_option linter.unusedVariables false
set_option linter.unusedSimpArgs false
set_option linter.unnecessarySimpa false
namespace Go.Cat.G3
open Go Go.Cat Go.Proofs
set_option linter.unusedVariables false
def addS (l : List Int) (s : Int) : List Int := if s ∈ l then l else l ++ [s]
def addAll (l xs : List Int) : List Int := xs.foldl addS l
theorem addAll_snoc (l xs : List Int) (x : Int) : addAll l (xs ++ [x]) = addS (addAll l xs) x := by simp [addAll]
theorem addS_len (l : List Int) (s : Int) : (addS l s).length ≤ l.length + 1 := by unfold addS; split <;> simp
theorem addAll_len (l xs : List Int) : (addAll l xs).length ≤ l.length + xs.length := by
  induction xs generalizing l with
  | nil => simp [addAll]
  | cons x xs ih => have := ih (addS l x); have := addS_len l x; simp only [addAll, List.foldl_cons, List.length_cons] at *; omega
theorem addS_pre (l : List Int) (s : Int) : l <+: addS l s := by unfold addS; split <;> simp
theorem addAll_pre (l xs : List Int) : l <+: addAll l xs := by
  induction xs generalizing l with
  | nil => simp [addAll]
  | cons x xs ih => exact (addS_pre l x).trans (ih (addS l x))
theorem addAll_mem (l xs : List Int) (s : Int) : s ∈ addAll l xs ↔ s ∈ l ∨ s ∈ xs := by
  induction xs generalizing l with
  | nil => simp [addAll]
  | cons x xs ih =>
    have := ih (addS l x)
    simp only [addAll, List.foldl_cons] at *
    rw [this]
    unfold addS
    split
    · rename_i h; simp only [List.mem_cons]; constructor
      · rintro (h1 | h1); exact .inl h1; exact .inr (.inr h1)
      · rintro (h1 | rfl | h1); exact .inl h1; exact .inl h; exact .inr h1
    · simp only [List.mem_append, List.mem_cons, List.not_mem_nil, or_false]; constructor
      · rintro ((h1 | rfl) | h1); exact .inl h1; exact .inr (.inl rfl); exact .inr (.inr h1)
      · rintro (h1 | rfl | h1); exact .inl (.inl h1); exact .inl (.inr rfl); exact .inr h1
theorem addAll_nodup (l xs : List Int) (h : l.Nodup) : (addAll l xs).Nodup := by
  induction xs generalizing l with
  | nil => exact h
  | cons x xs ih =>
    refine ih (addS l x) ?_
    unfold addS; split
    · exact h
    · rename_i hn
      rw [List.nodup_append]
      exact ⟨h, by simp, by rintro a ha b hb rfl; simp at hb; subst hb; exact hn ha⟩
theorem nodup_sub_len : ∀ {l m : List Int}, l.Nodup → (∀ x ∈ l, x ∈ m) → l.length ≤ m.length := by
  intro l
  induction l with
  | nil => intro m _ _; simp
  | cons a l ih =>
    intro m hn hs
    have ha : a ∈ m := hs a (by simp)
    have hn' := List.nodup_cons.1 hn
    have := ih (m := m.erase a) hn'.2 (fun x hx => (List.mem_erase_of_ne (fun e : x = a => hn'.1 (by rw [← e]; exact hx))).2 (hs x (by simp [hx])))
    rw [List.length_erase_of_mem ha] at this
    have : 0 < m.length := List.length_pos_of_mem ha
    simp only [List.length_cons]; omega
/-- From s one comes to s' over a link that is up. -/
abbrev Hop (m : List (End × Graph_side)) (up : List Bool) (s s' : Int) : Prop := ∃ p ∈ m, sideOn up s p = true ∧ s' = p.2.other.Switch
inductive Come (m : List (End × Graph_side)) (up : List Bool) (s : Int) : Int → Prop where
  | here : Come m up s s
  | step {a b : Int} : Come m up s a → Hop m up a b → Come m up s b
theorem besideS_mem {o : Option (List (End × Graph_side))} {up : List Bool} {s : Int} {xs : List Int} (h : besideS o up s xs) (x : Int) : x ∈ xs ↔ Hop (o.getD []) up s x := by
  obtain ⟨l', hp, rfl⟩ := h
  simp only [List.mem_map, List.mem_filter]
  constructor
  · rintro ⟨p, ⟨h1, h2⟩, rfl⟩; exact ⟨p, hp.mem_iff.1 h1, h2, rfl⟩
  · rintro ⟨p, h1, h2, rfl⟩; exact ⟨p, ⟨hp.mem_iff.2 h1, h2⟩, rfl⟩
theorem besideS_len {o : Option (List (End × Graph_side))} {up : List Bool} {s : Int} {xs : List Int} (h : besideS o up s xs) : xs.length ≤ (o.getD []).length := by
  obtain ⟨l', hp, rfl⟩ := h
  rw [List.length_map, ← hp.length_eq]
  exact List.length_filter_le _ _
/-- What Reach's loop holds. -/
structure RLoop (m : List (End × Graph_side)) (up : List Bool) (s0 : Int) (l : List Int) (i : Nat) : Prop where
  nd : l.Nodup
  here : s0 ∈ l
  come : ∀ x ∈ l, Come m up s0 x
  all : ∀ j x y, j < i → l[j]? = some x → Hop m up x y → y ∈ l
  le : i ≤ l.length
theorem RLoop.len {m : List (End × Graph_side)} {up : List Bool} {s0 : Int} {l : List Int} {i : Nat} (h : RLoop m up s0 l i) : l.length ≤ m.length + 1 := by
  have := nodup_sub_len (m := s0 :: m.map (·.2.other.Switch)) h.nd (fun x hx => by
    cases h.come x hx with
    | here => simp
    | step _ hh => obtain ⟨p, hp, _, rfl⟩ := hh; exact List.mem_cons.2 (.inr (List.mem_map.2 ⟨p, hp, rfl⟩)))
  simpa using this
theorem RLoop.next {m : List (End × Graph_side)} {up : List Bool} {s0 : Int} {l : List Int} {i : Nat} {s : Int} {o : Option (List (End × Graph_side))} {xs : List Int} (ho : o.getD [] = m) (h : RLoop m up s0 l i) (hs : l[i]? = some s) (hx : besideS o up s xs) : RLoop m up s0 (addAll l xs) (i + 1) := by
  subst ho
  have hlt : i < l.length := (List.getElem?_eq_some_iff.1 hs).1
  obtain ⟨t, ht⟩ := addAll_pre l xs
  have hget : ∀ j, j < l.length → (addAll l xs)[j]? = l[j]? := fun j hj => by rw [← ht, List.getElem?_append_left hj]
  refine ⟨addAll_nodup _ _ h.nd, (addAll_mem ..).2 (.inl h.here), fun x hx' => ?_, fun j x y hj hjx hh => ?_, ?_⟩
  · rcases (addAll_mem ..).1 hx' with hx' | hx'
    · exact h.come x hx'
    · exact .step (h.come s (List.mem_of_getElem? hs)) ((besideS_mem hx x).1 hx')
  · rw [hget j (by omega)] at hjx
    by_cases hji : j < i
    · exact (addAll_mem ..).2 (.inl (h.all j x y hji hjx hh))
    · have : j = i := by omega
      subst this
      rw [hs] at hjx; cases hjx
      exact (addAll_mem ..).2 (.inr ((besideS_mem hx y).2 hh))
  · have := (addAll_pre l xs).length_le; omega
theorem RLoop.done {m : List (End × Graph_side)} {up : List Bool} {s0 : Int} {l : List Int} (h : RLoop m up s0 l l.length) (x : Int) : x ∈ l ↔ Come m up s0 x := by
  refine ⟨h.come x, fun hc => ?_⟩
  induction hc with
  | here => exact h.here
  | step _ hh ih =>
    obtain ⟨j, hj, rfl⟩ := List.mem_iff_getElem.1 ih
    exact h.all j _ _ hj (List.getElem?_eq_getElem hj) hh
end Go.Cat.G3
