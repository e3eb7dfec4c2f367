/- A text of the proof of the seat's laws: a step logic over the machine, or pure functions that the Go functions come to. No condition. -/
import Derived.Test.YtmmpieknnnlnhaaT2b
namespace Go.Cat.G3
open Go Go.Cat Go.Proofs
set_option linter.unusedVariables false
set_option linter.unusedSimpArgs false
theorem bind_t {α β : Type} (a : α) (f : α → Option β) : (some a).bind f = f a := by cases h : f a <;> simp [h]
theorem app_t {α : Type} {l l' : List α} (h : l.length + l'.length < 1000000) : app l l' = some (l ++ l') := by unfold app; rw [if_pos (by unfold LIM; omega)]
/-! ### Whoever hangs on one: the program's way -/
def kidsFrom (ps : List End) (x : Int) (t : Nat) : List Int := ((List.range' t (min ps.length 7 - t)).filter fun (u : Nat) => (ps[u]?.map (fun (e : End) => e.Switch)) == some x).map fun (u : Nat) => (u : Int)
inductive Cm (ch : Int → List Int) (s : Int) : Int → Prop where
  | here : Cm ch s s
  | step {a b : Int} : Cm ch s a → b ∈ ch a → Cm ch s b
structure GLoop (ch : Int → List Int) (s0 : Int) (l : List Int) (i : Nat) : Prop where
  nd : l.Nodup
  here : s0 ∈ l
  come : ∀ x ∈ l, Cm ch s0 x
  all : ∀ j x y, j < i → l[j]? = some x → y ∈ ch x → y ∈ l
  le : i ≤ l.length
theorem GLoop.next {ch : Int → List Int} {s0 s : Int} {l : List Int} {i : Nat} (h : GLoop ch s0 l i) (hs : l[i]? = some s) : GLoop ch s0 (addAll l (ch s)) (i + 1) := by
  have hlt : i < l.length := (List.getElem?_eq_some_iff.1 hs).1
  obtain ⟨t, ht⟩ := addAll_pre l (ch s)
  have hget : ∀ j, j < l.length → (addAll l (ch s))[j]? = l[j]? := fun j hj => by rw [← ht, List.getElem?_append_left hj]
  refine ⟨addAll_nodup _ _ h.nd, (addAll_mem ..).2 (.inl h.here), fun x hx' => ?_, fun j x y hj hjx hh => ?_, ?_⟩
  · rcases (addAll_mem ..).1 hx' with hx' | hx'
    · exact h.come x hx'
    · exact .step (h.come s (List.mem_of_getElem? hs)) hx'
  · rw [hget j (by omega)] at hjx
    by_cases hji : j < i
    · exact (addAll_mem ..).2 (.inl (h.all j x y hji hjx hh))
    · have : j = i := by omega
      subst this
      rw [hs] at hjx; cases hjx
      exact (addAll_mem ..).2 (.inr hh)
  · have := (addAll_pre l (ch s)).length_le; omega
theorem GLoop.done {ch : Int → List Int} {s0 : Int} {l : List Int} (h : GLoop ch s0 l l.length) (x : Int) : x ∈ l ↔ Cm ch s0 x := by
  refine ⟨h.come x, fun hc => ?_⟩
  induction hc with
  | here => exact h.here
  | step _ hh ih =>
    obtain ⟨j, hj, rfl⟩ := List.mem_iff_getElem.1 ih
    exact h.all j _ _ hj (List.getElem?_eq_getElem hj) hh
theorem kids_mem {ps : List End} {x : Int} {y : Int} : y ∈ kidsFrom ps x 1 ↔ ∃ u : Nat, 1 ≤ u ∧ u < 7 ∧ y = u ∧ ∃ h : u < ps.length, ps[u].Switch = x := by
  unfold kidsFrom
  simp only [List.mem_map, List.mem_filter, List.mem_range'_1, beq_iff_eq]
  constructor
  · rintro ⟨u, ⟨⟨h1, h2⟩, h3⟩, rfl⟩
    have hu : u < ps.length := by omega
    rw [List.getElem?_eq_getElem hu] at h3
    simp at h3
    exact ⟨u, h1, by omega, rfl, hu, h3⟩
  · rintro ⟨u, h1, h2, rfl, hu, h3⟩
    exact ⟨u, ⟨⟨h1, by omega⟩, by rw [List.getElem?_eq_getElem hu]; simp [h3]⟩, rfl⟩
theorem below_l1 (ps : List End) (hps : ps.length ≤ 12) (s22 : List Int × Int) (i : Nat) (x : Int) (hi : s22.2 = (i : Int)) : ∀ (q t : Nat) (l : List Int), t ≤ min ps.length 7 → min ps.length 7 - t < q → l[i]? = some x → l.length + (min ps.length 7 - t) ≤ 100 →
    tree_Below_l1 1000 ps s22 q (l, (t : Int)) = some (addAll l (kidsFrom ps x t)) := by
  have him : imin (ps.length : Int) 7 = ((min ps.length 7 : Nat) : Int) := by unfold imin; split <;> omega
  intro q
  induction q with
  | zero => intro t l _ h; omega
  | succ q ih =>
    intro t l ht hq hl hlen
    rw [tree_Below_l1, him]
    by_cases hlt : t < min ps.length 7
    · have htp : t < ps.length := by omega
      have hr : List.range' t (min ps.length 7 - t) = t :: List.range' (t + 1) (min ps.length 7 - (t + 1)) := by
        rw [show min ps.length 7 - t = (min ps.length 7 - (t + 1)) + 1 by omega, List.range'_succ]
      have hil : i < l.length := (List.getElem?_eq_some_iff.1 hl).1
      have hix : l[i] = x := (List.getElem?_eq_some_iff.1 hl).2
      have hk : kidsFrom ps x t = (if ps[t].Switch = x then [(t : Int)] else []) ++ kidsFrom ps x (t + 1) := by
        unfold kidsFrom
        rw [hr, List.filter_cons, List.getElem?_eq_getElem htp]
        by_cases he : ps[t].Switch = x <;> simp [he]
      rw [if_pos (by simp; omega), rd_at htp, hi, rd_at hil, hix]
      simp only [bind_t]
      rw [w64_nat (by omega), hk]
      by_cases he : ps[t].Switch = x
      · rw [if_pos (by simpa using he), if_pos he, contains_eq _ _ _ (by omega) (by omega)]
        simp only [bind_t]
        by_cases hm : (t : Int) ∈ l
        · have hA : addAll l ([(t : Int)] ++ kidsFrom ps x (t + 1)) = addAll l (kidsFrom ps x (t + 1)) := by simp [addAll, addS, hm]
          simp only [hm, decide_true, Bool.not_true, Bool.false_eq_true, if_false]
          rw [hA]
          exact ih (t + 1) l (by omega) (by omega) hl (by omega)
        · have hA : addAll l ([(t : Int)] ++ kidsFrom ps x (t + 1)) = addAll (l ++ [(t : Int)]) (kidsFrom ps x (t + 1)) := by simp [addAll, addS, hm]
          simp only [hm, decide_false, Bool.not_false, if_true]
          rw [hA, app_t (by simp; omega)]
          simp only [bind_t]
          exact ih (t + 1) (l ++ [(t : Int)]) (by omega) (by omega) (by rw [List.getElem?_append_left hil]; exact hl) (by simp; omega)
      · rw [if_neg (by simpa using he), if_neg he]
        simp only [bind_t, Bool.false_eq_true, if_false, List.nil_append]
        exact ih (t + 1) l (by omega) (by omega) hl (by omega)
    · rw [if_neg (by simp; omega)]
      have : kidsFrom ps x t = [] := by unfold kidsFrom; rw [show min ps.length 7 - t = 0 by omega]; rfl
      rw [this]; rfl
theorem below_few {ps : List End} {s : Int} (hs : 1 ≤ s ∧ s ≤ 6) {l : List Int} {i : Nat} (h : GLoop (fun x => kidsFrom ps x 1) s l i) : l.length ≤ 6 := by
  have := nodup_sub_lenG (l := l) (m := ([1, 2, 3, 4, 5, 6] : List Int)) h.nd (fun x hx => by
    have hx' : 1 ≤ x ∧ x ≤ 6 := by
      cases h.come x hx with
      | here => exact hs
      | step _ hh => obtain ⟨u, h1, h2, rfl, _⟩ := kids_mem.1 hh; omega
    have : x = 1 ∨ x = 2 ∨ x = 3 ∨ x = 4 ∨ x = 5 ∨ x = 6 := by omega
    rcases this with h | h | h | h | h | h <;> rw [h] <;> simp)
  simpa using this
theorem below_l0 (ps : List End) (hps : ps.length ≤ 12) (s : Int) (hs : 1 ≤ s ∧ s ≤ 6) : ∀ (q i : Nat) (l : List Int), 6 - i < q → i ≤ 6 → GLoop (fun x => kidsFrom ps x 1) s l i →
    ∃ l', tree_Below_l0 1000 ps q (l, (i : Int)) = some l' ∧ GLoop (fun x => kidsFrom ps x 1) s l' l'.length := by
  intro q
  induction q with
  | zero => intro i l h; omega
  | succ q ih =>
    intro i l hq hi6 hL
    have hlen := below_few hs hL
    have hle := hL.le
    rw [tree_Below_l0]
    by_cases hlt : i < l.length
    · rw [if_pos (by simp; omega)]
      by_cases h1 : 1 ≤ min ps.length 7
      · have := below_l1 ps hps (l, (i : Int)) i l[i] rfl 1000 1 l h1 (by omega) (List.getElem?_eq_getElem hlt) (by omega)
        have h' : tree_Below_l1 1000 ps (l, (i : Int)) 1000 (l, 1) = _ := this
        rw [h']
        simp only [bind_t]
        rw [w64_nat (by omega)]
        exact ih (i + 1) _ (by omega) (by omega) (hL.next (List.getElem?_eq_getElem hlt))
      · have hp0 : ps.length = 0 := by omega
        have hps0 : ps = [] := List.eq_nil_of_length_eq_zero hp0
        subst hps0
        have : tree_Below_l1 1000 [] (l, (i : Int)) 1000 (l, 1) = some l := by rw [tree_Below_l1, if_neg (by simp [imin])]
        rw [this]
        simp only [bind_t]
        rw [w64_nat (by omega)]
        have hn := hL.next (List.getElem?_eq_getElem hlt)
        have hk : kidsFrom [] l[i] 1 = [] := by unfold kidsFrom; rfl
        simp only [hk] at hn
        exact ih (i + 1) _ (by omega) (by omega) hn
    · rw [if_neg (by simp; omega)]
      have : i = l.length := by omega
      exact ⟨l, rfl, this ▸ hL⟩
theorem tree_below (ps : List End) (hps : ps.length ≤ 12) (s : Int) : ∃ r, tree_Below 1000 ps s = some r ∧ r.Pairwise (· < ·) ∧ r.length ≤ 6 ∧ (∀ x, x ∈ r ↔ (1 ≤ s ∧ s ≤ 6) ∧ Cm (fun x => kidsFrom ps x 1) s x) := by
  unfold tree_Below
  by_cases hs : 1 ≤ s ∧ s ≤ 6
  · rw [if_neg (by simp; omega)]
    obtain ⟨l, h1, h2⟩ := below_l0 ps hps s hs 1000 0 [s] (by omega) (by omega) ⟨by simp, by simp, fun x hx => by simp at hx; subst hx; exact .here, fun j _ _ h => by omega, by simp⟩
    have h1' : tree_Below_l0 1000 ps 1000 ([s], 0) = _ := h1
    have hf := below_few hs h2
    rw [h1']
    simp only [bind_t]
    unfold slices_Sort
    rw [if_pos (by omega)]
    simp only [bind_t]
    exact ⟨_, rfl, strict_of (isort_sorted l) ((isort_perm l).nodup_iff.2 h2.nd), by rw [(isort_perm l).length_eq]; exact hf, fun x => by rw [(isort_perm l).mem_iff, h2.done x]; simp [hs]⟩
  · rw [if_pos (by simp; omega)]
    exact ⟨[], rfl, .nil, by simp, fun x => by simp; intro h1 h2; omega⟩
end Go.Cat.G3
