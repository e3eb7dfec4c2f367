/- A text of the proof of the seat's laws: a step logic over the machine, or pure functions that the Go functions come to. No condition. -/
import Derived.Test.YtmmpieknnnlnhaaP2
set_option linter.unusedVariables false
set_option linter.unusedSimpArgs false
set_option linter.unnecessarySimpa false
namespace Go.Cat.G3
open Go Go.Cat Go.Proofs
set_option linter.unusedVariables false
theorem sorted_ext : ∀ {l1 l2 : List Int}, l1.Pairwise (· < ·) → l2.Pairwise (· < ·) → (∀ x, x ∈ l1 ↔ x ∈ l2) → l1 = l2 := by
  intro l1
  induction l1 with
  | nil => intro l2 _ _ h; cases l2 with
    | nil => rfl
    | cons a l => exact absurd ((h a).2 (by simp)) (by simp)
  | cons a l1 ih =>
    intro l2 h1 h2 h
    cases l2 with
    | nil => exact absurd ((h a).1 (by simp)) (by simp)
    | cons b l2 =>
      obtain ⟨ha, h1'⟩ := List.pairwise_cons.1 h1
      obtain ⟨hb, h2'⟩ := List.pairwise_cons.1 h2
      have hab : a = b := by
        rcases List.mem_cons.1 ((h a).1 (by simp)) with e | e
        · exact e
        · rcases List.mem_cons.1 ((h b).2 (by simp)) with e' | e'
          · exact e'.symm
          · have := hb a e; have := ha b e'; omega
      subst hab
      congr 1
      refine ih h1' h2' fun x => ⟨fun hx => ?_, fun hx => ?_⟩
      · rcases List.mem_cons.1 ((h x).1 (List.mem_cons.2 (.inr hx))) with e | e
        · have := ha x hx; omega
        · exact e
      · rcases List.mem_cons.1 ((h x).2 (List.mem_cons.2 (.inr hx))) with e | e
        · have := hb x hx; omega
        · exact e
def portsOf (m : Sides) (s : Int) : List Int := ([1, 2, 3, 4] : List Int).filter fun p => mhas m ⟨s, p⟩
theorem portsR_eq {o : Option Sides} {n : Int} (ho : SidesOk n (o.getD [])) {s : Int} {r : List Int} (h : PortsR o s r) : r = portsOf (o.getD []) s := by
  obtain ⟨l, hp, hs, rfl⟩ := h
  have hnd : l.Nodup := hp.nodup_iff.2 ho.nd
  refine sorted_ext ?_ ?_ ?_
  · rw [List.pairwise_map, List.pairwise_filter]
    refine (hs.and hnd).imp ?_
    rintro a b ⟨h1, h2⟩ ha hb
    simp at ha hb
    have : a.Port ≠ b.Port := fun e => h2 (by cases a; cases b; simp_all)
    omega
  · exact List.Pairwise.filter _ (by decide)
  · intro x
    simp only [List.mem_map, List.mem_filter, portsOf, mhas_mem]
    constructor
    · rintro ⟨e, ⟨h1, h2⟩, rfl⟩
      have hm := hp.mem_iff.1 h1
      obtain ⟨p, hp', rfl⟩ := List.mem_map.1 hm
      have := ho.ok p hp'
      simp at h2
      refine ⟨by simp; omega, ?_⟩
      rw [← h2]
      exact ⟨p, hp', rfl⟩
    · rintro ⟨_, h⟩
      exact ⟨⟨s, x⟩, ⟨hp.mem_iff.2 (List.mem_map.2 h), by simp⟩, rfl⟩
def bfs (m : Sides) (up : List Bool) : Nat → List Int → Nat → Option (List Int)
  | 0, _, _ => none
  | f + 1, l, i => match l[i]? with
    | none => some l
    | some s => bfs m up f (addAll l ((m.filter (sideOn up s)).map (·.2.other.Switch))) (i + 1)
theorem bfs_some {m : Sides} {up : List Bool} {s0 : Int} : ∀ (f : Nat) (l : List Int) (i : Nat), RLoop m up s0 l i → m.length + 1 - i < f → ∃ l', bfs m up f l i = some l' ∧ RLoop m up s0 l' l'.length := by
  intro f
  induction f with
  | zero => intro l i _ h; omega
  | succ f ih =>
    intro l i hL hf
    unfold bfs
    have hle := hL.le
    have hlen := hL.len
    cases hs : l[i]? with
    | none =>
      have := List.getElem?_eq_none_iff.1 hs
      have : i = l.length := by omega
      subst this
      exact ⟨l, rfl, hL⟩
    | some s =>
      have hlt := (List.getElem?_eq_some_iff.1 hs).1
      exact ih _ _ (hL.next (o := some m) rfl hs ⟨m, .refl _, rfl⟩) (by omega)
def ins (x : Int) : List Int → List Int
  | [] => [x]
  | y :: l => if x ≤ y then x :: y :: l else y :: ins x l
def isort : List Int → List Int
  | [] => []
  | x :: l => ins x (isort l)
theorem ins_perm (x : Int) (l : List Int) : (ins x l).Perm (x :: l) := by
  induction l with
  | nil => exact .refl _
  | cons y l ih =>
    unfold ins; split
    · exact .refl _
    · exact (ih.cons y).trans (.swap ..)
theorem isort_perm (l : List Int) : (isort l).Perm l := by
  induction l with
  | nil => exact .refl _
  | cons x l ih => exact (ins_perm x _).trans (ih.cons x)
theorem ins_sorted {x : Int} {l : List Int} (h : l.Pairwise (· ≤ ·)) : (ins x l).Pairwise (· ≤ ·) := by
  induction l with
  | nil => simp [ins]
  | cons y l ih =>
    obtain ⟨h1, h2⟩ := List.pairwise_cons.1 h
    unfold ins; split
    · rename_i hxy
      refine List.pairwise_cons.2 ⟨fun z hz => ?_, h⟩
      rcases List.mem_cons.1 hz with rfl | hz
      · exact hxy
      · have := h1 z hz; omega
    · rename_i hxy
      refine List.pairwise_cons.2 ⟨fun z hz => ?_, ih h2⟩
      rcases List.mem_cons.1 ((ins_perm x l).mem_iff.1 hz) with rfl | hz
      · omega
      · exact h1 z hz
theorem isort_sorted (l : List Int) : (isort l).Pairwise (· ≤ ·) := by
  induction l with
  | nil => exact .nil
  | cons x l ih => exact ins_sorted ih
theorem strict_of {l : List Int} (h : l.Pairwise (· ≤ ·)) (hn : l.Nodup) : l.Pairwise (· < ·) := (h.and hn).imp fun ⟨h1, h2⟩ => by omega
theorem merge_eq_isort {l l2 : List Int} (hn : l.Nodup) (hn2 : l2.Nodup) (hm : ∀ x, x ∈ l ↔ x ∈ l2) : l.mergeSort (fun x y => decide (x ≤ y)) = isort l2 := by
  have hp := List.mergeSort_perm l (fun x y => decide (x ≤ y))
  refine sorted_ext (strict_of ?_ (hp.nodup_iff.2 hn)) (strict_of (isort_sorted l2) ((isort_perm l2).nodup_iff.2 hn2)) fun x => ?_
  · have := List.pairwise_mergeSort (le := fun x y : Int => decide (x ≤ y)) (by intro a b c; simp; omega) (by intro a b; simp; omega) l
    exact this.imp (by simp)
  · rw [hp.mem_iff, (isort_perm l2).mem_iff]; exact hm x
def reachOf (m : Sides) (up : List Bool) (s0 : Int) : List Int := isort ((bfs m up (m.length + 2) [s0] 0).getD [])
theorem reachOf_spec (m : Sides) (up : List Bool) (s0 : Int) : ∃ l, RLoop m up s0 l l.length ∧ reachOf m up s0 = isort l := by
  obtain ⟨l, h1, h2⟩ := bfs_some (m := m) (up := up) (s0 := s0) (m.length + 2) [s0] 0 ⟨by simp, by simp, fun x hx => by simp at hx; subst hx; exact .here, by omega, by simp⟩ (by omega)
  exact ⟨l, h2, by unfold reachOf; rw [h1]; rfl⟩
theorem reachR_eq {o : Option Sides} {may : Bool} {n : Int} {up : List Bool} {s0 : Int} {r : List Int} (h : ReachR o may n up s0 r) : r = if (!may || (decide (s0 < 1) || decide (s0 > n))) = true then [] else reachOf (o.getD []) up s0 := by
  unfold ReachR at h
  by_cases hc : may = false ∨ s0 < 1 ∨ s0 > n
  · rw [if_pos hc] at h
    rw [if_pos (by simpa [or_assoc] using hc)]; exact h
  · rw [if_neg hc] at h
    rw [if_neg (by simpa [or_assoc] using hc)]
    obtain ⟨l, hl, rfl⟩ := h
    obtain ⟨l2, hl2, e⟩ := reachOf_spec (o.getD []) up s0
    rw [e]
    exact merge_eq_isort hl.nd hl2.nd fun x => (hl.done x).trans (hl2.done x).symm
end Go.Cat.G3
