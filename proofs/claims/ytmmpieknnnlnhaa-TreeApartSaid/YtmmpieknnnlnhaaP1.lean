/- A text of the proof of the seat's laws: a step logic over the machine, or pure functions that the Go functions come to. No condition. -/
import Derived.Test.YtmmpieknnnlnhaaH3
import Derived.Test.YtmmpieknnnlnhaaCore1
set_option linter.unusedVariables false
set_option linter.unusedSimpArgs false
set_option linter.unnecessarySimpa false
namespace Go.Cat.G3
open Go Go.Cat Go.Proofs
set_option linter.unusedVariables false
theorem w64_id {n : Int} (h0 : -9223372036854775808 ≤ n) (h1 : n ≤ 9223372036854775807) : w64 n = n := by
  unfold w64 IntKind.wrap; simp [IntKind.bits, IntKind.signed]; omega
theorem index_l0 (k : Nat) (l : List Int) (x : Int) (hb : l.length < 4611686018427387904) : ∀ (q s : Nat), s ≤ l.length → l.length - s < q →
    (x ∈ l.drop s → ∃ i : Nat, slices_Index___int_int__l0 k l x q s = some (.ret i)) ∧ (x ∉ l.drop s → slices_Index___int_int__l0 k l x q s = some (.out ())) := by
  intro q
  induction q with
  | zero => intro s _ h; omega
  | succ q ih =>
    intro s hs hq
    rw [slices_Index___int_int__l0]
    by_cases hlt : s < l.length
    · have h1 : (decide ((s : Int) < (l.length : Int))) = true := by simp; omega
      rw [if_pos h1]
      have hrd : rd l (s : Int) = some l[s] := by unfold rd; rw [if_pos (by omega)]; simp [hlt]
      rw [hrd]
      simp only [Option.bind_some]
      have hw : w64 ((s : Int) + 1) = ((s + 1 : Nat) : Int) := by rw [w64_id (by omega) (by omega)]; omega
      have hdrop : l.drop s = l[s] :: l.drop (s + 1) := List.drop_eq_getElem_cons hlt
      obtain ⟨ih1, ih2⟩ := ih (s + 1) (by omega) (by omega)
      rw [hdrop, hw]
      by_cases he : x = l[s]
      · rw [if_pos (by simp [he])]
        exact ⟨fun _ => ⟨s, rfl⟩, fun h => absurd (List.mem_cons.2 (.inl he)) h⟩
      · rw [if_neg (by simp [he])]
        refine ⟨fun h => ih1 ?_, fun h => ih2 fun h' => h (List.mem_cons.2 (.inr h'))⟩
        rcases List.mem_cons.1 h with h | h
        · exact absurd h he
        · exact h
    · have h1 : ¬ (decide ((s : Int) < (l.length : Int))) = true := by simp; omega
      rw [if_neg h1]
      have : l.drop s = [] := List.drop_eq_nil_of_le (by omega)
      rw [this]
      exact ⟨fun h => by simp at h, fun _ => rfl⟩
theorem contains_eq (k : Nat) (l : List Int) (x : Int) (hb : l.length < 4611686018427387904) (hk : l.length < k) : slices_Contains___int_int_ k l x = some (decide (x ∈ l)) := by
  obtain ⟨h1, h2⟩ := index_l0 k l x hb k 0 (by omega) (by omega)
  unfold slices_Contains___int_int_ slices_Index___int_int_
  simp only [List.drop_zero, Int.ofNat_zero] at h1 h2
  by_cases h : x ∈ l
  · obtain ⟨i, hi⟩ := h1 h
    rw [hi]; simp [LX.go, h]
  · have := h2 h
    rw [this]; simp [LX.go, h]
end Go.Cat.G3
