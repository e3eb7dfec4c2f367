/- A text of the proof of the seat's laws: a step logic over the machine, or pure functions that the Go functions come to. No condition. -/
import Derived.Test.YtmmpieknnnlnhaaGreatCore1
import Derived.Test.YtmmpieknnnlnhaaGreatCore0
set_option linter.unusedVariables false
set_option linter.unusedSimpArgs false
set_option linter.unnecessarySimpa false
namespace Go.Cat.G3
open Go Go.Cat
set_option linter.unusedVariables false
theorem Zgc {H : Heap} {b : Nat} {cs : List Value} {T : TypeId} (h : H b = some (Zak cs T)) : Zaj H b 0 cs :=
 ⟨cs.toArray, T, (0, 0), h, by simp [subc], by simp⟩
theorem ZdJ {n : Int} (h0 : -9223372036854775808 ≤ n) (h1 : n ≤ 9223372036854775807) : w64 n = n := by
 unfold w64 IntKind.wrap; simp [IntKind.bits, IntKind.signed]; omega
theorem ZiI {α β : Type} [DecidableEq α] {l : List (α × β)} {k : α} : mhas l k = true ↔ k ∈ l.map (·.1) := by
 induction l with
 | nil => simp [mhas, mget?]
 | cons p l ih =>
  unfold mhas at *
  simp only [mget?, List.map_cons, List.mem_cons]
  by_cases h : k = p.1
  ·simp [h]
  ·simp only [h, if_false, false_or]; exact ih
theorem ZbX {α : Type} {l : List α} {i : Nat} (h : i < l.length) : rd l (i : Int) = some l[i] := by
 unfold rd; rw [if_pos (by omega)]; simp [h]
theorem Zb6 {i : Nat} (h : i < 4611686018427387904) : w64 ((i : Int) + 1) = ((i + 1 : Nat) : Int) := by
 rw [ZdJ (by omega) (by omega)]; omega
end Go.Cat.G3

