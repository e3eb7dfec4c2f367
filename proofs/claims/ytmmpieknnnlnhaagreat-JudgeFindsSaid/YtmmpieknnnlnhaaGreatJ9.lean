/- A text of the proof of the seat's laws: a step logic over the machine, or pure functions that the Go functions come to. No condition. -/
import Derived.Test.YtmmpieknnnlnhaaGreatJ8
import Derived.Test.YtmmpieknnnlnhaaGreatZ2
namespace Go.Cat.G3
open Go Go.Cat Go.Proofs
set_option linter.unusedVariables false
set_option linter.unusedSimpArgs false
theorem ZhX (k : Nat) (a b : Int) : ZbN k a b = some (cmpI a b) := by
 unfold ZbN ZcS cmpI
 by_cases h1 : a < b
 ·simp [h1]
 ·by_cases h2 : b < a <;> simp [h1, h2]
theorem Zlz (k : Nat) (a b : Int) : Zcz k a b = some (cmpI a b) := by
 unfold Zcz ZcQ cmpI
 by_cases h1 : a < b
 ·simp [h1]
 ·by_cases h2 : b < a <;> simp [h1, h2]
theorem Zm2 (k : Nat) (a b c x y z : Int) : Za0 (k + 4) [⟨a⟩, ⟨b⟩, ⟨c⟩] [⟨x⟩, ⟨y⟩, ⟨z⟩] = some (if cmpI a x ≠ 0 then cmpI a x else if cmpI b y ≠ 0 then cmpI b y else cmpI c z) := by
 unfold Za0
 simp only [Za4, Zlz, rd]
 have e1 : w64 (0 + 1) = 1 := by decide
 have f1 : w64 1 = 1 := by decide
 have f2 : w64 2 = 2 := by decide
 have f3 : w64 3 = 3 := by decide
 have e2 : w64 (1 + 1) = 2 := by decide
 have e3 : w64 (2 + 1) = 3 := by decide
 by_cases h1 : cmpI a x = 0
 ·by_cases h2 : cmpI b y = 0
  ·by_cases h3 : cmpI c z = 0 <;> simp [e1, e2, e3, f1, f2, f3, h1, h2, h3, LX.go]
  ·simp [e1, e2, e3, f1, f2, f3, h1, h2, LX.go]
 ·simp [e1, e2, e3, f1, f2, f3, h1, LX.go]
theorem ZlP (k : Nat) (a b : Int) : ZdD (k + 4) [a, b] = some (if a ≠ 0 then a else b) := by
 unfold ZdD
 simp only [Zdg, rd]
 have e1 : w64 (0 + 1) = 1 := by decide
 have f1 : w64 1 = 1 := by decide
 have f2 : w64 2 = 2 := by decide
 have f3 : w64 3 = 3 := by decide
 have e2 : w64 (1 + 1) = 2 := by decide
 by_cases h1 : a = 0
 ·by_cases h2 : b = 0 <;> simp [e1, e2, f1, f2, h1, h2, LX.go]
 ·simp [e1, e2, f1, f2, h1, LX.go]
theorem ZkY (k : Nat) (x y : Sent) : ZdM (k + 4) x y = some (cmpS x y) := by
 unfold ZdM
 simp only [ZhX, Zm2, ZlP, Option.bind_some]
 unfold cmpS
 simp [ZlP]
theorem Zmq : Ziw := fun H x y => Zge 4 H x y (ZkY 0 x y)
end Go.Cat.G3

