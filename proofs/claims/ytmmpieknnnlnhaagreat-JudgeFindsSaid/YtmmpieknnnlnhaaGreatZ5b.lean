/- A text of the proof of the seat's laws: a step logic over the machine, or pure functions that the Go functions come to. No condition. -/
import Derived.Test.YtmmpieknnnlnhaaGreatZ5
set_option linter.unusedVariables false
set_option linter.unusedSimpArgs false
set_option linter.unnecessarySimpa false
namespace Go.Cat.G3
open Go Go.Cat Go.Proofs
def rgs : Nat → Nat → Catenaryref23_place → Int → Sent → Option (List Sent)
 | 0 => fun _ _ _ _ => none
 | f + 1 => Zau (rgs f)
theorem ZlN : ∀ f, RefGivesOk (rgs f)
 | 0 => fun k H x0 a c hx x1 x2 r hr => by cases hr
 | f + 1 => fun k H x0 a c hx x1 x2 r hr => ZdH (rgs f) (ZlN f) k H x0 a c hx x1 x2 hr
def rgsK (k : Nat) := rgs k k
theorem Zmh : RefGivesOk rgsK := fun k => ZlN k k
end Go.Cat.G3

