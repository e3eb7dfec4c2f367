/- A text of the proof of the seat's laws: a step logic over the machine, or pure functions that the Go functions come to. No condition. -/
import Derived.Test.YtmmpieknnnlnhaaGreatJ4
import Derived.Test.YtmmpieknnnlnhaaGreatCore1
namespace Go.Cat.G3
open Go Go.Cat Go.Proofs
set_option linter.unusedVariables false
set_option linter.unusedSimpArgs false
instance iJ5x1 : TLay Tryz.prog 117 0 true := ⟨fun _ => by kernel_rfl, fun _ => by kernel_rfl, fun h => by first | rfl | cases h⟩
instance iJ5x2 : TFld Tryz.prog 47 0 0 1 false := ⟨⟨_, _, Tryz.underlying47, rfl, rfl, fun _ => by kernel_rfl, fun _ => by kernel_rfl, by decide, fun h => by first | rfl | cases h⟩⟩
instance iJ5x3 : TZero Tryz.prog 117 (.agg #[]) := ⟨fun _ => by kernel_rfl⟩
instance iJ5x4 : TFun Tryz.prog 51 := ⟨_, (by kernel_rfl : Tryz.prog.funcs[51]? = some Tryz.f51), by decide, rfl⟩
def Zf9 (k : Nat) (x0 : Sent) (x1 : S213) : Option Bool :=
 some (x0.Port == (-1))
theorem ZnF : Tryz.prog.funcs[52]? = some Tryz.f52 := by kernel_rfl
set_option maxRecDepth 100000 in
set_option maxHeartbeats 4000000 in
theorem ZgA (k : Nat) (H : Heap) (x0 : Sent) (x1 : S213) {r : Bool} (hr : Zf9 k x0 x1 = some r) :
  Fn Tryz.prog 52 [.agg #[.int .i64 x0.Port, .int .u8 x0.H.e0, .int .u8 x0.H.e1, .int .u8 x0.H.e2], .agg #[]] H [] fun H' v out => v = .bool r ∧ out = [] := by
 refine Zaq (args := [.agg #[.int .i64 x0.Port, .int .u8 x0.H.e0, .int .u8 x0.H.e1, .int .u8 x0.H.e2], .agg #[]]) (n := 8) (Φ := fun r H' v out => v = .bool r ∧ out = []) hr ZnF rfl rfl rfl fun w => ?_
 refine s_eq (by rw [Zf9]) ?_
 refine Zae ?_
 refine Zaa ?_
 refine ZbO rfl fun b1 => ?_
 refine ZbO rfl fun b3 => ?_
 refine Zah rfl ?_
 refine Zac ?_
 refine Zae ?_
 refine Zaa ?_
 refine o_fa rfl ?_
 refine o_ld 0 rfl rfl rfl ?_
 refine o_eq rfl rfl ?_
 refine Zah rfl ?_
 refine Zac ?_
 exact ZaF (xs := [.tmp 4]) (vs := [.bool (x0.Port == (-1))]) [] ZnF rfl ⟨Zaz rfl, trivial⟩ (.cons _ (.cons _ .slnil)) ⟨rfl, rfl⟩
theorem ZnG : Tryz.prog.funcs[51]? = some Tryz.f51 := by kernel_rfl
end Go.Cat.G3

