/- A text of the proof of the seat's laws: a step logic over the machine, or pure functions that the Go functions come to. No condition. -/
import Derived.Test.YtmmpieknnnlnhaaGreatZ1
import Derived.Test.YtmmpieknnnlnhaaGreatHG
namespace Go.Cat.G3
open Go Go.Cat Go.Proofs
set_option linter.unusedVariables false
set_option linter.unusedSimpArgs false
structure Arr3u8 where
 e0 : Int
 e1 : Int
 e2 : Int
 deriving DecidableEq
theorem ZfN (a b : Arr3u8) : a = b ↔ a.e0 = b.e0 ∧ a.e1 = b.e1 ∧ a.e2 = b.e2 := by cases a; cases b; simp
instance iJ2x1 : GoE Arr3u8 := ⟨3, fun x => [.int .u8 x.e0, .int .u8 x.e1, .int .u8 x.e2], fun _ => rfl, fun _ => rfl⟩
structure Sent where
 Port : Int
 H : Arr3u8
 deriving DecidableEq
theorem Zhs (a b : Sent) : a = b ↔ a.Port = b.Port ∧ a.H = b.H := by cases a; cases b; simp
instance iJ2x2 : GoE Sent := ⟨4, fun x => [.int .i64 x.Port, .int .u8 x.H.e0, .int .u8 x.H.e1, .int .u8 x.H.e2], fun _ => rfl, fun _ => rfl⟩
structure S213 where
 deriving DecidableEq
instance iJ2x3 : GoE S213 := ⟨0, fun x => [], fun _ => rfl, fun _ => rfl⟩
instance iJ2x4 : TLay Tryz.prog 5 1 false := ⟨fun _ => by kernel_rfl, fun _ => by kernel_rfl, fun h => by first | rfl | cases h⟩
instance iJ2x5 : TLay Tryz.prog 41 3 true := ⟨fun _ => by kernel_rfl, fun _ => by kernel_rfl, fun h => by first | rfl | cases h⟩
instance iJ2x6 : TLay Tryz.prog 47 4 true := ⟨fun _ => by kernel_rfl, fun _ => by kernel_rfl, fun h => by first | rfl | cases h⟩
instance iJ2x7 : TLay Tryz.prog 114 3 true := ⟨fun _ => by kernel_rfl, fun _ => by kernel_rfl, fun h => by first | rfl | cases h⟩
instance iJ2x8 : TFun Tryz.prog 50 := ⟨_, (by kernel_rfl : Tryz.prog.funcs[50]? = some Tryz.f50), by decide, rfl⟩
instance iJ2x9 : TFun Tryz.prog 96 := ⟨_, (by kernel_rfl : Tryz.prog.funcs[96]? = some Tryz.f96), by decide, rfl⟩
instance iJ2x10 : TEq Tryz.prog 47 Sent := ZiA 3 (by omega) (fun a b => Zgn (r := ((a.Port == b.Port) && (((a.H.e0 == b.H.e0) && ((a.H.e1 == b.H.e1) && ((a.H.e2 == b.H.e2) && true))) && true))) (Zf0 (n := 2) Tryz.underlying47 (by kernel_rfl) (ZdF (n := 2) (sz := 1) (ag := false) (by decide) rfl rfl (ZnM 1 (Zc6 (K := .i64) Tryz.underlying3)) (ZdF (n := 2) (sz := 3) (ag := true) (by decide) rfl rfl (ZhU (n := 1) Tryz.underlying41 (fun _ => by kernel_rfl) (Zfe (n := 1) (sz := 1) (ag := false) rfl rfl (Zc6 (K := .u8) Tryz.underlying5) (Zfe (n := 1) (sz := 1) (ag := false) rfl rfl (Zc6 (K := .u8) Tryz.underlying5) (Zfe (n := 1) (sz := 1) (ag := false) rfl rfl (Zc6 (K := .u8) Tryz.underlying5) (Zkt))))) (Zij)))) (by rw [Bool.eq_iff_iff]; simp [Zhs, ZfN, Zg6, and_assoc])) (by kernel_rfl)
instance iJ2x11 : TMap Tryz.prog 112 47 117 := ⟨by kernel_rfl⟩
instance iJ2x12 : TKey Tryz.prog 47 true Sent := Zgq 3 (by omega) Tryz.underlying47 (fun a => (Zg2 (n := 2) Tryz.underlying47 (Zhq (n := 2) (sz := 1) (ag := false) rfl (by decide) (ZnQ 1 (Zfw Tryz.underlying3)) (Zhq (n := 2) (sz := 3) (ag := true) rfl (by decide) (Zky (n := 1) Tryz.underlying41 (Zir (n := 1) (sz := 1) (ag := false) rfl (Zfw Tryz.underlying5) (Zir (n := 1) (sz := 1) (ag := false) rfl (Zfw Tryz.underlying5) (Zir (n := 1) (sz := 1) (ag := false) rfl (Zfw Tryz.underlying5) (ZnT))))) (Zl8))))) (fun a => by simp [Instr.sameBits, GoE.enc])
theorem Zkj : Tryz.prog.funcs[50]? = some Tryz.f50 := by kernel_rfl
theorem Zjl : Tryz.prog.funcs[96]? = some Tryz.f96 := by kernel_rfl
end Go.Cat.G3

