/- A text of the proof of the seat's laws: a step logic over the machine, or pure functions that the Go functions come to. No condition. -/
import Derived.Test.YtmmpieknnnlnhaaGreatJ11
namespace Go.Cat.G3
open Go Go.Cat Go.Proofs
set_option linter.unusedVariables false
set_option linter.unusedSimpArgs false
instance inJ12_1 : TFun Tryz.prog 18 := ⟨_, (by kernel_rfl : Tryz.prog.funcs[18]? = some Tryz.f18), by decide, rfl⟩
instance inJ12_3 : TFun Tryz.prog 59 := ⟨_, (by kernel_rfl : Tryz.prog.funcs[59]? = some Tryz.f59), by decide, rfl⟩
def Zgi (k : Nat) (x : List Sent) : Option (List Sent) := if x.length < 1000000000 then some (Zdm x) else none
def Zb5 (k : Nat) (x0 : (List Node)) (x1 : Int) (x2 : Int) (x3 : Arr3u8) (x4 : (List Sent)) : Option Bool :=
 (Zdz k x0 x1 x2 x3).bind fun y3 =>
 if (y3.2 == 0) = true then
  if ((y3.1.length : Int) == (x4.length : Int)) = true then
   (Zgi k x4).bind fun y15 =>
   (Za1 k y3.1 y15).bind fun y26 =>
   some y26
  else
   some false
 else
  some false
theorem Zlo : Tryz.prog.funcs[21]? = some Tryz.f21 := by kernel_rfl
set_option maxRecDepth 100000 in
set_option maxHeartbeats 4000000 in
theorem Zgf (k : Nat) (H : Heap) (x0 : (List Node)) (a0_0 : Option Addr) (c0_0 : Nat) (hx0_0 : RSl H a0_0 c0_0 x0) (x1 : Int) (x2 : Int) (x3 : Arr3u8) (x4 : (List Sent)) (a4_0 : Option Addr) (c4_0 : Nat) (hx4_0 : RSl H a4_0 c4_0 x4) {r : Bool} (hr : Zb5 k x0 x1 x2 x3 x4 = some r) :
  Fn Tryz.prog 21 [.slice a0_0 x0.length c0_0, .int .i64 x1, .int .i64 x2, .agg #[.int .u8 x3.e0, .int .u8 x3.e1, .int .u8 x3.e2], .slice a4_0 x4.length c4_0] H [] fun H' v out => v = .bool r ∧ out = [] := by
 refine Zaq (args := [.slice a0_0 x0.length c0_0, .int .i64 x1, .int .i64 x2, .agg #[.int .u8 x3.e0, .int .u8 x3.e1, .int .u8 x3.e2], .slice a4_0 x4.length c4_0]) (n := 37) (Φ := fun r H' v out => v = .bool r ∧ out = []) hr Zlo rfl rfl rfl fun w => ?_
 refine s_eq (by rw [Zb5]) ?_
 refine Zae <| Zaa ?_
 refine ZbO rfl fun b1 => ?_
 refine Zah rfl <| Zac <| Zae <| Zaa <| Zad rfl <| Zad rfl <| Zad rfl <| o_ld 0 rfl rfl rfl ?_
 refine s_bg fun y3 h4 => ?_
 refine Zbg [] _ rfl rfl (.refl _) (Zhg k _ x0 _ _ hx0_0 x1 x2 x3 h4) ?_
 rintro _ H8 _ hle9 ⟨a5, c6, rfl, rfl⟩
 have hs11 := RSl.mono hle9 hx4_0
 have hA12 : All2 (GoT.rep H8) (y3.1.map GoE.enc) y3.1 := ZaZ _
 refine Zad rfl <| ZcI rfl rfl <| ZcI rfl rfl <| Zah rfl <| Zah rfl <| Zac <| Zae <| Zaa <| Zad rfl <| o_eq rfl rfl <| Zad rfl ?_
 refine Zax (y3.2 == 0) (fun h13 => ?_) (fun h13 => ?_)
 ·refine Zaf rfl rfl h13 <| Zad rfl <| Zaf rfl rfl h13 <| ZaG rfl <| Zaf rfl rfl h13 <| Zad rfl <| Zaf rfl rfl h13 <| ZaG rfl <| Zaf rfl rfl h13 <| o_eq rfl rfl <| Zan rfl h13 rfl <| Zad rfl ?_
  refine Zax ((y3.1.length : Int) == (x4.length : Int)) (fun h14 => ?_) (fun h14 => ?_)
  ·refine Zaf rfl rfl h14 <| Zad rfl <| Zaf rfl rfl h14 <| Zad rfl <| Zaf rfl rfl h14 ?_
   refine s_bg fun y15 h16 => ?_
   have hlen4 : x4.length < 1000000000 := by unfold Zgi at h16; split at h16; assumption; cases h16
   obtain rfl : Zdm x4 = y15 := by unfold Zgi at h16; rw [if_pos hlen4] at h16; exact Option.some.inj h16
   refine Zbg [] _ rfl rfl (.refl _) (Zma _ _ _ x4 hs11) ?_
   rintro _ H9 _ hle90 ⟨bb, rfl, rfl, hcell⟩
   refine ZcG <| Zaf rfl rfl h14 ?_
   refine Zbg [] _ rfl rfl (.refl _) (Zgt (g := 107) (first := []) (cap := [.pointer (some ⟨bb, 0, none⟩)]) H9 (ZkG H9 bb _ _ x4 hcell (RSl.mono hle90 hs11) (by omega)) (fun xs hx => by subst hx; exact hlen4)) ?_
   rintro _ H20 _ hle21a ⟨xs, a17, c18, rfl, rfl, rfl⟩
   have hle21 := Hle.trans hle90 hle21a
   generalize Zdm xs = y15
   have hA24 := All2.mono (fun _ _ => GoT.mono hle21) hA12
   have hA25 : All2 (GoT.rep H20) (y15.map GoE.enc) y15 := ZaZ _
   refine Zaf rfl rfl h14 ?_
   refine s_bg fun y26 h27 => ?_
   refine Zc5 (Φ := fun v out => v = _ ∧ out = []) [] _ rfl rfl (.refl _) (fun H' hle hl => Zc9 k _ y3.1 _ _ (Zcf (hl _ (List.mem_of_getElem? (i := 1) rfl)) hA24 hle).2 y15 _ _ (Zcf (hl _ (List.mem_of_getElem? (i := 2) rfl)) hA25 hle).2 h27) ?_
   rintro _ _ ⟨rfl, rfl⟩
   refine ZcG <| Zan rfl h14 rfl <| Zah rfl <| Zac ?_
   exact ZaF (xs := [.tmp 10]) (vs := [.bool y26]) [] Zlo rfl ⟨Zaz rfl, trivial⟩ (.cons _ (.cons _ (.cons _ .slnil))) ⟨rfl, rfl⟩
  ·refine Zab rfl rfl h14 <| Zab rfl rfl h14 <| Zab rfl rfl h14 <| Zab rfl rfl h14 <| Zab rfl rfl h14 <| Zal rfl h14 rfl <| Zah rfl <| Zac ?_
   exact ZaF (xs := [.tmp 10]) (vs := [.bool false]) [] Zlo rfl ⟨Zaz rfl, trivial⟩ (.cons _ (.cons _ .slnil)) ⟨rfl, rfl⟩
 ·refine Zab rfl rfl h13 <| Zab rfl rfl h13 <| Zab rfl rfl h13 <| Zab rfl rfl h13 <| Zab rfl rfl h13 <| Zal rfl h13 rfl <| Zad rfl <| Zab rfl rfl rfl <| Zab rfl rfl rfl <| Zab rfl rfl rfl <| Zab rfl rfl rfl <| Zab rfl rfl rfl ?_
  refine Zal rfl rfl rfl <| Zah rfl <| Zac ?_
  exact ZaF (xs := [.tmp 10]) (vs := [.bool false]) [] Zlo rfl ⟨Zaz rfl, trivial⟩ (.cons _ (.cons _ .slnil)) ⟨rfl, rfl⟩
end Go.Cat.G3

