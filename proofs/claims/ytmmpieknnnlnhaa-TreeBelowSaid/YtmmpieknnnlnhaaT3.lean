/- A text of the proof of the seat's laws: a step logic over the machine, or pure functions that the Go functions come to. No condition. -/
import Derived.Test.YtmmpieknnnlnhaaT2b

namespace Go.Cat.G3
open Go Go.Cat Go.Proofs
set_option linter.unusedVariables false
set_option linter.unusedSimpArgs false

instance : TFun Try.prog 43 := ⟨_, (by kernel_rfl : Try.prog.funcs[43]? = some Try.f43), by decide, rfl⟩
instance : TFun Try.prog 45 := ⟨_, (by kernel_rfl : Try.prog.funcs[45]? = some Try.f45), by decide, rfl⟩

/-! catenary/catenarylaw20.TreeBelow -/
def catenarylaw20_TreeBelow (k : Nat) (x0 : (List End)) (x1 : Int) : Option Bool :=
  (slc x0 0 (imin (x0.length : Int) 12)).bind fun y3 =>
  (tree_Below k y3 x1).bind fun y6 =>
  (catenaryref20_Below k y3 x1).bind fun y16 =>
  (catenaryref00_EqInts k y6 y16).bind fun y27 =>
  if (y27) = true then
    (catenarylaw20_works k).bind fun y30 =>
    some y30
  else
    some false
theorem fn_10 : Try.prog.funcs[10]? = some Try.f10 := by kernel_rfl
set_option maxRecDepth 100000 in
set_option maxHeartbeats 4000000 in
theorem catenarylaw20_TreeBelow_ok (k : Nat) (H : Heap) (x0 : (List End)) (a0_0 : Option Addr) (c0_0 : Nat) (hx0_0 : RSl H a0_0 c0_0 x0) (x1 : Int) {r : Bool} (hr : catenarylaw20_TreeBelow k x0 x1 = some r) :
    Fn Try.prog 10 [.slice a0_0 x0.length c0_0, .int .i64 x1] H [] fun H' v out => v = .bool r ∧ out = [] := by
  refine fn_of_sim (args := [.slice a0_0 x0.length c0_0, .int .i64 x1]) (n := 20) (Φ := fun r H' v out => v = .bool r ∧ out = []) hr fn_10 rfl rfl rfl fun w => ?_
  refine s_eq (by rw [catenarylaw20_TreeBelow]) ?_
  refine s_seq ?_
  refine s_region ?_
  refine o_asg rfl ?_
  refine s_done ?_
  refine s_seq ?_
  refine s_region ?_
  refine o_mov rfl ?_
  refine o_mov rfl ?_
  refine o_lenS rfl ?_
  refine o_min rfl rfl ?_
  refine o_sl hx0_0 rfl rfl ⟨_, rfl⟩ fun a1 c2 y3 h4 hs5 => ?_
  refine o_asg rfl ?_
  refine s_done ?_
  refine s_seq ?_
  refine s_region ?_
  refine o_mov rfl ?_
  refine o_mov rfl ?_
  refine s_bg fun y6 h7 => ?_
  refine s_call [] _ rfl rfl (.refl _) (tree_Below_ok k _ y3 _ _ hs5 x1 h7) ?_
  rintro _ H11 _ hle12 ⟨a8, c9, rfl, rfl⟩
  have hs13 := RSl.mono hle12 hs5
  have hs14 := RSl.mono hle12 hx0_0
  have hA15 : All2 (GoT.rep H11) (y6.map GoE.enc) y6 := all2_enc _
  refine o_mov rfl ?_
  refine o_mov rfl ?_
  refine s_bg fun y16 h17 => ?_
  refine s_call [] _ rfl rfl (.refl _) (catenaryref20_Below_ok k _ y3 _ _ hs13 x1 h17) ?_
  rintro _ H21 _ hle22 ⟨a18, c19, rfl, rfl⟩
  have hs23 := RSl.mono hle22 hs13
  have hs24 := RSl.mono hle22 hs14
  have hA25 := All2.mono (fun _ _ => GoT.mono hle22) hA15
  have hA26 : All2 (GoT.rep H21) (y16.map GoE.enc) y16 := all2_enc _
  refine s_bg fun y27 h28 => ?_
  refine s_callL (Φ := fun v out => v = _ ∧ out = []) [] _ rfl rfl (.refl _) (fun H' hle hl => catenaryref00_EqInts_ok k _ y6 _ _ (lent_rsl (hl _ (List.mem_of_getElem? (i := 0) rfl)) hA25 hle).2 y16 _ _ (lent_rsl (hl _ (List.mem_of_getElem? (i := 1) rfl)) hA26 hle).2 h28) ?_
  rintro _ _ ⟨rfl, rfl⟩
  refine s_ownN ?_
  refine o_mov rfl ?_
  refine s_split y27 (fun h29 => ?_) (fun h29 => ?_)
  · refine s_want rfl rfl h29 ?_
    refine s_bg fun y30 h31 => ?_
    refine s_callF rfl rfl (catenarylaw20_works_ok k _ h31) ?_
    refine o_pickT rfl h29 rfl ?_
    refine o_asg rfl ?_
    refine s_done ?_
    exact s_retv (xs := [.tmp 4]) (vs := [.bool y30]) [] fn_10 rfl ⟨rv_tmp rfl, trivial⟩ (.cons _ (.cons _ .slnil)) ⟨rfl, rfl⟩
  · refine s_unwant rfl rfl h29 ?_
    refine o_pickF rfl h29 rfl ?_
    refine o_asg rfl ?_
    refine s_done ?_
    exact s_retv (xs := [.tmp 4]) (vs := [.bool false]) [] fn_10 rfl ⟨rv_tmp rfl, trivial⟩ (.cons _ (.cons _ .slnil)) ⟨rfl, rfl⟩
end Go.Cat.G3
