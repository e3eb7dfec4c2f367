/- A text of the proof of the seat's laws: a step logic over the machine, or pure functions that the Go functions come to. No condition. -/
import Derived.Test.YtmmpieknnnlnhaaP4
set_option linter.unusedVariables false
set_option linter.unusedSimpArgs false
set_option linter.unnecessarySimpa false

namespace Go.Cat.G3
open Go Go.Cat Go.Proofs
set_option linter.unusedVariables false

instance : TZero Try.prog 24 (.agg #[.int .i64 0, .slice none 0 0]) := ⟨fun _ => by kernel_rfl⟩
instance : TBld Try.prog 24 [.int .i64 0, .slice none 0 0] [(0, 1), (1, 1)] := ⟨fun _ => by kernel_rfl, ⟨_, Try.underlying24, fun _ => by kernel_rfl⟩⟩
instance : TBld Try.prog 26 [.int .i64 0, .int .i64 0] [(0, 1), (1, 1)] := ⟨fun _ => by kernel_rfl, ⟨_, Try.underlying26, fun _ => by kernel_rfl⟩⟩
instance : TBld Try.prog 40 [.int .i64 0, .int .i64 0, .int .i64 0, .int .i64 0] [(0, 2), (2, 2)] := ⟨fun _ => by kernel_rfl, ⟨_, Try.underlying40, fun _ => by kernel_rfl⟩⟩
instance : TFun Try.prog 14 := ⟨_, (by kernel_rfl : Try.prog.funcs[14]? = some Try.f14), by decide, rfl⟩
instance : TFun Try.prog 15 := ⟨_, (by kernel_rfl : Try.prog.funcs[15]? = some Try.f15), by decide, rfl⟩
instance : TFun Try.prog 18 := ⟨_, (by kernel_rfl : Try.prog.funcs[18]? = some Try.f18), by decide, rfl⟩
instance : TFun Try.prog 19 := ⟨_, (by kernel_rfl : Try.prog.funcs[19]? = some Try.f19), by decide, rfl⟩
instance : TFun Try.prog 26 := ⟨_, (by kernel_rfl : Try.prog.funcs[26]? = some Try.f26), by decide, rfl⟩
instance : TFun Try.prog 27 := ⟨_, (by kernel_rfl : Try.prog.funcs[27]? = some Try.f27), by decide, rfl⟩
instance : TFun Try.prog 55 := ⟨_, (by kernel_rfl : Try.prog.funcs[55]? = some Try.f55), by decide, rfl⟩
instance : TFun Try.prog 56 := ⟨_, (by kernel_rfl : Try.prog.funcs[56]? = some Try.f56), by decide, rfl⟩

/-! catenary/graph.Whole -/
def graph_Whole (k : Nat) (x0 : Graph) (x1 : (List Bool)) : Option Bool :=
  (graph_Reach k x0 x1 1).bind fun y3 =>
  if ((y3.length : Int) == x0.Switches) = true then
    some (decide (x0.Switches > 0))
  else
    some false
theorem fn_26 : Try.prog.funcs[26]? = some Try.f26 := by kernel_rfl
set_option maxRecDepth 100000 in
set_option maxHeartbeats 4000000 in
theorem graph_Whole_ok (k : Nat) (H : Heap) (x0 : Graph) (a0_0 : Option Addr) (c0_0 : Nat) (hx0_0 : RSl H a0_0 c0_0 x0.Links) (x1 : (List Bool)) (a1_0 : Option Addr) (c1_0 : Nat) (hx1_0 : RSl H a1_0 c1_0 x1) {r : Bool} (hr : graph_Whole k x0 x1 = some r) :
    Fn Try.prog 26 [.agg #[.int .i64 x0.Switches, .slice a0_0 x0.Links.length c0_0], .slice a1_0 x1.length c1_0] H [] fun H' v out => v = .bool r ∧ out = [] := by
  refine fn_of_sim (args := [.agg #[.int .i64 x0.Switches, .slice a0_0 x0.Links.length c0_0], .slice a1_0 x1.length c1_0]) (n := 17) (Φ := fun r H' v out => v = .bool r ∧ out = []) hr fn_26 rfl rfl rfl fun w => ?_
  refine s_eq (by rw [graph_Whole]) ?_
  refine s_seq ?_
  refine s_region ?_
  refine o_box rfl fun b1 => ?_
  refine o_asg rfl ?_
  refine s_done ?_
  refine s_seq ?_
  refine s_bg fun y3 h13 => ?_
  refine s_split ((y3.length : Int) == x0.Switches) (fun h14 => ?_) (fun h14 => ?_)
  · refine s_drawL [(fun H v g => v = .agg #[.int .i64 x0.Switches, .slice a0_0 x0.Links.length c0_0] ∧ g = [] ∧ RSl H a0_0 c0_0 x0.Links),
      (fun H v g => v = .slice a1_0 x1.length c1_0 ∧ g = [] ∧ RSl H a1_0 c1_0 x1),
      (fun H v g => ∃ a16 c17, v = .slice a16 y3.length c17 ∧ g = [] ∧ RSl H a16 c17 y3),
      (fun H v g => v = .int .i64 (y3.length : Int) ∧ g = []),
      (fun H v g => v = .pointer (some ⟨b1, 0, none⟩) ∧ g = []),
      (fun H v g => v = .int .i64 x0.Switches ∧ g = []),
      (fun H v g => v = .bool ((y3.length : Int) == x0.Switches) ∧ g = []),
      (fun H v g => v = .bool ((y3.length : Int) == x0.Switches) ∧ g = []),
      (fun H v g => v = .pointer (some ⟨b1, 0, none⟩) ∧ g = []),
      (fun H v g => v = .int .i64 x0.Switches ∧ g = []),
      (fun H v g => v = .bool (decide (x0.Switches > 0)) ∧ g = []),
      (fun H v g => v = .bool (decide (x0.Switches > 0)) ∧ g = [])] [[], [], [], [], [], [], [], [], [], [], [], []] mixed ⟨fun _ _ _ _ hle ⟨e1, e2, h0_⟩ => ⟨e1, e2, RSl.mono hle h0_⟩, fun _ _ _ _ hle ⟨e1, e2, h0_⟩ => ⟨e1, e2, RSl.mono hle h0_⟩, fun _ _ _ _ hle ⟨a16, c17, e1, e2, h0_⟩ => ⟨_, _, e1, e2, RSl.mono hle h0_⟩, fun _ _ _ _ _ h => h, fun _ _ _ _ _ h => h, fun _ _ _ _ _ h => h, fun _ _ _ _ _ h => h, fun _ _ _ _ _ h => h, fun _ _ _ _ _ h => h, fun _ _ _ _ _ h => h, fun _ _ _ _ _ h => h, fun _ _ _ _ _ h => h, trivial⟩ (by kernel_rfl) (by kernel_rfl) rfl (by kernel_rfl) rfl rfl ?_ ?_
    · refine dcons ?_ ?_
      · intro V30 G31 H32 fr33 hle34 hd35
        have hs37 := RSl.mono hle34 hx0_0
        refine ⟨_, some (), rfl, fun _ => ?_⟩
        refine s_env (env' := [(2, .pointer (some ⟨b1, 0, none⟩))]) (by exact ⟨rfl, trivial⟩) ?_
        refine o_ld 0 rfl rfl rfl ?_
        exact s_pred fun tm w ht hE hI => ⟨(.agg #[.int .i64 x0.Switches, .slice a0_0 x0.Links.length c0_0]), [], _, fun d hd => (by cases hd; exact hE _ _ rfl), .refl _, by exact hI, ⟨rfl, rfl, hs37⟩⟩
      refine dcons ?_ ?_
      · intro V38 G39 H40 fr41 hle42 hd43
        have hs45 := RSl.mono hle42 hx1_0
        refine ⟨_, some (), rfl, fun _ => ?_⟩
        refine s_env (env' := [(1, .slice a1_0 x1.length c1_0)]) (by exact ⟨rfl, trivial⟩) ?_
        refine o_mov rfl ?_
        exact s_pred fun tm w ht hE hI => ⟨(.slice a1_0 x1.length c1_0), [], _, fun d hd => (by cases hd; exact hE _ _ rfl), .refl _, by exact hI, ⟨rfl, rfl, hs45⟩⟩
      refine dcons ?_ ?_
      · intro V46 G47 H48 fr49 hle50 hd51
        obtain ⟨hv53, hg54, hp55⟩ := hd51 0 (by decide)
        obtain ⟨hv56, hg57, hp58⟩ := hd51 1 (by decide)
        refine ⟨_, (graph_Reach k x0 x1 1).bind some, by rw [h13]; rfl, fun _ => ?_⟩
        refine s_env (env' := [(5, .agg #[.int .i64 x0.Switches, .slice a0_0 x0.Links.length c0_0]), (6, .slice a1_0 x1.length c1_0)]) (by exact ⟨congrArg some hv53, congrArg some hv56, trivial⟩) ?_
        refine s_bg fun y3 h59 => ?_
        refine s_call [] _ rfl rfl (.refl _) (graph_Reach_ok k _ x0 _ _ hp55 x1 _ _ hp58 1 h59) ?_
        rintro _ H63 _ hle64 ⟨a60, c61, rfl, rfl⟩
        have hs65 := RSl.mono hle64 hp55
        have hs66 := RSl.mono hle64 hp58
        have hA67 : All2 (GoT.rep H63) (y3.map GoE.enc) y3 := all2_enc _
        obtain rfl := Option.some.inj (h13.symm.trans h59)
        refine s_perm (own' := [.blk b1 (rowObj [.int .i64 x0.Switches, .slice a0_0 x0.Links.length c0_0] 24), .osl (.slice a60 y3.length c61) 1 3 (y3.map GoE.enc)] ++ fr49) (pm3 (a := [.blk b1 (rowObj [.int .i64 x0.Switches, .slice a0_0 x0.Links.length c0_0] 24)]) (xs := [.osl (.slice a60 y3.length c61) 1 3 (y3.map GoE.enc)])) ?_
        refine s_frz 1 (fun b => .inl (by simp [ids])) rfl hA67 fun H68 hle69 hn70 hs71 => ?_
        have hs72 := RSl.mono hle69 hs65
        have hs73 := RSl.mono hle69 hs66
        exact s_pred fun tm w ht hE hI => ⟨(.slice a60 y3.length c61), [], _, fun d hd => (by cases hd; exact hE _ _ rfl), (Hle.trans hle64 hle69), by exact hI, ⟨a60, c61, rfl, rfl, hs71⟩⟩
      refine dcons ?_ ?_
      · intro V74 G75 H76 fr77 hle78 hd79
        obtain ⟨a81, c82, hv83, hg84, hp85⟩ := hd79 2 (by decide)
        refine ⟨_, some (), rfl, fun _ => ?_⟩
        refine s_env (env' := [(7, .slice a81 y3.length c82)]) (by exact ⟨congrArg some hv83, trivial⟩) ?_
        refine o_lenS rfl ?_
        exact s_pred fun tm w ht hE hI => ⟨(.int .i64 (y3.length : Int)), [], _, fun d hd => (by cases hd; exact hE _ _ rfl), .refl _, by exact hI, ⟨rfl, rfl⟩⟩
      refine dcons ?_ ?_
      · intro V86 G87 H88 fr89 hle90 hd91
        have hs93 := RSl.mono hle90 hx0_0
        refine ⟨_, some (), rfl, fun _ => ?_⟩
        refine s_env (env' := [(2, .pointer (some ⟨b1, 0, none⟩))]) (by exact ⟨rfl, trivial⟩) ?_
        refine o_fa rfl ?_
        exact s_pred fun tm w ht hE hI => ⟨(.pointer (some ⟨b1, 0, none⟩)), [], _, fun d hd => (by cases hd; exact hE _ _ rfl), .refl _, by exact hI, ⟨rfl, rfl⟩⟩
      refine dcons ?_ ?_
      · intro V94 G95 H96 fr97 hle98 hd99
        have hs101 := RSl.mono hle98 hx0_0
        obtain ⟨hv102, hg103⟩ := hd99 4 (by decide)
        refine ⟨_, some (), rfl, fun _ => ?_⟩
        refine s_env (env' := [(9, .pointer (some ⟨b1, 0, none⟩))]) (by exact ⟨congrArg some hv102, trivial⟩) ?_
        refine o_ld 0 rfl rfl rfl ?_
        exact s_pred fun tm w ht hE hI => ⟨(.int .i64 x0.Switches), [], _, fun d hd => (by cases hd; exact hE _ _ rfl), .refl _, by exact hI, ⟨rfl, rfl⟩⟩
      refine dcons ?_ ?_
      · intro V104 G105 H106 fr107 hle108 hd109
        obtain ⟨hv111, hg112⟩ := hd109 3 (by decide)
        obtain ⟨hv113, hg114⟩ := hd109 5 (by decide)
        refine ⟨_, some (), rfl, fun _ => ?_⟩
        refine s_env (env' := [(8, .int .i64 (y3.length : Int)), (10, .int .i64 x0.Switches)]) (by exact ⟨congrArg some hv111, congrArg some hv113, trivial⟩) ?_
        refine o_eq rfl rfl ?_
        exact s_pred fun tm w ht hE hI => ⟨(.bool ((y3.length : Int) == x0.Switches)), [], _, fun d hd => (by cases hd; exact hE _ _ rfl), .refl _, by exact hI, ⟨rfl, rfl⟩⟩
      refine dcons ?_ ?_
      · intro V115 G116 H117 fr118 hle119 hd120
        obtain ⟨hv122, hg123⟩ := hd120 6 (by decide)
        refine ⟨_, some (), rfl, fun _ => ?_⟩
        refine s_env (env' := [(11, .bool ((y3.length : Int) == x0.Switches))]) (by exact ⟨congrArg some hv122, trivial⟩) ?_
        refine o_mov rfl ?_
        exact s_pred fun tm w ht hE hI => ⟨(.bool ((y3.length : Int) == x0.Switches)), [], _, fun d hd => (by cases hd; exact hE _ _ rfl), .refl _, by exact hI, ⟨rfl, rfl⟩⟩
      refine dcons ?_ ?_
      · intro V124 G125 H126 fr127 hle128 hd129
        have hs131 := RSl.mono hle128 hx0_0
        obtain ⟨hv132, hg133⟩ := hd129 7 (by decide)
        refine ⟨_, some (), rfl, fun _ => ?_⟩
        refine s_env (env' := [(12, .bool ((y3.length : Int) == x0.Switches)), (2, .pointer (some ⟨b1, 0, none⟩))]) (by exact ⟨congrArg some hv132, rfl, trivial⟩) ?_
        refine s_want rfl rfl h14 ?_
        refine o_fa rfl ?_
        exact s_pred fun tm w ht hE hI => ⟨(.pointer (some ⟨b1, 0, none⟩)), [], _, fun d hd => (by cases hd; exact hE _ _ rfl), .refl _, by exact hI, ⟨rfl, rfl⟩⟩
      refine dcons ?_ ?_
      · intro V134 G135 H136 fr137 hle138 hd139
        have hs141 := RSl.mono hle138 hx0_0
        obtain ⟨hv142, hg143⟩ := hd139 7 (by decide)
        obtain ⟨hv144, hg145⟩ := hd139 8 (by decide)
        refine ⟨_, some (), rfl, fun _ => ?_⟩
        refine s_env (env' := [(12, .bool ((y3.length : Int) == x0.Switches)), (13, .pointer (some ⟨b1, 0, none⟩))]) (by exact ⟨congrArg some hv142, congrArg some hv144, trivial⟩) ?_
        refine s_want rfl rfl h14 ?_
        refine o_ld 0 rfl rfl rfl ?_
        exact s_pred fun tm w ht hE hI => ⟨(.int .i64 x0.Switches), [], _, fun d hd => (by cases hd; exact hE _ _ rfl), .refl _, by exact hI, ⟨rfl, rfl⟩⟩
      refine dcons ?_ ?_
      · intro V146 G147 H148 fr149 hle150 hd151
        obtain ⟨hv153, hg154⟩ := hd151 7 (by decide)
        obtain ⟨hv155, hg156⟩ := hd151 9 (by decide)
        refine ⟨_, some (), rfl, fun _ => ?_⟩
        refine s_env (env' := [(12, .bool ((y3.length : Int) == x0.Switches)), (14, .int .i64 x0.Switches)]) (by exact ⟨congrArg some hv153, congrArg some hv155, trivial⟩) ?_
        refine s_want rfl rfl h14 ?_
        refine o_gt rfl rfl ?_
        exact s_pred fun tm w ht hE hI => ⟨(.bool (decide (x0.Switches > 0))), [], _, fun d hd => (by cases hd; exact hE _ _ rfl), .refl _, by exact hI, ⟨rfl, rfl⟩⟩
      refine dcons ?_ ?_
      · intro V157 G158 H159 fr160 hle161 hd162
        obtain ⟨hv164, hg165⟩ := hd162 7 (by decide)
        obtain ⟨hv166, hg167⟩ := hd162 10 (by decide)
        refine ⟨_, some (), rfl, fun _ => ?_⟩
        refine s_env (env' := [(12, .bool ((y3.length : Int) == x0.Switches)), (15, .bool (decide (x0.Switches > 0)))]) (by exact ⟨congrArg some hv164, congrArg some hv166, trivial⟩) ?_
        refine o_pickT rfl h14 rfl ?_
        exact s_pred fun tm w ht hE hI => ⟨(.bool (decide (x0.Switches > 0))), [], _, fun d hd => (by cases hd; exact hE _ _ rfl), .refl _, by exact hI, ⟨rfl, rfl⟩⟩
      exact dnil
    · intro V170 G171 H168 hle169 hF172
      have hs173 := RSl.mono hle169 hx0_0
      have hs174 := RSl.mono hle169 hx1_0
      obtain ⟨hv175, hg176⟩ := hF172 11 (show 11 < 12 by decide)
      refine s_env (env' := [(16, .bool (decide (x0.Switches > 0))), (0, .agg #[.int .i64 x0.Switches, .slice a0_0 x0.Links.length c0_0]), (1, .slice a1_0 x1.length c1_0), (2, .pointer (some ⟨b1, 0, none⟩)), (4, .bool false)]) (by exact ⟨congrArg some hv175, rfl, rfl, rfl, rfl, trivial⟩) ?_
      refine s_own (List.sublist_append_left _ _) ?_
      refine o_asg rfl ?_
      refine s_done ?_
      exact s_retv (xs := [.tmp 4]) (vs := [.bool (decide (x0.Switches > 0))]) [] fn_26 rfl ⟨rv_tmp rfl, trivial⟩ (.cons _ .slnil) ⟨rfl, rfl⟩
  · refine s_drawL [(fun H v g => v = .agg #[.int .i64 x0.Switches, .slice a0_0 x0.Links.length c0_0] ∧ g = [] ∧ RSl H a0_0 c0_0 x0.Links),
      (fun H v g => v = .slice a1_0 x1.length c1_0 ∧ g = [] ∧ RSl H a1_0 c1_0 x1),
      (fun H v g => ∃ a178 c179, v = .slice a178 y3.length c179 ∧ g = [] ∧ RSl H a178 c179 y3),
      (fun H v g => v = .int .i64 (y3.length : Int) ∧ g = []),
      (fun H v g => v = .pointer (some ⟨b1, 0, none⟩) ∧ g = []),
      (fun H v g => v = .int .i64 x0.Switches ∧ g = []),
      (fun H v g => v = .bool ((y3.length : Int) == x0.Switches) ∧ g = []),
      (fun H v g => v = .bool ((y3.length : Int) == x0.Switches) ∧ g = []),
      (fun H v g => v = undef ∧ g = []),
      (fun H v g => v = undef ∧ g = []),
      (fun H v g => v = undef ∧ g = []),
      (fun H v g => v = .bool false ∧ g = [])] [[], [], [], [], [], [], [], [], [], [], [], []] mixed ⟨fun _ _ _ _ hle ⟨e1, e2, h0_⟩ => ⟨e1, e2, RSl.mono hle h0_⟩, fun _ _ _ _ hle ⟨e1, e2, h0_⟩ => ⟨e1, e2, RSl.mono hle h0_⟩, fun _ _ _ _ hle ⟨a178, c179, e1, e2, h0_⟩ => ⟨_, _, e1, e2, RSl.mono hle h0_⟩, fun _ _ _ _ _ h => h, fun _ _ _ _ _ h => h, fun _ _ _ _ _ h => h, fun _ _ _ _ _ h => h, fun _ _ _ _ _ h => h, fun _ _ _ _ _ h => h, fun _ _ _ _ _ h => h, fun _ _ _ _ _ h => h, fun _ _ _ _ _ h => h, trivial⟩ (by kernel_rfl) (by kernel_rfl) rfl (by kernel_rfl) rfl rfl ?_ ?_
    · refine dcons ?_ ?_
      · intro V192 G193 H194 fr195 hle196 hd197
        have hs199 := RSl.mono hle196 hx0_0
        refine ⟨_, some (), rfl, fun _ => ?_⟩
        refine s_env (env' := [(2, .pointer (some ⟨b1, 0, none⟩))]) (by exact ⟨rfl, trivial⟩) ?_
        refine o_ld 0 rfl rfl rfl ?_
        exact s_pred fun tm w ht hE hI => ⟨(.agg #[.int .i64 x0.Switches, .slice a0_0 x0.Links.length c0_0]), [], _, fun d hd => (by cases hd; exact hE _ _ rfl), .refl _, by exact hI, ⟨rfl, rfl, hs199⟩⟩
      refine dcons ?_ ?_
      · intro V200 G201 H202 fr203 hle204 hd205
        have hs207 := RSl.mono hle204 hx1_0
        refine ⟨_, some (), rfl, fun _ => ?_⟩
        refine s_env (env' := [(1, .slice a1_0 x1.length c1_0)]) (by exact ⟨rfl, trivial⟩) ?_
        refine o_mov rfl ?_
        exact s_pred fun tm w ht hE hI => ⟨(.slice a1_0 x1.length c1_0), [], _, fun d hd => (by cases hd; exact hE _ _ rfl), .refl _, by exact hI, ⟨rfl, rfl, hs207⟩⟩
      refine dcons ?_ ?_
      · intro V208 G209 H210 fr211 hle212 hd213
        obtain ⟨hv215, hg216, hp217⟩ := hd213 0 (by decide)
        obtain ⟨hv218, hg219, hp220⟩ := hd213 1 (by decide)
        refine ⟨_, (graph_Reach k x0 x1 1).bind some, by rw [h13]; rfl, fun _ => ?_⟩
        refine s_env (env' := [(5, .agg #[.int .i64 x0.Switches, .slice a0_0 x0.Links.length c0_0]), (6, .slice a1_0 x1.length c1_0)]) (by exact ⟨congrArg some hv215, congrArg some hv218, trivial⟩) ?_
        refine s_bg fun y3 h221 => ?_
        refine s_call [] _ rfl rfl (.refl _) (graph_Reach_ok k _ x0 _ _ hp217 x1 _ _ hp220 1 h221) ?_
        rintro _ H225 _ hle226 ⟨a222, c223, rfl, rfl⟩
        have hs227 := RSl.mono hle226 hp217
        have hs228 := RSl.mono hle226 hp220
        have hA229 : All2 (GoT.rep H225) (y3.map GoE.enc) y3 := all2_enc _
        obtain rfl := Option.some.inj (h13.symm.trans h221)
        refine s_perm (own' := [.blk b1 (rowObj [.int .i64 x0.Switches, .slice a0_0 x0.Links.length c0_0] 24), .osl (.slice a222 y3.length c223) 1 3 (y3.map GoE.enc)] ++ fr211) (pm3 (a := [.blk b1 (rowObj [.int .i64 x0.Switches, .slice a0_0 x0.Links.length c0_0] 24)]) (xs := [.osl (.slice a222 y3.length c223) 1 3 (y3.map GoE.enc)])) ?_
        refine s_frz 1 (fun b => .inl (by simp [ids])) rfl hA229 fun H230 hle231 hn232 hs233 => ?_
        have hs234 := RSl.mono hle231 hs227
        have hs235 := RSl.mono hle231 hs228
        exact s_pred fun tm w ht hE hI => ⟨(.slice a222 y3.length c223), [], _, fun d hd => (by cases hd; exact hE _ _ rfl), (Hle.trans hle226 hle231), by exact hI, ⟨a222, c223, rfl, rfl, hs233⟩⟩
      refine dcons ?_ ?_
      · intro V236 G237 H238 fr239 hle240 hd241
        obtain ⟨a243, c244, hv245, hg246, hp247⟩ := hd241 2 (by decide)
        refine ⟨_, some (), rfl, fun _ => ?_⟩
        refine s_env (env' := [(7, .slice a243 y3.length c244)]) (by exact ⟨congrArg some hv245, trivial⟩) ?_
        refine o_lenS rfl ?_
        exact s_pred fun tm w ht hE hI => ⟨(.int .i64 (y3.length : Int)), [], _, fun d hd => (by cases hd; exact hE _ _ rfl), .refl _, by exact hI, ⟨rfl, rfl⟩⟩
      refine dcons ?_ ?_
      · intro V248 G249 H250 fr251 hle252 hd253
        have hs255 := RSl.mono hle252 hx0_0
        refine ⟨_, some (), rfl, fun _ => ?_⟩
        refine s_env (env' := [(2, .pointer (some ⟨b1, 0, none⟩))]) (by exact ⟨rfl, trivial⟩) ?_
        refine o_fa rfl ?_
        exact s_pred fun tm w ht hE hI => ⟨(.pointer (some ⟨b1, 0, none⟩)), [], _, fun d hd => (by cases hd; exact hE _ _ rfl), .refl _, by exact hI, ⟨rfl, rfl⟩⟩
      refine dcons ?_ ?_
      · intro V256 G257 H258 fr259 hle260 hd261
        have hs263 := RSl.mono hle260 hx0_0
        obtain ⟨hv264, hg265⟩ := hd261 4 (by decide)
        refine ⟨_, some (), rfl, fun _ => ?_⟩
        refine s_env (env' := [(9, .pointer (some ⟨b1, 0, none⟩))]) (by exact ⟨congrArg some hv264, trivial⟩) ?_
        refine o_ld 0 rfl rfl rfl ?_
        exact s_pred fun tm w ht hE hI => ⟨(.int .i64 x0.Switches), [], _, fun d hd => (by cases hd; exact hE _ _ rfl), .refl _, by exact hI, ⟨rfl, rfl⟩⟩
      refine dcons ?_ ?_
      · intro V266 G267 H268 fr269 hle270 hd271
        obtain ⟨hv273, hg274⟩ := hd271 3 (by decide)
        obtain ⟨hv275, hg276⟩ := hd271 5 (by decide)
        refine ⟨_, some (), rfl, fun _ => ?_⟩
        refine s_env (env' := [(8, .int .i64 (y3.length : Int)), (10, .int .i64 x0.Switches)]) (by exact ⟨congrArg some hv273, congrArg some hv275, trivial⟩) ?_
        refine o_eq rfl rfl ?_
        exact s_pred fun tm w ht hE hI => ⟨(.bool ((y3.length : Int) == x0.Switches)), [], _, fun d hd => (by cases hd; exact hE _ _ rfl), .refl _, by exact hI, ⟨rfl, rfl⟩⟩
      refine dcons ?_ ?_
      · intro V277 G278 H279 fr280 hle281 hd282
        obtain ⟨hv284, hg285⟩ := hd282 6 (by decide)
        refine ⟨_, some (), rfl, fun _ => ?_⟩
        refine s_env (env' := [(11, .bool ((y3.length : Int) == x0.Switches))]) (by exact ⟨congrArg some hv284, trivial⟩) ?_
        refine o_mov rfl ?_
        exact s_pred fun tm w ht hE hI => ⟨(.bool ((y3.length : Int) == x0.Switches)), [], _, fun d hd => (by cases hd; exact hE _ _ rfl), .refl _, by exact hI, ⟨rfl, rfl⟩⟩
      refine dcons ?_ ?_
      · intro V286 G287 H288 fr289 hle290 hd291
        have hs293 := RSl.mono hle290 hx0_0
        obtain ⟨hv294, hg295⟩ := hd291 7 (by decide)
        refine ⟨_, some (), rfl, fun _ => ?_⟩
        refine s_env (env' := [(12, .bool ((y3.length : Int) == x0.Switches)), (2, .pointer (some ⟨b1, 0, none⟩))]) (by exact ⟨congrArg some hv294, rfl, trivial⟩) ?_
        refine s_unwant rfl rfl h14 ?_
        exact s_pred fun tm w ht hE hI => ⟨undef, [], _, fun d hd => (by cases hd; exact hE _ _ rfl), .refl _, by exact hI, ⟨rfl, rfl⟩⟩
      refine dcons ?_ ?_
      · intro V296 G297 H298 fr299 hle300 hd301
        obtain ⟨hv303, hg304⟩ := hd301 7 (by decide)
        obtain ⟨hv305, hg306⟩ := hd301 8 (by decide)
        refine ⟨_, some (), rfl, fun _ => ?_⟩
        refine s_env (env' := [(12, .bool ((y3.length : Int) == x0.Switches)), (13, undef)]) (by exact ⟨congrArg some hv303, congrArg some hv305, trivial⟩) ?_
        refine s_unwant rfl rfl h14 ?_
        exact s_pred fun tm w ht hE hI => ⟨undef, [], _, fun d hd => (by cases hd; exact hE _ _ rfl), .refl _, by exact hI, ⟨rfl, rfl⟩⟩
      refine dcons ?_ ?_
      · intro V307 G308 H309 fr310 hle311 hd312
        obtain ⟨hv314, hg315⟩ := hd312 7 (by decide)
        obtain ⟨hv316, hg317⟩ := hd312 9 (by decide)
        refine ⟨_, some (), rfl, fun _ => ?_⟩
        refine s_env (env' := [(12, .bool ((y3.length : Int) == x0.Switches)), (14, undef)]) (by exact ⟨congrArg some hv314, congrArg some hv316, trivial⟩) ?_
        refine s_unwant rfl rfl h14 ?_
        exact s_pred fun tm w ht hE hI => ⟨undef, [], _, fun d hd => (by cases hd; exact hE _ _ rfl), .refl _, by exact hI, ⟨rfl, rfl⟩⟩
      refine dcons ?_ ?_
      · intro V318 G319 H320 fr321 hle322 hd323
        obtain ⟨hv325, hg326⟩ := hd323 7 (by decide)
        obtain ⟨hv327, hg328⟩ := hd323 10 (by decide)
        refine ⟨_, some (), rfl, fun _ => ?_⟩
        refine s_env (env' := [(12, .bool ((y3.length : Int) == x0.Switches)), (15, undef)]) (by exact ⟨congrArg some hv325, congrArg some hv327, trivial⟩) ?_
        refine o_pickF rfl h14 rfl ?_
        exact s_pred fun tm w ht hE hI => ⟨(.bool false), [], _, fun d hd => (by cases hd; exact hE _ _ rfl), .refl _, by exact hI, ⟨rfl, rfl⟩⟩
      exact dnil
    · intro V331 G332 H329 hle330 hF333
      have hs334 := RSl.mono hle330 hx0_0
      have hs335 := RSl.mono hle330 hx1_0
      obtain ⟨hv336, hg337⟩ := hF333 11 (show 11 < 12 by decide)
      refine s_env (env' := [(16, .bool false), (0, .agg #[.int .i64 x0.Switches, .slice a0_0 x0.Links.length c0_0]), (1, .slice a1_0 x1.length c1_0), (2, .pointer (some ⟨b1, 0, none⟩)), (4, .bool false)]) (by exact ⟨congrArg some hv336, rfl, rfl, rfl, rfl, trivial⟩) ?_
      refine s_own (List.sublist_append_left _ _) ?_
      refine o_asg rfl ?_
      refine s_done ?_
      exact s_retv (xs := [.tmp 4]) (vs := [.bool false]) [] fn_26 rfl ⟨rv_tmp rfl, trivial⟩ (.cons _ .slnil) ⟨rfl, rfl⟩

/-! catenary/catenaryref00.EqInts -/
def catenaryref00_EqInts_l0 (k : Nat) (x0 : (List Int)) (x1 : (List Int)) : Nat → Int → Option (LX (Bool) (Unit))
  | 0, _ => none
  | q7 + 1, s6 =>
    if (decide (s6 < (x0.length : Int))) = true then
      (rd x0 s6).bind fun y14 =>
      (rd x1 s6).bind fun y20 =>
      if (y14 != y20) = true then
        some (.ret false)
      else
        catenaryref00_EqInts_l0 k x0 x1 q7 (w64 (s6 + 1))
    else
      some (.out ())
def catenaryref00_EqInts (k : Nat) (x0 : (List Int)) (x1 : (List Int)) : Option Bool :=
  if ((x0.length : Int) != (x1.length : Int)) = true then
    some false
  else
    (catenaryref00_EqInts_l0 k x0 x1 k 0).bind (LX.go fun p2 =>
    some true)
theorem fn_19 : Try.prog.funcs[19]? = some Try.f19 := by kernel_rfl
set_option maxRecDepth 100000 in
set_option maxHeartbeats 4000000 in
theorem catenaryref00_EqInts_ok (k : Nat) (H : Heap) (x0 : (List Int)) (a0_0 : Option Addr) (c0_0 : Nat) (hx0_0 : RSl H a0_0 c0_0 x0) (x1 : (List Int)) (a1_0 : Option Addr) (c1_0 : Nat) (hx1_0 : RSl H a1_0 c1_0 x1) {r : Bool} (hr : catenaryref00_EqInts k x0 x1 = some r) :
    Fn Try.prog 19 [.slice a0_0 x0.length c0_0, .slice a1_0 x1.length c1_0] H [] fun H' v out => v = .bool r ∧ out = [] := by
  refine fn_of_sim (args := [.slice a0_0 x0.length c0_0, .slice a1_0 x1.length c1_0]) (n := 26) (Φ := fun r H' v out => v = .bool r ∧ out = []) hr fn_19 rfl rfl rfl fun w => ?_
  refine s_eq (by rw [catenaryref00_EqInts]) ?_
  refine s_seq ?_
  refine s_region ?_
  refine o_asg rfl ?_
  refine s_done ?_
  refine s_seq ?_
  refine s_seq ?_
  refine s_region ?_
  refine o_mov rfl ?_
  refine o_lenS rfl ?_
  refine o_mov rfl ?_
  refine o_lenS rfl ?_
  refine o_ne rfl rfl ?_
  refine s_done ?_
  refine s_cond rfl (fun h1 => ?_) (fun h1 => ?_)
  · refine s_seq ?_
    refine s_region ?_
    refine o_asg rfl ?_
    refine s_done ?_
    exact s_retv (xs := [.tmp 4]) (vs := [.bool false]) [] fn_19 rfl ⟨rv_tmp rfl, trivial⟩ .slnil ⟨rfl, rfl⟩
  · refine s_skip ?_
    refine s_seq ?_
    refine s_seq ?_
    refine s_region ?_
    refine o_asg rfl ?_
    refine s_done ?_
    refine s_joinL (fun p2 env own H' => env = [] ∧ own = [] ∧ Hle H H') ?_ ?_
    · rintro p2 _ _ H3 ⟨rfl, rfl, hle4⟩
      refine s_seq ?_
      refine s_region ?_
      refine o_asg rfl ?_
      refine s_done ?_
      exact s_retv (xs := [.tmp 4]) (vs := [.bool true]) [] fn_19 rfl ⟨rv_tmp rfl, trivial⟩ .slnil ⟨rfl, rfl⟩
    · intro J5
      refine s_block ?_
      refine s_env (env' := [(0, .slice a0_0 x0.length c0_0), (1, .slice a1_0 x1.length c1_0), (5, .int .i64 0)]) (by exact ⟨rfl, rfl, rfl, trivial⟩) ?_
      refine s_own (own' := []) .slnil ?_
      refine s_loopn (fun q s6 => catenaryref00_EqInts_l0 k x0 x1 q s6) (fun s6 env own H' => env = [(0, .slice a0_0 x0.length c0_0), (1, .slice a1_0 x1.length c1_0), (5, .int .i64 s6)] ∧ own = [] ∧ Hle H H') (fun _ => rfl) ?_ k 0 ⟨rfl, rfl, .refl _⟩
      rintro q7 ih8 s6 _ _ H9 ⟨rfl, rfl, hle10⟩
      refine s_eq (by rw [catenaryref00_EqInts_l0]) ?_
      have hs11 := RSl.mono hle10 hx0_0
      have hs12 := RSl.mono hle10 hx1_0
      refine s_seq ?_
      refine s_seq ?_
      refine s_region ?_
      refine o_mov rfl ?_
      refine o_mov rfl ?_
      refine o_lenS rfl ?_
      refine o_lt rfl rfl ?_
      refine s_done ?_
      refine s_cond rfl (fun h13 => ?_) (fun h13 => ?_)
      · refine s_skip ?_
        refine s_seq ?_
        refine s_block ?_
        refine s_seq ?_
        refine s_bg fun y14 h19 => ?_
        refine s_bg fun y20 h25 => ?_
        refine s_drawL [(fun H v g => v = .slice a0_0 x0.length c0_0 ∧ g = [] ∧ RSl H a0_0 c0_0 x0),
      (fun H v g => v = .int .i64 s6 ∧ g = []),
      (fun H v g => ∃ bk27 of28, v = .pointer (some ⟨bk27, of28, none⟩) ∧ g = [] ∧ CellsAt H bk27 of28 [.int .i64 y14]),
      (fun H v g => v = .int .i64 y14 ∧ g = []),
      (fun H v g => v = .slice a1_0 x1.length c1_0 ∧ g = [] ∧ RSl H a1_0 c1_0 x1),
      (fun H v g => v = .int .i64 s6 ∧ g = []),
      (fun H v g => ∃ bk31 of32, v = .pointer (some ⟨bk31, of32, none⟩) ∧ g = [] ∧ CellsAt H bk31 of32 [.int .i64 y20]),
      (fun H v g => v = .int .i64 y20 ∧ g = []),
      (fun H v g => v = .bool (y14 != y20) ∧ g = [])] [[], [], [], [], [], [], [], [], []] mixed ⟨fun _ _ _ _ hle ⟨e1, e2, h0_⟩ => ⟨e1, e2, RSl.mono hle h0_⟩, fun _ _ _ _ _ h => h, fun _ _ _ _ hle ⟨bk27, of28, e1, e2, h0_⟩ => ⟨_, _, e1, e2, CellsAt.mono hle h0_⟩, fun _ _ _ _ _ h => h, fun _ _ _ _ hle ⟨e1, e2, h0_⟩ => ⟨e1, e2, RSl.mono hle h0_⟩, fun _ _ _ _ _ h => h, fun _ _ _ _ hle ⟨bk31, of32, e1, e2, h0_⟩ => ⟨_, _, e1, e2, CellsAt.mono hle h0_⟩, fun _ _ _ _ _ h => h, fun _ _ _ _ _ h => h, trivial⟩ (by kernel_rfl) (by kernel_rfl) rfl (by kernel_rfl) rfl rfl ?_ ?_
        · refine dcons ?_ ?_
          · intro V34 G35 H36 fr37 hle38 hd39
            have hs41 := RSl.mono hle38 hs11
            refine ⟨_, some (), rfl, fun _ => ?_⟩
            refine s_env (env' := [(0, .slice a0_0 x0.length c0_0)]) (by exact ⟨rfl, trivial⟩) ?_
            refine o_mov rfl ?_
            exact s_pred fun tm w ht hE hI => ⟨(.slice a0_0 x0.length c0_0), [], _, fun d hd => (by cases hd; exact hE _ _ rfl), .refl _, by exact hI, ⟨rfl, rfl, hs41⟩⟩
          refine dcons ?_ ?_
          · intro V42 G43 H44 fr45 hle46 hd47
            refine ⟨_, some (), rfl, fun _ => ?_⟩
            refine s_env (env' := [(5, .int .i64 s6)]) (by exact ⟨rfl, trivial⟩) ?_
            refine o_mov rfl ?_
            exact s_pred fun tm w ht hE hI => ⟨(.int .i64 s6), [], _, fun d hd => (by cases hd; exact hE _ _ rfl), .refl _, by exact hI, ⟨rfl, rfl⟩⟩
          refine dcons ?_ ?_
          · intro V49 G50 H51 fr52 hle53 hd54
            obtain ⟨hv56, hg57, hp58⟩ := hd54 0 (by decide)
            obtain ⟨hv59, hg60⟩ := hd54 1 (by decide)
            refine ⟨_, (rd x0 s6).bind some, by rw [h19]; rfl, fun _ => ?_⟩
            refine s_env (env' := [(17, .slice a0_0 x0.length c0_0), (18, .int .i64 s6)]) (by exact ⟨congrArg some hv56, congrArg some hv59, trivial⟩) ?_
            refine o_ixf hp58 rfl rfl fun y14 bk62 of63 h61 hc64 => ?_
            obtain rfl := Option.some.inj (h19.symm.trans h61)
            exact s_pred fun tm w ht hE hI => ⟨(.pointer (some ⟨bk62, of63, none⟩)), [], _, fun d hd => (by cases hd; exact hE _ _ rfl), .refl _, by exact hI, ⟨bk62, of63, rfl, rfl, hc64⟩⟩
          refine dcons ?_ ?_
          · intro V65 G66 H67 fr68 hle69 hd70
            obtain ⟨bk72, of73, hv74, hg75, hp76⟩ := hd70 2 (by decide)
            refine ⟨_, some (), rfl, fun _ => ?_⟩
            refine s_env (env' := [(19, .pointer (some ⟨bk72, of73, none⟩))]) (by exact ⟨congrArg some hv74, trivial⟩) ?_
            refine o_ldH 0 hp76 rfl rfl rfl ?_
            exact s_pred fun tm w ht hE hI => ⟨(.int .i64 y14), [], _, fun d hd => (by cases hd; exact hE _ _ rfl), .refl _, by exact hI, ⟨rfl, rfl⟩⟩
          refine dcons ?_ ?_
          · intro V77 G78 H79 fr80 hle81 hd82
            have hs84 := RSl.mono hle81 hs12
            refine ⟨_, some (), rfl, fun _ => ?_⟩
            refine s_env (env' := [(1, .slice a1_0 x1.length c1_0)]) (by exact ⟨rfl, trivial⟩) ?_
            refine o_mov rfl ?_
            exact s_pred fun tm w ht hE hI => ⟨(.slice a1_0 x1.length c1_0), [], _, fun d hd => (by cases hd; exact hE _ _ rfl), .refl _, by exact hI, ⟨rfl, rfl, hs84⟩⟩
          refine dcons ?_ ?_
          · intro V85 G86 H87 fr88 hle89 hd90
            refine ⟨_, some (), rfl, fun _ => ?_⟩
            refine s_env (env' := [(5, .int .i64 s6)]) (by exact ⟨rfl, trivial⟩) ?_
            refine o_mov rfl ?_
            exact s_pred fun tm w ht hE hI => ⟨(.int .i64 s6), [], _, fun d hd => (by cases hd; exact hE _ _ rfl), .refl _, by exact hI, ⟨rfl, rfl⟩⟩
          refine dcons ?_ ?_
          · intro V92 G93 H94 fr95 hle96 hd97
            obtain ⟨hv99, hg100, hp101⟩ := hd97 4 (by decide)
            obtain ⟨hv102, hg103⟩ := hd97 5 (by decide)
            refine ⟨_, (rd x1 s6).bind some, by rw [h25]; rfl, fun _ => ?_⟩
            refine s_env (env' := [(21, .slice a1_0 x1.length c1_0), (22, .int .i64 s6)]) (by exact ⟨congrArg some hv99, congrArg some hv102, trivial⟩) ?_
            refine o_ixf hp101 rfl rfl fun y20 bk105 of106 h104 hc107 => ?_
            obtain rfl := Option.some.inj (h25.symm.trans h104)
            exact s_pred fun tm w ht hE hI => ⟨(.pointer (some ⟨bk105, of106, none⟩)), [], _, fun d hd => (by cases hd; exact hE _ _ rfl), .refl _, by exact hI, ⟨bk105, of106, rfl, rfl, hc107⟩⟩
          refine dcons ?_ ?_
          · intro V108 G109 H110 fr111 hle112 hd113
            obtain ⟨bk115, of116, hv117, hg118, hp119⟩ := hd113 6 (by decide)
            refine ⟨_, some (), rfl, fun _ => ?_⟩
            refine s_env (env' := [(23, .pointer (some ⟨bk115, of116, none⟩))]) (by exact ⟨congrArg some hv117, trivial⟩) ?_
            refine o_ldH 0 hp119 rfl rfl rfl ?_
            exact s_pred fun tm w ht hE hI => ⟨(.int .i64 y20), [], _, fun d hd => (by cases hd; exact hE _ _ rfl), .refl _, by exact hI, ⟨rfl, rfl⟩⟩
          refine dcons ?_ ?_
          · intro V120 G121 H122 fr123 hle124 hd125
            obtain ⟨hv127, hg128⟩ := hd125 3 (by decide)
            obtain ⟨hv129, hg130⟩ := hd125 7 (by decide)
            refine ⟨_, some (), rfl, fun _ => ?_⟩
            refine s_env (env' := [(20, .int .i64 y14), (24, .int .i64 y20)]) (by exact ⟨congrArg some hv127, congrArg some hv129, trivial⟩) ?_
            refine o_ne rfl rfl ?_
            exact s_pred fun tm w ht hE hI => ⟨(.bool (y14 != y20)), [], _, fun d hd => (by cases hd; exact hE _ _ rfl), .refl _, by exact hI, ⟨rfl, rfl⟩⟩
          exact dnil
        · intro V133 G134 H131 hle132 hF135
          have hs136 := RSl.mono hle132 hs11
          have hs137 := RSl.mono hle132 hs12
          obtain ⟨hv138, hg139⟩ := hF135 8 (show 8 < 9 by decide)
          refine s_env (env' := [(25, .bool (y14 != y20)), (0, .slice a0_0 x0.length c0_0), (1, .slice a1_0 x1.length c1_0), (5, .int .i64 s6), (11, .int .i64 s6), (12, .slice a0_0 x0.length c0_0), (13, .int .i64 (x0.length : Int)), (14, .bool (decide (s6 < (x0.length : Int))))]) (by exact ⟨congrArg some hv138, rfl, rfl, rfl, rfl, rfl, rfl, rfl, trivial⟩) ?_
          refine s_own (List.sublist_append_left _ _) ?_
          refine s_done ?_
          refine s_cond rfl (fun h140 => ?_) (fun h140 => ?_)
          · refine s_seq ?_
            refine s_region ?_
            refine o_asg rfl ?_
            refine s_done ?_
            refine s_lret ?_
            exact s_retv (xs := [.tmp 4]) (vs := [.bool false]) [] fn_19 rfl ⟨rv_tmp rfl, trivial⟩ .slnil ⟨rfl, rfl⟩
          · refine s_skip ?_
            refine s_inBlock ?_
            refine s_region ?_
            refine o_mov rfl ?_
            refine o_add rfl rfl ?_
            refine o_asg rfl ?_
            refine s_done ?_
            exact s_env (by exact ⟨rfl, rfl, rfl, trivial⟩) (s_own (by exact .slnil) (ih8 (w64 (s6 + 1)) _ _ _ ⟨rfl, rfl, (Hle.trans hle10 hle132)⟩))
      · refine s_exit rfl ?_
        exact s_env (by exact trivial) (s_own (by exact .slnil) (J5 () _ _ _ ⟨rfl, rfl, hle10⟩))

/-! catenary/catenaryref00.Bring -/
def catenaryref00_Bring (k : Nat) (x0 : Int) (x1 : Int) : Option Int :=
  (grem .i64 x0 x1).bind fun y1 =>
  if (decide (y1 < 0)) = true then
    some (w64 (y1 + x1))
  else
    some y1
theorem fn_25 : Try.prog.funcs[25]? = some Try.f25 := by kernel_rfl
set_option maxRecDepth 100000 in
set_option maxHeartbeats 4000000 in
theorem catenaryref00_Bring_ok (k : Nat) (H : Heap) (x0 : Int) (x1 : Int) {r : Int} (hr : catenaryref00_Bring k x0 x1 = some r) :
    Fn Try.prog 25 [.int .i64 x0, .int .i64 x1] H [] fun H' v out => v = .int .i64 r ∧ out = [] := by
  refine fn_of_sim (args := [.int .i64 x0, .int .i64 x1]) (n := 14) (Φ := fun r H' v out => v = .int .i64 r ∧ out = []) hr fn_25 rfl rfl rfl fun w => ?_
  refine s_eq (by rw [catenaryref00_Bring]) ?_
  refine s_seq ?_
  refine s_region ?_
  refine o_asg rfl ?_
  refine s_done ?_
  refine s_seq ?_
  refine s_region ?_
  refine o_mov rfl ?_
  refine o_mov rfl ?_
  refine o_remV rfl rfl fun y1 h2 => ?_
  refine o_asg rfl ?_
  refine s_done ?_
  refine s_seq ?_
  refine s_seq ?_
  refine s_region ?_
  refine o_mov rfl ?_
  refine o_lt rfl rfl ?_
  refine s_done ?_
  refine s_cond rfl (fun h3 => ?_) (fun h3 => ?_)
  · refine s_region ?_
    refine o_mov rfl ?_
    refine o_mov rfl ?_
    refine o_add rfl rfl ?_
    refine o_asg rfl ?_
    refine s_done ?_
    refine s_seq ?_
    refine s_region ?_
    refine o_mov rfl ?_
    refine o_asg rfl ?_
    refine s_done ?_
    exact s_retv (xs := [.tmp 4]) (vs := [.int .i64 (w64 (y1 + x1))]) [] fn_25 rfl ⟨rv_tmp rfl, trivial⟩ .slnil ⟨rfl, rfl⟩
  · refine s_skip ?_
    refine s_seq ?_
    refine s_region ?_
    refine o_mov rfl ?_
    refine o_asg rfl ?_
    refine s_done ?_
    exact s_retv (xs := [.tmp 4]) (vs := [.int .i64 y1]) [] fn_25 rfl ⟨rv_tmp rfl, trivial⟩ .slnil ⟨rfl, rfl⟩

/-! catenary/catenarylaw12.link -/
def catenarylaw12_link (k : Nat) (x0 : Int) (x1 : Int) (x2 : Int) (x3 : Int) : Option Link :=
  some (⟨(⟨x0, x1⟩ : End), (⟨x2, x3⟩ : End)⟩ : Link)
theorem fn_27 : Try.prog.funcs[27]? = some Try.f27 := by kernel_rfl
set_option maxRecDepth 100000 in
set_option maxHeartbeats 4000000 in
theorem catenarylaw12_link_ok (k : Nat) (H : Heap) (x0 : Int) (x1 : Int) (x2 : Int) (x3 : Int) {r : Link} (hr : catenarylaw12_link k x0 x1 x2 x3 = some r) :
    Fn Try.prog 27 [.int .i64 x0, .int .i64 x1, .int .i64 x2, .int .i64 x3] H [] fun H' v out => v = .agg #[.int .i64 r.A.Switch, .int .i64 r.A.Port, .int .i64 r.B.Switch, .int .i64 r.B.Port] ∧ out = [] := by
  refine fn_of_sim (args := [.int .i64 x0, .int .i64 x1, .int .i64 x2, .int .i64 x3]) (n := 16) (Φ := fun r H' v out => v = .agg #[.int .i64 r.A.Switch, .int .i64 r.A.Port, .int .i64 r.B.Switch, .int .i64 r.B.Port] ∧ out = []) hr fn_27 rfl rfl rfl fun w => ?_
  refine s_eq (by rw [catenarylaw12_link]) ?_
  refine s_seq ?_
  refine s_region ?_
  refine o_alloc fun b1 => ?_
  refine s_done ?_
  refine s_seq ?_
  refine s_region ?_
  refine o_mov rfl ?_
  refine o_mov rfl ?_
  refine o_bld rfl rfl ?_
  refine o_mov rfl ?_
  refine o_mov rfl ?_
  refine o_bld rfl rfl ?_
  refine o_bld rfl rfl ?_
  refine o_st 0 rfl rfl rfl rfl rfl rfl ?_
  refine s_done ?_
  exact s_retv (xs := [.cell 8 40]) (vs := [.agg #[.int .i64 x0, .int .i64 x1, .int .i64 x2, .int .i64 x3]]) [] fn_27 rfl ⟨rv_cell 0 rfl rfl rfl rfl, trivial⟩ (.cons _ .slnil) ⟨rfl, rfl⟩

/-! catenary/catenarylaw12.in -/
def catenarylaw12_in_l0 (k : Nat) (x0 : (List Int)) (x1 : Int) : Nat → Int → Option (LX (Bool) (Unit))
  | 0, _ => none
  | q6 + 1, s5 =>
    if (decide (s5 < (x0.length : Int))) = true then
      (rd x0 s5).bind fun y12 =>
      if (y12 == x1) = true then
        some (.ret true)
      else
        catenarylaw12_in_l0 k x0 x1 q6 (w64 (s5 + 1))
    else
      some (.out ())
def catenarylaw12_in (k : Nat) (x0 : (List Int)) (x1 : Int) : Option Bool :=
  (catenarylaw12_in_l0 k x0 x1 k 0).bind (LX.go fun p1 =>
  some false)
theorem fn_23 : Try.prog.funcs[23]? = some Try.f23 := by kernel_rfl
set_option maxRecDepth 100000 in
set_option maxHeartbeats 4000000 in
theorem catenarylaw12_in_ok (k : Nat) (H : Heap) (x0 : (List Int)) (a0_0 : Option Addr) (c0_0 : Nat) (hx0_0 : RSl H a0_0 c0_0 x0) (x1 : Int) {r : Bool} (hr : catenarylaw12_in k x0 x1 = some r) :
    Fn Try.prog 23 [.slice a0_0 x0.length c0_0, .int .i64 x1] H [] fun H' v out => v = .bool r ∧ out = [] := by
  refine fn_of_sim (args := [.slice a0_0 x0.length c0_0, .int .i64 x1]) (n := 18) (Φ := fun r H' v out => v = .bool r ∧ out = []) hr fn_23 rfl rfl rfl fun w => ?_
  refine s_eq (by rw [catenarylaw12_in]) ?_
  refine s_seq ?_
  refine s_region ?_
  refine o_asg rfl ?_
  refine s_done ?_
  refine s_seq ?_
  refine s_seq ?_
  refine s_region ?_
  refine o_asg rfl ?_
  refine s_done ?_
  refine s_joinL (fun p1 env own H' => env = [] ∧ own = [] ∧ Hle H H') ?_ ?_
  · rintro p1 _ _ H2 ⟨rfl, rfl, hle3⟩
    refine s_seq ?_
    refine s_region ?_
    refine o_asg rfl ?_
    refine s_done ?_
    exact s_retv (xs := [.tmp 4]) (vs := [.bool false]) [] fn_23 rfl ⟨rv_tmp rfl, trivial⟩ .slnil ⟨rfl, rfl⟩
  · intro J4
    refine s_block ?_
    refine s_env (env' := [(0, .slice a0_0 x0.length c0_0), (1, .int .i64 x1), (5, .int .i64 0)]) (by exact ⟨rfl, rfl, rfl, trivial⟩) ?_
    refine s_own (own' := []) .slnil ?_
    refine s_loopn (fun q s5 => catenarylaw12_in_l0 k x0 x1 q s5) (fun s5 env own H' => env = [(0, .slice a0_0 x0.length c0_0), (1, .int .i64 x1), (5, .int .i64 s5)] ∧ own = [] ∧ Hle H H') (fun _ => rfl) ?_ k 0 ⟨rfl, rfl, .refl _⟩
    rintro q6 ih7 s5 _ _ H8 ⟨rfl, rfl, hle9⟩
    refine s_eq (by rw [catenarylaw12_in_l0]) ?_
    have hs10 := RSl.mono hle9 hx0_0
    refine s_seq ?_
    refine s_seq ?_
    refine s_region ?_
    refine o_mov rfl ?_
    refine o_mov rfl ?_
    refine o_lenS rfl ?_
    refine o_lt rfl rfl ?_
    refine s_done ?_
    refine s_cond rfl (fun h11 => ?_) (fun h11 => ?_)
    · refine s_skip ?_
      refine s_seq ?_
      refine s_block ?_
      refine s_seq ?_
      refine s_region ?_
      refine o_mov rfl ?_
      refine o_mov rfl ?_
      refine o_ixf hs10 rfl rfl fun y12 bk14 of15 h13 hc16 => ?_
      refine o_ldH 0 hc16 rfl rfl rfl ?_
      refine o_mov rfl ?_
      refine o_eq rfl rfl ?_
      refine s_done ?_
      refine s_cond rfl (fun h17 => ?_) (fun h17 => ?_)
      · refine s_seq ?_
        refine s_region ?_
        refine o_asg rfl ?_
        refine s_done ?_
        refine s_lret ?_
        exact s_retv (xs := [.tmp 4]) (vs := [.bool true]) [] fn_23 rfl ⟨rv_tmp rfl, trivial⟩ .slnil ⟨rfl, rfl⟩
      · refine s_skip ?_
        refine s_inBlock ?_
        refine s_region ?_
        refine o_mov rfl ?_
        refine o_add rfl rfl ?_
        refine o_asg rfl ?_
        refine s_done ?_
        exact s_env (by exact ⟨rfl, rfl, rfl, trivial⟩) (s_own (by exact .slnil) (ih7 (w64 (s5 + 1)) _ _ _ ⟨rfl, rfl, hle9⟩))
    · refine s_exit rfl ?_
      exact s_env (by exact trivial) (s_own (by exact .slnil) (J4 () _ _ _ ⟨rfl, rfl, hle9⟩))

/-! catenary/catenaryref12.end -/
def catenaryref12_end (k : Nat) (x0 : Graph) (x1 : End) : Option Bool :=
  if (decide (x1.Switch ≥ 1)) = true then
    if (decide (x1.Switch ≤ x0.Switches)) = true then
      if (decide (x1.Port ≥ 1)) = true then
        some (decide (x1.Port ≤ 4))
      else
        some false
    else
      some false
  else
    some false
theorem fn_55 : Try.prog.funcs[55]? = some Try.f55 := by kernel_rfl
set_option maxRecDepth 100000 in
set_option maxHeartbeats 4000000 in
theorem catenaryref12_end_ok (k : Nat) (H : Heap) (x0 : Graph) (a0_0 : Option Addr) (c0_0 : Nat) (hx0_0 : RSl H a0_0 c0_0 x0.Links) (x1 : End) {r : Bool} (hr : catenaryref12_end k x0 x1 = some r) :
    Fn Try.prog 55 [.agg #[.int .i64 x0.Switches, .slice a0_0 x0.Links.length c0_0], .agg #[.int .i64 x1.Switch, .int .i64 x1.Port]] H [] fun H' v out => v = .bool r ∧ out = [] := by
  refine fn_of_sim (args := [.agg #[.int .i64 x0.Switches, .slice a0_0 x0.Links.length c0_0], .agg #[.int .i64 x1.Switch, .int .i64 x1.Port]]) (n := 25) (Φ := fun r H' v out => v = .bool r ∧ out = []) hr fn_55 rfl rfl rfl fun w => ?_
  refine s_eq (by rw [catenaryref12_end]) ?_
  refine s_seq ?_
  refine s_region ?_
  refine o_box rfl fun b1 => ?_
  refine o_box rfl fun b3 => ?_
  refine o_asg rfl ?_
  refine s_done ?_
  refine s_seq ?_
  refine s_region ?_
  refine o_fa rfl ?_
  refine o_ld 1 rfl rfl rfl ?_
  refine o_ge rfl rfl ?_
  refine o_mov rfl ?_
  refine s_split (decide (x1.Switch ≥ 1)) (fun h5 => ?_) (fun h5 => ?_)
  · refine s_want rfl rfl h5 ?_
    refine o_fa rfl ?_
    refine s_want rfl rfl h5 ?_
    refine o_ld 1 rfl rfl rfl ?_
    refine s_want rfl rfl h5 ?_
    refine o_fa rfl ?_
    refine s_want rfl rfl h5 ?_
    refine o_ld 0 rfl rfl rfl ?_
    refine s_want rfl rfl h5 ?_
    refine o_le rfl rfl ?_
    refine o_pickT rfl h5 rfl ?_
    refine o_mov rfl ?_
    refine s_split (decide (x1.Switch ≤ x0.Switches)) (fun h6 => ?_) (fun h6 => ?_)
    · refine s_want rfl rfl h6 ?_
      refine o_fa rfl ?_
      refine s_want rfl rfl h6 ?_
      refine o_ld 1 rfl rfl rfl ?_
      refine s_want rfl rfl h6 ?_
      refine o_ge rfl rfl ?_
      refine o_pickT rfl h6 rfl ?_
      refine o_mov rfl ?_
      refine s_split (decide (x1.Port ≥ 1)) (fun h7 => ?_) (fun h7 => ?_)
      · refine s_want rfl rfl h7 ?_
        refine o_fa rfl ?_
        refine s_want rfl rfl h7 ?_
        refine o_ld 1 rfl rfl rfl ?_
        refine s_want rfl rfl h7 ?_
        refine o_le rfl rfl ?_
        refine o_pickT rfl h7 rfl ?_
        refine o_asg rfl ?_
        refine s_done ?_
        exact s_retv (xs := [.tmp 4]) (vs := [.bool (decide (x1.Port ≤ 4))]) [] fn_55 rfl ⟨rv_tmp rfl, trivial⟩ (.cons _ (.cons _ .slnil)) ⟨rfl, rfl⟩
      · refine s_unwant rfl rfl h7 ?_
        refine s_unwant rfl rfl h7 ?_
        refine s_unwant rfl rfl h7 ?_
        refine o_pickF rfl h7 rfl ?_
        refine o_asg rfl ?_
        refine s_done ?_
        exact s_retv (xs := [.tmp 4]) (vs := [.bool false]) [] fn_55 rfl ⟨rv_tmp rfl, trivial⟩ (.cons _ (.cons _ .slnil)) ⟨rfl, rfl⟩
    · refine s_unwant rfl rfl h6 ?_
      refine s_unwant rfl rfl h6 ?_
      refine s_unwant rfl rfl h6 ?_
      refine o_pickF rfl h6 rfl ?_
      refine o_mov rfl ?_
      refine s_unwant rfl rfl rfl ?_
      refine s_unwant rfl rfl rfl ?_
      refine s_unwant rfl rfl rfl ?_
      refine o_pickF rfl rfl rfl ?_
      refine o_asg rfl ?_
      refine s_done ?_
      exact s_retv (xs := [.tmp 4]) (vs := [.bool false]) [] fn_55 rfl ⟨rv_tmp rfl, trivial⟩ (.cons _ (.cons _ .slnil)) ⟨rfl, rfl⟩
  · refine s_unwant rfl rfl h5 ?_
    refine s_unwant rfl rfl h5 ?_
    refine s_unwant rfl rfl h5 ?_
    refine s_unwant rfl rfl h5 ?_
    refine s_unwant rfl rfl h5 ?_
    refine o_pickF rfl h5 rfl ?_
    refine o_mov rfl ?_
    refine s_unwant rfl rfl rfl ?_
    refine s_unwant rfl rfl rfl ?_
    refine s_unwant rfl rfl rfl ?_
    refine o_pickF rfl rfl rfl ?_
    refine o_mov rfl ?_
    refine s_unwant rfl rfl rfl ?_
    refine s_unwant rfl rfl rfl ?_
    refine s_unwant rfl rfl rfl ?_
    refine o_pickF rfl rfl rfl ?_
    refine o_asg rfl ?_
    refine s_done ?_
    exact s_retv (xs := [.tmp 4]) (vs := [.bool false]) [] fn_55 rfl ⟨rv_tmp rfl, trivial⟩ (.cons _ (.cons _ .slnil)) ⟨rfl, rfl⟩

/-! catenary/catenaryref12.shares -/
def catenaryref12_shares (k : Nat) (x0 : Link) (x1 : Link) : Option Bool :=
  if (decide (x0.A = x1.A)) = true then
    some true
  else
    if (decide (x0.A = x1.B)) = true then
      some true
    else
      if (decide (x0.B = x1.A)) = true then
        some true
      else
        some (decide (x0.B = x1.B))
theorem fn_56 : Try.prog.funcs[56]? = some Try.f56 := by kernel_rfl
set_option maxRecDepth 100000 in
set_option maxHeartbeats 4000000 in
theorem catenaryref12_shares_ok (k : Nat) (H : Heap) (x0 : Link) (x1 : Link) {r : Bool} (hr : catenaryref12_shares k x0 x1 = some r) :
    Fn Try.prog 56 [.agg #[.int .i64 x0.A.Switch, .int .i64 x0.A.Port, .int .i64 x0.B.Switch, .int .i64 x0.B.Port], .agg #[.int .i64 x1.A.Switch, .int .i64 x1.A.Port, .int .i64 x1.B.Switch, .int .i64 x1.B.Port]] H [] fun H' v out => v = .bool r ∧ out = [] := by
  refine fn_of_sim (args := [.agg #[.int .i64 x0.A.Switch, .int .i64 x0.A.Port, .int .i64 x0.B.Switch, .int .i64 x0.B.Port], .agg #[.int .i64 x1.A.Switch, .int .i64 x1.A.Port, .int .i64 x1.B.Switch, .int .i64 x1.B.Port]]) (n := 31) (Φ := fun r H' v out => v = .bool r ∧ out = []) hr fn_56 rfl rfl rfl fun w => ?_
  refine s_eq (by rw [catenaryref12_shares]) ?_
  refine s_seq ?_
  refine s_region ?_
  refine o_box rfl fun b1 => ?_
  refine o_box rfl fun b3 => ?_
  refine o_asg rfl ?_
  refine s_done ?_
  refine s_seq ?_
  refine s_region ?_
  refine o_fa rfl ?_
  refine o_ld 0 rfl rfl rfl ?_
  refine o_fa rfl ?_
  refine o_ld 1 rfl rfl rfl ?_
  refine o_eqS x0.A x1.A rfl rfl ?_
  refine o_mov rfl ?_
  refine s_split (decide (x0.A = x1.A)) (fun h5 => ?_) (fun h5 => ?_)
  · refine s_unwant rfl rfl h5 ?_
    refine s_unwant rfl rfl h5 ?_
    refine s_unwant rfl rfl h5 ?_
    refine s_unwant rfl rfl h5 ?_
    refine s_unwant rfl rfl h5 ?_
    refine o_pickT rfl h5 rfl ?_
    refine o_mov rfl ?_
    refine s_unwant rfl rfl rfl ?_
    refine s_unwant rfl rfl rfl ?_
    refine s_unwant rfl rfl rfl ?_
    refine s_unwant rfl rfl rfl ?_
    refine s_unwant rfl rfl rfl ?_
    refine o_pickT rfl rfl rfl ?_
    refine o_mov rfl ?_
    refine s_unwant rfl rfl rfl ?_
    refine s_unwant rfl rfl rfl ?_
    refine s_unwant rfl rfl rfl ?_
    refine s_unwant rfl rfl rfl ?_
    refine s_unwant rfl rfl rfl ?_
    refine o_pickT rfl rfl rfl ?_
    refine o_asg rfl ?_
    refine s_done ?_
    exact s_retv (xs := [.tmp 4]) (vs := [.bool true]) [] fn_56 rfl ⟨rv_tmp rfl, trivial⟩ (.cons _ (.cons _ .slnil)) ⟨rfl, rfl⟩
  · refine s_want rfl rfl h5 ?_
    refine o_fa rfl ?_
    refine s_want rfl rfl h5 ?_
    refine o_ld 0 rfl rfl rfl ?_
    refine s_want rfl rfl h5 ?_
    refine o_fa rfl ?_
    refine s_want rfl rfl h5 ?_
    refine o_ld 1 rfl rfl rfl ?_
    refine s_want rfl rfl h5 ?_
    refine o_eqS x0.A x1.B rfl rfl ?_
    refine o_pickF rfl h5 rfl ?_
    refine o_mov rfl ?_
    refine s_split (decide (x0.A = x1.B)) (fun h6 => ?_) (fun h6 => ?_)
    · refine s_unwant rfl rfl h6 ?_
      refine s_unwant rfl rfl h6 ?_
      refine s_unwant rfl rfl h6 ?_
      refine s_unwant rfl rfl h6 ?_
      refine s_unwant rfl rfl h6 ?_
      refine o_pickT rfl h6 rfl ?_
      refine o_mov rfl ?_
      refine s_unwant rfl rfl rfl ?_
      refine s_unwant rfl rfl rfl ?_
      refine s_unwant rfl rfl rfl ?_
      refine s_unwant rfl rfl rfl ?_
      refine s_unwant rfl rfl rfl ?_
      refine o_pickT rfl rfl rfl ?_
      refine o_asg rfl ?_
      refine s_done ?_
      exact s_retv (xs := [.tmp 4]) (vs := [.bool true]) [] fn_56 rfl ⟨rv_tmp rfl, trivial⟩ (.cons _ (.cons _ .slnil)) ⟨rfl, rfl⟩
    · refine s_want rfl rfl h6 ?_
      refine o_fa rfl ?_
      refine s_want rfl rfl h6 ?_
      refine o_ld 0 rfl rfl rfl ?_
      refine s_want rfl rfl h6 ?_
      refine o_fa rfl ?_
      refine s_want rfl rfl h6 ?_
      refine o_ld 1 rfl rfl rfl ?_
      refine s_want rfl rfl h6 ?_
      refine o_eqS x0.B x1.A rfl rfl ?_
      refine o_pickF rfl h6 rfl ?_
      refine o_mov rfl ?_
      refine s_split (decide (x0.B = x1.A)) (fun h7 => ?_) (fun h7 => ?_)
      · refine s_unwant rfl rfl h7 ?_
        refine s_unwant rfl rfl h7 ?_
        refine s_unwant rfl rfl h7 ?_
        refine s_unwant rfl rfl h7 ?_
        refine s_unwant rfl rfl h7 ?_
        refine o_pickT rfl h7 rfl ?_
        refine o_asg rfl ?_
        refine s_done ?_
        exact s_retv (xs := [.tmp 4]) (vs := [.bool true]) [] fn_56 rfl ⟨rv_tmp rfl, trivial⟩ (.cons _ (.cons _ .slnil)) ⟨rfl, rfl⟩
      · refine s_want rfl rfl h7 ?_
        refine o_fa rfl ?_
        refine s_want rfl rfl h7 ?_
        refine o_ld 0 rfl rfl rfl ?_
        refine s_want rfl rfl h7 ?_
        refine o_fa rfl ?_
        refine s_want rfl rfl h7 ?_
        refine o_ld 1 rfl rfl rfl ?_
        refine s_want rfl rfl h7 ?_
        refine o_eqS x0.B x1.B rfl rfl ?_
        refine o_pickF rfl h7 rfl ?_
        refine o_asg rfl ?_
        refine s_done ?_
        exact s_retv (xs := [.tmp 4]) (vs := [.bool (decide (x0.B = x1.B))]) [] fn_56 rfl ⟨rv_tmp rfl, trivial⟩ (.cons _ (.cons _ .slnil)) ⟨rfl, rfl⟩

/-! catenary/catenaryref12.Check -/
def catenaryref12_Check_l1 (k : Nat) (x0 : Graph) (s8 : Int) (y15 : Link) : Nat → Int → Option (LX (LX (Int) (Unit)) (Unit))
  | 0, _ => none
  | q33 + 1, s32 =>
    if (decide (s32 < s8)) = true then
      (rd x0.Links s32).bind fun y39 =>
      (catenaryref12_shares k y15 y39).bind fun y45 =>
      if (y45) = true then
        some (.ret (.ret 2))
      else
        catenaryref12_Check_l1 k x0 s8 y15 q33 (w64 (s32 + 1))
    else
      some (.out ())
def catenaryref12_Check_l0 (k : Nat) (x0 : Graph) : Nat → Int → Option (LX (Int) (Unit))
  | 0, _ => none
  | q9 + 1, s8 =>
    if (decide (s8 < (x0.Links.length : Int))) = true then
      (rd x0.Links s8).bind fun y15 =>
      ((catenaryref12_end k x0 y15.A).bind fun y135 =>
        if (!y135) = true then
          some true
        else
          (catenaryref12_end k x0 y15.B).bind fun y138 =>
          if (!y138) = true then
            some true
          else
            some (y15.A.Switch == y15.B.Switch)).bind fun p22 =>
      if (p22) = true then
        some (.ret 2)
      else
        (catenaryref12_Check_l1 k x0 s8 y15 k 0).bind (LX.go fun p27 =>
        catenaryref12_Check_l0 k x0 q9 (w64 (s8 + 1)))
    else
      some (.out ())
def catenaryref12_Check (k : Nat) (x0 : Graph) : Option Int :=
  if (((decide (x0.Switches < 1)) || ((decide (x0.Switches > 6)) || decide ((x0.Links.length : Int) > 12)))) = true then
    some 2
  else
    (catenaryref12_Check_l0 k x0 k 0).bind (LX.go fun p4 =>
    some 0)
theorem fn_18 : Try.prog.funcs[18]? = some Try.f18 := by kernel_rfl
set_option maxRecDepth 100000 in
set_option maxHeartbeats 4000000 in
theorem catenaryref12_Check_ok (k : Nat) (H : Heap) (x0 : Graph) (a0_0 : Option Addr) (c0_0 : Nat) (hx0_0 : RSl H a0_0 c0_0 x0.Links) {r : Int} (hr : catenaryref12_Check k x0 = some r) :
    Fn Try.prog 18 [.agg #[.int .i64 x0.Switches, .slice a0_0 x0.Links.length c0_0]] H [] fun H' v out => v = .int .i64 r ∧ out = [] := by
  refine fn_of_sim (args := [.agg #[.int .i64 x0.Switches, .slice a0_0 x0.Links.length c0_0]]) (n := 65) (Φ := fun r H' v out => v = .int .i64 r ∧ out = []) hr fn_18 rfl rfl rfl fun w => ?_
  refine s_eq (by rw [catenaryref12_Check]) ?_
  refine s_seq ?_
  refine s_region ?_
  refine o_box rfl fun b1 => ?_
  refine o_asg rfl ?_
  refine s_done ?_
  refine s_seq ?_
  refine s_seq ?_
  refine s_region ?_
  refine s_mid [(1, .pointer (some ⟨b1, 0, none⟩)), (19, .bool ((decide (x0.Switches < 1)) || ((decide (x0.Switches > 6)) || decide ((x0.Links.length : Int) > 12))))] [.blk b1 (rowObj [.int .i64 x0.Switches, .slice a0_0 x0.Links.length c0_0] 24)] ?_ ?_
  · refine s_cond rfl (fun h3 => ?_) (fun h3 => ?_)
    · refine s_seq ?_
      refine s_region ?_
      refine o_asg rfl ?_
      refine s_done ?_
      exact s_retv (xs := [.tmp 2]) (vs := [.int .i64 2]) [] fn_18 rfl ⟨rv_tmp rfl, trivial⟩ (.cons _ .slnil) ⟨rfl, rfl⟩
    · refine s_skip ?_
      refine s_seq ?_
      refine s_seq ?_
      refine s_region ?_
      refine o_asg rfl ?_
      refine s_done ?_
      refine s_joinL (fun p4 env own H' => env = [] ∧ own = [] ∧ Hle H H') ?_ ?_
      · rintro p4 _ _ H5 ⟨rfl, rfl, hle6⟩
        refine s_seq ?_
        refine s_region ?_
        refine o_asg rfl ?_
        refine s_done ?_
        exact s_retv (xs := [.tmp 2]) (vs := [.int .i64 0]) [] fn_18 rfl ⟨rv_tmp rfl, trivial⟩ .slnil ⟨rfl, rfl⟩
      · intro J7
        refine s_block ?_
        refine s_env (env' := [(1, .pointer (some ⟨b1, 0, none⟩)), (3, .int .i64 0)]) (by exact ⟨rfl, rfl, trivial⟩) ?_
        refine s_own (own' := [.blk b1 (rowObj [.int .i64 x0.Switches, .slice a0_0 x0.Links.length c0_0] 24)]) (.cons_cons _ .slnil) ?_
        refine s_loopn (fun q s8 => catenaryref12_Check_l0 k x0 q s8) (fun s8 env own H' => env = [(1, .pointer (some ⟨b1, 0, none⟩)), (3, .int .i64 s8)] ∧ own = [.blk b1 (rowObj [.int .i64 x0.Switches, .slice a0_0 x0.Links.length c0_0] 24)] ∧ Hle H H') (fun _ => rfl) ?_ k 0 ⟨rfl, rfl, .refl _⟩
        rintro q9 ih10 s8 _ _ H11 ⟨rfl, rfl, hle12⟩
        refine s_eq (by rw [catenaryref12_Check_l0]) ?_
        have hs13 := RSl.mono hle12 hx0_0
        refine s_seq ?_
        refine s_seq ?_
        refine s_region ?_
        refine o_mov rfl ?_
        refine o_fa rfl ?_
        refine o_ld 0 rfl rfl rfl ?_
        refine o_lenS rfl ?_
        refine o_lt rfl rfl ?_
        refine s_done ?_
        refine s_cond rfl (fun h14 => ?_) (fun h14 => ?_)
        · refine s_skip ?_
          refine s_seq ?_
          refine s_block ?_
          refine s_seq ?_
          refine s_region ?_
          refine o_fa rfl ?_
          refine o_ld 0 rfl rfl rfl ?_
          refine o_mov rfl ?_
          refine o_ixf hs13 rfl rfl fun y15 bk17 of18 h16 hc19 => ?_
          refine o_ldH 0 hc19 rfl rfl rfl ?_
          refine o_alloc fun b20 => ?_
          refine o_st 1 rfl rfl rfl rfl rfl rfl ?_
          refine s_done ?_
          refine s_seq ?_
          refine s_seq ?_
          refine s_region ?_
          refine s_joinR (fun p22 env own H' => env = [(1, .pointer (some ⟨b1, 0, none⟩)), (3, .int .i64 s8), (4, .pointer (some ⟨b20, 0, none⟩)), (52, .bool p22)] ∧ own = [.blk b1 (rowObj [.int .i64 x0.Switches, .slice a0_0 x0.Links.length c0_0] 24), .blk b20 (rowObj [.int .i64 y15.A.Switch, .int .i64 y15.A.Port, .int .i64 y15.B.Switch, .int .i64 y15.B.Port] 40)] ∧ Hle H11 H') ?_ ?_
          · rintro p22 _ _ H23 ⟨rfl, rfl, hle24⟩
            have hs25 := RSl.mono hle24 hs13
            refine s_cond rfl (fun h26 => ?_) (fun h26 => ?_)
            · refine s_seq ?_
              refine s_region ?_
              refine o_asg rfl ?_
              refine s_done ?_
              refine s_lret ?_
              exact s_retv (xs := [.tmp 2]) (vs := [.int .i64 2]) [] fn_18 rfl ⟨rv_tmp rfl, trivial⟩ (.cons _ (.cons _ .slnil)) ⟨rfl, rfl⟩
            · refine s_skip ?_
              refine s_seq ?_
              refine s_region ?_
              refine o_asg rfl ?_
              refine s_done ?_
              refine s_joinL (fun p27 env own H' => env = [(1, .pointer (some ⟨b1, 0, none⟩)), (3, .int .i64 s8)] ∧ own = [.blk b1 (rowObj [.int .i64 x0.Switches, .slice a0_0 x0.Links.length c0_0] 24)] ∧ Hle H23 H') ?_ ?_
              · rintro p27 _ _ H28 ⟨rfl, rfl, hle29⟩
                have hs30 := RSl.mono hle29 hs25
                refine s_inBlock ?_
                refine s_region ?_
                refine o_mov rfl ?_
                refine o_add rfl rfl ?_
                refine o_asg rfl ?_
                refine s_done ?_
                exact s_env (by exact ⟨rfl, rfl, trivial⟩) (s_own (by exact (.cons_cons _ .slnil)) (ih10 (w64 (s8 + 1)) _ _ _ ⟨rfl, rfl, (Hle.trans (Hle.trans hle12 hle24) hle29)⟩))
              · intro J31
                refine s_block ?_
                refine s_env (env' := [(1, .pointer (some ⟨b1, 0, none⟩)), (3, .int .i64 s8), (4, .pointer (some ⟨b20, 0, none⟩)), (5, .int .i64 0)]) (by exact ⟨rfl, rfl, rfl, rfl, trivial⟩) ?_
                refine s_own (own' := [.blk b1 (rowObj [.int .i64 x0.Switches, .slice a0_0 x0.Links.length c0_0] 24), .blk b20 (rowObj [.int .i64 y15.A.Switch, .int .i64 y15.A.Port, .int .i64 y15.B.Switch, .int .i64 y15.B.Port] 40)]) (.cons_cons _ (.cons_cons _ .slnil)) ?_
                refine s_loopn (fun q s32 => catenaryref12_Check_l1 k x0 s8 y15 q s32) (fun s32 env own H' => env = [(1, .pointer (some ⟨b1, 0, none⟩)), (3, .int .i64 s8), (4, .pointer (some ⟨b20, 0, none⟩)), (5, .int .i64 s32)] ∧ own = [.blk b1 (rowObj [.int .i64 x0.Switches, .slice a0_0 x0.Links.length c0_0] 24), .blk b20 (rowObj [.int .i64 y15.A.Switch, .int .i64 y15.A.Port, .int .i64 y15.B.Switch, .int .i64 y15.B.Port] 40)] ∧ Hle H23 H') (fun _ => rfl) ?_ k 0 ⟨rfl, rfl, .refl _⟩
                rintro q33 ih34 s32 _ _ H35 ⟨rfl, rfl, hle36⟩
                refine s_eq (by rw [catenaryref12_Check_l1]) ?_
                have hs37 := RSl.mono hle36 hs25
                refine s_seq ?_
                refine s_seq ?_
                refine s_region ?_
                refine o_mov rfl ?_
                refine o_mov rfl ?_
                refine o_lt rfl rfl ?_
                refine s_done ?_
                refine s_cond rfl (fun h38 => ?_) (fun h38 => ?_)
                · refine s_skip ?_
                  refine s_seq ?_
                  refine s_block ?_
                  refine s_seq ?_
                  refine s_bg fun y39 h44 => ?_
                  refine s_bg fun y45 h47 => ?_
                  refine s_drawL [(fun H v g => v = .agg #[.int .i64 y15.A.Switch, .int .i64 y15.A.Port, .int .i64 y15.B.Switch, .int .i64 y15.B.Port] ∧ g = []),
      (fun H v g => v = .pointer (some ⟨b1, 1, none⟩) ∧ g = []),
      (fun H v g => v = .slice a0_0 x0.Links.length c0_0 ∧ g = [] ∧ RSl H a0_0 c0_0 x0.Links),
      (fun H v g => v = .int .i64 s32 ∧ g = []),
      (fun H v g => ∃ bk49 of50, v = .pointer (some ⟨bk49, of50, none⟩) ∧ g = [] ∧ CellsAt H bk49 of50 [.int .i64 y39.A.Switch, .int .i64 y39.A.Port, .int .i64 y39.B.Switch, .int .i64 y39.B.Port]),
      (fun H v g => v = .agg #[.int .i64 y39.A.Switch, .int .i64 y39.A.Port, .int .i64 y39.B.Switch, .int .i64 y39.B.Port] ∧ g = []),
      (fun H v g => v = .bool y45 ∧ g = [])] [[], [], [], [], [], [], []] mixed ⟨fun _ _ _ _ _ h => h, fun _ _ _ _ _ h => h, fun _ _ _ _ hle ⟨e1, e2, h0_⟩ => ⟨e1, e2, RSl.mono hle h0_⟩, fun _ _ _ _ _ h => h, fun _ _ _ _ hle ⟨bk49, of50, e1, e2, h0_⟩ => ⟨_, _, e1, e2, CellsAt.mono hle h0_⟩, fun _ _ _ _ _ h => h, fun _ _ _ _ _ h => h, trivial⟩ (by kernel_rfl) (by kernel_rfl) rfl (by kernel_rfl) rfl rfl ?_ ?_
                  · refine dcons ?_ ?_
                    · intro V53 G54 H55 fr56 hle57 hd58
                      refine ⟨_, some (), rfl, fun _ => ?_⟩
                      refine s_env (env' := [(4, .pointer (some ⟨b20, 0, none⟩))]) (by exact ⟨rfl, trivial⟩) ?_
                      refine o_ld 1 rfl rfl rfl ?_
                      exact s_pred fun tm w ht hE hI => ⟨(.agg #[.int .i64 y15.A.Switch, .int .i64 y15.A.Port, .int .i64 y15.B.Switch, .int .i64 y15.B.Port]), [], _, fun d hd => (by cases hd; exact hE _ _ rfl), .refl _, by exact hI, ⟨rfl, rfl⟩⟩
                    refine dcons ?_ ?_
                    · intro V60 G61 H62 fr63 hle64 hd65
                      have hs67 := RSl.mono hle64 hs37
                      refine ⟨_, some (), rfl, fun _ => ?_⟩
                      refine s_env (env' := [(1, .pointer (some ⟨b1, 0, none⟩))]) (by exact ⟨rfl, trivial⟩) ?_
                      refine o_fa rfl ?_
                      exact s_pred fun tm w ht hE hI => ⟨(.pointer (some ⟨b1, 1, none⟩)), [], _, fun d hd => (by cases hd; exact hE _ _ rfl), .refl _, by exact hI, ⟨rfl, rfl⟩⟩
                    refine dcons ?_ ?_
                    · intro V68 G69 H70 fr71 hle72 hd73
                      have hs75 := RSl.mono hle72 hs37
                      obtain ⟨hv76, hg77⟩ := hd73 1 (by decide)
                      refine ⟨_, some (), rfl, fun _ => ?_⟩
                      refine s_env (env' := [(59, .pointer (some ⟨b1, 1, none⟩))]) (by exact ⟨congrArg some hv76, trivial⟩) ?_
                      refine o_ld 0 rfl rfl rfl ?_
                      exact s_pred fun tm w ht hE hI => ⟨(.slice a0_0 x0.Links.length c0_0), [], _, fun d hd => (by cases hd; exact hE _ _ rfl), .refl _, by exact hI, ⟨rfl, rfl, hs75⟩⟩
                    refine dcons ?_ ?_
                    · intro V78 G79 H80 fr81 hle82 hd83
                      refine ⟨_, some (), rfl, fun _ => ?_⟩
                      refine s_env (env' := [(5, .int .i64 s32)]) (by exact ⟨rfl, trivial⟩) ?_
                      refine o_mov rfl ?_
                      exact s_pred fun tm w ht hE hI => ⟨(.int .i64 s32), [], _, fun d hd => (by cases hd; exact hE _ _ rfl), .refl _, by exact hI, ⟨rfl, rfl⟩⟩
                    refine dcons ?_ ?_
                    · intro V85 G86 H87 fr88 hle89 hd90
                      obtain ⟨hv92, hg93, hp94⟩ := hd90 2 (by decide)
                      obtain ⟨hv95, hg96⟩ := hd90 3 (by decide)
                      refine ⟨_, (rd x0.Links s32).bind some, by rw [h44]; rfl, fun _ => ?_⟩
                      refine s_env (env' := [(60, .slice a0_0 x0.Links.length c0_0), (61, .int .i64 s32)]) (by exact ⟨congrArg some hv92, congrArg some hv95, trivial⟩) ?_
                      refine o_ixf hp94 rfl rfl fun y39 bk98 of99 h97 hc100 => ?_
                      obtain rfl := Option.some.inj (h44.symm.trans h97)
                      exact s_pred fun tm w ht hE hI => ⟨(.pointer (some ⟨bk98, of99, none⟩)), [], _, fun d hd => (by cases hd; exact hE _ _ rfl), .refl _, by exact hI, ⟨bk98, of99, rfl, rfl, hc100⟩⟩
                    refine dcons ?_ ?_
                    · intro V101 G102 H103 fr104 hle105 hd106
                      obtain ⟨bk108, of109, hv110, hg111, hp112⟩ := hd106 4 (by decide)
                      refine ⟨_, some (), rfl, fun _ => ?_⟩
                      refine s_env (env' := [(62, .pointer (some ⟨bk108, of109, none⟩))]) (by exact ⟨congrArg some hv110, trivial⟩) ?_
                      refine o_ldH 0 hp112 rfl rfl rfl ?_
                      exact s_pred fun tm w ht hE hI => ⟨(.agg #[.int .i64 y39.A.Switch, .int .i64 y39.A.Port, .int .i64 y39.B.Switch, .int .i64 y39.B.Port]), [], _, fun d hd => (by cases hd; exact hE _ _ rfl), .refl _, by exact hI, ⟨rfl, rfl⟩⟩
                    refine dcons ?_ ?_
                    · intro V113 G114 H115 fr116 hle117 hd118
                      obtain ⟨hv120, hg121⟩ := hd118 0 (by decide)
                      obtain ⟨hv122, hg123⟩ := hd118 5 (by decide)
                      refine ⟨_, (catenaryref12_shares k y15 y39).bind some, by rw [h47]; rfl, fun _ => ?_⟩
                      refine s_env (env' := [(58, .agg #[.int .i64 y15.A.Switch, .int .i64 y15.A.Port, .int .i64 y15.B.Switch, .int .i64 y15.B.Port]), (63, .agg #[.int .i64 y39.A.Switch, .int .i64 y39.A.Port, .int .i64 y39.B.Switch, .int .i64 y39.B.Port])]) (by exact ⟨congrArg some hv120, congrArg some hv122, trivial⟩) ?_
                      refine s_bg fun y45 h124 => ?_
                      refine s_callF rfl rfl (catenaryref12_shares_ok k _ y15 y39 h124) ?_
                      obtain rfl := Option.some.inj (h47.symm.trans h124)
                      exact s_pred fun tm w ht hE hI => ⟨(.bool y45), [], _, fun d hd => (by cases hd; exact hE _ _ rfl), .refl _, by exact hI, ⟨rfl, rfl⟩⟩
                    exact dnil
                  · intro V127 G128 H125 hle126 hF129
                    have hs130 := RSl.mono hle126 hs37
                    obtain ⟨hv131, hg132⟩ := hF129 6 (show 6 < 7 by decide)
                    refine s_env (env' := [(64, .bool y45), (1, .pointer (some ⟨b1, 0, none⟩)), (3, .int .i64 s8), (4, .pointer (some ⟨b20, 0, none⟩)), (5, .int .i64 s32), (53, .int .i64 s32), (54, .int .i64 s8), (55, .bool (decide (s32 < s8)))]) (by exact ⟨congrArg some hv131, rfl, rfl, rfl, rfl, rfl, rfl, rfl, trivial⟩) ?_
                    refine s_own (List.sublist_append_left _ _) ?_
                    refine s_done ?_
                    refine s_cond rfl (fun h133 => ?_) (fun h133 => ?_)
                    · refine s_seq ?_
                      refine s_region ?_
                      refine o_asg rfl ?_
                      refine s_done ?_
                      refine s_lret ?_
                      refine s_lret ?_
                      exact s_retv (xs := [.tmp 2]) (vs := [.int .i64 2]) [] fn_18 rfl ⟨rv_tmp rfl, trivial⟩ (.cons _ (.cons _ .slnil)) ⟨rfl, rfl⟩
                    · refine s_skip ?_
                      refine s_inBlock ?_
                      refine s_region ?_
                      refine o_mov rfl ?_
                      refine o_add rfl rfl ?_
                      refine o_asg rfl ?_
                      refine s_done ?_
                      exact s_env (by exact ⟨rfl, rfl, rfl, rfl, trivial⟩) (s_own (by exact (.cons_cons _ (.cons_cons _ .slnil))) (ih34 (w64 (s32 + 1)) _ _ _ ⟨rfl, rfl, (Hle.trans hle36 hle126)⟩))
                · refine s_exit rfl ?_
                  exact s_env (by exact ⟨rfl, rfl, trivial⟩) (s_own (by exact (.cons_cons _ (.cons _ .slnil))) (J31 () _ _ _ ⟨rfl, rfl, hle36⟩))
          · intro J134
            refine o_ld 0 rfl rfl rfl ?_
            refine o_fa rfl ?_
            refine o_ld 1 rfl rfl rfl ?_
            refine s_bg fun y135 h136 => ?_
            refine s_callF rfl rfl (catenaryref12_end_ok k _ x0 _ _ hs13 y15.A h136) ?_
            refine o_not rfl ?_
            refine o_mov rfl ?_
            refine s_split (!y135) (fun h137 => ?_) (fun h137 => ?_)
            · refine s_unwant rfl rfl h137 ?_
              refine s_unwant rfl rfl h137 ?_
              refine s_unwant rfl rfl h137 ?_
              refine s_unwant rfl rfl h137 ?_
              refine s_unwant rfl rfl h137 ?_
              refine o_pickT rfl h137 rfl ?_
              refine o_mov rfl ?_
              refine s_unwant rfl rfl rfl ?_
              refine s_unwant rfl rfl rfl ?_
              refine s_unwant rfl rfl rfl ?_
              refine s_unwant rfl rfl rfl ?_
              refine s_unwant rfl rfl rfl ?_
              refine s_unwant rfl rfl rfl ?_
              refine s_unwant rfl rfl rfl ?_
              refine o_pickT rfl rfl rfl ?_
              exact s_env (by exact ⟨rfl, rfl, rfl, rfl, trivial⟩) (s_own (by exact (.cons_cons _ (.cons_cons _ .slnil))) (J134 true _ _ _ ⟨rfl, rfl, .refl _⟩))
            · refine s_want rfl rfl h137 ?_
              refine o_ld 0 rfl rfl rfl ?_
              refine s_want rfl rfl h137 ?_
              refine o_fa rfl ?_
              refine s_want rfl rfl h137 ?_
              refine o_ld 1 rfl rfl rfl ?_
              refine s_want rfl rfl h137 ?_
              refine s_bg fun y138 h139 => ?_
              refine s_callF rfl rfl (catenaryref12_end_ok k _ x0 _ _ hs13 y15.B h139) ?_
              refine s_want rfl rfl h137 ?_
              refine o_not rfl ?_
              refine o_pickF rfl h137 rfl ?_
              refine o_mov rfl ?_
              refine s_split (!y138) (fun h140 => ?_) (fun h140 => ?_)
              · refine s_unwant rfl rfl h140 ?_
                refine s_unwant rfl rfl h140 ?_
                refine s_unwant rfl rfl h140 ?_
                refine s_unwant rfl rfl h140 ?_
                refine s_unwant rfl rfl h140 ?_
                refine s_unwant rfl rfl h140 ?_
                refine s_unwant rfl rfl h140 ?_
                refine o_pickT rfl h140 rfl ?_
                exact s_env (by exact ⟨rfl, rfl, rfl, rfl, trivial⟩) (s_own (by exact (.cons_cons _ (.cons_cons _ .slnil))) (J134 true _ _ _ ⟨rfl, rfl, .refl _⟩))
              · refine s_want rfl rfl h140 ?_
                refine o_fa rfl ?_
                refine s_want rfl rfl h140 ?_
                refine o_fa rfl ?_
                refine s_want rfl rfl h140 ?_
                refine o_ld 1 rfl rfl rfl ?_
                refine s_want rfl rfl h140 ?_
                refine o_fa rfl ?_
                refine s_want rfl rfl h140 ?_
                refine o_fa rfl ?_
                refine s_want rfl rfl h140 ?_
                refine o_ld 1 rfl rfl rfl ?_
                refine s_want rfl rfl h140 ?_
                refine o_eq rfl rfl ?_
                refine o_pickF rfl h140 rfl ?_
                exact s_env (by exact ⟨rfl, rfl, rfl, rfl, trivial⟩) (s_own (by exact (.cons_cons _ (.cons_cons _ .slnil))) (J134 (y15.A.Switch == y15.B.Switch) _ _ _ ⟨rfl, rfl, .refl _⟩))
        · refine s_exit rfl ?_
          exact s_env (by exact trivial) (s_own (by exact (.cons _ .slnil)) (J7 () _ _ _ ⟨rfl, rfl, hle12⟩))
  · intro J141
    refine o_fa rfl ?_
    refine o_ld 0 rfl rfl rfl ?_
    refine o_lt rfl rfl ?_
    refine o_mov rfl ?_
    refine s_case (decide (x0.Switches < 1)) (fun h142 => ?_) (fun h142 => ?_)
    · refine s_unwant rfl rfl h142 ?_
      refine s_unwant rfl rfl h142 ?_
      refine s_unwant rfl rfl h142 ?_
      refine o_pickT rfl h142 rfl ?_
      refine o_mov rfl ?_
      refine s_unwant rfl rfl rfl ?_
      refine s_unwant rfl rfl rfl ?_
      refine s_unwant rfl rfl rfl ?_
      refine s_unwant rfl rfl rfl ?_
      refine o_pickT rfl rfl rfl ?_
      exact s_env (by exact ⟨rfl, lkb rfl (by first | simp only [h142, Bool.true_and, Bool.and_true, Bool.false_and, Bool.and_false, Bool.true_or, Bool.false_or, Bool.or_true, Bool.or_false, Bool.not_true, Bool.not_false] | simp [h142]), trivial⟩) (s_own (by exact (.cons_cons _ .slnil)) J141)
    · refine s_want rfl rfl h142 ?_
      refine o_fa rfl ?_
      refine s_want rfl rfl h142 ?_
      refine o_ld 0 rfl rfl rfl ?_
      refine s_want rfl rfl h142 ?_
      refine o_gt rfl rfl ?_
      refine o_pickF rfl h142 rfl ?_
      refine o_mov rfl ?_
      refine s_case (decide (x0.Switches > 6)) (fun h143 => ?_) (fun h143 => ?_)
      · refine s_unwant rfl rfl h143 ?_
        refine s_unwant rfl rfl h143 ?_
        refine s_unwant rfl rfl h143 ?_
        refine s_unwant rfl rfl h143 ?_
        refine o_pickT rfl h143 rfl ?_
        exact s_env (by exact ⟨rfl, lkb rfl (by first | simp only [h142, h143, Bool.true_and, Bool.and_true, Bool.false_and, Bool.and_false, Bool.true_or, Bool.false_or, Bool.or_true, Bool.or_false, Bool.not_true, Bool.not_false] | simp [h142, h143]), trivial⟩) (s_own (by exact (.cons_cons _ .slnil)) J141)
      · refine s_want rfl rfl h143 ?_
        refine o_fa rfl ?_
        refine s_want rfl rfl h143 ?_
        refine o_ld 0 rfl rfl rfl ?_
        refine s_want rfl rfl h143 ?_
        refine o_lenS rfl ?_
        refine s_want rfl rfl h143 ?_
        refine o_gt rfl rfl ?_
        refine o_pickF rfl h143 rfl ?_
        exact s_env (by exact ⟨rfl, lkb rfl (by first | simp only [h142, h143, Bool.true_and, Bool.and_true, Bool.false_and, Bool.and_false, Bool.true_or, Bool.false_or, Bool.or_true, Bool.or_false, Bool.not_true, Bool.not_false] | simp [h142, h143]), trivial⟩) (s_own (by exact (.cons_cons _ .slnil)) J141)

/-! catenary/catenaryref12.Peer -/
def catenaryref12_Peer_l0 (k : Nat) (x0 : Graph) (x1 : End) : Nat → Int → Option (LX (End × Int × Bool) (Unit))
  | 0, _ => none
  | q15 + 1, s14 =>
    if (decide (s14 < (x0.Links.length : Int))) = true then
      (rd x0.Links s14).bind fun y21 =>
      if (decide (y21.A = x1)) = true then
        (rd x0.Links s14).bind fun y123 =>
        some (.ret (y123.B, s14, true))
      else
        (rd x0.Links s14).bind fun y128 =>
        if (decide (y128.B = x1)) = true then
          (rd x0.Links s14).bind fun y230 =>
          some (.ret (y230.A, s14, true))
        else
          catenaryref12_Peer_l0 k x0 x1 q15 (w64 (s14 + 1))
    else
      some (.out ())
def catenaryref12_Peer (k : Nat) (x0 : Graph) (x1 : End) : Option (End × Int × Bool) :=
  (catenaryref12_Check k x0).bind fun y7 =>
  if (y7 != 0) = true then
    some ((⟨0, 0⟩ : End), 0, false)
  else
    (catenaryref12_Peer_l0 k x0 x1 k 0).bind (LX.go fun p10 =>
    some ((⟨0, 0⟩ : End), 0, false))
theorem fn_15 : Try.prog.funcs[15]? = some Try.f15 := by kernel_rfl
set_option maxRecDepth 100000 in
set_option maxHeartbeats 4000000 in
theorem catenaryref12_Peer_ok (k : Nat) (H : Heap) (x0 : Graph) (a0_0 : Option Addr) (c0_0 : Nat) (hx0_0 : RSl H a0_0 c0_0 x0.Links) (x1 : End) {r : End × Int × Bool} (hr : catenaryref12_Peer k x0 x1 = some r) :
    Fn Try.prog 15 [.agg #[.int .i64 x0.Switches, .slice a0_0 x0.Links.length c0_0], .agg #[.int .i64 x1.Switch, .int .i64 x1.Port]] H [] fun H' v out => v = .tuple #[.agg #[.int .i64 r.1.Switch, .int .i64 r.1.Port], .int .i64 r.2.1, .bool r.2.2] ∧ out = [] := by
  refine fn_of_sim (args := [.agg #[.int .i64 x0.Switches, .slice a0_0 x0.Links.length c0_0], .agg #[.int .i64 x1.Switch, .int .i64 x1.Port]]) (n := 50) (Φ := fun r H' v out => v = .tuple #[.agg #[.int .i64 r.1.Switch, .int .i64 r.1.Port], .int .i64 r.2.1, .bool r.2.2] ∧ out = []) hr fn_15 rfl rfl rfl fun w => ?_
  refine s_eq (by rw [catenaryref12_Peer]) ?_
  refine s_seq ?_
  refine s_region ?_
  refine o_box rfl fun b1 => ?_
  refine o_box rfl fun b3 => ?_
  refine o_alloc fun b5 => ?_
  refine o_asg rfl ?_
  refine o_asg rfl ?_
  refine s_done ?_
  refine s_seq ?_
  refine s_seq ?_
  refine s_region ?_
  refine o_ld 0 rfl rfl rfl ?_
  refine s_bg fun y7 h8 => ?_
  refine s_callF rfl rfl (catenaryref12_Check_ok k _ x0 _ _ hx0_0 h8) ?_
  refine o_ne rfl rfl ?_
  refine s_done ?_
  refine s_cond rfl (fun h9 => ?_) (fun h9 => ?_)
  · refine s_seq ?_
    refine s_region ?_
    refine o_bld rfl rfl ?_
    refine o_st 2 rfl rfl rfl rfl rfl rfl ?_
    refine o_asg rfl ?_
    refine o_asg rfl ?_
    refine s_done ?_
    exact s_retv (xs := [.cell 4 26, .tmp 5, .tmp 6]) (vs := [.agg #[.int .i64 0, .int .i64 0], .int .i64 0, .bool false]) [] fn_15 rfl ⟨rv_cell 2 rfl rfl rfl rfl, rv_tmp rfl, rv_tmp rfl, trivial⟩ (.cons _ (.cons _ (.cons _ .slnil))) ⟨rfl, rfl⟩
  · refine s_skip ?_
    refine s_seq ?_
    refine s_seq ?_
    refine s_region ?_
    refine o_asg rfl ?_
    refine s_done ?_
    refine s_joinL (fun p10 env own H' => env = [(4, .pointer (some ⟨b5, 0, none⟩))] ∧ own = [.blk b5 (rowObj [.int .i64 0, .int .i64 0] 26)] ∧ Hle H H') ?_ ?_
    · rintro p10 _ _ H11 ⟨rfl, rfl, hle12⟩
      refine s_seq ?_
      refine s_region ?_
      refine o_bld rfl rfl ?_
      refine o_st 0 rfl rfl rfl rfl rfl rfl ?_
      refine o_asg rfl ?_
      refine o_asg rfl ?_
      refine s_done ?_
      exact s_retv (xs := [.cell 4 26, .tmp 5, .tmp 6]) (vs := [.agg #[.int .i64 0, .int .i64 0], .int .i64 0, .bool false]) [] fn_15 rfl ⟨rv_cell 0 rfl rfl rfl rfl, rv_tmp rfl, rv_tmp rfl, trivial⟩ (.cons _ .slnil) ⟨rfl, rfl⟩
    · intro J13
      refine s_block ?_
      refine s_env (env' := [(2, .pointer (some ⟨b1, 0, none⟩)), (3, .pointer (some ⟨b3, 0, none⟩)), (4, .pointer (some ⟨b5, 0, none⟩)), (7, .int .i64 0)]) (by exact ⟨rfl, rfl, rfl, rfl, trivial⟩) ?_
      refine s_own (own' := [.blk b1 (rowObj [.int .i64 x0.Switches, .slice a0_0 x0.Links.length c0_0] 24), .blk b3 (rowObj [.int .i64 x1.Switch, .int .i64 x1.Port] 26), .blk b5 (rowObj [.int .i64 0, .int .i64 0] 26)]) (.cons_cons _ (.cons_cons _ (.cons_cons _ .slnil))) ?_
      refine s_loopn (fun q s14 => catenaryref12_Peer_l0 k x0 x1 q s14) (fun s14 env own H' => env = [(2, .pointer (some ⟨b1, 0, none⟩)), (3, .pointer (some ⟨b3, 0, none⟩)), (4, .pointer (some ⟨b5, 0, none⟩)), (7, .int .i64 s14)] ∧ own = [.blk b1 (rowObj [.int .i64 x0.Switches, .slice a0_0 x0.Links.length c0_0] 24), .blk b3 (rowObj [.int .i64 x1.Switch, .int .i64 x1.Port] 26), .blk b5 (rowObj [.int .i64 0, .int .i64 0] 26)] ∧ Hle H H') (fun _ => rfl) ?_ k 0 ⟨rfl, rfl, .refl _⟩
      rintro q15 ih16 s14 _ _ H17 ⟨rfl, rfl, hle18⟩
      refine s_eq (by rw [catenaryref12_Peer_l0]) ?_
      have hs19 := RSl.mono hle18 hx0_0
      refine s_seq ?_
      refine s_seq ?_
      refine s_region ?_
      refine o_mov rfl ?_
      refine o_fa rfl ?_
      refine o_ld 0 rfl rfl rfl ?_
      refine o_lenS rfl ?_
      refine o_lt rfl rfl ?_
      refine s_done ?_
      refine s_cond rfl (fun h20 => ?_) (fun h20 => ?_)
      · refine s_skip ?_
        refine s_seq ?_
        refine s_block ?_
        refine s_seq ?_
        refine s_seq ?_
        refine s_bg fun y21 h26 => ?_
        refine s_drawL [(fun H v g => v = .pointer (some ⟨b1, 1, none⟩) ∧ g = []),
      (fun H v g => v = .slice a0_0 x0.Links.length c0_0 ∧ g = [] ∧ RSl H a0_0 c0_0 x0.Links),
      (fun H v g => v = .int .i64 s14 ∧ g = []),
      (fun H v g => ∃ bk28 of29, v = .pointer (some ⟨bk28, of29, none⟩) ∧ g = [] ∧ CellsAt H bk28 of29 [.int .i64 y21.A.Switch, .int .i64 y21.A.Port, .int .i64 y21.B.Switch, .int .i64 y21.B.Port]),
      (fun H v g => ∃ bk28 of29, v = .pointer (some ⟨bk28, of29, none⟩) ∧ g = [] ∧ CellsAt H bk28 of29 [.int .i64 y21.A.Switch, .int .i64 y21.A.Port, .int .i64 y21.B.Switch, .int .i64 y21.B.Port]),
      (fun H v g => v = .agg #[.int .i64 y21.A.Switch, .int .i64 y21.A.Port] ∧ g = []),
      (fun H v g => v = .agg #[.int .i64 x1.Switch, .int .i64 x1.Port] ∧ g = []),
      (fun H v g => v = .bool (decide (y21.A = x1)) ∧ g = [])] [[], [], [], [], [], [], [], []] mixed ⟨fun _ _ _ _ _ h => h, fun _ _ _ _ hle ⟨e1, e2, h0_⟩ => ⟨e1, e2, RSl.mono hle h0_⟩, fun _ _ _ _ _ h => h, fun _ _ _ _ hle ⟨bk28, of29, e1, e2, h0_⟩ => ⟨_, _, e1, e2, CellsAt.mono hle h0_⟩, fun _ _ _ _ hle ⟨bk28, of29, e1, e2, h0_⟩ => ⟨_, _, e1, e2, CellsAt.mono hle h0_⟩, fun _ _ _ _ _ h => h, fun _ _ _ _ _ h => h, fun _ _ _ _ _ h => h, trivial⟩ (by kernel_rfl) (by kernel_rfl) rfl (by kernel_rfl) rfl rfl ?_ ?_
        · refine dcons ?_ ?_
          · intro V31 G32 H33 fr34 hle35 hd36
            have hs38 := RSl.mono hle35 hs19
            refine ⟨_, some (), rfl, fun _ => ?_⟩
            refine s_env (env' := [(2, .pointer (some ⟨b1, 0, none⟩))]) (by exact ⟨rfl, trivial⟩) ?_
            refine o_fa rfl ?_
            exact s_pred fun tm w ht hE hI => ⟨(.pointer (some ⟨b1, 1, none⟩)), [], _, fun d hd => (by cases hd; exact hE _ _ rfl), .refl _, by exact hI, ⟨rfl, rfl⟩⟩
          refine dcons ?_ ?_
          · intro V39 G40 H41 fr42 hle43 hd44
            have hs46 := RSl.mono hle43 hs19
            obtain ⟨hv47, hg48⟩ := hd44 0 (by decide)
            refine ⟨_, some (), rfl, fun _ => ?_⟩
            refine s_env (env' := [(19, .pointer (some ⟨b1, 1, none⟩))]) (by exact ⟨congrArg some hv47, trivial⟩) ?_
            refine o_ld 0 rfl rfl rfl ?_
            exact s_pred fun tm w ht hE hI => ⟨(.slice a0_0 x0.Links.length c0_0), [], _, fun d hd => (by cases hd; exact hE _ _ rfl), .refl _, by exact hI, ⟨rfl, rfl, hs46⟩⟩
          refine dcons ?_ ?_
          · intro V49 G50 H51 fr52 hle53 hd54
            refine ⟨_, some (), rfl, fun _ => ?_⟩
            refine s_env (env' := [(7, .int .i64 s14)]) (by exact ⟨rfl, trivial⟩) ?_
            refine o_mov rfl ?_
            exact s_pred fun tm w ht hE hI => ⟨(.int .i64 s14), [], _, fun d hd => (by cases hd; exact hE _ _ rfl), .refl _, by exact hI, ⟨rfl, rfl⟩⟩
          refine dcons ?_ ?_
          · intro V56 G57 H58 fr59 hle60 hd61
            obtain ⟨hv63, hg64, hp65⟩ := hd61 1 (by decide)
            obtain ⟨hv66, hg67⟩ := hd61 2 (by decide)
            refine ⟨_, (rd x0.Links s14).bind some, by rw [h26]; rfl, fun _ => ?_⟩
            refine s_env (env' := [(20, .slice a0_0 x0.Links.length c0_0), (21, .int .i64 s14)]) (by exact ⟨congrArg some hv63, congrArg some hv66, trivial⟩) ?_
            refine o_ixf hp65 rfl rfl fun y21 bk69 of70 h68 hc71 => ?_
            obtain rfl := Option.some.inj (h26.symm.trans h68)
            exact s_pred fun tm w ht hE hI => ⟨(.pointer (some ⟨bk69, of70, none⟩)), [], _, fun d hd => (by cases hd; exact hE _ _ rfl), .refl _, by exact hI, ⟨bk69, of70, rfl, rfl, hc71⟩⟩
          refine dcons ?_ ?_
          · intro V72 G73 H74 fr75 hle76 hd77
            obtain ⟨bk79, of80, hv81, hg82, hp83⟩ := hd77 3 (by decide)
            refine ⟨_, some (), rfl, fun _ => ?_⟩
            refine s_env (env' := [(22, .pointer (some ⟨bk79, of80, none⟩))]) (by exact ⟨congrArg some hv81, trivial⟩) ?_
            refine o_fa rfl ?_
            exact s_pred fun tm w ht hE hI => ⟨(.pointer (some ⟨bk79, of80, none⟩)), [], _, fun d hd => (by cases hd; exact hE _ _ rfl), .refl _, by exact hI, ⟨bk79, of80, rfl, rfl, hp83⟩⟩
          refine dcons ?_ ?_
          · intro V84 G85 H86 fr87 hle88 hd89
            obtain ⟨bk91, of92, hv93, hg94, hp95⟩ := hd89 4 (by decide)
            refine ⟨_, some (), rfl, fun _ => ?_⟩
            refine s_env (env' := [(23, .pointer (some ⟨bk91, of92, none⟩))]) (by exact ⟨congrArg some hv93, trivial⟩) ?_
            refine o_ldH 0 hp95 rfl rfl rfl ?_
            exact s_pred fun tm w ht hE hI => ⟨(.agg #[.int .i64 y21.A.Switch, .int .i64 y21.A.Port]), [], _, fun d hd => (by cases hd; exact hE _ _ rfl), .refl _, by exact hI, ⟨rfl, rfl⟩⟩
          refine dcons ?_ ?_
          · intro V96 G97 H98 fr99 hle100 hd101
            refine ⟨_, some (), rfl, fun _ => ?_⟩
            refine s_env (env' := [(3, .pointer (some ⟨b3, 0, none⟩))]) (by exact ⟨rfl, trivial⟩) ?_
            refine o_ld 1 rfl rfl rfl ?_
            exact s_pred fun tm w ht hE hI => ⟨(.agg #[.int .i64 x1.Switch, .int .i64 x1.Port]), [], _, fun d hd => (by cases hd; exact hE _ _ rfl), .refl _, by exact hI, ⟨rfl, rfl⟩⟩
          refine dcons ?_ ?_
          · intro V103 G104 H105 fr106 hle107 hd108
            obtain ⟨hv110, hg111⟩ := hd108 5 (by decide)
            obtain ⟨hv112, hg113⟩ := hd108 6 (by decide)
            refine ⟨_, some (), rfl, fun _ => ?_⟩
            refine s_env (env' := [(24, .agg #[.int .i64 y21.A.Switch, .int .i64 y21.A.Port]), (25, .agg #[.int .i64 x1.Switch, .int .i64 x1.Port])]) (by exact ⟨congrArg some hv110, congrArg some hv112, trivial⟩) ?_
            refine o_eqS y21.A x1 rfl rfl ?_
            exact s_pred fun tm w ht hE hI => ⟨(.bool (decide (y21.A = x1))), [], _, fun d hd => (by cases hd; exact hE _ _ rfl), .refl _, by exact hI, ⟨rfl, rfl⟩⟩
          exact dnil
        · intro V116 G117 H114 hle115 hF118
          have hs119 := RSl.mono hle115 hs19
          obtain ⟨hv120, hg121⟩ := hF118 7 (show 7 < 8 by decide)
          refine s_env (env' := [(26, .bool (decide (y21.A = x1))), (2, .pointer (some ⟨b1, 0, none⟩)), (3, .pointer (some ⟨b3, 0, none⟩)), (4, .pointer (some ⟨b5, 0, none⟩)), (7, .int .i64 s14), (12, .int .i64 s14), (13, .pointer (some ⟨b1, 1, none⟩)), (14, .slice a0_0 x0.Links.length c0_0), (15, .int .i64 (x0.Links.length : Int)), (16, .bool (decide (s14 < (x0.Links.length : Int))))]) (by exact ⟨congrArg some hv120, rfl, rfl, rfl, rfl, rfl, rfl, rfl, rfl, rfl, trivial⟩) ?_
          refine s_own (List.sublist_append_left _ _) ?_
          refine s_done ?_
          refine s_cond rfl (fun h122 => ?_) (fun h122 => ?_)
          · refine s_seq ?_
            refine s_region ?_
            refine o_fa rfl ?_
            refine o_ld 0 rfl rfl rfl ?_
            refine o_mov rfl ?_
            refine o_ixf hs119 rfl rfl fun y123 bk125 of126 h124 hc127 => ?_
            refine o_fa rfl ?_
            refine o_ldH 2 hc127 rfl rfl rfl ?_
            refine o_mov rfl ?_
            refine o_st 2 rfl rfl rfl rfl rfl rfl ?_
            refine o_asg rfl ?_
            refine o_asg rfl ?_
            refine s_done ?_
            refine s_lret ?_
            exact s_retv (xs := [.cell 4 26, .tmp 5, .tmp 6]) (vs := [.agg #[.int .i64 y123.B.Switch, .int .i64 y123.B.Port], .int .i64 s14, .bool true]) [] fn_15 rfl ⟨rv_cell 2 rfl rfl rfl rfl, rv_tmp rfl, rv_tmp rfl, trivial⟩ (.cons _ (.cons _ (.cons _ .slnil))) ⟨rfl, rfl⟩
          · refine s_skip ?_
            refine s_seq ?_
            refine s_bg fun y128 h133 => ?_
            refine s_drawL [(fun H v g => v = .pointer (some ⟨b1, 1, none⟩) ∧ g = []),
      (fun H v g => v = .slice a0_0 x0.Links.length c0_0 ∧ g = [] ∧ RSl H a0_0 c0_0 x0.Links),
      (fun H v g => v = .int .i64 s14 ∧ g = []),
      (fun H v g => ∃ bk135 of136, v = .pointer (some ⟨bk135, of136, none⟩) ∧ g = [] ∧ CellsAt H bk135 of136 [.int .i64 y128.A.Switch, .int .i64 y128.A.Port, .int .i64 y128.B.Switch, .int .i64 y128.B.Port]),
      (fun H v g => ∃ bk135 of136, v = .pointer (some ⟨bk135, of136 + 2, none⟩) ∧ g = [] ∧ CellsAt H bk135 of136 [.int .i64 y128.A.Switch, .int .i64 y128.A.Port, .int .i64 y128.B.Switch, .int .i64 y128.B.Port]),
      (fun H v g => v = .agg #[.int .i64 y128.B.Switch, .int .i64 y128.B.Port] ∧ g = []),
      (fun H v g => v = .agg #[.int .i64 x1.Switch, .int .i64 x1.Port] ∧ g = []),
      (fun H v g => v = .bool (decide (y128.B = x1)) ∧ g = [])] [[], [], [], [], [], [], [], []] mixed ⟨fun _ _ _ _ _ h => h, fun _ _ _ _ hle ⟨e1, e2, h0_⟩ => ⟨e1, e2, RSl.mono hle h0_⟩, fun _ _ _ _ _ h => h, fun _ _ _ _ hle ⟨bk135, of136, e1, e2, h0_⟩ => ⟨_, _, e1, e2, CellsAt.mono hle h0_⟩, fun _ _ _ _ hle ⟨bk135, of136, e1, e2, h0_⟩ => ⟨_, _, e1, e2, CellsAt.mono hle h0_⟩, fun _ _ _ _ _ h => h, fun _ _ _ _ _ h => h, fun _ _ _ _ _ h => h, trivial⟩ (by kernel_rfl) (by kernel_rfl) rfl (by kernel_rfl) rfl rfl ?_ ?_
            · refine dcons ?_ ?_
              · intro V138 G139 H140 fr141 hle142 hd143
                have hs145 := RSl.mono hle142 hs119
                refine ⟨_, some (), rfl, fun _ => ?_⟩
                refine s_env (env' := [(2, .pointer (some ⟨b1, 0, none⟩))]) (by exact ⟨rfl, trivial⟩) ?_
                refine o_fa rfl ?_
                exact s_pred fun tm w ht hE hI => ⟨(.pointer (some ⟨b1, 1, none⟩)), [], _, fun d hd => (by cases hd; exact hE _ _ rfl), .refl _, by exact hI, ⟨rfl, rfl⟩⟩
              refine dcons ?_ ?_
              · intro V146 G147 H148 fr149 hle150 hd151
                have hs153 := RSl.mono hle150 hs119
                obtain ⟨hv154, hg155⟩ := hd151 0 (by decide)
                refine ⟨_, some (), rfl, fun _ => ?_⟩
                refine s_env (env' := [(34, .pointer (some ⟨b1, 1, none⟩))]) (by exact ⟨congrArg some hv154, trivial⟩) ?_
                refine o_ld 0 rfl rfl rfl ?_
                exact s_pred fun tm w ht hE hI => ⟨(.slice a0_0 x0.Links.length c0_0), [], _, fun d hd => (by cases hd; exact hE _ _ rfl), .refl _, by exact hI, ⟨rfl, rfl, hs153⟩⟩
              refine dcons ?_ ?_
              · intro V156 G157 H158 fr159 hle160 hd161
                refine ⟨_, some (), rfl, fun _ => ?_⟩
                refine s_env (env' := [(7, .int .i64 s14)]) (by exact ⟨rfl, trivial⟩) ?_
                refine o_mov rfl ?_
                exact s_pred fun tm w ht hE hI => ⟨(.int .i64 s14), [], _, fun d hd => (by cases hd; exact hE _ _ rfl), .refl _, by exact hI, ⟨rfl, rfl⟩⟩
              refine dcons ?_ ?_
              · intro V163 G164 H165 fr166 hle167 hd168
                obtain ⟨hv170, hg171, hp172⟩ := hd168 1 (by decide)
                obtain ⟨hv173, hg174⟩ := hd168 2 (by decide)
                refine ⟨_, (rd x0.Links s14).bind some, by rw [h133]; rfl, fun _ => ?_⟩
                refine s_env (env' := [(35, .slice a0_0 x0.Links.length c0_0), (36, .int .i64 s14)]) (by exact ⟨congrArg some hv170, congrArg some hv173, trivial⟩) ?_
                refine o_ixf hp172 rfl rfl fun y128 bk176 of177 h175 hc178 => ?_
                obtain rfl := Option.some.inj (h133.symm.trans h175)
                exact s_pred fun tm w ht hE hI => ⟨(.pointer (some ⟨bk176, of177, none⟩)), [], _, fun d hd => (by cases hd; exact hE _ _ rfl), .refl _, by exact hI, ⟨bk176, of177, rfl, rfl, hc178⟩⟩
              refine dcons ?_ ?_
              · intro V179 G180 H181 fr182 hle183 hd184
                obtain ⟨bk186, of187, hv188, hg189, hp190⟩ := hd184 3 (by decide)
                refine ⟨_, some (), rfl, fun _ => ?_⟩
                refine s_env (env' := [(37, .pointer (some ⟨bk186, of187, none⟩))]) (by exact ⟨congrArg some hv188, trivial⟩) ?_
                refine o_fa rfl ?_
                exact s_pred fun tm w ht hE hI => ⟨(.pointer (some ⟨bk186, of187 + 2, none⟩)), [], _, fun d hd => (by cases hd; exact hE _ _ rfl), .refl _, by exact hI, ⟨bk186, of187, rfl, rfl, hp190⟩⟩
              refine dcons ?_ ?_
              · intro V191 G192 H193 fr194 hle195 hd196
                obtain ⟨bk198, of199, hv200, hg201, hp202⟩ := hd196 4 (by decide)
                refine ⟨_, some (), rfl, fun _ => ?_⟩
                refine s_env (env' := [(38, .pointer (some ⟨bk198, of199 + 2, none⟩))]) (by exact ⟨congrArg some hv200, trivial⟩) ?_
                refine o_ldH 2 hp202 rfl rfl rfl ?_
                exact s_pred fun tm w ht hE hI => ⟨(.agg #[.int .i64 y128.B.Switch, .int .i64 y128.B.Port]), [], _, fun d hd => (by cases hd; exact hE _ _ rfl), .refl _, by exact hI, ⟨rfl, rfl⟩⟩
              refine dcons ?_ ?_
              · intro V203 G204 H205 fr206 hle207 hd208
                refine ⟨_, some (), rfl, fun _ => ?_⟩
                refine s_env (env' := [(3, .pointer (some ⟨b3, 0, none⟩))]) (by exact ⟨rfl, trivial⟩) ?_
                refine o_ld 1 rfl rfl rfl ?_
                exact s_pred fun tm w ht hE hI => ⟨(.agg #[.int .i64 x1.Switch, .int .i64 x1.Port]), [], _, fun d hd => (by cases hd; exact hE _ _ rfl), .refl _, by exact hI, ⟨rfl, rfl⟩⟩
              refine dcons ?_ ?_
              · intro V210 G211 H212 fr213 hle214 hd215
                obtain ⟨hv217, hg218⟩ := hd215 5 (by decide)
                obtain ⟨hv219, hg220⟩ := hd215 6 (by decide)
                refine ⟨_, some (), rfl, fun _ => ?_⟩
                refine s_env (env' := [(39, .agg #[.int .i64 y128.B.Switch, .int .i64 y128.B.Port]), (40, .agg #[.int .i64 x1.Switch, .int .i64 x1.Port])]) (by exact ⟨congrArg some hv217, congrArg some hv219, trivial⟩) ?_
                refine o_eqS y128.B x1 rfl rfl ?_
                exact s_pred fun tm w ht hE hI => ⟨(.bool (decide (y128.B = x1))), [], _, fun d hd => (by cases hd; exact hE _ _ rfl), .refl _, by exact hI, ⟨rfl, rfl⟩⟩
              exact dnil
            · intro V223 G224 H221 hle222 hF225
              have hs226 := RSl.mono hle222 hs119
              obtain ⟨hv227, hg228⟩ := hF225 7 (show 7 < 8 by decide)
              refine s_env (env' := [(41, .bool (decide (y128.B = x1))), (2, .pointer (some ⟨b1, 0, none⟩)), (3, .pointer (some ⟨b3, 0, none⟩)), (4, .pointer (some ⟨b5, 0, none⟩)), (7, .int .i64 s14), (12, .int .i64 s14), (13, .pointer (some ⟨b1, 1, none⟩)), (14, .slice a0_0 x0.Links.length c0_0), (15, .int .i64 (x0.Links.length : Int)), (16, .bool (decide (s14 < (x0.Links.length : Int)))), (26, .bool (decide (y21.A = x1)))]) (by exact ⟨congrArg some hv227, rfl, rfl, rfl, rfl, rfl, rfl, rfl, rfl, rfl, rfl, trivial⟩) ?_
              refine s_own (List.sublist_append_left _ _) ?_
              refine s_done ?_
              refine s_cond rfl (fun h229 => ?_) (fun h229 => ?_)
              · refine s_seq ?_
                refine s_region ?_
                refine o_fa rfl ?_
                refine o_ld 0 rfl rfl rfl ?_
                refine o_mov rfl ?_
                refine o_ixf hs226 rfl rfl fun y230 bk232 of233 h231 hc234 => ?_
                refine o_fa rfl ?_
                refine o_ldH 0 hc234 rfl rfl rfl ?_
                refine o_mov rfl ?_
                refine o_st 2 rfl rfl rfl rfl rfl rfl ?_
                refine o_asg rfl ?_
                refine o_asg rfl ?_
                refine s_done ?_
                refine s_lret ?_
                exact s_retv (xs := [.cell 4 26, .tmp 5, .tmp 6]) (vs := [.agg #[.int .i64 y230.A.Switch, .int .i64 y230.A.Port], .int .i64 s14, .bool true]) [] fn_15 rfl ⟨rv_cell 2 rfl rfl rfl rfl, rv_tmp rfl, rv_tmp rfl, trivial⟩ (.cons _ (.cons _ (.cons _ .slnil))) ⟨rfl, rfl⟩
              · refine s_skip ?_
                refine s_inBlock ?_
                refine s_region ?_
                refine o_mov rfl ?_
                refine o_add rfl rfl ?_
                refine o_asg rfl ?_
                refine s_done ?_
                exact s_env (by exact ⟨rfl, rfl, rfl, rfl, trivial⟩) (s_own (by exact (.cons_cons _ (.cons_cons _ (.cons_cons _ .slnil)))) (ih16 (w64 (s14 + 1)) _ _ _ ⟨rfl, rfl, (Hle.trans (Hle.trans hle18 hle115) hle222)⟩))
      · refine s_exit rfl ?_
        exact s_env (by exact ⟨rfl, trivial⟩) (s_own (by exact (.cons _ (.cons _ (.cons_cons _ .slnil)))) (J13 () _ _ _ ⟨rfl, rfl, hle18⟩))

/-! catenary/catenaryref12.Ports -/
def catenaryref12_Ports_l0 (k : Nat) (x0 : Graph) (x1 : Int) : Nat → (List Int) × Int → Option ((List Int))
  | 0, _ => none
  | q25 + 1, s20 =>
    if (decide (s20.2 ≤ 4)) = true then
      (catenaryref12_Peer k x0 (⟨x1, s20.2⟩ : End)).bind fun y31 =>
      if (y31.2.2) = true then
        (app s20.1 ([s20.2] : List Int)).bind fun _ =>
        catenaryref12_Ports_l0 k x0 x1 q25 ((s20.1 ++ ([s20.2] : List Int)), w64 (s20.2 + 1))
      else
        catenaryref12_Ports_l0 k x0 x1 q25 (s20.1, w64 (s20.2 + 1))
    else
      some s20.1
def catenaryref12_Ports (k : Nat) (x0 : Graph) (x1 : Int) : Option (List Int) :=
  (catenaryref12_Ports_l0 k x0 x1 k (([] : List Int), 1)).bind fun p3 =>
  some p3
theorem fn_20 : Try.prog.funcs[20]? = some Try.f20 := by kernel_rfl
set_option maxRecDepth 100000 in
set_option maxHeartbeats 4000000 in
theorem catenaryref12_Ports_ok (k : Nat) (H : Heap) (x0 : Graph) (a0_0 : Option Addr) (c0_0 : Nat) (hx0_0 : RSl H a0_0 c0_0 x0.Links) (x1 : Int) {r : (List Int)} (hr : catenaryref12_Ports k x0 x1 = some r) :
    Fn Try.prog 20 [.agg #[.int .i64 x0.Switches, .slice a0_0 x0.Links.length c0_0], .int .i64 x1] H [] fun H' v out => ∃ a0 c0, v = .slice a0 r.length c0 ∧ out = [.osl (.slice a0 r.length c0) 1 3 (r.map GoE.enc)] := by
  refine fn_of_sim (args := [.agg #[.int .i64 x0.Switches, .slice a0_0 x0.Links.length c0_0], .int .i64 x1]) (n := 29) (Φ := fun r H' v out => ∃ a0 c0, v = .slice a0 r.length c0 ∧ out = [.osl (.slice a0 r.length c0) 1 3 (r.map GoE.enc)]) hr fn_20 rfl rfl rfl fun w => ?_
  refine s_eq (by rw [catenaryref12_Ports]) ?_
  refine s_seq ?_
  refine s_region ?_
  refine o_box rfl fun b1 => ?_
  refine o_asg rfl ?_
  refine s_done ?_
  refine s_seq ?_
  refine s_region ?_
  refine o_asg rfl ?_
  refine s_done ?_
  refine s_seq ?_
  refine s_seq ?_
  refine s_region ?_
  refine o_asg rfl ?_
  refine s_done ?_
  refine s_join (fun p3 env own H' => ∃ a5 c6 ls7, env = [(5, .slice a5 p3.length c6)] ∧ own = [.osl (.slice a5 p3.length c6) 1 3 ls7] ∧ Hle H H' ∧ All2 (GoT.rep H') ls7 p3) ?_ ?_
  · rintro p3 _ _ H9 ⟨a5, c6, ls7, rfl, rfl, hle10, hA8⟩
    refine s_seq ?_
    refine s_region ?_
    refine o_mov rfl ?_
    refine o_asg rfl ?_
    refine s_done ?_
    exact s_retv (xs := [.tmp 4]) (vs := [.slice a5 p3.length c6]) [.osl (.slice a5 p3.length c6) 1 3 ls7] fn_20 rfl ⟨rv_tmp rfl, trivial⟩ (.cons_cons _ .slnil) ⟨_, _, rfl, (congrArg (fun z => [Res.osl _ _ _ z]) (all2_flat hA8))⟩
  · intro J11
    refine s_block ?_
    refine s_nilOc (sz := 1) (t := 3) ?_
    have hA13 : All2 (GoT.rep H) [] ([] : List Int) := all2_nil
    refine s_env (env' := [(1, .int .i64 x1), (2, .pointer (some ⟨b1, 0, none⟩)), (5, .slice none ([] : List Int).length 0), (6, .int .i64 1)]) (by exact ⟨rfl, rfl, rfl, rfl, trivial⟩) ?_
    refine s_own (own' := [.blk b1 (rowObj [.int .i64 x0.Switches, .slice a0_0 x0.Links.length c0_0] 24), .osl (.slice none ([] : List Int).length 0) 1 3 []]) (.cons_cons _ (.cons_cons _ .slnil)) ?_
    refine s_loopn (fun q s20 => catenaryref12_Ports_l0 k x0 x1 q s20) (fun s20 env own H' => ∃ a21 c22 ls23, env = [(1, .int .i64 x1), (2, .pointer (some ⟨b1, 0, none⟩)), (5, .slice a21 s20.1.length c22), (6, .int .i64 s20.2)] ∧ own = [.blk b1 (rowObj [.int .i64 x0.Switches, .slice a0_0 x0.Links.length c0_0] 24), .osl (.slice a21 s20.1.length c22) 1 3 ls23] ∧ Hle H H' ∧ All2 (GoT.rep H') ls23 s20.1) (fun _ => rfl) ?_ k (([] : List Int), 1) ⟨_, _, _, rfl, rfl, .refl _, hA13⟩
    rintro q25 ih26 s20 _ _ H27 ⟨a21, c22, ls23, rfl, rfl, hle28, hA24⟩
    refine s_eq (by rw [catenaryref12_Ports_l0]) ?_
    have hs29 := RSl.mono hle28 hx0_0
    refine s_seq ?_
    refine s_seq ?_
    refine s_region ?_
    refine o_mov rfl ?_
    refine o_le rfl rfl ?_
    refine s_done ?_
    refine s_cond rfl (fun h30 => ?_) (fun h30 => ?_)
    · refine s_skip ?_
      refine s_seq ?_
      refine s_block ?_
      refine s_seq ?_
      refine s_region ?_
      refine o_ld 0 rfl rfl rfl ?_
      refine o_mov rfl ?_
      refine o_mov rfl ?_
      refine o_bld rfl rfl ?_
      refine s_bg fun y31 h32 => ?_
      refine s_callF rfl rfl (catenaryref12_Peer_ok k _ x0 _ _ hs29 (⟨x1, s20.2⟩ : End) h32) ?_
      refine o_mov rfl ?_
      refine o_ext rfl rfl ?_
      refine o_ext rfl rfl ?_
      refine o_ext rfl rfl ?_
      refine o_alloc fun b33 => ?_
      refine o_st 2 rfl rfl rfl rfl rfl rfl ?_
      refine o_asg rfl ?_
      refine o_asg rfl ?_
      refine s_done ?_
      refine s_seq ?_
      refine s_region ?_
      refine o_mov rfl ?_
      refine s_done ?_
      refine s_cond rfl (fun h35 => ?_) (fun h35 => ?_)
      · refine s_region ?_
        refine o_mov rfl ?_
        refine o_mov rfl ?_
        refine o_bsl (xs := [.tmp 25]) rfl rfl (by simp only [List.mem_cons, List.not_mem_nil, or_false, forall_eq_or_imp, forall_eq]; exact ⟨rfl, rfl⟩) rfl rfl fun b36 => ?_
        have hA37 : All2 (GoT.rep H27) [[.int .i64 s20.2]] ([s20.2] : List Int) := all2_enc (([s20.2] : List Int))
        refine o_appO 1 3 rfl rfl rfl hA24 rfl hA37 fun a39 c40 h41 hA42 => ?_
        refine o_asg rfl ?_
        refine s_done ?_
        refine s_inBlock ?_
        refine s_region ?_
        refine o_mov rfl ?_
        refine o_add rfl rfl ?_
        refine o_asg rfl ?_
        refine s_done ?_
        exact s_env (by exact ⟨rfl, rfl, rfl, rfl, trivial⟩) (s_own (by exact (.cons_cons _ (.cons_cons _ (.cons _ (.cons _ .slnil))))) (ih26 ((s20.1 ++ ([s20.2] : List Int)), w64 (s20.2 + 1)) _ _ _ ⟨_, _, _, rfl, rfl, hle28, hA42⟩))
      · refine s_skip ?_
        refine s_inBlock ?_
        refine s_region ?_
        refine o_mov rfl ?_
        refine o_add rfl rfl ?_
        refine o_asg rfl ?_
        refine s_done ?_
        exact s_env (by exact ⟨rfl, rfl, rfl, rfl, trivial⟩) (s_own (by exact (.cons_cons _ (.cons_cons _ (.cons _ .slnil)))) (ih26 (s20.1, w64 (s20.2 + 1)) _ _ _ ⟨_, _, _, rfl, rfl, hle28, hA24⟩))
    · refine s_exit rfl ?_
      exact s_env (by exact ⟨rfl, trivial⟩) (s_own (by exact (.cons _ (.cons_cons _ .slnil))) (J11 s20.1 _ _ _ ⟨_, _, _, rfl, rfl, hle28, hA24⟩))

/-! catenary/catenarylaw12.works -/
def catenarylaw12_works (k : Nat)  : Option Bool :=
  (catenarylaw12_link k 1 1 2 1).bind fun y1 =>
  (catenarylaw12_link k 2 2 3 4).bind fun y3 =>
  (graph_Peer k (⟨3, ([y1, y3] : List Link)⟩ : Graph) (⟨2, 2⟩ : End)).bind fun y14 =>
  (graph_Peer k (⟨3, ([y1, y3] : List Link)⟩ : Graph) (⟨3, 1⟩ : End)).bind fun y18 =>
  (if (decide (y14.1 = (⟨3, 4⟩ : End))) = true then
      if (y14.2.1 == 1) = true then
        if (y14.2.2) = true then
          if (!y18.2.2) = true then
            (graph_Ports k (⟨3, ([y1, y3] : List Link)⟩ : Graph) 2).bind fun y69 =>
            (catenaryref00_EqInts k y69 ([1, 2] : List Int)).bind fun y82 =>
            some y82
          else
            some false
        else
          some false
      else
        some false
    else
      some false).bind fun p25 =>
  if (p25) = true then
    (graph_Reach k (⟨3, ([y1, y3] : List Link)⟩ : Graph) ([]) 3).bind fun y31 =>
    (catenaryref00_EqInts k y31 ([1, 2, 3] : List Int)).bind fun y44 =>
    if (y44) = true then
      (graph_Reach k (⟨3, ([y1, y3] : List Link)⟩ : Graph) ([true, false] : List Bool) 1).bind fun y47 =>
      (catenaryref00_EqInts k y47 ([1, 2] : List Int)).bind fun y56 =>
      if (y56) = true then
        (graph_Whole k (⟨3, ([y1, y3] : List Link)⟩ : Graph) ([])).bind fun y59 =>
        if (y59) = true then
          (graph_Whole k (⟨3, ([y1, y3] : List Link)⟩ : Graph) ([true, false] : List Bool)).bind fun y62 =>
          some (!y62)
        else
          some false
      else
        some false
    else
      some false
  else
    some false
theorem fn_21 : Try.prog.funcs[21]? = some Try.f21 := by kernel_rfl
set_option maxRecDepth 100000 in
set_option maxHeartbeats 4000000 in
theorem catenarylaw12_works_ok (k : Nat) (H : Heap)  {r : Bool} (hr : catenarylaw12_works k  = some r) :
    Fn Try.prog 21 [] H [] fun H' v out => v = .bool r ∧ out = [] := by
  refine fn_of_sim (args := []) (n := 73) (Φ := fun r H' v out => v = .bool r ∧ out = []) hr fn_21 rfl rfl rfl fun w => ?_
  refine s_eq (by rw [catenarylaw12_works]) ?_
  refine s_seq ?_
  refine s_region ?_
  refine o_asg rfl ?_
  refine s_done ?_
  refine s_seq ?_
  refine s_region ?_
  refine s_bg fun y1 h2 => ?_
  refine s_callF rfl rfl (catenarylaw12_link_ok k _ 1 1 2 1 h2) ?_
  refine s_bg fun y3 h4 => ?_
  refine s_callF rfl rfl (catenarylaw12_link_ok k _ 2 2 3 4 h4) ?_
  refine o_bsl (xs := [.tmp 10, .tmp 11]) rfl rfl (by simp only [List.mem_cons, List.not_mem_nil, or_false, forall_eq_or_imp, forall_eq]; exact ⟨⟨rfl, rfl⟩, ⟨rfl, rfl⟩⟩) rfl rfl fun b5 => ?_
  have hA6 : All2 (GoT.rep H) [[.int .i64 y1.A.Switch, .int .i64 y1.A.Port, .int .i64 y1.B.Switch, .int .i64 y1.B.Port], [.int .i64 y3.A.Switch, .int .i64 y3.A.Port, .int .i64 y3.B.Switch, .int .i64 y3.B.Port]] ([y1, y3] : List Link) := all2_enc (([y1, y3] : List Link))
  refine s_frz 0 (fun b => .inl (by simp [ids])) rfl hA6 fun H8 hle9 hn10 hs11 => ?_
  refine o_bld rfl rfl ?_
  refine o_alloc fun b12 => ?_
  refine o_st 0 rfl rfl rfl rfl rfl rfl ?_
  refine s_done ?_
  refine s_seq ?_
  refine s_region ?_
  refine o_ld 0 rfl rfl rfl ?_
  refine o_bld rfl rfl ?_
  refine s_bg fun y14 h15 => ?_
  refine s_callF rfl rfl (graph_Peer_ok k _ (⟨3, ([y1, y3] : List Link)⟩ : Graph) _ _ hs11 (⟨2, 2⟩ : End) h15) ?_
  refine o_mov rfl ?_
  refine o_ext rfl rfl ?_
  refine o_ext rfl rfl ?_
  refine o_ext rfl rfl ?_
  refine o_alloc fun b16 => ?_
  refine o_st 1 rfl rfl rfl rfl rfl rfl ?_
  refine o_asg rfl ?_
  refine o_asg rfl ?_
  refine s_done ?_
  refine s_seq ?_
  refine s_region ?_
  refine o_ld 0 rfl rfl rfl ?_
  refine o_bld rfl rfl ?_
  refine s_bg fun y18 h19 => ?_
  refine s_callF rfl rfl (graph_Peer_ok k _ (⟨3, ([y1, y3] : List Link)⟩ : Graph) _ _ hs11 (⟨3, 1⟩ : End) h19) ?_
  refine o_mov rfl ?_
  refine o_ext rfl rfl ?_
  refine o_ext rfl rfl ?_
  refine o_ext rfl rfl ?_
  refine o_alloc fun b20 => ?_
  refine o_st 2 rfl rfl rfl rfl rfl rfl ?_
  refine o_asg rfl ?_
  refine o_asg rfl ?_
  refine s_done ?_
  refine s_seq ?_
  refine s_region ?_
  refine o_bsl (xs := [.const (.bool true), .const (.bool false)]) rfl rfl (by simp only [List.mem_cons, List.not_mem_nil, or_false, forall_eq_or_imp, forall_eq]; exact ⟨⟨rfl, rfl⟩, ⟨rfl, rfl⟩⟩) rfl rfl fun b22 => ?_
  have hA23 : All2 (GoT.rep H8) [[.bool true], [.bool false]] ([true, false] : List Bool) := all2_enc (([true, false] : List Bool))
  refine o_asg rfl ?_
  refine s_done ?_
  refine s_seq ?_
  refine s_region ?_
  refine s_joinR (fun p25 env own H' => env = [(1, .pointer (some ⟨b12, 0, none⟩)), (8, .slice (some ⟨b22, 0, none⟩) ([true, false] : List Bool).length 2), (9, .bool p25)] ∧ own = [.blk b12 (rowObj [.int .i64 3, .slice (some ⟨b5, 0, none⟩) ([y1, y3] : List Link).length 2] 24), .osl (.slice (some ⟨b22, 0, none⟩) ([true, false] : List Bool).length 2) 1 4 [[.bool true], [.bool false]]] ∧ Hle H8 H') ?_ ?_
  · rintro p25 _ _ H26 ⟨rfl, rfl, hle27⟩
    have hs28 := RSl.mono hle27 hs11
    have hA29 := All2.mono (fun _ _ => GoT.mono hle27) hA23
    refine s_seq ?_
    refine s_region ?_
    refine o_mov rfl ?_
    refine o_mov rfl ?_
    refine s_split p25 (fun h30 => ?_) (fun h30 => ?_)
    · refine s_want rfl rfl h30 ?_
      refine o_ld 0 rfl rfl rfl ?_
      refine s_want rfl rfl h30 ?_
      refine s_bg fun y31 h32 => ?_
      refine s_call [] _ rfl rfl (.refl _) (graph_Reach_ok k _ (⟨3, ([y1, y3] : List Link)⟩ : Graph) _ _ hs28 ([]) _ _ rsl_nil 3 h32) ?_
      rintro _ H36 _ hle37 ⟨a33, c34, rfl, rfl⟩
      have hs38 := RSl.mono hle37 hs28
      have hA39 := All2.mono (fun _ _ => GoT.mono hle37) hA29
      have hA40 : All2 (GoT.rep H36) (y31.map GoE.enc) y31 := all2_enc _
      refine s_want rfl rfl h30 ?_
      refine o_bsl (xs := [.const (.int .i64 1), .const (.int .i64 2), .const (.int .i64 3)]) rfl rfl (by simp only [List.mem_cons, List.not_mem_nil, or_false, forall_eq_or_imp, forall_eq]; exact ⟨⟨rfl, rfl⟩, ⟨rfl, rfl⟩, ⟨rfl, rfl⟩⟩) rfl rfl fun b41 => ?_
      have hA42 : All2 (GoT.rep H36) [[.int .i64 1], [.int .i64 2], [.int .i64 3]] ([1, 2, 3] : List Int) := all2_enc (([1, 2, 3] : List Int))
      refine s_want rfl rfl h30 ?_
      refine s_bg fun y44 h45 => ?_
      refine s_callL (Φ := fun v out => v = _ ∧ out = []) [] _ rfl rfl (.refl _) (fun H' hle hl => catenaryref00_EqInts_ok k _ y31 _ _ (lent_rsl (hl _ (List.mem_of_getElem? (i := 2) rfl)) hA40 hle).2 ([1, 2, 3] : List Int) _ _ (lent_rsl (hl _ (List.mem_of_getElem? (i := 3) rfl)) hA42 hle).2 h45) ?_
      rintro _ _ ⟨rfl, rfl⟩
      refine s_ownN ?_
      refine o_pickT rfl h30 rfl ?_
      refine o_mov rfl ?_
      refine s_split y44 (fun h46 => ?_) (fun h46 => ?_)
      · refine s_want rfl rfl h46 ?_
        refine o_ld 0 rfl rfl rfl ?_
        refine s_want rfl rfl h46 ?_
        refine o_mov rfl ?_
        refine s_want rfl rfl h46 ?_
        refine s_bg fun y47 h48 => ?_
        refine s_callL (Φ := fun v out => ∃ a0 c0, v = .slice a0 y47.length c0 ∧ out = [.osl (.slice a0 y47.length c0) 1 3 (y47.map GoE.enc)]) [] _ rfl rfl (.refl _) (fun H' hle hl => graph_Reach_ok k _ (⟨3, ([y1, y3] : List Link)⟩ : Graph) _ _ (RSl.mono hle hs38) ([true, false] : List Bool) _ _ (lent_rsl (hl _ (List.mem_of_getElem? (i := 1) rfl)) hA39 hle).2 1 h48) ?_
        rintro _ _ ⟨a49, c50, rfl, rfl⟩
        have hA52 : All2 (GoT.rep H36) (y47.map GoE.enc) y47 := all2_enc _
        refine s_want rfl rfl h46 ?_
        refine o_bsl (xs := [.const (.int .i64 1), .const (.int .i64 2)]) rfl rfl (by simp only [List.mem_cons, List.not_mem_nil, or_false, forall_eq_or_imp, forall_eq]; exact ⟨⟨rfl, rfl⟩, ⟨rfl, rfl⟩⟩) rfl rfl fun b53 => ?_
        have hA54 : All2 (GoT.rep H36) [[.int .i64 1], [.int .i64 2]] ([1, 2] : List Int) := all2_enc (([1, 2] : List Int))
        refine s_want rfl rfl h46 ?_
        refine s_bg fun y56 h57 => ?_
        refine s_callL (Φ := fun v out => v = _ ∧ out = []) [] _ rfl rfl (.refl _) (fun H' hle hl => catenaryref00_EqInts_ok k _ y47 _ _ (lent_rsl (hl _ (List.mem_of_getElem? (i := 4) rfl)) hA52 hle).2 ([1, 2] : List Int) _ _ (lent_rsl (hl _ (List.mem_of_getElem? (i := 5) rfl)) hA54 hle).2 h57) ?_
        rintro _ _ ⟨rfl, rfl⟩
        refine s_ownN ?_
        refine o_pickT rfl h46 rfl ?_
        refine o_mov rfl ?_
        refine s_split y56 (fun h58 => ?_) (fun h58 => ?_)
        · refine s_want rfl rfl h58 ?_
          refine o_ld 0 rfl rfl rfl ?_
          refine s_want rfl rfl h58 ?_
          refine s_bg fun y59 h60 => ?_
          refine s_callF rfl rfl (graph_Whole_ok k _ (⟨3, ([y1, y3] : List Link)⟩ : Graph) _ _ hs38 ([]) _ _ rsl_nil h60) ?_
          refine o_pickT rfl h58 rfl ?_
          refine o_mov rfl ?_
          refine s_split y59 (fun h61 => ?_) (fun h61 => ?_)
          · refine s_want rfl rfl h61 ?_
            refine o_ld 0 rfl rfl rfl ?_
            refine s_want rfl rfl h61 ?_
            refine o_mov rfl ?_
            refine s_want rfl rfl h61 ?_
            refine s_bg fun y62 h63 => ?_
            refine s_callL (Φ := fun v out => v = _ ∧ out = []) [] _ rfl rfl (.refl _) (fun H' hle hl => graph_Whole_ok k _ (⟨3, ([y1, y3] : List Link)⟩ : Graph) _ _ (RSl.mono hle hs38) ([true, false] : List Bool) _ _ (lent_rsl (hl _ (List.mem_of_getElem? (i := 1) rfl)) hA39 hle).2 h63) ?_
            rintro _ _ ⟨rfl, rfl⟩
            refine s_ownN ?_
            refine s_want rfl rfl h61 ?_
            refine o_not rfl ?_
            refine o_pickT rfl h61 rfl ?_
            refine o_asg rfl ?_
            refine s_done ?_
            exact s_retv (xs := [.tmp 0]) (vs := [.bool (!y62)]) [] fn_21 rfl ⟨rv_tmp rfl, trivial⟩ (.cons _ (.cons _ (.cons _ (.cons _ (.cons _ (.cons _ .slnil)))))) ⟨rfl, rfl⟩
          · refine s_unwant rfl rfl h61 ?_
            refine s_unwant rfl rfl h61 ?_
            refine s_unwant rfl rfl h61 ?_
            refine s_unwant rfl rfl h61 ?_
            refine o_pickF rfl h61 rfl ?_
            refine o_asg rfl ?_
            refine s_done ?_
            exact s_retv (xs := [.tmp 0]) (vs := [.bool false]) [] fn_21 rfl ⟨rv_tmp rfl, trivial⟩ (.cons _ (.cons _ (.cons _ (.cons _ (.cons _ (.cons _ .slnil)))))) ⟨rfl, rfl⟩
        · refine s_unwant rfl rfl h58 ?_
          refine s_unwant rfl rfl h58 ?_
          refine o_pickF rfl h58 rfl ?_
          refine o_mov rfl ?_
          refine s_unwant rfl rfl rfl ?_
          refine s_unwant rfl rfl rfl ?_
          refine s_unwant rfl rfl rfl ?_
          refine s_unwant rfl rfl rfl ?_
          refine o_pickF rfl rfl rfl ?_
          refine o_asg rfl ?_
          refine s_done ?_
          exact s_retv (xs := [.tmp 0]) (vs := [.bool false]) [] fn_21 rfl ⟨rv_tmp rfl, trivial⟩ (.cons _ (.cons _ (.cons _ (.cons _ (.cons _ (.cons _ .slnil)))))) ⟨rfl, rfl⟩
      · refine s_unwant rfl rfl h46 ?_
        refine s_unwant rfl rfl h46 ?_
        refine s_unwant rfl rfl h46 ?_
        refine s_unwant rfl rfl h46 ?_
        refine s_unwant rfl rfl h46 ?_
        refine o_pickF rfl h46 rfl ?_
        refine o_mov rfl ?_
        refine s_unwant rfl rfl rfl ?_
        refine s_unwant rfl rfl rfl ?_
        refine o_pickF rfl rfl rfl ?_
        refine o_mov rfl ?_
        refine s_unwant rfl rfl rfl ?_
        refine s_unwant rfl rfl rfl ?_
        refine s_unwant rfl rfl rfl ?_
        refine s_unwant rfl rfl rfl ?_
        refine o_pickF rfl rfl rfl ?_
        refine o_asg rfl ?_
        refine s_done ?_
        exact s_retv (xs := [.tmp 0]) (vs := [.bool false]) [] fn_21 rfl ⟨rv_tmp rfl, trivial⟩ (.cons _ (.cons _ (.cons _ (.cons _ .slnil)))) ⟨rfl, rfl⟩
    · refine s_unwant rfl rfl h30 ?_
      refine s_unwant rfl rfl h30 ?_
      refine s_unwant rfl rfl h30 ?_
      refine s_unwant rfl rfl h30 ?_
      refine o_pickF rfl h30 rfl ?_
      refine o_mov rfl ?_
      refine s_unwant rfl rfl rfl ?_
      refine s_unwant rfl rfl rfl ?_
      refine s_unwant rfl rfl rfl ?_
      refine s_unwant rfl rfl rfl ?_
      refine s_unwant rfl rfl rfl ?_
      refine o_pickF rfl rfl rfl ?_
      refine o_mov rfl ?_
      refine s_unwant rfl rfl rfl ?_
      refine s_unwant rfl rfl rfl ?_
      refine o_pickF rfl rfl rfl ?_
      refine o_mov rfl ?_
      refine s_unwant rfl rfl rfl ?_
      refine s_unwant rfl rfl rfl ?_
      refine s_unwant rfl rfl rfl ?_
      refine s_unwant rfl rfl rfl ?_
      refine o_pickF rfl rfl rfl ?_
      refine o_asg rfl ?_
      refine s_done ?_
      exact s_retv (xs := [.tmp 0]) (vs := [.bool false]) [] fn_21 rfl ⟨rv_tmp rfl, trivial⟩ (.cons _ (.cons _ .slnil)) ⟨rfl, rfl⟩
  · intro J64
    refine o_ld 1 rfl rfl rfl ?_
    refine o_bld rfl rfl ?_
    refine o_eqS y14.1 (⟨3, 4⟩ : End) rfl rfl ?_
    refine o_mov rfl ?_
    refine s_split (decide (y14.1 = (⟨3, 4⟩ : End))) (fun h65 => ?_) (fun h65 => ?_)
    · refine s_want rfl rfl h65 ?_
      refine o_mov rfl ?_
      refine s_want rfl rfl h65 ?_
      refine o_eq rfl rfl ?_
      refine o_pickT rfl h65 rfl ?_
      refine o_mov rfl ?_
      refine s_split (y14.2.1 == 1) (fun h66 => ?_) (fun h66 => ?_)
      · refine s_want rfl rfl h66 ?_
        refine o_mov rfl ?_
        refine o_pickT rfl h66 rfl ?_
        refine o_mov rfl ?_
        refine s_split y14.2.2 (fun h67 => ?_) (fun h67 => ?_)
        · refine s_want rfl rfl h67 ?_
          refine o_mov rfl ?_
          refine s_want rfl rfl h67 ?_
          refine o_not rfl ?_
          refine o_pickT rfl h67 rfl ?_
          refine o_mov rfl ?_
          refine s_split (!y18.2.2) (fun h68 => ?_) (fun h68 => ?_)
          · refine s_want rfl rfl h68 ?_
            refine o_ld 0 rfl rfl rfl ?_
            refine s_want rfl rfl h68 ?_
            refine s_bg fun y69 h70 => ?_
            refine s_call [] _ rfl rfl (.refl _) (graph_Ports_ok k _ (⟨3, ([y1, y3] : List Link)⟩ : Graph) _ _ hs11 2 h70) ?_
            rintro _ H74 _ hle75 ⟨a71, c72, rfl, rfl⟩
            have hs76 := RSl.mono hle75 hs11
            have hA77 := All2.mono (fun _ _ => GoT.mono hle75) hA23
            have hA78 : All2 (GoT.rep H74) (y69.map GoE.enc) y69 := all2_enc _
            refine s_want rfl rfl h68 ?_
            refine o_bsl (xs := [.const (.int .i64 1), .const (.int .i64 2)]) rfl rfl (by simp only [List.mem_cons, List.not_mem_nil, or_false, forall_eq_or_imp, forall_eq]; exact ⟨⟨rfl, rfl⟩, ⟨rfl, rfl⟩⟩) rfl rfl fun b79 => ?_
            have hA80 : All2 (GoT.rep H74) [[.int .i64 1], [.int .i64 2]] ([1, 2] : List Int) := all2_enc (([1, 2] : List Int))
            refine s_want rfl rfl h68 ?_
            refine s_bg fun y82 h83 => ?_
            refine s_callL (Φ := fun v out => v = _ ∧ out = []) [] _ rfl rfl (.refl _) (fun H' hle hl => catenaryref00_EqInts_ok k _ y69 _ _ (lent_rsl (hl _ (List.mem_of_getElem? (i := 4) rfl)) hA78 hle).2 ([1, 2] : List Int) _ _ (lent_rsl (hl _ (List.mem_of_getElem? (i := 5) rfl)) hA80 hle).2 h83) ?_
            rintro _ _ ⟨rfl, rfl⟩
            refine s_ownN ?_
            refine o_pickT rfl h68 rfl ?_
            refine o_asg rfl ?_
            exact s_env (by exact ⟨rfl, rfl, rfl, trivial⟩) (s_own (by exact (.cons_cons _ (.cons _ (.cons _ (.cons_cons _ (.cons _ (.cons _ .slnil))))))) (J64 y82 _ _ _ ⟨rfl, rfl, hle75⟩))
          · refine s_unwant rfl rfl h68 ?_
            refine s_unwant rfl rfl h68 ?_
            refine s_unwant rfl rfl h68 ?_
            refine s_unwant rfl rfl h68 ?_
            refine o_pickF rfl h68 rfl ?_
            refine o_asg rfl ?_
            exact s_env (by exact ⟨rfl, rfl, rfl, trivial⟩) (s_own (by exact (.cons_cons _ (.cons _ (.cons _ (.cons_cons _ .slnil))))) (J64 false _ _ _ ⟨rfl, rfl, .refl _⟩))
        · refine s_unwant rfl rfl h67 ?_
          refine s_unwant rfl rfl h67 ?_
          refine o_pickF rfl h67 rfl ?_
          refine o_mov rfl ?_
          refine s_unwant rfl rfl rfl ?_
          refine s_unwant rfl rfl rfl ?_
          refine s_unwant rfl rfl rfl ?_
          refine s_unwant rfl rfl rfl ?_
          refine o_pickF rfl rfl rfl ?_
          refine o_asg rfl ?_
          exact s_env (by exact ⟨rfl, rfl, rfl, trivial⟩) (s_own (by exact (.cons_cons _ (.cons _ (.cons _ (.cons_cons _ .slnil))))) (J64 false _ _ _ ⟨rfl, rfl, .refl _⟩))
      · refine s_unwant rfl rfl h66 ?_
        refine o_pickF rfl h66 rfl ?_
        refine o_mov rfl ?_
        refine s_unwant rfl rfl rfl ?_
        refine s_unwant rfl rfl rfl ?_
        refine o_pickF rfl rfl rfl ?_
        refine o_mov rfl ?_
        refine s_unwant rfl rfl rfl ?_
        refine s_unwant rfl rfl rfl ?_
        refine s_unwant rfl rfl rfl ?_
        refine s_unwant rfl rfl rfl ?_
        refine o_pickF rfl rfl rfl ?_
        refine o_asg rfl ?_
        exact s_env (by exact ⟨rfl, rfl, rfl, trivial⟩) (s_own (by exact (.cons_cons _ (.cons _ (.cons _ (.cons_cons _ .slnil))))) (J64 false _ _ _ ⟨rfl, rfl, .refl _⟩))
    · refine s_unwant rfl rfl h65 ?_
      refine s_unwant rfl rfl h65 ?_
      refine o_pickF rfl h65 rfl ?_
      refine o_mov rfl ?_
      refine s_unwant rfl rfl rfl ?_
      refine o_pickF rfl rfl rfl ?_
      refine o_mov rfl ?_
      refine s_unwant rfl rfl rfl ?_
      refine s_unwant rfl rfl rfl ?_
      refine o_pickF rfl rfl rfl ?_
      refine o_mov rfl ?_
      refine s_unwant rfl rfl rfl ?_
      refine s_unwant rfl rfl rfl ?_
      refine s_unwant rfl rfl rfl ?_
      refine s_unwant rfl rfl rfl ?_
      refine o_pickF rfl rfl rfl ?_
      refine o_asg rfl ?_
      exact s_env (by exact ⟨rfl, rfl, rfl, trivial⟩) (s_own (by exact (.cons_cons _ (.cons _ (.cons _ (.cons_cons _ .slnil))))) (J64 false _ _ _ ⟨rfl, rfl, .refl _⟩))
end Go.Cat.G3
