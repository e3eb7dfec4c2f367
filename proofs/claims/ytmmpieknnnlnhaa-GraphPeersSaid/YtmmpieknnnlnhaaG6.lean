/- A text of the proof of the seat's laws: a step logic over the machine, or pure functions that the Go functions come to. No condition. -/
import Derived.Test.YtmmpieknnnlnhaaP5

namespace Go.Cat.G3
open Go Go.Cat Go.Proofs
set_option linter.unusedVariables false
set_option linter.unusedSimpArgs false

instance : TFun Try.prog 17 := ⟨_, (by kernel_rfl : Try.prog.funcs[17]? = some Try.f17), by decide, rfl⟩
instance : TFun Try.prog 25 := ⟨_, (by kernel_rfl : Try.prog.funcs[25]? = some Try.f25), by decide, rfl⟩

/-! catenary/catenarylaw12.made -/
def catenarylaw12_made_l0 (k : Nat) (x0 : Graph) (y5 : Int) : Nat → (List Link) × Int → Option ((List Link))
  | 0, _ => none
  | q20 + 1, s16 =>
    if (((decide (s16.2 < (x0.Links.length : Int))) && decide (s16.2 < 30))) = true then
      (rd x0.Links s16.2).bind fun y26 =>
      (catenaryref00_Bring k y26.A.Switch (w64 (1 + y5))).bind fun y33 =>
      (catenaryref00_Bring k y26.A.Port 4).bind fun y36 =>
      (catenaryref00_Bring k y26.B.Switch (w64 (1 + y5))).bind fun y39 =>
      (catenaryref00_Bring k y26.B.Port 4).bind fun y42 =>
      (catenarylaw12_link k (w64 (1 + y33)) (w64 (1 + y36)) (w64 (1 + y39)) (w64 (1 + y42))).bind fun y45 =>
      (app ([] : List Link) s16.1).bind fun _ =>
      (app (([] : List Link) ++ s16.1) ([y45] : List Link)).bind fun _ =>
      (graph_Check k (⟨w64 (1 + y5), ((([] : List Link) ++ s16.1) ++ ([y45] : List Link))⟩ : Graph)).bind fun y456 =>
      if (y456 == 0) = true then
        catenarylaw12_made_l0 k x0 y5 q20 (((([] : List Link) ++ s16.1) ++ ([y45] : List Link)), w64 (s16.2 + 1))
      else
        catenarylaw12_made_l0 k x0 y5 q20 (s16.1, w64 (s16.2 + 1))
    else
      some s16.1
def catenarylaw12_made (k : Nat) (x0 : Graph) : Option Graph :=
  (catenaryref00_Bring k x0.Switches 6).bind fun y5 =>
  (catenarylaw12_made_l0 k x0 y5 k (([] : List Link), 0)).bind fun p9 =>
  some (⟨w64 (1 + y5), p9⟩ : Graph)
theorem fn_22 : Try.prog.funcs[22]? = some Try.f22 := by kernel_rfl
set_option maxRecDepth 100000 in
set_option maxHeartbeats 4000000 in
theorem catenarylaw12_made_ok (k : Nat) (H : Heap) (x0 : Graph) (a0_0 : Option Addr) (c0_0 : Nat) (hx0_0 : RSl H a0_0 c0_0 x0.Links) {r : Graph} (hr : catenarylaw12_made k x0 = some r) :
    Fn Try.prog 22 [.agg #[.int .i64 x0.Switches, .slice a0_0 x0.Links.length c0_0]] H [] fun H' v out => ∃ a0_0 c0_0, v = .agg #[.int .i64 r.Switches, .slice a0_0 r.Links.length c0_0] ∧ out = [] ∧ RSl H' a0_0 c0_0 r.Links := by
  refine fn_of_sim (args := [.agg #[.int .i64 x0.Switches, .slice a0_0 x0.Links.length c0_0]]) (n := 68) (Φ := fun r H' v out => ∃ a0_0 c0_0, v = .agg #[.int .i64 r.Switches, .slice a0_0 r.Links.length c0_0] ∧ out = [] ∧ RSl H' a0_0 c0_0 r.Links) hr fn_22 rfl rfl rfl fun w => ?_
  refine s_eq (by rw [catenarylaw12_made]) ?_
  refine s_seq ?_
  refine s_region ?_
  refine o_box rfl fun b1 => ?_
  refine o_alloc fun b3 => ?_
  refine s_done ?_
  refine s_seq ?_
  refine s_region ?_
  refine o_fa rfl ?_
  refine o_ld 0 rfl rfl rfl ?_
  refine s_bg fun y5 h6 => ?_
  refine s_callF rfl rfl (catenaryref00_Bring_ok k _ x0.Switches 6 h6) ?_
  refine o_add rfl rfl ?_
  refine o_bld rfl rfl ?_
  refine o_alloc fun b7 => ?_
  refine o_st 2 rfl rfl rfl rfl rfl rfl ?_
  refine s_done ?_
  refine s_seq ?_
  refine s_seq ?_
  refine s_region ?_
  refine o_asg rfl ?_
  refine s_done ?_
  refine s_join (fun p9 env own H' => ∃ a10 c11, env = [(2, .pointer (some ⟨b3, 0, none⟩)), (3, .pointer (some ⟨b7, 0, none⟩))] ∧ own = [.blk b3 (rowObj [.int .i64 0, .slice none 0 0] 24), .blk b7 (rowObj [.int .i64 (w64 (1 + y5)), .slice a10 p9.length c11] 24)] ∧ Hle H H' ∧ RSl H' a10 c11 p9) ?_ ?_
  · rintro p9 _ _ H13 ⟨a10, c11, rfl, rfl, hle14, hs12⟩
    refine s_seq ?_
    refine s_region ?_
    refine o_ld 1 rfl rfl rfl ?_
    refine o_st 0 rfl rfl rfl rfl rfl rfl ?_
    refine s_done ?_
    exact s_retv (xs := [.cell 2 24]) (vs := [.agg #[.int .i64 (w64 (1 + y5)), .slice a10 p9.length c11]]) [] fn_22 rfl ⟨rv_cell 0 rfl rfl rfl rfl, trivial⟩ (.cons _ (.cons _ .slnil)) ⟨_, _, rfl, rfl, hs12⟩
  · intro J15
    refine s_block ?_
    refine s_env (env' := [(1, .pointer (some ⟨b1, 0, none⟩)), (2, .pointer (some ⟨b3, 0, none⟩)), (3, .pointer (some ⟨b7, 0, none⟩)), (4, .int .i64 0)]) (by exact ⟨rfl, rfl, rfl, rfl, trivial⟩) ?_
    refine s_own (own' := [.blk b1 (rowObj [.int .i64 x0.Switches, .slice a0_0 x0.Links.length c0_0] 24), .blk b3 (rowObj [.int .i64 0, .slice none 0 0] 24), .blk b7 (rowObj [.int .i64 (w64 (1 + y5)), .slice none 0 0] 24)]) (.cons_cons _ (.cons_cons _ (.cons_cons _ .slnil))) ?_
    refine s_loopn (fun q s16 => catenarylaw12_made_l0 k x0 y5 q s16) (fun s16 env own H' => ∃ a17 c18, env = [(1, .pointer (some ⟨b1, 0, none⟩)), (2, .pointer (some ⟨b3, 0, none⟩)), (3, .pointer (some ⟨b7, 0, none⟩)), (4, .int .i64 s16.2)] ∧ own = [.blk b1 (rowObj [.int .i64 x0.Switches, .slice a0_0 x0.Links.length c0_0] 24), .blk b3 (rowObj [.int .i64 0, .slice none 0 0] 24), .blk b7 (rowObj [.int .i64 (w64 (1 + y5)), .slice a17 s16.1.length c18] 24)] ∧ Hle H H' ∧ RSl H' a17 c18 s16.1) (fun _ => rfl) ?_ k (([] : List Link), 0) ⟨_, _, rfl, rfl, .refl _, rsl_nil⟩
    rintro q20 ih21 s16 _ _ H22 ⟨a17, c18, rfl, rfl, hle23, hs19⟩
    refine s_eq (by rw [catenarylaw12_made_l0]) ?_
    have hs24 := RSl.mono hle23 hx0_0
    refine s_seq ?_
    refine s_seq ?_
    refine s_region ?_
    refine s_mid [(1, .pointer (some ⟨b1, 0, none⟩)), (2, .pointer (some ⟨b3, 0, none⟩)), (3, .pointer (some ⟨b7, 0, none⟩)), (4, .int .i64 s16.2), (21, .bool ((decide (s16.2 < (x0.Links.length : Int))) && decide (s16.2 < 30)))] [.blk b1 (rowObj [.int .i64 x0.Switches, .slice a0_0 x0.Links.length c0_0] 24), .blk b3 (rowObj [.int .i64 0, .slice none 0 0] 24), .blk b7 (rowObj [.int .i64 (w64 (1 + y5)), .slice a17 s16.1.length c18] 24)] ?_ ?_
    · refine s_cond rfl (fun h25 => ?_) (fun h25 => ?_)
      · refine s_skip ?_
        refine s_seq ?_
        refine s_block ?_
        refine s_seq ?_
        refine s_region ?_
        refine o_fa rfl ?_
        refine o_ld 0 rfl rfl rfl ?_
        refine o_mov rfl ?_
        refine o_ixf hs24 rfl rfl fun y26 bk28 of29 h27 hc30 => ?_
        refine o_ldH 0 hc30 rfl rfl rfl ?_
        refine o_alloc fun b31 => ?_
        refine o_st 3 rfl rfl rfl rfl rfl rfl ?_
        refine s_done ?_
        refine s_seq ?_
        refine s_bg fun y33 h35 => ?_
        refine s_bg fun y36 h38 => ?_
        refine s_bg fun y39 h41 => ?_
        refine s_bg fun y42 h44 => ?_
        refine s_bg fun y45 h47 => ?_
        refine s_drawL [(fun H v g => v = .pointer (some ⟨b31, 0, none⟩) ∧ g = []),
      (fun H v g => v = .pointer (some ⟨b31, 0, none⟩) ∧ g = []),
      (fun H v g => v = .int .i64 y26.A.Switch ∧ g = []),
      (fun H v g => v = .pointer (some ⟨b7, 0, none⟩) ∧ g = []),
      (fun H v g => v = .int .i64 (w64 (1 + y5)) ∧ g = []),
      (fun H v g => v = .int .i64 y33 ∧ g = []),
      (fun H v g => v = .int .i64 (w64 (1 + y33)) ∧ g = []),
      (fun H v g => v = .pointer (some ⟨b31, 0, none⟩) ∧ g = []),
      (fun H v g => v = .pointer (some ⟨b31, 1, none⟩) ∧ g = []),
      (fun H v g => v = .int .i64 y26.A.Port ∧ g = []),
      (fun H v g => v = .int .i64 y36 ∧ g = []),
      (fun H v g => v = .int .i64 (w64 (1 + y36)) ∧ g = []),
      (fun H v g => v = .pointer (some ⟨b31, 2, none⟩) ∧ g = []),
      (fun H v g => v = .pointer (some ⟨b31, 2, none⟩) ∧ g = []),
      (fun H v g => v = .int .i64 y26.B.Switch ∧ g = []),
      (fun H v g => v = .pointer (some ⟨b7, 0, none⟩) ∧ g = []),
      (fun H v g => v = .int .i64 (w64 (1 + y5)) ∧ g = []),
      (fun H v g => v = .int .i64 y39 ∧ g = []),
      (fun H v g => v = .int .i64 (w64 (1 + y39)) ∧ g = []),
      (fun H v g => v = .pointer (some ⟨b31, 2, none⟩) ∧ g = []),
      (fun H v g => v = .pointer (some ⟨b31, 3, none⟩) ∧ g = []),
      (fun H v g => v = .int .i64 y26.B.Port ∧ g = []),
      (fun H v g => v = .int .i64 y42 ∧ g = []),
      (fun H v g => v = .int .i64 (w64 (1 + y42)) ∧ g = []),
      (fun H v g => v = .agg #[.int .i64 y45.A.Switch, .int .i64 y45.A.Port, .int .i64 y45.B.Switch, .int .i64 y45.B.Port] ∧ g = []),
      (fun H v g => ∃ b55, v = .pointer (some ⟨b55, 0, none⟩) ∧ g = [.blk b55 (rowObj [.int .i64 0, .int .i64 0, .int .i64 0, .int .i64 0] 40)])] [[], [], [], [], [], [], [], [], [], [], [], [], [], [], [], [], [], [], [], [], [], [], [], [], [], []] mixed ⟨fun _ _ _ _ _ h => h, fun _ _ _ _ _ h => h, fun _ _ _ _ _ h => h, fun _ _ _ _ _ h => h, fun _ _ _ _ _ h => h, fun _ _ _ _ _ h => h, fun _ _ _ _ _ h => h, fun _ _ _ _ _ h => h, fun _ _ _ _ _ h => h, fun _ _ _ _ _ h => h, fun _ _ _ _ _ h => h, fun _ _ _ _ _ h => h, fun _ _ _ _ _ h => h, fun _ _ _ _ _ h => h, fun _ _ _ _ _ h => h, fun _ _ _ _ _ h => h, fun _ _ _ _ _ h => h, fun _ _ _ _ _ h => h, fun _ _ _ _ _ h => h, fun _ _ _ _ _ h => h, fun _ _ _ _ _ h => h, fun _ _ _ _ _ h => h, fun _ _ _ _ _ h => h, fun _ _ _ _ _ h => h, fun _ _ _ _ _ h => h, fun _ _ _ _ _ h => h, trivial⟩ (by kernel_rfl) (by kernel_rfl) rfl (by kernel_rfl) rfl rfl ?_ ?_
        · refine dcons ?_ ?_
          · intro V57 G58 H59 fr60 hle61 hd62
            refine ⟨_, some (), rfl, fun _ => ?_⟩
            refine s_env (env' := [(5, .pointer (some ⟨b31, 0, none⟩))]) (by exact ⟨rfl, trivial⟩) ?_
            refine o_fa rfl ?_
            exact s_pred fun tm w ht hE hI => ⟨(.pointer (some ⟨b31, 0, none⟩)), [], _, fun d hd => (by cases hd; exact hE _ _ rfl), .refl _, by exact hI, ⟨rfl, rfl⟩⟩
          refine dcons ?_ ?_
          · intro V64 G65 H66 fr67 hle68 hd69
            obtain ⟨hv71, hg72⟩ := hd69 0 (by decide)
            refine ⟨_, some (), rfl, fun _ => ?_⟩
            refine s_env (env' := [(29, .pointer (some ⟨b31, 0, none⟩))]) (by exact ⟨congrArg some hv71, trivial⟩) ?_
            refine o_fa rfl ?_
            exact s_pred fun tm w ht hE hI => ⟨(.pointer (some ⟨b31, 0, none⟩)), [], _, fun d hd => (by cases hd; exact hE _ _ rfl), .refl _, by exact hI, ⟨rfl, rfl⟩⟩
          refine dcons ?_ ?_
          · intro V73 G74 H75 fr76 hle77 hd78
            obtain ⟨hv80, hg81⟩ := hd78 1 (by decide)
            refine ⟨_, some (), rfl, fun _ => ?_⟩
            refine s_env (env' := [(30, .pointer (some ⟨b31, 0, none⟩))]) (by exact ⟨congrArg some hv80, trivial⟩) ?_
            refine o_ld 3 rfl rfl rfl ?_
            exact s_pred fun tm w ht hE hI => ⟨(.int .i64 y26.A.Switch), [], _, fun d hd => (by cases hd; exact hE _ _ rfl), .refl _, by exact hI, ⟨rfl, rfl⟩⟩
          refine dcons ?_ ?_
          · intro V82 G83 H84 fr85 hle86 hd87
            have hs89 := RSl.mono hle86 hs19
            refine ⟨_, some (), rfl, fun _ => ?_⟩
            refine s_env (env' := [(3, .pointer (some ⟨b7, 0, none⟩))]) (by exact ⟨rfl, trivial⟩) ?_
            refine o_fa rfl ?_
            exact s_pred fun tm w ht hE hI => ⟨(.pointer (some ⟨b7, 0, none⟩)), [], _, fun d hd => (by cases hd; exact hE _ _ rfl), .refl _, by exact hI, ⟨rfl, rfl⟩⟩
          refine dcons ?_ ?_
          · intro V90 G91 H92 fr93 hle94 hd95
            have hs97 := RSl.mono hle94 hs19
            obtain ⟨hv98, hg99⟩ := hd95 3 (by decide)
            refine ⟨_, some (), rfl, fun _ => ?_⟩
            refine s_env (env' := [(32, .pointer (some ⟨b7, 0, none⟩))]) (by exact ⟨congrArg some hv98, trivial⟩) ?_
            refine o_ld 2 rfl rfl rfl ?_
            exact s_pred fun tm w ht hE hI => ⟨(.int .i64 (w64 (1 + y5))), [], _, fun d hd => (by cases hd; exact hE _ _ rfl), .refl _, by exact hI, ⟨rfl, rfl⟩⟩
          refine dcons ?_ ?_
          · intro V100 G101 H102 fr103 hle104 hd105
            obtain ⟨hv107, hg108⟩ := hd105 2 (by decide)
            obtain ⟨hv109, hg110⟩ := hd105 4 (by decide)
            refine ⟨_, (catenaryref00_Bring k y26.A.Switch (w64 (1 + y5))).bind some, by rw [h35]; rfl, fun _ => ?_⟩
            refine s_env (env' := [(31, .int .i64 y26.A.Switch), (33, .int .i64 (w64 (1 + y5)))]) (by exact ⟨congrArg some hv107, congrArg some hv109, trivial⟩) ?_
            refine s_bg fun y33 h111 => ?_
            refine s_callF rfl rfl (catenaryref00_Bring_ok k _ y26.A.Switch (w64 (1 + y5)) h111) ?_
            obtain rfl := Option.some.inj (h35.symm.trans h111)
            exact s_pred fun tm w ht hE hI => ⟨(.int .i64 y33), [], _, fun d hd => (by cases hd; exact hE _ _ rfl), .refl _, by exact hI, ⟨rfl, rfl⟩⟩
          refine dcons ?_ ?_
          · intro V112 G113 H114 fr115 hle116 hd117
            obtain ⟨hv119, hg120⟩ := hd117 5 (by decide)
            refine ⟨_, some (), rfl, fun _ => ?_⟩
            refine s_env (env' := [(34, .int .i64 y33)]) (by exact ⟨congrArg some hv119, trivial⟩) ?_
            refine o_add rfl rfl ?_
            exact s_pred fun tm w ht hE hI => ⟨(.int .i64 (w64 (1 + y33))), [], _, fun d hd => (by cases hd; exact hE _ _ rfl), .refl _, by exact hI, ⟨rfl, rfl⟩⟩
          refine dcons ?_ ?_
          · intro V121 G122 H123 fr124 hle125 hd126
            refine ⟨_, some (), rfl, fun _ => ?_⟩
            refine s_env (env' := [(5, .pointer (some ⟨b31, 0, none⟩))]) (by exact ⟨rfl, trivial⟩) ?_
            refine o_fa rfl ?_
            exact s_pred fun tm w ht hE hI => ⟨(.pointer (some ⟨b31, 0, none⟩)), [], _, fun d hd => (by cases hd; exact hE _ _ rfl), .refl _, by exact hI, ⟨rfl, rfl⟩⟩
          refine dcons ?_ ?_
          · intro V128 G129 H130 fr131 hle132 hd133
            obtain ⟨hv135, hg136⟩ := hd133 7 (by decide)
            refine ⟨_, some (), rfl, fun _ => ?_⟩
            refine s_env (env' := [(36, .pointer (some ⟨b31, 0, none⟩))]) (by exact ⟨congrArg some hv135, trivial⟩) ?_
            refine o_fa rfl ?_
            exact s_pred fun tm w ht hE hI => ⟨(.pointer (some ⟨b31, 1, none⟩)), [], _, fun d hd => (by cases hd; exact hE _ _ rfl), .refl _, by exact hI, ⟨rfl, rfl⟩⟩
          refine dcons ?_ ?_
          · intro V137 G138 H139 fr140 hle141 hd142
            obtain ⟨hv144, hg145⟩ := hd142 8 (by decide)
            refine ⟨_, some (), rfl, fun _ => ?_⟩
            refine s_env (env' := [(37, .pointer (some ⟨b31, 1, none⟩))]) (by exact ⟨congrArg some hv144, trivial⟩) ?_
            refine o_ld 3 rfl rfl rfl ?_
            exact s_pred fun tm w ht hE hI => ⟨(.int .i64 y26.A.Port), [], _, fun d hd => (by cases hd; exact hE _ _ rfl), .refl _, by exact hI, ⟨rfl, rfl⟩⟩
          refine dcons ?_ ?_
          · intro V146 G147 H148 fr149 hle150 hd151
            obtain ⟨hv153, hg154⟩ := hd151 9 (by decide)
            refine ⟨_, (catenaryref00_Bring k y26.A.Port 4).bind some, by rw [h38]; rfl, fun _ => ?_⟩
            refine s_env (env' := [(38, .int .i64 y26.A.Port)]) (by exact ⟨congrArg some hv153, trivial⟩) ?_
            refine s_bg fun y36 h155 => ?_
            refine s_callF rfl rfl (catenaryref00_Bring_ok k _ y26.A.Port 4 h155) ?_
            obtain rfl := Option.some.inj (h38.symm.trans h155)
            exact s_pred fun tm w ht hE hI => ⟨(.int .i64 y36), [], _, fun d hd => (by cases hd; exact hE _ _ rfl), .refl _, by exact hI, ⟨rfl, rfl⟩⟩
          refine dcons ?_ ?_
          · intro V156 G157 H158 fr159 hle160 hd161
            obtain ⟨hv163, hg164⟩ := hd161 10 (by decide)
            refine ⟨_, some (), rfl, fun _ => ?_⟩
            refine s_env (env' := [(39, .int .i64 y36)]) (by exact ⟨congrArg some hv163, trivial⟩) ?_
            refine o_add rfl rfl ?_
            exact s_pred fun tm w ht hE hI => ⟨(.int .i64 (w64 (1 + y36))), [], _, fun d hd => (by cases hd; exact hE _ _ rfl), .refl _, by exact hI, ⟨rfl, rfl⟩⟩
          refine dcons ?_ ?_
          · intro V165 G166 H167 fr168 hle169 hd170
            refine ⟨_, some (), rfl, fun _ => ?_⟩
            refine s_env (env' := [(5, .pointer (some ⟨b31, 0, none⟩))]) (by exact ⟨rfl, trivial⟩) ?_
            refine o_fa rfl ?_
            exact s_pred fun tm w ht hE hI => ⟨(.pointer (some ⟨b31, 2, none⟩)), [], _, fun d hd => (by cases hd; exact hE _ _ rfl), .refl _, by exact hI, ⟨rfl, rfl⟩⟩
          refine dcons ?_ ?_
          · intro V172 G173 H174 fr175 hle176 hd177
            obtain ⟨hv179, hg180⟩ := hd177 12 (by decide)
            refine ⟨_, some (), rfl, fun _ => ?_⟩
            refine s_env (env' := [(41, .pointer (some ⟨b31, 2, none⟩))]) (by exact ⟨congrArg some hv179, trivial⟩) ?_
            refine o_fa rfl ?_
            exact s_pred fun tm w ht hE hI => ⟨(.pointer (some ⟨b31, 2, none⟩)), [], _, fun d hd => (by cases hd; exact hE _ _ rfl), .refl _, by exact hI, ⟨rfl, rfl⟩⟩
          refine dcons ?_ ?_
          · intro V181 G182 H183 fr184 hle185 hd186
            obtain ⟨hv188, hg189⟩ := hd186 13 (by decide)
            refine ⟨_, some (), rfl, fun _ => ?_⟩
            refine s_env (env' := [(42, .pointer (some ⟨b31, 2, none⟩))]) (by exact ⟨congrArg some hv188, trivial⟩) ?_
            refine o_ld 3 rfl rfl rfl ?_
            exact s_pred fun tm w ht hE hI => ⟨(.int .i64 y26.B.Switch), [], _, fun d hd => (by cases hd; exact hE _ _ rfl), .refl _, by exact hI, ⟨rfl, rfl⟩⟩
          refine dcons ?_ ?_
          · intro V190 G191 H192 fr193 hle194 hd195
            have hs197 := RSl.mono hle194 hs19
            refine ⟨_, some (), rfl, fun _ => ?_⟩
            refine s_env (env' := [(3, .pointer (some ⟨b7, 0, none⟩))]) (by exact ⟨rfl, trivial⟩) ?_
            refine o_fa rfl ?_
            exact s_pred fun tm w ht hE hI => ⟨(.pointer (some ⟨b7, 0, none⟩)), [], _, fun d hd => (by cases hd; exact hE _ _ rfl), .refl _, by exact hI, ⟨rfl, rfl⟩⟩
          refine dcons ?_ ?_
          · intro V198 G199 H200 fr201 hle202 hd203
            have hs205 := RSl.mono hle202 hs19
            obtain ⟨hv206, hg207⟩ := hd203 15 (by decide)
            refine ⟨_, some (), rfl, fun _ => ?_⟩
            refine s_env (env' := [(44, .pointer (some ⟨b7, 0, none⟩))]) (by exact ⟨congrArg some hv206, trivial⟩) ?_
            refine o_ld 2 rfl rfl rfl ?_
            exact s_pred fun tm w ht hE hI => ⟨(.int .i64 (w64 (1 + y5))), [], _, fun d hd => (by cases hd; exact hE _ _ rfl), .refl _, by exact hI, ⟨rfl, rfl⟩⟩
          refine dcons ?_ ?_
          · intro V208 G209 H210 fr211 hle212 hd213
            obtain ⟨hv215, hg216⟩ := hd213 14 (by decide)
            obtain ⟨hv217, hg218⟩ := hd213 16 (by decide)
            refine ⟨_, (catenaryref00_Bring k y26.B.Switch (w64 (1 + y5))).bind some, by rw [h41]; rfl, fun _ => ?_⟩
            refine s_env (env' := [(43, .int .i64 y26.B.Switch), (45, .int .i64 (w64 (1 + y5)))]) (by exact ⟨congrArg some hv215, congrArg some hv217, trivial⟩) ?_
            refine s_bg fun y39 h219 => ?_
            refine s_callF rfl rfl (catenaryref00_Bring_ok k _ y26.B.Switch (w64 (1 + y5)) h219) ?_
            obtain rfl := Option.some.inj (h41.symm.trans h219)
            exact s_pred fun tm w ht hE hI => ⟨(.int .i64 y39), [], _, fun d hd => (by cases hd; exact hE _ _ rfl), .refl _, by exact hI, ⟨rfl, rfl⟩⟩
          refine dcons ?_ ?_
          · intro V220 G221 H222 fr223 hle224 hd225
            obtain ⟨hv227, hg228⟩ := hd225 17 (by decide)
            refine ⟨_, some (), rfl, fun _ => ?_⟩
            refine s_env (env' := [(46, .int .i64 y39)]) (by exact ⟨congrArg some hv227, trivial⟩) ?_
            refine o_add rfl rfl ?_
            exact s_pred fun tm w ht hE hI => ⟨(.int .i64 (w64 (1 + y39))), [], _, fun d hd => (by cases hd; exact hE _ _ rfl), .refl _, by exact hI, ⟨rfl, rfl⟩⟩
          refine dcons ?_ ?_
          · intro V229 G230 H231 fr232 hle233 hd234
            refine ⟨_, some (), rfl, fun _ => ?_⟩
            refine s_env (env' := [(5, .pointer (some ⟨b31, 0, none⟩))]) (by exact ⟨rfl, trivial⟩) ?_
            refine o_fa rfl ?_
            exact s_pred fun tm w ht hE hI => ⟨(.pointer (some ⟨b31, 2, none⟩)), [], _, fun d hd => (by cases hd; exact hE _ _ rfl), .refl _, by exact hI, ⟨rfl, rfl⟩⟩
          refine dcons ?_ ?_
          · intro V236 G237 H238 fr239 hle240 hd241
            obtain ⟨hv243, hg244⟩ := hd241 19 (by decide)
            refine ⟨_, some (), rfl, fun _ => ?_⟩
            refine s_env (env' := [(48, .pointer (some ⟨b31, 2, none⟩))]) (by exact ⟨congrArg some hv243, trivial⟩) ?_
            refine o_fa rfl ?_
            exact s_pred fun tm w ht hE hI => ⟨(.pointer (some ⟨b31, 3, none⟩)), [], _, fun d hd => (by cases hd; exact hE _ _ rfl), .refl _, by exact hI, ⟨rfl, rfl⟩⟩
          refine dcons ?_ ?_
          · intro V245 G246 H247 fr248 hle249 hd250
            obtain ⟨hv252, hg253⟩ := hd250 20 (by decide)
            refine ⟨_, some (), rfl, fun _ => ?_⟩
            refine s_env (env' := [(49, .pointer (some ⟨b31, 3, none⟩))]) (by exact ⟨congrArg some hv252, trivial⟩) ?_
            refine o_ld 3 rfl rfl rfl ?_
            exact s_pred fun tm w ht hE hI => ⟨(.int .i64 y26.B.Port), [], _, fun d hd => (by cases hd; exact hE _ _ rfl), .refl _, by exact hI, ⟨rfl, rfl⟩⟩
          refine dcons ?_ ?_
          · intro V254 G255 H256 fr257 hle258 hd259
            obtain ⟨hv261, hg262⟩ := hd259 21 (by decide)
            refine ⟨_, (catenaryref00_Bring k y26.B.Port 4).bind some, by rw [h44]; rfl, fun _ => ?_⟩
            refine s_env (env' := [(50, .int .i64 y26.B.Port)]) (by exact ⟨congrArg some hv261, trivial⟩) ?_
            refine s_bg fun y42 h263 => ?_
            refine s_callF rfl rfl (catenaryref00_Bring_ok k _ y26.B.Port 4 h263) ?_
            obtain rfl := Option.some.inj (h44.symm.trans h263)
            exact s_pred fun tm w ht hE hI => ⟨(.int .i64 y42), [], _, fun d hd => (by cases hd; exact hE _ _ rfl), .refl _, by exact hI, ⟨rfl, rfl⟩⟩
          refine dcons ?_ ?_
          · intro V264 G265 H266 fr267 hle268 hd269
            obtain ⟨hv271, hg272⟩ := hd269 22 (by decide)
            refine ⟨_, some (), rfl, fun _ => ?_⟩
            refine s_env (env' := [(51, .int .i64 y42)]) (by exact ⟨congrArg some hv271, trivial⟩) ?_
            refine o_add rfl rfl ?_
            exact s_pred fun tm w ht hE hI => ⟨(.int .i64 (w64 (1 + y42))), [], _, fun d hd => (by cases hd; exact hE _ _ rfl), .refl _, by exact hI, ⟨rfl, rfl⟩⟩
          refine dcons ?_ ?_
          · intro V273 G274 H275 fr276 hle277 hd278
            obtain ⟨hv280, hg281⟩ := hd278 6 (by decide)
            obtain ⟨hv282, hg283⟩ := hd278 11 (by decide)
            obtain ⟨hv284, hg285⟩ := hd278 18 (by decide)
            obtain ⟨hv286, hg287⟩ := hd278 23 (by decide)
            refine ⟨_, (catenarylaw12_link k (w64 (1 + y33)) (w64 (1 + y36)) (w64 (1 + y39)) (w64 (1 + y42))).bind some, by rw [h47]; rfl, fun _ => ?_⟩
            refine s_env (env' := [(35, .int .i64 (w64 (1 + y33))), (40, .int .i64 (w64 (1 + y36))), (47, .int .i64 (w64 (1 + y39))), (52, .int .i64 (w64 (1 + y42)))]) (by exact ⟨congrArg some hv280, congrArg some hv282, congrArg some hv284, congrArg some hv286, trivial⟩) ?_
            refine s_bg fun y45 h288 => ?_
            refine s_callF rfl rfl (catenarylaw12_link_ok k _ (w64 (1 + y33)) (w64 (1 + y36)) (w64 (1 + y39)) (w64 (1 + y42)) h288) ?_
            obtain rfl := Option.some.inj (h47.symm.trans h288)
            exact s_pred fun tm w ht hE hI => ⟨(.agg #[.int .i64 y45.A.Switch, .int .i64 y45.A.Port, .int .i64 y45.B.Switch, .int .i64 y45.B.Port]), [], _, fun d hd => (by cases hd; exact hE _ _ rfl), .refl _, by exact hI, ⟨rfl, rfl⟩⟩
          refine dcons ?_ ?_
          · intro V289 G290 H291 fr292 hle293 hd294
            refine ⟨_, some (), rfl, fun _ => ?_⟩
            refine s_env (env' := []) (by exact trivial) ?_
            refine o_alloc fun b296 => ?_
            refine s_perm (own' := [.blk b1 (rowObj [.int .i64 x0.Switches, .slice a0_0 x0.Links.length c0_0] 24), .blk b3 (rowObj [.int .i64 0, .slice none 0 0] 24), .blk b7 (rowObj [.int .i64 (w64 (1 + y5)), .slice a17 s16.1.length c18] 24), .blk b31 (rowObj [.int .i64 y26.A.Switch, .int .i64 y26.A.Port, .int .i64 y26.B.Switch, .int .i64 y26.B.Port] 40), .blk b296 (rowObj [.int .i64 0, .int .i64 0, .int .i64 0, .int .i64 0] 40)] ++ fr292) (pm3 (a := [.blk b1 (rowObj [.int .i64 x0.Switches, .slice a0_0 x0.Links.length c0_0] 24), .blk b3 (rowObj [.int .i64 0, .slice none 0 0] 24), .blk b7 (rowObj [.int .i64 (w64 (1 + y5)), .slice a17 s16.1.length c18] 24), .blk b31 (rowObj [.int .i64 y26.A.Switch, .int .i64 y26.A.Port, .int .i64 y26.B.Switch, .int .i64 y26.B.Port] 40)]) (xs := [.blk b296 (rowObj [.int .i64 0, .int .i64 0, .int .i64 0, .int .i64 0] 40)])) ?_
            exact s_pred fun tm w ht hE hI => ⟨(.pointer (some ⟨b296, 0, none⟩)), [.blk b296 (rowObj [.int .i64 0, .int .i64 0, .int .i64 0, .int .i64 0] 40)], _, fun d hd => (by cases hd; exact hE _ _ rfl), .refl _, by exact hI, ⟨b296, rfl, rfl⟩⟩
          exact dnil
        · intro V300 G301 H298 hle299 hF302
          have hs303 := RSl.mono hle299 hs24
          have hc304 := CellsAt.mono hle299 hc30
          have hs305 := RSl.mono hle299 hs19
          obtain ⟨hv306, hg307⟩ := hF302 24 (show 24 < 26 by decide)
          obtain ⟨b308, hv309, hg310⟩ := hF302 25 (show 25 < 26 by decide)
          refine s_env (env' := [(53, .agg #[.int .i64 y45.A.Switch, .int .i64 y45.A.Port, .int .i64 y45.B.Switch, .int .i64 y45.B.Port]), (6, .pointer (some ⟨b308, 0, none⟩)), (1, .pointer (some ⟨b1, 0, none⟩)), (2, .pointer (some ⟨b3, 0, none⟩)), (3, .pointer (some ⟨b7, 0, none⟩)), (4, .int .i64 s16.2), (21, .bool ((decide (s16.2 < (x0.Links.length : Int))) && decide (s16.2 < 30))), (24, .pointer (some ⟨b1, 1, none⟩)), (25, .slice a0_0 x0.Links.length c0_0), (26, .int .i64 s16.2), (27, .pointer (some ⟨bk28, of29, none⟩)), (28, .agg #[.int .i64 y26.A.Switch, .int .i64 y26.A.Port, .int .i64 y26.B.Switch, .int .i64 y26.B.Port]), (5, .pointer (some ⟨b31, 0, none⟩))]) (by exact ⟨congrArg some hv306, congrArg some hv309, rfl, rfl, rfl, rfl, rfl, rfl, rfl, rfl, rfl, rfl, rfl, trivial⟩) ?_
          refine s_liv (js := [25]) rfl ?_
          refine s_ownE (own' := [.blk b1 (rowObj [.int .i64 x0.Switches, .slice a0_0 x0.Links.length c0_0] 24), .blk b3 (rowObj [.int .i64 0, .slice none 0 0] 24), .blk b7 (rowObj [.int .i64 (w64 (1 + y5)), .slice a17 s16.1.length c18] 24), .blk b31 (rowObj [.int .i64 y26.A.Switch, .int .i64 y26.A.Port, .int .i64 y26.B.Switch, .int .i64 y26.B.Port] 40), .blk b308 (rowObj [.int .i64 0, .int .i64 0, .int .i64 0, .int .i64 0] 40)]) (by simp only [List.flatMap_cons, List.flatMap_nil, List.append_nil, hg310]; rfl) ?_
          refine o_st 4 rfl rfl rfl rfl rfl rfl ?_
          refine s_done ?_
          refine s_seq ?_
          refine s_region ?_
          refine o_ld 2 rfl rfl rfl ?_
          refine o_alloc fun b311 => ?_
          refine o_st 5 rfl rfl rfl rfl rfl rfl ?_
          refine s_done ?_
          refine s_seq ?_
          refine s_bg fun _ h321 => ?_
          refine s_bg fun _ h329 => ?_
          refine s_drawL [(fun H v g => ∃ b330, v = .slice (some ⟨b330, 0, none⟩) ([] : List Link).length 0 ∧ g = [.osl (.slice (some ⟨b330, 0, none⟩) ([] : List Link).length 0) 4 40 []] ∧ All2 (GoT.rep H) [] ([] : List Link)),
      (fun H v g => v = .pointer (some ⟨b7, 1, none⟩) ∧ g = []),
      (fun H v g => v = .slice a17 s16.1.length c18 ∧ g = [] ∧ RSl H a17 c18 s16.1),
      (fun H v g => ∃ a333 c334 ls337, v = .slice a333 (([] : List Link) ++ s16.1).length c334 ∧ g = [.osl (.slice a333 (([] : List Link) ++ s16.1).length c334) 4 40 ls337] ∧ All2 (GoT.rep H) ls337 (([] : List Link) ++ s16.1)),
      (fun H v g => v = .agg #[.int .i64 y45.A.Switch, .int .i64 y45.A.Port, .int .i64 y45.B.Switch, .int .i64 y45.B.Port] ∧ g = []),
      (fun H v g => ∃ b338, v = .slice (some ⟨b338, 0, none⟩) ([y45] : List Link).length 1 ∧ g = [.osl (.slice (some ⟨b338, 0, none⟩) ([y45] : List Link).length 1) 4 40 [[.int .i64 y45.A.Switch, .int .i64 y45.A.Port, .int .i64 y45.B.Switch, .int .i64 y45.B.Port]]] ∧ All2 (GoT.rep H) [[.int .i64 y45.A.Switch, .int .i64 y45.A.Port, .int .i64 y45.B.Switch, .int .i64 y45.B.Port]] ([y45] : List Link)),
      (fun H v g => ∃ a341 c342 ls337 b338, v = .slice a341 ((([] : List Link) ++ s16.1) ++ ([y45] : List Link)).length c342 ∧ g = [.osl (.slice a341 ((([] : List Link) ++ s16.1) ++ ([y45] : List Link)).length c342) 4 40 (ls337 ++ ([[.int .i64 y45.A.Switch, .int .i64 y45.A.Port, .int .i64 y45.B.Switch, .int .i64 y45.B.Port]])), .osl (.slice (some ⟨b338, 0, none⟩) ([y45] : List Link).length 1) 4 40 [[.int .i64 y45.A.Switch, .int .i64 y45.A.Port, .int .i64 y45.B.Switch, .int .i64 y45.B.Port]]] ∧ All2 (GoT.rep H) (ls337 ++ ([[.int .i64 y45.A.Switch, .int .i64 y45.A.Port, .int .i64 y45.B.Switch, .int .i64 y45.B.Port]])) ((([] : List Link) ++ s16.1) ++ ([y45] : List Link)) ∧ All2 (GoT.rep H) [[.int .i64 y45.A.Switch, .int .i64 y45.A.Port, .int .i64 y45.B.Switch, .int .i64 y45.B.Port]] ([y45] : List Link))] [[], [], [], [0], [], [], [3, 5]] mixed ⟨fun _ _ _ _ hle ⟨b330, e1, e2, h0_⟩ => ⟨_, e1, e2, All2.mono (fun _ _ => GoT.mono hle) h0_⟩, fun _ _ _ _ _ h => h, fun _ _ _ _ hle ⟨e1, e2, h0_⟩ => ⟨e1, e2, RSl.mono hle h0_⟩, fun _ _ _ _ hle ⟨a333, c334, ls337, e1, e2, h0_⟩ => ⟨_, _, _, e1, e2, All2.mono (fun _ _ => GoT.mono hle) h0_⟩, fun _ _ _ _ _ h => h, fun _ _ _ _ hle ⟨b338, e1, e2, h0_⟩ => ⟨_, e1, e2, All2.mono (fun _ _ => GoT.mono hle) h0_⟩, fun _ _ _ _ hle ⟨a341, c342, ls337, b338, e1, e2, h0_, h1_⟩ => ⟨_, _, _, _, e1, e2, All2.mono (fun _ _ => GoT.mono hle) h0_, All2.mono (fun _ _ => GoT.mono hle) h1_⟩, trivial⟩ (by kernel_rfl) (by kernel_rfl) rfl (by kernel_rfl) rfl rfl ?_ ?_
          · refine dcons ?_ ?_
            · intro V345 G346 H347 fr348 hle349 hd350
              refine ⟨_, some (), rfl, fun _ => ?_⟩
              refine s_env (env' := []) (by exact trivial) ?_
              refine o_bsl (xs := []) rfl rfl (by simp) rfl rfl fun b352 => ?_
              have hA353 : All2 (GoT.rep H347) [] ([] : List Link) := all2_enc (([] : List Link))
              refine s_perm (own' := [.blk b1 (rowObj [.int .i64 x0.Switches, .slice a0_0 x0.Links.length c0_0] 24), .blk b3 (rowObj [.int .i64 0, .slice none 0 0] 24), .blk b7 (rowObj [.int .i64 (w64 (1 + y5)), .slice a17 s16.1.length c18] 24), .blk b31 (rowObj [.int .i64 y26.A.Switch, .int .i64 y26.A.Port, .int .i64 y26.B.Switch, .int .i64 y26.B.Port] 40), .blk b308 (rowObj [.int .i64 y45.A.Switch, .int .i64 y45.A.Port, .int .i64 y45.B.Switch, .int .i64 y45.B.Port] 40), .blk b311 (rowObj [.int .i64 (w64 (1 + y5)), .slice a17 s16.1.length c18] 24), .osl (.slice (some ⟨b352, 0, none⟩) ([] : List Link).length 0) 4 40 []] ++ fr348) (pm3 (a := [.blk b1 (rowObj [.int .i64 x0.Switches, .slice a0_0 x0.Links.length c0_0] 24), .blk b3 (rowObj [.int .i64 0, .slice none 0 0] 24), .blk b7 (rowObj [.int .i64 (w64 (1 + y5)), .slice a17 s16.1.length c18] 24), .blk b31 (rowObj [.int .i64 y26.A.Switch, .int .i64 y26.A.Port, .int .i64 y26.B.Switch, .int .i64 y26.B.Port] 40), .blk b308 (rowObj [.int .i64 y45.A.Switch, .int .i64 y45.A.Port, .int .i64 y45.B.Switch, .int .i64 y45.B.Port] 40), .blk b311 (rowObj [.int .i64 (w64 (1 + y5)), .slice a17 s16.1.length c18] 24)]) (xs := [.osl (.slice (some ⟨b352, 0, none⟩) ([] : List Link).length 0) 4 40 []])) ?_
              exact s_pred fun tm w ht hE hI => ⟨(.slice (some ⟨b352, 0, none⟩) ([] : List Link).length 0), [.osl (.slice (some ⟨b352, 0, none⟩) ([] : List Link).length 0) 4 40 []], _, fun d hd => (by cases hd; exact hE _ _ rfl), .refl _, by exact hI, ⟨b352, rfl, rfl, hA353⟩⟩
            refine dcons ?_ ?_
            · intro V355 G356 H357 fr358 hle359 hd360
              have hs362 := RSl.mono hle359 hs305
              refine ⟨_, some (), rfl, fun _ => ?_⟩
              refine s_env (env' := [(3, .pointer (some ⟨b7, 0, none⟩))]) (by exact ⟨rfl, trivial⟩) ?_
              refine o_fa rfl ?_
              exact s_pred fun tm w ht hE hI => ⟨(.pointer (some ⟨b7, 1, none⟩)), [], _, fun d hd => (by cases hd; exact hE _ _ rfl), .refl _, by exact hI, ⟨rfl, rfl⟩⟩
            refine dcons ?_ ?_
            · intro V363 G364 H365 fr366 hle367 hd368
              have hs370 := RSl.mono hle367 hs305
              obtain ⟨hv371, hg372⟩ := hd368 1 (by decide)
              refine ⟨_, some (), rfl, fun _ => ?_⟩
              refine s_env (env' := [(56, .pointer (some ⟨b7, 1, none⟩))]) (by exact ⟨congrArg some hv371, trivial⟩) ?_
              refine o_ld 2 rfl rfl rfl ?_
              exact s_pred fun tm w ht hE hI => ⟨(.slice a17 s16.1.length c18), [], _, fun d hd => (by cases hd; exact hE _ _ rfl), .refl _, by exact hI, ⟨rfl, rfl, hs370⟩⟩
            refine dcons ?_ ?_
            · intro V373 G374 H375 fr376 hle377 hd378
              obtain ⟨b380, hv381, hg382, hp383⟩ := hd378 0 (by decide)
              obtain ⟨hv384, hg385, hp386⟩ := hd378 2 (by decide)
              refine ⟨_, (app ([] : List Link) s16.1).bind some, by rw [h321]; rfl, fun _ => ?_⟩
              refine s_env (env' := [(55, .slice (some ⟨b380, 0, none⟩) ([] : List Link).length 0), (57, .slice a17 s16.1.length c18)]) (by exact ⟨congrArg some hv381, congrArg some hv384, trivial⟩) ?_
              refine s_ownE (own' := [.blk b1 (rowObj [.int .i64 x0.Switches, .slice a0_0 x0.Links.length c0_0] 24), .blk b3 (rowObj [.int .i64 0, .slice none 0 0] 24), .blk b7 (rowObj [.int .i64 (w64 (1 + y5)), .slice a17 s16.1.length c18] 24), .blk b31 (rowObj [.int .i64 y26.A.Switch, .int .i64 y26.A.Port, .int .i64 y26.B.Switch, .int .i64 y26.B.Port] 40), .blk b308 (rowObj [.int .i64 y45.A.Switch, .int .i64 y45.A.Port, .int .i64 y45.B.Switch, .int .i64 y45.B.Port] 40), .blk b311 (rowObj [.int .i64 (w64 (1 + y5)), .slice a17 s16.1.length c18] 24), .osl (.slice (some ⟨b380, 0, none⟩) ([] : List Link).length 0) 4 40 []] ++ fr376) (by simp only [List.flatMap_cons, List.flatMap_nil, List.append_nil, hg382]; rfl) ?_
              refine o_appS 6 rfl rfl rfl hp383 hp386 fun a387 c388 ls391 h389 hA390 => ?_
              exact s_pred fun tm w ht hE hI => ⟨(.slice a387 (([] : List Link) ++ s16.1).length c388), [.osl (.slice a387 (([] : List Link) ++ s16.1).length c388) 4 40 ls391], _, fun d hd => (by cases hd; exact hE _ _ rfl), .refl _, by exact hI, ⟨a387, c388, ls391, rfl, rfl, hA390⟩⟩
            refine dcons ?_ ?_
            · intro V392 G393 H394 fr395 hle396 hd397
              refine ⟨_, some (), rfl, fun _ => ?_⟩
              refine s_env (env' := [(6, .pointer (some ⟨b308, 0, none⟩))]) (by exact ⟨rfl, trivial⟩) ?_
              refine o_ld 4 rfl rfl rfl ?_
              exact s_pred fun tm w ht hE hI => ⟨(.agg #[.int .i64 y45.A.Switch, .int .i64 y45.A.Port, .int .i64 y45.B.Switch, .int .i64 y45.B.Port]), [], _, fun d hd => (by cases hd; exact hE _ _ rfl), .refl _, by exact hI, ⟨rfl, rfl⟩⟩
            refine dcons ?_ ?_
            · intro V399 G400 H401 fr402 hle403 hd404
              obtain ⟨hv406, hg407⟩ := hd404 4 (by decide)
              refine ⟨_, some (), rfl, fun _ => ?_⟩
              refine s_env (env' := [(59, .agg #[.int .i64 y45.A.Switch, .int .i64 y45.A.Port, .int .i64 y45.B.Switch, .int .i64 y45.B.Port])]) (by exact ⟨congrArg some hv406, trivial⟩) ?_
              refine o_bsl (xs := [.tmp 59]) rfl rfl (by simp only [List.mem_cons, List.not_mem_nil, or_false, forall_eq_or_imp, forall_eq]; exact ⟨rfl, rfl⟩) rfl rfl fun b408 => ?_
              have hA409 : All2 (GoT.rep H401) [[.int .i64 y45.A.Switch, .int .i64 y45.A.Port, .int .i64 y45.B.Switch, .int .i64 y45.B.Port]] ([y45] : List Link) := all2_enc (([y45] : List Link))
              refine s_perm (own' := [.blk b1 (rowObj [.int .i64 x0.Switches, .slice a0_0 x0.Links.length c0_0] 24), .blk b3 (rowObj [.int .i64 0, .slice none 0 0] 24), .blk b7 (rowObj [.int .i64 (w64 (1 + y5)), .slice a17 s16.1.length c18] 24), .blk b31 (rowObj [.int .i64 y26.A.Switch, .int .i64 y26.A.Port, .int .i64 y26.B.Switch, .int .i64 y26.B.Port] 40), .blk b308 (rowObj [.int .i64 y45.A.Switch, .int .i64 y45.A.Port, .int .i64 y45.B.Switch, .int .i64 y45.B.Port] 40), .blk b311 (rowObj [.int .i64 (w64 (1 + y5)), .slice a17 s16.1.length c18] 24), .osl (.slice (some ⟨b408, 0, none⟩) ([y45] : List Link).length 1) 4 40 [[.int .i64 y45.A.Switch, .int .i64 y45.A.Port, .int .i64 y45.B.Switch, .int .i64 y45.B.Port]]] ++ fr402) (pm3 (a := [.blk b1 (rowObj [.int .i64 x0.Switches, .slice a0_0 x0.Links.length c0_0] 24), .blk b3 (rowObj [.int .i64 0, .slice none 0 0] 24), .blk b7 (rowObj [.int .i64 (w64 (1 + y5)), .slice a17 s16.1.length c18] 24), .blk b31 (rowObj [.int .i64 y26.A.Switch, .int .i64 y26.A.Port, .int .i64 y26.B.Switch, .int .i64 y26.B.Port] 40), .blk b308 (rowObj [.int .i64 y45.A.Switch, .int .i64 y45.A.Port, .int .i64 y45.B.Switch, .int .i64 y45.B.Port] 40), .blk b311 (rowObj [.int .i64 (w64 (1 + y5)), .slice a17 s16.1.length c18] 24)]) (xs := [.osl (.slice (some ⟨b408, 0, none⟩) ([y45] : List Link).length 1) 4 40 [[.int .i64 y45.A.Switch, .int .i64 y45.A.Port, .int .i64 y45.B.Switch, .int .i64 y45.B.Port]]])) ?_
              exact s_pred fun tm w ht hE hI => ⟨(.slice (some ⟨b408, 0, none⟩) ([y45] : List Link).length 1), [.osl (.slice (some ⟨b408, 0, none⟩) ([y45] : List Link).length 1) 4 40 [[.int .i64 y45.A.Switch, .int .i64 y45.A.Port, .int .i64 y45.B.Switch, .int .i64 y45.B.Port]]], _, fun d hd => (by cases hd; exact hE _ _ rfl), .refl _, by exact hI, ⟨b408, rfl, rfl, hA409⟩⟩
            refine dcons ?_ ?_
            · intro V411 G412 H413 fr414 hle415 hd416
              obtain ⟨a418, c419, ls420, hv421, hg422, hp423⟩ := hd416 3 (by decide)
              obtain ⟨b424, hv425, hg426, hp427⟩ := hd416 5 (by decide)
              refine ⟨_, (app (([] : List Link) ++ s16.1) ([y45] : List Link)).bind some, by rw [h329]; rfl, fun _ => ?_⟩
              refine s_env (env' := [(58, .slice a418 (([] : List Link) ++ s16.1).length c419), (60, .slice (some ⟨b424, 0, none⟩) ([y45] : List Link).length 1)]) (by exact ⟨congrArg some hv421, congrArg some hv425, trivial⟩) ?_
              refine s_ownE (own' := [.blk b1 (rowObj [.int .i64 x0.Switches, .slice a0_0 x0.Links.length c0_0] 24), .blk b3 (rowObj [.int .i64 0, .slice none 0 0] 24), .blk b7 (rowObj [.int .i64 (w64 (1 + y5)), .slice a17 s16.1.length c18] 24), .blk b31 (rowObj [.int .i64 y26.A.Switch, .int .i64 y26.A.Port, .int .i64 y26.B.Switch, .int .i64 y26.B.Port] 40), .blk b308 (rowObj [.int .i64 y45.A.Switch, .int .i64 y45.A.Port, .int .i64 y45.B.Switch, .int .i64 y45.B.Port] 40), .blk b311 (rowObj [.int .i64 (w64 (1 + y5)), .slice a17 s16.1.length c18] 24), .osl (.slice a418 (([] : List Link) ++ s16.1).length c419) 4 40 ls420, .osl (.slice (some ⟨b424, 0, none⟩) ([y45] : List Link).length 1) 4 40 [[.int .i64 y45.A.Switch, .int .i64 y45.A.Port, .int .i64 y45.B.Switch, .int .i64 y45.B.Port]]] ++ fr414) (by simp only [List.flatMap_cons, List.flatMap_nil, List.append_nil, hg422, hg426]; rfl) ?_
              refine o_appO 6 7 rfl rfl rfl hp423 rfl hp427 fun a428 c429 h430 hA431 => ?_
              exact s_pred fun tm w ht hE hI => ⟨(.slice a428 ((([] : List Link) ++ s16.1) ++ ([y45] : List Link)).length c429), [.osl (.slice a428 ((([] : List Link) ++ s16.1) ++ ([y45] : List Link)).length c429) 4 40 (ls420 ++ ([[.int .i64 y45.A.Switch, .int .i64 y45.A.Port, .int .i64 y45.B.Switch, .int .i64 y45.B.Port]])), .osl (.slice (some ⟨b424, 0, none⟩) ([y45] : List Link).length 1) 4 40 [[.int .i64 y45.A.Switch, .int .i64 y45.A.Port, .int .i64 y45.B.Switch, .int .i64 y45.B.Port]]], _, fun d hd => (by cases hd; exact hE _ _ rfl), .refl _, by exact hI, ⟨a428, c429, ls420, b424, rfl, rfl, hA431, hp427⟩⟩
            exact dnil
          · intro V434 G435 H432 hle433 hF436
            have hs437 := RSl.mono hle433 hs303
            have hc438 := CellsAt.mono hle433 hc304
            have hs439 := RSl.mono hle433 hs305
            obtain ⟨a440, c441, ls442, b443, hv444, hg445, hp446, hp447⟩ := hF436 6 (show 6 < 7 by decide)
            refine s_env (env' := [(61, .slice a440 ((([] : List Link) ++ s16.1) ++ ([y45] : List Link)).length c441), (1, .pointer (some ⟨b1, 0, none⟩)), (2, .pointer (some ⟨b3, 0, none⟩)), (3, .pointer (some ⟨b7, 0, none⟩)), (4, .int .i64 s16.2), (21, .bool ((decide (s16.2 < (x0.Links.length : Int))) && decide (s16.2 < 30))), (24, .pointer (some ⟨b1, 1, none⟩)), (25, .slice a0_0 x0.Links.length c0_0), (26, .int .i64 s16.2), (27, .pointer (some ⟨bk28, of29, none⟩)), (28, .agg #[.int .i64 y26.A.Switch, .int .i64 y26.A.Port, .int .i64 y26.B.Switch, .int .i64 y26.B.Port]), (5, .pointer (some ⟨b31, 0, none⟩)), (53, .agg #[.int .i64 y45.A.Switch, .int .i64 y45.A.Port, .int .i64 y45.B.Switch, .int .i64 y45.B.Port]), (6, .pointer (some ⟨b308, 0, none⟩)), (54, .agg #[.int .i64 (w64 (1 + y5)), .slice a17 s16.1.length c18]), (7, .pointer (some ⟨b311, 0, none⟩))]) (by exact ⟨congrArg some hv444, rfl, rfl, rfl, rfl, rfl, rfl, rfl, rfl, rfl, rfl, rfl, rfl, rfl, rfl, rfl, trivial⟩) ?_
            refine s_liv (js := [6]) rfl ?_
            refine s_ownE (own' := [.blk b1 (rowObj [.int .i64 x0.Switches, .slice a0_0 x0.Links.length c0_0] 24), .blk b3 (rowObj [.int .i64 0, .slice none 0 0] 24), .blk b7 (rowObj [.int .i64 (w64 (1 + y5)), .slice a17 s16.1.length c18] 24), .blk b31 (rowObj [.int .i64 y26.A.Switch, .int .i64 y26.A.Port, .int .i64 y26.B.Switch, .int .i64 y26.B.Port] 40), .blk b308 (rowObj [.int .i64 y45.A.Switch, .int .i64 y45.A.Port, .int .i64 y45.B.Switch, .int .i64 y45.B.Port] 40), .blk b311 (rowObj [.int .i64 (w64 (1 + y5)), .slice a17 s16.1.length c18] 24), .osl (.slice a440 ((([] : List Link) ++ s16.1) ++ ([y45] : List Link)).length c441) 4 40 (ls442 ++ ([[.int .i64 y45.A.Switch, .int .i64 y45.A.Port, .int .i64 y45.B.Switch, .int .i64 y45.B.Port]])), .osl (.slice (some ⟨b443, 0, none⟩) ([y45] : List Link).length 1) 4 40 [[.int .i64 y45.A.Switch, .int .i64 y45.A.Port, .int .i64 y45.B.Switch, .int .i64 y45.B.Port]]]) (by simp only [List.flatMap_cons, List.flatMap_nil, List.append_nil, hg445]; rfl) ?_
            refine o_fa rfl ?_
            refine s_frz 6 (fun b => .inl (by simp [ids])) rfl hp446 fun H448 hle449 hn450 hs451 => ?_
            have hs452 := RSl.mono hle449 hs437
            have hc453 := CellsAt.mono hle449 hc438
            have hs454 := RSl.mono hle449 hs439
            have hA455 := All2.mono (fun _ _ => GoT.mono hle449) hp447
            refine o_st 5 rfl rfl rfl rfl rfl rfl ?_
            refine s_done ?_
            refine s_seq ?_
            refine s_region ?_
            refine o_ld 5 rfl rfl rfl ?_
            refine s_bg fun y456 h457 => ?_
            refine s_callF rfl rfl (graph_Check_ok k _ (⟨w64 (1 + y5), ((([] : List Link) ++ s16.1) ++ ([y45] : List Link))⟩ : Graph) _ _ hs451 h457) ?_
            refine o_eq rfl rfl ?_
            refine s_done ?_
            refine s_cond rfl (fun h458 => ?_) (fun h458 => ?_)
            · refine s_region ?_
              refine o_ld 5 rfl rfl rfl ?_
              refine o_st 2 rfl rfl rfl rfl rfl rfl ?_
              refine s_done ?_
              refine s_inBlock ?_
              refine s_region ?_
              refine o_mov rfl ?_
              refine o_add rfl rfl ?_
              refine o_asg rfl ?_
              refine s_done ?_
              exact s_env (by exact ⟨rfl, rfl, rfl, rfl, trivial⟩) (s_own (by exact (.cons_cons _ (.cons_cons _ (.cons_cons _ (.cons _ (.cons _ (.cons _ (.cons _ .slnil)))))))) (ih21 (((([] : List Link) ++ s16.1) ++ ([y45] : List Link)), w64 (s16.2 + 1)) _ _ _ ⟨_, _, rfl, rfl, (Hle.trans (Hle.trans (Hle.trans hle23 hle299) hle433) hle449), hs451⟩))
            · refine s_skip ?_
              refine s_inBlock ?_
              refine s_region ?_
              refine o_mov rfl ?_
              refine o_add rfl rfl ?_
              refine o_asg rfl ?_
              refine s_done ?_
              exact s_env (by exact ⟨rfl, rfl, rfl, rfl, trivial⟩) (s_own (by exact (.cons_cons _ (.cons_cons _ (.cons_cons _ (.cons _ (.cons _ (.cons _ (.cons _ .slnil)))))))) (ih21 (s16.1, w64 (s16.2 + 1)) _ _ _ ⟨_, _, rfl, rfl, (Hle.trans (Hle.trans (Hle.trans hle23 hle299) hle433) hle449), hs454⟩))
      · refine s_exit rfl ?_
        exact s_env (by exact ⟨rfl, rfl, trivial⟩) (s_own (by exact (.cons _ (.cons_cons _ (.cons_cons _ .slnil)))) (J15 s16.1 _ _ _ ⟨_, _, rfl, rfl, hle23, hs19⟩))
    · intro J459
      refine o_mov rfl ?_
      refine o_fa rfl ?_
      refine o_ld 0 rfl rfl rfl ?_
      refine o_lenS rfl ?_
      refine o_lt rfl rfl ?_
      refine o_mov rfl ?_
      refine s_case (decide (s16.2 < (x0.Links.length : Int))) (fun h460 => ?_) (fun h460 => ?_)
      · refine s_want rfl rfl h460 ?_
        refine o_mov rfl ?_
        refine s_want rfl rfl h460 ?_
        refine o_lt rfl rfl ?_
        refine o_pickT rfl h460 rfl ?_
        exact s_env (by exact ⟨rfl, rfl, rfl, rfl, lkb rfl (by first | simp only [h460, Bool.true_and, Bool.and_true, Bool.false_and, Bool.and_false, Bool.true_or, Bool.false_or, Bool.or_true, Bool.or_false, Bool.not_true, Bool.not_false] | simp [h460]), trivial⟩) (s_own (by exact (.cons_cons _ (.cons_cons _ (.cons_cons _ .slnil)))) J459)
      · refine s_unwant rfl rfl h460 ?_
        refine s_unwant rfl rfl h460 ?_
        refine o_pickF rfl h460 rfl ?_
        exact s_env (by exact ⟨rfl, rfl, rfl, rfl, lkb rfl (by first | simp only [h460, Bool.true_and, Bool.and_true, Bool.false_and, Bool.and_false, Bool.true_or, Bool.false_or, Bool.or_true, Bool.or_false, Bool.not_true, Bool.not_false] | simp [h460]), trivial⟩) (s_own (by exact (.cons_cons _ (.cons_cons _ (.cons_cons _ .slnil)))) J459)
end Go.Cat.G3
