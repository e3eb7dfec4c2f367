/- A text of the proof of the seat's laws: a step logic over the machine, or pure functions that the Go functions come to. No condition. -/
import Derived.Test.YtmmpieknnnlnhaaT5

namespace Go.Cat.G3
open Go Go.Cat Go.Proofs
set_option linter.unusedVariables false
set_option linter.unusedSimpArgs false

instance inT6_43 : TFun Try.prog 43 := ⟨_, (by kernel_rfl : Try.prog.funcs[43]? = some Try.f43), by decide, rfl⟩
instance inT6_46 : TFun Try.prog 46 := ⟨_, (by kernel_rfl : Try.prog.funcs[46]? = some Try.f46), by decide, rfl⟩
instance inT6_47 : TFun Try.prog 47 := ⟨_, (by kernel_rfl : Try.prog.funcs[47]? = some Try.f47), by decide, rfl⟩
instance inT6_50 : TFun Try.prog 50 := ⟨_, (by kernel_rfl : Try.prog.funcs[50]? = some Try.f50), by decide, rfl⟩

/-! catenary/catenarylaw20.TreeShort -/
def catenarylaw20_TreeShort_l0 (k : Nat) (y4 : (List Link)) : Nat → (List End) × Int → Option (LX (Bool) (Unit))
  | 0, _ => none
  | q51 + 1, s46 =>
    if (decide (s46.2 < 7)) = true then
      (tree_First k y4 s46.2).bind fun y57 =>
      if (!y57.2) = true then
        ((catenarylaw20_far k y4 s46.2).bind fun y75 =>
          if (decide (y75 ≥ 0)) = true then
            some true
          else
            some ((y57.1.length : Int) != 0)).bind fun p68 =>
        if (p68) = true then
          some (.ret false)
        else
          catenarylaw20_TreeShort_l0 k y4 q51 (s46.1, w64 (s46.2 + 1))
      else
        (catenarylaw20_goes k y4 y57.1 s46.2).bind fun y78 =>
        (if (decide (y78 < 0)) = true then
            some (s46.1, true)
          else
            (catenarylaw20_far k y4 s46.2).bind fun y365 =>
            if (y78 != y365) = true then
              some (s46.1, true)
            else
              if (decide (s46.2 > 1)) = true then
                (rd s46.1 s46.2).bind fun y647 =>
                (rd y57.1 (w64 (y78 - 1))).bind fun y656 =>
                some (s46.1, !(decide (y647 = y656)))
              else
                some (s46.1, false)).bind fun p80 =>
        if (p80.2) = true then
          some (.ret false)
        else
          catenarylaw20_TreeShort_l0 k y4 q51 (p80.1, w64 (s46.2 + 1))
    else
      some (.out ())
def catenarylaw20_TreeShort (k : Nat) (x0 : (List Link)) : Option Bool :=
  (catenarylaw20_works k).bind fun y1 =>
  if (!y1) = true then
    some false
  else
    (catenarylaw20_made k x0).bind fun y4 =>
    (tree_Tree k y4).bind fun y12 =>
    if (((y12.2 != 0) || (y12.1.length : Int) != 7)) = true then
      some false
    else
      (graph_Reach k (⟨6, y4⟩ : Graph) ([]) 1).bind fun y23 =>
      (tree_Below k y12.1 1).bind fun y33 =>
      (catenaryref00_EqInts k y23 y33).bind fun y39 =>
      if (!y39) = true then
        some false
      else
        (catenarylaw20_TreeShort_l0 k y4 k (y12.1, 1)).bind (LX.go fun p42 =>
        some true)
theorem fn_13 : Try.prog.funcs[13]? = some Try.f13 := by kernel_rfl
set_option maxRecDepth 100000 in
set_option maxHeartbeats 4000000 in
theorem catenarylaw20_TreeShort_ok (k : Nat) (H : Heap) (x0 : (List Link)) (a0_0 : Option Addr) (c0_0 : Nat) (hx0_0 : RSl H a0_0 c0_0 x0) {r : Bool} (hr : catenarylaw20_TreeShort k x0 = some r) :
    Fn Try.prog 13 [.slice a0_0 x0.length c0_0] H [] fun H' v out => v = .bool r ∧ out = [] := by
  refine fn_of_sim (args := [.slice a0_0 x0.length c0_0]) (n := 86) (Φ := fun r H' v out => v = .bool r ∧ out = []) hr fn_13 rfl rfl rfl fun w => ?_
  refine s_eq (by rw [catenarylaw20_TreeShort]) ?_
  refine s_seq ?_
  refine s_region ?_
  refine o_asg rfl ?_
  refine s_done ?_
  refine s_seq ?_
  refine s_seq ?_
  refine s_region ?_
  refine s_bg fun y1 h2 => ?_
  refine s_callF rfl rfl (catenarylaw20_works_ok k _ h2) ?_
  refine o_not rfl ?_
  refine s_done ?_
  refine s_cond rfl (fun h3 => ?_) (fun h3 => ?_)
  · refine s_seq ?_
    refine s_region ?_
    refine o_asg rfl ?_
    refine s_done ?_
    exact s_retv (xs := [.tmp 2]) (vs := [.bool false]) [] fn_13 rfl ⟨rv_tmp rfl, trivial⟩ .slnil ⟨rfl, rfl⟩
  · refine s_skip ?_
    refine s_seq ?_
    refine s_region ?_
    refine o_mov rfl ?_
    refine s_bg fun y4 h5 => ?_
    refine s_call [] _ rfl rfl (.refl _) (catenarylaw20_made_ok k _ x0 _ _ hx0_0 h5) ?_
    rintro _ H9 _ hle10 ⟨a6, c7, rfl, rfl, hs8⟩
    have hs11 := RSl.mono hle10 hx0_0
    refine s_ownN ?_
    refine o_asg rfl ?_
    refine s_done ?_
    refine s_seq ?_
    refine s_region ?_
    refine o_mov rfl ?_
    refine s_bg fun y12 h13 => ?_
    refine s_call [] _ rfl rfl (.refl _) (tree_Tree_ok k _ y4 _ _ hs8 h13) ?_
    rintro _ H17 _ hle18 ⟨a14, c15, rfl, rfl⟩
    have hs19 := RSl.mono hle18 hs8
    have hs20 := RSl.mono hle18 hs11
    have hA21 : All2 (GoT.rep H17) (y12.1.map GoE.enc) y12.1 := all2_enc _
    refine o_mov rfl ?_
    refine o_ext rfl rfl ?_
    refine o_ext rfl rfl ?_
    refine o_asg rfl ?_
    refine o_asg rfl ?_
    refine s_done ?_
    refine s_seq ?_
    refine s_seq ?_
    refine s_region ?_
    refine s_mid [(0, .slice a6 y4.length c7), (3, .slice a14 y12.1.length c15), (26, .bool ((y12.2 != 0) || (y12.1.length : Int) != 7))] [.osl (.slice a14 y12.1.length c15) 2 26 (y12.1.map GoE.enc)] ?_ ?_
    · refine s_cond rfl (fun h22 => ?_) (fun h22 => ?_)
      · refine s_seq ?_
        refine s_region ?_
        refine o_asg rfl ?_
        refine s_done ?_
        exact s_retv (xs := [.tmp 2]) (vs := [.bool false]) [] fn_13 rfl ⟨rv_tmp rfl, trivial⟩ (.cons _ .slnil) ⟨rfl, rfl⟩
      · refine s_skip ?_
        refine s_seq ?_
        refine s_region ?_
        refine o_mov rfl ?_
        refine o_bld rfl rfl ?_
        refine s_bg fun y23 h24 => ?_
        refine s_call [] _ rfl rfl (.refl _) (graph_Reach_ok k _ (⟨6, y4⟩ : Graph) _ _ hs19 ([]) _ _ rsl_nil 1 h24) ?_
        rintro _ H28 _ hle29 ⟨a25, c26, rfl, rfl⟩
        have hs30 := RSl.mono hle29 hs19
        have hA31 := All2.mono (fun _ _ => GoT.mono hle29) hA21
        have hA32 : All2 (GoT.rep H28) (y23.map GoE.enc) y23 := all2_enc _
        refine o_asg rfl ?_
        refine s_done ?_
        refine s_seq ?_
        refine s_region ?_
        refine o_mov rfl ?_
        refine s_bg fun y33 h34 => ?_
        refine s_callL (Φ := fun v out => ∃ a0 c0, v = .slice a0 y33.length c0 ∧ out = [.osl (.slice a0 y33.length c0) 1 3 (y33.map GoE.enc)]) [] _ rfl rfl (.refl _) (fun H' hle hl => tree_Below_ok k _ y12.1 _ _ (lent_rsl (hl _ (List.mem_of_getElem? (i := 0) rfl)) hA31 hle).2 1 h34) ?_
        rintro _ _ ⟨a35, c36, rfl, rfl⟩
        have hA38 : All2 (GoT.rep H28) (y33.map GoE.enc) y33 := all2_enc _
        refine o_asg rfl ?_
        refine s_done ?_
        refine s_seq ?_
        refine s_seq ?_
        refine s_region ?_
        refine o_mov rfl ?_
        refine o_mov rfl ?_
        refine s_bg fun y39 h40 => ?_
        refine s_callL (Φ := fun v out => v = _ ∧ out = []) [] _ rfl rfl (.refl _) (fun H' hle hl => catenaryref00_EqInts_ok k _ y23 _ _ (lent_rsl (hl _ (List.mem_of_getElem? (i := 1) rfl)) hA32 hle).2 y33 _ _ (lent_rsl (hl _ (List.mem_of_getElem? (i := 2) rfl)) hA38 hle).2 h40) ?_
        rintro _ _ ⟨rfl, rfl⟩
        refine s_ownN ?_
        refine o_not rfl ?_
        refine s_done ?_
        refine s_cond rfl (fun h41 => ?_) (fun h41 => ?_)
        · refine s_seq ?_
          refine s_region ?_
          refine o_asg rfl ?_
          refine s_done ?_
          exact s_retv (xs := [.tmp 2]) (vs := [.bool false]) [] fn_13 rfl ⟨rv_tmp rfl, trivial⟩ (.cons _ (.cons _ (.cons _ .slnil))) ⟨rfl, rfl⟩
        · refine s_skip ?_
          refine s_seq ?_
          refine s_seq ?_
          refine s_region ?_
          refine o_asg rfl ?_
          refine s_done ?_
          refine s_joinL (fun p42 env own H' => env = [] ∧ own = [] ∧ Hle H28 H') ?_ ?_
          · rintro p42 _ _ H43 ⟨rfl, rfl, hle44⟩
            refine s_seq ?_
            refine s_region ?_
            refine o_asg rfl ?_
            refine s_done ?_
            exact s_retv (xs := [.tmp 2]) (vs := [.bool true]) [] fn_13 rfl ⟨rv_tmp rfl, trivial⟩ .slnil ⟨rfl, rfl⟩
          · intro J45
            refine s_block ?_
            refine s_env (env' := [(0, .slice a6 y4.length c7), (3, .slice a14 y12.1.length c15), (7, .int .i64 1)]) (by exact ⟨rfl, rfl, rfl, trivial⟩) ?_
            refine s_own (own' := [.osl (.slice a14 y12.1.length c15) 2 26 (y12.1.map GoE.enc)]) (.cons_cons _ (.cons _ (.cons _ .slnil))) ?_
            refine s_loopn (fun q s46 => catenarylaw20_TreeShort_l0 k y4 q s46) (fun s46 env own H' => ∃ a47 c48 ls49, env = [(0, .slice a6 y4.length c7), (3, .slice a47 s46.1.length c48), (7, .int .i64 s46.2)] ∧ own = [.osl (.slice a47 s46.1.length c48) 2 26 ls49] ∧ Hle H28 H' ∧ All2 (GoT.rep H') ls49 s46.1) (fun _ => rfl) ?_ k (y12.1, 1) ⟨_, _, _, rfl, rfl, .refl _, hA31⟩
            rintro q51 ih52 s46 _ _ H53 ⟨a47, c48, ls49, rfl, rfl, hle54, hA50⟩
            refine s_eq (by rw [catenarylaw20_TreeShort_l0]) ?_
            have hs55 := RSl.mono hle54 hs30
            refine s_seq ?_
            refine s_seq ?_
            refine s_region ?_
            refine o_mov rfl ?_
            refine o_lt rfl rfl ?_
            refine s_done ?_
            refine s_cond rfl (fun h56 => ?_) (fun h56 => ?_)
            · refine s_skip ?_
              refine s_seq ?_
              refine s_block ?_
              refine s_seq ?_
              refine s_region ?_
              refine o_mov rfl ?_
              refine o_mov rfl ?_
              refine s_bg fun y57 h58 => ?_
              refine s_call [] _ rfl rfl (.refl _) (tree_First_ok k _ y4 _ _ hs55 s46.2 h58) ?_
              rintro _ H62 _ hle63 ⟨a59, c60, rfl, rfl⟩
              have hs64 := RSl.mono hle63 hs55
              have hA65 := All2.mono (fun _ _ => GoT.mono hle63) hA50
              have hA66 : All2 (GoT.rep H62) (y57.1.map GoE.enc) y57.1 := all2_enc _
              refine o_mov rfl ?_
              refine o_ext rfl rfl ?_
              refine o_ext rfl rfl ?_
              refine o_asg rfl ?_
              refine o_asg rfl ?_
              refine s_done ?_
              refine s_seq ?_
              refine s_seq ?_
              refine s_region ?_
              refine o_mov rfl ?_
              refine o_not rfl ?_
              refine s_done ?_
              refine s_cond rfl (fun h67 => ?_) (fun h67 => ?_)
              · refine s_seq ?_
                refine s_seq ?_
                refine s_region ?_
                refine s_joinR (fun p68 env own H' => env = [(0, .slice a6 y4.length c7), (3, .slice a47 s46.1.length c48), (7, .int .i64 s46.2), (56, .bool p68)] ∧ own = [.osl (.slice a47 s46.1.length c48) 2 26 ls49] ∧ Hle H62 H') ?_ ?_
                · rintro p68 _ _ H69 ⟨rfl, rfl, hle70⟩
                  have hs71 := RSl.mono hle70 hs64
                  have hA72 := All2.mono (fun _ _ => GoT.mono hle70) hA65
                  refine s_cond rfl (fun h73 => ?_) (fun h73 => ?_)
                  · refine s_seq ?_
                    refine s_region ?_
                    refine o_asg rfl ?_
                    refine s_done ?_
                    refine s_lret ?_
                    exact s_retv (xs := [.tmp 2]) (vs := [.bool false]) [] fn_13 rfl ⟨rv_tmp rfl, trivial⟩ (.cons _ .slnil) ⟨rfl, rfl⟩
                  · refine s_skip ?_
                    refine s_exit rfl ?_
                    refine s_region ?_
                    refine o_mov rfl ?_
                    refine o_add rfl rfl ?_
                    refine o_asg rfl ?_
                    refine s_done ?_
                    exact s_env (by exact ⟨rfl, rfl, rfl, trivial⟩) (s_own (by exact (.cons_cons _ .slnil)) (ih52 (s46.1, w64 (s46.2 + 1)) _ _ _ ⟨_, _, _, rfl, rfl, (Hle.trans (Hle.trans hle54 hle63) hle70), hA72⟩))
                · intro J74
                  refine o_mov rfl ?_
                  refine o_mov rfl ?_
                  refine s_bg fun y75 h76 => ?_
                  refine s_callF rfl rfl (catenarylaw20_far_ok k _ y4 _ _ hs64 s46.2 h76) ?_
                  refine o_ge rfl rfl ?_
                  refine o_mov rfl ?_
                  refine s_split (decide (y75 ≥ 0)) (fun h77 => ?_) (fun h77 => ?_)
                  · refine s_unwant rfl rfl h77 ?_
                    refine s_unwant rfl rfl h77 ?_
                    refine s_unwant rfl rfl h77 ?_
                    refine o_pickT rfl h77 rfl ?_
                    exact s_env (by exact ⟨rfl, rfl, rfl, rfl, trivial⟩) (s_own (by exact (.cons_cons _ (.cons _ .slnil))) (J74 true _ _ _ ⟨rfl, rfl, .refl _⟩))
                  · refine s_want rfl rfl h77 ?_
                    refine o_mov rfl ?_
                    refine s_want rfl rfl h77 ?_
                    refine o_lenS rfl ?_
                    refine s_want rfl rfl h77 ?_
                    refine o_ne rfl rfl ?_
                    refine o_pickF rfl h77 rfl ?_
                    exact s_env (by exact ⟨rfl, rfl, rfl, rfl, trivial⟩) (s_own (by exact (.cons_cons _ (.cons _ .slnil))) (J74 ((y57.1.length : Int) != 0) _ _ _ ⟨rfl, rfl, .refl _⟩))
              · refine s_skip ?_
                refine s_seq ?_
                refine s_region ?_
                refine o_mov rfl ?_
                refine o_mov rfl ?_
                refine o_mov rfl ?_
                refine s_bg fun y78 h79 => ?_
                refine s_callL (Φ := fun v out => v = _ ∧ out = []) [] _ rfl rfl (.refl _) (fun H' hle hl => catenarylaw20_goes_ok k _ y4 _ _ (RSl.mono hle hs64) y57.1 _ _ (lent_rsl (hl _ (List.mem_of_getElem? (i := 1) rfl)) hA66 hle).2 s46.2 h79) ?_
                rintro _ _ ⟨rfl, rfl⟩
                refine s_ownN ?_
                refine o_asg rfl ?_
                refine s_done ?_
                refine s_seq ?_
                refine s_join (fun p80 env own H' => ∃ a81 c82 ls83, env = [(0, .slice a6 y4.length c7), (3, .slice a81 p80.1.length c82), (7, .int .i64 s46.2), (85, .bool p80.2)] ∧ own = [.osl (.slice a81 p80.1.length c82) 2 26 ls83] ∧ Hle H62 H' ∧ All2 (GoT.rep H') ls83 p80.1) ?_ ?_
                · rintro p80 _ _ H85 ⟨a81, c82, ls83, rfl, rfl, hle86, hA84⟩
                  have hs87 := RSl.mono hle86 hs64
                  refine s_cond rfl (fun h88 => ?_) (fun h88 => ?_)
                  · refine s_seq ?_
                    refine s_region ?_
                    refine o_asg rfl ?_
                    refine s_done ?_
                    refine s_lret ?_
                    exact s_retv (xs := [.tmp 2]) (vs := [.bool false]) [] fn_13 rfl ⟨rv_tmp rfl, trivial⟩ (.cons _ .slnil) ⟨rfl, rfl⟩
                  · refine s_skip ?_
                    refine s_inBlock ?_
                    refine s_region ?_
                    refine o_mov rfl ?_
                    refine o_add rfl rfl ?_
                    refine o_asg rfl ?_
                    refine s_done ?_
                    exact s_env (by exact ⟨rfl, rfl, rfl, trivial⟩) (s_own (by exact (.cons_cons _ .slnil)) (ih52 (p80.1, w64 (s46.2 + 1)) _ _ _ ⟨_, _, _, rfl, rfl, (Hle.trans (Hle.trans hle54 hle63) hle86), hA84⟩))
                · intro J89
                  refine s_split (decide (y78 < 0)) (fun h90 => ?_) (fun h90 => ?_)
                  · refine s_drawL [(fun H v g => v = Value.int .i64 y78 ∧ g = []),
      (fun H v g => v = Value.bool (decide (y78 < 0)) ∧ g = []),
      (fun H v g => v = Value.bool (decide (y78 < 0)) ∧ g = []),
      uF,
      uF,
      uF,
      uF,
      uF,
      (fun H v g => v = Value.bool true ∧ g = []),
      (fun H v g => v = Value.bool true ∧ g = []),
      uF,
      uF,
      uF,
      uF,
      uF,
      uF,
      uF,
      uF,
      uF,
      uF,
      uF,
      uF,
      uF,
      uF,
      (fun H v g => v = Value.bool true ∧ g = [])] [[], [], [], [], [], [], [], [], [], [], [], [], [], [], [], [], [], [], [], [], [], [], [], [], []] mixed ⟨m0, m0, m0, m0, m0, m0, m0, m0, m0, m0, m0, m0, m0, m0, m0, m0, m0, m0, m0, m0, m0, m0, m0, m0, m0, trivial⟩ (by kernel_rfl) (by kernel_rfl) rfl (by kernel_rfl) rfl rfl ?_ ?_
                    · refine dcons ?_ ?_
                      · intro _ _ H93 fr94 hle95 hd96
                        refine ⟨_, some (), rfl, fun _ => ?_⟩
                        refine s_env (env' := [(10, .int .i64 y78)]) (by exact ⟨rfl, trivial⟩) ?_
                        refine o_mov rfl ?_
                        exact s_pred fun _ _ _ hE hI => ⟨(.int .i64 y78), [], _, fun _ e => (by cases e; exact hE _ _ rfl), .refl _, by exact hI, ⟨rfl, rfl⟩⟩
                      refine dcons ?_ ?_
                      · intro _ _ H100 fr101 hle102 hd103
                        obtain ⟨hv105, hg106⟩ := hd103 0 (by decide)
                        refine ⟨_, some (), rfl, fun _ => ?_⟩
                        refine s_env (env' := [(61, .int .i64 y78)]) (by exact ⟨congrArg some hv105, trivial⟩) ?_
                        refine o_lt rfl rfl ?_
                        exact s_pred fun _ _ _ hE hI => ⟨(.bool (decide (y78 < 0))), [], _, fun _ e => (by cases e; exact hE _ _ rfl), .refl _, by exact hI, ⟨rfl, rfl⟩⟩
                      refine dcons ?_ ?_
                      · intro _ _ H109 fr110 hle111 hd112
                        obtain ⟨hv114, hg115⟩ := hd112 1 (by decide)
                        refine ⟨_, some (), rfl, fun _ => ?_⟩
                        refine s_env (env' := [(62, .bool (decide (y78 < 0)))]) (by exact ⟨congrArg some hv114, trivial⟩) ?_
                        refine o_mov rfl ?_
                        exact s_pred fun _ _ _ hE hI => ⟨(.bool (decide (y78 < 0))), [], _, fun _ e => (by cases e; exact hE _ _ rfl), .refl _, by exact hI, ⟨rfl, rfl⟩⟩
                      refine dcons ?_ ?_
                      · intro _ _ H118 fr119 hle120 hd121
                        obtain ⟨hv123, hg124⟩ := hd121 2 (by decide)
                        refine ⟨_, some (), rfl, fun _ => ?_⟩
                        refine s_env (env' := [(63, .bool (decide (y78 < 0))), (10, .int .i64 y78)]) (by exact ⟨congrArg some hv123, rfl, trivial⟩) ?_
                        refine s_unwant rfl rfl h90 ?_
                        exact s_pred fun _ _ _ hE hI => ⟨undef, [], _, fun _ e => (by cases e; exact hE _ _ rfl), .refl _, by exact hI, ⟨rfl, rfl⟩⟩
                      refine dcons ?_ ?_
                      · intro _ _ H127 fr128 hle129 hd130
                        have hs132 := RSl.mono hle129 hs64
                        obtain ⟨hv133, hg134⟩ := hd130 2 (by decide)
                        refine ⟨_, some (), rfl, fun _ => ?_⟩
                        refine s_env (env' := [(63, .bool (decide (y78 < 0))), (0, .slice a6 y4.length c7)]) (by exact ⟨congrArg some hv133, rfl, trivial⟩) ?_
                        refine s_unwant rfl rfl h90 ?_
                        exact s_pred fun _ _ _ hE hI => ⟨undef, [], _, fun _ e => (by cases e; exact hE _ _ rfl), .refl _, by exact hI, ⟨rfl, rfl⟩⟩
                      refine dcons ?_ ?_
                      · intro _ _ H137 fr138 hle139 hd140
                        obtain ⟨hv142, hg143⟩ := hd140 2 (by decide)
                        refine ⟨_, some (), rfl, fun _ => ?_⟩
                        refine s_env (env' := [(63, .bool (decide (y78 < 0))), (7, .int .i64 s46.2)]) (by exact ⟨congrArg some hv142, rfl, trivial⟩) ?_
                        refine s_unwant rfl rfl h90 ?_
                        exact s_pred fun _ _ _ hE hI => ⟨undef, [], _, fun _ e => (by cases e; exact hE _ _ rfl), .refl _, by exact hI, ⟨rfl, rfl⟩⟩
                      refine dcons ?_ ?_
                      · intro _ _ H146 fr147 hle148 hd149
                        obtain ⟨hv151, hg152⟩ := hd149 2 (by decide)
                        obtain ⟨hv153, hg154⟩ := hd149 4 (by decide)
                        obtain ⟨hv155, hg156⟩ := hd149 5 (by decide)
                        refine ⟨_, some (), rfl, fun _ => ?_⟩
                        refine s_env (env' := [(63, .bool (decide (y78 < 0))), (65, undef), (66, undef)]) (by exact ⟨congrArg some hv151, congrArg some hv153, congrArg some hv155, trivial⟩) ?_
                        refine s_unwant rfl rfl h90 ?_
                        exact s_pred fun _ _ _ hE hI => ⟨undef, [], _, fun _ e => (by cases e; exact hE _ _ rfl), .refl _, by exact hI, ⟨rfl, rfl⟩⟩
                      refine dcons ?_ ?_
                      · intro _ _ H159 fr160 hle161 hd162
                        obtain ⟨hv164, hg165⟩ := hd162 2 (by decide)
                        obtain ⟨hv166, hg167⟩ := hd162 3 (by decide)
                        obtain ⟨hv168, hg169⟩ := hd162 6 (by decide)
                        refine ⟨_, some (), rfl, fun _ => ?_⟩
                        refine s_env (env' := [(63, .bool (decide (y78 < 0))), (64, undef), (67, undef)]) (by exact ⟨congrArg some hv164, congrArg some hv166, congrArg some hv168, trivial⟩) ?_
                        refine s_unwant rfl rfl h90 ?_
                        exact s_pred fun _ _ _ hE hI => ⟨undef, [], _, fun _ e => (by cases e; exact hE _ _ rfl), .refl _, by exact hI, ⟨rfl, rfl⟩⟩
                      refine dcons ?_ ?_
                      · intro _ _ H172 fr173 hle174 hd175
                        obtain ⟨hv177, hg178⟩ := hd175 2 (by decide)
                        obtain ⟨hv179, hg180⟩ := hd175 7 (by decide)
                        refine ⟨_, some (), rfl, fun _ => ?_⟩
                        refine s_env (env' := [(63, .bool (decide (y78 < 0))), (68, undef)]) (by exact ⟨congrArg some hv177, congrArg some hv179, trivial⟩) ?_
                        refine o_pickT rfl h90 rfl ?_
                        exact s_pred fun _ _ _ hE hI => ⟨(.bool true), [], _, fun _ e => (by cases e; exact hE _ _ rfl), .refl _, by exact hI, ⟨rfl, rfl⟩⟩
                      refine dcons ?_ ?_
                      · intro _ _ H183 fr184 hle185 hd186
                        obtain ⟨hv188, hg189⟩ := hd186 8 (by decide)
                        refine ⟨_, some (), rfl, fun _ => ?_⟩
                        refine s_env (env' := [(69, .bool true)]) (by exact ⟨congrArg some hv188, trivial⟩) ?_
                        refine o_mov rfl ?_
                        exact s_pred fun _ _ _ hE hI => ⟨(.bool true), [], _, fun _ e => (by cases e; exact hE _ _ rfl), .refl _, by exact hI, ⟨rfl, rfl⟩⟩
                      refine dcons ?_ ?_
                      · intro _ _ H192 fr193 hle194 hd195
                        obtain ⟨hv197, hg198⟩ := hd195 9 (by decide)
                        refine ⟨_, some (), rfl, fun _ => ?_⟩
                        refine s_env (env' := [(70, .bool true), (7, .int .i64 s46.2)]) (by exact ⟨congrArg some hv197, rfl, trivial⟩) ?_
                        refine s_unwant rfl rfl rfl ?_
                        exact s_pred fun _ _ _ hE hI => ⟨undef, [], _, fun _ e => (by cases e; exact hE _ _ rfl), .refl _, by exact hI, ⟨rfl, rfl⟩⟩
                      refine dcons ?_ ?_
                      · intro _ _ H201 fr202 hle203 hd204
                        obtain ⟨hv206, hg207⟩ := hd204 9 (by decide)
                        obtain ⟨hv208, hg209⟩ := hd204 10 (by decide)
                        refine ⟨_, some (), rfl, fun _ => ?_⟩
                        refine s_env (env' := [(70, .bool true), (71, undef)]) (by exact ⟨congrArg some hv206, congrArg some hv208, trivial⟩) ?_
                        refine s_unwant rfl rfl rfl ?_
                        exact s_pred fun _ _ _ hE hI => ⟨undef, [], _, fun _ e => (by cases e; exact hE _ _ rfl), .refl _, by exact hI, ⟨rfl, rfl⟩⟩
                      refine dcons ?_ ?_
                      · intro _ _ H212 fr213 hle214 hd215
                        obtain ⟨hv217, hg218⟩ := hd215 9 (by decide)
                        obtain ⟨hv219, hg220⟩ := hd215 11 (by decide)
                        refine ⟨_, some (), rfl, fun _ => ?_⟩
                        refine s_env (env' := [(70, .bool true), (72, undef)]) (by exact ⟨congrArg some hv217, congrArg some hv219, trivial⟩) ?_
                        refine s_unwant rfl rfl rfl ?_
                        exact s_pred fun _ _ _ hE hI => ⟨undef, [], _, fun _ e => (by cases e; exact hE _ _ rfl), .refl _, by exact hI, ⟨rfl, rfl⟩⟩
                      refine dcons ?_ ?_
                      · intro _ _ H223 fr224 hle225 hd226
                        have hA228 := All2.mono (fun _ _ => GoT.mono hle225) hA65
                        obtain ⟨hv229, hg230⟩ := hd226 12 (by decide)
                        refine ⟨_, some (), rfl, fun _ => ?_⟩
                        refine s_env (env' := [(73, undef), (3, .slice a47 s46.1.length c48)]) (by exact ⟨congrArg some hv229, rfl, trivial⟩) ?_
                        refine s_unwantU rfl rfl ?_
                        exact s_pred fun _ _ _ hE hI => ⟨undef, [], _, fun _ e => (by cases e; exact hE _ _ rfl), .refl _, by exact hI, ⟨rfl, rfl⟩⟩
                      refine dcons ?_ ?_
                      · intro _ _ H233 fr234 hle235 hd236
                        obtain ⟨hv238, hg239⟩ := hd236 12 (by decide)
                        refine ⟨_, some (), rfl, fun _ => ?_⟩
                        refine s_env (env' := [(73, undef), (7, .int .i64 s46.2)]) (by exact ⟨congrArg some hv238, rfl, trivial⟩) ?_
                        refine s_unwantU rfl rfl ?_
                        exact s_pred fun _ _ _ hE hI => ⟨undef, [], _, fun _ e => (by cases e; exact hE _ _ rfl), .refl _, by exact hI, ⟨rfl, rfl⟩⟩
                      refine dcons ?_ ?_
                      · intro _ _ H242 fr243 hle244 hd245
                        obtain ⟨hv247, hg248⟩ := hd245 12 (by decide)
                        obtain ⟨hv249, hg250⟩ := hd245 13 (by decide)
                        obtain ⟨hv251, hg252⟩ := hd245 14 (by decide)
                        refine ⟨_, some (), rfl, fun _ => ?_⟩
                        refine s_env (env' := [(73, undef), (74, undef), (75, undef)]) (by exact ⟨congrArg some hv247, congrArg some hv249, congrArg some hv251, trivial⟩) ?_
                        refine s_unwantU rfl rfl ?_
                        exact s_pred fun _ _ _ hE hI => ⟨undef, [], _, fun _ e => (by cases e; exact hE _ _ rfl), .refl _, by exact hI, ⟨rfl, rfl⟩⟩
                      refine dcons ?_ ?_
                      · intro _ _ H255 fr256 hle257 hd258
                        obtain ⟨hv260, hg261⟩ := hd258 12 (by decide)
                        obtain ⟨hv262, hg263⟩ := hd258 15 (by decide)
                        refine ⟨_, some (), rfl, fun _ => ?_⟩
                        refine s_env (env' := [(73, undef), (76, undef)]) (by exact ⟨congrArg some hv260, congrArg some hv262, trivial⟩) ?_
                        refine s_unwantU rfl rfl ?_
                        exact s_pred fun _ _ _ hE hI => ⟨undef, [], _, fun _ e => (by cases e; exact hE _ _ rfl), .refl _, by exact hI, ⟨rfl, rfl⟩⟩
                      refine dcons ?_ ?_
                      · intro _ _ H266 fr267 hle268 hd269
                        have hA271 := All2.mono (fun _ _ => GoT.mono hle268) hA66
                        obtain ⟨hv272, hg273⟩ := hd269 12 (by decide)
                        refine ⟨_, some (), rfl, fun _ => ?_⟩
                        refine s_env (env' := [(73, undef), (8, .slice a59 y57.1.length c60)]) (by exact ⟨congrArg some hv272, rfl, trivial⟩) ?_
                        refine s_unwantU rfl rfl ?_
                        exact s_pred fun _ _ _ hE hI => ⟨undef, [], _, fun _ e => (by cases e; exact hE _ _ rfl), .refl _, by exact hI, ⟨rfl, rfl⟩⟩
                      refine dcons ?_ ?_
                      · intro _ _ H276 fr277 hle278 hd279
                        obtain ⟨hv281, hg282⟩ := hd279 12 (by decide)
                        refine ⟨_, some (), rfl, fun _ => ?_⟩
                        refine s_env (env' := [(73, undef), (10, .int .i64 y78)]) (by exact ⟨congrArg some hv281, rfl, trivial⟩) ?_
                        refine s_unwantU rfl rfl ?_
                        exact s_pred fun _ _ _ hE hI => ⟨undef, [], _, fun _ e => (by cases e; exact hE _ _ rfl), .refl _, by exact hI, ⟨rfl, rfl⟩⟩
                      refine dcons ?_ ?_
                      · intro _ _ H285 fr286 hle287 hd288
                        obtain ⟨hv290, hg291⟩ := hd288 12 (by decide)
                        obtain ⟨hv292, hg293⟩ := hd288 18 (by decide)
                        refine ⟨_, some (), rfl, fun _ => ?_⟩
                        refine s_env (env' := [(73, undef), (79, undef)]) (by exact ⟨congrArg some hv290, congrArg some hv292, trivial⟩) ?_
                        refine s_unwantU rfl rfl ?_
                        exact s_pred fun _ _ _ hE hI => ⟨undef, [], _, fun _ e => (by cases e; exact hE _ _ rfl), .refl _, by exact hI, ⟨rfl, rfl⟩⟩
                      refine dcons ?_ ?_
                      · intro _ _ H296 fr297 hle298 hd299
                        obtain ⟨hv301, hg302⟩ := hd299 12 (by decide)
                        obtain ⟨hv303, hg304⟩ := hd299 17 (by decide)
                        obtain ⟨hv305, hg306⟩ := hd299 19 (by decide)
                        refine ⟨_, some (), rfl, fun _ => ?_⟩
                        refine s_env (env' := [(73, undef), (78, undef), (80, undef)]) (by exact ⟨congrArg some hv301, congrArg some hv303, congrArg some hv305, trivial⟩) ?_
                        refine s_unwantU rfl rfl ?_
                        exact s_pred fun _ _ _ hE hI => ⟨undef, [], _, fun _ e => (by cases e; exact hE _ _ rfl), .refl _, by exact hI, ⟨rfl, rfl⟩⟩
                      refine dcons ?_ ?_
                      · intro _ _ H309 fr310 hle311 hd312
                        obtain ⟨hv314, hg315⟩ := hd312 12 (by decide)
                        obtain ⟨hv316, hg317⟩ := hd312 20 (by decide)
                        refine ⟨_, some (), rfl, fun _ => ?_⟩
                        refine s_env (env' := [(73, undef), (81, undef)]) (by exact ⟨congrArg some hv314, congrArg some hv316, trivial⟩) ?_
                        refine s_unwantU rfl rfl ?_
                        exact s_pred fun _ _ _ hE hI => ⟨undef, [], _, fun _ e => (by cases e; exact hE _ _ rfl), .refl _, by exact hI, ⟨rfl, rfl⟩⟩
                      refine dcons ?_ ?_
                      · intro _ _ H320 fr321 hle322 hd323
                        obtain ⟨hv325, hg326⟩ := hd323 12 (by decide)
                        obtain ⟨hv327, hg328⟩ := hd323 16 (by decide)
                        obtain ⟨hv329, hg330⟩ := hd323 21 (by decide)
                        refine ⟨_, some (), rfl, fun _ => ?_⟩
                        refine s_env (env' := [(73, undef), (77, undef), (82, undef)]) (by exact ⟨congrArg some hv325, congrArg some hv327, congrArg some hv329, trivial⟩) ?_
                        refine s_unwantU rfl rfl ?_
                        exact s_pred fun _ _ _ hE hI => ⟨undef, [], _, fun _ e => (by cases e; exact hE _ _ rfl), .refl _, by exact hI, ⟨rfl, rfl⟩⟩
                      refine dcons ?_ ?_
                      · intro _ _ H333 fr334 hle335 hd336
                        obtain ⟨hv338, hg339⟩ := hd336 9 (by decide)
                        obtain ⟨hv340, hg341⟩ := hd336 12 (by decide)
                        obtain ⟨hv342, hg343⟩ := hd336 22 (by decide)
                        refine ⟨_, some (), rfl, fun _ => ?_⟩
                        refine s_env (env' := [(70, .bool true), (73, undef), (83, undef)]) (by exact ⟨congrArg some hv338, congrArg some hv340, congrArg some hv342, trivial⟩) ?_
                        refine s_unwant rfl rfl rfl ?_
                        exact s_pred fun _ _ _ hE hI => ⟨undef, [], _, fun _ e => (by cases e; exact hE _ _ rfl), .refl _, by exact hI, ⟨rfl, rfl⟩⟩
                      refine dcons ?_ ?_
                      · intro _ _ H346 fr347 hle348 hd349
                        obtain ⟨hv351, hg352⟩ := hd349 9 (by decide)
                        obtain ⟨hv353, hg354⟩ := hd349 23 (by decide)
                        refine ⟨_, some (), rfl, fun _ => ?_⟩
                        refine s_env (env' := [(70, .bool true), (84, undef)]) (by exact ⟨congrArg some hv351, congrArg some hv353, trivial⟩) ?_
                        refine o_pickT rfl rfl rfl ?_
                        exact s_pred fun _ _ _ hE hI => ⟨(.bool true), [], _, fun _ e => (by cases e; exact hE _ _ rfl), .refl _, by exact hI, ⟨rfl, rfl⟩⟩
                      exact dnil
                    · intro V357 G358 H355 hle356 hF359
                      have hs360 := RSl.mono hle356 hs64
                      have hA361 := All2.mono (fun _ _ => GoT.mono hle356) hA65
                      have hA362 := All2.mono (fun _ _ => GoT.mono hle356) hA66
                      obtain ⟨hv363, hg364⟩ := hF359 24 (show 24 < 25 by decide)
                      refine s_env (env' := [(85, .bool true), (0, .slice a6 y4.length c7), (3, .slice a47 s46.1.length c48), (7, .int .i64 s46.2), (36, .int .i64 s46.2), (37, .bool (decide (s46.2 < 7))), (41, .slice a6 y4.length c7), (42, .int .i64 s46.2), (44, .slice a59 y57.1.length c60), (45, .bool y57.2), (8, .slice a59 y57.1.length c60), (9, .bool y57.2), (46, .bool y57.2), (47, .bool (!y57.2)), (57, .slice a6 y4.length c7), (58, .slice a59 y57.1.length c60), (59, .int .i64 s46.2), (60, .int .i64 y78), (10, .int .i64 y78)]) (by exact ⟨congrArg some hv363, rfl, rfl, rfl, rfl, rfl, rfl, rfl, rfl, rfl, rfl, rfl, rfl, rfl, rfl, rfl, rfl, rfl, rfl, trivial⟩) ?_
                      refine s_own (List.sublist_append_left _ _) ?_
                      refine s_done ?_
                      exact s_env (by exact ⟨rfl, rfl, rfl, rfl, trivial⟩) (s_own (by exact (.cons_cons _ (.cons _ .slnil))) (J89 (s46.1, true) _ _ _ ⟨_, _, _, rfl, rfl, hle356, hA361⟩))
                  · refine s_bg fun y365 h367 => ?_
                    refine s_split (y78 != y365) (fun h368 => ?_) (fun h368 => ?_)
                    · refine s_drawL [(fun H v g => v = Value.int .i64 y78 ∧ g = []),
      (fun H v g => v = Value.bool (decide (y78 < 0)) ∧ g = []),
      (fun H v g => v = Value.bool (decide (y78 < 0)) ∧ g = []),
      (fun H v g => v = Value.int .i64 y78 ∧ g = []),
      (fun H v g => v = Value.slice a6 y4.length c7 ∧ g = [] ∧ RSl H a6 c7 y4),
      (fun H v g => v = Value.int .i64 s46.2 ∧ g = []),
      (fun H v g => v = Value.int .i64 y365 ∧ g = []),
      (fun H v g => v = Value.bool (y78 != y365) ∧ g = []),
      (fun H v g => v = Value.bool (y78 != y365) ∧ g = []),
      (fun H v g => v = Value.bool (y78 != y365) ∧ g = []),
      uF,
      uF,
      uF,
      uF,
      uF,
      uF,
      uF,
      uF,
      uF,
      uF,
      uF,
      uF,
      uF,
      uF,
      (fun H v g => v = Value.bool true ∧ g = [])] [[], [], [], [], [], [], [], [], [], [], [], [], [], [], [], [], [], [], [], [], [], [], [], [], []] mixed ⟨m0, m0, m0, m0, fun _ _ _ _ hle ⟨e1, e2, h0_⟩ => ⟨e1, e2, RSl.mono hle h0_⟩, m0, m0, m0, m0, m0, m0, m0, m0, m0, m0, m0, m0, m0, m0, m0, m0, m0, m0, m0, m0, trivial⟩ (by kernel_rfl) (by kernel_rfl) rfl (by kernel_rfl) rfl rfl ?_ ?_
                      · refine dcons ?_ ?_
                        · intro _ _ H372 fr373 hle374 hd375
                          refine ⟨_, some (), rfl, fun _ => ?_⟩
                          refine s_env (env' := [(10, .int .i64 y78)]) (by exact ⟨rfl, trivial⟩) ?_
                          refine o_mov rfl ?_
                          exact s_pred fun _ _ _ hE hI => ⟨(.int .i64 y78), [], _, fun _ e => (by cases e; exact hE _ _ rfl), .refl _, by exact hI, ⟨rfl, rfl⟩⟩
                        refine dcons ?_ ?_
                        · intro _ _ H379 fr380 hle381 hd382
                          obtain ⟨hv384, hg385⟩ := hd382 0 (by decide)
                          refine ⟨_, some (), rfl, fun _ => ?_⟩
                          refine s_env (env' := [(61, .int .i64 y78)]) (by exact ⟨congrArg some hv384, trivial⟩) ?_
                          refine o_lt rfl rfl ?_
                          exact s_pred fun _ _ _ hE hI => ⟨(.bool (decide (y78 < 0))), [], _, fun _ e => (by cases e; exact hE _ _ rfl), .refl _, by exact hI, ⟨rfl, rfl⟩⟩
                        refine dcons ?_ ?_
                        · intro _ _ H388 fr389 hle390 hd391
                          obtain ⟨hv393, hg394⟩ := hd391 1 (by decide)
                          refine ⟨_, some (), rfl, fun _ => ?_⟩
                          refine s_env (env' := [(62, .bool (decide (y78 < 0)))]) (by exact ⟨congrArg some hv393, trivial⟩) ?_
                          refine o_mov rfl ?_
                          exact s_pred fun _ _ _ hE hI => ⟨(.bool (decide (y78 < 0))), [], _, fun _ e => (by cases e; exact hE _ _ rfl), .refl _, by exact hI, ⟨rfl, rfl⟩⟩
                        refine dcons ?_ ?_
                        · intro _ _ H397 fr398 hle399 hd400
                          obtain ⟨hv402, hg403⟩ := hd400 2 (by decide)
                          refine ⟨_, some (), rfl, fun _ => ?_⟩
                          refine s_env (env' := [(63, .bool (decide (y78 < 0))), (10, .int .i64 y78)]) (by exact ⟨congrArg some hv402, rfl, trivial⟩) ?_
                          refine s_want rfl rfl h90 ?_
                          refine o_mov rfl ?_
                          exact s_pred fun _ _ _ hE hI => ⟨(.int .i64 y78), [], _, fun _ e => (by cases e; exact hE _ _ rfl), .refl _, by exact hI, ⟨rfl, rfl⟩⟩
                        refine dcons ?_ ?_
                        · intro _ _ H406 fr407 hle408 hd409
                          have hs411 := RSl.mono hle408 hs64
                          obtain ⟨hv412, hg413⟩ := hd409 2 (by decide)
                          refine ⟨_, some (), rfl, fun _ => ?_⟩
                          refine s_env (env' := [(63, .bool (decide (y78 < 0))), (0, .slice a6 y4.length c7)]) (by exact ⟨congrArg some hv412, rfl, trivial⟩) ?_
                          refine s_want rfl rfl h90 ?_
                          refine o_mov rfl ?_
                          exact s_pred fun _ _ _ hE hI => ⟨(.slice a6 y4.length c7), [], _, fun _ e => (by cases e; exact hE _ _ rfl), .refl _, by exact hI, ⟨rfl, rfl, hs411⟩⟩
                        refine dcons ?_ ?_
                        · intro _ _ H416 fr417 hle418 hd419
                          obtain ⟨hv421, hg422⟩ := hd419 2 (by decide)
                          refine ⟨_, some (), rfl, fun _ => ?_⟩
                          refine s_env (env' := [(63, .bool (decide (y78 < 0))), (7, .int .i64 s46.2)]) (by exact ⟨congrArg some hv421, rfl, trivial⟩) ?_
                          refine s_want rfl rfl h90 ?_
                          refine o_mov rfl ?_
                          exact s_pred fun _ _ _ hE hI => ⟨(.int .i64 s46.2), [], _, fun _ e => (by cases e; exact hE _ _ rfl), .refl _, by exact hI, ⟨rfl, rfl⟩⟩
                        refine dcons ?_ ?_
                        · intro _ _ H425 fr426 hle427 hd428
                          obtain ⟨hv430, hg431⟩ := hd428 2 (by decide)
                          obtain ⟨hv432, hg433, hp434⟩ := hd428 4 (by decide)
                          obtain ⟨hv435, hg436⟩ := hd428 5 (by decide)
                          refine ⟨_, (catenarylaw20_far k y4 s46.2).bind some, by rw [h367]; rfl, fun _ => ?_⟩
                          refine s_env (env' := [(63, .bool (decide (y78 < 0))), (65, .slice a6 y4.length c7), (66, .int .i64 s46.2)]) (by exact ⟨congrArg some hv430, congrArg some hv432, congrArg some hv435, trivial⟩) ?_
                          refine s_want rfl rfl h90 ?_
                          refine s_bg fun y365 h437 => ?_
                          refine s_callF rfl rfl (catenarylaw20_far_ok k _ y4 _ _ hp434 s46.2 h437) ?_
                          obtain rfl := Option.some.inj (h367.symm.trans h437)
                          exact s_pred fun _ _ _ hE hI => ⟨(.int .i64 y365), [], _, fun _ e => (by cases e; exact hE _ _ rfl), .refl _, by exact hI, ⟨rfl, rfl⟩⟩
                        refine dcons ?_ ?_
                        · intro _ _ H440 fr441 hle442 hd443
                          obtain ⟨hv445, hg446⟩ := hd443 2 (by decide)
                          obtain ⟨hv447, hg448⟩ := hd443 3 (by decide)
                          obtain ⟨hv449, hg450⟩ := hd443 6 (by decide)
                          refine ⟨_, some (), rfl, fun _ => ?_⟩
                          refine s_env (env' := [(63, .bool (decide (y78 < 0))), (64, .int .i64 y78), (67, .int .i64 y365)]) (by exact ⟨congrArg some hv445, congrArg some hv447, congrArg some hv449, trivial⟩) ?_
                          refine s_want rfl rfl h90 ?_
                          refine o_ne rfl rfl ?_
                          exact s_pred fun _ _ _ hE hI => ⟨(.bool (y78 != y365)), [], _, fun _ e => (by cases e; exact hE _ _ rfl), .refl _, by exact hI, ⟨rfl, rfl⟩⟩
                        refine dcons ?_ ?_
                        · intro _ _ H453 fr454 hle455 hd456
                          obtain ⟨hv458, hg459⟩ := hd456 2 (by decide)
                          obtain ⟨hv460, hg461⟩ := hd456 7 (by decide)
                          refine ⟨_, some (), rfl, fun _ => ?_⟩
                          refine s_env (env' := [(63, .bool (decide (y78 < 0))), (68, .bool (y78 != y365))]) (by exact ⟨congrArg some hv458, congrArg some hv460, trivial⟩) ?_
                          refine o_pickF rfl h90 rfl ?_
                          exact s_pred fun _ _ _ hE hI => ⟨(.bool (y78 != y365)), [], _, fun _ e => (by cases e; exact hE _ _ rfl), .refl _, by exact hI, ⟨rfl, rfl⟩⟩
                        refine dcons ?_ ?_
                        · intro _ _ H464 fr465 hle466 hd467
                          obtain ⟨hv469, hg470⟩ := hd467 8 (by decide)
                          refine ⟨_, some (), rfl, fun _ => ?_⟩
                          refine s_env (env' := [(69, .bool (y78 != y365))]) (by exact ⟨congrArg some hv469, trivial⟩) ?_
                          refine o_mov rfl ?_
                          exact s_pred fun _ _ _ hE hI => ⟨(.bool (y78 != y365)), [], _, fun _ e => (by cases e; exact hE _ _ rfl), .refl _, by exact hI, ⟨rfl, rfl⟩⟩
                        refine dcons ?_ ?_
                        · intro _ _ H473 fr474 hle475 hd476
                          obtain ⟨hv478, hg479⟩ := hd476 9 (by decide)
                          refine ⟨_, some (), rfl, fun _ => ?_⟩
                          refine s_env (env' := [(70, .bool (y78 != y365)), (7, .int .i64 s46.2)]) (by exact ⟨congrArg some hv478, rfl, trivial⟩) ?_
                          refine s_unwant rfl rfl h368 ?_
                          exact s_pred fun _ _ _ hE hI => ⟨undef, [], _, fun _ e => (by cases e; exact hE _ _ rfl), .refl _, by exact hI, ⟨rfl, rfl⟩⟩
                        refine dcons ?_ ?_
                        · intro _ _ H482 fr483 hle484 hd485
                          obtain ⟨hv487, hg488⟩ := hd485 9 (by decide)
                          obtain ⟨hv489, hg490⟩ := hd485 10 (by decide)
                          refine ⟨_, some (), rfl, fun _ => ?_⟩
                          refine s_env (env' := [(70, .bool (y78 != y365)), (71, undef)]) (by exact ⟨congrArg some hv487, congrArg some hv489, trivial⟩) ?_
                          refine s_unwant rfl rfl h368 ?_
                          exact s_pred fun _ _ _ hE hI => ⟨undef, [], _, fun _ e => (by cases e; exact hE _ _ rfl), .refl _, by exact hI, ⟨rfl, rfl⟩⟩
                        refine dcons ?_ ?_
                        · intro _ _ H493 fr494 hle495 hd496
                          obtain ⟨hv498, hg499⟩ := hd496 9 (by decide)
                          obtain ⟨hv500, hg501⟩ := hd496 11 (by decide)
                          refine ⟨_, some (), rfl, fun _ => ?_⟩
                          refine s_env (env' := [(70, .bool (y78 != y365)), (72, undef)]) (by exact ⟨congrArg some hv498, congrArg some hv500, trivial⟩) ?_
                          refine s_unwant rfl rfl h368 ?_
                          exact s_pred fun _ _ _ hE hI => ⟨undef, [], _, fun _ e => (by cases e; exact hE _ _ rfl), .refl _, by exact hI, ⟨rfl, rfl⟩⟩
                        refine dcons ?_ ?_
                        · intro _ _ H504 fr505 hle506 hd507
                          have hA509 := All2.mono (fun _ _ => GoT.mono hle506) hA65
                          obtain ⟨hv510, hg511⟩ := hd507 12 (by decide)
                          refine ⟨_, some (), rfl, fun _ => ?_⟩
                          refine s_env (env' := [(73, undef), (3, .slice a47 s46.1.length c48)]) (by exact ⟨congrArg some hv510, rfl, trivial⟩) ?_
                          refine s_unwantU rfl rfl ?_
                          exact s_pred fun _ _ _ hE hI => ⟨undef, [], _, fun _ e => (by cases e; exact hE _ _ rfl), .refl _, by exact hI, ⟨rfl, rfl⟩⟩
                        refine dcons ?_ ?_
                        · intro _ _ H514 fr515 hle516 hd517
                          obtain ⟨hv519, hg520⟩ := hd517 12 (by decide)
                          refine ⟨_, some (), rfl, fun _ => ?_⟩
                          refine s_env (env' := [(73, undef), (7, .int .i64 s46.2)]) (by exact ⟨congrArg some hv519, rfl, trivial⟩) ?_
                          refine s_unwantU rfl rfl ?_
                          exact s_pred fun _ _ _ hE hI => ⟨undef, [], _, fun _ e => (by cases e; exact hE _ _ rfl), .refl _, by exact hI, ⟨rfl, rfl⟩⟩
                        refine dcons ?_ ?_
                        · intro _ _ H523 fr524 hle525 hd526
                          obtain ⟨hv528, hg529⟩ := hd526 12 (by decide)
                          obtain ⟨hv530, hg531⟩ := hd526 13 (by decide)
                          obtain ⟨hv532, hg533⟩ := hd526 14 (by decide)
                          refine ⟨_, some (), rfl, fun _ => ?_⟩
                          refine s_env (env' := [(73, undef), (74, undef), (75, undef)]) (by exact ⟨congrArg some hv528, congrArg some hv530, congrArg some hv532, trivial⟩) ?_
                          refine s_unwantU rfl rfl ?_
                          exact s_pred fun _ _ _ hE hI => ⟨undef, [], _, fun _ e => (by cases e; exact hE _ _ rfl), .refl _, by exact hI, ⟨rfl, rfl⟩⟩
                        refine dcons ?_ ?_
                        · intro _ _ H536 fr537 hle538 hd539
                          obtain ⟨hv541, hg542⟩ := hd539 12 (by decide)
                          obtain ⟨hv543, hg544⟩ := hd539 15 (by decide)
                          refine ⟨_, some (), rfl, fun _ => ?_⟩
                          refine s_env (env' := [(73, undef), (76, undef)]) (by exact ⟨congrArg some hv541, congrArg some hv543, trivial⟩) ?_
                          refine s_unwantU rfl rfl ?_
                          exact s_pred fun _ _ _ hE hI => ⟨undef, [], _, fun _ e => (by cases e; exact hE _ _ rfl), .refl _, by exact hI, ⟨rfl, rfl⟩⟩
                        refine dcons ?_ ?_
                        · intro _ _ H547 fr548 hle549 hd550
                          have hA552 := All2.mono (fun _ _ => GoT.mono hle549) hA66
                          obtain ⟨hv553, hg554⟩ := hd550 12 (by decide)
                          refine ⟨_, some (), rfl, fun _ => ?_⟩
                          refine s_env (env' := [(73, undef), (8, .slice a59 y57.1.length c60)]) (by exact ⟨congrArg some hv553, rfl, trivial⟩) ?_
                          refine s_unwantU rfl rfl ?_
                          exact s_pred fun _ _ _ hE hI => ⟨undef, [], _, fun _ e => (by cases e; exact hE _ _ rfl), .refl _, by exact hI, ⟨rfl, rfl⟩⟩
                        refine dcons ?_ ?_
                        · intro _ _ H557 fr558 hle559 hd560
                          obtain ⟨hv562, hg563⟩ := hd560 12 (by decide)
                          refine ⟨_, some (), rfl, fun _ => ?_⟩
                          refine s_env (env' := [(73, undef), (10, .int .i64 y78)]) (by exact ⟨congrArg some hv562, rfl, trivial⟩) ?_
                          refine s_unwantU rfl rfl ?_
                          exact s_pred fun _ _ _ hE hI => ⟨undef, [], _, fun _ e => (by cases e; exact hE _ _ rfl), .refl _, by exact hI, ⟨rfl, rfl⟩⟩
                        refine dcons ?_ ?_
                        · intro _ _ H566 fr567 hle568 hd569
                          obtain ⟨hv571, hg572⟩ := hd569 12 (by decide)
                          obtain ⟨hv573, hg574⟩ := hd569 18 (by decide)
                          refine ⟨_, some (), rfl, fun _ => ?_⟩
                          refine s_env (env' := [(73, undef), (79, undef)]) (by exact ⟨congrArg some hv571, congrArg some hv573, trivial⟩) ?_
                          refine s_unwantU rfl rfl ?_
                          exact s_pred fun _ _ _ hE hI => ⟨undef, [], _, fun _ e => (by cases e; exact hE _ _ rfl), .refl _, by exact hI, ⟨rfl, rfl⟩⟩
                        refine dcons ?_ ?_
                        · intro _ _ H577 fr578 hle579 hd580
                          obtain ⟨hv582, hg583⟩ := hd580 12 (by decide)
                          obtain ⟨hv584, hg585⟩ := hd580 17 (by decide)
                          obtain ⟨hv586, hg587⟩ := hd580 19 (by decide)
                          refine ⟨_, some (), rfl, fun _ => ?_⟩
                          refine s_env (env' := [(73, undef), (78, undef), (80, undef)]) (by exact ⟨congrArg some hv582, congrArg some hv584, congrArg some hv586, trivial⟩) ?_
                          refine s_unwantU rfl rfl ?_
                          exact s_pred fun _ _ _ hE hI => ⟨undef, [], _, fun _ e => (by cases e; exact hE _ _ rfl), .refl _, by exact hI, ⟨rfl, rfl⟩⟩
                        refine dcons ?_ ?_
                        · intro _ _ H590 fr591 hle592 hd593
                          obtain ⟨hv595, hg596⟩ := hd593 12 (by decide)
                          obtain ⟨hv597, hg598⟩ := hd593 20 (by decide)
                          refine ⟨_, some (), rfl, fun _ => ?_⟩
                          refine s_env (env' := [(73, undef), (81, undef)]) (by exact ⟨congrArg some hv595, congrArg some hv597, trivial⟩) ?_
                          refine s_unwantU rfl rfl ?_
                          exact s_pred fun _ _ _ hE hI => ⟨undef, [], _, fun _ e => (by cases e; exact hE _ _ rfl), .refl _, by exact hI, ⟨rfl, rfl⟩⟩
                        refine dcons ?_ ?_
                        · intro _ _ H601 fr602 hle603 hd604
                          obtain ⟨hv606, hg607⟩ := hd604 12 (by decide)
                          obtain ⟨hv608, hg609⟩ := hd604 16 (by decide)
                          obtain ⟨hv610, hg611⟩ := hd604 21 (by decide)
                          refine ⟨_, some (), rfl, fun _ => ?_⟩
                          refine s_env (env' := [(73, undef), (77, undef), (82, undef)]) (by exact ⟨congrArg some hv606, congrArg some hv608, congrArg some hv610, trivial⟩) ?_
                          refine s_unwantU rfl rfl ?_
                          exact s_pred fun _ _ _ hE hI => ⟨undef, [], _, fun _ e => (by cases e; exact hE _ _ rfl), .refl _, by exact hI, ⟨rfl, rfl⟩⟩
                        refine dcons ?_ ?_
                        · intro _ _ H614 fr615 hle616 hd617
                          obtain ⟨hv619, hg620⟩ := hd617 9 (by decide)
                          obtain ⟨hv621, hg622⟩ := hd617 12 (by decide)
                          obtain ⟨hv623, hg624⟩ := hd617 22 (by decide)
                          refine ⟨_, some (), rfl, fun _ => ?_⟩
                          refine s_env (env' := [(70, .bool (y78 != y365)), (73, undef), (83, undef)]) (by exact ⟨congrArg some hv619, congrArg some hv621, congrArg some hv623, trivial⟩) ?_
                          refine s_unwant rfl rfl h368 ?_
                          exact s_pred fun _ _ _ hE hI => ⟨undef, [], _, fun _ e => (by cases e; exact hE _ _ rfl), .refl _, by exact hI, ⟨rfl, rfl⟩⟩
                        refine dcons ?_ ?_
                        · intro _ _ H627 fr628 hle629 hd630
                          obtain ⟨hv632, hg633⟩ := hd630 9 (by decide)
                          obtain ⟨hv634, hg635⟩ := hd630 23 (by decide)
                          refine ⟨_, some (), rfl, fun _ => ?_⟩
                          refine s_env (env' := [(70, .bool (y78 != y365)), (84, undef)]) (by exact ⟨congrArg some hv632, congrArg some hv634, trivial⟩) ?_
                          refine o_pickT rfl h368 rfl ?_
                          exact s_pred fun _ _ _ hE hI => ⟨(.bool true), [], _, fun _ e => (by cases e; exact hE _ _ rfl), .refl _, by exact hI, ⟨rfl, rfl⟩⟩
                        exact dnil
                      · intro V638 G639 H636 hle637 hF640
                        have hs641 := RSl.mono hle637 hs64
                        have hA642 := All2.mono (fun _ _ => GoT.mono hle637) hA65
                        have hA643 := All2.mono (fun _ _ => GoT.mono hle637) hA66
                        obtain ⟨hv644, hg645⟩ := hF640 24 (show 24 < 25 by decide)
                        refine s_env (env' := [(85, .bool true), (0, .slice a6 y4.length c7), (3, .slice a47 s46.1.length c48), (7, .int .i64 s46.2), (36, .int .i64 s46.2), (37, .bool (decide (s46.2 < 7))), (41, .slice a6 y4.length c7), (42, .int .i64 s46.2), (44, .slice a59 y57.1.length c60), (45, .bool y57.2), (8, .slice a59 y57.1.length c60), (9, .bool y57.2), (46, .bool y57.2), (47, .bool (!y57.2)), (57, .slice a6 y4.length c7), (58, .slice a59 y57.1.length c60), (59, .int .i64 s46.2), (60, .int .i64 y78), (10, .int .i64 y78)]) (by exact ⟨congrArg some hv644, rfl, rfl, rfl, rfl, rfl, rfl, rfl, rfl, rfl, rfl, rfl, rfl, rfl, rfl, rfl, rfl, rfl, rfl, trivial⟩) ?_
                        refine s_own (List.sublist_append_left _ _) ?_
                        refine s_done ?_
                        exact s_env (by exact ⟨rfl, rfl, rfl, rfl, trivial⟩) (s_own (by exact (.cons_cons _ (.cons _ .slnil))) (J89 (s46.1, true) _ _ _ ⟨_, _, _, rfl, rfl, hle637, hA642⟩))
                    · refine s_split (decide (s46.2 > 1)) (fun h646 => ?_) (fun h646 => ?_)
                      · refine s_bg fun y647 h654 => ?_
                        refine s_addr 0 rfl hA65 h654 fun bk649 ha655 => ?_
                        subst ha655
                        refine s_bg fun y656 h663 => ?_
                        refine s_addr 1 rfl hA66 h663 fun bk658 ha664 => ?_
                        subst ha664
                        refine s_drawL [(fun H v g => v = Value.int .i64 y78 ∧ g = []),
      (fun H v g => v = Value.bool (decide (y78 < 0)) ∧ g = []),
      (fun H v g => v = Value.bool (decide (y78 < 0)) ∧ g = []),
      (fun H v g => v = Value.int .i64 y78 ∧ g = []),
      (fun H v g => v = Value.slice a6 y4.length c7 ∧ g = [] ∧ RSl H a6 c7 y4),
      (fun H v g => v = Value.int .i64 s46.2 ∧ g = []),
      (fun H v g => v = Value.int .i64 y365 ∧ g = []),
      (fun H v g => v = Value.bool (y78 != y365) ∧ g = []),
      (fun H v g => v = Value.bool (y78 != y365) ∧ g = []),
      (fun H v g => v = Value.bool (y78 != y365) ∧ g = []),
      (fun H v g => v = Value.int .i64 s46.2 ∧ g = []),
      (fun H v g => v = Value.bool (decide (s46.2 > 1)) ∧ g = []),
      (fun H v g => v = Value.bool (decide (s46.2 > 1)) ∧ g = []),
      (fun H v g => v = Value.slice (some ⟨bk649, 0, none⟩) s46.1.length c48 ∧ g = []),
      (fun H v g => v = Value.int .i64 s46.2 ∧ g = []),
      (fun H v g => v = Value.pointer (some ⟨bk649, (s46.2 : Int).toNat * GoT.sz (End), none⟩) ∧ g = [] ∧ (ls49)[(s46.2 : Int).toNat]? = some [.int .i64 y647.Switch, .int .i64 y647.Port]),
      (fun H v g => v = Value.agg #[.int .i64 y647.Switch, .int .i64 y647.Port] ∧ g = []),
      (fun H v g => v = Value.slice (some ⟨bk658, 0, none⟩) y57.1.length c60 ∧ g = []),
      (fun H v g => v = Value.int .i64 y78 ∧ g = []),
      (fun H v g => v = Value.int .i64 (w64 (y78 - 1)) ∧ g = []),
      (fun H v g => v = Value.pointer (some ⟨bk658, (w64 (y78 - 1) : Int).toNat * GoT.sz (End), none⟩) ∧ g = [] ∧ ((y57.1.map GoE.enc))[(w64 (y78 - 1) : Int).toNat]? = some [.int .i64 y656.Switch, .int .i64 y656.Port]),
      (fun H v g => v = Value.agg #[.int .i64 y656.Switch, .int .i64 y656.Port] ∧ g = []),
      (fun H v g => v = Value.bool (!(decide (y647 = y656))) ∧ g = []),
      (fun H v g => v = Value.bool (!(decide (y647 = y656))) ∧ g = []),
      (fun H v g => v = Value.bool (!(decide (y647 = y656))) ∧ g = [])] [[], [], [], [], [], [], [], [], [], [], [], [], [], [], [], [], [], [], [], [], [], [], [], [], []] mixed ⟨m0, m0, m0, m0, fun _ _ _ _ hle ⟨e1, e2, h0_⟩ => ⟨e1, e2, RSl.mono hle h0_⟩, m0, m0, m0, m0, m0, m0, m0, m0, m0, m0, m0, m0, m0, m0, m0, m0, m0, m0, m0, m0, trivial⟩ (by kernel_rfl) (by kernel_rfl) rfl (by kernel_rfl) rfl rfl ?_ ?_
                        · refine dcons ?_ ?_
                          · intro _ _ H680 fr681 hle682 hd683
                            refine ⟨_, some (), rfl, fun _ => ?_⟩
                            refine s_env (env' := [(10, .int .i64 y78)]) (by exact ⟨rfl, trivial⟩) ?_
                            refine o_mov rfl ?_
                            exact s_pred fun _ _ _ hE hI => ⟨(.int .i64 y78), [], _, fun _ e => (by cases e; exact hE _ _ rfl), .refl _, by exact hI, ⟨rfl, rfl⟩⟩
                          refine dcons ?_ ?_
                          · intro _ _ H687 fr688 hle689 hd690
                            obtain ⟨hv692, hg693⟩ := hd690 0 (by decide)
                            refine ⟨_, some (), rfl, fun _ => ?_⟩
                            refine s_env (env' := [(61, .int .i64 y78)]) (by exact ⟨congrArg some hv692, trivial⟩) ?_
                            refine o_lt rfl rfl ?_
                            exact s_pred fun _ _ _ hE hI => ⟨(.bool (decide (y78 < 0))), [], _, fun _ e => (by cases e; exact hE _ _ rfl), .refl _, by exact hI, ⟨rfl, rfl⟩⟩
                          refine dcons ?_ ?_
                          · intro _ _ H696 fr697 hle698 hd699
                            obtain ⟨hv701, hg702⟩ := hd699 1 (by decide)
                            refine ⟨_, some (), rfl, fun _ => ?_⟩
                            refine s_env (env' := [(62, .bool (decide (y78 < 0)))]) (by exact ⟨congrArg some hv701, trivial⟩) ?_
                            refine o_mov rfl ?_
                            exact s_pred fun _ _ _ hE hI => ⟨(.bool (decide (y78 < 0))), [], _, fun _ e => (by cases e; exact hE _ _ rfl), .refl _, by exact hI, ⟨rfl, rfl⟩⟩
                          refine dcons ?_ ?_
                          · intro _ _ H705 fr706 hle707 hd708
                            obtain ⟨hv710, hg711⟩ := hd708 2 (by decide)
                            refine ⟨_, some (), rfl, fun _ => ?_⟩
                            refine s_env (env' := [(63, .bool (decide (y78 < 0))), (10, .int .i64 y78)]) (by exact ⟨congrArg some hv710, rfl, trivial⟩) ?_
                            refine s_want rfl rfl h90 ?_
                            refine o_mov rfl ?_
                            exact s_pred fun _ _ _ hE hI => ⟨(.int .i64 y78), [], _, fun _ e => (by cases e; exact hE _ _ rfl), .refl _, by exact hI, ⟨rfl, rfl⟩⟩
                          refine dcons ?_ ?_
                          · intro _ _ H714 fr715 hle716 hd717
                            have hs719 := RSl.mono hle716 hs64
                            obtain ⟨hv720, hg721⟩ := hd717 2 (by decide)
                            refine ⟨_, some (), rfl, fun _ => ?_⟩
                            refine s_env (env' := [(63, .bool (decide (y78 < 0))), (0, .slice a6 y4.length c7)]) (by exact ⟨congrArg some hv720, rfl, trivial⟩) ?_
                            refine s_want rfl rfl h90 ?_
                            refine o_mov rfl ?_
                            exact s_pred fun _ _ _ hE hI => ⟨(.slice a6 y4.length c7), [], _, fun _ e => (by cases e; exact hE _ _ rfl), .refl _, by exact hI, ⟨rfl, rfl, hs719⟩⟩
                          refine dcons ?_ ?_
                          · intro _ _ H724 fr725 hle726 hd727
                            obtain ⟨hv729, hg730⟩ := hd727 2 (by decide)
                            refine ⟨_, some (), rfl, fun _ => ?_⟩
                            refine s_env (env' := [(63, .bool (decide (y78 < 0))), (7, .int .i64 s46.2)]) (by exact ⟨congrArg some hv729, rfl, trivial⟩) ?_
                            refine s_want rfl rfl h90 ?_
                            refine o_mov rfl ?_
                            exact s_pred fun _ _ _ hE hI => ⟨(.int .i64 s46.2), [], _, fun _ e => (by cases e; exact hE _ _ rfl), .refl _, by exact hI, ⟨rfl, rfl⟩⟩
                          refine dcons ?_ ?_
                          · intro _ _ H733 fr734 hle735 hd736
                            obtain ⟨hv738, hg739⟩ := hd736 2 (by decide)
                            obtain ⟨hv740, hg741, hp742⟩ := hd736 4 (by decide)
                            obtain ⟨hv743, hg744⟩ := hd736 5 (by decide)
                            refine ⟨_, (catenarylaw20_far k y4 s46.2).bind some, by rw [h367]; rfl, fun _ => ?_⟩
                            refine s_env (env' := [(63, .bool (decide (y78 < 0))), (65, .slice a6 y4.length c7), (66, .int .i64 s46.2)]) (by exact ⟨congrArg some hv738, congrArg some hv740, congrArg some hv743, trivial⟩) ?_
                            refine s_want rfl rfl h90 ?_
                            refine s_bg fun y365 h745 => ?_
                            refine s_callF rfl rfl (catenarylaw20_far_ok k _ y4 _ _ hp742 s46.2 h745) ?_
                            obtain rfl := Option.some.inj (h367.symm.trans h745)
                            exact s_pred fun _ _ _ hE hI => ⟨(.int .i64 y365), [], _, fun _ e => (by cases e; exact hE _ _ rfl), .refl _, by exact hI, ⟨rfl, rfl⟩⟩
                          refine dcons ?_ ?_
                          · intro _ _ H748 fr749 hle750 hd751
                            obtain ⟨hv753, hg754⟩ := hd751 2 (by decide)
                            obtain ⟨hv755, hg756⟩ := hd751 3 (by decide)
                            obtain ⟨hv757, hg758⟩ := hd751 6 (by decide)
                            refine ⟨_, some (), rfl, fun _ => ?_⟩
                            refine s_env (env' := [(63, .bool (decide (y78 < 0))), (64, .int .i64 y78), (67, .int .i64 y365)]) (by exact ⟨congrArg some hv753, congrArg some hv755, congrArg some hv757, trivial⟩) ?_
                            refine s_want rfl rfl h90 ?_
                            refine o_ne rfl rfl ?_
                            exact s_pred fun _ _ _ hE hI => ⟨(.bool (y78 != y365)), [], _, fun _ e => (by cases e; exact hE _ _ rfl), .refl _, by exact hI, ⟨rfl, rfl⟩⟩
                          refine dcons ?_ ?_
                          · intro _ _ H761 fr762 hle763 hd764
                            obtain ⟨hv766, hg767⟩ := hd764 2 (by decide)
                            obtain ⟨hv768, hg769⟩ := hd764 7 (by decide)
                            refine ⟨_, some (), rfl, fun _ => ?_⟩
                            refine s_env (env' := [(63, .bool (decide (y78 < 0))), (68, .bool (y78 != y365))]) (by exact ⟨congrArg some hv766, congrArg some hv768, trivial⟩) ?_
                            refine o_pickF rfl h90 rfl ?_
                            exact s_pred fun _ _ _ hE hI => ⟨(.bool (y78 != y365)), [], _, fun _ e => (by cases e; exact hE _ _ rfl), .refl _, by exact hI, ⟨rfl, rfl⟩⟩
                          refine dcons ?_ ?_
                          · intro _ _ H772 fr773 hle774 hd775
                            obtain ⟨hv777, hg778⟩ := hd775 8 (by decide)
                            refine ⟨_, some (), rfl, fun _ => ?_⟩
                            refine s_env (env' := [(69, .bool (y78 != y365))]) (by exact ⟨congrArg some hv777, trivial⟩) ?_
                            refine o_mov rfl ?_
                            exact s_pred fun _ _ _ hE hI => ⟨(.bool (y78 != y365)), [], _, fun _ e => (by cases e; exact hE _ _ rfl), .refl _, by exact hI, ⟨rfl, rfl⟩⟩
                          refine dcons ?_ ?_
                          · intro _ _ H781 fr782 hle783 hd784
                            obtain ⟨hv786, hg787⟩ := hd784 9 (by decide)
                            refine ⟨_, some (), rfl, fun _ => ?_⟩
                            refine s_env (env' := [(70, .bool (y78 != y365)), (7, .int .i64 s46.2)]) (by exact ⟨congrArg some hv786, rfl, trivial⟩) ?_
                            refine s_want rfl rfl h368 ?_
                            refine o_mov rfl ?_
                            exact s_pred fun _ _ _ hE hI => ⟨(.int .i64 s46.2), [], _, fun _ e => (by cases e; exact hE _ _ rfl), .refl _, by exact hI, ⟨rfl, rfl⟩⟩
                          refine dcons ?_ ?_
                          · intro _ _ H790 fr791 hle792 hd793
                            obtain ⟨hv795, hg796⟩ := hd793 9 (by decide)
                            obtain ⟨hv797, hg798⟩ := hd793 10 (by decide)
                            refine ⟨_, some (), rfl, fun _ => ?_⟩
                            refine s_env (env' := [(70, .bool (y78 != y365)), (71, .int .i64 s46.2)]) (by exact ⟨congrArg some hv795, congrArg some hv797, trivial⟩) ?_
                            refine s_want rfl rfl h368 ?_
                            refine o_gt rfl rfl ?_
                            exact s_pred fun _ _ _ hE hI => ⟨(.bool (decide (s46.2 > 1))), [], _, fun _ e => (by cases e; exact hE _ _ rfl), .refl _, by exact hI, ⟨rfl, rfl⟩⟩
                          refine dcons ?_ ?_
                          · intro _ _ H801 fr802 hle803 hd804
                            obtain ⟨hv806, hg807⟩ := hd804 9 (by decide)
                            obtain ⟨hv808, hg809⟩ := hd804 11 (by decide)
                            refine ⟨_, some (), rfl, fun _ => ?_⟩
                            refine s_env (env' := [(70, .bool (y78 != y365)), (72, .bool (decide (s46.2 > 1)))]) (by exact ⟨congrArg some hv806, congrArg some hv808, trivial⟩) ?_
                            refine s_want rfl rfl h368 ?_
                            refine o_mov rfl ?_
                            exact s_pred fun _ _ _ hE hI => ⟨(.bool (decide (s46.2 > 1))), [], _, fun _ e => (by cases e; exact hE _ _ rfl), .refl _, by exact hI, ⟨rfl, rfl⟩⟩
                          refine dcons ?_ ?_
                          · intro _ _ H812 fr813 hle814 hd815
                            have hA817 := All2.mono (fun _ _ => GoT.mono hle814) hA65
                            obtain ⟨hv818, hg819⟩ := hd815 12 (by decide)
                            refine ⟨_, some (), rfl, fun _ => ?_⟩
                            refine s_env (env' := [(73, .bool (decide (s46.2 > 1))), (3, .slice (some ⟨bk649, 0, none⟩) s46.1.length c48)]) (by exact ⟨congrArg some hv818, rfl, trivial⟩) ?_
                            refine s_want rfl rfl h646 ?_
                            refine o_mov rfl ?_
                            exact s_pred fun _ _ _ hE hI => ⟨(.slice (some ⟨bk649, 0, none⟩) s46.1.length c48), [], _, fun _ e => (by cases e; exact hE _ _ rfl), .refl _, by exact hI, ⟨rfl, rfl⟩⟩
                          refine dcons ?_ ?_
                          · intro _ _ H822 fr823 hle824 hd825
                            obtain ⟨hv827, hg828⟩ := hd825 12 (by decide)
                            refine ⟨_, some (), rfl, fun _ => ?_⟩
                            refine s_env (env' := [(73, .bool (decide (s46.2 > 1))), (7, .int .i64 s46.2)]) (by exact ⟨congrArg some hv827, rfl, trivial⟩) ?_
                            refine s_want rfl rfl h646 ?_
                            refine o_mov rfl ?_
                            exact s_pred fun _ _ _ hE hI => ⟨(.int .i64 s46.2), [], _, fun _ e => (by cases e; exact hE _ _ rfl), .refl _, by exact hI, ⟨rfl, rfl⟩⟩
                          refine dcons ?_ ?_
                          · intro _ _ H831 fr832 hle833 hd834
                            have hA836 := All2.mono (fun _ _ => GoT.mono hle833) hA65
                            obtain ⟨hv837, hg838⟩ := hd834 12 (by decide)
                            obtain ⟨hv839, hg840⟩ := hd834 13 (by decide)
                            obtain ⟨hv841, hg842⟩ := hd834 14 (by decide)
                            refine ⟨_, (rd s46.1 s46.2).bind some, by rw [h654]; rfl, fun _ => ?_⟩
                            refine s_env (env' := [(73, .bool (decide (s46.2 > 1))), (74, .slice (some ⟨bk649, 0, none⟩) s46.1.length c48), (75, .int .i64 s46.2)]) (by exact ⟨congrArg some hv837, congrArg some hv839, congrArg some hv841, trivial⟩) ?_
                            refine s_want rfl rfl h646 ?_
                            refine o_ixO 0 rfl hA836 rfl rfl fun y647 bk844 vs845 h843 ha846 hi847 hr848 => ?_
                            subst hr848
                            obtain rfl := s_bk ha846
                            obtain rfl := Option.some.inj (h654.symm.trans h843)
                            exact s_pred fun _ _ _ hE hI => ⟨(.pointer (some ⟨bk649, (s46.2 : Int).toNat * GoT.sz (End), none⟩)), [], _, fun _ e => (by cases e; exact hE _ _ rfl), .refl _, by exact hI, ⟨rfl, rfl, hi847⟩⟩
                          refine dcons ?_ ?_
                          · intro _ _ H851 fr852 hle853 hd854
                            have hA856 := All2.mono (fun _ _ => GoT.mono hle853) hA65
                            obtain ⟨hv857, hg858⟩ := hd854 12 (by decide)
                            obtain ⟨hv859, hg860, hp861⟩ := hd854 15 (by decide)
                            refine ⟨_, some (), rfl, fun _ => ?_⟩
                            refine s_env (env' := [(73, .bool (decide (s46.2 > 1))), (76, .pointer (some ⟨bk649, (s46.2 : Int).toNat * GoT.sz (End), none⟩))]) (by exact ⟨congrArg some hv857, congrArg some hv859, trivial⟩) ?_
                            refine s_want rfl rfl h646 ?_
                            refine o_ldO 0 0 rfl hp861 rfl rfl rfl ?_
                            exact s_pred fun _ _ _ hE hI => ⟨(.agg #[.int .i64 y647.Switch, .int .i64 y647.Port]), [], _, fun _ e => (by cases e; exact hE _ _ rfl), .refl _, by exact hI, ⟨rfl, rfl⟩⟩
                          refine dcons ?_ ?_
                          · intro _ _ H864 fr865 hle866 hd867
                            have hA869 := All2.mono (fun _ _ => GoT.mono hle866) hA66
                            obtain ⟨hv870, hg871⟩ := hd867 12 (by decide)
                            refine ⟨_, some (), rfl, fun _ => ?_⟩
                            refine s_env (env' := [(73, .bool (decide (s46.2 > 1))), (8, .slice (some ⟨bk658, 0, none⟩) y57.1.length c60)]) (by exact ⟨congrArg some hv870, rfl, trivial⟩) ?_
                            refine s_want rfl rfl h646 ?_
                            refine o_mov rfl ?_
                            exact s_pred fun _ _ _ hE hI => ⟨(.slice (some ⟨bk658, 0, none⟩) y57.1.length c60), [], _, fun _ e => (by cases e; exact hE _ _ rfl), .refl _, by exact hI, ⟨rfl, rfl⟩⟩
                          refine dcons ?_ ?_
                          · intro _ _ H874 fr875 hle876 hd877
                            obtain ⟨hv879, hg880⟩ := hd877 12 (by decide)
                            refine ⟨_, some (), rfl, fun _ => ?_⟩
                            refine s_env (env' := [(73, .bool (decide (s46.2 > 1))), (10, .int .i64 y78)]) (by exact ⟨congrArg some hv879, rfl, trivial⟩) ?_
                            refine s_want rfl rfl h646 ?_
                            refine o_mov rfl ?_
                            exact s_pred fun _ _ _ hE hI => ⟨(.int .i64 y78), [], _, fun _ e => (by cases e; exact hE _ _ rfl), .refl _, by exact hI, ⟨rfl, rfl⟩⟩
                          refine dcons ?_ ?_
                          · intro _ _ H883 fr884 hle885 hd886
                            obtain ⟨hv888, hg889⟩ := hd886 12 (by decide)
                            obtain ⟨hv890, hg891⟩ := hd886 18 (by decide)
                            refine ⟨_, some (), rfl, fun _ => ?_⟩
                            refine s_env (env' := [(73, .bool (decide (s46.2 > 1))), (79, .int .i64 y78)]) (by exact ⟨congrArg some hv888, congrArg some hv890, trivial⟩) ?_
                            refine s_want rfl rfl h646 ?_
                            refine o_sub rfl rfl ?_
                            exact s_pred fun _ _ _ hE hI => ⟨(.int .i64 (w64 (y78 - 1))), [], _, fun _ e => (by cases e; exact hE _ _ rfl), .refl _, by exact hI, ⟨rfl, rfl⟩⟩
                          refine dcons ?_ ?_
                          · intro _ _ H894 fr895 hle896 hd897
                            have hA899 := All2.mono (fun _ _ => GoT.mono hle896) hA66
                            obtain ⟨hv900, hg901⟩ := hd897 12 (by decide)
                            obtain ⟨hv902, hg903⟩ := hd897 17 (by decide)
                            obtain ⟨hv904, hg905⟩ := hd897 19 (by decide)
                            refine ⟨_, (rd y57.1 (w64 (y78 - 1))).bind some, by rw [h663]; rfl, fun _ => ?_⟩
                            refine s_env (env' := [(73, .bool (decide (s46.2 > 1))), (78, .slice (some ⟨bk658, 0, none⟩) y57.1.length c60), (80, .int .i64 (w64 (y78 - 1)))]) (by exact ⟨congrArg some hv900, congrArg some hv902, congrArg some hv904, trivial⟩) ?_
                            refine s_want rfl rfl h646 ?_
                            refine o_ixO 1 rfl hA899 rfl rfl fun y656 bk907 vs908 h906 ha909 hi910 hr911 => ?_
                            subst hr911
                            obtain rfl := s_bk ha909
                            obtain rfl := Option.some.inj (h663.symm.trans h906)
                            exact s_pred fun _ _ _ hE hI => ⟨(.pointer (some ⟨bk658, (w64 (y78 - 1) : Int).toNat * GoT.sz (End), none⟩)), [], _, fun _ e => (by cases e; exact hE _ _ rfl), .refl _, by exact hI, ⟨rfl, rfl, hi910⟩⟩
                          refine dcons ?_ ?_
                          · intro _ _ H914 fr915 hle916 hd917
                            have hA919 := All2.mono (fun _ _ => GoT.mono hle916) hA66
                            obtain ⟨hv920, hg921⟩ := hd917 12 (by decide)
                            obtain ⟨hv922, hg923, hp924⟩ := hd917 20 (by decide)
                            refine ⟨_, some (), rfl, fun _ => ?_⟩
                            refine s_env (env' := [(73, .bool (decide (s46.2 > 1))), (81, .pointer (some ⟨bk658, (w64 (y78 - 1) : Int).toNat * GoT.sz (End), none⟩))]) (by exact ⟨congrArg some hv920, congrArg some hv922, trivial⟩) ?_
                            refine s_want rfl rfl h646 ?_
                            refine o_ldO 1 0 rfl hp924 rfl rfl rfl ?_
                            exact s_pred fun _ _ _ hE hI => ⟨(.agg #[.int .i64 y656.Switch, .int .i64 y656.Port]), [], _, fun _ e => (by cases e; exact hE _ _ rfl), .refl _, by exact hI, ⟨rfl, rfl⟩⟩
                          refine dcons ?_ ?_
                          · intro _ _ H927 fr928 hle929 hd930
                            obtain ⟨hv932, hg933⟩ := hd930 12 (by decide)
                            obtain ⟨hv934, hg935⟩ := hd930 16 (by decide)
                            obtain ⟨hv936, hg937⟩ := hd930 21 (by decide)
                            refine ⟨_, some (), rfl, fun _ => ?_⟩
                            refine s_env (env' := [(73, .bool (decide (s46.2 > 1))), (77, .agg #[.int .i64 y647.Switch, .int .i64 y647.Port]), (82, .agg #[.int .i64 y656.Switch, .int .i64 y656.Port])]) (by exact ⟨congrArg some hv932, congrArg some hv934, congrArg some hv936, trivial⟩) ?_
                            refine s_want rfl rfl h646 ?_
                            refine o_neS y647 y656 rfl rfl ?_
                            exact s_pred fun _ _ _ hE hI => ⟨(.bool (!(decide (y647 = y656)))), [], _, fun _ e => (by cases e; exact hE _ _ rfl), .refl _, by exact hI, ⟨rfl, rfl⟩⟩
                          refine dcons ?_ ?_
                          · intro _ _ H940 fr941 hle942 hd943
                            obtain ⟨hv945, hg946⟩ := hd943 9 (by decide)
                            obtain ⟨hv947, hg948⟩ := hd943 12 (by decide)
                            obtain ⟨hv949, hg950⟩ := hd943 22 (by decide)
                            refine ⟨_, some (), rfl, fun _ => ?_⟩
                            refine s_env (env' := [(70, .bool (y78 != y365)), (73, .bool (decide (s46.2 > 1))), (83, .bool (!(decide (y647 = y656))))]) (by exact ⟨congrArg some hv945, congrArg some hv947, congrArg some hv949, trivial⟩) ?_
                            refine s_want rfl rfl h368 ?_
                            refine o_pickT rfl h646 rfl ?_
                            exact s_pred fun _ _ _ hE hI => ⟨(.bool (!(decide (y647 = y656)))), [], _, fun _ e => (by cases e; exact hE _ _ rfl), .refl _, by exact hI, ⟨rfl, rfl⟩⟩
                          refine dcons ?_ ?_
                          · intro _ _ H953 fr954 hle955 hd956
                            obtain ⟨hv958, hg959⟩ := hd956 9 (by decide)
                            obtain ⟨hv960, hg961⟩ := hd956 23 (by decide)
                            refine ⟨_, some (), rfl, fun _ => ?_⟩
                            refine s_env (env' := [(70, .bool (y78 != y365)), (84, .bool (!(decide (y647 = y656))))]) (by exact ⟨congrArg some hv958, congrArg some hv960, trivial⟩) ?_
                            refine o_pickF rfl h368 rfl ?_
                            exact s_pred fun _ _ _ hE hI => ⟨(.bool (!(decide (y647 = y656)))), [], _, fun _ e => (by cases e; exact hE _ _ rfl), .refl _, by exact hI, ⟨rfl, rfl⟩⟩
                          exact dnil
                        · intro V964 G965 H962 hle963 hF966
                          have hs967 := RSl.mono hle963 hs64
                          have hA968 := All2.mono (fun _ _ => GoT.mono hle963) hA65
                          have hA969 := All2.mono (fun _ _ => GoT.mono hle963) hA66
                          obtain ⟨hv970, hg971⟩ := hF966 24 (show 24 < 25 by decide)
                          refine s_env (env' := [(85, .bool (!(decide (y647 = y656)))), (0, .slice a6 y4.length c7), (3, .slice (some ⟨bk649, 0, none⟩) s46.1.length c48), (7, .int .i64 s46.2), (36, .int .i64 s46.2), (37, .bool (decide (s46.2 < 7))), (41, .slice a6 y4.length c7), (42, .int .i64 s46.2), (44, .slice (some ⟨bk658, 0, none⟩) y57.1.length c60), (45, .bool y57.2), (8, .slice (some ⟨bk658, 0, none⟩) y57.1.length c60), (9, .bool y57.2), (46, .bool y57.2), (47, .bool (!y57.2)), (57, .slice a6 y4.length c7), (58, .slice (some ⟨bk658, 0, none⟩) y57.1.length c60), (59, .int .i64 s46.2), (60, .int .i64 y78), (10, .int .i64 y78)]) (by exact ⟨congrArg some hv970, rfl, rfl, rfl, rfl, rfl, rfl, rfl, rfl, rfl, rfl, rfl, rfl, rfl, rfl, rfl, rfl, rfl, rfl, trivial⟩) ?_
                          refine s_own (List.sublist_append_left _ _) ?_
                          refine s_done ?_
                          exact s_env (by exact ⟨rfl, rfl, rfl, rfl, trivial⟩) (s_own (by exact (.cons_cons _ (.cons _ .slnil))) (J89 (s46.1, !(decide (y647 = y656))) _ _ _ ⟨_, _, _, rfl, rfl, hle963, hA968⟩))
                      · refine s_drawL [(fun H v g => v = Value.int .i64 y78 ∧ g = []),
      (fun H v g => v = Value.bool (decide (y78 < 0)) ∧ g = []),
      (fun H v g => v = Value.bool (decide (y78 < 0)) ∧ g = []),
      (fun H v g => v = Value.int .i64 y78 ∧ g = []),
      (fun H v g => v = Value.slice a6 y4.length c7 ∧ g = [] ∧ RSl H a6 c7 y4),
      (fun H v g => v = Value.int .i64 s46.2 ∧ g = []),
      (fun H v g => v = Value.int .i64 y365 ∧ g = []),
      (fun H v g => v = Value.bool (y78 != y365) ∧ g = []),
      (fun H v g => v = Value.bool (y78 != y365) ∧ g = []),
      (fun H v g => v = Value.bool (y78 != y365) ∧ g = []),
      (fun H v g => v = Value.int .i64 s46.2 ∧ g = []),
      (fun H v g => v = Value.bool (decide (s46.2 > 1)) ∧ g = []),
      (fun H v g => v = Value.bool (decide (s46.2 > 1)) ∧ g = []),
      uF,
      uF,
      uF,
      uF,
      uF,
      uF,
      uF,
      uF,
      uF,
      uF,
      (fun H v g => v = Value.bool false ∧ g = []),
      (fun H v g => v = Value.bool false ∧ g = [])] [[], [], [], [], [], [], [], [], [], [], [], [], [], [], [], [], [], [], [], [], [], [], [], [], []] mixed ⟨m0, m0, m0, m0, fun _ _ _ _ hle ⟨e1, e2, h0_⟩ => ⟨e1, e2, RSl.mono hle h0_⟩, m0, m0, m0, m0, m0, m0, m0, m0, m0, m0, m0, m0, m0, m0, m0, m0, m0, m0, m0, m0, trivial⟩ (by kernel_rfl) (by kernel_rfl) rfl (by kernel_rfl) rfl rfl ?_ ?_
                        · refine dcons ?_ ?_
                          · intro _ _ H975 fr976 hle977 hd978
                            refine ⟨_, some (), rfl, fun _ => ?_⟩
                            refine s_env (env' := [(10, .int .i64 y78)]) (by exact ⟨rfl, trivial⟩) ?_
                            refine o_mov rfl ?_
                            exact s_pred fun _ _ _ hE hI => ⟨(.int .i64 y78), [], _, fun _ e => (by cases e; exact hE _ _ rfl), .refl _, by exact hI, ⟨rfl, rfl⟩⟩
                          refine dcons ?_ ?_
                          · intro _ _ H982 fr983 hle984 hd985
                            obtain ⟨hv987, hg988⟩ := hd985 0 (by decide)
                            refine ⟨_, some (), rfl, fun _ => ?_⟩
                            refine s_env (env' := [(61, .int .i64 y78)]) (by exact ⟨congrArg some hv987, trivial⟩) ?_
                            refine o_lt rfl rfl ?_
                            exact s_pred fun _ _ _ hE hI => ⟨(.bool (decide (y78 < 0))), [], _, fun _ e => (by cases e; exact hE _ _ rfl), .refl _, by exact hI, ⟨rfl, rfl⟩⟩
                          refine dcons ?_ ?_
                          · intro _ _ H991 fr992 hle993 hd994
                            obtain ⟨hv996, hg997⟩ := hd994 1 (by decide)
                            refine ⟨_, some (), rfl, fun _ => ?_⟩
                            refine s_env (env' := [(62, .bool (decide (y78 < 0)))]) (by exact ⟨congrArg some hv996, trivial⟩) ?_
                            refine o_mov rfl ?_
                            exact s_pred fun _ _ _ hE hI => ⟨(.bool (decide (y78 < 0))), [], _, fun _ e => (by cases e; exact hE _ _ rfl), .refl _, by exact hI, ⟨rfl, rfl⟩⟩
                          refine dcons ?_ ?_
                          · intro _ _ H1000 fr1001 hle1002 hd1003
                            obtain ⟨hv1005, hg1006⟩ := hd1003 2 (by decide)
                            refine ⟨_, some (), rfl, fun _ => ?_⟩
                            refine s_env (env' := [(63, .bool (decide (y78 < 0))), (10, .int .i64 y78)]) (by exact ⟨congrArg some hv1005, rfl, trivial⟩) ?_
                            refine s_want rfl rfl h90 ?_
                            refine o_mov rfl ?_
                            exact s_pred fun _ _ _ hE hI => ⟨(.int .i64 y78), [], _, fun _ e => (by cases e; exact hE _ _ rfl), .refl _, by exact hI, ⟨rfl, rfl⟩⟩
                          refine dcons ?_ ?_
                          · intro _ _ H1009 fr1010 hle1011 hd1012
                            have hs1014 := RSl.mono hle1011 hs64
                            obtain ⟨hv1015, hg1016⟩ := hd1012 2 (by decide)
                            refine ⟨_, some (), rfl, fun _ => ?_⟩
                            refine s_env (env' := [(63, .bool (decide (y78 < 0))), (0, .slice a6 y4.length c7)]) (by exact ⟨congrArg some hv1015, rfl, trivial⟩) ?_
                            refine s_want rfl rfl h90 ?_
                            refine o_mov rfl ?_
                            exact s_pred fun _ _ _ hE hI => ⟨(.slice a6 y4.length c7), [], _, fun _ e => (by cases e; exact hE _ _ rfl), .refl _, by exact hI, ⟨rfl, rfl, hs1014⟩⟩
                          refine dcons ?_ ?_
                          · intro _ _ H1019 fr1020 hle1021 hd1022
                            obtain ⟨hv1024, hg1025⟩ := hd1022 2 (by decide)
                            refine ⟨_, some (), rfl, fun _ => ?_⟩
                            refine s_env (env' := [(63, .bool (decide (y78 < 0))), (7, .int .i64 s46.2)]) (by exact ⟨congrArg some hv1024, rfl, trivial⟩) ?_
                            refine s_want rfl rfl h90 ?_
                            refine o_mov rfl ?_
                            exact s_pred fun _ _ _ hE hI => ⟨(.int .i64 s46.2), [], _, fun _ e => (by cases e; exact hE _ _ rfl), .refl _, by exact hI, ⟨rfl, rfl⟩⟩
                          refine dcons ?_ ?_
                          · intro _ _ H1028 fr1029 hle1030 hd1031
                            obtain ⟨hv1033, hg1034⟩ := hd1031 2 (by decide)
                            obtain ⟨hv1035, hg1036, hp1037⟩ := hd1031 4 (by decide)
                            obtain ⟨hv1038, hg1039⟩ := hd1031 5 (by decide)
                            refine ⟨_, (catenarylaw20_far k y4 s46.2).bind some, by rw [h367]; rfl, fun _ => ?_⟩
                            refine s_env (env' := [(63, .bool (decide (y78 < 0))), (65, .slice a6 y4.length c7), (66, .int .i64 s46.2)]) (by exact ⟨congrArg some hv1033, congrArg some hv1035, congrArg some hv1038, trivial⟩) ?_
                            refine s_want rfl rfl h90 ?_
                            refine s_bg fun y365 h1040 => ?_
                            refine s_callF rfl rfl (catenarylaw20_far_ok k _ y4 _ _ hp1037 s46.2 h1040) ?_
                            obtain rfl := Option.some.inj (h367.symm.trans h1040)
                            exact s_pred fun _ _ _ hE hI => ⟨(.int .i64 y365), [], _, fun _ e => (by cases e; exact hE _ _ rfl), .refl _, by exact hI, ⟨rfl, rfl⟩⟩
                          refine dcons ?_ ?_
                          · intro _ _ H1043 fr1044 hle1045 hd1046
                            obtain ⟨hv1048, hg1049⟩ := hd1046 2 (by decide)
                            obtain ⟨hv1050, hg1051⟩ := hd1046 3 (by decide)
                            obtain ⟨hv1052, hg1053⟩ := hd1046 6 (by decide)
                            refine ⟨_, some (), rfl, fun _ => ?_⟩
                            refine s_env (env' := [(63, .bool (decide (y78 < 0))), (64, .int .i64 y78), (67, .int .i64 y365)]) (by exact ⟨congrArg some hv1048, congrArg some hv1050, congrArg some hv1052, trivial⟩) ?_
                            refine s_want rfl rfl h90 ?_
                            refine o_ne rfl rfl ?_
                            exact s_pred fun _ _ _ hE hI => ⟨(.bool (y78 != y365)), [], _, fun _ e => (by cases e; exact hE _ _ rfl), .refl _, by exact hI, ⟨rfl, rfl⟩⟩
                          refine dcons ?_ ?_
                          · intro _ _ H1056 fr1057 hle1058 hd1059
                            obtain ⟨hv1061, hg1062⟩ := hd1059 2 (by decide)
                            obtain ⟨hv1063, hg1064⟩ := hd1059 7 (by decide)
                            refine ⟨_, some (), rfl, fun _ => ?_⟩
                            refine s_env (env' := [(63, .bool (decide (y78 < 0))), (68, .bool (y78 != y365))]) (by exact ⟨congrArg some hv1061, congrArg some hv1063, trivial⟩) ?_
                            refine o_pickF rfl h90 rfl ?_
                            exact s_pred fun _ _ _ hE hI => ⟨(.bool (y78 != y365)), [], _, fun _ e => (by cases e; exact hE _ _ rfl), .refl _, by exact hI, ⟨rfl, rfl⟩⟩
                          refine dcons ?_ ?_
                          · intro _ _ H1067 fr1068 hle1069 hd1070
                            obtain ⟨hv1072, hg1073⟩ := hd1070 8 (by decide)
                            refine ⟨_, some (), rfl, fun _ => ?_⟩
                            refine s_env (env' := [(69, .bool (y78 != y365))]) (by exact ⟨congrArg some hv1072, trivial⟩) ?_
                            refine o_mov rfl ?_
                            exact s_pred fun _ _ _ hE hI => ⟨(.bool (y78 != y365)), [], _, fun _ e => (by cases e; exact hE _ _ rfl), .refl _, by exact hI, ⟨rfl, rfl⟩⟩
                          refine dcons ?_ ?_
                          · intro _ _ H1076 fr1077 hle1078 hd1079
                            obtain ⟨hv1081, hg1082⟩ := hd1079 9 (by decide)
                            refine ⟨_, some (), rfl, fun _ => ?_⟩
                            refine s_env (env' := [(70, .bool (y78 != y365)), (7, .int .i64 s46.2)]) (by exact ⟨congrArg some hv1081, rfl, trivial⟩) ?_
                            refine s_want rfl rfl h368 ?_
                            refine o_mov rfl ?_
                            exact s_pred fun _ _ _ hE hI => ⟨(.int .i64 s46.2), [], _, fun _ e => (by cases e; exact hE _ _ rfl), .refl _, by exact hI, ⟨rfl, rfl⟩⟩
                          refine dcons ?_ ?_
                          · intro _ _ H1085 fr1086 hle1087 hd1088
                            obtain ⟨hv1090, hg1091⟩ := hd1088 9 (by decide)
                            obtain ⟨hv1092, hg1093⟩ := hd1088 10 (by decide)
                            refine ⟨_, some (), rfl, fun _ => ?_⟩
                            refine s_env (env' := [(70, .bool (y78 != y365)), (71, .int .i64 s46.2)]) (by exact ⟨congrArg some hv1090, congrArg some hv1092, trivial⟩) ?_
                            refine s_want rfl rfl h368 ?_
                            refine o_gt rfl rfl ?_
                            exact s_pred fun _ _ _ hE hI => ⟨(.bool (decide (s46.2 > 1))), [], _, fun _ e => (by cases e; exact hE _ _ rfl), .refl _, by exact hI, ⟨rfl, rfl⟩⟩
                          refine dcons ?_ ?_
                          · intro _ _ H1096 fr1097 hle1098 hd1099
                            obtain ⟨hv1101, hg1102⟩ := hd1099 9 (by decide)
                            obtain ⟨hv1103, hg1104⟩ := hd1099 11 (by decide)
                            refine ⟨_, some (), rfl, fun _ => ?_⟩
                            refine s_env (env' := [(70, .bool (y78 != y365)), (72, .bool (decide (s46.2 > 1)))]) (by exact ⟨congrArg some hv1101, congrArg some hv1103, trivial⟩) ?_
                            refine s_want rfl rfl h368 ?_
                            refine o_mov rfl ?_
                            exact s_pred fun _ _ _ hE hI => ⟨(.bool (decide (s46.2 > 1))), [], _, fun _ e => (by cases e; exact hE _ _ rfl), .refl _, by exact hI, ⟨rfl, rfl⟩⟩
                          refine dcons ?_ ?_
                          · intro _ _ H1107 fr1108 hle1109 hd1110
                            have hA1112 := All2.mono (fun _ _ => GoT.mono hle1109) hA65
                            obtain ⟨hv1113, hg1114⟩ := hd1110 12 (by decide)
                            refine ⟨_, some (), rfl, fun _ => ?_⟩
                            refine s_env (env' := [(73, .bool (decide (s46.2 > 1))), (3, .slice a47 s46.1.length c48)]) (by exact ⟨congrArg some hv1113, rfl, trivial⟩) ?_
                            refine s_unwant rfl rfl h646 ?_
                            exact s_pred fun _ _ _ hE hI => ⟨undef, [], _, fun _ e => (by cases e; exact hE _ _ rfl), .refl _, by exact hI, ⟨rfl, rfl⟩⟩
                          refine dcons ?_ ?_
                          · intro _ _ H1117 fr1118 hle1119 hd1120
                            obtain ⟨hv1122, hg1123⟩ := hd1120 12 (by decide)
                            refine ⟨_, some (), rfl, fun _ => ?_⟩
                            refine s_env (env' := [(73, .bool (decide (s46.2 > 1))), (7, .int .i64 s46.2)]) (by exact ⟨congrArg some hv1122, rfl, trivial⟩) ?_
                            refine s_unwant rfl rfl h646 ?_
                            exact s_pred fun _ _ _ hE hI => ⟨undef, [], _, fun _ e => (by cases e; exact hE _ _ rfl), .refl _, by exact hI, ⟨rfl, rfl⟩⟩
                          refine dcons ?_ ?_
                          · intro _ _ H1126 fr1127 hle1128 hd1129
                            obtain ⟨hv1131, hg1132⟩ := hd1129 12 (by decide)
                            obtain ⟨hv1133, hg1134⟩ := hd1129 13 (by decide)
                            obtain ⟨hv1135, hg1136⟩ := hd1129 14 (by decide)
                            refine ⟨_, some (), rfl, fun _ => ?_⟩
                            refine s_env (env' := [(73, .bool (decide (s46.2 > 1))), (74, undef), (75, undef)]) (by exact ⟨congrArg some hv1131, congrArg some hv1133, congrArg some hv1135, trivial⟩) ?_
                            refine s_unwant rfl rfl h646 ?_
                            exact s_pred fun _ _ _ hE hI => ⟨undef, [], _, fun _ e => (by cases e; exact hE _ _ rfl), .refl _, by exact hI, ⟨rfl, rfl⟩⟩
                          refine dcons ?_ ?_
                          · intro _ _ H1139 fr1140 hle1141 hd1142
                            obtain ⟨hv1144, hg1145⟩ := hd1142 12 (by decide)
                            obtain ⟨hv1146, hg1147⟩ := hd1142 15 (by decide)
                            refine ⟨_, some (), rfl, fun _ => ?_⟩
                            refine s_env (env' := [(73, .bool (decide (s46.2 > 1))), (76, undef)]) (by exact ⟨congrArg some hv1144, congrArg some hv1146, trivial⟩) ?_
                            refine s_unwant rfl rfl h646 ?_
                            exact s_pred fun _ _ _ hE hI => ⟨undef, [], _, fun _ e => (by cases e; exact hE _ _ rfl), .refl _, by exact hI, ⟨rfl, rfl⟩⟩
                          refine dcons ?_ ?_
                          · intro _ _ H1150 fr1151 hle1152 hd1153
                            have hA1155 := All2.mono (fun _ _ => GoT.mono hle1152) hA66
                            obtain ⟨hv1156, hg1157⟩ := hd1153 12 (by decide)
                            refine ⟨_, some (), rfl, fun _ => ?_⟩
                            refine s_env (env' := [(73, .bool (decide (s46.2 > 1))), (8, .slice a59 y57.1.length c60)]) (by exact ⟨congrArg some hv1156, rfl, trivial⟩) ?_
                            refine s_unwant rfl rfl h646 ?_
                            exact s_pred fun _ _ _ hE hI => ⟨undef, [], _, fun _ e => (by cases e; exact hE _ _ rfl), .refl _, by exact hI, ⟨rfl, rfl⟩⟩
                          refine dcons ?_ ?_
                          · intro _ _ H1160 fr1161 hle1162 hd1163
                            obtain ⟨hv1165, hg1166⟩ := hd1163 12 (by decide)
                            refine ⟨_, some (), rfl, fun _ => ?_⟩
                            refine s_env (env' := [(73, .bool (decide (s46.2 > 1))), (10, .int .i64 y78)]) (by exact ⟨congrArg some hv1165, rfl, trivial⟩) ?_
                            refine s_unwant rfl rfl h646 ?_
                            exact s_pred fun _ _ _ hE hI => ⟨undef, [], _, fun _ e => (by cases e; exact hE _ _ rfl), .refl _, by exact hI, ⟨rfl, rfl⟩⟩
                          refine dcons ?_ ?_
                          · intro _ _ H1169 fr1170 hle1171 hd1172
                            obtain ⟨hv1174, hg1175⟩ := hd1172 12 (by decide)
                            obtain ⟨hv1176, hg1177⟩ := hd1172 18 (by decide)
                            refine ⟨_, some (), rfl, fun _ => ?_⟩
                            refine s_env (env' := [(73, .bool (decide (s46.2 > 1))), (79, undef)]) (by exact ⟨congrArg some hv1174, congrArg some hv1176, trivial⟩) ?_
                            refine s_unwant rfl rfl h646 ?_
                            exact s_pred fun _ _ _ hE hI => ⟨undef, [], _, fun _ e => (by cases e; exact hE _ _ rfl), .refl _, by exact hI, ⟨rfl, rfl⟩⟩
                          refine dcons ?_ ?_
                          · intro _ _ H1180 fr1181 hle1182 hd1183
                            obtain ⟨hv1185, hg1186⟩ := hd1183 12 (by decide)
                            obtain ⟨hv1187, hg1188⟩ := hd1183 17 (by decide)
                            obtain ⟨hv1189, hg1190⟩ := hd1183 19 (by decide)
                            refine ⟨_, some (), rfl, fun _ => ?_⟩
                            refine s_env (env' := [(73, .bool (decide (s46.2 > 1))), (78, undef), (80, undef)]) (by exact ⟨congrArg some hv1185, congrArg some hv1187, congrArg some hv1189, trivial⟩) ?_
                            refine s_unwant rfl rfl h646 ?_
                            exact s_pred fun _ _ _ hE hI => ⟨undef, [], _, fun _ e => (by cases e; exact hE _ _ rfl), .refl _, by exact hI, ⟨rfl, rfl⟩⟩
                          refine dcons ?_ ?_
                          · intro _ _ H1193 fr1194 hle1195 hd1196
                            obtain ⟨hv1198, hg1199⟩ := hd1196 12 (by decide)
                            obtain ⟨hv1200, hg1201⟩ := hd1196 20 (by decide)
                            refine ⟨_, some (), rfl, fun _ => ?_⟩
                            refine s_env (env' := [(73, .bool (decide (s46.2 > 1))), (81, undef)]) (by exact ⟨congrArg some hv1198, congrArg some hv1200, trivial⟩) ?_
                            refine s_unwant rfl rfl h646 ?_
                            exact s_pred fun _ _ _ hE hI => ⟨undef, [], _, fun _ e => (by cases e; exact hE _ _ rfl), .refl _, by exact hI, ⟨rfl, rfl⟩⟩
                          refine dcons ?_ ?_
                          · intro _ _ H1204 fr1205 hle1206 hd1207
                            obtain ⟨hv1209, hg1210⟩ := hd1207 12 (by decide)
                            obtain ⟨hv1211, hg1212⟩ := hd1207 16 (by decide)
                            obtain ⟨hv1213, hg1214⟩ := hd1207 21 (by decide)
                            refine ⟨_, some (), rfl, fun _ => ?_⟩
                            refine s_env (env' := [(73, .bool (decide (s46.2 > 1))), (77, undef), (82, undef)]) (by exact ⟨congrArg some hv1209, congrArg some hv1211, congrArg some hv1213, trivial⟩) ?_
                            refine s_unwant rfl rfl h646 ?_
                            exact s_pred fun _ _ _ hE hI => ⟨undef, [], _, fun _ e => (by cases e; exact hE _ _ rfl), .refl _, by exact hI, ⟨rfl, rfl⟩⟩
                          refine dcons ?_ ?_
                          · intro _ _ H1217 fr1218 hle1219 hd1220
                            obtain ⟨hv1222, hg1223⟩ := hd1220 9 (by decide)
                            obtain ⟨hv1224, hg1225⟩ := hd1220 12 (by decide)
                            obtain ⟨hv1226, hg1227⟩ := hd1220 22 (by decide)
                            refine ⟨_, some (), rfl, fun _ => ?_⟩
                            refine s_env (env' := [(70, .bool (y78 != y365)), (73, .bool (decide (s46.2 > 1))), (83, undef)]) (by exact ⟨congrArg some hv1222, congrArg some hv1224, congrArg some hv1226, trivial⟩) ?_
                            refine s_want rfl rfl h368 ?_
                            refine o_pickF rfl h646 rfl ?_
                            exact s_pred fun _ _ _ hE hI => ⟨(.bool false), [], _, fun _ e => (by cases e; exact hE _ _ rfl), .refl _, by exact hI, ⟨rfl, rfl⟩⟩
                          refine dcons ?_ ?_
                          · intro _ _ H1230 fr1231 hle1232 hd1233
                            obtain ⟨hv1235, hg1236⟩ := hd1233 9 (by decide)
                            obtain ⟨hv1237, hg1238⟩ := hd1233 23 (by decide)
                            refine ⟨_, some (), rfl, fun _ => ?_⟩
                            refine s_env (env' := [(70, .bool (y78 != y365)), (84, .bool false)]) (by exact ⟨congrArg some hv1235, congrArg some hv1237, trivial⟩) ?_
                            refine o_pickF rfl h368 rfl ?_
                            exact s_pred fun _ _ _ hE hI => ⟨(.bool false), [], _, fun _ e => (by cases e; exact hE _ _ rfl), .refl _, by exact hI, ⟨rfl, rfl⟩⟩
                          exact dnil
                        · intro V1241 G1242 H1239 hle1240 hF1243
                          have hs1244 := RSl.mono hle1240 hs64
                          have hA1245 := All2.mono (fun _ _ => GoT.mono hle1240) hA65
                          have hA1246 := All2.mono (fun _ _ => GoT.mono hle1240) hA66
                          obtain ⟨hv1247, hg1248⟩ := hF1243 24 (show 24 < 25 by decide)
                          refine s_env (env' := [(85, .bool false), (0, .slice a6 y4.length c7), (3, .slice a47 s46.1.length c48), (7, .int .i64 s46.2), (36, .int .i64 s46.2), (37, .bool (decide (s46.2 < 7))), (41, .slice a6 y4.length c7), (42, .int .i64 s46.2), (44, .slice a59 y57.1.length c60), (45, .bool y57.2), (8, .slice a59 y57.1.length c60), (9, .bool y57.2), (46, .bool y57.2), (47, .bool (!y57.2)), (57, .slice a6 y4.length c7), (58, .slice a59 y57.1.length c60), (59, .int .i64 s46.2), (60, .int .i64 y78), (10, .int .i64 y78)]) (by exact ⟨congrArg some hv1247, rfl, rfl, rfl, rfl, rfl, rfl, rfl, rfl, rfl, rfl, rfl, rfl, rfl, rfl, rfl, rfl, rfl, rfl, trivial⟩) ?_
                          refine s_own (List.sublist_append_left _ _) ?_
                          refine s_done ?_
                          exact s_env (by exact ⟨rfl, rfl, rfl, rfl, trivial⟩) (s_own (by exact (.cons_cons _ (.cons _ .slnil))) (J89 (s46.1, false) _ _ _ ⟨_, _, _, rfl, rfl, hle1240, hA1245⟩))
            · refine s_exit rfl ?_
              exact s_env (by exact trivial) (s_own (by exact (.cons _ .slnil)) (J45 () _ _ _ ⟨rfl, rfl, hle54⟩))
    · intro J1249
      refine o_mov rfl ?_
      refine o_ne rfl rfl ?_
      refine o_mov rfl ?_
      refine s_case (y12.2 != 0) (fun h1250 => ?_) (fun h1250 => ?_)
      · refine s_unwant rfl rfl h1250 ?_
        refine s_unwant rfl rfl h1250 ?_
        refine s_unwant rfl rfl h1250 ?_
        refine o_pickT rfl h1250 rfl ?_
        exact s_env (by exact ⟨rfl, rfl, lkb rfl (by first | simp only [h1250, Bool.true_and, Bool.and_true, Bool.false_and, Bool.and_false, Bool.true_or, Bool.false_or, Bool.or_true, Bool.or_false, Bool.not_true, Bool.not_false] | simp [h1250]), trivial⟩) (s_own (by exact (.cons_cons _ .slnil)) J1249)
      · refine s_want rfl rfl h1250 ?_
        refine o_mov rfl ?_
        refine s_want rfl rfl h1250 ?_
        refine o_lenS rfl ?_
        refine s_want rfl rfl h1250 ?_
        refine o_ne rfl rfl ?_
        refine o_pickF rfl h1250 rfl ?_
        exact s_env (by exact ⟨rfl, rfl, lkb rfl (by first | simp only [h1250, Bool.true_and, Bool.and_true, Bool.false_and, Bool.and_false, Bool.true_or, Bool.false_or, Bool.or_true, Bool.or_false, Bool.not_true, Bool.not_false] | simp [h1250]), trivial⟩) (s_own (by exact (.cons_cons _ .slnil)) J1249)
end Go.Cat.G3
