/- A text of the proof of the seat's laws: a step logic over the machine, or pure functions that the Go functions come to. No condition. -/
import Derived.Test.YtmmpieknnnlnhaaT2b

namespace Go.Cat.G3
open Go Go.Cat Go.Proofs
set_option linter.unusedVariables false
set_option linter.unusedSimpArgs false

instance : TFun Try.prog 38 := ⟨_, (by kernel_rfl : Try.prog.funcs[38]? = some Try.f38), by decide, rfl⟩
instance : TFun Try.prog 42 := ⟨_, (by kernel_rfl : Try.prog.funcs[42]? = some Try.f42), by decide, rfl⟩
instance : TFun Try.prog 43 := ⟨_, (by kernel_rfl : Try.prog.funcs[43]? = some Try.f43), by decide, rfl⟩

/-! catenary/catenarylaw20.TreeFinds -/
def catenarylaw20_TreeFinds_l0 (k : Nat) (x1 : Int) (y3 : (List Link)) : Nat → Int → Option (LX (Bool) (Unit))
  | 0, _ => none
  | q39 + 1, s38 =>
    if (decide (s38 < 8)) = true then
      (if (decide (s38 > 0)) = true then
          some (w64 (s38 - 1))
        else
          some x1).bind fun p45 =>
      (tree_First k y3 p45).bind fun y49 =>
      (catenaryref20_First k y3 p45).bind fun y58 =>
      (tree_Second k y3 p45).bind fun y68 =>
      (catenaryref20_Second k y3 p45).bind fun y79 =>
      ((catenaryref20_Same k y49.1 y58.1).bind fun y97 =>
        if (!y97) = true then
          some true
        else
          if (y49.2 != y58.2) = true then
            some true
          else
            (catenaryref20_Same k y68.1 y79.1).bind fun y101 =>
            if (!y101) = true then
              some true
            else
              some (y68.2 != y79.2)).bind fun p91 =>
      if (p91) = true then
        some (.ret false)
      else
        catenarylaw20_TreeFinds_l0 k x1 y3 q39 (w64 (s38 + 1))
    else
      some (.out ())
def catenarylaw20_TreeFinds (k : Nat) (x0 : (List Link)) (x1 : Int) : Option Bool :=
  (slc x0 0 (imin (x0.length : Int) 30)).bind fun y3 =>
  (tree_Tree k y3).bind fun y6 =>
  (catenaryref20_Tree k y3).bind fun y16 =>
  ((catenaryref20_Same k y6.1 y16.1).bind fun y107 =>
    if (!y107) = true then
      some true
    else
      some (y6.2 != y16.2)).bind fun p27 =>
  if (p27) = true then
    some false
  else
    (catenarylaw20_TreeFinds_l0 k x1 y3 k 0).bind (LX.go fun p32 =>
    (catenarylaw20_works k).bind fun y35 =>
    some y35)
theorem fn_9 : Try.prog.funcs[9]? = some Try.f9 := by kernel_rfl
set_option maxRecDepth 100000 in
set_option maxHeartbeats 4000000 in
theorem catenarylaw20_TreeFinds_ok (k : Nat) (H : Heap) (x0 : (List Link)) (a0_0 : Option Addr) (c0_0 : Nat) (hx0_0 : RSl H a0_0 c0_0 x0) (x1 : Int) {r : Bool} (hr : catenarylaw20_TreeFinds k x0 x1 = some r) :
    Fn Try.prog 9 [.slice a0_0 x0.length c0_0, .int .i64 x1] H [] fun H' v out => v = .bool r ∧ out = [] := by
  refine fn_of_sim (args := [.slice a0_0 x0.length c0_0, .int .i64 x1]) (n := 97) (Φ := fun r H' v out => v = .bool r ∧ out = []) hr fn_9 rfl rfl rfl fun w => ?_
  refine s_eq (by rw [catenarylaw20_TreeFinds]) ?_
  refine s_seq ?_
  refine s_region ?_
  refine o_asg rfl ?_
  refine s_done ?_
  refine s_seq ?_
  refine s_region ?_
  refine o_mov rfl ?_
  refine o_mov rfl ?_
  refine o_lenS rfl ?_
  refine o_min rfl rfl ?_
  refine o_sl hx0_0 rfl rfl ⟨_, rfl⟩ fun a1 c2 y3 h4 hs5 => ?_
  refine o_asg rfl ?_
  refine s_done ?_
  refine s_seq ?_
  refine s_region ?_
  refine o_mov rfl ?_
  refine s_bg fun y6 h7 => ?_
  refine s_call [] _ rfl rfl (.refl _) (tree_Tree_ok k _ y3 _ _ hs5 h7) ?_
  rintro _ H11 _ hle12 ⟨a8, c9, rfl, rfl⟩
  have hs13 := RSl.mono hle12 hs5
  have hs14 := RSl.mono hle12 hx0_0
  have hA15 : All2 (GoT.rep H11) (y6.1.map GoE.enc) y6.1 := all2_enc _
  refine o_mov rfl ?_
  refine o_ext rfl rfl ?_
  refine o_ext rfl rfl ?_
  refine o_asg rfl ?_
  refine o_asg rfl ?_
  refine s_done ?_
  refine s_seq ?_
  refine s_region ?_
  refine o_mov rfl ?_
  refine s_bg fun y16 h17 => ?_
  refine s_call [] _ rfl rfl (.refl _) (catenaryref20_Tree_ok k _ y3 _ _ hs13 h17) ?_
  rintro _ H21 _ hle22 ⟨a18, c19, rfl, rfl⟩
  have hs23 := RSl.mono hle22 hs13
  have hs24 := RSl.mono hle22 hs14
  have hA25 := All2.mono (fun _ _ => GoT.mono hle22) hA15
  have hA26 : All2 (GoT.rep H21) (y16.1.map GoE.enc) y16.1 := all2_enc _
  refine o_mov rfl ?_
  refine o_ext rfl rfl ?_
  refine o_ext rfl rfl ?_
  refine o_asg rfl ?_
  refine o_asg rfl ?_
  refine s_done ?_
  refine s_seq ?_
  refine s_seq ?_
  refine s_region ?_
  refine s_joinR (fun p27 env own H' => env = [(0, .slice a1 y3.length c2), (1, .int .i64 x1), (42, .bool p27)] ∧ own = [] ∧ Hle H21 H') ?_ ?_
  · rintro p27 _ _ H28 ⟨rfl, rfl, hle29⟩
    have hs30 := RSl.mono hle29 hs23
    refine s_cond rfl (fun h31 => ?_) (fun h31 => ?_)
    · refine s_seq ?_
      refine s_region ?_
      refine o_asg rfl ?_
      refine s_done ?_
      exact s_retv (xs := [.tmp 4]) (vs := [.bool false]) [] fn_9 rfl ⟨rv_tmp rfl, trivial⟩ .slnil ⟨rfl, rfl⟩
    · refine s_skip ?_
      refine s_seq ?_
      refine s_seq ?_
      refine s_region ?_
      refine o_asg rfl ?_
      refine s_done ?_
      refine s_joinL (fun p32 env own H' => env = [] ∧ own = [] ∧ Hle H28 H') ?_ ?_
      · rintro p32 _ _ H33 ⟨rfl, rfl, hle34⟩
        refine s_seq ?_
        refine s_region ?_
        refine s_bg fun y35 h36 => ?_
        refine s_callF rfl rfl (catenarylaw20_works_ok k _ h36) ?_
        refine o_asg rfl ?_
        refine s_done ?_
        exact s_retv (xs := [.tmp 4]) (vs := [.bool y35]) [] fn_9 rfl ⟨rv_tmp rfl, trivial⟩ .slnil ⟨rfl, rfl⟩
      · intro J37
        refine s_block ?_
        refine s_env (env' := [(0, .slice a1 y3.length c2), (1, .int .i64 x1), (9, .int .i64 0)]) (by exact ⟨rfl, rfl, rfl, trivial⟩) ?_
        refine s_own (own' := []) .slnil ?_
        refine s_loopn (fun q s38 => catenarylaw20_TreeFinds_l0 k x1 y3 q s38) (fun s38 env own H' => env = [(0, .slice a1 y3.length c2), (1, .int .i64 x1), (9, .int .i64 s38)] ∧ own = [] ∧ Hle H28 H') (fun _ => rfl) ?_ k 0 ⟨rfl, rfl, .refl _⟩
        rintro q39 ih40 s38 _ _ H41 ⟨rfl, rfl, hle42⟩
        refine s_eq (by rw [catenarylaw20_TreeFinds_l0]) ?_
        have hs43 := RSl.mono hle42 hs30
        refine s_seq ?_
        refine s_seq ?_
        refine s_region ?_
        refine o_mov rfl ?_
        refine o_lt rfl rfl ?_
        refine s_done ?_
        refine s_cond rfl (fun h44 => ?_) (fun h44 => ?_)
        · refine s_skip ?_
          refine s_seq ?_
          refine s_block ?_
          refine s_seq ?_
          refine s_region ?_
          refine o_mov rfl ?_
          refine o_asg rfl ?_
          refine s_done ?_
          refine s_seq ?_
          refine s_seq ?_
          refine s_region ?_
          refine o_mov rfl ?_
          refine o_gt rfl rfl ?_
          refine s_done ?_
          refine s_join (fun p45 env own H' => env = [(0, .slice a1 y3.length c2), (1, .int .i64 x1), (9, .int .i64 s38), (10, .int .i64 p45)] ∧ own = [] ∧ Hle H41 H') ?_ ?_
          · rintro p45 _ _ H46 ⟨rfl, rfl, hle47⟩
            have hs48 := RSl.mono hle47 hs43
            refine s_seq ?_
            refine s_region ?_
            refine o_mov rfl ?_
            refine o_mov rfl ?_
            refine s_bg fun y49 h50 => ?_
            refine s_call [] _ rfl rfl (.refl _) (tree_First_ok k _ y3 _ _ hs48 p45 h50) ?_
            rintro _ H54 _ hle55 ⟨a51, c52, rfl, rfl⟩
            have hs56 := RSl.mono hle55 hs48
            have hA57 : All2 (GoT.rep H54) (y49.1.map GoE.enc) y49.1 := all2_enc _
            refine o_mov rfl ?_
            refine o_ext rfl rfl ?_
            refine o_ext rfl rfl ?_
            refine o_asg rfl ?_
            refine o_asg rfl ?_
            refine s_done ?_
            refine s_seq ?_
            refine s_region ?_
            refine o_mov rfl ?_
            refine o_mov rfl ?_
            refine s_bg fun y58 h59 => ?_
            refine s_call [] _ rfl rfl (.refl _) (catenaryref20_First_ok k _ y3 _ _ hs56 p45 h59) ?_
            rintro _ H63 _ hle64 ⟨a60, c61, rfl, rfl⟩
            have hs65 := RSl.mono hle64 hs56
            have hA66 := All2.mono (fun _ _ => GoT.mono hle64) hA57
            have hA67 : All2 (GoT.rep H63) (y58.1.map GoE.enc) y58.1 := all2_enc _
            refine o_mov rfl ?_
            refine o_ext rfl rfl ?_
            refine o_ext rfl rfl ?_
            refine o_asg rfl ?_
            refine o_asg rfl ?_
            refine s_done ?_
            refine s_seq ?_
            refine s_region ?_
            refine o_mov rfl ?_
            refine o_mov rfl ?_
            refine s_bg fun y68 h69 => ?_
            refine s_call [] _ rfl rfl (.refl _) (tree_Second_ok k _ y3 _ _ hs65 p45 h69) ?_
            rintro _ H73 _ hle74 ⟨a70, c71, rfl, rfl⟩
            have hs75 := RSl.mono hle74 hs65
            have hA76 := All2.mono (fun _ _ => GoT.mono hle74) hA66
            have hA77 := All2.mono (fun _ _ => GoT.mono hle74) hA67
            have hA78 : All2 (GoT.rep H73) (y68.1.map GoE.enc) y68.1 := all2_enc _
            refine o_mov rfl ?_
            refine o_ext rfl rfl ?_
            refine o_ext rfl rfl ?_
            refine o_asg rfl ?_
            refine o_asg rfl ?_
            refine s_done ?_
            refine s_seq ?_
            refine s_region ?_
            refine o_mov rfl ?_
            refine o_mov rfl ?_
            refine s_bg fun y79 h80 => ?_
            refine s_call [] _ rfl rfl (.refl _) (catenaryref20_Second_ok k _ y3 _ _ hs75 p45 h80) ?_
            rintro _ H84 _ hle85 ⟨a81, c82, rfl, rfl⟩
            have hs86 := RSl.mono hle85 hs75
            have hA87 := All2.mono (fun _ _ => GoT.mono hle85) hA76
            have hA88 := All2.mono (fun _ _ => GoT.mono hle85) hA77
            have hA89 := All2.mono (fun _ _ => GoT.mono hle85) hA78
            have hA90 : All2 (GoT.rep H84) (y79.1.map GoE.enc) y79.1 := all2_enc _
            refine o_mov rfl ?_
            refine o_ext rfl rfl ?_
            refine o_ext rfl rfl ?_
            refine o_asg rfl ?_
            refine o_asg rfl ?_
            refine s_done ?_
            refine s_seq ?_
            refine s_region ?_
            refine s_joinR (fun p91 env own H' => env = [(0, .slice a1 y3.length c2), (1, .int .i64 x1), (9, .int .i64 s38), (95, .bool p91)] ∧ own = [] ∧ Hle H84 H') ?_ ?_
            · rintro p91 _ _ H92 ⟨rfl, rfl, hle93⟩
              have hs94 := RSl.mono hle93 hs86
              refine s_cond rfl (fun h95 => ?_) (fun h95 => ?_)
              · refine s_seq ?_
                refine s_region ?_
                refine o_asg rfl ?_
                refine s_done ?_
                refine s_lret ?_
                exact s_retv (xs := [.tmp 4]) (vs := [.bool false]) [] fn_9 rfl ⟨rv_tmp rfl, trivial⟩ .slnil ⟨rfl, rfl⟩
              · refine s_skip ?_
                refine s_inBlock ?_
                refine s_region ?_
                refine o_mov rfl ?_
                refine o_add rfl rfl ?_
                refine o_asg rfl ?_
                refine s_done ?_
                exact s_env (by exact ⟨rfl, rfl, rfl, trivial⟩) (s_own (by exact .slnil) (ih40 (w64 (s38 + 1)) _ _ _ ⟨rfl, rfl, (Hle.trans (Hle.trans (Hle.trans (Hle.trans (Hle.trans (Hle.trans hle42 hle47) hle55) hle64) hle74) hle85) hle93)⟩))
            · intro J96
              refine o_mov rfl ?_
              refine o_mov rfl ?_
              refine s_bg fun y97 h98 => ?_
              refine s_callL (Φ := fun v out => v = _ ∧ out = []) [] _ rfl rfl (.refl _) (fun H' hle hl => catenaryref20_Same_ok k _ y49.1 _ _ (lent_rsl (hl _ (List.mem_of_getElem? (i := 0) rfl)) hA87 hle).2 y58.1 _ _ (lent_rsl (hl _ (List.mem_of_getElem? (i := 1) rfl)) hA88 hle).2 h98) ?_
              rintro _ _ ⟨rfl, rfl⟩
              refine s_ownN ?_
              refine o_not rfl ?_
              refine o_mov rfl ?_
              refine s_split (!y97) (fun h99 => ?_) (fun h99 => ?_)
              · refine s_unwant rfl rfl h99 ?_
                refine s_unwant rfl rfl h99 ?_
                refine s_unwant rfl rfl h99 ?_
                refine o_pickT rfl h99 rfl ?_
                refine o_mov rfl ?_
                refine s_unwant rfl rfl rfl ?_
                refine s_unwant rfl rfl rfl ?_
                refine s_unwant rfl rfl rfl ?_
                refine s_unwant rfl rfl rfl ?_
                refine o_pickT rfl rfl rfl ?_
                refine o_mov rfl ?_
                refine s_unwant rfl rfl rfl ?_
                refine s_unwant rfl rfl rfl ?_
                refine s_unwant rfl rfl rfl ?_
                refine o_pickT rfl rfl rfl ?_
                exact s_env (by exact ⟨rfl, rfl, rfl, rfl, trivial⟩) (s_own (by exact (.cons _ (.cons _ (.cons _ (.cons _ .slnil))))) (J96 true _ _ _ ⟨rfl, rfl, .refl _⟩))
              · refine s_want rfl rfl h99 ?_
                refine o_mov rfl ?_
                refine s_want rfl rfl h99 ?_
                refine o_mov rfl ?_
                refine s_want rfl rfl h99 ?_
                refine o_neb rfl rfl ?_
                refine o_pickF rfl h99 rfl ?_
                refine o_mov rfl ?_
                refine s_split (y49.2 != y58.2) (fun h100 => ?_) (fun h100 => ?_)
                · refine s_unwant rfl rfl h100 ?_
                  refine s_unwant rfl rfl h100 ?_
                  refine s_unwant rfl rfl h100 ?_
                  refine s_unwant rfl rfl h100 ?_
                  refine o_pickT rfl h100 rfl ?_
                  refine o_mov rfl ?_
                  refine s_unwant rfl rfl rfl ?_
                  refine s_unwant rfl rfl rfl ?_
                  refine s_unwant rfl rfl rfl ?_
                  refine o_pickT rfl rfl rfl ?_
                  exact s_env (by exact ⟨rfl, rfl, rfl, rfl, trivial⟩) (s_own (by exact (.cons _ (.cons _ (.cons _ (.cons _ .slnil))))) (J96 true _ _ _ ⟨rfl, rfl, .refl _⟩))
                · refine s_want rfl rfl h100 ?_
                  refine o_mov rfl ?_
                  refine s_want rfl rfl h100 ?_
                  refine o_mov rfl ?_
                  refine s_want rfl rfl h100 ?_
                  refine s_bg fun y101 h102 => ?_
                  refine s_callL (Φ := fun v out => v = _ ∧ out = []) [] _ rfl rfl (.refl _) (fun H' hle hl => catenaryref20_Same_ok k _ y68.1 _ _ (lent_rsl (hl _ (List.mem_of_getElem? (i := 2) rfl)) hA89 hle).2 y79.1 _ _ (lent_rsl (hl _ (List.mem_of_getElem? (i := 3) rfl)) hA90 hle).2 h102) ?_
                  rintro _ _ ⟨rfl, rfl⟩
                  refine s_ownN ?_
                  refine s_want rfl rfl h100 ?_
                  refine o_not rfl ?_
                  refine o_pickF rfl h100 rfl ?_
                  refine o_mov rfl ?_
                  refine s_split (!y101) (fun h103 => ?_) (fun h103 => ?_)
                  · refine s_unwant rfl rfl h103 ?_
                    refine s_unwant rfl rfl h103 ?_
                    refine s_unwant rfl rfl h103 ?_
                    refine o_pickT rfl h103 rfl ?_
                    exact s_env (by exact ⟨rfl, rfl, rfl, rfl, trivial⟩) (s_own (by exact (.cons _ (.cons _ (.cons _ (.cons _ .slnil))))) (J96 true _ _ _ ⟨rfl, rfl, .refl _⟩))
                  · refine s_want rfl rfl h103 ?_
                    refine o_mov rfl ?_
                    refine s_want rfl rfl h103 ?_
                    refine o_mov rfl ?_
                    refine s_want rfl rfl h103 ?_
                    refine o_neb rfl rfl ?_
                    refine o_pickF rfl h103 rfl ?_
                    exact s_env (by exact ⟨rfl, rfl, rfl, rfl, trivial⟩) (s_own (by exact (.cons _ (.cons _ (.cons _ (.cons _ .slnil))))) (J96 (y68.2 != y79.2) _ _ _ ⟨rfl, rfl, .refl _⟩))
          · intro J104
            refine s_cond rfl (fun h105 => ?_) (fun h105 => ?_)
            · refine s_region ?_
              refine o_mov rfl ?_
              refine o_sub rfl rfl ?_
              refine o_asg rfl ?_
              refine s_done ?_
              exact s_env (by exact ⟨rfl, rfl, rfl, rfl, trivial⟩) (s_own (by exact .slnil) (J104 (w64 (s38 - 1)) _ _ _ ⟨rfl, rfl, .refl _⟩))
            · refine s_skip ?_
              exact s_env (by exact ⟨rfl, rfl, rfl, rfl, trivial⟩) (s_own (by exact .slnil) (J104 x1 _ _ _ ⟨rfl, rfl, .refl _⟩))
        · refine s_exit rfl ?_
          exact s_env (by exact trivial) (s_own (by exact .slnil) (J37 () _ _ _ ⟨rfl, rfl, hle42⟩))
  · intro J106
    refine o_mov rfl ?_
    refine o_mov rfl ?_
    refine s_bg fun y107 h108 => ?_
    refine s_callL (Φ := fun v out => v = _ ∧ out = []) [] _ rfl rfl (.refl _) (fun H' hle hl => catenaryref20_Same_ok k _ y6.1 _ _ (lent_rsl (hl _ (List.mem_of_getElem? (i := 0) rfl)) hA25 hle).2 y16.1 _ _ (lent_rsl (hl _ (List.mem_of_getElem? (i := 1) rfl)) hA26 hle).2 h108) ?_
    rintro _ _ ⟨rfl, rfl⟩
    refine s_ownN ?_
    refine o_not rfl ?_
    refine o_mov rfl ?_
    refine s_split (!y107) (fun h109 => ?_) (fun h109 => ?_)
    · refine s_unwant rfl rfl h109 ?_
      refine s_unwant rfl rfl h109 ?_
      refine s_unwant rfl rfl h109 ?_
      refine o_pickT rfl h109 rfl ?_
      exact s_env (by exact ⟨rfl, rfl, rfl, trivial⟩) (s_own (by exact (.cons _ (.cons _ .slnil))) (J106 true _ _ _ ⟨rfl, rfl, .refl _⟩))
    · refine s_want rfl rfl h109 ?_
      refine o_mov rfl ?_
      refine s_want rfl rfl h109 ?_
      refine o_mov rfl ?_
      refine s_want rfl rfl h109 ?_
      refine o_ne rfl rfl ?_
      refine o_pickF rfl h109 rfl ?_
      exact s_env (by exact ⟨rfl, rfl, rfl, trivial⟩) (s_own (by exact (.cons _ (.cons _ .slnil))) (J106 (y6.2 != y16.2) _ _ _ ⟨rfl, rfl, .refl _⟩))
end Go.Cat.G3
