/- A text of the proof of the seat's laws: a step logic over the machine, or pure functions that the Go functions come to. No condition. -/
import Derived.Test.YtmmpieknnnlnhaaH10

namespace Go.Cat.G3
open Go Go.Cat Go.Proofs
set_option linter.unusedVariables false
set_option linter.unusedSimpArgs false

instance : TZero Try.prog 128 (.agg #[.bool false, .bool false, .bool false, .bool false, .bool false, .bool false, .bool false]) := ⟨fun _ => by kernel_rfl⟩
instance : TArr Try.prog 128 7 4 1 := ⟨by kernel_rfl, fun _ => by kernel_rfl⟩
instance : TFun Try.prog 37 := ⟨_, (by kernel_rfl : Try.prog.funcs[37]? = some Try.f37), by decide, rfl⟩
instance : TFun Try.prog 40 := ⟨_, (by kernel_rfl : Try.prog.funcs[40]? = some Try.f40), by decide, rfl⟩
instance : TFun Try.prog 72 := ⟨_, (by kernel_rfl : Try.prog.funcs[72]? = some Try.f72), by decide, rfl⟩
instance : TFun Try.prog 79 := ⟨_, (by kernel_rfl : Try.prog.funcs[79]? = some Try.f79), by decide, rfl⟩

/-! catenary/catenaryref20.graph -/
def catenaryref20_graph (k : Nat) (x0 : (List Link)) : Option Graph :=
  some (⟨6, x0⟩ : Graph)
theorem fn_72 : Try.prog.funcs[72]? = some Try.f72 := by kernel_rfl
set_option maxRecDepth 100000 in
set_option maxHeartbeats 4000000 in
theorem catenaryref20_graph_ok (k : Nat) (H : Heap) (x0 : (List Link)) (a0_0 : Option Addr) (c0_0 : Nat) (hx0_0 : RSl H a0_0 c0_0 x0) {r : Graph} (hr : catenaryref20_graph k x0 = some r) :
    Fn Try.prog 72 [.slice a0_0 x0.length c0_0] H [] fun H' v out => ∃ a0_0 c0_0, v = .agg #[.int .i64 r.Switches, .slice a0_0 r.Links.length c0_0] ∧ out = [] ∧ RSl H' a0_0 c0_0 r.Links := by
  refine fn_of_sim (args := [.slice a0_0 x0.length c0_0]) (n := 5) (Φ := fun r H' v out => ∃ a0_0 c0_0, v = .agg #[.int .i64 r.Switches, .slice a0_0 r.Links.length c0_0] ∧ out = [] ∧ RSl H' a0_0 c0_0 r.Links) hr fn_72 rfl rfl rfl fun w => ?_
  refine s_eq (by rw [catenaryref20_graph]) ?_
  refine s_seq ?_
  refine s_region ?_
  refine o_alloc fun b1 => ?_
  refine s_done ?_
  refine s_seq ?_
  refine s_region ?_
  refine o_mov rfl ?_
  refine o_bld rfl rfl ?_
  refine o_st 0 rfl rfl rfl rfl rfl rfl ?_
  refine s_done ?_
  exact s_retv (xs := [.cell 2 24]) (vs := [.agg #[.int .i64 6, .slice a0_0 x0.length c0_0]]) [] fn_72 rfl ⟨rv_cell 0 rfl rfl rfl rfl, trivial⟩ (.cons _ .slnil) ⟨_, _, rfl, rfl, hx0_0⟩

/-! catenary/catenaryref20.Tree -/
def catenaryref20_Tree_l1 (k : Nat) (y1 : Graph) (s31 : (List End) × (List Int) × Int) : Nat → (List End) × (List Int) × Int → Option ((List End) × (List Int))
  | 0, _ => none
  | q68 + 1, s59 =>
    if (decide (s59.2.2 ≤ 4)) = true then
      (rd s59.2.1 s31.2.2).bind fun y74 =>
      (catenaryref12_Peer k y1 (⟨y74, s59.2.2⟩ : End)).bind fun y83 =>
      (if (y83.2.2) = true then
          if (y83.1.Switch != 1) = true then
            (rd s59.1 y83.1.Switch).bind fun y116 =>
            some (s59.1, y116.Port == 0)
          else
            some (s59.1, false)
        else
          some (s59.1, false)).bind fun p87 =>
      if (p87.2) = true then
        (rd p87.1 y83.1.Switch).bind fun y97 =>
        (app s59.2.1 ([y83.1.Switch] : List Int)).bind fun _ =>
        catenaryref20_Tree_l1 k y1 s31 q68 ((p87.1.set (y83.1.Switch : Int).toNat (⟨y74, s59.2.2⟩ : End)), (s59.2.1 ++ ([y83.1.Switch] : List Int)), w64 (s59.2.2 + 1))
      else
        catenaryref20_Tree_l1 k y1 s31 q68 (p87.1, s59.2.1, w64 (s59.2.2 + 1))
    else
      some (s59.1, s59.2.1)
def catenaryref20_Tree_l0 (k : Nat) (y1 : Graph) : Nat → (List End) × (List Int) × Int → Option ((List End))
  | 0, _ => none
  | q40 + 1, s31 =>
    if (decide (s31.2.2 < (s31.2.1.length : Int))) = true then
      (catenaryref20_Tree_l1 k y1 s31 k (s31.1, s31.2.1, 1)).bind fun p46 =>
      catenaryref20_Tree_l0 k y1 q40 (p46.1, p46.2, w64 (s31.2.2 + 1))
    else
      some s31.1
def catenaryref20_Tree (k : Nat) (x0 : (List Link)) : Option ((List End) × Int) :=
  (catenaryref20_graph k x0).bind fun y1 =>
  (catenaryref12_Check k y1).bind fun y11 =>
  if (y11 != 0) = true then
    some (([] : List End), 2)
  else
    (mks 7 ((⟨0, 0⟩ : End) : End)).bind fun _ =>
    (catenaryref20_Tree_l0 k y1 k ((List.replicate (7 : Int).toNat ((⟨0, 0⟩ : End) : End)), ([1] : List Int), 0)).bind fun p23 =>
    some (p23, 0)
theorem fn_37 : Try.prog.funcs[37]? = some Try.f37 := by kernel_rfl
set_option maxRecDepth 100000 in
set_option maxHeartbeats 4000000 in
theorem catenaryref20_Tree_ok (k : Nat) (H : Heap) (x0 : (List Link)) (a0_0 : Option Addr) (c0_0 : Nat) (hx0_0 : RSl H a0_0 c0_0 x0) {r : (List End) × Int} (hr : catenaryref20_Tree k x0 = some r) :
    Fn Try.prog 37 [.slice a0_0 x0.length c0_0] H [] fun H' v out => ∃ a0 c0, v = .tuple #[.slice a0 r.1.length c0, .int .i64 r.2] ∧ out = [.osl (.slice a0 r.1.length c0) 2 26 (r.1.map GoE.enc)] := by
  refine fn_of_sim (args := [.slice a0_0 x0.length c0_0]) (n := 69) (Φ := fun r H' v out => ∃ a0 c0, v = .tuple #[.slice a0 r.1.length c0, .int .i64 r.2] ∧ out = [.osl (.slice a0 r.1.length c0) 2 26 (r.1.map GoE.enc)]) hr fn_37 rfl rfl rfl fun w => ?_
  refine s_eq (by rw [catenaryref20_Tree]) ?_
  refine s_seq ?_
  refine s_region ?_
  refine o_asg rfl ?_
  refine o_asg rfl ?_
  refine s_done ?_
  refine s_seq ?_
  refine s_region ?_
  refine o_mov rfl ?_
  refine s_bg fun y1 h2 => ?_
  refine s_call [] _ rfl rfl (.refl _) (catenaryref20_graph_ok k _ x0 _ _ hx0_0 h2) ?_
  rintro _ H6 _ hle7 ⟨a3, c4, rfl, rfl, hs5⟩
  have hs8 := RSl.mono hle7 hx0_0
  refine s_ownN ?_
  refine o_alloc fun b9 => ?_
  refine o_st 0 rfl rfl rfl rfl rfl rfl ?_
  refine s_done ?_
  refine s_seq ?_
  refine s_seq ?_
  refine s_region ?_
  refine o_ld 0 rfl rfl rfl ?_
  refine s_bg fun y11 h12 => ?_
  refine s_callF rfl rfl (catenaryref12_Check_ok k _ y1 _ _ hs5 h12) ?_
  refine o_ne rfl rfl ?_
  refine s_done ?_
  refine s_cond rfl (fun h13 => ?_) (fun h13 => ?_)
  · refine s_seq ?_
    refine s_region ?_
    refine o_asg rfl ?_
    refine o_asg rfl ?_
    refine s_done ?_
    refine s_nilOc (sz := 2) (t := 26) ?_
    have hA14 : All2 (GoT.rep H6) [] ([] : List End) := all2_nil
    exact s_retv (xs := [.tmp 2, .tmp 3]) (vs := [.slice none ([] : List End).length 0, .int .i64 2]) [.osl (.slice none ([] : List End).length 0) 2 26 []] fn_37 rfl ⟨rv_tmp rfl, rv_tmp rfl, trivial⟩ (.cons _ (.cons_cons _ .slnil)) ⟨_, _, rfl, (congrArg (fun z => [Res.osl _ _ _ z]) (all2_flat hA14))⟩
  · refine s_skip ?_
    refine s_seq ?_
    refine s_region ?_
    refine o_mks (z := ((⟨0, 0⟩ : End) : End)) (zc := [.int .i64 0, .int .i64 0]) rfl rfl (fun _ => ⟨.agg #[.int .i64 0, .int .i64 0], by kernel_rfl, rfl⟩) rfl fun b16 h17 hA18 => ?_
    refine o_asg rfl ?_
    refine s_done ?_
    refine s_seq ?_
    refine s_region ?_
    refine o_bsl (xs := [.const (.int .i64 1)]) rfl rfl (by simp only [List.mem_cons, List.not_mem_nil, or_false, forall_eq_or_imp, forall_eq]; exact ⟨rfl, rfl⟩) rfl rfl fun b20 => ?_
    have hA21 : All2 (GoT.rep H6) [[.int .i64 1]] ([1] : List Int) := all2_enc (([1] : List Int))
    refine o_asg rfl ?_
    refine s_done ?_
    refine s_seq ?_
    refine s_seq ?_
    refine s_region ?_
    refine o_asg rfl ?_
    refine s_done ?_
    refine s_join (fun p23 env own H' => ∃ a24 c25 ls26, env = [(5, .slice a24 p23.length c25)] ∧ own = [.osl (.slice a24 p23.length c25) 2 26 ls26] ∧ Hle H6 H' ∧ All2 (GoT.rep H') ls26 p23) ?_ ?_
    · rintro p23 _ _ H28 ⟨a24, c25, ls26, rfl, rfl, hle29, hA27⟩
      refine s_seq ?_
      refine s_region ?_
      refine o_mov rfl ?_
      refine o_asg rfl ?_
      refine o_asg rfl ?_
      refine s_done ?_
      exact s_retv (xs := [.tmp 2, .tmp 3]) (vs := [.slice a24 p23.length c25, .int .i64 0]) [.osl (.slice a24 p23.length c25) 2 26 ls26] fn_37 rfl ⟨rv_tmp rfl, rv_tmp rfl, trivial⟩ (.cons_cons _ .slnil) ⟨_, _, rfl, (congrArg (fun z => [Res.osl _ _ _ z]) (all2_flat hA27))⟩
    · intro J30
      refine s_block ?_
      refine s_env (env' := [(4, .pointer (some ⟨b9, 0, none⟩)), (5, .slice (some ⟨b16, 0, none⟩) (List.replicate (7 : Int).toNat ((⟨0, 0⟩ : End) : End)).length (7 : Int).toNat), (6, .slice (some ⟨b20, 0, none⟩) ([1] : List Int).length 1), (7, .int .i64 0)]) (by exact ⟨rfl, rfl, rfl, rfl, trivial⟩) ?_
      refine s_own (own' := [.blk b9 (rowObj [.int .i64 y1.Switches, .slice a3 y1.Links.length c4] 24), .osl (.slice (some ⟨b16, 0, none⟩) (List.replicate (7 : Int).toNat ((⟨0, 0⟩ : End) : End)).length (7 : Int).toNat) 2 26 _, .osl (.slice (some ⟨b20, 0, none⟩) ([1] : List Int).length 1) 1 3 [[.int .i64 1]]]) (.cons_cons _ (.cons_cons _ (.cons_cons _ .slnil))) ?_
      refine s_loopn (fun q s31 => catenaryref20_Tree_l0 k y1 q s31) (fun s31 env own H' => ∃ a32 c33 ls34 a36 c37 ls38, env = [(4, .pointer (some ⟨b9, 0, none⟩)), (5, .slice a32 s31.1.length c33), (6, .slice a36 s31.2.1.length c37), (7, .int .i64 s31.2.2)] ∧ own = [.blk b9 (rowObj [.int .i64 y1.Switches, .slice a3 y1.Links.length c4] 24), .osl (.slice a32 s31.1.length c33) 2 26 ls34, .osl (.slice a36 s31.2.1.length c37) 1 3 ls38] ∧ Hle H6 H' ∧ All2 (GoT.rep H') ls34 s31.1 ∧ All2 (GoT.rep H') ls38 s31.2.1) (fun _ => rfl) ?_ k ((List.replicate (7 : Int).toNat ((⟨0, 0⟩ : End) : End)), ([1] : List Int), 0) ⟨_, _, _, _, _, _, rfl, rfl, .refl _, hA18, hA21⟩
      rintro q40 ih41 s31 _ _ H42 ⟨a32, c33, ls34, a36, c37, ls38, rfl, rfl, hle43, hA35, hA39⟩
      refine s_eq (by rw [catenaryref20_Tree_l0]) ?_
      have hs44 := RSl.mono hle43 hs5
      refine s_seq ?_
      refine s_seq ?_
      refine s_region ?_
      refine o_mov rfl ?_
      refine o_mov rfl ?_
      refine o_lenS rfl ?_
      refine o_lt rfl rfl ?_
      refine s_done ?_
      refine s_cond rfl (fun h45 => ?_) (fun h45 => ?_)
      · refine s_skip ?_
        refine s_seq ?_
        refine s_block ?_
        refine s_seq ?_
        refine s_region ?_
        refine o_asg rfl ?_
        refine s_done ?_
        refine s_join (fun p46 env own H' => ∃ a47 c48 ls49 a51 c52 ls53, env = [(4, .pointer (some ⟨b9, 0, none⟩)), (5, .slice a47 p46.1.length c48), (6, .slice a51 p46.2.length c52), (7, .int .i64 s31.2.2)] ∧ own = [.blk b9 (rowObj [.int .i64 y1.Switches, .slice a3 y1.Links.length c4] 24), .osl (.slice a47 p46.1.length c48) 2 26 ls49, .osl (.slice a51 p46.2.length c52) 1 3 ls53] ∧ Hle H42 H' ∧ All2 (GoT.rep H') ls49 p46.1 ∧ All2 (GoT.rep H') ls53 p46.2) ?_ ?_
        · rintro p46 _ _ H55 ⟨a47, c48, ls49, a51, c52, ls53, rfl, rfl, hle56, hA50, hA54⟩
          have hs57 := RSl.mono hle56 hs44
          refine s_inBlock ?_
          refine s_region ?_
          refine o_mov rfl ?_
          refine o_add rfl rfl ?_
          refine o_asg rfl ?_
          refine s_done ?_
          exact s_env (by exact ⟨rfl, rfl, rfl, rfl, trivial⟩) (s_own (by exact (.cons_cons _ (.cons_cons _ (.cons_cons _ .slnil)))) (ih41 (p46.1, p46.2, w64 (s31.2.2 + 1)) _ _ _ ⟨_, _, _, _, _, _, rfl, rfl, (Hle.trans hle43 hle56), hA50, hA54⟩))
        · intro J58
          refine s_block ?_
          refine s_env (env' := [(4, .pointer (some ⟨b9, 0, none⟩)), (5, .slice a32 s31.1.length c33), (6, .slice a36 s31.2.1.length c37), (7, .int .i64 s31.2.2), (8, .int .i64 1)]) (by exact ⟨rfl, rfl, rfl, rfl, rfl, trivial⟩) ?_
          refine s_own (own' := [.blk b9 (rowObj [.int .i64 y1.Switches, .slice a3 y1.Links.length c4] 24), .osl (.slice a32 s31.1.length c33) 2 26 ls34, .osl (.slice a36 s31.2.1.length c37) 1 3 ls38]) (.cons_cons _ (.cons_cons _ (.cons_cons _ .slnil))) ?_
          refine s_loopn (fun q s59 => catenaryref20_Tree_l1 k y1 s31 q s59) (fun s59 env own H' => ∃ a60 c61 ls62 a64 c65 ls66, env = [(4, .pointer (some ⟨b9, 0, none⟩)), (5, .slice a60 s59.1.length c61), (6, .slice a64 s59.2.1.length c65), (7, .int .i64 s31.2.2), (8, .int .i64 s59.2.2)] ∧ own = [.blk b9 (rowObj [.int .i64 y1.Switches, .slice a3 y1.Links.length c4] 24), .osl (.slice a60 s59.1.length c61) 2 26 ls62, .osl (.slice a64 s59.2.1.length c65) 1 3 ls66] ∧ Hle H42 H' ∧ All2 (GoT.rep H') ls62 s59.1 ∧ All2 (GoT.rep H') ls66 s59.2.1) (fun _ => rfl) ?_ k (s31.1, s31.2.1, 1) ⟨_, _, _, _, _, _, rfl, rfl, .refl _, hA35, hA39⟩
          rintro q68 ih69 s59 _ _ H70 ⟨a60, c61, ls62, a64, c65, ls66, rfl, rfl, hle71, hA63, hA67⟩
          refine s_eq (by rw [catenaryref20_Tree_l1]) ?_
          have hs72 := RSl.mono hle71 hs44
          refine s_seq ?_
          refine s_seq ?_
          refine s_region ?_
          refine o_mov rfl ?_
          refine o_le rfl rfl ?_
          refine s_done ?_
          refine s_cond rfl (fun h73 => ?_) (fun h73 => ?_)
          · refine s_skip ?_
            refine s_seq ?_
            refine s_block ?_
            refine s_seq ?_
            refine s_region ?_
            refine o_mov rfl ?_
            refine o_mov rfl ?_
            refine o_ixO 2 rfl hA67 rfl rfl fun y74 bk76 vs77 h75 ha78 hi79 hr80 => ?_
            subst hr80
            subst ha78
            refine o_ldO 2 0 rfl hi79 rfl rfl rfl ?_
            refine o_mov rfl ?_
            refine o_bld rfl rfl ?_
            refine o_alloc fun b81 => ?_
            refine o_st 3 rfl rfl rfl rfl rfl rfl ?_
            refine s_done ?_
            refine s_seq ?_
            refine s_region ?_
            refine o_ld 0 rfl rfl rfl ?_
            refine o_ld 3 rfl rfl rfl ?_
            refine s_bg fun y83 h84 => ?_
            refine s_callF rfl rfl (catenaryref12_Peer_ok k _ y1 _ _ hs72 (⟨y74, s59.2.2⟩ : End) h84) ?_
            refine o_mov rfl ?_
            refine o_ext rfl rfl ?_
            refine o_ext rfl rfl ?_
            refine o_ext rfl rfl ?_
            refine o_alloc fun b85 => ?_
            refine o_st 4 rfl rfl rfl rfl rfl rfl ?_
            refine o_asg rfl ?_
            refine o_asg rfl ?_
            refine s_done ?_
            refine s_seq ?_
            refine s_region ?_
            refine s_joinR (fun p87 env own H' => ∃ a88 c89 ls90, env = [(4, .pointer (some ⟨b9, 0, none⟩)), (5, .slice a88 p87.1.length c89), (6, .slice (some ⟨bk76, 0, none⟩) s59.2.1.length c65), (7, .int .i64 s31.2.2), (8, .int .i64 s59.2.2), (9, .pointer (some ⟨b81, 0, none⟩)), (10, .pointer (some ⟨b85, 0, none⟩)), (57, .bool p87.2)] ∧ own = [.blk b9 (rowObj [.int .i64 y1.Switches, .slice a3 y1.Links.length c4] 24), .osl (.slice a88 p87.1.length c89) 2 26 ls90, .osl (.slice (some ⟨bk76, 0, none⟩) s59.2.1.length c65) 1 3 ls66, .blk b81 (rowObj [.int .i64 y74, .int .i64 s59.2.2] 26), .blk b85 (rowObj [.int .i64 y83.1.Switch, .int .i64 y83.1.Port] 26)] ∧ Hle H70 H' ∧ All2 (GoT.rep H') ls90 p87.1) ?_ ?_
            · rintro p87 _ _ H92 ⟨a88, c89, ls90, rfl, rfl, hle93, hA91⟩
              have hs94 := RSl.mono hle93 hs72
              have hA95 := All2.mono (fun _ _ => GoT.mono hle93) hA67
              refine s_cond rfl (fun h96 => ?_) (fun h96 => ?_)
              · refine s_seq ?_
                refine s_region ?_
                refine o_mov rfl ?_
                refine o_fa rfl ?_
                refine o_ld 4 rfl rfl rfl ?_
                refine o_ld 3 rfl rfl rfl ?_
                refine o_ixO 1 rfl hA91 rfl rfl fun y97 bk99 vs100 h98 ha101 hi102 hr103 => ?_
                subst hr103
                subst ha101
                refine o_stV (l := p87.1) (ci := y83.1.Switch) 1 0 rfl hA91 hi102 rfl rfl rfl rfl rfl rfl (⟨y74, s59.2.2⟩ : End) (rfl) fun ls104 hA105 => ?_
                refine s_env (env' := [(4, .pointer (some ⟨b9, 0, none⟩)), (5, .slice (some ⟨bk99, 0, none⟩) (p87.1.set (y83.1.Switch : Int).toNat (⟨y74, s59.2.2⟩ : End)).length c89), (6, .slice (some ⟨bk76, 0, none⟩) s59.2.1.length c65), (7, .int .i64 s31.2.2), (8, .int .i64 s59.2.2), (9, .pointer (some ⟨b81, 0, none⟩)), (10, .pointer (some ⟨b85, 0, none⟩)), (57, .bool p87.2), (58, .slice (some ⟨bk99, 0, none⟩) (p87.1.set (y83.1.Switch : Int).toNat (⟨y74, s59.2.2⟩ : End)).length c89), (59, .pointer (some ⟨b85, 0, none⟩)), (60, .int .i64 y83.1.Switch), (61, .agg #[.int .i64 y74, .int .i64 s59.2.2])]) (by exact ⟨rfl, (by first | (simp only [List.length_set]; rfl) | rfl), rfl, rfl, rfl, rfl, rfl, rfl, (by first | (simp only [List.length_set]; rfl) | rfl), rfl, rfl, rfl, trivial⟩) ?_
                refine s_ownE (own' := [.blk b9 (rowObj [.int .i64 y1.Switches, .slice a3 y1.Links.length c4] 24), .osl (.slice (some ⟨bk99, 0, none⟩) (p87.1.set (y83.1.Switch : Int).toNat (⟨y74, s59.2.2⟩ : End)).length c89) 2 26 ls104, .osl (.slice (some ⟨bk76, 0, none⟩) s59.2.1.length c65) 1 3 ls66, .blk b81 (rowObj [.int .i64 y74, .int .i64 s59.2.2] 26), .blk b85 (rowObj [.int .i64 y83.1.Switch, .int .i64 y83.1.Port] 26)]) (by first | (simp only [List.length_set]; done) | (simp only [List.length_set]; rfl) | rfl) ?_
                refine s_done ?_
                refine s_region ?_
                refine o_mov rfl ?_
                refine o_fa rfl ?_
                refine o_ld 4 rfl rfl rfl ?_
                refine o_bsl (xs := [.tmp 65]) rfl rfl (by simp only [List.mem_cons, List.not_mem_nil, or_false, forall_eq_or_imp, forall_eq]; exact ⟨rfl, rfl⟩) rfl rfl fun b106 => ?_
                have hA107 : All2 (GoT.rep H92) [[.int .i64 y83.1.Switch]] ([y83.1.Switch] : List Int) := all2_enc (([y83.1.Switch] : List Int))
                refine o_appO 2 5 rfl rfl rfl hA95 rfl hA107 fun a109 c110 h111 hA112 => ?_
                refine o_asg rfl ?_
                refine s_done ?_
                refine s_inBlock ?_
                refine s_region ?_
                refine o_mov rfl ?_
                refine o_add rfl rfl ?_
                refine o_asg rfl ?_
                refine s_done ?_
                exact s_env (by exact ⟨rfl, rfl, rfl, rfl, rfl, trivial⟩) (s_own (by exact (.cons_cons _ (.cons_cons _ (.cons_cons _ (.cons _ (.cons _ (.cons _ .slnil))))))) (ih69 ((p87.1.set (y83.1.Switch : Int).toNat (⟨y74, s59.2.2⟩ : End)), (s59.2.1 ++ ([y83.1.Switch] : List Int)), w64 (s59.2.2 + 1)) _ _ _ ⟨_, _, _, _, _, _, rfl, rfl, (Hle.trans hle71 hle93), hA105, hA112⟩))
              · refine s_skip ?_
                refine s_inBlock ?_
                refine s_region ?_
                refine o_mov rfl ?_
                refine o_add rfl rfl ?_
                refine o_asg rfl ?_
                refine s_done ?_
                exact s_env (by exact ⟨rfl, rfl, rfl, rfl, rfl, trivial⟩) (s_own (by exact (.cons_cons _ (.cons_cons _ (.cons_cons _ (.cons _ (.cons _ .slnil)))))) (ih69 (p87.1, s59.2.1, w64 (s59.2.2 + 1)) _ _ _ ⟨_, _, _, _, _, _, rfl, rfl, (Hle.trans hle71 hle93), hA91, hA95⟩))
            · intro J113
              refine o_mov rfl ?_
              refine o_mov rfl ?_
              refine s_split y83.2.2 (fun h114 => ?_) (fun h114 => ?_)
              · refine s_want rfl rfl h114 ?_
                refine o_fa rfl ?_
                refine s_want rfl rfl h114 ?_
                refine o_ld 4 rfl rfl rfl ?_
                refine s_want rfl rfl h114 ?_
                refine o_ne rfl rfl ?_
                refine o_pickT rfl h114 rfl ?_
                refine o_mov rfl ?_
                refine s_split (y83.1.Switch != 1) (fun h115 => ?_) (fun h115 => ?_)
                · refine s_want rfl rfl h115 ?_
                  refine o_mov rfl ?_
                  refine s_want rfl rfl h115 ?_
                  refine o_fa rfl ?_
                  refine s_want rfl rfl h115 ?_
                  refine o_ld 4 rfl rfl rfl ?_
                  refine s_want rfl rfl h115 ?_
                  refine o_ixO 1 rfl hA63 rfl rfl fun y116 bk118 vs119 h117 ha120 hi121 hr122 => ?_
                  subst hr122
                  subst ha120
                  refine s_want rfl rfl h115 ?_
                  refine o_fa rfl ?_
                  refine s_want rfl rfl h115 ?_
                  refine o_ldO 1 1 rfl hi121 rfl rfl rfl ?_
                  refine s_want rfl rfl h115 ?_
                  refine o_eq rfl rfl ?_
                  refine o_pickT rfl h115 rfl ?_
                  exact s_env (by exact ⟨rfl, rfl, rfl, rfl, rfl, rfl, rfl, rfl, trivial⟩) (s_own (by exact (.cons_cons _ (.cons_cons _ (.cons_cons _ (.cons_cons _ (.cons_cons _ .slnil)))))) (J113 (s59.1, y116.Port == 0) _ _ _ ⟨_, _, _, rfl, rfl, .refl _, hA63⟩))
                · refine s_unwant rfl rfl h115 ?_
                  refine s_unwant rfl rfl h115 ?_
                  refine s_unwant rfl rfl h115 ?_
                  refine s_unwant rfl rfl h115 ?_
                  refine s_unwant rfl rfl h115 ?_
                  refine s_unwant rfl rfl h115 ?_
                  refine s_unwant rfl rfl h115 ?_
                  refine o_pickF rfl h115 rfl ?_
                  exact s_env (by exact ⟨rfl, rfl, rfl, rfl, rfl, rfl, rfl, rfl, trivial⟩) (s_own (by exact (.cons_cons _ (.cons_cons _ (.cons_cons _ (.cons_cons _ (.cons_cons _ .slnil)))))) (J113 (s59.1, false) _ _ _ ⟨_, _, _, rfl, rfl, .refl _, hA63⟩))
              · refine s_unwant rfl rfl h114 ?_
                refine s_unwant rfl rfl h114 ?_
                refine s_unwant rfl rfl h114 ?_
                refine o_pickF rfl h114 rfl ?_
                refine o_mov rfl ?_
                refine s_unwant rfl rfl rfl ?_
                refine s_unwant rfl rfl rfl ?_
                refine s_unwant rfl rfl rfl ?_
                refine s_unwant rfl rfl rfl ?_
                refine s_unwant rfl rfl rfl ?_
                refine s_unwant rfl rfl rfl ?_
                refine s_unwant rfl rfl rfl ?_
                refine o_pickF rfl rfl rfl ?_
                exact s_env (by exact ⟨rfl, rfl, rfl, rfl, rfl, rfl, rfl, rfl, trivial⟩) (s_own (by exact (.cons_cons _ (.cons_cons _ (.cons_cons _ (.cons_cons _ (.cons_cons _ .slnil)))))) (J113 (s59.1, false) _ _ _ ⟨_, _, _, rfl, rfl, .refl _, hA63⟩))
          · refine s_exit rfl ?_
            exact s_env (by exact ⟨rfl, rfl, rfl, rfl, trivial⟩) (s_own (by exact (.cons_cons _ (.cons_cons _ (.cons_cons _ .slnil)))) (J58 (s59.1, s59.2.1) _ _ _ ⟨_, _, _, _, _, _, rfl, rfl, hle71, hA63, hA67⟩))
      · refine s_exit rfl ?_
        exact s_env (by exact ⟨rfl, trivial⟩) (s_own (by exact (.cons _ (.cons_cons _ (.cons _ .slnil)))) (J30 s31.1 _ _ _ ⟨_, _, _, rfl, rfl, hle43, hA35⟩))

/-! catenary/catenaryref20.First -/
def catenaryref20_First_l0 (k : Nat) : Nat → (List End) × (List End) × Int → Option (LX ((List End) × Bool) ((List End)))
  | 0, _ => none
  | q43 + 1, s34 =>
    if (s34.2.2 != 1) = true then
      (rd s34.1 s34.2.2).bind fun y48 =>
      if (y48.Port == 0) = true then
        some (.ret (([] : List End), false))
      else
        (app ([y48] : List End) s34.2.1).bind fun _ =>
        catenaryref20_First_l0 k q43 (s34.1, (([y48] : List End) ++ s34.2.1), y48.Switch)
    else
      some (.out s34.2.1)
def catenaryref20_First (k : Nat) (x0 : (List Link)) (x1 : Int) : Option ((List End) × Bool) :=
  (catenaryref20_Tree k x0).bind fun y1 =>
  if (((y1.2 != 0) || ((decide (x1 < 1)) || decide (x1 > 6)))) = true then
    some (([] : List End), false)
  else
    (catenaryref20_First_l0 k k (y1.1, ([] : List End), x1)).bind (LX.go fun p13 =>
    some (p13, true))
theorem fn_40 : Try.prog.funcs[40]? = some Try.f40 := by kernel_rfl
set_option maxRecDepth 100000 in
set_option maxHeartbeats 4000000 in
theorem catenaryref20_First_ok (k : Nat) (H : Heap) (x0 : (List Link)) (a0_0 : Option Addr) (c0_0 : Nat) (hx0_0 : RSl H a0_0 c0_0 x0) (x1 : Int) {r : (List End) × Bool} (hr : catenaryref20_First k x0 x1 = some r) :
    Fn Try.prog 40 [.slice a0_0 x0.length c0_0, .int .i64 x1] H [] fun H' v out => ∃ a0 c0, v = .tuple #[.slice a0 r.1.length c0, .bool r.2] ∧ out = [.osl (.slice a0 r.1.length c0) 2 26 (r.1.map GoE.enc)] := by
  refine fn_of_sim (args := [.slice a0_0 x0.length c0_0, .int .i64 x1]) (n := 41) (Φ := fun r H' v out => ∃ a0 c0, v = .tuple #[.slice a0 r.1.length c0, .bool r.2] ∧ out = [.osl (.slice a0 r.1.length c0) 2 26 (r.1.map GoE.enc)]) hr fn_40 rfl rfl rfl fun w => ?_
  refine s_eq (by rw [catenaryref20_First]) ?_
  refine s_seq ?_
  refine s_region ?_
  refine o_asg rfl ?_
  refine o_asg rfl ?_
  refine s_done ?_
  refine s_seq ?_
  refine s_region ?_
  refine o_mov rfl ?_
  refine s_bg fun y1 h2 => ?_
  refine s_call [] _ rfl rfl (.refl _) (catenaryref20_Tree_ok k _ x0 _ _ hx0_0 h2) ?_
  rintro _ H6 _ hle7 ⟨a3, c4, rfl, rfl⟩
  have hs8 := RSl.mono hle7 hx0_0
  have hA9 : All2 (GoT.rep H6) (y1.1.map GoE.enc) y1.1 := all2_enc _
  refine o_mov rfl ?_
  refine o_ext rfl rfl ?_
  refine o_ext rfl rfl ?_
  refine o_asg rfl ?_
  refine o_asg rfl ?_
  refine s_done ?_
  refine s_seq ?_
  refine s_seq ?_
  refine s_region ?_
  refine s_mid [(1, .int .i64 x1), (6, .slice a3 y1.1.length c4), (24, .bool ((y1.2 != 0) || ((decide (x1 < 1)) || decide (x1 > 6))))] [.osl (.slice a3 y1.1.length c4) 2 26 (y1.1.map GoE.enc)] ?_ ?_
  · refine s_cond rfl (fun h10 => ?_) (fun h10 => ?_)
    · refine s_seq ?_
      refine s_region ?_
      refine o_asg rfl ?_
      refine o_asg rfl ?_
      refine s_done ?_
      refine s_nilOc (sz := 2) (t := 26) ?_
      have hA11 : All2 (GoT.rep H6) [] ([] : List End) := all2_nil
      exact s_retv (xs := [.tmp 4, .tmp 5]) (vs := [.slice none ([] : List End).length 0, .bool false]) [.osl (.slice none ([] : List End).length 0) 2 26 []] fn_40 rfl ⟨rv_tmp rfl, rv_tmp rfl, trivial⟩ (.cons _ (.cons_cons _ .slnil)) ⟨_, _, rfl, (congrArg (fun z => [Res.osl _ _ _ z]) (all2_flat hA11))⟩
    · refine s_skip ?_
      refine s_seq ?_
      refine s_region ?_
      refine o_asg rfl ?_
      refine s_done ?_
      refine s_seq ?_
      refine s_joinL (fun p13 env own H' => ∃ a15 c16 ls17, env = [(8, .slice a15 p13.length c16)] ∧ own = [.osl (.slice a15 p13.length c16) 2 26 ls17] ∧ Hle H6 H' ∧ All2 (GoT.rep H') ls17 p13) ?_ ?_
      · rintro p13 _ _ H19 ⟨a15, c16, ls17, rfl, rfl, hle20, hA18⟩
        refine s_seq ?_
        refine s_region ?_
        refine o_mov rfl ?_
        refine o_asg rfl ?_
        refine o_asg rfl ?_
        refine s_done ?_
        exact s_retv (xs := [.tmp 4, .tmp 5]) (vs := [.slice a15 p13.length c16, .bool true]) [.osl (.slice a15 p13.length c16) 2 26 ls17] fn_40 rfl ⟨rv_tmp rfl, rv_tmp rfl, trivial⟩ (.cons_cons _ .slnil) ⟨_, _, rfl, (congrArg (fun z => [Res.osl _ _ _ z]) (all2_flat hA18))⟩
      · intro J21
        refine s_block ?_
        refine s_nilOc (sz := 2) (t := 26) ?_
        have hA23 : All2 (GoT.rep H6) [] ([] : List End) := all2_nil
        refine s_env (env' := [(1, .int .i64 x1), (6, .slice a3 y1.1.length c4), (8, .slice none ([] : List End).length 0)]) (by exact ⟨rfl, rfl, rfl, trivial⟩) ?_
        refine s_own (own' := [.osl (.slice a3 y1.1.length c4) 2 26 (y1.1.map GoE.enc), .osl (.slice none ([] : List End).length 0) 2 26 []]) (.cons_cons _ (.cons_cons _ .slnil)) ?_
        refine s_loopn (fun q s34 => catenaryref20_First_l0 k q s34) (fun s34 env own H' => ∃ a35 c36 ls37 a39 c40 ls41, env = [(1, .int .i64 s34.2.2), (6, .slice a35 s34.1.length c36), (8, .slice a39 s34.2.1.length c40)] ∧ own = [.osl (.slice a35 s34.1.length c36) 2 26 ls37, .osl (.slice a39 s34.2.1.length c40) 2 26 ls41] ∧ Hle H6 H' ∧ All2 (GoT.rep H') ls37 s34.1 ∧ All2 (GoT.rep H') ls41 s34.2.1) (fun _ => rfl) ?_ k (y1.1, ([] : List End), x1) ⟨_, _, _, _, _, _, rfl, rfl, .refl _, hA9, hA23⟩
        rintro q43 ih44 s34 _ _ H45 ⟨a35, c36, ls37, a39, c40, ls41, rfl, rfl, hle46, hA38, hA42⟩
        refine s_eq (by rw [catenaryref20_First_l0]) ?_
        refine s_seq ?_
        refine s_seq ?_
        refine s_region ?_
        refine o_mov rfl ?_
        refine o_ne rfl rfl ?_
        refine s_done ?_
        refine s_cond rfl (fun h47 => ?_) (fun h47 => ?_)
        · refine s_skip ?_
          refine s_block ?_
          refine s_seq ?_
          refine s_region ?_
          refine o_mov rfl ?_
          refine o_mov rfl ?_
          refine o_ixO 0 rfl hA38 rfl rfl fun y48 bk50 vs51 h49 ha52 hi53 hr54 => ?_
          subst hr54
          subst ha52
          refine o_ldO 0 0 rfl hi53 rfl rfl rfl ?_
          refine o_alloc fun b55 => ?_
          refine o_st 2 rfl rfl rfl rfl rfl rfl ?_
          refine s_done ?_
          refine s_seq ?_
          refine s_seq ?_
          refine s_region ?_
          refine o_fa rfl ?_
          refine o_ld 2 rfl rfl rfl ?_
          refine o_eq rfl rfl ?_
          refine s_done ?_
          refine s_cond rfl (fun h57 => ?_) (fun h57 => ?_)
          · refine s_seq ?_
            refine s_region ?_
            refine o_asg rfl ?_
            refine o_asg rfl ?_
            refine s_done ?_
            refine s_nilOc (sz := 2) (t := 26) ?_
            have hA58 : All2 (GoT.rep H45) [] ([] : List End) := all2_nil
            refine s_lret ?_
            exact s_retv (xs := [.tmp 4, .tmp 5]) (vs := [.slice none ([] : List End).length 0, .bool false]) [.osl (.slice none ([] : List End).length 0) 2 26 []] fn_40 rfl ⟨rv_tmp rfl, rv_tmp rfl, trivial⟩ (.cons _ (.cons _ (.cons _ (.cons_cons _ .slnil)))) ⟨_, _, rfl, (congrArg (fun z => [Res.osl _ _ _ z]) (all2_flat hA58))⟩
          · refine s_skip ?_
            refine s_seq ?_
            refine s_region ?_
            refine o_ld 2 rfl rfl rfl ?_
            refine o_bsl (xs := [.tmp 34]) rfl rfl (by simp only [List.mem_cons, List.not_mem_nil, or_false, forall_eq_or_imp, forall_eq]; exact ⟨rfl, rfl⟩) rfl rfl fun b60 => ?_
            have hA61 : All2 (GoT.rep H45) [[.int .i64 y48.Switch, .int .i64 y48.Port]] ([y48] : List End) := all2_enc (([y48] : List End))
            refine o_mov rfl ?_
            refine o_appO 3 1 rfl rfl rfl hA61 rfl hA42 fun a63 c64 h65 hA66 => ?_
            refine o_asg rfl ?_
            refine s_done ?_
            refine s_region ?_
            refine o_fa rfl ?_
            refine o_ld 2 rfl rfl rfl ?_
            refine o_asg rfl ?_
            refine s_done ?_
            refine s_inBlock ?_
            exact s_env (by exact ⟨rfl, rfl, rfl, trivial⟩) (s_own (by exact (.cons_cons _ (.cons _ (.cons _ (.cons_cons _ .slnil))))) (ih44 (s34.1, (([y48] : List End) ++ s34.2.1), y48.Switch) _ _ _ ⟨_, _, _, _, _, _, rfl, rfl, hle46, hA38, hA66⟩))
        · refine s_exit rfl ?_
          exact s_env (by exact ⟨rfl, trivial⟩) (s_own (by exact (.cons _ (.cons_cons _ .slnil))) (J21 s34.2.1 _ _ _ ⟨_, _, _, rfl, rfl, hle46, hA42⟩))
  · intro J67
    refine o_mov rfl ?_
    refine o_ne rfl rfl ?_
    refine o_mov rfl ?_
    refine s_case (y1.2 != 0) (fun h68 => ?_) (fun h68 => ?_)
    · refine s_unwant rfl rfl h68 ?_
      refine s_unwant rfl rfl h68 ?_
      refine o_pickT rfl h68 rfl ?_
      refine o_mov rfl ?_
      refine s_unwant rfl rfl rfl ?_
      refine s_unwant rfl rfl rfl ?_
      refine o_pickT rfl rfl rfl ?_
      exact s_env (by exact ⟨rfl, rfl, lkb rfl (by first | simp only [h68, Bool.true_and, Bool.and_true, Bool.false_and, Bool.and_false, Bool.true_or, Bool.false_or, Bool.or_true, Bool.or_false, Bool.not_true, Bool.not_false] | simp [h68]), trivial⟩) (s_own (by exact (.cons_cons _ .slnil)) J67)
    · refine s_want rfl rfl h68 ?_
      refine o_mov rfl ?_
      refine s_want rfl rfl h68 ?_
      refine o_lt rfl rfl ?_
      refine o_pickF rfl h68 rfl ?_
      refine o_mov rfl ?_
      refine s_case (decide (x1 < 1)) (fun h69 => ?_) (fun h69 => ?_)
      · refine s_unwant rfl rfl h69 ?_
        refine s_unwant rfl rfl h69 ?_
        refine o_pickT rfl h69 rfl ?_
        exact s_env (by exact ⟨rfl, rfl, lkb rfl (by first | simp only [h68, h69, Bool.true_and, Bool.and_true, Bool.false_and, Bool.and_false, Bool.true_or, Bool.false_or, Bool.or_true, Bool.or_false, Bool.not_true, Bool.not_false] | simp [h68, h69]), trivial⟩) (s_own (by exact (.cons_cons _ .slnil)) J67)
      · refine s_want rfl rfl h69 ?_
        refine o_mov rfl ?_
        refine s_want rfl rfl h69 ?_
        refine o_gt rfl rfl ?_
        refine o_pickF rfl h69 rfl ?_
        exact s_env (by exact ⟨rfl, rfl, lkb rfl (by first | simp only [h68, h69, Bool.true_and, Bool.and_true, Bool.false_and, Bool.and_false, Bool.true_or, Bool.false_or, Bool.or_true, Bool.or_false, Bool.not_true, Bool.not_false] | simp [h68, h69]), trivial⟩) (s_own (by exact (.cons_cons _ .slnil)) J67)

/-! catenary/catenaryref20.on -/
def catenaryref20_on_l0 (k : Nat) (x0 : Link) (x1 : (List End)) : Nat → Int → Option (LX (Bool) (Unit))
  | 0, _ => none
  | q8 + 1, s7 =>
    if (decide (s7 < (x1.length : Int))) = true then
      ((rd x1 s7).bind fun y20 =>
        if (decide (x0.A = y20)) = true then
          some true
        else
          (rd x1 s7).bind fun y205 =>
          some (decide (x0.B = y205))).bind fun p14 =>
      if (p14) = true then
        some (.ret true)
      else
        catenaryref20_on_l0 k x0 x1 q8 (w64 (s7 + 1))
    else
      some (.out ())
def catenaryref20_on (k : Nat) (x0 : Link) (x1 : (List End)) : Option Bool :=
  (catenaryref20_on_l0 k x0 x1 k 0).bind (LX.go fun p3 =>
  some false)
theorem fn_79 : Try.prog.funcs[79]? = some Try.f79 := by kernel_rfl
set_option maxRecDepth 100000 in
set_option maxHeartbeats 4000000 in
theorem catenaryref20_on_ok (k : Nat) (H : Heap) (x0 : Link) (x1 : (List End)) (a1_0 : Option Addr) (c1_0 : Nat) (hx1_0 : RSl H a1_0 c1_0 x1) {r : Bool} (hr : catenaryref20_on k x0 x1 = some r) :
    Fn Try.prog 79 [.agg #[.int .i64 x0.A.Switch, .int .i64 x0.A.Port, .int .i64 x0.B.Switch, .int .i64 x0.B.Port], .slice a1_0 x1.length c1_0] H [] fun H' v out => v = .bool r ∧ out = [] := by
  refine fn_of_sim (args := [.agg #[.int .i64 x0.A.Switch, .int .i64 x0.A.Port, .int .i64 x0.B.Switch, .int .i64 x0.B.Port], .slice a1_0 x1.length c1_0]) (n := 28) (Φ := fun r H' v out => v = .bool r ∧ out = []) hr fn_79 rfl rfl rfl fun w => ?_
  refine s_eq (by rw [catenaryref20_on]) ?_
  refine s_seq ?_
  refine s_region ?_
  refine o_box rfl fun b1 => ?_
  refine o_asg rfl ?_
  refine s_done ?_
  refine s_seq ?_
  refine s_seq ?_
  refine s_region ?_
  refine o_asg rfl ?_
  refine s_done ?_
  refine s_joinL (fun p3 env own H' => env = [] ∧ own = [] ∧ Hle H H') ?_ ?_
  · rintro p3 _ _ H4 ⟨rfl, rfl, hle5⟩
    refine s_seq ?_
    refine s_region ?_
    refine o_asg rfl ?_
    refine s_done ?_
    exact s_retv (xs := [.tmp 4]) (vs := [.bool false]) [] fn_79 rfl ⟨rv_tmp rfl, trivial⟩ .slnil ⟨rfl, rfl⟩
  · intro J6
    refine s_block ?_
    refine s_env (env' := [(1, .slice a1_0 x1.length c1_0), (2, .pointer (some ⟨b1, 0, none⟩)), (5, .int .i64 0)]) (by exact ⟨rfl, rfl, rfl, trivial⟩) ?_
    refine s_own (own' := [.blk b1 (rowObj [.int .i64 x0.A.Switch, .int .i64 x0.A.Port, .int .i64 x0.B.Switch, .int .i64 x0.B.Port] 40)]) (.cons_cons _ .slnil) ?_
    refine s_loopn (fun q s7 => catenaryref20_on_l0 k x0 x1 q s7) (fun s7 env own H' => env = [(1, .slice a1_0 x1.length c1_0), (2, .pointer (some ⟨b1, 0, none⟩)), (5, .int .i64 s7)] ∧ own = [.blk b1 (rowObj [.int .i64 x0.A.Switch, .int .i64 x0.A.Port, .int .i64 x0.B.Switch, .int .i64 x0.B.Port] 40)] ∧ Hle H H') (fun _ => rfl) ?_ k 0 ⟨rfl, rfl, .refl _⟩
    rintro q8 ih9 s7 _ _ H10 ⟨rfl, rfl, hle11⟩
    refine s_eq (by rw [catenaryref20_on_l0]) ?_
    have hs12 := RSl.mono hle11 hx1_0
    refine s_seq ?_
    refine s_seq ?_
    refine s_region ?_
    refine o_mov rfl ?_
    refine o_mov rfl ?_
    refine o_lenS rfl ?_
    refine o_lt rfl rfl ?_
    refine s_done ?_
    refine s_cond rfl (fun h13 => ?_) (fun h13 => ?_)
    · refine s_skip ?_
      refine s_seq ?_
      refine s_block ?_
      refine s_seq ?_
      refine s_join (fun p14 env own H' => env = [(1, .slice a1_0 x1.length c1_0), (2, .pointer (some ⟨b1, 0, none⟩)), (5, .int .i64 s7), (27, .bool p14)] ∧ own = [.blk b1 (rowObj [.int .i64 x0.A.Switch, .int .i64 x0.A.Port, .int .i64 x0.B.Switch, .int .i64 x0.B.Port] 40)] ∧ Hle H10 H') ?_ ?_
      · rintro p14 _ _ H15 ⟨rfl, rfl, hle16⟩
        have hs17 := RSl.mono hle16 hs12
        refine s_cond rfl (fun h18 => ?_) (fun h18 => ?_)
        · refine s_seq ?_
          refine s_region ?_
          refine o_asg rfl ?_
          refine s_done ?_
          refine s_lret ?_
          exact s_retv (xs := [.tmp 4]) (vs := [.bool true]) [] fn_79 rfl ⟨rv_tmp rfl, trivial⟩ (.cons _ .slnil) ⟨rfl, rfl⟩
        · refine s_skip ?_
          refine s_inBlock ?_
          refine s_region ?_
          refine o_mov rfl ?_
          refine o_add rfl rfl ?_
          refine o_asg rfl ?_
          refine s_done ?_
          exact s_env (by exact ⟨rfl, rfl, rfl, trivial⟩) (s_own (by exact (.cons_cons _ .slnil)) (ih9 (w64 (s7 + 1)) _ _ _ ⟨rfl, rfl, (Hle.trans hle11 hle16)⟩))
      · intro J19
        refine s_bg fun y20 h25 => ?_
        refine s_split (decide (x0.A = y20)) (fun h26 => ?_) (fun h26 => ?_)
        · refine s_drawL [(fun H v g => v = Value.pointer (some ⟨b1, 0, none⟩) ∧ g = []),
      (fun H v g => v = Value.agg #[.int .i64 x0.A.Switch, .int .i64 x0.A.Port] ∧ g = []),
      (fun H v g => v = Value.slice a1_0 x1.length c1_0 ∧ g = [] ∧ RSl H a1_0 c1_0 x1),
      (fun H v g => v = Value.int .i64 s7 ∧ g = []),
      (fun H v g => ∃ bk28 of29, v = Value.pointer (some ⟨bk28, of29, none⟩) ∧ g = [] ∧ CellsAt H bk28 of29 [.int .i64 y20.Switch, .int .i64 y20.Port]),
      (fun H v g => v = Value.agg #[.int .i64 y20.Switch, .int .i64 y20.Port] ∧ g = []),
      (fun H v g => v = Value.bool (decide (x0.A = y20)) ∧ g = []),
      (fun H v g => v = Value.bool (decide (x0.A = y20)) ∧ g = []),
      uF,
      uF,
      uF,
      uF,
      uF,
      uF,
      uF,
      (fun H v g => v = Value.bool true ∧ g = [])] [[], [], [], [], [], [], [], [], [], [], [], [], [], [], [], []] mixed ⟨m0, m0, fun _ _ _ _ hle ⟨e1, e2, h0_⟩ => ⟨e1, e2, RSl.mono hle h0_⟩, m0, fun _ _ _ _ hle ⟨bk28, of29, e1, e2, h0_⟩ => ⟨_, _, e1, e2, CellsAt.mono hle h0_⟩, m0, m0, m0, m0, m0, m0, m0, m0, m0, m0, m0, trivial⟩ (by kernel_rfl) (by kernel_rfl) rfl (by kernel_rfl) rfl rfl ?_ ?_
          · refine dcons ?_ ?_
            · intro _ _ H33 fr34 hle35 hd36
              refine ⟨_, some (), rfl, fun _ => ?_⟩
              refine s_env (env' := [(2, .pointer (some ⟨b1, 0, none⟩))]) (by exact ⟨rfl, trivial⟩) ?_
              refine o_fa rfl ?_
              exact s_pred fun _ _ _ hE hI => ⟨(.pointer (some ⟨b1, 0, none⟩)), [], _, fun _ e => (by cases e; exact hE _ _ rfl), .refl _, by exact hI, ⟨rfl, rfl⟩⟩
            refine dcons ?_ ?_
            · intro _ _ H40 fr41 hle42 hd43
              obtain ⟨hv45, hg46⟩ := hd43 0 (by decide)
              refine ⟨_, some (), rfl, fun _ => ?_⟩
              refine s_env (env' := [(12, .pointer (some ⟨b1, 0, none⟩))]) (by exact ⟨congrArg some hv45, trivial⟩) ?_
              refine o_ld 0 rfl rfl rfl ?_
              exact s_pred fun _ _ _ hE hI => ⟨(.agg #[.int .i64 x0.A.Switch, .int .i64 x0.A.Port]), [], _, fun _ e => (by cases e; exact hE _ _ rfl), .refl _, by exact hI, ⟨rfl, rfl⟩⟩
            refine dcons ?_ ?_
            · intro _ _ H49 fr50 hle51 hd52
              have hs54 := RSl.mono hle51 hs12
              refine ⟨_, some (), rfl, fun _ => ?_⟩
              refine s_env (env' := [(1, .slice a1_0 x1.length c1_0)]) (by exact ⟨rfl, trivial⟩) ?_
              refine o_mov rfl ?_
              exact s_pred fun _ _ _ hE hI => ⟨(.slice a1_0 x1.length c1_0), [], _, fun _ e => (by cases e; exact hE _ _ rfl), .refl _, by exact hI, ⟨rfl, rfl, hs54⟩⟩
            refine dcons ?_ ?_
            · intro _ _ H57 fr58 hle59 hd60
              refine ⟨_, some (), rfl, fun _ => ?_⟩
              refine s_env (env' := [(5, .int .i64 s7)]) (by exact ⟨rfl, trivial⟩) ?_
              refine o_mov rfl ?_
              exact s_pred fun _ _ _ hE hI => ⟨(.int .i64 s7), [], _, fun _ e => (by cases e; exact hE _ _ rfl), .refl _, by exact hI, ⟨rfl, rfl⟩⟩
            refine dcons ?_ ?_
            · intro _ _ H64 fr65 hle66 hd67
              obtain ⟨hv69, hg70, hp71⟩ := hd67 2 (by decide)
              obtain ⟨hv72, hg73⟩ := hd67 3 (by decide)
              refine ⟨_, (rd x1 s7).bind some, by rw [h25]; rfl, fun _ => ?_⟩
              refine s_env (env' := [(14, .slice a1_0 x1.length c1_0), (15, .int .i64 s7)]) (by exact ⟨congrArg some hv69, congrArg some hv72, trivial⟩) ?_
              refine o_ixf hp71 rfl rfl fun y20 bk75 of76 h74 hc77 => ?_
              obtain rfl := Option.some.inj (h25.symm.trans h74)
              exact s_pred fun _ _ _ hE hI => ⟨(.pointer (some ⟨bk75, of76, none⟩)), [], _, fun _ e => (by cases e; exact hE _ _ rfl), .refl _, by exact hI, ⟨bk75, of76, rfl, rfl, hc77⟩⟩
            refine dcons ?_ ?_
            · intro _ _ H80 fr81 hle82 hd83
              obtain ⟨bk85, of86, hv87, hg88, hp89⟩ := hd83 4 (by decide)
              refine ⟨_, some (), rfl, fun _ => ?_⟩
              refine s_env (env' := [(16, .pointer (some ⟨bk85, of86, none⟩))]) (by exact ⟨congrArg some hv87, trivial⟩) ?_
              refine o_ldH 0 hp89 rfl rfl rfl ?_
              exact s_pred fun _ _ _ hE hI => ⟨(.agg #[.int .i64 y20.Switch, .int .i64 y20.Port]), [], _, fun _ e => (by cases e; exact hE _ _ rfl), .refl _, by exact hI, ⟨rfl, rfl⟩⟩
            refine dcons ?_ ?_
            · intro _ _ H92 fr93 hle94 hd95
              obtain ⟨hv97, hg98⟩ := hd95 1 (by decide)
              obtain ⟨hv99, hg100⟩ := hd95 5 (by decide)
              refine ⟨_, some (), rfl, fun _ => ?_⟩
              refine s_env (env' := [(13, .agg #[.int .i64 x0.A.Switch, .int .i64 x0.A.Port]), (17, .agg #[.int .i64 y20.Switch, .int .i64 y20.Port])]) (by exact ⟨congrArg some hv97, congrArg some hv99, trivial⟩) ?_
              refine o_eqS x0.A y20 rfl rfl ?_
              exact s_pred fun _ _ _ hE hI => ⟨(.bool (decide (x0.A = y20))), [], _, fun _ e => (by cases e; exact hE _ _ rfl), .refl _, by exact hI, ⟨rfl, rfl⟩⟩
            refine dcons ?_ ?_
            · intro _ _ H103 fr104 hle105 hd106
              obtain ⟨hv108, hg109⟩ := hd106 6 (by decide)
              refine ⟨_, some (), rfl, fun _ => ?_⟩
              refine s_env (env' := [(18, .bool (decide (x0.A = y20)))]) (by exact ⟨congrArg some hv108, trivial⟩) ?_
              refine o_mov rfl ?_
              exact s_pred fun _ _ _ hE hI => ⟨(.bool (decide (x0.A = y20))), [], _, fun _ e => (by cases e; exact hE _ _ rfl), .refl _, by exact hI, ⟨rfl, rfl⟩⟩
            refine dcons ?_ ?_
            · intro _ _ H112 fr113 hle114 hd115
              obtain ⟨hv117, hg118⟩ := hd115 7 (by decide)
              refine ⟨_, some (), rfl, fun _ => ?_⟩
              refine s_env (env' := [(19, .bool (decide (x0.A = y20))), (2, .pointer (some ⟨b1, 0, none⟩))]) (by exact ⟨congrArg some hv117, rfl, trivial⟩) ?_
              refine s_unwant rfl rfl h26 ?_
              exact s_pred fun _ _ _ hE hI => ⟨undef, [], _, fun _ e => (by cases e; exact hE _ _ rfl), .refl _, by exact hI, ⟨rfl, rfl⟩⟩
            refine dcons ?_ ?_
            · intro _ _ H121 fr122 hle123 hd124
              obtain ⟨hv126, hg127⟩ := hd124 7 (by decide)
              obtain ⟨hv128, hg129⟩ := hd124 8 (by decide)
              refine ⟨_, some (), rfl, fun _ => ?_⟩
              refine s_env (env' := [(19, .bool (decide (x0.A = y20))), (20, undef)]) (by exact ⟨congrArg some hv126, congrArg some hv128, trivial⟩) ?_
              refine s_unwant rfl rfl h26 ?_
              exact s_pred fun _ _ _ hE hI => ⟨undef, [], _, fun _ e => (by cases e; exact hE _ _ rfl), .refl _, by exact hI, ⟨rfl, rfl⟩⟩
            refine dcons ?_ ?_
            · intro _ _ H132 fr133 hle134 hd135
              have hs137 := RSl.mono hle134 hs12
              obtain ⟨hv138, hg139⟩ := hd135 7 (by decide)
              refine ⟨_, some (), rfl, fun _ => ?_⟩
              refine s_env (env' := [(19, .bool (decide (x0.A = y20))), (1, .slice a1_0 x1.length c1_0)]) (by exact ⟨congrArg some hv138, rfl, trivial⟩) ?_
              refine s_unwant rfl rfl h26 ?_
              exact s_pred fun _ _ _ hE hI => ⟨undef, [], _, fun _ e => (by cases e; exact hE _ _ rfl), .refl _, by exact hI, ⟨rfl, rfl⟩⟩
            refine dcons ?_ ?_
            · intro _ _ H142 fr143 hle144 hd145
              obtain ⟨hv147, hg148⟩ := hd145 7 (by decide)
              refine ⟨_, some (), rfl, fun _ => ?_⟩
              refine s_env (env' := [(19, .bool (decide (x0.A = y20))), (5, .int .i64 s7)]) (by exact ⟨congrArg some hv147, rfl, trivial⟩) ?_
              refine s_unwant rfl rfl h26 ?_
              exact s_pred fun _ _ _ hE hI => ⟨undef, [], _, fun _ e => (by cases e; exact hE _ _ rfl), .refl _, by exact hI, ⟨rfl, rfl⟩⟩
            refine dcons ?_ ?_
            · intro _ _ H151 fr152 hle153 hd154
              obtain ⟨hv156, hg157⟩ := hd154 7 (by decide)
              obtain ⟨hv158, hg159⟩ := hd154 10 (by decide)
              obtain ⟨hv160, hg161⟩ := hd154 11 (by decide)
              refine ⟨_, some (), rfl, fun _ => ?_⟩
              refine s_env (env' := [(19, .bool (decide (x0.A = y20))), (22, undef), (23, undef)]) (by exact ⟨congrArg some hv156, congrArg some hv158, congrArg some hv160, trivial⟩) ?_
              refine s_unwant rfl rfl h26 ?_
              exact s_pred fun _ _ _ hE hI => ⟨undef, [], _, fun _ e => (by cases e; exact hE _ _ rfl), .refl _, by exact hI, ⟨rfl, rfl⟩⟩
            refine dcons ?_ ?_
            · intro _ _ H164 fr165 hle166 hd167
              obtain ⟨hv169, hg170⟩ := hd167 7 (by decide)
              obtain ⟨hv171, hg172⟩ := hd167 12 (by decide)
              refine ⟨_, some (), rfl, fun _ => ?_⟩
              refine s_env (env' := [(19, .bool (decide (x0.A = y20))), (24, undef)]) (by exact ⟨congrArg some hv169, congrArg some hv171, trivial⟩) ?_
              refine s_unwant rfl rfl h26 ?_
              exact s_pred fun _ _ _ hE hI => ⟨undef, [], _, fun _ e => (by cases e; exact hE _ _ rfl), .refl _, by exact hI, ⟨rfl, rfl⟩⟩
            refine dcons ?_ ?_
            · intro _ _ H175 fr176 hle177 hd178
              obtain ⟨hv180, hg181⟩ := hd178 7 (by decide)
              obtain ⟨hv182, hg183⟩ := hd178 9 (by decide)
              obtain ⟨hv184, hg185⟩ := hd178 13 (by decide)
              refine ⟨_, some (), rfl, fun _ => ?_⟩
              refine s_env (env' := [(19, .bool (decide (x0.A = y20))), (21, undef), (25, undef)]) (by exact ⟨congrArg some hv180, congrArg some hv182, congrArg some hv184, trivial⟩) ?_
              refine s_unwant rfl rfl h26 ?_
              exact s_pred fun _ _ _ hE hI => ⟨undef, [], _, fun _ e => (by cases e; exact hE _ _ rfl), .refl _, by exact hI, ⟨rfl, rfl⟩⟩
            refine dcons ?_ ?_
            · intro _ _ H188 fr189 hle190 hd191
              obtain ⟨hv193, hg194⟩ := hd191 7 (by decide)
              obtain ⟨hv195, hg196⟩ := hd191 14 (by decide)
              refine ⟨_, some (), rfl, fun _ => ?_⟩
              refine s_env (env' := [(19, .bool (decide (x0.A = y20))), (26, undef)]) (by exact ⟨congrArg some hv193, congrArg some hv195, trivial⟩) ?_
              refine o_pickT rfl h26 rfl ?_
              exact s_pred fun _ _ _ hE hI => ⟨(.bool true), [], _, fun _ e => (by cases e; exact hE _ _ rfl), .refl _, by exact hI, ⟨rfl, rfl⟩⟩
            exact dnil
          · intro V199 G200 H197 hle198 hF201
            have hs202 := RSl.mono hle198 hs12
            obtain ⟨hv203, hg204⟩ := hF201 15 (show 15 < 16 by decide)
            refine s_env (env' := [(27, .bool true), (1, .slice a1_0 x1.length c1_0), (2, .pointer (some ⟨b1, 0, none⟩)), (5, .int .i64 s7), (6, .int .i64 s7), (7, .slice a1_0 x1.length c1_0), (8, .int .i64 (x1.length : Int)), (9, .bool (decide (s7 < (x1.length : Int))))]) (by exact ⟨congrArg some hv203, rfl, rfl, rfl, rfl, rfl, rfl, rfl, trivial⟩) ?_
            refine s_own (List.sublist_append_left _ _) ?_
            refine s_done ?_
            exact s_env (by exact ⟨rfl, rfl, rfl, rfl, trivial⟩) (s_own (by exact (.cons_cons _ .slnil)) (J19 true _ _ _ ⟨rfl, rfl, hle198⟩))
        · refine s_bg fun y205 h210 => ?_
          refine s_drawL [(fun H v g => v = Value.pointer (some ⟨b1, 0, none⟩) ∧ g = []),
      (fun H v g => v = Value.agg #[.int .i64 x0.A.Switch, .int .i64 x0.A.Port] ∧ g = []),
      (fun H v g => v = Value.slice a1_0 x1.length c1_0 ∧ g = [] ∧ RSl H a1_0 c1_0 x1),
      (fun H v g => v = Value.int .i64 s7 ∧ g = []),
      (fun H v g => ∃ bk212 of213, v = Value.pointer (some ⟨bk212, of213, none⟩) ∧ g = [] ∧ CellsAt H bk212 of213 [.int .i64 y20.Switch, .int .i64 y20.Port]),
      (fun H v g => v = Value.agg #[.int .i64 y20.Switch, .int .i64 y20.Port] ∧ g = []),
      (fun H v g => v = Value.bool (decide (x0.A = y20)) ∧ g = []),
      (fun H v g => v = Value.bool (decide (x0.A = y20)) ∧ g = []),
      (fun H v g => v = Value.pointer (some ⟨b1, 2, none⟩) ∧ g = []),
      (fun H v g => v = Value.agg #[.int .i64 x0.B.Switch, .int .i64 x0.B.Port] ∧ g = []),
      (fun H v g => v = Value.slice a1_0 x1.length c1_0 ∧ g = [] ∧ RSl H a1_0 c1_0 x1),
      (fun H v g => v = Value.int .i64 s7 ∧ g = []),
      (fun H v g => ∃ bk216 of217, v = Value.pointer (some ⟨bk216, of217, none⟩) ∧ g = [] ∧ CellsAt H bk216 of217 [.int .i64 y205.Switch, .int .i64 y205.Port]),
      (fun H v g => v = Value.agg #[.int .i64 y205.Switch, .int .i64 y205.Port] ∧ g = []),
      (fun H v g => v = Value.bool (decide (x0.B = y205)) ∧ g = []),
      (fun H v g => v = Value.bool (decide (x0.B = y205)) ∧ g = [])] [[], [], [], [], [], [], [], [], [], [], [], [], [], [], [], []] mixed ⟨m0, m0, fun _ _ _ _ hle ⟨e1, e2, h0_⟩ => ⟨e1, e2, RSl.mono hle h0_⟩, m0, fun _ _ _ _ hle ⟨bk212, of213, e1, e2, h0_⟩ => ⟨_, _, e1, e2, CellsAt.mono hle h0_⟩, m0, m0, m0, m0, m0, fun _ _ _ _ hle ⟨e1, e2, h0_⟩ => ⟨e1, e2, RSl.mono hle h0_⟩, m0, fun _ _ _ _ hle ⟨bk216, of217, e1, e2, h0_⟩ => ⟨_, _, e1, e2, CellsAt.mono hle h0_⟩, m0, m0, m0, trivial⟩ (by kernel_rfl) (by kernel_rfl) rfl (by kernel_rfl) rfl rfl ?_ ?_
          · refine dcons ?_ ?_
            · intro _ _ H221 fr222 hle223 hd224
              refine ⟨_, some (), rfl, fun _ => ?_⟩
              refine s_env (env' := [(2, .pointer (some ⟨b1, 0, none⟩))]) (by exact ⟨rfl, trivial⟩) ?_
              refine o_fa rfl ?_
              exact s_pred fun _ _ _ hE hI => ⟨(.pointer (some ⟨b1, 0, none⟩)), [], _, fun _ e => (by cases e; exact hE _ _ rfl), .refl _, by exact hI, ⟨rfl, rfl⟩⟩
            refine dcons ?_ ?_
            · intro _ _ H228 fr229 hle230 hd231
              obtain ⟨hv233, hg234⟩ := hd231 0 (by decide)
              refine ⟨_, some (), rfl, fun _ => ?_⟩
              refine s_env (env' := [(12, .pointer (some ⟨b1, 0, none⟩))]) (by exact ⟨congrArg some hv233, trivial⟩) ?_
              refine o_ld 0 rfl rfl rfl ?_
              exact s_pred fun _ _ _ hE hI => ⟨(.agg #[.int .i64 x0.A.Switch, .int .i64 x0.A.Port]), [], _, fun _ e => (by cases e; exact hE _ _ rfl), .refl _, by exact hI, ⟨rfl, rfl⟩⟩
            refine dcons ?_ ?_
            · intro _ _ H237 fr238 hle239 hd240
              have hs242 := RSl.mono hle239 hs12
              refine ⟨_, some (), rfl, fun _ => ?_⟩
              refine s_env (env' := [(1, .slice a1_0 x1.length c1_0)]) (by exact ⟨rfl, trivial⟩) ?_
              refine o_mov rfl ?_
              exact s_pred fun _ _ _ hE hI => ⟨(.slice a1_0 x1.length c1_0), [], _, fun _ e => (by cases e; exact hE _ _ rfl), .refl _, by exact hI, ⟨rfl, rfl, hs242⟩⟩
            refine dcons ?_ ?_
            · intro _ _ H245 fr246 hle247 hd248
              refine ⟨_, some (), rfl, fun _ => ?_⟩
              refine s_env (env' := [(5, .int .i64 s7)]) (by exact ⟨rfl, trivial⟩) ?_
              refine o_mov rfl ?_
              exact s_pred fun _ _ _ hE hI => ⟨(.int .i64 s7), [], _, fun _ e => (by cases e; exact hE _ _ rfl), .refl _, by exact hI, ⟨rfl, rfl⟩⟩
            refine dcons ?_ ?_
            · intro _ _ H252 fr253 hle254 hd255
              obtain ⟨hv257, hg258, hp259⟩ := hd255 2 (by decide)
              obtain ⟨hv260, hg261⟩ := hd255 3 (by decide)
              refine ⟨_, (rd x1 s7).bind some, by rw [h25]; rfl, fun _ => ?_⟩
              refine s_env (env' := [(14, .slice a1_0 x1.length c1_0), (15, .int .i64 s7)]) (by exact ⟨congrArg some hv257, congrArg some hv260, trivial⟩) ?_
              refine o_ixf hp259 rfl rfl fun y20 bk263 of264 h262 hc265 => ?_
              obtain rfl := Option.some.inj (h25.symm.trans h262)
              exact s_pred fun _ _ _ hE hI => ⟨(.pointer (some ⟨bk263, of264, none⟩)), [], _, fun _ e => (by cases e; exact hE _ _ rfl), .refl _, by exact hI, ⟨bk263, of264, rfl, rfl, hc265⟩⟩
            refine dcons ?_ ?_
            · intro _ _ H268 fr269 hle270 hd271
              obtain ⟨bk273, of274, hv275, hg276, hp277⟩ := hd271 4 (by decide)
              refine ⟨_, some (), rfl, fun _ => ?_⟩
              refine s_env (env' := [(16, .pointer (some ⟨bk273, of274, none⟩))]) (by exact ⟨congrArg some hv275, trivial⟩) ?_
              refine o_ldH 0 hp277 rfl rfl rfl ?_
              exact s_pred fun _ _ _ hE hI => ⟨(.agg #[.int .i64 y20.Switch, .int .i64 y20.Port]), [], _, fun _ e => (by cases e; exact hE _ _ rfl), .refl _, by exact hI, ⟨rfl, rfl⟩⟩
            refine dcons ?_ ?_
            · intro _ _ H280 fr281 hle282 hd283
              obtain ⟨hv285, hg286⟩ := hd283 1 (by decide)
              obtain ⟨hv287, hg288⟩ := hd283 5 (by decide)
              refine ⟨_, some (), rfl, fun _ => ?_⟩
              refine s_env (env' := [(13, .agg #[.int .i64 x0.A.Switch, .int .i64 x0.A.Port]), (17, .agg #[.int .i64 y20.Switch, .int .i64 y20.Port])]) (by exact ⟨congrArg some hv285, congrArg some hv287, trivial⟩) ?_
              refine o_eqS x0.A y20 rfl rfl ?_
              exact s_pred fun _ _ _ hE hI => ⟨(.bool (decide (x0.A = y20))), [], _, fun _ e => (by cases e; exact hE _ _ rfl), .refl _, by exact hI, ⟨rfl, rfl⟩⟩
            refine dcons ?_ ?_
            · intro _ _ H291 fr292 hle293 hd294
              obtain ⟨hv296, hg297⟩ := hd294 6 (by decide)
              refine ⟨_, some (), rfl, fun _ => ?_⟩
              refine s_env (env' := [(18, .bool (decide (x0.A = y20)))]) (by exact ⟨congrArg some hv296, trivial⟩) ?_
              refine o_mov rfl ?_
              exact s_pred fun _ _ _ hE hI => ⟨(.bool (decide (x0.A = y20))), [], _, fun _ e => (by cases e; exact hE _ _ rfl), .refl _, by exact hI, ⟨rfl, rfl⟩⟩
            refine dcons ?_ ?_
            · intro _ _ H300 fr301 hle302 hd303
              obtain ⟨hv305, hg306⟩ := hd303 7 (by decide)
              refine ⟨_, some (), rfl, fun _ => ?_⟩
              refine s_env (env' := [(19, .bool (decide (x0.A = y20))), (2, .pointer (some ⟨b1, 0, none⟩))]) (by exact ⟨congrArg some hv305, rfl, trivial⟩) ?_
              refine s_want rfl rfl h26 ?_
              refine o_fa rfl ?_
              exact s_pred fun _ _ _ hE hI => ⟨(.pointer (some ⟨b1, 2, none⟩)), [], _, fun _ e => (by cases e; exact hE _ _ rfl), .refl _, by exact hI, ⟨rfl, rfl⟩⟩
            refine dcons ?_ ?_
            · intro _ _ H309 fr310 hle311 hd312
              obtain ⟨hv314, hg315⟩ := hd312 7 (by decide)
              obtain ⟨hv316, hg317⟩ := hd312 8 (by decide)
              refine ⟨_, some (), rfl, fun _ => ?_⟩
              refine s_env (env' := [(19, .bool (decide (x0.A = y20))), (20, .pointer (some ⟨b1, 2, none⟩))]) (by exact ⟨congrArg some hv314, congrArg some hv316, trivial⟩) ?_
              refine s_want rfl rfl h26 ?_
              refine o_ld 0 rfl rfl rfl ?_
              exact s_pred fun _ _ _ hE hI => ⟨(.agg #[.int .i64 x0.B.Switch, .int .i64 x0.B.Port]), [], _, fun _ e => (by cases e; exact hE _ _ rfl), .refl _, by exact hI, ⟨rfl, rfl⟩⟩
            refine dcons ?_ ?_
            · intro _ _ H320 fr321 hle322 hd323
              have hs325 := RSl.mono hle322 hs12
              obtain ⟨hv326, hg327⟩ := hd323 7 (by decide)
              refine ⟨_, some (), rfl, fun _ => ?_⟩
              refine s_env (env' := [(19, .bool (decide (x0.A = y20))), (1, .slice a1_0 x1.length c1_0)]) (by exact ⟨congrArg some hv326, rfl, trivial⟩) ?_
              refine s_want rfl rfl h26 ?_
              refine o_mov rfl ?_
              exact s_pred fun _ _ _ hE hI => ⟨(.slice a1_0 x1.length c1_0), [], _, fun _ e => (by cases e; exact hE _ _ rfl), .refl _, by exact hI, ⟨rfl, rfl, hs325⟩⟩
            refine dcons ?_ ?_
            · intro _ _ H330 fr331 hle332 hd333
              obtain ⟨hv335, hg336⟩ := hd333 7 (by decide)
              refine ⟨_, some (), rfl, fun _ => ?_⟩
              refine s_env (env' := [(19, .bool (decide (x0.A = y20))), (5, .int .i64 s7)]) (by exact ⟨congrArg some hv335, rfl, trivial⟩) ?_
              refine s_want rfl rfl h26 ?_
              refine o_mov rfl ?_
              exact s_pred fun _ _ _ hE hI => ⟨(.int .i64 s7), [], _, fun _ e => (by cases e; exact hE _ _ rfl), .refl _, by exact hI, ⟨rfl, rfl⟩⟩
            refine dcons ?_ ?_
            · intro _ _ H339 fr340 hle341 hd342
              obtain ⟨hv344, hg345⟩ := hd342 7 (by decide)
              obtain ⟨hv346, hg347, hp348⟩ := hd342 10 (by decide)
              obtain ⟨hv349, hg350⟩ := hd342 11 (by decide)
              refine ⟨_, (rd x1 s7).bind some, by rw [h210]; rfl, fun _ => ?_⟩
              refine s_env (env' := [(19, .bool (decide (x0.A = y20))), (22, .slice a1_0 x1.length c1_0), (23, .int .i64 s7)]) (by exact ⟨congrArg some hv344, congrArg some hv346, congrArg some hv349, trivial⟩) ?_
              refine s_want rfl rfl h26 ?_
              refine o_ixf hp348 rfl rfl fun y205 bk352 of353 h351 hc354 => ?_
              obtain rfl := Option.some.inj (h210.symm.trans h351)
              exact s_pred fun _ _ _ hE hI => ⟨(.pointer (some ⟨bk352, of353, none⟩)), [], _, fun _ e => (by cases e; exact hE _ _ rfl), .refl _, by exact hI, ⟨bk352, of353, rfl, rfl, hc354⟩⟩
            refine dcons ?_ ?_
            · intro _ _ H357 fr358 hle359 hd360
              obtain ⟨hv362, hg363⟩ := hd360 7 (by decide)
              obtain ⟨bk364, of365, hv366, hg367, hp368⟩ := hd360 12 (by decide)
              refine ⟨_, some (), rfl, fun _ => ?_⟩
              refine s_env (env' := [(19, .bool (decide (x0.A = y20))), (24, .pointer (some ⟨bk364, of365, none⟩))]) (by exact ⟨congrArg some hv362, congrArg some hv366, trivial⟩) ?_
              refine s_want rfl rfl h26 ?_
              refine o_ldH 0 hp368 rfl rfl rfl ?_
              exact s_pred fun _ _ _ hE hI => ⟨(.agg #[.int .i64 y205.Switch, .int .i64 y205.Port]), [], _, fun _ e => (by cases e; exact hE _ _ rfl), .refl _, by exact hI, ⟨rfl, rfl⟩⟩
            refine dcons ?_ ?_
            · intro _ _ H371 fr372 hle373 hd374
              obtain ⟨hv376, hg377⟩ := hd374 7 (by decide)
              obtain ⟨hv378, hg379⟩ := hd374 9 (by decide)
              obtain ⟨hv380, hg381⟩ := hd374 13 (by decide)
              refine ⟨_, some (), rfl, fun _ => ?_⟩
              refine s_env (env' := [(19, .bool (decide (x0.A = y20))), (21, .agg #[.int .i64 x0.B.Switch, .int .i64 x0.B.Port]), (25, .agg #[.int .i64 y205.Switch, .int .i64 y205.Port])]) (by exact ⟨congrArg some hv376, congrArg some hv378, congrArg some hv380, trivial⟩) ?_
              refine s_want rfl rfl h26 ?_
              refine o_eqS x0.B y205 rfl rfl ?_
              exact s_pred fun _ _ _ hE hI => ⟨(.bool (decide (x0.B = y205))), [], _, fun _ e => (by cases e; exact hE _ _ rfl), .refl _, by exact hI, ⟨rfl, rfl⟩⟩
            refine dcons ?_ ?_
            · intro _ _ H384 fr385 hle386 hd387
              obtain ⟨hv389, hg390⟩ := hd387 7 (by decide)
              obtain ⟨hv391, hg392⟩ := hd387 14 (by decide)
              refine ⟨_, some (), rfl, fun _ => ?_⟩
              refine s_env (env' := [(19, .bool (decide (x0.A = y20))), (26, .bool (decide (x0.B = y205)))]) (by exact ⟨congrArg some hv389, congrArg some hv391, trivial⟩) ?_
              refine o_pickF rfl h26 rfl ?_
              exact s_pred fun _ _ _ hE hI => ⟨(.bool (decide (x0.B = y205))), [], _, fun _ e => (by cases e; exact hE _ _ rfl), .refl _, by exact hI, ⟨rfl, rfl⟩⟩
            exact dnil
          · intro V395 G396 H393 hle394 hF397
            have hs398 := RSl.mono hle394 hs12
            obtain ⟨hv399, hg400⟩ := hF397 15 (show 15 < 16 by decide)
            refine s_env (env' := [(27, .bool (decide (x0.B = y205))), (1, .slice a1_0 x1.length c1_0), (2, .pointer (some ⟨b1, 0, none⟩)), (5, .int .i64 s7), (6, .int .i64 s7), (7, .slice a1_0 x1.length c1_0), (8, .int .i64 (x1.length : Int)), (9, .bool (decide (s7 < (x1.length : Int))))]) (by exact ⟨congrArg some hv399, rfl, rfl, rfl, rfl, rfl, rfl, rfl, trivial⟩) ?_
            refine s_own (List.sublist_append_left _ _) ?_
            refine s_done ?_
            exact s_env (by exact ⟨rfl, rfl, rfl, rfl, trivial⟩) (s_own (by exact (.cons_cons _ .slnil)) (J19 (decide (x0.B = y205)) _ _ _ ⟨rfl, rfl, hle394⟩))
    · refine s_exit rfl ?_
      exact s_env (by exact trivial) (s_own (by exact (.cons _ .slnil)) (J6 () _ _ _ ⟨rfl, rfl, hle11⟩))

/-! catenary/catenaryref20.Second -/
def catenaryref20_Second_l0 (k : Nat) (x0 : (List Link)) (y1 : (List End) × Bool) : Nat → (List Link) × Int → Option ((List Link))
  | 0, _ => none
  | q41 + 1, s36 =>
    if (decide (s36.2 < (x0.length : Int))) = true then
      (rd x0 s36.2).bind fun y48 =>
      (catenaryref20_on k y48 y1.1).bind fun y53 =>
      if (!y53) = true then
        (rd x0 s36.2).bind fun y56 =>
        (app s36.1 ([y56] : List Link)).bind fun _ =>
        catenaryref20_Second_l0 k x0 y1 q41 ((s36.1 ++ ([y56] : List Link)), w64 (s36.2 + 1))
      else
        catenaryref20_Second_l0 k x0 y1 q41 (s36.1, w64 (s36.2 + 1))
    else
      some s36.1
def catenaryref20_Second (k : Nat) (x0 : (List Link)) (x1 : Int) : Option ((List End) × Bool) :=
  (catenaryref20_First k x0 x1).bind fun y1 =>
  if (!y1.2) = true then
    some (([] : List End), false)
  else
    (catenaryref20_Second_l0 k x0 y1 k (([] : List Link), 0)).bind fun p13 =>
    (catenaryref20_First k p13 x1).bind fun y21 =>
    some (y21.1, y21.2)
theorem fn_42 : Try.prog.funcs[42]? = some Try.f42 := by kernel_rfl
set_option maxRecDepth 100000 in
set_option maxHeartbeats 4000000 in
theorem catenaryref20_Second_ok (k : Nat) (H : Heap) (x0 : (List Link)) (a0_0 : Option Addr) (c0_0 : Nat) (hx0_0 : RSl H a0_0 c0_0 x0) (x1 : Int) {r : (List End) × Bool} (hr : catenaryref20_Second k x0 x1 = some r) :
    Fn Try.prog 42 [.slice a0_0 x0.length c0_0, .int .i64 x1] H [] fun H' v out => ∃ a0 c0, v = .tuple #[.slice a0 r.1.length c0, .bool r.2] ∧ out = [.osl (.slice a0 r.1.length c0) 2 26 (r.1.map GoE.enc)] := by
  refine fn_of_sim (args := [.slice a0_0 x0.length c0_0, .int .i64 x1]) (n := 43) (Φ := fun r H' v out => ∃ a0 c0, v = .tuple #[.slice a0 r.1.length c0, .bool r.2] ∧ out = [.osl (.slice a0 r.1.length c0) 2 26 (r.1.map GoE.enc)]) hr fn_42 rfl rfl rfl fun w => ?_
  refine s_eq (by rw [catenaryref20_Second]) ?_
  refine s_seq ?_
  refine s_region ?_
  refine o_asg rfl ?_
  refine o_asg rfl ?_
  refine s_done ?_
  refine s_seq ?_
  refine s_region ?_
  refine o_mov rfl ?_
  refine o_mov rfl ?_
  refine s_bg fun y1 h2 => ?_
  refine s_call [] _ rfl rfl (.refl _) (catenaryref20_First_ok k _ x0 _ _ hx0_0 x1 h2) ?_
  rintro _ H6 _ hle7 ⟨a3, c4, rfl, rfl⟩
  have hs8 := RSl.mono hle7 hx0_0
  have hA9 : All2 (GoT.rep H6) (y1.1.map GoE.enc) y1.1 := all2_enc _
  refine o_mov rfl ?_
  refine o_ext rfl rfl ?_
  refine o_ext rfl rfl ?_
  refine o_asg rfl ?_
  refine o_asg rfl ?_
  refine s_done ?_
  refine s_seq ?_
  refine s_seq ?_
  refine s_region ?_
  refine o_mov rfl ?_
  refine o_not rfl ?_
  refine s_done ?_
  refine s_cond rfl (fun h10 => ?_) (fun h10 => ?_)
  · refine s_seq ?_
    refine s_region ?_
    refine o_asg rfl ?_
    refine o_asg rfl ?_
    refine s_done ?_
    refine s_nilOc (sz := 2) (t := 26) ?_
    have hA11 : All2 (GoT.rep H6) [] ([] : List End) := all2_nil
    exact s_retv (xs := [.tmp 4, .tmp 5]) (vs := [.slice none ([] : List End).length 0, .bool false]) [.osl (.slice none ([] : List End).length 0) 2 26 []] fn_42 rfl ⟨rv_tmp rfl, rv_tmp rfl, trivial⟩ (.cons _ (.cons_cons _ .slnil)) ⟨_, _, rfl, (congrArg (fun z => [Res.osl _ _ _ z]) (all2_flat hA11))⟩
  · refine s_skip ?_
    refine s_seq ?_
    refine s_region ?_
    refine o_asg rfl ?_
    refine s_done ?_
    refine s_seq ?_
    refine s_seq ?_
    refine s_region ?_
    refine o_asg rfl ?_
    refine s_done ?_
    refine s_join (fun p13 env own H' => ∃ a15 c16 ls17, env = [(1, .int .i64 x1), (8, .slice a15 p13.length c16)] ∧ own = [.osl (.slice a15 p13.length c16) 4 40 ls17] ∧ Hle H6 H' ∧ All2 (GoT.rep H') ls17 p13) ?_ ?_
    · rintro p13 _ _ H19 ⟨a15, c16, ls17, rfl, rfl, hle20, hA18⟩
      refine s_seq ?_
      refine s_region ?_
      refine o_mov rfl ?_
      refine o_mov rfl ?_
      refine s_bg fun y21 h22 => ?_
      refine s_callL (Φ := fun v out => ∃ a0 c0, v = .tuple #[.slice a0 y21.1.length c0, .bool y21.2] ∧ out = [.osl (.slice a0 y21.1.length c0) 2 26 (y21.1.map GoE.enc)]) [] _ rfl rfl (.refl _) (fun H' hle hl => catenaryref20_First_ok k _ p13 _ _ (lent_rsl (hl _ (List.mem_of_getElem? (i := 0) rfl)) hA18 hle).2 x1 h22) ?_
      rintro _ _ ⟨a23, c24, rfl, rfl⟩
      have hA26 : All2 (GoT.rep H19) (y21.1.map GoE.enc) y21.1 := all2_enc _
      refine o_ext rfl rfl ?_
      refine o_ext rfl rfl ?_
      refine o_asg rfl ?_
      refine o_asg rfl ?_
      refine s_done ?_
      exact s_retv (xs := [.tmp 4, .tmp 5]) (vs := [.slice a23 y21.1.length c24, .bool y21.2]) [.osl (.slice a23 y21.1.length c24) 2 26 (y21.1.map GoE.enc)] fn_42 rfl ⟨rv_tmp rfl, rv_tmp rfl, trivial⟩ (.cons _ (.cons_cons _ .slnil)) ⟨_, _, rfl, (congrArg (fun z => [Res.osl _ _ _ z]) (all2_flat hA26))⟩
    · intro J27
      refine s_block ?_
      refine s_nilOc (sz := 4) (t := 40) ?_
      have hA29 : All2 (GoT.rep H6) [] ([] : List Link) := all2_nil
      refine s_env (env' := [(0, .slice a0_0 x0.length c0_0), (1, .int .i64 x1), (6, .slice a3 y1.1.length c4), (8, .slice none ([] : List Link).length 0), (9, .int .i64 0)]) (by exact ⟨rfl, rfl, rfl, rfl, rfl, trivial⟩) ?_
      refine s_own (own' := [.osl (.slice a3 y1.1.length c4) 2 26 (y1.1.map GoE.enc), .osl (.slice none ([] : List Link).length 0) 4 40 []]) (.cons_cons _ (.cons_cons _ .slnil)) ?_
      refine s_loopn (fun q s36 => catenaryref20_Second_l0 k x0 y1 q s36) (fun s36 env own H' => ∃ a37 c38 ls39, env = [(0, .slice a0_0 x0.length c0_0), (1, .int .i64 x1), (6, .slice a3 y1.1.length c4), (8, .slice a37 s36.1.length c38), (9, .int .i64 s36.2)] ∧ own = [.osl (.slice a3 y1.1.length c4) 2 26 (y1.1.map GoE.enc), .osl (.slice a37 s36.1.length c38) 4 40 ls39] ∧ Hle H6 H' ∧ All2 (GoT.rep H') ls39 s36.1) (fun _ => rfl) ?_ k (([] : List Link), 0) ⟨_, _, _, rfl, rfl, .refl _, hA29⟩
      rintro q41 ih42 s36 _ _ H43 ⟨a37, c38, ls39, rfl, rfl, hle44, hA40⟩
      refine s_eq (by rw [catenaryref20_Second_l0]) ?_
      have hs45 := RSl.mono hle44 hs8
      have hA46 := All2.mono (fun _ _ => GoT.mono hle44) hA9
      refine s_seq ?_
      refine s_seq ?_
      refine s_region ?_
      refine o_mov rfl ?_
      refine o_mov rfl ?_
      refine o_lenS rfl ?_
      refine o_lt rfl rfl ?_
      refine s_done ?_
      refine s_cond rfl (fun h47 => ?_) (fun h47 => ?_)
      · refine s_skip ?_
        refine s_seq ?_
        refine s_block ?_
        refine s_seq ?_
        refine s_region ?_
        refine o_mov rfl ?_
        refine o_mov rfl ?_
        refine o_ixf hs45 rfl rfl fun y48 bk50 of51 h49 hc52 => ?_
        refine o_ldH 0 hc52 rfl rfl rfl ?_
        refine o_mov rfl ?_
        refine s_bg fun y53 h54 => ?_
        refine s_callL (Φ := fun v out => v = _ ∧ out = []) [] _ rfl rfl (.refl _) (fun H' hle hl => catenaryref20_on_ok k _ y48 y1.1 _ _ (lent_rsl (hl _ (List.mem_of_getElem? (i := 0) rfl)) hA46 hle).2 h54) ?_
        rintro _ _ ⟨rfl, rfl⟩
        refine s_ownN ?_
        refine o_not rfl ?_
        refine s_done ?_
        refine s_cond rfl (fun h55 => ?_) (fun h55 => ?_)
        · refine s_region ?_
          refine o_mov rfl ?_
          refine o_mov rfl ?_
          refine o_mov rfl ?_
          refine o_ixf hs45 rfl rfl fun y56 bk58 of59 h57 hc60 => ?_
          refine o_ldH 0 hc60 rfl rfl rfl ?_
          refine o_bsl (xs := [.tmp 35]) rfl rfl (by simp only [List.mem_cons, List.not_mem_nil, or_false, forall_eq_or_imp, forall_eq]; exact ⟨rfl, rfl⟩) rfl rfl fun b61 => ?_
          have hA62 : All2 (GoT.rep H43) [[.int .i64 y56.A.Switch, .int .i64 y56.A.Port, .int .i64 y56.B.Switch, .int .i64 y56.B.Port]] ([y56] : List Link) := all2_enc (([y56] : List Link))
          refine o_appO 1 2 rfl rfl rfl hA40 rfl hA62 fun a64 c65 h66 hA67 => ?_
          refine o_asg rfl ?_
          refine s_done ?_
          refine s_inBlock ?_
          refine s_region ?_
          refine o_mov rfl ?_
          refine o_add rfl rfl ?_
          refine o_asg rfl ?_
          refine s_done ?_
          exact s_env (by exact ⟨rfl, rfl, rfl, rfl, rfl, trivial⟩) (s_own (by exact (.cons_cons _ (.cons_cons _ (.cons _ .slnil)))) (ih42 ((s36.1 ++ ([y56] : List Link)), w64 (s36.2 + 1)) _ _ _ ⟨_, _, _, rfl, rfl, hle44, hA67⟩))
        · refine s_skip ?_
          refine s_inBlock ?_
          refine s_region ?_
          refine o_mov rfl ?_
          refine o_add rfl rfl ?_
          refine o_asg rfl ?_
          refine s_done ?_
          exact s_env (by exact ⟨rfl, rfl, rfl, rfl, rfl, trivial⟩) (s_own (by exact (.cons_cons _ (.cons_cons _ .slnil))) (ih42 (s36.1, w64 (s36.2 + 1)) _ _ _ ⟨_, _, _, rfl, rfl, hle44, hA40⟩))
      · refine s_exit rfl ?_
        exact s_env (by exact ⟨rfl, rfl, trivial⟩) (s_own (by exact (.cons _ (.cons_cons _ .slnil))) (J27 s36.1 _ _ _ ⟨_, _, _, rfl, rfl, hle44, hA40⟩))

/-! catenary/catenaryref20.Below -/
def catenaryref20_Below_l2 (k : Nat) (x0 : (List End)) : Nat → (Bool × Bool × Bool × Bool × Bool × Bool × Bool × Int) → Option (Bool × Bool × Bool × Bool × Bool × Bool × Bool)
  | 0, _ => none
  | q63 + 1, s62 =>
    if (((decide (s62.2.2.2.2.2.2.2 ≤ 6)) && decide (s62.2.2.2.2.2.2.2 < (x0.length : Int)))) = true then
      (rd x0 s62.2.2.2.2.2.2.2).bind fun y69 =>
      (if (decide (y69.Switch ≥ 1)) = true then
          if (decide (y69.Switch ≤ 6)) = true then
            (rd ([s62.1, s62.2.1, s62.2.2.1, s62.2.2.2.1, s62.2.2.2.2.1, s62.2.2.2.2.2.1, s62.2.2.2.2.2.2.1] : List Bool) y69.Switch).bind fun y85 =>
            some y85
          else
            some false
        else
          some false).bind fun p74 =>
      if (p74) = true then
        (rd ([s62.1, s62.2.1, s62.2.2.1, s62.2.2.2.1, s62.2.2.2.2.1, s62.2.2.2.2.2.1, s62.2.2.2.2.2.2.1] : List Bool) s62.2.2.2.2.2.2.2).bind fun y79 =>
        catenaryref20_Below_l2 k x0 q63 ((if s62.2.2.2.2.2.2.2 = 0 then true else s62.1), (if s62.2.2.2.2.2.2.2 = 1 then true else s62.2.1), (if s62.2.2.2.2.2.2.2 = 2 then true else s62.2.2.1), (if s62.2.2.2.2.2.2.2 = 3 then true else s62.2.2.2.1), (if s62.2.2.2.2.2.2.2 = 4 then true else s62.2.2.2.2.1), (if s62.2.2.2.2.2.2.2 = 5 then true else s62.2.2.2.2.2.1), (if s62.2.2.2.2.2.2.2 = 6 then true else s62.2.2.2.2.2.2.1), w64 (s62.2.2.2.2.2.2.2 + 1))
      else
        catenaryref20_Below_l2 k x0 q63 (s62.1, s62.2.1, s62.2.2.1, s62.2.2.2.1, s62.2.2.2.2.1, s62.2.2.2.2.2.1, s62.2.2.2.2.2.2.1, w64 (s62.2.2.2.2.2.2.2 + 1))
    else
      some (s62.1, s62.2.1, s62.2.2.1, s62.2.2.2.1, s62.2.2.2.2.1, s62.2.2.2.2.2.1, s62.2.2.2.2.2.2.1)
def catenaryref20_Below_l1 (k : Nat) (x0 : (List End)) : Nat → (Bool × Bool × Bool × Bool × Bool × Bool × Bool × Int) → Option (Bool × Bool × Bool × Bool × Bool × Bool × Bool)
  | 0, _ => none
  | q51 + 1, s50 =>
    if (decide (s50.2.2.2.2.2.2.2 < 6)) = true then
      (catenaryref20_Below_l2 k x0 k (s50.1, s50.2.1, s50.2.2.1, s50.2.2.2.1, s50.2.2.2.2.1, s50.2.2.2.2.2.1, s50.2.2.2.2.2.2.1, 1)).bind fun p57 =>
      catenaryref20_Below_l1 k x0 q51 (p57.1, p57.2.1, p57.2.2.1, p57.2.2.2.1, p57.2.2.2.2.1, p57.2.2.2.2.2.1, p57.2.2.2.2.2.2, w64 (s50.2.2.2.2.2.2.2 + 1))
    else
      some (s50.1, s50.2.1, s50.2.2.1, s50.2.2.2.1, s50.2.2.2.2.1, s50.2.2.2.2.2.1, s50.2.2.2.2.2.2.1)
def catenaryref20_Below_l0 (k : Nat) (x0 : (List End)) (p9 : Bool × Bool × Bool × Bool × Bool × Bool × Bool) : Nat → (List Int) × Int → Option ((List Int))
  | 0, _ => none
  | q34 + 1, s29 =>
    if (decide (s29.2 ≤ 6)) = true then
      (rd ([p9.1, p9.2.1, p9.2.2.1, p9.2.2.2.1, p9.2.2.2.2.1, p9.2.2.2.2.2.1, p9.2.2.2.2.2.2] : List Bool) s29.2).bind fun y39 =>
      if (y39) = true then
        (app s29.1 ([s29.2] : List Int)).bind fun _ =>
        catenaryref20_Below_l0 k x0 p9 q34 ((s29.1 ++ ([s29.2] : List Int)), w64 (s29.2 + 1))
      else
        catenaryref20_Below_l0 k x0 p9 q34 (s29.1, w64 (s29.2 + 1))
    else
      some s29.1
def catenaryref20_Below (k : Nat) (x0 : (List End)) (x1 : Int) : Option (List Int) :=
  if (((decide (x1 < 1)) || decide (x1 > 6))) = true then
    some ([] : List Int)
  else
    (rd ([false, false, false, false, false, false, false] : List Bool) x1).bind fun y6 =>
    (catenaryref20_Below_l1 k x0 k ((if x1 = 0 then true else false), (if x1 = 1 then true else false), (if x1 = 2 then true else false), (if x1 = 3 then true else false), (if x1 = 4 then true else false), (if x1 = 5 then true else false), (if x1 = 6 then true else false), 0)).bind fun p9 =>
    (catenaryref20_Below_l0 k x0 p9 k (([] : List Int), 1)).bind fun p12 =>
    some p12
theorem fn_45 : Try.prog.funcs[45]? = some Try.f45 := by kernel_rfl
set_option maxRecDepth 100000 in
set_option maxHeartbeats 4000000 in
theorem catenaryref20_Below_ok (k : Nat) (H : Heap) (x0 : (List End)) (a0_0 : Option Addr) (c0_0 : Nat) (hx0_0 : RSl H a0_0 c0_0 x0) (x1 : Int) {r : (List Int)} (hr : catenaryref20_Below k x0 x1 = some r) :
    Fn Try.prog 45 [.slice a0_0 x0.length c0_0, .int .i64 x1] H [] fun H' v out => ∃ a0 c0, v = .slice a0 r.length c0 ∧ out = [.osl (.slice a0 r.length c0) 1 3 (r.map GoE.enc)] := by
  refine fn_of_sim (args := [.slice a0_0 x0.length c0_0, .int .i64 x1]) (n := 63) (Φ := fun r H' v out => ∃ a0 c0, v = .slice a0 r.length c0 ∧ out = [.osl (.slice a0 r.length c0) 1 3 (r.map GoE.enc)]) hr fn_45 rfl rfl rfl fun w => ?_
  refine s_eq (by rw [catenaryref20_Below]) ?_
  refine s_seq ?_
  refine s_region ?_
  refine o_asg rfl ?_
  refine s_done ?_
  refine s_seq ?_
  refine s_seq ?_
  refine s_region ?_
  refine s_mid [(0, .slice a0_0 x0.length c0_0), (1, .int .i64 x1), (16, .bool ((decide (x1 < 1)) || decide (x1 > 6)))] [] ?_ ?_
  · refine s_cond rfl (fun h1 => ?_) (fun h1 => ?_)
    · refine s_seq ?_
      refine s_region ?_
      refine o_asg rfl ?_
      refine s_done ?_
      refine s_nilOc (sz := 1) (t := 3) ?_
      have hA2 : All2 (GoT.rep H) [] ([] : List Int) := all2_nil
      exact s_retv (xs := [.tmp 4]) (vs := [.slice none ([] : List Int).length 0]) [.osl (.slice none ([] : List Int).length 0) 1 3 []] fn_45 rfl ⟨rv_tmp rfl, trivial⟩ (.cons_cons _ .slnil) ⟨_, _, rfl, (congrArg (fun z => [Res.osl _ _ _ z]) (all2_flat hA2))⟩
    · refine s_skip ?_
      refine s_seq ?_
      refine s_region ?_
      refine o_alloc fun b4 => ?_
      refine s_done ?_
      refine s_seq ?_
      refine s_region ?_
      refine o_mov rfl ?_
      refine o_ixD ([false, false, false, false, false, false, false] : List Bool) rfl rfl rfl fun y6 h7 => ?_
      refine o_st 0 rfl rfl rfl rfl rfl (getA_lt (off := 0) (len := 7) (g := Value.bool) rfl h7) ?_
      refine s_ownE (own' := [.blk b4 (rowObj [.bool (if x1 = 0 then true else false), .bool (if x1 = 1 then true else false), .bool (if x1 = 2 then true else false), .bool (if x1 = 3 then true else false), .bool (if x1 = 4 then true else false), .bool (if x1 = 5 then true else false), .bool (if x1 = 6 then true else false)] 128)]) (by rcases rd_in7 h7 with h8 | h8 | h8 | h8 | h8 | h8 | h8 <;> (rw [h8]; rfl)) ?_
      refine s_done ?_
      refine s_seq ?_
      refine s_seq ?_
      refine s_region ?_
      refine o_asg rfl ?_
      refine s_done ?_
      refine s_join (fun p9 env own H' => env = [(5, .pointer (some ⟨b4, 0, none⟩))] ∧ own = [.blk b4 (rowObj [.bool p9.1, .bool p9.2.1, .bool p9.2.2.1, .bool p9.2.2.2.1, .bool p9.2.2.2.2.1, .bool p9.2.2.2.2.2.1, .bool p9.2.2.2.2.2.2] 128)] ∧ Hle H H') ?_ ?_
      · rintro p9 _ _ H10 ⟨rfl, rfl, hle11⟩
        refine s_seq ?_
        refine s_region ?_
        refine o_asg rfl ?_
        refine s_done ?_
        refine s_seq ?_
        refine s_seq ?_
        refine s_region ?_
        refine o_asg rfl ?_
        refine s_done ?_
        refine s_join (fun p12 env own H' => ∃ a14 c15 ls16, env = [(9, .slice a14 p12.length c15)] ∧ own = [.osl (.slice a14 p12.length c15) 1 3 ls16] ∧ Hle H10 H' ∧ All2 (GoT.rep H') ls16 p12) ?_ ?_
        · rintro p12 _ _ H18 ⟨a14, c15, ls16, rfl, rfl, hle19, hA17⟩
          refine s_seq ?_
          refine s_region ?_
          refine o_mov rfl ?_
          refine o_asg rfl ?_
          refine s_done ?_
          exact s_retv (xs := [.tmp 4]) (vs := [.slice a14 p12.length c15]) [.osl (.slice a14 p12.length c15) 1 3 ls16] fn_45 rfl ⟨rv_tmp rfl, trivial⟩ (.cons_cons _ .slnil) ⟨_, _, rfl, (congrArg (fun z => [Res.osl _ _ _ z]) (all2_flat hA17))⟩
        · intro J20
          refine s_block ?_
          refine s_nilOc (sz := 1) (t := 3) ?_
          have hA22 : All2 (GoT.rep H10) [] ([] : List Int) := all2_nil
          refine s_env (env' := [(5, .pointer (some ⟨b4, 0, none⟩)), (9, .slice none ([] : List Int).length 0), (10, .int .i64 1)]) (by exact ⟨rfl, rfl, rfl, trivial⟩) ?_
          refine s_own (own' := [.blk b4 (rowObj [.bool p9.1, .bool p9.2.1, .bool p9.2.2.1, .bool p9.2.2.2.1, .bool p9.2.2.2.2.1, .bool p9.2.2.2.2.2.1, .bool p9.2.2.2.2.2.2] 128), .osl (.slice none ([] : List Int).length 0) 1 3 []]) (.cons_cons _ (.cons_cons _ .slnil)) ?_
          refine s_loopn (fun q s29 => catenaryref20_Below_l0 k x0 p9 q s29) (fun s29 env own H' => ∃ a30 c31 ls32, env = [(5, .pointer (some ⟨b4, 0, none⟩)), (9, .slice a30 s29.1.length c31), (10, .int .i64 s29.2)] ∧ own = [.blk b4 (rowObj [.bool p9.1, .bool p9.2.1, .bool p9.2.2.1, .bool p9.2.2.2.1, .bool p9.2.2.2.2.1, .bool p9.2.2.2.2.2.1, .bool p9.2.2.2.2.2.2] 128), .osl (.slice a30 s29.1.length c31) 1 3 ls32] ∧ Hle H10 H' ∧ All2 (GoT.rep H') ls32 s29.1) (fun _ => rfl) ?_ k (([] : List Int), 1) ⟨_, _, _, rfl, rfl, .refl _, hA22⟩
          rintro q34 ih35 s29 _ _ H36 ⟨a30, c31, ls32, rfl, rfl, hle37, hA33⟩
          refine s_eq (by rw [catenaryref20_Below_l0]) ?_
          refine s_seq ?_
          refine s_seq ?_
          refine s_region ?_
          refine o_mov rfl ?_
          refine o_le rfl rfl ?_
          refine s_done ?_
          refine s_cond rfl (fun h38 => ?_) (fun h38 => ?_)
          · refine s_skip ?_
            refine s_seq ?_
            refine s_block ?_
            refine s_seq ?_
            refine s_region ?_
            refine o_mov rfl ?_
            refine o_ixD ([p9.1, p9.2.1, p9.2.2.1, p9.2.2.2.1, p9.2.2.2.2.1, p9.2.2.2.2.2.1, p9.2.2.2.2.2.2] : List Bool) rfl rfl rfl fun y39 h40 => ?_
            refine o_ldD 0 rfl rfl (getA (off := 0) (len := 7) (g := Value.bool) rfl h40) ?_
            refine s_done ?_
            refine s_cond rfl (fun h41 => ?_) (fun h41 => ?_)
            · refine s_region ?_
              refine o_mov rfl ?_
              refine o_mov rfl ?_
              refine o_bsl (xs := [.tmp 59]) rfl rfl (by simp only [List.mem_cons, List.not_mem_nil, or_false, forall_eq_or_imp, forall_eq]; exact ⟨rfl, rfl⟩) rfl rfl fun b42 => ?_
              have hA43 : All2 (GoT.rep H36) [[.int .i64 s29.2]] ([s29.2] : List Int) := all2_enc (([s29.2] : List Int))
              refine o_appO 1 2 rfl rfl rfl hA33 rfl hA43 fun a45 c46 h47 hA48 => ?_
              refine o_asg rfl ?_
              refine s_done ?_
              refine s_inBlock ?_
              refine s_region ?_
              refine o_mov rfl ?_
              refine o_add rfl rfl ?_
              refine o_asg rfl ?_
              refine s_done ?_
              exact s_env (by exact ⟨rfl, rfl, rfl, trivial⟩) (s_own (by exact (.cons_cons _ (.cons_cons _ (.cons _ .slnil)))) (ih35 ((s29.1 ++ ([s29.2] : List Int)), w64 (s29.2 + 1)) _ _ _ ⟨_, _, _, rfl, rfl, hle37, hA48⟩))
            · refine s_skip ?_
              refine s_inBlock ?_
              refine s_region ?_
              refine o_mov rfl ?_
              refine o_add rfl rfl ?_
              refine o_asg rfl ?_
              refine s_done ?_
              exact s_env (by exact ⟨rfl, rfl, rfl, trivial⟩) (s_own (by exact (.cons_cons _ (.cons_cons _ .slnil))) (ih35 (s29.1, w64 (s29.2 + 1)) _ _ _ ⟨_, _, _, rfl, rfl, hle37, hA33⟩))
          · refine s_exit rfl ?_
            exact s_env (by exact ⟨rfl, trivial⟩) (s_own (by exact (.cons _ (.cons_cons _ .slnil))) (J20 s29.1 _ _ _ ⟨_, _, _, rfl, rfl, hle37, hA33⟩))
      · intro J49
        refine s_block ?_
        refine s_env (env' := [(0, .slice a0_0 x0.length c0_0), (5, .pointer (some ⟨b4, 0, none⟩)), (6, .int .i64 0)]) (by exact ⟨rfl, rfl, rfl, trivial⟩) ?_
        refine s_own (own' := [.blk b4 (rowObj [.bool (if x1 = 0 then true else false), .bool (if x1 = 1 then true else false), .bool (if x1 = 2 then true else false), .bool (if x1 = 3 then true else false), .bool (if x1 = 4 then true else false), .bool (if x1 = 5 then true else false), .bool (if x1 = 6 then true else false)] 128)]) (.cons_cons _ .slnil) ?_
        refine s_loopn (fun q s50 => catenaryref20_Below_l1 k x0 q s50) (fun s50 env own H' => env = [(0, .slice a0_0 x0.length c0_0), (5, .pointer (some ⟨b4, 0, none⟩)), (6, .int .i64 s50.2.2.2.2.2.2.2)] ∧ own = [.blk b4 (rowObj [.bool s50.1, .bool s50.2.1, .bool s50.2.2.1, .bool s50.2.2.2.1, .bool s50.2.2.2.2.1, .bool s50.2.2.2.2.2.1, .bool s50.2.2.2.2.2.2.1] 128)] ∧ Hle H H') (fun _ => rfl) ?_ k ((if x1 = 0 then true else false), (if x1 = 1 then true else false), (if x1 = 2 then true else false), (if x1 = 3 then true else false), (if x1 = 4 then true else false), (if x1 = 5 then true else false), (if x1 = 6 then true else false), 0) ⟨rfl, rfl, .refl _⟩
        rintro q51 ih52 s50 _ _ H53 ⟨rfl, rfl, hle54⟩
        refine s_eq (by rw [catenaryref20_Below_l1]) ?_
        have hs55 := RSl.mono hle54 hx0_0
        refine s_seq ?_
        refine s_seq ?_
        refine s_region ?_
        refine o_mov rfl ?_
        refine o_lt rfl rfl ?_
        refine s_done ?_
        refine s_cond rfl (fun h56 => ?_) (fun h56 => ?_)
        · refine s_skip ?_
          refine s_seq ?_
          refine s_block ?_
          refine s_seq ?_
          refine s_region ?_
          refine o_asg rfl ?_
          refine s_done ?_
          refine s_join (fun p57 env own H' => env = [(0, .slice a0_0 x0.length c0_0), (5, .pointer (some ⟨b4, 0, none⟩)), (6, .int .i64 s50.2.2.2.2.2.2.2)] ∧ own = [.blk b4 (rowObj [.bool p57.1, .bool p57.2.1, .bool p57.2.2.1, .bool p57.2.2.2.1, .bool p57.2.2.2.2.1, .bool p57.2.2.2.2.2.1, .bool p57.2.2.2.2.2.2] 128)] ∧ Hle H53 H') ?_ ?_
          · rintro p57 _ _ H58 ⟨rfl, rfl, hle59⟩
            have hs60 := RSl.mono hle59 hs55
            refine s_inBlock ?_
            refine s_region ?_
            refine o_mov rfl ?_
            refine o_add rfl rfl ?_
            refine o_asg rfl ?_
            refine s_done ?_
            exact s_env (by exact ⟨rfl, rfl, rfl, trivial⟩) (s_own (by exact (.cons_cons _ .slnil)) (ih52 (p57.1, p57.2.1, p57.2.2.1, p57.2.2.2.1, p57.2.2.2.2.1, p57.2.2.2.2.2.1, p57.2.2.2.2.2.2, w64 (s50.2.2.2.2.2.2.2 + 1)) _ _ _ ⟨rfl, rfl, (Hle.trans hle54 hle59)⟩))
          · intro J61
            refine s_block ?_
            refine s_env (env' := [(0, .slice a0_0 x0.length c0_0), (5, .pointer (some ⟨b4, 0, none⟩)), (6, .int .i64 s50.2.2.2.2.2.2.2), (7, .int .i64 1)]) (by exact ⟨rfl, rfl, rfl, rfl, trivial⟩) ?_
            refine s_own (own' := [.blk b4 (rowObj [.bool s50.1, .bool s50.2.1, .bool s50.2.2.1, .bool s50.2.2.2.1, .bool s50.2.2.2.2.1, .bool s50.2.2.2.2.2.1, .bool s50.2.2.2.2.2.2.1] 128)]) (.cons_cons _ .slnil) ?_
            refine s_loopn (fun q s62 => catenaryref20_Below_l2 k x0 q s62) (fun s62 env own H' => env = [(0, .slice a0_0 x0.length c0_0), (5, .pointer (some ⟨b4, 0, none⟩)), (6, .int .i64 s50.2.2.2.2.2.2.2), (7, .int .i64 s62.2.2.2.2.2.2.2)] ∧ own = [.blk b4 (rowObj [.bool s62.1, .bool s62.2.1, .bool s62.2.2.1, .bool s62.2.2.2.1, .bool s62.2.2.2.2.1, .bool s62.2.2.2.2.2.1, .bool s62.2.2.2.2.2.2.1] 128)] ∧ Hle H53 H') (fun _ => rfl) ?_ k (s50.1, s50.2.1, s50.2.2.1, s50.2.2.2.1, s50.2.2.2.2.1, s50.2.2.2.2.2.1, s50.2.2.2.2.2.2.1, 1) ⟨rfl, rfl, .refl _⟩
            rintro q63 ih64 s62 _ _ H65 ⟨rfl, rfl, hle66⟩
            refine s_eq (by rw [catenaryref20_Below_l2]) ?_
            have hs67 := RSl.mono hle66 hs55
            refine s_seq ?_
            refine s_seq ?_
            refine s_region ?_
            refine s_mid [(0, .slice a0_0 x0.length c0_0), (5, .pointer (some ⟨b4, 0, none⟩)), (6, .int .i64 s50.2.2.2.2.2.2.2), (7, .int .i64 s62.2.2.2.2.2.2.2), (30, .bool ((decide (s62.2.2.2.2.2.2.2 ≤ 6)) && decide (s62.2.2.2.2.2.2.2 < (x0.length : Int))))] [.blk b4 (rowObj [.bool s62.1, .bool s62.2.1, .bool s62.2.2.1, .bool s62.2.2.2.1, .bool s62.2.2.2.2.1, .bool s62.2.2.2.2.2.1, .bool s62.2.2.2.2.2.2.1] 128)] ?_ ?_
            · refine s_cond rfl (fun h68 => ?_) (fun h68 => ?_)
              · refine s_skip ?_
                refine s_seq ?_
                refine s_block ?_
                refine s_seq ?_
                refine s_region ?_
                refine o_mov rfl ?_
                refine o_mov rfl ?_
                refine o_ixf hs67 rfl rfl fun y69 bk71 of72 h70 hc73 => ?_
                refine o_fa rfl ?_
                refine o_ldH 0 hc73 rfl rfl rfl ?_
                refine o_asg rfl ?_
                refine s_done ?_
                refine s_seq ?_
                refine s_region ?_
                refine s_joinR (fun p74 env own H' => env = [(0, .slice a0_0 x0.length c0_0), (5, .pointer (some ⟨b4, 0, none⟩)), (6, .int .i64 s50.2.2.2.2.2.2.2), (7, .int .i64 s62.2.2.2.2.2.2.2), (48, .bool p74)] ∧ own = [.blk b4 (rowObj [.bool s62.1, .bool s62.2.1, .bool s62.2.2.1, .bool s62.2.2.2.1, .bool s62.2.2.2.2.1, .bool s62.2.2.2.2.2.1, .bool s62.2.2.2.2.2.2.1] 128)] ∧ Hle H65 H') ?_ ?_
                · rintro p74 _ _ H75 ⟨rfl, rfl, hle76⟩
                  have hs77 := RSl.mono hle76 hs67
                  refine s_cond rfl (fun h78 => ?_) (fun h78 => ?_)
                  · refine s_region ?_
                    refine o_mov rfl ?_
                    refine o_ixD ([s62.1, s62.2.1, s62.2.2.1, s62.2.2.2.1, s62.2.2.2.2.1, s62.2.2.2.2.2.1, s62.2.2.2.2.2.2.1] : List Bool) rfl rfl rfl fun y79 h80 => ?_
                    refine o_st 0 rfl rfl rfl rfl rfl (getA_lt (off := 0) (len := 7) (g := Value.bool) rfl h80) ?_
                    refine s_ownE (own' := [.blk b4 (rowObj [.bool (if s62.2.2.2.2.2.2.2 = 0 then true else s62.1), .bool (if s62.2.2.2.2.2.2.2 = 1 then true else s62.2.1), .bool (if s62.2.2.2.2.2.2.2 = 2 then true else s62.2.2.1), .bool (if s62.2.2.2.2.2.2.2 = 3 then true else s62.2.2.2.1), .bool (if s62.2.2.2.2.2.2.2 = 4 then true else s62.2.2.2.2.1), .bool (if s62.2.2.2.2.2.2.2 = 5 then true else s62.2.2.2.2.2.1), .bool (if s62.2.2.2.2.2.2.2 = 6 then true else s62.2.2.2.2.2.2.1)] 128)]) (by rcases rd_in7 h80 with h81 | h81 | h81 | h81 | h81 | h81 | h81 <;> (rw [h81]; rfl)) ?_
                    refine s_done ?_
                    refine s_inBlock ?_
                    refine s_region ?_
                    refine o_mov rfl ?_
                    refine o_add rfl rfl ?_
                    refine o_asg rfl ?_
                    refine s_done ?_
                    exact s_env (by exact ⟨rfl, rfl, rfl, rfl, trivial⟩) (s_own (by exact (.cons_cons _ .slnil)) (ih64 ((if s62.2.2.2.2.2.2.2 = 0 then true else s62.1), (if s62.2.2.2.2.2.2.2 = 1 then true else s62.2.1), (if s62.2.2.2.2.2.2.2 = 2 then true else s62.2.2.1), (if s62.2.2.2.2.2.2.2 = 3 then true else s62.2.2.2.1), (if s62.2.2.2.2.2.2.2 = 4 then true else s62.2.2.2.2.1), (if s62.2.2.2.2.2.2.2 = 5 then true else s62.2.2.2.2.2.1), (if s62.2.2.2.2.2.2.2 = 6 then true else s62.2.2.2.2.2.2.1), w64 (s62.2.2.2.2.2.2.2 + 1)) _ _ _ ⟨rfl, rfl, (Hle.trans hle66 hle76)⟩))
                  · refine s_skip ?_
                    refine s_inBlock ?_
                    refine s_region ?_
                    refine o_mov rfl ?_
                    refine o_add rfl rfl ?_
                    refine o_asg rfl ?_
                    refine s_done ?_
                    exact s_env (by exact ⟨rfl, rfl, rfl, rfl, trivial⟩) (s_own (by exact (.cons_cons _ .slnil)) (ih64 (s62.1, s62.2.1, s62.2.2.1, s62.2.2.2.1, s62.2.2.2.2.1, s62.2.2.2.2.2.1, s62.2.2.2.2.2.2.1, w64 (s62.2.2.2.2.2.2.2 + 1)) _ _ _ ⟨rfl, rfl, (Hle.trans hle66 hle76)⟩))
                · intro J82
                  refine o_mov rfl ?_
                  refine o_ge rfl rfl ?_
                  refine o_mov rfl ?_
                  refine s_split (decide (y69.Switch ≥ 1)) (fun h83 => ?_) (fun h83 => ?_)
                  · refine s_want rfl rfl h83 ?_
                    refine o_mov rfl ?_
                    refine s_want rfl rfl h83 ?_
                    refine o_le rfl rfl ?_
                    refine o_pickT rfl h83 rfl ?_
                    refine o_mov rfl ?_
                    refine s_split (decide (y69.Switch ≤ 6)) (fun h84 => ?_) (fun h84 => ?_)
                    · refine s_want rfl rfl h84 ?_
                      refine o_mov rfl ?_
                      refine s_want rfl rfl h84 ?_
                      refine o_ixD ([s62.1, s62.2.1, s62.2.2.1, s62.2.2.2.1, s62.2.2.2.2.1, s62.2.2.2.2.2.1, s62.2.2.2.2.2.2.1] : List Bool) rfl rfl rfl fun y85 h86 => ?_
                      refine s_want rfl rfl h84 ?_
                      refine o_ldD 0 rfl rfl (getA (off := 0) (len := 7) (g := Value.bool) rfl h86) ?_
                      refine o_pickT rfl h84 rfl ?_
                      exact s_env (by exact ⟨rfl, rfl, rfl, rfl, rfl, trivial⟩) (s_own (by exact (.cons_cons _ .slnil)) (J82 y85 _ _ _ ⟨rfl, rfl, .refl _⟩))
                    · refine s_unwant rfl rfl h84 ?_
                      refine s_unwant rfl rfl h84 ?_
                      refine s_unwant rfl rfl h84 ?_
                      refine o_pickF rfl h84 rfl ?_
                      exact s_env (by exact ⟨rfl, rfl, rfl, rfl, rfl, trivial⟩) (s_own (by exact (.cons_cons _ .slnil)) (J82 false _ _ _ ⟨rfl, rfl, .refl _⟩))
                  · refine s_unwant rfl rfl h83 ?_
                    refine s_unwant rfl rfl h83 ?_
                    refine o_pickF rfl h83 rfl ?_
                    refine o_mov rfl ?_
                    refine s_unwant rfl rfl rfl ?_
                    refine s_unwant rfl rfl rfl ?_
                    refine s_unwant rfl rfl rfl ?_
                    refine o_pickF rfl rfl rfl ?_
                    exact s_env (by exact ⟨rfl, rfl, rfl, rfl, rfl, trivial⟩) (s_own (by exact (.cons_cons _ .slnil)) (J82 false _ _ _ ⟨rfl, rfl, .refl _⟩))
              · refine s_exit rfl ?_
                exact s_env (by exact ⟨rfl, rfl, rfl, trivial⟩) (s_own (by exact (.cons_cons _ .slnil)) (J61 (s62.1, s62.2.1, s62.2.2.1, s62.2.2.2.1, s62.2.2.2.2.1, s62.2.2.2.2.2.1, s62.2.2.2.2.2.2.1) _ _ _ ⟨rfl, rfl, hle66⟩))
            · intro J87
              refine o_mov rfl ?_
              refine o_le rfl rfl ?_
              refine o_mov rfl ?_
              refine s_case (decide (s62.2.2.2.2.2.2.2 ≤ 6)) (fun h88 => ?_) (fun h88 => ?_)
              · refine s_want rfl rfl h88 ?_
                refine o_mov rfl ?_
                refine s_want rfl rfl h88 ?_
                refine o_mov rfl ?_
                refine s_want rfl rfl h88 ?_
                refine o_lenS rfl ?_
                refine s_want rfl rfl h88 ?_
                refine o_lt rfl rfl ?_
                refine o_pickT rfl h88 rfl ?_
                exact s_env (by exact ⟨rfl, rfl, rfl, rfl, lkb rfl (by first | simp only [h88, Bool.true_and, Bool.and_true, Bool.false_and, Bool.and_false, Bool.true_or, Bool.false_or, Bool.or_true, Bool.or_false, Bool.not_true, Bool.not_false] | simp [h88]), trivial⟩) (s_own (by exact (.cons_cons _ .slnil)) J87)
              · refine s_unwant rfl rfl h88 ?_
                refine s_unwant rfl rfl h88 ?_
                refine s_unwant rfl rfl h88 ?_
                refine s_unwant rfl rfl h88 ?_
                refine o_pickF rfl h88 rfl ?_
                exact s_env (by exact ⟨rfl, rfl, rfl, rfl, lkb rfl (by first | simp only [h88, Bool.true_and, Bool.and_true, Bool.false_and, Bool.and_false, Bool.true_or, Bool.false_or, Bool.or_true, Bool.or_false, Bool.not_true, Bool.not_false] | simp [h88]), trivial⟩) (s_own (by exact (.cons_cons _ .slnil)) J87)
        · refine s_exit rfl ?_
          exact s_env (by exact ⟨rfl, trivial⟩) (s_own (by exact (.cons_cons _ .slnil)) (J49 (s50.1, s50.2.1, s50.2.2.1, s50.2.2.2.1, s50.2.2.2.2.1, s50.2.2.2.2.2.1, s50.2.2.2.2.2.2.1) _ _ _ ⟨rfl, rfl, hle54⟩))
  · intro J89
    refine o_mov rfl ?_
    refine o_lt rfl rfl ?_
    refine o_mov rfl ?_
    refine s_case (decide (x1 < 1)) (fun h90 => ?_) (fun h90 => ?_)
    · refine s_unwant rfl rfl h90 ?_
      refine s_unwant rfl rfl h90 ?_
      refine o_pickT rfl h90 rfl ?_
      exact s_env (by exact ⟨rfl, rfl, lkb rfl (by first | simp only [h90, Bool.true_and, Bool.and_true, Bool.false_and, Bool.and_false, Bool.true_or, Bool.false_or, Bool.or_true, Bool.or_false, Bool.not_true, Bool.not_false] | simp [h90]), trivial⟩) (s_own (by exact .slnil) J89)
    · refine s_want rfl rfl h90 ?_
      refine o_mov rfl ?_
      refine s_want rfl rfl h90 ?_
      refine o_gt rfl rfl ?_
      refine o_pickF rfl h90 rfl ?_
      exact s_env (by exact ⟨rfl, rfl, lkb rfl (by first | simp only [h90, Bool.true_and, Bool.and_true, Bool.false_and, Bool.and_false, Bool.true_or, Bool.false_or, Bool.or_true, Bool.or_false, Bool.not_true, Bool.not_false] | simp [h90]), trivial⟩) (s_own (by exact .slnil) J89)

/-! catenary/catenaryref20.Same -/
def catenaryref20_Same_l0 (k : Nat) (x0 : (List End)) (x1 : (List End)) : Nat → Int → Option (LX (Bool) (Unit))
  | 0, _ => none
  | q7 + 1, s6 =>
    if (decide (s6 < (x0.length : Int))) = true then
      (rd x0 s6).bind fun y14 =>
      (rd x1 s6).bind fun y20 =>
      if (!(decide (y14 = y20))) = true then
        some (.ret false)
      else
        catenaryref20_Same_l0 k x0 x1 q7 (w64 (s6 + 1))
    else
      some (.out ())
def catenaryref20_Same (k : Nat) (x0 : (List End)) (x1 : (List End)) : Option Bool :=
  if ((x0.length : Int) != (x1.length : Int)) = true then
    some false
  else
    (catenaryref20_Same_l0 k x0 x1 k 0).bind (LX.go fun p2 =>
    some true)
theorem fn_38 : Try.prog.funcs[38]? = some Try.f38 := by kernel_rfl
set_option maxRecDepth 100000 in
set_option maxHeartbeats 4000000 in
theorem catenaryref20_Same_ok (k : Nat) (H : Heap) (x0 : (List End)) (a0_0 : Option Addr) (c0_0 : Nat) (hx0_0 : RSl H a0_0 c0_0 x0) (x1 : (List End)) (a1_0 : Option Addr) (c1_0 : Nat) (hx1_0 : RSl H a1_0 c1_0 x1) {r : Bool} (hr : catenaryref20_Same k x0 x1 = some r) :
    Fn Try.prog 38 [.slice a0_0 x0.length c0_0, .slice a1_0 x1.length c1_0] H [] fun H' v out => v = .bool r ∧ out = [] := by
  refine fn_of_sim (args := [.slice a0_0 x0.length c0_0, .slice a1_0 x1.length c1_0]) (n := 26) (Φ := fun r H' v out => v = .bool r ∧ out = []) hr fn_38 rfl rfl rfl fun w => ?_
  refine s_eq (by rw [catenaryref20_Same]) ?_
  refine s_seq ?_
  refine s_region ?_
  refine o_asg rfl ?_
  refine s_done ?_
  refine s_seq ?_
  refine s_seq ?_
  refine s_region ?_
  refine o_mov rfl ?_
  refine o_lenS rfl ?_
  refine o_mov rfl ?_
  refine o_lenS rfl ?_
  refine o_ne rfl rfl ?_
  refine s_done ?_
  refine s_cond rfl (fun h1 => ?_) (fun h1 => ?_)
  · refine s_seq ?_
    refine s_region ?_
    refine o_asg rfl ?_
    refine s_done ?_
    exact s_retv (xs := [.tmp 4]) (vs := [.bool false]) [] fn_38 rfl ⟨rv_tmp rfl, trivial⟩ .slnil ⟨rfl, rfl⟩
  · refine s_skip ?_
    refine s_seq ?_
    refine s_seq ?_
    refine s_region ?_
    refine o_asg rfl ?_
    refine s_done ?_
    refine s_joinL (fun p2 env own H' => env = [] ∧ own = [] ∧ Hle H H') ?_ ?_
    · rintro p2 _ _ H3 ⟨rfl, rfl, hle4⟩
      refine s_seq ?_
      refine s_region ?_
      refine o_asg rfl ?_
      refine s_done ?_
      exact s_retv (xs := [.tmp 4]) (vs := [.bool true]) [] fn_38 rfl ⟨rv_tmp rfl, trivial⟩ .slnil ⟨rfl, rfl⟩
    · intro J5
      refine s_block ?_
      refine s_env (env' := [(0, .slice a0_0 x0.length c0_0), (1, .slice a1_0 x1.length c1_0), (5, .int .i64 0)]) (by exact ⟨rfl, rfl, rfl, trivial⟩) ?_
      refine s_own (own' := []) .slnil ?_
      refine s_loopn (fun q s6 => catenaryref20_Same_l0 k x0 x1 q s6) (fun s6 env own H' => env = [(0, .slice a0_0 x0.length c0_0), (1, .slice a1_0 x1.length c1_0), (5, .int .i64 s6)] ∧ own = [] ∧ Hle H H') (fun _ => rfl) ?_ k 0 ⟨rfl, rfl, .refl _⟩
      rintro q7 ih8 s6 _ _ H9 ⟨rfl, rfl, hle10⟩
      refine s_eq (by rw [catenaryref20_Same_l0]) ?_
      have hs11 := RSl.mono hle10 hx0_0
      have hs12 := RSl.mono hle10 hx1_0
      refine s_seq ?_
      refine s_seq ?_
      refine s_region ?_
      refine o_mov rfl ?_
      refine o_mov rfl ?_
      refine o_lenS rfl ?_
      refine o_lt rfl rfl ?_
      refine s_done ?_
      refine s_cond rfl (fun h13 => ?_) (fun h13 => ?_)
      · refine s_skip ?_
        refine s_seq ?_
        refine s_block ?_
        refine s_seq ?_
        refine s_bg fun y14 h19 => ?_
        refine s_bg fun y20 h25 => ?_
        refine s_drawL [(fun H v g => v = Value.slice a0_0 x0.length c0_0 ∧ g = [] ∧ RSl H a0_0 c0_0 x0),
      (fun H v g => v = Value.int .i64 s6 ∧ g = []),
      (fun H v g => ∃ bk27 of28, v = Value.pointer (some ⟨bk27, of28, none⟩) ∧ g = [] ∧ CellsAt H bk27 of28 [.int .i64 y14.Switch, .int .i64 y14.Port]),
      (fun H v g => v = Value.agg #[.int .i64 y14.Switch, .int .i64 y14.Port] ∧ g = []),
      (fun H v g => v = Value.slice a1_0 x1.length c1_0 ∧ g = [] ∧ RSl H a1_0 c1_0 x1),
      (fun H v g => v = Value.int .i64 s6 ∧ g = []),
      (fun H v g => ∃ bk31 of32, v = Value.pointer (some ⟨bk31, of32, none⟩) ∧ g = [] ∧ CellsAt H bk31 of32 [.int .i64 y20.Switch, .int .i64 y20.Port]),
      (fun H v g => v = Value.agg #[.int .i64 y20.Switch, .int .i64 y20.Port] ∧ g = []),
      (fun H v g => v = Value.bool (!(decide (y14 = y20))) ∧ g = [])] [[], [], [], [], [], [], [], [], []] mixed ⟨fun _ _ _ _ hle ⟨e1, e2, h0_⟩ => ⟨e1, e2, RSl.mono hle h0_⟩, m0, fun _ _ _ _ hle ⟨bk27, of28, e1, e2, h0_⟩ => ⟨_, _, e1, e2, CellsAt.mono hle h0_⟩, m0, fun _ _ _ _ hle ⟨e1, e2, h0_⟩ => ⟨e1, e2, RSl.mono hle h0_⟩, m0, fun _ _ _ _ hle ⟨bk31, of32, e1, e2, h0_⟩ => ⟨_, _, e1, e2, CellsAt.mono hle h0_⟩, m0, m0, trivial⟩ (by kernel_rfl) (by kernel_rfl) rfl (by kernel_rfl) rfl rfl ?_ ?_
        · refine dcons ?_ ?_
          · intro _ _ H36 fr37 hle38 hd39
            have hs41 := RSl.mono hle38 hs11
            refine ⟨_, some (), rfl, fun _ => ?_⟩
            refine s_env (env' := [(0, .slice a0_0 x0.length c0_0)]) (by exact ⟨rfl, trivial⟩) ?_
            refine o_mov rfl ?_
            exact s_pred fun _ _ _ hE hI => ⟨(.slice a0_0 x0.length c0_0), [], _, fun _ e => (by cases e; exact hE _ _ rfl), .refl _, by exact hI, ⟨rfl, rfl, hs41⟩⟩
          refine dcons ?_ ?_
          · intro _ _ H44 fr45 hle46 hd47
            refine ⟨_, some (), rfl, fun _ => ?_⟩
            refine s_env (env' := [(5, .int .i64 s6)]) (by exact ⟨rfl, trivial⟩) ?_
            refine o_mov rfl ?_
            exact s_pred fun _ _ _ hE hI => ⟨(.int .i64 s6), [], _, fun _ e => (by cases e; exact hE _ _ rfl), .refl _, by exact hI, ⟨rfl, rfl⟩⟩
          refine dcons ?_ ?_
          · intro _ _ H51 fr52 hle53 hd54
            obtain ⟨hv56, hg57, hp58⟩ := hd54 0 (by decide)
            obtain ⟨hv59, hg60⟩ := hd54 1 (by decide)
            refine ⟨_, (rd x0 s6).bind some, by rw [h19]; rfl, fun _ => ?_⟩
            refine s_env (env' := [(17, .slice a0_0 x0.length c0_0), (18, .int .i64 s6)]) (by exact ⟨congrArg some hv56, congrArg some hv59, trivial⟩) ?_
            refine o_ixf hp58 rfl rfl fun y14 bk62 of63 h61 hc64 => ?_
            obtain rfl := Option.some.inj (h19.symm.trans h61)
            exact s_pred fun _ _ _ hE hI => ⟨(.pointer (some ⟨bk62, of63, none⟩)), [], _, fun _ e => (by cases e; exact hE _ _ rfl), .refl _, by exact hI, ⟨bk62, of63, rfl, rfl, hc64⟩⟩
          refine dcons ?_ ?_
          · intro _ _ H67 fr68 hle69 hd70
            obtain ⟨bk72, of73, hv74, hg75, hp76⟩ := hd70 2 (by decide)
            refine ⟨_, some (), rfl, fun _ => ?_⟩
            refine s_env (env' := [(19, .pointer (some ⟨bk72, of73, none⟩))]) (by exact ⟨congrArg some hv74, trivial⟩) ?_
            refine o_ldH 0 hp76 rfl rfl rfl ?_
            exact s_pred fun _ _ _ hE hI => ⟨(.agg #[.int .i64 y14.Switch, .int .i64 y14.Port]), [], _, fun _ e => (by cases e; exact hE _ _ rfl), .refl _, by exact hI, ⟨rfl, rfl⟩⟩
          refine dcons ?_ ?_
          · intro _ _ H79 fr80 hle81 hd82
            have hs84 := RSl.mono hle81 hs12
            refine ⟨_, some (), rfl, fun _ => ?_⟩
            refine s_env (env' := [(1, .slice a1_0 x1.length c1_0)]) (by exact ⟨rfl, trivial⟩) ?_
            refine o_mov rfl ?_
            exact s_pred fun _ _ _ hE hI => ⟨(.slice a1_0 x1.length c1_0), [], _, fun _ e => (by cases e; exact hE _ _ rfl), .refl _, by exact hI, ⟨rfl, rfl, hs84⟩⟩
          refine dcons ?_ ?_
          · intro _ _ H87 fr88 hle89 hd90
            refine ⟨_, some (), rfl, fun _ => ?_⟩
            refine s_env (env' := [(5, .int .i64 s6)]) (by exact ⟨rfl, trivial⟩) ?_
            refine o_mov rfl ?_
            exact s_pred fun _ _ _ hE hI => ⟨(.int .i64 s6), [], _, fun _ e => (by cases e; exact hE _ _ rfl), .refl _, by exact hI, ⟨rfl, rfl⟩⟩
          refine dcons ?_ ?_
          · intro _ _ H94 fr95 hle96 hd97
            obtain ⟨hv99, hg100, hp101⟩ := hd97 4 (by decide)
            obtain ⟨hv102, hg103⟩ := hd97 5 (by decide)
            refine ⟨_, (rd x1 s6).bind some, by rw [h25]; rfl, fun _ => ?_⟩
            refine s_env (env' := [(21, .slice a1_0 x1.length c1_0), (22, .int .i64 s6)]) (by exact ⟨congrArg some hv99, congrArg some hv102, trivial⟩) ?_
            refine o_ixf hp101 rfl rfl fun y20 bk105 of106 h104 hc107 => ?_
            obtain rfl := Option.some.inj (h25.symm.trans h104)
            exact s_pred fun _ _ _ hE hI => ⟨(.pointer (some ⟨bk105, of106, none⟩)), [], _, fun _ e => (by cases e; exact hE _ _ rfl), .refl _, by exact hI, ⟨bk105, of106, rfl, rfl, hc107⟩⟩
          refine dcons ?_ ?_
          · intro _ _ H110 fr111 hle112 hd113
            obtain ⟨bk115, of116, hv117, hg118, hp119⟩ := hd113 6 (by decide)
            refine ⟨_, some (), rfl, fun _ => ?_⟩
            refine s_env (env' := [(23, .pointer (some ⟨bk115, of116, none⟩))]) (by exact ⟨congrArg some hv117, trivial⟩) ?_
            refine o_ldH 0 hp119 rfl rfl rfl ?_
            exact s_pred fun _ _ _ hE hI => ⟨(.agg #[.int .i64 y20.Switch, .int .i64 y20.Port]), [], _, fun _ e => (by cases e; exact hE _ _ rfl), .refl _, by exact hI, ⟨rfl, rfl⟩⟩
          refine dcons ?_ ?_
          · intro _ _ H122 fr123 hle124 hd125
            obtain ⟨hv127, hg128⟩ := hd125 3 (by decide)
            obtain ⟨hv129, hg130⟩ := hd125 7 (by decide)
            refine ⟨_, some (), rfl, fun _ => ?_⟩
            refine s_env (env' := [(20, .agg #[.int .i64 y14.Switch, .int .i64 y14.Port]), (24, .agg #[.int .i64 y20.Switch, .int .i64 y20.Port])]) (by exact ⟨congrArg some hv127, congrArg some hv129, trivial⟩) ?_
            refine o_neS y14 y20 rfl rfl ?_
            exact s_pred fun _ _ _ hE hI => ⟨(.bool (!(decide (y14 = y20)))), [], _, fun _ e => (by cases e; exact hE _ _ rfl), .refl _, by exact hI, ⟨rfl, rfl⟩⟩
          exact dnil
        · intro V133 G134 H131 hle132 hF135
          have hs136 := RSl.mono hle132 hs11
          have hs137 := RSl.mono hle132 hs12
          obtain ⟨hv138, hg139⟩ := hF135 8 (show 8 < 9 by decide)
          refine s_env (env' := [(25, .bool (!(decide (y14 = y20)))), (0, .slice a0_0 x0.length c0_0), (1, .slice a1_0 x1.length c1_0), (5, .int .i64 s6), (11, .int .i64 s6), (12, .slice a0_0 x0.length c0_0), (13, .int .i64 (x0.length : Int)), (14, .bool (decide (s6 < (x0.length : Int))))]) (by exact ⟨congrArg some hv138, rfl, rfl, rfl, rfl, rfl, rfl, rfl, trivial⟩) ?_
          refine s_own (List.sublist_append_left _ _) ?_
          refine s_done ?_
          refine s_cond rfl (fun h140 => ?_) (fun h140 => ?_)
          · refine s_seq ?_
            refine s_region ?_
            refine o_asg rfl ?_
            refine s_done ?_
            refine s_lret ?_
            exact s_retv (xs := [.tmp 4]) (vs := [.bool false]) [] fn_38 rfl ⟨rv_tmp rfl, trivial⟩ .slnil ⟨rfl, rfl⟩
          · refine s_skip ?_
            refine s_inBlock ?_
            refine s_region ?_
            refine o_mov rfl ?_
            refine o_add rfl rfl ?_
            refine o_asg rfl ?_
            refine s_done ?_
            exact s_env (by exact ⟨rfl, rfl, rfl, trivial⟩) (s_own (by exact .slnil) (ih8 (w64 (s6 + 1)) _ _ _ ⟨rfl, rfl, (Hle.trans hle10 hle132)⟩))
      · refine s_exit rfl ?_
        exact s_env (by exact trivial) (s_own (by exact .slnil) (J5 () _ _ _ ⟨rfl, rfl, hle10⟩))
end Go.Cat.G3
