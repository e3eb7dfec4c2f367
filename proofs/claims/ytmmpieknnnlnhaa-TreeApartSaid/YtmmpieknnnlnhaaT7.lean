/- A text of the proof of the seat's laws: a step logic over the machine, or pure functions that the Go functions come to. No condition. -/
import Derived.Test.YtmmpieknnnlnhaaT5

namespace Go.Cat.G3
open Go Go.Cat Go.Proofs
set_option linter.unusedVariables false
set_option linter.unusedSimpArgs false

instance inT7_43 : TFun Try.prog 43 := ⟨_, (by kernel_rfl : Try.prog.funcs[43]? = some Try.f43), by decide, rfl⟩
instance inT7_46 : TFun Try.prog 46 := ⟨_, (by kernel_rfl : Try.prog.funcs[46]? = some Try.f46), by decide, rfl⟩
instance inT7_47 : TFun Try.prog 47 := ⟨_, (by kernel_rfl : Try.prog.funcs[47]? = some Try.f47), by decide, rfl⟩
instance inT7_48 : TFun Try.prog 48 := ⟨_, (by kernel_rfl : Try.prog.funcs[48]? = some Try.f48), by decide, rfl⟩
instance inT7_50 : TFun Try.prog 50 := ⟨_, (by kernel_rfl : Try.prog.funcs[50]? = some Try.f50), by decide, rfl⟩

/-! catenary/catenarylaw20.hangs -/
def catenarylaw20_hangs_l0 (k : Nat) (x0 : (List Link)) (x1 : End) : Nat → (List Link) × Int → Option ((List Link))
  | 0, _ => none
  | q27 + 1, s22 =>
    if (decide (s22.2 < (x0.length : Int))) = true then
      ((rd x0 s22.2).bind fun y52 =>
        if (!(decide (y52.A = x1))) = true then
          (rd x0 s22.2).bind fun y59 =>
          some (!(decide (y59.B = x1)))
        else
          some false).bind fun p33 =>
      if (p33) = true then
        (rd x0 s22.2).bind fun y39 =>
        (app s22.1 ([y39] : List Link)).bind fun _ =>
        catenarylaw20_hangs_l0 k x0 x1 q27 ((s22.1 ++ ([y39] : List Link)), w64 (s22.2 + 1))
      else
        catenarylaw20_hangs_l0 k x0 x1 q27 (s22.1, w64 (s22.2 + 1))
    else
      some s22.1
def catenarylaw20_hangs (k : Nat) (x0 : (List Link)) (x1 : End) (x2 : Int) : Option Bool :=
  (catenarylaw20_hangs_l0 k x0 x1 k (([] : List Link), 0)).bind fun p3 =>
  (catenarylaw20_far k p3 x2).bind fun y11 =>
  some (decide (y11 < 0))
theorem fn_48 : Try.prog.funcs[48]? = some Try.f48 := by kernel_rfl
set_option maxRecDepth 100000 in
set_option maxHeartbeats 4000000 in
theorem catenarylaw20_hangs_ok (k : Nat) (H : Heap) (x0 : (List Link)) (a0_0 : Option Addr) (c0_0 : Nat) (hx0_0 : RSl H a0_0 c0_0 x0) (x1 : End) (x2 : Int) {r : Bool} (hr : catenarylaw20_hangs k x0 x1 x2 = some r) :
    Fn Try.prog 48 [.slice a0_0 x0.length c0_0, .agg #[.int .i64 x1.Switch, .int .i64 x1.Port], .int .i64 x2] H [] fun H' v out => v = .bool r ∧ out = [] := by
  refine fn_of_sim (args := [.slice a0_0 x0.length c0_0, .agg #[.int .i64 x1.Switch, .int .i64 x1.Port], .int .i64 x2]) (n := 42) (Φ := fun r H' v out => v = .bool r ∧ out = []) hr fn_48 rfl rfl rfl fun w => ?_
  refine s_eq (by rw [catenarylaw20_hangs]) ?_
  refine s_seq ?_
  refine s_region ?_
  refine o_box rfl fun b1 => ?_
  refine o_asg rfl ?_
  refine s_done ?_
  refine s_seq ?_
  refine s_region ?_
  refine o_asg rfl ?_
  refine s_done ?_
  refine s_seq ?_
  refine s_seq ?_
  refine s_region ?_
  refine o_asg rfl ?_
  refine s_done ?_
  refine s_join (fun p3 env own H' => ∃ a5 c6 ls7, env = [(2, .int .i64 x2), (7, .slice a5 p3.length c6)] ∧ own = [.osl (.slice a5 p3.length c6) 4 40 ls7] ∧ Hle H H' ∧ All2 (GoT.rep H') ls7 p3) ?_ ?_
  · rintro p3 _ _ H9 ⟨a5, c6, ls7, rfl, rfl, hle10, hA8⟩
    refine s_seq ?_
    refine s_region ?_
    refine o_mov rfl ?_
    refine o_mov rfl ?_
    refine s_bg fun y11 h12 => ?_
    refine s_callL (Φ := fun v out => v = _ ∧ out = []) [] _ rfl rfl (.refl _) (fun H' hle hl => catenarylaw20_far_ok k _ p3 _ _ (lent_rsl (hl _ (List.mem_of_getElem? (i := 0) rfl)) hA8 hle).2 x2 h12) ?_
    rintro _ _ ⟨rfl, rfl⟩
    refine s_ownN ?_
    refine o_lt rfl rfl ?_
    refine o_asg rfl ?_
    refine s_done ?_
    exact s_retv (xs := [.tmp 6]) (vs := [.bool (decide (y11 < 0))]) [] fn_48 rfl ⟨rv_tmp rfl, trivial⟩ (.cons _ .slnil) ⟨rfl, rfl⟩
  · intro J13
    refine s_block ?_
    refine s_nilOc (sz := 4) (t := 40) ?_
    have hA15 : All2 (GoT.rep H) [] ([] : List Link) := all2_nil
    refine s_env (env' := [(0, .slice a0_0 x0.length c0_0), (2, .int .i64 x2), (4, .pointer (some ⟨b1, 0, none⟩)), (7, .slice none ([] : List Link).length 0), (8, .int .i64 0)]) (by exact ⟨rfl, rfl, rfl, rfl, rfl, trivial⟩) ?_
    refine s_own (own' := [.blk b1 (rowObj [.int .i64 x1.Switch, .int .i64 x1.Port] 26), .osl (.slice none ([] : List Link).length 0) 4 40 []]) (.cons_cons _ (.cons_cons _ .slnil)) ?_
    refine s_loopn (fun q s22 => catenarylaw20_hangs_l0 k x0 x1 q s22) (fun s22 env own H' => ∃ a23 c24 ls25, env = [(0, .slice a0_0 x0.length c0_0), (2, .int .i64 x2), (4, .pointer (some ⟨b1, 0, none⟩)), (7, .slice a23 s22.1.length c24), (8, .int .i64 s22.2)] ∧ own = [.blk b1 (rowObj [.int .i64 x1.Switch, .int .i64 x1.Port] 26), .osl (.slice a23 s22.1.length c24) 4 40 ls25] ∧ Hle H H' ∧ All2 (GoT.rep H') ls25 s22.1) (fun _ => rfl) ?_ k (([] : List Link), 0) ⟨_, _, _, rfl, rfl, .refl _, hA15⟩
    rintro q27 ih28 s22 _ _ H29 ⟨a23, c24, ls25, rfl, rfl, hle30, hA26⟩
    refine s_eq (by rw [catenarylaw20_hangs_l0]) ?_
    have hs31 := RSl.mono hle30 hx0_0
    refine s_seq ?_
    refine s_seq ?_
    refine s_region ?_
    refine o_mov rfl ?_
    refine o_mov rfl ?_
    refine o_lenS rfl ?_
    refine o_lt rfl rfl ?_
    refine s_done ?_
    refine s_cond rfl (fun h32 => ?_) (fun h32 => ?_)
    · refine s_skip ?_
      refine s_seq ?_
      refine s_block ?_
      refine s_seq ?_
      refine s_join (fun p33 env own H' => env = [(0, .slice a0_0 x0.length c0_0), (2, .int .i64 x2), (4, .pointer (some ⟨b1, 0, none⟩)), (7, .slice a23 s22.1.length c24), (8, .int .i64 s22.2), (30, .bool p33)] ∧ own = [.blk b1 (rowObj [.int .i64 x1.Switch, .int .i64 x1.Port] 26), .osl (.slice a23 s22.1.length c24) 4 40 ls25] ∧ Hle H29 H') ?_ ?_
      · rintro p33 _ _ H34 ⟨rfl, rfl, hle35⟩
        have hs36 := RSl.mono hle35 hs31
        have hA37 := All2.mono (fun _ _ => GoT.mono hle35) hA26
        refine s_cond rfl (fun h38 => ?_) (fun h38 => ?_)
        · refine s_region ?_
          refine o_mov rfl ?_
          refine o_mov rfl ?_
          refine o_mov rfl ?_
          refine o_ixf hs36 rfl rfl fun y39 bk41 of42 h40 hc43 => ?_
          refine o_ldH 0 hc43 rfl rfl rfl ?_
          refine o_bsl (xs := [.tmp 35]) rfl rfl (by simp only [List.mem_cons, List.not_mem_nil, or_false, forall_eq_or_imp, forall_eq]; exact ⟨rfl, rfl⟩) rfl rfl fun b44 => ?_
          have hA45 : All2 (GoT.rep H34) [[.int .i64 y39.A.Switch, .int .i64 y39.A.Port, .int .i64 y39.B.Switch, .int .i64 y39.B.Port]] ([y39] : List Link) := all2_enc (([y39] : List Link))
          refine o_appO 1 2 rfl rfl rfl hA37 rfl hA45 fun a47 c48 h49 hA50 => ?_
          refine o_asg rfl ?_
          refine s_done ?_
          refine s_inBlock ?_
          refine s_region ?_
          refine o_mov rfl ?_
          refine o_add rfl rfl ?_
          refine o_asg rfl ?_
          refine s_done ?_
          exact s_env (by exact ⟨rfl, rfl, rfl, rfl, rfl, trivial⟩) (s_own (by exact (.cons_cons _ (.cons_cons _ (.cons _ .slnil)))) (ih28 ((s22.1 ++ ([y39] : List Link)), w64 (s22.2 + 1)) _ _ _ ⟨_, _, _, rfl, rfl, (Hle.trans hle30 hle35), hA50⟩))
        · refine s_skip ?_
          refine s_inBlock ?_
          refine s_region ?_
          refine o_mov rfl ?_
          refine o_add rfl rfl ?_
          refine o_asg rfl ?_
          refine s_done ?_
          exact s_env (by exact ⟨rfl, rfl, rfl, rfl, rfl, trivial⟩) (s_own (by exact (.cons_cons _ (.cons_cons _ .slnil))) (ih28 (s22.1, w64 (s22.2 + 1)) _ _ _ ⟨_, _, _, rfl, rfl, (Hle.trans hle30 hle35), hA37⟩))
      · intro J51
        refine s_bg fun y52 h57 => ?_
        refine s_split (!(decide (y52.A = x1))) (fun h58 => ?_) (fun h58 => ?_)
        · refine s_bg fun y59 h64 => ?_
          refine s_drawL [(fun H v g => v = Value.slice a0_0 x0.length c0_0 ∧ g = [] ∧ RSl H a0_0 c0_0 x0),
      (fun H v g => v = Value.int .i64 s22.2 ∧ g = []),
      (fun H v g => ∃ bk66 of67, v = Value.pointer (some ⟨bk66, of67, none⟩) ∧ g = [] ∧ CellsAt H bk66 of67 [.int .i64 y52.A.Switch, .int .i64 y52.A.Port, .int .i64 y52.B.Switch, .int .i64 y52.B.Port]),
      (fun H v g => ∃ bk66 of67, v = Value.pointer (some ⟨bk66, of67, none⟩) ∧ g = [] ∧ CellsAt H bk66 of67 [.int .i64 y52.A.Switch, .int .i64 y52.A.Port, .int .i64 y52.B.Switch, .int .i64 y52.B.Port]),
      (fun H v g => v = Value.agg #[.int .i64 y52.A.Switch, .int .i64 y52.A.Port] ∧ g = []),
      (fun H v g => v = Value.agg #[.int .i64 x1.Switch, .int .i64 x1.Port] ∧ g = []),
      (fun H v g => v = Value.bool (!(decide (y52.A = x1))) ∧ g = []),
      (fun H v g => v = Value.bool (!(decide (y52.A = x1))) ∧ g = []),
      (fun H v g => v = Value.slice a0_0 x0.length c0_0 ∧ g = [] ∧ RSl H a0_0 c0_0 x0),
      (fun H v g => v = Value.int .i64 s22.2 ∧ g = []),
      (fun H v g => ∃ bk70 of71, v = Value.pointer (some ⟨bk70, of71, none⟩) ∧ g = [] ∧ CellsAt H bk70 of71 [.int .i64 y59.A.Switch, .int .i64 y59.A.Port, .int .i64 y59.B.Switch, .int .i64 y59.B.Port]),
      (fun H v g => ∃ bk70 of71, v = Value.pointer (some ⟨bk70, of71 + 2, none⟩) ∧ g = [] ∧ CellsAt H bk70 of71 [.int .i64 y59.A.Switch, .int .i64 y59.A.Port, .int .i64 y59.B.Switch, .int .i64 y59.B.Port]),
      (fun H v g => v = Value.agg #[.int .i64 y59.B.Switch, .int .i64 y59.B.Port] ∧ g = []),
      (fun H v g => v = Value.agg #[.int .i64 x1.Switch, .int .i64 x1.Port] ∧ g = []),
      (fun H v g => v = Value.bool (!(decide (y59.B = x1))) ∧ g = []),
      (fun H v g => v = Value.bool (!(decide (y59.B = x1))) ∧ g = [])] [[], [], [], [], [], [], [], [], [], [], [], [], [], [], [], []] mixed ⟨fun _ _ _ _ hle ⟨e1, e2, h0_⟩ => ⟨e1, e2, RSl.mono hle h0_⟩, m0, fun _ _ _ _ hle ⟨bk66, of67, e1, e2, h0_⟩ => ⟨_, _, e1, e2, CellsAt.mono hle h0_⟩, fun _ _ _ _ hle ⟨bk66, of67, e1, e2, h0_⟩ => ⟨_, _, e1, e2, CellsAt.mono hle h0_⟩, m0, m0, m0, m0, fun _ _ _ _ hle ⟨e1, e2, h0_⟩ => ⟨e1, e2, RSl.mono hle h0_⟩, m0, fun _ _ _ _ hle ⟨bk70, of71, e1, e2, h0_⟩ => ⟨_, _, e1, e2, CellsAt.mono hle h0_⟩, fun _ _ _ _ hle ⟨bk70, of71, e1, e2, h0_⟩ => ⟨_, _, e1, e2, CellsAt.mono hle h0_⟩, m0, m0, m0, m0, trivial⟩ (by kernel_rfl) (by kernel_rfl) rfl (by kernel_rfl) rfl rfl ?_ ?_
          · refine dcons ?_ ?_
            · intro _ _ H75 fr76 hle77 hd78
              have hs80 := RSl.mono hle77 hs31
              refine ⟨_, some (), rfl, fun _ => ?_⟩
              refine s_env (env' := [(0, .slice a0_0 x0.length c0_0)]) (by exact ⟨rfl, trivial⟩) ?_
              refine o_mov rfl ?_
              exact s_pred fun _ _ _ hE hI => ⟨(.slice a0_0 x0.length c0_0), [], _, fun _ e => (by cases e; exact hE _ _ rfl), .refl _, by exact hI, ⟨rfl, rfl, hs80⟩⟩
            refine dcons ?_ ?_
            · intro _ _ H83 fr84 hle85 hd86
              refine ⟨_, some (), rfl, fun _ => ?_⟩
              refine s_env (env' := [(8, .int .i64 s22.2)]) (by exact ⟨rfl, trivial⟩) ?_
              refine o_mov rfl ?_
              exact s_pred fun _ _ _ hE hI => ⟨(.int .i64 s22.2), [], _, fun _ e => (by cases e; exact hE _ _ rfl), .refl _, by exact hI, ⟨rfl, rfl⟩⟩
            refine dcons ?_ ?_
            · intro _ _ H90 fr91 hle92 hd93
              obtain ⟨hv95, hg96, hp97⟩ := hd93 0 (by decide)
              obtain ⟨hv98, hg99⟩ := hd93 1 (by decide)
              refine ⟨_, (rd x0 s22.2).bind some, by rw [h57]; rfl, fun _ => ?_⟩
              refine s_env (env' := [(15, .slice a0_0 x0.length c0_0), (16, .int .i64 s22.2)]) (by exact ⟨congrArg some hv95, congrArg some hv98, trivial⟩) ?_
              refine o_ixf hp97 rfl rfl fun y52 bk101 of102 h100 hc103 => ?_
              obtain rfl := Option.some.inj (h57.symm.trans h100)
              exact s_pred fun _ _ _ hE hI => ⟨(.pointer (some ⟨bk101, of102, none⟩)), [], _, fun _ e => (by cases e; exact hE _ _ rfl), .refl _, by exact hI, ⟨bk101, of102, rfl, rfl, hc103⟩⟩
            refine dcons ?_ ?_
            · intro _ _ H106 fr107 hle108 hd109
              obtain ⟨bk111, of112, hv113, hg114, hp115⟩ := hd109 2 (by decide)
              refine ⟨_, some (), rfl, fun _ => ?_⟩
              refine s_env (env' := [(17, .pointer (some ⟨bk111, of112, none⟩))]) (by exact ⟨congrArg some hv113, trivial⟩) ?_
              refine o_fa rfl ?_
              exact s_pred fun _ _ _ hE hI => ⟨(.pointer (some ⟨bk111, of112, none⟩)), [], _, fun _ e => (by cases e; exact hE _ _ rfl), .refl _, by exact hI, ⟨bk111, of112, rfl, rfl, hp115⟩⟩
            refine dcons ?_ ?_
            · intro _ _ H118 fr119 hle120 hd121
              obtain ⟨bk123, of124, hv125, hg126, hp127⟩ := hd121 3 (by decide)
              refine ⟨_, some (), rfl, fun _ => ?_⟩
              refine s_env (env' := [(18, .pointer (some ⟨bk123, of124, none⟩))]) (by exact ⟨congrArg some hv125, trivial⟩) ?_
              refine o_ldH 0 hp127 rfl rfl rfl ?_
              exact s_pred fun _ _ _ hE hI => ⟨(.agg #[.int .i64 y52.A.Switch, .int .i64 y52.A.Port]), [], _, fun _ e => (by cases e; exact hE _ _ rfl), .refl _, by exact hI, ⟨rfl, rfl⟩⟩
            refine dcons ?_ ?_
            · intro _ _ H130 fr131 hle132 hd133
              refine ⟨_, some (), rfl, fun _ => ?_⟩
              refine s_env (env' := [(4, .pointer (some ⟨b1, 0, none⟩))]) (by exact ⟨rfl, trivial⟩) ?_
              refine o_ld 0 rfl rfl rfl ?_
              exact s_pred fun _ _ _ hE hI => ⟨(.agg #[.int .i64 x1.Switch, .int .i64 x1.Port]), [], _, fun _ e => (by cases e; exact hE _ _ rfl), .refl _, by exact hI, ⟨rfl, rfl⟩⟩
            refine dcons ?_ ?_
            · intro _ _ H137 fr138 hle139 hd140
              obtain ⟨hv142, hg143⟩ := hd140 4 (by decide)
              obtain ⟨hv144, hg145⟩ := hd140 5 (by decide)
              refine ⟨_, some (), rfl, fun _ => ?_⟩
              refine s_env (env' := [(19, .agg #[.int .i64 y52.A.Switch, .int .i64 y52.A.Port]), (20, .agg #[.int .i64 x1.Switch, .int .i64 x1.Port])]) (by exact ⟨congrArg some hv142, congrArg some hv144, trivial⟩) ?_
              refine o_neS y52.A x1 rfl rfl ?_
              exact s_pred fun _ _ _ hE hI => ⟨(.bool (!(decide (y52.A = x1)))), [], _, fun _ e => (by cases e; exact hE _ _ rfl), .refl _, by exact hI, ⟨rfl, rfl⟩⟩
            refine dcons ?_ ?_
            · intro _ _ H148 fr149 hle150 hd151
              obtain ⟨hv153, hg154⟩ := hd151 6 (by decide)
              refine ⟨_, some (), rfl, fun _ => ?_⟩
              refine s_env (env' := [(21, .bool (!(decide (y52.A = x1))))]) (by exact ⟨congrArg some hv153, trivial⟩) ?_
              refine o_mov rfl ?_
              exact s_pred fun _ _ _ hE hI => ⟨(.bool (!(decide (y52.A = x1)))), [], _, fun _ e => (by cases e; exact hE _ _ rfl), .refl _, by exact hI, ⟨rfl, rfl⟩⟩
            refine dcons ?_ ?_
            · intro _ _ H157 fr158 hle159 hd160
              have hs162 := RSl.mono hle159 hs31
              obtain ⟨hv163, hg164⟩ := hd160 7 (by decide)
              refine ⟨_, some (), rfl, fun _ => ?_⟩
              refine s_env (env' := [(22, .bool (!(decide (y52.A = x1)))), (0, .slice a0_0 x0.length c0_0)]) (by exact ⟨congrArg some hv163, rfl, trivial⟩) ?_
              refine s_want rfl rfl h58 ?_
              refine o_mov rfl ?_
              exact s_pred fun _ _ _ hE hI => ⟨(.slice a0_0 x0.length c0_0), [], _, fun _ e => (by cases e; exact hE _ _ rfl), .refl _, by exact hI, ⟨rfl, rfl, hs162⟩⟩
            refine dcons ?_ ?_
            · intro _ _ H167 fr168 hle169 hd170
              obtain ⟨hv172, hg173⟩ := hd170 7 (by decide)
              refine ⟨_, some (), rfl, fun _ => ?_⟩
              refine s_env (env' := [(22, .bool (!(decide (y52.A = x1)))), (8, .int .i64 s22.2)]) (by exact ⟨congrArg some hv172, rfl, trivial⟩) ?_
              refine s_want rfl rfl h58 ?_
              refine o_mov rfl ?_
              exact s_pred fun _ _ _ hE hI => ⟨(.int .i64 s22.2), [], _, fun _ e => (by cases e; exact hE _ _ rfl), .refl _, by exact hI, ⟨rfl, rfl⟩⟩
            refine dcons ?_ ?_
            · intro _ _ H176 fr177 hle178 hd179
              obtain ⟨hv181, hg182⟩ := hd179 7 (by decide)
              obtain ⟨hv183, hg184, hp185⟩ := hd179 8 (by decide)
              obtain ⟨hv186, hg187⟩ := hd179 9 (by decide)
              refine ⟨_, (rd x0 s22.2).bind some, by rw [h64]; rfl, fun _ => ?_⟩
              refine s_env (env' := [(22, .bool (!(decide (y52.A = x1)))), (23, .slice a0_0 x0.length c0_0), (24, .int .i64 s22.2)]) (by exact ⟨congrArg some hv181, congrArg some hv183, congrArg some hv186, trivial⟩) ?_
              refine s_want rfl rfl h58 ?_
              refine o_ixf hp185 rfl rfl fun y59 bk189 of190 h188 hc191 => ?_
              obtain rfl := Option.some.inj (h64.symm.trans h188)
              exact s_pred fun _ _ _ hE hI => ⟨(.pointer (some ⟨bk189, of190, none⟩)), [], _, fun _ e => (by cases e; exact hE _ _ rfl), .refl _, by exact hI, ⟨bk189, of190, rfl, rfl, hc191⟩⟩
            refine dcons ?_ ?_
            · intro _ _ H194 fr195 hle196 hd197
              obtain ⟨hv199, hg200⟩ := hd197 7 (by decide)
              obtain ⟨bk201, of202, hv203, hg204, hp205⟩ := hd197 10 (by decide)
              refine ⟨_, some (), rfl, fun _ => ?_⟩
              refine s_env (env' := [(22, .bool (!(decide (y52.A = x1)))), (25, .pointer (some ⟨bk201, of202, none⟩))]) (by exact ⟨congrArg some hv199, congrArg some hv203, trivial⟩) ?_
              refine s_want rfl rfl h58 ?_
              refine o_fa rfl ?_
              exact s_pred fun _ _ _ hE hI => ⟨(.pointer (some ⟨bk201, of202 + 2, none⟩)), [], _, fun _ e => (by cases e; exact hE _ _ rfl), .refl _, by exact hI, ⟨bk201, of202, rfl, rfl, hp205⟩⟩
            refine dcons ?_ ?_
            · intro _ _ H208 fr209 hle210 hd211
              obtain ⟨hv213, hg214⟩ := hd211 7 (by decide)
              obtain ⟨bk215, of216, hv217, hg218, hp219⟩ := hd211 11 (by decide)
              refine ⟨_, some (), rfl, fun _ => ?_⟩
              refine s_env (env' := [(22, .bool (!(decide (y52.A = x1)))), (26, .pointer (some ⟨bk215, of216 + 2, none⟩))]) (by exact ⟨congrArg some hv213, congrArg some hv217, trivial⟩) ?_
              refine s_want rfl rfl h58 ?_
              refine o_ldH 2 hp219 rfl rfl rfl ?_
              exact s_pred fun _ _ _ hE hI => ⟨(.agg #[.int .i64 y59.B.Switch, .int .i64 y59.B.Port]), [], _, fun _ e => (by cases e; exact hE _ _ rfl), .refl _, by exact hI, ⟨rfl, rfl⟩⟩
            refine dcons ?_ ?_
            · intro _ _ H222 fr223 hle224 hd225
              obtain ⟨hv227, hg228⟩ := hd225 7 (by decide)
              refine ⟨_, some (), rfl, fun _ => ?_⟩
              refine s_env (env' := [(22, .bool (!(decide (y52.A = x1)))), (4, .pointer (some ⟨b1, 0, none⟩))]) (by exact ⟨congrArg some hv227, rfl, trivial⟩) ?_
              refine s_want rfl rfl h58 ?_
              refine o_ld 0 rfl rfl rfl ?_
              exact s_pred fun _ _ _ hE hI => ⟨(.agg #[.int .i64 x1.Switch, .int .i64 x1.Port]), [], _, fun _ e => (by cases e; exact hE _ _ rfl), .refl _, by exact hI, ⟨rfl, rfl⟩⟩
            refine dcons ?_ ?_
            · intro _ _ H231 fr232 hle233 hd234
              obtain ⟨hv236, hg237⟩ := hd234 7 (by decide)
              obtain ⟨hv238, hg239⟩ := hd234 12 (by decide)
              obtain ⟨hv240, hg241⟩ := hd234 13 (by decide)
              refine ⟨_, some (), rfl, fun _ => ?_⟩
              refine s_env (env' := [(22, .bool (!(decide (y52.A = x1)))), (27, .agg #[.int .i64 y59.B.Switch, .int .i64 y59.B.Port]), (28, .agg #[.int .i64 x1.Switch, .int .i64 x1.Port])]) (by exact ⟨congrArg some hv236, congrArg some hv238, congrArg some hv240, trivial⟩) ?_
              refine s_want rfl rfl h58 ?_
              refine o_neS y59.B x1 rfl rfl ?_
              exact s_pred fun _ _ _ hE hI => ⟨(.bool (!(decide (y59.B = x1)))), [], _, fun _ e => (by cases e; exact hE _ _ rfl), .refl _, by exact hI, ⟨rfl, rfl⟩⟩
            refine dcons ?_ ?_
            · intro _ _ H244 fr245 hle246 hd247
              obtain ⟨hv249, hg250⟩ := hd247 7 (by decide)
              obtain ⟨hv251, hg252⟩ := hd247 14 (by decide)
              refine ⟨_, some (), rfl, fun _ => ?_⟩
              refine s_env (env' := [(22, .bool (!(decide (y52.A = x1)))), (29, .bool (!(decide (y59.B = x1))))]) (by exact ⟨congrArg some hv249, congrArg some hv251, trivial⟩) ?_
              refine o_pickT rfl h58 rfl ?_
              exact s_pred fun _ _ _ hE hI => ⟨(.bool (!(decide (y59.B = x1)))), [], _, fun _ e => (by cases e; exact hE _ _ rfl), .refl _, by exact hI, ⟨rfl, rfl⟩⟩
            exact dnil
          · intro V255 G256 H253 hle254 hF257
            have hs258 := RSl.mono hle254 hs31
            have hA259 := All2.mono (fun _ _ => GoT.mono hle254) hA26
            obtain ⟨hv260, hg261⟩ := hF257 15 (show 15 < 16 by decide)
            refine s_env (env' := [(30, .bool (!(decide (y59.B = x1)))), (0, .slice a0_0 x0.length c0_0), (2, .int .i64 x2), (4, .pointer (some ⟨b1, 0, none⟩)), (7, .slice a23 s22.1.length c24), (8, .int .i64 s22.2), (9, .int .i64 s22.2), (10, .slice a0_0 x0.length c0_0), (11, .int .i64 (x0.length : Int)), (12, .bool (decide (s22.2 < (x0.length : Int))))]) (by exact ⟨congrArg some hv260, rfl, rfl, rfl, rfl, rfl, rfl, rfl, rfl, rfl, trivial⟩) ?_
            refine s_own (List.sublist_append_left _ _) ?_
            refine s_done ?_
            exact s_env (by exact ⟨rfl, rfl, rfl, rfl, rfl, rfl, trivial⟩) (s_own (by exact (.cons_cons _ (.cons_cons _ .slnil))) (J51 (!(decide (y59.B = x1))) _ _ _ ⟨rfl, rfl, hle254⟩))
        · refine s_drawL [(fun H v g => v = Value.slice a0_0 x0.length c0_0 ∧ g = [] ∧ RSl H a0_0 c0_0 x0),
      (fun H v g => v = Value.int .i64 s22.2 ∧ g = []),
      (fun H v g => ∃ bk263 of264, v = Value.pointer (some ⟨bk263, of264, none⟩) ∧ g = [] ∧ CellsAt H bk263 of264 [.int .i64 y52.A.Switch, .int .i64 y52.A.Port, .int .i64 y52.B.Switch, .int .i64 y52.B.Port]),
      (fun H v g => ∃ bk263 of264, v = Value.pointer (some ⟨bk263, of264, none⟩) ∧ g = [] ∧ CellsAt H bk263 of264 [.int .i64 y52.A.Switch, .int .i64 y52.A.Port, .int .i64 y52.B.Switch, .int .i64 y52.B.Port]),
      (fun H v g => v = Value.agg #[.int .i64 y52.A.Switch, .int .i64 y52.A.Port] ∧ g = []),
      (fun H v g => v = Value.agg #[.int .i64 x1.Switch, .int .i64 x1.Port] ∧ g = []),
      (fun H v g => v = Value.bool (!(decide (y52.A = x1))) ∧ g = []),
      (fun H v g => v = Value.bool (!(decide (y52.A = x1))) ∧ g = []),
      uF,
      uF,
      uF,
      uF,
      uF,
      uF,
      uF,
      (fun H v g => v = Value.bool false ∧ g = [])] [[], [], [], [], [], [], [], [], [], [], [], [], [], [], [], []] mixed ⟨fun _ _ _ _ hle ⟨e1, e2, h0_⟩ => ⟨e1, e2, RSl.mono hle h0_⟩, m0, fun _ _ _ _ hle ⟨bk263, of264, e1, e2, h0_⟩ => ⟨_, _, e1, e2, CellsAt.mono hle h0_⟩, fun _ _ _ _ hle ⟨bk263, of264, e1, e2, h0_⟩ => ⟨_, _, e1, e2, CellsAt.mono hle h0_⟩, m0, m0, m0, m0, m0, m0, m0, m0, m0, m0, m0, m0, trivial⟩ (by kernel_rfl) (by kernel_rfl) rfl (by kernel_rfl) rfl rfl ?_ ?_
          · refine dcons ?_ ?_
            · intro _ _ H268 fr269 hle270 hd271
              have hs273 := RSl.mono hle270 hs31
              refine ⟨_, some (), rfl, fun _ => ?_⟩
              refine s_env (env' := [(0, .slice a0_0 x0.length c0_0)]) (by exact ⟨rfl, trivial⟩) ?_
              refine o_mov rfl ?_
              exact s_pred fun _ _ _ hE hI => ⟨(.slice a0_0 x0.length c0_0), [], _, fun _ e => (by cases e; exact hE _ _ rfl), .refl _, by exact hI, ⟨rfl, rfl, hs273⟩⟩
            refine dcons ?_ ?_
            · intro _ _ H276 fr277 hle278 hd279
              refine ⟨_, some (), rfl, fun _ => ?_⟩
              refine s_env (env' := [(8, .int .i64 s22.2)]) (by exact ⟨rfl, trivial⟩) ?_
              refine o_mov rfl ?_
              exact s_pred fun _ _ _ hE hI => ⟨(.int .i64 s22.2), [], _, fun _ e => (by cases e; exact hE _ _ rfl), .refl _, by exact hI, ⟨rfl, rfl⟩⟩
            refine dcons ?_ ?_
            · intro _ _ H283 fr284 hle285 hd286
              obtain ⟨hv288, hg289, hp290⟩ := hd286 0 (by decide)
              obtain ⟨hv291, hg292⟩ := hd286 1 (by decide)
              refine ⟨_, (rd x0 s22.2).bind some, by rw [h57]; rfl, fun _ => ?_⟩
              refine s_env (env' := [(15, .slice a0_0 x0.length c0_0), (16, .int .i64 s22.2)]) (by exact ⟨congrArg some hv288, congrArg some hv291, trivial⟩) ?_
              refine o_ixf hp290 rfl rfl fun y52 bk294 of295 h293 hc296 => ?_
              obtain rfl := Option.some.inj (h57.symm.trans h293)
              exact s_pred fun _ _ _ hE hI => ⟨(.pointer (some ⟨bk294, of295, none⟩)), [], _, fun _ e => (by cases e; exact hE _ _ rfl), .refl _, by exact hI, ⟨bk294, of295, rfl, rfl, hc296⟩⟩
            refine dcons ?_ ?_
            · intro _ _ H299 fr300 hle301 hd302
              obtain ⟨bk304, of305, hv306, hg307, hp308⟩ := hd302 2 (by decide)
              refine ⟨_, some (), rfl, fun _ => ?_⟩
              refine s_env (env' := [(17, .pointer (some ⟨bk304, of305, none⟩))]) (by exact ⟨congrArg some hv306, trivial⟩) ?_
              refine o_fa rfl ?_
              exact s_pred fun _ _ _ hE hI => ⟨(.pointer (some ⟨bk304, of305, none⟩)), [], _, fun _ e => (by cases e; exact hE _ _ rfl), .refl _, by exact hI, ⟨bk304, of305, rfl, rfl, hp308⟩⟩
            refine dcons ?_ ?_
            · intro _ _ H311 fr312 hle313 hd314
              obtain ⟨bk316, of317, hv318, hg319, hp320⟩ := hd314 3 (by decide)
              refine ⟨_, some (), rfl, fun _ => ?_⟩
              refine s_env (env' := [(18, .pointer (some ⟨bk316, of317, none⟩))]) (by exact ⟨congrArg some hv318, trivial⟩) ?_
              refine o_ldH 0 hp320 rfl rfl rfl ?_
              exact s_pred fun _ _ _ hE hI => ⟨(.agg #[.int .i64 y52.A.Switch, .int .i64 y52.A.Port]), [], _, fun _ e => (by cases e; exact hE _ _ rfl), .refl _, by exact hI, ⟨rfl, rfl⟩⟩
            refine dcons ?_ ?_
            · intro _ _ H323 fr324 hle325 hd326
              refine ⟨_, some (), rfl, fun _ => ?_⟩
              refine s_env (env' := [(4, .pointer (some ⟨b1, 0, none⟩))]) (by exact ⟨rfl, trivial⟩) ?_
              refine o_ld 0 rfl rfl rfl ?_
              exact s_pred fun _ _ _ hE hI => ⟨(.agg #[.int .i64 x1.Switch, .int .i64 x1.Port]), [], _, fun _ e => (by cases e; exact hE _ _ rfl), .refl _, by exact hI, ⟨rfl, rfl⟩⟩
            refine dcons ?_ ?_
            · intro _ _ H330 fr331 hle332 hd333
              obtain ⟨hv335, hg336⟩ := hd333 4 (by decide)
              obtain ⟨hv337, hg338⟩ := hd333 5 (by decide)
              refine ⟨_, some (), rfl, fun _ => ?_⟩
              refine s_env (env' := [(19, .agg #[.int .i64 y52.A.Switch, .int .i64 y52.A.Port]), (20, .agg #[.int .i64 x1.Switch, .int .i64 x1.Port])]) (by exact ⟨congrArg some hv335, congrArg some hv337, trivial⟩) ?_
              refine o_neS y52.A x1 rfl rfl ?_
              exact s_pred fun _ _ _ hE hI => ⟨(.bool (!(decide (y52.A = x1)))), [], _, fun _ e => (by cases e; exact hE _ _ rfl), .refl _, by exact hI, ⟨rfl, rfl⟩⟩
            refine dcons ?_ ?_
            · intro _ _ H341 fr342 hle343 hd344
              obtain ⟨hv346, hg347⟩ := hd344 6 (by decide)
              refine ⟨_, some (), rfl, fun _ => ?_⟩
              refine s_env (env' := [(21, .bool (!(decide (y52.A = x1))))]) (by exact ⟨congrArg some hv346, trivial⟩) ?_
              refine o_mov rfl ?_
              exact s_pred fun _ _ _ hE hI => ⟨(.bool (!(decide (y52.A = x1)))), [], _, fun _ e => (by cases e; exact hE _ _ rfl), .refl _, by exact hI, ⟨rfl, rfl⟩⟩
            refine dcons ?_ ?_
            · intro _ _ H350 fr351 hle352 hd353
              have hs355 := RSl.mono hle352 hs31
              obtain ⟨hv356, hg357⟩ := hd353 7 (by decide)
              refine ⟨_, some (), rfl, fun _ => ?_⟩
              refine s_env (env' := [(22, .bool (!(decide (y52.A = x1)))), (0, .slice a0_0 x0.length c0_0)]) (by exact ⟨congrArg some hv356, rfl, trivial⟩) ?_
              refine s_unwant rfl rfl h58 ?_
              exact s_pred fun _ _ _ hE hI => ⟨undef, [], _, fun _ e => (by cases e; exact hE _ _ rfl), .refl _, by exact hI, ⟨rfl, rfl⟩⟩
            refine dcons ?_ ?_
            · intro _ _ H360 fr361 hle362 hd363
              obtain ⟨hv365, hg366⟩ := hd363 7 (by decide)
              refine ⟨_, some (), rfl, fun _ => ?_⟩
              refine s_env (env' := [(22, .bool (!(decide (y52.A = x1)))), (8, .int .i64 s22.2)]) (by exact ⟨congrArg some hv365, rfl, trivial⟩) ?_
              refine s_unwant rfl rfl h58 ?_
              exact s_pred fun _ _ _ hE hI => ⟨undef, [], _, fun _ e => (by cases e; exact hE _ _ rfl), .refl _, by exact hI, ⟨rfl, rfl⟩⟩
            refine dcons ?_ ?_
            · intro _ _ H369 fr370 hle371 hd372
              obtain ⟨hv374, hg375⟩ := hd372 7 (by decide)
              obtain ⟨hv376, hg377⟩ := hd372 8 (by decide)
              obtain ⟨hv378, hg379⟩ := hd372 9 (by decide)
              refine ⟨_, some (), rfl, fun _ => ?_⟩
              refine s_env (env' := [(22, .bool (!(decide (y52.A = x1)))), (23, undef), (24, undef)]) (by exact ⟨congrArg some hv374, congrArg some hv376, congrArg some hv378, trivial⟩) ?_
              refine s_unwant rfl rfl h58 ?_
              exact s_pred fun _ _ _ hE hI => ⟨undef, [], _, fun _ e => (by cases e; exact hE _ _ rfl), .refl _, by exact hI, ⟨rfl, rfl⟩⟩
            refine dcons ?_ ?_
            · intro _ _ H382 fr383 hle384 hd385
              obtain ⟨hv387, hg388⟩ := hd385 7 (by decide)
              obtain ⟨hv389, hg390⟩ := hd385 10 (by decide)
              refine ⟨_, some (), rfl, fun _ => ?_⟩
              refine s_env (env' := [(22, .bool (!(decide (y52.A = x1)))), (25, undef)]) (by exact ⟨congrArg some hv387, congrArg some hv389, trivial⟩) ?_
              refine s_unwant rfl rfl h58 ?_
              exact s_pred fun _ _ _ hE hI => ⟨undef, [], _, fun _ e => (by cases e; exact hE _ _ rfl), .refl _, by exact hI, ⟨rfl, rfl⟩⟩
            refine dcons ?_ ?_
            · intro _ _ H393 fr394 hle395 hd396
              obtain ⟨hv398, hg399⟩ := hd396 7 (by decide)
              obtain ⟨hv400, hg401⟩ := hd396 11 (by decide)
              refine ⟨_, some (), rfl, fun _ => ?_⟩
              refine s_env (env' := [(22, .bool (!(decide (y52.A = x1)))), (26, undef)]) (by exact ⟨congrArg some hv398, congrArg some hv400, trivial⟩) ?_
              refine s_unwant rfl rfl h58 ?_
              exact s_pred fun _ _ _ hE hI => ⟨undef, [], _, fun _ e => (by cases e; exact hE _ _ rfl), .refl _, by exact hI, ⟨rfl, rfl⟩⟩
            refine dcons ?_ ?_
            · intro _ _ H404 fr405 hle406 hd407
              obtain ⟨hv409, hg410⟩ := hd407 7 (by decide)
              refine ⟨_, some (), rfl, fun _ => ?_⟩
              refine s_env (env' := [(22, .bool (!(decide (y52.A = x1)))), (4, .pointer (some ⟨b1, 0, none⟩))]) (by exact ⟨congrArg some hv409, rfl, trivial⟩) ?_
              refine s_unwant rfl rfl h58 ?_
              exact s_pred fun _ _ _ hE hI => ⟨undef, [], _, fun _ e => (by cases e; exact hE _ _ rfl), .refl _, by exact hI, ⟨rfl, rfl⟩⟩
            refine dcons ?_ ?_
            · intro _ _ H413 fr414 hle415 hd416
              obtain ⟨hv418, hg419⟩ := hd416 7 (by decide)
              obtain ⟨hv420, hg421⟩ := hd416 12 (by decide)
              obtain ⟨hv422, hg423⟩ := hd416 13 (by decide)
              refine ⟨_, some (), rfl, fun _ => ?_⟩
              refine s_env (env' := [(22, .bool (!(decide (y52.A = x1)))), (27, undef), (28, undef)]) (by exact ⟨congrArg some hv418, congrArg some hv420, congrArg some hv422, trivial⟩) ?_
              refine s_unwant rfl rfl h58 ?_
              exact s_pred fun _ _ _ hE hI => ⟨undef, [], _, fun _ e => (by cases e; exact hE _ _ rfl), .refl _, by exact hI, ⟨rfl, rfl⟩⟩
            refine dcons ?_ ?_
            · intro _ _ H426 fr427 hle428 hd429
              obtain ⟨hv431, hg432⟩ := hd429 7 (by decide)
              obtain ⟨hv433, hg434⟩ := hd429 14 (by decide)
              refine ⟨_, some (), rfl, fun _ => ?_⟩
              refine s_env (env' := [(22, .bool (!(decide (y52.A = x1)))), (29, undef)]) (by exact ⟨congrArg some hv431, congrArg some hv433, trivial⟩) ?_
              refine o_pickF rfl h58 rfl ?_
              exact s_pred fun _ _ _ hE hI => ⟨(.bool false), [], _, fun _ e => (by cases e; exact hE _ _ rfl), .refl _, by exact hI, ⟨rfl, rfl⟩⟩
            exact dnil
          · intro V437 G438 H435 hle436 hF439
            have hs440 := RSl.mono hle436 hs31
            have hA441 := All2.mono (fun _ _ => GoT.mono hle436) hA26
            obtain ⟨hv442, hg443⟩ := hF439 15 (show 15 < 16 by decide)
            refine s_env (env' := [(30, .bool false), (0, .slice a0_0 x0.length c0_0), (2, .int .i64 x2), (4, .pointer (some ⟨b1, 0, none⟩)), (7, .slice a23 s22.1.length c24), (8, .int .i64 s22.2), (9, .int .i64 s22.2), (10, .slice a0_0 x0.length c0_0), (11, .int .i64 (x0.length : Int)), (12, .bool (decide (s22.2 < (x0.length : Int))))]) (by exact ⟨congrArg some hv442, rfl, rfl, rfl, rfl, rfl, rfl, rfl, rfl, rfl, trivial⟩) ?_
            refine s_own (List.sublist_append_left _ _) ?_
            refine s_done ?_
            exact s_env (by exact ⟨rfl, rfl, rfl, rfl, rfl, rfl, trivial⟩) (s_own (by exact (.cons_cons _ (.cons_cons _ .slnil))) (J51 false _ _ _ ⟨rfl, rfl, hle436⟩))
    · refine s_exit rfl ?_
      exact s_env (by exact ⟨rfl, rfl, trivial⟩) (s_own (by exact (.cons _ (.cons_cons _ .slnil))) (J13 s22.1 _ _ _ ⟨_, _, _, rfl, rfl, hle30, hA26⟩))

/-! catenary/catenarylaw20.TreeApart -/
def catenarylaw20_TreeApart_l2 (k : Nat) (y1 : (List Link)) (y224 : (List End) × Bool) (s294 : (List End) × (List End) × Int) : Nat → (List End) × (List End) × Int → Option (LX (LX (LX (Bool) (Unit)) ((List End))) ((List End) × (List End)))
  | 0, _ => none
  | q333 + 1, s324 =>
    if (((decide (s324.2.2 < (s324.2.1.length : Int))) && y224.2)) = true then
      (rd s324.1 s294.2.2).bind fun y340 =>
      (graph_Peer k (⟨6, y1⟩ : Graph) y340).bind fun y347 =>
      ((rd s324.1 s294.2.2).bind fun y363 =>
        (rd s324.2.1 s324.2.2).bind fun y371 =>
        if (decide (y363 = y371)) = true then
          some (s324.2.1, true)
        else
          (rd s324.2.1 s324.2.2).bind fun y588 =>
          some (s324.2.1, decide (y347.1 = y588))).bind fun p351 =>
      if (p351.2) = true then
        some (.ret (.ret (.ret false)))
      else
        catenarylaw20_TreeApart_l2 k y1 y224 s294 q333 (s324.1, p351.1, w64 (s324.2.2 + 1))
    else
      some (.out (s324.1, s324.2.1))
def catenarylaw20_TreeApart_l1 (k : Nat) (y1 : (List Link)) (y224 : (List End) × Bool) : Nat → (List End) × (List End) × Int → Option (LX (LX (Bool) (Unit)) ((List End)))
  | 0, _ => none
  | q303 + 1, s294 =>
    if (decide (s294.2.2 < (s294.1.length : Int))) = true then
      (catenarylaw20_TreeApart_l2 k y1 y224 s294 k (s294.1, s294.2.1, 0)).bind (LX.go fun p310 =>
      catenarylaw20_TreeApart_l1 k y1 y224 q303 (p310.1, p310.2, w64 (s294.2.2 + 1)))
    else
      some (.out s294.1)
def catenarylaw20_TreeApart_l0 (k : Nat) (y1 : (List Link)) (y19 : (List Link)) (y31 : (List Link)) : Nat → Int → Option (LX (Bool) (Unit))
  | 0, _ => none
  | q207 + 1, s206 =>
    if (decide (s206 < 7)) = true then
      (tree_First k y1 s206).bind fun y214 =>
      (tree_Second k y1 s206).bind fun y224 =>
      (if (y224.2) = true then
          if (!y214.2) = true then
            some true
          else
            (catenarylaw20_goes k y1 y224.1 s206).bind fun y823 =>
            (catenarylaw20_goes k y1 y214.1 s206).bind fun y825 =>
            if (decide (y823 < y825)) = true then
              some true
            else
              (catenarylaw20_goes k y1 y214.1 s206).bind fun y828 =>
              some (decide (y828 < 0))
        else
          some false).bind fun p235 =>
      if (p235) = true then
        some (.ret false)
      else
        (catenarylaw20_TreeApart_l1 k y1 y224 k (y214.1, y224.1, 0)).bind (LX.go fun p243 =>
        (tree_First k ((([] : List Link) ++ y19) ++ y31) s206).bind fun y252 =>
        (if (y224.2) = true then
            if (!y252.2) = true then
              some true
            else
              if (y214.2) = true then
                if (decide (s206 > 1)) = true then
                  if ((p243.length : Int) == 1) = true then
                    if (!y224.2) = true then
                      (rd p243 0).bind fun y271 =>
                      (catenarylaw20_hangs k y1 y271 s206).bind fun y278 =>
                      some (y278 != (!y224.2))
                    else
                      some false
                  else
                    some false
                else
                  some false
              else
                some false
          else
            if (y214.2) = true then
              if (decide (s206 > 1)) = true then
                if ((p243.length : Int) == 1) = true then
                  if (!y224.2) = true then
                    (rd p243 0).bind fun y284 =>
                    (catenarylaw20_hangs k y1 y284 s206).bind fun y291 =>
                    some (y291 != (!y224.2))
                  else
                    some false
                else
                  some false
              else
                some false
            else
              some false).bind fun p258 =>
        if (p258) = true then
          some (.ret false)
        else
          catenarylaw20_TreeApart_l0 k y1 y19 y31 q207 (w64 (s206 + 1)))
    else
      some (.out ())
def catenarylaw20_TreeApart (k : Nat) (x0 : (List Link)) (x1 : Int) : Option Bool :=
  (catenarylaw20_made k x0).bind fun y1 =>
  if ((y1.length : Int) == 0) = true then
    (catenarylaw20_works k).bind fun y10 =>
    some y10
  else
    (catenaryref00_Bring k x1 (y1.length : Int)).bind fun y12 =>
    (slc y1 0 y12).bind fun y19 =>
    (app ([] : List Link) y19).bind fun _ =>
    (slc y1 (w64 (y12 + 1)) y1.length).bind fun y31 =>
    (app (([] : List Link) ++ y19) y31).bind fun _ =>
    (catenarylaw20_TreeApart_l0 k y1 y19 y31 k 1).bind (LX.go fun p200 =>
    (catenarylaw20_works k).bind fun y203 =>
    some y203)
theorem fn_11 : Try.prog.funcs[11]? = some Try.f11 := by kernel_rfl
set_option maxRecDepth 100000 in
set_option maxHeartbeats 4000000 in
theorem catenarylaw20_TreeApart_ok (k : Nat) (H : Heap) (x0 : (List Link)) (a0_0 : Option Addr) (c0_0 : Nat) (hx0_0 : RSl H a0_0 c0_0 x0) (x1 : Int) {r : Bool} (hr : catenarylaw20_TreeApart k x0 x1 = some r) :
    Fn Try.prog 11 [.slice a0_0 x0.length c0_0, .int .i64 x1] H [] fun H' v out => v = .bool r ∧ out = [] := by
  refine fn_of_sim (args := [.slice a0_0 x0.length c0_0, .int .i64 x1]) (n := 160) (Φ := fun r H' v out => v = .bool r ∧ out = []) hr fn_11 rfl rfl rfl fun w => ?_
  refine s_eq (by rw [catenarylaw20_TreeApart]) ?_
  refine s_seq ?_
  refine s_region ?_
  refine o_asg rfl ?_
  refine s_done ?_
  refine s_seq ?_
  refine s_region ?_
  refine o_mov rfl ?_
  refine s_bg fun y1 h2 => ?_
  refine s_call [] _ rfl rfl (.refl _) (catenarylaw20_made_ok k _ x0 _ _ hx0_0 h2) ?_
  rintro _ H6 _ hle7 ⟨a3, c4, rfl, rfl, hs5⟩
  have hs8 := RSl.mono hle7 hx0_0
  refine s_ownN ?_
  refine o_asg rfl ?_
  refine s_done ?_
  refine s_seq ?_
  refine s_seq ?_
  refine s_region ?_
  refine o_mov rfl ?_
  refine o_lenS rfl ?_
  refine o_eq rfl rfl ?_
  refine s_done ?_
  refine s_cond rfl (fun h9 => ?_) (fun h9 => ?_)
  · refine s_seq ?_
    refine s_region ?_
    refine s_bg fun y10 h11 => ?_
    refine s_callF rfl rfl (catenarylaw20_works_ok k _ h11) ?_
    refine o_asg rfl ?_
    refine s_done ?_
    exact s_retv (xs := [.tmp 4]) (vs := [.bool y10]) [] fn_11 rfl ⟨rv_tmp rfl, trivial⟩ .slnil ⟨rfl, rfl⟩
  · refine s_skip ?_
    refine s_seq ?_
    refine s_region ?_
    refine o_mov rfl ?_
    refine o_mov rfl ?_
    refine o_lenS rfl ?_
    refine s_bg fun y12 h13 => ?_
    refine s_callF rfl rfl (catenaryref00_Bring_ok k _ x1 (y1.length : Int) h13) ?_
    refine o_asg rfl ?_
    refine s_done ?_
    refine s_seq ?_
    refine s_bg fun y19 h22 => ?_
    refine s_bg fun _ h28 => ?_
    refine s_bg fun y31 h34 => ?_
    refine s_bg fun _ h40 => ?_
    refine s_drawL [(fun H v g => ∃ b41, v = Value.slice (some ⟨b41, 0, none⟩) ([] : List Link).length 0 ∧ g = [.osl (.slice (some ⟨b41, 0, none⟩) ([] : List Link).length 0) 4 40 []] ∧ All2 (GoT.rep H) [] ([] : List Link)),
      (fun H v g => v = Value.slice a3 y1.length c4 ∧ g = [] ∧ RSl H a3 c4 y1),
      (fun H v g => v = Value.int .i64 y12 ∧ g = []),
      (fun H v g => ∃ a44 c45, v = Value.slice a44 y19.length c45 ∧ g = [] ∧ RSl H a44 c45 y19),
      (fun H v g => ∃ a48 c49 ls52, v = Value.slice a48 (([] : List Link) ++ y19).length c49 ∧ g = [.osl (.slice a48 (([] : List Link) ++ y19).length c49) 4 40 ls52] ∧ All2 (GoT.rep H) ls52 (([] : List Link) ++ y19)),
      (fun H v g => v = Value.slice a3 y1.length c4 ∧ g = [] ∧ RSl H a3 c4 y1),
      (fun H v g => v = Value.int .i64 y12 ∧ g = []),
      (fun H v g => v = Value.int .i64 (w64 (y12 + 1)) ∧ g = []),
      (fun H v g => ∃ a53 c54, v = Value.slice a53 y31.length c54 ∧ g = [] ∧ RSl H a53 c54 y31),
      (fun H v g => ∃ a57 c58 ls61, v = Value.slice a57 ((([] : List Link) ++ y19) ++ y31).length c58 ∧ g = [.osl (.slice a57 ((([] : List Link) ++ y19) ++ y31).length c58) 4 40 ls61] ∧ All2 (GoT.rep H) ls61 ((([] : List Link) ++ y19) ++ y31))] [[], [], [], [], [0], [], [], [], [], [4]] mixed ⟨fun _ _ _ _ hle ⟨b41, e1, e2, h0_⟩ => ⟨_, e1, e2, All2.mono (fun _ _ => GoT.mono hle) h0_⟩, fun _ _ _ _ hle ⟨e1, e2, h0_⟩ => ⟨e1, e2, RSl.mono hle h0_⟩, m0, fun _ _ _ _ hle ⟨a44, c45, e1, e2, h0_⟩ => ⟨_, _, e1, e2, RSl.mono hle h0_⟩, fun _ _ _ _ hle ⟨a48, c49, ls52, e1, e2, h0_⟩ => ⟨_, _, _, e1, e2, All2.mono (fun _ _ => GoT.mono hle) h0_⟩, fun _ _ _ _ hle ⟨e1, e2, h0_⟩ => ⟨e1, e2, RSl.mono hle h0_⟩, m0, m0, fun _ _ _ _ hle ⟨a53, c54, e1, e2, h0_⟩ => ⟨_, _, e1, e2, RSl.mono hle h0_⟩, fun _ _ _ _ hle ⟨a57, c58, ls61, e1, e2, h0_⟩ => ⟨_, _, _, e1, e2, All2.mono (fun _ _ => GoT.mono hle) h0_⟩, trivial⟩ (by kernel_rfl) (by kernel_rfl) rfl (by kernel_rfl) rfl rfl ?_ ?_
    · refine dcons ?_ ?_
      · intro _ _ H64 fr65 hle66 hd67
        refine ⟨_, some (), rfl, fun _ => ?_⟩
        refine s_env (env' := []) (by exact trivial) ?_
        refine o_bsl (xs := []) rfl rfl (by simp) rfl rfl fun b69 => ?_
        have hA70 : All2 (GoT.rep H64) [] ([] : List Link) := all2_enc (([] : List Link))
        refine s_perm (own' := [.osl (.slice (some ⟨b69, 0, none⟩) ([] : List Link).length 0) 4 40 []] ++ fr65) (pm3 (a := []) (xs := [.osl (.slice (some ⟨b69, 0, none⟩) ([] : List Link).length 0) 4 40 []])) ?_
        exact s_pred fun _ _ _ hE hI => ⟨(.slice (some ⟨b69, 0, none⟩) ([] : List Link).length 0), [.osl (.slice (some ⟨b69, 0, none⟩) ([] : List Link).length 0) 4 40 []], _, fun _ e => (by cases e; exact hE _ _ rfl), .refl _, by exact hI, ⟨b69, rfl, rfl, hA70⟩⟩
      refine dcons ?_ ?_
      · intro _ _ H74 fr75 hle76 hd77
        have hs79 := RSl.mono hle76 hs5
        refine ⟨_, some (), rfl, fun _ => ?_⟩
        refine s_env (env' := [(0, .slice a3 y1.length c4)]) (by exact ⟨rfl, trivial⟩) ?_
        refine o_mov rfl ?_
        exact s_pred fun _ _ _ hE hI => ⟨(.slice a3 y1.length c4), [], _, fun _ e => (by cases e; exact hE _ _ rfl), .refl _, by exact hI, ⟨rfl, rfl, hs79⟩⟩
      refine dcons ?_ ?_
      · intro _ _ H82 fr83 hle84 hd85
        refine ⟨_, some (), rfl, fun _ => ?_⟩
        refine s_env (env' := [(5, .int .i64 y12)]) (by exact ⟨rfl, trivial⟩) ?_
        refine o_mov rfl ?_
        exact s_pred fun _ _ _ hE hI => ⟨(.int .i64 y12), [], _, fun _ e => (by cases e; exact hE _ _ rfl), .refl _, by exact hI, ⟨rfl, rfl⟩⟩
      refine dcons ?_ ?_
      · intro _ _ H89 fr90 hle91 hd92
        obtain ⟨hv94, hg95, hp96⟩ := hd92 1 (by decide)
        obtain ⟨hv97, hg98⟩ := hd92 2 (by decide)
        refine ⟨_, (slc y1 0 y12).bind some, by rw [h22]; rfl, fun _ => ?_⟩
        refine s_env (env' := [(30, .slice a3 y1.length c4), (31, .int .i64 y12)]) (by exact ⟨congrArg some hv94, congrArg some hv97, trivial⟩) ?_
        refine o_sl hp96 rfl rfl ⟨_, rfl⟩ fun a99 c100 y19 h101 hs102 => ?_
        obtain rfl := Option.some.inj (h22.symm.trans h101)
        exact s_pred fun _ _ _ hE hI => ⟨(.slice a99 y19.length c100), [], _, fun _ e => (by cases e; exact hE _ _ rfl), .refl _, by exact hI, ⟨a99, c100, rfl, rfl, hs102⟩⟩
      refine dcons ?_ ?_
      · intro _ _ H105 fr106 hle107 hd108
        obtain ⟨b110, hv111, hg112, hp113⟩ := hd108 0 (by decide)
        obtain ⟨a114, c115, hv116, hg117, hp118⟩ := hd108 3 (by decide)
        refine ⟨_, (app ([] : List Link) y19).bind some, by rw [h28]; rfl, fun _ => ?_⟩
        refine s_env (env' := [(29, .slice (some ⟨b110, 0, none⟩) ([] : List Link).length 0), (32, .slice a114 y19.length c115)]) (by exact ⟨congrArg some hv111, congrArg some hv116, trivial⟩) ?_
        refine s_ownE (own' := [.osl (.slice (some ⟨b110, 0, none⟩) ([] : List Link).length 0) 4 40 []] ++ fr106) (by simp only [List.flatMap_cons, List.flatMap_nil, List.append_nil, hg112]; rfl) ?_
        refine o_appS 0 rfl rfl rfl hp113 hp118 fun a119 c120 ls123 h121 hA122 => ?_
        exact s_pred fun _ _ _ hE hI => ⟨(.slice a119 (([] : List Link) ++ y19).length c120), [.osl (.slice a119 (([] : List Link) ++ y19).length c120) 4 40 ls123], _, fun _ e => (by cases e; exact hE _ _ rfl), .refl _, by exact hI, ⟨a119, c120, ls123, rfl, rfl, hA122⟩⟩
      refine dcons ?_ ?_
      · intro _ _ H126 fr127 hle128 hd129
        have hs131 := RSl.mono hle128 hs5
        refine ⟨_, some (), rfl, fun _ => ?_⟩
        refine s_env (env' := [(0, .slice a3 y1.length c4)]) (by exact ⟨rfl, trivial⟩) ?_
        refine o_mov rfl ?_
        exact s_pred fun _ _ _ hE hI => ⟨(.slice a3 y1.length c4), [], _, fun _ e => (by cases e; exact hE _ _ rfl), .refl _, by exact hI, ⟨rfl, rfl, hs131⟩⟩
      refine dcons ?_ ?_
      · intro _ _ H134 fr135 hle136 hd137
        refine ⟨_, some (), rfl, fun _ => ?_⟩
        refine s_env (env' := [(5, .int .i64 y12)]) (by exact ⟨rfl, trivial⟩) ?_
        refine o_mov rfl ?_
        exact s_pred fun _ _ _ hE hI => ⟨(.int .i64 y12), [], _, fun _ e => (by cases e; exact hE _ _ rfl), .refl _, by exact hI, ⟨rfl, rfl⟩⟩
      refine dcons ?_ ?_
      · intro _ _ H141 fr142 hle143 hd144
        obtain ⟨hv146, hg147⟩ := hd144 6 (by decide)
        refine ⟨_, some (), rfl, fun _ => ?_⟩
        refine s_env (env' := [(35, .int .i64 y12)]) (by exact ⟨congrArg some hv146, trivial⟩) ?_
        refine o_add rfl rfl ?_
        exact s_pred fun _ _ _ hE hI => ⟨(.int .i64 (w64 (y12 + 1))), [], _, fun _ e => (by cases e; exact hE _ _ rfl), .refl _, by exact hI, ⟨rfl, rfl⟩⟩
      refine dcons ?_ ?_
      · intro _ _ H150 fr151 hle152 hd153
        obtain ⟨hv155, hg156, hp157⟩ := hd153 5 (by decide)
        obtain ⟨hv158, hg159⟩ := hd153 7 (by decide)
        refine ⟨_, (slc y1 (w64 (y12 + 1)) y1.length).bind some, by rw [h34]; rfl, fun _ => ?_⟩
        refine s_env (env' := [(34, .slice a3 y1.length c4), (36, .int .i64 (w64 (y12 + 1)))]) (by exact ⟨congrArg some hv155, congrArg some hv158, trivial⟩) ?_
        refine o_sl hp157 rfl ⟨_, rfl⟩ rfl fun a160 c161 y31 h162 hs163 => ?_
        obtain rfl := Option.some.inj (h34.symm.trans h162)
        exact s_pred fun _ _ _ hE hI => ⟨(.slice a160 y31.length c161), [], _, fun _ e => (by cases e; exact hE _ _ rfl), .refl _, by exact hI, ⟨a160, c161, rfl, rfl, hs163⟩⟩
      refine dcons ?_ ?_
      · intro _ _ H166 fr167 hle168 hd169
        obtain ⟨a171, c172, ls173, hv174, hg175, hp176⟩ := hd169 4 (by decide)
        obtain ⟨a177, c178, hv179, hg180, hp181⟩ := hd169 8 (by decide)
        refine ⟨_, (app (([] : List Link) ++ y19) y31).bind some, by rw [h40]; rfl, fun _ => ?_⟩
        refine s_env (env' := [(33, .slice a171 (([] : List Link) ++ y19).length c172), (37, .slice a177 y31.length c178)]) (by exact ⟨congrArg some hv174, congrArg some hv179, trivial⟩) ?_
        refine s_ownE (own' := [.osl (.slice a171 (([] : List Link) ++ y19).length c172) 4 40 ls173] ++ fr167) (by simp only [List.flatMap_cons, List.flatMap_nil, List.append_nil, hg175]; rfl) ?_
        refine o_appS 0 rfl rfl rfl hp176 hp181 fun a182 c183 ls186 h184 hA185 => ?_
        exact s_pred fun _ _ _ hE hI => ⟨(.slice a182 ((([] : List Link) ++ y19) ++ y31).length c183), [.osl (.slice a182 ((([] : List Link) ++ y19) ++ y31).length c183) 4 40 ls186], _, fun _ e => (by cases e; exact hE _ _ rfl), .refl _, by exact hI, ⟨a182, c183, ls186, rfl, rfl, hA185⟩⟩
      exact dnil
    · intro V189 G190 H187 hle188 hF191
      have hs192 := RSl.mono hle188 hs5
      have hs193 := RSl.mono hle188 hs8
      obtain ⟨a194, c195, ls196, hv197, hg198, hp199⟩ := hF191 9 (show 9 < 10 by decide)
      refine s_env (env' := [(38, .slice a194 ((([] : List Link) ++ y19) ++ y31).length c195), (0, .slice a3 y1.length c4), (1, .int .i64 x1), (4, .bool false), (19, .slice a0_0 x0.length c0_0), (20, .slice a3 y1.length c4), (21, .slice a3 y1.length c4), (22, .int .i64 (y1.length : Int)), (23, .bool ((y1.length : Int) == 0)), (25, .int .i64 x1), (26, .slice a3 y1.length c4), (27, .int .i64 (y1.length : Int)), (28, .int .i64 y12), (5, .int .i64 y12)]) (by exact ⟨congrArg some hv197, rfl, rfl, rfl, rfl, rfl, rfl, rfl, rfl, rfl, rfl, rfl, rfl, rfl, trivial⟩) ?_
      refine s_liv (js := [9]) rfl ?_
      refine s_ownE (own' := [.osl (.slice a194 ((([] : List Link) ++ y19) ++ y31).length c195) 4 40 ls196]) (by simp only [List.flatMap_cons, List.flatMap_nil, List.append_nil, hg198]; rfl) ?_
      refine o_asg rfl ?_
      refine s_done ?_
      refine s_seq ?_
      refine s_seq ?_
      refine s_region ?_
      refine o_asg rfl ?_
      refine s_done ?_
      refine s_joinL (fun p200 env own H' => env = [] ∧ own = [] ∧ Hle H187 H') ?_ ?_
      · rintro p200 _ _ H201 ⟨rfl, rfl, hle202⟩
        refine s_seq ?_
        refine s_region ?_
        refine s_bg fun y203 h204 => ?_
        refine s_callF rfl rfl (catenarylaw20_works_ok k _ h204) ?_
        refine o_asg rfl ?_
        refine s_done ?_
        exact s_retv (xs := [.tmp 4]) (vs := [.bool y203]) [] fn_11 rfl ⟨rv_tmp rfl, trivial⟩ .slnil ⟨rfl, rfl⟩
      · intro J205
        refine s_block ?_
        refine s_env (env' := [(0, .slice a3 y1.length c4), (6, .slice a194 ((([] : List Link) ++ y19) ++ y31).length c195), (7, .int .i64 1)]) (by exact ⟨rfl, rfl, rfl, trivial⟩) ?_
        refine s_own (own' := [.osl (.slice a194 ((([] : List Link) ++ y19) ++ y31).length c195) 4 40 ls196]) (.cons_cons _ .slnil) ?_
        refine s_loopn (fun q s206 => catenarylaw20_TreeApart_l0 k y1 y19 y31 q s206) (fun s206 env own H' => env = [(0, .slice a3 y1.length c4), (6, .slice a194 ((([] : List Link) ++ y19) ++ y31).length c195), (7, .int .i64 s206)] ∧ own = [.osl (.slice a194 ((([] : List Link) ++ y19) ++ y31).length c195) 4 40 ls196] ∧ Hle H187 H') (fun _ => rfl) ?_ k 1 ⟨rfl, rfl, .refl _⟩
        rintro q207 ih208 s206 _ _ H209 ⟨rfl, rfl, hle210⟩
        refine s_eq (by rw [catenarylaw20_TreeApart_l0]) ?_
        have hs211 := RSl.mono hle210 hs192
        have hA212 := All2.mono (fun _ _ => GoT.mono hle210) hp199
        refine s_seq ?_
        refine s_seq ?_
        refine s_region ?_
        refine o_mov rfl ?_
        refine o_lt rfl rfl ?_
        refine s_done ?_
        refine s_cond rfl (fun h213 => ?_) (fun h213 => ?_)
        · refine s_skip ?_
          refine s_seq ?_
          refine s_block ?_
          refine s_seq ?_
          refine s_region ?_
          refine o_mov rfl ?_
          refine o_mov rfl ?_
          refine s_bg fun y214 h215 => ?_
          refine s_call [] _ rfl rfl (.refl _) (tree_First_ok k _ y1 _ _ hs211 s206 h215) ?_
          rintro _ H219 _ hle220 ⟨a216, c217, rfl, rfl⟩
          have hs221 := RSl.mono hle220 hs211
          have hA222 := All2.mono (fun _ _ => GoT.mono hle220) hA212
          have hA223 : All2 (GoT.rep H219) (y214.1.map GoE.enc) y214.1 := all2_enc _
          refine o_mov rfl ?_
          refine o_ext rfl rfl ?_
          refine o_ext rfl rfl ?_
          refine o_asg rfl ?_
          refine o_asg rfl ?_
          refine s_done ?_
          refine s_seq ?_
          refine s_region ?_
          refine o_mov rfl ?_
          refine o_mov rfl ?_
          refine s_bg fun y224 h225 => ?_
          refine s_call [] _ rfl rfl (.refl _) (tree_Second_ok k _ y1 _ _ hs221 s206 h225) ?_
          rintro _ H229 _ hle230 ⟨a226, c227, rfl, rfl⟩
          have hs231 := RSl.mono hle230 hs221
          have hA232 := All2.mono (fun _ _ => GoT.mono hle230) hA222
          have hA233 := All2.mono (fun _ _ => GoT.mono hle230) hA223
          have hA234 : All2 (GoT.rep H229) (y224.1.map GoE.enc) y224.1 := all2_enc _
          refine o_mov rfl ?_
          refine o_ext rfl rfl ?_
          refine o_ext rfl rfl ?_
          refine o_asg rfl ?_
          refine o_asg rfl ?_
          refine s_done ?_
          refine s_seq ?_
          refine s_seq ?_
          refine s_region ?_
          refine s_joinR (fun p235 env own H' => env = [(0, .slice a3 y1.length c4), (6, .slice a194 ((([] : List Link) ++ y19) ++ y31).length c195), (7, .int .i64 s206), (8, .slice a216 y214.1.length c217), (9, .bool y214.2), (10, .slice a226 y224.1.length c227), (11, .bool y224.2), (77, .bool p235)] ∧ own = [.osl (.slice a194 ((([] : List Link) ++ y19) ++ y31).length c195) 4 40 ls196, .osl (.slice a216 y214.1.length c217) 2 26 (y214.1.map GoE.enc), .osl (.slice a226 y224.1.length c227) 2 26 (y224.1.map GoE.enc)] ∧ Hle H229 H') ?_ ?_
          · rintro p235 _ _ H236 ⟨rfl, rfl, hle237⟩
            have hs238 := RSl.mono hle237 hs231
            have hA239 := All2.mono (fun _ _ => GoT.mono hle237) hA232
            have hA240 := All2.mono (fun _ _ => GoT.mono hle237) hA233
            have hA241 := All2.mono (fun _ _ => GoT.mono hle237) hA234
            refine s_cond rfl (fun h242 => ?_) (fun h242 => ?_)
            · refine s_seq ?_
              refine s_region ?_
              refine o_asg rfl ?_
              refine s_done ?_
              refine s_lret ?_
              exact s_retv (xs := [.tmp 4]) (vs := [.bool false]) [] fn_11 rfl ⟨rv_tmp rfl, trivial⟩ (.cons _ (.cons _ (.cons _ .slnil))) ⟨rfl, rfl⟩
            · refine s_skip ?_
              refine s_seq ?_
              refine s_seq ?_
              refine s_region ?_
              refine o_asg rfl ?_
              refine s_done ?_
              refine s_joinL (fun p243 env own H' => ∃ a244 c245 ls246, env = [(0, .slice a3 y1.length c4), (6, .slice a194 ((([] : List Link) ++ y19) ++ y31).length c195), (7, .int .i64 s206), (8, .slice a244 p243.length c245), (9, .bool y214.2), (11, .bool y224.2)] ∧ own = [.osl (.slice a194 ((([] : List Link) ++ y19) ++ y31).length c195) 4 40 ls196, .osl (.slice a244 p243.length c245) 2 26 ls246] ∧ Hle H236 H' ∧ All2 (GoT.rep H') ls246 p243) ?_ ?_
              · rintro p243 _ _ H248 ⟨a244, c245, ls246, rfl, rfl, hle249, hA247⟩
                have hs250 := RSl.mono hle249 hs238
                have hA251 := All2.mono (fun _ _ => GoT.mono hle249) hA239
                refine s_seq ?_
                refine s_region ?_
                refine o_mov rfl ?_
                refine o_mov rfl ?_
                refine s_bg fun y252 h253 => ?_
                refine s_callL (Φ := fun v out => ∃ a0 c0, v = .tuple #[.slice a0 y252.1.length c0, .bool y252.2] ∧ out = [.osl (.slice a0 y252.1.length c0) 2 26 (y252.1.map GoE.enc)]) [] _ rfl rfl (.refl _) (fun H' hle hl => tree_First_ok k _ ((([] : List Link) ++ y19) ++ y31) _ _ (lent_rsl (hl _ (List.mem_of_getElem? (i := 0) rfl)) hA251 hle).2 s206 h253) ?_
                rintro _ _ ⟨a254, c255, rfl, rfl⟩
                have hA257 : All2 (GoT.rep H248) (y252.1.map GoE.enc) y252.1 := all2_enc _
                refine o_mov rfl ?_
                refine o_ext rfl rfl ?_
                refine o_ext rfl rfl ?_
                refine o_asg rfl ?_
                refine o_asg rfl ?_
                refine s_done ?_
                refine s_seq ?_
                refine s_region ?_
                refine s_joinR (fun p258 env own H' => env = [(0, .slice a3 y1.length c4), (6, .slice a194 ((([] : List Link) ++ y19) ++ y31).length c195), (7, .int .i64 s206), (158, .bool p258)] ∧ own = [.osl (.slice a194 ((([] : List Link) ++ y19) ++ y31).length c195) 4 40 ls196] ∧ Hle H248 H') ?_ ?_
                · rintro p258 _ _ H259 ⟨rfl, rfl, hle260⟩
                  have hs261 := RSl.mono hle260 hs250
                  have hA262 := All2.mono (fun _ _ => GoT.mono hle260) hA251
                  refine s_cond rfl (fun h263 => ?_) (fun h263 => ?_)
                  · refine s_seq ?_
                    refine s_region ?_
                    refine o_asg rfl ?_
                    refine s_done ?_
                    refine s_lret ?_
                    exact s_retv (xs := [.tmp 4]) (vs := [.bool false]) [] fn_11 rfl ⟨rv_tmp rfl, trivial⟩ (.cons _ .slnil) ⟨rfl, rfl⟩
                  · refine s_skip ?_
                    refine s_inBlock ?_
                    refine s_region ?_
                    refine o_mov rfl ?_
                    refine o_add rfl rfl ?_
                    refine o_asg rfl ?_
                    refine s_done ?_
                    exact s_env (by exact ⟨rfl, rfl, rfl, trivial⟩) (s_own (by exact (.cons_cons _ .slnil)) (ih208 (w64 (s206 + 1)) _ _ _ ⟨rfl, rfl, (Hle.trans (Hle.trans (Hle.trans (Hle.trans (Hle.trans hle210 hle220) hle230) hle237) hle249) hle260)⟩))
                · intro J264
                  refine o_mov rfl ?_
                  refine o_mov rfl ?_
                  refine s_split y224.2 (fun h265 => ?_) (fun h265 => ?_)
                  · refine s_want rfl rfl h265 ?_
                    refine o_mov rfl ?_
                    refine s_want rfl rfl h265 ?_
                    refine o_not rfl ?_
                    refine o_pickT rfl h265 rfl ?_
                    refine o_mov rfl ?_
                    refine s_split (!y252.2) (fun h266 => ?_) (fun h266 => ?_)
                    · refine s_unwant rfl rfl h266 ?_
                      refine s_unwant rfl rfl h266 ?_
                      refine s_unwantU rfl rfl ?_
                      refine s_unwantU rfl rfl ?_
                      refine s_unwant rfl rfl h266 ?_
                      refine s_unwant rfl rfl h266 ?_
                      refine s_unwantU rfl rfl ?_
                      refine s_unwantU rfl rfl ?_
                      refine s_unwantU rfl rfl ?_
                      refine s_unwant rfl rfl h266 ?_
                      refine s_unwant rfl rfl h266 ?_
                      refine s_unwantU rfl rfl ?_
                      refine s_unwantU rfl rfl ?_
                      refine s_unwant rfl rfl h266 ?_
                      refine s_unwant rfl rfl h266 ?_
                      refine s_unwantU rfl rfl ?_
                      refine s_unwantU rfl rfl ?_
                      refine s_unwantU rfl rfl ?_
                      refine s_unwantU rfl rfl ?_
                      refine s_unwantU rfl rfl ?_
                      refine s_unwantU rfl rfl ?_
                      refine s_unwantU rfl rfl ?_
                      refine s_unwantU rfl rfl ?_
                      refine s_unwantU rfl rfl ?_
                      refine s_unwant rfl rfl h266 ?_
                      refine o_pickT rfl h266 rfl ?_
                      exact s_env (by exact ⟨rfl, rfl, rfl, rfl, trivial⟩) (s_own (by exact (.cons_cons _ (.cons _ (.cons _ .slnil)))) (J264 true _ _ _ ⟨rfl, rfl, .refl _⟩))
                    · refine s_want rfl rfl h266 ?_
                      refine o_mov rfl ?_
                      refine s_want rfl rfl h266 ?_
                      refine o_mov rfl ?_
                      refine s_split y214.2 (fun h267 => ?_) (fun h267 => ?_)
                      · refine s_want rfl rfl h267 ?_
                        refine o_mov rfl ?_
                        refine s_want rfl rfl h267 ?_
                        refine o_gt rfl rfl ?_
                        refine s_want rfl rfl h266 ?_
                        refine o_pickT rfl h267 rfl ?_
                        refine s_want rfl rfl h266 ?_
                        refine o_mov rfl ?_
                        refine s_split (decide (s206 > 1)) (fun h268 => ?_) (fun h268 => ?_)
                        · refine s_want rfl rfl h268 ?_
                          refine o_mov rfl ?_
                          refine s_want rfl rfl h268 ?_
                          refine o_lenS rfl ?_
                          refine s_want rfl rfl h268 ?_
                          refine o_eq rfl rfl ?_
                          refine s_want rfl rfl h266 ?_
                          refine o_pickT rfl h268 rfl ?_
                          refine s_want rfl rfl h266 ?_
                          refine o_mov rfl ?_
                          refine s_split ((p243.length : Int) == 1) (fun h269 => ?_) (fun h269 => ?_)
                          · refine s_want rfl rfl h269 ?_
                            refine o_mov rfl ?_
                            refine s_want rfl rfl h269 ?_
                            refine o_not rfl ?_
                            refine s_want rfl rfl h266 ?_
                            refine o_pickT rfl h269 rfl ?_
                            refine s_want rfl rfl h266 ?_
                            refine o_mov rfl ?_
                            refine s_split (!y224.2) (fun h270 => ?_) (fun h270 => ?_)
                            · refine s_want rfl rfl h270 ?_
                              refine o_mov rfl ?_
                              refine s_want rfl rfl h270 ?_
                              refine o_mov rfl ?_
                              refine s_want rfl rfl h270 ?_
                              refine o_ixO 1 rfl hA247 rfl rfl fun y271 bk273 vs274 h272 ha275 hi276 hr277 => ?_
                              subst hr277
                              subst ha275
                              refine s_want rfl rfl h270 ?_
                              refine o_ldO 1 0 rfl hi276 rfl rfl rfl ?_
                              refine s_want rfl rfl h270 ?_
                              refine o_mov rfl ?_
                              refine s_want rfl rfl h270 ?_
                              refine s_bg fun y278 h279 => ?_
                              refine s_callF rfl rfl (catenarylaw20_hangs_ok k _ y1 _ _ hs250 y271 s206 h279) ?_
                              refine s_want rfl rfl h270 ?_
                              refine o_mov rfl ?_
                              refine s_want rfl rfl h270 ?_
                              refine o_not rfl ?_
                              refine s_want rfl rfl h270 ?_
                              refine o_neb rfl rfl ?_
                              refine s_want rfl rfl h266 ?_
                              refine o_pickT rfl h270 rfl ?_
                              refine o_pickF rfl h266 rfl ?_
                              exact s_env (by exact ⟨rfl, rfl, rfl, rfl, trivial⟩) (s_own (by exact (.cons_cons _ (.cons _ (.cons _ .slnil)))) (J264 (y278 != (!y224.2)) _ _ _ ⟨rfl, rfl, .refl _⟩))
                            · refine s_unwant rfl rfl h270 ?_
                              refine s_unwant rfl rfl h270 ?_
                              refine s_unwant rfl rfl h270 ?_
                              refine s_unwant rfl rfl h270 ?_
                              refine s_unwant rfl rfl h270 ?_
                              refine s_unwant rfl rfl h270 ?_
                              refine s_unwant rfl rfl h270 ?_
                              refine s_unwant rfl rfl h270 ?_
                              refine s_unwant rfl rfl h270 ?_
                              refine s_want rfl rfl h266 ?_
                              refine o_pickF rfl h270 rfl ?_
                              refine o_pickF rfl h266 rfl ?_
                              exact s_env (by exact ⟨rfl, rfl, rfl, rfl, trivial⟩) (s_own (by exact (.cons_cons _ (.cons _ (.cons _ .slnil)))) (J264 false _ _ _ ⟨rfl, rfl, .refl _⟩))
                          · refine s_unwant rfl rfl h269 ?_
                            refine s_unwant rfl rfl h269 ?_
                            refine s_want rfl rfl h266 ?_
                            refine o_pickF rfl h269 rfl ?_
                            refine s_want rfl rfl h266 ?_
                            refine o_mov rfl ?_
                            refine s_unwant rfl rfl rfl ?_
                            refine s_unwant rfl rfl rfl ?_
                            refine s_unwant rfl rfl rfl ?_
                            refine s_unwant rfl rfl rfl ?_
                            refine s_unwant rfl rfl rfl ?_
                            refine s_unwant rfl rfl rfl ?_
                            refine s_unwant rfl rfl rfl ?_
                            refine s_unwant rfl rfl rfl ?_
                            refine s_unwant rfl rfl rfl ?_
                            refine s_want rfl rfl h266 ?_
                            refine o_pickF rfl rfl rfl ?_
                            refine o_pickF rfl h266 rfl ?_
                            exact s_env (by exact ⟨rfl, rfl, rfl, rfl, trivial⟩) (s_own (by exact (.cons_cons _ (.cons _ (.cons _ .slnil)))) (J264 false _ _ _ ⟨rfl, rfl, .refl _⟩))
                        · refine s_unwant rfl rfl h268 ?_
                          refine s_unwant rfl rfl h268 ?_
                          refine s_unwant rfl rfl h268 ?_
                          refine s_want rfl rfl h266 ?_
                          refine o_pickF rfl h268 rfl ?_
                          refine s_want rfl rfl h266 ?_
                          refine o_mov rfl ?_
                          refine s_unwant rfl rfl rfl ?_
                          refine s_unwant rfl rfl rfl ?_
                          refine s_want rfl rfl h266 ?_
                          refine o_pickF rfl rfl rfl ?_
                          refine s_want rfl rfl h266 ?_
                          refine o_mov rfl ?_
                          refine s_unwant rfl rfl rfl ?_
                          refine s_unwant rfl rfl rfl ?_
                          refine s_unwant rfl rfl rfl ?_
                          refine s_unwant rfl rfl rfl ?_
                          refine s_unwant rfl rfl rfl ?_
                          refine s_unwant rfl rfl rfl ?_
                          refine s_unwant rfl rfl rfl ?_
                          refine s_unwant rfl rfl rfl ?_
                          refine s_unwant rfl rfl rfl ?_
                          refine s_want rfl rfl h266 ?_
                          refine o_pickF rfl rfl rfl ?_
                          refine o_pickF rfl h266 rfl ?_
                          exact s_env (by exact ⟨rfl, rfl, rfl, rfl, trivial⟩) (s_own (by exact (.cons_cons _ (.cons _ (.cons _ .slnil)))) (J264 false _ _ _ ⟨rfl, rfl, .refl _⟩))
                      · refine s_unwant rfl rfl h267 ?_
                        refine s_unwant rfl rfl h267 ?_
                        refine s_want rfl rfl h266 ?_
                        refine o_pickF rfl h267 rfl ?_
                        refine s_want rfl rfl h266 ?_
                        refine o_mov rfl ?_
                        refine s_unwant rfl rfl rfl ?_
                        refine s_unwant rfl rfl rfl ?_
                        refine s_unwant rfl rfl rfl ?_
                        refine s_want rfl rfl h266 ?_
                        refine o_pickF rfl rfl rfl ?_
                        refine s_want rfl rfl h266 ?_
                        refine o_mov rfl ?_
                        refine s_unwant rfl rfl rfl ?_
                        refine s_unwant rfl rfl rfl ?_
                        refine s_want rfl rfl h266 ?_
                        refine o_pickF rfl rfl rfl ?_
                        refine s_want rfl rfl h266 ?_
                        refine o_mov rfl ?_
                        refine s_unwant rfl rfl rfl ?_
                        refine s_unwant rfl rfl rfl ?_
                        refine s_unwant rfl rfl rfl ?_
                        refine s_unwant rfl rfl rfl ?_
                        refine s_unwant rfl rfl rfl ?_
                        refine s_unwant rfl rfl rfl ?_
                        refine s_unwant rfl rfl rfl ?_
                        refine s_unwant rfl rfl rfl ?_
                        refine s_unwant rfl rfl rfl ?_
                        refine s_want rfl rfl h266 ?_
                        refine o_pickF rfl rfl rfl ?_
                        refine o_pickF rfl h266 rfl ?_
                        exact s_env (by exact ⟨rfl, rfl, rfl, rfl, trivial⟩) (s_own (by exact (.cons_cons _ (.cons _ (.cons _ .slnil)))) (J264 false _ _ _ ⟨rfl, rfl, .refl _⟩))
                  · refine s_unwant rfl rfl h265 ?_
                    refine s_unwant rfl rfl h265 ?_
                    refine o_pickF rfl h265 rfl ?_
                    refine o_mov rfl ?_
                    refine s_want rfl rfl rfl ?_
                    refine o_mov rfl ?_
                    refine s_want rfl rfl rfl ?_
                    refine o_mov rfl ?_
                    refine s_split y214.2 (fun h280 => ?_) (fun h280 => ?_)
                    · refine s_want rfl rfl h280 ?_
                      refine o_mov rfl ?_
                      refine s_want rfl rfl h280 ?_
                      refine o_gt rfl rfl ?_
                      refine s_want rfl rfl rfl ?_
                      refine o_pickT rfl h280 rfl ?_
                      refine s_want rfl rfl rfl ?_
                      refine o_mov rfl ?_
                      refine s_split (decide (s206 > 1)) (fun h281 => ?_) (fun h281 => ?_)
                      · refine s_want rfl rfl h281 ?_
                        refine o_mov rfl ?_
                        refine s_want rfl rfl h281 ?_
                        refine o_lenS rfl ?_
                        refine s_want rfl rfl h281 ?_
                        refine o_eq rfl rfl ?_
                        refine s_want rfl rfl rfl ?_
                        refine o_pickT rfl h281 rfl ?_
                        refine s_want rfl rfl rfl ?_
                        refine o_mov rfl ?_
                        refine s_split ((p243.length : Int) == 1) (fun h282 => ?_) (fun h282 => ?_)
                        · refine s_want rfl rfl h282 ?_
                          refine o_mov rfl ?_
                          refine s_want rfl rfl h282 ?_
                          refine o_not rfl ?_
                          refine s_want rfl rfl rfl ?_
                          refine o_pickT rfl h282 rfl ?_
                          refine s_want rfl rfl rfl ?_
                          refine o_mov rfl ?_
                          refine s_split (!y224.2) (fun h283 => ?_) (fun h283 => ?_)
                          · refine s_want rfl rfl h283 ?_
                            refine o_mov rfl ?_
                            refine s_want rfl rfl h283 ?_
                            refine o_mov rfl ?_
                            refine s_want rfl rfl h283 ?_
                            refine o_ixO 1 rfl hA247 rfl rfl fun y284 bk286 vs287 h285 ha288 hi289 hr290 => ?_
                            subst hr290
                            subst ha288
                            refine s_want rfl rfl h283 ?_
                            refine o_ldO 1 0 rfl hi289 rfl rfl rfl ?_
                            refine s_want rfl rfl h283 ?_
                            refine o_mov rfl ?_
                            refine s_want rfl rfl h283 ?_
                            refine s_bg fun y291 h292 => ?_
                            refine s_callF rfl rfl (catenarylaw20_hangs_ok k _ y1 _ _ hs250 y284 s206 h292) ?_
                            refine s_want rfl rfl h283 ?_
                            refine o_mov rfl ?_
                            refine s_want rfl rfl h283 ?_
                            refine o_not rfl ?_
                            refine s_want rfl rfl h283 ?_
                            refine o_neb rfl rfl ?_
                            refine s_want rfl rfl rfl ?_
                            refine o_pickT rfl h283 rfl ?_
                            refine o_pickF rfl rfl rfl ?_
                            exact s_env (by exact ⟨rfl, rfl, rfl, rfl, trivial⟩) (s_own (by exact (.cons_cons _ (.cons _ (.cons _ .slnil)))) (J264 (y291 != (!y224.2)) _ _ _ ⟨rfl, rfl, .refl _⟩))
                          · refine s_unwant rfl rfl h283 ?_
                            refine s_unwant rfl rfl h283 ?_
                            refine s_unwant rfl rfl h283 ?_
                            refine s_unwant rfl rfl h283 ?_
                            refine s_unwant rfl rfl h283 ?_
                            refine s_unwant rfl rfl h283 ?_
                            refine s_unwant rfl rfl h283 ?_
                            refine s_unwant rfl rfl h283 ?_
                            refine s_unwant rfl rfl h283 ?_
                            refine s_want rfl rfl rfl ?_
                            refine o_pickF rfl h283 rfl ?_
                            refine o_pickF rfl rfl rfl ?_
                            exact s_env (by exact ⟨rfl, rfl, rfl, rfl, trivial⟩) (s_own (by exact (.cons_cons _ (.cons _ (.cons _ .slnil)))) (J264 false _ _ _ ⟨rfl, rfl, .refl _⟩))
                        · refine s_unwant rfl rfl h282 ?_
                          refine s_unwant rfl rfl h282 ?_
                          refine s_want rfl rfl rfl ?_
                          refine o_pickF rfl h282 rfl ?_
                          refine s_want rfl rfl rfl ?_
                          refine o_mov rfl ?_
                          refine s_unwant rfl rfl rfl ?_
                          refine s_unwant rfl rfl rfl ?_
                          refine s_unwant rfl rfl rfl ?_
                          refine s_unwant rfl rfl rfl ?_
                          refine s_unwant rfl rfl rfl ?_
                          refine s_unwant rfl rfl rfl ?_
                          refine s_unwant rfl rfl rfl ?_
                          refine s_unwant rfl rfl rfl ?_
                          refine s_unwant rfl rfl rfl ?_
                          refine s_want rfl rfl rfl ?_
                          refine o_pickF rfl rfl rfl ?_
                          refine o_pickF rfl rfl rfl ?_
                          exact s_env (by exact ⟨rfl, rfl, rfl, rfl, trivial⟩) (s_own (by exact (.cons_cons _ (.cons _ (.cons _ .slnil)))) (J264 false _ _ _ ⟨rfl, rfl, .refl _⟩))
                      · refine s_unwant rfl rfl h281 ?_
                        refine s_unwant rfl rfl h281 ?_
                        refine s_unwant rfl rfl h281 ?_
                        refine s_want rfl rfl rfl ?_
                        refine o_pickF rfl h281 rfl ?_
                        refine s_want rfl rfl rfl ?_
                        refine o_mov rfl ?_
                        refine s_unwant rfl rfl rfl ?_
                        refine s_unwant rfl rfl rfl ?_
                        refine s_want rfl rfl rfl ?_
                        refine o_pickF rfl rfl rfl ?_
                        refine s_want rfl rfl rfl ?_
                        refine o_mov rfl ?_
                        refine s_unwant rfl rfl rfl ?_
                        refine s_unwant rfl rfl rfl ?_
                        refine s_unwant rfl rfl rfl ?_
                        refine s_unwant rfl rfl rfl ?_
                        refine s_unwant rfl rfl rfl ?_
                        refine s_unwant rfl rfl rfl ?_
                        refine s_unwant rfl rfl rfl ?_
                        refine s_unwant rfl rfl rfl ?_
                        refine s_unwant rfl rfl rfl ?_
                        refine s_want rfl rfl rfl ?_
                        refine o_pickF rfl rfl rfl ?_
                        refine o_pickF rfl rfl rfl ?_
                        exact s_env (by exact ⟨rfl, rfl, rfl, rfl, trivial⟩) (s_own (by exact (.cons_cons _ (.cons _ (.cons _ .slnil)))) (J264 false _ _ _ ⟨rfl, rfl, .refl _⟩))
                    · refine s_unwant rfl rfl h280 ?_
                      refine s_unwant rfl rfl h280 ?_
                      refine s_want rfl rfl rfl ?_
                      refine o_pickF rfl h280 rfl ?_
                      refine s_want rfl rfl rfl ?_
                      refine o_mov rfl ?_
                      refine s_unwant rfl rfl rfl ?_
                      refine s_unwant rfl rfl rfl ?_
                      refine s_unwant rfl rfl rfl ?_
                      refine s_want rfl rfl rfl ?_
                      refine o_pickF rfl rfl rfl ?_
                      refine s_want rfl rfl rfl ?_
                      refine o_mov rfl ?_
                      refine s_unwant rfl rfl rfl ?_
                      refine s_unwant rfl rfl rfl ?_
                      refine s_want rfl rfl rfl ?_
                      refine o_pickF rfl rfl rfl ?_
                      refine s_want rfl rfl rfl ?_
                      refine o_mov rfl ?_
                      refine s_unwant rfl rfl rfl ?_
                      refine s_unwant rfl rfl rfl ?_
                      refine s_unwant rfl rfl rfl ?_
                      refine s_unwant rfl rfl rfl ?_
                      refine s_unwant rfl rfl rfl ?_
                      refine s_unwant rfl rfl rfl ?_
                      refine s_unwant rfl rfl rfl ?_
                      refine s_unwant rfl rfl rfl ?_
                      refine s_unwant rfl rfl rfl ?_
                      refine s_want rfl rfl rfl ?_
                      refine o_pickF rfl rfl rfl ?_
                      refine o_pickF rfl rfl rfl ?_
                      exact s_env (by exact ⟨rfl, rfl, rfl, rfl, trivial⟩) (s_own (by exact (.cons_cons _ (.cons _ (.cons _ .slnil)))) (J264 false _ _ _ ⟨rfl, rfl, .refl _⟩))
              · intro J293
                refine s_block ?_
                refine s_env (env' := [(0, .slice a3 y1.length c4), (6, .slice a194 ((([] : List Link) ++ y19) ++ y31).length c195), (7, .int .i64 s206), (8, .slice a216 y214.1.length c217), (9, .bool y214.2), (10, .slice a226 y224.1.length c227), (11, .bool y224.2), (12, .int .i64 0)]) (by exact ⟨rfl, rfl, rfl, rfl, rfl, rfl, rfl, rfl, trivial⟩) ?_
                refine s_own (own' := [.osl (.slice a194 ((([] : List Link) ++ y19) ++ y31).length c195) 4 40 ls196, .osl (.slice a216 y214.1.length c217) 2 26 (y214.1.map GoE.enc), .osl (.slice a226 y224.1.length c227) 2 26 (y224.1.map GoE.enc)]) (.cons_cons _ (.cons_cons _ (.cons_cons _ .slnil))) ?_
                refine s_loopn (fun q s294 => catenarylaw20_TreeApart_l1 k y1 y224 q s294) (fun s294 env own H' => ∃ a295 c296 ls297 a299 c300 ls301, env = [(0, .slice a3 y1.length c4), (6, .slice a194 ((([] : List Link) ++ y19) ++ y31).length c195), (7, .int .i64 s206), (8, .slice a295 s294.1.length c296), (9, .bool y214.2), (10, .slice a299 s294.2.1.length c300), (11, .bool y224.2), (12, .int .i64 s294.2.2)] ∧ own = [.osl (.slice a194 ((([] : List Link) ++ y19) ++ y31).length c195) 4 40 ls196, .osl (.slice a295 s294.1.length c296) 2 26 ls297, .osl (.slice a299 s294.2.1.length c300) 2 26 ls301] ∧ Hle H236 H' ∧ All2 (GoT.rep H') ls297 s294.1 ∧ All2 (GoT.rep H') ls301 s294.2.1) (fun _ => rfl) ?_ k (y214.1, y224.1, 0) ⟨_, _, _, _, _, _, rfl, rfl, .refl _, hA240, hA241⟩
                rintro q303 ih304 s294 _ _ H305 ⟨a295, c296, ls297, a299, c300, ls301, rfl, rfl, hle306, hA298, hA302⟩
                refine s_eq (by rw [catenarylaw20_TreeApart_l1]) ?_
                have hs307 := RSl.mono hle306 hs238
                have hA308 := All2.mono (fun _ _ => GoT.mono hle306) hA239
                refine s_seq ?_
                refine s_seq ?_
                refine s_region ?_
                refine o_mov rfl ?_
                refine o_mov rfl ?_
                refine o_lenS rfl ?_
                refine o_lt rfl rfl ?_
                refine s_done ?_
                refine s_cond rfl (fun h309 => ?_) (fun h309 => ?_)
                · refine s_skip ?_
                  refine s_seq ?_
                  refine s_block ?_
                  refine s_seq ?_
                  refine s_region ?_
                  refine o_asg rfl ?_
                  refine s_done ?_
                  refine s_joinL (fun p310 env own H' => ∃ a311 c312 ls313 a315 c316 ls317, env = [(0, .slice a3 y1.length c4), (6, .slice a194 ((([] : List Link) ++ y19) ++ y31).length c195), (7, .int .i64 s206), (8, .slice a311 p310.1.length c312), (9, .bool y214.2), (10, .slice a315 p310.2.length c316), (11, .bool y224.2), (12, .int .i64 s294.2.2)] ∧ own = [.osl (.slice a194 ((([] : List Link) ++ y19) ++ y31).length c195) 4 40 ls196, .osl (.slice a311 p310.1.length c312) 2 26 ls313, .osl (.slice a315 p310.2.length c316) 2 26 ls317] ∧ Hle H305 H' ∧ All2 (GoT.rep H') ls313 p310.1 ∧ All2 (GoT.rep H') ls317 p310.2) ?_ ?_
                  · rintro p310 _ _ H319 ⟨a311, c312, ls313, a315, c316, ls317, rfl, rfl, hle320, hA314, hA318⟩
                    have hs321 := RSl.mono hle320 hs307
                    have hA322 := All2.mono (fun _ _ => GoT.mono hle320) hA308
                    refine s_inBlock ?_
                    refine s_region ?_
                    refine o_mov rfl ?_
                    refine o_add rfl rfl ?_
                    refine o_asg rfl ?_
                    refine s_done ?_
                    exact s_env (by exact ⟨rfl, rfl, rfl, rfl, rfl, rfl, rfl, rfl, trivial⟩) (s_own (by exact (.cons_cons _ (.cons_cons _ (.cons_cons _ .slnil)))) (ih304 (p310.1, p310.2, w64 (s294.2.2 + 1)) _ _ _ ⟨_, _, _, _, _, _, rfl, rfl, (Hle.trans hle306 hle320), hA314, hA318⟩))
                  · intro J323
                    refine s_block ?_
                    refine s_env (env' := [(0, .slice a3 y1.length c4), (6, .slice a194 ((([] : List Link) ++ y19) ++ y31).length c195), (7, .int .i64 s206), (8, .slice a295 s294.1.length c296), (9, .bool y214.2), (10, .slice a299 s294.2.1.length c300), (11, .bool y224.2), (12, .int .i64 s294.2.2), (13, .int .i64 0)]) (by exact ⟨rfl, rfl, rfl, rfl, rfl, rfl, rfl, rfl, rfl, trivial⟩) ?_
                    refine s_own (own' := [.osl (.slice a194 ((([] : List Link) ++ y19) ++ y31).length c195) 4 40 ls196, .osl (.slice a295 s294.1.length c296) 2 26 ls297, .osl (.slice a299 s294.2.1.length c300) 2 26 ls301]) (.cons_cons _ (.cons_cons _ (.cons_cons _ .slnil))) ?_
                    refine s_loopn (fun q s324 => catenarylaw20_TreeApart_l2 k y1 y224 s294 q s324) (fun s324 env own H' => ∃ a325 c326 ls327 a329 c330 ls331, env = [(0, .slice a3 y1.length c4), (6, .slice a194 ((([] : List Link) ++ y19) ++ y31).length c195), (7, .int .i64 s206), (8, .slice a325 s324.1.length c326), (9, .bool y214.2), (10, .slice a329 s324.2.1.length c330), (11, .bool y224.2), (12, .int .i64 s294.2.2), (13, .int .i64 s324.2.2)] ∧ own = [.osl (.slice a194 ((([] : List Link) ++ y19) ++ y31).length c195) 4 40 ls196, .osl (.slice a325 s324.1.length c326) 2 26 ls327, .osl (.slice a329 s324.2.1.length c330) 2 26 ls331] ∧ Hle H305 H' ∧ All2 (GoT.rep H') ls327 s324.1 ∧ All2 (GoT.rep H') ls331 s324.2.1) (fun _ => rfl) ?_ k (s294.1, s294.2.1, 0) ⟨_, _, _, _, _, _, rfl, rfl, .refl _, hA298, hA302⟩
                    rintro q333 ih334 s324 _ _ H335 ⟨a325, c326, ls327, a329, c330, ls331, rfl, rfl, hle336, hA328, hA332⟩
                    refine s_eq (by rw [catenarylaw20_TreeApart_l2]) ?_
                    have hs337 := RSl.mono hle336 hs307
                    have hA338 := All2.mono (fun _ _ => GoT.mono hle336) hA308
                    refine s_seq ?_
                    refine s_seq ?_
                    refine s_region ?_
                    refine s_mid [(0, .slice a3 y1.length c4), (6, .slice a194 ((([] : List Link) ++ y19) ++ y31).length c195), (7, .int .i64 s206), (8, .slice a325 s324.1.length c326), (9, .bool y214.2), (10, .slice a329 s324.2.1.length c330), (11, .bool y224.2), (12, .int .i64 s294.2.2), (13, .int .i64 s324.2.2), (90, .bool ((decide (s324.2.2 < (s324.2.1.length : Int))) && y224.2))] [.osl (.slice a194 ((([] : List Link) ++ y19) ++ y31).length c195) 4 40 ls196, .osl (.slice a325 s324.1.length c326) 2 26 ls327, .osl (.slice a329 s324.2.1.length c330) 2 26 ls331] ?_ ?_
                    · refine s_cond rfl (fun h339 => ?_) (fun h339 => ?_)
                      · refine s_skip ?_
                        refine s_seq ?_
                        refine s_block ?_
                        refine s_seq ?_
                        refine s_region ?_
                        refine o_mov rfl ?_
                        refine o_bld rfl rfl ?_
                        refine o_mov rfl ?_
                        refine o_mov rfl ?_
                        refine o_ixO 1 rfl hA328 rfl rfl fun y340 bk342 vs343 h341 ha344 hi345 hr346 => ?_
                        subst hr346
                        subst ha344
                        refine o_ldO 1 0 rfl hi345 rfl rfl rfl ?_
                        refine s_bg fun y347 h348 => ?_
                        refine s_callF rfl rfl (graph_Peer_ok k _ (⟨6, y1⟩ : Graph) _ _ hs337 y340 h348) ?_
                        refine o_mov rfl ?_
                        refine o_ext rfl rfl ?_
                        refine o_ext rfl rfl ?_
                        refine o_ext rfl rfl ?_
                        refine o_alloc fun b349 => ?_
                        refine o_st 3 rfl rfl rfl rfl rfl rfl ?_
                        refine o_asg rfl ?_
                        refine o_asg rfl ?_
                        refine s_done ?_
                        refine s_seq ?_
                        refine s_join (fun p351 env own H' => ∃ a352 c353 ls354, env = [(0, .slice a3 y1.length c4), (6, .slice a194 ((([] : List Link) ++ y19) ++ y31).length c195), (7, .int .i64 s206), (8, .slice (some ⟨bk342, 0, none⟩) s324.1.length c326), (9, .bool y214.2), (10, .slice a352 p351.1.length c353), (11, .bool y224.2), (12, .int .i64 s294.2.2), (13, .int .i64 s324.2.2), (120, .bool p351.2)] ∧ own = [.osl (.slice a194 ((([] : List Link) ++ y19) ++ y31).length c195) 4 40 ls196, .osl (.slice (some ⟨bk342, 0, none⟩) s324.1.length c326) 2 26 ls327, .osl (.slice a352 p351.1.length c353) 2 26 ls354] ∧ Hle H335 H' ∧ All2 (GoT.rep H') ls354 p351.1) ?_ ?_
                        · rintro p351 _ _ H356 ⟨a352, c353, ls354, rfl, rfl, hle357, hA355⟩
                          have hs358 := RSl.mono hle357 hs337
                          have hA359 := All2.mono (fun _ _ => GoT.mono hle357) hA338
                          have hA360 := All2.mono (fun _ _ => GoT.mono hle357) hA328
                          refine s_cond rfl (fun h361 => ?_) (fun h361 => ?_)
                          · refine s_seq ?_
                            refine s_region ?_
                            refine o_asg rfl ?_
                            refine s_done ?_
                            refine s_lret ?_
                            refine s_lret ?_
                            refine s_lret ?_
                            exact s_retv (xs := [.tmp 4]) (vs := [.bool false]) [] fn_11 rfl ⟨rv_tmp rfl, trivial⟩ (.cons _ (.cons _ (.cons _ .slnil))) ⟨rfl, rfl⟩
                          · refine s_skip ?_
                            refine s_inBlock ?_
                            refine s_region ?_
                            refine o_mov rfl ?_
                            refine o_add rfl rfl ?_
                            refine o_asg rfl ?_
                            refine s_done ?_
                            exact s_env (by exact ⟨rfl, rfl, rfl, rfl, rfl, rfl, rfl, rfl, rfl, trivial⟩) (s_own (by exact (.cons_cons _ (.cons_cons _ (.cons_cons _ .slnil)))) (ih334 (s324.1, p351.1, w64 (s324.2.2 + 1)) _ _ _ ⟨_, _, _, _, _, _, rfl, rfl, (Hle.trans hle336 hle357), hA360, hA355⟩))
                        · intro J362
                          refine s_bg fun y363 h370 => ?_
                          refine s_bg fun y371 h378 => ?_
                          refine s_addr 2 rfl hA332 h378 fun bk373 ha379 => ?_
                          subst ha379
                          refine s_split (decide (y363 = y371)) (fun h380 => ?_) (fun h380 => ?_)
                          · refine s_drawL [(fun H v g => v = Value.slice (some ⟨bk342, 0, none⟩) s324.1.length c326 ∧ g = []),
      (fun H v g => v = Value.int .i64 s294.2.2 ∧ g = []),
      (fun H v g => v = Value.pointer (some ⟨bk342, (s294.2.2 : Int).toNat * GoT.sz (End), none⟩) ∧ g = [] ∧ (ls327)[(s294.2.2 : Int).toNat]? = some [.int .i64 y363.Switch, .int .i64 y363.Port]),
      (fun H v g => v = Value.agg #[.int .i64 y363.Switch, .int .i64 y363.Port] ∧ g = []),
      (fun H v g => v = Value.slice (some ⟨bk373, 0, none⟩) s324.2.1.length c330 ∧ g = []),
      (fun H v g => v = Value.int .i64 s324.2.2 ∧ g = []),
      (fun H v g => v = Value.pointer (some ⟨bk373, (s324.2.2 : Int).toNat * GoT.sz (End), none⟩) ∧ g = [] ∧ (ls331)[(s324.2.2 : Int).toNat]? = some [.int .i64 y371.Switch, .int .i64 y371.Port]),
      (fun H v g => v = Value.agg #[.int .i64 y371.Switch, .int .i64 y371.Port] ∧ g = []),
      (fun H v g => v = Value.bool (decide (y363 = y371)) ∧ g = []),
      (fun H v g => v = Value.bool (decide (y363 = y371)) ∧ g = []),
      uF,
      uF,
      uF,
      uF,
      uF,
      uF,
      (fun H v g => v = Value.bool true ∧ g = [])] [[], [], [], [], [], [], [], [], [], [], [], [], [], [], [], [], []] mixed ⟨m0, m0, m0, m0, m0, m0, m0, m0, m0, m0, m0, m0, m0, m0, m0, m0, m0, trivial⟩ (by kernel_rfl) (by kernel_rfl) rfl (by kernel_rfl) rfl rfl ?_ ?_
                            · refine dcons ?_ ?_
                              · intro _ _ H395 fr396 hle397 hd398
                                have hA400 := All2.mono (fun _ _ => GoT.mono hle397) hA328
                                refine ⟨_, some (), rfl, fun _ => ?_⟩
                                refine s_env (env' := [(8, .slice (some ⟨bk342, 0, none⟩) s324.1.length c326)]) (by exact ⟨rfl, trivial⟩) ?_
                                refine o_mov rfl ?_
                                exact s_pred fun _ _ _ hE hI => ⟨(.slice (some ⟨bk342, 0, none⟩) s324.1.length c326), [], _, fun _ e => (by cases e; exact hE _ _ rfl), .refl _, by exact hI, ⟨rfl, rfl⟩⟩
                              refine dcons ?_ ?_
                              · intro _ _ H403 fr404 hle405 hd406
                                refine ⟨_, some (), rfl, fun _ => ?_⟩
                                refine s_env (env' := [(12, .int .i64 s294.2.2)]) (by exact ⟨rfl, trivial⟩) ?_
                                refine o_mov rfl ?_
                                exact s_pred fun _ _ _ hE hI => ⟨(.int .i64 s294.2.2), [], _, fun _ e => (by cases e; exact hE _ _ rfl), .refl _, by exact hI, ⟨rfl, rfl⟩⟩
                              refine dcons ?_ ?_
                              · intro _ _ H410 fr411 hle412 hd413
                                have hA415 := All2.mono (fun _ _ => GoT.mono hle412) hA328
                                obtain ⟨hv416, hg417⟩ := hd413 0 (by decide)
                                obtain ⟨hv418, hg419⟩ := hd413 1 (by decide)
                                refine ⟨_, (rd s324.1 s294.2.2).bind some, by rw [h370]; rfl, fun _ => ?_⟩
                                refine s_env (env' := [(104, .slice (some ⟨bk342, 0, none⟩) s324.1.length c326), (105, .int .i64 s294.2.2)]) (by exact ⟨congrArg some hv416, congrArg some hv418, trivial⟩) ?_
                                refine o_ixO 1 rfl hA415 rfl rfl fun y363 bk421 vs422 h420 ha423 hi424 hr425 => ?_
                                subst hr425
                                obtain rfl := s_bk ha423
                                obtain rfl := Option.some.inj (h370.symm.trans h420)
                                exact s_pred fun _ _ _ hE hI => ⟨(.pointer (some ⟨bk342, (s294.2.2 : Int).toNat * GoT.sz (End), none⟩)), [], _, fun _ e => (by cases e; exact hE _ _ rfl), .refl _, by exact hI, ⟨rfl, rfl, hi424⟩⟩
                              refine dcons ?_ ?_
                              · intro _ _ H428 fr429 hle430 hd431
                                have hA433 := All2.mono (fun _ _ => GoT.mono hle430) hA328
                                obtain ⟨hv434, hg435, hp436⟩ := hd431 2 (by decide)
                                refine ⟨_, some (), rfl, fun _ => ?_⟩
                                refine s_env (env' := [(106, .pointer (some ⟨bk342, (s294.2.2 : Int).toNat * GoT.sz (End), none⟩))]) (by exact ⟨congrArg some hv434, trivial⟩) ?_
                                refine o_ldO 1 0 rfl hp436 rfl rfl rfl ?_
                                exact s_pred fun _ _ _ hE hI => ⟨(.agg #[.int .i64 y363.Switch, .int .i64 y363.Port]), [], _, fun _ e => (by cases e; exact hE _ _ rfl), .refl _, by exact hI, ⟨rfl, rfl⟩⟩
                              refine dcons ?_ ?_
                              · intro _ _ H439 fr440 hle441 hd442
                                have hA444 := All2.mono (fun _ _ => GoT.mono hle441) hA332
                                refine ⟨_, some (), rfl, fun _ => ?_⟩
                                refine s_env (env' := [(10, .slice (some ⟨bk373, 0, none⟩) s324.2.1.length c330)]) (by exact ⟨rfl, trivial⟩) ?_
                                refine o_mov rfl ?_
                                exact s_pred fun _ _ _ hE hI => ⟨(.slice (some ⟨bk373, 0, none⟩) s324.2.1.length c330), [], _, fun _ e => (by cases e; exact hE _ _ rfl), .refl _, by exact hI, ⟨rfl, rfl⟩⟩
                              refine dcons ?_ ?_
                              · intro _ _ H447 fr448 hle449 hd450
                                refine ⟨_, some (), rfl, fun _ => ?_⟩
                                refine s_env (env' := [(13, .int .i64 s324.2.2)]) (by exact ⟨rfl, trivial⟩) ?_
                                refine o_mov rfl ?_
                                exact s_pred fun _ _ _ hE hI => ⟨(.int .i64 s324.2.2), [], _, fun _ e => (by cases e; exact hE _ _ rfl), .refl _, by exact hI, ⟨rfl, rfl⟩⟩
                              refine dcons ?_ ?_
                              · intro _ _ H454 fr455 hle456 hd457
                                have hA459 := All2.mono (fun _ _ => GoT.mono hle456) hA332
                                obtain ⟨hv460, hg461⟩ := hd457 4 (by decide)
                                obtain ⟨hv462, hg463⟩ := hd457 5 (by decide)
                                refine ⟨_, (rd s324.2.1 s324.2.2).bind some, by rw [h378]; rfl, fun _ => ?_⟩
                                refine s_env (env' := [(108, .slice (some ⟨bk373, 0, none⟩) s324.2.1.length c330), (109, .int .i64 s324.2.2)]) (by exact ⟨congrArg some hv460, congrArg some hv462, trivial⟩) ?_
                                refine o_ixO 2 rfl hA459 rfl rfl fun y371 bk465 vs466 h464 ha467 hi468 hr469 => ?_
                                subst hr469
                                obtain rfl := s_bk ha467
                                obtain rfl := Option.some.inj (h378.symm.trans h464)
                                exact s_pred fun _ _ _ hE hI => ⟨(.pointer (some ⟨bk373, (s324.2.2 : Int).toNat * GoT.sz (End), none⟩)), [], _, fun _ e => (by cases e; exact hE _ _ rfl), .refl _, by exact hI, ⟨rfl, rfl, hi468⟩⟩
                              refine dcons ?_ ?_
                              · intro _ _ H472 fr473 hle474 hd475
                                have hA477 := All2.mono (fun _ _ => GoT.mono hle474) hA332
                                obtain ⟨hv478, hg479, hp480⟩ := hd475 6 (by decide)
                                refine ⟨_, some (), rfl, fun _ => ?_⟩
                                refine s_env (env' := [(110, .pointer (some ⟨bk373, (s324.2.2 : Int).toNat * GoT.sz (End), none⟩))]) (by exact ⟨congrArg some hv478, trivial⟩) ?_
                                refine o_ldO 2 0 rfl hp480 rfl rfl rfl ?_
                                exact s_pred fun _ _ _ hE hI => ⟨(.agg #[.int .i64 y371.Switch, .int .i64 y371.Port]), [], _, fun _ e => (by cases e; exact hE _ _ rfl), .refl _, by exact hI, ⟨rfl, rfl⟩⟩
                              refine dcons ?_ ?_
                              · intro _ _ H483 fr484 hle485 hd486
                                obtain ⟨hv488, hg489⟩ := hd486 3 (by decide)
                                obtain ⟨hv490, hg491⟩ := hd486 7 (by decide)
                                refine ⟨_, some (), rfl, fun _ => ?_⟩
                                refine s_env (env' := [(107, .agg #[.int .i64 y363.Switch, .int .i64 y363.Port]), (111, .agg #[.int .i64 y371.Switch, .int .i64 y371.Port])]) (by exact ⟨congrArg some hv488, congrArg some hv490, trivial⟩) ?_
                                refine o_eqS y363 y371 rfl rfl ?_
                                exact s_pred fun _ _ _ hE hI => ⟨(.bool (decide (y363 = y371))), [], _, fun _ e => (by cases e; exact hE _ _ rfl), .refl _, by exact hI, ⟨rfl, rfl⟩⟩
                              refine dcons ?_ ?_
                              · intro _ _ H494 fr495 hle496 hd497
                                obtain ⟨hv499, hg500⟩ := hd497 8 (by decide)
                                refine ⟨_, some (), rfl, fun _ => ?_⟩
                                refine s_env (env' := [(112, .bool (decide (y363 = y371)))]) (by exact ⟨congrArg some hv499, trivial⟩) ?_
                                refine o_mov rfl ?_
                                exact s_pred fun _ _ _ hE hI => ⟨(.bool (decide (y363 = y371))), [], _, fun _ e => (by cases e; exact hE _ _ rfl), .refl _, by exact hI, ⟨rfl, rfl⟩⟩
                              refine dcons ?_ ?_
                              · intro _ _ H503 fr504 hle505 hd506
                                obtain ⟨hv508, hg509⟩ := hd506 9 (by decide)
                                refine ⟨_, some (), rfl, fun _ => ?_⟩
                                refine s_env (env' := [(113, .bool (decide (y363 = y371))), (14, .pointer (some ⟨b349, 0, none⟩))]) (by exact ⟨congrArg some hv508, rfl, trivial⟩) ?_
                                refine s_unwant rfl rfl h380 ?_
                                exact s_pred fun _ _ _ hE hI => ⟨undef, [], _, fun _ e => (by cases e; exact hE _ _ rfl), .refl _, by exact hI, ⟨rfl, rfl⟩⟩
                              refine dcons ?_ ?_
                              · intro _ _ H512 fr513 hle514 hd515
                                have hA517 := All2.mono (fun _ _ => GoT.mono hle514) hA332
                                obtain ⟨hv518, hg519⟩ := hd515 9 (by decide)
                                refine ⟨_, some (), rfl, fun _ => ?_⟩
                                refine s_env (env' := [(113, .bool (decide (y363 = y371))), (10, .slice (some ⟨bk373, 0, none⟩) s324.2.1.length c330)]) (by exact ⟨congrArg some hv518, rfl, trivial⟩) ?_
                                refine s_unwant rfl rfl h380 ?_
                                exact s_pred fun _ _ _ hE hI => ⟨undef, [], _, fun _ e => (by cases e; exact hE _ _ rfl), .refl _, by exact hI, ⟨rfl, rfl⟩⟩
                              refine dcons ?_ ?_
                              · intro _ _ H522 fr523 hle524 hd525
                                obtain ⟨hv527, hg528⟩ := hd525 9 (by decide)
                                refine ⟨_, some (), rfl, fun _ => ?_⟩
                                refine s_env (env' := [(113, .bool (decide (y363 = y371))), (13, .int .i64 s324.2.2)]) (by exact ⟨congrArg some hv527, rfl, trivial⟩) ?_
                                refine s_unwant rfl rfl h380 ?_
                                exact s_pred fun _ _ _ hE hI => ⟨undef, [], _, fun _ e => (by cases e; exact hE _ _ rfl), .refl _, by exact hI, ⟨rfl, rfl⟩⟩
                              refine dcons ?_ ?_
                              · intro _ _ H531 fr532 hle533 hd534
                                obtain ⟨hv536, hg537⟩ := hd534 9 (by decide)
                                obtain ⟨hv538, hg539⟩ := hd534 11 (by decide)
                                obtain ⟨hv540, hg541⟩ := hd534 12 (by decide)
                                refine ⟨_, some (), rfl, fun _ => ?_⟩
                                refine s_env (env' := [(113, .bool (decide (y363 = y371))), (115, undef), (116, undef)]) (by exact ⟨congrArg some hv536, congrArg some hv538, congrArg some hv540, trivial⟩) ?_
                                refine s_unwant rfl rfl h380 ?_
                                exact s_pred fun _ _ _ hE hI => ⟨undef, [], _, fun _ e => (by cases e; exact hE _ _ rfl), .refl _, by exact hI, ⟨rfl, rfl⟩⟩
                              refine dcons ?_ ?_
                              · intro _ _ H544 fr545 hle546 hd547
                                obtain ⟨hv549, hg550⟩ := hd547 9 (by decide)
                                obtain ⟨hv551, hg552⟩ := hd547 13 (by decide)
                                refine ⟨_, some (), rfl, fun _ => ?_⟩
                                refine s_env (env' := [(113, .bool (decide (y363 = y371))), (117, undef)]) (by exact ⟨congrArg some hv549, congrArg some hv551, trivial⟩) ?_
                                refine s_unwant rfl rfl h380 ?_
                                exact s_pred fun _ _ _ hE hI => ⟨undef, [], _, fun _ e => (by cases e; exact hE _ _ rfl), .refl _, by exact hI, ⟨rfl, rfl⟩⟩
                              refine dcons ?_ ?_
                              · intro _ _ H555 fr556 hle557 hd558
                                obtain ⟨hv560, hg561⟩ := hd558 9 (by decide)
                                obtain ⟨hv562, hg563⟩ := hd558 10 (by decide)
                                obtain ⟨hv564, hg565⟩ := hd558 14 (by decide)
                                refine ⟨_, some (), rfl, fun _ => ?_⟩
                                refine s_env (env' := [(113, .bool (decide (y363 = y371))), (114, undef), (118, undef)]) (by exact ⟨congrArg some hv560, congrArg some hv562, congrArg some hv564, trivial⟩) ?_
                                refine s_unwant rfl rfl h380 ?_
                                exact s_pred fun _ _ _ hE hI => ⟨undef, [], _, fun _ e => (by cases e; exact hE _ _ rfl), .refl _, by exact hI, ⟨rfl, rfl⟩⟩
                              refine dcons ?_ ?_
                              · intro _ _ H568 fr569 hle570 hd571
                                obtain ⟨hv573, hg574⟩ := hd571 9 (by decide)
                                obtain ⟨hv575, hg576⟩ := hd571 15 (by decide)
                                refine ⟨_, some (), rfl, fun _ => ?_⟩
                                refine s_env (env' := [(113, .bool (decide (y363 = y371))), (119, undef)]) (by exact ⟨congrArg some hv573, congrArg some hv575, trivial⟩) ?_
                                refine o_pickT rfl h380 rfl ?_
                                exact s_pred fun _ _ _ hE hI => ⟨(.bool true), [], _, fun _ e => (by cases e; exact hE _ _ rfl), .refl _, by exact hI, ⟨rfl, rfl⟩⟩
                              exact dnil
                            · intro V579 G580 H577 hle578 hF581
                              have hs582 := RSl.mono hle578 hs337
                              have hA583 := All2.mono (fun _ _ => GoT.mono hle578) hA338
                              have hA584 := All2.mono (fun _ _ => GoT.mono hle578) hA328
                              have hA585 := All2.mono (fun _ _ => GoT.mono hle578) hA332
                              obtain ⟨hv586, hg587⟩ := hF581 16 (show 16 < 17 by decide)
                              refine s_env (env' := [(120, .bool true), (0, .slice a3 y1.length c4), (6, .slice a194 ((([] : List Link) ++ y19) ++ y31).length c195), (7, .int .i64 s206), (8, .slice (some ⟨bk342, 0, none⟩) s324.1.length c326), (9, .bool y214.2), (10, .slice (some ⟨bk373, 0, none⟩) s324.2.1.length c330), (11, .bool y224.2), (12, .int .i64 s294.2.2), (13, .int .i64 s324.2.2), (90, .bool ((decide (s324.2.2 < (s324.2.1.length : Int))) && y224.2)), (94, .slice a3 y1.length c4), (95, .agg #[.int .i64 6, .slice a3 y1.length c4]), (96, .slice (some ⟨bk342, 0, none⟩) s324.1.length c326), (97, .int .i64 s294.2.2), (98, .pointer (some ⟨bk342, (s294.2.2 : Int).toNat * GoT.sz (End), none⟩)), (99, .agg #[.int .i64 y340.Switch, .int .i64 y340.Port]), (101, .agg #[.int .i64 y347.1.Switch, .int .i64 y347.1.Port]), (102, .int .i64 y347.2.1), (103, .bool y347.2.2), (14, .pointer (some ⟨b349, 0, none⟩)), (15, .int .i64 y347.2.1), (16, .bool y347.2.2)]) (by exact ⟨congrArg some hv586, rfl, rfl, rfl, rfl, rfl, rfl, rfl, rfl, rfl, rfl, rfl, rfl, rfl, rfl, rfl, rfl, rfl, rfl, rfl, rfl, rfl, rfl, trivial⟩) ?_
                              refine s_own (List.sublist_append_left _ _) ?_
                              refine s_done ?_
                              exact s_env (by exact ⟨rfl, rfl, rfl, rfl, rfl, rfl, rfl, rfl, rfl, rfl, trivial⟩) (s_own (by exact (.cons_cons _ (.cons_cons _ (.cons_cons _ (.cons _ .slnil))))) (J362 (s324.2.1, true) _ _ _ ⟨_, _, _, rfl, rfl, hle578, hA585⟩))
                          · refine s_bg fun y588 h595 => ?_
                            refine s_drawL [(fun H v g => v = Value.slice (some ⟨bk342, 0, none⟩) s324.1.length c326 ∧ g = []),
      (fun H v g => v = Value.int .i64 s294.2.2 ∧ g = []),
      (fun H v g => v = Value.pointer (some ⟨bk342, (s294.2.2 : Int).toNat * GoT.sz (End), none⟩) ∧ g = [] ∧ (ls327)[(s294.2.2 : Int).toNat]? = some [.int .i64 y363.Switch, .int .i64 y363.Port]),
      (fun H v g => v = Value.agg #[.int .i64 y363.Switch, .int .i64 y363.Port] ∧ g = []),
      (fun H v g => v = Value.slice (some ⟨bk373, 0, none⟩) s324.2.1.length c330 ∧ g = []),
      (fun H v g => v = Value.int .i64 s324.2.2 ∧ g = []),
      (fun H v g => v = Value.pointer (some ⟨bk373, (s324.2.2 : Int).toNat * GoT.sz (End), none⟩) ∧ g = [] ∧ (ls331)[(s324.2.2 : Int).toNat]? = some [.int .i64 y371.Switch, .int .i64 y371.Port]),
      (fun H v g => v = Value.agg #[.int .i64 y371.Switch, .int .i64 y371.Port] ∧ g = []),
      (fun H v g => v = Value.bool (decide (y363 = y371)) ∧ g = []),
      (fun H v g => v = Value.bool (decide (y363 = y371)) ∧ g = []),
      (fun H v g => v = Value.agg #[.int .i64 y347.1.Switch, .int .i64 y347.1.Port] ∧ g = []),
      (fun H v g => v = Value.slice (some ⟨bk373, 0, none⟩) s324.2.1.length c330 ∧ g = []),
      (fun H v g => v = Value.int .i64 s324.2.2 ∧ g = []),
      (fun H v g => v = Value.pointer (some ⟨bk373, (s324.2.2 : Int).toNat * GoT.sz (End), none⟩) ∧ g = [] ∧ (ls331)[(s324.2.2 : Int).toNat]? = some [.int .i64 y588.Switch, .int .i64 y588.Port]),
      (fun H v g => v = Value.agg #[.int .i64 y588.Switch, .int .i64 y588.Port] ∧ g = []),
      (fun H v g => v = Value.bool (decide (y347.1 = y588)) ∧ g = []),
      (fun H v g => v = Value.bool (decide (y347.1 = y588)) ∧ g = [])] [[], [], [], [], [], [], [], [], [], [], [], [], [], [], [], [], []] mixed ⟨m0, m0, m0, m0, m0, m0, m0, m0, m0, m0, m0, m0, m0, m0, m0, m0, m0, trivial⟩ (by kernel_rfl) (by kernel_rfl) rfl (by kernel_rfl) rfl rfl ?_ ?_
                            · refine dcons ?_ ?_
                              · intro _ _ H616 fr617 hle618 hd619
                                have hA621 := All2.mono (fun _ _ => GoT.mono hle618) hA328
                                refine ⟨_, some (), rfl, fun _ => ?_⟩
                                refine s_env (env' := [(8, .slice (some ⟨bk342, 0, none⟩) s324.1.length c326)]) (by exact ⟨rfl, trivial⟩) ?_
                                refine o_mov rfl ?_
                                exact s_pred fun _ _ _ hE hI => ⟨(.slice (some ⟨bk342, 0, none⟩) s324.1.length c326), [], _, fun _ e => (by cases e; exact hE _ _ rfl), .refl _, by exact hI, ⟨rfl, rfl⟩⟩
                              refine dcons ?_ ?_
                              · intro _ _ H624 fr625 hle626 hd627
                                refine ⟨_, some (), rfl, fun _ => ?_⟩
                                refine s_env (env' := [(12, .int .i64 s294.2.2)]) (by exact ⟨rfl, trivial⟩) ?_
                                refine o_mov rfl ?_
                                exact s_pred fun _ _ _ hE hI => ⟨(.int .i64 s294.2.2), [], _, fun _ e => (by cases e; exact hE _ _ rfl), .refl _, by exact hI, ⟨rfl, rfl⟩⟩
                              refine dcons ?_ ?_
                              · intro _ _ H631 fr632 hle633 hd634
                                have hA636 := All2.mono (fun _ _ => GoT.mono hle633) hA328
                                obtain ⟨hv637, hg638⟩ := hd634 0 (by decide)
                                obtain ⟨hv639, hg640⟩ := hd634 1 (by decide)
                                refine ⟨_, (rd s324.1 s294.2.2).bind some, by rw [h370]; rfl, fun _ => ?_⟩
                                refine s_env (env' := [(104, .slice (some ⟨bk342, 0, none⟩) s324.1.length c326), (105, .int .i64 s294.2.2)]) (by exact ⟨congrArg some hv637, congrArg some hv639, trivial⟩) ?_
                                refine o_ixO 1 rfl hA636 rfl rfl fun y363 bk642 vs643 h641 ha644 hi645 hr646 => ?_
                                subst hr646
                                obtain rfl := s_bk ha644
                                obtain rfl := Option.some.inj (h370.symm.trans h641)
                                exact s_pred fun _ _ _ hE hI => ⟨(.pointer (some ⟨bk342, (s294.2.2 : Int).toNat * GoT.sz (End), none⟩)), [], _, fun _ e => (by cases e; exact hE _ _ rfl), .refl _, by exact hI, ⟨rfl, rfl, hi645⟩⟩
                              refine dcons ?_ ?_
                              · intro _ _ H649 fr650 hle651 hd652
                                have hA654 := All2.mono (fun _ _ => GoT.mono hle651) hA328
                                obtain ⟨hv655, hg656, hp657⟩ := hd652 2 (by decide)
                                refine ⟨_, some (), rfl, fun _ => ?_⟩
                                refine s_env (env' := [(106, .pointer (some ⟨bk342, (s294.2.2 : Int).toNat * GoT.sz (End), none⟩))]) (by exact ⟨congrArg some hv655, trivial⟩) ?_
                                refine o_ldO 1 0 rfl hp657 rfl rfl rfl ?_
                                exact s_pred fun _ _ _ hE hI => ⟨(.agg #[.int .i64 y363.Switch, .int .i64 y363.Port]), [], _, fun _ e => (by cases e; exact hE _ _ rfl), .refl _, by exact hI, ⟨rfl, rfl⟩⟩
                              refine dcons ?_ ?_
                              · intro _ _ H660 fr661 hle662 hd663
                                have hA665 := All2.mono (fun _ _ => GoT.mono hle662) hA332
                                refine ⟨_, some (), rfl, fun _ => ?_⟩
                                refine s_env (env' := [(10, .slice (some ⟨bk373, 0, none⟩) s324.2.1.length c330)]) (by exact ⟨rfl, trivial⟩) ?_
                                refine o_mov rfl ?_
                                exact s_pred fun _ _ _ hE hI => ⟨(.slice (some ⟨bk373, 0, none⟩) s324.2.1.length c330), [], _, fun _ e => (by cases e; exact hE _ _ rfl), .refl _, by exact hI, ⟨rfl, rfl⟩⟩
                              refine dcons ?_ ?_
                              · intro _ _ H668 fr669 hle670 hd671
                                refine ⟨_, some (), rfl, fun _ => ?_⟩
                                refine s_env (env' := [(13, .int .i64 s324.2.2)]) (by exact ⟨rfl, trivial⟩) ?_
                                refine o_mov rfl ?_
                                exact s_pred fun _ _ _ hE hI => ⟨(.int .i64 s324.2.2), [], _, fun _ e => (by cases e; exact hE _ _ rfl), .refl _, by exact hI, ⟨rfl, rfl⟩⟩
                              refine dcons ?_ ?_
                              · intro _ _ H675 fr676 hle677 hd678
                                have hA680 := All2.mono (fun _ _ => GoT.mono hle677) hA332
                                obtain ⟨hv681, hg682⟩ := hd678 4 (by decide)
                                obtain ⟨hv683, hg684⟩ := hd678 5 (by decide)
                                refine ⟨_, (rd s324.2.1 s324.2.2).bind some, by rw [h378]; rfl, fun _ => ?_⟩
                                refine s_env (env' := [(108, .slice (some ⟨bk373, 0, none⟩) s324.2.1.length c330), (109, .int .i64 s324.2.2)]) (by exact ⟨congrArg some hv681, congrArg some hv683, trivial⟩) ?_
                                refine o_ixO 2 rfl hA680 rfl rfl fun y371 bk686 vs687 h685 ha688 hi689 hr690 => ?_
                                subst hr690
                                obtain rfl := s_bk ha688
                                obtain rfl := Option.some.inj (h378.symm.trans h685)
                                exact s_pred fun _ _ _ hE hI => ⟨(.pointer (some ⟨bk373, (s324.2.2 : Int).toNat * GoT.sz (End), none⟩)), [], _, fun _ e => (by cases e; exact hE _ _ rfl), .refl _, by exact hI, ⟨rfl, rfl, hi689⟩⟩
                              refine dcons ?_ ?_
                              · intro _ _ H693 fr694 hle695 hd696
                                have hA698 := All2.mono (fun _ _ => GoT.mono hle695) hA332
                                obtain ⟨hv699, hg700, hp701⟩ := hd696 6 (by decide)
                                refine ⟨_, some (), rfl, fun _ => ?_⟩
                                refine s_env (env' := [(110, .pointer (some ⟨bk373, (s324.2.2 : Int).toNat * GoT.sz (End), none⟩))]) (by exact ⟨congrArg some hv699, trivial⟩) ?_
                                refine o_ldO 2 0 rfl hp701 rfl rfl rfl ?_
                                exact s_pred fun _ _ _ hE hI => ⟨(.agg #[.int .i64 y371.Switch, .int .i64 y371.Port]), [], _, fun _ e => (by cases e; exact hE _ _ rfl), .refl _, by exact hI, ⟨rfl, rfl⟩⟩
                              refine dcons ?_ ?_
                              · intro _ _ H704 fr705 hle706 hd707
                                obtain ⟨hv709, hg710⟩ := hd707 3 (by decide)
                                obtain ⟨hv711, hg712⟩ := hd707 7 (by decide)
                                refine ⟨_, some (), rfl, fun _ => ?_⟩
                                refine s_env (env' := [(107, .agg #[.int .i64 y363.Switch, .int .i64 y363.Port]), (111, .agg #[.int .i64 y371.Switch, .int .i64 y371.Port])]) (by exact ⟨congrArg some hv709, congrArg some hv711, trivial⟩) ?_
                                refine o_eqS y363 y371 rfl rfl ?_
                                exact s_pred fun _ _ _ hE hI => ⟨(.bool (decide (y363 = y371))), [], _, fun _ e => (by cases e; exact hE _ _ rfl), .refl _, by exact hI, ⟨rfl, rfl⟩⟩
                              refine dcons ?_ ?_
                              · intro _ _ H715 fr716 hle717 hd718
                                obtain ⟨hv720, hg721⟩ := hd718 8 (by decide)
                                refine ⟨_, some (), rfl, fun _ => ?_⟩
                                refine s_env (env' := [(112, .bool (decide (y363 = y371)))]) (by exact ⟨congrArg some hv720, trivial⟩) ?_
                                refine o_mov rfl ?_
                                exact s_pred fun _ _ _ hE hI => ⟨(.bool (decide (y363 = y371))), [], _, fun _ e => (by cases e; exact hE _ _ rfl), .refl _, by exact hI, ⟨rfl, rfl⟩⟩
                              refine dcons ?_ ?_
                              · intro _ _ H724 fr725 hle726 hd727
                                obtain ⟨hv729, hg730⟩ := hd727 9 (by decide)
                                refine ⟨_, some (), rfl, fun _ => ?_⟩
                                refine s_env (env' := [(113, .bool (decide (y363 = y371))), (14, .pointer (some ⟨b349, 0, none⟩))]) (by exact ⟨congrArg some hv729, rfl, trivial⟩) ?_
                                refine s_want rfl rfl h380 ?_
                                refine o_ld 3 rfl rfl rfl ?_
                                exact s_pred fun _ _ _ hE hI => ⟨(.agg #[.int .i64 y347.1.Switch, .int .i64 y347.1.Port]), [], _, fun _ e => (by cases e; exact hE _ _ rfl), .refl _, by exact hI, ⟨rfl, rfl⟩⟩
                              refine dcons ?_ ?_
                              · intro _ _ H733 fr734 hle735 hd736
                                have hA738 := All2.mono (fun _ _ => GoT.mono hle735) hA332
                                obtain ⟨hv739, hg740⟩ := hd736 9 (by decide)
                                refine ⟨_, some (), rfl, fun _ => ?_⟩
                                refine s_env (env' := [(113, .bool (decide (y363 = y371))), (10, .slice (some ⟨bk373, 0, none⟩) s324.2.1.length c330)]) (by exact ⟨congrArg some hv739, rfl, trivial⟩) ?_
                                refine s_want rfl rfl h380 ?_
                                refine o_mov rfl ?_
                                exact s_pred fun _ _ _ hE hI => ⟨(.slice (some ⟨bk373, 0, none⟩) s324.2.1.length c330), [], _, fun _ e => (by cases e; exact hE _ _ rfl), .refl _, by exact hI, ⟨rfl, rfl⟩⟩
                              refine dcons ?_ ?_
                              · intro _ _ H743 fr744 hle745 hd746
                                obtain ⟨hv748, hg749⟩ := hd746 9 (by decide)
                                refine ⟨_, some (), rfl, fun _ => ?_⟩
                                refine s_env (env' := [(113, .bool (decide (y363 = y371))), (13, .int .i64 s324.2.2)]) (by exact ⟨congrArg some hv748, rfl, trivial⟩) ?_
                                refine s_want rfl rfl h380 ?_
                                refine o_mov rfl ?_
                                exact s_pred fun _ _ _ hE hI => ⟨(.int .i64 s324.2.2), [], _, fun _ e => (by cases e; exact hE _ _ rfl), .refl _, by exact hI, ⟨rfl, rfl⟩⟩
                              refine dcons ?_ ?_
                              · intro _ _ H752 fr753 hle754 hd755
                                have hA757 := All2.mono (fun _ _ => GoT.mono hle754) hA332
                                obtain ⟨hv758, hg759⟩ := hd755 9 (by decide)
                                obtain ⟨hv760, hg761⟩ := hd755 11 (by decide)
                                obtain ⟨hv762, hg763⟩ := hd755 12 (by decide)
                                refine ⟨_, (rd s324.2.1 s324.2.2).bind some, by rw [h595]; rfl, fun _ => ?_⟩
                                refine s_env (env' := [(113, .bool (decide (y363 = y371))), (115, .slice (some ⟨bk373, 0, none⟩) s324.2.1.length c330), (116, .int .i64 s324.2.2)]) (by exact ⟨congrArg some hv758, congrArg some hv760, congrArg some hv762, trivial⟩) ?_
                                refine s_want rfl rfl h380 ?_
                                refine o_ixO 2 rfl hA757 rfl rfl fun y588 bk765 vs766 h764 ha767 hi768 hr769 => ?_
                                subst hr769
                                obtain rfl := s_bk ha767
                                obtain rfl := Option.some.inj (h595.symm.trans h764)
                                exact s_pred fun _ _ _ hE hI => ⟨(.pointer (some ⟨bk373, (s324.2.2 : Int).toNat * GoT.sz (End), none⟩)), [], _, fun _ e => (by cases e; exact hE _ _ rfl), .refl _, by exact hI, ⟨rfl, rfl, hi768⟩⟩
                              refine dcons ?_ ?_
                              · intro _ _ H772 fr773 hle774 hd775
                                have hA777 := All2.mono (fun _ _ => GoT.mono hle774) hA332
                                obtain ⟨hv778, hg779⟩ := hd775 9 (by decide)
                                obtain ⟨hv780, hg781, hp782⟩ := hd775 13 (by decide)
                                refine ⟨_, some (), rfl, fun _ => ?_⟩
                                refine s_env (env' := [(113, .bool (decide (y363 = y371))), (117, .pointer (some ⟨bk373, (s324.2.2 : Int).toNat * GoT.sz (End), none⟩))]) (by exact ⟨congrArg some hv778, congrArg some hv780, trivial⟩) ?_
                                refine s_want rfl rfl h380 ?_
                                refine o_ldO 2 0 rfl hp782 rfl rfl rfl ?_
                                exact s_pred fun _ _ _ hE hI => ⟨(.agg #[.int .i64 y588.Switch, .int .i64 y588.Port]), [], _, fun _ e => (by cases e; exact hE _ _ rfl), .refl _, by exact hI, ⟨rfl, rfl⟩⟩
                              refine dcons ?_ ?_
                              · intro _ _ H785 fr786 hle787 hd788
                                obtain ⟨hv790, hg791⟩ := hd788 9 (by decide)
                                obtain ⟨hv792, hg793⟩ := hd788 10 (by decide)
                                obtain ⟨hv794, hg795⟩ := hd788 14 (by decide)
                                refine ⟨_, some (), rfl, fun _ => ?_⟩
                                refine s_env (env' := [(113, .bool (decide (y363 = y371))), (114, .agg #[.int .i64 y347.1.Switch, .int .i64 y347.1.Port]), (118, .agg #[.int .i64 y588.Switch, .int .i64 y588.Port])]) (by exact ⟨congrArg some hv790, congrArg some hv792, congrArg some hv794, trivial⟩) ?_
                                refine s_want rfl rfl h380 ?_
                                refine o_eqS y347.1 y588 rfl rfl ?_
                                exact s_pred fun _ _ _ hE hI => ⟨(.bool (decide (y347.1 = y588))), [], _, fun _ e => (by cases e; exact hE _ _ rfl), .refl _, by exact hI, ⟨rfl, rfl⟩⟩
                              refine dcons ?_ ?_
                              · intro _ _ H798 fr799 hle800 hd801
                                obtain ⟨hv803, hg804⟩ := hd801 9 (by decide)
                                obtain ⟨hv805, hg806⟩ := hd801 15 (by decide)
                                refine ⟨_, some (), rfl, fun _ => ?_⟩
                                refine s_env (env' := [(113, .bool (decide (y363 = y371))), (119, .bool (decide (y347.1 = y588)))]) (by exact ⟨congrArg some hv803, congrArg some hv805, trivial⟩) ?_
                                refine o_pickF rfl h380 rfl ?_
                                exact s_pred fun _ _ _ hE hI => ⟨(.bool (decide (y347.1 = y588))), [], _, fun _ e => (by cases e; exact hE _ _ rfl), .refl _, by exact hI, ⟨rfl, rfl⟩⟩
                              exact dnil
                            · intro V809 G810 H807 hle808 hF811
                              have hs812 := RSl.mono hle808 hs337
                              have hA813 := All2.mono (fun _ _ => GoT.mono hle808) hA338
                              have hA814 := All2.mono (fun _ _ => GoT.mono hle808) hA328
                              have hA815 := All2.mono (fun _ _ => GoT.mono hle808) hA332
                              obtain ⟨hv816, hg817⟩ := hF811 16 (show 16 < 17 by decide)
                              refine s_env (env' := [(120, .bool (decide (y347.1 = y588))), (0, .slice a3 y1.length c4), (6, .slice a194 ((([] : List Link) ++ y19) ++ y31).length c195), (7, .int .i64 s206), (8, .slice (some ⟨bk342, 0, none⟩) s324.1.length c326), (9, .bool y214.2), (10, .slice (some ⟨bk373, 0, none⟩) s324.2.1.length c330), (11, .bool y224.2), (12, .int .i64 s294.2.2), (13, .int .i64 s324.2.2), (90, .bool ((decide (s324.2.2 < (s324.2.1.length : Int))) && y224.2)), (94, .slice a3 y1.length c4), (95, .agg #[.int .i64 6, .slice a3 y1.length c4]), (96, .slice (some ⟨bk342, 0, none⟩) s324.1.length c326), (97, .int .i64 s294.2.2), (98, .pointer (some ⟨bk342, (s294.2.2 : Int).toNat * GoT.sz (End), none⟩)), (99, .agg #[.int .i64 y340.Switch, .int .i64 y340.Port]), (101, .agg #[.int .i64 y347.1.Switch, .int .i64 y347.1.Port]), (102, .int .i64 y347.2.1), (103, .bool y347.2.2), (14, .pointer (some ⟨b349, 0, none⟩)), (15, .int .i64 y347.2.1), (16, .bool y347.2.2)]) (by exact ⟨congrArg some hv816, rfl, rfl, rfl, rfl, rfl, rfl, rfl, rfl, rfl, rfl, rfl, rfl, rfl, rfl, rfl, rfl, rfl, rfl, rfl, rfl, rfl, rfl, trivial⟩) ?_
                              refine s_own (List.sublist_append_left _ _) ?_
                              refine s_done ?_
                              exact s_env (by exact ⟨rfl, rfl, rfl, rfl, rfl, rfl, rfl, rfl, rfl, rfl, trivial⟩) (s_own (by exact (.cons_cons _ (.cons_cons _ (.cons_cons _ (.cons _ .slnil))))) (J362 (s324.2.1, decide (y347.1 = y588)) _ _ _ ⟨_, _, _, rfl, rfl, hle808, hA815⟩))
                      · refine s_exit rfl ?_
                        exact s_env (by exact ⟨rfl, rfl, rfl, rfl, rfl, rfl, rfl, rfl, trivial⟩) (s_own (by exact (.cons_cons _ (.cons_cons _ (.cons_cons _ .slnil)))) (J323 (s324.1, s324.2.1) _ _ _ ⟨_, _, _, _, _, _, rfl, rfl, hle336, hA328, hA332⟩))
                    · intro J818
                      refine o_mov rfl ?_
                      refine o_mov rfl ?_
                      refine o_lenS rfl ?_
                      refine o_lt rfl rfl ?_
                      refine o_mov rfl ?_
                      refine s_case (decide (s324.2.2 < (s324.2.1.length : Int))) (fun h819 => ?_) (fun h819 => ?_)
                      · refine s_want rfl rfl h819 ?_
                        refine o_mov rfl ?_
                        refine o_pickT rfl h819 rfl ?_
                        exact s_env (by exact ⟨rfl, rfl, rfl, rfl, rfl, rfl, rfl, rfl, rfl, lkb rfl (by first | simp only [h819, Bool.true_and, Bool.and_true, Bool.false_and, Bool.and_false, Bool.true_or, Bool.false_or, Bool.or_true, Bool.or_false, Bool.not_true, Bool.not_false] | simp [h819]), trivial⟩) (s_own (by exact (.cons_cons _ (.cons_cons _ (.cons_cons _ .slnil)))) J818)
                      · refine s_unwant rfl rfl h819 ?_
                        refine o_pickF rfl h819 rfl ?_
                        exact s_env (by exact ⟨rfl, rfl, rfl, rfl, rfl, rfl, rfl, rfl, rfl, lkb rfl (by first | simp only [h819, Bool.true_and, Bool.and_true, Bool.false_and, Bool.and_false, Bool.true_or, Bool.false_or, Bool.or_true, Bool.or_false, Bool.not_true, Bool.not_false] | simp [h819]), trivial⟩) (s_own (by exact (.cons_cons _ (.cons_cons _ (.cons_cons _ .slnil)))) J818)
                · refine s_exit rfl ?_
                  exact s_env (by exact ⟨rfl, rfl, rfl, rfl, rfl, rfl, trivial⟩) (s_own (by exact (.cons_cons _ (.cons_cons _ (.cons _ .slnil)))) (J293 s294.1 _ _ _ ⟨_, _, _, rfl, rfl, hle306, hA298⟩))
          · intro J820
            refine o_mov rfl ?_
            refine o_mov rfl ?_
            refine s_split y224.2 (fun h821 => ?_) (fun h821 => ?_)
            · refine s_want rfl rfl h821 ?_
              refine o_mov rfl ?_
              refine s_want rfl rfl h821 ?_
              refine o_not rfl ?_
              refine s_want rfl rfl h821 ?_
              refine o_mov rfl ?_
              refine s_split (!y214.2) (fun h822 => ?_) (fun h822 => ?_)
              · refine s_unwant rfl rfl h822 ?_
                refine s_unwant rfl rfl h822 ?_
                refine s_unwant rfl rfl h822 ?_
                refine s_unwant rfl rfl h822 ?_
                refine s_unwant rfl rfl h822 ?_
                refine s_unwant rfl rfl h822 ?_
                refine s_unwant rfl rfl h822 ?_
                refine s_unwant rfl rfl h822 ?_
                refine s_unwant rfl rfl h822 ?_
                refine s_want rfl rfl h821 ?_
                refine o_pickT rfl h822 rfl ?_
                refine s_want rfl rfl h821 ?_
                refine o_mov rfl ?_
                refine s_unwant rfl rfl rfl ?_
                refine s_unwant rfl rfl rfl ?_
                refine s_unwant rfl rfl rfl ?_
                refine s_unwant rfl rfl rfl ?_
                refine s_unwant rfl rfl rfl ?_
                refine s_want rfl rfl h821 ?_
                refine o_pickT rfl rfl rfl ?_
                refine o_pickT rfl h821 rfl ?_
                exact s_env (by exact ⟨rfl, rfl, rfl, rfl, rfl, rfl, rfl, rfl, trivial⟩) (s_own (by exact (.cons_cons _ (.cons_cons _ (.cons_cons _ .slnil)))) (J820 true _ _ _ ⟨rfl, rfl, .refl _⟩))
              · refine s_want rfl rfl h822 ?_
                refine o_mov rfl ?_
                refine s_want rfl rfl h822 ?_
                refine o_mov rfl ?_
                refine s_want rfl rfl h822 ?_
                refine o_mov rfl ?_
                refine s_want rfl rfl h822 ?_
                refine s_bg fun y823 h824 => ?_
                refine s_callL (Φ := fun v out => v = _ ∧ out = []) [] _ rfl rfl (.refl _) (fun H' hle hl => catenarylaw20_goes_ok k _ y1 _ _ (RSl.mono hle hs231) y224.1 _ _ (lent_rsl (hl _ (List.mem_of_getElem? (i := 2) rfl)) hA234 hle).2 s206 h824) ?_
                rintro _ _ ⟨rfl, rfl⟩
                refine s_ownN ?_
                refine s_want rfl rfl h822 ?_
                refine o_mov rfl ?_
                refine s_want rfl rfl h822 ?_
                refine o_mov rfl ?_
                refine s_want rfl rfl h822 ?_
                refine o_mov rfl ?_
                refine s_want rfl rfl h822 ?_
                refine s_bg fun y825 h826 => ?_
                refine s_callL (Φ := fun v out => v = _ ∧ out = []) [] _ rfl rfl (.refl _) (fun H' hle hl => catenarylaw20_goes_ok k _ y1 _ _ (RSl.mono hle hs231) y214.1 _ _ (lent_rsl (hl _ (List.mem_of_getElem? (i := 1) rfl)) hA233 hle).2 s206 h826) ?_
                rintro _ _ ⟨rfl, rfl⟩
                refine s_ownN ?_
                refine s_want rfl rfl h822 ?_
                refine o_lt rfl rfl ?_
                refine s_want rfl rfl h821 ?_
                refine o_pickF rfl h822 rfl ?_
                refine s_want rfl rfl h821 ?_
                refine o_mov rfl ?_
                refine s_split (decide (y823 < y825)) (fun h827 => ?_) (fun h827 => ?_)
                · refine s_unwant rfl rfl h827 ?_
                  refine s_unwant rfl rfl h827 ?_
                  refine s_unwant rfl rfl h827 ?_
                  refine s_unwant rfl rfl h827 ?_
                  refine s_unwant rfl rfl h827 ?_
                  refine s_want rfl rfl h821 ?_
                  refine o_pickT rfl h827 rfl ?_
                  refine o_pickT rfl h821 rfl ?_
                  exact s_env (by exact ⟨rfl, rfl, rfl, rfl, rfl, rfl, rfl, rfl, trivial⟩) (s_own (by exact (.cons_cons _ (.cons_cons _ (.cons_cons _ .slnil)))) (J820 true _ _ _ ⟨rfl, rfl, .refl _⟩))
                · refine s_want rfl rfl h827 ?_
                  refine o_mov rfl ?_
                  refine s_want rfl rfl h827 ?_
                  refine o_mov rfl ?_
                  refine s_want rfl rfl h827 ?_
                  refine o_mov rfl ?_
                  refine s_want rfl rfl h827 ?_
                  refine s_bg fun y828 h829 => ?_
                  refine s_callL (Φ := fun v out => v = _ ∧ out = []) [] _ rfl rfl (.refl _) (fun H' hle hl => catenarylaw20_goes_ok k _ y1 _ _ (RSl.mono hle hs231) y214.1 _ _ (lent_rsl (hl _ (List.mem_of_getElem? (i := 1) rfl)) hA233 hle).2 s206 h829) ?_
                  rintro _ _ ⟨rfl, rfl⟩
                  refine s_ownN ?_
                  refine s_want rfl rfl h827 ?_
                  refine o_lt rfl rfl ?_
                  refine s_want rfl rfl h821 ?_
                  refine o_pickF rfl h827 rfl ?_
                  refine o_pickT rfl h821 rfl ?_
                  exact s_env (by exact ⟨rfl, rfl, rfl, rfl, rfl, rfl, rfl, rfl, trivial⟩) (s_own (by exact (.cons_cons _ (.cons_cons _ (.cons_cons _ .slnil)))) (J820 (decide (y828 < 0)) _ _ _ ⟨rfl, rfl, .refl _⟩))
            · refine s_unwant rfl rfl h821 ?_
              refine s_unwant rfl rfl h821 ?_
              refine s_unwant rfl rfl h821 ?_
              refine s_unwantU rfl rfl ?_
              refine s_unwantU rfl rfl ?_
              refine s_unwantU rfl rfl ?_
              refine s_unwantU rfl rfl ?_
              refine s_unwantU rfl rfl ?_
              refine s_unwantU rfl rfl ?_
              refine s_unwantU rfl rfl ?_
              refine s_unwantU rfl rfl ?_
              refine s_unwantU rfl rfl ?_
              refine s_unwant rfl rfl h821 ?_
              refine s_unwant rfl rfl h821 ?_
              refine s_unwantU rfl rfl ?_
              refine s_unwantU rfl rfl ?_
              refine s_unwantU rfl rfl ?_
              refine s_unwantU rfl rfl ?_
              refine s_unwantU rfl rfl ?_
              refine s_unwant rfl rfl h821 ?_
              refine o_pickF rfl h821 rfl ?_
              exact s_env (by exact ⟨rfl, rfl, rfl, rfl, rfl, rfl, rfl, rfl, trivial⟩) (s_own (by exact (.cons_cons _ (.cons_cons _ (.cons_cons _ .slnil)))) (J820 false _ _ _ ⟨rfl, rfl, .refl _⟩))
        · refine s_exit rfl ?_
          exact s_env (by exact trivial) (s_own (by exact (.cons _ .slnil)) (J205 () _ _ _ ⟨rfl, rfl, hle210⟩))
end Go.Cat.G3
