/- A text of the proof of the seat's laws: a step logic over the machine, or pure functions that the Go functions come to. No condition. -/
import Derived.Test.YtmmpieknnnlnhaaH10

namespace Go.Cat.G3
open Go Go.Cat Go.Proofs
set_option linter.unusedVariables false
set_option linter.unusedSimpArgs false

instance : TFun Try.prog 36 := ⟨_, (by kernel_rfl : Try.prog.funcs[36]? = some Try.f36), by decide, rfl⟩
instance : TFun Try.prog 41 := ⟨_, (by kernel_rfl : Try.prog.funcs[41]? = some Try.f41), by decide, rfl⟩
instance : TFun Try.prog 44 := ⟨_, (by kernel_rfl : Try.prog.funcs[44]? = some Try.f44), by decide, rfl⟩
instance : TFun Try.prog 49 := ⟨_, (by kernel_rfl : Try.prog.funcs[49]? = some Try.f49), by decide, rfl⟩
instance : TFun Try.prog 80 := ⟨_, (by kernel_rfl : Try.prog.funcs[80]? = some Try.f80), by decide, rfl⟩
instance : TFun Try.prog 81 := ⟨_, (by kernel_rfl : Try.prog.funcs[81]? = some Try.f81), by decide, rfl⟩

/-! catenary/catenarylaw20.at -/
def catenarylaw20_at (k : Nat) (x0 : Int) (x1 : Int) : Option End :=
  some (⟨x0, x1⟩ : End)
theorem fn_49 : Try.prog.funcs[49]? = some Try.f49 := by kernel_rfl
set_option maxRecDepth 100000 in
set_option maxHeartbeats 4000000 in
theorem catenarylaw20_at_ok (k : Nat) (H : Heap) (x0 : Int) (x1 : Int) {r : End} (hr : catenarylaw20_at k x0 x1 = some r) :
    Fn Try.prog 49 [.int .i64 x0, .int .i64 x1] H [] fun H' v out => v = .agg #[.int .i64 r.Switch, .int .i64 r.Port] ∧ out = [] := by
  refine fn_of_sim (args := [.int .i64 x0, .int .i64 x1]) (n := 8) (Φ := fun r H' v out => v = .agg #[.int .i64 r.Switch, .int .i64 r.Port] ∧ out = []) hr fn_49 rfl rfl rfl fun w => ?_
  refine s_eq (by rw [catenarylaw20_at]) ?_
  refine s_seq ?_
  refine s_region ?_
  refine o_alloc fun b1 => ?_
  refine s_done ?_
  refine s_seq ?_
  refine s_region ?_
  refine o_mov rfl ?_
  refine o_mov rfl ?_
  refine o_bld rfl rfl ?_
  refine o_st 0 rfl rfl rfl rfl rfl rfl ?_
  refine s_done ?_
  exact s_retv (xs := [.cell 4 26]) (vs := [.agg #[.int .i64 x0, .int .i64 x1]]) [] fn_49 rfl ⟨rv_cell 0 rfl rfl rfl rfl, trivial⟩ (.cons _ .slnil) ⟨rfl, rfl⟩

/-! catenary/catenarylaw20.four -/
def catenarylaw20_four (k : Nat)  : Option (List Link) :=
  (catenarylaw20_at k 1 1).bind fun y1 =>
  (catenarylaw20_at k 2 1).bind fun y3 =>
  (catenarylaw20_at k 1 2).bind fun y5 =>
  (catenarylaw20_at k 3 1).bind fun y7 =>
  (catenarylaw20_at k 2 2).bind fun y9 =>
  (catenarylaw20_at k 3 2).bind fun y11 =>
  (catenarylaw20_at k 3 3).bind fun y13 =>
  (catenarylaw20_at k 4 1).bind fun y15 =>
  some ([(⟨y1, y3⟩ : Link), (⟨y5, y7⟩ : Link), (⟨y9, y11⟩ : Link), (⟨y13, y15⟩ : Link)] : List Link)
theorem fn_80 : Try.prog.funcs[80]? = some Try.f80 := by kernel_rfl
set_option maxRecDepth 100000 in
set_option maxHeartbeats 4000000 in
theorem catenarylaw20_four_ok (k : Nat) (H : Heap)  {r : (List Link)} (hr : catenarylaw20_four k  = some r) :
    Fn Try.prog 80 [] H [] fun H' v out => ∃ a0 c0, v = .slice a0 r.length c0 ∧ out = [.osl (.slice a0 r.length c0) 4 40 (r.map GoE.enc)] := by
  refine fn_of_sim (args := []) (n := 14) (Φ := fun r H' v out => ∃ a0 c0, v = .slice a0 r.length c0 ∧ out = [.osl (.slice a0 r.length c0) 4 40 (r.map GoE.enc)]) hr fn_80 rfl rfl rfl fun w => ?_
  refine s_eq (by rw [catenarylaw20_four]) ?_
  refine s_seq ?_
  refine s_region ?_
  refine o_asg rfl ?_
  refine s_done ?_
  refine s_seq ?_
  refine s_region ?_
  refine s_bg fun y1 h2 => ?_
  refine s_callF rfl rfl (catenarylaw20_at_ok k _ 1 1 h2) ?_
  refine s_bg fun y3 h4 => ?_
  refine s_callF rfl rfl (catenarylaw20_at_ok k _ 2 1 h4) ?_
  refine o_bld rfl rfl ?_
  refine s_bg fun y5 h6 => ?_
  refine s_callF rfl rfl (catenarylaw20_at_ok k _ 1 2 h6) ?_
  refine s_bg fun y7 h8 => ?_
  refine s_callF rfl rfl (catenarylaw20_at_ok k _ 3 1 h8) ?_
  refine o_bld rfl rfl ?_
  refine s_bg fun y9 h10 => ?_
  refine s_callF rfl rfl (catenarylaw20_at_ok k _ 2 2 h10) ?_
  refine s_bg fun y11 h12 => ?_
  refine s_callF rfl rfl (catenarylaw20_at_ok k _ 3 2 h12) ?_
  refine o_bld rfl rfl ?_
  refine s_bg fun y13 h14 => ?_
  refine s_callF rfl rfl (catenarylaw20_at_ok k _ 3 3 h14) ?_
  refine s_bg fun y15 h16 => ?_
  refine s_callF rfl rfl (catenarylaw20_at_ok k _ 4 1 h16) ?_
  refine o_bld rfl rfl ?_
  refine o_bsl (xs := [.tmp 3, .tmp 6, .tmp 9, .tmp 12]) rfl rfl (by simp only [List.mem_cons, List.not_mem_nil, or_false, forall_eq_or_imp, forall_eq]; exact ⟨⟨rfl, rfl⟩, ⟨rfl, rfl⟩, ⟨rfl, rfl⟩, ⟨rfl, rfl⟩⟩) rfl rfl fun b17 => ?_
  have hA18 : All2 (GoT.rep H) [[.int .i64 y1.Switch, .int .i64 y1.Port, .int .i64 y3.Switch, .int .i64 y3.Port], [.int .i64 y5.Switch, .int .i64 y5.Port, .int .i64 y7.Switch, .int .i64 y7.Port], [.int .i64 y9.Switch, .int .i64 y9.Port, .int .i64 y11.Switch, .int .i64 y11.Port], [.int .i64 y13.Switch, .int .i64 y13.Port, .int .i64 y15.Switch, .int .i64 y15.Port]] ([(⟨y1, y3⟩ : Link), (⟨y5, y7⟩ : Link), (⟨y9, y11⟩ : Link), (⟨y13, y15⟩ : Link)] : List Link) := all2_enc (([(⟨y1, y3⟩ : Link), (⟨y5, y7⟩ : Link), (⟨y9, y11⟩ : Link), (⟨y13, y15⟩ : Link)] : List Link))
  refine o_asg rfl ?_
  refine s_done ?_
  exact s_retv (xs := [.tmp 0]) (vs := [.slice (some ⟨b17, 0, none⟩) ([(⟨y1, y3⟩ : Link), (⟨y5, y7⟩ : Link), (⟨y9, y11⟩ : Link), (⟨y13, y15⟩ : Link)] : List Link).length 4]) [.osl (.slice (some ⟨b17, 0, none⟩) ([(⟨y1, y3⟩ : Link), (⟨y5, y7⟩ : Link), (⟨y9, y11⟩ : Link), (⟨y13, y15⟩ : Link)] : List Link).length 4) 4 40 [[.int .i64 y1.Switch, .int .i64 y1.Port, .int .i64 y3.Switch, .int .i64 y3.Port], [.int .i64 y5.Switch, .int .i64 y5.Port, .int .i64 y7.Switch, .int .i64 y7.Port], [.int .i64 y9.Switch, .int .i64 y9.Port, .int .i64 y11.Switch, .int .i64 y11.Port], [.int .i64 y13.Switch, .int .i64 y13.Port, .int .i64 y15.Switch, .int .i64 y15.Port]]] fn_80 rfl ⟨rv_tmp rfl, trivial⟩ (.cons_cons _ .slnil) ⟨_, _, rfl, (congrArg (fun z => [Res.osl _ _ _ z]) (all2_flat hA18))⟩

/-! catenary/catenarylaw20.eq -/
def catenarylaw20_eq_l0 (k : Nat) (x0 : (List End)) (x1 : (List End)) : Nat → Int → Option (LX (Bool) (Unit))
  | 0, _ => none
  | q7 + 1, s6 =>
    if (decide (s6 < (x0.length : Int))) = true then
      (rd x0 s6).bind fun y14 =>
      (rd x1 s6).bind fun y20 =>
      if (!(decide (y14 = y20))) = true then
        some (.ret false)
      else
        catenarylaw20_eq_l0 k x0 x1 q7 (w64 (s6 + 1))
    else
      some (.out ())
def catenarylaw20_eq (k : Nat) (x0 : (List End)) (x1 : (List End)) : Option Bool :=
  if ((x0.length : Int) != (x1.length : Int)) = true then
    some false
  else
    (catenarylaw20_eq_l0 k x0 x1 k 0).bind (LX.go fun p2 =>
    some true)
theorem fn_81 : Try.prog.funcs[81]? = some Try.f81 := by kernel_rfl
set_option maxRecDepth 100000 in
set_option maxHeartbeats 4000000 in
theorem catenarylaw20_eq_ok (k : Nat) (H : Heap) (x0 : (List End)) (a0_0 : Option Addr) (c0_0 : Nat) (hx0_0 : RSl H a0_0 c0_0 x0) (x1 : (List End)) (a1_0 : Option Addr) (c1_0 : Nat) (hx1_0 : RSl H a1_0 c1_0 x1) {r : Bool} (hr : catenarylaw20_eq k x0 x1 = some r) :
    Fn Try.prog 81 [.slice a0_0 x0.length c0_0, .slice a1_0 x1.length c1_0] H [] fun H' v out => v = .bool r ∧ out = [] := by
  refine fn_of_sim (args := [.slice a0_0 x0.length c0_0, .slice a1_0 x1.length c1_0]) (n := 26) (Φ := fun r H' v out => v = .bool r ∧ out = []) hr fn_81 rfl rfl rfl fun w => ?_
  refine s_eq (by rw [catenarylaw20_eq]) ?_
  refine s_seq ?_
  refine s_region ?_
  refine o_asg rfl ?_
  refine s_done ?_
  refine s_seq ?_
  refine s_seq ?_
  refine s_region ?_
  refine o_mov rfl ?_
  refine o_lenS rfl ?_
  refine o_mov rfl ?_
  refine o_lenS rfl ?_
  refine o_ne rfl rfl ?_
  refine s_done ?_
  refine s_cond rfl (fun h1 => ?_) (fun h1 => ?_)
  · refine s_seq ?_
    refine s_region ?_
    refine o_asg rfl ?_
    refine s_done ?_
    exact s_retv (xs := [.tmp 4]) (vs := [.bool false]) [] fn_81 rfl ⟨rv_tmp rfl, trivial⟩ .slnil ⟨rfl, rfl⟩
  · refine s_skip ?_
    refine s_seq ?_
    refine s_seq ?_
    refine s_region ?_
    refine o_asg rfl ?_
    refine s_done ?_
    refine s_joinL (fun p2 env own H' => env = [] ∧ own = [] ∧ Hle H H') ?_ ?_
    · rintro p2 _ _ H3 ⟨rfl, rfl, hle4⟩
      refine s_seq ?_
      refine s_region ?_
      refine o_asg rfl ?_
      refine s_done ?_
      exact s_retv (xs := [.tmp 4]) (vs := [.bool true]) [] fn_81 rfl ⟨rv_tmp rfl, trivial⟩ .slnil ⟨rfl, rfl⟩
    · intro J5
      refine s_block ?_
      refine s_env (env' := [(0, .slice a0_0 x0.length c0_0), (1, .slice a1_0 x1.length c1_0), (5, .int .i64 0)]) (by exact ⟨rfl, rfl, rfl, trivial⟩) ?_
      refine s_own (own' := []) .slnil ?_
      refine s_loopn (fun q s6 => catenarylaw20_eq_l0 k x0 x1 q s6) (fun s6 env own H' => env = [(0, .slice a0_0 x0.length c0_0), (1, .slice a1_0 x1.length c1_0), (5, .int .i64 s6)] ∧ own = [] ∧ Hle H H') (fun _ => rfl) ?_ k 0 ⟨rfl, rfl, .refl _⟩
      rintro q7 ih8 s6 _ _ H9 ⟨rfl, rfl, hle10⟩
      refine s_eq (by rw [catenarylaw20_eq_l0]) ?_
      have hs11 := RSl.mono hle10 hx0_0
      have hs12 := RSl.mono hle10 hx1_0
      refine s_seq ?_
      refine s_seq ?_
      refine s_region ?_
      refine o_mov rfl ?_
      refine o_mov rfl ?_
      refine o_lenS rfl ?_
      refine o_lt rfl rfl ?_
      refine s_done ?_
      refine s_cond rfl (fun h13 => ?_) (fun h13 => ?_)
      · refine s_skip ?_
        refine s_seq ?_
        refine s_block ?_
        refine s_seq ?_
        refine s_bg fun y14 h19 => ?_
        refine s_bg fun y20 h25 => ?_
        refine s_drawL [(fun H v g => v = Value.slice a0_0 x0.length c0_0 ∧ g = [] ∧ RSl H a0_0 c0_0 x0),
      (fun H v g => v = Value.int .i64 s6 ∧ g = []),
      (fun H v g => ∃ bk27 of28, v = Value.pointer (some ⟨bk27, of28, none⟩) ∧ g = [] ∧ CellsAt H bk27 of28 [.int .i64 y14.Switch, .int .i64 y14.Port]),
      (fun H v g => v = Value.agg #[.int .i64 y14.Switch, .int .i64 y14.Port] ∧ g = []),
      (fun H v g => v = Value.slice a1_0 x1.length c1_0 ∧ g = [] ∧ RSl H a1_0 c1_0 x1),
      (fun H v g => v = Value.int .i64 s6 ∧ g = []),
      (fun H v g => ∃ bk31 of32, v = Value.pointer (some ⟨bk31, of32, none⟩) ∧ g = [] ∧ CellsAt H bk31 of32 [.int .i64 y20.Switch, .int .i64 y20.Port]),
      (fun H v g => v = Value.agg #[.int .i64 y20.Switch, .int .i64 y20.Port] ∧ g = []),
      (fun H v g => v = Value.bool (!(decide (y14 = y20))) ∧ g = [])] [[], [], [], [], [], [], [], [], []] mixed ⟨fun _ _ _ _ hle ⟨e1, e2, h0_⟩ => ⟨e1, e2, RSl.mono hle h0_⟩, m0, fun _ _ _ _ hle ⟨bk27, of28, e1, e2, h0_⟩ => ⟨_, _, e1, e2, CellsAt.mono hle h0_⟩, m0, fun _ _ _ _ hle ⟨e1, e2, h0_⟩ => ⟨e1, e2, RSl.mono hle h0_⟩, m0, fun _ _ _ _ hle ⟨bk31, of32, e1, e2, h0_⟩ => ⟨_, _, e1, e2, CellsAt.mono hle h0_⟩, m0, m0, trivial⟩ (by kernel_rfl) (by kernel_rfl) rfl (by kernel_rfl) rfl rfl ?_ ?_
        · refine dcons ?_ ?_
          · intro _ _ H36 fr37 hle38 hd39
            have hs41 := RSl.mono hle38 hs11
            refine ⟨_, some (), rfl, fun _ => ?_⟩
            refine s_env (env' := [(0, .slice a0_0 x0.length c0_0)]) (by exact ⟨rfl, trivial⟩) ?_
            refine o_mov rfl ?_
            exact s_pred fun _ _ _ hE hI => ⟨(.slice a0_0 x0.length c0_0), [], _, fun _ e => (by cases e; exact hE _ _ rfl), .refl _, by exact hI, ⟨rfl, rfl, hs41⟩⟩
          refine dcons ?_ ?_
          · intro _ _ H44 fr45 hle46 hd47
            refine ⟨_, some (), rfl, fun _ => ?_⟩
            refine s_env (env' := [(5, .int .i64 s6)]) (by exact ⟨rfl, trivial⟩) ?_
            refine o_mov rfl ?_
            exact s_pred fun _ _ _ hE hI => ⟨(.int .i64 s6), [], _, fun _ e => (by cases e; exact hE _ _ rfl), .refl _, by exact hI, ⟨rfl, rfl⟩⟩
          refine dcons ?_ ?_
          · intro _ _ H51 fr52 hle53 hd54
            obtain ⟨hv56, hg57, hp58⟩ := hd54 0 (by decide)
            obtain ⟨hv59, hg60⟩ := hd54 1 (by decide)
            refine ⟨_, (rd x0 s6).bind some, by rw [h19]; rfl, fun _ => ?_⟩
            refine s_env (env' := [(17, .slice a0_0 x0.length c0_0), (18, .int .i64 s6)]) (by exact ⟨congrArg some hv56, congrArg some hv59, trivial⟩) ?_
            refine o_ixf hp58 rfl rfl fun y14 bk62 of63 h61 hc64 => ?_
            obtain rfl := Option.some.inj (h19.symm.trans h61)
            exact s_pred fun _ _ _ hE hI => ⟨(.pointer (some ⟨bk62, of63, none⟩)), [], _, fun _ e => (by cases e; exact hE _ _ rfl), .refl _, by exact hI, ⟨bk62, of63, rfl, rfl, hc64⟩⟩
          refine dcons ?_ ?_
          · intro _ _ H67 fr68 hle69 hd70
            obtain ⟨bk72, of73, hv74, hg75, hp76⟩ := hd70 2 (by decide)
            refine ⟨_, some (), rfl, fun _ => ?_⟩
            refine s_env (env' := [(19, .pointer (some ⟨bk72, of73, none⟩))]) (by exact ⟨congrArg some hv74, trivial⟩) ?_
            refine o_ldH 0 hp76 rfl rfl rfl ?_
            exact s_pred fun _ _ _ hE hI => ⟨(.agg #[.int .i64 y14.Switch, .int .i64 y14.Port]), [], _, fun _ e => (by cases e; exact hE _ _ rfl), .refl _, by exact hI, ⟨rfl, rfl⟩⟩
          refine dcons ?_ ?_
          · intro _ _ H79 fr80 hle81 hd82
            have hs84 := RSl.mono hle81 hs12
            refine ⟨_, some (), rfl, fun _ => ?_⟩
            refine s_env (env' := [(1, .slice a1_0 x1.length c1_0)]) (by exact ⟨rfl, trivial⟩) ?_
            refine o_mov rfl ?_
            exact s_pred fun _ _ _ hE hI => ⟨(.slice a1_0 x1.length c1_0), [], _, fun _ e => (by cases e; exact hE _ _ rfl), .refl _, by exact hI, ⟨rfl, rfl, hs84⟩⟩
          refine dcons ?_ ?_
          · intro _ _ H87 fr88 hle89 hd90
            refine ⟨_, some (), rfl, fun _ => ?_⟩
            refine s_env (env' := [(5, .int .i64 s6)]) (by exact ⟨rfl, trivial⟩) ?_
            refine o_mov rfl ?_
            exact s_pred fun _ _ _ hE hI => ⟨(.int .i64 s6), [], _, fun _ e => (by cases e; exact hE _ _ rfl), .refl _, by exact hI, ⟨rfl, rfl⟩⟩
          refine dcons ?_ ?_
          · intro _ _ H94 fr95 hle96 hd97
            obtain ⟨hv99, hg100, hp101⟩ := hd97 4 (by decide)
            obtain ⟨hv102, hg103⟩ := hd97 5 (by decide)
            refine ⟨_, (rd x1 s6).bind some, by rw [h25]; rfl, fun _ => ?_⟩
            refine s_env (env' := [(21, .slice a1_0 x1.length c1_0), (22, .int .i64 s6)]) (by exact ⟨congrArg some hv99, congrArg some hv102, trivial⟩) ?_
            refine o_ixf hp101 rfl rfl fun y20 bk105 of106 h104 hc107 => ?_
            obtain rfl := Option.some.inj (h25.symm.trans h104)
            exact s_pred fun _ _ _ hE hI => ⟨(.pointer (some ⟨bk105, of106, none⟩)), [], _, fun _ e => (by cases e; exact hE _ _ rfl), .refl _, by exact hI, ⟨bk105, of106, rfl, rfl, hc107⟩⟩
          refine dcons ?_ ?_
          · intro _ _ H110 fr111 hle112 hd113
            obtain ⟨bk115, of116, hv117, hg118, hp119⟩ := hd113 6 (by decide)
            refine ⟨_, some (), rfl, fun _ => ?_⟩
            refine s_env (env' := [(23, .pointer (some ⟨bk115, of116, none⟩))]) (by exact ⟨congrArg some hv117, trivial⟩) ?_
            refine o_ldH 0 hp119 rfl rfl rfl ?_
            exact s_pred fun _ _ _ hE hI => ⟨(.agg #[.int .i64 y20.Switch, .int .i64 y20.Port]), [], _, fun _ e => (by cases e; exact hE _ _ rfl), .refl _, by exact hI, ⟨rfl, rfl⟩⟩
          refine dcons ?_ ?_
          · intro _ _ H122 fr123 hle124 hd125
            obtain ⟨hv127, hg128⟩ := hd125 3 (by decide)
            obtain ⟨hv129, hg130⟩ := hd125 7 (by decide)
            refine ⟨_, some (), rfl, fun _ => ?_⟩
            refine s_env (env' := [(20, .agg #[.int .i64 y14.Switch, .int .i64 y14.Port]), (24, .agg #[.int .i64 y20.Switch, .int .i64 y20.Port])]) (by exact ⟨congrArg some hv127, congrArg some hv129, trivial⟩) ?_
            refine o_neS y14 y20 rfl rfl ?_
            exact s_pred fun _ _ _ hE hI => ⟨(.bool (!(decide (y14 = y20)))), [], _, fun _ e => (by cases e; exact hE _ _ rfl), .refl _, by exact hI, ⟨rfl, rfl⟩⟩
          exact dnil
        · intro V133 G134 H131 hle132 hF135
          have hs136 := RSl.mono hle132 hs11
          have hs137 := RSl.mono hle132 hs12
          obtain ⟨hv138, hg139⟩ := hF135 8 (show 8 < 9 by decide)
          refine s_env (env' := [(25, .bool (!(decide (y14 = y20)))), (0, .slice a0_0 x0.length c0_0), (1, .slice a1_0 x1.length c1_0), (5, .int .i64 s6), (11, .int .i64 s6), (12, .slice a0_0 x0.length c0_0), (13, .int .i64 (x0.length : Int)), (14, .bool (decide (s6 < (x0.length : Int))))]) (by exact ⟨congrArg some hv138, rfl, rfl, rfl, rfl, rfl, rfl, rfl, trivial⟩) ?_
          refine s_own (List.sublist_append_left _ _) ?_
          refine s_done ?_
          refine s_cond rfl (fun h140 => ?_) (fun h140 => ?_)
          · refine s_seq ?_
            refine s_region ?_
            refine o_asg rfl ?_
            refine s_done ?_
            refine s_lret ?_
            exact s_retv (xs := [.tmp 4]) (vs := [.bool false]) [] fn_81 rfl ⟨rv_tmp rfl, trivial⟩ .slnil ⟨rfl, rfl⟩
          · refine s_skip ?_
            refine s_inBlock ?_
            refine s_region ?_
            refine o_mov rfl ?_
            refine o_add rfl rfl ?_
            refine o_asg rfl ?_
            refine s_done ?_
            exact s_env (by exact ⟨rfl, rfl, rfl, trivial⟩) (s_own (by exact .slnil) (ih8 (w64 (s6 + 1)) _ _ _ ⟨rfl, rfl, (Hle.trans hle10 hle132)⟩))
      · refine s_exit rfl ?_
        exact s_env (by exact trivial) (s_own (by exact .slnil) (J5 () _ _ _ ⟨rfl, rfl, hle10⟩))

/-! catenary/catenarylaw20.works -/
def catenarylaw20_works (k : Nat)  : Option Bool :=
  (catenarylaw20_four k).bind fun y1 =>
  (tree_Tree k y1).bind fun y9 =>
  (catenarylaw20_four k).bind fun y17 =>
  (tree_First k y17 4).bind fun y27 =>
  (catenarylaw20_four k).bind fun y33 =>
  (tree_First k y33 1).bind fun y45 =>
  (catenarylaw20_four k).bind fun y51 =>
  (tree_First k y51 5).bind fun y65 =>
  (catenarylaw20_four k).bind fun y71 =>
  (tree_Second k y71 3).bind fun y87 =>
  (catenarylaw20_four k).bind fun y93 =>
  (tree_Second k y93 4).bind fun y111 =>
  ((catenarylaw20_at k 1 2).bind fun y2742 =>
    (catenarylaw20_at k 3 3).bind fun y2744 =>
    (catenarylaw20_eq k y27.1 ([y2742, y2744] : List End)).bind fun y2749 =>
    if (y2749) = true then
      if (y27.2) = true then
        if ((y45.1.length : Int) == 0) = true then
          if (y45.2) = true then
            if (!y65.2) = true then
              (catenarylaw20_at k 1 1).bind fun y2756 =>
              (catenarylaw20_at k 2 2).bind fun y2758 =>
              (catenarylaw20_eq k y87.1 ([y2756, y2758] : List End)).bind fun y2763 =>
              if (y2763) = true then
                if (y87.2) = true then
                  some (!y111.2)
                else
                  some false
              else
                some false
            else
              some false
          else
            some false
        else
          some false
      else
        some false
    else
      some false).bind fun p117 =>
  if (y9.2 == 0) = true then
    (catenarylaw20_at k 1 1).bind fun y122 =>
    (catenarylaw20_at k 1 2).bind fun y125 =>
    (catenarylaw20_at k 3 3).bind fun y128 =>
    (catenarylaw20_eq k y9.1 ([(⟨0, 0⟩ : End), (⟨0, 0⟩ : End), y122, y125, y128, (⟨0, 0⟩ : End), (⟨0, 0⟩ : End)] : List End)).bind fun y134 =>
    if (y134) = true then
      if (p117) = true then
        (tree_Below k y9.1 3).bind fun y139 =>
        (catenaryref00_EqInts k y139 ([3, 4] : List Int)).bind fun y149 =>
        if (y149) = true then
          (tree_Below k y9.1 1).bind fun y153 =>
          (catenaryref00_EqInts k y153 ([1, 2, 3, 4] : List Int)).bind fun y163 =>
          if (y163) = true then
            (tree_Below k ([]) 7).bind fun y167 =>
            some ((y167.length : Int) == 0)
          else
            some false
        else
          some false
      else
        some false
    else
      some false
  else
    some false
theorem fn_43 : Try.prog.funcs[43]? = some Try.f43 := by kernel_rfl
set_option maxRecDepth 100000 in
set_option maxHeartbeats 4000000 in
theorem catenarylaw20_works_ok (k : Nat) (H : Heap)  {r : Bool} (hr : catenarylaw20_works k  = some r) :
    Fn Try.prog 43 [] H [] fun H' v out => v = .bool r ∧ out = [] := by
  refine fn_of_sim (args := []) (n := 114) (Φ := fun r H' v out => v = .bool r ∧ out = []) hr fn_43 rfl rfl rfl fun w => ?_
  refine s_eq (by rw [catenarylaw20_works]) ?_
  refine s_seq ?_
  refine s_region ?_
  refine o_asg rfl ?_
  refine s_done ?_
  refine s_seq ?_
  refine s_region ?_
  refine s_bg fun y1 h2 => ?_
  refine s_call [] _ rfl rfl (.refl _) (catenarylaw20_four_ok k _ h2) ?_
  rintro _ H6 _ hle7 ⟨a3, c4, rfl, rfl⟩
  have hA8 : All2 (GoT.rep H6) (y1.map GoE.enc) y1 := all2_enc _
  refine s_bg fun y9 h10 => ?_
  refine s_callL (Φ := fun v out => ∃ a0 c0, v = .tuple #[.slice a0 y9.1.length c0, .int .i64 y9.2] ∧ out = [.osl (.slice a0 y9.1.length c0) 2 26 (y9.1.map GoE.enc)]) [] _ rfl rfl (.refl _) (fun H' hle hl => tree_Tree_ok k _ y1 _ _ (lent_rsl (hl _ (List.mem_of_getElem? (i := 0) rfl)) hA8 hle).2 h10) ?_
  rintro _ _ ⟨a11, c12, rfl, rfl⟩
  have hA14 : All2 (GoT.rep H6) (y9.1.map GoE.enc) y9.1 := all2_enc _
  refine o_mov rfl ?_
  refine o_ext rfl rfl ?_
  refine o_ext rfl rfl ?_
  refine o_asg rfl ?_
  refine o_asg rfl ?_
  refine s_done ?_
  refine s_seq ?_
  refine s_region ?_
  refine o_bld rfl rfl ?_
  refine o_alloc fun b15 => ?_
  refine o_st 2 rfl rfl rfl rfl rfl rfl ?_
  refine s_done ?_
  refine s_seq ?_
  refine s_region ?_
  refine s_bg fun y17 h18 => ?_
  refine s_call [] _ rfl rfl (.refl _) (catenarylaw20_four_ok k _ h18) ?_
  rintro _ H22 _ hle23 ⟨a19, c20, rfl, rfl⟩
  have hA24 := All2.mono (fun _ _ => GoT.mono hle23) hA8
  have hA25 := All2.mono (fun _ _ => GoT.mono hle23) hA14
  have hA26 : All2 (GoT.rep H22) (y17.map GoE.enc) y17 := all2_enc _
  refine s_bg fun y27 h28 => ?_
  refine s_callL (Φ := fun v out => ∃ a0 c0, v = .tuple #[.slice a0 y27.1.length c0, .bool y27.2] ∧ out = [.osl (.slice a0 y27.1.length c0) 2 26 (y27.1.map GoE.enc)]) [] _ rfl rfl (.refl _) (fun H' hle hl => tree_First_ok k _ y17 _ _ (lent_rsl (hl _ (List.mem_of_getElem? (i := 3) rfl)) hA26 hle).2 4 h28) ?_
  rintro _ _ ⟨a29, c30, rfl, rfl⟩
  have hA32 : All2 (GoT.rep H22) (y27.1.map GoE.enc) y27.1 := all2_enc _
  refine o_mov rfl ?_
  refine o_ext rfl rfl ?_
  refine o_ext rfl rfl ?_
  refine o_asg rfl ?_
  refine o_asg rfl ?_
  refine s_done ?_
  refine s_seq ?_
  refine s_region ?_
  refine s_bg fun y33 h34 => ?_
  refine s_call [] _ rfl rfl (.refl _) (catenarylaw20_four_ok k _ h34) ?_
  rintro _ H38 _ hle39 ⟨a35, c36, rfl, rfl⟩
  have hA40 := All2.mono (fun _ _ => GoT.mono hle39) hA24
  have hA41 := All2.mono (fun _ _ => GoT.mono hle39) hA25
  have hA42 := All2.mono (fun _ _ => GoT.mono hle39) hA26
  have hA43 := All2.mono (fun _ _ => GoT.mono hle39) hA32
  have hA44 : All2 (GoT.rep H38) (y33.map GoE.enc) y33 := all2_enc _
  refine s_bg fun y45 h46 => ?_
  refine s_callL (Φ := fun v out => ∃ a0 c0, v = .tuple #[.slice a0 y45.1.length c0, .bool y45.2] ∧ out = [.osl (.slice a0 y45.1.length c0) 2 26 (y45.1.map GoE.enc)]) [] _ rfl rfl (.refl _) (fun H' hle hl => tree_First_ok k _ y33 _ _ (lent_rsl (hl _ (List.mem_of_getElem? (i := 5) rfl)) hA44 hle).2 1 h46) ?_
  rintro _ _ ⟨a47, c48, rfl, rfl⟩
  have hA50 : All2 (GoT.rep H38) (y45.1.map GoE.enc) y45.1 := all2_enc _
  refine o_mov rfl ?_
  refine o_ext rfl rfl ?_
  refine o_ext rfl rfl ?_
  refine o_asg rfl ?_
  refine o_asg rfl ?_
  refine s_done ?_
  refine s_seq ?_
  refine s_region ?_
  refine s_bg fun y51 h52 => ?_
  refine s_call [] _ rfl rfl (.refl _) (catenarylaw20_four_ok k _ h52) ?_
  rintro _ H56 _ hle57 ⟨a53, c54, rfl, rfl⟩
  have hA58 := All2.mono (fun _ _ => GoT.mono hle57) hA40
  have hA59 := All2.mono (fun _ _ => GoT.mono hle57) hA41
  have hA60 := All2.mono (fun _ _ => GoT.mono hle57) hA42
  have hA61 := All2.mono (fun _ _ => GoT.mono hle57) hA43
  have hA62 := All2.mono (fun _ _ => GoT.mono hle57) hA44
  have hA63 := All2.mono (fun _ _ => GoT.mono hle57) hA50
  have hA64 : All2 (GoT.rep H56) (y51.map GoE.enc) y51 := all2_enc _
  refine s_bg fun y65 h66 => ?_
  refine s_callL (Φ := fun v out => ∃ a0 c0, v = .tuple #[.slice a0 y65.1.length c0, .bool y65.2] ∧ out = [.osl (.slice a0 y65.1.length c0) 2 26 (y65.1.map GoE.enc)]) [] _ rfl rfl (.refl _) (fun H' hle hl => tree_First_ok k _ y51 _ _ (lent_rsl (hl _ (List.mem_of_getElem? (i := 7) rfl)) hA64 hle).2 5 h66) ?_
  rintro _ _ ⟨a67, c68, rfl, rfl⟩
  have hA70 : All2 (GoT.rep H56) (y65.1.map GoE.enc) y65.1 := all2_enc _
  refine o_mov rfl ?_
  refine o_ext rfl rfl ?_
  refine o_ext rfl rfl ?_
  refine o_asg rfl ?_
  refine o_asg rfl ?_
  refine s_done ?_
  refine s_seq ?_
  refine s_region ?_
  refine s_bg fun y71 h72 => ?_
  refine s_call [] _ rfl rfl (.refl _) (catenarylaw20_four_ok k _ h72) ?_
  rintro _ H76 _ hle77 ⟨a73, c74, rfl, rfl⟩
  have hA78 := All2.mono (fun _ _ => GoT.mono hle77) hA58
  have hA79 := All2.mono (fun _ _ => GoT.mono hle77) hA59
  have hA80 := All2.mono (fun _ _ => GoT.mono hle77) hA60
  have hA81 := All2.mono (fun _ _ => GoT.mono hle77) hA61
  have hA82 := All2.mono (fun _ _ => GoT.mono hle77) hA62
  have hA83 := All2.mono (fun _ _ => GoT.mono hle77) hA63
  have hA84 := All2.mono (fun _ _ => GoT.mono hle77) hA64
  have hA85 := All2.mono (fun _ _ => GoT.mono hle77) hA70
  have hA86 : All2 (GoT.rep H76) (y71.map GoE.enc) y71 := all2_enc _
  refine s_bg fun y87 h88 => ?_
  refine s_callL (Φ := fun v out => ∃ a0 c0, v = .tuple #[.slice a0 y87.1.length c0, .bool y87.2] ∧ out = [.osl (.slice a0 y87.1.length c0) 2 26 (y87.1.map GoE.enc)]) [] _ rfl rfl (.refl _) (fun H' hle hl => tree_Second_ok k _ y71 _ _ (lent_rsl (hl _ (List.mem_of_getElem? (i := 9) rfl)) hA86 hle).2 3 h88) ?_
  rintro _ _ ⟨a89, c90, rfl, rfl⟩
  have hA92 : All2 (GoT.rep H76) (y87.1.map GoE.enc) y87.1 := all2_enc _
  refine o_mov rfl ?_
  refine o_ext rfl rfl ?_
  refine o_ext rfl rfl ?_
  refine o_asg rfl ?_
  refine o_asg rfl ?_
  refine s_done ?_
  refine s_seq ?_
  refine s_region ?_
  refine s_bg fun y93 h94 => ?_
  refine s_call [] _ rfl rfl (.refl _) (catenarylaw20_four_ok k _ h94) ?_
  rintro _ H98 _ hle99 ⟨a95, c96, rfl, rfl⟩
  have hA100 := All2.mono (fun _ _ => GoT.mono hle99) hA78
  have hA101 := All2.mono (fun _ _ => GoT.mono hle99) hA79
  have hA102 := All2.mono (fun _ _ => GoT.mono hle99) hA80
  have hA103 := All2.mono (fun _ _ => GoT.mono hle99) hA81
  have hA104 := All2.mono (fun _ _ => GoT.mono hle99) hA82
  have hA105 := All2.mono (fun _ _ => GoT.mono hle99) hA83
  have hA106 := All2.mono (fun _ _ => GoT.mono hle99) hA84
  have hA107 := All2.mono (fun _ _ => GoT.mono hle99) hA85
  have hA108 := All2.mono (fun _ _ => GoT.mono hle99) hA86
  have hA109 := All2.mono (fun _ _ => GoT.mono hle99) hA92
  have hA110 : All2 (GoT.rep H98) (y93.map GoE.enc) y93 := all2_enc _
  refine s_bg fun y111 h112 => ?_
  refine s_callL (Φ := fun v out => ∃ a0 c0, v = .tuple #[.slice a0 y111.1.length c0, .bool y111.2] ∧ out = [.osl (.slice a0 y111.1.length c0) 2 26 (y111.1.map GoE.enc)]) [] _ rfl rfl (.refl _) (fun H' hle hl => tree_Second_ok k _ y93 _ _ (lent_rsl (hl _ (List.mem_of_getElem? (i := 11) rfl)) hA110 hle).2 4 h112) ?_
  rintro _ _ ⟨a113, c114, rfl, rfl⟩
  have hA116 : All2 (GoT.rep H98) (y111.1.map GoE.enc) y111.1 := all2_enc _
  refine o_mov rfl ?_
  refine o_ext rfl rfl ?_
  refine o_ext rfl rfl ?_
  refine o_asg rfl ?_
  refine o_asg rfl ?_
  refine s_done ?_
  refine s_seq ?_
  refine s_region ?_
  refine s_joinR (fun p117 env own H' => env = [(1, .slice a11 y9.1.length c12), (2, .int .i64 y9.2), (3, .pointer (some ⟨b15, 0, none⟩)), (14, .bool p117)] ∧ own = [.osl (.slice a11 y9.1.length c12) 2 26 (y9.1.map GoE.enc), .blk b15 (rowObj [.int .i64 0, .int .i64 0] 26)] ∧ Hle H98 H') ?_ ?_
  · rintro p117 _ _ H118 ⟨rfl, rfl, hle119⟩
    have hA120 := All2.mono (fun _ _ => GoT.mono hle119) hA101
    refine s_seq ?_
    refine s_split (y9.2 == 0) (fun h121 => ?_) (fun h121 => ?_)
    · refine s_bg fun y122 h124 => ?_
      refine s_bg fun y125 h127 => ?_
      refine s_bg fun y128 h130 => ?_
      refine s_bg fun y134 h136 => ?_
      refine s_split y134 (fun h137 => ?_) (fun h137 => ?_)
      · refine s_split p117 (fun h138 => ?_) (fun h138 => ?_)
        · refine s_bg fun y139 h145 => ?_
          refine s_bg fun y149 h151 => ?_
          refine s_split y149 (fun h152 => ?_) (fun h152 => ?_)
          · refine s_bg fun y153 h159 => ?_
            refine s_bg fun y163 h165 => ?_
            refine s_split y163 (fun h166 => ?_) (fun h166 => ?_)
            · refine s_bg fun y167 h181 => ?_
              refine s_drawL [(fun H v g => v = Value.int .i64 y9.2 ∧ g = []),
      (fun H v g => v = Value.bool (y9.2 == 0) ∧ g = []),
      (fun H v g => v = Value.bool (y9.2 == 0) ∧ g = []),
      (fun H v g => v = Value.slice a11 y9.1.length c12 ∧ g = []),
      (fun H v g => v = Value.agg #[.int .i64 0, .int .i64 0] ∧ g = []),
      (fun H v g => v = Value.agg #[.int .i64 0, .int .i64 0] ∧ g = []),
      (fun H v g => v = Value.agg #[.int .i64 y122.Switch, .int .i64 y122.Port] ∧ g = []),
      (fun H v g => v = Value.agg #[.int .i64 y125.Switch, .int .i64 y125.Port] ∧ g = []),
      (fun H v g => v = Value.agg #[.int .i64 y128.Switch, .int .i64 y128.Port] ∧ g = []),
      (fun H v g => v = Value.agg #[.int .i64 0, .int .i64 0] ∧ g = []),
      (fun H v g => v = Value.agg #[.int .i64 0, .int .i64 0] ∧ g = []),
      (fun H v g => ∃ b185, v = Value.slice (some ⟨b185, 0, none⟩) ([(⟨0, 0⟩ : End), (⟨0, 0⟩ : End), y122, y125, y128, (⟨0, 0⟩ : End), (⟨0, 0⟩ : End)] : List End).length 7 ∧ g = [] ∧ RSl H (some ⟨b185, 0, none⟩) 7 ([(⟨0, 0⟩ : End), (⟨0, 0⟩ : End), y122, y125, y128, (⟨0, 0⟩ : End), (⟨0, 0⟩ : End)] : List End)),
      (fun H v g => v = Value.bool y134 ∧ g = []),
      (fun H v g => v = Value.bool y134 ∧ g = []),
      (fun H v g => v = Value.bool y134 ∧ g = []),
      (fun H v g => v = Value.bool p117 ∧ g = []),
      (fun H v g => v = Value.bool p117 ∧ g = []),
      (fun H v g => v = Value.bool p117 ∧ g = []),
      (fun H v g => v = Value.slice a11 y9.1.length c12 ∧ g = []),
      (fun H v g => ∃ a195 c196, v = Value.slice a195 y139.length c196 ∧ g = [] ∧ RSl H a195 c196 y139),
      (fun H v g => ∃ b205, v = Value.slice (some ⟨b205, 0, none⟩) ([3, 4] : List Int).length 2 ∧ g = [] ∧ RSl H (some ⟨b205, 0, none⟩) 2 ([3, 4] : List Int)),
      (fun H v g => v = Value.bool y149 ∧ g = []),
      (fun H v g => v = Value.bool y149 ∧ g = []),
      (fun H v g => v = Value.bool y149 ∧ g = []),
      (fun H v g => v = Value.slice a11 y9.1.length c12 ∧ g = []),
      (fun H v g => ∃ a217 c218, v = Value.slice a217 y153.length c218 ∧ g = [] ∧ RSl H a217 c218 y153),
      (fun H v g => ∃ b229, v = Value.slice (some ⟨b229, 0, none⟩) ([1, 2, 3, 4] : List Int).length 4 ∧ g = [] ∧ RSl H (some ⟨b229, 0, none⟩) 4 ([1, 2, 3, 4] : List Int)),
      (fun H v g => v = Value.bool y163 ∧ g = []),
      (fun H v g => v = Value.bool y163 ∧ g = []),
      (fun H v g => v = Value.bool y163 ∧ g = []),
      (fun H v g => ∃ a243 c244, v = Value.slice a243 y167.length c244 ∧ g = [] ∧ RSl H a243 c244 y167),
      (fun H v g => v = Value.int .i64 (y167.length : Int) ∧ g = []),
      (fun H v g => v = Value.bool ((y167.length : Int) == 0) ∧ g = []),
      (fun H v g => v = Value.bool ((y167.length : Int) == 0) ∧ g = [])] [[], [], [], [], [], [], [], [], [], [], [], [], [], [], [], [], [], [], [], [], [], [], [], [], [], [], [], [], [], [], [], [], [], []] mixed ⟨m0, m0, m0, m0, m0, m0, m0, m0, m0, m0, m0, fun _ _ _ _ hle ⟨b185, e1, e2, h0_⟩ => ⟨_, e1, e2, RSl.mono hle h0_⟩, m0, m0, m0, m0, m0, m0, m0, fun _ _ _ _ hle ⟨a195, c196, e1, e2, h0_⟩ => ⟨_, _, e1, e2, RSl.mono hle h0_⟩, fun _ _ _ _ hle ⟨b205, e1, e2, h0_⟩ => ⟨_, e1, e2, RSl.mono hle h0_⟩, m0, m0, m0, m0, fun _ _ _ _ hle ⟨a217, c218, e1, e2, h0_⟩ => ⟨_, _, e1, e2, RSl.mono hle h0_⟩, fun _ _ _ _ hle ⟨b229, e1, e2, h0_⟩ => ⟨_, e1, e2, RSl.mono hle h0_⟩, m0, m0, m0, fun _ _ _ _ hle ⟨a243, c244, e1, e2, h0_⟩ => ⟨_, _, e1, e2, RSl.mono hle h0_⟩, m0, m0, m0, trivial⟩ (by kernel_rfl) (by kernel_rfl) rfl (by kernel_rfl) rfl rfl ?_ ?_
              · refine dcons ?_ ?_
                · intro _ _ H267 fr268 hle269 hd270
                  refine ⟨_, some (), rfl, fun _ => ?_⟩
                  refine s_env (env' := [(2, .int .i64 y9.2)]) (by exact ⟨rfl, trivial⟩) ?_
                  refine o_mov rfl ?_
                  exact s_pred fun _ _ _ hE hI => ⟨(.int .i64 y9.2), [], _, fun _ e => (by cases e; exact hE _ _ rfl), .refl _, by exact hI, ⟨rfl, rfl⟩⟩
                refine dcons ?_ ?_
                · intro _ _ H274 fr275 hle276 hd277
                  obtain ⟨hv279, hg280⟩ := hd277 0 (by decide)
                  refine ⟨_, some (), rfl, fun _ => ?_⟩
                  refine s_env (env' := [(80, .int .i64 y9.2)]) (by exact ⟨congrArg some hv279, trivial⟩) ?_
                  refine o_eq rfl rfl ?_
                  exact s_pred fun _ _ _ hE hI => ⟨(.bool (y9.2 == 0)), [], _, fun _ e => (by cases e; exact hE _ _ rfl), .refl _, by exact hI, ⟨rfl, rfl⟩⟩
                refine dcons ?_ ?_
                · intro _ _ H283 fr284 hle285 hd286
                  obtain ⟨hv288, hg289⟩ := hd286 1 (by decide)
                  refine ⟨_, some (), rfl, fun _ => ?_⟩
                  refine s_env (env' := [(81, .bool (y9.2 == 0))]) (by exact ⟨congrArg some hv288, trivial⟩) ?_
                  refine o_mov rfl ?_
                  exact s_pred fun _ _ _ hE hI => ⟨(.bool (y9.2 == 0)), [], _, fun _ e => (by cases e; exact hE _ _ rfl), .refl _, by exact hI, ⟨rfl, rfl⟩⟩
                refine dcons ?_ ?_
                · intro _ _ H292 fr293 hle294 hd295
                  have hA297 := All2.mono (fun _ _ => GoT.mono hle294) hA120
                  obtain ⟨hv298, hg299⟩ := hd295 2 (by decide)
                  refine ⟨_, some (), rfl, fun _ => ?_⟩
                  refine s_env (env' := [(82, .bool (y9.2 == 0)), (1, .slice a11 y9.1.length c12)]) (by exact ⟨congrArg some hv298, rfl, trivial⟩) ?_
                  refine s_want rfl rfl h121 ?_
                  refine o_mov rfl ?_
                  exact s_pred fun _ _ _ hE hI => ⟨(.slice a11 y9.1.length c12), [], _, fun _ e => (by cases e; exact hE _ _ rfl), .refl _, by exact hI, ⟨rfl, rfl⟩⟩
                refine dcons ?_ ?_
                · intro _ _ H302 fr303 hle304 hd305
                  obtain ⟨hv307, hg308⟩ := hd305 2 (by decide)
                  refine ⟨_, some (), rfl, fun _ => ?_⟩
                  refine s_env (env' := [(82, .bool (y9.2 == 0)), (3, .pointer (some ⟨b15, 0, none⟩))]) (by exact ⟨congrArg some hv307, rfl, trivial⟩) ?_
                  refine s_want rfl rfl h121 ?_
                  refine o_ld 1 rfl rfl rfl ?_
                  exact s_pred fun _ _ _ hE hI => ⟨(.agg #[.int .i64 0, .int .i64 0]), [], _, fun _ e => (by cases e; exact hE _ _ rfl), .refl _, by exact hI, ⟨rfl, rfl⟩⟩
                refine dcons ?_ ?_
                · intro _ _ H311 fr312 hle313 hd314
                  obtain ⟨hv316, hg317⟩ := hd314 2 (by decide)
                  refine ⟨_, some (), rfl, fun _ => ?_⟩
                  refine s_env (env' := [(82, .bool (y9.2 == 0)), (3, .pointer (some ⟨b15, 0, none⟩))]) (by exact ⟨congrArg some hv316, rfl, trivial⟩) ?_
                  refine s_want rfl rfl h121 ?_
                  refine o_ld 1 rfl rfl rfl ?_
                  exact s_pred fun _ _ _ hE hI => ⟨(.agg #[.int .i64 0, .int .i64 0]), [], _, fun _ e => (by cases e; exact hE _ _ rfl), .refl _, by exact hI, ⟨rfl, rfl⟩⟩
                refine dcons ?_ ?_
                · intro _ _ H320 fr321 hle322 hd323
                  obtain ⟨hv325, hg326⟩ := hd323 2 (by decide)
                  refine ⟨_, (catenarylaw20_at k 1 1).bind some, by rw [h124]; rfl, fun _ => ?_⟩
                  refine s_env (env' := [(82, .bool (y9.2 == 0))]) (by exact ⟨congrArg some hv325, trivial⟩) ?_
                  refine s_want rfl rfl h121 ?_
                  refine s_bg fun y122 h327 => ?_
                  refine s_callF rfl rfl (catenarylaw20_at_ok k _ 1 1 h327) ?_
                  obtain rfl := Option.some.inj (h124.symm.trans h327)
                  exact s_pred fun _ _ _ hE hI => ⟨(.agg #[.int .i64 y122.Switch, .int .i64 y122.Port]), [], _, fun _ e => (by cases e; exact hE _ _ rfl), .refl _, by exact hI, ⟨rfl, rfl⟩⟩
                refine dcons ?_ ?_
                · intro _ _ H330 fr331 hle332 hd333
                  obtain ⟨hv335, hg336⟩ := hd333 2 (by decide)
                  refine ⟨_, (catenarylaw20_at k 1 2).bind some, by rw [h127]; rfl, fun _ => ?_⟩
                  refine s_env (env' := [(82, .bool (y9.2 == 0))]) (by exact ⟨congrArg some hv335, trivial⟩) ?_
                  refine s_want rfl rfl h121 ?_
                  refine s_bg fun y125 h337 => ?_
                  refine s_callF rfl rfl (catenarylaw20_at_ok k _ 1 2 h337) ?_
                  obtain rfl := Option.some.inj (h127.symm.trans h337)
                  exact s_pred fun _ _ _ hE hI => ⟨(.agg #[.int .i64 y125.Switch, .int .i64 y125.Port]), [], _, fun _ e => (by cases e; exact hE _ _ rfl), .refl _, by exact hI, ⟨rfl, rfl⟩⟩
                refine dcons ?_ ?_
                · intro _ _ H340 fr341 hle342 hd343
                  obtain ⟨hv345, hg346⟩ := hd343 2 (by decide)
                  refine ⟨_, (catenarylaw20_at k 3 3).bind some, by rw [h130]; rfl, fun _ => ?_⟩
                  refine s_env (env' := [(82, .bool (y9.2 == 0))]) (by exact ⟨congrArg some hv345, trivial⟩) ?_
                  refine s_want rfl rfl h121 ?_
                  refine s_bg fun y128 h347 => ?_
                  refine s_callF rfl rfl (catenarylaw20_at_ok k _ 3 3 h347) ?_
                  obtain rfl := Option.some.inj (h130.symm.trans h347)
                  exact s_pred fun _ _ _ hE hI => ⟨(.agg #[.int .i64 y128.Switch, .int .i64 y128.Port]), [], _, fun _ e => (by cases e; exact hE _ _ rfl), .refl _, by exact hI, ⟨rfl, rfl⟩⟩
                refine dcons ?_ ?_
                · intro _ _ H350 fr351 hle352 hd353
                  obtain ⟨hv355, hg356⟩ := hd353 2 (by decide)
                  refine ⟨_, some (), rfl, fun _ => ?_⟩
                  refine s_env (env' := [(82, .bool (y9.2 == 0)), (3, .pointer (some ⟨b15, 0, none⟩))]) (by exact ⟨congrArg some hv355, rfl, trivial⟩) ?_
                  refine s_want rfl rfl h121 ?_
                  refine o_ld 1 rfl rfl rfl ?_
                  exact s_pred fun _ _ _ hE hI => ⟨(.agg #[.int .i64 0, .int .i64 0]), [], _, fun _ e => (by cases e; exact hE _ _ rfl), .refl _, by exact hI, ⟨rfl, rfl⟩⟩
                refine dcons ?_ ?_
                · intro _ _ H359 fr360 hle361 hd362
                  obtain ⟨hv364, hg365⟩ := hd362 2 (by decide)
                  refine ⟨_, some (), rfl, fun _ => ?_⟩
                  refine s_env (env' := [(82, .bool (y9.2 == 0)), (3, .pointer (some ⟨b15, 0, none⟩))]) (by exact ⟨congrArg some hv364, rfl, trivial⟩) ?_
                  refine s_want rfl rfl h121 ?_
                  refine o_ld 1 rfl rfl rfl ?_
                  exact s_pred fun _ _ _ hE hI => ⟨(.agg #[.int .i64 0, .int .i64 0]), [], _, fun _ e => (by cases e; exact hE _ _ rfl), .refl _, by exact hI, ⟨rfl, rfl⟩⟩
                refine dcons ?_ ?_
                · intro _ _ H368 fr369 hle370 hd371
                  obtain ⟨hv373, hg374⟩ := hd371 2 (by decide)
                  obtain ⟨hv375, hg376⟩ := hd371 4 (by decide)
                  obtain ⟨hv377, hg378⟩ := hd371 5 (by decide)
                  obtain ⟨hv379, hg380⟩ := hd371 6 (by decide)
                  obtain ⟨hv381, hg382⟩ := hd371 7 (by decide)
                  obtain ⟨hv383, hg384⟩ := hd371 8 (by decide)
                  obtain ⟨hv385, hg386⟩ := hd371 9 (by decide)
                  obtain ⟨hv387, hg388⟩ := hd371 10 (by decide)
                  refine ⟨_, some (), rfl, fun _ => ?_⟩
                  refine s_env (env' := [(82, .bool (y9.2 == 0)), (84, .agg #[.int .i64 0, .int .i64 0]), (85, .agg #[.int .i64 0, .int .i64 0]), (86, .agg #[.int .i64 y122.Switch, .int .i64 y122.Port]), (87, .agg #[.int .i64 y125.Switch, .int .i64 y125.Port]), (88, .agg #[.int .i64 y128.Switch, .int .i64 y128.Port]), (89, .agg #[.int .i64 0, .int .i64 0]), (90, .agg #[.int .i64 0, .int .i64 0])]) (by exact ⟨congrArg some hv373, congrArg some hv375, congrArg some hv377, congrArg some hv379, congrArg some hv381, congrArg some hv383, congrArg some hv385, congrArg some hv387, trivial⟩) ?_
                  refine s_want rfl rfl h121 ?_
                  refine o_bsl (xs := [.tmp 84, .tmp 85, .tmp 86, .tmp 87, .tmp 88, .tmp 89, .tmp 90]) rfl rfl (by simp only [List.mem_cons, List.not_mem_nil, or_false, forall_eq_or_imp, forall_eq]; exact ⟨⟨rfl, rfl⟩, ⟨rfl, rfl⟩, ⟨rfl, rfl⟩, ⟨rfl, rfl⟩, ⟨rfl, rfl⟩, ⟨rfl, rfl⟩, ⟨rfl, rfl⟩⟩) rfl rfl fun b389 => ?_
                  have hA390 : All2 (GoT.rep H368) [[.int .i64 0, .int .i64 0], [.int .i64 0, .int .i64 0], [.int .i64 y122.Switch, .int .i64 y122.Port], [.int .i64 y125.Switch, .int .i64 y125.Port], [.int .i64 y128.Switch, .int .i64 y128.Port], [.int .i64 0, .int .i64 0], [.int .i64 0, .int .i64 0]] ([(⟨0, 0⟩ : End), (⟨0, 0⟩ : End), y122, y125, y128, (⟨0, 0⟩ : End), (⟨0, 0⟩ : End)] : List End) := all2_enc (([(⟨0, 0⟩ : End), (⟨0, 0⟩ : End), y122, y125, y128, (⟨0, 0⟩ : End), (⟨0, 0⟩ : End)] : List End))
                  refine s_perm (own' := [.osl (.slice a11 y9.1.length c12) 2 26 (y9.1.map GoE.enc), .blk b15 (rowObj [.int .i64 0, .int .i64 0] 26), .osl (.slice (some ⟨b389, 0, none⟩) ([(⟨0, 0⟩ : End), (⟨0, 0⟩ : End), y122, y125, y128, (⟨0, 0⟩ : End), (⟨0, 0⟩ : End)] : List End).length 7) 2 26 [[.int .i64 0, .int .i64 0], [.int .i64 0, .int .i64 0], [.int .i64 y122.Switch, .int .i64 y122.Port], [.int .i64 y125.Switch, .int .i64 y125.Port], [.int .i64 y128.Switch, .int .i64 y128.Port], [.int .i64 0, .int .i64 0], [.int .i64 0, .int .i64 0]]] ++ fr369) (pm3 (a := [.osl (.slice a11 y9.1.length c12) 2 26 (y9.1.map GoE.enc), .blk b15 (rowObj [.int .i64 0, .int .i64 0] 26)]) (xs := [.osl (.slice (some ⟨b389, 0, none⟩) ([(⟨0, 0⟩ : End), (⟨0, 0⟩ : End), y122, y125, y128, (⟨0, 0⟩ : End), (⟨0, 0⟩ : End)] : List End).length 7) 2 26 [[.int .i64 0, .int .i64 0], [.int .i64 0, .int .i64 0], [.int .i64 y122.Switch, .int .i64 y122.Port], [.int .i64 y125.Switch, .int .i64 y125.Port], [.int .i64 y128.Switch, .int .i64 y128.Port], [.int .i64 0, .int .i64 0], [.int .i64 0, .int .i64 0]]])) ?_
                  refine s_frz 2 (fun b => .inl (by simp [ids])) rfl hA390 fun H392 hle393 hn394 hs395 => ?_
                  exact s_pred fun _ _ _ hE hI => ⟨(.slice (some ⟨b389, 0, none⟩) ([(⟨0, 0⟩ : End), (⟨0, 0⟩ : End), y122, y125, y128, (⟨0, 0⟩ : End), (⟨0, 0⟩ : End)] : List End).length 7), [], _, fun _ e => (by cases e; exact hE _ _ rfl), hle393, by exact hI, ⟨b389, rfl, rfl, hs395⟩⟩
                refine dcons ?_ ?_
                · intro _ _ H398 fr399 hle400 hd401
                  have hA403 := All2.mono (fun _ _ => GoT.mono hle400) hA120
                  obtain ⟨hv404, hg405⟩ := hd401 2 (by decide)
                  obtain ⟨hv406, hg407⟩ := hd401 3 (by decide)
                  obtain ⟨b408, hv409, hg410, hp411⟩ := hd401 11 (by decide)
                  refine ⟨_, (catenarylaw20_eq k y9.1 ([(⟨0, 0⟩ : End), (⟨0, 0⟩ : End), y122, y125, y128, (⟨0, 0⟩ : End), (⟨0, 0⟩ : End)] : List End)).bind some, by rw [h136]; rfl, fun _ => ?_⟩
                  refine s_env (env' := [(82, .bool (y9.2 == 0)), (83, .slice a11 y9.1.length c12), (91, .slice (some ⟨b408, 0, none⟩) ([(⟨0, 0⟩ : End), (⟨0, 0⟩ : End), y122, y125, y128, (⟨0, 0⟩ : End), (⟨0, 0⟩ : End)] : List End).length 7)]) (by exact ⟨congrArg some hv404, congrArg some hv406, congrArg some hv409, trivial⟩) ?_
                  refine s_want rfl rfl h121 ?_
                  refine s_bg fun y134 h412 => ?_
                  refine s_callL (Φ := fun v out => v = _ ∧ out = []) [] _ rfl rfl (.refl _) (fun H' hle hl => catenarylaw20_eq_ok k _ y9.1 _ _ (lent_rsl (hl _ (List.mem_of_getElem? (i := 0) rfl)) hA403 hle).2 ([(⟨0, 0⟩ : End), (⟨0, 0⟩ : End), y122, y125, y128, (⟨0, 0⟩ : End), (⟨0, 0⟩ : End)] : List End) _ _ (RSl.mono hle hp411) h412) ?_
                  rintro _ _ ⟨rfl, rfl⟩
                  refine s_ownN ?_
                  obtain rfl := Option.some.inj (h136.symm.trans h412)
                  exact s_pred fun _ _ _ hE hI => ⟨(.bool y134), [], _, fun _ e => (by cases e; exact hE _ _ rfl), .refl _, by exact hI, ⟨rfl, rfl⟩⟩
                refine dcons ?_ ?_
                · intro _ _ H415 fr416 hle417 hd418
                  obtain ⟨hv420, hg421⟩ := hd418 2 (by decide)
                  obtain ⟨hv422, hg423⟩ := hd418 12 (by decide)
                  refine ⟨_, some (), rfl, fun _ => ?_⟩
                  refine s_env (env' := [(82, .bool (y9.2 == 0)), (92, .bool y134)]) (by exact ⟨congrArg some hv420, congrArg some hv422, trivial⟩) ?_
                  refine o_pickT rfl h121 rfl ?_
                  exact s_pred fun _ _ _ hE hI => ⟨(.bool y134), [], _, fun _ e => (by cases e; exact hE _ _ rfl), .refl _, by exact hI, ⟨rfl, rfl⟩⟩
                refine dcons ?_ ?_
                · intro _ _ H426 fr427 hle428 hd429
                  obtain ⟨hv431, hg432⟩ := hd429 13 (by decide)
                  refine ⟨_, some (), rfl, fun _ => ?_⟩
                  refine s_env (env' := [(93, .bool y134)]) (by exact ⟨congrArg some hv431, trivial⟩) ?_
                  refine o_mov rfl ?_
                  exact s_pred fun _ _ _ hE hI => ⟨(.bool y134), [], _, fun _ e => (by cases e; exact hE _ _ rfl), .refl _, by exact hI, ⟨rfl, rfl⟩⟩
                refine dcons ?_ ?_
                · intro _ _ H435 fr436 hle437 hd438
                  obtain ⟨hv440, hg441⟩ := hd438 14 (by decide)
                  refine ⟨_, some (), rfl, fun _ => ?_⟩
                  refine s_env (env' := [(94, .bool y134), (14, .bool p117)]) (by exact ⟨congrArg some hv440, rfl, trivial⟩) ?_
                  refine s_want rfl rfl h137 ?_
                  refine o_mov rfl ?_
                  exact s_pred fun _ _ _ hE hI => ⟨(.bool p117), [], _, fun _ e => (by cases e; exact hE _ _ rfl), .refl _, by exact hI, ⟨rfl, rfl⟩⟩
                refine dcons ?_ ?_
                · intro _ _ H444 fr445 hle446 hd447
                  obtain ⟨hv449, hg450⟩ := hd447 14 (by decide)
                  obtain ⟨hv451, hg452⟩ := hd447 15 (by decide)
                  refine ⟨_, some (), rfl, fun _ => ?_⟩
                  refine s_env (env' := [(94, .bool y134), (95, .bool p117)]) (by exact ⟨congrArg some hv449, congrArg some hv451, trivial⟩) ?_
                  refine o_pickT rfl h137 rfl ?_
                  exact s_pred fun _ _ _ hE hI => ⟨(.bool p117), [], _, fun _ e => (by cases e; exact hE _ _ rfl), .refl _, by exact hI, ⟨rfl, rfl⟩⟩
                refine dcons ?_ ?_
                · intro _ _ H455 fr456 hle457 hd458
                  obtain ⟨hv460, hg461⟩ := hd458 16 (by decide)
                  refine ⟨_, some (), rfl, fun _ => ?_⟩
                  refine s_env (env' := [(96, .bool p117)]) (by exact ⟨congrArg some hv460, trivial⟩) ?_
                  refine o_mov rfl ?_
                  exact s_pred fun _ _ _ hE hI => ⟨(.bool p117), [], _, fun _ e => (by cases e; exact hE _ _ rfl), .refl _, by exact hI, ⟨rfl, rfl⟩⟩
                refine dcons ?_ ?_
                · intro _ _ H464 fr465 hle466 hd467
                  have hA469 := All2.mono (fun _ _ => GoT.mono hle466) hA120
                  obtain ⟨hv470, hg471⟩ := hd467 17 (by decide)
                  refine ⟨_, some (), rfl, fun _ => ?_⟩
                  refine s_env (env' := [(97, .bool p117), (1, .slice a11 y9.1.length c12)]) (by exact ⟨congrArg some hv470, rfl, trivial⟩) ?_
                  refine s_want rfl rfl h138 ?_
                  refine o_mov rfl ?_
                  exact s_pred fun _ _ _ hE hI => ⟨(.slice a11 y9.1.length c12), [], _, fun _ e => (by cases e; exact hE _ _ rfl), .refl _, by exact hI, ⟨rfl, rfl⟩⟩
                refine dcons ?_ ?_
                · intro _ _ H474 fr475 hle476 hd477
                  have hA479 := All2.mono (fun _ _ => GoT.mono hle476) hA120
                  obtain ⟨hv480, hg481⟩ := hd477 17 (by decide)
                  obtain ⟨hv482, hg483⟩ := hd477 18 (by decide)
                  refine ⟨_, (tree_Below k y9.1 3).bind some, by rw [h145]; rfl, fun _ => ?_⟩
                  refine s_env (env' := [(97, .bool p117), (98, .slice a11 y9.1.length c12)]) (by exact ⟨congrArg some hv480, congrArg some hv482, trivial⟩) ?_
                  refine s_want rfl rfl h138 ?_
                  refine s_bg fun y139 h484 => ?_
                  refine s_callL (Φ := fun v out => ∃ a0 c0, v = .slice a0 y139.length c0 ∧ out = [.osl (.slice a0 y139.length c0) 1 3 (y139.map GoE.enc)]) [] _ rfl rfl (.refl _) (fun H' hle hl => tree_Below_ok k _ y9.1 _ _ (lent_rsl (hl _ (List.mem_of_getElem? (i := 0) rfl)) hA479 hle).2 3 h484) ?_
                  rintro _ _ ⟨a485, c486, rfl, rfl⟩
                  have hA488 : All2 (GoT.rep H474) (y139.map GoE.enc) y139 := all2_enc _
                  obtain rfl := Option.some.inj (h145.symm.trans h484)
                  refine s_perm (own' := [.osl (.slice a11 y9.1.length c12) 2 26 (y9.1.map GoE.enc), .blk b15 (rowObj [.int .i64 0, .int .i64 0] 26), .osl (.slice a485 y139.length c486) 1 3 (y139.map GoE.enc)] ++ fr475) (pm3 (a := [.osl (.slice a11 y9.1.length c12) 2 26 (y9.1.map GoE.enc), .blk b15 (rowObj [.int .i64 0, .int .i64 0] 26)]) (xs := [.osl (.slice a485 y139.length c486) 1 3 (y139.map GoE.enc)])) ?_
                  refine s_frz 2 (fun b => .inl (by simp [ids])) rfl hA488 fun H489 hle490 hn491 hs492 => ?_
                  have hA493 := All2.mono (fun _ _ => GoT.mono hle490) hA479
                  exact s_pred fun _ _ _ hE hI => ⟨(.slice a485 y139.length c486), [], _, fun _ e => (by cases e; exact hE _ _ rfl), hle490, by exact hI, ⟨a485, c486, rfl, rfl, hs492⟩⟩
                refine dcons ?_ ?_
                · intro _ _ H496 fr497 hle498 hd499
                  obtain ⟨hv501, hg502⟩ := hd499 17 (by decide)
                  refine ⟨_, some (), rfl, fun _ => ?_⟩
                  refine s_env (env' := [(97, .bool p117)]) (by exact ⟨congrArg some hv501, trivial⟩) ?_
                  refine s_want rfl rfl h138 ?_
                  refine o_bsl (xs := [.const (.int .i64 3), .const (.int .i64 4)]) rfl rfl (by simp only [List.mem_cons, List.not_mem_nil, or_false, forall_eq_or_imp, forall_eq]; exact ⟨⟨rfl, rfl⟩, ⟨rfl, rfl⟩⟩) rfl rfl fun b503 => ?_
                  have hA504 : All2 (GoT.rep H496) [[.int .i64 3], [.int .i64 4]] ([3, 4] : List Int) := all2_enc (([3, 4] : List Int))
                  refine s_perm (own' := [.osl (.slice a11 y9.1.length c12) 2 26 (y9.1.map GoE.enc), .blk b15 (rowObj [.int .i64 0, .int .i64 0] 26), .osl (.slice (some ⟨b503, 0, none⟩) ([3, 4] : List Int).length 2) 1 3 [[.int .i64 3], [.int .i64 4]]] ++ fr497) (pm3 (a := [.osl (.slice a11 y9.1.length c12) 2 26 (y9.1.map GoE.enc), .blk b15 (rowObj [.int .i64 0, .int .i64 0] 26)]) (xs := [.osl (.slice (some ⟨b503, 0, none⟩) ([3, 4] : List Int).length 2) 1 3 [[.int .i64 3], [.int .i64 4]]])) ?_
                  refine s_frz 2 (fun b => .inl (by simp [ids])) rfl hA504 fun H506 hle507 hn508 hs509 => ?_
                  exact s_pred fun _ _ _ hE hI => ⟨(.slice (some ⟨b503, 0, none⟩) ([3, 4] : List Int).length 2), [], _, fun _ e => (by cases e; exact hE _ _ rfl), hle507, by exact hI, ⟨b503, rfl, rfl, hs509⟩⟩
                refine dcons ?_ ?_
                · intro _ _ H512 fr513 hle514 hd515
                  obtain ⟨hv517, hg518⟩ := hd515 17 (by decide)
                  obtain ⟨a519, c520, hv521, hg522, hp523⟩ := hd515 19 (by decide)
                  obtain ⟨b524, hv525, hg526, hp527⟩ := hd515 20 (by decide)
                  refine ⟨_, (catenaryref00_EqInts k y139 ([3, 4] : List Int)).bind some, by rw [h151]; rfl, fun _ => ?_⟩
                  refine s_env (env' := [(97, .bool p117), (99, .slice a519 y139.length c520), (100, .slice (some ⟨b524, 0, none⟩) ([3, 4] : List Int).length 2)]) (by exact ⟨congrArg some hv517, congrArg some hv521, congrArg some hv525, trivial⟩) ?_
                  refine s_want rfl rfl h138 ?_
                  refine s_bg fun y149 h528 => ?_
                  refine s_callF rfl rfl (catenaryref00_EqInts_ok k _ y139 _ _ hp523 ([3, 4] : List Int) _ _ hp527 h528) ?_
                  obtain rfl := Option.some.inj (h151.symm.trans h528)
                  exact s_pred fun _ _ _ hE hI => ⟨(.bool y149), [], _, fun _ e => (by cases e; exact hE _ _ rfl), .refl _, by exact hI, ⟨rfl, rfl⟩⟩
                refine dcons ?_ ?_
                · intro _ _ H531 fr532 hle533 hd534
                  obtain ⟨hv536, hg537⟩ := hd534 17 (by decide)
                  obtain ⟨hv538, hg539⟩ := hd534 21 (by decide)
                  refine ⟨_, some (), rfl, fun _ => ?_⟩
                  refine s_env (env' := [(97, .bool p117), (101, .bool y149)]) (by exact ⟨congrArg some hv536, congrArg some hv538, trivial⟩) ?_
                  refine o_pickT rfl h138 rfl ?_
                  exact s_pred fun _ _ _ hE hI => ⟨(.bool y149), [], _, fun _ e => (by cases e; exact hE _ _ rfl), .refl _, by exact hI, ⟨rfl, rfl⟩⟩
                refine dcons ?_ ?_
                · intro _ _ H542 fr543 hle544 hd545
                  obtain ⟨hv547, hg548⟩ := hd545 22 (by decide)
                  refine ⟨_, some (), rfl, fun _ => ?_⟩
                  refine s_env (env' := [(102, .bool y149)]) (by exact ⟨congrArg some hv547, trivial⟩) ?_
                  refine o_mov rfl ?_
                  exact s_pred fun _ _ _ hE hI => ⟨(.bool y149), [], _, fun _ e => (by cases e; exact hE _ _ rfl), .refl _, by exact hI, ⟨rfl, rfl⟩⟩
                refine dcons ?_ ?_
                · intro _ _ H551 fr552 hle553 hd554
                  have hA556 := All2.mono (fun _ _ => GoT.mono hle553) hA120
                  obtain ⟨hv557, hg558⟩ := hd554 23 (by decide)
                  refine ⟨_, some (), rfl, fun _ => ?_⟩
                  refine s_env (env' := [(103, .bool y149), (1, .slice a11 y9.1.length c12)]) (by exact ⟨congrArg some hv557, rfl, trivial⟩) ?_
                  refine s_want rfl rfl h152 ?_
                  refine o_mov rfl ?_
                  exact s_pred fun _ _ _ hE hI => ⟨(.slice a11 y9.1.length c12), [], _, fun _ e => (by cases e; exact hE _ _ rfl), .refl _, by exact hI, ⟨rfl, rfl⟩⟩
                refine dcons ?_ ?_
                · intro _ _ H561 fr562 hle563 hd564
                  have hA566 := All2.mono (fun _ _ => GoT.mono hle563) hA120
                  obtain ⟨hv567, hg568⟩ := hd564 23 (by decide)
                  obtain ⟨hv569, hg570⟩ := hd564 24 (by decide)
                  refine ⟨_, (tree_Below k y9.1 1).bind some, by rw [h159]; rfl, fun _ => ?_⟩
                  refine s_env (env' := [(103, .bool y149), (104, .slice a11 y9.1.length c12)]) (by exact ⟨congrArg some hv567, congrArg some hv569, trivial⟩) ?_
                  refine s_want rfl rfl h152 ?_
                  refine s_bg fun y153 h571 => ?_
                  refine s_callL (Φ := fun v out => ∃ a0 c0, v = .slice a0 y153.length c0 ∧ out = [.osl (.slice a0 y153.length c0) 1 3 (y153.map GoE.enc)]) [] _ rfl rfl (.refl _) (fun H' hle hl => tree_Below_ok k _ y9.1 _ _ (lent_rsl (hl _ (List.mem_of_getElem? (i := 0) rfl)) hA566 hle).2 1 h571) ?_
                  rintro _ _ ⟨a572, c573, rfl, rfl⟩
                  have hA575 : All2 (GoT.rep H561) (y153.map GoE.enc) y153 := all2_enc _
                  obtain rfl := Option.some.inj (h159.symm.trans h571)
                  refine s_perm (own' := [.osl (.slice a11 y9.1.length c12) 2 26 (y9.1.map GoE.enc), .blk b15 (rowObj [.int .i64 0, .int .i64 0] 26), .osl (.slice a572 y153.length c573) 1 3 (y153.map GoE.enc)] ++ fr562) (pm3 (a := [.osl (.slice a11 y9.1.length c12) 2 26 (y9.1.map GoE.enc), .blk b15 (rowObj [.int .i64 0, .int .i64 0] 26)]) (xs := [.osl (.slice a572 y153.length c573) 1 3 (y153.map GoE.enc)])) ?_
                  refine s_frz 2 (fun b => .inl (by simp [ids])) rfl hA575 fun H576 hle577 hn578 hs579 => ?_
                  have hA580 := All2.mono (fun _ _ => GoT.mono hle577) hA566
                  exact s_pred fun _ _ _ hE hI => ⟨(.slice a572 y153.length c573), [], _, fun _ e => (by cases e; exact hE _ _ rfl), hle577, by exact hI, ⟨a572, c573, rfl, rfl, hs579⟩⟩
                refine dcons ?_ ?_
                · intro _ _ H583 fr584 hle585 hd586
                  obtain ⟨hv588, hg589⟩ := hd586 23 (by decide)
                  refine ⟨_, some (), rfl, fun _ => ?_⟩
                  refine s_env (env' := [(103, .bool y149)]) (by exact ⟨congrArg some hv588, trivial⟩) ?_
                  refine s_want rfl rfl h152 ?_
                  refine o_bsl (xs := [.const (.int .i64 1), .const (.int .i64 2), .const (.int .i64 3), .const (.int .i64 4)]) rfl rfl (by simp only [List.mem_cons, List.not_mem_nil, or_false, forall_eq_or_imp, forall_eq]; exact ⟨⟨rfl, rfl⟩, ⟨rfl, rfl⟩, ⟨rfl, rfl⟩, ⟨rfl, rfl⟩⟩) rfl rfl fun b590 => ?_
                  have hA591 : All2 (GoT.rep H583) [[.int .i64 1], [.int .i64 2], [.int .i64 3], [.int .i64 4]] ([1, 2, 3, 4] : List Int) := all2_enc (([1, 2, 3, 4] : List Int))
                  refine s_perm (own' := [.osl (.slice a11 y9.1.length c12) 2 26 (y9.1.map GoE.enc), .blk b15 (rowObj [.int .i64 0, .int .i64 0] 26), .osl (.slice (some ⟨b590, 0, none⟩) ([1, 2, 3, 4] : List Int).length 4) 1 3 [[.int .i64 1], [.int .i64 2], [.int .i64 3], [.int .i64 4]]] ++ fr584) (pm3 (a := [.osl (.slice a11 y9.1.length c12) 2 26 (y9.1.map GoE.enc), .blk b15 (rowObj [.int .i64 0, .int .i64 0] 26)]) (xs := [.osl (.slice (some ⟨b590, 0, none⟩) ([1, 2, 3, 4] : List Int).length 4) 1 3 [[.int .i64 1], [.int .i64 2], [.int .i64 3], [.int .i64 4]]])) ?_
                  refine s_frz 2 (fun b => .inl (by simp [ids])) rfl hA591 fun H593 hle594 hn595 hs596 => ?_
                  exact s_pred fun _ _ _ hE hI => ⟨(.slice (some ⟨b590, 0, none⟩) ([1, 2, 3, 4] : List Int).length 4), [], _, fun _ e => (by cases e; exact hE _ _ rfl), hle594, by exact hI, ⟨b590, rfl, rfl, hs596⟩⟩
                refine dcons ?_ ?_
                · intro _ _ H599 fr600 hle601 hd602
                  obtain ⟨hv604, hg605⟩ := hd602 23 (by decide)
                  obtain ⟨a606, c607, hv608, hg609, hp610⟩ := hd602 25 (by decide)
                  obtain ⟨b611, hv612, hg613, hp614⟩ := hd602 26 (by decide)
                  refine ⟨_, (catenaryref00_EqInts k y153 ([1, 2, 3, 4] : List Int)).bind some, by rw [h165]; rfl, fun _ => ?_⟩
                  refine s_env (env' := [(103, .bool y149), (105, .slice a606 y153.length c607), (106, .slice (some ⟨b611, 0, none⟩) ([1, 2, 3, 4] : List Int).length 4)]) (by exact ⟨congrArg some hv604, congrArg some hv608, congrArg some hv612, trivial⟩) ?_
                  refine s_want rfl rfl h152 ?_
                  refine s_bg fun y163 h615 => ?_
                  refine s_callF rfl rfl (catenaryref00_EqInts_ok k _ y153 _ _ hp610 ([1, 2, 3, 4] : List Int) _ _ hp614 h615) ?_
                  obtain rfl := Option.some.inj (h165.symm.trans h615)
                  exact s_pred fun _ _ _ hE hI => ⟨(.bool y163), [], _, fun _ e => (by cases e; exact hE _ _ rfl), .refl _, by exact hI, ⟨rfl, rfl⟩⟩
                refine dcons ?_ ?_
                · intro _ _ H618 fr619 hle620 hd621
                  obtain ⟨hv623, hg624⟩ := hd621 23 (by decide)
                  obtain ⟨hv625, hg626⟩ := hd621 27 (by decide)
                  refine ⟨_, some (), rfl, fun _ => ?_⟩
                  refine s_env (env' := [(103, .bool y149), (107, .bool y163)]) (by exact ⟨congrArg some hv623, congrArg some hv625, trivial⟩) ?_
                  refine o_pickT rfl h152 rfl ?_
                  exact s_pred fun _ _ _ hE hI => ⟨(.bool y163), [], _, fun _ e => (by cases e; exact hE _ _ rfl), .refl _, by exact hI, ⟨rfl, rfl⟩⟩
                refine dcons ?_ ?_
                · intro _ _ H629 fr630 hle631 hd632
                  obtain ⟨hv634, hg635⟩ := hd632 28 (by decide)
                  refine ⟨_, some (), rfl, fun _ => ?_⟩
                  refine s_env (env' := [(108, .bool y163)]) (by exact ⟨congrArg some hv634, trivial⟩) ?_
                  refine o_mov rfl ?_
                  exact s_pred fun _ _ _ hE hI => ⟨(.bool y163), [], _, fun _ e => (by cases e; exact hE _ _ rfl), .refl _, by exact hI, ⟨rfl, rfl⟩⟩
                refine dcons ?_ ?_
                · intro _ _ H638 fr639 hle640 hd641
                  obtain ⟨hv643, hg644⟩ := hd641 29 (by decide)
                  refine ⟨_, (tree_Below k ([]) 7).bind some, by rw [h181]; rfl, fun _ => ?_⟩
                  refine s_env (env' := [(109, .bool y163)]) (by exact ⟨congrArg some hv643, trivial⟩) ?_
                  refine s_want rfl rfl h166 ?_
                  refine s_bg fun y167 h645 => ?_
                  refine s_call [] _ rfl rfl (.refl _) (tree_Below_ok k _ ([]) _ _ rsl_nil 7 h645) ?_
                  rintro _ H649 _ hle650 ⟨a646, c647, rfl, rfl⟩
                  have hA651 : All2 (GoT.rep H649) (y167.map GoE.enc) y167 := all2_enc _
                  obtain rfl := Option.some.inj (h181.symm.trans h645)
                  refine s_perm (own' := [.osl (.slice a11 y9.1.length c12) 2 26 (y9.1.map GoE.enc), .blk b15 (rowObj [.int .i64 0, .int .i64 0] 26), .osl (.slice a646 y167.length c647) 1 3 (y167.map GoE.enc)] ++ fr639) (pm3 (a := [.osl (.slice a11 y9.1.length c12) 2 26 (y9.1.map GoE.enc), .blk b15 (rowObj [.int .i64 0, .int .i64 0] 26)]) (xs := [.osl (.slice a646 y167.length c647) 1 3 (y167.map GoE.enc)])) ?_
                  refine s_frz 2 (fun b => .inl (by simp [ids])) rfl hA651 fun H652 hle653 hn654 hs655 => ?_
                  exact s_pred fun _ _ _ hE hI => ⟨(.slice a646 y167.length c647), [], _, fun _ e => (by cases e; exact hE _ _ rfl), (Hle.trans hle650 hle653), by exact hI, ⟨a646, c647, rfl, rfl, hs655⟩⟩
                refine dcons ?_ ?_
                · intro _ _ H658 fr659 hle660 hd661
                  obtain ⟨hv663, hg664⟩ := hd661 29 (by decide)
                  obtain ⟨a665, c666, hv667, hg668, hp669⟩ := hd661 30 (by decide)
                  refine ⟨_, some (), rfl, fun _ => ?_⟩
                  refine s_env (env' := [(109, .bool y163), (110, .slice a665 y167.length c666)]) (by exact ⟨congrArg some hv663, congrArg some hv667, trivial⟩) ?_
                  refine s_want rfl rfl h166 ?_
                  refine o_lenS rfl ?_
                  exact s_pred fun _ _ _ hE hI => ⟨(.int .i64 (y167.length : Int)), [], _, fun _ e => (by cases e; exact hE _ _ rfl), .refl _, by exact hI, ⟨rfl, rfl⟩⟩
                refine dcons ?_ ?_
                · intro _ _ H672 fr673 hle674 hd675
                  obtain ⟨hv677, hg678⟩ := hd675 29 (by decide)
                  obtain ⟨hv679, hg680⟩ := hd675 31 (by decide)
                  refine ⟨_, some (), rfl, fun _ => ?_⟩
                  refine s_env (env' := [(109, .bool y163), (111, .int .i64 (y167.length : Int))]) (by exact ⟨congrArg some hv677, congrArg some hv679, trivial⟩) ?_
                  refine s_want rfl rfl h166 ?_
                  refine o_eq rfl rfl ?_
                  exact s_pred fun _ _ _ hE hI => ⟨(.bool ((y167.length : Int) == 0)), [], _, fun _ e => (by cases e; exact hE _ _ rfl), .refl _, by exact hI, ⟨rfl, rfl⟩⟩
                refine dcons ?_ ?_
                · intro _ _ H683 fr684 hle685 hd686
                  obtain ⟨hv688, hg689⟩ := hd686 29 (by decide)
                  obtain ⟨hv690, hg691⟩ := hd686 32 (by decide)
                  refine ⟨_, some (), rfl, fun _ => ?_⟩
                  refine s_env (env' := [(109, .bool y163), (112, .bool ((y167.length : Int) == 0))]) (by exact ⟨congrArg some hv688, congrArg some hv690, trivial⟩) ?_
                  refine o_pickT rfl h166 rfl ?_
                  exact s_pred fun _ _ _ hE hI => ⟨(.bool ((y167.length : Int) == 0)), [], _, fun _ e => (by cases e; exact hE _ _ rfl), .refl _, by exact hI, ⟨rfl, rfl⟩⟩
                exact dnil
              · intro V694 G695 H692 hle693 hF696
                have hA697 := All2.mono (fun _ _ => GoT.mono hle693) hA120
                obtain ⟨hv698, hg699⟩ := hF696 33 (show 33 < 34 by decide)
                refine s_env (env' := [(113, .bool ((y167.length : Int) == 0)), (1, .slice a11 y9.1.length c12), (2, .int .i64 y9.2), (3, .pointer (some ⟨b15, 0, none⟩)), (14, .bool p117)]) (by exact ⟨congrArg some hv698, rfl, rfl, rfl, rfl, trivial⟩) ?_
                refine s_own (List.sublist_append_left _ _) ?_
                refine o_asg rfl ?_
                refine s_done ?_
                exact s_retv (xs := [.tmp 0]) (vs := [.bool ((y167.length : Int) == 0)]) [] fn_43 rfl ⟨rv_tmp rfl, trivial⟩ (.cons _ (.cons _ .slnil)) ⟨rfl, rfl⟩
            · refine s_drawL [(fun H v g => v = Value.int .i64 y9.2 ∧ g = []),
      (fun H v g => v = Value.bool (y9.2 == 0) ∧ g = []),
      (fun H v g => v = Value.bool (y9.2 == 0) ∧ g = []),
      (fun H v g => v = Value.slice a11 y9.1.length c12 ∧ g = []),
      (fun H v g => v = Value.agg #[.int .i64 0, .int .i64 0] ∧ g = []),
      (fun H v g => v = Value.agg #[.int .i64 0, .int .i64 0] ∧ g = []),
      (fun H v g => v = Value.agg #[.int .i64 y122.Switch, .int .i64 y122.Port] ∧ g = []),
      (fun H v g => v = Value.agg #[.int .i64 y125.Switch, .int .i64 y125.Port] ∧ g = []),
      (fun H v g => v = Value.agg #[.int .i64 y128.Switch, .int .i64 y128.Port] ∧ g = []),
      (fun H v g => v = Value.agg #[.int .i64 0, .int .i64 0] ∧ g = []),
      (fun H v g => v = Value.agg #[.int .i64 0, .int .i64 0] ∧ g = []),
      (fun H v g => ∃ b703, v = Value.slice (some ⟨b703, 0, none⟩) ([(⟨0, 0⟩ : End), (⟨0, 0⟩ : End), y122, y125, y128, (⟨0, 0⟩ : End), (⟨0, 0⟩ : End)] : List End).length 7 ∧ g = [] ∧ RSl H (some ⟨b703, 0, none⟩) 7 ([(⟨0, 0⟩ : End), (⟨0, 0⟩ : End), y122, y125, y128, (⟨0, 0⟩ : End), (⟨0, 0⟩ : End)] : List End)),
      (fun H v g => v = Value.bool y134 ∧ g = []),
      (fun H v g => v = Value.bool y134 ∧ g = []),
      (fun H v g => v = Value.bool y134 ∧ g = []),
      (fun H v g => v = Value.bool p117 ∧ g = []),
      (fun H v g => v = Value.bool p117 ∧ g = []),
      (fun H v g => v = Value.bool p117 ∧ g = []),
      (fun H v g => v = Value.slice a11 y9.1.length c12 ∧ g = []),
      (fun H v g => ∃ a713 c714, v = Value.slice a713 y139.length c714 ∧ g = [] ∧ RSl H a713 c714 y139),
      (fun H v g => ∃ b723, v = Value.slice (some ⟨b723, 0, none⟩) ([3, 4] : List Int).length 2 ∧ g = [] ∧ RSl H (some ⟨b723, 0, none⟩) 2 ([3, 4] : List Int)),
      (fun H v g => v = Value.bool y149 ∧ g = []),
      (fun H v g => v = Value.bool y149 ∧ g = []),
      (fun H v g => v = Value.bool y149 ∧ g = []),
      (fun H v g => v = Value.slice a11 y9.1.length c12 ∧ g = []),
      (fun H v g => ∃ a735 c736, v = Value.slice a735 y153.length c736 ∧ g = [] ∧ RSl H a735 c736 y153),
      (fun H v g => ∃ b747, v = Value.slice (some ⟨b747, 0, none⟩) ([1, 2, 3, 4] : List Int).length 4 ∧ g = [] ∧ RSl H (some ⟨b747, 0, none⟩) 4 ([1, 2, 3, 4] : List Int)),
      (fun H v g => v = Value.bool y163 ∧ g = []),
      (fun H v g => v = Value.bool y163 ∧ g = []),
      (fun H v g => v = Value.bool y163 ∧ g = []),
      uF,
      uF,
      uF,
      (fun H v g => v = Value.bool false ∧ g = [])] [[], [], [], [], [], [], [], [], [], [], [], [], [], [], [], [], [], [], [], [], [], [], [], [], [], [], [], [], [], [], [], [], [], []] mixed ⟨m0, m0, m0, m0, m0, m0, m0, m0, m0, m0, m0, fun _ _ _ _ hle ⟨b703, e1, e2, h0_⟩ => ⟨_, e1, e2, RSl.mono hle h0_⟩, m0, m0, m0, m0, m0, m0, m0, fun _ _ _ _ hle ⟨a713, c714, e1, e2, h0_⟩ => ⟨_, _, e1, e2, RSl.mono hle h0_⟩, fun _ _ _ _ hle ⟨b723, e1, e2, h0_⟩ => ⟨_, e1, e2, RSl.mono hle h0_⟩, m0, m0, m0, m0, fun _ _ _ _ hle ⟨a735, c736, e1, e2, h0_⟩ => ⟨_, _, e1, e2, RSl.mono hle h0_⟩, fun _ _ _ _ hle ⟨b747, e1, e2, h0_⟩ => ⟨_, e1, e2, RSl.mono hle h0_⟩, m0, m0, m0, m0, m0, m0, m0, trivial⟩ (by kernel_rfl) (by kernel_rfl) rfl (by kernel_rfl) rfl rfl ?_ ?_
              · refine dcons ?_ ?_
                · intro _ _ H762 fr763 hle764 hd765
                  refine ⟨_, some (), rfl, fun _ => ?_⟩
                  refine s_env (env' := [(2, .int .i64 y9.2)]) (by exact ⟨rfl, trivial⟩) ?_
                  refine o_mov rfl ?_
                  exact s_pred fun _ _ _ hE hI => ⟨(.int .i64 y9.2), [], _, fun _ e => (by cases e; exact hE _ _ rfl), .refl _, by exact hI, ⟨rfl, rfl⟩⟩
                refine dcons ?_ ?_
                · intro _ _ H769 fr770 hle771 hd772
                  obtain ⟨hv774, hg775⟩ := hd772 0 (by decide)
                  refine ⟨_, some (), rfl, fun _ => ?_⟩
                  refine s_env (env' := [(80, .int .i64 y9.2)]) (by exact ⟨congrArg some hv774, trivial⟩) ?_
                  refine o_eq rfl rfl ?_
                  exact s_pred fun _ _ _ hE hI => ⟨(.bool (y9.2 == 0)), [], _, fun _ e => (by cases e; exact hE _ _ rfl), .refl _, by exact hI, ⟨rfl, rfl⟩⟩
                refine dcons ?_ ?_
                · intro _ _ H778 fr779 hle780 hd781
                  obtain ⟨hv783, hg784⟩ := hd781 1 (by decide)
                  refine ⟨_, some (), rfl, fun _ => ?_⟩
                  refine s_env (env' := [(81, .bool (y9.2 == 0))]) (by exact ⟨congrArg some hv783, trivial⟩) ?_
                  refine o_mov rfl ?_
                  exact s_pred fun _ _ _ hE hI => ⟨(.bool (y9.2 == 0)), [], _, fun _ e => (by cases e; exact hE _ _ rfl), .refl _, by exact hI, ⟨rfl, rfl⟩⟩
                refine dcons ?_ ?_
                · intro _ _ H787 fr788 hle789 hd790
                  have hA792 := All2.mono (fun _ _ => GoT.mono hle789) hA120
                  obtain ⟨hv793, hg794⟩ := hd790 2 (by decide)
                  refine ⟨_, some (), rfl, fun _ => ?_⟩
                  refine s_env (env' := [(82, .bool (y9.2 == 0)), (1, .slice a11 y9.1.length c12)]) (by exact ⟨congrArg some hv793, rfl, trivial⟩) ?_
                  refine s_want rfl rfl h121 ?_
                  refine o_mov rfl ?_
                  exact s_pred fun _ _ _ hE hI => ⟨(.slice a11 y9.1.length c12), [], _, fun _ e => (by cases e; exact hE _ _ rfl), .refl _, by exact hI, ⟨rfl, rfl⟩⟩
                refine dcons ?_ ?_
                · intro _ _ H797 fr798 hle799 hd800
                  obtain ⟨hv802, hg803⟩ := hd800 2 (by decide)
                  refine ⟨_, some (), rfl, fun _ => ?_⟩
                  refine s_env (env' := [(82, .bool (y9.2 == 0)), (3, .pointer (some ⟨b15, 0, none⟩))]) (by exact ⟨congrArg some hv802, rfl, trivial⟩) ?_
                  refine s_want rfl rfl h121 ?_
                  refine o_ld 1 rfl rfl rfl ?_
                  exact s_pred fun _ _ _ hE hI => ⟨(.agg #[.int .i64 0, .int .i64 0]), [], _, fun _ e => (by cases e; exact hE _ _ rfl), .refl _, by exact hI, ⟨rfl, rfl⟩⟩
                refine dcons ?_ ?_
                · intro _ _ H806 fr807 hle808 hd809
                  obtain ⟨hv811, hg812⟩ := hd809 2 (by decide)
                  refine ⟨_, some (), rfl, fun _ => ?_⟩
                  refine s_env (env' := [(82, .bool (y9.2 == 0)), (3, .pointer (some ⟨b15, 0, none⟩))]) (by exact ⟨congrArg some hv811, rfl, trivial⟩) ?_
                  refine s_want rfl rfl h121 ?_
                  refine o_ld 1 rfl rfl rfl ?_
                  exact s_pred fun _ _ _ hE hI => ⟨(.agg #[.int .i64 0, .int .i64 0]), [], _, fun _ e => (by cases e; exact hE _ _ rfl), .refl _, by exact hI, ⟨rfl, rfl⟩⟩
                refine dcons ?_ ?_
                · intro _ _ H815 fr816 hle817 hd818
                  obtain ⟨hv820, hg821⟩ := hd818 2 (by decide)
                  refine ⟨_, (catenarylaw20_at k 1 1).bind some, by rw [h124]; rfl, fun _ => ?_⟩
                  refine s_env (env' := [(82, .bool (y9.2 == 0))]) (by exact ⟨congrArg some hv820, trivial⟩) ?_
                  refine s_want rfl rfl h121 ?_
                  refine s_bg fun y122 h822 => ?_
                  refine s_callF rfl rfl (catenarylaw20_at_ok k _ 1 1 h822) ?_
                  obtain rfl := Option.some.inj (h124.symm.trans h822)
                  exact s_pred fun _ _ _ hE hI => ⟨(.agg #[.int .i64 y122.Switch, .int .i64 y122.Port]), [], _, fun _ e => (by cases e; exact hE _ _ rfl), .refl _, by exact hI, ⟨rfl, rfl⟩⟩
                refine dcons ?_ ?_
                · intro _ _ H825 fr826 hle827 hd828
                  obtain ⟨hv830, hg831⟩ := hd828 2 (by decide)
                  refine ⟨_, (catenarylaw20_at k 1 2).bind some, by rw [h127]; rfl, fun _ => ?_⟩
                  refine s_env (env' := [(82, .bool (y9.2 == 0))]) (by exact ⟨congrArg some hv830, trivial⟩) ?_
                  refine s_want rfl rfl h121 ?_
                  refine s_bg fun y125 h832 => ?_
                  refine s_callF rfl rfl (catenarylaw20_at_ok k _ 1 2 h832) ?_
                  obtain rfl := Option.some.inj (h127.symm.trans h832)
                  exact s_pred fun _ _ _ hE hI => ⟨(.agg #[.int .i64 y125.Switch, .int .i64 y125.Port]), [], _, fun _ e => (by cases e; exact hE _ _ rfl), .refl _, by exact hI, ⟨rfl, rfl⟩⟩
                refine dcons ?_ ?_
                · intro _ _ H835 fr836 hle837 hd838
                  obtain ⟨hv840, hg841⟩ := hd838 2 (by decide)
                  refine ⟨_, (catenarylaw20_at k 3 3).bind some, by rw [h130]; rfl, fun _ => ?_⟩
                  refine s_env (env' := [(82, .bool (y9.2 == 0))]) (by exact ⟨congrArg some hv840, trivial⟩) ?_
                  refine s_want rfl rfl h121 ?_
                  refine s_bg fun y128 h842 => ?_
                  refine s_callF rfl rfl (catenarylaw20_at_ok k _ 3 3 h842) ?_
                  obtain rfl := Option.some.inj (h130.symm.trans h842)
                  exact s_pred fun _ _ _ hE hI => ⟨(.agg #[.int .i64 y128.Switch, .int .i64 y128.Port]), [], _, fun _ e => (by cases e; exact hE _ _ rfl), .refl _, by exact hI, ⟨rfl, rfl⟩⟩
                refine dcons ?_ ?_
                · intro _ _ H845 fr846 hle847 hd848
                  obtain ⟨hv850, hg851⟩ := hd848 2 (by decide)
                  refine ⟨_, some (), rfl, fun _ => ?_⟩
                  refine s_env (env' := [(82, .bool (y9.2 == 0)), (3, .pointer (some ⟨b15, 0, none⟩))]) (by exact ⟨congrArg some hv850, rfl, trivial⟩) ?_
                  refine s_want rfl rfl h121 ?_
                  refine o_ld 1 rfl rfl rfl ?_
                  exact s_pred fun _ _ _ hE hI => ⟨(.agg #[.int .i64 0, .int .i64 0]), [], _, fun _ e => (by cases e; exact hE _ _ rfl), .refl _, by exact hI, ⟨rfl, rfl⟩⟩
                refine dcons ?_ ?_
                · intro _ _ H854 fr855 hle856 hd857
                  obtain ⟨hv859, hg860⟩ := hd857 2 (by decide)
                  refine ⟨_, some (), rfl, fun _ => ?_⟩
                  refine s_env (env' := [(82, .bool (y9.2 == 0)), (3, .pointer (some ⟨b15, 0, none⟩))]) (by exact ⟨congrArg some hv859, rfl, trivial⟩) ?_
                  refine s_want rfl rfl h121 ?_
                  refine o_ld 1 rfl rfl rfl ?_
                  exact s_pred fun _ _ _ hE hI => ⟨(.agg #[.int .i64 0, .int .i64 0]), [], _, fun _ e => (by cases e; exact hE _ _ rfl), .refl _, by exact hI, ⟨rfl, rfl⟩⟩
                refine dcons ?_ ?_
                · intro _ _ H863 fr864 hle865 hd866
                  obtain ⟨hv868, hg869⟩ := hd866 2 (by decide)
                  obtain ⟨hv870, hg871⟩ := hd866 4 (by decide)
                  obtain ⟨hv872, hg873⟩ := hd866 5 (by decide)
                  obtain ⟨hv874, hg875⟩ := hd866 6 (by decide)
                  obtain ⟨hv876, hg877⟩ := hd866 7 (by decide)
                  obtain ⟨hv878, hg879⟩ := hd866 8 (by decide)
                  obtain ⟨hv880, hg881⟩ := hd866 9 (by decide)
                  obtain ⟨hv882, hg883⟩ := hd866 10 (by decide)
                  refine ⟨_, some (), rfl, fun _ => ?_⟩
                  refine s_env (env' := [(82, .bool (y9.2 == 0)), (84, .agg #[.int .i64 0, .int .i64 0]), (85, .agg #[.int .i64 0, .int .i64 0]), (86, .agg #[.int .i64 y122.Switch, .int .i64 y122.Port]), (87, .agg #[.int .i64 y125.Switch, .int .i64 y125.Port]), (88, .agg #[.int .i64 y128.Switch, .int .i64 y128.Port]), (89, .agg #[.int .i64 0, .int .i64 0]), (90, .agg #[.int .i64 0, .int .i64 0])]) (by exact ⟨congrArg some hv868, congrArg some hv870, congrArg some hv872, congrArg some hv874, congrArg some hv876, congrArg some hv878, congrArg some hv880, congrArg some hv882, trivial⟩) ?_
                  refine s_want rfl rfl h121 ?_
                  refine o_bsl (xs := [.tmp 84, .tmp 85, .tmp 86, .tmp 87, .tmp 88, .tmp 89, .tmp 90]) rfl rfl (by simp only [List.mem_cons, List.not_mem_nil, or_false, forall_eq_or_imp, forall_eq]; exact ⟨⟨rfl, rfl⟩, ⟨rfl, rfl⟩, ⟨rfl, rfl⟩, ⟨rfl, rfl⟩, ⟨rfl, rfl⟩, ⟨rfl, rfl⟩, ⟨rfl, rfl⟩⟩) rfl rfl fun b884 => ?_
                  have hA885 : All2 (GoT.rep H863) [[.int .i64 0, .int .i64 0], [.int .i64 0, .int .i64 0], [.int .i64 y122.Switch, .int .i64 y122.Port], [.int .i64 y125.Switch, .int .i64 y125.Port], [.int .i64 y128.Switch, .int .i64 y128.Port], [.int .i64 0, .int .i64 0], [.int .i64 0, .int .i64 0]] ([(⟨0, 0⟩ : End), (⟨0, 0⟩ : End), y122, y125, y128, (⟨0, 0⟩ : End), (⟨0, 0⟩ : End)] : List End) := all2_enc (([(⟨0, 0⟩ : End), (⟨0, 0⟩ : End), y122, y125, y128, (⟨0, 0⟩ : End), (⟨0, 0⟩ : End)] : List End))
                  refine s_perm (own' := [.osl (.slice a11 y9.1.length c12) 2 26 (y9.1.map GoE.enc), .blk b15 (rowObj [.int .i64 0, .int .i64 0] 26), .osl (.slice (some ⟨b884, 0, none⟩) ([(⟨0, 0⟩ : End), (⟨0, 0⟩ : End), y122, y125, y128, (⟨0, 0⟩ : End), (⟨0, 0⟩ : End)] : List End).length 7) 2 26 [[.int .i64 0, .int .i64 0], [.int .i64 0, .int .i64 0], [.int .i64 y122.Switch, .int .i64 y122.Port], [.int .i64 y125.Switch, .int .i64 y125.Port], [.int .i64 y128.Switch, .int .i64 y128.Port], [.int .i64 0, .int .i64 0], [.int .i64 0, .int .i64 0]]] ++ fr864) (pm3 (a := [.osl (.slice a11 y9.1.length c12) 2 26 (y9.1.map GoE.enc), .blk b15 (rowObj [.int .i64 0, .int .i64 0] 26)]) (xs := [.osl (.slice (some ⟨b884, 0, none⟩) ([(⟨0, 0⟩ : End), (⟨0, 0⟩ : End), y122, y125, y128, (⟨0, 0⟩ : End), (⟨0, 0⟩ : End)] : List End).length 7) 2 26 [[.int .i64 0, .int .i64 0], [.int .i64 0, .int .i64 0], [.int .i64 y122.Switch, .int .i64 y122.Port], [.int .i64 y125.Switch, .int .i64 y125.Port], [.int .i64 y128.Switch, .int .i64 y128.Port], [.int .i64 0, .int .i64 0], [.int .i64 0, .int .i64 0]]])) ?_
                  refine s_frz 2 (fun b => .inl (by simp [ids])) rfl hA885 fun H887 hle888 hn889 hs890 => ?_
                  exact s_pred fun _ _ _ hE hI => ⟨(.slice (some ⟨b884, 0, none⟩) ([(⟨0, 0⟩ : End), (⟨0, 0⟩ : End), y122, y125, y128, (⟨0, 0⟩ : End), (⟨0, 0⟩ : End)] : List End).length 7), [], _, fun _ e => (by cases e; exact hE _ _ rfl), hle888, by exact hI, ⟨b884, rfl, rfl, hs890⟩⟩
                refine dcons ?_ ?_
                · intro _ _ H893 fr894 hle895 hd896
                  have hA898 := All2.mono (fun _ _ => GoT.mono hle895) hA120
                  obtain ⟨hv899, hg900⟩ := hd896 2 (by decide)
                  obtain ⟨hv901, hg902⟩ := hd896 3 (by decide)
                  obtain ⟨b903, hv904, hg905, hp906⟩ := hd896 11 (by decide)
                  refine ⟨_, (catenarylaw20_eq k y9.1 ([(⟨0, 0⟩ : End), (⟨0, 0⟩ : End), y122, y125, y128, (⟨0, 0⟩ : End), (⟨0, 0⟩ : End)] : List End)).bind some, by rw [h136]; rfl, fun _ => ?_⟩
                  refine s_env (env' := [(82, .bool (y9.2 == 0)), (83, .slice a11 y9.1.length c12), (91, .slice (some ⟨b903, 0, none⟩) ([(⟨0, 0⟩ : End), (⟨0, 0⟩ : End), y122, y125, y128, (⟨0, 0⟩ : End), (⟨0, 0⟩ : End)] : List End).length 7)]) (by exact ⟨congrArg some hv899, congrArg some hv901, congrArg some hv904, trivial⟩) ?_
                  refine s_want rfl rfl h121 ?_
                  refine s_bg fun y134 h907 => ?_
                  refine s_callL (Φ := fun v out => v = _ ∧ out = []) [] _ rfl rfl (.refl _) (fun H' hle hl => catenarylaw20_eq_ok k _ y9.1 _ _ (lent_rsl (hl _ (List.mem_of_getElem? (i := 0) rfl)) hA898 hle).2 ([(⟨0, 0⟩ : End), (⟨0, 0⟩ : End), y122, y125, y128, (⟨0, 0⟩ : End), (⟨0, 0⟩ : End)] : List End) _ _ (RSl.mono hle hp906) h907) ?_
                  rintro _ _ ⟨rfl, rfl⟩
                  refine s_ownN ?_
                  obtain rfl := Option.some.inj (h136.symm.trans h907)
                  exact s_pred fun _ _ _ hE hI => ⟨(.bool y134), [], _, fun _ e => (by cases e; exact hE _ _ rfl), .refl _, by exact hI, ⟨rfl, rfl⟩⟩
                refine dcons ?_ ?_
                · intro _ _ H910 fr911 hle912 hd913
                  obtain ⟨hv915, hg916⟩ := hd913 2 (by decide)
                  obtain ⟨hv917, hg918⟩ := hd913 12 (by decide)
                  refine ⟨_, some (), rfl, fun _ => ?_⟩
                  refine s_env (env' := [(82, .bool (y9.2 == 0)), (92, .bool y134)]) (by exact ⟨congrArg some hv915, congrArg some hv917, trivial⟩) ?_
                  refine o_pickT rfl h121 rfl ?_
                  exact s_pred fun _ _ _ hE hI => ⟨(.bool y134), [], _, fun _ e => (by cases e; exact hE _ _ rfl), .refl _, by exact hI, ⟨rfl, rfl⟩⟩
                refine dcons ?_ ?_
                · intro _ _ H921 fr922 hle923 hd924
                  obtain ⟨hv926, hg927⟩ := hd924 13 (by decide)
                  refine ⟨_, some (), rfl, fun _ => ?_⟩
                  refine s_env (env' := [(93, .bool y134)]) (by exact ⟨congrArg some hv926, trivial⟩) ?_
                  refine o_mov rfl ?_
                  exact s_pred fun _ _ _ hE hI => ⟨(.bool y134), [], _, fun _ e => (by cases e; exact hE _ _ rfl), .refl _, by exact hI, ⟨rfl, rfl⟩⟩
                refine dcons ?_ ?_
                · intro _ _ H930 fr931 hle932 hd933
                  obtain ⟨hv935, hg936⟩ := hd933 14 (by decide)
                  refine ⟨_, some (), rfl, fun _ => ?_⟩
                  refine s_env (env' := [(94, .bool y134), (14, .bool p117)]) (by exact ⟨congrArg some hv935, rfl, trivial⟩) ?_
                  refine s_want rfl rfl h137 ?_
                  refine o_mov rfl ?_
                  exact s_pred fun _ _ _ hE hI => ⟨(.bool p117), [], _, fun _ e => (by cases e; exact hE _ _ rfl), .refl _, by exact hI, ⟨rfl, rfl⟩⟩
                refine dcons ?_ ?_
                · intro _ _ H939 fr940 hle941 hd942
                  obtain ⟨hv944, hg945⟩ := hd942 14 (by decide)
                  obtain ⟨hv946, hg947⟩ := hd942 15 (by decide)
                  refine ⟨_, some (), rfl, fun _ => ?_⟩
                  refine s_env (env' := [(94, .bool y134), (95, .bool p117)]) (by exact ⟨congrArg some hv944, congrArg some hv946, trivial⟩) ?_
                  refine o_pickT rfl h137 rfl ?_
                  exact s_pred fun _ _ _ hE hI => ⟨(.bool p117), [], _, fun _ e => (by cases e; exact hE _ _ rfl), .refl _, by exact hI, ⟨rfl, rfl⟩⟩
                refine dcons ?_ ?_
                · intro _ _ H950 fr951 hle952 hd953
                  obtain ⟨hv955, hg956⟩ := hd953 16 (by decide)
                  refine ⟨_, some (), rfl, fun _ => ?_⟩
                  refine s_env (env' := [(96, .bool p117)]) (by exact ⟨congrArg some hv955, trivial⟩) ?_
                  refine o_mov rfl ?_
                  exact s_pred fun _ _ _ hE hI => ⟨(.bool p117), [], _, fun _ e => (by cases e; exact hE _ _ rfl), .refl _, by exact hI, ⟨rfl, rfl⟩⟩
                refine dcons ?_ ?_
                · intro _ _ H959 fr960 hle961 hd962
                  have hA964 := All2.mono (fun _ _ => GoT.mono hle961) hA120
                  obtain ⟨hv965, hg966⟩ := hd962 17 (by decide)
                  refine ⟨_, some (), rfl, fun _ => ?_⟩
                  refine s_env (env' := [(97, .bool p117), (1, .slice a11 y9.1.length c12)]) (by exact ⟨congrArg some hv965, rfl, trivial⟩) ?_
                  refine s_want rfl rfl h138 ?_
                  refine o_mov rfl ?_
                  exact s_pred fun _ _ _ hE hI => ⟨(.slice a11 y9.1.length c12), [], _, fun _ e => (by cases e; exact hE _ _ rfl), .refl _, by exact hI, ⟨rfl, rfl⟩⟩
                refine dcons ?_ ?_
                · intro _ _ H969 fr970 hle971 hd972
                  have hA974 := All2.mono (fun _ _ => GoT.mono hle971) hA120
                  obtain ⟨hv975, hg976⟩ := hd972 17 (by decide)
                  obtain ⟨hv977, hg978⟩ := hd972 18 (by decide)
                  refine ⟨_, (tree_Below k y9.1 3).bind some, by rw [h145]; rfl, fun _ => ?_⟩
                  refine s_env (env' := [(97, .bool p117), (98, .slice a11 y9.1.length c12)]) (by exact ⟨congrArg some hv975, congrArg some hv977, trivial⟩) ?_
                  refine s_want rfl rfl h138 ?_
                  refine s_bg fun y139 h979 => ?_
                  refine s_callL (Φ := fun v out => ∃ a0 c0, v = .slice a0 y139.length c0 ∧ out = [.osl (.slice a0 y139.length c0) 1 3 (y139.map GoE.enc)]) [] _ rfl rfl (.refl _) (fun H' hle hl => tree_Below_ok k _ y9.1 _ _ (lent_rsl (hl _ (List.mem_of_getElem? (i := 0) rfl)) hA974 hle).2 3 h979) ?_
                  rintro _ _ ⟨a980, c981, rfl, rfl⟩
                  have hA983 : All2 (GoT.rep H969) (y139.map GoE.enc) y139 := all2_enc _
                  obtain rfl := Option.some.inj (h145.symm.trans h979)
                  refine s_perm (own' := [.osl (.slice a11 y9.1.length c12) 2 26 (y9.1.map GoE.enc), .blk b15 (rowObj [.int .i64 0, .int .i64 0] 26), .osl (.slice a980 y139.length c981) 1 3 (y139.map GoE.enc)] ++ fr970) (pm3 (a := [.osl (.slice a11 y9.1.length c12) 2 26 (y9.1.map GoE.enc), .blk b15 (rowObj [.int .i64 0, .int .i64 0] 26)]) (xs := [.osl (.slice a980 y139.length c981) 1 3 (y139.map GoE.enc)])) ?_
                  refine s_frz 2 (fun b => .inl (by simp [ids])) rfl hA983 fun H984 hle985 hn986 hs987 => ?_
                  have hA988 := All2.mono (fun _ _ => GoT.mono hle985) hA974
                  exact s_pred fun _ _ _ hE hI => ⟨(.slice a980 y139.length c981), [], _, fun _ e => (by cases e; exact hE _ _ rfl), hle985, by exact hI, ⟨a980, c981, rfl, rfl, hs987⟩⟩
                refine dcons ?_ ?_
                · intro _ _ H991 fr992 hle993 hd994
                  obtain ⟨hv996, hg997⟩ := hd994 17 (by decide)
                  refine ⟨_, some (), rfl, fun _ => ?_⟩
                  refine s_env (env' := [(97, .bool p117)]) (by exact ⟨congrArg some hv996, trivial⟩) ?_
                  refine s_want rfl rfl h138 ?_
                  refine o_bsl (xs := [.const (.int .i64 3), .const (.int .i64 4)]) rfl rfl (by simp only [List.mem_cons, List.not_mem_nil, or_false, forall_eq_or_imp, forall_eq]; exact ⟨⟨rfl, rfl⟩, ⟨rfl, rfl⟩⟩) rfl rfl fun b998 => ?_
                  have hA999 : All2 (GoT.rep H991) [[.int .i64 3], [.int .i64 4]] ([3, 4] : List Int) := all2_enc (([3, 4] : List Int))
                  refine s_perm (own' := [.osl (.slice a11 y9.1.length c12) 2 26 (y9.1.map GoE.enc), .blk b15 (rowObj [.int .i64 0, .int .i64 0] 26), .osl (.slice (some ⟨b998, 0, none⟩) ([3, 4] : List Int).length 2) 1 3 [[.int .i64 3], [.int .i64 4]]] ++ fr992) (pm3 (a := [.osl (.slice a11 y9.1.length c12) 2 26 (y9.1.map GoE.enc), .blk b15 (rowObj [.int .i64 0, .int .i64 0] 26)]) (xs := [.osl (.slice (some ⟨b998, 0, none⟩) ([3, 4] : List Int).length 2) 1 3 [[.int .i64 3], [.int .i64 4]]])) ?_
                  refine s_frz 2 (fun b => .inl (by simp [ids])) rfl hA999 fun H1001 hle1002 hn1003 hs1004 => ?_
                  exact s_pred fun _ _ _ hE hI => ⟨(.slice (some ⟨b998, 0, none⟩) ([3, 4] : List Int).length 2), [], _, fun _ e => (by cases e; exact hE _ _ rfl), hle1002, by exact hI, ⟨b998, rfl, rfl, hs1004⟩⟩
                refine dcons ?_ ?_
                · intro _ _ H1007 fr1008 hle1009 hd1010
                  obtain ⟨hv1012, hg1013⟩ := hd1010 17 (by decide)
                  obtain ⟨a1014, c1015, hv1016, hg1017, hp1018⟩ := hd1010 19 (by decide)
                  obtain ⟨b1019, hv1020, hg1021, hp1022⟩ := hd1010 20 (by decide)
                  refine ⟨_, (catenaryref00_EqInts k y139 ([3, 4] : List Int)).bind some, by rw [h151]; rfl, fun _ => ?_⟩
                  refine s_env (env' := [(97, .bool p117), (99, .slice a1014 y139.length c1015), (100, .slice (some ⟨b1019, 0, none⟩) ([3, 4] : List Int).length 2)]) (by exact ⟨congrArg some hv1012, congrArg some hv1016, congrArg some hv1020, trivial⟩) ?_
                  refine s_want rfl rfl h138 ?_
                  refine s_bg fun y149 h1023 => ?_
                  refine s_callF rfl rfl (catenaryref00_EqInts_ok k _ y139 _ _ hp1018 ([3, 4] : List Int) _ _ hp1022 h1023) ?_
                  obtain rfl := Option.some.inj (h151.symm.trans h1023)
                  exact s_pred fun _ _ _ hE hI => ⟨(.bool y149), [], _, fun _ e => (by cases e; exact hE _ _ rfl), .refl _, by exact hI, ⟨rfl, rfl⟩⟩
                refine dcons ?_ ?_
                · intro _ _ H1026 fr1027 hle1028 hd1029
                  obtain ⟨hv1031, hg1032⟩ := hd1029 17 (by decide)
                  obtain ⟨hv1033, hg1034⟩ := hd1029 21 (by decide)
                  refine ⟨_, some (), rfl, fun _ => ?_⟩
                  refine s_env (env' := [(97, .bool p117), (101, .bool y149)]) (by exact ⟨congrArg some hv1031, congrArg some hv1033, trivial⟩) ?_
                  refine o_pickT rfl h138 rfl ?_
                  exact s_pred fun _ _ _ hE hI => ⟨(.bool y149), [], _, fun _ e => (by cases e; exact hE _ _ rfl), .refl _, by exact hI, ⟨rfl, rfl⟩⟩
                refine dcons ?_ ?_
                · intro _ _ H1037 fr1038 hle1039 hd1040
                  obtain ⟨hv1042, hg1043⟩ := hd1040 22 (by decide)
                  refine ⟨_, some (), rfl, fun _ => ?_⟩
                  refine s_env (env' := [(102, .bool y149)]) (by exact ⟨congrArg some hv1042, trivial⟩) ?_
                  refine o_mov rfl ?_
                  exact s_pred fun _ _ _ hE hI => ⟨(.bool y149), [], _, fun _ e => (by cases e; exact hE _ _ rfl), .refl _, by exact hI, ⟨rfl, rfl⟩⟩
                refine dcons ?_ ?_
                · intro _ _ H1046 fr1047 hle1048 hd1049
                  have hA1051 := All2.mono (fun _ _ => GoT.mono hle1048) hA120
                  obtain ⟨hv1052, hg1053⟩ := hd1049 23 (by decide)
                  refine ⟨_, some (), rfl, fun _ => ?_⟩
                  refine s_env (env' := [(103, .bool y149), (1, .slice a11 y9.1.length c12)]) (by exact ⟨congrArg some hv1052, rfl, trivial⟩) ?_
                  refine s_want rfl rfl h152 ?_
                  refine o_mov rfl ?_
                  exact s_pred fun _ _ _ hE hI => ⟨(.slice a11 y9.1.length c12), [], _, fun _ e => (by cases e; exact hE _ _ rfl), .refl _, by exact hI, ⟨rfl, rfl⟩⟩
                refine dcons ?_ ?_
                · intro _ _ H1056 fr1057 hle1058 hd1059
                  have hA1061 := All2.mono (fun _ _ => GoT.mono hle1058) hA120
                  obtain ⟨hv1062, hg1063⟩ := hd1059 23 (by decide)
                  obtain ⟨hv1064, hg1065⟩ := hd1059 24 (by decide)
                  refine ⟨_, (tree_Below k y9.1 1).bind some, by rw [h159]; rfl, fun _ => ?_⟩
                  refine s_env (env' := [(103, .bool y149), (104, .slice a11 y9.1.length c12)]) (by exact ⟨congrArg some hv1062, congrArg some hv1064, trivial⟩) ?_
                  refine s_want rfl rfl h152 ?_
                  refine s_bg fun y153 h1066 => ?_
                  refine s_callL (Φ := fun v out => ∃ a0 c0, v = .slice a0 y153.length c0 ∧ out = [.osl (.slice a0 y153.length c0) 1 3 (y153.map GoE.enc)]) [] _ rfl rfl (.refl _) (fun H' hle hl => tree_Below_ok k _ y9.1 _ _ (lent_rsl (hl _ (List.mem_of_getElem? (i := 0) rfl)) hA1061 hle).2 1 h1066) ?_
                  rintro _ _ ⟨a1067, c1068, rfl, rfl⟩
                  have hA1070 : All2 (GoT.rep H1056) (y153.map GoE.enc) y153 := all2_enc _
                  obtain rfl := Option.some.inj (h159.symm.trans h1066)
                  refine s_perm (own' := [.osl (.slice a11 y9.1.length c12) 2 26 (y9.1.map GoE.enc), .blk b15 (rowObj [.int .i64 0, .int .i64 0] 26), .osl (.slice a1067 y153.length c1068) 1 3 (y153.map GoE.enc)] ++ fr1057) (pm3 (a := [.osl (.slice a11 y9.1.length c12) 2 26 (y9.1.map GoE.enc), .blk b15 (rowObj [.int .i64 0, .int .i64 0] 26)]) (xs := [.osl (.slice a1067 y153.length c1068) 1 3 (y153.map GoE.enc)])) ?_
                  refine s_frz 2 (fun b => .inl (by simp [ids])) rfl hA1070 fun H1071 hle1072 hn1073 hs1074 => ?_
                  have hA1075 := All2.mono (fun _ _ => GoT.mono hle1072) hA1061
                  exact s_pred fun _ _ _ hE hI => ⟨(.slice a1067 y153.length c1068), [], _, fun _ e => (by cases e; exact hE _ _ rfl), hle1072, by exact hI, ⟨a1067, c1068, rfl, rfl, hs1074⟩⟩
                refine dcons ?_ ?_
                · intro _ _ H1078 fr1079 hle1080 hd1081
                  obtain ⟨hv1083, hg1084⟩ := hd1081 23 (by decide)
                  refine ⟨_, some (), rfl, fun _ => ?_⟩
                  refine s_env (env' := [(103, .bool y149)]) (by exact ⟨congrArg some hv1083, trivial⟩) ?_
                  refine s_want rfl rfl h152 ?_
                  refine o_bsl (xs := [.const (.int .i64 1), .const (.int .i64 2), .const (.int .i64 3), .const (.int .i64 4)]) rfl rfl (by simp only [List.mem_cons, List.not_mem_nil, or_false, forall_eq_or_imp, forall_eq]; exact ⟨⟨rfl, rfl⟩, ⟨rfl, rfl⟩, ⟨rfl, rfl⟩, ⟨rfl, rfl⟩⟩) rfl rfl fun b1085 => ?_
                  have hA1086 : All2 (GoT.rep H1078) [[.int .i64 1], [.int .i64 2], [.int .i64 3], [.int .i64 4]] ([1, 2, 3, 4] : List Int) := all2_enc (([1, 2, 3, 4] : List Int))
                  refine s_perm (own' := [.osl (.slice a11 y9.1.length c12) 2 26 (y9.1.map GoE.enc), .blk b15 (rowObj [.int .i64 0, .int .i64 0] 26), .osl (.slice (some ⟨b1085, 0, none⟩) ([1, 2, 3, 4] : List Int).length 4) 1 3 [[.int .i64 1], [.int .i64 2], [.int .i64 3], [.int .i64 4]]] ++ fr1079) (pm3 (a := [.osl (.slice a11 y9.1.length c12) 2 26 (y9.1.map GoE.enc), .blk b15 (rowObj [.int .i64 0, .int .i64 0] 26)]) (xs := [.osl (.slice (some ⟨b1085, 0, none⟩) ([1, 2, 3, 4] : List Int).length 4) 1 3 [[.int .i64 1], [.int .i64 2], [.int .i64 3], [.int .i64 4]]])) ?_
                  refine s_frz 2 (fun b => .inl (by simp [ids])) rfl hA1086 fun H1088 hle1089 hn1090 hs1091 => ?_
                  exact s_pred fun _ _ _ hE hI => ⟨(.slice (some ⟨b1085, 0, none⟩) ([1, 2, 3, 4] : List Int).length 4), [], _, fun _ e => (by cases e; exact hE _ _ rfl), hle1089, by exact hI, ⟨b1085, rfl, rfl, hs1091⟩⟩
                refine dcons ?_ ?_
                · intro _ _ H1094 fr1095 hle1096 hd1097
                  obtain ⟨hv1099, hg1100⟩ := hd1097 23 (by decide)
                  obtain ⟨a1101, c1102, hv1103, hg1104, hp1105⟩ := hd1097 25 (by decide)
                  obtain ⟨b1106, hv1107, hg1108, hp1109⟩ := hd1097 26 (by decide)
                  refine ⟨_, (catenaryref00_EqInts k y153 ([1, 2, 3, 4] : List Int)).bind some, by rw [h165]; rfl, fun _ => ?_⟩
                  refine s_env (env' := [(103, .bool y149), (105, .slice a1101 y153.length c1102), (106, .slice (some ⟨b1106, 0, none⟩) ([1, 2, 3, 4] : List Int).length 4)]) (by exact ⟨congrArg some hv1099, congrArg some hv1103, congrArg some hv1107, trivial⟩) ?_
                  refine s_want rfl rfl h152 ?_
                  refine s_bg fun y163 h1110 => ?_
                  refine s_callF rfl rfl (catenaryref00_EqInts_ok k _ y153 _ _ hp1105 ([1, 2, 3, 4] : List Int) _ _ hp1109 h1110) ?_
                  obtain rfl := Option.some.inj (h165.symm.trans h1110)
                  exact s_pred fun _ _ _ hE hI => ⟨(.bool y163), [], _, fun _ e => (by cases e; exact hE _ _ rfl), .refl _, by exact hI, ⟨rfl, rfl⟩⟩
                refine dcons ?_ ?_
                · intro _ _ H1113 fr1114 hle1115 hd1116
                  obtain ⟨hv1118, hg1119⟩ := hd1116 23 (by decide)
                  obtain ⟨hv1120, hg1121⟩ := hd1116 27 (by decide)
                  refine ⟨_, some (), rfl, fun _ => ?_⟩
                  refine s_env (env' := [(103, .bool y149), (107, .bool y163)]) (by exact ⟨congrArg some hv1118, congrArg some hv1120, trivial⟩) ?_
                  refine o_pickT rfl h152 rfl ?_
                  exact s_pred fun _ _ _ hE hI => ⟨(.bool y163), [], _, fun _ e => (by cases e; exact hE _ _ rfl), .refl _, by exact hI, ⟨rfl, rfl⟩⟩
                refine dcons ?_ ?_
                · intro _ _ H1124 fr1125 hle1126 hd1127
                  obtain ⟨hv1129, hg1130⟩ := hd1127 28 (by decide)
                  refine ⟨_, some (), rfl, fun _ => ?_⟩
                  refine s_env (env' := [(108, .bool y163)]) (by exact ⟨congrArg some hv1129, trivial⟩) ?_
                  refine o_mov rfl ?_
                  exact s_pred fun _ _ _ hE hI => ⟨(.bool y163), [], _, fun _ e => (by cases e; exact hE _ _ rfl), .refl _, by exact hI, ⟨rfl, rfl⟩⟩
                refine dcons ?_ ?_
                · intro _ _ H1133 fr1134 hle1135 hd1136
                  obtain ⟨hv1138, hg1139⟩ := hd1136 29 (by decide)
                  refine ⟨_, some (), rfl, fun _ => ?_⟩
                  refine s_env (env' := [(109, .bool y163)]) (by exact ⟨congrArg some hv1138, trivial⟩) ?_
                  refine s_unwant rfl rfl h166 ?_
                  exact s_pred fun _ _ _ hE hI => ⟨undef, [], _, fun _ e => (by cases e; exact hE _ _ rfl), .refl _, by exact hI, ⟨rfl, rfl⟩⟩
                refine dcons ?_ ?_
                · intro _ _ H1142 fr1143 hle1144 hd1145
                  obtain ⟨hv1147, hg1148⟩ := hd1145 29 (by decide)
                  obtain ⟨hv1149, hg1150⟩ := hd1145 30 (by decide)
                  refine ⟨_, some (), rfl, fun _ => ?_⟩
                  refine s_env (env' := [(109, .bool y163), (110, undef)]) (by exact ⟨congrArg some hv1147, congrArg some hv1149, trivial⟩) ?_
                  refine s_unwant rfl rfl h166 ?_
                  exact s_pred fun _ _ _ hE hI => ⟨undef, [], _, fun _ e => (by cases e; exact hE _ _ rfl), .refl _, by exact hI, ⟨rfl, rfl⟩⟩
                refine dcons ?_ ?_
                · intro _ _ H1153 fr1154 hle1155 hd1156
                  obtain ⟨hv1158, hg1159⟩ := hd1156 29 (by decide)
                  obtain ⟨hv1160, hg1161⟩ := hd1156 31 (by decide)
                  refine ⟨_, some (), rfl, fun _ => ?_⟩
                  refine s_env (env' := [(109, .bool y163), (111, undef)]) (by exact ⟨congrArg some hv1158, congrArg some hv1160, trivial⟩) ?_
                  refine s_unwant rfl rfl h166 ?_
                  exact s_pred fun _ _ _ hE hI => ⟨undef, [], _, fun _ e => (by cases e; exact hE _ _ rfl), .refl _, by exact hI, ⟨rfl, rfl⟩⟩
                refine dcons ?_ ?_
                · intro _ _ H1164 fr1165 hle1166 hd1167
                  obtain ⟨hv1169, hg1170⟩ := hd1167 29 (by decide)
                  obtain ⟨hv1171, hg1172⟩ := hd1167 32 (by decide)
                  refine ⟨_, some (), rfl, fun _ => ?_⟩
                  refine s_env (env' := [(109, .bool y163), (112, undef)]) (by exact ⟨congrArg some hv1169, congrArg some hv1171, trivial⟩) ?_
                  refine o_pickF rfl h166 rfl ?_
                  exact s_pred fun _ _ _ hE hI => ⟨(.bool false), [], _, fun _ e => (by cases e; exact hE _ _ rfl), .refl _, by exact hI, ⟨rfl, rfl⟩⟩
                exact dnil
              · intro V1175 G1176 H1173 hle1174 hF1177
                have hA1178 := All2.mono (fun _ _ => GoT.mono hle1174) hA120
                obtain ⟨hv1179, hg1180⟩ := hF1177 33 (show 33 < 34 by decide)
                refine s_env (env' := [(113, .bool false), (1, .slice a11 y9.1.length c12), (2, .int .i64 y9.2), (3, .pointer (some ⟨b15, 0, none⟩)), (14, .bool p117)]) (by exact ⟨congrArg some hv1179, rfl, rfl, rfl, rfl, trivial⟩) ?_
                refine s_own (List.sublist_append_left _ _) ?_
                refine o_asg rfl ?_
                refine s_done ?_
                exact s_retv (xs := [.tmp 0]) (vs := [.bool false]) [] fn_43 rfl ⟨rv_tmp rfl, trivial⟩ (.cons _ (.cons _ .slnil)) ⟨rfl, rfl⟩
          · refine s_drawL [(fun H v g => v = Value.int .i64 y9.2 ∧ g = []),
      (fun H v g => v = Value.bool (y9.2 == 0) ∧ g = []),
      (fun H v g => v = Value.bool (y9.2 == 0) ∧ g = []),
      (fun H v g => v = Value.slice a11 y9.1.length c12 ∧ g = []),
      (fun H v g => v = Value.agg #[.int .i64 0, .int .i64 0] ∧ g = []),
      (fun H v g => v = Value.agg #[.int .i64 0, .int .i64 0] ∧ g = []),
      (fun H v g => v = Value.agg #[.int .i64 y122.Switch, .int .i64 y122.Port] ∧ g = []),
      (fun H v g => v = Value.agg #[.int .i64 y125.Switch, .int .i64 y125.Port] ∧ g = []),
      (fun H v g => v = Value.agg #[.int .i64 y128.Switch, .int .i64 y128.Port] ∧ g = []),
      (fun H v g => v = Value.agg #[.int .i64 0, .int .i64 0] ∧ g = []),
      (fun H v g => v = Value.agg #[.int .i64 0, .int .i64 0] ∧ g = []),
      (fun H v g => ∃ b1184, v = Value.slice (some ⟨b1184, 0, none⟩) ([(⟨0, 0⟩ : End), (⟨0, 0⟩ : End), y122, y125, y128, (⟨0, 0⟩ : End), (⟨0, 0⟩ : End)] : List End).length 7 ∧ g = [] ∧ RSl H (some ⟨b1184, 0, none⟩) 7 ([(⟨0, 0⟩ : End), (⟨0, 0⟩ : End), y122, y125, y128, (⟨0, 0⟩ : End), (⟨0, 0⟩ : End)] : List End)),
      (fun H v g => v = Value.bool y134 ∧ g = []),
      (fun H v g => v = Value.bool y134 ∧ g = []),
      (fun H v g => v = Value.bool y134 ∧ g = []),
      (fun H v g => v = Value.bool p117 ∧ g = []),
      (fun H v g => v = Value.bool p117 ∧ g = []),
      (fun H v g => v = Value.bool p117 ∧ g = []),
      (fun H v g => v = Value.slice a11 y9.1.length c12 ∧ g = []),
      (fun H v g => ∃ a1194 c1195, v = Value.slice a1194 y139.length c1195 ∧ g = [] ∧ RSl H a1194 c1195 y139),
      (fun H v g => ∃ b1204, v = Value.slice (some ⟨b1204, 0, none⟩) ([3, 4] : List Int).length 2 ∧ g = [] ∧ RSl H (some ⟨b1204, 0, none⟩) 2 ([3, 4] : List Int)),
      (fun H v g => v = Value.bool y149 ∧ g = []),
      (fun H v g => v = Value.bool y149 ∧ g = []),
      (fun H v g => v = Value.bool y149 ∧ g = []),
      uF,
      uF,
      uF,
      uF,
      (fun H v g => v = Value.bool false ∧ g = []),
      (fun H v g => v = Value.bool false ∧ g = []),
      uF,
      uF,
      uF,
      (fun H v g => v = Value.bool false ∧ g = [])] [[], [], [], [], [], [], [], [], [], [], [], [], [], [], [], [], [], [], [], [], [], [], [], [], [], [], [], [], [], [], [], [], [], []] mixed ⟨m0, m0, m0, m0, m0, m0, m0, m0, m0, m0, m0, fun _ _ _ _ hle ⟨b1184, e1, e2, h0_⟩ => ⟨_, e1, e2, RSl.mono hle h0_⟩, m0, m0, m0, m0, m0, m0, m0, fun _ _ _ _ hle ⟨a1194, c1195, e1, e2, h0_⟩ => ⟨_, _, e1, e2, RSl.mono hle h0_⟩, fun _ _ _ _ hle ⟨b1204, e1, e2, h0_⟩ => ⟨_, e1, e2, RSl.mono hle h0_⟩, m0, m0, m0, m0, m0, m0, m0, m0, m0, m0, m0, m0, m0, trivial⟩ (by kernel_rfl) (by kernel_rfl) rfl (by kernel_rfl) rfl rfl ?_ ?_
            · refine dcons ?_ ?_
              · intro _ _ H1217 fr1218 hle1219 hd1220
                refine ⟨_, some (), rfl, fun _ => ?_⟩
                refine s_env (env' := [(2, .int .i64 y9.2)]) (by exact ⟨rfl, trivial⟩) ?_
                refine o_mov rfl ?_
                exact s_pred fun _ _ _ hE hI => ⟨(.int .i64 y9.2), [], _, fun _ e => (by cases e; exact hE _ _ rfl), .refl _, by exact hI, ⟨rfl, rfl⟩⟩
              refine dcons ?_ ?_
              · intro _ _ H1224 fr1225 hle1226 hd1227
                obtain ⟨hv1229, hg1230⟩ := hd1227 0 (by decide)
                refine ⟨_, some (), rfl, fun _ => ?_⟩
                refine s_env (env' := [(80, .int .i64 y9.2)]) (by exact ⟨congrArg some hv1229, trivial⟩) ?_
                refine o_eq rfl rfl ?_
                exact s_pred fun _ _ _ hE hI => ⟨(.bool (y9.2 == 0)), [], _, fun _ e => (by cases e; exact hE _ _ rfl), .refl _, by exact hI, ⟨rfl, rfl⟩⟩
              refine dcons ?_ ?_
              · intro _ _ H1233 fr1234 hle1235 hd1236
                obtain ⟨hv1238, hg1239⟩ := hd1236 1 (by decide)
                refine ⟨_, some (), rfl, fun _ => ?_⟩
                refine s_env (env' := [(81, .bool (y9.2 == 0))]) (by exact ⟨congrArg some hv1238, trivial⟩) ?_
                refine o_mov rfl ?_
                exact s_pred fun _ _ _ hE hI => ⟨(.bool (y9.2 == 0)), [], _, fun _ e => (by cases e; exact hE _ _ rfl), .refl _, by exact hI, ⟨rfl, rfl⟩⟩
              refine dcons ?_ ?_
              · intro _ _ H1242 fr1243 hle1244 hd1245
                have hA1247 := All2.mono (fun _ _ => GoT.mono hle1244) hA120
                obtain ⟨hv1248, hg1249⟩ := hd1245 2 (by decide)
                refine ⟨_, some (), rfl, fun _ => ?_⟩
                refine s_env (env' := [(82, .bool (y9.2 == 0)), (1, .slice a11 y9.1.length c12)]) (by exact ⟨congrArg some hv1248, rfl, trivial⟩) ?_
                refine s_want rfl rfl h121 ?_
                refine o_mov rfl ?_
                exact s_pred fun _ _ _ hE hI => ⟨(.slice a11 y9.1.length c12), [], _, fun _ e => (by cases e; exact hE _ _ rfl), .refl _, by exact hI, ⟨rfl, rfl⟩⟩
              refine dcons ?_ ?_
              · intro _ _ H1252 fr1253 hle1254 hd1255
                obtain ⟨hv1257, hg1258⟩ := hd1255 2 (by decide)
                refine ⟨_, some (), rfl, fun _ => ?_⟩
                refine s_env (env' := [(82, .bool (y9.2 == 0)), (3, .pointer (some ⟨b15, 0, none⟩))]) (by exact ⟨congrArg some hv1257, rfl, trivial⟩) ?_
                refine s_want rfl rfl h121 ?_
                refine o_ld 1 rfl rfl rfl ?_
                exact s_pred fun _ _ _ hE hI => ⟨(.agg #[.int .i64 0, .int .i64 0]), [], _, fun _ e => (by cases e; exact hE _ _ rfl), .refl _, by exact hI, ⟨rfl, rfl⟩⟩
              refine dcons ?_ ?_
              · intro _ _ H1261 fr1262 hle1263 hd1264
                obtain ⟨hv1266, hg1267⟩ := hd1264 2 (by decide)
                refine ⟨_, some (), rfl, fun _ => ?_⟩
                refine s_env (env' := [(82, .bool (y9.2 == 0)), (3, .pointer (some ⟨b15, 0, none⟩))]) (by exact ⟨congrArg some hv1266, rfl, trivial⟩) ?_
                refine s_want rfl rfl h121 ?_
                refine o_ld 1 rfl rfl rfl ?_
                exact s_pred fun _ _ _ hE hI => ⟨(.agg #[.int .i64 0, .int .i64 0]), [], _, fun _ e => (by cases e; exact hE _ _ rfl), .refl _, by exact hI, ⟨rfl, rfl⟩⟩
              refine dcons ?_ ?_
              · intro _ _ H1270 fr1271 hle1272 hd1273
                obtain ⟨hv1275, hg1276⟩ := hd1273 2 (by decide)
                refine ⟨_, (catenarylaw20_at k 1 1).bind some, by rw [h124]; rfl, fun _ => ?_⟩
                refine s_env (env' := [(82, .bool (y9.2 == 0))]) (by exact ⟨congrArg some hv1275, trivial⟩) ?_
                refine s_want rfl rfl h121 ?_
                refine s_bg fun y122 h1277 => ?_
                refine s_callF rfl rfl (catenarylaw20_at_ok k _ 1 1 h1277) ?_
                obtain rfl := Option.some.inj (h124.symm.trans h1277)
                exact s_pred fun _ _ _ hE hI => ⟨(.agg #[.int .i64 y122.Switch, .int .i64 y122.Port]), [], _, fun _ e => (by cases e; exact hE _ _ rfl), .refl _, by exact hI, ⟨rfl, rfl⟩⟩
              refine dcons ?_ ?_
              · intro _ _ H1280 fr1281 hle1282 hd1283
                obtain ⟨hv1285, hg1286⟩ := hd1283 2 (by decide)
                refine ⟨_, (catenarylaw20_at k 1 2).bind some, by rw [h127]; rfl, fun _ => ?_⟩
                refine s_env (env' := [(82, .bool (y9.2 == 0))]) (by exact ⟨congrArg some hv1285, trivial⟩) ?_
                refine s_want rfl rfl h121 ?_
                refine s_bg fun y125 h1287 => ?_
                refine s_callF rfl rfl (catenarylaw20_at_ok k _ 1 2 h1287) ?_
                obtain rfl := Option.some.inj (h127.symm.trans h1287)
                exact s_pred fun _ _ _ hE hI => ⟨(.agg #[.int .i64 y125.Switch, .int .i64 y125.Port]), [], _, fun _ e => (by cases e; exact hE _ _ rfl), .refl _, by exact hI, ⟨rfl, rfl⟩⟩
              refine dcons ?_ ?_
              · intro _ _ H1290 fr1291 hle1292 hd1293
                obtain ⟨hv1295, hg1296⟩ := hd1293 2 (by decide)
                refine ⟨_, (catenarylaw20_at k 3 3).bind some, by rw [h130]; rfl, fun _ => ?_⟩
                refine s_env (env' := [(82, .bool (y9.2 == 0))]) (by exact ⟨congrArg some hv1295, trivial⟩) ?_
                refine s_want rfl rfl h121 ?_
                refine s_bg fun y128 h1297 => ?_
                refine s_callF rfl rfl (catenarylaw20_at_ok k _ 3 3 h1297) ?_
                obtain rfl := Option.some.inj (h130.symm.trans h1297)
                exact s_pred fun _ _ _ hE hI => ⟨(.agg #[.int .i64 y128.Switch, .int .i64 y128.Port]), [], _, fun _ e => (by cases e; exact hE _ _ rfl), .refl _, by exact hI, ⟨rfl, rfl⟩⟩
              refine dcons ?_ ?_
              · intro _ _ H1300 fr1301 hle1302 hd1303
                obtain ⟨hv1305, hg1306⟩ := hd1303 2 (by decide)
                refine ⟨_, some (), rfl, fun _ => ?_⟩
                refine s_env (env' := [(82, .bool (y9.2 == 0)), (3, .pointer (some ⟨b15, 0, none⟩))]) (by exact ⟨congrArg some hv1305, rfl, trivial⟩) ?_
                refine s_want rfl rfl h121 ?_
                refine o_ld 1 rfl rfl rfl ?_
                exact s_pred fun _ _ _ hE hI => ⟨(.agg #[.int .i64 0, .int .i64 0]), [], _, fun _ e => (by cases e; exact hE _ _ rfl), .refl _, by exact hI, ⟨rfl, rfl⟩⟩
              refine dcons ?_ ?_
              · intro _ _ H1309 fr1310 hle1311 hd1312
                obtain ⟨hv1314, hg1315⟩ := hd1312 2 (by decide)
                refine ⟨_, some (), rfl, fun _ => ?_⟩
                refine s_env (env' := [(82, .bool (y9.2 == 0)), (3, .pointer (some ⟨b15, 0, none⟩))]) (by exact ⟨congrArg some hv1314, rfl, trivial⟩) ?_
                refine s_want rfl rfl h121 ?_
                refine o_ld 1 rfl rfl rfl ?_
                exact s_pred fun _ _ _ hE hI => ⟨(.agg #[.int .i64 0, .int .i64 0]), [], _, fun _ e => (by cases e; exact hE _ _ rfl), .refl _, by exact hI, ⟨rfl, rfl⟩⟩
              refine dcons ?_ ?_
              · intro _ _ H1318 fr1319 hle1320 hd1321
                obtain ⟨hv1323, hg1324⟩ := hd1321 2 (by decide)
                obtain ⟨hv1325, hg1326⟩ := hd1321 4 (by decide)
                obtain ⟨hv1327, hg1328⟩ := hd1321 5 (by decide)
                obtain ⟨hv1329, hg1330⟩ := hd1321 6 (by decide)
                obtain ⟨hv1331, hg1332⟩ := hd1321 7 (by decide)
                obtain ⟨hv1333, hg1334⟩ := hd1321 8 (by decide)
                obtain ⟨hv1335, hg1336⟩ := hd1321 9 (by decide)
                obtain ⟨hv1337, hg1338⟩ := hd1321 10 (by decide)
                refine ⟨_, some (), rfl, fun _ => ?_⟩
                refine s_env (env' := [(82, .bool (y9.2 == 0)), (84, .agg #[.int .i64 0, .int .i64 0]), (85, .agg #[.int .i64 0, .int .i64 0]), (86, .agg #[.int .i64 y122.Switch, .int .i64 y122.Port]), (87, .agg #[.int .i64 y125.Switch, .int .i64 y125.Port]), (88, .agg #[.int .i64 y128.Switch, .int .i64 y128.Port]), (89, .agg #[.int .i64 0, .int .i64 0]), (90, .agg #[.int .i64 0, .int .i64 0])]) (by exact ⟨congrArg some hv1323, congrArg some hv1325, congrArg some hv1327, congrArg some hv1329, congrArg some hv1331, congrArg some hv1333, congrArg some hv1335, congrArg some hv1337, trivial⟩) ?_
                refine s_want rfl rfl h121 ?_
                refine o_bsl (xs := [.tmp 84, .tmp 85, .tmp 86, .tmp 87, .tmp 88, .tmp 89, .tmp 90]) rfl rfl (by simp only [List.mem_cons, List.not_mem_nil, or_false, forall_eq_or_imp, forall_eq]; exact ⟨⟨rfl, rfl⟩, ⟨rfl, rfl⟩, ⟨rfl, rfl⟩, ⟨rfl, rfl⟩, ⟨rfl, rfl⟩, ⟨rfl, rfl⟩, ⟨rfl, rfl⟩⟩) rfl rfl fun b1339 => ?_
                have hA1340 : All2 (GoT.rep H1318) [[.int .i64 0, .int .i64 0], [.int .i64 0, .int .i64 0], [.int .i64 y122.Switch, .int .i64 y122.Port], [.int .i64 y125.Switch, .int .i64 y125.Port], [.int .i64 y128.Switch, .int .i64 y128.Port], [.int .i64 0, .int .i64 0], [.int .i64 0, .int .i64 0]] ([(⟨0, 0⟩ : End), (⟨0, 0⟩ : End), y122, y125, y128, (⟨0, 0⟩ : End), (⟨0, 0⟩ : End)] : List End) := all2_enc (([(⟨0, 0⟩ : End), (⟨0, 0⟩ : End), y122, y125, y128, (⟨0, 0⟩ : End), (⟨0, 0⟩ : End)] : List End))
                refine s_perm (own' := [.osl (.slice a11 y9.1.length c12) 2 26 (y9.1.map GoE.enc), .blk b15 (rowObj [.int .i64 0, .int .i64 0] 26), .osl (.slice (some ⟨b1339, 0, none⟩) ([(⟨0, 0⟩ : End), (⟨0, 0⟩ : End), y122, y125, y128, (⟨0, 0⟩ : End), (⟨0, 0⟩ : End)] : List End).length 7) 2 26 [[.int .i64 0, .int .i64 0], [.int .i64 0, .int .i64 0], [.int .i64 y122.Switch, .int .i64 y122.Port], [.int .i64 y125.Switch, .int .i64 y125.Port], [.int .i64 y128.Switch, .int .i64 y128.Port], [.int .i64 0, .int .i64 0], [.int .i64 0, .int .i64 0]]] ++ fr1319) (pm3 (a := [.osl (.slice a11 y9.1.length c12) 2 26 (y9.1.map GoE.enc), .blk b15 (rowObj [.int .i64 0, .int .i64 0] 26)]) (xs := [.osl (.slice (some ⟨b1339, 0, none⟩) ([(⟨0, 0⟩ : End), (⟨0, 0⟩ : End), y122, y125, y128, (⟨0, 0⟩ : End), (⟨0, 0⟩ : End)] : List End).length 7) 2 26 [[.int .i64 0, .int .i64 0], [.int .i64 0, .int .i64 0], [.int .i64 y122.Switch, .int .i64 y122.Port], [.int .i64 y125.Switch, .int .i64 y125.Port], [.int .i64 y128.Switch, .int .i64 y128.Port], [.int .i64 0, .int .i64 0], [.int .i64 0, .int .i64 0]]])) ?_
                refine s_frz 2 (fun b => .inl (by simp [ids])) rfl hA1340 fun H1342 hle1343 hn1344 hs1345 => ?_
                exact s_pred fun _ _ _ hE hI => ⟨(.slice (some ⟨b1339, 0, none⟩) ([(⟨0, 0⟩ : End), (⟨0, 0⟩ : End), y122, y125, y128, (⟨0, 0⟩ : End), (⟨0, 0⟩ : End)] : List End).length 7), [], _, fun _ e => (by cases e; exact hE _ _ rfl), hle1343, by exact hI, ⟨b1339, rfl, rfl, hs1345⟩⟩
              refine dcons ?_ ?_
              · intro _ _ H1348 fr1349 hle1350 hd1351
                have hA1353 := All2.mono (fun _ _ => GoT.mono hle1350) hA120
                obtain ⟨hv1354, hg1355⟩ := hd1351 2 (by decide)
                obtain ⟨hv1356, hg1357⟩ := hd1351 3 (by decide)
                obtain ⟨b1358, hv1359, hg1360, hp1361⟩ := hd1351 11 (by decide)
                refine ⟨_, (catenarylaw20_eq k y9.1 ([(⟨0, 0⟩ : End), (⟨0, 0⟩ : End), y122, y125, y128, (⟨0, 0⟩ : End), (⟨0, 0⟩ : End)] : List End)).bind some, by rw [h136]; rfl, fun _ => ?_⟩
                refine s_env (env' := [(82, .bool (y9.2 == 0)), (83, .slice a11 y9.1.length c12), (91, .slice (some ⟨b1358, 0, none⟩) ([(⟨0, 0⟩ : End), (⟨0, 0⟩ : End), y122, y125, y128, (⟨0, 0⟩ : End), (⟨0, 0⟩ : End)] : List End).length 7)]) (by exact ⟨congrArg some hv1354, congrArg some hv1356, congrArg some hv1359, trivial⟩) ?_
                refine s_want rfl rfl h121 ?_
                refine s_bg fun y134 h1362 => ?_
                refine s_callL (Φ := fun v out => v = _ ∧ out = []) [] _ rfl rfl (.refl _) (fun H' hle hl => catenarylaw20_eq_ok k _ y9.1 _ _ (lent_rsl (hl _ (List.mem_of_getElem? (i := 0) rfl)) hA1353 hle).2 ([(⟨0, 0⟩ : End), (⟨0, 0⟩ : End), y122, y125, y128, (⟨0, 0⟩ : End), (⟨0, 0⟩ : End)] : List End) _ _ (RSl.mono hle hp1361) h1362) ?_
                rintro _ _ ⟨rfl, rfl⟩
                refine s_ownN ?_
                obtain rfl := Option.some.inj (h136.symm.trans h1362)
                exact s_pred fun _ _ _ hE hI => ⟨(.bool y134), [], _, fun _ e => (by cases e; exact hE _ _ rfl), .refl _, by exact hI, ⟨rfl, rfl⟩⟩
              refine dcons ?_ ?_
              · intro _ _ H1365 fr1366 hle1367 hd1368
                obtain ⟨hv1370, hg1371⟩ := hd1368 2 (by decide)
                obtain ⟨hv1372, hg1373⟩ := hd1368 12 (by decide)
                refine ⟨_, some (), rfl, fun _ => ?_⟩
                refine s_env (env' := [(82, .bool (y9.2 == 0)), (92, .bool y134)]) (by exact ⟨congrArg some hv1370, congrArg some hv1372, trivial⟩) ?_
                refine o_pickT rfl h121 rfl ?_
                exact s_pred fun _ _ _ hE hI => ⟨(.bool y134), [], _, fun _ e => (by cases e; exact hE _ _ rfl), .refl _, by exact hI, ⟨rfl, rfl⟩⟩
              refine dcons ?_ ?_
              · intro _ _ H1376 fr1377 hle1378 hd1379
                obtain ⟨hv1381, hg1382⟩ := hd1379 13 (by decide)
                refine ⟨_, some (), rfl, fun _ => ?_⟩
                refine s_env (env' := [(93, .bool y134)]) (by exact ⟨congrArg some hv1381, trivial⟩) ?_
                refine o_mov rfl ?_
                exact s_pred fun _ _ _ hE hI => ⟨(.bool y134), [], _, fun _ e => (by cases e; exact hE _ _ rfl), .refl _, by exact hI, ⟨rfl, rfl⟩⟩
              refine dcons ?_ ?_
              · intro _ _ H1385 fr1386 hle1387 hd1388
                obtain ⟨hv1390, hg1391⟩ := hd1388 14 (by decide)
                refine ⟨_, some (), rfl, fun _ => ?_⟩
                refine s_env (env' := [(94, .bool y134), (14, .bool p117)]) (by exact ⟨congrArg some hv1390, rfl, trivial⟩) ?_
                refine s_want rfl rfl h137 ?_
                refine o_mov rfl ?_
                exact s_pred fun _ _ _ hE hI => ⟨(.bool p117), [], _, fun _ e => (by cases e; exact hE _ _ rfl), .refl _, by exact hI, ⟨rfl, rfl⟩⟩
              refine dcons ?_ ?_
              · intro _ _ H1394 fr1395 hle1396 hd1397
                obtain ⟨hv1399, hg1400⟩ := hd1397 14 (by decide)
                obtain ⟨hv1401, hg1402⟩ := hd1397 15 (by decide)
                refine ⟨_, some (), rfl, fun _ => ?_⟩
                refine s_env (env' := [(94, .bool y134), (95, .bool p117)]) (by exact ⟨congrArg some hv1399, congrArg some hv1401, trivial⟩) ?_
                refine o_pickT rfl h137 rfl ?_
                exact s_pred fun _ _ _ hE hI => ⟨(.bool p117), [], _, fun _ e => (by cases e; exact hE _ _ rfl), .refl _, by exact hI, ⟨rfl, rfl⟩⟩
              refine dcons ?_ ?_
              · intro _ _ H1405 fr1406 hle1407 hd1408
                obtain ⟨hv1410, hg1411⟩ := hd1408 16 (by decide)
                refine ⟨_, some (), rfl, fun _ => ?_⟩
                refine s_env (env' := [(96, .bool p117)]) (by exact ⟨congrArg some hv1410, trivial⟩) ?_
                refine o_mov rfl ?_
                exact s_pred fun _ _ _ hE hI => ⟨(.bool p117), [], _, fun _ e => (by cases e; exact hE _ _ rfl), .refl _, by exact hI, ⟨rfl, rfl⟩⟩
              refine dcons ?_ ?_
              · intro _ _ H1414 fr1415 hle1416 hd1417
                have hA1419 := All2.mono (fun _ _ => GoT.mono hle1416) hA120
                obtain ⟨hv1420, hg1421⟩ := hd1417 17 (by decide)
                refine ⟨_, some (), rfl, fun _ => ?_⟩
                refine s_env (env' := [(97, .bool p117), (1, .slice a11 y9.1.length c12)]) (by exact ⟨congrArg some hv1420, rfl, trivial⟩) ?_
                refine s_want rfl rfl h138 ?_
                refine o_mov rfl ?_
                exact s_pred fun _ _ _ hE hI => ⟨(.slice a11 y9.1.length c12), [], _, fun _ e => (by cases e; exact hE _ _ rfl), .refl _, by exact hI, ⟨rfl, rfl⟩⟩
              refine dcons ?_ ?_
              · intro _ _ H1424 fr1425 hle1426 hd1427
                have hA1429 := All2.mono (fun _ _ => GoT.mono hle1426) hA120
                obtain ⟨hv1430, hg1431⟩ := hd1427 17 (by decide)
                obtain ⟨hv1432, hg1433⟩ := hd1427 18 (by decide)
                refine ⟨_, (tree_Below k y9.1 3).bind some, by rw [h145]; rfl, fun _ => ?_⟩
                refine s_env (env' := [(97, .bool p117), (98, .slice a11 y9.1.length c12)]) (by exact ⟨congrArg some hv1430, congrArg some hv1432, trivial⟩) ?_
                refine s_want rfl rfl h138 ?_
                refine s_bg fun y139 h1434 => ?_
                refine s_callL (Φ := fun v out => ∃ a0 c0, v = .slice a0 y139.length c0 ∧ out = [.osl (.slice a0 y139.length c0) 1 3 (y139.map GoE.enc)]) [] _ rfl rfl (.refl _) (fun H' hle hl => tree_Below_ok k _ y9.1 _ _ (lent_rsl (hl _ (List.mem_of_getElem? (i := 0) rfl)) hA1429 hle).2 3 h1434) ?_
                rintro _ _ ⟨a1435, c1436, rfl, rfl⟩
                have hA1438 : All2 (GoT.rep H1424) (y139.map GoE.enc) y139 := all2_enc _
                obtain rfl := Option.some.inj (h145.symm.trans h1434)
                refine s_perm (own' := [.osl (.slice a11 y9.1.length c12) 2 26 (y9.1.map GoE.enc), .blk b15 (rowObj [.int .i64 0, .int .i64 0] 26), .osl (.slice a1435 y139.length c1436) 1 3 (y139.map GoE.enc)] ++ fr1425) (pm3 (a := [.osl (.slice a11 y9.1.length c12) 2 26 (y9.1.map GoE.enc), .blk b15 (rowObj [.int .i64 0, .int .i64 0] 26)]) (xs := [.osl (.slice a1435 y139.length c1436) 1 3 (y139.map GoE.enc)])) ?_
                refine s_frz 2 (fun b => .inl (by simp [ids])) rfl hA1438 fun H1439 hle1440 hn1441 hs1442 => ?_
                have hA1443 := All2.mono (fun _ _ => GoT.mono hle1440) hA1429
                exact s_pred fun _ _ _ hE hI => ⟨(.slice a1435 y139.length c1436), [], _, fun _ e => (by cases e; exact hE _ _ rfl), hle1440, by exact hI, ⟨a1435, c1436, rfl, rfl, hs1442⟩⟩
              refine dcons ?_ ?_
              · intro _ _ H1446 fr1447 hle1448 hd1449
                obtain ⟨hv1451, hg1452⟩ := hd1449 17 (by decide)
                refine ⟨_, some (), rfl, fun _ => ?_⟩
                refine s_env (env' := [(97, .bool p117)]) (by exact ⟨congrArg some hv1451, trivial⟩) ?_
                refine s_want rfl rfl h138 ?_
                refine o_bsl (xs := [.const (.int .i64 3), .const (.int .i64 4)]) rfl rfl (by simp only [List.mem_cons, List.not_mem_nil, or_false, forall_eq_or_imp, forall_eq]; exact ⟨⟨rfl, rfl⟩, ⟨rfl, rfl⟩⟩) rfl rfl fun b1453 => ?_
                have hA1454 : All2 (GoT.rep H1446) [[.int .i64 3], [.int .i64 4]] ([3, 4] : List Int) := all2_enc (([3, 4] : List Int))
                refine s_perm (own' := [.osl (.slice a11 y9.1.length c12) 2 26 (y9.1.map GoE.enc), .blk b15 (rowObj [.int .i64 0, .int .i64 0] 26), .osl (.slice (some ⟨b1453, 0, none⟩) ([3, 4] : List Int).length 2) 1 3 [[.int .i64 3], [.int .i64 4]]] ++ fr1447) (pm3 (a := [.osl (.slice a11 y9.1.length c12) 2 26 (y9.1.map GoE.enc), .blk b15 (rowObj [.int .i64 0, .int .i64 0] 26)]) (xs := [.osl (.slice (some ⟨b1453, 0, none⟩) ([3, 4] : List Int).length 2) 1 3 [[.int .i64 3], [.int .i64 4]]])) ?_
                refine s_frz 2 (fun b => .inl (by simp [ids])) rfl hA1454 fun H1456 hle1457 hn1458 hs1459 => ?_
                exact s_pred fun _ _ _ hE hI => ⟨(.slice (some ⟨b1453, 0, none⟩) ([3, 4] : List Int).length 2), [], _, fun _ e => (by cases e; exact hE _ _ rfl), hle1457, by exact hI, ⟨b1453, rfl, rfl, hs1459⟩⟩
              refine dcons ?_ ?_
              · intro _ _ H1462 fr1463 hle1464 hd1465
                obtain ⟨hv1467, hg1468⟩ := hd1465 17 (by decide)
                obtain ⟨a1469, c1470, hv1471, hg1472, hp1473⟩ := hd1465 19 (by decide)
                obtain ⟨b1474, hv1475, hg1476, hp1477⟩ := hd1465 20 (by decide)
                refine ⟨_, (catenaryref00_EqInts k y139 ([3, 4] : List Int)).bind some, by rw [h151]; rfl, fun _ => ?_⟩
                refine s_env (env' := [(97, .bool p117), (99, .slice a1469 y139.length c1470), (100, .slice (some ⟨b1474, 0, none⟩) ([3, 4] : List Int).length 2)]) (by exact ⟨congrArg some hv1467, congrArg some hv1471, congrArg some hv1475, trivial⟩) ?_
                refine s_want rfl rfl h138 ?_
                refine s_bg fun y149 h1478 => ?_
                refine s_callF rfl rfl (catenaryref00_EqInts_ok k _ y139 _ _ hp1473 ([3, 4] : List Int) _ _ hp1477 h1478) ?_
                obtain rfl := Option.some.inj (h151.symm.trans h1478)
                exact s_pred fun _ _ _ hE hI => ⟨(.bool y149), [], _, fun _ e => (by cases e; exact hE _ _ rfl), .refl _, by exact hI, ⟨rfl, rfl⟩⟩
              refine dcons ?_ ?_
              · intro _ _ H1481 fr1482 hle1483 hd1484
                obtain ⟨hv1486, hg1487⟩ := hd1484 17 (by decide)
                obtain ⟨hv1488, hg1489⟩ := hd1484 21 (by decide)
                refine ⟨_, some (), rfl, fun _ => ?_⟩
                refine s_env (env' := [(97, .bool p117), (101, .bool y149)]) (by exact ⟨congrArg some hv1486, congrArg some hv1488, trivial⟩) ?_
                refine o_pickT rfl h138 rfl ?_
                exact s_pred fun _ _ _ hE hI => ⟨(.bool y149), [], _, fun _ e => (by cases e; exact hE _ _ rfl), .refl _, by exact hI, ⟨rfl, rfl⟩⟩
              refine dcons ?_ ?_
              · intro _ _ H1492 fr1493 hle1494 hd1495
                obtain ⟨hv1497, hg1498⟩ := hd1495 22 (by decide)
                refine ⟨_, some (), rfl, fun _ => ?_⟩
                refine s_env (env' := [(102, .bool y149)]) (by exact ⟨congrArg some hv1497, trivial⟩) ?_
                refine o_mov rfl ?_
                exact s_pred fun _ _ _ hE hI => ⟨(.bool y149), [], _, fun _ e => (by cases e; exact hE _ _ rfl), .refl _, by exact hI, ⟨rfl, rfl⟩⟩
              refine dcons ?_ ?_
              · intro _ _ H1501 fr1502 hle1503 hd1504
                have hA1506 := All2.mono (fun _ _ => GoT.mono hle1503) hA120
                obtain ⟨hv1507, hg1508⟩ := hd1504 23 (by decide)
                refine ⟨_, some (), rfl, fun _ => ?_⟩
                refine s_env (env' := [(103, .bool y149), (1, .slice a11 y9.1.length c12)]) (by exact ⟨congrArg some hv1507, rfl, trivial⟩) ?_
                refine s_unwant rfl rfl h152 ?_
                exact s_pred fun _ _ _ hE hI => ⟨undef, [], _, fun _ e => (by cases e; exact hE _ _ rfl), .refl _, by exact hI, ⟨rfl, rfl⟩⟩
              refine dcons ?_ ?_
              · intro _ _ H1511 fr1512 hle1513 hd1514
                obtain ⟨hv1516, hg1517⟩ := hd1514 23 (by decide)
                obtain ⟨hv1518, hg1519⟩ := hd1514 24 (by decide)
                refine ⟨_, some (), rfl, fun _ => ?_⟩
                refine s_env (env' := [(103, .bool y149), (104, undef)]) (by exact ⟨congrArg some hv1516, congrArg some hv1518, trivial⟩) ?_
                refine s_unwant rfl rfl h152 ?_
                exact s_pred fun _ _ _ hE hI => ⟨undef, [], _, fun _ e => (by cases e; exact hE _ _ rfl), .refl _, by exact hI, ⟨rfl, rfl⟩⟩
              refine dcons ?_ ?_
              · intro _ _ H1522 fr1523 hle1524 hd1525
                obtain ⟨hv1527, hg1528⟩ := hd1525 23 (by decide)
                refine ⟨_, some (), rfl, fun _ => ?_⟩
                refine s_env (env' := [(103, .bool y149)]) (by exact ⟨congrArg some hv1527, trivial⟩) ?_
                refine s_unwant rfl rfl h152 ?_
                exact s_pred fun _ _ _ hE hI => ⟨undef, [], _, fun _ e => (by cases e; exact hE _ _ rfl), .refl _, by exact hI, ⟨rfl, rfl⟩⟩
              refine dcons ?_ ?_
              · intro _ _ H1531 fr1532 hle1533 hd1534
                obtain ⟨hv1536, hg1537⟩ := hd1534 23 (by decide)
                obtain ⟨hv1538, hg1539⟩ := hd1534 25 (by decide)
                obtain ⟨hv1540, hg1541⟩ := hd1534 26 (by decide)
                refine ⟨_, some (), rfl, fun _ => ?_⟩
                refine s_env (env' := [(103, .bool y149), (105, undef), (106, undef)]) (by exact ⟨congrArg some hv1536, congrArg some hv1538, congrArg some hv1540, trivial⟩) ?_
                refine s_unwant rfl rfl h152 ?_
                exact s_pred fun _ _ _ hE hI => ⟨undef, [], _, fun _ e => (by cases e; exact hE _ _ rfl), .refl _, by exact hI, ⟨rfl, rfl⟩⟩
              refine dcons ?_ ?_
              · intro _ _ H1544 fr1545 hle1546 hd1547
                obtain ⟨hv1549, hg1550⟩ := hd1547 23 (by decide)
                obtain ⟨hv1551, hg1552⟩ := hd1547 27 (by decide)
                refine ⟨_, some (), rfl, fun _ => ?_⟩
                refine s_env (env' := [(103, .bool y149), (107, undef)]) (by exact ⟨congrArg some hv1549, congrArg some hv1551, trivial⟩) ?_
                refine o_pickF rfl h152 rfl ?_
                exact s_pred fun _ _ _ hE hI => ⟨(.bool false), [], _, fun _ e => (by cases e; exact hE _ _ rfl), .refl _, by exact hI, ⟨rfl, rfl⟩⟩
              refine dcons ?_ ?_
              · intro _ _ H1555 fr1556 hle1557 hd1558
                obtain ⟨hv1560, hg1561⟩ := hd1558 28 (by decide)
                refine ⟨_, some (), rfl, fun _ => ?_⟩
                refine s_env (env' := [(108, .bool false)]) (by exact ⟨congrArg some hv1560, trivial⟩) ?_
                refine o_mov rfl ?_
                exact s_pred fun _ _ _ hE hI => ⟨(.bool false), [], _, fun _ e => (by cases e; exact hE _ _ rfl), .refl _, by exact hI, ⟨rfl, rfl⟩⟩
              refine dcons ?_ ?_
              · intro _ _ H1564 fr1565 hle1566 hd1567
                obtain ⟨hv1569, hg1570⟩ := hd1567 29 (by decide)
                refine ⟨_, some (), rfl, fun _ => ?_⟩
                refine s_env (env' := [(109, .bool false)]) (by exact ⟨congrArg some hv1569, trivial⟩) ?_
                refine s_unwant rfl rfl rfl ?_
                exact s_pred fun _ _ _ hE hI => ⟨undef, [], _, fun _ e => (by cases e; exact hE _ _ rfl), .refl _, by exact hI, ⟨rfl, rfl⟩⟩
              refine dcons ?_ ?_
              · intro _ _ H1573 fr1574 hle1575 hd1576
                obtain ⟨hv1578, hg1579⟩ := hd1576 29 (by decide)
                obtain ⟨hv1580, hg1581⟩ := hd1576 30 (by decide)
                refine ⟨_, some (), rfl, fun _ => ?_⟩
                refine s_env (env' := [(109, .bool false), (110, undef)]) (by exact ⟨congrArg some hv1578, congrArg some hv1580, trivial⟩) ?_
                refine s_unwant rfl rfl rfl ?_
                exact s_pred fun _ _ _ hE hI => ⟨undef, [], _, fun _ e => (by cases e; exact hE _ _ rfl), .refl _, by exact hI, ⟨rfl, rfl⟩⟩
              refine dcons ?_ ?_
              · intro _ _ H1584 fr1585 hle1586 hd1587
                obtain ⟨hv1589, hg1590⟩ := hd1587 29 (by decide)
                obtain ⟨hv1591, hg1592⟩ := hd1587 31 (by decide)
                refine ⟨_, some (), rfl, fun _ => ?_⟩
                refine s_env (env' := [(109, .bool false), (111, undef)]) (by exact ⟨congrArg some hv1589, congrArg some hv1591, trivial⟩) ?_
                refine s_unwant rfl rfl rfl ?_
                exact s_pred fun _ _ _ hE hI => ⟨undef, [], _, fun _ e => (by cases e; exact hE _ _ rfl), .refl _, by exact hI, ⟨rfl, rfl⟩⟩
              refine dcons ?_ ?_
              · intro _ _ H1595 fr1596 hle1597 hd1598
                obtain ⟨hv1600, hg1601⟩ := hd1598 29 (by decide)
                obtain ⟨hv1602, hg1603⟩ := hd1598 32 (by decide)
                refine ⟨_, some (), rfl, fun _ => ?_⟩
                refine s_env (env' := [(109, .bool false), (112, undef)]) (by exact ⟨congrArg some hv1600, congrArg some hv1602, trivial⟩) ?_
                refine o_pickF rfl rfl rfl ?_
                exact s_pred fun _ _ _ hE hI => ⟨(.bool false), [], _, fun _ e => (by cases e; exact hE _ _ rfl), .refl _, by exact hI, ⟨rfl, rfl⟩⟩
              exact dnil
            · intro V1606 G1607 H1604 hle1605 hF1608
              have hA1609 := All2.mono (fun _ _ => GoT.mono hle1605) hA120
              obtain ⟨hv1610, hg1611⟩ := hF1608 33 (show 33 < 34 by decide)
              refine s_env (env' := [(113, .bool false), (1, .slice a11 y9.1.length c12), (2, .int .i64 y9.2), (3, .pointer (some ⟨b15, 0, none⟩)), (14, .bool p117)]) (by exact ⟨congrArg some hv1610, rfl, rfl, rfl, rfl, trivial⟩) ?_
              refine s_own (List.sublist_append_left _ _) ?_
              refine o_asg rfl ?_
              refine s_done ?_
              exact s_retv (xs := [.tmp 0]) (vs := [.bool false]) [] fn_43 rfl ⟨rv_tmp rfl, trivial⟩ (.cons _ (.cons _ .slnil)) ⟨rfl, rfl⟩
        · refine s_drawL [(fun H v g => v = Value.int .i64 y9.2 ∧ g = []),
      (fun H v g => v = Value.bool (y9.2 == 0) ∧ g = []),
      (fun H v g => v = Value.bool (y9.2 == 0) ∧ g = []),
      (fun H v g => v = Value.slice a11 y9.1.length c12 ∧ g = []),
      (fun H v g => v = Value.agg #[.int .i64 0, .int .i64 0] ∧ g = []),
      (fun H v g => v = Value.agg #[.int .i64 0, .int .i64 0] ∧ g = []),
      (fun H v g => v = Value.agg #[.int .i64 y122.Switch, .int .i64 y122.Port] ∧ g = []),
      (fun H v g => v = Value.agg #[.int .i64 y125.Switch, .int .i64 y125.Port] ∧ g = []),
      (fun H v g => v = Value.agg #[.int .i64 y128.Switch, .int .i64 y128.Port] ∧ g = []),
      (fun H v g => v = Value.agg #[.int .i64 0, .int .i64 0] ∧ g = []),
      (fun H v g => v = Value.agg #[.int .i64 0, .int .i64 0] ∧ g = []),
      (fun H v g => ∃ b1615, v = Value.slice (some ⟨b1615, 0, none⟩) ([(⟨0, 0⟩ : End), (⟨0, 0⟩ : End), y122, y125, y128, (⟨0, 0⟩ : End), (⟨0, 0⟩ : End)] : List End).length 7 ∧ g = [] ∧ RSl H (some ⟨b1615, 0, none⟩) 7 ([(⟨0, 0⟩ : End), (⟨0, 0⟩ : End), y122, y125, y128, (⟨0, 0⟩ : End), (⟨0, 0⟩ : End)] : List End)),
      (fun H v g => v = Value.bool y134 ∧ g = []),
      (fun H v g => v = Value.bool y134 ∧ g = []),
      (fun H v g => v = Value.bool y134 ∧ g = []),
      (fun H v g => v = Value.bool p117 ∧ g = []),
      (fun H v g => v = Value.bool p117 ∧ g = []),
      (fun H v g => v = Value.bool p117 ∧ g = []),
      uF,
      uF,
      uF,
      uF,
      (fun H v g => v = Value.bool false ∧ g = []),
      (fun H v g => v = Value.bool false ∧ g = []),
      uF,
      uF,
      uF,
      uF,
      (fun H v g => v = Value.bool false ∧ g = []),
      (fun H v g => v = Value.bool false ∧ g = []),
      uF,
      uF,
      uF,
      (fun H v g => v = Value.bool false ∧ g = [])] [[], [], [], [], [], [], [], [], [], [], [], [], [], [], [], [], [], [], [], [], [], [], [], [], [], [], [], [], [], [], [], [], [], []] mixed ⟨m0, m0, m0, m0, m0, m0, m0, m0, m0, m0, m0, fun _ _ _ _ hle ⟨b1615, e1, e2, h0_⟩ => ⟨_, e1, e2, RSl.mono hle h0_⟩, m0, m0, m0, m0, m0, m0, m0, m0, m0, m0, m0, m0, m0, m0, m0, m0, m0, m0, m0, m0, m0, m0, trivial⟩ (by kernel_rfl) (by kernel_rfl) rfl (by kernel_rfl) rfl rfl ?_ ?_
          · refine dcons ?_ ?_
            · intro _ _ H1626 fr1627 hle1628 hd1629
              refine ⟨_, some (), rfl, fun _ => ?_⟩
              refine s_env (env' := [(2, .int .i64 y9.2)]) (by exact ⟨rfl, trivial⟩) ?_
              refine o_mov rfl ?_
              exact s_pred fun _ _ _ hE hI => ⟨(.int .i64 y9.2), [], _, fun _ e => (by cases e; exact hE _ _ rfl), .refl _, by exact hI, ⟨rfl, rfl⟩⟩
            refine dcons ?_ ?_
            · intro _ _ H1633 fr1634 hle1635 hd1636
              obtain ⟨hv1638, hg1639⟩ := hd1636 0 (by decide)
              refine ⟨_, some (), rfl, fun _ => ?_⟩
              refine s_env (env' := [(80, .int .i64 y9.2)]) (by exact ⟨congrArg some hv1638, trivial⟩) ?_
              refine o_eq rfl rfl ?_
              exact s_pred fun _ _ _ hE hI => ⟨(.bool (y9.2 == 0)), [], _, fun _ e => (by cases e; exact hE _ _ rfl), .refl _, by exact hI, ⟨rfl, rfl⟩⟩
            refine dcons ?_ ?_
            · intro _ _ H1642 fr1643 hle1644 hd1645
              obtain ⟨hv1647, hg1648⟩ := hd1645 1 (by decide)
              refine ⟨_, some (), rfl, fun _ => ?_⟩
              refine s_env (env' := [(81, .bool (y9.2 == 0))]) (by exact ⟨congrArg some hv1647, trivial⟩) ?_
              refine o_mov rfl ?_
              exact s_pred fun _ _ _ hE hI => ⟨(.bool (y9.2 == 0)), [], _, fun _ e => (by cases e; exact hE _ _ rfl), .refl _, by exact hI, ⟨rfl, rfl⟩⟩
            refine dcons ?_ ?_
            · intro _ _ H1651 fr1652 hle1653 hd1654
              have hA1656 := All2.mono (fun _ _ => GoT.mono hle1653) hA120
              obtain ⟨hv1657, hg1658⟩ := hd1654 2 (by decide)
              refine ⟨_, some (), rfl, fun _ => ?_⟩
              refine s_env (env' := [(82, .bool (y9.2 == 0)), (1, .slice a11 y9.1.length c12)]) (by exact ⟨congrArg some hv1657, rfl, trivial⟩) ?_
              refine s_want rfl rfl h121 ?_
              refine o_mov rfl ?_
              exact s_pred fun _ _ _ hE hI => ⟨(.slice a11 y9.1.length c12), [], _, fun _ e => (by cases e; exact hE _ _ rfl), .refl _, by exact hI, ⟨rfl, rfl⟩⟩
            refine dcons ?_ ?_
            · intro _ _ H1661 fr1662 hle1663 hd1664
              obtain ⟨hv1666, hg1667⟩ := hd1664 2 (by decide)
              refine ⟨_, some (), rfl, fun _ => ?_⟩
              refine s_env (env' := [(82, .bool (y9.2 == 0)), (3, .pointer (some ⟨b15, 0, none⟩))]) (by exact ⟨congrArg some hv1666, rfl, trivial⟩) ?_
              refine s_want rfl rfl h121 ?_
              refine o_ld 1 rfl rfl rfl ?_
              exact s_pred fun _ _ _ hE hI => ⟨(.agg #[.int .i64 0, .int .i64 0]), [], _, fun _ e => (by cases e; exact hE _ _ rfl), .refl _, by exact hI, ⟨rfl, rfl⟩⟩
            refine dcons ?_ ?_
            · intro _ _ H1670 fr1671 hle1672 hd1673
              obtain ⟨hv1675, hg1676⟩ := hd1673 2 (by decide)
              refine ⟨_, some (), rfl, fun _ => ?_⟩
              refine s_env (env' := [(82, .bool (y9.2 == 0)), (3, .pointer (some ⟨b15, 0, none⟩))]) (by exact ⟨congrArg some hv1675, rfl, trivial⟩) ?_
              refine s_want rfl rfl h121 ?_
              refine o_ld 1 rfl rfl rfl ?_
              exact s_pred fun _ _ _ hE hI => ⟨(.agg #[.int .i64 0, .int .i64 0]), [], _, fun _ e => (by cases e; exact hE _ _ rfl), .refl _, by exact hI, ⟨rfl, rfl⟩⟩
            refine dcons ?_ ?_
            · intro _ _ H1679 fr1680 hle1681 hd1682
              obtain ⟨hv1684, hg1685⟩ := hd1682 2 (by decide)
              refine ⟨_, (catenarylaw20_at k 1 1).bind some, by rw [h124]; rfl, fun _ => ?_⟩
              refine s_env (env' := [(82, .bool (y9.2 == 0))]) (by exact ⟨congrArg some hv1684, trivial⟩) ?_
              refine s_want rfl rfl h121 ?_
              refine s_bg fun y122 h1686 => ?_
              refine s_callF rfl rfl (catenarylaw20_at_ok k _ 1 1 h1686) ?_
              obtain rfl := Option.some.inj (h124.symm.trans h1686)
              exact s_pred fun _ _ _ hE hI => ⟨(.agg #[.int .i64 y122.Switch, .int .i64 y122.Port]), [], _, fun _ e => (by cases e; exact hE _ _ rfl), .refl _, by exact hI, ⟨rfl, rfl⟩⟩
            refine dcons ?_ ?_
            · intro _ _ H1689 fr1690 hle1691 hd1692
              obtain ⟨hv1694, hg1695⟩ := hd1692 2 (by decide)
              refine ⟨_, (catenarylaw20_at k 1 2).bind some, by rw [h127]; rfl, fun _ => ?_⟩
              refine s_env (env' := [(82, .bool (y9.2 == 0))]) (by exact ⟨congrArg some hv1694, trivial⟩) ?_
              refine s_want rfl rfl h121 ?_
              refine s_bg fun y125 h1696 => ?_
              refine s_callF rfl rfl (catenarylaw20_at_ok k _ 1 2 h1696) ?_
              obtain rfl := Option.some.inj (h127.symm.trans h1696)
              exact s_pred fun _ _ _ hE hI => ⟨(.agg #[.int .i64 y125.Switch, .int .i64 y125.Port]), [], _, fun _ e => (by cases e; exact hE _ _ rfl), .refl _, by exact hI, ⟨rfl, rfl⟩⟩
            refine dcons ?_ ?_
            · intro _ _ H1699 fr1700 hle1701 hd1702
              obtain ⟨hv1704, hg1705⟩ := hd1702 2 (by decide)
              refine ⟨_, (catenarylaw20_at k 3 3).bind some, by rw [h130]; rfl, fun _ => ?_⟩
              refine s_env (env' := [(82, .bool (y9.2 == 0))]) (by exact ⟨congrArg some hv1704, trivial⟩) ?_
              refine s_want rfl rfl h121 ?_
              refine s_bg fun y128 h1706 => ?_
              refine s_callF rfl rfl (catenarylaw20_at_ok k _ 3 3 h1706) ?_
              obtain rfl := Option.some.inj (h130.symm.trans h1706)
              exact s_pred fun _ _ _ hE hI => ⟨(.agg #[.int .i64 y128.Switch, .int .i64 y128.Port]), [], _, fun _ e => (by cases e; exact hE _ _ rfl), .refl _, by exact hI, ⟨rfl, rfl⟩⟩
            refine dcons ?_ ?_
            · intro _ _ H1709 fr1710 hle1711 hd1712
              obtain ⟨hv1714, hg1715⟩ := hd1712 2 (by decide)
              refine ⟨_, some (), rfl, fun _ => ?_⟩
              refine s_env (env' := [(82, .bool (y9.2 == 0)), (3, .pointer (some ⟨b15, 0, none⟩))]) (by exact ⟨congrArg some hv1714, rfl, trivial⟩) ?_
              refine s_want rfl rfl h121 ?_
              refine o_ld 1 rfl rfl rfl ?_
              exact s_pred fun _ _ _ hE hI => ⟨(.agg #[.int .i64 0, .int .i64 0]), [], _, fun _ e => (by cases e; exact hE _ _ rfl), .refl _, by exact hI, ⟨rfl, rfl⟩⟩
            refine dcons ?_ ?_
            · intro _ _ H1718 fr1719 hle1720 hd1721
              obtain ⟨hv1723, hg1724⟩ := hd1721 2 (by decide)
              refine ⟨_, some (), rfl, fun _ => ?_⟩
              refine s_env (env' := [(82, .bool (y9.2 == 0)), (3, .pointer (some ⟨b15, 0, none⟩))]) (by exact ⟨congrArg some hv1723, rfl, trivial⟩) ?_
              refine s_want rfl rfl h121 ?_
              refine o_ld 1 rfl rfl rfl ?_
              exact s_pred fun _ _ _ hE hI => ⟨(.agg #[.int .i64 0, .int .i64 0]), [], _, fun _ e => (by cases e; exact hE _ _ rfl), .refl _, by exact hI, ⟨rfl, rfl⟩⟩
            refine dcons ?_ ?_
            · intro _ _ H1727 fr1728 hle1729 hd1730
              obtain ⟨hv1732, hg1733⟩ := hd1730 2 (by decide)
              obtain ⟨hv1734, hg1735⟩ := hd1730 4 (by decide)
              obtain ⟨hv1736, hg1737⟩ := hd1730 5 (by decide)
              obtain ⟨hv1738, hg1739⟩ := hd1730 6 (by decide)
              obtain ⟨hv1740, hg1741⟩ := hd1730 7 (by decide)
              obtain ⟨hv1742, hg1743⟩ := hd1730 8 (by decide)
              obtain ⟨hv1744, hg1745⟩ := hd1730 9 (by decide)
              obtain ⟨hv1746, hg1747⟩ := hd1730 10 (by decide)
              refine ⟨_, some (), rfl, fun _ => ?_⟩
              refine s_env (env' := [(82, .bool (y9.2 == 0)), (84, .agg #[.int .i64 0, .int .i64 0]), (85, .agg #[.int .i64 0, .int .i64 0]), (86, .agg #[.int .i64 y122.Switch, .int .i64 y122.Port]), (87, .agg #[.int .i64 y125.Switch, .int .i64 y125.Port]), (88, .agg #[.int .i64 y128.Switch, .int .i64 y128.Port]), (89, .agg #[.int .i64 0, .int .i64 0]), (90, .agg #[.int .i64 0, .int .i64 0])]) (by exact ⟨congrArg some hv1732, congrArg some hv1734, congrArg some hv1736, congrArg some hv1738, congrArg some hv1740, congrArg some hv1742, congrArg some hv1744, congrArg some hv1746, trivial⟩) ?_
              refine s_want rfl rfl h121 ?_
              refine o_bsl (xs := [.tmp 84, .tmp 85, .tmp 86, .tmp 87, .tmp 88, .tmp 89, .tmp 90]) rfl rfl (by simp only [List.mem_cons, List.not_mem_nil, or_false, forall_eq_or_imp, forall_eq]; exact ⟨⟨rfl, rfl⟩, ⟨rfl, rfl⟩, ⟨rfl, rfl⟩, ⟨rfl, rfl⟩, ⟨rfl, rfl⟩, ⟨rfl, rfl⟩, ⟨rfl, rfl⟩⟩) rfl rfl fun b1748 => ?_
              have hA1749 : All2 (GoT.rep H1727) [[.int .i64 0, .int .i64 0], [.int .i64 0, .int .i64 0], [.int .i64 y122.Switch, .int .i64 y122.Port], [.int .i64 y125.Switch, .int .i64 y125.Port], [.int .i64 y128.Switch, .int .i64 y128.Port], [.int .i64 0, .int .i64 0], [.int .i64 0, .int .i64 0]] ([(⟨0, 0⟩ : End), (⟨0, 0⟩ : End), y122, y125, y128, (⟨0, 0⟩ : End), (⟨0, 0⟩ : End)] : List End) := all2_enc (([(⟨0, 0⟩ : End), (⟨0, 0⟩ : End), y122, y125, y128, (⟨0, 0⟩ : End), (⟨0, 0⟩ : End)] : List End))
              refine s_perm (own' := [.osl (.slice a11 y9.1.length c12) 2 26 (y9.1.map GoE.enc), .blk b15 (rowObj [.int .i64 0, .int .i64 0] 26), .osl (.slice (some ⟨b1748, 0, none⟩) ([(⟨0, 0⟩ : End), (⟨0, 0⟩ : End), y122, y125, y128, (⟨0, 0⟩ : End), (⟨0, 0⟩ : End)] : List End).length 7) 2 26 [[.int .i64 0, .int .i64 0], [.int .i64 0, .int .i64 0], [.int .i64 y122.Switch, .int .i64 y122.Port], [.int .i64 y125.Switch, .int .i64 y125.Port], [.int .i64 y128.Switch, .int .i64 y128.Port], [.int .i64 0, .int .i64 0], [.int .i64 0, .int .i64 0]]] ++ fr1728) (pm3 (a := [.osl (.slice a11 y9.1.length c12) 2 26 (y9.1.map GoE.enc), .blk b15 (rowObj [.int .i64 0, .int .i64 0] 26)]) (xs := [.osl (.slice (some ⟨b1748, 0, none⟩) ([(⟨0, 0⟩ : End), (⟨0, 0⟩ : End), y122, y125, y128, (⟨0, 0⟩ : End), (⟨0, 0⟩ : End)] : List End).length 7) 2 26 [[.int .i64 0, .int .i64 0], [.int .i64 0, .int .i64 0], [.int .i64 y122.Switch, .int .i64 y122.Port], [.int .i64 y125.Switch, .int .i64 y125.Port], [.int .i64 y128.Switch, .int .i64 y128.Port], [.int .i64 0, .int .i64 0], [.int .i64 0, .int .i64 0]]])) ?_
              refine s_frz 2 (fun b => .inl (by simp [ids])) rfl hA1749 fun H1751 hle1752 hn1753 hs1754 => ?_
              exact s_pred fun _ _ _ hE hI => ⟨(.slice (some ⟨b1748, 0, none⟩) ([(⟨0, 0⟩ : End), (⟨0, 0⟩ : End), y122, y125, y128, (⟨0, 0⟩ : End), (⟨0, 0⟩ : End)] : List End).length 7), [], _, fun _ e => (by cases e; exact hE _ _ rfl), hle1752, by exact hI, ⟨b1748, rfl, rfl, hs1754⟩⟩
            refine dcons ?_ ?_
            · intro _ _ H1757 fr1758 hle1759 hd1760
              have hA1762 := All2.mono (fun _ _ => GoT.mono hle1759) hA120
              obtain ⟨hv1763, hg1764⟩ := hd1760 2 (by decide)
              obtain ⟨hv1765, hg1766⟩ := hd1760 3 (by decide)
              obtain ⟨b1767, hv1768, hg1769, hp1770⟩ := hd1760 11 (by decide)
              refine ⟨_, (catenarylaw20_eq k y9.1 ([(⟨0, 0⟩ : End), (⟨0, 0⟩ : End), y122, y125, y128, (⟨0, 0⟩ : End), (⟨0, 0⟩ : End)] : List End)).bind some, by rw [h136]; rfl, fun _ => ?_⟩
              refine s_env (env' := [(82, .bool (y9.2 == 0)), (83, .slice a11 y9.1.length c12), (91, .slice (some ⟨b1767, 0, none⟩) ([(⟨0, 0⟩ : End), (⟨0, 0⟩ : End), y122, y125, y128, (⟨0, 0⟩ : End), (⟨0, 0⟩ : End)] : List End).length 7)]) (by exact ⟨congrArg some hv1763, congrArg some hv1765, congrArg some hv1768, trivial⟩) ?_
              refine s_want rfl rfl h121 ?_
              refine s_bg fun y134 h1771 => ?_
              refine s_callL (Φ := fun v out => v = _ ∧ out = []) [] _ rfl rfl (.refl _) (fun H' hle hl => catenarylaw20_eq_ok k _ y9.1 _ _ (lent_rsl (hl _ (List.mem_of_getElem? (i := 0) rfl)) hA1762 hle).2 ([(⟨0, 0⟩ : End), (⟨0, 0⟩ : End), y122, y125, y128, (⟨0, 0⟩ : End), (⟨0, 0⟩ : End)] : List End) _ _ (RSl.mono hle hp1770) h1771) ?_
              rintro _ _ ⟨rfl, rfl⟩
              refine s_ownN ?_
              obtain rfl := Option.some.inj (h136.symm.trans h1771)
              exact s_pred fun _ _ _ hE hI => ⟨(.bool y134), [], _, fun _ e => (by cases e; exact hE _ _ rfl), .refl _, by exact hI, ⟨rfl, rfl⟩⟩
            refine dcons ?_ ?_
            · intro _ _ H1774 fr1775 hle1776 hd1777
              obtain ⟨hv1779, hg1780⟩ := hd1777 2 (by decide)
              obtain ⟨hv1781, hg1782⟩ := hd1777 12 (by decide)
              refine ⟨_, some (), rfl, fun _ => ?_⟩
              refine s_env (env' := [(82, .bool (y9.2 == 0)), (92, .bool y134)]) (by exact ⟨congrArg some hv1779, congrArg some hv1781, trivial⟩) ?_
              refine o_pickT rfl h121 rfl ?_
              exact s_pred fun _ _ _ hE hI => ⟨(.bool y134), [], _, fun _ e => (by cases e; exact hE _ _ rfl), .refl _, by exact hI, ⟨rfl, rfl⟩⟩
            refine dcons ?_ ?_
            · intro _ _ H1785 fr1786 hle1787 hd1788
              obtain ⟨hv1790, hg1791⟩ := hd1788 13 (by decide)
              refine ⟨_, some (), rfl, fun _ => ?_⟩
              refine s_env (env' := [(93, .bool y134)]) (by exact ⟨congrArg some hv1790, trivial⟩) ?_
              refine o_mov rfl ?_
              exact s_pred fun _ _ _ hE hI => ⟨(.bool y134), [], _, fun _ e => (by cases e; exact hE _ _ rfl), .refl _, by exact hI, ⟨rfl, rfl⟩⟩
            refine dcons ?_ ?_
            · intro _ _ H1794 fr1795 hle1796 hd1797
              obtain ⟨hv1799, hg1800⟩ := hd1797 14 (by decide)
              refine ⟨_, some (), rfl, fun _ => ?_⟩
              refine s_env (env' := [(94, .bool y134), (14, .bool p117)]) (by exact ⟨congrArg some hv1799, rfl, trivial⟩) ?_
              refine s_want rfl rfl h137 ?_
              refine o_mov rfl ?_
              exact s_pred fun _ _ _ hE hI => ⟨(.bool p117), [], _, fun _ e => (by cases e; exact hE _ _ rfl), .refl _, by exact hI, ⟨rfl, rfl⟩⟩
            refine dcons ?_ ?_
            · intro _ _ H1803 fr1804 hle1805 hd1806
              obtain ⟨hv1808, hg1809⟩ := hd1806 14 (by decide)
              obtain ⟨hv1810, hg1811⟩ := hd1806 15 (by decide)
              refine ⟨_, some (), rfl, fun _ => ?_⟩
              refine s_env (env' := [(94, .bool y134), (95, .bool p117)]) (by exact ⟨congrArg some hv1808, congrArg some hv1810, trivial⟩) ?_
              refine o_pickT rfl h137 rfl ?_
              exact s_pred fun _ _ _ hE hI => ⟨(.bool p117), [], _, fun _ e => (by cases e; exact hE _ _ rfl), .refl _, by exact hI, ⟨rfl, rfl⟩⟩
            refine dcons ?_ ?_
            · intro _ _ H1814 fr1815 hle1816 hd1817
              obtain ⟨hv1819, hg1820⟩ := hd1817 16 (by decide)
              refine ⟨_, some (), rfl, fun _ => ?_⟩
              refine s_env (env' := [(96, .bool p117)]) (by exact ⟨congrArg some hv1819, trivial⟩) ?_
              refine o_mov rfl ?_
              exact s_pred fun _ _ _ hE hI => ⟨(.bool p117), [], _, fun _ e => (by cases e; exact hE _ _ rfl), .refl _, by exact hI, ⟨rfl, rfl⟩⟩
            refine dcons ?_ ?_
            · intro _ _ H1823 fr1824 hle1825 hd1826
              have hA1828 := All2.mono (fun _ _ => GoT.mono hle1825) hA120
              obtain ⟨hv1829, hg1830⟩ := hd1826 17 (by decide)
              refine ⟨_, some (), rfl, fun _ => ?_⟩
              refine s_env (env' := [(97, .bool p117), (1, .slice a11 y9.1.length c12)]) (by exact ⟨congrArg some hv1829, rfl, trivial⟩) ?_
              refine s_unwant rfl rfl h138 ?_
              exact s_pred fun _ _ _ hE hI => ⟨undef, [], _, fun _ e => (by cases e; exact hE _ _ rfl), .refl _, by exact hI, ⟨rfl, rfl⟩⟩
            refine dcons ?_ ?_
            · intro _ _ H1833 fr1834 hle1835 hd1836
              obtain ⟨hv1838, hg1839⟩ := hd1836 17 (by decide)
              obtain ⟨hv1840, hg1841⟩ := hd1836 18 (by decide)
              refine ⟨_, some (), rfl, fun _ => ?_⟩
              refine s_env (env' := [(97, .bool p117), (98, undef)]) (by exact ⟨congrArg some hv1838, congrArg some hv1840, trivial⟩) ?_
              refine s_unwant rfl rfl h138 ?_
              exact s_pred fun _ _ _ hE hI => ⟨undef, [], _, fun _ e => (by cases e; exact hE _ _ rfl), .refl _, by exact hI, ⟨rfl, rfl⟩⟩
            refine dcons ?_ ?_
            · intro _ _ H1844 fr1845 hle1846 hd1847
              obtain ⟨hv1849, hg1850⟩ := hd1847 17 (by decide)
              refine ⟨_, some (), rfl, fun _ => ?_⟩
              refine s_env (env' := [(97, .bool p117)]) (by exact ⟨congrArg some hv1849, trivial⟩) ?_
              refine s_unwant rfl rfl h138 ?_
              exact s_pred fun _ _ _ hE hI => ⟨undef, [], _, fun _ e => (by cases e; exact hE _ _ rfl), .refl _, by exact hI, ⟨rfl, rfl⟩⟩
            refine dcons ?_ ?_
            · intro _ _ H1853 fr1854 hle1855 hd1856
              obtain ⟨hv1858, hg1859⟩ := hd1856 17 (by decide)
              obtain ⟨hv1860, hg1861⟩ := hd1856 19 (by decide)
              obtain ⟨hv1862, hg1863⟩ := hd1856 20 (by decide)
              refine ⟨_, some (), rfl, fun _ => ?_⟩
              refine s_env (env' := [(97, .bool p117), (99, undef), (100, undef)]) (by exact ⟨congrArg some hv1858, congrArg some hv1860, congrArg some hv1862, trivial⟩) ?_
              refine s_unwant rfl rfl h138 ?_
              exact s_pred fun _ _ _ hE hI => ⟨undef, [], _, fun _ e => (by cases e; exact hE _ _ rfl), .refl _, by exact hI, ⟨rfl, rfl⟩⟩
            refine dcons ?_ ?_
            · intro _ _ H1866 fr1867 hle1868 hd1869
              obtain ⟨hv1871, hg1872⟩ := hd1869 17 (by decide)
              obtain ⟨hv1873, hg1874⟩ := hd1869 21 (by decide)
              refine ⟨_, some (), rfl, fun _ => ?_⟩
              refine s_env (env' := [(97, .bool p117), (101, undef)]) (by exact ⟨congrArg some hv1871, congrArg some hv1873, trivial⟩) ?_
              refine o_pickF rfl h138 rfl ?_
              exact s_pred fun _ _ _ hE hI => ⟨(.bool false), [], _, fun _ e => (by cases e; exact hE _ _ rfl), .refl _, by exact hI, ⟨rfl, rfl⟩⟩
            refine dcons ?_ ?_
            · intro _ _ H1877 fr1878 hle1879 hd1880
              obtain ⟨hv1882, hg1883⟩ := hd1880 22 (by decide)
              refine ⟨_, some (), rfl, fun _ => ?_⟩
              refine s_env (env' := [(102, .bool false)]) (by exact ⟨congrArg some hv1882, trivial⟩) ?_
              refine o_mov rfl ?_
              exact s_pred fun _ _ _ hE hI => ⟨(.bool false), [], _, fun _ e => (by cases e; exact hE _ _ rfl), .refl _, by exact hI, ⟨rfl, rfl⟩⟩
            refine dcons ?_ ?_
            · intro _ _ H1886 fr1887 hle1888 hd1889
              have hA1891 := All2.mono (fun _ _ => GoT.mono hle1888) hA120
              obtain ⟨hv1892, hg1893⟩ := hd1889 23 (by decide)
              refine ⟨_, some (), rfl, fun _ => ?_⟩
              refine s_env (env' := [(103, .bool false), (1, .slice a11 y9.1.length c12)]) (by exact ⟨congrArg some hv1892, rfl, trivial⟩) ?_
              refine s_unwant rfl rfl rfl ?_
              exact s_pred fun _ _ _ hE hI => ⟨undef, [], _, fun _ e => (by cases e; exact hE _ _ rfl), .refl _, by exact hI, ⟨rfl, rfl⟩⟩
            refine dcons ?_ ?_
            · intro _ _ H1896 fr1897 hle1898 hd1899
              obtain ⟨hv1901, hg1902⟩ := hd1899 23 (by decide)
              obtain ⟨hv1903, hg1904⟩ := hd1899 24 (by decide)
              refine ⟨_, some (), rfl, fun _ => ?_⟩
              refine s_env (env' := [(103, .bool false), (104, undef)]) (by exact ⟨congrArg some hv1901, congrArg some hv1903, trivial⟩) ?_
              refine s_unwant rfl rfl rfl ?_
              exact s_pred fun _ _ _ hE hI => ⟨undef, [], _, fun _ e => (by cases e; exact hE _ _ rfl), .refl _, by exact hI, ⟨rfl, rfl⟩⟩
            refine dcons ?_ ?_
            · intro _ _ H1907 fr1908 hle1909 hd1910
              obtain ⟨hv1912, hg1913⟩ := hd1910 23 (by decide)
              refine ⟨_, some (), rfl, fun _ => ?_⟩
              refine s_env (env' := [(103, .bool false)]) (by exact ⟨congrArg some hv1912, trivial⟩) ?_
              refine s_unwant rfl rfl rfl ?_
              exact s_pred fun _ _ _ hE hI => ⟨undef, [], _, fun _ e => (by cases e; exact hE _ _ rfl), .refl _, by exact hI, ⟨rfl, rfl⟩⟩
            refine dcons ?_ ?_
            · intro _ _ H1916 fr1917 hle1918 hd1919
              obtain ⟨hv1921, hg1922⟩ := hd1919 23 (by decide)
              obtain ⟨hv1923, hg1924⟩ := hd1919 25 (by decide)
              obtain ⟨hv1925, hg1926⟩ := hd1919 26 (by decide)
              refine ⟨_, some (), rfl, fun _ => ?_⟩
              refine s_env (env' := [(103, .bool false), (105, undef), (106, undef)]) (by exact ⟨congrArg some hv1921, congrArg some hv1923, congrArg some hv1925, trivial⟩) ?_
              refine s_unwant rfl rfl rfl ?_
              exact s_pred fun _ _ _ hE hI => ⟨undef, [], _, fun _ e => (by cases e; exact hE _ _ rfl), .refl _, by exact hI, ⟨rfl, rfl⟩⟩
            refine dcons ?_ ?_
            · intro _ _ H1929 fr1930 hle1931 hd1932
              obtain ⟨hv1934, hg1935⟩ := hd1932 23 (by decide)
              obtain ⟨hv1936, hg1937⟩ := hd1932 27 (by decide)
              refine ⟨_, some (), rfl, fun _ => ?_⟩
              refine s_env (env' := [(103, .bool false), (107, undef)]) (by exact ⟨congrArg some hv1934, congrArg some hv1936, trivial⟩) ?_
              refine o_pickF rfl rfl rfl ?_
              exact s_pred fun _ _ _ hE hI => ⟨(.bool false), [], _, fun _ e => (by cases e; exact hE _ _ rfl), .refl _, by exact hI, ⟨rfl, rfl⟩⟩
            refine dcons ?_ ?_
            · intro _ _ H1940 fr1941 hle1942 hd1943
              obtain ⟨hv1945, hg1946⟩ := hd1943 28 (by decide)
              refine ⟨_, some (), rfl, fun _ => ?_⟩
              refine s_env (env' := [(108, .bool false)]) (by exact ⟨congrArg some hv1945, trivial⟩) ?_
              refine o_mov rfl ?_
              exact s_pred fun _ _ _ hE hI => ⟨(.bool false), [], _, fun _ e => (by cases e; exact hE _ _ rfl), .refl _, by exact hI, ⟨rfl, rfl⟩⟩
            refine dcons ?_ ?_
            · intro _ _ H1949 fr1950 hle1951 hd1952
              obtain ⟨hv1954, hg1955⟩ := hd1952 29 (by decide)
              refine ⟨_, some (), rfl, fun _ => ?_⟩
              refine s_env (env' := [(109, .bool false)]) (by exact ⟨congrArg some hv1954, trivial⟩) ?_
              refine s_unwant rfl rfl rfl ?_
              exact s_pred fun _ _ _ hE hI => ⟨undef, [], _, fun _ e => (by cases e; exact hE _ _ rfl), .refl _, by exact hI, ⟨rfl, rfl⟩⟩
            refine dcons ?_ ?_
            · intro _ _ H1958 fr1959 hle1960 hd1961
              obtain ⟨hv1963, hg1964⟩ := hd1961 29 (by decide)
              obtain ⟨hv1965, hg1966⟩ := hd1961 30 (by decide)
              refine ⟨_, some (), rfl, fun _ => ?_⟩
              refine s_env (env' := [(109, .bool false), (110, undef)]) (by exact ⟨congrArg some hv1963, congrArg some hv1965, trivial⟩) ?_
              refine s_unwant rfl rfl rfl ?_
              exact s_pred fun _ _ _ hE hI => ⟨undef, [], _, fun _ e => (by cases e; exact hE _ _ rfl), .refl _, by exact hI, ⟨rfl, rfl⟩⟩
            refine dcons ?_ ?_
            · intro _ _ H1969 fr1970 hle1971 hd1972
              obtain ⟨hv1974, hg1975⟩ := hd1972 29 (by decide)
              obtain ⟨hv1976, hg1977⟩ := hd1972 31 (by decide)
              refine ⟨_, some (), rfl, fun _ => ?_⟩
              refine s_env (env' := [(109, .bool false), (111, undef)]) (by exact ⟨congrArg some hv1974, congrArg some hv1976, trivial⟩) ?_
              refine s_unwant rfl rfl rfl ?_
              exact s_pred fun _ _ _ hE hI => ⟨undef, [], _, fun _ e => (by cases e; exact hE _ _ rfl), .refl _, by exact hI, ⟨rfl, rfl⟩⟩
            refine dcons ?_ ?_
            · intro _ _ H1980 fr1981 hle1982 hd1983
              obtain ⟨hv1985, hg1986⟩ := hd1983 29 (by decide)
              obtain ⟨hv1987, hg1988⟩ := hd1983 32 (by decide)
              refine ⟨_, some (), rfl, fun _ => ?_⟩
              refine s_env (env' := [(109, .bool false), (112, undef)]) (by exact ⟨congrArg some hv1985, congrArg some hv1987, trivial⟩) ?_
              refine o_pickF rfl rfl rfl ?_
              exact s_pred fun _ _ _ hE hI => ⟨(.bool false), [], _, fun _ e => (by cases e; exact hE _ _ rfl), .refl _, by exact hI, ⟨rfl, rfl⟩⟩
            exact dnil
          · intro V1991 G1992 H1989 hle1990 hF1993
            have hA1994 := All2.mono (fun _ _ => GoT.mono hle1990) hA120
            obtain ⟨hv1995, hg1996⟩ := hF1993 33 (show 33 < 34 by decide)
            refine s_env (env' := [(113, .bool false), (1, .slice a11 y9.1.length c12), (2, .int .i64 y9.2), (3, .pointer (some ⟨b15, 0, none⟩)), (14, .bool p117)]) (by exact ⟨congrArg some hv1995, rfl, rfl, rfl, rfl, trivial⟩) ?_
            refine s_own (List.sublist_append_left _ _) ?_
            refine o_asg rfl ?_
            refine s_done ?_
            exact s_retv (xs := [.tmp 0]) (vs := [.bool false]) [] fn_43 rfl ⟨rv_tmp rfl, trivial⟩ (.cons _ (.cons _ .slnil)) ⟨rfl, rfl⟩
      · refine s_drawL [(fun H v g => v = Value.int .i64 y9.2 ∧ g = []),
      (fun H v g => v = Value.bool (y9.2 == 0) ∧ g = []),
      (fun H v g => v = Value.bool (y9.2 == 0) ∧ g = []),
      (fun H v g => v = Value.slice a11 y9.1.length c12 ∧ g = []),
      (fun H v g => v = Value.agg #[.int .i64 0, .int .i64 0] ∧ g = []),
      (fun H v g => v = Value.agg #[.int .i64 0, .int .i64 0] ∧ g = []),
      (fun H v g => v = Value.agg #[.int .i64 y122.Switch, .int .i64 y122.Port] ∧ g = []),
      (fun H v g => v = Value.agg #[.int .i64 y125.Switch, .int .i64 y125.Port] ∧ g = []),
      (fun H v g => v = Value.agg #[.int .i64 y128.Switch, .int .i64 y128.Port] ∧ g = []),
      (fun H v g => v = Value.agg #[.int .i64 0, .int .i64 0] ∧ g = []),
      (fun H v g => v = Value.agg #[.int .i64 0, .int .i64 0] ∧ g = []),
      (fun H v g => ∃ b2000, v = Value.slice (some ⟨b2000, 0, none⟩) ([(⟨0, 0⟩ : End), (⟨0, 0⟩ : End), y122, y125, y128, (⟨0, 0⟩ : End), (⟨0, 0⟩ : End)] : List End).length 7 ∧ g = [] ∧ RSl H (some ⟨b2000, 0, none⟩) 7 ([(⟨0, 0⟩ : End), (⟨0, 0⟩ : End), y122, y125, y128, (⟨0, 0⟩ : End), (⟨0, 0⟩ : End)] : List End)),
      (fun H v g => v = Value.bool y134 ∧ g = []),
      (fun H v g => v = Value.bool y134 ∧ g = []),
      (fun H v g => v = Value.bool y134 ∧ g = []),
      uF,
      (fun H v g => v = Value.bool false ∧ g = []),
      (fun H v g => v = Value.bool false ∧ g = []),
      uF,
      uF,
      uF,
      uF,
      (fun H v g => v = Value.bool false ∧ g = []),
      (fun H v g => v = Value.bool false ∧ g = []),
      uF,
      uF,
      uF,
      uF,
      (fun H v g => v = Value.bool false ∧ g = []),
      (fun H v g => v = Value.bool false ∧ g = []),
      uF,
      uF,
      uF,
      (fun H v g => v = Value.bool false ∧ g = [])] [[], [], [], [], [], [], [], [], [], [], [], [], [], [], [], [], [], [], [], [], [], [], [], [], [], [], [], [], [], [], [], [], [], []] mixed ⟨m0, m0, m0, m0, m0, m0, m0, m0, m0, m0, m0, fun _ _ _ _ hle ⟨b2000, e1, e2, h0_⟩ => ⟨_, e1, e2, RSl.mono hle h0_⟩, m0, m0, m0, m0, m0, m0, m0, m0, m0, m0, m0, m0, m0, m0, m0, m0, m0, m0, m0, m0, m0, m0, trivial⟩ (by kernel_rfl) (by kernel_rfl) rfl (by kernel_rfl) rfl rfl ?_ ?_
        · refine dcons ?_ ?_
          · intro _ _ H2011 fr2012 hle2013 hd2014
            refine ⟨_, some (), rfl, fun _ => ?_⟩
            refine s_env (env' := [(2, .int .i64 y9.2)]) (by exact ⟨rfl, trivial⟩) ?_
            refine o_mov rfl ?_
            exact s_pred fun _ _ _ hE hI => ⟨(.int .i64 y9.2), [], _, fun _ e => (by cases e; exact hE _ _ rfl), .refl _, by exact hI, ⟨rfl, rfl⟩⟩
          refine dcons ?_ ?_
          · intro _ _ H2018 fr2019 hle2020 hd2021
            obtain ⟨hv2023, hg2024⟩ := hd2021 0 (by decide)
            refine ⟨_, some (), rfl, fun _ => ?_⟩
            refine s_env (env' := [(80, .int .i64 y9.2)]) (by exact ⟨congrArg some hv2023, trivial⟩) ?_
            refine o_eq rfl rfl ?_
            exact s_pred fun _ _ _ hE hI => ⟨(.bool (y9.2 == 0)), [], _, fun _ e => (by cases e; exact hE _ _ rfl), .refl _, by exact hI, ⟨rfl, rfl⟩⟩
          refine dcons ?_ ?_
          · intro _ _ H2027 fr2028 hle2029 hd2030
            obtain ⟨hv2032, hg2033⟩ := hd2030 1 (by decide)
            refine ⟨_, some (), rfl, fun _ => ?_⟩
            refine s_env (env' := [(81, .bool (y9.2 == 0))]) (by exact ⟨congrArg some hv2032, trivial⟩) ?_
            refine o_mov rfl ?_
            exact s_pred fun _ _ _ hE hI => ⟨(.bool (y9.2 == 0)), [], _, fun _ e => (by cases e; exact hE _ _ rfl), .refl _, by exact hI, ⟨rfl, rfl⟩⟩
          refine dcons ?_ ?_
          · intro _ _ H2036 fr2037 hle2038 hd2039
            have hA2041 := All2.mono (fun _ _ => GoT.mono hle2038) hA120
            obtain ⟨hv2042, hg2043⟩ := hd2039 2 (by decide)
            refine ⟨_, some (), rfl, fun _ => ?_⟩
            refine s_env (env' := [(82, .bool (y9.2 == 0)), (1, .slice a11 y9.1.length c12)]) (by exact ⟨congrArg some hv2042, rfl, trivial⟩) ?_
            refine s_want rfl rfl h121 ?_
            refine o_mov rfl ?_
            exact s_pred fun _ _ _ hE hI => ⟨(.slice a11 y9.1.length c12), [], _, fun _ e => (by cases e; exact hE _ _ rfl), .refl _, by exact hI, ⟨rfl, rfl⟩⟩
          refine dcons ?_ ?_
          · intro _ _ H2046 fr2047 hle2048 hd2049
            obtain ⟨hv2051, hg2052⟩ := hd2049 2 (by decide)
            refine ⟨_, some (), rfl, fun _ => ?_⟩
            refine s_env (env' := [(82, .bool (y9.2 == 0)), (3, .pointer (some ⟨b15, 0, none⟩))]) (by exact ⟨congrArg some hv2051, rfl, trivial⟩) ?_
            refine s_want rfl rfl h121 ?_
            refine o_ld 1 rfl rfl rfl ?_
            exact s_pred fun _ _ _ hE hI => ⟨(.agg #[.int .i64 0, .int .i64 0]), [], _, fun _ e => (by cases e; exact hE _ _ rfl), .refl _, by exact hI, ⟨rfl, rfl⟩⟩
          refine dcons ?_ ?_
          · intro _ _ H2055 fr2056 hle2057 hd2058
            obtain ⟨hv2060, hg2061⟩ := hd2058 2 (by decide)
            refine ⟨_, some (), rfl, fun _ => ?_⟩
            refine s_env (env' := [(82, .bool (y9.2 == 0)), (3, .pointer (some ⟨b15, 0, none⟩))]) (by exact ⟨congrArg some hv2060, rfl, trivial⟩) ?_
            refine s_want rfl rfl h121 ?_
            refine o_ld 1 rfl rfl rfl ?_
            exact s_pred fun _ _ _ hE hI => ⟨(.agg #[.int .i64 0, .int .i64 0]), [], _, fun _ e => (by cases e; exact hE _ _ rfl), .refl _, by exact hI, ⟨rfl, rfl⟩⟩
          refine dcons ?_ ?_
          · intro _ _ H2064 fr2065 hle2066 hd2067
            obtain ⟨hv2069, hg2070⟩ := hd2067 2 (by decide)
            refine ⟨_, (catenarylaw20_at k 1 1).bind some, by rw [h124]; rfl, fun _ => ?_⟩
            refine s_env (env' := [(82, .bool (y9.2 == 0))]) (by exact ⟨congrArg some hv2069, trivial⟩) ?_
            refine s_want rfl rfl h121 ?_
            refine s_bg fun y122 h2071 => ?_
            refine s_callF rfl rfl (catenarylaw20_at_ok k _ 1 1 h2071) ?_
            obtain rfl := Option.some.inj (h124.symm.trans h2071)
            exact s_pred fun _ _ _ hE hI => ⟨(.agg #[.int .i64 y122.Switch, .int .i64 y122.Port]), [], _, fun _ e => (by cases e; exact hE _ _ rfl), .refl _, by exact hI, ⟨rfl, rfl⟩⟩
          refine dcons ?_ ?_
          · intro _ _ H2074 fr2075 hle2076 hd2077
            obtain ⟨hv2079, hg2080⟩ := hd2077 2 (by decide)
            refine ⟨_, (catenarylaw20_at k 1 2).bind some, by rw [h127]; rfl, fun _ => ?_⟩
            refine s_env (env' := [(82, .bool (y9.2 == 0))]) (by exact ⟨congrArg some hv2079, trivial⟩) ?_
            refine s_want rfl rfl h121 ?_
            refine s_bg fun y125 h2081 => ?_
            refine s_callF rfl rfl (catenarylaw20_at_ok k _ 1 2 h2081) ?_
            obtain rfl := Option.some.inj (h127.symm.trans h2081)
            exact s_pred fun _ _ _ hE hI => ⟨(.agg #[.int .i64 y125.Switch, .int .i64 y125.Port]), [], _, fun _ e => (by cases e; exact hE _ _ rfl), .refl _, by exact hI, ⟨rfl, rfl⟩⟩
          refine dcons ?_ ?_
          · intro _ _ H2084 fr2085 hle2086 hd2087
            obtain ⟨hv2089, hg2090⟩ := hd2087 2 (by decide)
            refine ⟨_, (catenarylaw20_at k 3 3).bind some, by rw [h130]; rfl, fun _ => ?_⟩
            refine s_env (env' := [(82, .bool (y9.2 == 0))]) (by exact ⟨congrArg some hv2089, trivial⟩) ?_
            refine s_want rfl rfl h121 ?_
            refine s_bg fun y128 h2091 => ?_
            refine s_callF rfl rfl (catenarylaw20_at_ok k _ 3 3 h2091) ?_
            obtain rfl := Option.some.inj (h130.symm.trans h2091)
            exact s_pred fun _ _ _ hE hI => ⟨(.agg #[.int .i64 y128.Switch, .int .i64 y128.Port]), [], _, fun _ e => (by cases e; exact hE _ _ rfl), .refl _, by exact hI, ⟨rfl, rfl⟩⟩
          refine dcons ?_ ?_
          · intro _ _ H2094 fr2095 hle2096 hd2097
            obtain ⟨hv2099, hg2100⟩ := hd2097 2 (by decide)
            refine ⟨_, some (), rfl, fun _ => ?_⟩
            refine s_env (env' := [(82, .bool (y9.2 == 0)), (3, .pointer (some ⟨b15, 0, none⟩))]) (by exact ⟨congrArg some hv2099, rfl, trivial⟩) ?_
            refine s_want rfl rfl h121 ?_
            refine o_ld 1 rfl rfl rfl ?_
            exact s_pred fun _ _ _ hE hI => ⟨(.agg #[.int .i64 0, .int .i64 0]), [], _, fun _ e => (by cases e; exact hE _ _ rfl), .refl _, by exact hI, ⟨rfl, rfl⟩⟩
          refine dcons ?_ ?_
          · intro _ _ H2103 fr2104 hle2105 hd2106
            obtain ⟨hv2108, hg2109⟩ := hd2106 2 (by decide)
            refine ⟨_, some (), rfl, fun _ => ?_⟩
            refine s_env (env' := [(82, .bool (y9.2 == 0)), (3, .pointer (some ⟨b15, 0, none⟩))]) (by exact ⟨congrArg some hv2108, rfl, trivial⟩) ?_
            refine s_want rfl rfl h121 ?_
            refine o_ld 1 rfl rfl rfl ?_
            exact s_pred fun _ _ _ hE hI => ⟨(.agg #[.int .i64 0, .int .i64 0]), [], _, fun _ e => (by cases e; exact hE _ _ rfl), .refl _, by exact hI, ⟨rfl, rfl⟩⟩
          refine dcons ?_ ?_
          · intro _ _ H2112 fr2113 hle2114 hd2115
            obtain ⟨hv2117, hg2118⟩ := hd2115 2 (by decide)
            obtain ⟨hv2119, hg2120⟩ := hd2115 4 (by decide)
            obtain ⟨hv2121, hg2122⟩ := hd2115 5 (by decide)
            obtain ⟨hv2123, hg2124⟩ := hd2115 6 (by decide)
            obtain ⟨hv2125, hg2126⟩ := hd2115 7 (by decide)
            obtain ⟨hv2127, hg2128⟩ := hd2115 8 (by decide)
            obtain ⟨hv2129, hg2130⟩ := hd2115 9 (by decide)
            obtain ⟨hv2131, hg2132⟩ := hd2115 10 (by decide)
            refine ⟨_, some (), rfl, fun _ => ?_⟩
            refine s_env (env' := [(82, .bool (y9.2 == 0)), (84, .agg #[.int .i64 0, .int .i64 0]), (85, .agg #[.int .i64 0, .int .i64 0]), (86, .agg #[.int .i64 y122.Switch, .int .i64 y122.Port]), (87, .agg #[.int .i64 y125.Switch, .int .i64 y125.Port]), (88, .agg #[.int .i64 y128.Switch, .int .i64 y128.Port]), (89, .agg #[.int .i64 0, .int .i64 0]), (90, .agg #[.int .i64 0, .int .i64 0])]) (by exact ⟨congrArg some hv2117, congrArg some hv2119, congrArg some hv2121, congrArg some hv2123, congrArg some hv2125, congrArg some hv2127, congrArg some hv2129, congrArg some hv2131, trivial⟩) ?_
            refine s_want rfl rfl h121 ?_
            refine o_bsl (xs := [.tmp 84, .tmp 85, .tmp 86, .tmp 87, .tmp 88, .tmp 89, .tmp 90]) rfl rfl (by simp only [List.mem_cons, List.not_mem_nil, or_false, forall_eq_or_imp, forall_eq]; exact ⟨⟨rfl, rfl⟩, ⟨rfl, rfl⟩, ⟨rfl, rfl⟩, ⟨rfl, rfl⟩, ⟨rfl, rfl⟩, ⟨rfl, rfl⟩, ⟨rfl, rfl⟩⟩) rfl rfl fun b2133 => ?_
            have hA2134 : All2 (GoT.rep H2112) [[.int .i64 0, .int .i64 0], [.int .i64 0, .int .i64 0], [.int .i64 y122.Switch, .int .i64 y122.Port], [.int .i64 y125.Switch, .int .i64 y125.Port], [.int .i64 y128.Switch, .int .i64 y128.Port], [.int .i64 0, .int .i64 0], [.int .i64 0, .int .i64 0]] ([(⟨0, 0⟩ : End), (⟨0, 0⟩ : End), y122, y125, y128, (⟨0, 0⟩ : End), (⟨0, 0⟩ : End)] : List End) := all2_enc (([(⟨0, 0⟩ : End), (⟨0, 0⟩ : End), y122, y125, y128, (⟨0, 0⟩ : End), (⟨0, 0⟩ : End)] : List End))
            refine s_perm (own' := [.osl (.slice a11 y9.1.length c12) 2 26 (y9.1.map GoE.enc), .blk b15 (rowObj [.int .i64 0, .int .i64 0] 26), .osl (.slice (some ⟨b2133, 0, none⟩) ([(⟨0, 0⟩ : End), (⟨0, 0⟩ : End), y122, y125, y128, (⟨0, 0⟩ : End), (⟨0, 0⟩ : End)] : List End).length 7) 2 26 [[.int .i64 0, .int .i64 0], [.int .i64 0, .int .i64 0], [.int .i64 y122.Switch, .int .i64 y122.Port], [.int .i64 y125.Switch, .int .i64 y125.Port], [.int .i64 y128.Switch, .int .i64 y128.Port], [.int .i64 0, .int .i64 0], [.int .i64 0, .int .i64 0]]] ++ fr2113) (pm3 (a := [.osl (.slice a11 y9.1.length c12) 2 26 (y9.1.map GoE.enc), .blk b15 (rowObj [.int .i64 0, .int .i64 0] 26)]) (xs := [.osl (.slice (some ⟨b2133, 0, none⟩) ([(⟨0, 0⟩ : End), (⟨0, 0⟩ : End), y122, y125, y128, (⟨0, 0⟩ : End), (⟨0, 0⟩ : End)] : List End).length 7) 2 26 [[.int .i64 0, .int .i64 0], [.int .i64 0, .int .i64 0], [.int .i64 y122.Switch, .int .i64 y122.Port], [.int .i64 y125.Switch, .int .i64 y125.Port], [.int .i64 y128.Switch, .int .i64 y128.Port], [.int .i64 0, .int .i64 0], [.int .i64 0, .int .i64 0]]])) ?_
            refine s_frz 2 (fun b => .inl (by simp [ids])) rfl hA2134 fun H2136 hle2137 hn2138 hs2139 => ?_
            exact s_pred fun _ _ _ hE hI => ⟨(.slice (some ⟨b2133, 0, none⟩) ([(⟨0, 0⟩ : End), (⟨0, 0⟩ : End), y122, y125, y128, (⟨0, 0⟩ : End), (⟨0, 0⟩ : End)] : List End).length 7), [], _, fun _ e => (by cases e; exact hE _ _ rfl), hle2137, by exact hI, ⟨b2133, rfl, rfl, hs2139⟩⟩
          refine dcons ?_ ?_
          · intro _ _ H2142 fr2143 hle2144 hd2145
            have hA2147 := All2.mono (fun _ _ => GoT.mono hle2144) hA120
            obtain ⟨hv2148, hg2149⟩ := hd2145 2 (by decide)
            obtain ⟨hv2150, hg2151⟩ := hd2145 3 (by decide)
            obtain ⟨b2152, hv2153, hg2154, hp2155⟩ := hd2145 11 (by decide)
            refine ⟨_, (catenarylaw20_eq k y9.1 ([(⟨0, 0⟩ : End), (⟨0, 0⟩ : End), y122, y125, y128, (⟨0, 0⟩ : End), (⟨0, 0⟩ : End)] : List End)).bind some, by rw [h136]; rfl, fun _ => ?_⟩
            refine s_env (env' := [(82, .bool (y9.2 == 0)), (83, .slice a11 y9.1.length c12), (91, .slice (some ⟨b2152, 0, none⟩) ([(⟨0, 0⟩ : End), (⟨0, 0⟩ : End), y122, y125, y128, (⟨0, 0⟩ : End), (⟨0, 0⟩ : End)] : List End).length 7)]) (by exact ⟨congrArg some hv2148, congrArg some hv2150, congrArg some hv2153, trivial⟩) ?_
            refine s_want rfl rfl h121 ?_
            refine s_bg fun y134 h2156 => ?_
            refine s_callL (Φ := fun v out => v = _ ∧ out = []) [] _ rfl rfl (.refl _) (fun H' hle hl => catenarylaw20_eq_ok k _ y9.1 _ _ (lent_rsl (hl _ (List.mem_of_getElem? (i := 0) rfl)) hA2147 hle).2 ([(⟨0, 0⟩ : End), (⟨0, 0⟩ : End), y122, y125, y128, (⟨0, 0⟩ : End), (⟨0, 0⟩ : End)] : List End) _ _ (RSl.mono hle hp2155) h2156) ?_
            rintro _ _ ⟨rfl, rfl⟩
            refine s_ownN ?_
            obtain rfl := Option.some.inj (h136.symm.trans h2156)
            exact s_pred fun _ _ _ hE hI => ⟨(.bool y134), [], _, fun _ e => (by cases e; exact hE _ _ rfl), .refl _, by exact hI, ⟨rfl, rfl⟩⟩
          refine dcons ?_ ?_
          · intro _ _ H2159 fr2160 hle2161 hd2162
            obtain ⟨hv2164, hg2165⟩ := hd2162 2 (by decide)
            obtain ⟨hv2166, hg2167⟩ := hd2162 12 (by decide)
            refine ⟨_, some (), rfl, fun _ => ?_⟩
            refine s_env (env' := [(82, .bool (y9.2 == 0)), (92, .bool y134)]) (by exact ⟨congrArg some hv2164, congrArg some hv2166, trivial⟩) ?_
            refine o_pickT rfl h121 rfl ?_
            exact s_pred fun _ _ _ hE hI => ⟨(.bool y134), [], _, fun _ e => (by cases e; exact hE _ _ rfl), .refl _, by exact hI, ⟨rfl, rfl⟩⟩
          refine dcons ?_ ?_
          · intro _ _ H2170 fr2171 hle2172 hd2173
            obtain ⟨hv2175, hg2176⟩ := hd2173 13 (by decide)
            refine ⟨_, some (), rfl, fun _ => ?_⟩
            refine s_env (env' := [(93, .bool y134)]) (by exact ⟨congrArg some hv2175, trivial⟩) ?_
            refine o_mov rfl ?_
            exact s_pred fun _ _ _ hE hI => ⟨(.bool y134), [], _, fun _ e => (by cases e; exact hE _ _ rfl), .refl _, by exact hI, ⟨rfl, rfl⟩⟩
          refine dcons ?_ ?_
          · intro _ _ H2179 fr2180 hle2181 hd2182
            obtain ⟨hv2184, hg2185⟩ := hd2182 14 (by decide)
            refine ⟨_, some (), rfl, fun _ => ?_⟩
            refine s_env (env' := [(94, .bool y134), (14, .bool p117)]) (by exact ⟨congrArg some hv2184, rfl, trivial⟩) ?_
            refine s_unwant rfl rfl h137 ?_
            exact s_pred fun _ _ _ hE hI => ⟨undef, [], _, fun _ e => (by cases e; exact hE _ _ rfl), .refl _, by exact hI, ⟨rfl, rfl⟩⟩
          refine dcons ?_ ?_
          · intro _ _ H2188 fr2189 hle2190 hd2191
            obtain ⟨hv2193, hg2194⟩ := hd2191 14 (by decide)
            obtain ⟨hv2195, hg2196⟩ := hd2191 15 (by decide)
            refine ⟨_, some (), rfl, fun _ => ?_⟩
            refine s_env (env' := [(94, .bool y134), (95, undef)]) (by exact ⟨congrArg some hv2193, congrArg some hv2195, trivial⟩) ?_
            refine o_pickF rfl h137 rfl ?_
            exact s_pred fun _ _ _ hE hI => ⟨(.bool false), [], _, fun _ e => (by cases e; exact hE _ _ rfl), .refl _, by exact hI, ⟨rfl, rfl⟩⟩
          refine dcons ?_ ?_
          · intro _ _ H2199 fr2200 hle2201 hd2202
            obtain ⟨hv2204, hg2205⟩ := hd2202 16 (by decide)
            refine ⟨_, some (), rfl, fun _ => ?_⟩
            refine s_env (env' := [(96, .bool false)]) (by exact ⟨congrArg some hv2204, trivial⟩) ?_
            refine o_mov rfl ?_
            exact s_pred fun _ _ _ hE hI => ⟨(.bool false), [], _, fun _ e => (by cases e; exact hE _ _ rfl), .refl _, by exact hI, ⟨rfl, rfl⟩⟩
          refine dcons ?_ ?_
          · intro _ _ H2208 fr2209 hle2210 hd2211
            have hA2213 := All2.mono (fun _ _ => GoT.mono hle2210) hA120
            obtain ⟨hv2214, hg2215⟩ := hd2211 17 (by decide)
            refine ⟨_, some (), rfl, fun _ => ?_⟩
            refine s_env (env' := [(97, .bool false), (1, .slice a11 y9.1.length c12)]) (by exact ⟨congrArg some hv2214, rfl, trivial⟩) ?_
            refine s_unwant rfl rfl rfl ?_
            exact s_pred fun _ _ _ hE hI => ⟨undef, [], _, fun _ e => (by cases e; exact hE _ _ rfl), .refl _, by exact hI, ⟨rfl, rfl⟩⟩
          refine dcons ?_ ?_
          · intro _ _ H2218 fr2219 hle2220 hd2221
            obtain ⟨hv2223, hg2224⟩ := hd2221 17 (by decide)
            obtain ⟨hv2225, hg2226⟩ := hd2221 18 (by decide)
            refine ⟨_, some (), rfl, fun _ => ?_⟩
            refine s_env (env' := [(97, .bool false), (98, undef)]) (by exact ⟨congrArg some hv2223, congrArg some hv2225, trivial⟩) ?_
            refine s_unwant rfl rfl rfl ?_
            exact s_pred fun _ _ _ hE hI => ⟨undef, [], _, fun _ e => (by cases e; exact hE _ _ rfl), .refl _, by exact hI, ⟨rfl, rfl⟩⟩
          refine dcons ?_ ?_
          · intro _ _ H2229 fr2230 hle2231 hd2232
            obtain ⟨hv2234, hg2235⟩ := hd2232 17 (by decide)
            refine ⟨_, some (), rfl, fun _ => ?_⟩
            refine s_env (env' := [(97, .bool false)]) (by exact ⟨congrArg some hv2234, trivial⟩) ?_
            refine s_unwant rfl rfl rfl ?_
            exact s_pred fun _ _ _ hE hI => ⟨undef, [], _, fun _ e => (by cases e; exact hE _ _ rfl), .refl _, by exact hI, ⟨rfl, rfl⟩⟩
          refine dcons ?_ ?_
          · intro _ _ H2238 fr2239 hle2240 hd2241
            obtain ⟨hv2243, hg2244⟩ := hd2241 17 (by decide)
            obtain ⟨hv2245, hg2246⟩ := hd2241 19 (by decide)
            obtain ⟨hv2247, hg2248⟩ := hd2241 20 (by decide)
            refine ⟨_, some (), rfl, fun _ => ?_⟩
            refine s_env (env' := [(97, .bool false), (99, undef), (100, undef)]) (by exact ⟨congrArg some hv2243, congrArg some hv2245, congrArg some hv2247, trivial⟩) ?_
            refine s_unwant rfl rfl rfl ?_
            exact s_pred fun _ _ _ hE hI => ⟨undef, [], _, fun _ e => (by cases e; exact hE _ _ rfl), .refl _, by exact hI, ⟨rfl, rfl⟩⟩
          refine dcons ?_ ?_
          · intro _ _ H2251 fr2252 hle2253 hd2254
            obtain ⟨hv2256, hg2257⟩ := hd2254 17 (by decide)
            obtain ⟨hv2258, hg2259⟩ := hd2254 21 (by decide)
            refine ⟨_, some (), rfl, fun _ => ?_⟩
            refine s_env (env' := [(97, .bool false), (101, undef)]) (by exact ⟨congrArg some hv2256, congrArg some hv2258, trivial⟩) ?_
            refine o_pickF rfl rfl rfl ?_
            exact s_pred fun _ _ _ hE hI => ⟨(.bool false), [], _, fun _ e => (by cases e; exact hE _ _ rfl), .refl _, by exact hI, ⟨rfl, rfl⟩⟩
          refine dcons ?_ ?_
          · intro _ _ H2262 fr2263 hle2264 hd2265
            obtain ⟨hv2267, hg2268⟩ := hd2265 22 (by decide)
            refine ⟨_, some (), rfl, fun _ => ?_⟩
            refine s_env (env' := [(102, .bool false)]) (by exact ⟨congrArg some hv2267, trivial⟩) ?_
            refine o_mov rfl ?_
            exact s_pred fun _ _ _ hE hI => ⟨(.bool false), [], _, fun _ e => (by cases e; exact hE _ _ rfl), .refl _, by exact hI, ⟨rfl, rfl⟩⟩
          refine dcons ?_ ?_
          · intro _ _ H2271 fr2272 hle2273 hd2274
            have hA2276 := All2.mono (fun _ _ => GoT.mono hle2273) hA120
            obtain ⟨hv2277, hg2278⟩ := hd2274 23 (by decide)
            refine ⟨_, some (), rfl, fun _ => ?_⟩
            refine s_env (env' := [(103, .bool false), (1, .slice a11 y9.1.length c12)]) (by exact ⟨congrArg some hv2277, rfl, trivial⟩) ?_
            refine s_unwant rfl rfl rfl ?_
            exact s_pred fun _ _ _ hE hI => ⟨undef, [], _, fun _ e => (by cases e; exact hE _ _ rfl), .refl _, by exact hI, ⟨rfl, rfl⟩⟩
          refine dcons ?_ ?_
          · intro _ _ H2281 fr2282 hle2283 hd2284
            obtain ⟨hv2286, hg2287⟩ := hd2284 23 (by decide)
            obtain ⟨hv2288, hg2289⟩ := hd2284 24 (by decide)
            refine ⟨_, some (), rfl, fun _ => ?_⟩
            refine s_env (env' := [(103, .bool false), (104, undef)]) (by exact ⟨congrArg some hv2286, congrArg some hv2288, trivial⟩) ?_
            refine s_unwant rfl rfl rfl ?_
            exact s_pred fun _ _ _ hE hI => ⟨undef, [], _, fun _ e => (by cases e; exact hE _ _ rfl), .refl _, by exact hI, ⟨rfl, rfl⟩⟩
          refine dcons ?_ ?_
          · intro _ _ H2292 fr2293 hle2294 hd2295
            obtain ⟨hv2297, hg2298⟩ := hd2295 23 (by decide)
            refine ⟨_, some (), rfl, fun _ => ?_⟩
            refine s_env (env' := [(103, .bool false)]) (by exact ⟨congrArg some hv2297, trivial⟩) ?_
            refine s_unwant rfl rfl rfl ?_
            exact s_pred fun _ _ _ hE hI => ⟨undef, [], _, fun _ e => (by cases e; exact hE _ _ rfl), .refl _, by exact hI, ⟨rfl, rfl⟩⟩
          refine dcons ?_ ?_
          · intro _ _ H2301 fr2302 hle2303 hd2304
            obtain ⟨hv2306, hg2307⟩ := hd2304 23 (by decide)
            obtain ⟨hv2308, hg2309⟩ := hd2304 25 (by decide)
            obtain ⟨hv2310, hg2311⟩ := hd2304 26 (by decide)
            refine ⟨_, some (), rfl, fun _ => ?_⟩
            refine s_env (env' := [(103, .bool false), (105, undef), (106, undef)]) (by exact ⟨congrArg some hv2306, congrArg some hv2308, congrArg some hv2310, trivial⟩) ?_
            refine s_unwant rfl rfl rfl ?_
            exact s_pred fun _ _ _ hE hI => ⟨undef, [], _, fun _ e => (by cases e; exact hE _ _ rfl), .refl _, by exact hI, ⟨rfl, rfl⟩⟩
          refine dcons ?_ ?_
          · intro _ _ H2314 fr2315 hle2316 hd2317
            obtain ⟨hv2319, hg2320⟩ := hd2317 23 (by decide)
            obtain ⟨hv2321, hg2322⟩ := hd2317 27 (by decide)
            refine ⟨_, some (), rfl, fun _ => ?_⟩
            refine s_env (env' := [(103, .bool false), (107, undef)]) (by exact ⟨congrArg some hv2319, congrArg some hv2321, trivial⟩) ?_
            refine o_pickF rfl rfl rfl ?_
            exact s_pred fun _ _ _ hE hI => ⟨(.bool false), [], _, fun _ e => (by cases e; exact hE _ _ rfl), .refl _, by exact hI, ⟨rfl, rfl⟩⟩
          refine dcons ?_ ?_
          · intro _ _ H2325 fr2326 hle2327 hd2328
            obtain ⟨hv2330, hg2331⟩ := hd2328 28 (by decide)
            refine ⟨_, some (), rfl, fun _ => ?_⟩
            refine s_env (env' := [(108, .bool false)]) (by exact ⟨congrArg some hv2330, trivial⟩) ?_
            refine o_mov rfl ?_
            exact s_pred fun _ _ _ hE hI => ⟨(.bool false), [], _, fun _ e => (by cases e; exact hE _ _ rfl), .refl _, by exact hI, ⟨rfl, rfl⟩⟩
          refine dcons ?_ ?_
          · intro _ _ H2334 fr2335 hle2336 hd2337
            obtain ⟨hv2339, hg2340⟩ := hd2337 29 (by decide)
            refine ⟨_, some (), rfl, fun _ => ?_⟩
            refine s_env (env' := [(109, .bool false)]) (by exact ⟨congrArg some hv2339, trivial⟩) ?_
            refine s_unwant rfl rfl rfl ?_
            exact s_pred fun _ _ _ hE hI => ⟨undef, [], _, fun _ e => (by cases e; exact hE _ _ rfl), .refl _, by exact hI, ⟨rfl, rfl⟩⟩
          refine dcons ?_ ?_
          · intro _ _ H2343 fr2344 hle2345 hd2346
            obtain ⟨hv2348, hg2349⟩ := hd2346 29 (by decide)
            obtain ⟨hv2350, hg2351⟩ := hd2346 30 (by decide)
            refine ⟨_, some (), rfl, fun _ => ?_⟩
            refine s_env (env' := [(109, .bool false), (110, undef)]) (by exact ⟨congrArg some hv2348, congrArg some hv2350, trivial⟩) ?_
            refine s_unwant rfl rfl rfl ?_
            exact s_pred fun _ _ _ hE hI => ⟨undef, [], _, fun _ e => (by cases e; exact hE _ _ rfl), .refl _, by exact hI, ⟨rfl, rfl⟩⟩
          refine dcons ?_ ?_
          · intro _ _ H2354 fr2355 hle2356 hd2357
            obtain ⟨hv2359, hg2360⟩ := hd2357 29 (by decide)
            obtain ⟨hv2361, hg2362⟩ := hd2357 31 (by decide)
            refine ⟨_, some (), rfl, fun _ => ?_⟩
            refine s_env (env' := [(109, .bool false), (111, undef)]) (by exact ⟨congrArg some hv2359, congrArg some hv2361, trivial⟩) ?_
            refine s_unwant rfl rfl rfl ?_
            exact s_pred fun _ _ _ hE hI => ⟨undef, [], _, fun _ e => (by cases e; exact hE _ _ rfl), .refl _, by exact hI, ⟨rfl, rfl⟩⟩
          refine dcons ?_ ?_
          · intro _ _ H2365 fr2366 hle2367 hd2368
            obtain ⟨hv2370, hg2371⟩ := hd2368 29 (by decide)
            obtain ⟨hv2372, hg2373⟩ := hd2368 32 (by decide)
            refine ⟨_, some (), rfl, fun _ => ?_⟩
            refine s_env (env' := [(109, .bool false), (112, undef)]) (by exact ⟨congrArg some hv2370, congrArg some hv2372, trivial⟩) ?_
            refine o_pickF rfl rfl rfl ?_
            exact s_pred fun _ _ _ hE hI => ⟨(.bool false), [], _, fun _ e => (by cases e; exact hE _ _ rfl), .refl _, by exact hI, ⟨rfl, rfl⟩⟩
          exact dnil
        · intro V2376 G2377 H2374 hle2375 hF2378
          have hA2379 := All2.mono (fun _ _ => GoT.mono hle2375) hA120
          obtain ⟨hv2380, hg2381⟩ := hF2378 33 (show 33 < 34 by decide)
          refine s_env (env' := [(113, .bool false), (1, .slice a11 y9.1.length c12), (2, .int .i64 y9.2), (3, .pointer (some ⟨b15, 0, none⟩)), (14, .bool p117)]) (by exact ⟨congrArg some hv2380, rfl, rfl, rfl, rfl, trivial⟩) ?_
          refine s_own (List.sublist_append_left _ _) ?_
          refine o_asg rfl ?_
          refine s_done ?_
          exact s_retv (xs := [.tmp 0]) (vs := [.bool false]) [] fn_43 rfl ⟨rv_tmp rfl, trivial⟩ (.cons _ (.cons _ .slnil)) ⟨rfl, rfl⟩
    · refine s_drawL [(fun H v g => v = Value.int .i64 y9.2 ∧ g = []),
      (fun H v g => v = Value.bool (y9.2 == 0) ∧ g = []),
      (fun H v g => v = Value.bool (y9.2 == 0) ∧ g = []),
      uF,
      uF,
      uF,
      uF,
      uF,
      uF,
      uF,
      uF,
      uF,
      uF,
      (fun H v g => v = Value.bool false ∧ g = []),
      (fun H v g => v = Value.bool false ∧ g = []),
      uF,
      (fun H v g => v = Value.bool false ∧ g = []),
      (fun H v g => v = Value.bool false ∧ g = []),
      uF,
      uF,
      uF,
      uF,
      (fun H v g => v = Value.bool false ∧ g = []),
      (fun H v g => v = Value.bool false ∧ g = []),
      uF,
      uF,
      uF,
      uF,
      (fun H v g => v = Value.bool false ∧ g = []),
      (fun H v g => v = Value.bool false ∧ g = []),
      uF,
      uF,
      uF,
      (fun H v g => v = Value.bool false ∧ g = [])] [[], [], [], [], [], [], [], [], [], [], [], [], [], [], [], [], [], [], [], [], [], [], [], [], [], [], [], [], [], [], [], [], [], []] mixed ⟨m0, m0, m0, m0, m0, m0, m0, m0, m0, m0, m0, m0, m0, m0, m0, m0, m0, m0, m0, m0, m0, m0, m0, m0, m0, m0, m0, m0, m0, m0, m0, m0, m0, m0, trivial⟩ (by kernel_rfl) (by kernel_rfl) rfl (by kernel_rfl) rfl rfl ?_ ?_
      · refine dcons ?_ ?_
        · intro _ _ H2384 fr2385 hle2386 hd2387
          refine ⟨_, some (), rfl, fun _ => ?_⟩
          refine s_env (env' := [(2, .int .i64 y9.2)]) (by exact ⟨rfl, trivial⟩) ?_
          refine o_mov rfl ?_
          exact s_pred fun _ _ _ hE hI => ⟨(.int .i64 y9.2), [], _, fun _ e => (by cases e; exact hE _ _ rfl), .refl _, by exact hI, ⟨rfl, rfl⟩⟩
        refine dcons ?_ ?_
        · intro _ _ H2391 fr2392 hle2393 hd2394
          obtain ⟨hv2396, hg2397⟩ := hd2394 0 (by decide)
          refine ⟨_, some (), rfl, fun _ => ?_⟩
          refine s_env (env' := [(80, .int .i64 y9.2)]) (by exact ⟨congrArg some hv2396, trivial⟩) ?_
          refine o_eq rfl rfl ?_
          exact s_pred fun _ _ _ hE hI => ⟨(.bool (y9.2 == 0)), [], _, fun _ e => (by cases e; exact hE _ _ rfl), .refl _, by exact hI, ⟨rfl, rfl⟩⟩
        refine dcons ?_ ?_
        · intro _ _ H2400 fr2401 hle2402 hd2403
          obtain ⟨hv2405, hg2406⟩ := hd2403 1 (by decide)
          refine ⟨_, some (), rfl, fun _ => ?_⟩
          refine s_env (env' := [(81, .bool (y9.2 == 0))]) (by exact ⟨congrArg some hv2405, trivial⟩) ?_
          refine o_mov rfl ?_
          exact s_pred fun _ _ _ hE hI => ⟨(.bool (y9.2 == 0)), [], _, fun _ e => (by cases e; exact hE _ _ rfl), .refl _, by exact hI, ⟨rfl, rfl⟩⟩
        refine dcons ?_ ?_
        · intro _ _ H2409 fr2410 hle2411 hd2412
          have hA2414 := All2.mono (fun _ _ => GoT.mono hle2411) hA120
          obtain ⟨hv2415, hg2416⟩ := hd2412 2 (by decide)
          refine ⟨_, some (), rfl, fun _ => ?_⟩
          refine s_env (env' := [(82, .bool (y9.2 == 0)), (1, .slice a11 y9.1.length c12)]) (by exact ⟨congrArg some hv2415, rfl, trivial⟩) ?_
          refine s_unwant rfl rfl h121 ?_
          exact s_pred fun _ _ _ hE hI => ⟨undef, [], _, fun _ e => (by cases e; exact hE _ _ rfl), .refl _, by exact hI, ⟨rfl, rfl⟩⟩
        refine dcons ?_ ?_
        · intro _ _ H2419 fr2420 hle2421 hd2422
          obtain ⟨hv2424, hg2425⟩ := hd2422 2 (by decide)
          refine ⟨_, some (), rfl, fun _ => ?_⟩
          refine s_env (env' := [(82, .bool (y9.2 == 0)), (3, .pointer (some ⟨b15, 0, none⟩))]) (by exact ⟨congrArg some hv2424, rfl, trivial⟩) ?_
          refine s_unwant rfl rfl h121 ?_
          exact s_pred fun _ _ _ hE hI => ⟨undef, [], _, fun _ e => (by cases e; exact hE _ _ rfl), .refl _, by exact hI, ⟨rfl, rfl⟩⟩
        refine dcons ?_ ?_
        · intro _ _ H2428 fr2429 hle2430 hd2431
          obtain ⟨hv2433, hg2434⟩ := hd2431 2 (by decide)
          refine ⟨_, some (), rfl, fun _ => ?_⟩
          refine s_env (env' := [(82, .bool (y9.2 == 0)), (3, .pointer (some ⟨b15, 0, none⟩))]) (by exact ⟨congrArg some hv2433, rfl, trivial⟩) ?_
          refine s_unwant rfl rfl h121 ?_
          exact s_pred fun _ _ _ hE hI => ⟨undef, [], _, fun _ e => (by cases e; exact hE _ _ rfl), .refl _, by exact hI, ⟨rfl, rfl⟩⟩
        refine dcons ?_ ?_
        · intro _ _ H2437 fr2438 hle2439 hd2440
          obtain ⟨hv2442, hg2443⟩ := hd2440 2 (by decide)
          refine ⟨_, some (), rfl, fun _ => ?_⟩
          refine s_env (env' := [(82, .bool (y9.2 == 0))]) (by exact ⟨congrArg some hv2442, trivial⟩) ?_
          refine s_unwant rfl rfl h121 ?_
          exact s_pred fun _ _ _ hE hI => ⟨undef, [], _, fun _ e => (by cases e; exact hE _ _ rfl), .refl _, by exact hI, ⟨rfl, rfl⟩⟩
        refine dcons ?_ ?_
        · intro _ _ H2446 fr2447 hle2448 hd2449
          obtain ⟨hv2451, hg2452⟩ := hd2449 2 (by decide)
          refine ⟨_, some (), rfl, fun _ => ?_⟩
          refine s_env (env' := [(82, .bool (y9.2 == 0))]) (by exact ⟨congrArg some hv2451, trivial⟩) ?_
          refine s_unwant rfl rfl h121 ?_
          exact s_pred fun _ _ _ hE hI => ⟨undef, [], _, fun _ e => (by cases e; exact hE _ _ rfl), .refl _, by exact hI, ⟨rfl, rfl⟩⟩
        refine dcons ?_ ?_
        · intro _ _ H2455 fr2456 hle2457 hd2458
          obtain ⟨hv2460, hg2461⟩ := hd2458 2 (by decide)
          refine ⟨_, some (), rfl, fun _ => ?_⟩
          refine s_env (env' := [(82, .bool (y9.2 == 0))]) (by exact ⟨congrArg some hv2460, trivial⟩) ?_
          refine s_unwant rfl rfl h121 ?_
          exact s_pred fun _ _ _ hE hI => ⟨undef, [], _, fun _ e => (by cases e; exact hE _ _ rfl), .refl _, by exact hI, ⟨rfl, rfl⟩⟩
        refine dcons ?_ ?_
        · intro _ _ H2464 fr2465 hle2466 hd2467
          obtain ⟨hv2469, hg2470⟩ := hd2467 2 (by decide)
          refine ⟨_, some (), rfl, fun _ => ?_⟩
          refine s_env (env' := [(82, .bool (y9.2 == 0)), (3, .pointer (some ⟨b15, 0, none⟩))]) (by exact ⟨congrArg some hv2469, rfl, trivial⟩) ?_
          refine s_unwant rfl rfl h121 ?_
          exact s_pred fun _ _ _ hE hI => ⟨undef, [], _, fun _ e => (by cases e; exact hE _ _ rfl), .refl _, by exact hI, ⟨rfl, rfl⟩⟩
        refine dcons ?_ ?_
        · intro _ _ H2473 fr2474 hle2475 hd2476
          obtain ⟨hv2478, hg2479⟩ := hd2476 2 (by decide)
          refine ⟨_, some (), rfl, fun _ => ?_⟩
          refine s_env (env' := [(82, .bool (y9.2 == 0)), (3, .pointer (some ⟨b15, 0, none⟩))]) (by exact ⟨congrArg some hv2478, rfl, trivial⟩) ?_
          refine s_unwant rfl rfl h121 ?_
          exact s_pred fun _ _ _ hE hI => ⟨undef, [], _, fun _ e => (by cases e; exact hE _ _ rfl), .refl _, by exact hI, ⟨rfl, rfl⟩⟩
        refine dcons ?_ ?_
        · intro _ _ H2482 fr2483 hle2484 hd2485
          obtain ⟨hv2487, hg2488⟩ := hd2485 2 (by decide)
          obtain ⟨hv2489, hg2490⟩ := hd2485 4 (by decide)
          obtain ⟨hv2491, hg2492⟩ := hd2485 5 (by decide)
          obtain ⟨hv2493, hg2494⟩ := hd2485 6 (by decide)
          obtain ⟨hv2495, hg2496⟩ := hd2485 7 (by decide)
          obtain ⟨hv2497, hg2498⟩ := hd2485 8 (by decide)
          obtain ⟨hv2499, hg2500⟩ := hd2485 9 (by decide)
          obtain ⟨hv2501, hg2502⟩ := hd2485 10 (by decide)
          refine ⟨_, some (), rfl, fun _ => ?_⟩
          refine s_env (env' := [(82, .bool (y9.2 == 0)), (84, undef), (85, undef), (86, undef), (87, undef), (88, undef), (89, undef), (90, undef)]) (by exact ⟨congrArg some hv2487, congrArg some hv2489, congrArg some hv2491, congrArg some hv2493, congrArg some hv2495, congrArg some hv2497, congrArg some hv2499, congrArg some hv2501, trivial⟩) ?_
          refine s_unwant rfl rfl h121 ?_
          exact s_pred fun _ _ _ hE hI => ⟨undef, [], _, fun _ e => (by cases e; exact hE _ _ rfl), .refl _, by exact hI, ⟨rfl, rfl⟩⟩
        refine dcons ?_ ?_
        · intro _ _ H2505 fr2506 hle2507 hd2508
          obtain ⟨hv2510, hg2511⟩ := hd2508 2 (by decide)
          obtain ⟨hv2512, hg2513⟩ := hd2508 3 (by decide)
          obtain ⟨hv2514, hg2515⟩ := hd2508 11 (by decide)
          refine ⟨_, some (), rfl, fun _ => ?_⟩
          refine s_env (env' := [(82, .bool (y9.2 == 0)), (83, undef), (91, undef)]) (by exact ⟨congrArg some hv2510, congrArg some hv2512, congrArg some hv2514, trivial⟩) ?_
          refine s_unwant rfl rfl h121 ?_
          exact s_pred fun _ _ _ hE hI => ⟨undef, [], _, fun _ e => (by cases e; exact hE _ _ rfl), .refl _, by exact hI, ⟨rfl, rfl⟩⟩
        refine dcons ?_ ?_
        · intro _ _ H2518 fr2519 hle2520 hd2521
          obtain ⟨hv2523, hg2524⟩ := hd2521 2 (by decide)
          obtain ⟨hv2525, hg2526⟩ := hd2521 12 (by decide)
          refine ⟨_, some (), rfl, fun _ => ?_⟩
          refine s_env (env' := [(82, .bool (y9.2 == 0)), (92, undef)]) (by exact ⟨congrArg some hv2523, congrArg some hv2525, trivial⟩) ?_
          refine o_pickF rfl h121 rfl ?_
          exact s_pred fun _ _ _ hE hI => ⟨(.bool false), [], _, fun _ e => (by cases e; exact hE _ _ rfl), .refl _, by exact hI, ⟨rfl, rfl⟩⟩
        refine dcons ?_ ?_
        · intro _ _ H2529 fr2530 hle2531 hd2532
          obtain ⟨hv2534, hg2535⟩ := hd2532 13 (by decide)
          refine ⟨_, some (), rfl, fun _ => ?_⟩
          refine s_env (env' := [(93, .bool false)]) (by exact ⟨congrArg some hv2534, trivial⟩) ?_
          refine o_mov rfl ?_
          exact s_pred fun _ _ _ hE hI => ⟨(.bool false), [], _, fun _ e => (by cases e; exact hE _ _ rfl), .refl _, by exact hI, ⟨rfl, rfl⟩⟩
        refine dcons ?_ ?_
        · intro _ _ H2538 fr2539 hle2540 hd2541
          obtain ⟨hv2543, hg2544⟩ := hd2541 14 (by decide)
          refine ⟨_, some (), rfl, fun _ => ?_⟩
          refine s_env (env' := [(94, .bool false), (14, .bool p117)]) (by exact ⟨congrArg some hv2543, rfl, trivial⟩) ?_
          refine s_unwant rfl rfl rfl ?_
          exact s_pred fun _ _ _ hE hI => ⟨undef, [], _, fun _ e => (by cases e; exact hE _ _ rfl), .refl _, by exact hI, ⟨rfl, rfl⟩⟩
        refine dcons ?_ ?_
        · intro _ _ H2547 fr2548 hle2549 hd2550
          obtain ⟨hv2552, hg2553⟩ := hd2550 14 (by decide)
          obtain ⟨hv2554, hg2555⟩ := hd2550 15 (by decide)
          refine ⟨_, some (), rfl, fun _ => ?_⟩
          refine s_env (env' := [(94, .bool false), (95, undef)]) (by exact ⟨congrArg some hv2552, congrArg some hv2554, trivial⟩) ?_
          refine o_pickF rfl rfl rfl ?_
          exact s_pred fun _ _ _ hE hI => ⟨(.bool false), [], _, fun _ e => (by cases e; exact hE _ _ rfl), .refl _, by exact hI, ⟨rfl, rfl⟩⟩
        refine dcons ?_ ?_
        · intro _ _ H2558 fr2559 hle2560 hd2561
          obtain ⟨hv2563, hg2564⟩ := hd2561 16 (by decide)
          refine ⟨_, some (), rfl, fun _ => ?_⟩
          refine s_env (env' := [(96, .bool false)]) (by exact ⟨congrArg some hv2563, trivial⟩) ?_
          refine o_mov rfl ?_
          exact s_pred fun _ _ _ hE hI => ⟨(.bool false), [], _, fun _ e => (by cases e; exact hE _ _ rfl), .refl _, by exact hI, ⟨rfl, rfl⟩⟩
        refine dcons ?_ ?_
        · intro _ _ H2567 fr2568 hle2569 hd2570
          have hA2572 := All2.mono (fun _ _ => GoT.mono hle2569) hA120
          obtain ⟨hv2573, hg2574⟩ := hd2570 17 (by decide)
          refine ⟨_, some (), rfl, fun _ => ?_⟩
          refine s_env (env' := [(97, .bool false), (1, .slice a11 y9.1.length c12)]) (by exact ⟨congrArg some hv2573, rfl, trivial⟩) ?_
          refine s_unwant rfl rfl rfl ?_
          exact s_pred fun _ _ _ hE hI => ⟨undef, [], _, fun _ e => (by cases e; exact hE _ _ rfl), .refl _, by exact hI, ⟨rfl, rfl⟩⟩
        refine dcons ?_ ?_
        · intro _ _ H2577 fr2578 hle2579 hd2580
          obtain ⟨hv2582, hg2583⟩ := hd2580 17 (by decide)
          obtain ⟨hv2584, hg2585⟩ := hd2580 18 (by decide)
          refine ⟨_, some (), rfl, fun _ => ?_⟩
          refine s_env (env' := [(97, .bool false), (98, undef)]) (by exact ⟨congrArg some hv2582, congrArg some hv2584, trivial⟩) ?_
          refine s_unwant rfl rfl rfl ?_
          exact s_pred fun _ _ _ hE hI => ⟨undef, [], _, fun _ e => (by cases e; exact hE _ _ rfl), .refl _, by exact hI, ⟨rfl, rfl⟩⟩
        refine dcons ?_ ?_
        · intro _ _ H2588 fr2589 hle2590 hd2591
          obtain ⟨hv2593, hg2594⟩ := hd2591 17 (by decide)
          refine ⟨_, some (), rfl, fun _ => ?_⟩
          refine s_env (env' := [(97, .bool false)]) (by exact ⟨congrArg some hv2593, trivial⟩) ?_
          refine s_unwant rfl rfl rfl ?_
          exact s_pred fun _ _ _ hE hI => ⟨undef, [], _, fun _ e => (by cases e; exact hE _ _ rfl), .refl _, by exact hI, ⟨rfl, rfl⟩⟩
        refine dcons ?_ ?_
        · intro _ _ H2597 fr2598 hle2599 hd2600
          obtain ⟨hv2602, hg2603⟩ := hd2600 17 (by decide)
          obtain ⟨hv2604, hg2605⟩ := hd2600 19 (by decide)
          obtain ⟨hv2606, hg2607⟩ := hd2600 20 (by decide)
          refine ⟨_, some (), rfl, fun _ => ?_⟩
          refine s_env (env' := [(97, .bool false), (99, undef), (100, undef)]) (by exact ⟨congrArg some hv2602, congrArg some hv2604, congrArg some hv2606, trivial⟩) ?_
          refine s_unwant rfl rfl rfl ?_
          exact s_pred fun _ _ _ hE hI => ⟨undef, [], _, fun _ e => (by cases e; exact hE _ _ rfl), .refl _, by exact hI, ⟨rfl, rfl⟩⟩
        refine dcons ?_ ?_
        · intro _ _ H2610 fr2611 hle2612 hd2613
          obtain ⟨hv2615, hg2616⟩ := hd2613 17 (by decide)
          obtain ⟨hv2617, hg2618⟩ := hd2613 21 (by decide)
          refine ⟨_, some (), rfl, fun _ => ?_⟩
          refine s_env (env' := [(97, .bool false), (101, undef)]) (by exact ⟨congrArg some hv2615, congrArg some hv2617, trivial⟩) ?_
          refine o_pickF rfl rfl rfl ?_
          exact s_pred fun _ _ _ hE hI => ⟨(.bool false), [], _, fun _ e => (by cases e; exact hE _ _ rfl), .refl _, by exact hI, ⟨rfl, rfl⟩⟩
        refine dcons ?_ ?_
        · intro _ _ H2621 fr2622 hle2623 hd2624
          obtain ⟨hv2626, hg2627⟩ := hd2624 22 (by decide)
          refine ⟨_, some (), rfl, fun _ => ?_⟩
          refine s_env (env' := [(102, .bool false)]) (by exact ⟨congrArg some hv2626, trivial⟩) ?_
          refine o_mov rfl ?_
          exact s_pred fun _ _ _ hE hI => ⟨(.bool false), [], _, fun _ e => (by cases e; exact hE _ _ rfl), .refl _, by exact hI, ⟨rfl, rfl⟩⟩
        refine dcons ?_ ?_
        · intro _ _ H2630 fr2631 hle2632 hd2633
          have hA2635 := All2.mono (fun _ _ => GoT.mono hle2632) hA120
          obtain ⟨hv2636, hg2637⟩ := hd2633 23 (by decide)
          refine ⟨_, some (), rfl, fun _ => ?_⟩
          refine s_env (env' := [(103, .bool false), (1, .slice a11 y9.1.length c12)]) (by exact ⟨congrArg some hv2636, rfl, trivial⟩) ?_
          refine s_unwant rfl rfl rfl ?_
          exact s_pred fun _ _ _ hE hI => ⟨undef, [], _, fun _ e => (by cases e; exact hE _ _ rfl), .refl _, by exact hI, ⟨rfl, rfl⟩⟩
        refine dcons ?_ ?_
        · intro _ _ H2640 fr2641 hle2642 hd2643
          obtain ⟨hv2645, hg2646⟩ := hd2643 23 (by decide)
          obtain ⟨hv2647, hg2648⟩ := hd2643 24 (by decide)
          refine ⟨_, some (), rfl, fun _ => ?_⟩
          refine s_env (env' := [(103, .bool false), (104, undef)]) (by exact ⟨congrArg some hv2645, congrArg some hv2647, trivial⟩) ?_
          refine s_unwant rfl rfl rfl ?_
          exact s_pred fun _ _ _ hE hI => ⟨undef, [], _, fun _ e => (by cases e; exact hE _ _ rfl), .refl _, by exact hI, ⟨rfl, rfl⟩⟩
        refine dcons ?_ ?_
        · intro _ _ H2651 fr2652 hle2653 hd2654
          obtain ⟨hv2656, hg2657⟩ := hd2654 23 (by decide)
          refine ⟨_, some (), rfl, fun _ => ?_⟩
          refine s_env (env' := [(103, .bool false)]) (by exact ⟨congrArg some hv2656, trivial⟩) ?_
          refine s_unwant rfl rfl rfl ?_
          exact s_pred fun _ _ _ hE hI => ⟨undef, [], _, fun _ e => (by cases e; exact hE _ _ rfl), .refl _, by exact hI, ⟨rfl, rfl⟩⟩
        refine dcons ?_ ?_
        · intro _ _ H2660 fr2661 hle2662 hd2663
          obtain ⟨hv2665, hg2666⟩ := hd2663 23 (by decide)
          obtain ⟨hv2667, hg2668⟩ := hd2663 25 (by decide)
          obtain ⟨hv2669, hg2670⟩ := hd2663 26 (by decide)
          refine ⟨_, some (), rfl, fun _ => ?_⟩
          refine s_env (env' := [(103, .bool false), (105, undef), (106, undef)]) (by exact ⟨congrArg some hv2665, congrArg some hv2667, congrArg some hv2669, trivial⟩) ?_
          refine s_unwant rfl rfl rfl ?_
          exact s_pred fun _ _ _ hE hI => ⟨undef, [], _, fun _ e => (by cases e; exact hE _ _ rfl), .refl _, by exact hI, ⟨rfl, rfl⟩⟩
        refine dcons ?_ ?_
        · intro _ _ H2673 fr2674 hle2675 hd2676
          obtain ⟨hv2678, hg2679⟩ := hd2676 23 (by decide)
          obtain ⟨hv2680, hg2681⟩ := hd2676 27 (by decide)
          refine ⟨_, some (), rfl, fun _ => ?_⟩
          refine s_env (env' := [(103, .bool false), (107, undef)]) (by exact ⟨congrArg some hv2678, congrArg some hv2680, trivial⟩) ?_
          refine o_pickF rfl rfl rfl ?_
          exact s_pred fun _ _ _ hE hI => ⟨(.bool false), [], _, fun _ e => (by cases e; exact hE _ _ rfl), .refl _, by exact hI, ⟨rfl, rfl⟩⟩
        refine dcons ?_ ?_
        · intro _ _ H2684 fr2685 hle2686 hd2687
          obtain ⟨hv2689, hg2690⟩ := hd2687 28 (by decide)
          refine ⟨_, some (), rfl, fun _ => ?_⟩
          refine s_env (env' := [(108, .bool false)]) (by exact ⟨congrArg some hv2689, trivial⟩) ?_
          refine o_mov rfl ?_
          exact s_pred fun _ _ _ hE hI => ⟨(.bool false), [], _, fun _ e => (by cases e; exact hE _ _ rfl), .refl _, by exact hI, ⟨rfl, rfl⟩⟩
        refine dcons ?_ ?_
        · intro _ _ H2693 fr2694 hle2695 hd2696
          obtain ⟨hv2698, hg2699⟩ := hd2696 29 (by decide)
          refine ⟨_, some (), rfl, fun _ => ?_⟩
          refine s_env (env' := [(109, .bool false)]) (by exact ⟨congrArg some hv2698, trivial⟩) ?_
          refine s_unwant rfl rfl rfl ?_
          exact s_pred fun _ _ _ hE hI => ⟨undef, [], _, fun _ e => (by cases e; exact hE _ _ rfl), .refl _, by exact hI, ⟨rfl, rfl⟩⟩
        refine dcons ?_ ?_
        · intro _ _ H2702 fr2703 hle2704 hd2705
          obtain ⟨hv2707, hg2708⟩ := hd2705 29 (by decide)
          obtain ⟨hv2709, hg2710⟩ := hd2705 30 (by decide)
          refine ⟨_, some (), rfl, fun _ => ?_⟩
          refine s_env (env' := [(109, .bool false), (110, undef)]) (by exact ⟨congrArg some hv2707, congrArg some hv2709, trivial⟩) ?_
          refine s_unwant rfl rfl rfl ?_
          exact s_pred fun _ _ _ hE hI => ⟨undef, [], _, fun _ e => (by cases e; exact hE _ _ rfl), .refl _, by exact hI, ⟨rfl, rfl⟩⟩
        refine dcons ?_ ?_
        · intro _ _ H2713 fr2714 hle2715 hd2716
          obtain ⟨hv2718, hg2719⟩ := hd2716 29 (by decide)
          obtain ⟨hv2720, hg2721⟩ := hd2716 31 (by decide)
          refine ⟨_, some (), rfl, fun _ => ?_⟩
          refine s_env (env' := [(109, .bool false), (111, undef)]) (by exact ⟨congrArg some hv2718, congrArg some hv2720, trivial⟩) ?_
          refine s_unwant rfl rfl rfl ?_
          exact s_pred fun _ _ _ hE hI => ⟨undef, [], _, fun _ e => (by cases e; exact hE _ _ rfl), .refl _, by exact hI, ⟨rfl, rfl⟩⟩
        refine dcons ?_ ?_
        · intro _ _ H2724 fr2725 hle2726 hd2727
          obtain ⟨hv2729, hg2730⟩ := hd2727 29 (by decide)
          obtain ⟨hv2731, hg2732⟩ := hd2727 32 (by decide)
          refine ⟨_, some (), rfl, fun _ => ?_⟩
          refine s_env (env' := [(109, .bool false), (112, undef)]) (by exact ⟨congrArg some hv2729, congrArg some hv2731, trivial⟩) ?_
          refine o_pickF rfl rfl rfl ?_
          exact s_pred fun _ _ _ hE hI => ⟨(.bool false), [], _, fun _ e => (by cases e; exact hE _ _ rfl), .refl _, by exact hI, ⟨rfl, rfl⟩⟩
        exact dnil
      · intro V2735 G2736 H2733 hle2734 hF2737
        have hA2738 := All2.mono (fun _ _ => GoT.mono hle2734) hA120
        obtain ⟨hv2739, hg2740⟩ := hF2737 33 (show 33 < 34 by decide)
        refine s_env (env' := [(113, .bool false), (1, .slice a11 y9.1.length c12), (2, .int .i64 y9.2), (3, .pointer (some ⟨b15, 0, none⟩)), (14, .bool p117)]) (by exact ⟨congrArg some hv2739, rfl, rfl, rfl, rfl, trivial⟩) ?_
        refine s_own (List.sublist_append_left _ _) ?_
        refine o_asg rfl ?_
        refine s_done ?_
        exact s_retv (xs := [.tmp 0]) (vs := [.bool false]) [] fn_43 rfl ⟨rv_tmp rfl, trivial⟩ (.cons _ (.cons _ .slnil)) ⟨rfl, rfl⟩
  · intro J2741
    refine o_mov rfl ?_
    refine s_bg fun y2742 h2743 => ?_
    refine s_callF rfl rfl (catenarylaw20_at_ok k _ 1 2 h2743) ?_
    refine s_bg fun y2744 h2745 => ?_
    refine s_callF rfl rfl (catenarylaw20_at_ok k _ 3 3 h2745) ?_
    refine o_bsl (xs := [.tmp 47, .tmp 48]) rfl rfl (by simp only [List.mem_cons, List.not_mem_nil, or_false, forall_eq_or_imp, forall_eq]; exact ⟨⟨rfl, rfl⟩, ⟨rfl, rfl⟩⟩) rfl rfl fun b2746 => ?_
    have hA2747 : All2 (GoT.rep H98) [[.int .i64 y2742.Switch, .int .i64 y2742.Port], [.int .i64 y2744.Switch, .int .i64 y2744.Port]] ([y2742, y2744] : List End) := all2_enc (([y2742, y2744] : List End))
    refine s_bg fun y2749 h2750 => ?_
    refine s_callL (Φ := fun v out => v = _ ∧ out = []) [] _ rfl rfl (.refl _) (fun H' hle hl => catenarylaw20_eq_ok k _ y27.1 _ _ (lent_rsl (hl _ (List.mem_of_getElem? (i := 4) rfl)) hA103 hle).2 ([y2742, y2744] : List End) _ _ (lent_rsl (hl _ (List.mem_of_getElem? (i := 13) rfl)) hA2747 hle).2 h2750) ?_
    rintro _ _ ⟨rfl, rfl⟩
    refine s_ownN ?_
    refine o_mov rfl ?_
    refine s_split y2749 (fun h2751 => ?_) (fun h2751 => ?_)
    · refine s_want rfl rfl h2751 ?_
      refine o_mov rfl ?_
      refine o_pickT rfl h2751 rfl ?_
      refine o_mov rfl ?_
      refine s_split y27.2 (fun h2752 => ?_) (fun h2752 => ?_)
      · refine s_want rfl rfl h2752 ?_
        refine o_mov rfl ?_
        refine s_want rfl rfl h2752 ?_
        refine o_lenS rfl ?_
        refine s_want rfl rfl h2752 ?_
        refine o_eq rfl rfl ?_
        refine o_pickT rfl h2752 rfl ?_
        refine o_mov rfl ?_
        refine s_split ((y45.1.length : Int) == 0) (fun h2753 => ?_) (fun h2753 => ?_)
        · refine s_want rfl rfl h2753 ?_
          refine o_mov rfl ?_
          refine o_pickT rfl h2753 rfl ?_
          refine o_mov rfl ?_
          refine s_split y45.2 (fun h2754 => ?_) (fun h2754 => ?_)
          · refine s_want rfl rfl h2754 ?_
            refine o_mov rfl ?_
            refine s_want rfl rfl h2754 ?_
            refine o_not rfl ?_
            refine o_pickT rfl h2754 rfl ?_
            refine o_mov rfl ?_
            refine s_split (!y65.2) (fun h2755 => ?_) (fun h2755 => ?_)
            · refine s_want rfl rfl h2755 ?_
              refine o_mov rfl ?_
              refine s_want rfl rfl h2755 ?_
              refine s_bg fun y2756 h2757 => ?_
              refine s_callF rfl rfl (catenarylaw20_at_ok k _ 1 1 h2757) ?_
              refine s_want rfl rfl h2755 ?_
              refine s_bg fun y2758 h2759 => ?_
              refine s_callF rfl rfl (catenarylaw20_at_ok k _ 2 2 h2759) ?_
              refine s_want rfl rfl h2755 ?_
              refine o_bsl (xs := [.tmp 68, .tmp 69]) rfl rfl (by simp only [List.mem_cons, List.not_mem_nil, or_false, forall_eq_or_imp, forall_eq]; exact ⟨⟨rfl, rfl⟩, ⟨rfl, rfl⟩⟩) rfl rfl fun b2760 => ?_
              have hA2761 : All2 (GoT.rep H98) [[.int .i64 y2756.Switch, .int .i64 y2756.Port], [.int .i64 y2758.Switch, .int .i64 y2758.Port]] ([y2756, y2758] : List End) := all2_enc (([y2756, y2758] : List End))
              refine s_want rfl rfl h2755 ?_
              refine s_bg fun y2763 h2764 => ?_
              refine s_callL (Φ := fun v out => v = _ ∧ out = []) [] _ rfl rfl (.refl _) (fun H' hle hl => catenarylaw20_eq_ok k _ y87.1 _ _ (lent_rsl (hl _ (List.mem_of_getElem? (i := 10) rfl)) hA109 hle).2 ([y2756, y2758] : List End) _ _ (lent_rsl (hl _ (List.mem_of_getElem? (i := 14) rfl)) hA2761 hle).2 h2764) ?_
              rintro _ _ ⟨rfl, rfl⟩
              refine s_ownN ?_
              refine o_pickT rfl h2755 rfl ?_
              refine o_mov rfl ?_
              refine s_split y2763 (fun h2765 => ?_) (fun h2765 => ?_)
              · refine s_want rfl rfl h2765 ?_
                refine o_mov rfl ?_
                refine o_pickT rfl h2765 rfl ?_
                refine o_mov rfl ?_
                refine s_split y87.2 (fun h2766 => ?_) (fun h2766 => ?_)
                · refine s_want rfl rfl h2766 ?_
                  refine o_mov rfl ?_
                  refine s_want rfl rfl h2766 ?_
                  refine o_not rfl ?_
                  refine o_pickT rfl h2766 rfl ?_
                  refine o_asg rfl ?_
                  exact s_env (by exact ⟨rfl, rfl, rfl, rfl, trivial⟩) (s_own (by exact (.cons _ (.cons_cons _ (.cons_cons _ (.cons _ (.cons _ (.cons _ (.cons _ (.cons _ (.cons _ (.cons _ (.cons _ (.cons _ (.cons _ (.cons _ (.cons _ .slnil)))))))))))))))) (J2741 (!y111.2) _ _ _ ⟨rfl, rfl, .refl _⟩))
                · refine s_unwant rfl rfl h2766 ?_
                  refine s_unwant rfl rfl h2766 ?_
                  refine o_pickF rfl h2766 rfl ?_
                  refine o_asg rfl ?_
                  exact s_env (by exact ⟨rfl, rfl, rfl, rfl, trivial⟩) (s_own (by exact (.cons _ (.cons_cons _ (.cons_cons _ (.cons _ (.cons _ (.cons _ (.cons _ (.cons _ (.cons _ (.cons _ (.cons _ (.cons _ (.cons _ (.cons _ (.cons _ .slnil)))))))))))))))) (J2741 false _ _ _ ⟨rfl, rfl, .refl _⟩))
              · refine s_unwant rfl rfl h2765 ?_
                refine o_pickF rfl h2765 rfl ?_
                refine o_mov rfl ?_
                refine s_unwant rfl rfl rfl ?_
                refine s_unwant rfl rfl rfl ?_
                refine o_pickF rfl rfl rfl ?_
                refine o_asg rfl ?_
                exact s_env (by exact ⟨rfl, rfl, rfl, rfl, trivial⟩) (s_own (by exact (.cons _ (.cons_cons _ (.cons_cons _ (.cons _ (.cons _ (.cons _ (.cons _ (.cons _ (.cons _ (.cons _ (.cons _ (.cons _ (.cons _ (.cons _ (.cons _ .slnil)))))))))))))))) (J2741 false _ _ _ ⟨rfl, rfl, .refl _⟩))
            · refine s_unwant rfl rfl h2755 ?_
              refine s_unwant rfl rfl h2755 ?_
              refine s_unwant rfl rfl h2755 ?_
              refine s_unwant rfl rfl h2755 ?_
              refine s_unwant rfl rfl h2755 ?_
              refine o_pickF rfl h2755 rfl ?_
              refine o_mov rfl ?_
              refine s_unwant rfl rfl rfl ?_
              refine o_pickF rfl rfl rfl ?_
              refine o_mov rfl ?_
              refine s_unwant rfl rfl rfl ?_
              refine s_unwant rfl rfl rfl ?_
              refine o_pickF rfl rfl rfl ?_
              refine o_asg rfl ?_
              exact s_env (by exact ⟨rfl, rfl, rfl, rfl, trivial⟩) (s_own (by exact (.cons _ (.cons_cons _ (.cons_cons _ (.cons _ (.cons _ (.cons _ (.cons _ (.cons _ (.cons _ (.cons _ (.cons _ (.cons _ (.cons _ (.cons _ .slnil))))))))))))))) (J2741 false _ _ _ ⟨rfl, rfl, .refl _⟩))
          · refine s_unwant rfl rfl h2754 ?_
            refine s_unwant rfl rfl h2754 ?_
            refine o_pickF rfl h2754 rfl ?_
            refine o_mov rfl ?_
            refine s_unwant rfl rfl rfl ?_
            refine s_unwant rfl rfl rfl ?_
            refine s_unwant rfl rfl rfl ?_
            refine s_unwant rfl rfl rfl ?_
            refine s_unwant rfl rfl rfl ?_
            refine o_pickF rfl rfl rfl ?_
            refine o_mov rfl ?_
            refine s_unwant rfl rfl rfl ?_
            refine o_pickF rfl rfl rfl ?_
            refine o_mov rfl ?_
            refine s_unwant rfl rfl rfl ?_
            refine s_unwant rfl rfl rfl ?_
            refine o_pickF rfl rfl rfl ?_
            refine o_asg rfl ?_
            exact s_env (by exact ⟨rfl, rfl, rfl, rfl, trivial⟩) (s_own (by exact (.cons _ (.cons_cons _ (.cons_cons _ (.cons _ (.cons _ (.cons _ (.cons _ (.cons _ (.cons _ (.cons _ (.cons _ (.cons _ (.cons _ (.cons _ .slnil))))))))))))))) (J2741 false _ _ _ ⟨rfl, rfl, .refl _⟩))
        · refine s_unwant rfl rfl h2753 ?_
          refine o_pickF rfl h2753 rfl ?_
          refine o_mov rfl ?_
          refine s_unwant rfl rfl rfl ?_
          refine s_unwant rfl rfl rfl ?_
          refine o_pickF rfl rfl rfl ?_
          refine o_mov rfl ?_
          refine s_unwant rfl rfl rfl ?_
          refine s_unwant rfl rfl rfl ?_
          refine s_unwant rfl rfl rfl ?_
          refine s_unwant rfl rfl rfl ?_
          refine s_unwant rfl rfl rfl ?_
          refine o_pickF rfl rfl rfl ?_
          refine o_mov rfl ?_
          refine s_unwant rfl rfl rfl ?_
          refine o_pickF rfl rfl rfl ?_
          refine o_mov rfl ?_
          refine s_unwant rfl rfl rfl ?_
          refine s_unwant rfl rfl rfl ?_
          refine o_pickF rfl rfl rfl ?_
          refine o_asg rfl ?_
          exact s_env (by exact ⟨rfl, rfl, rfl, rfl, trivial⟩) (s_own (by exact (.cons _ (.cons_cons _ (.cons_cons _ (.cons _ (.cons _ (.cons _ (.cons _ (.cons _ (.cons _ (.cons _ (.cons _ (.cons _ (.cons _ (.cons _ .slnil))))))))))))))) (J2741 false _ _ _ ⟨rfl, rfl, .refl _⟩))
      · refine s_unwant rfl rfl h2752 ?_
        refine s_unwant rfl rfl h2752 ?_
        refine s_unwant rfl rfl h2752 ?_
        refine o_pickF rfl h2752 rfl ?_
        refine o_mov rfl ?_
        refine s_unwant rfl rfl rfl ?_
        refine o_pickF rfl rfl rfl ?_
        refine o_mov rfl ?_
        refine s_unwant rfl rfl rfl ?_
        refine s_unwant rfl rfl rfl ?_
        refine o_pickF rfl rfl rfl ?_
        refine o_mov rfl ?_
        refine s_unwant rfl rfl rfl ?_
        refine s_unwant rfl rfl rfl ?_
        refine s_unwant rfl rfl rfl ?_
        refine s_unwant rfl rfl rfl ?_
        refine s_unwant rfl rfl rfl ?_
        refine o_pickF rfl rfl rfl ?_
        refine o_mov rfl ?_
        refine s_unwant rfl rfl rfl ?_
        refine o_pickF rfl rfl rfl ?_
        refine o_mov rfl ?_
        refine s_unwant rfl rfl rfl ?_
        refine s_unwant rfl rfl rfl ?_
        refine o_pickF rfl rfl rfl ?_
        refine o_asg rfl ?_
        exact s_env (by exact ⟨rfl, rfl, rfl, rfl, trivial⟩) (s_own (by exact (.cons _ (.cons_cons _ (.cons_cons _ (.cons _ (.cons _ (.cons _ (.cons _ (.cons _ (.cons _ (.cons _ (.cons _ (.cons _ (.cons _ (.cons _ .slnil))))))))))))))) (J2741 false _ _ _ ⟨rfl, rfl, .refl _⟩))
    · refine s_unwant rfl rfl h2751 ?_
      refine o_pickF rfl h2751 rfl ?_
      refine o_mov rfl ?_
      refine s_unwant rfl rfl rfl ?_
      refine s_unwant rfl rfl rfl ?_
      refine s_unwant rfl rfl rfl ?_
      refine o_pickF rfl rfl rfl ?_
      refine o_mov rfl ?_
      refine s_unwant rfl rfl rfl ?_
      refine o_pickF rfl rfl rfl ?_
      refine o_mov rfl ?_
      refine s_unwant rfl rfl rfl ?_
      refine s_unwant rfl rfl rfl ?_
      refine o_pickF rfl rfl rfl ?_
      refine o_mov rfl ?_
      refine s_unwant rfl rfl rfl ?_
      refine s_unwant rfl rfl rfl ?_
      refine s_unwant rfl rfl rfl ?_
      refine s_unwant rfl rfl rfl ?_
      refine s_unwant rfl rfl rfl ?_
      refine o_pickF rfl rfl rfl ?_
      refine o_mov rfl ?_
      refine s_unwant rfl rfl rfl ?_
      refine o_pickF rfl rfl rfl ?_
      refine o_mov rfl ?_
      refine s_unwant rfl rfl rfl ?_
      refine s_unwant rfl rfl rfl ?_
      refine o_pickF rfl rfl rfl ?_
      refine o_asg rfl ?_
      exact s_env (by exact ⟨rfl, rfl, rfl, rfl, trivial⟩) (s_own (by exact (.cons _ (.cons_cons _ (.cons_cons _ (.cons _ (.cons _ (.cons _ (.cons _ (.cons _ (.cons _ (.cons _ (.cons _ (.cons _ (.cons _ (.cons _ .slnil))))))))))))))) (J2741 false _ _ _ ⟨rfl, rfl, .refl _⟩))
end Go.Cat.G3
