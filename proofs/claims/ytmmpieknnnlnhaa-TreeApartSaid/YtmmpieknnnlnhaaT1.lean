/- A text of the proof of the seat's laws: a step logic over the machine, or pure functions that the Go functions come to. No condition. -/
import Derived.Test.YtmmpieknnnlnhaaP6a
import Derived.Test.YtmmpieknnnlnhaaH9

namespace Go.Cat.G3
open Go Go.Cat Go.Proofs
set_option linter.unusedVariables false
set_option linter.unusedSimpArgs false

instance : TZero Try.prog 64 (.slice none 0 0) := ⟨fun _ => by kernel_rfl⟩
instance : TFun Try.prog 17 := ⟨_, (by kernel_rfl : Try.prog.funcs[17]? = some Try.f17), by decide, rfl⟩
instance : TFun Try.prog 39 := ⟨_, (by kernel_rfl : Try.prog.funcs[39]? = some Try.f39), by decide, rfl⟩
instance : TFun Try.prog 58 := ⟨_, (by kernel_rfl : Try.prog.funcs[58]? = some Try.f58), by decide, rfl⟩
instance : TFun Try.prog 71 := ⟨_, (by kernel_rfl : Try.prog.funcs[71]? = some Try.f71), by decide, rfl⟩
instance : TFun Try.prog 73 := ⟨_, (by kernel_rfl : Try.prog.funcs[73]? = some Try.f73), by decide, rfl⟩
instance : TFun Try.prog 74 := ⟨_, (by kernel_rfl : Try.prog.funcs[74]? = some Try.f74), by decide, rfl⟩
instance : TFun Try.prog 75 := ⟨_, (by kernel_rfl : Try.prog.funcs[75]? = some Try.f75), by decide, rfl⟩
instance : TFun Try.prog 76 := ⟨_, (by kernel_rfl : Try.prog.funcs[76]? = some Try.f76), by decide, rfl⟩
instance : TFun Try.prog 77 := ⟨_, (by kernel_rfl : Try.prog.funcs[77]? = some Try.f77), by decide, rfl⟩
instance : TFun Try.prog 78 := ⟨_, (by kernel_rfl : Try.prog.funcs[78]? = some Try.f78), by decide, rfl⟩
instance : TFun Try.prog 99 := ⟨_, (by kernel_rfl : Try.prog.funcs[99]? = some Try.f99), by decide, rfl⟩
instance : TFun Try.prog 100 := ⟨_, (by kernel_rfl : Try.prog.funcs[100]? = some Try.f100), by decide, rfl⟩
instance : TMap Try.prog 115 3 26 := ⟨by kernel_rfl⟩
instance : TKey Try.prog 3 false Int := tkey_int Try.underlying3

/-! clone:slices.Clone[[]catenary/api.Link,catenary/api.Link] -/
def slices_Clone___api_Link_api_Link_ (k : Nat) (x0 : (List Link)) : Option (List Link) := (app ([] : (List Link)) x0).bind fun _ => some x0
theorem fn_76 : Try.prog.funcs[76]? = some Try.f76 := by kernel_rfl
theorem slices_Clone___api_Link_api_Link__ok (k : Nat) (H : Heap) (x0 : (List Link)) (a0_0 : Option Addr) (c0_0 : Nat) (hx0_0 : RSl H a0_0 c0_0 x0) {r : (List Link)} (hr : slices_Clone___api_Link_api_Link_ k x0 = some r) :
    Fn Try.prog 76 [.slice a0_0 x0.length c0_0] H [] fun H' v out => ∃ a0 c0, v = .slice a0 r.length c0 ∧ out = [.osl (.slice a0 r.length c0) 4 40 (r.map GoE.enc)] := by
  refine fn_of_sim (args := [.slice a0_0 x0.length c0_0]) (n := 8) (Φ := fun r H' v out => ∃ a0 c0, v = .slice a0 r.length c0 ∧ out = [.osl (.slice a0 r.length c0) 4 40 (r.map GoE.enc)]) hr fn_76 rfl rfl rfl fun w => ?_
  refine s_eq (by rw [slices_Clone___api_Link_api_Link_]) ?_
  refine s_seq ?_
  refine s_region ?_
  refine o_asg rfl ?_
  refine s_done ?_
  refine s_seq ?_
  refine s_seq ?_
  refine s_region ?_
  refine o_mov rfl ?_
  refine o_eqNil rfl rfl ?_
  refine s_done ?_
  cases a0_0 with
  | none =>
    have hnil : x0 = [] := by rcases hx0_0.2 with h | ⟨_, _, _, _, _, h, _⟩ <;> first | exact h | cases h
    subst hnil
    refine s_condT rfl rfl ?_
    refine s_seq ?_
    refine s_region ?_
    refine o_asg rfl ?_
    refine s_done ?_
    refine s_eq (m' := some []) rfl ?_
    refine s_nilOc (sz := 4) (t := 40) ?_
    exact s_retv (xs := [.tmp 2]) (vs := [.slice none ([] : (List Link)).length 0]) [.osl (.slice none ([] : (List Link)).length 0) 4 40 []] fn_76 rfl ⟨rv_tmp rfl, trivial⟩ (.cons_cons _ .slnil) ⟨_, _, rfl, rfl⟩
  | some a =>
    refine s_condF rfl rfl ?_
    refine s_skip ?_
    refine s_seq ?_
    refine s_region ?_
    refine o_bsl (xs := []) rfl rfl (by simp) rfl rfl fun b => ?_
    have hA : All2 (GoT.rep H) [] ([] : (List Link)) := all2_nil
    refine o_mov rfl ?_
    refine o_appS 0 rfl rfl rfl hA hx0_0 fun a1 c1 ls1 h1 hA1 => ?_
    refine o_asg rfl ?_
    refine s_done ?_
    exact s_retv (xs := [.tmp 2]) (vs := [.slice a1 (([] : (List Link)) ++ x0).length c1]) [.osl (.slice a1 (([] : (List Link)) ++ x0).length c1) 4 40 ls1] fn_76 rfl ⟨rv_tmp rfl, trivial⟩ (.cons_cons _ .slnil) ⟨_, _, rfl, (congrArg (fun z => [Res.osl _ _ _ z]) (all2_flat hA1))⟩

/-! slices.Index[[]catenary/api.End,catenary/api.End] -/
def slices_Index___api_End_api_End__l0 (k : Nat) (x0 : (List End)) (x1 : End) : Nat → Int → Option (LX (Int) (Unit))
  | 0, _ => none
  | q8 + 1, s7 =>
    if (decide (s7 < (x0.length : Int))) = true then
      (rd x0 s7).bind fun y14 =>
      if (decide (x1 = y14)) = true then
        some (.ret s7)
      else
        slices_Index___api_End_api_End__l0 k x0 x1 q8 (w64 (s7 + 1))
    else
      some (.out ())
def slices_Index___api_End_api_End_ (k : Nat) (x0 : (List End)) (x1 : End) : Option Int :=
  (slices_Index___api_End_api_End__l0 k x0 x1 k 0).bind (LX.go fun p3 =>
  some (-1))
theorem fn_100 : Try.prog.funcs[100]? = some Try.f100 := by kernel_rfl
set_option maxRecDepth 100000 in
set_option maxHeartbeats 4000000 in
theorem slices_Index___api_End_api_End__ok (k : Nat) (H : Heap) (x0 : (List End)) (a0_0 : Option Addr) (c0_0 : Nat) (hx0_0 : RSl H a0_0 c0_0 x0) (x1 : End) {r : Int} (hr : slices_Index___api_End_api_End_ k x0 x1 = some r) :
    Fn Try.prog 100 [.slice a0_0 x0.length c0_0, .agg #[.int .i64 x1.Switch, .int .i64 x1.Port]] H [] fun H' v out => v = .int .i64 r ∧ out = [] := by
  refine fn_of_sim (args := [.slice a0_0 x0.length c0_0, .agg #[.int .i64 x1.Switch, .int .i64 x1.Port]]) (n := 19) (Φ := fun r H' v out => v = .int .i64 r ∧ out = []) hr fn_100 rfl rfl rfl fun w => ?_
  refine s_eq (by rw [slices_Index___api_End_api_End_]) ?_
  refine s_seq ?_
  refine s_region ?_
  refine o_box rfl fun b1 => ?_
  refine o_asg rfl ?_
  refine s_done ?_
  refine s_seq ?_
  refine s_seq ?_
  refine s_region ?_
  refine o_mov rfl ?_
  refine o_lenS rfl ?_
  refine o_mov rfl ?_
  refine s_done ?_
  refine s_joinL (fun p3 env own H' => env = [] ∧ own = [] ∧ Hle H H') ?_ ?_
  · rintro p3 _ _ H4 ⟨rfl, rfl, hle5⟩
    refine s_seq ?_
    refine s_region ?_
    refine o_asg rfl ?_
    refine s_done ?_
    exact s_retv (xs := [.tmp 4]) (vs := [.int .i64 (-1)]) [] fn_100 rfl ⟨rv_tmp rfl, trivial⟩ .slnil ⟨rfl, rfl⟩
  · intro J6
    refine s_block ?_
    refine s_env (env' := [(0, .slice a0_0 x0.length c0_0), (3, .pointer (some ⟨b1, 0, none⟩)), (7, .int .i64 (x0.length : Int)), (8, .int .i64 0)]) (by exact ⟨rfl, rfl, rfl, rfl, trivial⟩) ?_
    refine s_own (own' := [.blk b1 (rowObj [.int .i64 x1.Switch, .int .i64 x1.Port] 26)]) (.cons_cons _ .slnil) ?_
    refine s_loopn (fun q s7 => slices_Index___api_End_api_End__l0 k x0 x1 q s7) (fun s7 env own H' => env = [(0, .slice a0_0 x0.length c0_0), (3, .pointer (some ⟨b1, 0, none⟩)), (7, .int .i64 (x0.length : Int)), (8, .int .i64 s7)] ∧ own = [.blk b1 (rowObj [.int .i64 x1.Switch, .int .i64 x1.Port] 26)] ∧ Hle H H') (fun _ => rfl) ?_ k 0 ⟨rfl, rfl, .refl _⟩
    rintro q8 ih9 s7 _ _ H10 ⟨rfl, rfl, hle11⟩
    refine s_eq (by rw [slices_Index___api_End_api_End__l0]) ?_
    have hs12 := RSl.mono hle11 hx0_0
    refine s_seq ?_
    refine s_region ?_
    refine o_lt rfl rfl ?_
    refine s_done ?_
    refine s_seq ?_
    refine s_cond rfl (fun h13 => ?_) (fun h13 => ?_)
    · refine s_skip ?_
      refine s_seq ?_
      refine s_block ?_
      refine s_seq ?_
      refine s_region ?_
      refine o_mov rfl ?_
      refine o_asg rfl ?_
      refine s_done ?_
      refine s_seq ?_
      refine s_bg fun y14 h19 => ?_
      refine s_drawL [(fun H v g => v = Value.agg #[.int .i64 x1.Switch, .int .i64 x1.Port] ∧ g = []),
      (fun H v g => v = Value.slice a0_0 x0.length c0_0 ∧ g = [] ∧ RSl H a0_0 c0_0 x0),
      (fun H v g => v = Value.int .i64 s7 ∧ g = []),
      (fun H v g => ∃ bk21 of22, v = Value.pointer (some ⟨bk21, of22, none⟩) ∧ g = [] ∧ CellsAt H bk21 of22 [.int .i64 y14.Switch, .int .i64 y14.Port]),
      (fun H v g => v = Value.agg #[.int .i64 y14.Switch, .int .i64 y14.Port] ∧ g = []),
      (fun H v g => v = Value.bool (decide (x1 = y14)) ∧ g = [])] [[], [], [], [], [], []] mixed ⟨m0, fun _ _ _ _ hle ⟨e1, e2, h0_⟩ => ⟨e1, e2, RSl.mono hle h0_⟩, m0, fun _ _ _ _ hle ⟨bk21, of22, e1, e2, h0_⟩ => ⟨_, _, e1, e2, CellsAt.mono hle h0_⟩, m0, m0, trivial⟩ (by kernel_rfl) (by kernel_rfl) rfl (by kernel_rfl) rfl rfl ?_ ?_
      · refine dcons ?_ ?_
        · intro _ _ H26 fr27 hle28 hd29
          refine ⟨_, some (), rfl, fun _ => ?_⟩
          refine s_env (env' := [(3, .pointer (some ⟨b1, 0, none⟩))]) (by exact ⟨rfl, trivial⟩) ?_
          refine o_ld 0 rfl rfl rfl ?_
          exact s_pred fun _ _ _ hE hI => ⟨(.agg #[.int .i64 x1.Switch, .int .i64 x1.Port]), [], _, fun _ e => (by cases e; exact hE _ _ rfl), .refl _, by exact hI, ⟨rfl, rfl⟩⟩
        refine dcons ?_ ?_
        · intro _ _ H33 fr34 hle35 hd36
          have hs38 := RSl.mono hle35 hs12
          refine ⟨_, some (), rfl, fun _ => ?_⟩
          refine s_env (env' := [(0, .slice a0_0 x0.length c0_0)]) (by exact ⟨rfl, trivial⟩) ?_
          refine o_mov rfl ?_
          exact s_pred fun _ _ _ hE hI => ⟨(.slice a0_0 x0.length c0_0), [], _, fun _ e => (by cases e; exact hE _ _ rfl), .refl _, by exact hI, ⟨rfl, rfl, hs38⟩⟩
        refine dcons ?_ ?_
        · intro _ _ H41 fr42 hle43 hd44
          refine ⟨_, some (), rfl, fun _ => ?_⟩
          refine s_env (env' := [(5, .int .i64 s7)]) (by exact ⟨rfl, trivial⟩) ?_
          refine o_mov rfl ?_
          exact s_pred fun _ _ _ hE hI => ⟨(.int .i64 s7), [], _, fun _ e => (by cases e; exact hE _ _ rfl), .refl _, by exact hI, ⟨rfl, rfl⟩⟩
        refine dcons ?_ ?_
        · intro _ _ H48 fr49 hle50 hd51
          obtain ⟨hv53, hg54, hp55⟩ := hd51 1 (by decide)
          obtain ⟨hv56, hg57⟩ := hd51 2 (by decide)
          refine ⟨_, (rd x0 s7).bind some, by rw [h19]; rfl, fun _ => ?_⟩
          refine s_env (env' := [(12, .slice a0_0 x0.length c0_0), (13, .int .i64 s7)]) (by exact ⟨congrArg some hv53, congrArg some hv56, trivial⟩) ?_
          refine o_ixf hp55 rfl rfl fun y14 bk59 of60 h58 hc61 => ?_
          obtain rfl := Option.some.inj (h19.symm.trans h58)
          exact s_pred fun _ _ _ hE hI => ⟨(.pointer (some ⟨bk59, of60, none⟩)), [], _, fun _ e => (by cases e; exact hE _ _ rfl), .refl _, by exact hI, ⟨bk59, of60, rfl, rfl, hc61⟩⟩
        refine dcons ?_ ?_
        · intro _ _ H64 fr65 hle66 hd67
          obtain ⟨bk69, of70, hv71, hg72, hp73⟩ := hd67 3 (by decide)
          refine ⟨_, some (), rfl, fun _ => ?_⟩
          refine s_env (env' := [(14, .pointer (some ⟨bk69, of70, none⟩))]) (by exact ⟨congrArg some hv71, trivial⟩) ?_
          refine o_ldH 0 hp73 rfl rfl rfl ?_
          exact s_pred fun _ _ _ hE hI => ⟨(.agg #[.int .i64 y14.Switch, .int .i64 y14.Port]), [], _, fun _ e => (by cases e; exact hE _ _ rfl), .refl _, by exact hI, ⟨rfl, rfl⟩⟩
        refine dcons ?_ ?_
        · intro _ _ H76 fr77 hle78 hd79
          obtain ⟨hv81, hg82⟩ := hd79 0 (by decide)
          obtain ⟨hv83, hg84⟩ := hd79 4 (by decide)
          refine ⟨_, some (), rfl, fun _ => ?_⟩
          refine s_env (env' := [(11, .agg #[.int .i64 x1.Switch, .int .i64 x1.Port]), (15, .agg #[.int .i64 y14.Switch, .int .i64 y14.Port])]) (by exact ⟨congrArg some hv81, congrArg some hv83, trivial⟩) ?_
          refine o_eqS x1 y14 rfl rfl ?_
          exact s_pred fun _ _ _ hE hI => ⟨(.bool (decide (x1 = y14))), [], _, fun _ e => (by cases e; exact hE _ _ rfl), .refl _, by exact hI, ⟨rfl, rfl⟩⟩
        exact dnil
      · intro V87 G88 H85 hle86 hF89
        have hs90 := RSl.mono hle86 hs12
        obtain ⟨hv91, hg92⟩ := hF89 5 (show 5 < 6 by decide)
        refine s_env (env' := [(16, .bool (decide (x1 = y14))), (0, .slice a0_0 x0.length c0_0), (3, .pointer (some ⟨b1, 0, none⟩)), (7, .int .i64 (x0.length : Int)), (8, .int .i64 s7), (9, .bool (decide (s7 < (x0.length : Int)))), (10, .int .i64 s7), (5, .int .i64 s7)]) (by exact ⟨congrArg some hv91, rfl, rfl, rfl, rfl, rfl, rfl, rfl, trivial⟩) ?_
        refine s_own (List.sublist_append_left _ _) ?_
        refine s_done ?_
        refine s_cond rfl (fun h93 => ?_) (fun h93 => ?_)
        · refine s_seq ?_
          refine s_region ?_
          refine o_mov rfl ?_
          refine o_asg rfl ?_
          refine s_done ?_
          refine s_lret ?_
          exact s_retv (xs := [.tmp 4]) (vs := [.int .i64 s7]) [] fn_100 rfl ⟨rv_tmp rfl, trivial⟩ (.cons _ .slnil) ⟨rfl, rfl⟩
        · refine s_skip ?_
          refine s_inBlock ?_
          refine s_region ?_
          refine o_add rfl rfl ?_
          refine o_mov rfl ?_
          refine s_done ?_
          exact s_env (by exact ⟨rfl, rfl, rfl, rfl, trivial⟩) (s_own (by exact (.cons_cons _ .slnil)) (ih9 (w64 (s7 + 1)) _ _ _ ⟨rfl, rfl, (Hle.trans hle11 hle86)⟩))
    · refine s_exit rfl ?_
      exact s_env (by exact trivial) (s_own (by exact (.cons _ .slnil)) (J6 () _ _ _ ⟨rfl, rfl, hle11⟩))

/-! slices.Contains[[]catenary/api.End,catenary/api.End] -/
def slices_Contains___api_End_api_End_ (k : Nat) (x0 : (List End)) (x1 : End) : Option Bool :=
  (slices_Index___api_End_api_End_ k x0 x1).bind fun y3 =>
  some (decide (y3 ≥ 0))
theorem fn_78 : Try.prog.funcs[78]? = some Try.f78 := by kernel_rfl
set_option maxRecDepth 100000 in
set_option maxHeartbeats 4000000 in
theorem slices_Contains___api_End_api_End__ok (k : Nat) (H : Heap) (x0 : (List End)) (a0_0 : Option Addr) (c0_0 : Nat) (hx0_0 : RSl H a0_0 c0_0 x0) (x1 : End) {r : Bool} (hr : slices_Contains___api_End_api_End_ k x0 x1 = some r) :
    Fn Try.prog 78 [.slice a0_0 x0.length c0_0, .agg #[.int .i64 x1.Switch, .int .i64 x1.Port]] H [] fun H' v out => v = .bool r ∧ out = [] := by
  refine fn_of_sim (args := [.slice a0_0 x0.length c0_0, .agg #[.int .i64 x1.Switch, .int .i64 x1.Port]]) (n := 9) (Φ := fun r H' v out => v = .bool r ∧ out = []) hr fn_78 rfl rfl rfl fun w => ?_
  refine s_eq (by rw [slices_Contains___api_End_api_End_]) ?_
  refine s_seq ?_
  refine s_region ?_
  refine o_box rfl fun b1 => ?_
  refine o_asg rfl ?_
  refine s_done ?_
  refine s_seq ?_
  refine s_region ?_
  refine o_mov rfl ?_
  refine o_ld 0 rfl rfl rfl ?_
  refine s_bg fun y3 h4 => ?_
  refine s_callF rfl rfl (slices_Index___api_End_api_End__ok k _ x0 _ _ hx0_0 x1 h4) ?_
  refine o_ge rfl rfl ?_
  refine o_asg rfl ?_
  refine s_done ?_
  exact s_retv (xs := [.tmp 4]) (vs := [.bool (decide (y3 ≥ 0))]) [] fn_78 rfl ⟨rv_tmp rfl, trivial⟩ (.cons _ .slnil) ⟨rfl, rfl⟩

/-! catenary/tree.Second$1 -/
def tree_Second_1 (k : Nat) (x0 : Link) (x1 : (List End)) : Option Bool :=
  (slices_Contains___api_End_api_End_ k x1 x0.A).bind fun y3 =>
  if (y3) = true then
    some true
  else
    (slices_Contains___api_End_api_End_ k x1 x0.B).bind fun y6 =>
    some y6
theorem fn_77 : Try.prog.funcs[77]? = some Try.f77 := by kernel_rfl
set_option maxRecDepth 100000 in
set_option maxHeartbeats 4000000 in
theorem tree_Second_1_ok (k : Nat) (H : Heap) (x0 : Link) (x1 : (List End)) (a1_0 : Option Addr) (c1_0 : Nat) (hx1_0 : RSl H a1_0 c1_0 x1) (bq1 : Nat) {r : Bool} (hr : tree_Second_1 k x0 x1 = some r) :
    Fn Try.prog 77 [.agg #[.int .i64 x0.A.Switch, .int .i64 x0.A.Port, .int .i64 x0.B.Switch, .int .i64 x0.B.Port], .pointer (some ⟨bq1, 0, none⟩)] H [.blk bq1 (rowObj [.slice a1_0 x1.length c1_0] 64)] fun H' v out => v = .bool r ∧ out = [.blk bq1 (rowObj [.slice a1_0 x1.length c1_0] 64)] := by
  refine fn_of_sim (args := [.agg #[.int .i64 x0.A.Switch, .int .i64 x0.A.Port, .int .i64 x0.B.Switch, .int .i64 x0.B.Port], .pointer (some ⟨bq1, 0, none⟩)]) (n := 14) (Φ := fun r H' v out => v = .bool r ∧ out = [.blk bq1 (rowObj [.slice a1_0 x1.length c1_0] 64)]) hr fn_77 rfl rfl rfl fun w => ?_
  refine s_eq (by rw [tree_Second_1]) ?_
  refine s_seq ?_
  refine s_region ?_
  refine o_box rfl fun b1 => ?_
  refine o_asg rfl ?_
  refine s_done ?_
  refine s_seq ?_
  refine s_region ?_
  refine o_ld 0 rfl rfl rfl ?_
  refine o_fa rfl ?_
  refine o_ld 1 rfl rfl rfl ?_
  refine s_bg fun y3 h4 => ?_
  refine s_callF rfl rfl (slices_Contains___api_End_api_End__ok k _ x1 _ _ hx1_0 x0.A h4) ?_
  refine o_mov rfl ?_
  refine s_split y3 (fun h5 => ?_) (fun h5 => ?_)
  · refine s_unwant rfl rfl h5 ?_
    refine s_unwant rfl rfl h5 ?_
    refine s_unwant rfl rfl h5 ?_
    refine s_unwant rfl rfl h5 ?_
    refine o_pickT rfl h5 rfl ?_
    refine o_asg rfl ?_
    refine s_done ?_
    exact s_retv (xs := [.tmp 3]) (vs := [.bool true]) [.blk bq1 (rowObj [.slice a1_0 x1.length c1_0] 64)] fn_77 rfl ⟨rv_tmp rfl, trivial⟩ (.cons_cons _ (.cons _ .slnil)) ⟨rfl, rfl⟩
  · refine s_want rfl rfl h5 ?_
    refine o_ld 0 rfl rfl rfl ?_
    refine s_want rfl rfl h5 ?_
    refine o_fa rfl ?_
    refine s_want rfl rfl h5 ?_
    refine o_ld 1 rfl rfl rfl ?_
    refine s_want rfl rfl h5 ?_
    refine s_bg fun y6 h7 => ?_
    refine s_callF rfl rfl (slices_Contains___api_End_api_End__ok k _ x1 _ _ hx1_0 x0.B h7) ?_
    refine o_pickF rfl h5 rfl ?_
    refine o_asg rfl ?_
    refine s_done ?_
    exact s_retv (xs := [.tmp 3]) (vs := [.bool y6]) [.blk bq1 (rowObj [.slice a1_0 x1.length c1_0] 64)] fn_77 rfl ⟨rv_tmp rfl, trivial⟩ (.cons_cons _ (.cons _ .slnil)) ⟨rfl, rfl⟩

/-! slices.IndexFunc[[]catenary/api.Link,catenary/api.Link] -/
def slices_IndexFunc___api_Link_api_Link__at77_l0 (k : Nat) (x0 : (List Link)) (x1g0 : (List End)) : Nat → Int → Option (LX (Int) (Unit))
  | 0, _ => none
  | q7 + 1, s6 =>
    if (decide (s6 < (x0.length : Int))) = true then
      (rd x0 s6).bind fun y14 =>
      (tree_Second_1 k y14 x1g0).bind fun y19 =>
      if (y19) = true then
        some (.ret s6)
      else
        slices_IndexFunc___api_Link_api_Link__at77_l0 k x0 x1g0 q7 (w64 (s6 + 1))
    else
      some (.out ())
def slices_IndexFunc___api_Link_api_Link__at77 (k : Nat) (x0 : (List Link)) (x1g0 : (List End)) : Option Int :=
  (slices_IndexFunc___api_Link_api_Link__at77_l0 k x0 x1g0 k 0).bind (LX.go fun p1 =>
  some (-1))
theorem fn_99 : Try.prog.funcs[99]? = some Try.f99 := by kernel_rfl
set_option maxRecDepth 100000 in
set_option maxHeartbeats 4000000 in
theorem slices_IndexFunc___api_Link_api_Link__at77_ok (k : Nat) (H : Heap) (x0 : (List Link)) (a0_0 : Option Addr) (c0_0 : Nat) (hx0_0 : RSl H a0_0 c0_0 x0) (x1g0 : (List End)) (a1g0_0 : Option Addr) (c1g0_0 : Nat) (hx1g0_0 : RSl H a1g0_0 c1g0_0 x1g0) (bq1g0 : Nat) {r : Int} (hr : slices_IndexFunc___api_Link_api_Link__at77 k x0 x1g0 = some r) :
    Fn Try.prog 99 [.slice a0_0 x0.length c0_0, .func (.func 77) #[] #[.pointer (some ⟨bq1g0, 0, none⟩)]] H [.blk bq1g0 (rowObj [.slice a1g0_0 x1g0.length c1g0_0] 64)] fun H' v out => v = .int .i64 r ∧ out = [.blk bq1g0 (rowObj [.slice a1g0_0 x1g0.length c1g0_0] 64)] := by
  refine fn_of_sim (args := [.slice a0_0 x0.length c0_0, .func (.func 77) #[] #[.pointer (some ⟨bq1g0, 0, none⟩)]]) (n := 19) (Φ := fun r H' v out => v = .int .i64 r ∧ out = [.blk bq1g0 (rowObj [.slice a1g0_0 x1g0.length c1g0_0] 64)]) hr fn_99 rfl rfl rfl fun w => ?_
  refine s_eq (by rw [slices_IndexFunc___api_Link_api_Link__at77]) ?_
  refine s_seq ?_
  refine s_region ?_
  refine o_asg rfl ?_
  refine s_done ?_
  refine s_seq ?_
  refine s_seq ?_
  refine s_region ?_
  refine o_mov rfl ?_
  refine o_lenS rfl ?_
  refine o_mov rfl ?_
  refine s_done ?_
  refine s_joinL (fun p1 env own H' => env = [] ∧ own = [.blk bq1g0 (rowObj [.slice a1g0_0 x1g0.length c1g0_0] 64)] ∧ Hle H H') ?_ ?_
  · rintro p1 _ _ H2 ⟨rfl, rfl, hle3⟩
    have hs4 := RSl.mono hle3 hx1g0_0
    refine s_seq ?_
    refine s_region ?_
    refine o_asg rfl ?_
    refine s_done ?_
    exact s_retv (xs := [.tmp 4]) (vs := [.int .i64 (-1)]) [.blk bq1g0 (rowObj [.slice a1g0_0 x1g0.length c1g0_0] 64)] fn_99 rfl ⟨rv_tmp rfl, trivial⟩ (.cons_cons _ .slnil) ⟨rfl, rfl⟩
  · intro J5
    refine s_block ?_
    refine s_env (env' := [(0, .slice a0_0 x0.length c0_0), (1, .func (.func 77) #[] #[.pointer (some ⟨bq1g0, 0, none⟩)]), (7, .int .i64 (x0.length : Int)), (8, .int .i64 0)]) (by exact ⟨rfl, rfl, rfl, rfl, trivial⟩) ?_
    refine s_own (own' := [.blk bq1g0 (rowObj [.slice a1g0_0 x1g0.length c1g0_0] 64)]) (.cons_cons _ .slnil) ?_
    refine s_loopn (fun q s6 => slices_IndexFunc___api_Link_api_Link__at77_l0 k x0 x1g0 q s6) (fun s6 env own H' => env = [(0, .slice a0_0 x0.length c0_0), (1, .func (.func 77) #[] #[.pointer (some ⟨bq1g0, 0, none⟩)]), (7, .int .i64 (x0.length : Int)), (8, .int .i64 s6)] ∧ own = [.blk bq1g0 (rowObj [.slice a1g0_0 x1g0.length c1g0_0] 64)] ∧ Hle H H') (fun _ => rfl) ?_ k 0 ⟨rfl, rfl, .refl _⟩
    rintro q7 ih8 s6 _ _ H9 ⟨rfl, rfl, hle10⟩
    refine s_eq (by rw [slices_IndexFunc___api_Link_api_Link__at77_l0]) ?_
    have hs11 := RSl.mono hle10 hx0_0
    have hs12 := RSl.mono hle10 hx1g0_0
    refine s_seq ?_
    refine s_region ?_
    refine o_lt rfl rfl ?_
    refine s_done ?_
    refine s_seq ?_
    refine s_cond rfl (fun h13 => ?_) (fun h13 => ?_)
    · refine s_skip ?_
      refine s_seq ?_
      refine s_block ?_
      refine s_seq ?_
      refine s_region ?_
      refine o_mov rfl ?_
      refine o_asg rfl ?_
      refine s_done ?_
      refine s_seq ?_
      refine s_region ?_
      refine o_mov rfl ?_
      refine o_mov rfl ?_
      refine o_mov rfl ?_
      refine o_ixf hs11 rfl rfl fun y14 bk16 of17 h15 hc18 => ?_
      refine o_ldH 0 hc18 rfl rfl rfl ?_
      refine s_mv 0 rfl ?_
      refine s_bg fun y19 h20 => ?_
      refine s_call [Res.blk bq1g0 (rowObj [.slice a1g0_0 x1g0.length c1g0_0] 64)] ([] : List Res) rfl rfl (List.perm_append_comm (l₁ := ([] : List Res)) (l₂ := [Res.blk bq1g0 (rowObj [.slice a1g0_0 x1g0.length c1g0_0] 64)])) (tree_Second_1_ok k _ y14 x1g0 _ _ hs12 _ h20) ?_
      rintro _ H21 _ hle22 ⟨rfl, rfl⟩
      have hs23 := RSl.mono hle22 hs11
      have hc24 := CellsAt.mono hle22 hc18
      have hs25 := RSl.mono hle22 hs12
      refine s_ownE (own' := [.blk bq1g0 (rowObj [.slice a1g0_0 x1g0.length c1g0_0] 64)]) rfl ?_
      refine s_done ?_
      refine s_cond rfl (fun h26 => ?_) (fun h26 => ?_)
      · refine s_seq ?_
        refine s_region ?_
        refine o_mov rfl ?_
        refine o_asg rfl ?_
        refine s_done ?_
        refine s_lret ?_
        exact s_retv (xs := [.tmp 4]) (vs := [.int .i64 s6]) [.blk bq1g0 (rowObj [.slice a1g0_0 x1g0.length c1g0_0] 64)] fn_99 rfl ⟨rv_tmp rfl, trivial⟩ (.cons_cons _ .slnil) ⟨rfl, rfl⟩
      · refine s_skip ?_
        refine s_inBlock ?_
        refine s_region ?_
        refine o_add rfl rfl ?_
        refine o_mov rfl ?_
        refine s_done ?_
        exact s_env (by exact ⟨rfl, rfl, rfl, rfl, trivial⟩) (s_own (by exact (.cons_cons _ .slnil)) (ih8 (w64 (s6 + 1)) _ _ _ ⟨rfl, rfl, (Hle.trans hle10 hle22)⟩))
    · refine s_exit rfl ?_
      exact s_env (by exact trivial) (s_own (by exact (.cons_cons _ .slnil)) (J5 () _ _ _ ⟨rfl, rfl, hle10⟩))

/-! slices.DeleteFunc[[]catenary/api.Link,catenary/api.Link] -/
def slices_DeleteFunc___api_Link_api_Link__at77_l0 (k : Nat) (x1g0 : (List End)) : Nat → (List Link) × Int × Int → Option ((List Link) × Int)
  | 0, _ => none
  | q25 + 1, s20 =>
    if (decide (s20.2.2 < (s20.1.length : Int))) = true then
      (rd s20.1 s20.2.2).bind fun y31 =>
      (tree_Second_1 k y31 x1g0).bind fun y40 =>
      if (!y40) = true then
        (rd s20.1 s20.2.1).bind fun y47 =>
        slices_DeleteFunc___api_Link_api_Link__at77_l0 k x1g0 q25 ((s20.1.set (s20.2.1 : Int).toNat y31), w64 (s20.2.1 + 1), w64 (s20.2.2 + 1))
      else
        slices_DeleteFunc___api_Link_api_Link__at77_l0 k x1g0 q25 (s20.1, s20.2.1, w64 (s20.2.2 + 1))
    else
      some (s20.1, s20.2.1)
def slices_DeleteFunc___api_Link_api_Link__at77 (k : Nat) (x0 : (List Link)) (x1g0 : (List End)) : Option (List Link) :=
  (slices_IndexFunc___api_Link_api_Link__at77 k x0 x1g0).bind fun y1 =>
  if (y1 == (-1)) = true then
    some x0
  else
    (slices_DeleteFunc___api_Link_api_Link__at77_l0 k x1g0 k (x0, y1, w64 (y1 + 1))).bind fun p4 =>
    (slc p4.1 p4.2 (p4.1.length : Int)).bind fun _ =>
    (slc (p4.1.take (p4.2 : Int).toNat ++ List.replicate (p4.1.length - (p4.2 : Int).toNat) ((⟨(⟨0, 0⟩ : End), (⟨0, 0⟩ : End)⟩ : Link) : Link)) 0 p4.2).bind fun y16 =>
    some y16
theorem fn_75 : Try.prog.funcs[75]? = some Try.f75 := by kernel_rfl
set_option maxRecDepth 100000 in
set_option maxHeartbeats 4000000 in
theorem slices_DeleteFunc___api_Link_api_Link__at77_ok (k : Nat) (H : Heap) (x0 : (List Link)) (a0 : Option Addr) (c0 : Nat) (x1g0 : (List End)) (a1g0_0 : Option Addr) (c1g0_0 : Nat) (hx1g0_0 : RSl H a1g0_0 c1g0_0 x1g0) (bq1g0 : Nat) {r : (List Link)} (hr : slices_DeleteFunc___api_Link_api_Link__at77 k x0 x1g0 = some r) :
    Fn Try.prog 75 [.slice a0 x0.length c0, .func (.func 77) #[] #[.pointer (some ⟨bq1g0, 0, none⟩)]] H [.osl (.slice a0 x0.length c0) 4 40 (x0.map GoE.enc), .blk bq1g0 (rowObj [.slice a1g0_0 x1g0.length c1g0_0] 64)] fun H' v out => ∃ a0 c0, v = .slice a0 r.length c0 ∧ out = [.osl (.slice a0 r.length c0) 4 40 (r.map GoE.enc), .blk bq1g0 (rowObj [.slice a1g0_0 x1g0.length c1g0_0] 64)] := by
  refine fn_of_sim (args := [.slice a0 x0.length c0, .func (.func 77) #[] #[.pointer (some ⟨bq1g0, 0, none⟩)]]) (n := 42) (Φ := fun r H' v out => ∃ a0 c0, v = .slice a0 r.length c0 ∧ out = [.osl (.slice a0 r.length c0) 4 40 (r.map GoE.enc), .blk bq1g0 (rowObj [.slice a1g0_0 x1g0.length c1g0_0] 64)]) hr fn_75 rfl rfl rfl fun w => ?_
  refine s_eq (by rw [slices_DeleteFunc___api_Link_api_Link__at77]) ?_
  refine s_seq ?_
  refine s_region ?_
  refine o_asg rfl ?_
  refine s_done ?_
  refine s_seq ?_
  refine s_region ?_
  refine o_mov rfl ?_
  refine o_mov rfl ?_
  refine s_mv 1 rfl ?_
  refine s_bg fun y1 h2 => ?_
  refine s_callL (Φ := fun v out => v = .int .i64 y1 ∧ out = [.blk bq1g0 (rowObj [.slice a1g0_0 x1g0.length c1g0_0] 64)]) [Res.blk bq1g0 (rowObj [.slice a1g0_0 x1g0.length c1g0_0] 64)] [Res.osl (.slice a0 x0.length c0) 4 40 (x0.map GoE.enc)] rfl rfl (List.perm_append_comm (l₁ := [Res.osl (.slice a0 x0.length c0) 4 40 (x0.map GoE.enc)]) (l₂ := [Res.blk bq1g0 (rowObj [.slice a1g0_0 x1g0.length c1g0_0] 64)])) (fun H' hle hl => slices_IndexFunc___api_Link_api_Link__at77_ok k _ x0 _ _ (lent_rsl (hl _ (List.mem_of_getElem? (i := 0) rfl)) (all2_enc (H := H) x0) hle).2 x1g0 _ _ (RSl.mono hle hx1g0_0) _ h2) ?_
  rintro _ _ ⟨rfl, rfl⟩
  refine s_ownE (own' := [.osl (.slice a0 x0.length c0) 4 40 (x0.map GoE.enc), .blk bq1g0 (rowObj [.slice a1g0_0 x1g0.length c1g0_0] 64)]) rfl ?_
  refine o_asg rfl ?_
  refine s_done ?_
  refine s_seq ?_
  refine s_seq ?_
  refine s_region ?_
  refine o_mov rfl ?_
  refine o_eq rfl rfl ?_
  refine s_done ?_
  refine s_cond rfl (fun h3 => ?_) (fun h3 => ?_)
  · refine s_seq ?_
    refine s_region ?_
    refine o_mov rfl ?_
    refine o_asg rfl ?_
    refine s_done ?_
    exact s_retv (xs := [.tmp 4]) (vs := [.slice a0 x0.length c0]) [.osl (.slice a0 x0.length c0) 4 40 (x0.map GoE.enc), .blk bq1g0 (rowObj [.slice a1g0_0 x1g0.length c1g0_0] 64)] fn_75 rfl ⟨rv_tmp rfl, trivial⟩ (.cons_cons _ (.cons_cons _ .slnil)) ⟨_, _, rfl, (congrArg (fun z => [Res.osl _ _ _ z, Res.blk bq1g0 (rowObj [.slice a1g0_0 x1g0.length c1g0_0] 64)]) (all2_flat (all2_enc (H := H) x0)))⟩
  · refine s_skip ?_
    refine s_seq ?_
    refine s_seq ?_
    refine s_region ?_
    refine o_mov rfl ?_
    refine o_add rfl rfl ?_
    refine o_asg rfl ?_
    refine s_done ?_
    refine s_join (fun p4 env own H' => ∃ a5 c6 ls7, env = [(0, .slice a5 p4.1.length c6), (5, .int .i64 p4.2)] ∧ own = [.osl (.slice a5 p4.1.length c6) 4 40 ls7, .blk bq1g0 (rowObj [.slice a1g0_0 x1g0.length c1g0_0] 64)] ∧ Hle H H' ∧ All2 (GoT.rep H') ls7 p4.1) ?_ ?_
    · rintro p4 _ _ H9 ⟨a5, c6, ls7, rfl, rfl, hle10, hA8⟩
      have hs11 := RSl.mono hle10 hx1g0_0
      refine s_seq ?_
      refine s_region ?_
      refine o_mov rfl ?_
      refine o_mov rfl ?_
      refine o_clrS (l := p4.1) (z := ((⟨(⟨0, 0⟩ : End), (⟨0, 0⟩ : End)⟩ : Link) : Link)) (zc := [.int .i64 0, .int .i64 0, .int .i64 0, .int .i64 0]) 0 rfl rfl rfl hA8 (fun _ => ⟨.agg #[.int .i64 0, .int .i64 0, .int .i64 0, .int .i64 0], by kernel_rfl, rfl⟩) rfl fun v14 _ h12 hA13 => ?_
      have hl15 : (p4.1.take (p4.2 : Int).toNat ++ List.replicate (p4.1.length - (p4.2 : Int).toNat) ((⟨(⟨0, 0⟩ : End), (⟨0, 0⟩ : End)⟩ : Link) : Link)).length = p4.1.length := by obtain ⟨h0_, h1_, _, _⟩ := slc_some h12; simp only [List.length_append, List.length_take, List.length_replicate]; omega
      refine s_env (env' := [(0, .slice a5 (p4.1.take (p4.2 : Int).toNat ++ List.replicate (p4.1.length - (p4.2 : Int).toNat) ((⟨(⟨0, 0⟩ : End), (⟨0, 0⟩ : End)⟩ : Link) : Link)).length c6), (5, .int .i64 p4.2), (36, .slice a5 (p4.1.take (p4.2 : Int).toNat ++ List.replicate (p4.1.length - (p4.2 : Int).toNat) ((⟨(⟨0, 0⟩ : End), (⟨0, 0⟩ : End)⟩ : Link) : Link)).length c6), (37, .int .i64 p4.2)]) (by exact ⟨(by rw [hl15]; rfl), rfl, (by rw [hl15]; rfl), rfl, trivial⟩) ?_
      refine s_ownE (own' := [.osl (.slice a5 (p4.1.take (p4.2 : Int).toNat ++ List.replicate (p4.1.length - (p4.2 : Int).toNat) ((⟨(⟨0, 0⟩ : End), (⟨0, 0⟩ : End)⟩ : Link) : Link)).length c6) 4 40 (ls7.take (p4.2 : Int).toNat ++ List.replicate (p4.1.length - (p4.2 : Int).toNat) ([.int .i64 0, .int .i64 0, .int .i64 0, .int .i64 0] : List Value)), .blk bq1g0 (rowObj [.slice a1g0_0 x1g0.length c1g0_0] 64)]) (by rw [hl15]; rfl) ?_
      refine s_done ?_
      refine s_seq ?_
      refine s_region ?_
      refine o_mov rfl ?_
      refine o_mov rfl ?_
      refine o_slP (l := (p4.1.take (p4.2 : Int).toNat ++ List.replicate (p4.1.length - (p4.2 : Int).toNat) ((⟨(⟨0, 0⟩ : End), (⟨0, 0⟩ : End)⟩ : Link) : Link))) 0 rfl rfl rfl hA13 fun y16 h17 hA18 => ?_
      refine o_asg rfl ?_
      refine s_done ?_
      exact s_retv (xs := [.tmp 4]) (vs := [.slice a5 y16.length c6]) [.osl (.slice a5 y16.length c6) 4 40 ((ls7.take (p4.2 : Int).toNat ++ List.replicate (p4.1.length - (p4.2 : Int).toNat) ([.int .i64 0, .int .i64 0, .int .i64 0, .int .i64 0] : List Value)).take (p4.2 : Int).toNat), .blk bq1g0 (rowObj [.slice a1g0_0 x1g0.length c1g0_0] 64)] fn_75 rfl ⟨rv_tmp rfl, trivial⟩ (.cons_cons _ (.cons_cons _ .slnil)) ⟨_, _, rfl, (congrArg (fun z => [Res.osl _ _ _ z, Res.blk bq1g0 (rowObj [.slice a1g0_0 x1g0.length c1g0_0] 64)]) (all2_flat hA18))⟩
    · intro J19
      refine s_block ?_
      refine s_env (env' := [(0, .slice a0 x0.length c0), (1, .func (.func 77) #[] #[.pointer (some ⟨bq1g0, 0, none⟩)]), (5, .int .i64 y1), (6, .int .i64 (w64 (y1 + 1)))]) (by exact ⟨rfl, rfl, rfl, rfl, trivial⟩) ?_
      refine s_own (own' := [.osl (.slice a0 x0.length c0) 4 40 (x0.map GoE.enc), .blk bq1g0 (rowObj [.slice a1g0_0 x1g0.length c1g0_0] 64)]) (.cons_cons _ (.cons_cons _ .slnil)) ?_
      refine s_loopn (fun q s20 => slices_DeleteFunc___api_Link_api_Link__at77_l0 k x1g0 q s20) (fun s20 env own H' => ∃ a21 c22 ls23, env = [(0, .slice a21 s20.1.length c22), (1, .func (.func 77) #[] #[.pointer (some ⟨bq1g0, 0, none⟩)]), (5, .int .i64 s20.2.1), (6, .int .i64 s20.2.2)] ∧ own = [.osl (.slice a21 s20.1.length c22) 4 40 ls23, .blk bq1g0 (rowObj [.slice a1g0_0 x1g0.length c1g0_0] 64)] ∧ Hle H H' ∧ All2 (GoT.rep H') ls23 s20.1) (fun _ => rfl) ?_ k (x0, y1, w64 (y1 + 1)) ⟨_, _, _, rfl, rfl, .refl _, (all2_enc (H := H) x0)⟩
      rintro q25 ih26 s20 _ _ H27 ⟨a21, c22, ls23, rfl, rfl, hle28, hA24⟩
      refine s_eq (by rw [slices_DeleteFunc___api_Link_api_Link__at77_l0]) ?_
      have hs29 := RSl.mono hle28 hx1g0_0
      refine s_seq ?_
      refine s_seq ?_
      refine s_region ?_
      refine o_mov rfl ?_
      refine o_mov rfl ?_
      refine o_lenS rfl ?_
      refine o_lt rfl rfl ?_
      refine s_done ?_
      refine s_cond rfl (fun h30 => ?_) (fun h30 => ?_)
      · refine s_skip ?_
        refine s_seq ?_
        refine s_block ?_
        refine s_seq ?_
        refine s_region ?_
        refine o_mov rfl ?_
        refine o_mov rfl ?_
        refine o_ixO 0 rfl hA24 rfl rfl fun y31 bk33 vs34 h32 ha35 hi36 hr37 => ?_
        subst hr37
        subst ha35
        refine o_ldO 0 0 rfl hi36 rfl rfl rfl ?_
        refine o_alloc fun b38 => ?_
        refine o_st 2 rfl rfl rfl rfl rfl rfl ?_
        refine s_done ?_
        refine s_seq ?_
        refine s_region ?_
        refine o_mov rfl ?_
        refine o_ld 2 rfl rfl rfl ?_
        refine s_mv 1 rfl ?_
        refine s_bg fun y40 h41 => ?_
        refine s_call [Res.blk bq1g0 (rowObj [.slice a1g0_0 x1g0.length c1g0_0] 64)] [Res.osl (.slice (some ⟨bk33, 0, none⟩) s20.1.length c22) 4 40 ls23, Res.blk b38 (rowObj [.int .i64 y31.A.Switch, .int .i64 y31.A.Port, .int .i64 y31.B.Switch, .int .i64 y31.B.Port] 40)] rfl rfl (List.perm_append_comm (l₁ := [Res.osl (.slice (some ⟨bk33, 0, none⟩) s20.1.length c22) 4 40 ls23, Res.blk b38 (rowObj [.int .i64 y31.A.Switch, .int .i64 y31.A.Port, .int .i64 y31.B.Switch, .int .i64 y31.B.Port] 40)]) (l₂ := [Res.blk bq1g0 (rowObj [.slice a1g0_0 x1g0.length c1g0_0] 64)])) (tree_Second_1_ok k _ y31 x1g0 _ _ hs29 _ h41) ?_
        rintro _ H42 _ hle43 ⟨rfl, rfl⟩
        have hA44 := All2.mono (fun _ _ => GoT.mono hle43) hA24
        have hs45 := RSl.mono hle43 hs29
        refine s_ownE (own' := [.osl (.slice (some ⟨bk33, 0, none⟩) s20.1.length c22) 4 40 ls23, .blk b38 (rowObj [.int .i64 y31.A.Switch, .int .i64 y31.A.Port, .int .i64 y31.B.Switch, .int .i64 y31.B.Port] 40), .blk bq1g0 (rowObj [.slice a1g0_0 x1g0.length c1g0_0] 64)]) rfl ?_
        refine o_not rfl ?_
        refine s_done ?_
        refine s_cond rfl (fun h46 => ?_) (fun h46 => ?_)
        · refine s_seq ?_
          refine s_region ?_
          refine o_mov rfl ?_
          refine o_mov rfl ?_
          refine o_ld 1 rfl rfl rfl ?_
          refine o_ixO 0 rfl hA44 rfl rfl fun y47 bk49 vs50 h48 ha51 hi52 hr53 => ?_
          subst hr53
          obtain rfl := s_bk ha51
          refine o_stV (l := s20.1) (ci := s20.2.1) 0 0 rfl hA44 hi52 rfl rfl rfl rfl rfl rfl y31 (rfl) fun ls54 hA55 => ?_
          refine s_env (env' := [(0, .slice (some ⟨bk33, 0, none⟩) (s20.1.set (s20.2.1 : Int).toNat y31).length c22), (1, .func (.func 77) #[] #[.pointer (some ⟨bq1g0, 0, none⟩)]), (5, .int .i64 s20.2.1), (6, .int .i64 s20.2.2), (16, .int .i64 s20.2.2), (17, .slice (some ⟨bk33, 0, none⟩) (s20.1.set (s20.2.1 : Int).toNat y31).length c22), (18, .int .i64 (s20.1.length : Int)), (19, .bool (decide (s20.2.2 < (s20.1.length : Int)))), (22, .slice (some ⟨bk33, 0, none⟩) (s20.1.set (s20.2.1 : Int).toNat y31).length c22), (23, .int .i64 s20.2.2), (25, .agg #[.int .i64 y31.A.Switch, .int .i64 y31.A.Port, .int .i64 y31.B.Switch, .int .i64 y31.B.Port]), (7, .pointer (some ⟨b38, 0, none⟩)), (26, .func (.func 77) #[] #[.pointer (some ⟨bq1g0, 0, none⟩)]), (27, .agg #[.int .i64 y31.A.Switch, .int .i64 y31.A.Port, .int .i64 y31.B.Switch, .int .i64 y31.B.Port]), (28, .bool y40), (29, .bool (!y40)), (30, .slice (some ⟨bk33, 0, none⟩) (s20.1.set (s20.2.1 : Int).toNat y31).length c22), (31, .int .i64 s20.2.1), (32, .agg #[.int .i64 y31.A.Switch, .int .i64 y31.A.Port, .int .i64 y31.B.Switch, .int .i64 y31.B.Port])]) (by exact ⟨(by first | (simp only [List.length_set]; rfl) | rfl), rfl, rfl, rfl, rfl, (by first | (simp only [List.length_set]; rfl) | rfl), rfl, rfl, (by first | (simp only [List.length_set]; rfl) | rfl), rfl, rfl, rfl, rfl, rfl, rfl, rfl, (by first | (simp only [List.length_set]; rfl) | rfl), rfl, rfl, trivial⟩) ?_
          refine s_ownE (own' := [.osl (.slice (some ⟨bk33, 0, none⟩) (s20.1.set (s20.2.1 : Int).toNat y31).length c22) 4 40 ls54, .blk b38 (rowObj [.int .i64 y31.A.Switch, .int .i64 y31.A.Port, .int .i64 y31.B.Switch, .int .i64 y31.B.Port] 40), .blk bq1g0 (rowObj [.slice a1g0_0 x1g0.length c1g0_0] 64)]) (by first | (simp only [List.length_set]; done) | (simp only [List.length_set]; rfl) | rfl) ?_
          refine s_done ?_
          refine s_region ?_
          refine o_mov rfl ?_
          refine o_add rfl rfl ?_
          refine o_asg rfl ?_
          refine s_done ?_
          refine s_inBlock ?_
          refine s_region ?_
          refine o_mov rfl ?_
          refine o_add rfl rfl ?_
          refine o_asg rfl ?_
          refine s_done ?_
          exact s_env (by exact ⟨rfl, rfl, rfl, rfl, trivial⟩) (s_own (by exact (.cons_cons _ (.cons _ (.cons_cons _ .slnil)))) (ih26 ((s20.1.set (s20.2.1 : Int).toNat y31), w64 (s20.2.1 + 1), w64 (s20.2.2 + 1)) _ _ _ ⟨_, _, _, rfl, rfl, (Hle.trans hle28 hle43), hA55⟩))
        · refine s_skip ?_
          refine s_inBlock ?_
          refine s_region ?_
          refine o_mov rfl ?_
          refine o_add rfl rfl ?_
          refine o_asg rfl ?_
          refine s_done ?_
          exact s_env (by exact ⟨rfl, rfl, rfl, rfl, trivial⟩) (s_own (by exact (.cons_cons _ (.cons _ (.cons_cons _ .slnil)))) (ih26 (s20.1, s20.2.1, w64 (s20.2.2 + 1)) _ _ _ ⟨_, _, _, rfl, rfl, (Hle.trans hle28 hle43), hA44⟩))
      · refine s_exit rfl ?_
        exact s_env (by exact ⟨rfl, rfl, trivial⟩) (s_own (by exact (.cons_cons _ (.cons_cons _ .slnil))) (J19 (s20.1, s20.2.1) _ _ _ ⟨_, _, _, rfl, rfl, hle28, hA24⟩))

/-! catenary/tree.find -/
def tree_find_l1 (k : Nat) (x0 : (List Link)) (s26 : (List (Int × End)) × (List Int) × Int) (y49 : (List Int)) : Nat → (List (Int × End)) × (List Int) × Int → Option (LX (LX ((Option (List (Int × End))) × Bool) ((List (Int × End)))) ((List (Int × End)) × (List Int)))
  | 0, _ => none
  | q217 + 1, s209 =>
    if (decide (s209.2.2 < (y49.length : Int))) = true then
      (rd y49 s209.2.2).bind fun y224 =>
      (rd s209.2.1 s26.2.2).bind fun y229 =>
      (graph_Peer k (⟨6, x0⟩ : Graph) (⟨y229, y224⟩ : End)).bind fun y238 =>
      if (((mhas s209.1 y238.1.Switch) || !y238.2.2)) = true then
        tree_find_l1 k x0 s26 y49 q217 (s209.1, s209.2.1, w64 (s209.2.2 + 1))
      else
        (app s209.2.1 ([y238.1.Switch] : List Int)).bind fun _ =>
        if (((s209.2.1 ++ ([y238.1.Switch] : List Int)).length : Int) == 6) = true then
          some (.ret (.ret ((some (mput s209.1 y238.1.Switch (⟨y229, y224⟩ : End))), true)))
        else
          tree_find_l1 k x0 s26 y49 q217 ((mput s209.1 y238.1.Switch (⟨y229, y224⟩ : End)), (s209.2.1 ++ ([y238.1.Switch] : List Int)), w64 (s209.2.2 + 1))
    else
      some (.out (s209.1, s209.2.1))
def tree_find_l0 (k : Nat) (x0 : (List Link)) : Nat → (List (Int × End)) × (List Int) × Int → Option (LX ((Option (List (Int × End))) × Bool) ((List (Int × End))))
  | 0, _ => none
  | q34 + 1, s26 =>
    if (decide (s26.2.2 < (s26.2.1.length : Int))) = true then
      (rd s26.2.1 s26.2.2).bind fun y40 =>
      (graph_Ports k (⟨6, x0⟩ : Graph) y40).bind fun y49 =>
      (tree_find_l1 k x0 s26 y49 k (s26.1, s26.2.1, 0)).bind (LX.go fun p197 =>
      tree_find_l0 k x0 q34 (p197.1, p197.2, w64 (s26.2.2 + 1)))
    else
      some (.out s26.1)
def tree_find (k : Nat) (x0 : (List Link)) : Option ((Option (List (Int × End))) × Bool) :=
  (graph_Check k (⟨6, x0⟩ : Graph)).bind fun y3 =>
  if (y3 != 0) = true then
    some ((none : (Option (List (Int × End)))), false)
  else
    (tree_find_l0 k x0 k ((mput ([] : (List (Int × End))) 1 (⟨0, 0⟩ : End)), ([1] : List Int), 0)).bind (LX.go fun p15 =>
    some ((some p15), true))
theorem fn_71 : Try.prog.funcs[71]? = some Try.f71 := by kernel_rfl
set_option maxRecDepth 100000 in
set_option maxHeartbeats 4000000 in
theorem tree_find_ok (k : Nat) (H : Heap) (x0 : (List Link)) (a0_0 : Option Addr) (c0_0 : Nat) (hx0_0 : RSl H a0_0 c0_0 x0) {r : (Option (List (Int × End))) × Bool} (hr : tree_find k x0 = some r) :
    Fn Try.prog 71 [.slice a0_0 x0.length c0_0] H [] fun H' v out => ∃ mv0_0, v = .tuple #[mv0_0, .bool r.2] ∧ out = [] ∧ MapV false true H' mv0_0 r.1 := by
  refine fn_of_sim (args := [.slice a0_0 x0.length c0_0]) (n := 81) (Φ := fun r H' v out => ∃ mv0_0, v = .tuple #[mv0_0, .bool r.2] ∧ out = [] ∧ MapV false true H' mv0_0 r.1) hr fn_71 rfl rfl rfl fun w => ?_
  refine s_eq (by rw [tree_find]) ?_
  refine s_seq ?_
  refine s_region ?_
  refine o_asg rfl ?_
  refine o_asg rfl ?_
  refine s_done ?_
  refine s_scope ?_
  refine s_seq ?_
  refine s_region ?_
  refine o_mov rfl ?_
  refine o_bld rfl rfl ?_
  refine o_alloc fun b1 => ?_
  refine o_st 0 rfl rfl rfl rfl rfl rfl ?_
  refine s_done ?_
  refine s_seq ?_
  refine s_seq ?_
  refine s_region ?_
  refine o_ld 0 rfl rfl rfl ?_
  refine s_bg fun y3 h4 => ?_
  refine s_callF rfl rfl (graph_Check_ok k _ (⟨6, x0⟩ : Graph) _ _ hx0_0 h4) ?_
  refine o_ne rfl rfl ?_
  refine s_done ?_
  refine s_cond rfl (fun h5 => ?_) (fun h5 => ?_)
  · refine s_seq ?_
    refine s_region ?_
    refine o_asg rfl ?_
    refine o_asg rfl ?_
    refine s_done ?_
    exact s_retv (xs := [.tmp 2, .tmp 3]) (vs := [.map none, .bool false]) [] fn_71 rfl ⟨rv_tmp rfl, rv_tmp rfl, trivial⟩ (.cons _ .slnil) ⟨_, rfl, rfl, mapv_nil⟩
  · refine s_skip ?_
    refine s_seq ?_
    refine s_region ?_
    refine o_mkmap fun b6 => ?_
    have hR8 : MapR false true H #[] 0 ([] : (List (Int × End))) := .nil
    refine o_bld rfl rfl ?_
    refine o_ins (kt := 3) (et := 26) (vs := [.int .i64 0, .int .i64 0]) 1 rfl rfl hR8 1 rfl (⟨0, 0⟩ : End) rfl rfl fun es9 c10 hR11 => ?_
    refine o_mov rfl ?_
    refine o_bsl (xs := [.const (.int .i64 1)]) rfl rfl (by simp only [List.mem_cons, List.not_mem_nil, or_false, forall_eq_or_imp, forall_eq]; exact ⟨rfl, rfl⟩) rfl rfl fun b12 => ?_
    have hA13 : All2 (GoT.rep H) [[.int .i64 1]] ([1] : List Int) := all2_enc (([1] : List Int))
    refine o_asg rfl ?_
    refine o_asg rfl ?_
    refine s_done ?_
    refine s_seq ?_
    refine s_label ?_
    refine s_seq ?_
    refine s_seq ?_
    refine s_region ?_
    refine o_asg rfl ?_
    refine s_done ?_
    refine s_joinL (fun p15 env own H' => ∃ es16 c17, env = [(5, .map (some b6))] ∧ own = [.blk b6 (.map es16 c17)] ∧ Hle H H' ∧ MapR false true H' es16 c17 p15) ?_ ?_
    · rintro p15 _ _ H19 ⟨es16, c17, rfl, rfl, hle20, hR18⟩
      refine s_seq ?_
      refine s_region ?_
      refine o_mov rfl ?_
      refine o_asg rfl ?_
      refine o_asg rfl ?_
      refine s_done ?_
      refine s_frzM 0 (fun b => .inl (by simp [ids])) rfl hR18 fun H21 hle22 hs24 => ?_
      exact s_retv (xs := [.tmp 2, .tmp 3]) (vs := [(.map (some b6)), .bool true]) [] fn_71 rfl ⟨rv_tmp rfl, rv_tmp rfl, trivial⟩ .slnil ⟨_, rfl, rfl, hs24⟩
    · intro J25
      refine s_block ?_
      refine s_env (env' := [(4, .pointer (some ⟨b1, 0, none⟩)), (5, .map (some b6)), (6, .slice (some ⟨b12, 0, none⟩) ([1] : List Int).length 1), (7, .int .i64 0)]) (by exact ⟨rfl, rfl, rfl, rfl, trivial⟩) ?_
      refine s_own (own' := [.blk b1 (rowObj [.int .i64 6, .slice a0_0 x0.length c0_0] 24), .blk b6 (.map es9 c10), .osl (.slice (some ⟨b12, 0, none⟩) ([1] : List Int).length 1) 1 3 [[.int .i64 1]]]) (.cons_cons _ (.cons_cons _ (.cons_cons _ .slnil))) ?_
      refine s_loopn (fun q s26 => tree_find_l0 k x0 q s26) (fun s26 env own H' => ∃ es27 c28 a30 c31 ls32, env = [(4, .pointer (some ⟨b1, 0, none⟩)), (5, .map (some b6)), (6, .slice a30 s26.2.1.length c31), (7, .int .i64 s26.2.2)] ∧ own = [.blk b1 (rowObj [.int .i64 6, .slice a0_0 x0.length c0_0] 24), .blk b6 (.map es27 c28), .osl (.slice a30 s26.2.1.length c31) 1 3 ls32] ∧ Hle H H' ∧ MapR false true H' es27 c28 s26.1 ∧ All2 (GoT.rep H') ls32 s26.2.1) (fun _ => rfl) ?_ k ((mput ([] : (List (Int × End))) 1 (⟨0, 0⟩ : End)), ([1] : List Int), 0) ⟨_, _, _, _, _, rfl, rfl, .refl _, hR11, hA13⟩
      rintro q34 ih35 s26 _ _ H36 ⟨es27, c28, a30, c31, ls32, rfl, rfl, hle37, hR29, hA33⟩
      refine s_eq (by rw [tree_find_l0]) ?_
      have hs38 := RSl.mono hle37 hx0_0
      refine s_seq ?_
      refine s_seq ?_
      refine s_region ?_
      refine o_mov rfl ?_
      refine o_mov rfl ?_
      refine o_lenS rfl ?_
      refine o_lt rfl rfl ?_
      refine s_done ?_
      refine s_cond rfl (fun h39 => ?_) (fun h39 => ?_)
      · refine s_skip ?_
        refine s_seq ?_
        refine s_block ?_
        refine s_seq ?_
        refine s_bg fun y40 h47 => ?_
        refine s_addr 2 rfl hA33 h47 fun bk42 ha48 => ?_
        subst ha48
        refine s_bg fun y49 h60 => ?_
        refine s_drawL [(fun H v g => v = Value.agg #[.int .i64 6, .slice a0_0 x0.length c0_0] ∧ g = [] ∧ RSl H a0_0 c0_0 x0),
      (fun H v g => v = Value.slice (some ⟨bk42, 0, none⟩) s26.2.1.length c31 ∧ g = []),
      (fun H v g => v = Value.int .i64 s26.2.2 ∧ g = []),
      (fun H v g => v = Value.pointer (some ⟨bk42, (s26.2.2 : Int).toNat * GoT.sz (Int), none⟩) ∧ g = [] ∧ (ls32)[(s26.2.2 : Int).toNat]? = some [.int .i64 y40]),
      (fun H v g => v = Value.int .i64 y40 ∧ g = []),
      (fun H v g => ∃ a68 c69, v = Value.slice a68 y49.length c69 ∧ g = [] ∧ RSl H a68 c69 y49),
      (fun H v g => v = Value.int .i64 (y49.length : Int) ∧ g = []),
      (fun H v g => v = Value.int .i64 0 ∧ g = [])] [[], [], [], [], [], [], [], []] mixed ⟨fun _ _ _ _ hle ⟨e1, e2, h0_⟩ => ⟨e1, e2, RSl.mono hle h0_⟩, m0, m0, m0, m0, fun _ _ _ _ hle ⟨a68, c69, e1, e2, h0_⟩ => ⟨_, _, e1, e2, RSl.mono hle h0_⟩, m0, m0, trivial⟩ (by kernel_rfl) (by kernel_rfl) rfl (by kernel_rfl) rfl rfl ?_ ?_
        · refine dcons ?_ ?_
          · intro _ _ H86 fr87 hle88 hd89
            have hs91 := RSl.mono hle88 hs38
            refine ⟨_, some (), rfl, fun _ => ?_⟩
            refine s_env (env' := [(4, .pointer (some ⟨b1, 0, none⟩))]) (by exact ⟨rfl, trivial⟩) ?_
            refine o_ld 0 rfl rfl rfl ?_
            exact s_pred fun _ _ _ hE hI => ⟨(.agg #[.int .i64 6, .slice a0_0 x0.length c0_0]), [], _, fun _ e => (by cases e; exact hE _ _ rfl), .refl _, by exact hI, ⟨rfl, rfl, hs91⟩⟩
          refine dcons ?_ ?_
          · intro _ _ H94 fr95 hle96 hd97
            have hA99 := All2.mono (fun _ _ => GoT.mono hle96) hA33
            refine ⟨_, some (), rfl, fun _ => ?_⟩
            refine s_env (env' := [(6, .slice (some ⟨bk42, 0, none⟩) s26.2.1.length c31)]) (by exact ⟨rfl, trivial⟩) ?_
            refine o_mov rfl ?_
            exact s_pred fun _ _ _ hE hI => ⟨(.slice (some ⟨bk42, 0, none⟩) s26.2.1.length c31), [], _, fun _ e => (by cases e; exact hE _ _ rfl), .refl _, by exact hI, ⟨rfl, rfl⟩⟩
          refine dcons ?_ ?_
          · intro _ _ H102 fr103 hle104 hd105
            refine ⟨_, some (), rfl, fun _ => ?_⟩
            refine s_env (env' := [(7, .int .i64 s26.2.2)]) (by exact ⟨rfl, trivial⟩) ?_
            refine o_mov rfl ?_
            exact s_pred fun _ _ _ hE hI => ⟨(.int .i64 s26.2.2), [], _, fun _ e => (by cases e; exact hE _ _ rfl), .refl _, by exact hI, ⟨rfl, rfl⟩⟩
          refine dcons ?_ ?_
          · intro _ _ H109 fr110 hle111 hd112
            have hA114 := All2.mono (fun _ _ => GoT.mono hle111) hA33
            obtain ⟨hv115, hg116⟩ := hd112 1 (by decide)
            obtain ⟨hv117, hg118⟩ := hd112 2 (by decide)
            refine ⟨_, (rd s26.2.1 s26.2.2).bind some, by rw [h47]; rfl, fun _ => ?_⟩
            refine s_env (env' := [(32, .slice (some ⟨bk42, 0, none⟩) s26.2.1.length c31), (33, .int .i64 s26.2.2)]) (by exact ⟨congrArg some hv115, congrArg some hv117, trivial⟩) ?_
            refine o_ixO 2 rfl hA114 rfl rfl fun y40 bk120 vs121 h119 ha122 hi123 hr124 => ?_
            subst hr124
            obtain rfl := s_bk ha122
            obtain rfl := Option.some.inj (h47.symm.trans h119)
            exact s_pred fun _ _ _ hE hI => ⟨(.pointer (some ⟨bk42, (s26.2.2 : Int).toNat * GoT.sz (Int), none⟩)), [], _, fun _ e => (by cases e; exact hE _ _ rfl), .refl _, by exact hI, ⟨rfl, rfl, hi123⟩⟩
          refine dcons ?_ ?_
          · intro _ _ H127 fr128 hle129 hd130
            have hA132 := All2.mono (fun _ _ => GoT.mono hle129) hA33
            obtain ⟨hv133, hg134, hp135⟩ := hd130 3 (by decide)
            refine ⟨_, some (), rfl, fun _ => ?_⟩
            refine s_env (env' := [(34, .pointer (some ⟨bk42, (s26.2.2 : Int).toNat * GoT.sz (Int), none⟩))]) (by exact ⟨congrArg some hv133, trivial⟩) ?_
            refine o_ldO 2 0 rfl hp135 rfl rfl rfl ?_
            exact s_pred fun _ _ _ hE hI => ⟨(.int .i64 y40), [], _, fun _ e => (by cases e; exact hE _ _ rfl), .refl _, by exact hI, ⟨rfl, rfl⟩⟩
          refine dcons ?_ ?_
          · intro _ _ H138 fr139 hle140 hd141
            obtain ⟨hv143, hg144, hp145⟩ := hd141 0 (by decide)
            obtain ⟨hv146, hg147⟩ := hd141 4 (by decide)
            refine ⟨_, (graph_Ports k (⟨6, x0⟩ : Graph) y40).bind some, by rw [h60]; rfl, fun _ => ?_⟩
            refine s_env (env' := [(31, .agg #[.int .i64 6, .slice a0_0 x0.length c0_0]), (35, .int .i64 y40)]) (by exact ⟨congrArg some hv143, congrArg some hv146, trivial⟩) ?_
            refine s_bg fun y49 h148 => ?_
            refine s_call [] _ rfl rfl (.refl _) (graph_Ports_ok k _ (⟨6, x0⟩ : Graph) _ _ hp145 y40 h148) ?_
            rintro _ H152 _ hle153 ⟨a149, c150, rfl, rfl⟩
            have hs154 := RSl.mono hle153 hp145
            have hA155 : All2 (GoT.rep H152) (y49.map GoE.enc) y49 := all2_enc _
            obtain rfl := Option.some.inj (h60.symm.trans h148)
            refine s_perm (own' := [.blk b1 (rowObj [.int .i64 6, .slice a0_0 x0.length c0_0] 24), .blk b6 (.map es27 c28), .osl (.slice (some ⟨bk42, 0, none⟩) s26.2.1.length c31) 1 3 ls32, .osl (.slice a149 y49.length c150) 1 3 (y49.map GoE.enc)] ++ fr139) (pm3 (a := [.blk b1 (rowObj [.int .i64 6, .slice a0_0 x0.length c0_0] 24), .blk b6 (.map es27 c28), .osl (.slice (some ⟨bk42, 0, none⟩) s26.2.1.length c31) 1 3 ls32]) (xs := [.osl (.slice a149 y49.length c150) 1 3 (y49.map GoE.enc)])) ?_
            refine s_frz 3 (fun b => .inl (by simp [ids])) rfl hA155 fun H156 hle157 hn158 hs159 => ?_
            have hs160 := RSl.mono hle157 hs154
            exact s_pred fun _ _ _ hE hI => ⟨(.slice a149 y49.length c150), [], _, fun _ e => (by cases e; exact hE _ _ rfl), (Hle.trans hle153 hle157), by exact hI, ⟨a149, c150, rfl, rfl, hs159⟩⟩
          refine dcons ?_ ?_
          · intro _ _ H163 fr164 hle165 hd166
            obtain ⟨a168, c169, hv170, hg171, hp172⟩ := hd166 5 (by decide)
            refine ⟨_, some (), rfl, fun _ => ?_⟩
            refine s_env (env' := [(36, .slice a168 y49.length c169)]) (by exact ⟨congrArg some hv170, trivial⟩) ?_
            refine o_lenS rfl ?_
            exact s_pred fun _ _ _ hE hI => ⟨(.int .i64 (y49.length : Int)), [], _, fun _ e => (by cases e; exact hE _ _ rfl), .refl _, by exact hI, ⟨rfl, rfl⟩⟩
          refine dcons ?_ ?_
          · intro _ _ H175 fr176 hle177 hd178
            refine ⟨_, some (), rfl, fun _ => ?_⟩
            refine s_env (env' := []) (by exact trivial) ?_
            refine o_mov rfl ?_
            exact s_pred fun _ _ _ hE hI => ⟨(.int .i64 0), [], _, fun _ e => (by cases e; exact hE _ _ rfl), .refl _, by exact hI, ⟨rfl, rfl⟩⟩
          exact dnil
        · intro V182 G183 H180 hle181 hF184
          have hs185 := RSl.mono hle181 hs38
          have hR186 := MapR.mono hle181 hR29
          have hA187 := All2.mono (fun _ _ => GoT.mono hle181) hA33
          obtain ⟨a188, c189, hv190, hg191, hp192⟩ := hF184 5 (show 5 < 8 by decide)
          obtain ⟨hv193, hg194⟩ := hF184 6 (show 6 < 8 by decide)
          obtain ⟨hv195, hg196⟩ := hF184 7 (show 7 < 8 by decide)
          refine s_env (env' := [(36, .slice a188 y49.length c189), (37, .int .i64 (y49.length : Int)), (38, .int .i64 0), (4, .pointer (some ⟨b1, 0, none⟩)), (5, .map (some b6)), (6, .slice (some ⟨bk42, 0, none⟩) s26.2.1.length c31), (7, .int .i64 s26.2.2), (25, .int .i64 s26.2.2), (26, .slice (some ⟨bk42, 0, none⟩) s26.2.1.length c31), (27, .int .i64 (s26.2.1.length : Int)), (28, .bool (decide (s26.2.2 < (s26.2.1.length : Int))))]) (by exact ⟨congrArg some hv190, congrArg some hv193, congrArg some hv195, rfl, rfl, rfl, rfl, rfl, rfl, rfl, rfl, trivial⟩) ?_
          refine s_own (List.sublist_append_left _ _) ?_
          refine s_done ?_
          refine s_joinL (fun p197 env own H' => ∃ es198 c199 a201 c202 ls203, env = [(4, .pointer (some ⟨b1, 0, none⟩)), (5, .map (some b6)), (6, .slice a201 p197.2.length c202), (7, .int .i64 s26.2.2)] ∧ own = [.blk b1 (rowObj [.int .i64 6, .slice a0_0 x0.length c0_0] 24), .blk b6 (.map es198 c199), .osl (.slice a201 p197.2.length c202) 1 3 ls203] ∧ Hle H180 H' ∧ MapR false true H' es198 c199 p197.1 ∧ All2 (GoT.rep H') ls203 p197.2) ?_ ?_
          · rintro p197 _ _ H205 ⟨es198, c199, a201, c202, ls203, rfl, rfl, hle206, hR200, hA204⟩
            have hs207 := RSl.mono hle206 hs185
            refine s_inBlock ?_
            refine s_region ?_
            refine o_mov rfl ?_
            refine o_add rfl rfl ?_
            refine o_asg rfl ?_
            refine s_done ?_
            exact s_env (by exact ⟨rfl, rfl, rfl, rfl, trivial⟩) (s_own (by exact (.cons_cons _ (.cons_cons _ (.cons_cons _ .slnil)))) (ih35 (p197.1, p197.2, w64 (s26.2.2 + 1)) _ _ _ ⟨_, _, _, _, _, rfl, rfl, (Hle.trans (Hle.trans hle37 hle181) hle206), hR200, hA204⟩))
          · intro J208
            refine s_block ?_
            refine s_env (env' := [(4, .pointer (some ⟨b1, 0, none⟩)), (5, .map (some b6)), (6, .slice (some ⟨bk42, 0, none⟩) s26.2.1.length c31), (7, .int .i64 s26.2.2), (36, .slice a188 y49.length c189), (37, .int .i64 (y49.length : Int)), (38, .int .i64 0)]) (by exact ⟨rfl, rfl, rfl, rfl, rfl, rfl, rfl, trivial⟩) ?_
            refine s_own (own' := [.blk b1 (rowObj [.int .i64 6, .slice a0_0 x0.length c0_0] 24), .blk b6 (.map es27 c28), .osl (.slice (some ⟨bk42, 0, none⟩) s26.2.1.length c31) 1 3 ls32]) (.cons_cons _ (.cons_cons _ (.cons_cons _ .slnil))) ?_
            refine s_loopn (fun q s209 => tree_find_l1 k x0 s26 y49 q s209) (fun s209 env own H' => ∃ es210 c211 a213 c214 ls215, env = [(4, .pointer (some ⟨b1, 0, none⟩)), (5, .map (some b6)), (6, .slice a213 s209.2.1.length c214), (7, .int .i64 s26.2.2), (36, .slice a188 y49.length c189), (37, .int .i64 (y49.length : Int)), (38, .int .i64 s209.2.2)] ∧ own = [.blk b1 (rowObj [.int .i64 6, .slice a0_0 x0.length c0_0] 24), .blk b6 (.map es210 c211), .osl (.slice a213 s209.2.1.length c214) 1 3 ls215] ∧ Hle H180 H' ∧ MapR false true H' es210 c211 s209.1 ∧ All2 (GoT.rep H') ls215 s209.2.1) (fun _ => rfl) ?_ k (s26.1, s26.2.1, 0) ⟨_, _, _, _, _, rfl, rfl, .refl _, hR186, hA187⟩
            rintro q217 ih218 s209 _ _ H219 ⟨es210, c211, a213, c214, ls215, rfl, rfl, hle220, hR212, hA216⟩
            refine s_eq (by rw [tree_find_l1]) ?_
            have hs221 := RSl.mono hle220 hp192
            have hs222 := RSl.mono hle220 hs185
            refine s_seq ?_
            refine s_region ?_
            refine o_lt rfl rfl ?_
            refine s_done ?_
            refine s_seq ?_
            refine s_cond rfl (fun h223 => ?_) (fun h223 => ?_)
            · refine s_skip ?_
              refine s_seq ?_
              refine s_block ?_
              refine s_seq ?_
              refine s_region ?_
              refine o_ixf hs221 rfl rfl fun y224 bk226 of227 h225 hc228 => ?_
              refine o_ldH 0 hc228 rfl rfl rfl ?_
              refine o_asg rfl ?_
              refine s_done ?_
              refine s_seq ?_
              refine s_region ?_
              refine o_mov rfl ?_
              refine o_mov rfl ?_
              refine o_ixO 2 rfl hA216 rfl rfl fun y229 bk231 vs232 h230 ha233 hi234 hr235 => ?_
              subst hr235
              subst ha233
              refine o_ldO 2 0 rfl hi234 rfl rfl rfl ?_
              refine o_mov rfl ?_
              refine o_bld rfl rfl ?_
              refine o_alloc fun b236 => ?_
              refine o_st 3 rfl rfl rfl rfl rfl rfl ?_
              refine s_done ?_
              refine s_seq ?_
              refine s_region ?_
              refine o_ld 0 rfl rfl rfl ?_
              refine o_ld 3 rfl rfl rfl ?_
              refine s_bg fun y238 h239 => ?_
              refine s_callF rfl rfl (graph_Peer_ok k _ (⟨6, x0⟩ : Graph) _ _ hs222 (⟨y229, y224⟩ : End) h239) ?_
              refine o_mov rfl ?_
              refine o_ext rfl rfl ?_
              refine o_ext rfl rfl ?_
              refine o_ext rfl rfl ?_
              refine o_alloc fun b240 => ?_
              refine o_st 4 rfl rfl rfl rfl rfl rfl ?_
              refine o_asg rfl ?_
              refine o_asg rfl ?_
              refine s_done ?_
              refine s_seq ?_
              refine s_seq ?_
              refine s_region ?_
              refine o_mov rfl ?_
              refine o_fa rfl ?_
              refine o_ld 4 rfl rfl rfl ?_
              refine o_lkpOf (kt := 3) (et := 26) (z := ((⟨0, 0⟩ : End) : End)) 1 rfl rfl hR212 y238.1.Switch rfl ?_
              refine o_mov rfl ?_
              refine o_ext rfl rfl ?_
              refine o_ext rfl rfl ?_
              refine o_alloc fun b242 => ?_
              refine o_st 5 rfl rfl rfl rfl rfl rfl ?_
              refine o_asg rfl ?_
              refine s_done ?_
              refine s_seq ?_
              refine s_region ?_
              refine s_mid [(4, .pointer (some ⟨b1, 0, none⟩)), (5, .map (some b6)), (6, .slice (some ⟨bk231, 0, none⟩) s209.2.1.length c214), (7, .int .i64 s26.2.2), (10, .pointer (some ⟨b236, 0, none⟩)), (11, .pointer (some ⟨b240, 0, none⟩)), (36, .slice a188 y49.length c189), (37, .int .i64 (y49.length : Int)), (38, .int .i64 s209.2.2), (66, .bool ((mhas s209.1 y238.1.Switch) || !y238.2.2))] [.blk b1 (rowObj [.int .i64 6, .slice a0_0 x0.length c0_0] 24), .blk b6 (.map es210 c211), .osl (.slice (some ⟨bk231, 0, none⟩) s209.2.1.length c214) 1 3 ls215, .blk b236 (rowObj [.int .i64 y229, .int .i64 y224] 26), .blk b240 (rowObj [.int .i64 y238.1.Switch, .int .i64 y238.1.Port] 26)] ?_ ?_
              · refine s_cond rfl (fun h244 => ?_) (fun h244 => ?_)
                · refine s_exit rfl ?_
                  refine s_region ?_
                  refine o_add rfl rfl ?_
                  refine o_mov rfl ?_
                  refine s_done ?_
                  exact s_env (by exact ⟨rfl, rfl, rfl, rfl, rfl, rfl, rfl, trivial⟩) (s_own (by exact (.cons_cons _ (.cons_cons _ (.cons_cons _ (.cons _ (.cons _ .slnil)))))) (ih218 (s209.1, s209.2.1, w64 (s209.2.2 + 1)) _ _ _ ⟨_, _, _, _, _, rfl, rfl, hle220, hR212, hA216⟩))
                · refine s_skip ?_
                  refine s_seq ?_
                  refine s_region ?_
                  refine o_mov rfl ?_
                  refine o_fa rfl ?_
                  refine o_ld 4 rfl rfl rfl ?_
                  refine o_ld 3 rfl rfl rfl ?_
                  refine o_mup (kt := 3) (et := 26) (vs := [.int .i64 y229, .int .i64 y224]) 1 rfl rfl hR212 y238.1.Switch rfl (⟨y229, y224⟩ : End) rfl rfl fun es245 c246 hR247 => ?_
                  refine s_done ?_
                  refine s_seq ?_
                  refine s_region ?_
                  refine o_mov rfl ?_
                  refine o_fa rfl ?_
                  refine o_ld 4 rfl rfl rfl ?_
                  refine o_bsl (xs := [.tmp 73]) rfl rfl (by simp only [List.mem_cons, List.not_mem_nil, or_false, forall_eq_or_imp, forall_eq]; exact ⟨rfl, rfl⟩) rfl rfl fun b248 => ?_
                  have hA249 : All2 (GoT.rep H219) [[.int .i64 y238.1.Switch]] ([y238.1.Switch] : List Int) := all2_enc (([y238.1.Switch] : List Int))
                  refine o_appO 2 5 rfl rfl rfl hA216 rfl hA249 fun a251 c252 h253 hA254 => ?_
                  refine o_asg rfl ?_
                  refine s_done ?_
                  refine s_seq ?_
                  refine s_region ?_
                  refine o_mov rfl ?_
                  refine o_lenS rfl ?_
                  refine o_eq rfl rfl ?_
                  refine s_done ?_
                  refine s_cond rfl (fun h255 => ?_) (fun h255 => ?_)
                  · refine s_exit rfl ?_
                    refine s_seq ?_
                    refine s_region ?_
                    refine o_mov rfl ?_
                    refine o_asg rfl ?_
                    refine o_asg rfl ?_
                    refine s_done ?_
                    refine s_frzM 1 (fun b => .inl (by simp [ids])) rfl hR247 fun H256 hle257 hs259 => ?_
                    have hs260 := RSl.mono hle257 hs221
                    have hs261 := RSl.mono hle257 hs222
                    have hA262 := All2.mono (fun _ _ => GoT.mono hle257) hA254
                    have hA263 := All2.mono (fun _ _ => GoT.mono hle257) hA249
                    refine s_lret ?_
                    refine s_lret ?_
                    exact s_retv (xs := [.tmp 2, .tmp 3]) (vs := [(.map (some b6)), .bool true]) [] fn_71 rfl ⟨rv_tmp rfl, rv_tmp rfl, trivial⟩ (.cons _ (.cons _ (.cons _ (.cons _ (.cons _ .slnil))))) ⟨_, rfl, rfl, hs259⟩
                  · refine s_skip ?_
                    refine s_inBlock ?_
                    refine s_region ?_
                    refine o_add rfl rfl ?_
                    refine o_mov rfl ?_
                    refine s_done ?_
                    exact s_env (by exact ⟨rfl, rfl, rfl, rfl, rfl, rfl, rfl, trivial⟩) (s_own (by exact (.cons_cons _ (.cons_cons _ (.cons_cons _ (.cons _ (.cons _ (.cons _ .slnil))))))) (ih218 ((mput s209.1 y238.1.Switch (⟨y229, y224⟩ : End)), (s209.2.1 ++ ([y238.1.Switch] : List Int)), w64 (s209.2.2 + 1)) _ _ _ ⟨_, _, _, _, _, rfl, rfl, hle220, hR247, hA254⟩))
              · intro J264
                refine o_mov rfl ?_
                refine o_mov rfl ?_
                refine s_case (mhas s209.1 y238.1.Switch) (fun h265 => ?_) (fun h265 => ?_)
                · refine s_unwant rfl rfl h265 ?_
                  refine s_unwant rfl rfl h265 ?_
                  refine o_pickT rfl h265 rfl ?_
                  exact s_env (by exact ⟨rfl, rfl, rfl, rfl, rfl, rfl, rfl, rfl, rfl, lkb rfl (by first | simp only [h265, Bool.true_and, Bool.and_true, Bool.false_and, Bool.and_false, Bool.true_or, Bool.false_or, Bool.or_true, Bool.or_false, Bool.not_true, Bool.not_false] | simp [h265]), trivial⟩) (s_own (by exact (.cons_cons _ (.cons_cons _ (.cons_cons _ (.cons_cons _ (.cons_cons _ (.cons _ .slnil))))))) J264)
                · refine s_want rfl rfl h265 ?_
                  refine o_mov rfl ?_
                  refine s_want rfl rfl h265 ?_
                  refine o_not rfl ?_
                  refine o_pickF rfl h265 rfl ?_
                  exact s_env (by exact ⟨rfl, rfl, rfl, rfl, rfl, rfl, rfl, rfl, rfl, lkb rfl (by first | simp only [h265, Bool.true_and, Bool.and_true, Bool.false_and, Bool.and_false, Bool.true_or, Bool.false_or, Bool.or_true, Bool.or_false, Bool.not_true, Bool.not_false] | simp [h265]), trivial⟩) (s_own (by exact (.cons_cons _ (.cons_cons _ (.cons_cons _ (.cons_cons _ (.cons_cons _ (.cons _ .slnil))))))) J264)
            · refine s_exit rfl ?_
              exact s_env (by exact ⟨rfl, rfl, rfl, rfl, trivial⟩) (s_own (by exact (.cons_cons _ (.cons_cons _ (.cons_cons _ .slnil)))) (J208 (s209.1, s209.2.1) _ _ _ ⟨_, _, _, _, _, rfl, rfl, hle220, hR212, hA216⟩))
      · refine s_exit rfl ?_
        exact s_env (by exact ⟨rfl, trivial⟩) (s_own (by exact (.cons _ (.cons_cons _ (.cons _ .slnil)))) (J25 s26.1 _ _ _ ⟨_, _, rfl, rfl, hle37, hR29⟩))

/-! (catenary/tree.found).parent -/
def tree_found__parent (k : Nat) (x0 : (Option (List (Int × End)))) (x1 : Int) : Option (End × Bool) :=
  if (mhas (x0.getD []) x1) = true then
    some ((mgetD (x0.getD []) x1 ((⟨0, 0⟩ : End) : End)), x1 != 1)
  else
    some ((mgetD (x0.getD []) x1 ((⟨0, 0⟩ : End) : End)), false)
theorem fn_73 : Try.prog.funcs[73]? = some Try.f73 := by kernel_rfl
set_option maxRecDepth 100000 in
set_option maxHeartbeats 4000000 in
theorem tree_found__parent_ok (k : Nat) (H : Heap) (x0 : (Option (List (Int × End)))) (mv0_0 : Value) (hx0_0 : MapV false true H mv0_0 x0) (x1 : Int) {r : End × Bool} (hr : tree_found__parent k x0 x1 = some r) :
    Fn Try.prog 73 [mv0_0, .int .i64 x1] H [] fun H' v out => v = .tuple #[.agg #[.int .i64 r.1.Switch, .int .i64 r.1.Port], .bool r.2] ∧ out = [] := by
  refine fn_of_sim (args := [mv0_0, .int .i64 x1]) (n := 20) (Φ := fun r H' v out => v = .tuple #[.agg #[.int .i64 r.1.Switch, .int .i64 r.1.Port], .bool r.2] ∧ out = []) hr fn_73 rfl rfl rfl fun w => ?_
  refine s_eq (by rw [tree_found__parent]) ?_
  refine s_seq ?_
  refine s_region ?_
  refine o_alloc fun b1 => ?_
  refine o_asg rfl ?_
  refine s_done ?_
  refine s_seq ?_
  refine s_region ?_
  refine o_mov rfl ?_
  refine o_mov rfl ?_
  refine o_lkpVf (kt := 3) (et := 26) (z := ((⟨0, 0⟩ : End) : End)) hx0_0 rfl x1 rfl ?_
  refine o_mov rfl ?_
  refine o_ext rfl rfl ?_
  refine o_ext rfl rfl ?_
  refine o_alloc fun b3 => ?_
  refine o_st 1 rfl rfl rfl rfl rfl rfl ?_
  refine o_asg rfl ?_
  refine s_done ?_
  refine s_seq ?_
  refine s_region ?_
  refine o_ld 1 rfl rfl rfl ?_
  refine o_mov rfl ?_
  refine o_mov rfl ?_
  refine s_split (mhas (x0.getD []) x1) (fun h5 => ?_) (fun h5 => ?_)
  · refine s_want rfl rfl h5 ?_
    refine o_mov rfl ?_
    refine s_want rfl rfl h5 ?_
    refine o_ne rfl rfl ?_
    refine o_pickT rfl h5 rfl ?_
    refine o_st 0 rfl rfl rfl rfl rfl rfl ?_
    refine o_asg rfl ?_
    refine s_done ?_
    exact s_retv (xs := [.cell 4 26, .tmp 5]) (vs := [.agg #[.int .i64 ((mgetD (x0.getD []) x1 ((⟨0, 0⟩ : End) : End)).Switch), .int .i64 ((mgetD (x0.getD []) x1 ((⟨0, 0⟩ : End) : End)).Port)], .bool (x1 != 1)]) [] fn_73 rfl ⟨rv_cell 0 rfl rfl rfl rfl, rv_tmp rfl, trivial⟩ (.cons _ (.cons _ .slnil)) ⟨rfl, rfl⟩
  · refine s_unwant rfl rfl h5 ?_
    refine s_unwant rfl rfl h5 ?_
    refine o_pickF rfl h5 rfl ?_
    refine o_st 0 rfl rfl rfl rfl rfl rfl ?_
    refine o_asg rfl ?_
    refine s_done ?_
    exact s_retv (xs := [.cell 4 26, .tmp 5]) (vs := [.agg #[.int .i64 ((mgetD (x0.getD []) x1 ((⟨0, 0⟩ : End) : End)).Switch), .int .i64 ((mgetD (x0.getD []) x1 ((⟨0, 0⟩ : End) : End)).Port)], .bool false]) [] fn_73 rfl ⟨rv_cell 0 rfl rfl rfl rfl, rv_tmp rfl, trivial⟩ (.cons _ (.cons _ .slnil)) ⟨rfl, rfl⟩

/-! catenary/tree.First -/
def tree_First_l0 (k : Nat) (y1 : (Option (List (Int × End))) × Bool) : Nat → (List End) × Int × Int × Bool → Option ((List End))
  | 0, _ => none
  | q50 + 1, s43 =>
    if (s43.2.2.2) = true then
      (app s43.1 ([(⟨s43.2.1, s43.2.2.1⟩ : End)] : List End)).bind fun _ =>
      (tree_found__parent k y1.1 s43.2.1).bind fun y65 =>
      tree_First_l0 k y1 q50 ((s43.1 ++ ([(⟨s43.2.1, s43.2.2.1⟩ : End)] : List End)), y65.1.Switch, y65.1.Port, y65.2)
    else
      some s43.1
def tree_First (k : Nat) (x0 : (List Link)) (x1 : Int) : Option ((List End) × Bool) :=
  (tree_find k x0).bind fun y1 =>
  if (((!y1.2) || !(mhas (y1.1.getD []) x1))) = true then
    some (([] : List End), false)
  else
    (tree_found__parent k y1.1 x1).bind fun y13 =>
    (tree_First_l0 k y1 k (([] : List End), y13.1.Switch, y13.1.Port, y13.2)).bind fun p17 =>
    (slices_Reverse_End k p17).bind fun y26 =>
    some (y26, true)
theorem fn_39 : Try.prog.funcs[39]? = some Try.f39 := by kernel_rfl
set_option maxRecDepth 100000 in
set_option maxHeartbeats 4000000 in
theorem tree_First_ok (k : Nat) (H : Heap) (x0 : (List Link)) (a0_0 : Option Addr) (c0_0 : Nat) (hx0_0 : RSl H a0_0 c0_0 x0) (x1 : Int) {r : (List End) × Bool} (hr : tree_First k x0 x1 = some r) :
    Fn Try.prog 39 [.slice a0_0 x0.length c0_0, .int .i64 x1] H [] fun H' v out => ∃ a0 c0, v = .tuple #[.slice a0 r.1.length c0, .bool r.2] ∧ out = [.osl (.slice a0 r.1.length c0) 2 26 (r.1.map GoE.enc)] := by
  refine fn_of_sim (args := [.slice a0_0 x0.length c0_0, .int .i64 x1]) (n := 54) (Φ := fun r H' v out => ∃ a0 c0, v = .tuple #[.slice a0 r.1.length c0, .bool r.2] ∧ out = [.osl (.slice a0 r.1.length c0) 2 26 (r.1.map GoE.enc)]) hr fn_39 rfl rfl rfl fun w => ?_
  refine s_eq (by rw [tree_First]) ?_
  refine s_seq ?_
  refine s_region ?_
  refine o_asg rfl ?_
  refine o_asg rfl ?_
  refine s_done ?_
  refine s_seq ?_
  refine s_region ?_
  refine o_mov rfl ?_
  refine s_bg fun y1 h2 => ?_
  refine s_call [] _ rfl rfl (.refl _) (tree_find_ok k _ x0 _ _ hx0_0 h2) ?_
  rintro _ H5 _ hle6 ⟨mv3, rfl, rfl, hs4⟩
  have hs7 := RSl.mono hle6 hx0_0
  refine s_ownN ?_
  refine o_mov rfl ?_
  refine o_ext rfl rfl ?_
  refine o_ext rfl rfl ?_
  refine o_asg rfl ?_
  refine o_asg rfl ?_
  refine s_done ?_
  refine s_seq ?_
  refine s_seq ?_
  refine s_region ?_
  refine o_mov rfl ?_
  refine o_mov rfl ?_
  refine o_lkpVf (kt := 3) (et := 26) (z := ((⟨0, 0⟩ : End) : End)) hs4 rfl x1 rfl ?_
  refine o_mov rfl ?_
  refine o_ext rfl rfl ?_
  refine o_ext rfl rfl ?_
  refine o_alloc fun b8 => ?_
  refine o_st 0 rfl rfl rfl rfl rfl rfl ?_
  refine o_asg rfl ?_
  refine s_done ?_
  refine s_seq ?_
  refine s_region ?_
  refine s_mid [(1, .int .i64 x1), (4, .slice none 0 0), (6, mv3), (29, .bool ((!y1.2) || !(mhas (y1.1.getD []) x1)))] [] ?_ ?_
  · refine s_cond rfl (fun h10 => ?_) (fun h10 => ?_)
    · refine s_seq ?_
      refine s_region ?_
      refine o_asg rfl ?_
      refine o_asg rfl ?_
      refine s_done ?_
      refine s_nilOc (sz := 2) (t := 26) ?_
      have hA11 : All2 (GoT.rep H5) [] ([] : List End) := all2_nil
      exact s_retv (xs := [.tmp 4, .tmp 5]) (vs := [.slice none ([] : List End).length 0, .bool false]) [.osl (.slice none ([] : List End).length 0) 2 26 []] fn_39 rfl ⟨rv_tmp rfl, rv_tmp rfl, trivial⟩ (.cons_cons _ .slnil) ⟨_, _, rfl, (congrArg (fun z => [Res.osl _ _ _ z]) (all2_flat hA11))⟩
    · refine s_skip ?_
      refine s_seq ?_
      refine s_region ?_
      refine o_mov rfl ?_
      refine o_mkf rfl rfl ?_
      refine o_asg rfl ?_
      refine s_done ?_
      refine s_seq ?_
      refine s_seq ?_
      refine s_region ?_
      refine o_mov rfl ?_
      refine o_mov rfl ?_
      refine s_bg fun y13 h14 => ?_
      refine s_callF rfl rfl (tree_found__parent_ok k _ y1.1 _ hs4 x1 h14) ?_
      refine o_mov rfl ?_
      refine o_ext rfl rfl ?_
      refine o_ext rfl rfl ?_
      refine o_alloc fun b15 => ?_
      refine o_st 0 rfl rfl rfl rfl rfl rfl ?_
      refine o_asg rfl ?_
      refine s_done ?_
      refine s_join (fun p17 env own H' => ∃ a19 c20 ls21, env = [(4, .slice a19 p17.length c20)] ∧ own = [.osl (.slice a19 p17.length c20) 2 26 ls21] ∧ Hle H5 H' ∧ All2 (GoT.rep H') ls21 p17) ?_ ?_
      · rintro p17 _ _ H23 ⟨a19, c20, ls21, rfl, rfl, hle24, hA22⟩
        refine s_seq ?_
        refine s_region ?_
        refine o_mov rfl ?_
        refine s_flat (l := p17) 0 rfl hA22 ?_
        have hA25 : All2 (GoT.rep H23) (p17.map GoE.enc) p17 := all2_enc _
        refine s_mv 0 rfl ?_
        refine s_bg fun y26 h27 => ?_
        refine s_call [Res.osl (.slice a19 p17.length c20) 2 26 (p17.map GoE.enc)] ([] : List Res) rfl rfl (List.perm_append_comm (l₁ := ([] : List Res)) (l₂ := [Res.osl (.slice a19 p17.length c20) 2 26 (p17.map GoE.enc)])) (slices_Reverse_End_ok k _ p17 _ _ h27) ?_
        rintro _ H29 _ hle30 ⟨rfl, rfl, hq28⟩
        have hA31 : All2 (GoT.rep H29) (y26.map GoE.enc) y26 := all2_enc _
        refine s_env (env' := [(4, .slice a19 y26.length c20), (51, .slice a19 y26.length c20), (52, .tuple #[])]) (by exact ⟨(by rw [hq28]; rfl), (by rw [hq28]; rfl), rfl, trivial⟩) ?_
        refine s_ownE (own' := [.osl (.slice a19 y26.length c20) 2 26 (y26.map GoE.enc)]) rfl ?_
        refine s_done ?_
        refine s_seq ?_
        refine s_region ?_
        refine o_mov rfl ?_
        refine o_asg rfl ?_
        refine o_asg rfl ?_
        refine s_done ?_
        exact s_retv (xs := [.tmp 4, .tmp 5]) (vs := [.slice a19 y26.length c20, .bool true]) [.osl (.slice a19 y26.length c20) 2 26 (y26.map GoE.enc)] fn_39 rfl ⟨rv_tmp rfl, rv_tmp rfl, trivial⟩ (.cons_cons _ .slnil) ⟨_, _, rfl, (congrArg (fun z => [Res.osl _ _ _ z]) (all2_flat hA31))⟩
      · intro J32
        refine s_block ?_
        refine s_nilOc (sz := 2) (t := 26) ?_
        have hA34 : All2 (GoT.rep H5) [] ([] : List End) := all2_nil
        refine s_mv 1 rfl ?_
        refine s_mv 0 rfl ?_
        refine s_env (env' := [(4, .slice none ([] : List End).length 0), (10, .func (.func 73) #[mv3] #[]), (11, .pointer (some ⟨b15, 0, none⟩)), (12, .bool y13.2)]) (by exact ⟨rfl, rfl, rfl, rfl, trivial⟩) ?_
        refine s_own (own' := [.osl (.slice none ([] : List End).length 0) 2 26 [], .blk b15 (rowObj [.int .i64 y13.1.Switch, .int .i64 y13.1.Port] 26)]) (.cons_cons _ (.cons_cons _ .slnil)) ?_
        refine s_loopn (fun q s43 => tree_First_l0 k y1 q s43) (fun s43 env own H' => ∃ a44 c45 ls46 b49, env = [(4, .slice a44 s43.1.length c45), (10, .func (.func 73) #[mv3] #[]), (11, .pointer (some ⟨b49, 0, none⟩)), (12, .bool s43.2.2.2)] ∧ own = [.osl (.slice a44 s43.1.length c45) 2 26 ls46, .blk b49 (rowObj [.int .i64 s43.2.1, .int .i64 s43.2.2.1] 26)] ∧ Hle H5 H' ∧ All2 (GoT.rep H') ls46 s43.1) (fun _ => rfl) ?_ k (([] : List End), y13.1.Switch, y13.1.Port, y13.2) ⟨_, _, _, _, rfl, rfl, .refl _, hA34⟩
        rintro q50 ih51 s43 _ _ H52 ⟨a44, c45, ls46, b49, rfl, rfl, hle53, hA47⟩
        refine s_eq (by rw [tree_First_l0]) ?_
        have hs54 := MapV.mono hle53 hs4
        refine s_seq ?_
        refine s_seq ?_
        refine s_region ?_
        refine o_mov rfl ?_
        refine s_done ?_
        refine s_cond rfl (fun h55 => ?_) (fun h55 => ?_)
        · refine s_skip ?_
          refine s_seq ?_
          refine s_block ?_
          refine s_region ?_
          refine o_mov rfl ?_
          refine o_ld 1 rfl rfl rfl ?_
          refine o_bsl (xs := [.tmp 47]) rfl rfl (by simp only [List.mem_cons, List.not_mem_nil, or_false, forall_eq_or_imp, forall_eq]; exact ⟨rfl, rfl⟩) rfl rfl fun b56 => ?_
          have hA57 : All2 (GoT.rep H52) [[.int .i64 s43.2.1, .int .i64 s43.2.2.1]] ([(⟨s43.2.1, s43.2.2.1⟩ : End)] : List End) := all2_enc (([(⟨s43.2.1, s43.2.2.1⟩ : End)] : List End))
          refine o_appO 0 2 rfl rfl rfl hA47 rfl hA57 fun a59 c60 h61 hA62 => ?_
          refine o_asg rfl ?_
          refine s_done ?_
          refine s_inBlock ?_
          refine s_seq ?_
          refine s_seq ?_
          refine s_region ?_
          refine o_ld 1 rfl rfl rfl ?_
          refine s_done ?_
          refine s_region ?_
          refine o_alloc fun b63 => ?_
          refine o_st 3 rfl rfl rfl rfl rfl rfl ?_
          refine s_done ?_
          refine s_region ?_
          refine o_mov rfl ?_
          refine o_fa rfl ?_
          refine o_ld 3 rfl rfl rfl ?_
          refine s_bg fun y65 h66 => ?_
          refine s_callF rfl rfl (tree_found__parent_ok k _ y1.1 _ hs54 s43.2.1 h66) ?_
          refine o_mov rfl ?_
          refine o_ext rfl rfl ?_
          refine o_ext rfl rfl ?_
          refine o_st 3 rfl rfl rfl rfl rfl rfl ?_
          refine o_asg rfl ?_
          refine s_done ?_
          exact s_env (by exact ⟨rfl, rfl, rfl, rfl, trivial⟩) (s_own (by exact (.cons_cons _ (.cons _ (.cons _ (.cons_cons _ .slnil))))) (ih51 ((s43.1 ++ ([(⟨s43.2.1, s43.2.2.1⟩ : End)] : List End)), y65.1.Switch, y65.1.Port, y65.2) _ _ _ ⟨_, _, _, _, rfl, rfl, hle53, hA62⟩))
        · refine s_exit rfl ?_
          exact s_env (by exact ⟨rfl, trivial⟩) (s_own (by exact (.cons_cons _ (.cons _ .slnil))) (J32 s43.1 _ _ _ ⟨_, _, _, rfl, rfl, hle53, hA47⟩))
  · intro J67
    refine o_mov rfl ?_
    refine o_not rfl ?_
    refine o_mov rfl ?_
    refine s_case (!y1.2) (fun h68 => ?_) (fun h68 => ?_)
    · refine s_unwant rfl rfl h68 ?_
      refine s_unwant rfl rfl h68 ?_
      refine o_pickT rfl h68 rfl ?_
      exact s_env (by exact ⟨rfl, rfl, rfl, lkb rfl (by first | simp only [h68, Bool.true_and, Bool.and_true, Bool.false_and, Bool.and_false, Bool.true_or, Bool.false_or, Bool.or_true, Bool.or_false, Bool.not_true, Bool.not_false] | simp [h68]), trivial⟩) (s_own (by exact (.cons _ .slnil)) J67)
    · refine s_want rfl rfl h68 ?_
      refine o_mov rfl ?_
      refine s_want rfl rfl h68 ?_
      refine o_not rfl ?_
      refine o_pickF rfl h68 rfl ?_
      exact s_env (by exact ⟨rfl, rfl, rfl, lkb rfl (by first | simp only [h68, Bool.true_and, Bool.and_true, Bool.false_and, Bool.and_false, Bool.true_or, Bool.false_or, Bool.or_true, Bool.or_false, Bool.not_true, Bool.not_false] | simp [h68]), trivial⟩) (s_own (by exact (.cons _ .slnil)) J67)

/-! catenary/tree.Second -/
def tree_Second (k : Nat) (x0 : (List Link)) (x1 : Int) : Option ((List End) × Bool) :=
  (tree_First k x0 x1).bind fun y1 =>
  if (!y1.2) = true then
    some (([] : List End), false)
  else
    (slices_Clone___api_Link_api_Link_ k x0).bind fun y15 =>
    (slices_DeleteFunc___api_Link_api_Link__at77 k y15 y1.1).bind fun y31 =>
    (tree_First k y31 x1).bind fun y41 =>
    some (y41.1, y41.2)
theorem fn_41 : Try.prog.funcs[41]? = some Try.f41 := by kernel_rfl
set_option maxRecDepth 100000 in
set_option maxHeartbeats 4000000 in
theorem tree_Second_ok (k : Nat) (H : Heap) (x0 : (List Link)) (a0_0 : Option Addr) (c0_0 : Nat) (hx0_0 : RSl H a0_0 c0_0 x0) (x1 : Int) {r : (List End) × Bool} (hr : tree_Second k x0 x1 = some r) :
    Fn Try.prog 41 [.slice a0_0 x0.length c0_0, .int .i64 x1] H [] fun H' v out => ∃ a0 c0, v = .tuple #[.slice a0 r.1.length c0, .bool r.2] ∧ out = [.osl (.slice a0 r.1.length c0) 2 26 (r.1.map GoE.enc)] := by
  refine fn_of_sim (args := [.slice a0_0 x0.length c0_0, .int .i64 x1]) (n := 25) (Φ := fun r H' v out => ∃ a0 c0, v = .tuple #[.slice a0 r.1.length c0, .bool r.2] ∧ out = [.osl (.slice a0 r.1.length c0) 2 26 (r.1.map GoE.enc)]) hr fn_41 rfl rfl rfl fun w => ?_
  refine s_eq (by rw [tree_Second]) ?_
  refine s_seq ?_
  refine s_region ?_
  refine o_asg rfl ?_
  refine o_asg rfl ?_
  refine s_done ?_
  refine s_seq ?_
  refine s_region ?_
  refine o_mov rfl ?_
  refine o_mov rfl ?_
  refine s_bg fun y1 h2 => ?_
  refine s_call [] _ rfl rfl (.refl _) (tree_First_ok k _ x0 _ _ hx0_0 x1 h2) ?_
  rintro _ H6 _ hle7 ⟨a3, c4, rfl, rfl⟩
  have hs8 := RSl.mono hle7 hx0_0
  have hA9 : All2 (GoT.rep H6) (y1.1.map GoE.enc) y1.1 := all2_enc _
  refine o_mov rfl ?_
  refine o_ext rfl rfl ?_
  refine o_ext rfl rfl ?_
  refine o_alloc fun b10 => ?_
  refine o_st 1 rfl rfl rfl rfl rfl rfl ?_
  refine o_asg rfl ?_
  refine s_done ?_
  refine s_seq ?_
  refine s_seq ?_
  refine s_region ?_
  refine o_mov rfl ?_
  refine o_not rfl ?_
  refine s_done ?_
  refine s_cond rfl (fun h12 => ?_) (fun h12 => ?_)
  · refine s_seq ?_
    refine s_region ?_
    refine o_asg rfl ?_
    refine o_asg rfl ?_
    refine s_done ?_
    refine s_nilOc (sz := 2) (t := 26) ?_
    have hA13 : All2 (GoT.rep H6) [] ([] : List End) := all2_nil
    exact s_retv (xs := [.tmp 4, .tmp 5]) (vs := [.slice none ([] : List End).length 0, .bool false]) [.osl (.slice none ([] : List End).length 0) 2 26 []] fn_41 rfl ⟨rv_tmp rfl, rv_tmp rfl, trivial⟩ (.cons _ (.cons _ (.cons_cons _ .slnil))) ⟨_, _, rfl, (congrArg (fun z => [Res.osl _ _ _ z]) (all2_flat hA13))⟩
  · refine s_skip ?_
    refine s_seq ?_
    refine s_region ?_
    refine o_mov rfl ?_
    refine s_bg fun y15 h16 => ?_
    refine s_call [] _ rfl rfl (.refl _) (slices_Clone___api_Link_api_Link__ok k _ x0 _ _ hs8 h16) ?_
    rintro _ H20 _ hle21 ⟨a17, c18, rfl, rfl⟩
    have hs22 := RSl.mono hle21 hs8
    have hA23 := All2.mono (fun _ _ => GoT.mono hle21) hA9
    have hA24 : All2 (GoT.rep H20) (y15.map GoE.enc) y15 := all2_enc _
    refine o_mkf rfl rfl ?_
    refine s_frz 0 (fun b => .inl (by simp [ids])) rfl hA23 fun H25 hle26 hn27 hs28 => ?_
    have hs29 := RSl.mono hle26 hs22
    have hA30 := All2.mono (fun _ _ => GoT.mono hle26) hA24
    refine s_mv 1 rfl ?_
    refine s_mv 0 rfl ?_
    refine s_bg fun y31 h32 => ?_
    refine s_call [Res.osl (.slice a17 y15.length c18) 4 40 (y15.map GoE.enc), Res.blk b10 (rowObj [.slice a3 y1.1.length c4] 64)] ([] : List Res) rfl rfl (List.perm_append_comm (l₁ := ([] : List Res)) (l₂ := [Res.osl (.slice a17 y15.length c18) 4 40 (y15.map GoE.enc), Res.blk b10 (rowObj [.slice a3 y1.1.length c4] 64)])) (slices_DeleteFunc___api_Link_api_Link__at77_ok k _ y15 _ _ y1.1 _ _ hs28 _ h32) ?_
    rintro _ H36 _ hle37 ⟨a33, c34, rfl, rfl⟩
    have hs38 := RSl.mono hle37 hs29
    have hs39 := RSl.mono hle37 hs28
    have hA40 : All2 (GoT.rep H36) (y31.map GoE.enc) y31 := all2_enc _
    refine s_ownE (own' := [.osl (.slice a33 y31.length c34) 4 40 (y31.map GoE.enc), .blk b10 (rowObj [.slice a3 y1.1.length c4] 64)]) rfl ?_
    refine o_asg rfl ?_
    refine s_done ?_
    refine s_seq ?_
    refine s_region ?_
    refine o_mov rfl ?_
    refine o_mov rfl ?_
    refine s_bg fun y41 h42 => ?_
    refine s_callL (Φ := fun v out => ∃ a0 c0, v = .tuple #[.slice a0 y41.1.length c0, .bool y41.2] ∧ out = [.osl (.slice a0 y41.1.length c0) 2 26 (y41.1.map GoE.enc)]) [] _ rfl rfl (.refl _) (fun H' hle hl => tree_First_ok k _ y31 _ _ (lent_rsl (hl _ (List.mem_of_getElem? (i := 0) rfl)) hA40 hle).2 x1 h42) ?_
    rintro _ _ ⟨a43, c44, rfl, rfl⟩
    have hA46 : All2 (GoT.rep H36) (y41.1.map GoE.enc) y41.1 := all2_enc _
    refine o_ext rfl rfl ?_
    refine o_ext rfl rfl ?_
    refine o_asg rfl ?_
    refine o_asg rfl ?_
    refine s_done ?_
    exact s_retv (xs := [.tmp 4, .tmp 5]) (vs := [.slice a43 y41.1.length c44, .bool y41.2]) [.osl (.slice a43 y41.1.length c44) 2 26 (y41.1.map GoE.enc)] fn_41 rfl ⟨rv_tmp rfl, rv_tmp rfl, trivial⟩ (.cons _ (.cons _ (.cons_cons _ .slnil))) ⟨_, _, rfl, (congrArg (fun z => [Res.osl _ _ _ z]) (all2_flat hA46))⟩

/-! catenary/tree.Below -/
def tree_Below_l1 (k : Nat) (x0 : (List End)) (s22 : (List Int) × Int) : Nat → (List Int) × Int → Option ((List Int))
  | 0, _ => none
  | q47 + 1, s42 =>
    if (decide (s42.2 < (imin (x0.length : Int) 7))) = true then
      ((rd x0 s42.2).bind fun y70 =>
        (rd s42.1 s22.2).bind fun y76 =>
        if (y70.Switch == y76) = true then
          (slices_Contains___int_int_ k s42.1 s42.2).bind fun y86 =>
          some (s42.1, !y86)
        else
          some (s42.1, false)).bind fun p53 =>
      if (p53.2) = true then
        (app p53.1 ([s42.2] : List Int)).bind fun _ =>
        tree_Below_l1 k x0 s22 q47 ((p53.1 ++ ([s42.2] : List Int)), w64 (s42.2 + 1))
      else
        tree_Below_l1 k x0 s22 q47 (p53.1, w64 (s42.2 + 1))
    else
      some s42.1
def tree_Below_l0 (k : Nat) (x0 : (List End)) : Nat → (List Int) × Int → Option ((List Int))
  | 0, _ => none
  | q27 + 1, s22 =>
    if (decide (s22.2 < (s22.1.length : Int))) = true then
      (tree_Below_l1 k x0 s22 k (s22.1, 1)).bind fun p33 =>
      tree_Below_l0 k x0 q27 (p33, w64 (s22.2 + 1))
    else
      some s22.1
def tree_Below (k : Nat) (x0 : (List End)) (x1 : Int) : Option (List Int) :=
  if (((decide (x1 < 1)) || decide (x1 > 6))) = true then
    some ([] : List Int)
  else
    (tree_Below_l0 k x0 k (([x1] : List Int), 0)).bind fun p7 =>
    (slices_Sort k p7).bind fun y15 =>
    some y15
theorem fn_44 : Try.prog.funcs[44]? = some Try.f44 := by kernel_rfl
set_option maxRecDepth 100000 in
set_option maxHeartbeats 4000000 in
theorem tree_Below_ok (k : Nat) (H : Heap) (x0 : (List End)) (a0_0 : Option Addr) (c0_0 : Nat) (hx0_0 : RSl H a0_0 c0_0 x0) (x1 : Int) {r : (List Int)} (hr : tree_Below k x0 x1 = some r) :
    Fn Try.prog 44 [.slice a0_0 x0.length c0_0, .int .i64 x1] H [] fun H' v out => ∃ a0 c0, v = .slice a0 r.length c0 ∧ out = [.osl (.slice a0 r.length c0) 1 3 (r.map GoE.enc)] := by
  refine fn_of_sim (args := [.slice a0_0 x0.length c0_0, .int .i64 x1]) (n := 52) (Φ := fun r H' v out => ∃ a0 c0, v = .slice a0 r.length c0 ∧ out = [.osl (.slice a0 r.length c0) 1 3 (r.map GoE.enc)]) hr fn_44 rfl rfl rfl fun w => ?_
  refine s_eq (by rw [tree_Below]) ?_
  refine s_seq ?_
  refine s_region ?_
  refine o_asg rfl ?_
  refine s_done ?_
  refine s_seq ?_
  refine s_seq ?_
  refine s_region ?_
  refine s_mid [(0, .slice a0_0 x0.length c0_0), (1, .int .i64 x1), (13, .bool ((decide (x1 < 1)) || decide (x1 > 6)))] [] ?_ ?_
  · refine s_cond rfl (fun h1 => ?_) (fun h1 => ?_)
    · refine s_seq ?_
      refine s_region ?_
      refine o_asg rfl ?_
      refine s_done ?_
      refine s_nilOc (sz := 1) (t := 3) ?_
      have hA2 : All2 (GoT.rep H) [] ([] : List Int) := all2_nil
      exact s_retv (xs := [.tmp 4]) (vs := [.slice none ([] : List Int).length 0]) [.osl (.slice none ([] : List Int).length 0) 1 3 []] fn_44 rfl ⟨rv_tmp rfl, trivial⟩ (.cons_cons _ .slnil) ⟨_, _, rfl, (congrArg (fun z => [Res.osl _ _ _ z]) (all2_flat hA2))⟩
    · refine s_skip ?_
      refine s_seq ?_
      refine s_region ?_
      refine o_mov rfl ?_
      refine o_bsl (xs := [.tmp 14]) rfl rfl (by simp only [List.mem_cons, List.not_mem_nil, or_false, forall_eq_or_imp, forall_eq]; exact ⟨rfl, rfl⟩) rfl rfl fun b4 => ?_
      have hA5 : All2 (GoT.rep H) [[.int .i64 x1]] ([x1] : List Int) := all2_enc (([x1] : List Int))
      refine o_asg rfl ?_
      refine s_done ?_
      refine s_seq ?_
      refine s_seq ?_
      refine s_region ?_
      refine o_asg rfl ?_
      refine s_done ?_
      refine s_join (fun p7 env own H' => ∃ a8 c9 ls10, env = [(5, .slice a8 p7.length c9)] ∧ own = [.osl (.slice a8 p7.length c9) 1 3 ls10] ∧ Hle H H' ∧ All2 (GoT.rep H') ls10 p7) ?_ ?_
      · rintro p7 _ _ H12 ⟨a8, c9, ls10, rfl, rfl, hle13, hA11⟩
        refine s_seq ?_
        refine s_region ?_
        refine o_mov rfl ?_
        refine s_flat (l := p7) 0 rfl hA11 ?_
        have hA14 : All2 (GoT.rep H12) (p7.map GoE.enc) p7 := all2_enc _
        refine s_mv 0 rfl ?_
        refine s_bg fun y15 h16 => ?_
        refine s_call [Res.osl (.slice a8 p7.length c9) 1 3 (p7.map GoE.enc)] ([] : List Res) rfl rfl (List.perm_append_comm (l₁ := ([] : List Res)) (l₂ := [Res.osl (.slice a8 p7.length c9) 1 3 (p7.map GoE.enc)])) (slices_Sort_ok k _ p7 _ _ h16) ?_
        rintro _ H18 _ hle19 ⟨rfl, rfl, hq17⟩
        have hA20 : All2 (GoT.rep H18) (y15.map GoE.enc) y15 := all2_enc _
        refine s_env (env' := [(5, .slice a8 y15.length c9), (49, .slice a8 y15.length c9), (50, .tuple #[])]) (by exact ⟨(by rw [hq17]; rfl), (by rw [hq17]; rfl), rfl, trivial⟩) ?_
        refine s_ownE (own' := [.osl (.slice a8 y15.length c9) 1 3 (y15.map GoE.enc)]) rfl ?_
        refine s_done ?_
        refine s_seq ?_
        refine s_region ?_
        refine o_mov rfl ?_
        refine o_asg rfl ?_
        refine s_done ?_
        exact s_retv (xs := [.tmp 4]) (vs := [.slice a8 y15.length c9]) [.osl (.slice a8 y15.length c9) 1 3 (y15.map GoE.enc)] fn_44 rfl ⟨rv_tmp rfl, trivial⟩ (.cons_cons _ .slnil) ⟨_, _, rfl, (congrArg (fun z => [Res.osl _ _ _ z]) (all2_flat hA20))⟩
      · intro J21
        refine s_block ?_
        refine s_env (env' := [(0, .slice a0_0 x0.length c0_0), (5, .slice (some ⟨b4, 0, none⟩) ([x1] : List Int).length 1), (6, .int .i64 0)]) (by exact ⟨rfl, rfl, rfl, trivial⟩) ?_
        refine s_own (own' := [.osl (.slice (some ⟨b4, 0, none⟩) ([x1] : List Int).length 1) 1 3 [[.int .i64 x1]]]) (.cons_cons _ .slnil) ?_
        refine s_loopn (fun q s22 => tree_Below_l0 k x0 q s22) (fun s22 env own H' => ∃ a23 c24 ls25, env = [(0, .slice a0_0 x0.length c0_0), (5, .slice a23 s22.1.length c24), (6, .int .i64 s22.2)] ∧ own = [.osl (.slice a23 s22.1.length c24) 1 3 ls25] ∧ Hle H H' ∧ All2 (GoT.rep H') ls25 s22.1) (fun _ => rfl) ?_ k (([x1] : List Int), 0) ⟨_, _, _, rfl, rfl, .refl _, hA5⟩
        rintro q27 ih28 s22 _ _ H29 ⟨a23, c24, ls25, rfl, rfl, hle30, hA26⟩
        refine s_eq (by rw [tree_Below_l0]) ?_
        have hs31 := RSl.mono hle30 hx0_0
        refine s_seq ?_
        refine s_seq ?_
        refine s_region ?_
        refine o_mov rfl ?_
        refine o_mov rfl ?_
        refine o_lenS rfl ?_
        refine o_lt rfl rfl ?_
        refine s_done ?_
        refine s_cond rfl (fun h32 => ?_) (fun h32 => ?_)
        · refine s_skip ?_
          refine s_seq ?_
          refine s_block ?_
          refine s_seq ?_
          refine s_region ?_
          refine o_asg rfl ?_
          refine s_done ?_
          refine s_join (fun p33 env own H' => ∃ a34 c35 ls36, env = [(0, .slice a0_0 x0.length c0_0), (5, .slice a34 p33.length c35), (6, .int .i64 s22.2)] ∧ own = [.osl (.slice a34 p33.length c35) 1 3 ls36] ∧ Hle H29 H' ∧ All2 (GoT.rep H') ls36 p33) ?_ ?_
          · rintro p33 _ _ H38 ⟨a34, c35, ls36, rfl, rfl, hle39, hA37⟩
            have hs40 := RSl.mono hle39 hs31
            refine s_inBlock ?_
            refine s_region ?_
            refine o_mov rfl ?_
            refine o_add rfl rfl ?_
            refine o_asg rfl ?_
            refine s_done ?_
            exact s_env (by exact ⟨rfl, rfl, rfl, trivial⟩) (s_own (by exact (.cons_cons _ .slnil)) (ih28 (p33, w64 (s22.2 + 1)) _ _ _ ⟨_, _, _, rfl, rfl, (Hle.trans hle30 hle39), hA37⟩))
          · intro J41
            refine s_block ?_
            refine s_env (env' := [(0, .slice a0_0 x0.length c0_0), (5, .slice a23 s22.1.length c24), (6, .int .i64 s22.2), (7, .int .i64 1)]) (by exact ⟨rfl, rfl, rfl, rfl, trivial⟩) ?_
            refine s_own (own' := [.osl (.slice a23 s22.1.length c24) 1 3 ls25]) (.cons_cons _ .slnil) ?_
            refine s_loopn (fun q s42 => tree_Below_l1 k x0 s22 q s42) (fun s42 env own H' => ∃ a43 c44 ls45, env = [(0, .slice a0_0 x0.length c0_0), (5, .slice a43 s42.1.length c44), (6, .int .i64 s22.2), (7, .int .i64 s42.2)] ∧ own = [.osl (.slice a43 s42.1.length c44) 1 3 ls45] ∧ Hle H29 H' ∧ All2 (GoT.rep H') ls45 s42.1) (fun _ => rfl) ?_ k (s22.1, 1) ⟨_, _, _, rfl, rfl, .refl _, hA26⟩
            rintro q47 ih48 s42 _ _ H49 ⟨a43, c44, ls45, rfl, rfl, hle50, hA46⟩
            refine s_eq (by rw [tree_Below_l1]) ?_
            have hs51 := RSl.mono hle50 hs31
            refine s_seq ?_
            refine s_seq ?_
            refine s_region ?_
            refine o_mov rfl ?_
            refine o_mov rfl ?_
            refine o_lenS rfl ?_
            refine o_min rfl rfl ?_
            refine o_lt rfl rfl ?_
            refine s_done ?_
            refine s_cond rfl (fun h52 => ?_) (fun h52 => ?_)
            · refine s_skip ?_
              refine s_seq ?_
              refine s_block ?_
              refine s_seq ?_
              refine s_join (fun p53 env own H' => ∃ a54 c55 ls56, env = [(0, .slice a0_0 x0.length c0_0), (5, .slice a54 p53.1.length c55), (6, .int .i64 s22.2), (7, .int .i64 s42.2), (44, .bool p53.2)] ∧ own = [.osl (.slice a54 p53.1.length c55) 1 3 ls56] ∧ Hle H49 H' ∧ All2 (GoT.rep H') ls56 p53.1) ?_ ?_
              · rintro p53 _ _ H58 ⟨a54, c55, ls56, rfl, rfl, hle59, hA57⟩
                have hs60 := RSl.mono hle59 hs51
                refine s_cond rfl (fun h61 => ?_) (fun h61 => ?_)
                · refine s_region ?_
                  refine o_mov rfl ?_
                  refine o_mov rfl ?_
                  refine o_bsl (xs := [.tmp 46]) rfl rfl (by simp only [List.mem_cons, List.not_mem_nil, or_false, forall_eq_or_imp, forall_eq]; exact ⟨rfl, rfl⟩) rfl rfl fun b62 => ?_
                  have hA63 : All2 (GoT.rep H58) [[.int .i64 s42.2]] ([s42.2] : List Int) := all2_enc (([s42.2] : List Int))
                  refine o_appO 0 1 rfl rfl rfl hA57 rfl hA63 fun a65 c66 h67 hA68 => ?_
                  refine o_asg rfl ?_
                  refine s_done ?_
                  refine s_inBlock ?_
                  refine s_region ?_
                  refine o_mov rfl ?_
                  refine o_add rfl rfl ?_
                  refine o_asg rfl ?_
                  refine s_done ?_
                  exact s_env (by exact ⟨rfl, rfl, rfl, rfl, trivial⟩) (s_own (by exact (.cons_cons _ (.cons _ .slnil))) (ih48 ((p53.1 ++ ([s42.2] : List Int)), w64 (s42.2 + 1)) _ _ _ ⟨_, _, _, rfl, rfl, (Hle.trans hle50 hle59), hA68⟩))
                · refine s_skip ?_
                  refine s_inBlock ?_
                  refine s_region ?_
                  refine o_mov rfl ?_
                  refine o_add rfl rfl ?_
                  refine o_asg rfl ?_
                  refine s_done ?_
                  exact s_env (by exact ⟨rfl, rfl, rfl, rfl, trivial⟩) (s_own (by exact (.cons_cons _ .slnil)) (ih48 (p53.1, w64 (s42.2 + 1)) _ _ _ ⟨_, _, _, rfl, rfl, (Hle.trans hle50 hle59), hA57⟩))
              · intro J69
                refine s_bg fun y70 h75 => ?_
                refine s_bg fun y76 h83 => ?_
                refine s_addr 0 rfl hA46 h83 fun bk78 ha84 => ?_
                subst ha84
                refine s_split (y70.Switch == y76) (fun h85 => ?_) (fun h85 => ?_)
                · refine s_bg fun y86 h88 => ?_
                  refine s_drawL [(fun H v g => v = Value.slice a0_0 x0.length c0_0 ∧ g = [] ∧ RSl H a0_0 c0_0 x0),
      (fun H v g => v = Value.int .i64 s42.2 ∧ g = []),
      (fun H v g => ∃ bk90 of91, v = Value.pointer (some ⟨bk90, of91, none⟩) ∧ g = [] ∧ CellsAt H bk90 of91 [.int .i64 y70.Switch, .int .i64 y70.Port]),
      (fun H v g => ∃ bk90 of91, v = Value.pointer (some ⟨bk90, of91, none⟩) ∧ g = [] ∧ CellsAt H bk90 of91 [.int .i64 y70.Switch, .int .i64 y70.Port]),
      (fun H v g => v = Value.int .i64 y70.Switch ∧ g = []),
      (fun H v g => v = Value.slice (some ⟨bk78, 0, none⟩) s42.1.length c44 ∧ g = []),
      (fun H v g => v = Value.int .i64 s22.2 ∧ g = []),
      (fun H v g => v = Value.pointer (some ⟨bk78, (s22.2 : Int).toNat * GoT.sz (Int), none⟩) ∧ g = [] ∧ (ls45)[(s22.2 : Int).toNat]? = some [.int .i64 y76]),
      (fun H v g => v = Value.int .i64 y76 ∧ g = []),
      (fun H v g => v = Value.bool (y70.Switch == y76) ∧ g = []),
      (fun H v g => v = Value.bool (y70.Switch == y76) ∧ g = []),
      (fun H v g => v = Value.slice (some ⟨bk78, 0, none⟩) s42.1.length c44 ∧ g = []),
      (fun H v g => v = Value.int .i64 s42.2 ∧ g = []),
      (fun H v g => v = Value.bool y86 ∧ g = []),
      (fun H v g => v = Value.bool (!y86) ∧ g = []),
      (fun H v g => v = Value.bool (!y86) ∧ g = [])] [[], [], [], [], [], [], [], [], [], [], [], [], [], [], [], []] mixed ⟨fun _ _ _ _ hle ⟨e1, e2, h0_⟩ => ⟨e1, e2, RSl.mono hle h0_⟩, m0, fun _ _ _ _ hle ⟨bk90, of91, e1, e2, h0_⟩ => ⟨_, _, e1, e2, CellsAt.mono hle h0_⟩, fun _ _ _ _ hle ⟨bk90, of91, e1, e2, h0_⟩ => ⟨_, _, e1, e2, CellsAt.mono hle h0_⟩, m0, m0, m0, m0, m0, m0, m0, m0, m0, m0, m0, m0, trivial⟩ (by kernel_rfl) (by kernel_rfl) rfl (by kernel_rfl) rfl rfl ?_ ?_
                  · refine dcons ?_ ?_
                    · intro _ _ H102 fr103 hle104 hd105
                      have hs107 := RSl.mono hle104 hs51
                      refine ⟨_, some (), rfl, fun _ => ?_⟩
                      refine s_env (env' := [(0, .slice a0_0 x0.length c0_0)]) (by exact ⟨rfl, trivial⟩) ?_
                      refine o_mov rfl ?_
                      exact s_pred fun _ _ _ hE hI => ⟨(.slice a0_0 x0.length c0_0), [], _, fun _ e => (by cases e; exact hE _ _ rfl), .refl _, by exact hI, ⟨rfl, rfl, hs107⟩⟩
                    refine dcons ?_ ?_
                    · intro _ _ H110 fr111 hle112 hd113
                      refine ⟨_, some (), rfl, fun _ => ?_⟩
                      refine s_env (env' := [(7, .int .i64 s42.2)]) (by exact ⟨rfl, trivial⟩) ?_
                      refine o_mov rfl ?_
                      exact s_pred fun _ _ _ hE hI => ⟨(.int .i64 s42.2), [], _, fun _ e => (by cases e; exact hE _ _ rfl), .refl _, by exact hI, ⟨rfl, rfl⟩⟩
                    refine dcons ?_ ?_
                    · intro _ _ H117 fr118 hle119 hd120
                      obtain ⟨hv122, hg123, hp124⟩ := hd120 0 (by decide)
                      obtain ⟨hv125, hg126⟩ := hd120 1 (by decide)
                      refine ⟨_, (rd x0 s42.2).bind some, by rw [h75]; rfl, fun _ => ?_⟩
                      refine s_env (env' := [(29, .slice a0_0 x0.length c0_0), (30, .int .i64 s42.2)]) (by exact ⟨congrArg some hv122, congrArg some hv125, trivial⟩) ?_
                      refine o_ixf hp124 rfl rfl fun y70 bk128 of129 h127 hc130 => ?_
                      obtain rfl := Option.some.inj (h75.symm.trans h127)
                      exact s_pred fun _ _ _ hE hI => ⟨(.pointer (some ⟨bk128, of129, none⟩)), [], _, fun _ e => (by cases e; exact hE _ _ rfl), .refl _, by exact hI, ⟨bk128, of129, rfl, rfl, hc130⟩⟩
                    refine dcons ?_ ?_
                    · intro _ _ H133 fr134 hle135 hd136
                      obtain ⟨bk138, of139, hv140, hg141, hp142⟩ := hd136 2 (by decide)
                      refine ⟨_, some (), rfl, fun _ => ?_⟩
                      refine s_env (env' := [(31, .pointer (some ⟨bk138, of139, none⟩))]) (by exact ⟨congrArg some hv140, trivial⟩) ?_
                      refine o_fa rfl ?_
                      exact s_pred fun _ _ _ hE hI => ⟨(.pointer (some ⟨bk138, of139, none⟩)), [], _, fun _ e => (by cases e; exact hE _ _ rfl), .refl _, by exact hI, ⟨bk138, of139, rfl, rfl, hp142⟩⟩
                    refine dcons ?_ ?_
                    · intro _ _ H145 fr146 hle147 hd148
                      obtain ⟨bk150, of151, hv152, hg153, hp154⟩ := hd148 3 (by decide)
                      refine ⟨_, some (), rfl, fun _ => ?_⟩
                      refine s_env (env' := [(32, .pointer (some ⟨bk150, of151, none⟩))]) (by exact ⟨congrArg some hv152, trivial⟩) ?_
                      refine o_ldH 0 hp154 rfl rfl rfl ?_
                      exact s_pred fun _ _ _ hE hI => ⟨(.int .i64 y70.Switch), [], _, fun _ e => (by cases e; exact hE _ _ rfl), .refl _, by exact hI, ⟨rfl, rfl⟩⟩
                    refine dcons ?_ ?_
                    · intro _ _ H157 fr158 hle159 hd160
                      have hA162 := All2.mono (fun _ _ => GoT.mono hle159) hA46
                      refine ⟨_, some (), rfl, fun _ => ?_⟩
                      refine s_env (env' := [(5, .slice (some ⟨bk78, 0, none⟩) s42.1.length c44)]) (by exact ⟨rfl, trivial⟩) ?_
                      refine o_mov rfl ?_
                      exact s_pred fun _ _ _ hE hI => ⟨(.slice (some ⟨bk78, 0, none⟩) s42.1.length c44), [], _, fun _ e => (by cases e; exact hE _ _ rfl), .refl _, by exact hI, ⟨rfl, rfl⟩⟩
                    refine dcons ?_ ?_
                    · intro _ _ H165 fr166 hle167 hd168
                      refine ⟨_, some (), rfl, fun _ => ?_⟩
                      refine s_env (env' := [(6, .int .i64 s22.2)]) (by exact ⟨rfl, trivial⟩) ?_
                      refine o_mov rfl ?_
                      exact s_pred fun _ _ _ hE hI => ⟨(.int .i64 s22.2), [], _, fun _ e => (by cases e; exact hE _ _ rfl), .refl _, by exact hI, ⟨rfl, rfl⟩⟩
                    refine dcons ?_ ?_
                    · intro _ _ H172 fr173 hle174 hd175
                      have hA177 := All2.mono (fun _ _ => GoT.mono hle174) hA46
                      obtain ⟨hv178, hg179⟩ := hd175 5 (by decide)
                      obtain ⟨hv180, hg181⟩ := hd175 6 (by decide)
                      refine ⟨_, (rd s42.1 s22.2).bind some, by rw [h83]; rfl, fun _ => ?_⟩
                      refine s_env (env' := [(34, .slice (some ⟨bk78, 0, none⟩) s42.1.length c44), (35, .int .i64 s22.2)]) (by exact ⟨congrArg some hv178, congrArg some hv180, trivial⟩) ?_
                      refine o_ixO 0 rfl hA177 rfl rfl fun y76 bk183 vs184 h182 ha185 hi186 hr187 => ?_
                      subst hr187
                      obtain rfl := s_bk ha185
                      obtain rfl := Option.some.inj (h83.symm.trans h182)
                      exact s_pred fun _ _ _ hE hI => ⟨(.pointer (some ⟨bk78, (s22.2 : Int).toNat * GoT.sz (Int), none⟩)), [], _, fun _ e => (by cases e; exact hE _ _ rfl), .refl _, by exact hI, ⟨rfl, rfl, hi186⟩⟩
                    refine dcons ?_ ?_
                    · intro _ _ H190 fr191 hle192 hd193
                      have hA195 := All2.mono (fun _ _ => GoT.mono hle192) hA46
                      obtain ⟨hv196, hg197, hp198⟩ := hd193 7 (by decide)
                      refine ⟨_, some (), rfl, fun _ => ?_⟩
                      refine s_env (env' := [(36, .pointer (some ⟨bk78, (s22.2 : Int).toNat * GoT.sz (Int), none⟩))]) (by exact ⟨congrArg some hv196, trivial⟩) ?_
                      refine o_ldO 0 0 rfl hp198 rfl rfl rfl ?_
                      exact s_pred fun _ _ _ hE hI => ⟨(.int .i64 y76), [], _, fun _ e => (by cases e; exact hE _ _ rfl), .refl _, by exact hI, ⟨rfl, rfl⟩⟩
                    refine dcons ?_ ?_
                    · intro _ _ H201 fr202 hle203 hd204
                      obtain ⟨hv206, hg207⟩ := hd204 4 (by decide)
                      obtain ⟨hv208, hg209⟩ := hd204 8 (by decide)
                      refine ⟨_, some (), rfl, fun _ => ?_⟩
                      refine s_env (env' := [(33, .int .i64 y70.Switch), (37, .int .i64 y76)]) (by exact ⟨congrArg some hv206, congrArg some hv208, trivial⟩) ?_
                      refine o_eq rfl rfl ?_
                      exact s_pred fun _ _ _ hE hI => ⟨(.bool (y70.Switch == y76)), [], _, fun _ e => (by cases e; exact hE _ _ rfl), .refl _, by exact hI, ⟨rfl, rfl⟩⟩
                    refine dcons ?_ ?_
                    · intro _ _ H212 fr213 hle214 hd215
                      obtain ⟨hv217, hg218⟩ := hd215 9 (by decide)
                      refine ⟨_, some (), rfl, fun _ => ?_⟩
                      refine s_env (env' := [(38, .bool (y70.Switch == y76))]) (by exact ⟨congrArg some hv217, trivial⟩) ?_
                      refine o_mov rfl ?_
                      exact s_pred fun _ _ _ hE hI => ⟨(.bool (y70.Switch == y76)), [], _, fun _ e => (by cases e; exact hE _ _ rfl), .refl _, by exact hI, ⟨rfl, rfl⟩⟩
                    refine dcons ?_ ?_
                    · intro _ _ H221 fr222 hle223 hd224
                      have hA226 := All2.mono (fun _ _ => GoT.mono hle223) hA46
                      obtain ⟨hv227, hg228⟩ := hd224 10 (by decide)
                      refine ⟨_, some (), rfl, fun _ => ?_⟩
                      refine s_env (env' := [(39, .bool (y70.Switch == y76)), (5, .slice (some ⟨bk78, 0, none⟩) s42.1.length c44)]) (by exact ⟨congrArg some hv227, rfl, trivial⟩) ?_
                      refine s_want rfl rfl h85 ?_
                      refine o_mov rfl ?_
                      exact s_pred fun _ _ _ hE hI => ⟨(.slice (some ⟨bk78, 0, none⟩) s42.1.length c44), [], _, fun _ e => (by cases e; exact hE _ _ rfl), .refl _, by exact hI, ⟨rfl, rfl⟩⟩
                    refine dcons ?_ ?_
                    · intro _ _ H231 fr232 hle233 hd234
                      obtain ⟨hv236, hg237⟩ := hd234 10 (by decide)
                      refine ⟨_, some (), rfl, fun _ => ?_⟩
                      refine s_env (env' := [(39, .bool (y70.Switch == y76)), (7, .int .i64 s42.2)]) (by exact ⟨congrArg some hv236, rfl, trivial⟩) ?_
                      refine s_want rfl rfl h85 ?_
                      refine o_mov rfl ?_
                      exact s_pred fun _ _ _ hE hI => ⟨(.int .i64 s42.2), [], _, fun _ e => (by cases e; exact hE _ _ rfl), .refl _, by exact hI, ⟨rfl, rfl⟩⟩
                    refine dcons ?_ ?_
                    · intro _ _ H240 fr241 hle242 hd243
                      have hA245 := All2.mono (fun _ _ => GoT.mono hle242) hA46
                      obtain ⟨hv246, hg247⟩ := hd243 10 (by decide)
                      obtain ⟨hv248, hg249⟩ := hd243 11 (by decide)
                      obtain ⟨hv250, hg251⟩ := hd243 12 (by decide)
                      refine ⟨_, (slices_Contains___int_int_ k s42.1 s42.2).bind some, by rw [h88]; rfl, fun _ => ?_⟩
                      refine s_env (env' := [(39, .bool (y70.Switch == y76)), (40, .slice (some ⟨bk78, 0, none⟩) s42.1.length c44), (41, .int .i64 s42.2)]) (by exact ⟨congrArg some hv246, congrArg some hv248, congrArg some hv250, trivial⟩) ?_
                      refine s_want rfl rfl h85 ?_
                      refine s_bg fun y86 h252 => ?_
                      refine s_callL (Φ := fun v out => v = _ ∧ out = []) [] _ rfl rfl (.refl _) (fun H' hle hl => slices_Contains___int_int__ok k _ s42.1 _ _ (lent_rsl (hl _ (List.mem_of_getElem? (i := 0) rfl)) hA245 hle).2 s42.2 h252) ?_
                      rintro _ _ ⟨rfl, rfl⟩
                      refine s_ownN ?_
                      obtain rfl := Option.some.inj (h88.symm.trans h252)
                      exact s_pred fun _ _ _ hE hI => ⟨(.bool y86), [], _, fun _ e => (by cases e; exact hE _ _ rfl), .refl _, by exact hI, ⟨rfl, rfl⟩⟩
                    refine dcons ?_ ?_
                    · intro _ _ H255 fr256 hle257 hd258
                      obtain ⟨hv260, hg261⟩ := hd258 10 (by decide)
                      obtain ⟨hv262, hg263⟩ := hd258 13 (by decide)
                      refine ⟨_, some (), rfl, fun _ => ?_⟩
                      refine s_env (env' := [(39, .bool (y70.Switch == y76)), (42, .bool y86)]) (by exact ⟨congrArg some hv260, congrArg some hv262, trivial⟩) ?_
                      refine s_want rfl rfl h85 ?_
                      refine o_not rfl ?_
                      exact s_pred fun _ _ _ hE hI => ⟨(.bool (!y86)), [], _, fun _ e => (by cases e; exact hE _ _ rfl), .refl _, by exact hI, ⟨rfl, rfl⟩⟩
                    refine dcons ?_ ?_
                    · intro _ _ H266 fr267 hle268 hd269
                      obtain ⟨hv271, hg272⟩ := hd269 10 (by decide)
                      obtain ⟨hv273, hg274⟩ := hd269 14 (by decide)
                      refine ⟨_, some (), rfl, fun _ => ?_⟩
                      refine s_env (env' := [(39, .bool (y70.Switch == y76)), (43, .bool (!y86))]) (by exact ⟨congrArg some hv271, congrArg some hv273, trivial⟩) ?_
                      refine o_pickT rfl h85 rfl ?_
                      exact s_pred fun _ _ _ hE hI => ⟨(.bool (!y86)), [], _, fun _ e => (by cases e; exact hE _ _ rfl), .refl _, by exact hI, ⟨rfl, rfl⟩⟩
                    exact dnil
                  · intro V277 G278 H275 hle276 hF279
                    have hs280 := RSl.mono hle276 hs51
                    have hA281 := All2.mono (fun _ _ => GoT.mono hle276) hA46
                    obtain ⟨hv282, hg283⟩ := hF279 15 (show 15 < 16 by decide)
                    refine s_env (env' := [(44, .bool (!y86)), (0, .slice a0_0 x0.length c0_0), (5, .slice (some ⟨bk78, 0, none⟩) s42.1.length c44), (6, .int .i64 s22.2), (7, .int .i64 s42.2), (22, .int .i64 s42.2), (23, .slice a0_0 x0.length c0_0), (24, .int .i64 (x0.length : Int)), (25, .int .i64 (imin (x0.length : Int) 7)), (26, .bool (decide (s42.2 < (imin (x0.length : Int) 7))))]) (by exact ⟨congrArg some hv282, rfl, rfl, rfl, rfl, rfl, rfl, rfl, rfl, rfl, trivial⟩) ?_
                    refine s_own (List.sublist_append_left _ _) ?_
                    refine s_done ?_
                    exact s_env (by exact ⟨rfl, rfl, rfl, rfl, rfl, trivial⟩) (s_own (by exact (.cons_cons _ .slnil)) (J69 (s42.1, !y86) _ _ _ ⟨_, _, _, rfl, rfl, hle276, hA281⟩))
                · refine s_drawL [(fun H v g => v = Value.slice a0_0 x0.length c0_0 ∧ g = [] ∧ RSl H a0_0 c0_0 x0),
      (fun H v g => v = Value.int .i64 s42.2 ∧ g = []),
      (fun H v g => ∃ bk285 of286, v = Value.pointer (some ⟨bk285, of286, none⟩) ∧ g = [] ∧ CellsAt H bk285 of286 [.int .i64 y70.Switch, .int .i64 y70.Port]),
      (fun H v g => ∃ bk285 of286, v = Value.pointer (some ⟨bk285, of286, none⟩) ∧ g = [] ∧ CellsAt H bk285 of286 [.int .i64 y70.Switch, .int .i64 y70.Port]),
      (fun H v g => v = Value.int .i64 y70.Switch ∧ g = []),
      (fun H v g => v = Value.slice (some ⟨bk78, 0, none⟩) s42.1.length c44 ∧ g = []),
      (fun H v g => v = Value.int .i64 s22.2 ∧ g = []),
      (fun H v g => v = Value.pointer (some ⟨bk78, (s22.2 : Int).toNat * GoT.sz (Int), none⟩) ∧ g = [] ∧ (ls45)[(s22.2 : Int).toNat]? = some [.int .i64 y76]),
      (fun H v g => v = Value.int .i64 y76 ∧ g = []),
      (fun H v g => v = Value.bool (y70.Switch == y76) ∧ g = []),
      (fun H v g => v = Value.bool (y70.Switch == y76) ∧ g = []),
      uF,
      uF,
      uF,
      uF,
      (fun H v g => v = Value.bool false ∧ g = [])] [[], [], [], [], [], [], [], [], [], [], [], [], [], [], [], []] mixed ⟨fun _ _ _ _ hle ⟨e1, e2, h0_⟩ => ⟨e1, e2, RSl.mono hle h0_⟩, m0, fun _ _ _ _ hle ⟨bk285, of286, e1, e2, h0_⟩ => ⟨_, _, e1, e2, CellsAt.mono hle h0_⟩, fun _ _ _ _ hle ⟨bk285, of286, e1, e2, h0_⟩ => ⟨_, _, e1, e2, CellsAt.mono hle h0_⟩, m0, m0, m0, m0, m0, m0, m0, m0, m0, m0, m0, m0, trivial⟩ (by kernel_rfl) (by kernel_rfl) rfl (by kernel_rfl) rfl rfl ?_ ?_
                  · refine dcons ?_ ?_
                    · intro _ _ H296 fr297 hle298 hd299
                      have hs301 := RSl.mono hle298 hs51
                      refine ⟨_, some (), rfl, fun _ => ?_⟩
                      refine s_env (env' := [(0, .slice a0_0 x0.length c0_0)]) (by exact ⟨rfl, trivial⟩) ?_
                      refine o_mov rfl ?_
                      exact s_pred fun _ _ _ hE hI => ⟨(.slice a0_0 x0.length c0_0), [], _, fun _ e => (by cases e; exact hE _ _ rfl), .refl _, by exact hI, ⟨rfl, rfl, hs301⟩⟩
                    refine dcons ?_ ?_
                    · intro _ _ H304 fr305 hle306 hd307
                      refine ⟨_, some (), rfl, fun _ => ?_⟩
                      refine s_env (env' := [(7, .int .i64 s42.2)]) (by exact ⟨rfl, trivial⟩) ?_
                      refine o_mov rfl ?_
                      exact s_pred fun _ _ _ hE hI => ⟨(.int .i64 s42.2), [], _, fun _ e => (by cases e; exact hE _ _ rfl), .refl _, by exact hI, ⟨rfl, rfl⟩⟩
                    refine dcons ?_ ?_
                    · intro _ _ H311 fr312 hle313 hd314
                      obtain ⟨hv316, hg317, hp318⟩ := hd314 0 (by decide)
                      obtain ⟨hv319, hg320⟩ := hd314 1 (by decide)
                      refine ⟨_, (rd x0 s42.2).bind some, by rw [h75]; rfl, fun _ => ?_⟩
                      refine s_env (env' := [(29, .slice a0_0 x0.length c0_0), (30, .int .i64 s42.2)]) (by exact ⟨congrArg some hv316, congrArg some hv319, trivial⟩) ?_
                      refine o_ixf hp318 rfl rfl fun y70 bk322 of323 h321 hc324 => ?_
                      obtain rfl := Option.some.inj (h75.symm.trans h321)
                      exact s_pred fun _ _ _ hE hI => ⟨(.pointer (some ⟨bk322, of323, none⟩)), [], _, fun _ e => (by cases e; exact hE _ _ rfl), .refl _, by exact hI, ⟨bk322, of323, rfl, rfl, hc324⟩⟩
                    refine dcons ?_ ?_
                    · intro _ _ H327 fr328 hle329 hd330
                      obtain ⟨bk332, of333, hv334, hg335, hp336⟩ := hd330 2 (by decide)
                      refine ⟨_, some (), rfl, fun _ => ?_⟩
                      refine s_env (env' := [(31, .pointer (some ⟨bk332, of333, none⟩))]) (by exact ⟨congrArg some hv334, trivial⟩) ?_
                      refine o_fa rfl ?_
                      exact s_pred fun _ _ _ hE hI => ⟨(.pointer (some ⟨bk332, of333, none⟩)), [], _, fun _ e => (by cases e; exact hE _ _ rfl), .refl _, by exact hI, ⟨bk332, of333, rfl, rfl, hp336⟩⟩
                    refine dcons ?_ ?_
                    · intro _ _ H339 fr340 hle341 hd342
                      obtain ⟨bk344, of345, hv346, hg347, hp348⟩ := hd342 3 (by decide)
                      refine ⟨_, some (), rfl, fun _ => ?_⟩
                      refine s_env (env' := [(32, .pointer (some ⟨bk344, of345, none⟩))]) (by exact ⟨congrArg some hv346, trivial⟩) ?_
                      refine o_ldH 0 hp348 rfl rfl rfl ?_
                      exact s_pred fun _ _ _ hE hI => ⟨(.int .i64 y70.Switch), [], _, fun _ e => (by cases e; exact hE _ _ rfl), .refl _, by exact hI, ⟨rfl, rfl⟩⟩
                    refine dcons ?_ ?_
                    · intro _ _ H351 fr352 hle353 hd354
                      have hA356 := All2.mono (fun _ _ => GoT.mono hle353) hA46
                      refine ⟨_, some (), rfl, fun _ => ?_⟩
                      refine s_env (env' := [(5, .slice (some ⟨bk78, 0, none⟩) s42.1.length c44)]) (by exact ⟨rfl, trivial⟩) ?_
                      refine o_mov rfl ?_
                      exact s_pred fun _ _ _ hE hI => ⟨(.slice (some ⟨bk78, 0, none⟩) s42.1.length c44), [], _, fun _ e => (by cases e; exact hE _ _ rfl), .refl _, by exact hI, ⟨rfl, rfl⟩⟩
                    refine dcons ?_ ?_
                    · intro _ _ H359 fr360 hle361 hd362
                      refine ⟨_, some (), rfl, fun _ => ?_⟩
                      refine s_env (env' := [(6, .int .i64 s22.2)]) (by exact ⟨rfl, trivial⟩) ?_
                      refine o_mov rfl ?_
                      exact s_pred fun _ _ _ hE hI => ⟨(.int .i64 s22.2), [], _, fun _ e => (by cases e; exact hE _ _ rfl), .refl _, by exact hI, ⟨rfl, rfl⟩⟩
                    refine dcons ?_ ?_
                    · intro _ _ H366 fr367 hle368 hd369
                      have hA371 := All2.mono (fun _ _ => GoT.mono hle368) hA46
                      obtain ⟨hv372, hg373⟩ := hd369 5 (by decide)
                      obtain ⟨hv374, hg375⟩ := hd369 6 (by decide)
                      refine ⟨_, (rd s42.1 s22.2).bind some, by rw [h83]; rfl, fun _ => ?_⟩
                      refine s_env (env' := [(34, .slice (some ⟨bk78, 0, none⟩) s42.1.length c44), (35, .int .i64 s22.2)]) (by exact ⟨congrArg some hv372, congrArg some hv374, trivial⟩) ?_
                      refine o_ixO 0 rfl hA371 rfl rfl fun y76 bk377 vs378 h376 ha379 hi380 hr381 => ?_
                      subst hr381
                      obtain rfl := s_bk ha379
                      obtain rfl := Option.some.inj (h83.symm.trans h376)
                      exact s_pred fun _ _ _ hE hI => ⟨(.pointer (some ⟨bk78, (s22.2 : Int).toNat * GoT.sz (Int), none⟩)), [], _, fun _ e => (by cases e; exact hE _ _ rfl), .refl _, by exact hI, ⟨rfl, rfl, hi380⟩⟩
                    refine dcons ?_ ?_
                    · intro _ _ H384 fr385 hle386 hd387
                      have hA389 := All2.mono (fun _ _ => GoT.mono hle386) hA46
                      obtain ⟨hv390, hg391, hp392⟩ := hd387 7 (by decide)
                      refine ⟨_, some (), rfl, fun _ => ?_⟩
                      refine s_env (env' := [(36, .pointer (some ⟨bk78, (s22.2 : Int).toNat * GoT.sz (Int), none⟩))]) (by exact ⟨congrArg some hv390, trivial⟩) ?_
                      refine o_ldO 0 0 rfl hp392 rfl rfl rfl ?_
                      exact s_pred fun _ _ _ hE hI => ⟨(.int .i64 y76), [], _, fun _ e => (by cases e; exact hE _ _ rfl), .refl _, by exact hI, ⟨rfl, rfl⟩⟩
                    refine dcons ?_ ?_
                    · intro _ _ H395 fr396 hle397 hd398
                      obtain ⟨hv400, hg401⟩ := hd398 4 (by decide)
                      obtain ⟨hv402, hg403⟩ := hd398 8 (by decide)
                      refine ⟨_, some (), rfl, fun _ => ?_⟩
                      refine s_env (env' := [(33, .int .i64 y70.Switch), (37, .int .i64 y76)]) (by exact ⟨congrArg some hv400, congrArg some hv402, trivial⟩) ?_
                      refine o_eq rfl rfl ?_
                      exact s_pred fun _ _ _ hE hI => ⟨(.bool (y70.Switch == y76)), [], _, fun _ e => (by cases e; exact hE _ _ rfl), .refl _, by exact hI, ⟨rfl, rfl⟩⟩
                    refine dcons ?_ ?_
                    · intro _ _ H406 fr407 hle408 hd409
                      obtain ⟨hv411, hg412⟩ := hd409 9 (by decide)
                      refine ⟨_, some (), rfl, fun _ => ?_⟩
                      refine s_env (env' := [(38, .bool (y70.Switch == y76))]) (by exact ⟨congrArg some hv411, trivial⟩) ?_
                      refine o_mov rfl ?_
                      exact s_pred fun _ _ _ hE hI => ⟨(.bool (y70.Switch == y76)), [], _, fun _ e => (by cases e; exact hE _ _ rfl), .refl _, by exact hI, ⟨rfl, rfl⟩⟩
                    refine dcons ?_ ?_
                    · intro _ _ H415 fr416 hle417 hd418
                      have hA420 := All2.mono (fun _ _ => GoT.mono hle417) hA46
                      obtain ⟨hv421, hg422⟩ := hd418 10 (by decide)
                      refine ⟨_, some (), rfl, fun _ => ?_⟩
                      refine s_env (env' := [(39, .bool (y70.Switch == y76)), (5, .slice (some ⟨bk78, 0, none⟩) s42.1.length c44)]) (by exact ⟨congrArg some hv421, rfl, trivial⟩) ?_
                      refine s_unwant rfl rfl h85 ?_
                      exact s_pred fun _ _ _ hE hI => ⟨undef, [], _, fun _ e => (by cases e; exact hE _ _ rfl), .refl _, by exact hI, ⟨rfl, rfl⟩⟩
                    refine dcons ?_ ?_
                    · intro _ _ H425 fr426 hle427 hd428
                      obtain ⟨hv430, hg431⟩ := hd428 10 (by decide)
                      refine ⟨_, some (), rfl, fun _ => ?_⟩
                      refine s_env (env' := [(39, .bool (y70.Switch == y76)), (7, .int .i64 s42.2)]) (by exact ⟨congrArg some hv430, rfl, trivial⟩) ?_
                      refine s_unwant rfl rfl h85 ?_
                      exact s_pred fun _ _ _ hE hI => ⟨undef, [], _, fun _ e => (by cases e; exact hE _ _ rfl), .refl _, by exact hI, ⟨rfl, rfl⟩⟩
                    refine dcons ?_ ?_
                    · intro _ _ H434 fr435 hle436 hd437
                      obtain ⟨hv439, hg440⟩ := hd437 10 (by decide)
                      obtain ⟨hv441, hg442⟩ := hd437 11 (by decide)
                      obtain ⟨hv443, hg444⟩ := hd437 12 (by decide)
                      refine ⟨_, some (), rfl, fun _ => ?_⟩
                      refine s_env (env' := [(39, .bool (y70.Switch == y76)), (40, undef), (41, undef)]) (by exact ⟨congrArg some hv439, congrArg some hv441, congrArg some hv443, trivial⟩) ?_
                      refine s_unwant rfl rfl h85 ?_
                      exact s_pred fun _ _ _ hE hI => ⟨undef, [], _, fun _ e => (by cases e; exact hE _ _ rfl), .refl _, by exact hI, ⟨rfl, rfl⟩⟩
                    refine dcons ?_ ?_
                    · intro _ _ H447 fr448 hle449 hd450
                      obtain ⟨hv452, hg453⟩ := hd450 10 (by decide)
                      obtain ⟨hv454, hg455⟩ := hd450 13 (by decide)
                      refine ⟨_, some (), rfl, fun _ => ?_⟩
                      refine s_env (env' := [(39, .bool (y70.Switch == y76)), (42, undef)]) (by exact ⟨congrArg some hv452, congrArg some hv454, trivial⟩) ?_
                      refine s_unwant rfl rfl h85 ?_
                      exact s_pred fun _ _ _ hE hI => ⟨undef, [], _, fun _ e => (by cases e; exact hE _ _ rfl), .refl _, by exact hI, ⟨rfl, rfl⟩⟩
                    refine dcons ?_ ?_
                    · intro _ _ H458 fr459 hle460 hd461
                      obtain ⟨hv463, hg464⟩ := hd461 10 (by decide)
                      obtain ⟨hv465, hg466⟩ := hd461 14 (by decide)
                      refine ⟨_, some (), rfl, fun _ => ?_⟩
                      refine s_env (env' := [(39, .bool (y70.Switch == y76)), (43, undef)]) (by exact ⟨congrArg some hv463, congrArg some hv465, trivial⟩) ?_
                      refine o_pickF rfl h85 rfl ?_
                      exact s_pred fun _ _ _ hE hI => ⟨(.bool false), [], _, fun _ e => (by cases e; exact hE _ _ rfl), .refl _, by exact hI, ⟨rfl, rfl⟩⟩
                    exact dnil
                  · intro V469 G470 H467 hle468 hF471
                    have hs472 := RSl.mono hle468 hs51
                    have hA473 := All2.mono (fun _ _ => GoT.mono hle468) hA46
                    obtain ⟨hv474, hg475⟩ := hF471 15 (show 15 < 16 by decide)
                    refine s_env (env' := [(44, .bool false), (0, .slice a0_0 x0.length c0_0), (5, .slice (some ⟨bk78, 0, none⟩) s42.1.length c44), (6, .int .i64 s22.2), (7, .int .i64 s42.2), (22, .int .i64 s42.2), (23, .slice a0_0 x0.length c0_0), (24, .int .i64 (x0.length : Int)), (25, .int .i64 (imin (x0.length : Int) 7)), (26, .bool (decide (s42.2 < (imin (x0.length : Int) 7))))]) (by exact ⟨congrArg some hv474, rfl, rfl, rfl, rfl, rfl, rfl, rfl, rfl, rfl, trivial⟩) ?_
                    refine s_own (List.sublist_append_left _ _) ?_
                    refine s_done ?_
                    exact s_env (by exact ⟨rfl, rfl, rfl, rfl, rfl, trivial⟩) (s_own (by exact (.cons_cons _ .slnil)) (J69 (s42.1, false) _ _ _ ⟨_, _, _, rfl, rfl, hle468, hA473⟩))
            · refine s_exit rfl ?_
              exact s_env (by exact ⟨rfl, rfl, rfl, trivial⟩) (s_own (by exact (.cons_cons _ .slnil)) (J41 s42.1 _ _ _ ⟨_, _, _, rfl, rfl, hle50, hA46⟩))
        · refine s_exit rfl ?_
          exact s_env (by exact ⟨rfl, trivial⟩) (s_own (by exact (.cons_cons _ .slnil)) (J21 s22.1 _ _ _ ⟨_, _, _, rfl, rfl, hle30, hA26⟩))
  · intro J476
    refine o_mov rfl ?_
    refine o_lt rfl rfl ?_
    refine o_mov rfl ?_
    refine s_case (decide (x1 < 1)) (fun h477 => ?_) (fun h477 => ?_)
    · refine s_unwant rfl rfl h477 ?_
      refine s_unwant rfl rfl h477 ?_
      refine o_pickT rfl h477 rfl ?_
      exact s_env (by exact ⟨rfl, rfl, lkb rfl (by first | simp only [h477, Bool.true_and, Bool.and_true, Bool.false_and, Bool.and_false, Bool.true_or, Bool.false_or, Bool.or_true, Bool.or_false, Bool.not_true, Bool.not_false] | simp [h477]), trivial⟩) (s_own (by exact .slnil) J476)
    · refine s_want rfl rfl h477 ?_
      refine o_mov rfl ?_
      refine s_want rfl rfl h477 ?_
      refine o_gt rfl rfl ?_
      refine o_pickF rfl h477 rfl ?_
      exact s_env (by exact ⟨rfl, rfl, lkb rfl (by first | simp only [h477, Bool.true_and, Bool.and_true, Bool.false_and, Bool.and_false, Bool.true_or, Bool.false_or, Bool.or_true, Bool.or_false, Bool.not_true, Bool.not_false] | simp [h477]), trivial⟩) (s_own (by exact .slnil) J476)
end Go.Cat.G3
