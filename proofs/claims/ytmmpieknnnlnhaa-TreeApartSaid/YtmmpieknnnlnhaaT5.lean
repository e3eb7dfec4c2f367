/- A text of the proof of the seat's laws: a step logic over the machine, or pure functions that the Go functions come to. No condition. -/
import Derived.Test.YtmmpieknnnlnhaaT2b

namespace Go.Cat.G3
open Go Go.Cat Go.Proofs
set_option linter.unusedVariables false
set_option linter.unusedSimpArgs false

instance inT5_25 : TFun Try.prog 25 := ⟨_, (by kernel_rfl : Try.prog.funcs[25]? = some Try.f25), by decide, rfl⟩

/-! catenary/catenarylaw20.made -/
def catenarylaw20_made_l0 (k : Nat) (x0 : (List Link)) : Nat → (List Link) × Int → Option ((List Link))
  | 0, _ => none
  | q12 + 1, s8 =>
    if (((decide (s8.2 < (x0.length : Int))) && decide (s8.2 < 30))) = true then
      (rd x0 s8.2).bind fun y18 =>
      (catenaryref00_Bring k y18.A.Switch 6).bind fun y24 =>
      (rd x0 s8.2).bind fun y27 =>
      (catenaryref00_Bring k y27.A.Port 4).bind fun y33 =>
      (catenarylaw20_at k (w64 (1 + y24)) (w64 (1 + y33))).bind fun y36 =>
      (rd x0 s8.2).bind fun y39 =>
      (catenaryref00_Bring k y39.B.Switch 6).bind fun y45 =>
      (rd x0 s8.2).bind fun y48 =>
      (catenaryref00_Bring k y48.B.Port 4).bind fun y54 =>
      (catenarylaw20_at k (w64 (1 + y45)) (w64 (1 + y54))).bind fun y57 =>
      (app ([] : List Link) s8.1).bind fun _ =>
      (app (([] : List Link) ++ s8.1) ([(⟨y36, y57⟩ : Link)] : List Link)).bind fun _ =>
      (graph_Check k (⟨6, ((([] : List Link) ++ s8.1) ++ ([(⟨y36, y57⟩ : Link)] : List Link))⟩ : Graph)).bind fun y617 =>
      if (y617 == 0) = true then
        catenarylaw20_made_l0 k x0 q12 (((([] : List Link) ++ s8.1) ++ ([(⟨y36, y57⟩ : Link)] : List Link)), w64 (s8.2 + 1))
      else
        catenarylaw20_made_l0 k x0 q12 (s8.1, w64 (s8.2 + 1))
    else
      some s8.1
def catenarylaw20_made (k : Nat) (x0 : (List Link)) : Option (List Link) :=
  (catenarylaw20_made_l0 k x0 k (([] : List Link), 0)).bind fun p1 =>
  some p1
theorem fn_46 : Try.prog.funcs[46]? = some Try.f46 := by kernel_rfl
set_option maxRecDepth 100000 in
set_option maxHeartbeats 4000000 in
theorem catenarylaw20_made_ok (k : Nat) (H : Heap) (x0 : (List Link)) (a0_0 : Option Addr) (c0_0 : Nat) (hx0_0 : RSl H a0_0 c0_0 x0) {r : (List Link)} (hr : catenarylaw20_made k x0 = some r) :
    Fn Try.prog 46 [.slice a0_0 x0.length c0_0] H [] fun H' v out => ∃ a0_0 c0_0, v = .slice a0_0 r.length c0_0 ∧ out = [] ∧ RSl H' a0_0 c0_0 r := by
  refine fn_of_sim (args := [.slice a0_0 x0.length c0_0]) (n := 64) (Φ := fun r H' v out => ∃ a0_0 c0_0, v = .slice a0_0 r.length c0_0 ∧ out = [] ∧ RSl H' a0_0 c0_0 r) hr fn_46 rfl rfl rfl fun w => ?_
  refine s_eq (by rw [catenarylaw20_made]) ?_
  refine s_seq ?_
  refine s_region ?_
  refine o_asg rfl ?_
  refine s_done ?_
  refine s_seq ?_
  refine s_region ?_
  refine o_asg rfl ?_
  refine s_done ?_
  refine s_seq ?_
  refine s_seq ?_
  refine s_region ?_
  refine o_asg rfl ?_
  refine s_done ?_
  refine s_join (fun p1 env own H' => ∃ a2 c3, env = [(3, .slice a2 p1.length c3)] ∧ own = [] ∧ Hle H H' ∧ RSl H' a2 c3 p1) ?_ ?_
  · rintro p1 _ _ H5 ⟨a2, c3, rfl, rfl, hle6, hs4⟩
    refine s_seq ?_
    refine s_region ?_
    refine o_mov rfl ?_
    refine o_asg rfl ?_
    refine s_done ?_
    exact s_retv (xs := [.tmp 2]) (vs := [.slice a2 p1.length c3]) [] fn_46 rfl ⟨rv_tmp rfl, trivial⟩ .slnil ⟨_, _, rfl, rfl, hs4⟩
  · intro J7
    refine s_block ?_
    refine s_env (env' := [(0, .slice a0_0 x0.length c0_0), (3, .slice none 0 0), (4, .int .i64 0)]) (by exact ⟨rfl, rfl, rfl, trivial⟩) ?_
    refine s_own (own' := []) .slnil ?_
    refine s_loopn (fun q s8 => catenarylaw20_made_l0 k x0 q s8) (fun s8 env own H' => ∃ a9 c10, env = [(0, .slice a0_0 x0.length c0_0), (3, .slice a9 s8.1.length c10), (4, .int .i64 s8.2)] ∧ own = [] ∧ Hle H H' ∧ RSl H' a9 c10 s8.1) (fun _ => rfl) ?_ k (([] : List Link), 0) ⟨_, _, rfl, rfl, .refl _, rsl_nil⟩
    rintro q12 ih13 s8 _ _ H14 ⟨a9, c10, rfl, rfl, hle15, hs11⟩
    refine s_eq (by rw [catenarylaw20_made_l0]) ?_
    have hs16 := RSl.mono hle15 hx0_0
    refine s_seq ?_
    refine s_seq ?_
    refine s_region ?_
    refine s_mid [(0, .slice a0_0 x0.length c0_0), (3, .slice a9 s8.1.length c10), (4, .int .i64 s8.2), (14, .bool ((decide (s8.2 < (x0.length : Int))) && decide (s8.2 < 30)))] [] ?_ ?_
    · refine s_cond rfl (fun h17 => ?_) (fun h17 => ?_)
      · refine s_skip ?_
        refine s_seq ?_
        refine s_block ?_
        refine s_seq ?_
        refine s_bg fun y18 h23 => ?_
        refine s_bg fun y24 h26 => ?_
        refine s_bg fun y27 h32 => ?_
        refine s_bg fun y33 h35 => ?_
        refine s_bg fun y36 h38 => ?_
        refine s_bg fun y39 h44 => ?_
        refine s_bg fun y45 h47 => ?_
        refine s_bg fun y48 h53 => ?_
        refine s_bg fun y54 h56 => ?_
        refine s_bg fun y57 h59 => ?_
        refine s_drawL [(fun H v g => v = Value.slice a0_0 x0.length c0_0 ∧ g = [] ∧ RSl H a0_0 c0_0 x0),
      (fun H v g => v = Value.int .i64 s8.2 ∧ g = []),
      (fun H v g => ∃ bk63 of64, v = Value.pointer (some ⟨bk63, of64, none⟩) ∧ g = [] ∧ CellsAt H bk63 of64 [.int .i64 y18.A.Switch, .int .i64 y18.A.Port, .int .i64 y18.B.Switch, .int .i64 y18.B.Port]),
      (fun H v g => ∃ bk63 of64, v = Value.pointer (some ⟨bk63, of64, none⟩) ∧ g = [] ∧ CellsAt H bk63 of64 [.int .i64 y18.A.Switch, .int .i64 y18.A.Port, .int .i64 y18.B.Switch, .int .i64 y18.B.Port]),
      (fun H v g => ∃ bk63 of64, v = Value.pointer (some ⟨bk63, of64, none⟩) ∧ g = [] ∧ CellsAt H bk63 of64 [.int .i64 y18.A.Switch, .int .i64 y18.A.Port, .int .i64 y18.B.Switch, .int .i64 y18.B.Port]),
      (fun H v g => v = Value.int .i64 y18.A.Switch ∧ g = []),
      (fun H v g => v = Value.int .i64 y24 ∧ g = []),
      (fun H v g => v = Value.int .i64 (w64 (1 + y24)) ∧ g = []),
      (fun H v g => v = Value.slice a0_0 x0.length c0_0 ∧ g = [] ∧ RSl H a0_0 c0_0 x0),
      (fun H v g => v = Value.int .i64 s8.2 ∧ g = []),
      (fun H v g => ∃ bk68 of69, v = Value.pointer (some ⟨bk68, of69, none⟩) ∧ g = [] ∧ CellsAt H bk68 of69 [.int .i64 y27.A.Switch, .int .i64 y27.A.Port, .int .i64 y27.B.Switch, .int .i64 y27.B.Port]),
      (fun H v g => ∃ bk68 of69, v = Value.pointer (some ⟨bk68, of69, none⟩) ∧ g = [] ∧ CellsAt H bk68 of69 [.int .i64 y27.A.Switch, .int .i64 y27.A.Port, .int .i64 y27.B.Switch, .int .i64 y27.B.Port]),
      (fun H v g => ∃ bk68 of69, v = Value.pointer (some ⟨bk68, of69 + 1, none⟩) ∧ g = [] ∧ CellsAt H bk68 of69 [.int .i64 y27.A.Switch, .int .i64 y27.A.Port, .int .i64 y27.B.Switch, .int .i64 y27.B.Port]),
      (fun H v g => v = Value.int .i64 y27.A.Port ∧ g = []),
      (fun H v g => v = Value.int .i64 y33 ∧ g = []),
      (fun H v g => v = Value.int .i64 (w64 (1 + y33)) ∧ g = []),
      (fun H v g => v = Value.agg #[.int .i64 y36.Switch, .int .i64 y36.Port] ∧ g = []),
      (fun H v g => v = Value.slice a0_0 x0.length c0_0 ∧ g = [] ∧ RSl H a0_0 c0_0 x0),
      (fun H v g => v = Value.int .i64 s8.2 ∧ g = []),
      (fun H v g => ∃ bk74 of75, v = Value.pointer (some ⟨bk74, of75, none⟩) ∧ g = [] ∧ CellsAt H bk74 of75 [.int .i64 y39.A.Switch, .int .i64 y39.A.Port, .int .i64 y39.B.Switch, .int .i64 y39.B.Port]),
      (fun H v g => ∃ bk74 of75, v = Value.pointer (some ⟨bk74, of75 + 2, none⟩) ∧ g = [] ∧ CellsAt H bk74 of75 [.int .i64 y39.A.Switch, .int .i64 y39.A.Port, .int .i64 y39.B.Switch, .int .i64 y39.B.Port]),
      (fun H v g => ∃ bk74 of75, v = Value.pointer (some ⟨bk74, of75 + 2, none⟩) ∧ g = [] ∧ CellsAt H bk74 of75 [.int .i64 y39.A.Switch, .int .i64 y39.A.Port, .int .i64 y39.B.Switch, .int .i64 y39.B.Port]),
      (fun H v g => v = Value.int .i64 y39.B.Switch ∧ g = []),
      (fun H v g => v = Value.int .i64 y45 ∧ g = []),
      (fun H v g => v = Value.int .i64 (w64 (1 + y45)) ∧ g = []),
      (fun H v g => v = Value.slice a0_0 x0.length c0_0 ∧ g = [] ∧ RSl H a0_0 c0_0 x0),
      (fun H v g => v = Value.int .i64 s8.2 ∧ g = []),
      (fun H v g => ∃ bk79 of80, v = Value.pointer (some ⟨bk79, of80, none⟩) ∧ g = [] ∧ CellsAt H bk79 of80 [.int .i64 y48.A.Switch, .int .i64 y48.A.Port, .int .i64 y48.B.Switch, .int .i64 y48.B.Port]),
      (fun H v g => ∃ bk79 of80, v = Value.pointer (some ⟨bk79, of80 + 2, none⟩) ∧ g = [] ∧ CellsAt H bk79 of80 [.int .i64 y48.A.Switch, .int .i64 y48.A.Port, .int .i64 y48.B.Switch, .int .i64 y48.B.Port]),
      (fun H v g => ∃ bk79 of80, v = Value.pointer (some ⟨bk79, of80 + 3, none⟩) ∧ g = [] ∧ CellsAt H bk79 of80 [.int .i64 y48.A.Switch, .int .i64 y48.A.Port, .int .i64 y48.B.Switch, .int .i64 y48.B.Port]),
      (fun H v g => v = Value.int .i64 y48.B.Port ∧ g = []),
      (fun H v g => v = Value.int .i64 y54 ∧ g = []),
      (fun H v g => v = Value.int .i64 (w64 (1 + y54)) ∧ g = []),
      (fun H v g => v = Value.agg #[.int .i64 y57.Switch, .int .i64 y57.Port] ∧ g = []),
      (fun H v g => v = Value.agg #[.int .i64 y36.Switch, .int .i64 y36.Port, .int .i64 y57.Switch, .int .i64 y57.Port] ∧ g = []),
      (fun H v g => ∃ b84, v = Value.pointer (some ⟨b84, 0, none⟩) ∧ g = [.blk b84 (rowObj [.int .i64 0, .int .i64 0, .int .i64 0, .int .i64 0] 40)])] [[], [], [], [], [], [], [], [], [], [], [], [], [], [], [], [], [], [], [], [], [], [], [], [], [], [], [], [], [], [], [], [], [], [], [], []] mixed ⟨fun _ _ _ _ hle ⟨e1, e2, h0_⟩ => ⟨e1, e2, RSl.mono hle h0_⟩, m0, fun _ _ _ _ hle ⟨bk63, of64, e1, e2, h0_⟩ => ⟨_, _, e1, e2, CellsAt.mono hle h0_⟩, fun _ _ _ _ hle ⟨bk63, of64, e1, e2, h0_⟩ => ⟨_, _, e1, e2, CellsAt.mono hle h0_⟩, fun _ _ _ _ hle ⟨bk63, of64, e1, e2, h0_⟩ => ⟨_, _, e1, e2, CellsAt.mono hle h0_⟩, m0, m0, m0, fun _ _ _ _ hle ⟨e1, e2, h0_⟩ => ⟨e1, e2, RSl.mono hle h0_⟩, m0, fun _ _ _ _ hle ⟨bk68, of69, e1, e2, h0_⟩ => ⟨_, _, e1, e2, CellsAt.mono hle h0_⟩, fun _ _ _ _ hle ⟨bk68, of69, e1, e2, h0_⟩ => ⟨_, _, e1, e2, CellsAt.mono hle h0_⟩, fun _ _ _ _ hle ⟨bk68, of69, e1, e2, h0_⟩ => ⟨_, _, e1, e2, CellsAt.mono hle h0_⟩, m0, m0, m0, m0, fun _ _ _ _ hle ⟨e1, e2, h0_⟩ => ⟨e1, e2, RSl.mono hle h0_⟩, m0, fun _ _ _ _ hle ⟨bk74, of75, e1, e2, h0_⟩ => ⟨_, _, e1, e2, CellsAt.mono hle h0_⟩, fun _ _ _ _ hle ⟨bk74, of75, e1, e2, h0_⟩ => ⟨_, _, e1, e2, CellsAt.mono hle h0_⟩, fun _ _ _ _ hle ⟨bk74, of75, e1, e2, h0_⟩ => ⟨_, _, e1, e2, CellsAt.mono hle h0_⟩, m0, m0, m0, fun _ _ _ _ hle ⟨e1, e2, h0_⟩ => ⟨e1, e2, RSl.mono hle h0_⟩, m0, fun _ _ _ _ hle ⟨bk79, of80, e1, e2, h0_⟩ => ⟨_, _, e1, e2, CellsAt.mono hle h0_⟩, fun _ _ _ _ hle ⟨bk79, of80, e1, e2, h0_⟩ => ⟨_, _, e1, e2, CellsAt.mono hle h0_⟩, fun _ _ _ _ hle ⟨bk79, of80, e1, e2, h0_⟩ => ⟨_, _, e1, e2, CellsAt.mono hle h0_⟩, m0, m0, m0, m0, m0, m0, trivial⟩ (by kernel_rfl) (by kernel_rfl) rfl (by kernel_rfl) rfl rfl ?_ ?_
        · refine dcons ?_ ?_
          · intro _ _ H88 fr89 hle90 hd91
            have hs93 := RSl.mono hle90 hs16
            refine ⟨_, some (), rfl, fun _ => ?_⟩
            refine s_env (env' := [(0, .slice a0_0 x0.length c0_0)]) (by exact ⟨rfl, trivial⟩) ?_
            refine o_mov rfl ?_
            exact s_pred fun _ _ _ hE hI => ⟨(.slice a0_0 x0.length c0_0), [], _, fun _ e => (by cases e; exact hE _ _ rfl), .refl _, by exact hI, ⟨rfl, rfl, hs93⟩⟩
          refine dcons ?_ ?_
          · intro _ _ H96 fr97 hle98 hd99
            refine ⟨_, some (), rfl, fun _ => ?_⟩
            refine s_env (env' := [(4, .int .i64 s8.2)]) (by exact ⟨rfl, trivial⟩) ?_
            refine o_mov rfl ?_
            exact s_pred fun _ _ _ hE hI => ⟨(.int .i64 s8.2), [], _, fun _ e => (by cases e; exact hE _ _ rfl), .refl _, by exact hI, ⟨rfl, rfl⟩⟩
          refine dcons ?_ ?_
          · intro _ _ H103 fr104 hle105 hd106
            obtain ⟨hv108, hg109, hp110⟩ := hd106 0 (by decide)
            obtain ⟨hv111, hg112⟩ := hd106 1 (by decide)
            refine ⟨_, (rd x0 s8.2).bind some, by rw [h23]; rfl, fun _ => ?_⟩
            refine s_env (env' := [(17, .slice a0_0 x0.length c0_0), (18, .int .i64 s8.2)]) (by exact ⟨congrArg some hv108, congrArg some hv111, trivial⟩) ?_
            refine o_ixf hp110 rfl rfl fun y18 bk114 of115 h113 hc116 => ?_
            obtain rfl := Option.some.inj (h23.symm.trans h113)
            exact s_pred fun _ _ _ hE hI => ⟨(.pointer (some ⟨bk114, of115, none⟩)), [], _, fun _ e => (by cases e; exact hE _ _ rfl), .refl _, by exact hI, ⟨bk114, of115, rfl, rfl, hc116⟩⟩
          refine dcons ?_ ?_
          · intro _ _ H119 fr120 hle121 hd122
            obtain ⟨bk124, of125, hv126, hg127, hp128⟩ := hd122 2 (by decide)
            refine ⟨_, some (), rfl, fun _ => ?_⟩
            refine s_env (env' := [(19, .pointer (some ⟨bk124, of125, none⟩))]) (by exact ⟨congrArg some hv126, trivial⟩) ?_
            refine o_fa rfl ?_
            exact s_pred fun _ _ _ hE hI => ⟨(.pointer (some ⟨bk124, of125, none⟩)), [], _, fun _ e => (by cases e; exact hE _ _ rfl), .refl _, by exact hI, ⟨bk124, of125, rfl, rfl, hp128⟩⟩
          refine dcons ?_ ?_
          · intro _ _ H131 fr132 hle133 hd134
            obtain ⟨bk136, of137, hv138, hg139, hp140⟩ := hd134 3 (by decide)
            refine ⟨_, some (), rfl, fun _ => ?_⟩
            refine s_env (env' := [(20, .pointer (some ⟨bk136, of137, none⟩))]) (by exact ⟨congrArg some hv138, trivial⟩) ?_
            refine o_fa rfl ?_
            exact s_pred fun _ _ _ hE hI => ⟨(.pointer (some ⟨bk136, of137, none⟩)), [], _, fun _ e => (by cases e; exact hE _ _ rfl), .refl _, by exact hI, ⟨bk136, of137, rfl, rfl, hp140⟩⟩
          refine dcons ?_ ?_
          · intro _ _ H143 fr144 hle145 hd146
            obtain ⟨bk148, of149, hv150, hg151, hp152⟩ := hd146 4 (by decide)
            refine ⟨_, some (), rfl, fun _ => ?_⟩
            refine s_env (env' := [(21, .pointer (some ⟨bk148, of149, none⟩))]) (by exact ⟨congrArg some hv150, trivial⟩) ?_
            refine o_ldH 0 hp152 rfl rfl rfl ?_
            exact s_pred fun _ _ _ hE hI => ⟨(.int .i64 y18.A.Switch), [], _, fun _ e => (by cases e; exact hE _ _ rfl), .refl _, by exact hI, ⟨rfl, rfl⟩⟩
          refine dcons ?_ ?_
          · intro _ _ H155 fr156 hle157 hd158
            obtain ⟨hv160, hg161⟩ := hd158 5 (by decide)
            refine ⟨_, (catenaryref00_Bring k y18.A.Switch 6).bind some, by rw [h26]; rfl, fun _ => ?_⟩
            refine s_env (env' := [(22, .int .i64 y18.A.Switch)]) (by exact ⟨congrArg some hv160, trivial⟩) ?_
            refine s_bg fun y24 h162 => ?_
            refine s_callF rfl rfl (catenaryref00_Bring_ok k _ y18.A.Switch 6 h162) ?_
            obtain rfl := Option.some.inj (h26.symm.trans h162)
            exact s_pred fun _ _ _ hE hI => ⟨(.int .i64 y24), [], _, fun _ e => (by cases e; exact hE _ _ rfl), .refl _, by exact hI, ⟨rfl, rfl⟩⟩
          refine dcons ?_ ?_
          · intro _ _ H165 fr166 hle167 hd168
            obtain ⟨hv170, hg171⟩ := hd168 6 (by decide)
            refine ⟨_, some (), rfl, fun _ => ?_⟩
            refine s_env (env' := [(23, .int .i64 y24)]) (by exact ⟨congrArg some hv170, trivial⟩) ?_
            refine o_add rfl rfl ?_
            exact s_pred fun _ _ _ hE hI => ⟨(.int .i64 (w64 (1 + y24))), [], _, fun _ e => (by cases e; exact hE _ _ rfl), .refl _, by exact hI, ⟨rfl, rfl⟩⟩
          refine dcons ?_ ?_
          · intro _ _ H174 fr175 hle176 hd177
            have hs179 := RSl.mono hle176 hs16
            refine ⟨_, some (), rfl, fun _ => ?_⟩
            refine s_env (env' := [(0, .slice a0_0 x0.length c0_0)]) (by exact ⟨rfl, trivial⟩) ?_
            refine o_mov rfl ?_
            exact s_pred fun _ _ _ hE hI => ⟨(.slice a0_0 x0.length c0_0), [], _, fun _ e => (by cases e; exact hE _ _ rfl), .refl _, by exact hI, ⟨rfl, rfl, hs179⟩⟩
          refine dcons ?_ ?_
          · intro _ _ H182 fr183 hle184 hd185
            refine ⟨_, some (), rfl, fun _ => ?_⟩
            refine s_env (env' := [(4, .int .i64 s8.2)]) (by exact ⟨rfl, trivial⟩) ?_
            refine o_mov rfl ?_
            exact s_pred fun _ _ _ hE hI => ⟨(.int .i64 s8.2), [], _, fun _ e => (by cases e; exact hE _ _ rfl), .refl _, by exact hI, ⟨rfl, rfl⟩⟩
          refine dcons ?_ ?_
          · intro _ _ H189 fr190 hle191 hd192
            obtain ⟨hv194, hg195, hp196⟩ := hd192 8 (by decide)
            obtain ⟨hv197, hg198⟩ := hd192 9 (by decide)
            refine ⟨_, (rd x0 s8.2).bind some, by rw [h32]; rfl, fun _ => ?_⟩
            refine s_env (env' := [(25, .slice a0_0 x0.length c0_0), (26, .int .i64 s8.2)]) (by exact ⟨congrArg some hv194, congrArg some hv197, trivial⟩) ?_
            refine o_ixf hp196 rfl rfl fun y27 bk200 of201 h199 hc202 => ?_
            obtain rfl := Option.some.inj (h32.symm.trans h199)
            exact s_pred fun _ _ _ hE hI => ⟨(.pointer (some ⟨bk200, of201, none⟩)), [], _, fun _ e => (by cases e; exact hE _ _ rfl), .refl _, by exact hI, ⟨bk200, of201, rfl, rfl, hc202⟩⟩
          refine dcons ?_ ?_
          · intro _ _ H205 fr206 hle207 hd208
            obtain ⟨bk210, of211, hv212, hg213, hp214⟩ := hd208 10 (by decide)
            refine ⟨_, some (), rfl, fun _ => ?_⟩
            refine s_env (env' := [(27, .pointer (some ⟨bk210, of211, none⟩))]) (by exact ⟨congrArg some hv212, trivial⟩) ?_
            refine o_fa rfl ?_
            exact s_pred fun _ _ _ hE hI => ⟨(.pointer (some ⟨bk210, of211, none⟩)), [], _, fun _ e => (by cases e; exact hE _ _ rfl), .refl _, by exact hI, ⟨bk210, of211, rfl, rfl, hp214⟩⟩
          refine dcons ?_ ?_
          · intro _ _ H217 fr218 hle219 hd220
            obtain ⟨bk222, of223, hv224, hg225, hp226⟩ := hd220 11 (by decide)
            refine ⟨_, some (), rfl, fun _ => ?_⟩
            refine s_env (env' := [(28, .pointer (some ⟨bk222, of223, none⟩))]) (by exact ⟨congrArg some hv224, trivial⟩) ?_
            refine o_fa rfl ?_
            exact s_pred fun _ _ _ hE hI => ⟨(.pointer (some ⟨bk222, of223 + 1, none⟩)), [], _, fun _ e => (by cases e; exact hE _ _ rfl), .refl _, by exact hI, ⟨bk222, of223, rfl, rfl, hp226⟩⟩
          refine dcons ?_ ?_
          · intro _ _ H229 fr230 hle231 hd232
            obtain ⟨bk234, of235, hv236, hg237, hp238⟩ := hd232 12 (by decide)
            refine ⟨_, some (), rfl, fun _ => ?_⟩
            refine s_env (env' := [(29, .pointer (some ⟨bk234, of235 + 1, none⟩))]) (by exact ⟨congrArg some hv236, trivial⟩) ?_
            refine o_ldH 1 hp238 rfl rfl rfl ?_
            exact s_pred fun _ _ _ hE hI => ⟨(.int .i64 y27.A.Port), [], _, fun _ e => (by cases e; exact hE _ _ rfl), .refl _, by exact hI, ⟨rfl, rfl⟩⟩
          refine dcons ?_ ?_
          · intro _ _ H241 fr242 hle243 hd244
            obtain ⟨hv246, hg247⟩ := hd244 13 (by decide)
            refine ⟨_, (catenaryref00_Bring k y27.A.Port 4).bind some, by rw [h35]; rfl, fun _ => ?_⟩
            refine s_env (env' := [(30, .int .i64 y27.A.Port)]) (by exact ⟨congrArg some hv246, trivial⟩) ?_
            refine s_bg fun y33 h248 => ?_
            refine s_callF rfl rfl (catenaryref00_Bring_ok k _ y27.A.Port 4 h248) ?_
            obtain rfl := Option.some.inj (h35.symm.trans h248)
            exact s_pred fun _ _ _ hE hI => ⟨(.int .i64 y33), [], _, fun _ e => (by cases e; exact hE _ _ rfl), .refl _, by exact hI, ⟨rfl, rfl⟩⟩
          refine dcons ?_ ?_
          · intro _ _ H251 fr252 hle253 hd254
            obtain ⟨hv256, hg257⟩ := hd254 14 (by decide)
            refine ⟨_, some (), rfl, fun _ => ?_⟩
            refine s_env (env' := [(31, .int .i64 y33)]) (by exact ⟨congrArg some hv256, trivial⟩) ?_
            refine o_add rfl rfl ?_
            exact s_pred fun _ _ _ hE hI => ⟨(.int .i64 (w64 (1 + y33))), [], _, fun _ e => (by cases e; exact hE _ _ rfl), .refl _, by exact hI, ⟨rfl, rfl⟩⟩
          refine dcons ?_ ?_
          · intro _ _ H260 fr261 hle262 hd263
            obtain ⟨hv265, hg266⟩ := hd263 7 (by decide)
            obtain ⟨hv267, hg268⟩ := hd263 15 (by decide)
            refine ⟨_, (catenarylaw20_at k (w64 (1 + y24)) (w64 (1 + y33))).bind some, by rw [h38]; rfl, fun _ => ?_⟩
            refine s_env (env' := [(24, .int .i64 (w64 (1 + y24))), (32, .int .i64 (w64 (1 + y33)))]) (by exact ⟨congrArg some hv265, congrArg some hv267, trivial⟩) ?_
            refine s_bg fun y36 h269 => ?_
            refine s_callF rfl rfl (catenarylaw20_at_ok k _ (w64 (1 + y24)) (w64 (1 + y33)) h269) ?_
            obtain rfl := Option.some.inj (h38.symm.trans h269)
            exact s_pred fun _ _ _ hE hI => ⟨(.agg #[.int .i64 y36.Switch, .int .i64 y36.Port]), [], _, fun _ e => (by cases e; exact hE _ _ rfl), .refl _, by exact hI, ⟨rfl, rfl⟩⟩
          refine dcons ?_ ?_
          · intro _ _ H272 fr273 hle274 hd275
            have hs277 := RSl.mono hle274 hs16
            refine ⟨_, some (), rfl, fun _ => ?_⟩
            refine s_env (env' := [(0, .slice a0_0 x0.length c0_0)]) (by exact ⟨rfl, trivial⟩) ?_
            refine o_mov rfl ?_
            exact s_pred fun _ _ _ hE hI => ⟨(.slice a0_0 x0.length c0_0), [], _, fun _ e => (by cases e; exact hE _ _ rfl), .refl _, by exact hI, ⟨rfl, rfl, hs277⟩⟩
          refine dcons ?_ ?_
          · intro _ _ H280 fr281 hle282 hd283
            refine ⟨_, some (), rfl, fun _ => ?_⟩
            refine s_env (env' := [(4, .int .i64 s8.2)]) (by exact ⟨rfl, trivial⟩) ?_
            refine o_mov rfl ?_
            exact s_pred fun _ _ _ hE hI => ⟨(.int .i64 s8.2), [], _, fun _ e => (by cases e; exact hE _ _ rfl), .refl _, by exact hI, ⟨rfl, rfl⟩⟩
          refine dcons ?_ ?_
          · intro _ _ H287 fr288 hle289 hd290
            obtain ⟨hv292, hg293, hp294⟩ := hd290 17 (by decide)
            obtain ⟨hv295, hg296⟩ := hd290 18 (by decide)
            refine ⟨_, (rd x0 s8.2).bind some, by rw [h44]; rfl, fun _ => ?_⟩
            refine s_env (env' := [(34, .slice a0_0 x0.length c0_0), (35, .int .i64 s8.2)]) (by exact ⟨congrArg some hv292, congrArg some hv295, trivial⟩) ?_
            refine o_ixf hp294 rfl rfl fun y39 bk298 of299 h297 hc300 => ?_
            obtain rfl := Option.some.inj (h44.symm.trans h297)
            exact s_pred fun _ _ _ hE hI => ⟨(.pointer (some ⟨bk298, of299, none⟩)), [], _, fun _ e => (by cases e; exact hE _ _ rfl), .refl _, by exact hI, ⟨bk298, of299, rfl, rfl, hc300⟩⟩
          refine dcons ?_ ?_
          · intro _ _ H303 fr304 hle305 hd306
            obtain ⟨bk308, of309, hv310, hg311, hp312⟩ := hd306 19 (by decide)
            refine ⟨_, some (), rfl, fun _ => ?_⟩
            refine s_env (env' := [(36, .pointer (some ⟨bk308, of309, none⟩))]) (by exact ⟨congrArg some hv310, trivial⟩) ?_
            refine o_fa rfl ?_
            exact s_pred fun _ _ _ hE hI => ⟨(.pointer (some ⟨bk308, of309 + 2, none⟩)), [], _, fun _ e => (by cases e; exact hE _ _ rfl), .refl _, by exact hI, ⟨bk308, of309, rfl, rfl, hp312⟩⟩
          refine dcons ?_ ?_
          · intro _ _ H315 fr316 hle317 hd318
            obtain ⟨bk320, of321, hv322, hg323, hp324⟩ := hd318 20 (by decide)
            refine ⟨_, some (), rfl, fun _ => ?_⟩
            refine s_env (env' := [(37, .pointer (some ⟨bk320, of321 + 2, none⟩))]) (by exact ⟨congrArg some hv322, trivial⟩) ?_
            refine o_fa rfl ?_
            exact s_pred fun _ _ _ hE hI => ⟨(.pointer (some ⟨bk320, of321 + 2, none⟩)), [], _, fun _ e => (by cases e; exact hE _ _ rfl), .refl _, by exact hI, ⟨bk320, of321, rfl, rfl, hp324⟩⟩
          refine dcons ?_ ?_
          · intro _ _ H327 fr328 hle329 hd330
            obtain ⟨bk332, of333, hv334, hg335, hp336⟩ := hd330 21 (by decide)
            refine ⟨_, some (), rfl, fun _ => ?_⟩
            refine s_env (env' := [(38, .pointer (some ⟨bk332, of333 + 2, none⟩))]) (by exact ⟨congrArg some hv334, trivial⟩) ?_
            refine o_ldH 2 hp336 rfl rfl rfl ?_
            exact s_pred fun _ _ _ hE hI => ⟨(.int .i64 y39.B.Switch), [], _, fun _ e => (by cases e; exact hE _ _ rfl), .refl _, by exact hI, ⟨rfl, rfl⟩⟩
          refine dcons ?_ ?_
          · intro _ _ H339 fr340 hle341 hd342
            obtain ⟨hv344, hg345⟩ := hd342 22 (by decide)
            refine ⟨_, (catenaryref00_Bring k y39.B.Switch 6).bind some, by rw [h47]; rfl, fun _ => ?_⟩
            refine s_env (env' := [(39, .int .i64 y39.B.Switch)]) (by exact ⟨congrArg some hv344, trivial⟩) ?_
            refine s_bg fun y45 h346 => ?_
            refine s_callF rfl rfl (catenaryref00_Bring_ok k _ y39.B.Switch 6 h346) ?_
            obtain rfl := Option.some.inj (h47.symm.trans h346)
            exact s_pred fun _ _ _ hE hI => ⟨(.int .i64 y45), [], _, fun _ e => (by cases e; exact hE _ _ rfl), .refl _, by exact hI, ⟨rfl, rfl⟩⟩
          refine dcons ?_ ?_
          · intro _ _ H349 fr350 hle351 hd352
            obtain ⟨hv354, hg355⟩ := hd352 23 (by decide)
            refine ⟨_, some (), rfl, fun _ => ?_⟩
            refine s_env (env' := [(40, .int .i64 y45)]) (by exact ⟨congrArg some hv354, trivial⟩) ?_
            refine o_add rfl rfl ?_
            exact s_pred fun _ _ _ hE hI => ⟨(.int .i64 (w64 (1 + y45))), [], _, fun _ e => (by cases e; exact hE _ _ rfl), .refl _, by exact hI, ⟨rfl, rfl⟩⟩
          refine dcons ?_ ?_
          · intro _ _ H358 fr359 hle360 hd361
            have hs363 := RSl.mono hle360 hs16
            refine ⟨_, some (), rfl, fun _ => ?_⟩
            refine s_env (env' := [(0, .slice a0_0 x0.length c0_0)]) (by exact ⟨rfl, trivial⟩) ?_
            refine o_mov rfl ?_
            exact s_pred fun _ _ _ hE hI => ⟨(.slice a0_0 x0.length c0_0), [], _, fun _ e => (by cases e; exact hE _ _ rfl), .refl _, by exact hI, ⟨rfl, rfl, hs363⟩⟩
          refine dcons ?_ ?_
          · intro _ _ H366 fr367 hle368 hd369
            refine ⟨_, some (), rfl, fun _ => ?_⟩
            refine s_env (env' := [(4, .int .i64 s8.2)]) (by exact ⟨rfl, trivial⟩) ?_
            refine o_mov rfl ?_
            exact s_pred fun _ _ _ hE hI => ⟨(.int .i64 s8.2), [], _, fun _ e => (by cases e; exact hE _ _ rfl), .refl _, by exact hI, ⟨rfl, rfl⟩⟩
          refine dcons ?_ ?_
          · intro _ _ H373 fr374 hle375 hd376
            obtain ⟨hv378, hg379, hp380⟩ := hd376 25 (by decide)
            obtain ⟨hv381, hg382⟩ := hd376 26 (by decide)
            refine ⟨_, (rd x0 s8.2).bind some, by rw [h53]; rfl, fun _ => ?_⟩
            refine s_env (env' := [(42, .slice a0_0 x0.length c0_0), (43, .int .i64 s8.2)]) (by exact ⟨congrArg some hv378, congrArg some hv381, trivial⟩) ?_
            refine o_ixf hp380 rfl rfl fun y48 bk384 of385 h383 hc386 => ?_
            obtain rfl := Option.some.inj (h53.symm.trans h383)
            exact s_pred fun _ _ _ hE hI => ⟨(.pointer (some ⟨bk384, of385, none⟩)), [], _, fun _ e => (by cases e; exact hE _ _ rfl), .refl _, by exact hI, ⟨bk384, of385, rfl, rfl, hc386⟩⟩
          refine dcons ?_ ?_
          · intro _ _ H389 fr390 hle391 hd392
            obtain ⟨bk394, of395, hv396, hg397, hp398⟩ := hd392 27 (by decide)
            refine ⟨_, some (), rfl, fun _ => ?_⟩
            refine s_env (env' := [(44, .pointer (some ⟨bk394, of395, none⟩))]) (by exact ⟨congrArg some hv396, trivial⟩) ?_
            refine o_fa rfl ?_
            exact s_pred fun _ _ _ hE hI => ⟨(.pointer (some ⟨bk394, of395 + 2, none⟩)), [], _, fun _ e => (by cases e; exact hE _ _ rfl), .refl _, by exact hI, ⟨bk394, of395, rfl, rfl, hp398⟩⟩
          refine dcons ?_ ?_
          · intro _ _ H401 fr402 hle403 hd404
            obtain ⟨bk406, of407, hv408, hg409, hp410⟩ := hd404 28 (by decide)
            refine ⟨_, some (), rfl, fun _ => ?_⟩
            refine s_env (env' := [(45, .pointer (some ⟨bk406, of407 + 2, none⟩))]) (by exact ⟨congrArg some hv408, trivial⟩) ?_
            refine o_fa rfl ?_
            exact s_pred fun _ _ _ hE hI => ⟨(.pointer (some ⟨bk406, of407 + 3, none⟩)), [], _, fun _ e => (by cases e; exact hE _ _ rfl), .refl _, by exact hI, ⟨bk406, of407, rfl, rfl, hp410⟩⟩
          refine dcons ?_ ?_
          · intro _ _ H413 fr414 hle415 hd416
            obtain ⟨bk418, of419, hv420, hg421, hp422⟩ := hd416 29 (by decide)
            refine ⟨_, some (), rfl, fun _ => ?_⟩
            refine s_env (env' := [(46, .pointer (some ⟨bk418, of419 + 3, none⟩))]) (by exact ⟨congrArg some hv420, trivial⟩) ?_
            refine o_ldH 3 hp422 rfl rfl rfl ?_
            exact s_pred fun _ _ _ hE hI => ⟨(.int .i64 y48.B.Port), [], _, fun _ e => (by cases e; exact hE _ _ rfl), .refl _, by exact hI, ⟨rfl, rfl⟩⟩
          refine dcons ?_ ?_
          · intro _ _ H425 fr426 hle427 hd428
            obtain ⟨hv430, hg431⟩ := hd428 30 (by decide)
            refine ⟨_, (catenaryref00_Bring k y48.B.Port 4).bind some, by rw [h56]; rfl, fun _ => ?_⟩
            refine s_env (env' := [(47, .int .i64 y48.B.Port)]) (by exact ⟨congrArg some hv430, trivial⟩) ?_
            refine s_bg fun y54 h432 => ?_
            refine s_callF rfl rfl (catenaryref00_Bring_ok k _ y48.B.Port 4 h432) ?_
            obtain rfl := Option.some.inj (h56.symm.trans h432)
            exact s_pred fun _ _ _ hE hI => ⟨(.int .i64 y54), [], _, fun _ e => (by cases e; exact hE _ _ rfl), .refl _, by exact hI, ⟨rfl, rfl⟩⟩
          refine dcons ?_ ?_
          · intro _ _ H435 fr436 hle437 hd438
            obtain ⟨hv440, hg441⟩ := hd438 31 (by decide)
            refine ⟨_, some (), rfl, fun _ => ?_⟩
            refine s_env (env' := [(48, .int .i64 y54)]) (by exact ⟨congrArg some hv440, trivial⟩) ?_
            refine o_add rfl rfl ?_
            exact s_pred fun _ _ _ hE hI => ⟨(.int .i64 (w64 (1 + y54))), [], _, fun _ e => (by cases e; exact hE _ _ rfl), .refl _, by exact hI, ⟨rfl, rfl⟩⟩
          refine dcons ?_ ?_
          · intro _ _ H444 fr445 hle446 hd447
            obtain ⟨hv449, hg450⟩ := hd447 24 (by decide)
            obtain ⟨hv451, hg452⟩ := hd447 32 (by decide)
            refine ⟨_, (catenarylaw20_at k (w64 (1 + y45)) (w64 (1 + y54))).bind some, by rw [h59]; rfl, fun _ => ?_⟩
            refine s_env (env' := [(41, .int .i64 (w64 (1 + y45))), (49, .int .i64 (w64 (1 + y54)))]) (by exact ⟨congrArg some hv449, congrArg some hv451, trivial⟩) ?_
            refine s_bg fun y57 h453 => ?_
            refine s_callF rfl rfl (catenarylaw20_at_ok k _ (w64 (1 + y45)) (w64 (1 + y54)) h453) ?_
            obtain rfl := Option.some.inj (h59.symm.trans h453)
            exact s_pred fun _ _ _ hE hI => ⟨(.agg #[.int .i64 y57.Switch, .int .i64 y57.Port]), [], _, fun _ e => (by cases e; exact hE _ _ rfl), .refl _, by exact hI, ⟨rfl, rfl⟩⟩
          refine dcons ?_ ?_
          · intro _ _ H456 fr457 hle458 hd459
            obtain ⟨hv461, hg462⟩ := hd459 16 (by decide)
            obtain ⟨hv463, hg464⟩ := hd459 33 (by decide)
            refine ⟨_, some (), rfl, fun _ => ?_⟩
            refine s_env (env' := [(33, .agg #[.int .i64 y36.Switch, .int .i64 y36.Port]), (50, .agg #[.int .i64 y57.Switch, .int .i64 y57.Port])]) (by exact ⟨congrArg some hv461, congrArg some hv463, trivial⟩) ?_
            refine o_bld rfl rfl ?_
            exact s_pred fun _ _ _ hE hI => ⟨(.agg #[.int .i64 y36.Switch, .int .i64 y36.Port, .int .i64 y57.Switch, .int .i64 y57.Port]), [], _, fun _ e => (by cases e; exact hE _ _ rfl), .refl _, by exact hI, ⟨rfl, rfl⟩⟩
          refine dcons ?_ ?_
          · intro _ _ H467 fr468 hle469 hd470
            refine ⟨_, some (), rfl, fun _ => ?_⟩
            refine s_env (env' := []) (by exact trivial) ?_
            refine o_alloc fun b472 => ?_
            refine s_perm (own' := [.blk b472 (rowObj [.int .i64 0, .int .i64 0, .int .i64 0, .int .i64 0] 40)] ++ fr468) (pm3 (a := []) (xs := [.blk b472 (rowObj [.int .i64 0, .int .i64 0, .int .i64 0, .int .i64 0] 40)])) ?_
            exact s_pred fun _ _ _ hE hI => ⟨(.pointer (some ⟨b472, 0, none⟩)), [.blk b472 (rowObj [.int .i64 0, .int .i64 0, .int .i64 0, .int .i64 0] 40)], _, fun _ e => (by cases e; exact hE _ _ rfl), .refl _, by exact hI, ⟨b472, rfl, rfl⟩⟩
          exact dnil
        · intro V476 G477 H474 hle475 hF478
          have hs479 := RSl.mono hle475 hs16
          have hs480 := RSl.mono hle475 hs11
          obtain ⟨hv481, hg482⟩ := hF478 34 (show 34 < 36 by decide)
          obtain ⟨b483, hv484, hg485⟩ := hF478 35 (show 35 < 36 by decide)
          refine s_env (env' := [(51, .agg #[.int .i64 y36.Switch, .int .i64 y36.Port, .int .i64 y57.Switch, .int .i64 y57.Port]), (5, .pointer (some ⟨b483, 0, none⟩)), (0, .slice a0_0 x0.length c0_0), (3, .slice a9 s8.1.length c10), (4, .int .i64 s8.2), (14, .bool ((decide (s8.2 < (x0.length : Int))) && decide (s8.2 < 30)))]) (by exact ⟨congrArg some hv481, congrArg some hv484, rfl, rfl, rfl, rfl, trivial⟩) ?_
          refine s_liv (js := [35]) rfl ?_
          refine s_ownE (own' := [.blk b483 (rowObj [.int .i64 0, .int .i64 0, .int .i64 0, .int .i64 0] 40)]) (by simp only [List.flatMap_cons, List.flatMap_nil, List.append_nil, hg485]; rfl) ?_
          refine o_st 0 rfl rfl rfl rfl rfl rfl ?_
          refine s_done ?_
          refine s_seq ?_
          refine s_bg fun _ h494 => ?_
          refine s_bg fun _ h502 => ?_
          refine s_drawL [(fun H v g => ∃ b503, v = Value.slice (some ⟨b503, 0, none⟩) ([] : List Link).length 0 ∧ g = [.osl (.slice (some ⟨b503, 0, none⟩) ([] : List Link).length 0) 4 40 []] ∧ All2 (GoT.rep H) [] ([] : List Link)),
      (fun H v g => v = Value.slice a9 s8.1.length c10 ∧ g = [] ∧ RSl H a9 c10 s8.1),
      (fun H v g => ∃ a506 c507 ls510, v = Value.slice a506 (([] : List Link) ++ s8.1).length c507 ∧ g = [.osl (.slice a506 (([] : List Link) ++ s8.1).length c507) 4 40 ls510] ∧ All2 (GoT.rep H) ls510 (([] : List Link) ++ s8.1)),
      (fun H v g => v = Value.agg #[.int .i64 y36.Switch, .int .i64 y36.Port, .int .i64 y57.Switch, .int .i64 y57.Port] ∧ g = []),
      (fun H v g => ∃ b511, v = Value.slice (some ⟨b511, 0, none⟩) ([(⟨y36, y57⟩ : Link)] : List Link).length 1 ∧ g = [.osl (.slice (some ⟨b511, 0, none⟩) ([(⟨y36, y57⟩ : Link)] : List Link).length 1) 4 40 [[.int .i64 y36.Switch, .int .i64 y36.Port, .int .i64 y57.Switch, .int .i64 y57.Port]]] ∧ All2 (GoT.rep H) [[.int .i64 y36.Switch, .int .i64 y36.Port, .int .i64 y57.Switch, .int .i64 y57.Port]] ([(⟨y36, y57⟩ : Link)] : List Link)),
      (fun H v g => ∃ a514 c515 ls510 b511, v = Value.slice a514 ((([] : List Link) ++ s8.1) ++ ([(⟨y36, y57⟩ : Link)] : List Link)).length c515 ∧ g = [.osl (.slice a514 ((([] : List Link) ++ s8.1) ++ ([(⟨y36, y57⟩ : Link)] : List Link)).length c515) 4 40 (ls510 ++ ([[.int .i64 y36.Switch, .int .i64 y36.Port, .int .i64 y57.Switch, .int .i64 y57.Port]])), .osl (.slice (some ⟨b511, 0, none⟩) ([(⟨y36, y57⟩ : Link)] : List Link).length 1) 4 40 [[.int .i64 y36.Switch, .int .i64 y36.Port, .int .i64 y57.Switch, .int .i64 y57.Port]]] ∧ All2 (GoT.rep H) (ls510 ++ ([[.int .i64 y36.Switch, .int .i64 y36.Port, .int .i64 y57.Switch, .int .i64 y57.Port]])) ((([] : List Link) ++ s8.1) ++ ([(⟨y36, y57⟩ : Link)] : List Link)) ∧ All2 (GoT.rep H) [[.int .i64 y36.Switch, .int .i64 y36.Port, .int .i64 y57.Switch, .int .i64 y57.Port]] ([(⟨y36, y57⟩ : Link)] : List Link))] [[], [], [0], [], [], [2, 4]] mixed ⟨fun _ _ _ _ hle ⟨b503, e1, e2, h0_⟩ => ⟨_, e1, e2, All2.mono (fun _ _ => GoT.mono hle) h0_⟩, fun _ _ _ _ hle ⟨e1, e2, h0_⟩ => ⟨e1, e2, RSl.mono hle h0_⟩, fun _ _ _ _ hle ⟨a506, c507, ls510, e1, e2, h0_⟩ => ⟨_, _, _, e1, e2, All2.mono (fun _ _ => GoT.mono hle) h0_⟩, m0, fun _ _ _ _ hle ⟨b511, e1, e2, h0_⟩ => ⟨_, e1, e2, All2.mono (fun _ _ => GoT.mono hle) h0_⟩, fun _ _ _ _ hle ⟨a514, c515, ls510, b511, e1, e2, h0_, h1_⟩ => ⟨_, _, _, _, e1, e2, All2.mono (fun _ _ => GoT.mono hle) h0_, All2.mono (fun _ _ => GoT.mono hle) h1_⟩, trivial⟩ (by kernel_rfl) (by kernel_rfl) rfl (by kernel_rfl) rfl rfl ?_ ?_
          · refine dcons ?_ ?_
            · intro _ _ H520 fr521 hle522 hd523
              refine ⟨_, some (), rfl, fun _ => ?_⟩
              refine s_env (env' := []) (by exact trivial) ?_
              refine o_bsl (xs := []) rfl rfl (by simp) rfl rfl fun b525 => ?_
              have hA526 : All2 (GoT.rep H520) [] ([] : List Link) := all2_enc (([] : List Link))
              refine s_perm (own' := [.blk b483 (rowObj [.int .i64 y36.Switch, .int .i64 y36.Port, .int .i64 y57.Switch, .int .i64 y57.Port] 40), .osl (.slice (some ⟨b525, 0, none⟩) ([] : List Link).length 0) 4 40 []] ++ fr521) (pm3 (a := [.blk b483 (rowObj [.int .i64 y36.Switch, .int .i64 y36.Port, .int .i64 y57.Switch, .int .i64 y57.Port] 40)]) (xs := [.osl (.slice (some ⟨b525, 0, none⟩) ([] : List Link).length 0) 4 40 []])) ?_
              exact s_pred fun _ _ _ hE hI => ⟨(.slice (some ⟨b525, 0, none⟩) ([] : List Link).length 0), [.osl (.slice (some ⟨b525, 0, none⟩) ([] : List Link).length 0) 4 40 []], _, fun _ e => (by cases e; exact hE _ _ rfl), .refl _, by exact hI, ⟨b525, rfl, rfl, hA526⟩⟩
            refine dcons ?_ ?_
            · intro _ _ H530 fr531 hle532 hd533
              have hs535 := RSl.mono hle532 hs480
              refine ⟨_, some (), rfl, fun _ => ?_⟩
              refine s_env (env' := [(3, .slice a9 s8.1.length c10)]) (by exact ⟨rfl, trivial⟩) ?_
              refine o_mov rfl ?_
              exact s_pred fun _ _ _ hE hI => ⟨(.slice a9 s8.1.length c10), [], _, fun _ e => (by cases e; exact hE _ _ rfl), .refl _, by exact hI, ⟨rfl, rfl, hs535⟩⟩
            refine dcons ?_ ?_
            · intro _ _ H538 fr539 hle540 hd541
              obtain ⟨b543, hv544, hg545, hp546⟩ := hd541 0 (by decide)
              obtain ⟨hv547, hg548, hp549⟩ := hd541 1 (by decide)
              refine ⟨_, (app ([] : List Link) s8.1).bind some, by rw [h494]; rfl, fun _ => ?_⟩
              refine s_env (env' := [(52, .slice (some ⟨b543, 0, none⟩) ([] : List Link).length 0), (53, .slice a9 s8.1.length c10)]) (by exact ⟨congrArg some hv544, congrArg some hv547, trivial⟩) ?_
              refine s_ownE (own' := [.blk b483 (rowObj [.int .i64 y36.Switch, .int .i64 y36.Port, .int .i64 y57.Switch, .int .i64 y57.Port] 40), .osl (.slice (some ⟨b543, 0, none⟩) ([] : List Link).length 0) 4 40 []] ++ fr539) (by simp only [List.flatMap_cons, List.flatMap_nil, List.append_nil, hg545]; rfl) ?_
              refine o_appS 1 rfl rfl rfl hp546 hp549 fun a550 c551 ls554 h552 hA553 => ?_
              exact s_pred fun _ _ _ hE hI => ⟨(.slice a550 (([] : List Link) ++ s8.1).length c551), [.osl (.slice a550 (([] : List Link) ++ s8.1).length c551) 4 40 ls554], _, fun _ e => (by cases e; exact hE _ _ rfl), .refl _, by exact hI, ⟨a550, c551, ls554, rfl, rfl, hA553⟩⟩
            refine dcons ?_ ?_
            · intro _ _ H557 fr558 hle559 hd560
              refine ⟨_, some (), rfl, fun _ => ?_⟩
              refine s_env (env' := [(5, .pointer (some ⟨b483, 0, none⟩))]) (by exact ⟨rfl, trivial⟩) ?_
              refine o_ld 0 rfl rfl rfl ?_
              exact s_pred fun _ _ _ hE hI => ⟨(.agg #[.int .i64 y36.Switch, .int .i64 y36.Port, .int .i64 y57.Switch, .int .i64 y57.Port]), [], _, fun _ e => (by cases e; exact hE _ _ rfl), .refl _, by exact hI, ⟨rfl, rfl⟩⟩
            refine dcons ?_ ?_
            · intro _ _ H564 fr565 hle566 hd567
              obtain ⟨hv569, hg570⟩ := hd567 3 (by decide)
              refine ⟨_, some (), rfl, fun _ => ?_⟩
              refine s_env (env' := [(55, .agg #[.int .i64 y36.Switch, .int .i64 y36.Port, .int .i64 y57.Switch, .int .i64 y57.Port])]) (by exact ⟨congrArg some hv569, trivial⟩) ?_
              refine o_bsl (xs := [.tmp 55]) rfl rfl (by simp only [List.mem_cons, List.not_mem_nil, or_false, forall_eq_or_imp, forall_eq]; exact ⟨rfl, rfl⟩) rfl rfl fun b571 => ?_
              have hA572 : All2 (GoT.rep H564) [[.int .i64 y36.Switch, .int .i64 y36.Port, .int .i64 y57.Switch, .int .i64 y57.Port]] ([(⟨y36, y57⟩ : Link)] : List Link) := all2_enc (([(⟨y36, y57⟩ : Link)] : List Link))
              refine s_perm (own' := [.blk b483 (rowObj [.int .i64 y36.Switch, .int .i64 y36.Port, .int .i64 y57.Switch, .int .i64 y57.Port] 40), .osl (.slice (some ⟨b571, 0, none⟩) ([(⟨y36, y57⟩ : Link)] : List Link).length 1) 4 40 [[.int .i64 y36.Switch, .int .i64 y36.Port, .int .i64 y57.Switch, .int .i64 y57.Port]]] ++ fr565) (pm3 (a := [.blk b483 (rowObj [.int .i64 y36.Switch, .int .i64 y36.Port, .int .i64 y57.Switch, .int .i64 y57.Port] 40)]) (xs := [.osl (.slice (some ⟨b571, 0, none⟩) ([(⟨y36, y57⟩ : Link)] : List Link).length 1) 4 40 [[.int .i64 y36.Switch, .int .i64 y36.Port, .int .i64 y57.Switch, .int .i64 y57.Port]]])) ?_
              exact s_pred fun _ _ _ hE hI => ⟨(.slice (some ⟨b571, 0, none⟩) ([(⟨y36, y57⟩ : Link)] : List Link).length 1), [.osl (.slice (some ⟨b571, 0, none⟩) ([(⟨y36, y57⟩ : Link)] : List Link).length 1) 4 40 [[.int .i64 y36.Switch, .int .i64 y36.Port, .int .i64 y57.Switch, .int .i64 y57.Port]]], _, fun _ e => (by cases e; exact hE _ _ rfl), .refl _, by exact hI, ⟨b571, rfl, rfl, hA572⟩⟩
            refine dcons ?_ ?_
            · intro _ _ H576 fr577 hle578 hd579
              obtain ⟨a581, c582, ls583, hv584, hg585, hp586⟩ := hd579 2 (by decide)
              obtain ⟨b587, hv588, hg589, hp590⟩ := hd579 4 (by decide)
              refine ⟨_, (app (([] : List Link) ++ s8.1) ([(⟨y36, y57⟩ : Link)] : List Link)).bind some, by rw [h502]; rfl, fun _ => ?_⟩
              refine s_env (env' := [(54, .slice a581 (([] : List Link) ++ s8.1).length c582), (56, .slice (some ⟨b587, 0, none⟩) ([(⟨y36, y57⟩ : Link)] : List Link).length 1)]) (by exact ⟨congrArg some hv584, congrArg some hv588, trivial⟩) ?_
              refine s_ownE (own' := [.blk b483 (rowObj [.int .i64 y36.Switch, .int .i64 y36.Port, .int .i64 y57.Switch, .int .i64 y57.Port] 40), .osl (.slice a581 (([] : List Link) ++ s8.1).length c582) 4 40 ls583, .osl (.slice (some ⟨b587, 0, none⟩) ([(⟨y36, y57⟩ : Link)] : List Link).length 1) 4 40 [[.int .i64 y36.Switch, .int .i64 y36.Port, .int .i64 y57.Switch, .int .i64 y57.Port]]] ++ fr577) (by simp only [List.flatMap_cons, List.flatMap_nil, List.append_nil, hg585, hg589]; rfl) ?_
              refine o_appO 1 2 rfl rfl rfl hp586 rfl hp590 fun a591 c592 h593 hA594 => ?_
              exact s_pred fun _ _ _ hE hI => ⟨(.slice a591 ((([] : List Link) ++ s8.1) ++ ([(⟨y36, y57⟩ : Link)] : List Link)).length c592), [.osl (.slice a591 ((([] : List Link) ++ s8.1) ++ ([(⟨y36, y57⟩ : Link)] : List Link)).length c592) 4 40 (ls583 ++ ([[.int .i64 y36.Switch, .int .i64 y36.Port, .int .i64 y57.Switch, .int .i64 y57.Port]])), .osl (.slice (some ⟨b587, 0, none⟩) ([(⟨y36, y57⟩ : Link)] : List Link).length 1) 4 40 [[.int .i64 y36.Switch, .int .i64 y36.Port, .int .i64 y57.Switch, .int .i64 y57.Port]]], _, fun _ e => (by cases e; exact hE _ _ rfl), .refl _, by exact hI, ⟨a591, c592, ls583, b587, rfl, rfl, hA594, hp590⟩⟩
            exact dnil
          · intro V597 G598 H595 hle596 hF599
            have hs600 := RSl.mono hle596 hs479
            have hs601 := RSl.mono hle596 hs480
            obtain ⟨a602, c603, ls604, b605, hv606, hg607, hp608, hp609⟩ := hF599 5 (show 5 < 6 by decide)
            refine s_env (env' := [(57, .slice a602 ((([] : List Link) ++ s8.1) ++ ([(⟨y36, y57⟩ : Link)] : List Link)).length c603), (0, .slice a0_0 x0.length c0_0), (3, .slice a9 s8.1.length c10), (4, .int .i64 s8.2), (14, .bool ((decide (s8.2 < (x0.length : Int))) && decide (s8.2 < 30))), (51, .agg #[.int .i64 y36.Switch, .int .i64 y36.Port, .int .i64 y57.Switch, .int .i64 y57.Port]), (5, .pointer (some ⟨b483, 0, none⟩))]) (by exact ⟨congrArg some hv606, rfl, rfl, rfl, rfl, rfl, rfl, trivial⟩) ?_
            refine s_liv (js := [5]) rfl ?_
            refine s_ownE (own' := [.blk b483 (rowObj [.int .i64 y36.Switch, .int .i64 y36.Port, .int .i64 y57.Switch, .int .i64 y57.Port] 40), .osl (.slice a602 ((([] : List Link) ++ s8.1) ++ ([(⟨y36, y57⟩ : Link)] : List Link)).length c603) 4 40 (ls604 ++ ([[.int .i64 y36.Switch, .int .i64 y36.Port, .int .i64 y57.Switch, .int .i64 y57.Port]])), .osl (.slice (some ⟨b605, 0, none⟩) ([(⟨y36, y57⟩ : Link)] : List Link).length 1) 4 40 [[.int .i64 y36.Switch, .int .i64 y36.Port, .int .i64 y57.Switch, .int .i64 y57.Port]]]) (by simp only [List.flatMap_cons, List.flatMap_nil, List.append_nil, hg607]; rfl) ?_
            refine o_asg rfl ?_
            refine s_done ?_
            refine s_seq ?_
            refine s_region ?_
            refine o_mov rfl ?_
            refine s_frz 1 (fun b => .inl (by simp [ids])) rfl hp608 fun H610 hle611 hn612 hs613 => ?_
            have hs614 := RSl.mono hle611 hs600
            have hs615 := RSl.mono hle611 hs601
            have hA616 := All2.mono (fun _ _ => GoT.mono hle611) hp609
            refine o_bld rfl rfl ?_
            refine s_bg fun y617 h618 => ?_
            refine s_callF rfl rfl (graph_Check_ok k _ (⟨6, ((([] : List Link) ++ s8.1) ++ ([(⟨y36, y57⟩ : Link)] : List Link))⟩ : Graph) _ _ hs613 h618) ?_
            refine o_eq rfl rfl ?_
            refine s_done ?_
            refine s_cond rfl (fun h619 => ?_) (fun h619 => ?_)
            · refine s_region ?_
              refine o_mov rfl ?_
              refine o_asg rfl ?_
              refine s_done ?_
              refine s_inBlock ?_
              refine s_region ?_
              refine o_mov rfl ?_
              refine o_add rfl rfl ?_
              refine o_asg rfl ?_
              refine s_done ?_
              exact s_env (by exact ⟨rfl, rfl, rfl, trivial⟩) (s_own (by exact (.cons _ (.cons _ .slnil))) (ih13 (((([] : List Link) ++ s8.1) ++ ([(⟨y36, y57⟩ : Link)] : List Link)), w64 (s8.2 + 1)) _ _ _ ⟨_, _, rfl, rfl, (Hle.trans (Hle.trans (Hle.trans hle15 hle475) hle596) hle611), hs613⟩))
            · refine s_skip ?_
              refine s_inBlock ?_
              refine s_region ?_
              refine o_mov rfl ?_
              refine o_add rfl rfl ?_
              refine o_asg rfl ?_
              refine s_done ?_
              exact s_env (by exact ⟨rfl, rfl, rfl, trivial⟩) (s_own (by exact (.cons _ (.cons _ .slnil))) (ih13 (s8.1, w64 (s8.2 + 1)) _ _ _ ⟨_, _, rfl, rfl, (Hle.trans (Hle.trans (Hle.trans hle15 hle475) hle596) hle611), hs615⟩))
      · refine s_exit rfl ?_
        exact s_env (by exact ⟨rfl, trivial⟩) (s_own (by exact .slnil) (J7 s8.1 _ _ _ ⟨_, _, rfl, rfl, hle15, hs11⟩))
    · intro J620
      refine o_mov rfl ?_
      refine o_mov rfl ?_
      refine o_lenS rfl ?_
      refine o_lt rfl rfl ?_
      refine o_mov rfl ?_
      refine s_case (decide (s8.2 < (x0.length : Int))) (fun h621 => ?_) (fun h621 => ?_)
      · refine s_want rfl rfl h621 ?_
        refine o_mov rfl ?_
        refine s_want rfl rfl h621 ?_
        refine o_lt rfl rfl ?_
        refine o_pickT rfl h621 rfl ?_
        exact s_env (by exact ⟨rfl, rfl, rfl, lkb rfl (by first | simp only [h621, Bool.true_and, Bool.and_true, Bool.false_and, Bool.and_false, Bool.true_or, Bool.false_or, Bool.or_true, Bool.or_false, Bool.not_true, Bool.not_false] | simp [h621]), trivial⟩) (s_own (by exact .slnil) J620)
      · refine s_unwant rfl rfl h621 ?_
        refine s_unwant rfl rfl h621 ?_
        refine o_pickF rfl h621 rfl ?_
        exact s_env (by exact ⟨rfl, rfl, rfl, lkb rfl (by first | simp only [h621, Bool.true_and, Bool.and_true, Bool.false_and, Bool.and_false, Bool.true_or, Bool.false_or, Bool.or_true, Bool.or_false, Bool.not_true, Bool.not_false] | simp [h621]), trivial⟩) (s_own (by exact .slnil) J620)

/-! catenary/catenarylaw20.goes -/
def catenarylaw20_goes_l0 (k : Nat) (x0 : (List Link)) (x1 : (List End)) : Nat → (Int × Int) → Option (LX (Int) (Int))
  | 0, _ => none
  | q8 + 1, s7 =>
    if (decide (s7.2 < (x1.length : Int))) = true then
      (rd x1 s7.2).bind fun y15 =>
      (graph_Peer k (⟨6, x0⟩ : Graph) y15).bind fun y20 =>
      (if (!y20.2.2) = true then
          some true
        else
          (rd x1 s7.2).bind fun y32 =>
          some (y32.Switch != s7.1)).bind fun p24 =>
      if (p24) = true then
        some (.ret (-1))
      else
        catenarylaw20_goes_l0 k x0 x1 q8 (y20.1.Switch, w64 (s7.2 + 1))
    else
      some (.out s7.1)
def catenarylaw20_goes (k : Nat) (x0 : (List Link)) (x1 : (List End)) (x2 : Int) : Option Int :=
  (catenarylaw20_goes_l0 k x0 x1 k (1, 0)).bind (LX.go fun p1 =>
  if (p1 != x2) = true then
    some (-1)
  else
    some (x1.length : Int))
theorem fn_47 : Try.prog.funcs[47]? = some Try.f47 := by kernel_rfl
set_option maxRecDepth 100000 in
set_option maxHeartbeats 4000000 in
theorem catenarylaw20_goes_ok (k : Nat) (H : Heap) (x0 : (List Link)) (a0_0 : Option Addr) (c0_0 : Nat) (hx0_0 : RSl H a0_0 c0_0 x0) (x1 : (List End)) (a1_0 : Option Addr) (c1_0 : Nat) (hx1_0 : RSl H a1_0 c1_0 x1) (x2 : Int) {r : Int} (hr : catenarylaw20_goes k x0 x1 x2 = some r) :
    Fn Try.prog 47 [.slice a0_0 x0.length c0_0, .slice a1_0 x1.length c1_0, .int .i64 x2] H [] fun H' v out => v = .int .i64 r ∧ out = [] := by
  refine fn_of_sim (args := [.slice a0_0 x0.length c0_0, .slice a1_0 x1.length c1_0, .int .i64 x2]) (n := 47) (Φ := fun r H' v out => v = .int .i64 r ∧ out = []) hr fn_47 rfl rfl rfl fun w => ?_
  refine s_eq (by rw [catenarylaw20_goes]) ?_
  refine s_seq ?_
  refine s_region ?_
  refine o_asg rfl ?_
  refine s_done ?_
  refine s_seq ?_
  refine s_region ?_
  refine o_asg rfl ?_
  refine s_done ?_
  refine s_seq ?_
  refine s_seq ?_
  refine s_region ?_
  refine o_asg rfl ?_
  refine s_done ?_
  refine s_joinL (fun p1 env own H' => env = [(1, .slice a1_0 x1.length c1_0), (2, .int .i64 x2), (7, .int .i64 p1)] ∧ own = [] ∧ Hle H H') ?_ ?_
  · rintro p1 _ _ H2 ⟨rfl, rfl, hle3⟩
    have hs4 := RSl.mono hle3 hx1_0
    refine s_seq ?_
    refine s_seq ?_
    refine s_region ?_
    refine o_mov rfl ?_
    refine o_mov rfl ?_
    refine o_ne rfl rfl ?_
    refine s_done ?_
    refine s_cond rfl (fun h5 => ?_) (fun h5 => ?_)
    · refine s_seq ?_
      refine s_region ?_
      refine o_asg rfl ?_
      refine s_done ?_
      exact s_retv (xs := [.tmp 6]) (vs := [.int .i64 (-1)]) [] fn_47 rfl ⟨rv_tmp rfl, trivial⟩ .slnil ⟨rfl, rfl⟩
    · refine s_skip ?_
      refine s_seq ?_
      refine s_region ?_
      refine o_mov rfl ?_
      refine o_lenS rfl ?_
      refine o_asg rfl ?_
      refine s_done ?_
      exact s_retv (xs := [.tmp 6]) (vs := [.int .i64 (x1.length : Int)]) [] fn_47 rfl ⟨rv_tmp rfl, trivial⟩ .slnil ⟨rfl, rfl⟩
  · intro J6
    refine s_block ?_
    refine s_env (env' := [(0, .slice a0_0 x0.length c0_0), (1, .slice a1_0 x1.length c1_0), (2, .int .i64 x2), (7, .int .i64 1), (8, .int .i64 0)]) (by exact ⟨rfl, rfl, rfl, rfl, rfl, trivial⟩) ?_
    refine s_own (own' := []) .slnil ?_
    refine s_loopn (fun q s7 => catenarylaw20_goes_l0 k x0 x1 q s7) (fun s7 env own H' => env = [(0, .slice a0_0 x0.length c0_0), (1, .slice a1_0 x1.length c1_0), (2, .int .i64 x2), (7, .int .i64 s7.1), (8, .int .i64 s7.2)] ∧ own = [] ∧ Hle H H') (fun _ => rfl) ?_ k (1, 0) ⟨rfl, rfl, .refl _⟩
    rintro q8 ih9 s7 _ _ H10 ⟨rfl, rfl, hle11⟩
    refine s_eq (by rw [catenarylaw20_goes_l0]) ?_
    have hs12 := RSl.mono hle11 hx0_0
    have hs13 := RSl.mono hle11 hx1_0
    refine s_seq ?_
    refine s_seq ?_
    refine s_region ?_
    refine o_mov rfl ?_
    refine o_mov rfl ?_
    refine o_lenS rfl ?_
    refine o_lt rfl rfl ?_
    refine s_done ?_
    refine s_cond rfl (fun h14 => ?_) (fun h14 => ?_)
    · refine s_skip ?_
      refine s_seq ?_
      refine s_block ?_
      refine s_seq ?_
      refine s_region ?_
      refine o_mov rfl ?_
      refine o_bld rfl rfl ?_
      refine o_mov rfl ?_
      refine o_mov rfl ?_
      refine o_ixf hs13 rfl rfl fun y15 bk17 of18 h16 hc19 => ?_
      refine o_ldH 0 hc19 rfl rfl rfl ?_
      refine s_bg fun y20 h21 => ?_
      refine s_callF rfl rfl (graph_Peer_ok k _ (⟨6, x0⟩ : Graph) _ _ hs12 y15 h21) ?_
      refine o_mov rfl ?_
      refine o_ext rfl rfl ?_
      refine o_ext rfl rfl ?_
      refine o_ext rfl rfl ?_
      refine o_alloc fun b22 => ?_
      refine o_st 0 rfl rfl rfl rfl rfl rfl ?_
      refine o_asg rfl ?_
      refine o_asg rfl ?_
      refine s_done ?_
      refine s_seq ?_
      refine s_seq ?_
      refine s_region ?_
      refine s_joinR (fun p24 env own H' => env = [(0, .slice a0_0 x0.length c0_0), (1, .slice a1_0 x1.length c1_0), (2, .int .i64 x2), (8, .int .i64 s7.2), (9, .pointer (some ⟨b22, 0, none⟩)), (39, .bool p24)] ∧ own = [.blk b22 (rowObj [.int .i64 y20.1.Switch, .int .i64 y20.1.Port] 26)] ∧ Hle H10 H') ?_ ?_
      · rintro p24 _ _ H25 ⟨rfl, rfl, hle26⟩
        have hs27 := RSl.mono hle26 hs12
        have hs28 := RSl.mono hle26 hs13
        refine s_cond rfl (fun h29 => ?_) (fun h29 => ?_)
        · refine s_seq ?_
          refine s_region ?_
          refine o_asg rfl ?_
          refine s_done ?_
          refine s_lret ?_
          exact s_retv (xs := [.tmp 6]) (vs := [.int .i64 (-1)]) [] fn_47 rfl ⟨rv_tmp rfl, trivial⟩ (.cons _ .slnil) ⟨rfl, rfl⟩
        · refine s_skip ?_
          refine s_region ?_
          refine o_fa rfl ?_
          refine o_ld 0 rfl rfl rfl ?_
          refine o_asg rfl ?_
          refine s_done ?_
          refine s_inBlock ?_
          refine s_region ?_
          refine o_mov rfl ?_
          refine o_add rfl rfl ?_
          refine o_asg rfl ?_
          refine s_done ?_
          exact s_env (by exact ⟨rfl, rfl, rfl, rfl, rfl, trivial⟩) (s_own (by exact (.cons _ .slnil)) (ih9 (y20.1.Switch, w64 (s7.2 + 1)) _ _ _ ⟨rfl, rfl, (Hle.trans hle11 hle26)⟩))
      · intro J30
        refine o_mov rfl ?_
        refine o_not rfl ?_
        refine o_mov rfl ?_
        refine s_split (!y20.2.2) (fun h31 => ?_) (fun h31 => ?_)
        · refine s_unwant rfl rfl h31 ?_
          refine s_unwant rfl rfl h31 ?_
          refine s_unwant rfl rfl h31 ?_
          refine s_unwant rfl rfl h31 ?_
          refine s_unwant rfl rfl h31 ?_
          refine s_unwant rfl rfl h31 ?_
          refine s_unwant rfl rfl h31 ?_
          refine o_pickT rfl h31 rfl ?_
          exact s_env (by exact ⟨rfl, rfl, rfl, rfl, rfl, rfl, trivial⟩) (s_own (by exact (.cons_cons _ .slnil)) (J30 true _ _ _ ⟨rfl, rfl, .refl _⟩))
        · refine s_want rfl rfl h31 ?_
          refine o_mov rfl ?_
          refine s_want rfl rfl h31 ?_
          refine o_mov rfl ?_
          refine s_want rfl rfl h31 ?_
          refine o_ixf hs13 rfl rfl fun y32 bk34 of35 h33 hc36 => ?_
          refine s_want rfl rfl h31 ?_
          refine o_fa rfl ?_
          refine s_want rfl rfl h31 ?_
          refine o_ldH 0 hc36 rfl rfl rfl ?_
          refine s_want rfl rfl h31 ?_
          refine o_mov rfl ?_
          refine s_want rfl rfl h31 ?_
          refine o_ne rfl rfl ?_
          refine o_pickF rfl h31 rfl ?_
          exact s_env (by exact ⟨rfl, rfl, rfl, rfl, rfl, rfl, trivial⟩) (s_own (by exact (.cons_cons _ .slnil)) (J30 (y32.Switch != s7.1) _ _ _ ⟨rfl, rfl, .refl _⟩))
    · refine s_exit rfl ?_
      exact s_env (by exact ⟨rfl, rfl, rfl, trivial⟩) (s_own (by exact .slnil) (J6 s7.1 _ _ _ ⟨rfl, rfl, hle11⟩))

/-! catenary/catenarylaw20.far -/
def catenarylaw20_far_l1 (k : Nat) (x0 : (List Link)) : Nat → (List Int) × Int → Option ((List Int))
  | 0, _ => none
  | q46 + 1, s41 =>
    if (decide (s41.2 < (x0.length : Int))) = true then
      (rd x0 s41.2).bind fun y52 =>
      (catenaryref00_Bring k y52.A.Switch 7).bind fun y58 =>
      (rd x0 s41.2).bind fun y61 =>
      (catenaryref00_Bring k y61.B.Switch 7).bind fun y67 =>
      ((rd s41.1 y58).bind fun y1238 =>
        if (decide (y1238 ≥ 0)) = true then
          (rd s41.1 y67).bind fun y1248 =>
          if (decide (y1248 < 0)) = true then
            some (s41.1, true)
          else
            (rd s41.1 y67).bind fun y1548 =>
            (rd s41.1 y58).bind fun y1556 =>
            some (s41.1, decide (y1548 > (w64 (y1556 + 1))))
        else
          some (s41.1, false)).bind fun p254 =>
      (if (p254.2) = true then
          (rd p254.1 y58).bind fun y1221 =>
          (rd p254.1 y67).bind fun y1228 =>
          some (p254.1.set (y67 : Int).toNat (w64 (y1221 + 1)))
        else
          some p254.1).bind fun p262 =>
      ((rd p262 y67).bind fun y296 =>
        if (decide (y296 ≥ 0)) = true then
          (rd p262 y58).bind fun y306 =>
          if (decide (y306 < 0)) = true then
            some (p262, true)
          else
            (rd p262 y58).bind fun y606 =>
            (rd p262 y67).bind fun y614 =>
            some (p262, decide (y606 > (w64 (y614 + 1))))
        else
          some (p262, false)).bind fun p270 =>
      if (p270.2) = true then
        (rd p270.1 y67).bind fun y279 =>
        (rd p270.1 y58).bind fun y286 =>
        catenarylaw20_far_l1 k x0 q46 ((p270.1.set (y58 : Int).toNat (w64 (y279 + 1))), w64 (s41.2 + 1))
      else
        catenarylaw20_far_l1 k x0 q46 (p270.1, w64 (s41.2 + 1))
    else
      some s41.1
def catenarylaw20_far_l0 (k : Nat) (x0 : (List Link)) : Nat → (List Int) × Int → Option ((List Int))
  | 0, _ => none
  | q26 + 1, s21 =>
    if (decide (s21.2 < 6)) = true then
      (catenarylaw20_far_l1 k x0 k (s21.1, 0)).bind fun p32 =>
      catenarylaw20_far_l0 k x0 q26 (p32, w64 (s21.2 + 1))
    else
      some s21.1
def catenarylaw20_far (k : Nat) (x0 : (List Link)) (x1 : Int) : Option Int :=
  (catenarylaw20_far_l0 k x0 k (([(-1), 0, (-1), (-1), (-1), (-1), (-1)] : List Int), 0)).bind fun p4 =>
  (catenaryref00_Bring k x1 7).bind fun y11 =>
  (rd p4 y11).bind fun y13 =>
  some y13
theorem fn_50 : Try.prog.funcs[50]? = some Try.f50 := by kernel_rfl
set_option maxRecDepth 100000 in
set_option maxHeartbeats 4000000 in
theorem catenarylaw20_far_ok (k : Nat) (H : Heap) (x0 : (List Link)) (a0_0 : Option Addr) (c0_0 : Nat) (hx0_0 : RSl H a0_0 c0_0 x0) (x1 : Int) {r : Int} (hr : catenarylaw20_far k x0 x1 = some r) :
    Fn Try.prog 50 [.slice a0_0 x0.length c0_0, .int .i64 x1] H [] fun H' v out => v = .int .i64 r ∧ out = [] := by
  refine fn_of_sim (args := [.slice a0_0 x0.length c0_0, .int .i64 x1]) (n := 104) (Φ := fun r H' v out => v = .int .i64 r ∧ out = []) hr fn_50 rfl rfl rfl fun w => ?_
  refine s_eq (by rw [catenarylaw20_far]) ?_
  refine s_seq ?_
  refine s_region ?_
  refine o_asg rfl ?_
  refine s_done ?_
  refine s_seq ?_
  refine s_region ?_
  refine o_bsl (xs := [.const (.int .i64 (-1)), .const (.int .i64 0), .const (.int .i64 (-1)), .const (.int .i64 (-1)), .const (.int .i64 (-1)), .const (.int .i64 (-1)), .const (.int .i64 (-1))]) rfl rfl (by simp only [List.mem_cons, List.not_mem_nil, or_false, forall_eq_or_imp, forall_eq]; exact ⟨⟨rfl, rfl⟩, ⟨rfl, rfl⟩, ⟨rfl, rfl⟩, ⟨rfl, rfl⟩, ⟨rfl, rfl⟩, ⟨rfl, rfl⟩, ⟨rfl, rfl⟩⟩) rfl rfl fun b1 => ?_
  have hA2 : All2 (GoT.rep H) [[.int .i64 (-1)], [.int .i64 0], [.int .i64 (-1)], [.int .i64 (-1)], [.int .i64 (-1)], [.int .i64 (-1)], [.int .i64 (-1)]] ([(-1), 0, (-1), (-1), (-1), (-1), (-1)] : List Int) := all2_enc (([(-1), 0, (-1), (-1), (-1), (-1), (-1)] : List Int))
  refine o_asg rfl ?_
  refine s_done ?_
  refine s_seq ?_
  refine s_seq ?_
  refine s_region ?_
  refine o_asg rfl ?_
  refine s_done ?_
  refine s_join (fun p4 env own H' => ∃ a5 c6 ls7, env = [(1, .int .i64 x1), (5, .slice a5 p4.length c6)] ∧ own = [.osl (.slice a5 p4.length c6) 1 3 ls7] ∧ Hle H H' ∧ All2 (GoT.rep H') ls7 p4) ?_ ?_
  · rintro p4 _ _ H9 ⟨a5, c6, ls7, rfl, rfl, hle10, hA8⟩
    refine s_seq ?_
    refine s_region ?_
    refine o_mov rfl ?_
    refine o_mov rfl ?_
    refine s_bg fun y11 h12 => ?_
    refine s_callF rfl rfl (catenaryref00_Bring_ok k _ x1 7 h12) ?_
    refine o_ixO 0 rfl hA8 rfl rfl fun y13 bk15 vs16 h14 ha17 hi18 hr19 => ?_
    subst hr19
    subst ha17
    refine o_ldO 0 0 rfl hi18 rfl rfl rfl ?_
    refine o_asg rfl ?_
    refine s_done ?_
    exact s_retv (xs := [.tmp 4]) (vs := [.int .i64 y13]) [] fn_50 rfl ⟨rv_tmp rfl, trivial⟩ (.cons _ .slnil) ⟨rfl, rfl⟩
  · intro J20
    refine s_block ?_
    refine s_env (env' := [(0, .slice a0_0 x0.length c0_0), (1, .int .i64 x1), (5, .slice (some ⟨b1, 0, none⟩) ([(-1), 0, (-1), (-1), (-1), (-1), (-1)] : List Int).length 7), (6, .int .i64 0)]) (by exact ⟨rfl, rfl, rfl, rfl, trivial⟩) ?_
    refine s_own (own' := [.osl (.slice (some ⟨b1, 0, none⟩) ([(-1), 0, (-1), (-1), (-1), (-1), (-1)] : List Int).length 7) 1 3 [[.int .i64 (-1)], [.int .i64 0], [.int .i64 (-1)], [.int .i64 (-1)], [.int .i64 (-1)], [.int .i64 (-1)], [.int .i64 (-1)]]]) (.cons_cons _ .slnil) ?_
    refine s_loopn (fun q s21 => catenarylaw20_far_l0 k x0 q s21) (fun s21 env own H' => ∃ a22 c23 ls24, env = [(0, .slice a0_0 x0.length c0_0), (1, .int .i64 x1), (5, .slice a22 s21.1.length c23), (6, .int .i64 s21.2)] ∧ own = [.osl (.slice a22 s21.1.length c23) 1 3 ls24] ∧ Hle H H' ∧ All2 (GoT.rep H') ls24 s21.1) (fun _ => rfl) ?_ k (([(-1), 0, (-1), (-1), (-1), (-1), (-1)] : List Int), 0) ⟨_, _, _, rfl, rfl, .refl _, hA2⟩
    rintro q26 ih27 s21 _ _ H28 ⟨a22, c23, ls24, rfl, rfl, hle29, hA25⟩
    refine s_eq (by rw [catenarylaw20_far_l0]) ?_
    have hs30 := RSl.mono hle29 hx0_0
    refine s_seq ?_
    refine s_seq ?_
    refine s_region ?_
    refine o_mov rfl ?_
    refine o_lt rfl rfl ?_
    refine s_done ?_
    refine s_cond rfl (fun h31 => ?_) (fun h31 => ?_)
    · refine s_skip ?_
      refine s_seq ?_
      refine s_block ?_
      refine s_seq ?_
      refine s_region ?_
      refine o_asg rfl ?_
      refine s_done ?_
      refine s_join (fun p32 env own H' => ∃ a33 c34 ls35, env = [(0, .slice a0_0 x0.length c0_0), (1, .int .i64 x1), (5, .slice a33 p32.length c34), (6, .int .i64 s21.2)] ∧ own = [.osl (.slice a33 p32.length c34) 1 3 ls35] ∧ Hle H28 H' ∧ All2 (GoT.rep H') ls35 p32) ?_ ?_
      · rintro p32 _ _ H37 ⟨a33, c34, ls35, rfl, rfl, hle38, hA36⟩
        have hs39 := RSl.mono hle38 hs30
        refine s_inBlock ?_
        refine s_region ?_
        refine o_mov rfl ?_
        refine o_add rfl rfl ?_
        refine o_asg rfl ?_
        refine s_done ?_
        exact s_env (by exact ⟨rfl, rfl, rfl, rfl, trivial⟩) (s_own (by exact (.cons_cons _ .slnil)) (ih27 (p32, w64 (s21.2 + 1)) _ _ _ ⟨_, _, _, rfl, rfl, (Hle.trans hle29 hle38), hA36⟩))
      · intro J40
        refine s_block ?_
        refine s_env (env' := [(0, .slice a0_0 x0.length c0_0), (1, .int .i64 x1), (5, .slice a22 s21.1.length c23), (6, .int .i64 s21.2), (7, .int .i64 0)]) (by exact ⟨rfl, rfl, rfl, rfl, rfl, trivial⟩) ?_
        refine s_own (own' := [.osl (.slice a22 s21.1.length c23) 1 3 ls24]) (.cons_cons _ .slnil) ?_
        refine s_loopn (fun q s41 => catenarylaw20_far_l1 k x0 q s41) (fun s41 env own H' => ∃ a42 c43 ls44, env = [(0, .slice a0_0 x0.length c0_0), (1, .int .i64 x1), (5, .slice a42 s41.1.length c43), (6, .int .i64 s21.2), (7, .int .i64 s41.2)] ∧ own = [.osl (.slice a42 s41.1.length c43) 1 3 ls44] ∧ Hle H28 H' ∧ All2 (GoT.rep H') ls44 s41.1) (fun _ => rfl) ?_ k (s21.1, 0) ⟨_, _, _, rfl, rfl, .refl _, hA25⟩
        rintro q46 ih47 s41 _ _ H48 ⟨a42, c43, ls44, rfl, rfl, hle49, hA45⟩
        refine s_eq (by rw [catenarylaw20_far_l1]) ?_
        have hs50 := RSl.mono hle49 hs30
        refine s_seq ?_
        refine s_seq ?_
        refine s_region ?_
        refine o_mov rfl ?_
        refine o_mov rfl ?_
        refine o_lenS rfl ?_
        refine o_lt rfl rfl ?_
        refine s_done ?_
        refine s_cond rfl (fun h51 => ?_) (fun h51 => ?_)
        · refine s_skip ?_
          refine s_seq ?_
          refine s_block ?_
          refine s_seq ?_
          refine s_bg fun y52 h57 => ?_
          refine s_bg fun y58 h60 => ?_
          refine s_bg fun y61 h66 => ?_
          refine s_bg fun y67 h69 => ?_
          refine s_drawL [(fun H v g => v = Value.slice a0_0 x0.length c0_0 ∧ g = [] ∧ RSl H a0_0 c0_0 x0),
      (fun H v g => v = Value.int .i64 s41.2 ∧ g = []),
      (fun H v g => ∃ bk71 of72, v = Value.pointer (some ⟨bk71, of72, none⟩) ∧ g = [] ∧ CellsAt H bk71 of72 [.int .i64 y52.A.Switch, .int .i64 y52.A.Port, .int .i64 y52.B.Switch, .int .i64 y52.B.Port]),
      (fun H v g => ∃ bk71 of72, v = Value.pointer (some ⟨bk71, of72, none⟩) ∧ g = [] ∧ CellsAt H bk71 of72 [.int .i64 y52.A.Switch, .int .i64 y52.A.Port, .int .i64 y52.B.Switch, .int .i64 y52.B.Port]),
      (fun H v g => ∃ bk71 of72, v = Value.pointer (some ⟨bk71, of72, none⟩) ∧ g = [] ∧ CellsAt H bk71 of72 [.int .i64 y52.A.Switch, .int .i64 y52.A.Port, .int .i64 y52.B.Switch, .int .i64 y52.B.Port]),
      (fun H v g => v = Value.int .i64 y52.A.Switch ∧ g = []),
      (fun H v g => v = Value.int .i64 y58 ∧ g = []),
      (fun H v g => v = Value.slice a0_0 x0.length c0_0 ∧ g = [] ∧ RSl H a0_0 c0_0 x0),
      (fun H v g => v = Value.int .i64 s41.2 ∧ g = []),
      (fun H v g => ∃ bk76 of77, v = Value.pointer (some ⟨bk76, of77, none⟩) ∧ g = [] ∧ CellsAt H bk76 of77 [.int .i64 y61.A.Switch, .int .i64 y61.A.Port, .int .i64 y61.B.Switch, .int .i64 y61.B.Port]),
      (fun H v g => ∃ bk76 of77, v = Value.pointer (some ⟨bk76, of77 + 2, none⟩) ∧ g = [] ∧ CellsAt H bk76 of77 [.int .i64 y61.A.Switch, .int .i64 y61.A.Port, .int .i64 y61.B.Switch, .int .i64 y61.B.Port]),
      (fun H v g => ∃ bk76 of77, v = Value.pointer (some ⟨bk76, of77 + 2, none⟩) ∧ g = [] ∧ CellsAt H bk76 of77 [.int .i64 y61.A.Switch, .int .i64 y61.A.Port, .int .i64 y61.B.Switch, .int .i64 y61.B.Port]),
      (fun H v g => v = Value.int .i64 y61.B.Switch ∧ g = []),
      (fun H v g => v = Value.int .i64 y67 ∧ g = []),
      (fun H v g => v = Value.int .i64 y58 ∧ g = [])] [[], [], [], [], [], [], [], [], [], [], [], [], [], [], []] mixed ⟨fun _ _ _ _ hle ⟨e1, e2, h0_⟩ => ⟨e1, e2, RSl.mono hle h0_⟩, m0, fun _ _ _ _ hle ⟨bk71, of72, e1, e2, h0_⟩ => ⟨_, _, e1, e2, CellsAt.mono hle h0_⟩, fun _ _ _ _ hle ⟨bk71, of72, e1, e2, h0_⟩ => ⟨_, _, e1, e2, CellsAt.mono hle h0_⟩, fun _ _ _ _ hle ⟨bk71, of72, e1, e2, h0_⟩ => ⟨_, _, e1, e2, CellsAt.mono hle h0_⟩, m0, m0, fun _ _ _ _ hle ⟨e1, e2, h0_⟩ => ⟨e1, e2, RSl.mono hle h0_⟩, m0, fun _ _ _ _ hle ⟨bk76, of77, e1, e2, h0_⟩ => ⟨_, _, e1, e2, CellsAt.mono hle h0_⟩, fun _ _ _ _ hle ⟨bk76, of77, e1, e2, h0_⟩ => ⟨_, _, e1, e2, CellsAt.mono hle h0_⟩, fun _ _ _ _ hle ⟨bk76, of77, e1, e2, h0_⟩ => ⟨_, _, e1, e2, CellsAt.mono hle h0_⟩, m0, m0, m0, trivial⟩ (by kernel_rfl) (by kernel_rfl) rfl (by kernel_rfl) rfl rfl ?_ ?_
          · refine dcons ?_ ?_
            · intro _ _ H82 fr83 hle84 hd85
              have hs87 := RSl.mono hle84 hs50
              refine ⟨_, some (), rfl, fun _ => ?_⟩
              refine s_env (env' := [(0, .slice a0_0 x0.length c0_0)]) (by exact ⟨rfl, trivial⟩) ?_
              refine o_mov rfl ?_
              exact s_pred fun _ _ _ hE hI => ⟨(.slice a0_0 x0.length c0_0), [], _, fun _ e => (by cases e; exact hE _ _ rfl), .refl _, by exact hI, ⟨rfl, rfl, hs87⟩⟩
            refine dcons ?_ ?_
            · intro _ _ H90 fr91 hle92 hd93
              refine ⟨_, some (), rfl, fun _ => ?_⟩
              refine s_env (env' := [(7, .int .i64 s41.2)]) (by exact ⟨rfl, trivial⟩) ?_
              refine o_mov rfl ?_
              exact s_pred fun _ _ _ hE hI => ⟨(.int .i64 s41.2), [], _, fun _ e => (by cases e; exact hE _ _ rfl), .refl _, by exact hI, ⟨rfl, rfl⟩⟩
            refine dcons ?_ ?_
            · intro _ _ H97 fr98 hle99 hd100
              obtain ⟨hv102, hg103, hp104⟩ := hd100 0 (by decide)
              obtain ⟨hv105, hg106⟩ := hd100 1 (by decide)
              refine ⟨_, (rd x0 s41.2).bind some, by rw [h57]; rfl, fun _ => ?_⟩
              refine s_env (env' := [(21, .slice a0_0 x0.length c0_0), (22, .int .i64 s41.2)]) (by exact ⟨congrArg some hv102, congrArg some hv105, trivial⟩) ?_
              refine o_ixf hp104 rfl rfl fun y52 bk108 of109 h107 hc110 => ?_
              obtain rfl := Option.some.inj (h57.symm.trans h107)
              exact s_pred fun _ _ _ hE hI => ⟨(.pointer (some ⟨bk108, of109, none⟩)), [], _, fun _ e => (by cases e; exact hE _ _ rfl), .refl _, by exact hI, ⟨bk108, of109, rfl, rfl, hc110⟩⟩
            refine dcons ?_ ?_
            · intro _ _ H113 fr114 hle115 hd116
              obtain ⟨bk118, of119, hv120, hg121, hp122⟩ := hd116 2 (by decide)
              refine ⟨_, some (), rfl, fun _ => ?_⟩
              refine s_env (env' := [(23, .pointer (some ⟨bk118, of119, none⟩))]) (by exact ⟨congrArg some hv120, trivial⟩) ?_
              refine o_fa rfl ?_
              exact s_pred fun _ _ _ hE hI => ⟨(.pointer (some ⟨bk118, of119, none⟩)), [], _, fun _ e => (by cases e; exact hE _ _ rfl), .refl _, by exact hI, ⟨bk118, of119, rfl, rfl, hp122⟩⟩
            refine dcons ?_ ?_
            · intro _ _ H125 fr126 hle127 hd128
              obtain ⟨bk130, of131, hv132, hg133, hp134⟩ := hd128 3 (by decide)
              refine ⟨_, some (), rfl, fun _ => ?_⟩
              refine s_env (env' := [(24, .pointer (some ⟨bk130, of131, none⟩))]) (by exact ⟨congrArg some hv132, trivial⟩) ?_
              refine o_fa rfl ?_
              exact s_pred fun _ _ _ hE hI => ⟨(.pointer (some ⟨bk130, of131, none⟩)), [], _, fun _ e => (by cases e; exact hE _ _ rfl), .refl _, by exact hI, ⟨bk130, of131, rfl, rfl, hp134⟩⟩
            refine dcons ?_ ?_
            · intro _ _ H137 fr138 hle139 hd140
              obtain ⟨bk142, of143, hv144, hg145, hp146⟩ := hd140 4 (by decide)
              refine ⟨_, some (), rfl, fun _ => ?_⟩
              refine s_env (env' := [(25, .pointer (some ⟨bk142, of143, none⟩))]) (by exact ⟨congrArg some hv144, trivial⟩) ?_
              refine o_ldH 0 hp146 rfl rfl rfl ?_
              exact s_pred fun _ _ _ hE hI => ⟨(.int .i64 y52.A.Switch), [], _, fun _ e => (by cases e; exact hE _ _ rfl), .refl _, by exact hI, ⟨rfl, rfl⟩⟩
            refine dcons ?_ ?_
            · intro _ _ H149 fr150 hle151 hd152
              obtain ⟨hv154, hg155⟩ := hd152 5 (by decide)
              refine ⟨_, (catenaryref00_Bring k y52.A.Switch 7).bind some, by rw [h60]; rfl, fun _ => ?_⟩
              refine s_env (env' := [(26, .int .i64 y52.A.Switch)]) (by exact ⟨congrArg some hv154, trivial⟩) ?_
              refine s_bg fun y58 h156 => ?_
              refine s_callF rfl rfl (catenaryref00_Bring_ok k _ y52.A.Switch 7 h156) ?_
              obtain rfl := Option.some.inj (h60.symm.trans h156)
              exact s_pred fun _ _ _ hE hI => ⟨(.int .i64 y58), [], _, fun _ e => (by cases e; exact hE _ _ rfl), .refl _, by exact hI, ⟨rfl, rfl⟩⟩
            refine dcons ?_ ?_
            · intro _ _ H159 fr160 hle161 hd162
              have hs164 := RSl.mono hle161 hs50
              refine ⟨_, some (), rfl, fun _ => ?_⟩
              refine s_env (env' := [(0, .slice a0_0 x0.length c0_0)]) (by exact ⟨rfl, trivial⟩) ?_
              refine o_mov rfl ?_
              exact s_pred fun _ _ _ hE hI => ⟨(.slice a0_0 x0.length c0_0), [], _, fun _ e => (by cases e; exact hE _ _ rfl), .refl _, by exact hI, ⟨rfl, rfl, hs164⟩⟩
            refine dcons ?_ ?_
            · intro _ _ H167 fr168 hle169 hd170
              refine ⟨_, some (), rfl, fun _ => ?_⟩
              refine s_env (env' := [(7, .int .i64 s41.2)]) (by exact ⟨rfl, trivial⟩) ?_
              refine o_mov rfl ?_
              exact s_pred fun _ _ _ hE hI => ⟨(.int .i64 s41.2), [], _, fun _ e => (by cases e; exact hE _ _ rfl), .refl _, by exact hI, ⟨rfl, rfl⟩⟩
            refine dcons ?_ ?_
            · intro _ _ H174 fr175 hle176 hd177
              obtain ⟨hv179, hg180, hp181⟩ := hd177 7 (by decide)
              obtain ⟨hv182, hg183⟩ := hd177 8 (by decide)
              refine ⟨_, (rd x0 s41.2).bind some, by rw [h66]; rfl, fun _ => ?_⟩
              refine s_env (env' := [(28, .slice a0_0 x0.length c0_0), (29, .int .i64 s41.2)]) (by exact ⟨congrArg some hv179, congrArg some hv182, trivial⟩) ?_
              refine o_ixf hp181 rfl rfl fun y61 bk185 of186 h184 hc187 => ?_
              obtain rfl := Option.some.inj (h66.symm.trans h184)
              exact s_pred fun _ _ _ hE hI => ⟨(.pointer (some ⟨bk185, of186, none⟩)), [], _, fun _ e => (by cases e; exact hE _ _ rfl), .refl _, by exact hI, ⟨bk185, of186, rfl, rfl, hc187⟩⟩
            refine dcons ?_ ?_
            · intro _ _ H190 fr191 hle192 hd193
              obtain ⟨bk195, of196, hv197, hg198, hp199⟩ := hd193 9 (by decide)
              refine ⟨_, some (), rfl, fun _ => ?_⟩
              refine s_env (env' := [(30, .pointer (some ⟨bk195, of196, none⟩))]) (by exact ⟨congrArg some hv197, trivial⟩) ?_
              refine o_fa rfl ?_
              exact s_pred fun _ _ _ hE hI => ⟨(.pointer (some ⟨bk195, of196 + 2, none⟩)), [], _, fun _ e => (by cases e; exact hE _ _ rfl), .refl _, by exact hI, ⟨bk195, of196, rfl, rfl, hp199⟩⟩
            refine dcons ?_ ?_
            · intro _ _ H202 fr203 hle204 hd205
              obtain ⟨bk207, of208, hv209, hg210, hp211⟩ := hd205 10 (by decide)
              refine ⟨_, some (), rfl, fun _ => ?_⟩
              refine s_env (env' := [(31, .pointer (some ⟨bk207, of208 + 2, none⟩))]) (by exact ⟨congrArg some hv209, trivial⟩) ?_
              refine o_fa rfl ?_
              exact s_pred fun _ _ _ hE hI => ⟨(.pointer (some ⟨bk207, of208 + 2, none⟩)), [], _, fun _ e => (by cases e; exact hE _ _ rfl), .refl _, by exact hI, ⟨bk207, of208, rfl, rfl, hp211⟩⟩
            refine dcons ?_ ?_
            · intro _ _ H214 fr215 hle216 hd217
              obtain ⟨bk219, of220, hv221, hg222, hp223⟩ := hd217 11 (by decide)
              refine ⟨_, some (), rfl, fun _ => ?_⟩
              refine s_env (env' := [(32, .pointer (some ⟨bk219, of220 + 2, none⟩))]) (by exact ⟨congrArg some hv221, trivial⟩) ?_
              refine o_ldH 2 hp223 rfl rfl rfl ?_
              exact s_pred fun _ _ _ hE hI => ⟨(.int .i64 y61.B.Switch), [], _, fun _ e => (by cases e; exact hE _ _ rfl), .refl _, by exact hI, ⟨rfl, rfl⟩⟩
            refine dcons ?_ ?_
            · intro _ _ H226 fr227 hle228 hd229
              obtain ⟨hv231, hg232⟩ := hd229 12 (by decide)
              refine ⟨_, (catenaryref00_Bring k y61.B.Switch 7).bind some, by rw [h69]; rfl, fun _ => ?_⟩
              refine s_env (env' := [(33, .int .i64 y61.B.Switch)]) (by exact ⟨congrArg some hv231, trivial⟩) ?_
              refine s_bg fun y67 h233 => ?_
              refine s_callF rfl rfl (catenaryref00_Bring_ok k _ y61.B.Switch 7 h233) ?_
              obtain rfl := Option.some.inj (h69.symm.trans h233)
              exact s_pred fun _ _ _ hE hI => ⟨(.int .i64 y67), [], _, fun _ e => (by cases e; exact hE _ _ rfl), .refl _, by exact hI, ⟨rfl, rfl⟩⟩
            refine dcons ?_ ?_
            · intro _ _ H236 fr237 hle238 hd239
              obtain ⟨hv241, hg242⟩ := hd239 6 (by decide)
              refine ⟨_, some (), rfl, fun _ => ?_⟩
              refine s_env (env' := [(27, .int .i64 y58)]) (by exact ⟨congrArg some hv241, trivial⟩) ?_
              refine o_asg rfl ?_
              exact s_pred fun _ _ _ hE hI => ⟨(.int .i64 y58), [], _, fun _ e => (by cases e; exact hE _ _ rfl), .refl _, by exact hI, ⟨rfl, rfl⟩⟩
            exact dnil
          · intro V245 G246 H243 hle244 hF247
            have hs248 := RSl.mono hle244 hs50
            have hA249 := All2.mono (fun _ _ => GoT.mono hle244) hA45
            obtain ⟨hv250, hg251⟩ := hF247 13 (show 13 < 15 by decide)
            obtain ⟨hv252, hg253⟩ := hF247 14 (show 14 < 15 by decide)
            refine s_env (env' := [(34, .int .i64 y67), (8, .int .i64 y58), (0, .slice a0_0 x0.length c0_0), (1, .int .i64 x1), (5, .slice a42 s41.1.length c43), (6, .int .i64 s21.2), (7, .int .i64 s41.2), (15, .int .i64 s41.2), (16, .slice a0_0 x0.length c0_0), (17, .int .i64 (x0.length : Int)), (18, .bool (decide (s41.2 < (x0.length : Int))))]) (by exact ⟨congrArg some hv250, congrArg some hv252, rfl, rfl, rfl, rfl, rfl, rfl, rfl, rfl, rfl, trivial⟩) ?_
            refine s_own (List.sublist_append_left _ _) ?_
            refine o_asg rfl ?_
            refine s_done ?_
            refine s_seq ?_
            refine s_seq ?_
            refine s_join (fun p254 env own H' => ∃ a255 c256 ls257, env = [(0, .slice a0_0 x0.length c0_0), (1, .int .i64 x1), (5, .slice a255 p254.1.length c256), (6, .int .i64 s21.2), (7, .int .i64 s41.2), (8, .int .i64 y58), (9, .int .i64 y67), (58, .bool p254.2)] ∧ own = [.osl (.slice a255 p254.1.length c256) 1 3 ls257] ∧ Hle H243 H' ∧ All2 (GoT.rep H') ls257 p254.1) ?_ ?_
            · rintro p254 _ _ H259 ⟨a255, c256, ls257, rfl, rfl, hle260, hA258⟩
              have hs261 := RSl.mono hle260 hs248
              refine s_join (fun p262 env own H' => ∃ a263 c264 ls265, env = [(0, .slice a0_0 x0.length c0_0), (1, .int .i64 x1), (5, .slice a263 p262.length c264), (6, .int .i64 s21.2), (7, .int .i64 s41.2), (8, .int .i64 y58), (9, .int .i64 y67)] ∧ own = [.osl (.slice a263 p262.length c264) 1 3 ls265] ∧ Hle H259 H' ∧ All2 (GoT.rep H') ls265 p262) ?_ ?_
              · rintro p262 _ _ H267 ⟨a263, c264, ls265, rfl, rfl, hle268, hA266⟩
                have hs269 := RSl.mono hle268 hs261
                refine s_seq ?_
                refine s_join (fun p270 env own H' => ∃ a271 c272 ls273, env = [(0, .slice a0_0 x0.length c0_0), (1, .int .i64 x1), (5, .slice a271 p270.1.length c272), (6, .int .i64 s21.2), (7, .int .i64 s41.2), (8, .int .i64 y58), (9, .int .i64 y67), (90, .bool p270.2)] ∧ own = [.osl (.slice a271 p270.1.length c272) 1 3 ls273] ∧ Hle H267 H' ∧ All2 (GoT.rep H') ls273 p270.1) ?_ ?_
                · rintro p270 _ _ H275 ⟨a271, c272, ls273, rfl, rfl, hle276, hA274⟩
                  have hs277 := RSl.mono hle276 hs269
                  refine s_cond rfl (fun h278 => ?_) (fun h278 => ?_)
                  · refine s_region ?_
                    refine o_mov rfl ?_
                    refine o_mov rfl ?_
                    refine o_mov rfl ?_
                    refine o_mov rfl ?_
                    refine o_ixO 0 rfl hA274 rfl rfl fun y279 bk281 vs282 h280 ha283 hi284 hr285 => ?_
                    subst hr285
                    subst ha283
                    refine o_ldO 0 0 rfl hi284 rfl rfl rfl ?_
                    refine o_add rfl rfl ?_
                    refine o_ixO 0 rfl hA274 rfl rfl fun y286 bk288 vs289 h287 ha290 hi291 hr292 => ?_
                    subst hr292
                    obtain rfl := s_bk ha290
                    refine o_stV (l := p270.1) (ci := y58) 0 0 rfl hA274 hi291 rfl rfl rfl rfl rfl rfl (w64 (y279 + 1)) (rfl) fun ls293 hA294 => ?_
                    refine s_env (env' := [(0, .slice a0_0 x0.length c0_0), (1, .int .i64 x1), (5, .slice (some ⟨bk281, 0, none⟩) (p270.1.set (y58 : Int).toNat (w64 (y279 + 1))).length c272), (6, .int .i64 s21.2), (7, .int .i64 s41.2), (8, .int .i64 y58), (9, .int .i64 y67), (90, .bool p270.2), (91, .slice (some ⟨bk281, 0, none⟩) (p270.1.set (y58 : Int).toNat (w64 (y279 + 1))).length c272), (92, .int .i64 y58), (93, .slice (some ⟨bk281, 0, none⟩) (p270.1.set (y58 : Int).toNat (w64 (y279 + 1))).length c272), (94, .int .i64 y67), (96, .int .i64 y279), (97, .int .i64 (w64 (y279 + 1)))]) (by exact ⟨rfl, rfl, (by first | (simp only [List.length_set]; rfl) | rfl), rfl, rfl, rfl, rfl, rfl, (by first | (simp only [List.length_set]; rfl) | rfl), rfl, (by first | (simp only [List.length_set]; rfl) | rfl), rfl, rfl, rfl, trivial⟩) ?_
                    refine s_ownE (own' := [.osl (.slice (some ⟨bk281, 0, none⟩) (p270.1.set (y58 : Int).toNat (w64 (y279 + 1))).length c272) 1 3 ls293]) (by first | (simp only [List.length_set]; done) | (simp only [List.length_set]; rfl) | rfl) ?_
                    refine s_done ?_
                    refine s_inBlock ?_
                    refine s_region ?_
                    refine o_mov rfl ?_
                    refine o_add rfl rfl ?_
                    refine o_asg rfl ?_
                    refine s_done ?_
                    exact s_env (by exact ⟨rfl, rfl, rfl, rfl, rfl, trivial⟩) (s_own (by exact (.cons_cons _ .slnil)) (ih47 ((p270.1.set (y58 : Int).toNat (w64 (y279 + 1))), w64 (s41.2 + 1)) _ _ _ ⟨_, _, _, rfl, rfl, (Hle.trans (Hle.trans (Hle.trans (Hle.trans hle49 hle244) hle260) hle268) hle276), hA294⟩))
                  · refine s_skip ?_
                    refine s_inBlock ?_
                    refine s_region ?_
                    refine o_mov rfl ?_
                    refine o_add rfl rfl ?_
                    refine o_asg rfl ?_
                    refine s_done ?_
                    exact s_env (by exact ⟨rfl, rfl, rfl, rfl, rfl, trivial⟩) (s_own (by exact (.cons_cons _ .slnil)) (ih47 (p270.1, w64 (s41.2 + 1)) _ _ _ ⟨_, _, _, rfl, rfl, (Hle.trans (Hle.trans (Hle.trans (Hle.trans hle49 hle244) hle260) hle268) hle276), hA274⟩))
                · intro J295
                  refine s_bg fun y296 h303 => ?_
                  refine s_addr 0 rfl hA266 h303 fun bk298 ha304 => ?_
                  subst ha304
                  refine s_split (decide (y296 ≥ 0)) (fun h305 => ?_) (fun h305 => ?_)
                  · refine s_bg fun y306 h313 => ?_
                    refine s_split (decide (y306 < 0)) (fun h314 => ?_) (fun h314 => ?_)
                    · refine s_drawL [(fun H v g => v = Value.slice (some ⟨bk298, 0, none⟩) p262.length c264 ∧ g = []),
      (fun H v g => v = Value.int .i64 y67 ∧ g = []),
      (fun H v g => v = Value.pointer (some ⟨bk298, (y67 : Int).toNat * GoT.sz (Int), none⟩) ∧ g = [] ∧ (ls265)[(y67 : Int).toNat]? = some [.int .i64 y296]),
      (fun H v g => v = Value.int .i64 y296 ∧ g = []),
      (fun H v g => v = Value.bool (decide (y296 ≥ 0)) ∧ g = []),
      (fun H v g => v = Value.bool (decide (y296 ≥ 0)) ∧ g = []),
      (fun H v g => v = Value.slice (some ⟨bk298, 0, none⟩) p262.length c264 ∧ g = []),
      (fun H v g => v = Value.int .i64 y58 ∧ g = []),
      (fun H v g => v = Value.pointer (some ⟨bk298, (y58 : Int).toNat * GoT.sz (Int), none⟩) ∧ g = [] ∧ (ls265)[(y58 : Int).toNat]? = some [.int .i64 y306]),
      (fun H v g => v = Value.int .i64 y306 ∧ g = []),
      (fun H v g => v = Value.bool (decide (y306 < 0)) ∧ g = []),
      (fun H v g => v = Value.bool (decide (y306 < 0)) ∧ g = []),
      uF,
      uF,
      uF,
      uF,
      uF,
      uF,
      uF,
      uF,
      uF,
      uF,
      (fun H v g => v = Value.bool true ∧ g = []),
      (fun H v g => v = Value.bool true ∧ g = [])] [[], [], [], [], [], [], [], [], [], [], [], [], [], [], [], [], [], [], [], [], [], [], [], []] mixed ⟨m0, m0, m0, m0, m0, m0, m0, m0, m0, m0, m0, m0, m0, m0, m0, m0, m0, m0, m0, m0, m0, m0, m0, m0, trivial⟩ (by kernel_rfl) (by kernel_rfl) rfl (by kernel_rfl) rfl rfl ?_ ?_
                      · refine dcons ?_ ?_
                        · intro _ _ H329 fr330 hle331 hd332
                          have hA334 := All2.mono (fun _ _ => GoT.mono hle331) hA266
                          refine ⟨_, some (), rfl, fun _ => ?_⟩
                          refine s_env (env' := [(5, .slice (some ⟨bk298, 0, none⟩) p262.length c264)]) (by exact ⟨rfl, trivial⟩) ?_
                          refine o_mov rfl ?_
                          exact s_pred fun _ _ _ hE hI => ⟨(.slice (some ⟨bk298, 0, none⟩) p262.length c264), [], _, fun _ e => (by cases e; exact hE _ _ rfl), .refl _, by exact hI, ⟨rfl, rfl⟩⟩
                        refine dcons ?_ ?_
                        · intro _ _ H337 fr338 hle339 hd340
                          refine ⟨_, some (), rfl, fun _ => ?_⟩
                          refine s_env (env' := [(9, .int .i64 y67)]) (by exact ⟨rfl, trivial⟩) ?_
                          refine o_mov rfl ?_
                          exact s_pred fun _ _ _ hE hI => ⟨(.int .i64 y67), [], _, fun _ e => (by cases e; exact hE _ _ rfl), .refl _, by exact hI, ⟨rfl, rfl⟩⟩
                        refine dcons ?_ ?_
                        · intro _ _ H344 fr345 hle346 hd347
                          have hA349 := All2.mono (fun _ _ => GoT.mono hle346) hA266
                          obtain ⟨hv350, hg351⟩ := hd347 0 (by decide)
                          obtain ⟨hv352, hg353⟩ := hd347 1 (by decide)
                          refine ⟨_, (rd p262 y67).bind some, by rw [h303]; rfl, fun _ => ?_⟩
                          refine s_env (env' := [(67, .slice (some ⟨bk298, 0, none⟩) p262.length c264), (68, .int .i64 y67)]) (by exact ⟨congrArg some hv350, congrArg some hv352, trivial⟩) ?_
                          refine o_ixO 0 rfl hA349 rfl rfl fun y296 bk355 vs356 h354 ha357 hi358 hr359 => ?_
                          subst hr359
                          obtain rfl := s_bk ha357
                          obtain rfl := Option.some.inj (h303.symm.trans h354)
                          exact s_pred fun _ _ _ hE hI => ⟨(.pointer (some ⟨bk298, (y67 : Int).toNat * GoT.sz (Int), none⟩)), [], _, fun _ e => (by cases e; exact hE _ _ rfl), .refl _, by exact hI, ⟨rfl, rfl, hi358⟩⟩
                        refine dcons ?_ ?_
                        · intro _ _ H362 fr363 hle364 hd365
                          have hA367 := All2.mono (fun _ _ => GoT.mono hle364) hA266
                          obtain ⟨hv368, hg369, hp370⟩ := hd365 2 (by decide)
                          refine ⟨_, some (), rfl, fun _ => ?_⟩
                          refine s_env (env' := [(69, .pointer (some ⟨bk298, (y67 : Int).toNat * GoT.sz (Int), none⟩))]) (by exact ⟨congrArg some hv368, trivial⟩) ?_
                          refine o_ldO 0 0 rfl hp370 rfl rfl rfl ?_
                          exact s_pred fun _ _ _ hE hI => ⟨(.int .i64 y296), [], _, fun _ e => (by cases e; exact hE _ _ rfl), .refl _, by exact hI, ⟨rfl, rfl⟩⟩
                        refine dcons ?_ ?_
                        · intro _ _ H373 fr374 hle375 hd376
                          obtain ⟨hv378, hg379⟩ := hd376 3 (by decide)
                          refine ⟨_, some (), rfl, fun _ => ?_⟩
                          refine s_env (env' := [(70, .int .i64 y296)]) (by exact ⟨congrArg some hv378, trivial⟩) ?_
                          refine o_ge rfl rfl ?_
                          exact s_pred fun _ _ _ hE hI => ⟨(.bool (decide (y296 ≥ 0))), [], _, fun _ e => (by cases e; exact hE _ _ rfl), .refl _, by exact hI, ⟨rfl, rfl⟩⟩
                        refine dcons ?_ ?_
                        · intro _ _ H382 fr383 hle384 hd385
                          obtain ⟨hv387, hg388⟩ := hd385 4 (by decide)
                          refine ⟨_, some (), rfl, fun _ => ?_⟩
                          refine s_env (env' := [(71, .bool (decide (y296 ≥ 0)))]) (by exact ⟨congrArg some hv387, trivial⟩) ?_
                          refine o_mov rfl ?_
                          exact s_pred fun _ _ _ hE hI => ⟨(.bool (decide (y296 ≥ 0))), [], _, fun _ e => (by cases e; exact hE _ _ rfl), .refl _, by exact hI, ⟨rfl, rfl⟩⟩
                        refine dcons ?_ ?_
                        · intro _ _ H391 fr392 hle393 hd394
                          have hA396 := All2.mono (fun _ _ => GoT.mono hle393) hA266
                          obtain ⟨hv397, hg398⟩ := hd394 5 (by decide)
                          refine ⟨_, some (), rfl, fun _ => ?_⟩
                          refine s_env (env' := [(72, .bool (decide (y296 ≥ 0))), (5, .slice (some ⟨bk298, 0, none⟩) p262.length c264)]) (by exact ⟨congrArg some hv397, rfl, trivial⟩) ?_
                          refine s_want rfl rfl h305 ?_
                          refine o_mov rfl ?_
                          exact s_pred fun _ _ _ hE hI => ⟨(.slice (some ⟨bk298, 0, none⟩) p262.length c264), [], _, fun _ e => (by cases e; exact hE _ _ rfl), .refl _, by exact hI, ⟨rfl, rfl⟩⟩
                        refine dcons ?_ ?_
                        · intro _ _ H401 fr402 hle403 hd404
                          obtain ⟨hv406, hg407⟩ := hd404 5 (by decide)
                          refine ⟨_, some (), rfl, fun _ => ?_⟩
                          refine s_env (env' := [(72, .bool (decide (y296 ≥ 0))), (8, .int .i64 y58)]) (by exact ⟨congrArg some hv406, rfl, trivial⟩) ?_
                          refine s_want rfl rfl h305 ?_
                          refine o_mov rfl ?_
                          exact s_pred fun _ _ _ hE hI => ⟨(.int .i64 y58), [], _, fun _ e => (by cases e; exact hE _ _ rfl), .refl _, by exact hI, ⟨rfl, rfl⟩⟩
                        refine dcons ?_ ?_
                        · intro _ _ H410 fr411 hle412 hd413
                          have hA415 := All2.mono (fun _ _ => GoT.mono hle412) hA266
                          obtain ⟨hv416, hg417⟩ := hd413 5 (by decide)
                          obtain ⟨hv418, hg419⟩ := hd413 6 (by decide)
                          obtain ⟨hv420, hg421⟩ := hd413 7 (by decide)
                          refine ⟨_, (rd p262 y58).bind some, by rw [h313]; rfl, fun _ => ?_⟩
                          refine s_env (env' := [(72, .bool (decide (y296 ≥ 0))), (73, .slice (some ⟨bk298, 0, none⟩) p262.length c264), (74, .int .i64 y58)]) (by exact ⟨congrArg some hv416, congrArg some hv418, congrArg some hv420, trivial⟩) ?_
                          refine s_want rfl rfl h305 ?_
                          refine o_ixO 0 rfl hA415 rfl rfl fun y306 bk423 vs424 h422 ha425 hi426 hr427 => ?_
                          subst hr427
                          obtain rfl := s_bk ha425
                          obtain rfl := Option.some.inj (h313.symm.trans h422)
                          exact s_pred fun _ _ _ hE hI => ⟨(.pointer (some ⟨bk298, (y58 : Int).toNat * GoT.sz (Int), none⟩)), [], _, fun _ e => (by cases e; exact hE _ _ rfl), .refl _, by exact hI, ⟨rfl, rfl, hi426⟩⟩
                        refine dcons ?_ ?_
                        · intro _ _ H430 fr431 hle432 hd433
                          have hA435 := All2.mono (fun _ _ => GoT.mono hle432) hA266
                          obtain ⟨hv436, hg437⟩ := hd433 5 (by decide)
                          obtain ⟨hv438, hg439, hp440⟩ := hd433 8 (by decide)
                          refine ⟨_, some (), rfl, fun _ => ?_⟩
                          refine s_env (env' := [(72, .bool (decide (y296 ≥ 0))), (75, .pointer (some ⟨bk298, (y58 : Int).toNat * GoT.sz (Int), none⟩))]) (by exact ⟨congrArg some hv436, congrArg some hv438, trivial⟩) ?_
                          refine s_want rfl rfl h305 ?_
                          refine o_ldO 0 0 rfl hp440 rfl rfl rfl ?_
                          exact s_pred fun _ _ _ hE hI => ⟨(.int .i64 y306), [], _, fun _ e => (by cases e; exact hE _ _ rfl), .refl _, by exact hI, ⟨rfl, rfl⟩⟩
                        refine dcons ?_ ?_
                        · intro _ _ H443 fr444 hle445 hd446
                          obtain ⟨hv448, hg449⟩ := hd446 5 (by decide)
                          obtain ⟨hv450, hg451⟩ := hd446 9 (by decide)
                          refine ⟨_, some (), rfl, fun _ => ?_⟩
                          refine s_env (env' := [(72, .bool (decide (y296 ≥ 0))), (76, .int .i64 y306)]) (by exact ⟨congrArg some hv448, congrArg some hv450, trivial⟩) ?_
                          refine s_want rfl rfl h305 ?_
                          refine o_lt rfl rfl ?_
                          exact s_pred fun _ _ _ hE hI => ⟨(.bool (decide (y306 < 0))), [], _, fun _ e => (by cases e; exact hE _ _ rfl), .refl _, by exact hI, ⟨rfl, rfl⟩⟩
                        refine dcons ?_ ?_
                        · intro _ _ H454 fr455 hle456 hd457
                          obtain ⟨hv459, hg460⟩ := hd457 5 (by decide)
                          obtain ⟨hv461, hg462⟩ := hd457 10 (by decide)
                          refine ⟨_, some (), rfl, fun _ => ?_⟩
                          refine s_env (env' := [(72, .bool (decide (y296 ≥ 0))), (77, .bool (decide (y306 < 0)))]) (by exact ⟨congrArg some hv459, congrArg some hv461, trivial⟩) ?_
                          refine s_want rfl rfl h305 ?_
                          refine o_mov rfl ?_
                          exact s_pred fun _ _ _ hE hI => ⟨(.bool (decide (y306 < 0))), [], _, fun _ e => (by cases e; exact hE _ _ rfl), .refl _, by exact hI, ⟨rfl, rfl⟩⟩
                        refine dcons ?_ ?_
                        · intro _ _ H465 fr466 hle467 hd468
                          have hA470 := All2.mono (fun _ _ => GoT.mono hle467) hA266
                          obtain ⟨hv471, hg472⟩ := hd468 11 (by decide)
                          refine ⟨_, some (), rfl, fun _ => ?_⟩
                          refine s_env (env' := [(78, .bool (decide (y306 < 0))), (5, .slice (some ⟨bk298, 0, none⟩) p262.length c264)]) (by exact ⟨congrArg some hv471, rfl, trivial⟩) ?_
                          refine s_unwant rfl rfl h314 ?_
                          exact s_pred fun _ _ _ hE hI => ⟨undef, [], _, fun _ e => (by cases e; exact hE _ _ rfl), .refl _, by exact hI, ⟨rfl, rfl⟩⟩
                        refine dcons ?_ ?_
                        · intro _ _ H475 fr476 hle477 hd478
                          obtain ⟨hv480, hg481⟩ := hd478 11 (by decide)
                          refine ⟨_, some (), rfl, fun _ => ?_⟩
                          refine s_env (env' := [(78, .bool (decide (y306 < 0))), (8, .int .i64 y58)]) (by exact ⟨congrArg some hv480, rfl, trivial⟩) ?_
                          refine s_unwant rfl rfl h314 ?_
                          exact s_pred fun _ _ _ hE hI => ⟨undef, [], _, fun _ e => (by cases e; exact hE _ _ rfl), .refl _, by exact hI, ⟨rfl, rfl⟩⟩
                        refine dcons ?_ ?_
                        · intro _ _ H484 fr485 hle486 hd487
                          obtain ⟨hv489, hg490⟩ := hd487 11 (by decide)
                          obtain ⟨hv491, hg492⟩ := hd487 12 (by decide)
                          obtain ⟨hv493, hg494⟩ := hd487 13 (by decide)
                          refine ⟨_, some (), rfl, fun _ => ?_⟩
                          refine s_env (env' := [(78, .bool (decide (y306 < 0))), (79, undef), (80, undef)]) (by exact ⟨congrArg some hv489, congrArg some hv491, congrArg some hv493, trivial⟩) ?_
                          refine s_unwant rfl rfl h314 ?_
                          exact s_pred fun _ _ _ hE hI => ⟨undef, [], _, fun _ e => (by cases e; exact hE _ _ rfl), .refl _, by exact hI, ⟨rfl, rfl⟩⟩
                        refine dcons ?_ ?_
                        · intro _ _ H497 fr498 hle499 hd500
                          obtain ⟨hv502, hg503⟩ := hd500 11 (by decide)
                          obtain ⟨hv504, hg505⟩ := hd500 14 (by decide)
                          refine ⟨_, some (), rfl, fun _ => ?_⟩
                          refine s_env (env' := [(78, .bool (decide (y306 < 0))), (81, undef)]) (by exact ⟨congrArg some hv502, congrArg some hv504, trivial⟩) ?_
                          refine s_unwant rfl rfl h314 ?_
                          exact s_pred fun _ _ _ hE hI => ⟨undef, [], _, fun _ e => (by cases e; exact hE _ _ rfl), .refl _, by exact hI, ⟨rfl, rfl⟩⟩
                        refine dcons ?_ ?_
                        · intro _ _ H508 fr509 hle510 hd511
                          have hA513 := All2.mono (fun _ _ => GoT.mono hle510) hA266
                          obtain ⟨hv514, hg515⟩ := hd511 11 (by decide)
                          refine ⟨_, some (), rfl, fun _ => ?_⟩
                          refine s_env (env' := [(78, .bool (decide (y306 < 0))), (5, .slice (some ⟨bk298, 0, none⟩) p262.length c264)]) (by exact ⟨congrArg some hv514, rfl, trivial⟩) ?_
                          refine s_unwant rfl rfl h314 ?_
                          exact s_pred fun _ _ _ hE hI => ⟨undef, [], _, fun _ e => (by cases e; exact hE _ _ rfl), .refl _, by exact hI, ⟨rfl, rfl⟩⟩
                        refine dcons ?_ ?_
                        · intro _ _ H518 fr519 hle520 hd521
                          obtain ⟨hv523, hg524⟩ := hd521 11 (by decide)
                          refine ⟨_, some (), rfl, fun _ => ?_⟩
                          refine s_env (env' := [(78, .bool (decide (y306 < 0))), (9, .int .i64 y67)]) (by exact ⟨congrArg some hv523, rfl, trivial⟩) ?_
                          refine s_unwant rfl rfl h314 ?_
                          exact s_pred fun _ _ _ hE hI => ⟨undef, [], _, fun _ e => (by cases e; exact hE _ _ rfl), .refl _, by exact hI, ⟨rfl, rfl⟩⟩
                        refine dcons ?_ ?_
                        · intro _ _ H527 fr528 hle529 hd530
                          obtain ⟨hv532, hg533⟩ := hd530 11 (by decide)
                          obtain ⟨hv534, hg535⟩ := hd530 16 (by decide)
                          obtain ⟨hv536, hg537⟩ := hd530 17 (by decide)
                          refine ⟨_, some (), rfl, fun _ => ?_⟩
                          refine s_env (env' := [(78, .bool (decide (y306 < 0))), (83, undef), (84, undef)]) (by exact ⟨congrArg some hv532, congrArg some hv534, congrArg some hv536, trivial⟩) ?_
                          refine s_unwant rfl rfl h314 ?_
                          exact s_pred fun _ _ _ hE hI => ⟨undef, [], _, fun _ e => (by cases e; exact hE _ _ rfl), .refl _, by exact hI, ⟨rfl, rfl⟩⟩
                        refine dcons ?_ ?_
                        · intro _ _ H540 fr541 hle542 hd543
                          obtain ⟨hv545, hg546⟩ := hd543 11 (by decide)
                          obtain ⟨hv547, hg548⟩ := hd543 18 (by decide)
                          refine ⟨_, some (), rfl, fun _ => ?_⟩
                          refine s_env (env' := [(78, .bool (decide (y306 < 0))), (85, undef)]) (by exact ⟨congrArg some hv545, congrArg some hv547, trivial⟩) ?_
                          refine s_unwant rfl rfl h314 ?_
                          exact s_pred fun _ _ _ hE hI => ⟨undef, [], _, fun _ e => (by cases e; exact hE _ _ rfl), .refl _, by exact hI, ⟨rfl, rfl⟩⟩
                        refine dcons ?_ ?_
                        · intro _ _ H551 fr552 hle553 hd554
                          obtain ⟨hv556, hg557⟩ := hd554 11 (by decide)
                          obtain ⟨hv558, hg559⟩ := hd554 19 (by decide)
                          refine ⟨_, some (), rfl, fun _ => ?_⟩
                          refine s_env (env' := [(78, .bool (decide (y306 < 0))), (86, undef)]) (by exact ⟨congrArg some hv556, congrArg some hv558, trivial⟩) ?_
                          refine s_unwant rfl rfl h314 ?_
                          exact s_pred fun _ _ _ hE hI => ⟨undef, [], _, fun _ e => (by cases e; exact hE _ _ rfl), .refl _, by exact hI, ⟨rfl, rfl⟩⟩
                        refine dcons ?_ ?_
                        · intro _ _ H562 fr563 hle564 hd565
                          obtain ⟨hv567, hg568⟩ := hd565 11 (by decide)
                          obtain ⟨hv569, hg570⟩ := hd565 15 (by decide)
                          obtain ⟨hv571, hg572⟩ := hd565 20 (by decide)
                          refine ⟨_, some (), rfl, fun _ => ?_⟩
                          refine s_env (env' := [(78, .bool (decide (y306 < 0))), (82, undef), (87, undef)]) (by exact ⟨congrArg some hv567, congrArg some hv569, congrArg some hv571, trivial⟩) ?_
                          refine s_unwant rfl rfl h314 ?_
                          exact s_pred fun _ _ _ hE hI => ⟨undef, [], _, fun _ e => (by cases e; exact hE _ _ rfl), .refl _, by exact hI, ⟨rfl, rfl⟩⟩
                        refine dcons ?_ ?_
                        · intro _ _ H575 fr576 hle577 hd578
                          obtain ⟨hv580, hg581⟩ := hd578 5 (by decide)
                          obtain ⟨hv582, hg583⟩ := hd578 11 (by decide)
                          obtain ⟨hv584, hg585⟩ := hd578 21 (by decide)
                          refine ⟨_, some (), rfl, fun _ => ?_⟩
                          refine s_env (env' := [(72, .bool (decide (y296 ≥ 0))), (78, .bool (decide (y306 < 0))), (88, undef)]) (by exact ⟨congrArg some hv580, congrArg some hv582, congrArg some hv584, trivial⟩) ?_
                          refine s_want rfl rfl h305 ?_
                          refine o_pickT rfl h314 rfl ?_
                          exact s_pred fun _ _ _ hE hI => ⟨(.bool true), [], _, fun _ e => (by cases e; exact hE _ _ rfl), .refl _, by exact hI, ⟨rfl, rfl⟩⟩
                        refine dcons ?_ ?_
                        · intro _ _ H588 fr589 hle590 hd591
                          obtain ⟨hv593, hg594⟩ := hd591 5 (by decide)
                          obtain ⟨hv595, hg596⟩ := hd591 22 (by decide)
                          refine ⟨_, some (), rfl, fun _ => ?_⟩
                          refine s_env (env' := [(72, .bool (decide (y296 ≥ 0))), (89, .bool true)]) (by exact ⟨congrArg some hv593, congrArg some hv595, trivial⟩) ?_
                          refine o_pickT rfl h305 rfl ?_
                          exact s_pred fun _ _ _ hE hI => ⟨(.bool true), [], _, fun _ e => (by cases e; exact hE _ _ rfl), .refl _, by exact hI, ⟨rfl, rfl⟩⟩
                        exact dnil
                      · intro V599 G600 H597 hle598 hF601
                        have hs602 := RSl.mono hle598 hs269
                        have hA603 := All2.mono (fun _ _ => GoT.mono hle598) hA266
                        obtain ⟨hv604, hg605⟩ := hF601 23 (show 23 < 24 by decide)
                        refine s_env (env' := [(90, .bool true), (0, .slice a0_0 x0.length c0_0), (1, .int .i64 x1), (5, .slice (some ⟨bk298, 0, none⟩) p262.length c264), (6, .int .i64 s21.2), (7, .int .i64 s41.2), (8, .int .i64 y58), (9, .int .i64 y67)]) (by exact ⟨congrArg some hv604, rfl, rfl, rfl, rfl, rfl, rfl, rfl, trivial⟩) ?_
                        refine s_own (List.sublist_append_left _ _) ?_
                        refine s_done ?_
                        exact s_env (by exact ⟨rfl, rfl, rfl, rfl, rfl, rfl, rfl, rfl, trivial⟩) (s_own (by exact (.cons_cons _ .slnil)) (J295 (p262, true) _ _ _ ⟨_, _, _, rfl, rfl, hle598, hA603⟩))
                    · refine s_bg fun y606 h613 => ?_
                      refine s_bg fun y614 h621 => ?_
                      refine s_drawL [(fun H v g => v = Value.slice (some ⟨bk298, 0, none⟩) p262.length c264 ∧ g = []),
      (fun H v g => v = Value.int .i64 y67 ∧ g = []),
      (fun H v g => v = Value.pointer (some ⟨bk298, (y67 : Int).toNat * GoT.sz (Int), none⟩) ∧ g = [] ∧ (ls265)[(y67 : Int).toNat]? = some [.int .i64 y296]),
      (fun H v g => v = Value.int .i64 y296 ∧ g = []),
      (fun H v g => v = Value.bool (decide (y296 ≥ 0)) ∧ g = []),
      (fun H v g => v = Value.bool (decide (y296 ≥ 0)) ∧ g = []),
      (fun H v g => v = Value.slice (some ⟨bk298, 0, none⟩) p262.length c264 ∧ g = []),
      (fun H v g => v = Value.int .i64 y58 ∧ g = []),
      (fun H v g => v = Value.pointer (some ⟨bk298, (y58 : Int).toNat * GoT.sz (Int), none⟩) ∧ g = [] ∧ (ls265)[(y58 : Int).toNat]? = some [.int .i64 y306]),
      (fun H v g => v = Value.int .i64 y306 ∧ g = []),
      (fun H v g => v = Value.bool (decide (y306 < 0)) ∧ g = []),
      (fun H v g => v = Value.bool (decide (y306 < 0)) ∧ g = []),
      (fun H v g => v = Value.slice (some ⟨bk298, 0, none⟩) p262.length c264 ∧ g = []),
      (fun H v g => v = Value.int .i64 y58 ∧ g = []),
      (fun H v g => v = Value.pointer (some ⟨bk298, (y58 : Int).toNat * GoT.sz (Int), none⟩) ∧ g = [] ∧ (ls265)[(y58 : Int).toNat]? = some [.int .i64 y606]),
      (fun H v g => v = Value.int .i64 y606 ∧ g = []),
      (fun H v g => v = Value.slice (some ⟨bk298, 0, none⟩) p262.length c264 ∧ g = []),
      (fun H v g => v = Value.int .i64 y67 ∧ g = []),
      (fun H v g => v = Value.pointer (some ⟨bk298, (y67 : Int).toNat * GoT.sz (Int), none⟩) ∧ g = [] ∧ (ls265)[(y67 : Int).toNat]? = some [.int .i64 y614]),
      (fun H v g => v = Value.int .i64 y614 ∧ g = []),
      (fun H v g => v = Value.int .i64 (w64 (y614 + 1)) ∧ g = []),
      (fun H v g => v = Value.bool (decide (y606 > (w64 (y614 + 1)))) ∧ g = []),
      (fun H v g => v = Value.bool (decide (y606 > (w64 (y614 + 1)))) ∧ g = []),
      (fun H v g => v = Value.bool (decide (y606 > (w64 (y614 + 1)))) ∧ g = [])] [[], [], [], [], [], [], [], [], [], [], [], [], [], [], [], [], [], [], [], [], [], [], [], []] mixed ⟨m0, m0, m0, m0, m0, m0, m0, m0, m0, m0, m0, m0, m0, m0, m0, m0, m0, m0, m0, m0, m0, m0, m0, m0, trivial⟩ (by kernel_rfl) (by kernel_rfl) rfl (by kernel_rfl) rfl rfl ?_ ?_
                      · refine dcons ?_ ?_
                        · intro _ _ H648 fr649 hle650 hd651
                          have hA653 := All2.mono (fun _ _ => GoT.mono hle650) hA266
                          refine ⟨_, some (), rfl, fun _ => ?_⟩
                          refine s_env (env' := [(5, .slice (some ⟨bk298, 0, none⟩) p262.length c264)]) (by exact ⟨rfl, trivial⟩) ?_
                          refine o_mov rfl ?_
                          exact s_pred fun _ _ _ hE hI => ⟨(.slice (some ⟨bk298, 0, none⟩) p262.length c264), [], _, fun _ e => (by cases e; exact hE _ _ rfl), .refl _, by exact hI, ⟨rfl, rfl⟩⟩
                        refine dcons ?_ ?_
                        · intro _ _ H656 fr657 hle658 hd659
                          refine ⟨_, some (), rfl, fun _ => ?_⟩
                          refine s_env (env' := [(9, .int .i64 y67)]) (by exact ⟨rfl, trivial⟩) ?_
                          refine o_mov rfl ?_
                          exact s_pred fun _ _ _ hE hI => ⟨(.int .i64 y67), [], _, fun _ e => (by cases e; exact hE _ _ rfl), .refl _, by exact hI, ⟨rfl, rfl⟩⟩
                        refine dcons ?_ ?_
                        · intro _ _ H663 fr664 hle665 hd666
                          have hA668 := All2.mono (fun _ _ => GoT.mono hle665) hA266
                          obtain ⟨hv669, hg670⟩ := hd666 0 (by decide)
                          obtain ⟨hv671, hg672⟩ := hd666 1 (by decide)
                          refine ⟨_, (rd p262 y67).bind some, by rw [h303]; rfl, fun _ => ?_⟩
                          refine s_env (env' := [(67, .slice (some ⟨bk298, 0, none⟩) p262.length c264), (68, .int .i64 y67)]) (by exact ⟨congrArg some hv669, congrArg some hv671, trivial⟩) ?_
                          refine o_ixO 0 rfl hA668 rfl rfl fun y296 bk674 vs675 h673 ha676 hi677 hr678 => ?_
                          subst hr678
                          obtain rfl := s_bk ha676
                          obtain rfl := Option.some.inj (h303.symm.trans h673)
                          exact s_pred fun _ _ _ hE hI => ⟨(.pointer (some ⟨bk298, (y67 : Int).toNat * GoT.sz (Int), none⟩)), [], _, fun _ e => (by cases e; exact hE _ _ rfl), .refl _, by exact hI, ⟨rfl, rfl, hi677⟩⟩
                        refine dcons ?_ ?_
                        · intro _ _ H681 fr682 hle683 hd684
                          have hA686 := All2.mono (fun _ _ => GoT.mono hle683) hA266
                          obtain ⟨hv687, hg688, hp689⟩ := hd684 2 (by decide)
                          refine ⟨_, some (), rfl, fun _ => ?_⟩
                          refine s_env (env' := [(69, .pointer (some ⟨bk298, (y67 : Int).toNat * GoT.sz (Int), none⟩))]) (by exact ⟨congrArg some hv687, trivial⟩) ?_
                          refine o_ldO 0 0 rfl hp689 rfl rfl rfl ?_
                          exact s_pred fun _ _ _ hE hI => ⟨(.int .i64 y296), [], _, fun _ e => (by cases e; exact hE _ _ rfl), .refl _, by exact hI, ⟨rfl, rfl⟩⟩
                        refine dcons ?_ ?_
                        · intro _ _ H692 fr693 hle694 hd695
                          obtain ⟨hv697, hg698⟩ := hd695 3 (by decide)
                          refine ⟨_, some (), rfl, fun _ => ?_⟩
                          refine s_env (env' := [(70, .int .i64 y296)]) (by exact ⟨congrArg some hv697, trivial⟩) ?_
                          refine o_ge rfl rfl ?_
                          exact s_pred fun _ _ _ hE hI => ⟨(.bool (decide (y296 ≥ 0))), [], _, fun _ e => (by cases e; exact hE _ _ rfl), .refl _, by exact hI, ⟨rfl, rfl⟩⟩
                        refine dcons ?_ ?_
                        · intro _ _ H701 fr702 hle703 hd704
                          obtain ⟨hv706, hg707⟩ := hd704 4 (by decide)
                          refine ⟨_, some (), rfl, fun _ => ?_⟩
                          refine s_env (env' := [(71, .bool (decide (y296 ≥ 0)))]) (by exact ⟨congrArg some hv706, trivial⟩) ?_
                          refine o_mov rfl ?_
                          exact s_pred fun _ _ _ hE hI => ⟨(.bool (decide (y296 ≥ 0))), [], _, fun _ e => (by cases e; exact hE _ _ rfl), .refl _, by exact hI, ⟨rfl, rfl⟩⟩
                        refine dcons ?_ ?_
                        · intro _ _ H710 fr711 hle712 hd713
                          have hA715 := All2.mono (fun _ _ => GoT.mono hle712) hA266
                          obtain ⟨hv716, hg717⟩ := hd713 5 (by decide)
                          refine ⟨_, some (), rfl, fun _ => ?_⟩
                          refine s_env (env' := [(72, .bool (decide (y296 ≥ 0))), (5, .slice (some ⟨bk298, 0, none⟩) p262.length c264)]) (by exact ⟨congrArg some hv716, rfl, trivial⟩) ?_
                          refine s_want rfl rfl h305 ?_
                          refine o_mov rfl ?_
                          exact s_pred fun _ _ _ hE hI => ⟨(.slice (some ⟨bk298, 0, none⟩) p262.length c264), [], _, fun _ e => (by cases e; exact hE _ _ rfl), .refl _, by exact hI, ⟨rfl, rfl⟩⟩
                        refine dcons ?_ ?_
                        · intro _ _ H720 fr721 hle722 hd723
                          obtain ⟨hv725, hg726⟩ := hd723 5 (by decide)
                          refine ⟨_, some (), rfl, fun _ => ?_⟩
                          refine s_env (env' := [(72, .bool (decide (y296 ≥ 0))), (8, .int .i64 y58)]) (by exact ⟨congrArg some hv725, rfl, trivial⟩) ?_
                          refine s_want rfl rfl h305 ?_
                          refine o_mov rfl ?_
                          exact s_pred fun _ _ _ hE hI => ⟨(.int .i64 y58), [], _, fun _ e => (by cases e; exact hE _ _ rfl), .refl _, by exact hI, ⟨rfl, rfl⟩⟩
                        refine dcons ?_ ?_
                        · intro _ _ H729 fr730 hle731 hd732
                          have hA734 := All2.mono (fun _ _ => GoT.mono hle731) hA266
                          obtain ⟨hv735, hg736⟩ := hd732 5 (by decide)
                          obtain ⟨hv737, hg738⟩ := hd732 6 (by decide)
                          obtain ⟨hv739, hg740⟩ := hd732 7 (by decide)
                          refine ⟨_, (rd p262 y58).bind some, by rw [h313]; rfl, fun _ => ?_⟩
                          refine s_env (env' := [(72, .bool (decide (y296 ≥ 0))), (73, .slice (some ⟨bk298, 0, none⟩) p262.length c264), (74, .int .i64 y58)]) (by exact ⟨congrArg some hv735, congrArg some hv737, congrArg some hv739, trivial⟩) ?_
                          refine s_want rfl rfl h305 ?_
                          refine o_ixO 0 rfl hA734 rfl rfl fun y306 bk742 vs743 h741 ha744 hi745 hr746 => ?_
                          subst hr746
                          obtain rfl := s_bk ha744
                          obtain rfl := Option.some.inj (h313.symm.trans h741)
                          exact s_pred fun _ _ _ hE hI => ⟨(.pointer (some ⟨bk298, (y58 : Int).toNat * GoT.sz (Int), none⟩)), [], _, fun _ e => (by cases e; exact hE _ _ rfl), .refl _, by exact hI, ⟨rfl, rfl, hi745⟩⟩
                        refine dcons ?_ ?_
                        · intro _ _ H749 fr750 hle751 hd752
                          have hA754 := All2.mono (fun _ _ => GoT.mono hle751) hA266
                          obtain ⟨hv755, hg756⟩ := hd752 5 (by decide)
                          obtain ⟨hv757, hg758, hp759⟩ := hd752 8 (by decide)
                          refine ⟨_, some (), rfl, fun _ => ?_⟩
                          refine s_env (env' := [(72, .bool (decide (y296 ≥ 0))), (75, .pointer (some ⟨bk298, (y58 : Int).toNat * GoT.sz (Int), none⟩))]) (by exact ⟨congrArg some hv755, congrArg some hv757, trivial⟩) ?_
                          refine s_want rfl rfl h305 ?_
                          refine o_ldO 0 0 rfl hp759 rfl rfl rfl ?_
                          exact s_pred fun _ _ _ hE hI => ⟨(.int .i64 y306), [], _, fun _ e => (by cases e; exact hE _ _ rfl), .refl _, by exact hI, ⟨rfl, rfl⟩⟩
                        refine dcons ?_ ?_
                        · intro _ _ H762 fr763 hle764 hd765
                          obtain ⟨hv767, hg768⟩ := hd765 5 (by decide)
                          obtain ⟨hv769, hg770⟩ := hd765 9 (by decide)
                          refine ⟨_, some (), rfl, fun _ => ?_⟩
                          refine s_env (env' := [(72, .bool (decide (y296 ≥ 0))), (76, .int .i64 y306)]) (by exact ⟨congrArg some hv767, congrArg some hv769, trivial⟩) ?_
                          refine s_want rfl rfl h305 ?_
                          refine o_lt rfl rfl ?_
                          exact s_pred fun _ _ _ hE hI => ⟨(.bool (decide (y306 < 0))), [], _, fun _ e => (by cases e; exact hE _ _ rfl), .refl _, by exact hI, ⟨rfl, rfl⟩⟩
                        refine dcons ?_ ?_
                        · intro _ _ H773 fr774 hle775 hd776
                          obtain ⟨hv778, hg779⟩ := hd776 5 (by decide)
                          obtain ⟨hv780, hg781⟩ := hd776 10 (by decide)
                          refine ⟨_, some (), rfl, fun _ => ?_⟩
                          refine s_env (env' := [(72, .bool (decide (y296 ≥ 0))), (77, .bool (decide (y306 < 0)))]) (by exact ⟨congrArg some hv778, congrArg some hv780, trivial⟩) ?_
                          refine s_want rfl rfl h305 ?_
                          refine o_mov rfl ?_
                          exact s_pred fun _ _ _ hE hI => ⟨(.bool (decide (y306 < 0))), [], _, fun _ e => (by cases e; exact hE _ _ rfl), .refl _, by exact hI, ⟨rfl, rfl⟩⟩
                        refine dcons ?_ ?_
                        · intro _ _ H784 fr785 hle786 hd787
                          have hA789 := All2.mono (fun _ _ => GoT.mono hle786) hA266
                          obtain ⟨hv790, hg791⟩ := hd787 11 (by decide)
                          refine ⟨_, some (), rfl, fun _ => ?_⟩
                          refine s_env (env' := [(78, .bool (decide (y306 < 0))), (5, .slice (some ⟨bk298, 0, none⟩) p262.length c264)]) (by exact ⟨congrArg some hv790, rfl, trivial⟩) ?_
                          refine s_want rfl rfl h314 ?_
                          refine o_mov rfl ?_
                          exact s_pred fun _ _ _ hE hI => ⟨(.slice (some ⟨bk298, 0, none⟩) p262.length c264), [], _, fun _ e => (by cases e; exact hE _ _ rfl), .refl _, by exact hI, ⟨rfl, rfl⟩⟩
                        refine dcons ?_ ?_
                        · intro _ _ H794 fr795 hle796 hd797
                          obtain ⟨hv799, hg800⟩ := hd797 11 (by decide)
                          refine ⟨_, some (), rfl, fun _ => ?_⟩
                          refine s_env (env' := [(78, .bool (decide (y306 < 0))), (8, .int .i64 y58)]) (by exact ⟨congrArg some hv799, rfl, trivial⟩) ?_
                          refine s_want rfl rfl h314 ?_
                          refine o_mov rfl ?_
                          exact s_pred fun _ _ _ hE hI => ⟨(.int .i64 y58), [], _, fun _ e => (by cases e; exact hE _ _ rfl), .refl _, by exact hI, ⟨rfl, rfl⟩⟩
                        refine dcons ?_ ?_
                        · intro _ _ H803 fr804 hle805 hd806
                          have hA808 := All2.mono (fun _ _ => GoT.mono hle805) hA266
                          obtain ⟨hv809, hg810⟩ := hd806 11 (by decide)
                          obtain ⟨hv811, hg812⟩ := hd806 12 (by decide)
                          obtain ⟨hv813, hg814⟩ := hd806 13 (by decide)
                          refine ⟨_, (rd p262 y58).bind some, by rw [h613]; rfl, fun _ => ?_⟩
                          refine s_env (env' := [(78, .bool (decide (y306 < 0))), (79, .slice (some ⟨bk298, 0, none⟩) p262.length c264), (80, .int .i64 y58)]) (by exact ⟨congrArg some hv809, congrArg some hv811, congrArg some hv813, trivial⟩) ?_
                          refine s_want rfl rfl h314 ?_
                          refine o_ixO 0 rfl hA808 rfl rfl fun y606 bk816 vs817 h815 ha818 hi819 hr820 => ?_
                          subst hr820
                          obtain rfl := s_bk ha818
                          obtain rfl := Option.some.inj (h613.symm.trans h815)
                          exact s_pred fun _ _ _ hE hI => ⟨(.pointer (some ⟨bk298, (y58 : Int).toNat * GoT.sz (Int), none⟩)), [], _, fun _ e => (by cases e; exact hE _ _ rfl), .refl _, by exact hI, ⟨rfl, rfl, hi819⟩⟩
                        refine dcons ?_ ?_
                        · intro _ _ H823 fr824 hle825 hd826
                          have hA828 := All2.mono (fun _ _ => GoT.mono hle825) hA266
                          obtain ⟨hv829, hg830⟩ := hd826 11 (by decide)
                          obtain ⟨hv831, hg832, hp833⟩ := hd826 14 (by decide)
                          refine ⟨_, some (), rfl, fun _ => ?_⟩
                          refine s_env (env' := [(78, .bool (decide (y306 < 0))), (81, .pointer (some ⟨bk298, (y58 : Int).toNat * GoT.sz (Int), none⟩))]) (by exact ⟨congrArg some hv829, congrArg some hv831, trivial⟩) ?_
                          refine s_want rfl rfl h314 ?_
                          refine o_ldO 0 0 rfl hp833 rfl rfl rfl ?_
                          exact s_pred fun _ _ _ hE hI => ⟨(.int .i64 y606), [], _, fun _ e => (by cases e; exact hE _ _ rfl), .refl _, by exact hI, ⟨rfl, rfl⟩⟩
                        refine dcons ?_ ?_
                        · intro _ _ H836 fr837 hle838 hd839
                          have hA841 := All2.mono (fun _ _ => GoT.mono hle838) hA266
                          obtain ⟨hv842, hg843⟩ := hd839 11 (by decide)
                          refine ⟨_, some (), rfl, fun _ => ?_⟩
                          refine s_env (env' := [(78, .bool (decide (y306 < 0))), (5, .slice (some ⟨bk298, 0, none⟩) p262.length c264)]) (by exact ⟨congrArg some hv842, rfl, trivial⟩) ?_
                          refine s_want rfl rfl h314 ?_
                          refine o_mov rfl ?_
                          exact s_pred fun _ _ _ hE hI => ⟨(.slice (some ⟨bk298, 0, none⟩) p262.length c264), [], _, fun _ e => (by cases e; exact hE _ _ rfl), .refl _, by exact hI, ⟨rfl, rfl⟩⟩
                        refine dcons ?_ ?_
                        · intro _ _ H846 fr847 hle848 hd849
                          obtain ⟨hv851, hg852⟩ := hd849 11 (by decide)
                          refine ⟨_, some (), rfl, fun _ => ?_⟩
                          refine s_env (env' := [(78, .bool (decide (y306 < 0))), (9, .int .i64 y67)]) (by exact ⟨congrArg some hv851, rfl, trivial⟩) ?_
                          refine s_want rfl rfl h314 ?_
                          refine o_mov rfl ?_
                          exact s_pred fun _ _ _ hE hI => ⟨(.int .i64 y67), [], _, fun _ e => (by cases e; exact hE _ _ rfl), .refl _, by exact hI, ⟨rfl, rfl⟩⟩
                        refine dcons ?_ ?_
                        · intro _ _ H855 fr856 hle857 hd858
                          have hA860 := All2.mono (fun _ _ => GoT.mono hle857) hA266
                          obtain ⟨hv861, hg862⟩ := hd858 11 (by decide)
                          obtain ⟨hv863, hg864⟩ := hd858 16 (by decide)
                          obtain ⟨hv865, hg866⟩ := hd858 17 (by decide)
                          refine ⟨_, (rd p262 y67).bind some, by rw [h621]; rfl, fun _ => ?_⟩
                          refine s_env (env' := [(78, .bool (decide (y306 < 0))), (83, .slice (some ⟨bk298, 0, none⟩) p262.length c264), (84, .int .i64 y67)]) (by exact ⟨congrArg some hv861, congrArg some hv863, congrArg some hv865, trivial⟩) ?_
                          refine s_want rfl rfl h314 ?_
                          refine o_ixO 0 rfl hA860 rfl rfl fun y614 bk868 vs869 h867 ha870 hi871 hr872 => ?_
                          subst hr872
                          obtain rfl := s_bk ha870
                          obtain rfl := Option.some.inj (h621.symm.trans h867)
                          exact s_pred fun _ _ _ hE hI => ⟨(.pointer (some ⟨bk298, (y67 : Int).toNat * GoT.sz (Int), none⟩)), [], _, fun _ e => (by cases e; exact hE _ _ rfl), .refl _, by exact hI, ⟨rfl, rfl, hi871⟩⟩
                        refine dcons ?_ ?_
                        · intro _ _ H875 fr876 hle877 hd878
                          have hA880 := All2.mono (fun _ _ => GoT.mono hle877) hA266
                          obtain ⟨hv881, hg882⟩ := hd878 11 (by decide)
                          obtain ⟨hv883, hg884, hp885⟩ := hd878 18 (by decide)
                          refine ⟨_, some (), rfl, fun _ => ?_⟩
                          refine s_env (env' := [(78, .bool (decide (y306 < 0))), (85, .pointer (some ⟨bk298, (y67 : Int).toNat * GoT.sz (Int), none⟩))]) (by exact ⟨congrArg some hv881, congrArg some hv883, trivial⟩) ?_
                          refine s_want rfl rfl h314 ?_
                          refine o_ldO 0 0 rfl hp885 rfl rfl rfl ?_
                          exact s_pred fun _ _ _ hE hI => ⟨(.int .i64 y614), [], _, fun _ e => (by cases e; exact hE _ _ rfl), .refl _, by exact hI, ⟨rfl, rfl⟩⟩
                        refine dcons ?_ ?_
                        · intro _ _ H888 fr889 hle890 hd891
                          obtain ⟨hv893, hg894⟩ := hd891 11 (by decide)
                          obtain ⟨hv895, hg896⟩ := hd891 19 (by decide)
                          refine ⟨_, some (), rfl, fun _ => ?_⟩
                          refine s_env (env' := [(78, .bool (decide (y306 < 0))), (86, .int .i64 y614)]) (by exact ⟨congrArg some hv893, congrArg some hv895, trivial⟩) ?_
                          refine s_want rfl rfl h314 ?_
                          refine o_add rfl rfl ?_
                          exact s_pred fun _ _ _ hE hI => ⟨(.int .i64 (w64 (y614 + 1))), [], _, fun _ e => (by cases e; exact hE _ _ rfl), .refl _, by exact hI, ⟨rfl, rfl⟩⟩
                        refine dcons ?_ ?_
                        · intro _ _ H899 fr900 hle901 hd902
                          obtain ⟨hv904, hg905⟩ := hd902 11 (by decide)
                          obtain ⟨hv906, hg907⟩ := hd902 15 (by decide)
                          obtain ⟨hv908, hg909⟩ := hd902 20 (by decide)
                          refine ⟨_, some (), rfl, fun _ => ?_⟩
                          refine s_env (env' := [(78, .bool (decide (y306 < 0))), (82, .int .i64 y606), (87, .int .i64 (w64 (y614 + 1)))]) (by exact ⟨congrArg some hv904, congrArg some hv906, congrArg some hv908, trivial⟩) ?_
                          refine s_want rfl rfl h314 ?_
                          refine o_gt rfl rfl ?_
                          exact s_pred fun _ _ _ hE hI => ⟨(.bool (decide (y606 > (w64 (y614 + 1))))), [], _, fun _ e => (by cases e; exact hE _ _ rfl), .refl _, by exact hI, ⟨rfl, rfl⟩⟩
                        refine dcons ?_ ?_
                        · intro _ _ H912 fr913 hle914 hd915
                          obtain ⟨hv917, hg918⟩ := hd915 5 (by decide)
                          obtain ⟨hv919, hg920⟩ := hd915 11 (by decide)
                          obtain ⟨hv921, hg922⟩ := hd915 21 (by decide)
                          refine ⟨_, some (), rfl, fun _ => ?_⟩
                          refine s_env (env' := [(72, .bool (decide (y296 ≥ 0))), (78, .bool (decide (y306 < 0))), (88, .bool (decide (y606 > (w64 (y614 + 1)))))]) (by exact ⟨congrArg some hv917, congrArg some hv919, congrArg some hv921, trivial⟩) ?_
                          refine s_want rfl rfl h305 ?_
                          refine o_pickF rfl h314 rfl ?_
                          exact s_pred fun _ _ _ hE hI => ⟨(.bool (decide (y606 > (w64 (y614 + 1))))), [], _, fun _ e => (by cases e; exact hE _ _ rfl), .refl _, by exact hI, ⟨rfl, rfl⟩⟩
                        refine dcons ?_ ?_
                        · intro _ _ H925 fr926 hle927 hd928
                          obtain ⟨hv930, hg931⟩ := hd928 5 (by decide)
                          obtain ⟨hv932, hg933⟩ := hd928 22 (by decide)
                          refine ⟨_, some (), rfl, fun _ => ?_⟩
                          refine s_env (env' := [(72, .bool (decide (y296 ≥ 0))), (89, .bool (decide (y606 > (w64 (y614 + 1)))))]) (by exact ⟨congrArg some hv930, congrArg some hv932, trivial⟩) ?_
                          refine o_pickT rfl h305 rfl ?_
                          exact s_pred fun _ _ _ hE hI => ⟨(.bool (decide (y606 > (w64 (y614 + 1))))), [], _, fun _ e => (by cases e; exact hE _ _ rfl), .refl _, by exact hI, ⟨rfl, rfl⟩⟩
                        exact dnil
                      · intro V936 G937 H934 hle935 hF938
                        have hs939 := RSl.mono hle935 hs269
                        have hA940 := All2.mono (fun _ _ => GoT.mono hle935) hA266
                        obtain ⟨hv941, hg942⟩ := hF938 23 (show 23 < 24 by decide)
                        refine s_env (env' := [(90, .bool (decide (y606 > (w64 (y614 + 1))))), (0, .slice a0_0 x0.length c0_0), (1, .int .i64 x1), (5, .slice (some ⟨bk298, 0, none⟩) p262.length c264), (6, .int .i64 s21.2), (7, .int .i64 s41.2), (8, .int .i64 y58), (9, .int .i64 y67)]) (by exact ⟨congrArg some hv941, rfl, rfl, rfl, rfl, rfl, rfl, rfl, trivial⟩) ?_
                        refine s_own (List.sublist_append_left _ _) ?_
                        refine s_done ?_
                        exact s_env (by exact ⟨rfl, rfl, rfl, rfl, rfl, rfl, rfl, rfl, trivial⟩) (s_own (by exact (.cons_cons _ .slnil)) (J295 (p262, decide (y606 > (w64 (y614 + 1)))) _ _ _ ⟨_, _, _, rfl, rfl, hle935, hA940⟩))
                  · refine s_drawL [(fun H v g => v = Value.slice (some ⟨bk298, 0, none⟩) p262.length c264 ∧ g = []),
      (fun H v g => v = Value.int .i64 y67 ∧ g = []),
      (fun H v g => v = Value.pointer (some ⟨bk298, (y67 : Int).toNat * GoT.sz (Int), none⟩) ∧ g = [] ∧ (ls265)[(y67 : Int).toNat]? = some [.int .i64 y296]),
      (fun H v g => v = Value.int .i64 y296 ∧ g = []),
      (fun H v g => v = Value.bool (decide (y296 ≥ 0)) ∧ g = []),
      (fun H v g => v = Value.bool (decide (y296 ≥ 0)) ∧ g = []),
      uF,
      uF,
      uF,
      uF,
      uF,
      uF,
      uF,
      uF,
      uF,
      uF,
      uF,
      uF,
      uF,
      uF,
      uF,
      uF,
      uF,
      (fun H v g => v = Value.bool false ∧ g = [])] [[], [], [], [], [], [], [], [], [], [], [], [], [], [], [], [], [], [], [], [], [], [], [], []] mixed ⟨m0, m0, m0, m0, m0, m0, m0, m0, m0, m0, m0, m0, m0, m0, m0, m0, m0, m0, m0, m0, m0, m0, m0, m0, trivial⟩ (by kernel_rfl) (by kernel_rfl) rfl (by kernel_rfl) rfl rfl ?_ ?_
                    · refine dcons ?_ ?_
                      · intro _ _ H951 fr952 hle953 hd954
                        have hA956 := All2.mono (fun _ _ => GoT.mono hle953) hA266
                        refine ⟨_, some (), rfl, fun _ => ?_⟩
                        refine s_env (env' := [(5, .slice (some ⟨bk298, 0, none⟩) p262.length c264)]) (by exact ⟨rfl, trivial⟩) ?_
                        refine o_mov rfl ?_
                        exact s_pred fun _ _ _ hE hI => ⟨(.slice (some ⟨bk298, 0, none⟩) p262.length c264), [], _, fun _ e => (by cases e; exact hE _ _ rfl), .refl _, by exact hI, ⟨rfl, rfl⟩⟩
                      refine dcons ?_ ?_
                      · intro _ _ H959 fr960 hle961 hd962
                        refine ⟨_, some (), rfl, fun _ => ?_⟩
                        refine s_env (env' := [(9, .int .i64 y67)]) (by exact ⟨rfl, trivial⟩) ?_
                        refine o_mov rfl ?_
                        exact s_pred fun _ _ _ hE hI => ⟨(.int .i64 y67), [], _, fun _ e => (by cases e; exact hE _ _ rfl), .refl _, by exact hI, ⟨rfl, rfl⟩⟩
                      refine dcons ?_ ?_
                      · intro _ _ H966 fr967 hle968 hd969
                        have hA971 := All2.mono (fun _ _ => GoT.mono hle968) hA266
                        obtain ⟨hv972, hg973⟩ := hd969 0 (by decide)
                        obtain ⟨hv974, hg975⟩ := hd969 1 (by decide)
                        refine ⟨_, (rd p262 y67).bind some, by rw [h303]; rfl, fun _ => ?_⟩
                        refine s_env (env' := [(67, .slice (some ⟨bk298, 0, none⟩) p262.length c264), (68, .int .i64 y67)]) (by exact ⟨congrArg some hv972, congrArg some hv974, trivial⟩) ?_
                        refine o_ixO 0 rfl hA971 rfl rfl fun y296 bk977 vs978 h976 ha979 hi980 hr981 => ?_
                        subst hr981
                        obtain rfl := s_bk ha979
                        obtain rfl := Option.some.inj (h303.symm.trans h976)
                        exact s_pred fun _ _ _ hE hI => ⟨(.pointer (some ⟨bk298, (y67 : Int).toNat * GoT.sz (Int), none⟩)), [], _, fun _ e => (by cases e; exact hE _ _ rfl), .refl _, by exact hI, ⟨rfl, rfl, hi980⟩⟩
                      refine dcons ?_ ?_
                      · intro _ _ H984 fr985 hle986 hd987
                        have hA989 := All2.mono (fun _ _ => GoT.mono hle986) hA266
                        obtain ⟨hv990, hg991, hp992⟩ := hd987 2 (by decide)
                        refine ⟨_, some (), rfl, fun _ => ?_⟩
                        refine s_env (env' := [(69, .pointer (some ⟨bk298, (y67 : Int).toNat * GoT.sz (Int), none⟩))]) (by exact ⟨congrArg some hv990, trivial⟩) ?_
                        refine o_ldO 0 0 rfl hp992 rfl rfl rfl ?_
                        exact s_pred fun _ _ _ hE hI => ⟨(.int .i64 y296), [], _, fun _ e => (by cases e; exact hE _ _ rfl), .refl _, by exact hI, ⟨rfl, rfl⟩⟩
                      refine dcons ?_ ?_
                      · intro _ _ H995 fr996 hle997 hd998
                        obtain ⟨hv1000, hg1001⟩ := hd998 3 (by decide)
                        refine ⟨_, some (), rfl, fun _ => ?_⟩
                        refine s_env (env' := [(70, .int .i64 y296)]) (by exact ⟨congrArg some hv1000, trivial⟩) ?_
                        refine o_ge rfl rfl ?_
                        exact s_pred fun _ _ _ hE hI => ⟨(.bool (decide (y296 ≥ 0))), [], _, fun _ e => (by cases e; exact hE _ _ rfl), .refl _, by exact hI, ⟨rfl, rfl⟩⟩
                      refine dcons ?_ ?_
                      · intro _ _ H1004 fr1005 hle1006 hd1007
                        obtain ⟨hv1009, hg1010⟩ := hd1007 4 (by decide)
                        refine ⟨_, some (), rfl, fun _ => ?_⟩
                        refine s_env (env' := [(71, .bool (decide (y296 ≥ 0)))]) (by exact ⟨congrArg some hv1009, trivial⟩) ?_
                        refine o_mov rfl ?_
                        exact s_pred fun _ _ _ hE hI => ⟨(.bool (decide (y296 ≥ 0))), [], _, fun _ e => (by cases e; exact hE _ _ rfl), .refl _, by exact hI, ⟨rfl, rfl⟩⟩
                      refine dcons ?_ ?_
                      · intro _ _ H1013 fr1014 hle1015 hd1016
                        have hA1018 := All2.mono (fun _ _ => GoT.mono hle1015) hA266
                        obtain ⟨hv1019, hg1020⟩ := hd1016 5 (by decide)
                        refine ⟨_, some (), rfl, fun _ => ?_⟩
                        refine s_env (env' := [(72, .bool (decide (y296 ≥ 0))), (5, .slice (some ⟨bk298, 0, none⟩) p262.length c264)]) (by exact ⟨congrArg some hv1019, rfl, trivial⟩) ?_
                        refine s_unwant rfl rfl h305 ?_
                        exact s_pred fun _ _ _ hE hI => ⟨undef, [], _, fun _ e => (by cases e; exact hE _ _ rfl), .refl _, by exact hI, ⟨rfl, rfl⟩⟩
                      refine dcons ?_ ?_
                      · intro _ _ H1023 fr1024 hle1025 hd1026
                        obtain ⟨hv1028, hg1029⟩ := hd1026 5 (by decide)
                        refine ⟨_, some (), rfl, fun _ => ?_⟩
                        refine s_env (env' := [(72, .bool (decide (y296 ≥ 0))), (8, .int .i64 y58)]) (by exact ⟨congrArg some hv1028, rfl, trivial⟩) ?_
                        refine s_unwant rfl rfl h305 ?_
                        exact s_pred fun _ _ _ hE hI => ⟨undef, [], _, fun _ e => (by cases e; exact hE _ _ rfl), .refl _, by exact hI, ⟨rfl, rfl⟩⟩
                      refine dcons ?_ ?_
                      · intro _ _ H1032 fr1033 hle1034 hd1035
                        obtain ⟨hv1037, hg1038⟩ := hd1035 5 (by decide)
                        obtain ⟨hv1039, hg1040⟩ := hd1035 6 (by decide)
                        obtain ⟨hv1041, hg1042⟩ := hd1035 7 (by decide)
                        refine ⟨_, some (), rfl, fun _ => ?_⟩
                        refine s_env (env' := [(72, .bool (decide (y296 ≥ 0))), (73, undef), (74, undef)]) (by exact ⟨congrArg some hv1037, congrArg some hv1039, congrArg some hv1041, trivial⟩) ?_
                        refine s_unwant rfl rfl h305 ?_
                        exact s_pred fun _ _ _ hE hI => ⟨undef, [], _, fun _ e => (by cases e; exact hE _ _ rfl), .refl _, by exact hI, ⟨rfl, rfl⟩⟩
                      refine dcons ?_ ?_
                      · intro _ _ H1045 fr1046 hle1047 hd1048
                        obtain ⟨hv1050, hg1051⟩ := hd1048 5 (by decide)
                        obtain ⟨hv1052, hg1053⟩ := hd1048 8 (by decide)
                        refine ⟨_, some (), rfl, fun _ => ?_⟩
                        refine s_env (env' := [(72, .bool (decide (y296 ≥ 0))), (75, undef)]) (by exact ⟨congrArg some hv1050, congrArg some hv1052, trivial⟩) ?_
                        refine s_unwant rfl rfl h305 ?_
                        exact s_pred fun _ _ _ hE hI => ⟨undef, [], _, fun _ e => (by cases e; exact hE _ _ rfl), .refl _, by exact hI, ⟨rfl, rfl⟩⟩
                      refine dcons ?_ ?_
                      · intro _ _ H1056 fr1057 hle1058 hd1059
                        obtain ⟨hv1061, hg1062⟩ := hd1059 5 (by decide)
                        obtain ⟨hv1063, hg1064⟩ := hd1059 9 (by decide)
                        refine ⟨_, some (), rfl, fun _ => ?_⟩
                        refine s_env (env' := [(72, .bool (decide (y296 ≥ 0))), (76, undef)]) (by exact ⟨congrArg some hv1061, congrArg some hv1063, trivial⟩) ?_
                        refine s_unwant rfl rfl h305 ?_
                        exact s_pred fun _ _ _ hE hI => ⟨undef, [], _, fun _ e => (by cases e; exact hE _ _ rfl), .refl _, by exact hI, ⟨rfl, rfl⟩⟩
                      refine dcons ?_ ?_
                      · intro _ _ H1067 fr1068 hle1069 hd1070
                        obtain ⟨hv1072, hg1073⟩ := hd1070 5 (by decide)
                        obtain ⟨hv1074, hg1075⟩ := hd1070 10 (by decide)
                        refine ⟨_, some (), rfl, fun _ => ?_⟩
                        refine s_env (env' := [(72, .bool (decide (y296 ≥ 0))), (77, undef)]) (by exact ⟨congrArg some hv1072, congrArg some hv1074, trivial⟩) ?_
                        refine s_unwant rfl rfl h305 ?_
                        exact s_pred fun _ _ _ hE hI => ⟨undef, [], _, fun _ e => (by cases e; exact hE _ _ rfl), .refl _, by exact hI, ⟨rfl, rfl⟩⟩
                      refine dcons ?_ ?_
                      · intro _ _ H1078 fr1079 hle1080 hd1081
                        have hA1083 := All2.mono (fun _ _ => GoT.mono hle1080) hA266
                        obtain ⟨hv1084, hg1085⟩ := hd1081 11 (by decide)
                        refine ⟨_, some (), rfl, fun _ => ?_⟩
                        refine s_env (env' := [(78, undef), (5, .slice (some ⟨bk298, 0, none⟩) p262.length c264)]) (by exact ⟨congrArg some hv1084, rfl, trivial⟩) ?_
                        refine s_unwantU rfl rfl ?_
                        exact s_pred fun _ _ _ hE hI => ⟨undef, [], _, fun _ e => (by cases e; exact hE _ _ rfl), .refl _, by exact hI, ⟨rfl, rfl⟩⟩
                      refine dcons ?_ ?_
                      · intro _ _ H1088 fr1089 hle1090 hd1091
                        obtain ⟨hv1093, hg1094⟩ := hd1091 11 (by decide)
                        refine ⟨_, some (), rfl, fun _ => ?_⟩
                        refine s_env (env' := [(78, undef), (8, .int .i64 y58)]) (by exact ⟨congrArg some hv1093, rfl, trivial⟩) ?_
                        refine s_unwantU rfl rfl ?_
                        exact s_pred fun _ _ _ hE hI => ⟨undef, [], _, fun _ e => (by cases e; exact hE _ _ rfl), .refl _, by exact hI, ⟨rfl, rfl⟩⟩
                      refine dcons ?_ ?_
                      · intro _ _ H1097 fr1098 hle1099 hd1100
                        obtain ⟨hv1102, hg1103⟩ := hd1100 11 (by decide)
                        obtain ⟨hv1104, hg1105⟩ := hd1100 12 (by decide)
                        obtain ⟨hv1106, hg1107⟩ := hd1100 13 (by decide)
                        refine ⟨_, some (), rfl, fun _ => ?_⟩
                        refine s_env (env' := [(78, undef), (79, undef), (80, undef)]) (by exact ⟨congrArg some hv1102, congrArg some hv1104, congrArg some hv1106, trivial⟩) ?_
                        refine s_unwantU rfl rfl ?_
                        exact s_pred fun _ _ _ hE hI => ⟨undef, [], _, fun _ e => (by cases e; exact hE _ _ rfl), .refl _, by exact hI, ⟨rfl, rfl⟩⟩
                      refine dcons ?_ ?_
                      · intro _ _ H1110 fr1111 hle1112 hd1113
                        obtain ⟨hv1115, hg1116⟩ := hd1113 11 (by decide)
                        obtain ⟨hv1117, hg1118⟩ := hd1113 14 (by decide)
                        refine ⟨_, some (), rfl, fun _ => ?_⟩
                        refine s_env (env' := [(78, undef), (81, undef)]) (by exact ⟨congrArg some hv1115, congrArg some hv1117, trivial⟩) ?_
                        refine s_unwantU rfl rfl ?_
                        exact s_pred fun _ _ _ hE hI => ⟨undef, [], _, fun _ e => (by cases e; exact hE _ _ rfl), .refl _, by exact hI, ⟨rfl, rfl⟩⟩
                      refine dcons ?_ ?_
                      · intro _ _ H1121 fr1122 hle1123 hd1124
                        have hA1126 := All2.mono (fun _ _ => GoT.mono hle1123) hA266
                        obtain ⟨hv1127, hg1128⟩ := hd1124 11 (by decide)
                        refine ⟨_, some (), rfl, fun _ => ?_⟩
                        refine s_env (env' := [(78, undef), (5, .slice (some ⟨bk298, 0, none⟩) p262.length c264)]) (by exact ⟨congrArg some hv1127, rfl, trivial⟩) ?_
                        refine s_unwantU rfl rfl ?_
                        exact s_pred fun _ _ _ hE hI => ⟨undef, [], _, fun _ e => (by cases e; exact hE _ _ rfl), .refl _, by exact hI, ⟨rfl, rfl⟩⟩
                      refine dcons ?_ ?_
                      · intro _ _ H1131 fr1132 hle1133 hd1134
                        obtain ⟨hv1136, hg1137⟩ := hd1134 11 (by decide)
                        refine ⟨_, some (), rfl, fun _ => ?_⟩
                        refine s_env (env' := [(78, undef), (9, .int .i64 y67)]) (by exact ⟨congrArg some hv1136, rfl, trivial⟩) ?_
                        refine s_unwantU rfl rfl ?_
                        exact s_pred fun _ _ _ hE hI => ⟨undef, [], _, fun _ e => (by cases e; exact hE _ _ rfl), .refl _, by exact hI, ⟨rfl, rfl⟩⟩
                      refine dcons ?_ ?_
                      · intro _ _ H1140 fr1141 hle1142 hd1143
                        obtain ⟨hv1145, hg1146⟩ := hd1143 11 (by decide)
                        obtain ⟨hv1147, hg1148⟩ := hd1143 16 (by decide)
                        obtain ⟨hv1149, hg1150⟩ := hd1143 17 (by decide)
                        refine ⟨_, some (), rfl, fun _ => ?_⟩
                        refine s_env (env' := [(78, undef), (83, undef), (84, undef)]) (by exact ⟨congrArg some hv1145, congrArg some hv1147, congrArg some hv1149, trivial⟩) ?_
                        refine s_unwantU rfl rfl ?_
                        exact s_pred fun _ _ _ hE hI => ⟨undef, [], _, fun _ e => (by cases e; exact hE _ _ rfl), .refl _, by exact hI, ⟨rfl, rfl⟩⟩
                      refine dcons ?_ ?_
                      · intro _ _ H1153 fr1154 hle1155 hd1156
                        obtain ⟨hv1158, hg1159⟩ := hd1156 11 (by decide)
                        obtain ⟨hv1160, hg1161⟩ := hd1156 18 (by decide)
                        refine ⟨_, some (), rfl, fun _ => ?_⟩
                        refine s_env (env' := [(78, undef), (85, undef)]) (by exact ⟨congrArg some hv1158, congrArg some hv1160, trivial⟩) ?_
                        refine s_unwantU rfl rfl ?_
                        exact s_pred fun _ _ _ hE hI => ⟨undef, [], _, fun _ e => (by cases e; exact hE _ _ rfl), .refl _, by exact hI, ⟨rfl, rfl⟩⟩
                      refine dcons ?_ ?_
                      · intro _ _ H1164 fr1165 hle1166 hd1167
                        obtain ⟨hv1169, hg1170⟩ := hd1167 11 (by decide)
                        obtain ⟨hv1171, hg1172⟩ := hd1167 19 (by decide)
                        refine ⟨_, some (), rfl, fun _ => ?_⟩
                        refine s_env (env' := [(78, undef), (86, undef)]) (by exact ⟨congrArg some hv1169, congrArg some hv1171, trivial⟩) ?_
                        refine s_unwantU rfl rfl ?_
                        exact s_pred fun _ _ _ hE hI => ⟨undef, [], _, fun _ e => (by cases e; exact hE _ _ rfl), .refl _, by exact hI, ⟨rfl, rfl⟩⟩
                      refine dcons ?_ ?_
                      · intro _ _ H1175 fr1176 hle1177 hd1178
                        obtain ⟨hv1180, hg1181⟩ := hd1178 11 (by decide)
                        obtain ⟨hv1182, hg1183⟩ := hd1178 15 (by decide)
                        obtain ⟨hv1184, hg1185⟩ := hd1178 20 (by decide)
                        refine ⟨_, some (), rfl, fun _ => ?_⟩
                        refine s_env (env' := [(78, undef), (82, undef), (87, undef)]) (by exact ⟨congrArg some hv1180, congrArg some hv1182, congrArg some hv1184, trivial⟩) ?_
                        refine s_unwantU rfl rfl ?_
                        exact s_pred fun _ _ _ hE hI => ⟨undef, [], _, fun _ e => (by cases e; exact hE _ _ rfl), .refl _, by exact hI, ⟨rfl, rfl⟩⟩
                      refine dcons ?_ ?_
                      · intro _ _ H1188 fr1189 hle1190 hd1191
                        obtain ⟨hv1193, hg1194⟩ := hd1191 5 (by decide)
                        obtain ⟨hv1195, hg1196⟩ := hd1191 11 (by decide)
                        obtain ⟨hv1197, hg1198⟩ := hd1191 21 (by decide)
                        refine ⟨_, some (), rfl, fun _ => ?_⟩
                        refine s_env (env' := [(72, .bool (decide (y296 ≥ 0))), (78, undef), (88, undef)]) (by exact ⟨congrArg some hv1193, congrArg some hv1195, congrArg some hv1197, trivial⟩) ?_
                        refine s_unwant rfl rfl h305 ?_
                        exact s_pred fun _ _ _ hE hI => ⟨undef, [], _, fun _ e => (by cases e; exact hE _ _ rfl), .refl _, by exact hI, ⟨rfl, rfl⟩⟩
                      refine dcons ?_ ?_
                      · intro _ _ H1201 fr1202 hle1203 hd1204
                        obtain ⟨hv1206, hg1207⟩ := hd1204 5 (by decide)
                        obtain ⟨hv1208, hg1209⟩ := hd1204 22 (by decide)
                        refine ⟨_, some (), rfl, fun _ => ?_⟩
                        refine s_env (env' := [(72, .bool (decide (y296 ≥ 0))), (89, undef)]) (by exact ⟨congrArg some hv1206, congrArg some hv1208, trivial⟩) ?_
                        refine o_pickF rfl h305 rfl ?_
                        exact s_pred fun _ _ _ hE hI => ⟨(.bool false), [], _, fun _ e => (by cases e; exact hE _ _ rfl), .refl _, by exact hI, ⟨rfl, rfl⟩⟩
                      exact dnil
                    · intro V1212 G1213 H1210 hle1211 hF1214
                      have hs1215 := RSl.mono hle1211 hs269
                      have hA1216 := All2.mono (fun _ _ => GoT.mono hle1211) hA266
                      obtain ⟨hv1217, hg1218⟩ := hF1214 23 (show 23 < 24 by decide)
                      refine s_env (env' := [(90, .bool false), (0, .slice a0_0 x0.length c0_0), (1, .int .i64 x1), (5, .slice (some ⟨bk298, 0, none⟩) p262.length c264), (6, .int .i64 s21.2), (7, .int .i64 s41.2), (8, .int .i64 y58), (9, .int .i64 y67)]) (by exact ⟨congrArg some hv1217, rfl, rfl, rfl, rfl, rfl, rfl, rfl, trivial⟩) ?_
                      refine s_own (List.sublist_append_left _ _) ?_
                      refine s_done ?_
                      exact s_env (by exact ⟨rfl, rfl, rfl, rfl, rfl, rfl, rfl, rfl, trivial⟩) (s_own (by exact (.cons_cons _ .slnil)) (J295 (p262, false) _ _ _ ⟨_, _, _, rfl, rfl, hle1211, hA1216⟩))
              · intro J1219
                refine s_cond rfl (fun h1220 => ?_) (fun h1220 => ?_)
                · refine s_region ?_
                  refine o_mov rfl ?_
                  refine o_mov rfl ?_
                  refine o_mov rfl ?_
                  refine o_mov rfl ?_
                  refine o_ixO 0 rfl hA258 rfl rfl fun y1221 bk1223 vs1224 h1222 ha1225 hi1226 hr1227 => ?_
                  subst hr1227
                  subst ha1225
                  refine o_ldO 0 0 rfl hi1226 rfl rfl rfl ?_
                  refine o_add rfl rfl ?_
                  refine o_ixO 0 rfl hA258 rfl rfl fun y1228 bk1230 vs1231 h1229 ha1232 hi1233 hr1234 => ?_
                  subst hr1234
                  obtain rfl := s_bk ha1232
                  refine o_stV (l := p254.1) (ci := y67) 0 0 rfl hA258 hi1233 rfl rfl rfl rfl rfl rfl (w64 (y1221 + 1)) (rfl) fun ls1235 hA1236 => ?_
                  refine s_env (env' := [(0, .slice a0_0 x0.length c0_0), (1, .int .i64 x1), (5, .slice (some ⟨bk1223, 0, none⟩) (p254.1.set (y67 : Int).toNat (w64 (y1221 + 1))).length c256), (6, .int .i64 s21.2), (7, .int .i64 s41.2), (8, .int .i64 y58), (9, .int .i64 y67), (58, .bool p254.2), (59, .slice (some ⟨bk1223, 0, none⟩) (p254.1.set (y67 : Int).toNat (w64 (y1221 + 1))).length c256), (60, .int .i64 y67), (61, .slice (some ⟨bk1223, 0, none⟩) (p254.1.set (y67 : Int).toNat (w64 (y1221 + 1))).length c256), (62, .int .i64 y58), (64, .int .i64 y1221), (65, .int .i64 (w64 (y1221 + 1)))]) (by exact ⟨rfl, rfl, (by first | (simp only [List.length_set]; rfl) | rfl), rfl, rfl, rfl, rfl, rfl, (by first | (simp only [List.length_set]; rfl) | rfl), rfl, (by first | (simp only [List.length_set]; rfl) | rfl), rfl, rfl, rfl, trivial⟩) ?_
                  refine s_ownE (own' := [.osl (.slice (some ⟨bk1223, 0, none⟩) (p254.1.set (y67 : Int).toNat (w64 (y1221 + 1))).length c256) 1 3 ls1235]) (by first | (simp only [List.length_set]; done) | (simp only [List.length_set]; rfl) | rfl) ?_
                  refine s_done ?_
                  exact s_env (by exact ⟨rfl, rfl, rfl, rfl, rfl, rfl, rfl, trivial⟩) (s_own (by exact (.cons_cons _ .slnil)) (J1219 (p254.1.set (y67 : Int).toNat (w64 (y1221 + 1))) _ _ _ ⟨_, _, _, rfl, rfl, .refl _, hA1236⟩))
                · refine s_skip ?_
                  exact s_env (by exact ⟨rfl, rfl, rfl, rfl, rfl, rfl, rfl, trivial⟩) (s_own (by exact (.cons_cons _ .slnil)) (J1219 p254.1 _ _ _ ⟨_, _, _, rfl, rfl, .refl _, hA258⟩))
            · intro J1237
              refine s_bg fun y1238 h1245 => ?_
              refine s_addr 0 rfl hA249 h1245 fun bk1240 ha1246 => ?_
              subst ha1246
              refine s_split (decide (y1238 ≥ 0)) (fun h1247 => ?_) (fun h1247 => ?_)
              · refine s_bg fun y1248 h1255 => ?_
                refine s_split (decide (y1248 < 0)) (fun h1256 => ?_) (fun h1256 => ?_)
                · refine s_drawL [(fun H v g => v = Value.slice (some ⟨bk1240, 0, none⟩) s41.1.length c43 ∧ g = []),
      (fun H v g => v = Value.int .i64 y58 ∧ g = []),
      (fun H v g => v = Value.pointer (some ⟨bk1240, (y58 : Int).toNat * GoT.sz (Int), none⟩) ∧ g = [] ∧ (ls44)[(y58 : Int).toNat]? = some [.int .i64 y1238]),
      (fun H v g => v = Value.int .i64 y1238 ∧ g = []),
      (fun H v g => v = Value.bool (decide (y1238 ≥ 0)) ∧ g = []),
      (fun H v g => v = Value.bool (decide (y1238 ≥ 0)) ∧ g = []),
      (fun H v g => v = Value.slice (some ⟨bk1240, 0, none⟩) s41.1.length c43 ∧ g = []),
      (fun H v g => v = Value.int .i64 y67 ∧ g = []),
      (fun H v g => v = Value.pointer (some ⟨bk1240, (y67 : Int).toNat * GoT.sz (Int), none⟩) ∧ g = [] ∧ (ls44)[(y67 : Int).toNat]? = some [.int .i64 y1248]),
      (fun H v g => v = Value.int .i64 y1248 ∧ g = []),
      (fun H v g => v = Value.bool (decide (y1248 < 0)) ∧ g = []),
      (fun H v g => v = Value.bool (decide (y1248 < 0)) ∧ g = []),
      uF,
      uF,
      uF,
      uF,
      uF,
      uF,
      uF,
      uF,
      uF,
      uF,
      (fun H v g => v = Value.bool true ∧ g = []),
      (fun H v g => v = Value.bool true ∧ g = [])] [[], [], [], [], [], [], [], [], [], [], [], [], [], [], [], [], [], [], [], [], [], [], [], []] mixed ⟨m0, m0, m0, m0, m0, m0, m0, m0, m0, m0, m0, m0, m0, m0, m0, m0, m0, m0, m0, m0, m0, m0, m0, m0, trivial⟩ (by kernel_rfl) (by kernel_rfl) rfl (by kernel_rfl) rfl rfl ?_ ?_
                  · refine dcons ?_ ?_
                    · intro _ _ H1271 fr1272 hle1273 hd1274
                      have hA1276 := All2.mono (fun _ _ => GoT.mono hle1273) hA249
                      refine ⟨_, some (), rfl, fun _ => ?_⟩
                      refine s_env (env' := [(5, .slice (some ⟨bk1240, 0, none⟩) s41.1.length c43)]) (by exact ⟨rfl, trivial⟩) ?_
                      refine o_mov rfl ?_
                      exact s_pred fun _ _ _ hE hI => ⟨(.slice (some ⟨bk1240, 0, none⟩) s41.1.length c43), [], _, fun _ e => (by cases e; exact hE _ _ rfl), .refl _, by exact hI, ⟨rfl, rfl⟩⟩
                    refine dcons ?_ ?_
                    · intro _ _ H1279 fr1280 hle1281 hd1282
                      refine ⟨_, some (), rfl, fun _ => ?_⟩
                      refine s_env (env' := [(8, .int .i64 y58)]) (by exact ⟨rfl, trivial⟩) ?_
                      refine o_mov rfl ?_
                      exact s_pred fun _ _ _ hE hI => ⟨(.int .i64 y58), [], _, fun _ e => (by cases e; exact hE _ _ rfl), .refl _, by exact hI, ⟨rfl, rfl⟩⟩
                    refine dcons ?_ ?_
                    · intro _ _ H1286 fr1287 hle1288 hd1289
                      have hA1291 := All2.mono (fun _ _ => GoT.mono hle1288) hA249
                      obtain ⟨hv1292, hg1293⟩ := hd1289 0 (by decide)
                      obtain ⟨hv1294, hg1295⟩ := hd1289 1 (by decide)
                      refine ⟨_, (rd s41.1 y58).bind some, by rw [h1245]; rfl, fun _ => ?_⟩
                      refine s_env (env' := [(35, .slice (some ⟨bk1240, 0, none⟩) s41.1.length c43), (36, .int .i64 y58)]) (by exact ⟨congrArg some hv1292, congrArg some hv1294, trivial⟩) ?_
                      refine o_ixO 0 rfl hA1291 rfl rfl fun y1238 bk1297 vs1298 h1296 ha1299 hi1300 hr1301 => ?_
                      subst hr1301
                      obtain rfl := s_bk ha1299
                      obtain rfl := Option.some.inj (h1245.symm.trans h1296)
                      exact s_pred fun _ _ _ hE hI => ⟨(.pointer (some ⟨bk1240, (y58 : Int).toNat * GoT.sz (Int), none⟩)), [], _, fun _ e => (by cases e; exact hE _ _ rfl), .refl _, by exact hI, ⟨rfl, rfl, hi1300⟩⟩
                    refine dcons ?_ ?_
                    · intro _ _ H1304 fr1305 hle1306 hd1307
                      have hA1309 := All2.mono (fun _ _ => GoT.mono hle1306) hA249
                      obtain ⟨hv1310, hg1311, hp1312⟩ := hd1307 2 (by decide)
                      refine ⟨_, some (), rfl, fun _ => ?_⟩
                      refine s_env (env' := [(37, .pointer (some ⟨bk1240, (y58 : Int).toNat * GoT.sz (Int), none⟩))]) (by exact ⟨congrArg some hv1310, trivial⟩) ?_
                      refine o_ldO 0 0 rfl hp1312 rfl rfl rfl ?_
                      exact s_pred fun _ _ _ hE hI => ⟨(.int .i64 y1238), [], _, fun _ e => (by cases e; exact hE _ _ rfl), .refl _, by exact hI, ⟨rfl, rfl⟩⟩
                    refine dcons ?_ ?_
                    · intro _ _ H1315 fr1316 hle1317 hd1318
                      obtain ⟨hv1320, hg1321⟩ := hd1318 3 (by decide)
                      refine ⟨_, some (), rfl, fun _ => ?_⟩
                      refine s_env (env' := [(38, .int .i64 y1238)]) (by exact ⟨congrArg some hv1320, trivial⟩) ?_
                      refine o_ge rfl rfl ?_
                      exact s_pred fun _ _ _ hE hI => ⟨(.bool (decide (y1238 ≥ 0))), [], _, fun _ e => (by cases e; exact hE _ _ rfl), .refl _, by exact hI, ⟨rfl, rfl⟩⟩
                    refine dcons ?_ ?_
                    · intro _ _ H1324 fr1325 hle1326 hd1327
                      obtain ⟨hv1329, hg1330⟩ := hd1327 4 (by decide)
                      refine ⟨_, some (), rfl, fun _ => ?_⟩
                      refine s_env (env' := [(39, .bool (decide (y1238 ≥ 0)))]) (by exact ⟨congrArg some hv1329, trivial⟩) ?_
                      refine o_mov rfl ?_
                      exact s_pred fun _ _ _ hE hI => ⟨(.bool (decide (y1238 ≥ 0))), [], _, fun _ e => (by cases e; exact hE _ _ rfl), .refl _, by exact hI, ⟨rfl, rfl⟩⟩
                    refine dcons ?_ ?_
                    · intro _ _ H1333 fr1334 hle1335 hd1336
                      have hA1338 := All2.mono (fun _ _ => GoT.mono hle1335) hA249
                      obtain ⟨hv1339, hg1340⟩ := hd1336 5 (by decide)
                      refine ⟨_, some (), rfl, fun _ => ?_⟩
                      refine s_env (env' := [(40, .bool (decide (y1238 ≥ 0))), (5, .slice (some ⟨bk1240, 0, none⟩) s41.1.length c43)]) (by exact ⟨congrArg some hv1339, rfl, trivial⟩) ?_
                      refine s_want rfl rfl h1247 ?_
                      refine o_mov rfl ?_
                      exact s_pred fun _ _ _ hE hI => ⟨(.slice (some ⟨bk1240, 0, none⟩) s41.1.length c43), [], _, fun _ e => (by cases e; exact hE _ _ rfl), .refl _, by exact hI, ⟨rfl, rfl⟩⟩
                    refine dcons ?_ ?_
                    · intro _ _ H1343 fr1344 hle1345 hd1346
                      obtain ⟨hv1348, hg1349⟩ := hd1346 5 (by decide)
                      refine ⟨_, some (), rfl, fun _ => ?_⟩
                      refine s_env (env' := [(40, .bool (decide (y1238 ≥ 0))), (9, .int .i64 y67)]) (by exact ⟨congrArg some hv1348, rfl, trivial⟩) ?_
                      refine s_want rfl rfl h1247 ?_
                      refine o_mov rfl ?_
                      exact s_pred fun _ _ _ hE hI => ⟨(.int .i64 y67), [], _, fun _ e => (by cases e; exact hE _ _ rfl), .refl _, by exact hI, ⟨rfl, rfl⟩⟩
                    refine dcons ?_ ?_
                    · intro _ _ H1352 fr1353 hle1354 hd1355
                      have hA1357 := All2.mono (fun _ _ => GoT.mono hle1354) hA249
                      obtain ⟨hv1358, hg1359⟩ := hd1355 5 (by decide)
                      obtain ⟨hv1360, hg1361⟩ := hd1355 6 (by decide)
                      obtain ⟨hv1362, hg1363⟩ := hd1355 7 (by decide)
                      refine ⟨_, (rd s41.1 y67).bind some, by rw [h1255]; rfl, fun _ => ?_⟩
                      refine s_env (env' := [(40, .bool (decide (y1238 ≥ 0))), (41, .slice (some ⟨bk1240, 0, none⟩) s41.1.length c43), (42, .int .i64 y67)]) (by exact ⟨congrArg some hv1358, congrArg some hv1360, congrArg some hv1362, trivial⟩) ?_
                      refine s_want rfl rfl h1247 ?_
                      refine o_ixO 0 rfl hA1357 rfl rfl fun y1248 bk1365 vs1366 h1364 ha1367 hi1368 hr1369 => ?_
                      subst hr1369
                      obtain rfl := s_bk ha1367
                      obtain rfl := Option.some.inj (h1255.symm.trans h1364)
                      exact s_pred fun _ _ _ hE hI => ⟨(.pointer (some ⟨bk1240, (y67 : Int).toNat * GoT.sz (Int), none⟩)), [], _, fun _ e => (by cases e; exact hE _ _ rfl), .refl _, by exact hI, ⟨rfl, rfl, hi1368⟩⟩
                    refine dcons ?_ ?_
                    · intro _ _ H1372 fr1373 hle1374 hd1375
                      have hA1377 := All2.mono (fun _ _ => GoT.mono hle1374) hA249
                      obtain ⟨hv1378, hg1379⟩ := hd1375 5 (by decide)
                      obtain ⟨hv1380, hg1381, hp1382⟩ := hd1375 8 (by decide)
                      refine ⟨_, some (), rfl, fun _ => ?_⟩
                      refine s_env (env' := [(40, .bool (decide (y1238 ≥ 0))), (43, .pointer (some ⟨bk1240, (y67 : Int).toNat * GoT.sz (Int), none⟩))]) (by exact ⟨congrArg some hv1378, congrArg some hv1380, trivial⟩) ?_
                      refine s_want rfl rfl h1247 ?_
                      refine o_ldO 0 0 rfl hp1382 rfl rfl rfl ?_
                      exact s_pred fun _ _ _ hE hI => ⟨(.int .i64 y1248), [], _, fun _ e => (by cases e; exact hE _ _ rfl), .refl _, by exact hI, ⟨rfl, rfl⟩⟩
                    refine dcons ?_ ?_
                    · intro _ _ H1385 fr1386 hle1387 hd1388
                      obtain ⟨hv1390, hg1391⟩ := hd1388 5 (by decide)
                      obtain ⟨hv1392, hg1393⟩ := hd1388 9 (by decide)
                      refine ⟨_, some (), rfl, fun _ => ?_⟩
                      refine s_env (env' := [(40, .bool (decide (y1238 ≥ 0))), (44, .int .i64 y1248)]) (by exact ⟨congrArg some hv1390, congrArg some hv1392, trivial⟩) ?_
                      refine s_want rfl rfl h1247 ?_
                      refine o_lt rfl rfl ?_
                      exact s_pred fun _ _ _ hE hI => ⟨(.bool (decide (y1248 < 0))), [], _, fun _ e => (by cases e; exact hE _ _ rfl), .refl _, by exact hI, ⟨rfl, rfl⟩⟩
                    refine dcons ?_ ?_
                    · intro _ _ H1396 fr1397 hle1398 hd1399
                      obtain ⟨hv1401, hg1402⟩ := hd1399 5 (by decide)
                      obtain ⟨hv1403, hg1404⟩ := hd1399 10 (by decide)
                      refine ⟨_, some (), rfl, fun _ => ?_⟩
                      refine s_env (env' := [(40, .bool (decide (y1238 ≥ 0))), (45, .bool (decide (y1248 < 0)))]) (by exact ⟨congrArg some hv1401, congrArg some hv1403, trivial⟩) ?_
                      refine s_want rfl rfl h1247 ?_
                      refine o_mov rfl ?_
                      exact s_pred fun _ _ _ hE hI => ⟨(.bool (decide (y1248 < 0))), [], _, fun _ e => (by cases e; exact hE _ _ rfl), .refl _, by exact hI, ⟨rfl, rfl⟩⟩
                    refine dcons ?_ ?_
                    · intro _ _ H1407 fr1408 hle1409 hd1410
                      have hA1412 := All2.mono (fun _ _ => GoT.mono hle1409) hA249
                      obtain ⟨hv1413, hg1414⟩ := hd1410 11 (by decide)
                      refine ⟨_, some (), rfl, fun _ => ?_⟩
                      refine s_env (env' := [(46, .bool (decide (y1248 < 0))), (5, .slice (some ⟨bk1240, 0, none⟩) s41.1.length c43)]) (by exact ⟨congrArg some hv1413, rfl, trivial⟩) ?_
                      refine s_unwant rfl rfl h1256 ?_
                      exact s_pred fun _ _ _ hE hI => ⟨undef, [], _, fun _ e => (by cases e; exact hE _ _ rfl), .refl _, by exact hI, ⟨rfl, rfl⟩⟩
                    refine dcons ?_ ?_
                    · intro _ _ H1417 fr1418 hle1419 hd1420
                      obtain ⟨hv1422, hg1423⟩ := hd1420 11 (by decide)
                      refine ⟨_, some (), rfl, fun _ => ?_⟩
                      refine s_env (env' := [(46, .bool (decide (y1248 < 0))), (9, .int .i64 y67)]) (by exact ⟨congrArg some hv1422, rfl, trivial⟩) ?_
                      refine s_unwant rfl rfl h1256 ?_
                      exact s_pred fun _ _ _ hE hI => ⟨undef, [], _, fun _ e => (by cases e; exact hE _ _ rfl), .refl _, by exact hI, ⟨rfl, rfl⟩⟩
                    refine dcons ?_ ?_
                    · intro _ _ H1426 fr1427 hle1428 hd1429
                      obtain ⟨hv1431, hg1432⟩ := hd1429 11 (by decide)
                      obtain ⟨hv1433, hg1434⟩ := hd1429 12 (by decide)
                      obtain ⟨hv1435, hg1436⟩ := hd1429 13 (by decide)
                      refine ⟨_, some (), rfl, fun _ => ?_⟩
                      refine s_env (env' := [(46, .bool (decide (y1248 < 0))), (47, undef), (48, undef)]) (by exact ⟨congrArg some hv1431, congrArg some hv1433, congrArg some hv1435, trivial⟩) ?_
                      refine s_unwant rfl rfl h1256 ?_
                      exact s_pred fun _ _ _ hE hI => ⟨undef, [], _, fun _ e => (by cases e; exact hE _ _ rfl), .refl _, by exact hI, ⟨rfl, rfl⟩⟩
                    refine dcons ?_ ?_
                    · intro _ _ H1439 fr1440 hle1441 hd1442
                      obtain ⟨hv1444, hg1445⟩ := hd1442 11 (by decide)
                      obtain ⟨hv1446, hg1447⟩ := hd1442 14 (by decide)
                      refine ⟨_, some (), rfl, fun _ => ?_⟩
                      refine s_env (env' := [(46, .bool (decide (y1248 < 0))), (49, undef)]) (by exact ⟨congrArg some hv1444, congrArg some hv1446, trivial⟩) ?_
                      refine s_unwant rfl rfl h1256 ?_
                      exact s_pred fun _ _ _ hE hI => ⟨undef, [], _, fun _ e => (by cases e; exact hE _ _ rfl), .refl _, by exact hI, ⟨rfl, rfl⟩⟩
                    refine dcons ?_ ?_
                    · intro _ _ H1450 fr1451 hle1452 hd1453
                      have hA1455 := All2.mono (fun _ _ => GoT.mono hle1452) hA249
                      obtain ⟨hv1456, hg1457⟩ := hd1453 11 (by decide)
                      refine ⟨_, some (), rfl, fun _ => ?_⟩
                      refine s_env (env' := [(46, .bool (decide (y1248 < 0))), (5, .slice (some ⟨bk1240, 0, none⟩) s41.1.length c43)]) (by exact ⟨congrArg some hv1456, rfl, trivial⟩) ?_
                      refine s_unwant rfl rfl h1256 ?_
                      exact s_pred fun _ _ _ hE hI => ⟨undef, [], _, fun _ e => (by cases e; exact hE _ _ rfl), .refl _, by exact hI, ⟨rfl, rfl⟩⟩
                    refine dcons ?_ ?_
                    · intro _ _ H1460 fr1461 hle1462 hd1463
                      obtain ⟨hv1465, hg1466⟩ := hd1463 11 (by decide)
                      refine ⟨_, some (), rfl, fun _ => ?_⟩
                      refine s_env (env' := [(46, .bool (decide (y1248 < 0))), (8, .int .i64 y58)]) (by exact ⟨congrArg some hv1465, rfl, trivial⟩) ?_
                      refine s_unwant rfl rfl h1256 ?_
                      exact s_pred fun _ _ _ hE hI => ⟨undef, [], _, fun _ e => (by cases e; exact hE _ _ rfl), .refl _, by exact hI, ⟨rfl, rfl⟩⟩
                    refine dcons ?_ ?_
                    · intro _ _ H1469 fr1470 hle1471 hd1472
                      obtain ⟨hv1474, hg1475⟩ := hd1472 11 (by decide)
                      obtain ⟨hv1476, hg1477⟩ := hd1472 16 (by decide)
                      obtain ⟨hv1478, hg1479⟩ := hd1472 17 (by decide)
                      refine ⟨_, some (), rfl, fun _ => ?_⟩
                      refine s_env (env' := [(46, .bool (decide (y1248 < 0))), (51, undef), (52, undef)]) (by exact ⟨congrArg some hv1474, congrArg some hv1476, congrArg some hv1478, trivial⟩) ?_
                      refine s_unwant rfl rfl h1256 ?_
                      exact s_pred fun _ _ _ hE hI => ⟨undef, [], _, fun _ e => (by cases e; exact hE _ _ rfl), .refl _, by exact hI, ⟨rfl, rfl⟩⟩
                    refine dcons ?_ ?_
                    · intro _ _ H1482 fr1483 hle1484 hd1485
                      obtain ⟨hv1487, hg1488⟩ := hd1485 11 (by decide)
                      obtain ⟨hv1489, hg1490⟩ := hd1485 18 (by decide)
                      refine ⟨_, some (), rfl, fun _ => ?_⟩
                      refine s_env (env' := [(46, .bool (decide (y1248 < 0))), (53, undef)]) (by exact ⟨congrArg some hv1487, congrArg some hv1489, trivial⟩) ?_
                      refine s_unwant rfl rfl h1256 ?_
                      exact s_pred fun _ _ _ hE hI => ⟨undef, [], _, fun _ e => (by cases e; exact hE _ _ rfl), .refl _, by exact hI, ⟨rfl, rfl⟩⟩
                    refine dcons ?_ ?_
                    · intro _ _ H1493 fr1494 hle1495 hd1496
                      obtain ⟨hv1498, hg1499⟩ := hd1496 11 (by decide)
                      obtain ⟨hv1500, hg1501⟩ := hd1496 19 (by decide)
                      refine ⟨_, some (), rfl, fun _ => ?_⟩
                      refine s_env (env' := [(46, .bool (decide (y1248 < 0))), (54, undef)]) (by exact ⟨congrArg some hv1498, congrArg some hv1500, trivial⟩) ?_
                      refine s_unwant rfl rfl h1256 ?_
                      exact s_pred fun _ _ _ hE hI => ⟨undef, [], _, fun _ e => (by cases e; exact hE _ _ rfl), .refl _, by exact hI, ⟨rfl, rfl⟩⟩
                    refine dcons ?_ ?_
                    · intro _ _ H1504 fr1505 hle1506 hd1507
                      obtain ⟨hv1509, hg1510⟩ := hd1507 11 (by decide)
                      obtain ⟨hv1511, hg1512⟩ := hd1507 15 (by decide)
                      obtain ⟨hv1513, hg1514⟩ := hd1507 20 (by decide)
                      refine ⟨_, some (), rfl, fun _ => ?_⟩
                      refine s_env (env' := [(46, .bool (decide (y1248 < 0))), (50, undef), (55, undef)]) (by exact ⟨congrArg some hv1509, congrArg some hv1511, congrArg some hv1513, trivial⟩) ?_
                      refine s_unwant rfl rfl h1256 ?_
                      exact s_pred fun _ _ _ hE hI => ⟨undef, [], _, fun _ e => (by cases e; exact hE _ _ rfl), .refl _, by exact hI, ⟨rfl, rfl⟩⟩
                    refine dcons ?_ ?_
                    · intro _ _ H1517 fr1518 hle1519 hd1520
                      obtain ⟨hv1522, hg1523⟩ := hd1520 5 (by decide)
                      obtain ⟨hv1524, hg1525⟩ := hd1520 11 (by decide)
                      obtain ⟨hv1526, hg1527⟩ := hd1520 21 (by decide)
                      refine ⟨_, some (), rfl, fun _ => ?_⟩
                      refine s_env (env' := [(40, .bool (decide (y1238 ≥ 0))), (46, .bool (decide (y1248 < 0))), (56, undef)]) (by exact ⟨congrArg some hv1522, congrArg some hv1524, congrArg some hv1526, trivial⟩) ?_
                      refine s_want rfl rfl h1247 ?_
                      refine o_pickT rfl h1256 rfl ?_
                      exact s_pred fun _ _ _ hE hI => ⟨(.bool true), [], _, fun _ e => (by cases e; exact hE _ _ rfl), .refl _, by exact hI, ⟨rfl, rfl⟩⟩
                    refine dcons ?_ ?_
                    · intro _ _ H1530 fr1531 hle1532 hd1533
                      obtain ⟨hv1535, hg1536⟩ := hd1533 5 (by decide)
                      obtain ⟨hv1537, hg1538⟩ := hd1533 22 (by decide)
                      refine ⟨_, some (), rfl, fun _ => ?_⟩
                      refine s_env (env' := [(40, .bool (decide (y1238 ≥ 0))), (57, .bool true)]) (by exact ⟨congrArg some hv1535, congrArg some hv1537, trivial⟩) ?_
                      refine o_pickT rfl h1247 rfl ?_
                      exact s_pred fun _ _ _ hE hI => ⟨(.bool true), [], _, fun _ e => (by cases e; exact hE _ _ rfl), .refl _, by exact hI, ⟨rfl, rfl⟩⟩
                    exact dnil
                  · intro V1541 G1542 H1539 hle1540 hF1543
                    have hs1544 := RSl.mono hle1540 hs248
                    have hA1545 := All2.mono (fun _ _ => GoT.mono hle1540) hA249
                    obtain ⟨hv1546, hg1547⟩ := hF1543 23 (show 23 < 24 by decide)
                    refine s_env (env' := [(58, .bool true), (0, .slice a0_0 x0.length c0_0), (1, .int .i64 x1), (5, .slice (some ⟨bk1240, 0, none⟩) s41.1.length c43), (6, .int .i64 s21.2), (7, .int .i64 s41.2), (15, .int .i64 s41.2), (16, .slice a0_0 x0.length c0_0), (17, .int .i64 (x0.length : Int)), (18, .bool (decide (s41.2 < (x0.length : Int)))), (34, .int .i64 y67), (8, .int .i64 y58), (9, .int .i64 y67)]) (by exact ⟨congrArg some hv1546, rfl, rfl, rfl, rfl, rfl, rfl, rfl, rfl, rfl, rfl, rfl, rfl, trivial⟩) ?_
                    refine s_own (List.sublist_append_left _ _) ?_
                    refine s_done ?_
                    exact s_env (by exact ⟨rfl, rfl, rfl, rfl, rfl, rfl, rfl, rfl, trivial⟩) (s_own (by exact (.cons_cons _ .slnil)) (J1237 (s41.1, true) _ _ _ ⟨_, _, _, rfl, rfl, hle1540, hA1545⟩))
                · refine s_bg fun y1548 h1555 => ?_
                  refine s_bg fun y1556 h1563 => ?_
                  refine s_drawL [(fun H v g => v = Value.slice (some ⟨bk1240, 0, none⟩) s41.1.length c43 ∧ g = []),
      (fun H v g => v = Value.int .i64 y58 ∧ g = []),
      (fun H v g => v = Value.pointer (some ⟨bk1240, (y58 : Int).toNat * GoT.sz (Int), none⟩) ∧ g = [] ∧ (ls44)[(y58 : Int).toNat]? = some [.int .i64 y1238]),
      (fun H v g => v = Value.int .i64 y1238 ∧ g = []),
      (fun H v g => v = Value.bool (decide (y1238 ≥ 0)) ∧ g = []),
      (fun H v g => v = Value.bool (decide (y1238 ≥ 0)) ∧ g = []),
      (fun H v g => v = Value.slice (some ⟨bk1240, 0, none⟩) s41.1.length c43 ∧ g = []),
      (fun H v g => v = Value.int .i64 y67 ∧ g = []),
      (fun H v g => v = Value.pointer (some ⟨bk1240, (y67 : Int).toNat * GoT.sz (Int), none⟩) ∧ g = [] ∧ (ls44)[(y67 : Int).toNat]? = some [.int .i64 y1248]),
      (fun H v g => v = Value.int .i64 y1248 ∧ g = []),
      (fun H v g => v = Value.bool (decide (y1248 < 0)) ∧ g = []),
      (fun H v g => v = Value.bool (decide (y1248 < 0)) ∧ g = []),
      (fun H v g => v = Value.slice (some ⟨bk1240, 0, none⟩) s41.1.length c43 ∧ g = []),
      (fun H v g => v = Value.int .i64 y67 ∧ g = []),
      (fun H v g => v = Value.pointer (some ⟨bk1240, (y67 : Int).toNat * GoT.sz (Int), none⟩) ∧ g = [] ∧ (ls44)[(y67 : Int).toNat]? = some [.int .i64 y1548]),
      (fun H v g => v = Value.int .i64 y1548 ∧ g = []),
      (fun H v g => v = Value.slice (some ⟨bk1240, 0, none⟩) s41.1.length c43 ∧ g = []),
      (fun H v g => v = Value.int .i64 y58 ∧ g = []),
      (fun H v g => v = Value.pointer (some ⟨bk1240, (y58 : Int).toNat * GoT.sz (Int), none⟩) ∧ g = [] ∧ (ls44)[(y58 : Int).toNat]? = some [.int .i64 y1556]),
      (fun H v g => v = Value.int .i64 y1556 ∧ g = []),
      (fun H v g => v = Value.int .i64 (w64 (y1556 + 1)) ∧ g = []),
      (fun H v g => v = Value.bool (decide (y1548 > (w64 (y1556 + 1)))) ∧ g = []),
      (fun H v g => v = Value.bool (decide (y1548 > (w64 (y1556 + 1)))) ∧ g = []),
      (fun H v g => v = Value.bool (decide (y1548 > (w64 (y1556 + 1)))) ∧ g = [])] [[], [], [], [], [], [], [], [], [], [], [], [], [], [], [], [], [], [], [], [], [], [], [], []] mixed ⟨m0, m0, m0, m0, m0, m0, m0, m0, m0, m0, m0, m0, m0, m0, m0, m0, m0, m0, m0, m0, m0, m0, m0, m0, trivial⟩ (by kernel_rfl) (by kernel_rfl) rfl (by kernel_rfl) rfl rfl ?_ ?_
                  · refine dcons ?_ ?_
                    · intro _ _ H1590 fr1591 hle1592 hd1593
                      have hA1595 := All2.mono (fun _ _ => GoT.mono hle1592) hA249
                      refine ⟨_, some (), rfl, fun _ => ?_⟩
                      refine s_env (env' := [(5, .slice (some ⟨bk1240, 0, none⟩) s41.1.length c43)]) (by exact ⟨rfl, trivial⟩) ?_
                      refine o_mov rfl ?_
                      exact s_pred fun _ _ _ hE hI => ⟨(.slice (some ⟨bk1240, 0, none⟩) s41.1.length c43), [], _, fun _ e => (by cases e; exact hE _ _ rfl), .refl _, by exact hI, ⟨rfl, rfl⟩⟩
                    refine dcons ?_ ?_
                    · intro _ _ H1598 fr1599 hle1600 hd1601
                      refine ⟨_, some (), rfl, fun _ => ?_⟩
                      refine s_env (env' := [(8, .int .i64 y58)]) (by exact ⟨rfl, trivial⟩) ?_
                      refine o_mov rfl ?_
                      exact s_pred fun _ _ _ hE hI => ⟨(.int .i64 y58), [], _, fun _ e => (by cases e; exact hE _ _ rfl), .refl _, by exact hI, ⟨rfl, rfl⟩⟩
                    refine dcons ?_ ?_
                    · intro _ _ H1605 fr1606 hle1607 hd1608
                      have hA1610 := All2.mono (fun _ _ => GoT.mono hle1607) hA249
                      obtain ⟨hv1611, hg1612⟩ := hd1608 0 (by decide)
                      obtain ⟨hv1613, hg1614⟩ := hd1608 1 (by decide)
                      refine ⟨_, (rd s41.1 y58).bind some, by rw [h1245]; rfl, fun _ => ?_⟩
                      refine s_env (env' := [(35, .slice (some ⟨bk1240, 0, none⟩) s41.1.length c43), (36, .int .i64 y58)]) (by exact ⟨congrArg some hv1611, congrArg some hv1613, trivial⟩) ?_
                      refine o_ixO 0 rfl hA1610 rfl rfl fun y1238 bk1616 vs1617 h1615 ha1618 hi1619 hr1620 => ?_
                      subst hr1620
                      obtain rfl := s_bk ha1618
                      obtain rfl := Option.some.inj (h1245.symm.trans h1615)
                      exact s_pred fun _ _ _ hE hI => ⟨(.pointer (some ⟨bk1240, (y58 : Int).toNat * GoT.sz (Int), none⟩)), [], _, fun _ e => (by cases e; exact hE _ _ rfl), .refl _, by exact hI, ⟨rfl, rfl, hi1619⟩⟩
                    refine dcons ?_ ?_
                    · intro _ _ H1623 fr1624 hle1625 hd1626
                      have hA1628 := All2.mono (fun _ _ => GoT.mono hle1625) hA249
                      obtain ⟨hv1629, hg1630, hp1631⟩ := hd1626 2 (by decide)
                      refine ⟨_, some (), rfl, fun _ => ?_⟩
                      refine s_env (env' := [(37, .pointer (some ⟨bk1240, (y58 : Int).toNat * GoT.sz (Int), none⟩))]) (by exact ⟨congrArg some hv1629, trivial⟩) ?_
                      refine o_ldO 0 0 rfl hp1631 rfl rfl rfl ?_
                      exact s_pred fun _ _ _ hE hI => ⟨(.int .i64 y1238), [], _, fun _ e => (by cases e; exact hE _ _ rfl), .refl _, by exact hI, ⟨rfl, rfl⟩⟩
                    refine dcons ?_ ?_
                    · intro _ _ H1634 fr1635 hle1636 hd1637
                      obtain ⟨hv1639, hg1640⟩ := hd1637 3 (by decide)
                      refine ⟨_, some (), rfl, fun _ => ?_⟩
                      refine s_env (env' := [(38, .int .i64 y1238)]) (by exact ⟨congrArg some hv1639, trivial⟩) ?_
                      refine o_ge rfl rfl ?_
                      exact s_pred fun _ _ _ hE hI => ⟨(.bool (decide (y1238 ≥ 0))), [], _, fun _ e => (by cases e; exact hE _ _ rfl), .refl _, by exact hI, ⟨rfl, rfl⟩⟩
                    refine dcons ?_ ?_
                    · intro _ _ H1643 fr1644 hle1645 hd1646
                      obtain ⟨hv1648, hg1649⟩ := hd1646 4 (by decide)
                      refine ⟨_, some (), rfl, fun _ => ?_⟩
                      refine s_env (env' := [(39, .bool (decide (y1238 ≥ 0)))]) (by exact ⟨congrArg some hv1648, trivial⟩) ?_
                      refine o_mov rfl ?_
                      exact s_pred fun _ _ _ hE hI => ⟨(.bool (decide (y1238 ≥ 0))), [], _, fun _ e => (by cases e; exact hE _ _ rfl), .refl _, by exact hI, ⟨rfl, rfl⟩⟩
                    refine dcons ?_ ?_
                    · intro _ _ H1652 fr1653 hle1654 hd1655
                      have hA1657 := All2.mono (fun _ _ => GoT.mono hle1654) hA249
                      obtain ⟨hv1658, hg1659⟩ := hd1655 5 (by decide)
                      refine ⟨_, some (), rfl, fun _ => ?_⟩
                      refine s_env (env' := [(40, .bool (decide (y1238 ≥ 0))), (5, .slice (some ⟨bk1240, 0, none⟩) s41.1.length c43)]) (by exact ⟨congrArg some hv1658, rfl, trivial⟩) ?_
                      refine s_want rfl rfl h1247 ?_
                      refine o_mov rfl ?_
                      exact s_pred fun _ _ _ hE hI => ⟨(.slice (some ⟨bk1240, 0, none⟩) s41.1.length c43), [], _, fun _ e => (by cases e; exact hE _ _ rfl), .refl _, by exact hI, ⟨rfl, rfl⟩⟩
                    refine dcons ?_ ?_
                    · intro _ _ H1662 fr1663 hle1664 hd1665
                      obtain ⟨hv1667, hg1668⟩ := hd1665 5 (by decide)
                      refine ⟨_, some (), rfl, fun _ => ?_⟩
                      refine s_env (env' := [(40, .bool (decide (y1238 ≥ 0))), (9, .int .i64 y67)]) (by exact ⟨congrArg some hv1667, rfl, trivial⟩) ?_
                      refine s_want rfl rfl h1247 ?_
                      refine o_mov rfl ?_
                      exact s_pred fun _ _ _ hE hI => ⟨(.int .i64 y67), [], _, fun _ e => (by cases e; exact hE _ _ rfl), .refl _, by exact hI, ⟨rfl, rfl⟩⟩
                    refine dcons ?_ ?_
                    · intro _ _ H1671 fr1672 hle1673 hd1674
                      have hA1676 := All2.mono (fun _ _ => GoT.mono hle1673) hA249
                      obtain ⟨hv1677, hg1678⟩ := hd1674 5 (by decide)
                      obtain ⟨hv1679, hg1680⟩ := hd1674 6 (by decide)
                      obtain ⟨hv1681, hg1682⟩ := hd1674 7 (by decide)
                      refine ⟨_, (rd s41.1 y67).bind some, by rw [h1255]; rfl, fun _ => ?_⟩
                      refine s_env (env' := [(40, .bool (decide (y1238 ≥ 0))), (41, .slice (some ⟨bk1240, 0, none⟩) s41.1.length c43), (42, .int .i64 y67)]) (by exact ⟨congrArg some hv1677, congrArg some hv1679, congrArg some hv1681, trivial⟩) ?_
                      refine s_want rfl rfl h1247 ?_
                      refine o_ixO 0 rfl hA1676 rfl rfl fun y1248 bk1684 vs1685 h1683 ha1686 hi1687 hr1688 => ?_
                      subst hr1688
                      obtain rfl := s_bk ha1686
                      obtain rfl := Option.some.inj (h1255.symm.trans h1683)
                      exact s_pred fun _ _ _ hE hI => ⟨(.pointer (some ⟨bk1240, (y67 : Int).toNat * GoT.sz (Int), none⟩)), [], _, fun _ e => (by cases e; exact hE _ _ rfl), .refl _, by exact hI, ⟨rfl, rfl, hi1687⟩⟩
                    refine dcons ?_ ?_
                    · intro _ _ H1691 fr1692 hle1693 hd1694
                      have hA1696 := All2.mono (fun _ _ => GoT.mono hle1693) hA249
                      obtain ⟨hv1697, hg1698⟩ := hd1694 5 (by decide)
                      obtain ⟨hv1699, hg1700, hp1701⟩ := hd1694 8 (by decide)
                      refine ⟨_, some (), rfl, fun _ => ?_⟩
                      refine s_env (env' := [(40, .bool (decide (y1238 ≥ 0))), (43, .pointer (some ⟨bk1240, (y67 : Int).toNat * GoT.sz (Int), none⟩))]) (by exact ⟨congrArg some hv1697, congrArg some hv1699, trivial⟩) ?_
                      refine s_want rfl rfl h1247 ?_
                      refine o_ldO 0 0 rfl hp1701 rfl rfl rfl ?_
                      exact s_pred fun _ _ _ hE hI => ⟨(.int .i64 y1248), [], _, fun _ e => (by cases e; exact hE _ _ rfl), .refl _, by exact hI, ⟨rfl, rfl⟩⟩
                    refine dcons ?_ ?_
                    · intro _ _ H1704 fr1705 hle1706 hd1707
                      obtain ⟨hv1709, hg1710⟩ := hd1707 5 (by decide)
                      obtain ⟨hv1711, hg1712⟩ := hd1707 9 (by decide)
                      refine ⟨_, some (), rfl, fun _ => ?_⟩
                      refine s_env (env' := [(40, .bool (decide (y1238 ≥ 0))), (44, .int .i64 y1248)]) (by exact ⟨congrArg some hv1709, congrArg some hv1711, trivial⟩) ?_
                      refine s_want rfl rfl h1247 ?_
                      refine o_lt rfl rfl ?_
                      exact s_pred fun _ _ _ hE hI => ⟨(.bool (decide (y1248 < 0))), [], _, fun _ e => (by cases e; exact hE _ _ rfl), .refl _, by exact hI, ⟨rfl, rfl⟩⟩
                    refine dcons ?_ ?_
                    · intro _ _ H1715 fr1716 hle1717 hd1718
                      obtain ⟨hv1720, hg1721⟩ := hd1718 5 (by decide)
                      obtain ⟨hv1722, hg1723⟩ := hd1718 10 (by decide)
                      refine ⟨_, some (), rfl, fun _ => ?_⟩
                      refine s_env (env' := [(40, .bool (decide (y1238 ≥ 0))), (45, .bool (decide (y1248 < 0)))]) (by exact ⟨congrArg some hv1720, congrArg some hv1722, trivial⟩) ?_
                      refine s_want rfl rfl h1247 ?_
                      refine o_mov rfl ?_
                      exact s_pred fun _ _ _ hE hI => ⟨(.bool (decide (y1248 < 0))), [], _, fun _ e => (by cases e; exact hE _ _ rfl), .refl _, by exact hI, ⟨rfl, rfl⟩⟩
                    refine dcons ?_ ?_
                    · intro _ _ H1726 fr1727 hle1728 hd1729
                      have hA1731 := All2.mono (fun _ _ => GoT.mono hle1728) hA249
                      obtain ⟨hv1732, hg1733⟩ := hd1729 11 (by decide)
                      refine ⟨_, some (), rfl, fun _ => ?_⟩
                      refine s_env (env' := [(46, .bool (decide (y1248 < 0))), (5, .slice (some ⟨bk1240, 0, none⟩) s41.1.length c43)]) (by exact ⟨congrArg some hv1732, rfl, trivial⟩) ?_
                      refine s_want rfl rfl h1256 ?_
                      refine o_mov rfl ?_
                      exact s_pred fun _ _ _ hE hI => ⟨(.slice (some ⟨bk1240, 0, none⟩) s41.1.length c43), [], _, fun _ e => (by cases e; exact hE _ _ rfl), .refl _, by exact hI, ⟨rfl, rfl⟩⟩
                    refine dcons ?_ ?_
                    · intro _ _ H1736 fr1737 hle1738 hd1739
                      obtain ⟨hv1741, hg1742⟩ := hd1739 11 (by decide)
                      refine ⟨_, some (), rfl, fun _ => ?_⟩
                      refine s_env (env' := [(46, .bool (decide (y1248 < 0))), (9, .int .i64 y67)]) (by exact ⟨congrArg some hv1741, rfl, trivial⟩) ?_
                      refine s_want rfl rfl h1256 ?_
                      refine o_mov rfl ?_
                      exact s_pred fun _ _ _ hE hI => ⟨(.int .i64 y67), [], _, fun _ e => (by cases e; exact hE _ _ rfl), .refl _, by exact hI, ⟨rfl, rfl⟩⟩
                    refine dcons ?_ ?_
                    · intro _ _ H1745 fr1746 hle1747 hd1748
                      have hA1750 := All2.mono (fun _ _ => GoT.mono hle1747) hA249
                      obtain ⟨hv1751, hg1752⟩ := hd1748 11 (by decide)
                      obtain ⟨hv1753, hg1754⟩ := hd1748 12 (by decide)
                      obtain ⟨hv1755, hg1756⟩ := hd1748 13 (by decide)
                      refine ⟨_, (rd s41.1 y67).bind some, by rw [h1555]; rfl, fun _ => ?_⟩
                      refine s_env (env' := [(46, .bool (decide (y1248 < 0))), (47, .slice (some ⟨bk1240, 0, none⟩) s41.1.length c43), (48, .int .i64 y67)]) (by exact ⟨congrArg some hv1751, congrArg some hv1753, congrArg some hv1755, trivial⟩) ?_
                      refine s_want rfl rfl h1256 ?_
                      refine o_ixO 0 rfl hA1750 rfl rfl fun y1548 bk1758 vs1759 h1757 ha1760 hi1761 hr1762 => ?_
                      subst hr1762
                      obtain rfl := s_bk ha1760
                      obtain rfl := Option.some.inj (h1555.symm.trans h1757)
                      exact s_pred fun _ _ _ hE hI => ⟨(.pointer (some ⟨bk1240, (y67 : Int).toNat * GoT.sz (Int), none⟩)), [], _, fun _ e => (by cases e; exact hE _ _ rfl), .refl _, by exact hI, ⟨rfl, rfl, hi1761⟩⟩
                    refine dcons ?_ ?_
                    · intro _ _ H1765 fr1766 hle1767 hd1768
                      have hA1770 := All2.mono (fun _ _ => GoT.mono hle1767) hA249
                      obtain ⟨hv1771, hg1772⟩ := hd1768 11 (by decide)
                      obtain ⟨hv1773, hg1774, hp1775⟩ := hd1768 14 (by decide)
                      refine ⟨_, some (), rfl, fun _ => ?_⟩
                      refine s_env (env' := [(46, .bool (decide (y1248 < 0))), (49, .pointer (some ⟨bk1240, (y67 : Int).toNat * GoT.sz (Int), none⟩))]) (by exact ⟨congrArg some hv1771, congrArg some hv1773, trivial⟩) ?_
                      refine s_want rfl rfl h1256 ?_
                      refine o_ldO 0 0 rfl hp1775 rfl rfl rfl ?_
                      exact s_pred fun _ _ _ hE hI => ⟨(.int .i64 y1548), [], _, fun _ e => (by cases e; exact hE _ _ rfl), .refl _, by exact hI, ⟨rfl, rfl⟩⟩
                    refine dcons ?_ ?_
                    · intro _ _ H1778 fr1779 hle1780 hd1781
                      have hA1783 := All2.mono (fun _ _ => GoT.mono hle1780) hA249
                      obtain ⟨hv1784, hg1785⟩ := hd1781 11 (by decide)
                      refine ⟨_, some (), rfl, fun _ => ?_⟩
                      refine s_env (env' := [(46, .bool (decide (y1248 < 0))), (5, .slice (some ⟨bk1240, 0, none⟩) s41.1.length c43)]) (by exact ⟨congrArg some hv1784, rfl, trivial⟩) ?_
                      refine s_want rfl rfl h1256 ?_
                      refine o_mov rfl ?_
                      exact s_pred fun _ _ _ hE hI => ⟨(.slice (some ⟨bk1240, 0, none⟩) s41.1.length c43), [], _, fun _ e => (by cases e; exact hE _ _ rfl), .refl _, by exact hI, ⟨rfl, rfl⟩⟩
                    refine dcons ?_ ?_
                    · intro _ _ H1788 fr1789 hle1790 hd1791
                      obtain ⟨hv1793, hg1794⟩ := hd1791 11 (by decide)
                      refine ⟨_, some (), rfl, fun _ => ?_⟩
                      refine s_env (env' := [(46, .bool (decide (y1248 < 0))), (8, .int .i64 y58)]) (by exact ⟨congrArg some hv1793, rfl, trivial⟩) ?_
                      refine s_want rfl rfl h1256 ?_
                      refine o_mov rfl ?_
                      exact s_pred fun _ _ _ hE hI => ⟨(.int .i64 y58), [], _, fun _ e => (by cases e; exact hE _ _ rfl), .refl _, by exact hI, ⟨rfl, rfl⟩⟩
                    refine dcons ?_ ?_
                    · intro _ _ H1797 fr1798 hle1799 hd1800
                      have hA1802 := All2.mono (fun _ _ => GoT.mono hle1799) hA249
                      obtain ⟨hv1803, hg1804⟩ := hd1800 11 (by decide)
                      obtain ⟨hv1805, hg1806⟩ := hd1800 16 (by decide)
                      obtain ⟨hv1807, hg1808⟩ := hd1800 17 (by decide)
                      refine ⟨_, (rd s41.1 y58).bind some, by rw [h1563]; rfl, fun _ => ?_⟩
                      refine s_env (env' := [(46, .bool (decide (y1248 < 0))), (51, .slice (some ⟨bk1240, 0, none⟩) s41.1.length c43), (52, .int .i64 y58)]) (by exact ⟨congrArg some hv1803, congrArg some hv1805, congrArg some hv1807, trivial⟩) ?_
                      refine s_want rfl rfl h1256 ?_
                      refine o_ixO 0 rfl hA1802 rfl rfl fun y1556 bk1810 vs1811 h1809 ha1812 hi1813 hr1814 => ?_
                      subst hr1814
                      obtain rfl := s_bk ha1812
                      obtain rfl := Option.some.inj (h1563.symm.trans h1809)
                      exact s_pred fun _ _ _ hE hI => ⟨(.pointer (some ⟨bk1240, (y58 : Int).toNat * GoT.sz (Int), none⟩)), [], _, fun _ e => (by cases e; exact hE _ _ rfl), .refl _, by exact hI, ⟨rfl, rfl, hi1813⟩⟩
                    refine dcons ?_ ?_
                    · intro _ _ H1817 fr1818 hle1819 hd1820
                      have hA1822 := All2.mono (fun _ _ => GoT.mono hle1819) hA249
                      obtain ⟨hv1823, hg1824⟩ := hd1820 11 (by decide)
                      obtain ⟨hv1825, hg1826, hp1827⟩ := hd1820 18 (by decide)
                      refine ⟨_, some (), rfl, fun _ => ?_⟩
                      refine s_env (env' := [(46, .bool (decide (y1248 < 0))), (53, .pointer (some ⟨bk1240, (y58 : Int).toNat * GoT.sz (Int), none⟩))]) (by exact ⟨congrArg some hv1823, congrArg some hv1825, trivial⟩) ?_
                      refine s_want rfl rfl h1256 ?_
                      refine o_ldO 0 0 rfl hp1827 rfl rfl rfl ?_
                      exact s_pred fun _ _ _ hE hI => ⟨(.int .i64 y1556), [], _, fun _ e => (by cases e; exact hE _ _ rfl), .refl _, by exact hI, ⟨rfl, rfl⟩⟩
                    refine dcons ?_ ?_
                    · intro _ _ H1830 fr1831 hle1832 hd1833
                      obtain ⟨hv1835, hg1836⟩ := hd1833 11 (by decide)
                      obtain ⟨hv1837, hg1838⟩ := hd1833 19 (by decide)
                      refine ⟨_, some (), rfl, fun _ => ?_⟩
                      refine s_env (env' := [(46, .bool (decide (y1248 < 0))), (54, .int .i64 y1556)]) (by exact ⟨congrArg some hv1835, congrArg some hv1837, trivial⟩) ?_
                      refine s_want rfl rfl h1256 ?_
                      refine o_add rfl rfl ?_
                      exact s_pred fun _ _ _ hE hI => ⟨(.int .i64 (w64 (y1556 + 1))), [], _, fun _ e => (by cases e; exact hE _ _ rfl), .refl _, by exact hI, ⟨rfl, rfl⟩⟩
                    refine dcons ?_ ?_
                    · intro _ _ H1841 fr1842 hle1843 hd1844
                      obtain ⟨hv1846, hg1847⟩ := hd1844 11 (by decide)
                      obtain ⟨hv1848, hg1849⟩ := hd1844 15 (by decide)
                      obtain ⟨hv1850, hg1851⟩ := hd1844 20 (by decide)
                      refine ⟨_, some (), rfl, fun _ => ?_⟩
                      refine s_env (env' := [(46, .bool (decide (y1248 < 0))), (50, .int .i64 y1548), (55, .int .i64 (w64 (y1556 + 1)))]) (by exact ⟨congrArg some hv1846, congrArg some hv1848, congrArg some hv1850, trivial⟩) ?_
                      refine s_want rfl rfl h1256 ?_
                      refine o_gt rfl rfl ?_
                      exact s_pred fun _ _ _ hE hI => ⟨(.bool (decide (y1548 > (w64 (y1556 + 1))))), [], _, fun _ e => (by cases e; exact hE _ _ rfl), .refl _, by exact hI, ⟨rfl, rfl⟩⟩
                    refine dcons ?_ ?_
                    · intro _ _ H1854 fr1855 hle1856 hd1857
                      obtain ⟨hv1859, hg1860⟩ := hd1857 5 (by decide)
                      obtain ⟨hv1861, hg1862⟩ := hd1857 11 (by decide)
                      obtain ⟨hv1863, hg1864⟩ := hd1857 21 (by decide)
                      refine ⟨_, some (), rfl, fun _ => ?_⟩
                      refine s_env (env' := [(40, .bool (decide (y1238 ≥ 0))), (46, .bool (decide (y1248 < 0))), (56, .bool (decide (y1548 > (w64 (y1556 + 1)))))]) (by exact ⟨congrArg some hv1859, congrArg some hv1861, congrArg some hv1863, trivial⟩) ?_
                      refine s_want rfl rfl h1247 ?_
                      refine o_pickF rfl h1256 rfl ?_
                      exact s_pred fun _ _ _ hE hI => ⟨(.bool (decide (y1548 > (w64 (y1556 + 1))))), [], _, fun _ e => (by cases e; exact hE _ _ rfl), .refl _, by exact hI, ⟨rfl, rfl⟩⟩
                    refine dcons ?_ ?_
                    · intro _ _ H1867 fr1868 hle1869 hd1870
                      obtain ⟨hv1872, hg1873⟩ := hd1870 5 (by decide)
                      obtain ⟨hv1874, hg1875⟩ := hd1870 22 (by decide)
                      refine ⟨_, some (), rfl, fun _ => ?_⟩
                      refine s_env (env' := [(40, .bool (decide (y1238 ≥ 0))), (57, .bool (decide (y1548 > (w64 (y1556 + 1)))))]) (by exact ⟨congrArg some hv1872, congrArg some hv1874, trivial⟩) ?_
                      refine o_pickT rfl h1247 rfl ?_
                      exact s_pred fun _ _ _ hE hI => ⟨(.bool (decide (y1548 > (w64 (y1556 + 1))))), [], _, fun _ e => (by cases e; exact hE _ _ rfl), .refl _, by exact hI, ⟨rfl, rfl⟩⟩
                    exact dnil
                  · intro V1878 G1879 H1876 hle1877 hF1880
                    have hs1881 := RSl.mono hle1877 hs248
                    have hA1882 := All2.mono (fun _ _ => GoT.mono hle1877) hA249
                    obtain ⟨hv1883, hg1884⟩ := hF1880 23 (show 23 < 24 by decide)
                    refine s_env (env' := [(58, .bool (decide (y1548 > (w64 (y1556 + 1))))), (0, .slice a0_0 x0.length c0_0), (1, .int .i64 x1), (5, .slice (some ⟨bk1240, 0, none⟩) s41.1.length c43), (6, .int .i64 s21.2), (7, .int .i64 s41.2), (15, .int .i64 s41.2), (16, .slice a0_0 x0.length c0_0), (17, .int .i64 (x0.length : Int)), (18, .bool (decide (s41.2 < (x0.length : Int)))), (34, .int .i64 y67), (8, .int .i64 y58), (9, .int .i64 y67)]) (by exact ⟨congrArg some hv1883, rfl, rfl, rfl, rfl, rfl, rfl, rfl, rfl, rfl, rfl, rfl, rfl, trivial⟩) ?_
                    refine s_own (List.sublist_append_left _ _) ?_
                    refine s_done ?_
                    exact s_env (by exact ⟨rfl, rfl, rfl, rfl, rfl, rfl, rfl, rfl, trivial⟩) (s_own (by exact (.cons_cons _ .slnil)) (J1237 (s41.1, decide (y1548 > (w64 (y1556 + 1)))) _ _ _ ⟨_, _, _, rfl, rfl, hle1877, hA1882⟩))
              · refine s_drawL [(fun H v g => v = Value.slice (some ⟨bk1240, 0, none⟩) s41.1.length c43 ∧ g = []),
      (fun H v g => v = Value.int .i64 y58 ∧ g = []),
      (fun H v g => v = Value.pointer (some ⟨bk1240, (y58 : Int).toNat * GoT.sz (Int), none⟩) ∧ g = [] ∧ (ls44)[(y58 : Int).toNat]? = some [.int .i64 y1238]),
      (fun H v g => v = Value.int .i64 y1238 ∧ g = []),
      (fun H v g => v = Value.bool (decide (y1238 ≥ 0)) ∧ g = []),
      (fun H v g => v = Value.bool (decide (y1238 ≥ 0)) ∧ g = []),
      uF,
      uF,
      uF,
      uF,
      uF,
      uF,
      uF,
      uF,
      uF,
      uF,
      uF,
      uF,
      uF,
      uF,
      uF,
      uF,
      uF,
      (fun H v g => v = Value.bool false ∧ g = [])] [[], [], [], [], [], [], [], [], [], [], [], [], [], [], [], [], [], [], [], [], [], [], [], []] mixed ⟨m0, m0, m0, m0, m0, m0, m0, m0, m0, m0, m0, m0, m0, m0, m0, m0, m0, m0, m0, m0, m0, m0, m0, m0, trivial⟩ (by kernel_rfl) (by kernel_rfl) rfl (by kernel_rfl) rfl rfl ?_ ?_
                · refine dcons ?_ ?_
                  · intro _ _ H1893 fr1894 hle1895 hd1896
                    have hA1898 := All2.mono (fun _ _ => GoT.mono hle1895) hA249
                    refine ⟨_, some (), rfl, fun _ => ?_⟩
                    refine s_env (env' := [(5, .slice (some ⟨bk1240, 0, none⟩) s41.1.length c43)]) (by exact ⟨rfl, trivial⟩) ?_
                    refine o_mov rfl ?_
                    exact s_pred fun _ _ _ hE hI => ⟨(.slice (some ⟨bk1240, 0, none⟩) s41.1.length c43), [], _, fun _ e => (by cases e; exact hE _ _ rfl), .refl _, by exact hI, ⟨rfl, rfl⟩⟩
                  refine dcons ?_ ?_
                  · intro _ _ H1901 fr1902 hle1903 hd1904
                    refine ⟨_, some (), rfl, fun _ => ?_⟩
                    refine s_env (env' := [(8, .int .i64 y58)]) (by exact ⟨rfl, trivial⟩) ?_
                    refine o_mov rfl ?_
                    exact s_pred fun _ _ _ hE hI => ⟨(.int .i64 y58), [], _, fun _ e => (by cases e; exact hE _ _ rfl), .refl _, by exact hI, ⟨rfl, rfl⟩⟩
                  refine dcons ?_ ?_
                  · intro _ _ H1908 fr1909 hle1910 hd1911
                    have hA1913 := All2.mono (fun _ _ => GoT.mono hle1910) hA249
                    obtain ⟨hv1914, hg1915⟩ := hd1911 0 (by decide)
                    obtain ⟨hv1916, hg1917⟩ := hd1911 1 (by decide)
                    refine ⟨_, (rd s41.1 y58).bind some, by rw [h1245]; rfl, fun _ => ?_⟩
                    refine s_env (env' := [(35, .slice (some ⟨bk1240, 0, none⟩) s41.1.length c43), (36, .int .i64 y58)]) (by exact ⟨congrArg some hv1914, congrArg some hv1916, trivial⟩) ?_
                    refine o_ixO 0 rfl hA1913 rfl rfl fun y1238 bk1919 vs1920 h1918 ha1921 hi1922 hr1923 => ?_
                    subst hr1923
                    obtain rfl := s_bk ha1921
                    obtain rfl := Option.some.inj (h1245.symm.trans h1918)
                    exact s_pred fun _ _ _ hE hI => ⟨(.pointer (some ⟨bk1240, (y58 : Int).toNat * GoT.sz (Int), none⟩)), [], _, fun _ e => (by cases e; exact hE _ _ rfl), .refl _, by exact hI, ⟨rfl, rfl, hi1922⟩⟩
                  refine dcons ?_ ?_
                  · intro _ _ H1926 fr1927 hle1928 hd1929
                    have hA1931 := All2.mono (fun _ _ => GoT.mono hle1928) hA249
                    obtain ⟨hv1932, hg1933, hp1934⟩ := hd1929 2 (by decide)
                    refine ⟨_, some (), rfl, fun _ => ?_⟩
                    refine s_env (env' := [(37, .pointer (some ⟨bk1240, (y58 : Int).toNat * GoT.sz (Int), none⟩))]) (by exact ⟨congrArg some hv1932, trivial⟩) ?_
                    refine o_ldO 0 0 rfl hp1934 rfl rfl rfl ?_
                    exact s_pred fun _ _ _ hE hI => ⟨(.int .i64 y1238), [], _, fun _ e => (by cases e; exact hE _ _ rfl), .refl _, by exact hI, ⟨rfl, rfl⟩⟩
                  refine dcons ?_ ?_
                  · intro _ _ H1937 fr1938 hle1939 hd1940
                    obtain ⟨hv1942, hg1943⟩ := hd1940 3 (by decide)
                    refine ⟨_, some (), rfl, fun _ => ?_⟩
                    refine s_env (env' := [(38, .int .i64 y1238)]) (by exact ⟨congrArg some hv1942, trivial⟩) ?_
                    refine o_ge rfl rfl ?_
                    exact s_pred fun _ _ _ hE hI => ⟨(.bool (decide (y1238 ≥ 0))), [], _, fun _ e => (by cases e; exact hE _ _ rfl), .refl _, by exact hI, ⟨rfl, rfl⟩⟩
                  refine dcons ?_ ?_
                  · intro _ _ H1946 fr1947 hle1948 hd1949
                    obtain ⟨hv1951, hg1952⟩ := hd1949 4 (by decide)
                    refine ⟨_, some (), rfl, fun _ => ?_⟩
                    refine s_env (env' := [(39, .bool (decide (y1238 ≥ 0)))]) (by exact ⟨congrArg some hv1951, trivial⟩) ?_
                    refine o_mov rfl ?_
                    exact s_pred fun _ _ _ hE hI => ⟨(.bool (decide (y1238 ≥ 0))), [], _, fun _ e => (by cases e; exact hE _ _ rfl), .refl _, by exact hI, ⟨rfl, rfl⟩⟩
                  refine dcons ?_ ?_
                  · intro _ _ H1955 fr1956 hle1957 hd1958
                    have hA1960 := All2.mono (fun _ _ => GoT.mono hle1957) hA249
                    obtain ⟨hv1961, hg1962⟩ := hd1958 5 (by decide)
                    refine ⟨_, some (), rfl, fun _ => ?_⟩
                    refine s_env (env' := [(40, .bool (decide (y1238 ≥ 0))), (5, .slice (some ⟨bk1240, 0, none⟩) s41.1.length c43)]) (by exact ⟨congrArg some hv1961, rfl, trivial⟩) ?_
                    refine s_unwant rfl rfl h1247 ?_
                    exact s_pred fun _ _ _ hE hI => ⟨undef, [], _, fun _ e => (by cases e; exact hE _ _ rfl), .refl _, by exact hI, ⟨rfl, rfl⟩⟩
                  refine dcons ?_ ?_
                  · intro _ _ H1965 fr1966 hle1967 hd1968
                    obtain ⟨hv1970, hg1971⟩ := hd1968 5 (by decide)
                    refine ⟨_, some (), rfl, fun _ => ?_⟩
                    refine s_env (env' := [(40, .bool (decide (y1238 ≥ 0))), (9, .int .i64 y67)]) (by exact ⟨congrArg some hv1970, rfl, trivial⟩) ?_
                    refine s_unwant rfl rfl h1247 ?_
                    exact s_pred fun _ _ _ hE hI => ⟨undef, [], _, fun _ e => (by cases e; exact hE _ _ rfl), .refl _, by exact hI, ⟨rfl, rfl⟩⟩
                  refine dcons ?_ ?_
                  · intro _ _ H1974 fr1975 hle1976 hd1977
                    obtain ⟨hv1979, hg1980⟩ := hd1977 5 (by decide)
                    obtain ⟨hv1981, hg1982⟩ := hd1977 6 (by decide)
                    obtain ⟨hv1983, hg1984⟩ := hd1977 7 (by decide)
                    refine ⟨_, some (), rfl, fun _ => ?_⟩
                    refine s_env (env' := [(40, .bool (decide (y1238 ≥ 0))), (41, undef), (42, undef)]) (by exact ⟨congrArg some hv1979, congrArg some hv1981, congrArg some hv1983, trivial⟩) ?_
                    refine s_unwant rfl rfl h1247 ?_
                    exact s_pred fun _ _ _ hE hI => ⟨undef, [], _, fun _ e => (by cases e; exact hE _ _ rfl), .refl _, by exact hI, ⟨rfl, rfl⟩⟩
                  refine dcons ?_ ?_
                  · intro _ _ H1987 fr1988 hle1989 hd1990
                    obtain ⟨hv1992, hg1993⟩ := hd1990 5 (by decide)
                    obtain ⟨hv1994, hg1995⟩ := hd1990 8 (by decide)
                    refine ⟨_, some (), rfl, fun _ => ?_⟩
                    refine s_env (env' := [(40, .bool (decide (y1238 ≥ 0))), (43, undef)]) (by exact ⟨congrArg some hv1992, congrArg some hv1994, trivial⟩) ?_
                    refine s_unwant rfl rfl h1247 ?_
                    exact s_pred fun _ _ _ hE hI => ⟨undef, [], _, fun _ e => (by cases e; exact hE _ _ rfl), .refl _, by exact hI, ⟨rfl, rfl⟩⟩
                  refine dcons ?_ ?_
                  · intro _ _ H1998 fr1999 hle2000 hd2001
                    obtain ⟨hv2003, hg2004⟩ := hd2001 5 (by decide)
                    obtain ⟨hv2005, hg2006⟩ := hd2001 9 (by decide)
                    refine ⟨_, some (), rfl, fun _ => ?_⟩
                    refine s_env (env' := [(40, .bool (decide (y1238 ≥ 0))), (44, undef)]) (by exact ⟨congrArg some hv2003, congrArg some hv2005, trivial⟩) ?_
                    refine s_unwant rfl rfl h1247 ?_
                    exact s_pred fun _ _ _ hE hI => ⟨undef, [], _, fun _ e => (by cases e; exact hE _ _ rfl), .refl _, by exact hI, ⟨rfl, rfl⟩⟩
                  refine dcons ?_ ?_
                  · intro _ _ H2009 fr2010 hle2011 hd2012
                    obtain ⟨hv2014, hg2015⟩ := hd2012 5 (by decide)
                    obtain ⟨hv2016, hg2017⟩ := hd2012 10 (by decide)
                    refine ⟨_, some (), rfl, fun _ => ?_⟩
                    refine s_env (env' := [(40, .bool (decide (y1238 ≥ 0))), (45, undef)]) (by exact ⟨congrArg some hv2014, congrArg some hv2016, trivial⟩) ?_
                    refine s_unwant rfl rfl h1247 ?_
                    exact s_pred fun _ _ _ hE hI => ⟨undef, [], _, fun _ e => (by cases e; exact hE _ _ rfl), .refl _, by exact hI, ⟨rfl, rfl⟩⟩
                  refine dcons ?_ ?_
                  · intro _ _ H2020 fr2021 hle2022 hd2023
                    have hA2025 := All2.mono (fun _ _ => GoT.mono hle2022) hA249
                    obtain ⟨hv2026, hg2027⟩ := hd2023 11 (by decide)
                    refine ⟨_, some (), rfl, fun _ => ?_⟩
                    refine s_env (env' := [(46, undef), (5, .slice (some ⟨bk1240, 0, none⟩) s41.1.length c43)]) (by exact ⟨congrArg some hv2026, rfl, trivial⟩) ?_
                    refine s_unwantU rfl rfl ?_
                    exact s_pred fun _ _ _ hE hI => ⟨undef, [], _, fun _ e => (by cases e; exact hE _ _ rfl), .refl _, by exact hI, ⟨rfl, rfl⟩⟩
                  refine dcons ?_ ?_
                  · intro _ _ H2030 fr2031 hle2032 hd2033
                    obtain ⟨hv2035, hg2036⟩ := hd2033 11 (by decide)
                    refine ⟨_, some (), rfl, fun _ => ?_⟩
                    refine s_env (env' := [(46, undef), (9, .int .i64 y67)]) (by exact ⟨congrArg some hv2035, rfl, trivial⟩) ?_
                    refine s_unwantU rfl rfl ?_
                    exact s_pred fun _ _ _ hE hI => ⟨undef, [], _, fun _ e => (by cases e; exact hE _ _ rfl), .refl _, by exact hI, ⟨rfl, rfl⟩⟩
                  refine dcons ?_ ?_
                  · intro _ _ H2039 fr2040 hle2041 hd2042
                    obtain ⟨hv2044, hg2045⟩ := hd2042 11 (by decide)
                    obtain ⟨hv2046, hg2047⟩ := hd2042 12 (by decide)
                    obtain ⟨hv2048, hg2049⟩ := hd2042 13 (by decide)
                    refine ⟨_, some (), rfl, fun _ => ?_⟩
                    refine s_env (env' := [(46, undef), (47, undef), (48, undef)]) (by exact ⟨congrArg some hv2044, congrArg some hv2046, congrArg some hv2048, trivial⟩) ?_
                    refine s_unwantU rfl rfl ?_
                    exact s_pred fun _ _ _ hE hI => ⟨undef, [], _, fun _ e => (by cases e; exact hE _ _ rfl), .refl _, by exact hI, ⟨rfl, rfl⟩⟩
                  refine dcons ?_ ?_
                  · intro _ _ H2052 fr2053 hle2054 hd2055
                    obtain ⟨hv2057, hg2058⟩ := hd2055 11 (by decide)
                    obtain ⟨hv2059, hg2060⟩ := hd2055 14 (by decide)
                    refine ⟨_, some (), rfl, fun _ => ?_⟩
                    refine s_env (env' := [(46, undef), (49, undef)]) (by exact ⟨congrArg some hv2057, congrArg some hv2059, trivial⟩) ?_
                    refine s_unwantU rfl rfl ?_
                    exact s_pred fun _ _ _ hE hI => ⟨undef, [], _, fun _ e => (by cases e; exact hE _ _ rfl), .refl _, by exact hI, ⟨rfl, rfl⟩⟩
                  refine dcons ?_ ?_
                  · intro _ _ H2063 fr2064 hle2065 hd2066
                    have hA2068 := All2.mono (fun _ _ => GoT.mono hle2065) hA249
                    obtain ⟨hv2069, hg2070⟩ := hd2066 11 (by decide)
                    refine ⟨_, some (), rfl, fun _ => ?_⟩
                    refine s_env (env' := [(46, undef), (5, .slice (some ⟨bk1240, 0, none⟩) s41.1.length c43)]) (by exact ⟨congrArg some hv2069, rfl, trivial⟩) ?_
                    refine s_unwantU rfl rfl ?_
                    exact s_pred fun _ _ _ hE hI => ⟨undef, [], _, fun _ e => (by cases e; exact hE _ _ rfl), .refl _, by exact hI, ⟨rfl, rfl⟩⟩
                  refine dcons ?_ ?_
                  · intro _ _ H2073 fr2074 hle2075 hd2076
                    obtain ⟨hv2078, hg2079⟩ := hd2076 11 (by decide)
                    refine ⟨_, some (), rfl, fun _ => ?_⟩
                    refine s_env (env' := [(46, undef), (8, .int .i64 y58)]) (by exact ⟨congrArg some hv2078, rfl, trivial⟩) ?_
                    refine s_unwantU rfl rfl ?_
                    exact s_pred fun _ _ _ hE hI => ⟨undef, [], _, fun _ e => (by cases e; exact hE _ _ rfl), .refl _, by exact hI, ⟨rfl, rfl⟩⟩
                  refine dcons ?_ ?_
                  · intro _ _ H2082 fr2083 hle2084 hd2085
                    obtain ⟨hv2087, hg2088⟩ := hd2085 11 (by decide)
                    obtain ⟨hv2089, hg2090⟩ := hd2085 16 (by decide)
                    obtain ⟨hv2091, hg2092⟩ := hd2085 17 (by decide)
                    refine ⟨_, some (), rfl, fun _ => ?_⟩
                    refine s_env (env' := [(46, undef), (51, undef), (52, undef)]) (by exact ⟨congrArg some hv2087, congrArg some hv2089, congrArg some hv2091, trivial⟩) ?_
                    refine s_unwantU rfl rfl ?_
                    exact s_pred fun _ _ _ hE hI => ⟨undef, [], _, fun _ e => (by cases e; exact hE _ _ rfl), .refl _, by exact hI, ⟨rfl, rfl⟩⟩
                  refine dcons ?_ ?_
                  · intro _ _ H2095 fr2096 hle2097 hd2098
                    obtain ⟨hv2100, hg2101⟩ := hd2098 11 (by decide)
                    obtain ⟨hv2102, hg2103⟩ := hd2098 18 (by decide)
                    refine ⟨_, some (), rfl, fun _ => ?_⟩
                    refine s_env (env' := [(46, undef), (53, undef)]) (by exact ⟨congrArg some hv2100, congrArg some hv2102, trivial⟩) ?_
                    refine s_unwantU rfl rfl ?_
                    exact s_pred fun _ _ _ hE hI => ⟨undef, [], _, fun _ e => (by cases e; exact hE _ _ rfl), .refl _, by exact hI, ⟨rfl, rfl⟩⟩
                  refine dcons ?_ ?_
                  · intro _ _ H2106 fr2107 hle2108 hd2109
                    obtain ⟨hv2111, hg2112⟩ := hd2109 11 (by decide)
                    obtain ⟨hv2113, hg2114⟩ := hd2109 19 (by decide)
                    refine ⟨_, some (), rfl, fun _ => ?_⟩
                    refine s_env (env' := [(46, undef), (54, undef)]) (by exact ⟨congrArg some hv2111, congrArg some hv2113, trivial⟩) ?_
                    refine s_unwantU rfl rfl ?_
                    exact s_pred fun _ _ _ hE hI => ⟨undef, [], _, fun _ e => (by cases e; exact hE _ _ rfl), .refl _, by exact hI, ⟨rfl, rfl⟩⟩
                  refine dcons ?_ ?_
                  · intro _ _ H2117 fr2118 hle2119 hd2120
                    obtain ⟨hv2122, hg2123⟩ := hd2120 11 (by decide)
                    obtain ⟨hv2124, hg2125⟩ := hd2120 15 (by decide)
                    obtain ⟨hv2126, hg2127⟩ := hd2120 20 (by decide)
                    refine ⟨_, some (), rfl, fun _ => ?_⟩
                    refine s_env (env' := [(46, undef), (50, undef), (55, undef)]) (by exact ⟨congrArg some hv2122, congrArg some hv2124, congrArg some hv2126, trivial⟩) ?_
                    refine s_unwantU rfl rfl ?_
                    exact s_pred fun _ _ _ hE hI => ⟨undef, [], _, fun _ e => (by cases e; exact hE _ _ rfl), .refl _, by exact hI, ⟨rfl, rfl⟩⟩
                  refine dcons ?_ ?_
                  · intro _ _ H2130 fr2131 hle2132 hd2133
                    obtain ⟨hv2135, hg2136⟩ := hd2133 5 (by decide)
                    obtain ⟨hv2137, hg2138⟩ := hd2133 11 (by decide)
                    obtain ⟨hv2139, hg2140⟩ := hd2133 21 (by decide)
                    refine ⟨_, some (), rfl, fun _ => ?_⟩
                    refine s_env (env' := [(40, .bool (decide (y1238 ≥ 0))), (46, undef), (56, undef)]) (by exact ⟨congrArg some hv2135, congrArg some hv2137, congrArg some hv2139, trivial⟩) ?_
                    refine s_unwant rfl rfl h1247 ?_
                    exact s_pred fun _ _ _ hE hI => ⟨undef, [], _, fun _ e => (by cases e; exact hE _ _ rfl), .refl _, by exact hI, ⟨rfl, rfl⟩⟩
                  refine dcons ?_ ?_
                  · intro _ _ H2143 fr2144 hle2145 hd2146
                    obtain ⟨hv2148, hg2149⟩ := hd2146 5 (by decide)
                    obtain ⟨hv2150, hg2151⟩ := hd2146 22 (by decide)
                    refine ⟨_, some (), rfl, fun _ => ?_⟩
                    refine s_env (env' := [(40, .bool (decide (y1238 ≥ 0))), (57, undef)]) (by exact ⟨congrArg some hv2148, congrArg some hv2150, trivial⟩) ?_
                    refine o_pickF rfl h1247 rfl ?_
                    exact s_pred fun _ _ _ hE hI => ⟨(.bool false), [], _, fun _ e => (by cases e; exact hE _ _ rfl), .refl _, by exact hI, ⟨rfl, rfl⟩⟩
                  exact dnil
                · intro V2154 G2155 H2152 hle2153 hF2156
                  have hs2157 := RSl.mono hle2153 hs248
                  have hA2158 := All2.mono (fun _ _ => GoT.mono hle2153) hA249
                  obtain ⟨hv2159, hg2160⟩ := hF2156 23 (show 23 < 24 by decide)
                  refine s_env (env' := [(58, .bool false), (0, .slice a0_0 x0.length c0_0), (1, .int .i64 x1), (5, .slice (some ⟨bk1240, 0, none⟩) s41.1.length c43), (6, .int .i64 s21.2), (7, .int .i64 s41.2), (15, .int .i64 s41.2), (16, .slice a0_0 x0.length c0_0), (17, .int .i64 (x0.length : Int)), (18, .bool (decide (s41.2 < (x0.length : Int)))), (34, .int .i64 y67), (8, .int .i64 y58), (9, .int .i64 y67)]) (by exact ⟨congrArg some hv2159, rfl, rfl, rfl, rfl, rfl, rfl, rfl, rfl, rfl, rfl, rfl, rfl, trivial⟩) ?_
                  refine s_own (List.sublist_append_left _ _) ?_
                  refine s_done ?_
                  exact s_env (by exact ⟨rfl, rfl, rfl, rfl, rfl, rfl, rfl, rfl, trivial⟩) (s_own (by exact (.cons_cons _ .slnil)) (J1237 (s41.1, false) _ _ _ ⟨_, _, _, rfl, rfl, hle2153, hA2158⟩))
        · refine s_exit rfl ?_
          exact s_env (by exact ⟨rfl, rfl, rfl, rfl, trivial⟩) (s_own (by exact (.cons_cons _ .slnil)) (J40 s41.1 _ _ _ ⟨_, _, _, rfl, rfl, hle49, hA45⟩))
    · refine s_exit rfl ?_
      exact s_env (by exact ⟨rfl, rfl, trivial⟩) (s_own (by exact (.cons_cons _ .slnil)) (J20 s21.1 _ _ _ ⟨_, _, _, rfl, rfl, hle29, hA25⟩))
end Go.Cat.G3
