/- A text of the proof of the seat's laws: a step logic over the machine, or pure functions that the Go functions come to. No condition. -/
import Derived.Test.YtmmpieknnnlnhaaG4
set_option linter.unusedVariables false
set_option linter.unusedSimpArgs false
set_option linter.unnecessarySimpa false

namespace Go.Cat.G3
open Go Go.Cat Go.Proofs
set_option linter.unusedVariables false

instance : TFun Try.prog 17 := ⟨_, (by kernel_rfl : Try.prog.funcs[17]? = some Try.f17), by decide, rfl⟩
instance : TFun Try.prog 20 := ⟨_, (by kernel_rfl : Try.prog.funcs[20]? = some Try.f20), by decide, rfl⟩
instance : TFun Try.prog 21 := ⟨_, (by kernel_rfl : Try.prog.funcs[21]? = some Try.f21), by decide, rfl⟩

/-! catenary/catenarylaw12.GraphEnds -/
def catenarylaw12_GraphEnds (k : Nat) (x0 : Graph) (x1 : End) : Option Bool :=
  (slc x0.Links 0 (imin (x0.Links.length : Int) 30)).bind fun y7 =>
  (graph_Peer k (⟨x0.Switches, y7⟩ : Graph) x1).bind fun y10 =>
  (catenaryref12_Peer k (⟨x0.Switches, y7⟩ : Graph) x1).bind fun y14 =>
  (graph_Ports k (⟨x0.Switches, y7⟩ : Graph) x1.Switch).bind fun y18 =>
  (graph_Check k (⟨x0.Switches, y7⟩ : Graph)).bind fun y28 =>
  (catenaryref12_Check k (⟨x0.Switches, y7⟩ : Graph)).bind fun y31 =>
  if (y28 == y31) = true then
    if (decide (y10.1 = y14.1)) = true then
      if (y10.2.1 == y14.2.1) = true then
        if (y10.2.2 == y14.2.2) = true then
          (catenaryref12_Ports k (⟨x0.Switches, y7⟩ : Graph) x1.Switch).bind fun y38 =>
          (catenaryref00_EqInts k y18 y38).bind fun y50 =>
          if (y50) = true then
            (catenarylaw12_works k).bind fun y54 =>
            some y54
          else
            some false
        else
          some false
      else
        some false
    else
      some false
  else
    some false
theorem fn_3 : Try.prog.funcs[3]? = some Try.f3 := by kernel_rfl
set_option maxRecDepth 100000 in
set_option maxHeartbeats 4000000 in
theorem catenarylaw12_GraphEnds_ok (k : Nat) (H : Heap) (x0 : Graph) (a0_0 : Option Addr) (c0_0 : Nat) (hx0_0 : RSl H a0_0 c0_0 x0.Links) (x1 : End) {r : Bool} (hr : catenarylaw12_GraphEnds k x0 x1 = some r) :
    Fn Try.prog 3 [.agg #[.int .i64 x0.Switches, .slice a0_0 x0.Links.length c0_0], .agg #[.int .i64 x1.Switch, .int .i64 x1.Port]] H [] fun H' v out => v = .bool r ∧ out = [] := by
  refine fn_of_sim (args := [.agg #[.int .i64 x0.Switches, .slice a0_0 x0.Links.length c0_0], .agg #[.int .i64 x1.Switch, .int .i64 x1.Port]]) (n := 69) (Φ := fun r H' v out => v = .bool r ∧ out = []) hr fn_3 rfl rfl rfl fun w => ?_
  refine s_eq (by rw [catenarylaw12_GraphEnds]) ?_
  refine s_seq ?_
  refine s_region ?_
  refine o_box rfl fun b1 => ?_
  refine o_box rfl fun b3 => ?_
  refine o_asg rfl ?_
  refine s_done ?_
  refine s_seq ?_
  refine s_region ?_
  refine o_fa rfl ?_
  refine o_ld 0 rfl rfl rfl ?_
  refine o_fa rfl ?_
  refine o_ld 0 rfl rfl rfl ?_
  refine o_lenS rfl ?_
  refine o_min rfl rfl ?_
  refine o_sl hx0_0 rfl rfl ⟨_, rfl⟩ fun a5 c6 y7 h8 hs9 => ?_
  refine o_fa rfl ?_
  refine o_st 0 rfl rfl rfl rfl rfl rfl ?_
  refine s_done ?_
  refine s_seq ?_
  refine s_region ?_
  refine o_ld 0 rfl rfl rfl ?_
  refine o_ld 1 rfl rfl rfl ?_
  refine s_bg fun y10 h11 => ?_
  refine s_callF rfl rfl (graph_Peer_ok k _ (⟨x0.Switches, y7⟩ : Graph) _ _ hs9 x1 h11) ?_
  refine o_mov rfl ?_
  refine o_ext rfl rfl ?_
  refine o_ext rfl rfl ?_
  refine o_ext rfl rfl ?_
  refine o_alloc fun b12 => ?_
  refine o_st 2 rfl rfl rfl rfl rfl rfl ?_
  refine o_asg rfl ?_
  refine o_asg rfl ?_
  refine s_done ?_
  refine s_seq ?_
  refine s_region ?_
  refine o_ld 0 rfl rfl rfl ?_
  refine o_ld 1 rfl rfl rfl ?_
  refine s_bg fun y14 h15 => ?_
  refine s_callF rfl rfl (catenaryref12_Peer_ok k _ (⟨x0.Switches, y7⟩ : Graph) _ _ hs9 x1 h15) ?_
  refine o_mov rfl ?_
  refine o_ext rfl rfl ?_
  refine o_ext rfl rfl ?_
  refine o_ext rfl rfl ?_
  refine o_alloc fun b16 => ?_
  refine o_st 3 rfl rfl rfl rfl rfl rfl ?_
  refine o_asg rfl ?_
  refine o_asg rfl ?_
  refine s_done ?_
  refine s_seq ?_
  refine s_region ?_
  refine o_ld 0 rfl rfl rfl ?_
  refine o_fa rfl ?_
  refine o_ld 1 rfl rfl rfl ?_
  refine s_bg fun y18 h19 => ?_
  refine s_call [] _ rfl rfl (.refl _) (graph_Ports_ok k _ (⟨x0.Switches, y7⟩ : Graph) _ _ hs9 x1.Switch h19) ?_
  rintro _ H23 _ hle24 ⟨a20, c21, rfl, rfl⟩
  have hs25 := RSl.mono hle24 hx0_0
  have hs26 := RSl.mono hle24 hs9
  have hA27 : All2 (GoT.rep H23) (y18.map GoE.enc) y18 := all2_enc _
  refine o_asg rfl ?_
  refine s_done ?_
  refine s_seq ?_
  refine s_bg fun y28 h30 => ?_
  refine s_bg fun y31 h33 => ?_
  refine s_split (y28 == y31) (fun h34 => ?_) (fun h34 => ?_)
  · refine s_split (decide (y10.1 = y14.1)) (fun h35 => ?_) (fun h35 => ?_)
    · refine s_split (y10.2.1 == y14.2.1) (fun h36 => ?_) (fun h36 => ?_)
      · refine s_split (y10.2.2 == y14.2.2) (fun h37 => ?_) (fun h37 => ?_)
        · refine s_bg fun y38 h49 => ?_
          refine s_bg fun y50 h52 => ?_
          refine s_split y50 (fun h53 => ?_) (fun h53 => ?_)
          · refine s_bg fun y54 h56 => ?_
            refine s_drawL [(fun H v g => v = .agg #[.int .i64 x0.Switches, .slice a5 y7.length c6] ∧ g = [] ∧ RSl H a5 c6 y7),
      (fun H v g => v = .int .i64 y28 ∧ g = []),
      (fun H v g => v = .agg #[.int .i64 x0.Switches, .slice a5 y7.length c6] ∧ g = [] ∧ RSl H a5 c6 y7),
      (fun H v g => v = .int .i64 y31 ∧ g = []),
      (fun H v g => v = .bool (y28 == y31) ∧ g = []),
      (fun H v g => v = .bool (y28 == y31) ∧ g = []),
      (fun H v g => v = .agg #[.int .i64 y10.1.Switch, .int .i64 y10.1.Port] ∧ g = []),
      (fun H v g => v = .agg #[.int .i64 y14.1.Switch, .int .i64 y14.1.Port] ∧ g = []),
      (fun H v g => v = .bool (decide (y10.1 = y14.1)) ∧ g = []),
      (fun H v g => v = .bool (decide (y10.1 = y14.1)) ∧ g = []),
      (fun H v g => v = .bool (decide (y10.1 = y14.1)) ∧ g = []),
      (fun H v g => v = .int .i64 y10.2.1 ∧ g = []),
      (fun H v g => v = .int .i64 y14.2.1 ∧ g = []),
      (fun H v g => v = .bool (y10.2.1 == y14.2.1) ∧ g = []),
      (fun H v g => v = .bool (y10.2.1 == y14.2.1) ∧ g = []),
      (fun H v g => v = .bool (y10.2.1 == y14.2.1) ∧ g = []),
      (fun H v g => v = .bool y10.2.2 ∧ g = []),
      (fun H v g => v = .bool y14.2.2 ∧ g = []),
      (fun H v g => v = .bool (y10.2.2 == y14.2.2) ∧ g = []),
      (fun H v g => v = .bool (y10.2.2 == y14.2.2) ∧ g = []),
      (fun H v g => v = .bool (y10.2.2 == y14.2.2) ∧ g = []),
      (fun H v g => v = .slice a20 y18.length c21 ∧ g = []),
      (fun H v g => v = .agg #[.int .i64 x0.Switches, .slice a5 y7.length c6] ∧ g = [] ∧ RSl H a5 c6 y7),
      (fun H v g => v = .pointer (some ⟨b3, 0, none⟩) ∧ g = []),
      (fun H v g => v = .int .i64 x1.Switch ∧ g = []),
      (fun H v g => ∃ a60 c61, v = .slice a60 y38.length c61 ∧ g = [] ∧ RSl H a60 c61 y38),
      (fun H v g => v = .bool y50 ∧ g = []),
      (fun H v g => v = .bool y50 ∧ g = []),
      (fun H v g => v = .bool y50 ∧ g = []),
      (fun H v g => v = .bool y54 ∧ g = []),
      (fun H v g => v = .bool y54 ∧ g = [])] [[], [], [], [], [], [], [], [], [], [], [], [], [], [], [], [], [], [], [], [], [], [], [], [], [], [], [], [], [], [], []] mixed ⟨fun _ _ _ _ hle ⟨e1, e2, h0_⟩ => ⟨e1, e2, RSl.mono hle h0_⟩, fun _ _ _ _ _ h => h, fun _ _ _ _ hle ⟨e1, e2, h0_⟩ => ⟨e1, e2, RSl.mono hle h0_⟩, fun _ _ _ _ _ h => h, fun _ _ _ _ _ h => h, fun _ _ _ _ _ h => h, fun _ _ _ _ _ h => h, fun _ _ _ _ _ h => h, fun _ _ _ _ _ h => h, fun _ _ _ _ _ h => h, fun _ _ _ _ _ h => h, fun _ _ _ _ _ h => h, fun _ _ _ _ _ h => h, fun _ _ _ _ _ h => h, fun _ _ _ _ _ h => h, fun _ _ _ _ _ h => h, fun _ _ _ _ _ h => h, fun _ _ _ _ _ h => h, fun _ _ _ _ _ h => h, fun _ _ _ _ _ h => h, fun _ _ _ _ _ h => h, fun _ _ _ _ _ h => h, fun _ _ _ _ hle ⟨e1, e2, h0_⟩ => ⟨e1, e2, RSl.mono hle h0_⟩, fun _ _ _ _ _ h => h, fun _ _ _ _ _ h => h, fun _ _ _ _ hle ⟨a60, c61, e1, e2, h0_⟩ => ⟨_, _, e1, e2, RSl.mono hle h0_⟩, fun _ _ _ _ _ h => h, fun _ _ _ _ _ h => h, fun _ _ _ _ _ h => h, fun _ _ _ _ _ h => h, fun _ _ _ _ _ h => h, trivial⟩ (by kernel_rfl) (by kernel_rfl) rfl (by kernel_rfl) rfl rfl ?_ ?_
            · refine dcons ?_ ?_
              · intro V78 G79 H80 fr81 hle82 hd83
                have hs85 := RSl.mono hle82 hs26
                refine ⟨_, some (), rfl, fun _ => ?_⟩
                refine s_env (env' := [(2, .pointer (some ⟨b1, 0, none⟩))]) (by exact ⟨rfl, trivial⟩) ?_
                refine o_ld 0 rfl rfl rfl ?_
                exact s_pred fun tm w ht hE hI => ⟨(.agg #[.int .i64 x0.Switches, .slice a5 y7.length c6]), [], _, fun d hd => (by cases hd; exact hE _ _ rfl), .refl _, by exact hI, ⟨rfl, rfl, hs85⟩⟩
              refine dcons ?_ ?_
              · intro V86 G87 H88 fr89 hle90 hd91
                obtain ⟨hv93, hg94, hp95⟩ := hd91 0 (by decide)
                refine ⟨_, (graph_Check k (⟨x0.Switches, y7⟩ : Graph)).bind some, by rw [h30]; rfl, fun _ => ?_⟩
                refine s_env (env' := [(38, .agg #[.int .i64 x0.Switches, .slice a5 y7.length c6])]) (by exact ⟨congrArg some hv93, trivial⟩) ?_
                refine s_bg fun y28 h96 => ?_
                refine s_callF rfl rfl (graph_Check_ok k _ (⟨x0.Switches, y7⟩ : Graph) _ _ hp95 h96) ?_
                obtain rfl := Option.some.inj (h30.symm.trans h96)
                exact s_pred fun tm w ht hE hI => ⟨(.int .i64 y28), [], _, fun d hd => (by cases hd; exact hE _ _ rfl), .refl _, by exact hI, ⟨rfl, rfl⟩⟩
              refine dcons ?_ ?_
              · intro V97 G98 H99 fr100 hle101 hd102
                have hs104 := RSl.mono hle101 hs26
                refine ⟨_, some (), rfl, fun _ => ?_⟩
                refine s_env (env' := [(2, .pointer (some ⟨b1, 0, none⟩))]) (by exact ⟨rfl, trivial⟩) ?_
                refine o_ld 0 rfl rfl rfl ?_
                exact s_pred fun tm w ht hE hI => ⟨(.agg #[.int .i64 x0.Switches, .slice a5 y7.length c6]), [], _, fun d hd => (by cases hd; exact hE _ _ rfl), .refl _, by exact hI, ⟨rfl, rfl, hs104⟩⟩
              refine dcons ?_ ?_
              · intro V105 G106 H107 fr108 hle109 hd110
                obtain ⟨hv112, hg113, hp114⟩ := hd110 2 (by decide)
                refine ⟨_, (catenaryref12_Check k (⟨x0.Switches, y7⟩ : Graph)).bind some, by rw [h33]; rfl, fun _ => ?_⟩
                refine s_env (env' := [(40, .agg #[.int .i64 x0.Switches, .slice a5 y7.length c6])]) (by exact ⟨congrArg some hv112, trivial⟩) ?_
                refine s_bg fun y31 h115 => ?_
                refine s_callF rfl rfl (catenaryref12_Check_ok k _ (⟨x0.Switches, y7⟩ : Graph) _ _ hp114 h115) ?_
                obtain rfl := Option.some.inj (h33.symm.trans h115)
                exact s_pred fun tm w ht hE hI => ⟨(.int .i64 y31), [], _, fun d hd => (by cases hd; exact hE _ _ rfl), .refl _, by exact hI, ⟨rfl, rfl⟩⟩
              refine dcons ?_ ?_
              · intro V116 G117 H118 fr119 hle120 hd121
                obtain ⟨hv123, hg124⟩ := hd121 1 (by decide)
                obtain ⟨hv125, hg126⟩ := hd121 3 (by decide)
                refine ⟨_, some (), rfl, fun _ => ?_⟩
                refine s_env (env' := [(39, .int .i64 y28), (41, .int .i64 y31)]) (by exact ⟨congrArg some hv123, congrArg some hv125, trivial⟩) ?_
                refine o_eq rfl rfl ?_
                exact s_pred fun tm w ht hE hI => ⟨(.bool (y28 == y31)), [], _, fun d hd => (by cases hd; exact hE _ _ rfl), .refl _, by exact hI, ⟨rfl, rfl⟩⟩
              refine dcons ?_ ?_
              · intro V127 G128 H129 fr130 hle131 hd132
                obtain ⟨hv134, hg135⟩ := hd132 4 (by decide)
                refine ⟨_, some (), rfl, fun _ => ?_⟩
                refine s_env (env' := [(42, .bool (y28 == y31))]) (by exact ⟨congrArg some hv134, trivial⟩) ?_
                refine o_mov rfl ?_
                exact s_pred fun tm w ht hE hI => ⟨(.bool (y28 == y31)), [], _, fun d hd => (by cases hd; exact hE _ _ rfl), .refl _, by exact hI, ⟨rfl, rfl⟩⟩
              refine dcons ?_ ?_
              · intro V136 G137 H138 fr139 hle140 hd141
                obtain ⟨hv143, hg144⟩ := hd141 5 (by decide)
                refine ⟨_, some (), rfl, fun _ => ?_⟩
                refine s_env (env' := [(43, .bool (y28 == y31)), (5, .pointer (some ⟨b12, 0, none⟩))]) (by exact ⟨congrArg some hv143, rfl, trivial⟩) ?_
                refine s_want rfl rfl h34 ?_
                refine o_ld 2 rfl rfl rfl ?_
                exact s_pred fun tm w ht hE hI => ⟨(.agg #[.int .i64 y10.1.Switch, .int .i64 y10.1.Port]), [], _, fun d hd => (by cases hd; exact hE _ _ rfl), .refl _, by exact hI, ⟨rfl, rfl⟩⟩
              refine dcons ?_ ?_
              · intro V145 G146 H147 fr148 hle149 hd150
                obtain ⟨hv152, hg153⟩ := hd150 5 (by decide)
                refine ⟨_, some (), rfl, fun _ => ?_⟩
                refine s_env (env' := [(43, .bool (y28 == y31)), (8, .pointer (some ⟨b16, 0, none⟩))]) (by exact ⟨congrArg some hv152, rfl, trivial⟩) ?_
                refine s_want rfl rfl h34 ?_
                refine o_ld 3 rfl rfl rfl ?_
                exact s_pred fun tm w ht hE hI => ⟨(.agg #[.int .i64 y14.1.Switch, .int .i64 y14.1.Port]), [], _, fun d hd => (by cases hd; exact hE _ _ rfl), .refl _, by exact hI, ⟨rfl, rfl⟩⟩
              refine dcons ?_ ?_
              · intro V154 G155 H156 fr157 hle158 hd159
                obtain ⟨hv161, hg162⟩ := hd159 5 (by decide)
                obtain ⟨hv163, hg164⟩ := hd159 6 (by decide)
                obtain ⟨hv165, hg166⟩ := hd159 7 (by decide)
                refine ⟨_, some (), rfl, fun _ => ?_⟩
                refine s_env (env' := [(43, .bool (y28 == y31)), (44, .agg #[.int .i64 y10.1.Switch, .int .i64 y10.1.Port]), (45, .agg #[.int .i64 y14.1.Switch, .int .i64 y14.1.Port])]) (by exact ⟨congrArg some hv161, congrArg some hv163, congrArg some hv165, trivial⟩) ?_
                refine s_want rfl rfl h34 ?_
                refine o_eqS y10.1 y14.1 rfl rfl ?_
                exact s_pred fun tm w ht hE hI => ⟨(.bool (decide (y10.1 = y14.1))), [], _, fun d hd => (by cases hd; exact hE _ _ rfl), .refl _, by exact hI, ⟨rfl, rfl⟩⟩
              refine dcons ?_ ?_
              · intro V167 G168 H169 fr170 hle171 hd172
                obtain ⟨hv174, hg175⟩ := hd172 5 (by decide)
                obtain ⟨hv176, hg177⟩ := hd172 8 (by decide)
                refine ⟨_, some (), rfl, fun _ => ?_⟩
                refine s_env (env' := [(43, .bool (y28 == y31)), (46, .bool (decide (y10.1 = y14.1)))]) (by exact ⟨congrArg some hv174, congrArg some hv176, trivial⟩) ?_
                refine o_pickT rfl h34 rfl ?_
                exact s_pred fun tm w ht hE hI => ⟨(.bool (decide (y10.1 = y14.1))), [], _, fun d hd => (by cases hd; exact hE _ _ rfl), .refl _, by exact hI, ⟨rfl, rfl⟩⟩
              refine dcons ?_ ?_
              · intro V178 G179 H180 fr181 hle182 hd183
                obtain ⟨hv185, hg186⟩ := hd183 9 (by decide)
                refine ⟨_, some (), rfl, fun _ => ?_⟩
                refine s_env (env' := [(47, .bool (decide (y10.1 = y14.1)))]) (by exact ⟨congrArg some hv185, trivial⟩) ?_
                refine o_mov rfl ?_
                exact s_pred fun tm w ht hE hI => ⟨(.bool (decide (y10.1 = y14.1))), [], _, fun d hd => (by cases hd; exact hE _ _ rfl), .refl _, by exact hI, ⟨rfl, rfl⟩⟩
              refine dcons ?_ ?_
              · intro V187 G188 H189 fr190 hle191 hd192
                obtain ⟨hv194, hg195⟩ := hd192 10 (by decide)
                refine ⟨_, some (), rfl, fun _ => ?_⟩
                refine s_env (env' := [(48, .bool (decide (y10.1 = y14.1))), (6, .int .i64 y10.2.1)]) (by exact ⟨congrArg some hv194, rfl, trivial⟩) ?_
                refine s_want rfl rfl h35 ?_
                refine o_mov rfl ?_
                exact s_pred fun tm w ht hE hI => ⟨(.int .i64 y10.2.1), [], _, fun d hd => (by cases hd; exact hE _ _ rfl), .refl _, by exact hI, ⟨rfl, rfl⟩⟩
              refine dcons ?_ ?_
              · intro V196 G197 H198 fr199 hle200 hd201
                obtain ⟨hv203, hg204⟩ := hd201 10 (by decide)
                refine ⟨_, some (), rfl, fun _ => ?_⟩
                refine s_env (env' := [(48, .bool (decide (y10.1 = y14.1))), (9, .int .i64 y14.2.1)]) (by exact ⟨congrArg some hv203, rfl, trivial⟩) ?_
                refine s_want rfl rfl h35 ?_
                refine o_mov rfl ?_
                exact s_pred fun tm w ht hE hI => ⟨(.int .i64 y14.2.1), [], _, fun d hd => (by cases hd; exact hE _ _ rfl), .refl _, by exact hI, ⟨rfl, rfl⟩⟩
              refine dcons ?_ ?_
              · intro V205 G206 H207 fr208 hle209 hd210
                obtain ⟨hv212, hg213⟩ := hd210 10 (by decide)
                obtain ⟨hv214, hg215⟩ := hd210 11 (by decide)
                obtain ⟨hv216, hg217⟩ := hd210 12 (by decide)
                refine ⟨_, some (), rfl, fun _ => ?_⟩
                refine s_env (env' := [(48, .bool (decide (y10.1 = y14.1))), (49, .int .i64 y10.2.1), (50, .int .i64 y14.2.1)]) (by exact ⟨congrArg some hv212, congrArg some hv214, congrArg some hv216, trivial⟩) ?_
                refine s_want rfl rfl h35 ?_
                refine o_eq rfl rfl ?_
                exact s_pred fun tm w ht hE hI => ⟨(.bool (y10.2.1 == y14.2.1)), [], _, fun d hd => (by cases hd; exact hE _ _ rfl), .refl _, by exact hI, ⟨rfl, rfl⟩⟩
              refine dcons ?_ ?_
              · intro V218 G219 H220 fr221 hle222 hd223
                obtain ⟨hv225, hg226⟩ := hd223 10 (by decide)
                obtain ⟨hv227, hg228⟩ := hd223 13 (by decide)
                refine ⟨_, some (), rfl, fun _ => ?_⟩
                refine s_env (env' := [(48, .bool (decide (y10.1 = y14.1))), (51, .bool (y10.2.1 == y14.2.1))]) (by exact ⟨congrArg some hv225, congrArg some hv227, trivial⟩) ?_
                refine o_pickT rfl h35 rfl ?_
                exact s_pred fun tm w ht hE hI => ⟨(.bool (y10.2.1 == y14.2.1)), [], _, fun d hd => (by cases hd; exact hE _ _ rfl), .refl _, by exact hI, ⟨rfl, rfl⟩⟩
              refine dcons ?_ ?_
              · intro V229 G230 H231 fr232 hle233 hd234
                obtain ⟨hv236, hg237⟩ := hd234 14 (by decide)
                refine ⟨_, some (), rfl, fun _ => ?_⟩
                refine s_env (env' := [(52, .bool (y10.2.1 == y14.2.1))]) (by exact ⟨congrArg some hv236, trivial⟩) ?_
                refine o_mov rfl ?_
                exact s_pred fun tm w ht hE hI => ⟨(.bool (y10.2.1 == y14.2.1)), [], _, fun d hd => (by cases hd; exact hE _ _ rfl), .refl _, by exact hI, ⟨rfl, rfl⟩⟩
              refine dcons ?_ ?_
              · intro V238 G239 H240 fr241 hle242 hd243
                obtain ⟨hv245, hg246⟩ := hd243 15 (by decide)
                refine ⟨_, some (), rfl, fun _ => ?_⟩
                refine s_env (env' := [(53, .bool (y10.2.1 == y14.2.1)), (7, .bool y10.2.2)]) (by exact ⟨congrArg some hv245, rfl, trivial⟩) ?_
                refine s_want rfl rfl h36 ?_
                refine o_mov rfl ?_
                exact s_pred fun tm w ht hE hI => ⟨(.bool y10.2.2), [], _, fun d hd => (by cases hd; exact hE _ _ rfl), .refl _, by exact hI, ⟨rfl, rfl⟩⟩
              refine dcons ?_ ?_
              · intro V247 G248 H249 fr250 hle251 hd252
                obtain ⟨hv254, hg255⟩ := hd252 15 (by decide)
                refine ⟨_, some (), rfl, fun _ => ?_⟩
                refine s_env (env' := [(53, .bool (y10.2.1 == y14.2.1)), (10, .bool y14.2.2)]) (by exact ⟨congrArg some hv254, rfl, trivial⟩) ?_
                refine s_want rfl rfl h36 ?_
                refine o_mov rfl ?_
                exact s_pred fun tm w ht hE hI => ⟨(.bool y14.2.2), [], _, fun d hd => (by cases hd; exact hE _ _ rfl), .refl _, by exact hI, ⟨rfl, rfl⟩⟩
              refine dcons ?_ ?_
              · intro V256 G257 H258 fr259 hle260 hd261
                obtain ⟨hv263, hg264⟩ := hd261 15 (by decide)
                obtain ⟨hv265, hg266⟩ := hd261 16 (by decide)
                obtain ⟨hv267, hg268⟩ := hd261 17 (by decide)
                refine ⟨_, some (), rfl, fun _ => ?_⟩
                refine s_env (env' := [(53, .bool (y10.2.1 == y14.2.1)), (54, .bool y10.2.2), (55, .bool y14.2.2)]) (by exact ⟨congrArg some hv263, congrArg some hv265, congrArg some hv267, trivial⟩) ?_
                refine s_want rfl rfl h36 ?_
                refine o_eqb rfl rfl ?_
                exact s_pred fun tm w ht hE hI => ⟨(.bool (y10.2.2 == y14.2.2)), [], _, fun d hd => (by cases hd; exact hE _ _ rfl), .refl _, by exact hI, ⟨rfl, rfl⟩⟩
              refine dcons ?_ ?_
              · intro V269 G270 H271 fr272 hle273 hd274
                obtain ⟨hv276, hg277⟩ := hd274 15 (by decide)
                obtain ⟨hv278, hg279⟩ := hd274 18 (by decide)
                refine ⟨_, some (), rfl, fun _ => ?_⟩
                refine s_env (env' := [(53, .bool (y10.2.1 == y14.2.1)), (56, .bool (y10.2.2 == y14.2.2))]) (by exact ⟨congrArg some hv276, congrArg some hv278, trivial⟩) ?_
                refine o_pickT rfl h36 rfl ?_
                exact s_pred fun tm w ht hE hI => ⟨(.bool (y10.2.2 == y14.2.2)), [], _, fun d hd => (by cases hd; exact hE _ _ rfl), .refl _, by exact hI, ⟨rfl, rfl⟩⟩
              refine dcons ?_ ?_
              · intro V280 G281 H282 fr283 hle284 hd285
                obtain ⟨hv287, hg288⟩ := hd285 19 (by decide)
                refine ⟨_, some (), rfl, fun _ => ?_⟩
                refine s_env (env' := [(57, .bool (y10.2.2 == y14.2.2))]) (by exact ⟨congrArg some hv287, trivial⟩) ?_
                refine o_mov rfl ?_
                exact s_pred fun tm w ht hE hI => ⟨(.bool (y10.2.2 == y14.2.2)), [], _, fun d hd => (by cases hd; exact hE _ _ rfl), .refl _, by exact hI, ⟨rfl, rfl⟩⟩
              refine dcons ?_ ?_
              · intro V289 G290 H291 fr292 hle293 hd294
                have hA296 := All2.mono (fun _ _ => GoT.mono hle293) hA27
                obtain ⟨hv297, hg298⟩ := hd294 20 (by decide)
                refine ⟨_, some (), rfl, fun _ => ?_⟩
                refine s_env (env' := [(58, .bool (y10.2.2 == y14.2.2)), (11, .slice a20 y18.length c21)]) (by exact ⟨congrArg some hv297, rfl, trivial⟩) ?_
                refine s_want rfl rfl h37 ?_
                refine o_mov rfl ?_
                exact s_pred fun tm w ht hE hI => ⟨(.slice a20 y18.length c21), [], _, fun d hd => (by cases hd; exact hE _ _ rfl), .refl _, by exact hI, ⟨rfl, rfl⟩⟩
              refine dcons ?_ ?_
              · intro V299 G300 H301 fr302 hle303 hd304
                have hs306 := RSl.mono hle303 hs26
                obtain ⟨hv307, hg308⟩ := hd304 20 (by decide)
                refine ⟨_, some (), rfl, fun _ => ?_⟩
                refine s_env (env' := [(58, .bool (y10.2.2 == y14.2.2)), (2, .pointer (some ⟨b1, 0, none⟩))]) (by exact ⟨congrArg some hv307, rfl, trivial⟩) ?_
                refine s_want rfl rfl h37 ?_
                refine o_ld 0 rfl rfl rfl ?_
                exact s_pred fun tm w ht hE hI => ⟨(.agg #[.int .i64 x0.Switches, .slice a5 y7.length c6]), [], _, fun d hd => (by cases hd; exact hE _ _ rfl), .refl _, by exact hI, ⟨rfl, rfl, hs306⟩⟩
              refine dcons ?_ ?_
              · intro V309 G310 H311 fr312 hle313 hd314
                obtain ⟨hv316, hg317⟩ := hd314 20 (by decide)
                refine ⟨_, some (), rfl, fun _ => ?_⟩
                refine s_env (env' := [(58, .bool (y10.2.2 == y14.2.2)), (3, .pointer (some ⟨b3, 0, none⟩))]) (by exact ⟨congrArg some hv316, rfl, trivial⟩) ?_
                refine s_want rfl rfl h37 ?_
                refine o_fa rfl ?_
                exact s_pred fun tm w ht hE hI => ⟨(.pointer (some ⟨b3, 0, none⟩)), [], _, fun d hd => (by cases hd; exact hE _ _ rfl), .refl _, by exact hI, ⟨rfl, rfl⟩⟩
              refine dcons ?_ ?_
              · intro V318 G319 H320 fr321 hle322 hd323
                obtain ⟨hv325, hg326⟩ := hd323 20 (by decide)
                obtain ⟨hv327, hg328⟩ := hd323 23 (by decide)
                refine ⟨_, some (), rfl, fun _ => ?_⟩
                refine s_env (env' := [(58, .bool (y10.2.2 == y14.2.2)), (61, .pointer (some ⟨b3, 0, none⟩))]) (by exact ⟨congrArg some hv325, congrArg some hv327, trivial⟩) ?_
                refine s_want rfl rfl h37 ?_
                refine o_ld 1 rfl rfl rfl ?_
                exact s_pred fun tm w ht hE hI => ⟨(.int .i64 x1.Switch), [], _, fun d hd => (by cases hd; exact hE _ _ rfl), .refl _, by exact hI, ⟨rfl, rfl⟩⟩
              refine dcons ?_ ?_
              · intro V329 G330 H331 fr332 hle333 hd334
                obtain ⟨hv336, hg337⟩ := hd334 20 (by decide)
                obtain ⟨hv338, hg339, hp340⟩ := hd334 22 (by decide)
                obtain ⟨hv341, hg342⟩ := hd334 24 (by decide)
                refine ⟨_, (catenaryref12_Ports k (⟨x0.Switches, y7⟩ : Graph) x1.Switch).bind some, by rw [h49]; rfl, fun _ => ?_⟩
                refine s_env (env' := [(58, .bool (y10.2.2 == y14.2.2)), (60, .agg #[.int .i64 x0.Switches, .slice a5 y7.length c6]), (62, .int .i64 x1.Switch)]) (by exact ⟨congrArg some hv336, congrArg some hv338, congrArg some hv341, trivial⟩) ?_
                refine s_want rfl rfl h37 ?_
                refine s_bg fun y38 h343 => ?_
                refine s_call [] _ rfl rfl (.refl _) (catenaryref12_Ports_ok k _ (⟨x0.Switches, y7⟩ : Graph) _ _ hp340 x1.Switch h343) ?_
                rintro _ H347 _ hle348 ⟨a344, c345, rfl, rfl⟩
                have hs349 := RSl.mono hle348 hp340
                have hA350 : All2 (GoT.rep H347) (y38.map GoE.enc) y38 := all2_enc _
                obtain rfl := Option.some.inj (h49.symm.trans h343)
                refine s_perm (own' := [.blk b1 (rowObj [.int .i64 x0.Switches, .slice a5 y7.length c6] 24), .blk b3 (rowObj [.int .i64 x1.Switch, .int .i64 x1.Port] 26), .blk b12 (rowObj [.int .i64 y10.1.Switch, .int .i64 y10.1.Port] 26), .blk b16 (rowObj [.int .i64 y14.1.Switch, .int .i64 y14.1.Port] 26), .osl (.slice a20 y18.length c21) 1 3 (y18.map GoE.enc), .osl (.slice a344 y38.length c345) 1 3 (y38.map GoE.enc)] ++ fr332) (pm3 (a := [.blk b1 (rowObj [.int .i64 x0.Switches, .slice a5 y7.length c6] 24), .blk b3 (rowObj [.int .i64 x1.Switch, .int .i64 x1.Port] 26), .blk b12 (rowObj [.int .i64 y10.1.Switch, .int .i64 y10.1.Port] 26), .blk b16 (rowObj [.int .i64 y14.1.Switch, .int .i64 y14.1.Port] 26), .osl (.slice a20 y18.length c21) 1 3 (y18.map GoE.enc)]) (xs := [.osl (.slice a344 y38.length c345) 1 3 (y38.map GoE.enc)])) ?_
                refine s_frz 5 (fun b => .inl (by simp [ids])) rfl hA350 fun H351 hle352 hn353 hs354 => ?_
                have hs355 := RSl.mono hle352 hs349
                exact s_pred fun tm w ht hE hI => ⟨(.slice a344 y38.length c345), [], _, fun d hd => (by cases hd; exact hE _ _ rfl), (Hle.trans hle348 hle352), by exact hI, ⟨a344, c345, rfl, rfl, hs354⟩⟩
              refine dcons ?_ ?_
              · intro V356 G357 H358 fr359 hle360 hd361
                have hA363 := All2.mono (fun _ _ => GoT.mono hle360) hA27
                obtain ⟨hv364, hg365⟩ := hd361 20 (by decide)
                obtain ⟨hv366, hg367⟩ := hd361 21 (by decide)
                obtain ⟨a368, c369, hv370, hg371, hp372⟩ := hd361 25 (by decide)
                refine ⟨_, (catenaryref00_EqInts k y18 y38).bind some, by rw [h52]; rfl, fun _ => ?_⟩
                refine s_env (env' := [(58, .bool (y10.2.2 == y14.2.2)), (59, .slice a20 y18.length c21), (63, .slice a368 y38.length c369)]) (by exact ⟨congrArg some hv364, congrArg some hv366, congrArg some hv370, trivial⟩) ?_
                refine s_want rfl rfl h37 ?_
                refine s_bg fun y50 h373 => ?_
                refine s_callL (Φ := fun v out => v = _ ∧ out = []) [] _ rfl rfl (.refl _) (fun H' hle hl => catenaryref00_EqInts_ok k _ y18 _ _ (lent_rsl (hl _ (List.mem_of_getElem? (i := 4) rfl)) hA363 hle).2 y38 _ _ (RSl.mono hle hp372) h373) ?_
                rintro _ _ ⟨rfl, rfl⟩
                refine s_ownN ?_
                obtain rfl := Option.some.inj (h52.symm.trans h373)
                exact s_pred fun tm w ht hE hI => ⟨(.bool y50), [], _, fun d hd => (by cases hd; exact hE _ _ rfl), .refl _, by exact hI, ⟨rfl, rfl⟩⟩
              refine dcons ?_ ?_
              · intro V374 G375 H376 fr377 hle378 hd379
                obtain ⟨hv381, hg382⟩ := hd379 20 (by decide)
                obtain ⟨hv383, hg384⟩ := hd379 26 (by decide)
                refine ⟨_, some (), rfl, fun _ => ?_⟩
                refine s_env (env' := [(58, .bool (y10.2.2 == y14.2.2)), (64, .bool y50)]) (by exact ⟨congrArg some hv381, congrArg some hv383, trivial⟩) ?_
                refine o_pickT rfl h37 rfl ?_
                exact s_pred fun tm w ht hE hI => ⟨(.bool y50), [], _, fun d hd => (by cases hd; exact hE _ _ rfl), .refl _, by exact hI, ⟨rfl, rfl⟩⟩
              refine dcons ?_ ?_
              · intro V385 G386 H387 fr388 hle389 hd390
                obtain ⟨hv392, hg393⟩ := hd390 27 (by decide)
                refine ⟨_, some (), rfl, fun _ => ?_⟩
                refine s_env (env' := [(65, .bool y50)]) (by exact ⟨congrArg some hv392, trivial⟩) ?_
                refine o_mov rfl ?_
                exact s_pred fun tm w ht hE hI => ⟨(.bool y50), [], _, fun d hd => (by cases hd; exact hE _ _ rfl), .refl _, by exact hI, ⟨rfl, rfl⟩⟩
              refine dcons ?_ ?_
              · intro V394 G395 H396 fr397 hle398 hd399
                obtain ⟨hv401, hg402⟩ := hd399 28 (by decide)
                refine ⟨_, (catenarylaw12_works k).bind some, by rw [h56]; rfl, fun _ => ?_⟩
                refine s_env (env' := [(66, .bool y50)]) (by exact ⟨congrArg some hv401, trivial⟩) ?_
                refine s_want rfl rfl h53 ?_
                refine s_bg fun y54 h403 => ?_
                refine s_callF rfl rfl (catenarylaw12_works_ok k _ h403) ?_
                obtain rfl := Option.some.inj (h56.symm.trans h403)
                exact s_pred fun tm w ht hE hI => ⟨(.bool y54), [], _, fun d hd => (by cases hd; exact hE _ _ rfl), .refl _, by exact hI, ⟨rfl, rfl⟩⟩
              refine dcons ?_ ?_
              · intro V404 G405 H406 fr407 hle408 hd409
                obtain ⟨hv411, hg412⟩ := hd409 28 (by decide)
                obtain ⟨hv413, hg414⟩ := hd409 29 (by decide)
                refine ⟨_, some (), rfl, fun _ => ?_⟩
                refine s_env (env' := [(66, .bool y50), (67, .bool y54)]) (by exact ⟨congrArg some hv411, congrArg some hv413, trivial⟩) ?_
                refine o_pickT rfl h53 rfl ?_
                exact s_pred fun tm w ht hE hI => ⟨(.bool y54), [], _, fun d hd => (by cases hd; exact hE _ _ rfl), .refl _, by exact hI, ⟨rfl, rfl⟩⟩
              exact dnil
            · intro V417 G418 H415 hle416 hF419
              have hs420 := RSl.mono hle416 hs25
              have hs421 := RSl.mono hle416 hs26
              have hA422 := All2.mono (fun _ _ => GoT.mono hle416) hA27
              obtain ⟨hv423, hg424⟩ := hF419 30 (show 30 < 31 by decide)
              refine s_env (env' := [(68, .bool y54), (0, .agg #[.int .i64 x0.Switches, .slice a0_0 x0.Links.length c0_0]), (1, .agg #[.int .i64 x1.Switch, .int .i64 x1.Port]), (2, .pointer (some ⟨b1, 0, none⟩)), (3, .pointer (some ⟨b3, 0, none⟩)), (4, .bool false), (12, .pointer (some ⟨b1, 1, none⟩)), (13, .slice a0_0 x0.Links.length c0_0), (14, .pointer (some ⟨b1, 1, none⟩)), (15, .slice a0_0 x0.Links.length c0_0), (16, .int .i64 (x0.Links.length : Int)), (17, .int .i64 (imin (x0.Links.length : Int) 30)), (18, .slice a5 y7.length c6), (19, .pointer (some ⟨b1, 1, none⟩)), (21, .agg #[.int .i64 x0.Switches, .slice a5 y7.length c6]), (22, .agg #[.int .i64 x1.Switch, .int .i64 x1.Port]), (24, .agg #[.int .i64 y10.1.Switch, .int .i64 y10.1.Port]), (25, .int .i64 y10.2.1), (26, .bool y10.2.2), (5, .pointer (some ⟨b12, 0, none⟩)), (6, .int .i64 y10.2.1), (7, .bool y10.2.2), (28, .agg #[.int .i64 x0.Switches, .slice a5 y7.length c6]), (29, .agg #[.int .i64 x1.Switch, .int .i64 x1.Port]), (31, .agg #[.int .i64 y14.1.Switch, .int .i64 y14.1.Port]), (32, .int .i64 y14.2.1), (33, .bool y14.2.2), (8, .pointer (some ⟨b16, 0, none⟩)), (9, .int .i64 y14.2.1), (10, .bool y14.2.2), (34, .agg #[.int .i64 x0.Switches, .slice a5 y7.length c6]), (35, .pointer (some ⟨b3, 0, none⟩)), (36, .int .i64 x1.Switch), (37, .slice a20 y18.length c21), (11, .slice a20 y18.length c21)]) (by exact ⟨congrArg some hv423, rfl, rfl, rfl, rfl, rfl, rfl, rfl, rfl, rfl, rfl, rfl, rfl, rfl, rfl, rfl, rfl, rfl, rfl, rfl, rfl, rfl, rfl, rfl, rfl, rfl, rfl, rfl, rfl, rfl, rfl, rfl, rfl, rfl, rfl, trivial⟩) ?_
              refine s_own (List.sublist_append_left _ _) ?_
              refine o_asg rfl ?_
              refine s_done ?_
              exact s_retv (xs := [.tmp 4]) (vs := [.bool y54]) [] fn_3 rfl ⟨rv_tmp rfl, trivial⟩ (.cons _ (.cons _ (.cons _ (.cons _ (.cons _ .slnil))))) ⟨rfl, rfl⟩
          · refine s_drawL [(fun H v g => v = .agg #[.int .i64 x0.Switches, .slice a5 y7.length c6] ∧ g = [] ∧ RSl H a5 c6 y7),
      (fun H v g => v = .int .i64 y28 ∧ g = []),
      (fun H v g => v = .agg #[.int .i64 x0.Switches, .slice a5 y7.length c6] ∧ g = [] ∧ RSl H a5 c6 y7),
      (fun H v g => v = .int .i64 y31 ∧ g = []),
      (fun H v g => v = .bool (y28 == y31) ∧ g = []),
      (fun H v g => v = .bool (y28 == y31) ∧ g = []),
      (fun H v g => v = .agg #[.int .i64 y10.1.Switch, .int .i64 y10.1.Port] ∧ g = []),
      (fun H v g => v = .agg #[.int .i64 y14.1.Switch, .int .i64 y14.1.Port] ∧ g = []),
      (fun H v g => v = .bool (decide (y10.1 = y14.1)) ∧ g = []),
      (fun H v g => v = .bool (decide (y10.1 = y14.1)) ∧ g = []),
      (fun H v g => v = .bool (decide (y10.1 = y14.1)) ∧ g = []),
      (fun H v g => v = .int .i64 y10.2.1 ∧ g = []),
      (fun H v g => v = .int .i64 y14.2.1 ∧ g = []),
      (fun H v g => v = .bool (y10.2.1 == y14.2.1) ∧ g = []),
      (fun H v g => v = .bool (y10.2.1 == y14.2.1) ∧ g = []),
      (fun H v g => v = .bool (y10.2.1 == y14.2.1) ∧ g = []),
      (fun H v g => v = .bool y10.2.2 ∧ g = []),
      (fun H v g => v = .bool y14.2.2 ∧ g = []),
      (fun H v g => v = .bool (y10.2.2 == y14.2.2) ∧ g = []),
      (fun H v g => v = .bool (y10.2.2 == y14.2.2) ∧ g = []),
      (fun H v g => v = .bool (y10.2.2 == y14.2.2) ∧ g = []),
      (fun H v g => v = .slice a20 y18.length c21 ∧ g = []),
      (fun H v g => v = .agg #[.int .i64 x0.Switches, .slice a5 y7.length c6] ∧ g = [] ∧ RSl H a5 c6 y7),
      (fun H v g => v = .pointer (some ⟨b3, 0, none⟩) ∧ g = []),
      (fun H v g => v = .int .i64 x1.Switch ∧ g = []),
      (fun H v g => ∃ a428 c429, v = .slice a428 y38.length c429 ∧ g = [] ∧ RSl H a428 c429 y38),
      (fun H v g => v = .bool y50 ∧ g = []),
      (fun H v g => v = .bool y50 ∧ g = []),
      (fun H v g => v = .bool y50 ∧ g = []),
      (fun H v g => v = undef ∧ g = []),
      (fun H v g => v = .bool false ∧ g = [])] [[], [], [], [], [], [], [], [], [], [], [], [], [], [], [], [], [], [], [], [], [], [], [], [], [], [], [], [], [], [], []] mixed ⟨fun _ _ _ _ hle ⟨e1, e2, h0_⟩ => ⟨e1, e2, RSl.mono hle h0_⟩, fun _ _ _ _ _ h => h, fun _ _ _ _ hle ⟨e1, e2, h0_⟩ => ⟨e1, e2, RSl.mono hle h0_⟩, fun _ _ _ _ _ h => h, fun _ _ _ _ _ h => h, fun _ _ _ _ _ h => h, fun _ _ _ _ _ h => h, fun _ _ _ _ _ h => h, fun _ _ _ _ _ h => h, fun _ _ _ _ _ h => h, fun _ _ _ _ _ h => h, fun _ _ _ _ _ h => h, fun _ _ _ _ _ h => h, fun _ _ _ _ _ h => h, fun _ _ _ _ _ h => h, fun _ _ _ _ _ h => h, fun _ _ _ _ _ h => h, fun _ _ _ _ _ h => h, fun _ _ _ _ _ h => h, fun _ _ _ _ _ h => h, fun _ _ _ _ _ h => h, fun _ _ _ _ _ h => h, fun _ _ _ _ hle ⟨e1, e2, h0_⟩ => ⟨e1, e2, RSl.mono hle h0_⟩, fun _ _ _ _ _ h => h, fun _ _ _ _ _ h => h, fun _ _ _ _ hle ⟨a428, c429, e1, e2, h0_⟩ => ⟨_, _, e1, e2, RSl.mono hle h0_⟩, fun _ _ _ _ _ h => h, fun _ _ _ _ _ h => h, fun _ _ _ _ _ h => h, fun _ _ _ _ _ h => h, fun _ _ _ _ _ h => h, trivial⟩ (by kernel_rfl) (by kernel_rfl) rfl (by kernel_rfl) rfl rfl ?_ ?_
            · refine dcons ?_ ?_
              · intro V445 G446 H447 fr448 hle449 hd450
                have hs452 := RSl.mono hle449 hs26
                refine ⟨_, some (), rfl, fun _ => ?_⟩
                refine s_env (env' := [(2, .pointer (some ⟨b1, 0, none⟩))]) (by exact ⟨rfl, trivial⟩) ?_
                refine o_ld 0 rfl rfl rfl ?_
                exact s_pred fun tm w ht hE hI => ⟨(.agg #[.int .i64 x0.Switches, .slice a5 y7.length c6]), [], _, fun d hd => (by cases hd; exact hE _ _ rfl), .refl _, by exact hI, ⟨rfl, rfl, hs452⟩⟩
              refine dcons ?_ ?_
              · intro V453 G454 H455 fr456 hle457 hd458
                obtain ⟨hv460, hg461, hp462⟩ := hd458 0 (by decide)
                refine ⟨_, (graph_Check k (⟨x0.Switches, y7⟩ : Graph)).bind some, by rw [h30]; rfl, fun _ => ?_⟩
                refine s_env (env' := [(38, .agg #[.int .i64 x0.Switches, .slice a5 y7.length c6])]) (by exact ⟨congrArg some hv460, trivial⟩) ?_
                refine s_bg fun y28 h463 => ?_
                refine s_callF rfl rfl (graph_Check_ok k _ (⟨x0.Switches, y7⟩ : Graph) _ _ hp462 h463) ?_
                obtain rfl := Option.some.inj (h30.symm.trans h463)
                exact s_pred fun tm w ht hE hI => ⟨(.int .i64 y28), [], _, fun d hd => (by cases hd; exact hE _ _ rfl), .refl _, by exact hI, ⟨rfl, rfl⟩⟩
              refine dcons ?_ ?_
              · intro V464 G465 H466 fr467 hle468 hd469
                have hs471 := RSl.mono hle468 hs26
                refine ⟨_, some (), rfl, fun _ => ?_⟩
                refine s_env (env' := [(2, .pointer (some ⟨b1, 0, none⟩))]) (by exact ⟨rfl, trivial⟩) ?_
                refine o_ld 0 rfl rfl rfl ?_
                exact s_pred fun tm w ht hE hI => ⟨(.agg #[.int .i64 x0.Switches, .slice a5 y7.length c6]), [], _, fun d hd => (by cases hd; exact hE _ _ rfl), .refl _, by exact hI, ⟨rfl, rfl, hs471⟩⟩
              refine dcons ?_ ?_
              · intro V472 G473 H474 fr475 hle476 hd477
                obtain ⟨hv479, hg480, hp481⟩ := hd477 2 (by decide)
                refine ⟨_, (catenaryref12_Check k (⟨x0.Switches, y7⟩ : Graph)).bind some, by rw [h33]; rfl, fun _ => ?_⟩
                refine s_env (env' := [(40, .agg #[.int .i64 x0.Switches, .slice a5 y7.length c6])]) (by exact ⟨congrArg some hv479, trivial⟩) ?_
                refine s_bg fun y31 h482 => ?_
                refine s_callF rfl rfl (catenaryref12_Check_ok k _ (⟨x0.Switches, y7⟩ : Graph) _ _ hp481 h482) ?_
                obtain rfl := Option.some.inj (h33.symm.trans h482)
                exact s_pred fun tm w ht hE hI => ⟨(.int .i64 y31), [], _, fun d hd => (by cases hd; exact hE _ _ rfl), .refl _, by exact hI, ⟨rfl, rfl⟩⟩
              refine dcons ?_ ?_
              · intro V483 G484 H485 fr486 hle487 hd488
                obtain ⟨hv490, hg491⟩ := hd488 1 (by decide)
                obtain ⟨hv492, hg493⟩ := hd488 3 (by decide)
                refine ⟨_, some (), rfl, fun _ => ?_⟩
                refine s_env (env' := [(39, .int .i64 y28), (41, .int .i64 y31)]) (by exact ⟨congrArg some hv490, congrArg some hv492, trivial⟩) ?_
                refine o_eq rfl rfl ?_
                exact s_pred fun tm w ht hE hI => ⟨(.bool (y28 == y31)), [], _, fun d hd => (by cases hd; exact hE _ _ rfl), .refl _, by exact hI, ⟨rfl, rfl⟩⟩
              refine dcons ?_ ?_
              · intro V494 G495 H496 fr497 hle498 hd499
                obtain ⟨hv501, hg502⟩ := hd499 4 (by decide)
                refine ⟨_, some (), rfl, fun _ => ?_⟩
                refine s_env (env' := [(42, .bool (y28 == y31))]) (by exact ⟨congrArg some hv501, trivial⟩) ?_
                refine o_mov rfl ?_
                exact s_pred fun tm w ht hE hI => ⟨(.bool (y28 == y31)), [], _, fun d hd => (by cases hd; exact hE _ _ rfl), .refl _, by exact hI, ⟨rfl, rfl⟩⟩
              refine dcons ?_ ?_
              · intro V503 G504 H505 fr506 hle507 hd508
                obtain ⟨hv510, hg511⟩ := hd508 5 (by decide)
                refine ⟨_, some (), rfl, fun _ => ?_⟩
                refine s_env (env' := [(43, .bool (y28 == y31)), (5, .pointer (some ⟨b12, 0, none⟩))]) (by exact ⟨congrArg some hv510, rfl, trivial⟩) ?_
                refine s_want rfl rfl h34 ?_
                refine o_ld 2 rfl rfl rfl ?_
                exact s_pred fun tm w ht hE hI => ⟨(.agg #[.int .i64 y10.1.Switch, .int .i64 y10.1.Port]), [], _, fun d hd => (by cases hd; exact hE _ _ rfl), .refl _, by exact hI, ⟨rfl, rfl⟩⟩
              refine dcons ?_ ?_
              · intro V512 G513 H514 fr515 hle516 hd517
                obtain ⟨hv519, hg520⟩ := hd517 5 (by decide)
                refine ⟨_, some (), rfl, fun _ => ?_⟩
                refine s_env (env' := [(43, .bool (y28 == y31)), (8, .pointer (some ⟨b16, 0, none⟩))]) (by exact ⟨congrArg some hv519, rfl, trivial⟩) ?_
                refine s_want rfl rfl h34 ?_
                refine o_ld 3 rfl rfl rfl ?_
                exact s_pred fun tm w ht hE hI => ⟨(.agg #[.int .i64 y14.1.Switch, .int .i64 y14.1.Port]), [], _, fun d hd => (by cases hd; exact hE _ _ rfl), .refl _, by exact hI, ⟨rfl, rfl⟩⟩
              refine dcons ?_ ?_
              · intro V521 G522 H523 fr524 hle525 hd526
                obtain ⟨hv528, hg529⟩ := hd526 5 (by decide)
                obtain ⟨hv530, hg531⟩ := hd526 6 (by decide)
                obtain ⟨hv532, hg533⟩ := hd526 7 (by decide)
                refine ⟨_, some (), rfl, fun _ => ?_⟩
                refine s_env (env' := [(43, .bool (y28 == y31)), (44, .agg #[.int .i64 y10.1.Switch, .int .i64 y10.1.Port]), (45, .agg #[.int .i64 y14.1.Switch, .int .i64 y14.1.Port])]) (by exact ⟨congrArg some hv528, congrArg some hv530, congrArg some hv532, trivial⟩) ?_
                refine s_want rfl rfl h34 ?_
                refine o_eqS y10.1 y14.1 rfl rfl ?_
                exact s_pred fun tm w ht hE hI => ⟨(.bool (decide (y10.1 = y14.1))), [], _, fun d hd => (by cases hd; exact hE _ _ rfl), .refl _, by exact hI, ⟨rfl, rfl⟩⟩
              refine dcons ?_ ?_
              · intro V534 G535 H536 fr537 hle538 hd539
                obtain ⟨hv541, hg542⟩ := hd539 5 (by decide)
                obtain ⟨hv543, hg544⟩ := hd539 8 (by decide)
                refine ⟨_, some (), rfl, fun _ => ?_⟩
                refine s_env (env' := [(43, .bool (y28 == y31)), (46, .bool (decide (y10.1 = y14.1)))]) (by exact ⟨congrArg some hv541, congrArg some hv543, trivial⟩) ?_
                refine o_pickT rfl h34 rfl ?_
                exact s_pred fun tm w ht hE hI => ⟨(.bool (decide (y10.1 = y14.1))), [], _, fun d hd => (by cases hd; exact hE _ _ rfl), .refl _, by exact hI, ⟨rfl, rfl⟩⟩
              refine dcons ?_ ?_
              · intro V545 G546 H547 fr548 hle549 hd550
                obtain ⟨hv552, hg553⟩ := hd550 9 (by decide)
                refine ⟨_, some (), rfl, fun _ => ?_⟩
                refine s_env (env' := [(47, .bool (decide (y10.1 = y14.1)))]) (by exact ⟨congrArg some hv552, trivial⟩) ?_
                refine o_mov rfl ?_
                exact s_pred fun tm w ht hE hI => ⟨(.bool (decide (y10.1 = y14.1))), [], _, fun d hd => (by cases hd; exact hE _ _ rfl), .refl _, by exact hI, ⟨rfl, rfl⟩⟩
              refine dcons ?_ ?_
              · intro V554 G555 H556 fr557 hle558 hd559
                obtain ⟨hv561, hg562⟩ := hd559 10 (by decide)
                refine ⟨_, some (), rfl, fun _ => ?_⟩
                refine s_env (env' := [(48, .bool (decide (y10.1 = y14.1))), (6, .int .i64 y10.2.1)]) (by exact ⟨congrArg some hv561, rfl, trivial⟩) ?_
                refine s_want rfl rfl h35 ?_
                refine o_mov rfl ?_
                exact s_pred fun tm w ht hE hI => ⟨(.int .i64 y10.2.1), [], _, fun d hd => (by cases hd; exact hE _ _ rfl), .refl _, by exact hI, ⟨rfl, rfl⟩⟩
              refine dcons ?_ ?_
              · intro V563 G564 H565 fr566 hle567 hd568
                obtain ⟨hv570, hg571⟩ := hd568 10 (by decide)
                refine ⟨_, some (), rfl, fun _ => ?_⟩
                refine s_env (env' := [(48, .bool (decide (y10.1 = y14.1))), (9, .int .i64 y14.2.1)]) (by exact ⟨congrArg some hv570, rfl, trivial⟩) ?_
                refine s_want rfl rfl h35 ?_
                refine o_mov rfl ?_
                exact s_pred fun tm w ht hE hI => ⟨(.int .i64 y14.2.1), [], _, fun d hd => (by cases hd; exact hE _ _ rfl), .refl _, by exact hI, ⟨rfl, rfl⟩⟩
              refine dcons ?_ ?_
              · intro V572 G573 H574 fr575 hle576 hd577
                obtain ⟨hv579, hg580⟩ := hd577 10 (by decide)
                obtain ⟨hv581, hg582⟩ := hd577 11 (by decide)
                obtain ⟨hv583, hg584⟩ := hd577 12 (by decide)
                refine ⟨_, some (), rfl, fun _ => ?_⟩
                refine s_env (env' := [(48, .bool (decide (y10.1 = y14.1))), (49, .int .i64 y10.2.1), (50, .int .i64 y14.2.1)]) (by exact ⟨congrArg some hv579, congrArg some hv581, congrArg some hv583, trivial⟩) ?_
                refine s_want rfl rfl h35 ?_
                refine o_eq rfl rfl ?_
                exact s_pred fun tm w ht hE hI => ⟨(.bool (y10.2.1 == y14.2.1)), [], _, fun d hd => (by cases hd; exact hE _ _ rfl), .refl _, by exact hI, ⟨rfl, rfl⟩⟩
              refine dcons ?_ ?_
              · intro V585 G586 H587 fr588 hle589 hd590
                obtain ⟨hv592, hg593⟩ := hd590 10 (by decide)
                obtain ⟨hv594, hg595⟩ := hd590 13 (by decide)
                refine ⟨_, some (), rfl, fun _ => ?_⟩
                refine s_env (env' := [(48, .bool (decide (y10.1 = y14.1))), (51, .bool (y10.2.1 == y14.2.1))]) (by exact ⟨congrArg some hv592, congrArg some hv594, trivial⟩) ?_
                refine o_pickT rfl h35 rfl ?_
                exact s_pred fun tm w ht hE hI => ⟨(.bool (y10.2.1 == y14.2.1)), [], _, fun d hd => (by cases hd; exact hE _ _ rfl), .refl _, by exact hI, ⟨rfl, rfl⟩⟩
              refine dcons ?_ ?_
              · intro V596 G597 H598 fr599 hle600 hd601
                obtain ⟨hv603, hg604⟩ := hd601 14 (by decide)
                refine ⟨_, some (), rfl, fun _ => ?_⟩
                refine s_env (env' := [(52, .bool (y10.2.1 == y14.2.1))]) (by exact ⟨congrArg some hv603, trivial⟩) ?_
                refine o_mov rfl ?_
                exact s_pred fun tm w ht hE hI => ⟨(.bool (y10.2.1 == y14.2.1)), [], _, fun d hd => (by cases hd; exact hE _ _ rfl), .refl _, by exact hI, ⟨rfl, rfl⟩⟩
              refine dcons ?_ ?_
              · intro V605 G606 H607 fr608 hle609 hd610
                obtain ⟨hv612, hg613⟩ := hd610 15 (by decide)
                refine ⟨_, some (), rfl, fun _ => ?_⟩
                refine s_env (env' := [(53, .bool (y10.2.1 == y14.2.1)), (7, .bool y10.2.2)]) (by exact ⟨congrArg some hv612, rfl, trivial⟩) ?_
                refine s_want rfl rfl h36 ?_
                refine o_mov rfl ?_
                exact s_pred fun tm w ht hE hI => ⟨(.bool y10.2.2), [], _, fun d hd => (by cases hd; exact hE _ _ rfl), .refl _, by exact hI, ⟨rfl, rfl⟩⟩
              refine dcons ?_ ?_
              · intro V614 G615 H616 fr617 hle618 hd619
                obtain ⟨hv621, hg622⟩ := hd619 15 (by decide)
                refine ⟨_, some (), rfl, fun _ => ?_⟩
                refine s_env (env' := [(53, .bool (y10.2.1 == y14.2.1)), (10, .bool y14.2.2)]) (by exact ⟨congrArg some hv621, rfl, trivial⟩) ?_
                refine s_want rfl rfl h36 ?_
                refine o_mov rfl ?_
                exact s_pred fun tm w ht hE hI => ⟨(.bool y14.2.2), [], _, fun d hd => (by cases hd; exact hE _ _ rfl), .refl _, by exact hI, ⟨rfl, rfl⟩⟩
              refine dcons ?_ ?_
              · intro V623 G624 H625 fr626 hle627 hd628
                obtain ⟨hv630, hg631⟩ := hd628 15 (by decide)
                obtain ⟨hv632, hg633⟩ := hd628 16 (by decide)
                obtain ⟨hv634, hg635⟩ := hd628 17 (by decide)
                refine ⟨_, some (), rfl, fun _ => ?_⟩
                refine s_env (env' := [(53, .bool (y10.2.1 == y14.2.1)), (54, .bool y10.2.2), (55, .bool y14.2.2)]) (by exact ⟨congrArg some hv630, congrArg some hv632, congrArg some hv634, trivial⟩) ?_
                refine s_want rfl rfl h36 ?_
                refine o_eqb rfl rfl ?_
                exact s_pred fun tm w ht hE hI => ⟨(.bool (y10.2.2 == y14.2.2)), [], _, fun d hd => (by cases hd; exact hE _ _ rfl), .refl _, by exact hI, ⟨rfl, rfl⟩⟩
              refine dcons ?_ ?_
              · intro V636 G637 H638 fr639 hle640 hd641
                obtain ⟨hv643, hg644⟩ := hd641 15 (by decide)
                obtain ⟨hv645, hg646⟩ := hd641 18 (by decide)
                refine ⟨_, some (), rfl, fun _ => ?_⟩
                refine s_env (env' := [(53, .bool (y10.2.1 == y14.2.1)), (56, .bool (y10.2.2 == y14.2.2))]) (by exact ⟨congrArg some hv643, congrArg some hv645, trivial⟩) ?_
                refine o_pickT rfl h36 rfl ?_
                exact s_pred fun tm w ht hE hI => ⟨(.bool (y10.2.2 == y14.2.2)), [], _, fun d hd => (by cases hd; exact hE _ _ rfl), .refl _, by exact hI, ⟨rfl, rfl⟩⟩
              refine dcons ?_ ?_
              · intro V647 G648 H649 fr650 hle651 hd652
                obtain ⟨hv654, hg655⟩ := hd652 19 (by decide)
                refine ⟨_, some (), rfl, fun _ => ?_⟩
                refine s_env (env' := [(57, .bool (y10.2.2 == y14.2.2))]) (by exact ⟨congrArg some hv654, trivial⟩) ?_
                refine o_mov rfl ?_
                exact s_pred fun tm w ht hE hI => ⟨(.bool (y10.2.2 == y14.2.2)), [], _, fun d hd => (by cases hd; exact hE _ _ rfl), .refl _, by exact hI, ⟨rfl, rfl⟩⟩
              refine dcons ?_ ?_
              · intro V656 G657 H658 fr659 hle660 hd661
                have hA663 := All2.mono (fun _ _ => GoT.mono hle660) hA27
                obtain ⟨hv664, hg665⟩ := hd661 20 (by decide)
                refine ⟨_, some (), rfl, fun _ => ?_⟩
                refine s_env (env' := [(58, .bool (y10.2.2 == y14.2.2)), (11, .slice a20 y18.length c21)]) (by exact ⟨congrArg some hv664, rfl, trivial⟩) ?_
                refine s_want rfl rfl h37 ?_
                refine o_mov rfl ?_
                exact s_pred fun tm w ht hE hI => ⟨(.slice a20 y18.length c21), [], _, fun d hd => (by cases hd; exact hE _ _ rfl), .refl _, by exact hI, ⟨rfl, rfl⟩⟩
              refine dcons ?_ ?_
              · intro V666 G667 H668 fr669 hle670 hd671
                have hs673 := RSl.mono hle670 hs26
                obtain ⟨hv674, hg675⟩ := hd671 20 (by decide)
                refine ⟨_, some (), rfl, fun _ => ?_⟩
                refine s_env (env' := [(58, .bool (y10.2.2 == y14.2.2)), (2, .pointer (some ⟨b1, 0, none⟩))]) (by exact ⟨congrArg some hv674, rfl, trivial⟩) ?_
                refine s_want rfl rfl h37 ?_
                refine o_ld 0 rfl rfl rfl ?_
                exact s_pred fun tm w ht hE hI => ⟨(.agg #[.int .i64 x0.Switches, .slice a5 y7.length c6]), [], _, fun d hd => (by cases hd; exact hE _ _ rfl), .refl _, by exact hI, ⟨rfl, rfl, hs673⟩⟩
              refine dcons ?_ ?_
              · intro V676 G677 H678 fr679 hle680 hd681
                obtain ⟨hv683, hg684⟩ := hd681 20 (by decide)
                refine ⟨_, some (), rfl, fun _ => ?_⟩
                refine s_env (env' := [(58, .bool (y10.2.2 == y14.2.2)), (3, .pointer (some ⟨b3, 0, none⟩))]) (by exact ⟨congrArg some hv683, rfl, trivial⟩) ?_
                refine s_want rfl rfl h37 ?_
                refine o_fa rfl ?_
                exact s_pred fun tm w ht hE hI => ⟨(.pointer (some ⟨b3, 0, none⟩)), [], _, fun d hd => (by cases hd; exact hE _ _ rfl), .refl _, by exact hI, ⟨rfl, rfl⟩⟩
              refine dcons ?_ ?_
              · intro V685 G686 H687 fr688 hle689 hd690
                obtain ⟨hv692, hg693⟩ := hd690 20 (by decide)
                obtain ⟨hv694, hg695⟩ := hd690 23 (by decide)
                refine ⟨_, some (), rfl, fun _ => ?_⟩
                refine s_env (env' := [(58, .bool (y10.2.2 == y14.2.2)), (61, .pointer (some ⟨b3, 0, none⟩))]) (by exact ⟨congrArg some hv692, congrArg some hv694, trivial⟩) ?_
                refine s_want rfl rfl h37 ?_
                refine o_ld 1 rfl rfl rfl ?_
                exact s_pred fun tm w ht hE hI => ⟨(.int .i64 x1.Switch), [], _, fun d hd => (by cases hd; exact hE _ _ rfl), .refl _, by exact hI, ⟨rfl, rfl⟩⟩
              refine dcons ?_ ?_
              · intro V696 G697 H698 fr699 hle700 hd701
                obtain ⟨hv703, hg704⟩ := hd701 20 (by decide)
                obtain ⟨hv705, hg706, hp707⟩ := hd701 22 (by decide)
                obtain ⟨hv708, hg709⟩ := hd701 24 (by decide)
                refine ⟨_, (catenaryref12_Ports k (⟨x0.Switches, y7⟩ : Graph) x1.Switch).bind some, by rw [h49]; rfl, fun _ => ?_⟩
                refine s_env (env' := [(58, .bool (y10.2.2 == y14.2.2)), (60, .agg #[.int .i64 x0.Switches, .slice a5 y7.length c6]), (62, .int .i64 x1.Switch)]) (by exact ⟨congrArg some hv703, congrArg some hv705, congrArg some hv708, trivial⟩) ?_
                refine s_want rfl rfl h37 ?_
                refine s_bg fun y38 h710 => ?_
                refine s_call [] _ rfl rfl (.refl _) (catenaryref12_Ports_ok k _ (⟨x0.Switches, y7⟩ : Graph) _ _ hp707 x1.Switch h710) ?_
                rintro _ H714 _ hle715 ⟨a711, c712, rfl, rfl⟩
                have hs716 := RSl.mono hle715 hp707
                have hA717 : All2 (GoT.rep H714) (y38.map GoE.enc) y38 := all2_enc _
                obtain rfl := Option.some.inj (h49.symm.trans h710)
                refine s_perm (own' := [.blk b1 (rowObj [.int .i64 x0.Switches, .slice a5 y7.length c6] 24), .blk b3 (rowObj [.int .i64 x1.Switch, .int .i64 x1.Port] 26), .blk b12 (rowObj [.int .i64 y10.1.Switch, .int .i64 y10.1.Port] 26), .blk b16 (rowObj [.int .i64 y14.1.Switch, .int .i64 y14.1.Port] 26), .osl (.slice a20 y18.length c21) 1 3 (y18.map GoE.enc), .osl (.slice a711 y38.length c712) 1 3 (y38.map GoE.enc)] ++ fr699) (pm3 (a := [.blk b1 (rowObj [.int .i64 x0.Switches, .slice a5 y7.length c6] 24), .blk b3 (rowObj [.int .i64 x1.Switch, .int .i64 x1.Port] 26), .blk b12 (rowObj [.int .i64 y10.1.Switch, .int .i64 y10.1.Port] 26), .blk b16 (rowObj [.int .i64 y14.1.Switch, .int .i64 y14.1.Port] 26), .osl (.slice a20 y18.length c21) 1 3 (y18.map GoE.enc)]) (xs := [.osl (.slice a711 y38.length c712) 1 3 (y38.map GoE.enc)])) ?_
                refine s_frz 5 (fun b => .inl (by simp [ids])) rfl hA717 fun H718 hle719 hn720 hs721 => ?_
                have hs722 := RSl.mono hle719 hs716
                exact s_pred fun tm w ht hE hI => ⟨(.slice a711 y38.length c712), [], _, fun d hd => (by cases hd; exact hE _ _ rfl), (Hle.trans hle715 hle719), by exact hI, ⟨a711, c712, rfl, rfl, hs721⟩⟩
              refine dcons ?_ ?_
              · intro V723 G724 H725 fr726 hle727 hd728
                have hA730 := All2.mono (fun _ _ => GoT.mono hle727) hA27
                obtain ⟨hv731, hg732⟩ := hd728 20 (by decide)
                obtain ⟨hv733, hg734⟩ := hd728 21 (by decide)
                obtain ⟨a735, c736, hv737, hg738, hp739⟩ := hd728 25 (by decide)
                refine ⟨_, (catenaryref00_EqInts k y18 y38).bind some, by rw [h52]; rfl, fun _ => ?_⟩
                refine s_env (env' := [(58, .bool (y10.2.2 == y14.2.2)), (59, .slice a20 y18.length c21), (63, .slice a735 y38.length c736)]) (by exact ⟨congrArg some hv731, congrArg some hv733, congrArg some hv737, trivial⟩) ?_
                refine s_want rfl rfl h37 ?_
                refine s_bg fun y50 h740 => ?_
                refine s_callL (Φ := fun v out => v = _ ∧ out = []) [] _ rfl rfl (.refl _) (fun H' hle hl => catenaryref00_EqInts_ok k _ y18 _ _ (lent_rsl (hl _ (List.mem_of_getElem? (i := 4) rfl)) hA730 hle).2 y38 _ _ (RSl.mono hle hp739) h740) ?_
                rintro _ _ ⟨rfl, rfl⟩
                refine s_ownN ?_
                obtain rfl := Option.some.inj (h52.symm.trans h740)
                exact s_pred fun tm w ht hE hI => ⟨(.bool y50), [], _, fun d hd => (by cases hd; exact hE _ _ rfl), .refl _, by exact hI, ⟨rfl, rfl⟩⟩
              refine dcons ?_ ?_
              · intro V741 G742 H743 fr744 hle745 hd746
                obtain ⟨hv748, hg749⟩ := hd746 20 (by decide)
                obtain ⟨hv750, hg751⟩ := hd746 26 (by decide)
                refine ⟨_, some (), rfl, fun _ => ?_⟩
                refine s_env (env' := [(58, .bool (y10.2.2 == y14.2.2)), (64, .bool y50)]) (by exact ⟨congrArg some hv748, congrArg some hv750, trivial⟩) ?_
                refine o_pickT rfl h37 rfl ?_
                exact s_pred fun tm w ht hE hI => ⟨(.bool y50), [], _, fun d hd => (by cases hd; exact hE _ _ rfl), .refl _, by exact hI, ⟨rfl, rfl⟩⟩
              refine dcons ?_ ?_
              · intro V752 G753 H754 fr755 hle756 hd757
                obtain ⟨hv759, hg760⟩ := hd757 27 (by decide)
                refine ⟨_, some (), rfl, fun _ => ?_⟩
                refine s_env (env' := [(65, .bool y50)]) (by exact ⟨congrArg some hv759, trivial⟩) ?_
                refine o_mov rfl ?_
                exact s_pred fun tm w ht hE hI => ⟨(.bool y50), [], _, fun d hd => (by cases hd; exact hE _ _ rfl), .refl _, by exact hI, ⟨rfl, rfl⟩⟩
              refine dcons ?_ ?_
              · intro V761 G762 H763 fr764 hle765 hd766
                obtain ⟨hv768, hg769⟩ := hd766 28 (by decide)
                refine ⟨_, some (), rfl, fun _ => ?_⟩
                refine s_env (env' := [(66, .bool y50)]) (by exact ⟨congrArg some hv768, trivial⟩) ?_
                refine s_unwant rfl rfl h53 ?_
                exact s_pred fun tm w ht hE hI => ⟨undef, [], _, fun d hd => (by cases hd; exact hE _ _ rfl), .refl _, by exact hI, ⟨rfl, rfl⟩⟩
              refine dcons ?_ ?_
              · intro V770 G771 H772 fr773 hle774 hd775
                obtain ⟨hv777, hg778⟩ := hd775 28 (by decide)
                obtain ⟨hv779, hg780⟩ := hd775 29 (by decide)
                refine ⟨_, some (), rfl, fun _ => ?_⟩
                refine s_env (env' := [(66, .bool y50), (67, undef)]) (by exact ⟨congrArg some hv777, congrArg some hv779, trivial⟩) ?_
                refine o_pickF rfl h53 rfl ?_
                exact s_pred fun tm w ht hE hI => ⟨(.bool false), [], _, fun d hd => (by cases hd; exact hE _ _ rfl), .refl _, by exact hI, ⟨rfl, rfl⟩⟩
              exact dnil
            · intro V783 G784 H781 hle782 hF785
              have hs786 := RSl.mono hle782 hs25
              have hs787 := RSl.mono hle782 hs26
              have hA788 := All2.mono (fun _ _ => GoT.mono hle782) hA27
              obtain ⟨hv789, hg790⟩ := hF785 30 (show 30 < 31 by decide)
              refine s_env (env' := [(68, .bool false), (0, .agg #[.int .i64 x0.Switches, .slice a0_0 x0.Links.length c0_0]), (1, .agg #[.int .i64 x1.Switch, .int .i64 x1.Port]), (2, .pointer (some ⟨b1, 0, none⟩)), (3, .pointer (some ⟨b3, 0, none⟩)), (4, .bool false), (12, .pointer (some ⟨b1, 1, none⟩)), (13, .slice a0_0 x0.Links.length c0_0), (14, .pointer (some ⟨b1, 1, none⟩)), (15, .slice a0_0 x0.Links.length c0_0), (16, .int .i64 (x0.Links.length : Int)), (17, .int .i64 (imin (x0.Links.length : Int) 30)), (18, .slice a5 y7.length c6), (19, .pointer (some ⟨b1, 1, none⟩)), (21, .agg #[.int .i64 x0.Switches, .slice a5 y7.length c6]), (22, .agg #[.int .i64 x1.Switch, .int .i64 x1.Port]), (24, .agg #[.int .i64 y10.1.Switch, .int .i64 y10.1.Port]), (25, .int .i64 y10.2.1), (26, .bool y10.2.2), (5, .pointer (some ⟨b12, 0, none⟩)), (6, .int .i64 y10.2.1), (7, .bool y10.2.2), (28, .agg #[.int .i64 x0.Switches, .slice a5 y7.length c6]), (29, .agg #[.int .i64 x1.Switch, .int .i64 x1.Port]), (31, .agg #[.int .i64 y14.1.Switch, .int .i64 y14.1.Port]), (32, .int .i64 y14.2.1), (33, .bool y14.2.2), (8, .pointer (some ⟨b16, 0, none⟩)), (9, .int .i64 y14.2.1), (10, .bool y14.2.2), (34, .agg #[.int .i64 x0.Switches, .slice a5 y7.length c6]), (35, .pointer (some ⟨b3, 0, none⟩)), (36, .int .i64 x1.Switch), (37, .slice a20 y18.length c21), (11, .slice a20 y18.length c21)]) (by exact ⟨congrArg some hv789, rfl, rfl, rfl, rfl, rfl, rfl, rfl, rfl, rfl, rfl, rfl, rfl, rfl, rfl, rfl, rfl, rfl, rfl, rfl, rfl, rfl, rfl, rfl, rfl, rfl, rfl, rfl, rfl, rfl, rfl, rfl, rfl, rfl, rfl, trivial⟩) ?_
              refine s_own (List.sublist_append_left _ _) ?_
              refine o_asg rfl ?_
              refine s_done ?_
              exact s_retv (xs := [.tmp 4]) (vs := [.bool false]) [] fn_3 rfl ⟨rv_tmp rfl, trivial⟩ (.cons _ (.cons _ (.cons _ (.cons _ (.cons _ .slnil))))) ⟨rfl, rfl⟩
        · refine s_drawL [(fun H v g => v = .agg #[.int .i64 x0.Switches, .slice a5 y7.length c6] ∧ g = [] ∧ RSl H a5 c6 y7),
      (fun H v g => v = .int .i64 y28 ∧ g = []),
      (fun H v g => v = .agg #[.int .i64 x0.Switches, .slice a5 y7.length c6] ∧ g = [] ∧ RSl H a5 c6 y7),
      (fun H v g => v = .int .i64 y31 ∧ g = []),
      (fun H v g => v = .bool (y28 == y31) ∧ g = []),
      (fun H v g => v = .bool (y28 == y31) ∧ g = []),
      (fun H v g => v = .agg #[.int .i64 y10.1.Switch, .int .i64 y10.1.Port] ∧ g = []),
      (fun H v g => v = .agg #[.int .i64 y14.1.Switch, .int .i64 y14.1.Port] ∧ g = []),
      (fun H v g => v = .bool (decide (y10.1 = y14.1)) ∧ g = []),
      (fun H v g => v = .bool (decide (y10.1 = y14.1)) ∧ g = []),
      (fun H v g => v = .bool (decide (y10.1 = y14.1)) ∧ g = []),
      (fun H v g => v = .int .i64 y10.2.1 ∧ g = []),
      (fun H v g => v = .int .i64 y14.2.1 ∧ g = []),
      (fun H v g => v = .bool (y10.2.1 == y14.2.1) ∧ g = []),
      (fun H v g => v = .bool (y10.2.1 == y14.2.1) ∧ g = []),
      (fun H v g => v = .bool (y10.2.1 == y14.2.1) ∧ g = []),
      (fun H v g => v = .bool y10.2.2 ∧ g = []),
      (fun H v g => v = .bool y14.2.2 ∧ g = []),
      (fun H v g => v = .bool (y10.2.2 == y14.2.2) ∧ g = []),
      (fun H v g => v = .bool (y10.2.2 == y14.2.2) ∧ g = []),
      (fun H v g => v = .bool (y10.2.2 == y14.2.2) ∧ g = []),
      (fun H v g => v = undef ∧ g = []),
      (fun H v g => v = undef ∧ g = []),
      (fun H v g => v = undef ∧ g = []),
      (fun H v g => v = undef ∧ g = []),
      (fun H v g => v = undef ∧ g = []),
      (fun H v g => v = undef ∧ g = []),
      (fun H v g => v = .bool false ∧ g = []),
      (fun H v g => v = .bool false ∧ g = []),
      (fun H v g => v = undef ∧ g = []),
      (fun H v g => v = .bool false ∧ g = [])] [[], [], [], [], [], [], [], [], [], [], [], [], [], [], [], [], [], [], [], [], [], [], [], [], [], [], [], [], [], [], []] mixed ⟨fun _ _ _ _ hle ⟨e1, e2, h0_⟩ => ⟨e1, e2, RSl.mono hle h0_⟩, fun _ _ _ _ _ h => h, fun _ _ _ _ hle ⟨e1, e2, h0_⟩ => ⟨e1, e2, RSl.mono hle h0_⟩, fun _ _ _ _ _ h => h, fun _ _ _ _ _ h => h, fun _ _ _ _ _ h => h, fun _ _ _ _ _ h => h, fun _ _ _ _ _ h => h, fun _ _ _ _ _ h => h, fun _ _ _ _ _ h => h, fun _ _ _ _ _ h => h, fun _ _ _ _ _ h => h, fun _ _ _ _ _ h => h, fun _ _ _ _ _ h => h, fun _ _ _ _ _ h => h, fun _ _ _ _ _ h => h, fun _ _ _ _ _ h => h, fun _ _ _ _ _ h => h, fun _ _ _ _ _ h => h, fun _ _ _ _ _ h => h, fun _ _ _ _ _ h => h, fun _ _ _ _ _ h => h, fun _ _ _ _ _ h => h, fun _ _ _ _ _ h => h, fun _ _ _ _ _ h => h, fun _ _ _ _ _ h => h, fun _ _ _ _ _ h => h, fun _ _ _ _ _ h => h, fun _ _ _ _ _ h => h, fun _ _ _ _ _ h => h, fun _ _ _ _ _ h => h, trivial⟩ (by kernel_rfl) (by kernel_rfl) rfl (by kernel_rfl) rfl rfl ?_ ?_
          · refine dcons ?_ ?_
            · intro V793 G794 H795 fr796 hle797 hd798
              have hs800 := RSl.mono hle797 hs26
              refine ⟨_, some (), rfl, fun _ => ?_⟩
              refine s_env (env' := [(2, .pointer (some ⟨b1, 0, none⟩))]) (by exact ⟨rfl, trivial⟩) ?_
              refine o_ld 0 rfl rfl rfl ?_
              exact s_pred fun tm w ht hE hI => ⟨(.agg #[.int .i64 x0.Switches, .slice a5 y7.length c6]), [], _, fun d hd => (by cases hd; exact hE _ _ rfl), .refl _, by exact hI, ⟨rfl, rfl, hs800⟩⟩
            refine dcons ?_ ?_
            · intro V801 G802 H803 fr804 hle805 hd806
              obtain ⟨hv808, hg809, hp810⟩ := hd806 0 (by decide)
              refine ⟨_, (graph_Check k (⟨x0.Switches, y7⟩ : Graph)).bind some, by rw [h30]; rfl, fun _ => ?_⟩
              refine s_env (env' := [(38, .agg #[.int .i64 x0.Switches, .slice a5 y7.length c6])]) (by exact ⟨congrArg some hv808, trivial⟩) ?_
              refine s_bg fun y28 h811 => ?_
              refine s_callF rfl rfl (graph_Check_ok k _ (⟨x0.Switches, y7⟩ : Graph) _ _ hp810 h811) ?_
              obtain rfl := Option.some.inj (h30.symm.trans h811)
              exact s_pred fun tm w ht hE hI => ⟨(.int .i64 y28), [], _, fun d hd => (by cases hd; exact hE _ _ rfl), .refl _, by exact hI, ⟨rfl, rfl⟩⟩
            refine dcons ?_ ?_
            · intro V812 G813 H814 fr815 hle816 hd817
              have hs819 := RSl.mono hle816 hs26
              refine ⟨_, some (), rfl, fun _ => ?_⟩
              refine s_env (env' := [(2, .pointer (some ⟨b1, 0, none⟩))]) (by exact ⟨rfl, trivial⟩) ?_
              refine o_ld 0 rfl rfl rfl ?_
              exact s_pred fun tm w ht hE hI => ⟨(.agg #[.int .i64 x0.Switches, .slice a5 y7.length c6]), [], _, fun d hd => (by cases hd; exact hE _ _ rfl), .refl _, by exact hI, ⟨rfl, rfl, hs819⟩⟩
            refine dcons ?_ ?_
            · intro V820 G821 H822 fr823 hle824 hd825
              obtain ⟨hv827, hg828, hp829⟩ := hd825 2 (by decide)
              refine ⟨_, (catenaryref12_Check k (⟨x0.Switches, y7⟩ : Graph)).bind some, by rw [h33]; rfl, fun _ => ?_⟩
              refine s_env (env' := [(40, .agg #[.int .i64 x0.Switches, .slice a5 y7.length c6])]) (by exact ⟨congrArg some hv827, trivial⟩) ?_
              refine s_bg fun y31 h830 => ?_
              refine s_callF rfl rfl (catenaryref12_Check_ok k _ (⟨x0.Switches, y7⟩ : Graph) _ _ hp829 h830) ?_
              obtain rfl := Option.some.inj (h33.symm.trans h830)
              exact s_pred fun tm w ht hE hI => ⟨(.int .i64 y31), [], _, fun d hd => (by cases hd; exact hE _ _ rfl), .refl _, by exact hI, ⟨rfl, rfl⟩⟩
            refine dcons ?_ ?_
            · intro V831 G832 H833 fr834 hle835 hd836
              obtain ⟨hv838, hg839⟩ := hd836 1 (by decide)
              obtain ⟨hv840, hg841⟩ := hd836 3 (by decide)
              refine ⟨_, some (), rfl, fun _ => ?_⟩
              refine s_env (env' := [(39, .int .i64 y28), (41, .int .i64 y31)]) (by exact ⟨congrArg some hv838, congrArg some hv840, trivial⟩) ?_
              refine o_eq rfl rfl ?_
              exact s_pred fun tm w ht hE hI => ⟨(.bool (y28 == y31)), [], _, fun d hd => (by cases hd; exact hE _ _ rfl), .refl _, by exact hI, ⟨rfl, rfl⟩⟩
            refine dcons ?_ ?_
            · intro V842 G843 H844 fr845 hle846 hd847
              obtain ⟨hv849, hg850⟩ := hd847 4 (by decide)
              refine ⟨_, some (), rfl, fun _ => ?_⟩
              refine s_env (env' := [(42, .bool (y28 == y31))]) (by exact ⟨congrArg some hv849, trivial⟩) ?_
              refine o_mov rfl ?_
              exact s_pred fun tm w ht hE hI => ⟨(.bool (y28 == y31)), [], _, fun d hd => (by cases hd; exact hE _ _ rfl), .refl _, by exact hI, ⟨rfl, rfl⟩⟩
            refine dcons ?_ ?_
            · intro V851 G852 H853 fr854 hle855 hd856
              obtain ⟨hv858, hg859⟩ := hd856 5 (by decide)
              refine ⟨_, some (), rfl, fun _ => ?_⟩
              refine s_env (env' := [(43, .bool (y28 == y31)), (5, .pointer (some ⟨b12, 0, none⟩))]) (by exact ⟨congrArg some hv858, rfl, trivial⟩) ?_
              refine s_want rfl rfl h34 ?_
              refine o_ld 2 rfl rfl rfl ?_
              exact s_pred fun tm w ht hE hI => ⟨(.agg #[.int .i64 y10.1.Switch, .int .i64 y10.1.Port]), [], _, fun d hd => (by cases hd; exact hE _ _ rfl), .refl _, by exact hI, ⟨rfl, rfl⟩⟩
            refine dcons ?_ ?_
            · intro V860 G861 H862 fr863 hle864 hd865
              obtain ⟨hv867, hg868⟩ := hd865 5 (by decide)
              refine ⟨_, some (), rfl, fun _ => ?_⟩
              refine s_env (env' := [(43, .bool (y28 == y31)), (8, .pointer (some ⟨b16, 0, none⟩))]) (by exact ⟨congrArg some hv867, rfl, trivial⟩) ?_
              refine s_want rfl rfl h34 ?_
              refine o_ld 3 rfl rfl rfl ?_
              exact s_pred fun tm w ht hE hI => ⟨(.agg #[.int .i64 y14.1.Switch, .int .i64 y14.1.Port]), [], _, fun d hd => (by cases hd; exact hE _ _ rfl), .refl _, by exact hI, ⟨rfl, rfl⟩⟩
            refine dcons ?_ ?_
            · intro V869 G870 H871 fr872 hle873 hd874
              obtain ⟨hv876, hg877⟩ := hd874 5 (by decide)
              obtain ⟨hv878, hg879⟩ := hd874 6 (by decide)
              obtain ⟨hv880, hg881⟩ := hd874 7 (by decide)
              refine ⟨_, some (), rfl, fun _ => ?_⟩
              refine s_env (env' := [(43, .bool (y28 == y31)), (44, .agg #[.int .i64 y10.1.Switch, .int .i64 y10.1.Port]), (45, .agg #[.int .i64 y14.1.Switch, .int .i64 y14.1.Port])]) (by exact ⟨congrArg some hv876, congrArg some hv878, congrArg some hv880, trivial⟩) ?_
              refine s_want rfl rfl h34 ?_
              refine o_eqS y10.1 y14.1 rfl rfl ?_
              exact s_pred fun tm w ht hE hI => ⟨(.bool (decide (y10.1 = y14.1))), [], _, fun d hd => (by cases hd; exact hE _ _ rfl), .refl _, by exact hI, ⟨rfl, rfl⟩⟩
            refine dcons ?_ ?_
            · intro V882 G883 H884 fr885 hle886 hd887
              obtain ⟨hv889, hg890⟩ := hd887 5 (by decide)
              obtain ⟨hv891, hg892⟩ := hd887 8 (by decide)
              refine ⟨_, some (), rfl, fun _ => ?_⟩
              refine s_env (env' := [(43, .bool (y28 == y31)), (46, .bool (decide (y10.1 = y14.1)))]) (by exact ⟨congrArg some hv889, congrArg some hv891, trivial⟩) ?_
              refine o_pickT rfl h34 rfl ?_
              exact s_pred fun tm w ht hE hI => ⟨(.bool (decide (y10.1 = y14.1))), [], _, fun d hd => (by cases hd; exact hE _ _ rfl), .refl _, by exact hI, ⟨rfl, rfl⟩⟩
            refine dcons ?_ ?_
            · intro V893 G894 H895 fr896 hle897 hd898
              obtain ⟨hv900, hg901⟩ := hd898 9 (by decide)
              refine ⟨_, some (), rfl, fun _ => ?_⟩
              refine s_env (env' := [(47, .bool (decide (y10.1 = y14.1)))]) (by exact ⟨congrArg some hv900, trivial⟩) ?_
              refine o_mov rfl ?_
              exact s_pred fun tm w ht hE hI => ⟨(.bool (decide (y10.1 = y14.1))), [], _, fun d hd => (by cases hd; exact hE _ _ rfl), .refl _, by exact hI, ⟨rfl, rfl⟩⟩
            refine dcons ?_ ?_
            · intro V902 G903 H904 fr905 hle906 hd907
              obtain ⟨hv909, hg910⟩ := hd907 10 (by decide)
              refine ⟨_, some (), rfl, fun _ => ?_⟩
              refine s_env (env' := [(48, .bool (decide (y10.1 = y14.1))), (6, .int .i64 y10.2.1)]) (by exact ⟨congrArg some hv909, rfl, trivial⟩) ?_
              refine s_want rfl rfl h35 ?_
              refine o_mov rfl ?_
              exact s_pred fun tm w ht hE hI => ⟨(.int .i64 y10.2.1), [], _, fun d hd => (by cases hd; exact hE _ _ rfl), .refl _, by exact hI, ⟨rfl, rfl⟩⟩
            refine dcons ?_ ?_
            · intro V911 G912 H913 fr914 hle915 hd916
              obtain ⟨hv918, hg919⟩ := hd916 10 (by decide)
              refine ⟨_, some (), rfl, fun _ => ?_⟩
              refine s_env (env' := [(48, .bool (decide (y10.1 = y14.1))), (9, .int .i64 y14.2.1)]) (by exact ⟨congrArg some hv918, rfl, trivial⟩) ?_
              refine s_want rfl rfl h35 ?_
              refine o_mov rfl ?_
              exact s_pred fun tm w ht hE hI => ⟨(.int .i64 y14.2.1), [], _, fun d hd => (by cases hd; exact hE _ _ rfl), .refl _, by exact hI, ⟨rfl, rfl⟩⟩
            refine dcons ?_ ?_
            · intro V920 G921 H922 fr923 hle924 hd925
              obtain ⟨hv927, hg928⟩ := hd925 10 (by decide)
              obtain ⟨hv929, hg930⟩ := hd925 11 (by decide)
              obtain ⟨hv931, hg932⟩ := hd925 12 (by decide)
              refine ⟨_, some (), rfl, fun _ => ?_⟩
              refine s_env (env' := [(48, .bool (decide (y10.1 = y14.1))), (49, .int .i64 y10.2.1), (50, .int .i64 y14.2.1)]) (by exact ⟨congrArg some hv927, congrArg some hv929, congrArg some hv931, trivial⟩) ?_
              refine s_want rfl rfl h35 ?_
              refine o_eq rfl rfl ?_
              exact s_pred fun tm w ht hE hI => ⟨(.bool (y10.2.1 == y14.2.1)), [], _, fun d hd => (by cases hd; exact hE _ _ rfl), .refl _, by exact hI, ⟨rfl, rfl⟩⟩
            refine dcons ?_ ?_
            · intro V933 G934 H935 fr936 hle937 hd938
              obtain ⟨hv940, hg941⟩ := hd938 10 (by decide)
              obtain ⟨hv942, hg943⟩ := hd938 13 (by decide)
              refine ⟨_, some (), rfl, fun _ => ?_⟩
              refine s_env (env' := [(48, .bool (decide (y10.1 = y14.1))), (51, .bool (y10.2.1 == y14.2.1))]) (by exact ⟨congrArg some hv940, congrArg some hv942, trivial⟩) ?_
              refine o_pickT rfl h35 rfl ?_
              exact s_pred fun tm w ht hE hI => ⟨(.bool (y10.2.1 == y14.2.1)), [], _, fun d hd => (by cases hd; exact hE _ _ rfl), .refl _, by exact hI, ⟨rfl, rfl⟩⟩
            refine dcons ?_ ?_
            · intro V944 G945 H946 fr947 hle948 hd949
              obtain ⟨hv951, hg952⟩ := hd949 14 (by decide)
              refine ⟨_, some (), rfl, fun _ => ?_⟩
              refine s_env (env' := [(52, .bool (y10.2.1 == y14.2.1))]) (by exact ⟨congrArg some hv951, trivial⟩) ?_
              refine o_mov rfl ?_
              exact s_pred fun tm w ht hE hI => ⟨(.bool (y10.2.1 == y14.2.1)), [], _, fun d hd => (by cases hd; exact hE _ _ rfl), .refl _, by exact hI, ⟨rfl, rfl⟩⟩
            refine dcons ?_ ?_
            · intro V953 G954 H955 fr956 hle957 hd958
              obtain ⟨hv960, hg961⟩ := hd958 15 (by decide)
              refine ⟨_, some (), rfl, fun _ => ?_⟩
              refine s_env (env' := [(53, .bool (y10.2.1 == y14.2.1)), (7, .bool y10.2.2)]) (by exact ⟨congrArg some hv960, rfl, trivial⟩) ?_
              refine s_want rfl rfl h36 ?_
              refine o_mov rfl ?_
              exact s_pred fun tm w ht hE hI => ⟨(.bool y10.2.2), [], _, fun d hd => (by cases hd; exact hE _ _ rfl), .refl _, by exact hI, ⟨rfl, rfl⟩⟩
            refine dcons ?_ ?_
            · intro V962 G963 H964 fr965 hle966 hd967
              obtain ⟨hv969, hg970⟩ := hd967 15 (by decide)
              refine ⟨_, some (), rfl, fun _ => ?_⟩
              refine s_env (env' := [(53, .bool (y10.2.1 == y14.2.1)), (10, .bool y14.2.2)]) (by exact ⟨congrArg some hv969, rfl, trivial⟩) ?_
              refine s_want rfl rfl h36 ?_
              refine o_mov rfl ?_
              exact s_pred fun tm w ht hE hI => ⟨(.bool y14.2.2), [], _, fun d hd => (by cases hd; exact hE _ _ rfl), .refl _, by exact hI, ⟨rfl, rfl⟩⟩
            refine dcons ?_ ?_
            · intro V971 G972 H973 fr974 hle975 hd976
              obtain ⟨hv978, hg979⟩ := hd976 15 (by decide)
              obtain ⟨hv980, hg981⟩ := hd976 16 (by decide)
              obtain ⟨hv982, hg983⟩ := hd976 17 (by decide)
              refine ⟨_, some (), rfl, fun _ => ?_⟩
              refine s_env (env' := [(53, .bool (y10.2.1 == y14.2.1)), (54, .bool y10.2.2), (55, .bool y14.2.2)]) (by exact ⟨congrArg some hv978, congrArg some hv980, congrArg some hv982, trivial⟩) ?_
              refine s_want rfl rfl h36 ?_
              refine o_eqb rfl rfl ?_
              exact s_pred fun tm w ht hE hI => ⟨(.bool (y10.2.2 == y14.2.2)), [], _, fun d hd => (by cases hd; exact hE _ _ rfl), .refl _, by exact hI, ⟨rfl, rfl⟩⟩
            refine dcons ?_ ?_
            · intro V984 G985 H986 fr987 hle988 hd989
              obtain ⟨hv991, hg992⟩ := hd989 15 (by decide)
              obtain ⟨hv993, hg994⟩ := hd989 18 (by decide)
              refine ⟨_, some (), rfl, fun _ => ?_⟩
              refine s_env (env' := [(53, .bool (y10.2.1 == y14.2.1)), (56, .bool (y10.2.2 == y14.2.2))]) (by exact ⟨congrArg some hv991, congrArg some hv993, trivial⟩) ?_
              refine o_pickT rfl h36 rfl ?_
              exact s_pred fun tm w ht hE hI => ⟨(.bool (y10.2.2 == y14.2.2)), [], _, fun d hd => (by cases hd; exact hE _ _ rfl), .refl _, by exact hI, ⟨rfl, rfl⟩⟩
            refine dcons ?_ ?_
            · intro V995 G996 H997 fr998 hle999 hd1000
              obtain ⟨hv1002, hg1003⟩ := hd1000 19 (by decide)
              refine ⟨_, some (), rfl, fun _ => ?_⟩
              refine s_env (env' := [(57, .bool (y10.2.2 == y14.2.2))]) (by exact ⟨congrArg some hv1002, trivial⟩) ?_
              refine o_mov rfl ?_
              exact s_pred fun tm w ht hE hI => ⟨(.bool (y10.2.2 == y14.2.2)), [], _, fun d hd => (by cases hd; exact hE _ _ rfl), .refl _, by exact hI, ⟨rfl, rfl⟩⟩
            refine dcons ?_ ?_
            · intro V1004 G1005 H1006 fr1007 hle1008 hd1009
              have hA1011 := All2.mono (fun _ _ => GoT.mono hle1008) hA27
              obtain ⟨hv1012, hg1013⟩ := hd1009 20 (by decide)
              refine ⟨_, some (), rfl, fun _ => ?_⟩
              refine s_env (env' := [(58, .bool (y10.2.2 == y14.2.2)), (11, .slice a20 y18.length c21)]) (by exact ⟨congrArg some hv1012, rfl, trivial⟩) ?_
              refine s_unwant rfl rfl h37 ?_
              exact s_pred fun tm w ht hE hI => ⟨undef, [], _, fun d hd => (by cases hd; exact hE _ _ rfl), .refl _, by exact hI, ⟨rfl, rfl⟩⟩
            refine dcons ?_ ?_
            · intro V1014 G1015 H1016 fr1017 hle1018 hd1019
              have hs1021 := RSl.mono hle1018 hs26
              obtain ⟨hv1022, hg1023⟩ := hd1019 20 (by decide)
              refine ⟨_, some (), rfl, fun _ => ?_⟩
              refine s_env (env' := [(58, .bool (y10.2.2 == y14.2.2)), (2, .pointer (some ⟨b1, 0, none⟩))]) (by exact ⟨congrArg some hv1022, rfl, trivial⟩) ?_
              refine s_unwant rfl rfl h37 ?_
              exact s_pred fun tm w ht hE hI => ⟨undef, [], _, fun d hd => (by cases hd; exact hE _ _ rfl), .refl _, by exact hI, ⟨rfl, rfl⟩⟩
            refine dcons ?_ ?_
            · intro V1024 G1025 H1026 fr1027 hle1028 hd1029
              obtain ⟨hv1031, hg1032⟩ := hd1029 20 (by decide)
              refine ⟨_, some (), rfl, fun _ => ?_⟩
              refine s_env (env' := [(58, .bool (y10.2.2 == y14.2.2)), (3, .pointer (some ⟨b3, 0, none⟩))]) (by exact ⟨congrArg some hv1031, rfl, trivial⟩) ?_
              refine s_unwant rfl rfl h37 ?_
              exact s_pred fun tm w ht hE hI => ⟨undef, [], _, fun d hd => (by cases hd; exact hE _ _ rfl), .refl _, by exact hI, ⟨rfl, rfl⟩⟩
            refine dcons ?_ ?_
            · intro V1033 G1034 H1035 fr1036 hle1037 hd1038
              obtain ⟨hv1040, hg1041⟩ := hd1038 20 (by decide)
              obtain ⟨hv1042, hg1043⟩ := hd1038 23 (by decide)
              refine ⟨_, some (), rfl, fun _ => ?_⟩
              refine s_env (env' := [(58, .bool (y10.2.2 == y14.2.2)), (61, undef)]) (by exact ⟨congrArg some hv1040, congrArg some hv1042, trivial⟩) ?_
              refine s_unwant rfl rfl h37 ?_
              exact s_pred fun tm w ht hE hI => ⟨undef, [], _, fun d hd => (by cases hd; exact hE _ _ rfl), .refl _, by exact hI, ⟨rfl, rfl⟩⟩
            refine dcons ?_ ?_
            · intro V1044 G1045 H1046 fr1047 hle1048 hd1049
              obtain ⟨hv1051, hg1052⟩ := hd1049 20 (by decide)
              obtain ⟨hv1053, hg1054⟩ := hd1049 22 (by decide)
              obtain ⟨hv1055, hg1056⟩ := hd1049 24 (by decide)
              refine ⟨_, some (), rfl, fun _ => ?_⟩
              refine s_env (env' := [(58, .bool (y10.2.2 == y14.2.2)), (60, undef), (62, undef)]) (by exact ⟨congrArg some hv1051, congrArg some hv1053, congrArg some hv1055, trivial⟩) ?_
              refine s_unwant rfl rfl h37 ?_
              exact s_pred fun tm w ht hE hI => ⟨undef, [], _, fun d hd => (by cases hd; exact hE _ _ rfl), .refl _, by exact hI, ⟨rfl, rfl⟩⟩
            refine dcons ?_ ?_
            · intro V1057 G1058 H1059 fr1060 hle1061 hd1062
              obtain ⟨hv1064, hg1065⟩ := hd1062 20 (by decide)
              obtain ⟨hv1066, hg1067⟩ := hd1062 21 (by decide)
              obtain ⟨hv1068, hg1069⟩ := hd1062 25 (by decide)
              refine ⟨_, some (), rfl, fun _ => ?_⟩
              refine s_env (env' := [(58, .bool (y10.2.2 == y14.2.2)), (59, undef), (63, undef)]) (by exact ⟨congrArg some hv1064, congrArg some hv1066, congrArg some hv1068, trivial⟩) ?_
              refine s_unwant rfl rfl h37 ?_
              exact s_pred fun tm w ht hE hI => ⟨undef, [], _, fun d hd => (by cases hd; exact hE _ _ rfl), .refl _, by exact hI, ⟨rfl, rfl⟩⟩
            refine dcons ?_ ?_
            · intro V1070 G1071 H1072 fr1073 hle1074 hd1075
              obtain ⟨hv1077, hg1078⟩ := hd1075 20 (by decide)
              obtain ⟨hv1079, hg1080⟩ := hd1075 26 (by decide)
              refine ⟨_, some (), rfl, fun _ => ?_⟩
              refine s_env (env' := [(58, .bool (y10.2.2 == y14.2.2)), (64, undef)]) (by exact ⟨congrArg some hv1077, congrArg some hv1079, trivial⟩) ?_
              refine o_pickF rfl h37 rfl ?_
              exact s_pred fun tm w ht hE hI => ⟨(.bool false), [], _, fun d hd => (by cases hd; exact hE _ _ rfl), .refl _, by exact hI, ⟨rfl, rfl⟩⟩
            refine dcons ?_ ?_
            · intro V1081 G1082 H1083 fr1084 hle1085 hd1086
              obtain ⟨hv1088, hg1089⟩ := hd1086 27 (by decide)
              refine ⟨_, some (), rfl, fun _ => ?_⟩
              refine s_env (env' := [(65, .bool false)]) (by exact ⟨congrArg some hv1088, trivial⟩) ?_
              refine o_mov rfl ?_
              exact s_pred fun tm w ht hE hI => ⟨(.bool false), [], _, fun d hd => (by cases hd; exact hE _ _ rfl), .refl _, by exact hI, ⟨rfl, rfl⟩⟩
            refine dcons ?_ ?_
            · intro V1090 G1091 H1092 fr1093 hle1094 hd1095
              obtain ⟨hv1097, hg1098⟩ := hd1095 28 (by decide)
              refine ⟨_, some (), rfl, fun _ => ?_⟩
              refine s_env (env' := [(66, .bool false)]) (by exact ⟨congrArg some hv1097, trivial⟩) ?_
              refine s_unwant rfl rfl rfl ?_
              exact s_pred fun tm w ht hE hI => ⟨undef, [], _, fun d hd => (by cases hd; exact hE _ _ rfl), .refl _, by exact hI, ⟨rfl, rfl⟩⟩
            refine dcons ?_ ?_
            · intro V1099 G1100 H1101 fr1102 hle1103 hd1104
              obtain ⟨hv1106, hg1107⟩ := hd1104 28 (by decide)
              obtain ⟨hv1108, hg1109⟩ := hd1104 29 (by decide)
              refine ⟨_, some (), rfl, fun _ => ?_⟩
              refine s_env (env' := [(66, .bool false), (67, undef)]) (by exact ⟨congrArg some hv1106, congrArg some hv1108, trivial⟩) ?_
              refine o_pickF rfl rfl rfl ?_
              exact s_pred fun tm w ht hE hI => ⟨(.bool false), [], _, fun d hd => (by cases hd; exact hE _ _ rfl), .refl _, by exact hI, ⟨rfl, rfl⟩⟩
            exact dnil
          · intro V1112 G1113 H1110 hle1111 hF1114
            have hs1115 := RSl.mono hle1111 hs25
            have hs1116 := RSl.mono hle1111 hs26
            have hA1117 := All2.mono (fun _ _ => GoT.mono hle1111) hA27
            obtain ⟨hv1118, hg1119⟩ := hF1114 30 (show 30 < 31 by decide)
            refine s_env (env' := [(68, .bool false), (0, .agg #[.int .i64 x0.Switches, .slice a0_0 x0.Links.length c0_0]), (1, .agg #[.int .i64 x1.Switch, .int .i64 x1.Port]), (2, .pointer (some ⟨b1, 0, none⟩)), (3, .pointer (some ⟨b3, 0, none⟩)), (4, .bool false), (12, .pointer (some ⟨b1, 1, none⟩)), (13, .slice a0_0 x0.Links.length c0_0), (14, .pointer (some ⟨b1, 1, none⟩)), (15, .slice a0_0 x0.Links.length c0_0), (16, .int .i64 (x0.Links.length : Int)), (17, .int .i64 (imin (x0.Links.length : Int) 30)), (18, .slice a5 y7.length c6), (19, .pointer (some ⟨b1, 1, none⟩)), (21, .agg #[.int .i64 x0.Switches, .slice a5 y7.length c6]), (22, .agg #[.int .i64 x1.Switch, .int .i64 x1.Port]), (24, .agg #[.int .i64 y10.1.Switch, .int .i64 y10.1.Port]), (25, .int .i64 y10.2.1), (26, .bool y10.2.2), (5, .pointer (some ⟨b12, 0, none⟩)), (6, .int .i64 y10.2.1), (7, .bool y10.2.2), (28, .agg #[.int .i64 x0.Switches, .slice a5 y7.length c6]), (29, .agg #[.int .i64 x1.Switch, .int .i64 x1.Port]), (31, .agg #[.int .i64 y14.1.Switch, .int .i64 y14.1.Port]), (32, .int .i64 y14.2.1), (33, .bool y14.2.2), (8, .pointer (some ⟨b16, 0, none⟩)), (9, .int .i64 y14.2.1), (10, .bool y14.2.2), (34, .agg #[.int .i64 x0.Switches, .slice a5 y7.length c6]), (35, .pointer (some ⟨b3, 0, none⟩)), (36, .int .i64 x1.Switch), (37, .slice a20 y18.length c21), (11, .slice a20 y18.length c21)]) (by exact ⟨congrArg some hv1118, rfl, rfl, rfl, rfl, rfl, rfl, rfl, rfl, rfl, rfl, rfl, rfl, rfl, rfl, rfl, rfl, rfl, rfl, rfl, rfl, rfl, rfl, rfl, rfl, rfl, rfl, rfl, rfl, rfl, rfl, rfl, rfl, rfl, rfl, trivial⟩) ?_
            refine s_own (List.sublist_append_left _ _) ?_
            refine o_asg rfl ?_
            refine s_done ?_
            exact s_retv (xs := [.tmp 4]) (vs := [.bool false]) [] fn_3 rfl ⟨rv_tmp rfl, trivial⟩ (.cons _ (.cons _ (.cons _ (.cons _ (.cons _ .slnil))))) ⟨rfl, rfl⟩
      · refine s_drawL [(fun H v g => v = .agg #[.int .i64 x0.Switches, .slice a5 y7.length c6] ∧ g = [] ∧ RSl H a5 c6 y7),
      (fun H v g => v = .int .i64 y28 ∧ g = []),
      (fun H v g => v = .agg #[.int .i64 x0.Switches, .slice a5 y7.length c6] ∧ g = [] ∧ RSl H a5 c6 y7),
      (fun H v g => v = .int .i64 y31 ∧ g = []),
      (fun H v g => v = .bool (y28 == y31) ∧ g = []),
      (fun H v g => v = .bool (y28 == y31) ∧ g = []),
      (fun H v g => v = .agg #[.int .i64 y10.1.Switch, .int .i64 y10.1.Port] ∧ g = []),
      (fun H v g => v = .agg #[.int .i64 y14.1.Switch, .int .i64 y14.1.Port] ∧ g = []),
      (fun H v g => v = .bool (decide (y10.1 = y14.1)) ∧ g = []),
      (fun H v g => v = .bool (decide (y10.1 = y14.1)) ∧ g = []),
      (fun H v g => v = .bool (decide (y10.1 = y14.1)) ∧ g = []),
      (fun H v g => v = .int .i64 y10.2.1 ∧ g = []),
      (fun H v g => v = .int .i64 y14.2.1 ∧ g = []),
      (fun H v g => v = .bool (y10.2.1 == y14.2.1) ∧ g = []),
      (fun H v g => v = .bool (y10.2.1 == y14.2.1) ∧ g = []),
      (fun H v g => v = .bool (y10.2.1 == y14.2.1) ∧ g = []),
      (fun H v g => v = undef ∧ g = []),
      (fun H v g => v = undef ∧ g = []),
      (fun H v g => v = undef ∧ g = []),
      (fun H v g => v = .bool false ∧ g = []),
      (fun H v g => v = .bool false ∧ g = []),
      (fun H v g => v = undef ∧ g = []),
      (fun H v g => v = undef ∧ g = []),
      (fun H v g => v = undef ∧ g = []),
      (fun H v g => v = undef ∧ g = []),
      (fun H v g => v = undef ∧ g = []),
      (fun H v g => v = undef ∧ g = []),
      (fun H v g => v = .bool false ∧ g = []),
      (fun H v g => v = .bool false ∧ g = []),
      (fun H v g => v = undef ∧ g = []),
      (fun H v g => v = .bool false ∧ g = [])] [[], [], [], [], [], [], [], [], [], [], [], [], [], [], [], [], [], [], [], [], [], [], [], [], [], [], [], [], [], [], []] mixed ⟨fun _ _ _ _ hle ⟨e1, e2, h0_⟩ => ⟨e1, e2, RSl.mono hle h0_⟩, fun _ _ _ _ _ h => h, fun _ _ _ _ hle ⟨e1, e2, h0_⟩ => ⟨e1, e2, RSl.mono hle h0_⟩, fun _ _ _ _ _ h => h, fun _ _ _ _ _ h => h, fun _ _ _ _ _ h => h, fun _ _ _ _ _ h => h, fun _ _ _ _ _ h => h, fun _ _ _ _ _ h => h, fun _ _ _ _ _ h => h, fun _ _ _ _ _ h => h, fun _ _ _ _ _ h => h, fun _ _ _ _ _ h => h, fun _ _ _ _ _ h => h, fun _ _ _ _ _ h => h, fun _ _ _ _ _ h => h, fun _ _ _ _ _ h => h, fun _ _ _ _ _ h => h, fun _ _ _ _ _ h => h, fun _ _ _ _ _ h => h, fun _ _ _ _ _ h => h, fun _ _ _ _ _ h => h, fun _ _ _ _ _ h => h, fun _ _ _ _ _ h => h, fun _ _ _ _ _ h => h, fun _ _ _ _ _ h => h, fun _ _ _ _ _ h => h, fun _ _ _ _ _ h => h, fun _ _ _ _ _ h => h, fun _ _ _ _ _ h => h, fun _ _ _ _ _ h => h, trivial⟩ (by kernel_rfl) (by kernel_rfl) rfl (by kernel_rfl) rfl rfl ?_ ?_
        · refine dcons ?_ ?_
          · intro V1122 G1123 H1124 fr1125 hle1126 hd1127
            have hs1129 := RSl.mono hle1126 hs26
            refine ⟨_, some (), rfl, fun _ => ?_⟩
            refine s_env (env' := [(2, .pointer (some ⟨b1, 0, none⟩))]) (by exact ⟨rfl, trivial⟩) ?_
            refine o_ld 0 rfl rfl rfl ?_
            exact s_pred fun tm w ht hE hI => ⟨(.agg #[.int .i64 x0.Switches, .slice a5 y7.length c6]), [], _, fun d hd => (by cases hd; exact hE _ _ rfl), .refl _, by exact hI, ⟨rfl, rfl, hs1129⟩⟩
          refine dcons ?_ ?_
          · intro V1130 G1131 H1132 fr1133 hle1134 hd1135
            obtain ⟨hv1137, hg1138, hp1139⟩ := hd1135 0 (by decide)
            refine ⟨_, (graph_Check k (⟨x0.Switches, y7⟩ : Graph)).bind some, by rw [h30]; rfl, fun _ => ?_⟩
            refine s_env (env' := [(38, .agg #[.int .i64 x0.Switches, .slice a5 y7.length c6])]) (by exact ⟨congrArg some hv1137, trivial⟩) ?_
            refine s_bg fun y28 h1140 => ?_
            refine s_callF rfl rfl (graph_Check_ok k _ (⟨x0.Switches, y7⟩ : Graph) _ _ hp1139 h1140) ?_
            obtain rfl := Option.some.inj (h30.symm.trans h1140)
            exact s_pred fun tm w ht hE hI => ⟨(.int .i64 y28), [], _, fun d hd => (by cases hd; exact hE _ _ rfl), .refl _, by exact hI, ⟨rfl, rfl⟩⟩
          refine dcons ?_ ?_
          · intro V1141 G1142 H1143 fr1144 hle1145 hd1146
            have hs1148 := RSl.mono hle1145 hs26
            refine ⟨_, some (), rfl, fun _ => ?_⟩
            refine s_env (env' := [(2, .pointer (some ⟨b1, 0, none⟩))]) (by exact ⟨rfl, trivial⟩) ?_
            refine o_ld 0 rfl rfl rfl ?_
            exact s_pred fun tm w ht hE hI => ⟨(.agg #[.int .i64 x0.Switches, .slice a5 y7.length c6]), [], _, fun d hd => (by cases hd; exact hE _ _ rfl), .refl _, by exact hI, ⟨rfl, rfl, hs1148⟩⟩
          refine dcons ?_ ?_
          · intro V1149 G1150 H1151 fr1152 hle1153 hd1154
            obtain ⟨hv1156, hg1157, hp1158⟩ := hd1154 2 (by decide)
            refine ⟨_, (catenaryref12_Check k (⟨x0.Switches, y7⟩ : Graph)).bind some, by rw [h33]; rfl, fun _ => ?_⟩
            refine s_env (env' := [(40, .agg #[.int .i64 x0.Switches, .slice a5 y7.length c6])]) (by exact ⟨congrArg some hv1156, trivial⟩) ?_
            refine s_bg fun y31 h1159 => ?_
            refine s_callF rfl rfl (catenaryref12_Check_ok k _ (⟨x0.Switches, y7⟩ : Graph) _ _ hp1158 h1159) ?_
            obtain rfl := Option.some.inj (h33.symm.trans h1159)
            exact s_pred fun tm w ht hE hI => ⟨(.int .i64 y31), [], _, fun d hd => (by cases hd; exact hE _ _ rfl), .refl _, by exact hI, ⟨rfl, rfl⟩⟩
          refine dcons ?_ ?_
          · intro V1160 G1161 H1162 fr1163 hle1164 hd1165
            obtain ⟨hv1167, hg1168⟩ := hd1165 1 (by decide)
            obtain ⟨hv1169, hg1170⟩ := hd1165 3 (by decide)
            refine ⟨_, some (), rfl, fun _ => ?_⟩
            refine s_env (env' := [(39, .int .i64 y28), (41, .int .i64 y31)]) (by exact ⟨congrArg some hv1167, congrArg some hv1169, trivial⟩) ?_
            refine o_eq rfl rfl ?_
            exact s_pred fun tm w ht hE hI => ⟨(.bool (y28 == y31)), [], _, fun d hd => (by cases hd; exact hE _ _ rfl), .refl _, by exact hI, ⟨rfl, rfl⟩⟩
          refine dcons ?_ ?_
          · intro V1171 G1172 H1173 fr1174 hle1175 hd1176
            obtain ⟨hv1178, hg1179⟩ := hd1176 4 (by decide)
            refine ⟨_, some (), rfl, fun _ => ?_⟩
            refine s_env (env' := [(42, .bool (y28 == y31))]) (by exact ⟨congrArg some hv1178, trivial⟩) ?_
            refine o_mov rfl ?_
            exact s_pred fun tm w ht hE hI => ⟨(.bool (y28 == y31)), [], _, fun d hd => (by cases hd; exact hE _ _ rfl), .refl _, by exact hI, ⟨rfl, rfl⟩⟩
          refine dcons ?_ ?_
          · intro V1180 G1181 H1182 fr1183 hle1184 hd1185
            obtain ⟨hv1187, hg1188⟩ := hd1185 5 (by decide)
            refine ⟨_, some (), rfl, fun _ => ?_⟩
            refine s_env (env' := [(43, .bool (y28 == y31)), (5, .pointer (some ⟨b12, 0, none⟩))]) (by exact ⟨congrArg some hv1187, rfl, trivial⟩) ?_
            refine s_want rfl rfl h34 ?_
            refine o_ld 2 rfl rfl rfl ?_
            exact s_pred fun tm w ht hE hI => ⟨(.agg #[.int .i64 y10.1.Switch, .int .i64 y10.1.Port]), [], _, fun d hd => (by cases hd; exact hE _ _ rfl), .refl _, by exact hI, ⟨rfl, rfl⟩⟩
          refine dcons ?_ ?_
          · intro V1189 G1190 H1191 fr1192 hle1193 hd1194
            obtain ⟨hv1196, hg1197⟩ := hd1194 5 (by decide)
            refine ⟨_, some (), rfl, fun _ => ?_⟩
            refine s_env (env' := [(43, .bool (y28 == y31)), (8, .pointer (some ⟨b16, 0, none⟩))]) (by exact ⟨congrArg some hv1196, rfl, trivial⟩) ?_
            refine s_want rfl rfl h34 ?_
            refine o_ld 3 rfl rfl rfl ?_
            exact s_pred fun tm w ht hE hI => ⟨(.agg #[.int .i64 y14.1.Switch, .int .i64 y14.1.Port]), [], _, fun d hd => (by cases hd; exact hE _ _ rfl), .refl _, by exact hI, ⟨rfl, rfl⟩⟩
          refine dcons ?_ ?_
          · intro V1198 G1199 H1200 fr1201 hle1202 hd1203
            obtain ⟨hv1205, hg1206⟩ := hd1203 5 (by decide)
            obtain ⟨hv1207, hg1208⟩ := hd1203 6 (by decide)
            obtain ⟨hv1209, hg1210⟩ := hd1203 7 (by decide)
            refine ⟨_, some (), rfl, fun _ => ?_⟩
            refine s_env (env' := [(43, .bool (y28 == y31)), (44, .agg #[.int .i64 y10.1.Switch, .int .i64 y10.1.Port]), (45, .agg #[.int .i64 y14.1.Switch, .int .i64 y14.1.Port])]) (by exact ⟨congrArg some hv1205, congrArg some hv1207, congrArg some hv1209, trivial⟩) ?_
            refine s_want rfl rfl h34 ?_
            refine o_eqS y10.1 y14.1 rfl rfl ?_
            exact s_pred fun tm w ht hE hI => ⟨(.bool (decide (y10.1 = y14.1))), [], _, fun d hd => (by cases hd; exact hE _ _ rfl), .refl _, by exact hI, ⟨rfl, rfl⟩⟩
          refine dcons ?_ ?_
          · intro V1211 G1212 H1213 fr1214 hle1215 hd1216
            obtain ⟨hv1218, hg1219⟩ := hd1216 5 (by decide)
            obtain ⟨hv1220, hg1221⟩ := hd1216 8 (by decide)
            refine ⟨_, some (), rfl, fun _ => ?_⟩
            refine s_env (env' := [(43, .bool (y28 == y31)), (46, .bool (decide (y10.1 = y14.1)))]) (by exact ⟨congrArg some hv1218, congrArg some hv1220, trivial⟩) ?_
            refine o_pickT rfl h34 rfl ?_
            exact s_pred fun tm w ht hE hI => ⟨(.bool (decide (y10.1 = y14.1))), [], _, fun d hd => (by cases hd; exact hE _ _ rfl), .refl _, by exact hI, ⟨rfl, rfl⟩⟩
          refine dcons ?_ ?_
          · intro V1222 G1223 H1224 fr1225 hle1226 hd1227
            obtain ⟨hv1229, hg1230⟩ := hd1227 9 (by decide)
            refine ⟨_, some (), rfl, fun _ => ?_⟩
            refine s_env (env' := [(47, .bool (decide (y10.1 = y14.1)))]) (by exact ⟨congrArg some hv1229, trivial⟩) ?_
            refine o_mov rfl ?_
            exact s_pred fun tm w ht hE hI => ⟨(.bool (decide (y10.1 = y14.1))), [], _, fun d hd => (by cases hd; exact hE _ _ rfl), .refl _, by exact hI, ⟨rfl, rfl⟩⟩
          refine dcons ?_ ?_
          · intro V1231 G1232 H1233 fr1234 hle1235 hd1236
            obtain ⟨hv1238, hg1239⟩ := hd1236 10 (by decide)
            refine ⟨_, some (), rfl, fun _ => ?_⟩
            refine s_env (env' := [(48, .bool (decide (y10.1 = y14.1))), (6, .int .i64 y10.2.1)]) (by exact ⟨congrArg some hv1238, rfl, trivial⟩) ?_
            refine s_want rfl rfl h35 ?_
            refine o_mov rfl ?_
            exact s_pred fun tm w ht hE hI => ⟨(.int .i64 y10.2.1), [], _, fun d hd => (by cases hd; exact hE _ _ rfl), .refl _, by exact hI, ⟨rfl, rfl⟩⟩
          refine dcons ?_ ?_
          · intro V1240 G1241 H1242 fr1243 hle1244 hd1245
            obtain ⟨hv1247, hg1248⟩ := hd1245 10 (by decide)
            refine ⟨_, some (), rfl, fun _ => ?_⟩
            refine s_env (env' := [(48, .bool (decide (y10.1 = y14.1))), (9, .int .i64 y14.2.1)]) (by exact ⟨congrArg some hv1247, rfl, trivial⟩) ?_
            refine s_want rfl rfl h35 ?_
            refine o_mov rfl ?_
            exact s_pred fun tm w ht hE hI => ⟨(.int .i64 y14.2.1), [], _, fun d hd => (by cases hd; exact hE _ _ rfl), .refl _, by exact hI, ⟨rfl, rfl⟩⟩
          refine dcons ?_ ?_
          · intro V1249 G1250 H1251 fr1252 hle1253 hd1254
            obtain ⟨hv1256, hg1257⟩ := hd1254 10 (by decide)
            obtain ⟨hv1258, hg1259⟩ := hd1254 11 (by decide)
            obtain ⟨hv1260, hg1261⟩ := hd1254 12 (by decide)
            refine ⟨_, some (), rfl, fun _ => ?_⟩
            refine s_env (env' := [(48, .bool (decide (y10.1 = y14.1))), (49, .int .i64 y10.2.1), (50, .int .i64 y14.2.1)]) (by exact ⟨congrArg some hv1256, congrArg some hv1258, congrArg some hv1260, trivial⟩) ?_
            refine s_want rfl rfl h35 ?_
            refine o_eq rfl rfl ?_
            exact s_pred fun tm w ht hE hI => ⟨(.bool (y10.2.1 == y14.2.1)), [], _, fun d hd => (by cases hd; exact hE _ _ rfl), .refl _, by exact hI, ⟨rfl, rfl⟩⟩
          refine dcons ?_ ?_
          · intro V1262 G1263 H1264 fr1265 hle1266 hd1267
            obtain ⟨hv1269, hg1270⟩ := hd1267 10 (by decide)
            obtain ⟨hv1271, hg1272⟩ := hd1267 13 (by decide)
            refine ⟨_, some (), rfl, fun _ => ?_⟩
            refine s_env (env' := [(48, .bool (decide (y10.1 = y14.1))), (51, .bool (y10.2.1 == y14.2.1))]) (by exact ⟨congrArg some hv1269, congrArg some hv1271, trivial⟩) ?_
            refine o_pickT rfl h35 rfl ?_
            exact s_pred fun tm w ht hE hI => ⟨(.bool (y10.2.1 == y14.2.1)), [], _, fun d hd => (by cases hd; exact hE _ _ rfl), .refl _, by exact hI, ⟨rfl, rfl⟩⟩
          refine dcons ?_ ?_
          · intro V1273 G1274 H1275 fr1276 hle1277 hd1278
            obtain ⟨hv1280, hg1281⟩ := hd1278 14 (by decide)
            refine ⟨_, some (), rfl, fun _ => ?_⟩
            refine s_env (env' := [(52, .bool (y10.2.1 == y14.2.1))]) (by exact ⟨congrArg some hv1280, trivial⟩) ?_
            refine o_mov rfl ?_
            exact s_pred fun tm w ht hE hI => ⟨(.bool (y10.2.1 == y14.2.1)), [], _, fun d hd => (by cases hd; exact hE _ _ rfl), .refl _, by exact hI, ⟨rfl, rfl⟩⟩
          refine dcons ?_ ?_
          · intro V1282 G1283 H1284 fr1285 hle1286 hd1287
            obtain ⟨hv1289, hg1290⟩ := hd1287 15 (by decide)
            refine ⟨_, some (), rfl, fun _ => ?_⟩
            refine s_env (env' := [(53, .bool (y10.2.1 == y14.2.1)), (7, .bool y10.2.2)]) (by exact ⟨congrArg some hv1289, rfl, trivial⟩) ?_
            refine s_unwant rfl rfl h36 ?_
            exact s_pred fun tm w ht hE hI => ⟨undef, [], _, fun d hd => (by cases hd; exact hE _ _ rfl), .refl _, by exact hI, ⟨rfl, rfl⟩⟩
          refine dcons ?_ ?_
          · intro V1291 G1292 H1293 fr1294 hle1295 hd1296
            obtain ⟨hv1298, hg1299⟩ := hd1296 15 (by decide)
            refine ⟨_, some (), rfl, fun _ => ?_⟩
            refine s_env (env' := [(53, .bool (y10.2.1 == y14.2.1)), (10, .bool y14.2.2)]) (by exact ⟨congrArg some hv1298, rfl, trivial⟩) ?_
            refine s_unwant rfl rfl h36 ?_
            exact s_pred fun tm w ht hE hI => ⟨undef, [], _, fun d hd => (by cases hd; exact hE _ _ rfl), .refl _, by exact hI, ⟨rfl, rfl⟩⟩
          refine dcons ?_ ?_
          · intro V1300 G1301 H1302 fr1303 hle1304 hd1305
            obtain ⟨hv1307, hg1308⟩ := hd1305 15 (by decide)
            obtain ⟨hv1309, hg1310⟩ := hd1305 16 (by decide)
            obtain ⟨hv1311, hg1312⟩ := hd1305 17 (by decide)
            refine ⟨_, some (), rfl, fun _ => ?_⟩
            refine s_env (env' := [(53, .bool (y10.2.1 == y14.2.1)), (54, undef), (55, undef)]) (by exact ⟨congrArg some hv1307, congrArg some hv1309, congrArg some hv1311, trivial⟩) ?_
            refine s_unwant rfl rfl h36 ?_
            exact s_pred fun tm w ht hE hI => ⟨undef, [], _, fun d hd => (by cases hd; exact hE _ _ rfl), .refl _, by exact hI, ⟨rfl, rfl⟩⟩
          refine dcons ?_ ?_
          · intro V1313 G1314 H1315 fr1316 hle1317 hd1318
            obtain ⟨hv1320, hg1321⟩ := hd1318 15 (by decide)
            obtain ⟨hv1322, hg1323⟩ := hd1318 18 (by decide)
            refine ⟨_, some (), rfl, fun _ => ?_⟩
            refine s_env (env' := [(53, .bool (y10.2.1 == y14.2.1)), (56, undef)]) (by exact ⟨congrArg some hv1320, congrArg some hv1322, trivial⟩) ?_
            refine o_pickF rfl h36 rfl ?_
            exact s_pred fun tm w ht hE hI => ⟨(.bool false), [], _, fun d hd => (by cases hd; exact hE _ _ rfl), .refl _, by exact hI, ⟨rfl, rfl⟩⟩
          refine dcons ?_ ?_
          · intro V1324 G1325 H1326 fr1327 hle1328 hd1329
            obtain ⟨hv1331, hg1332⟩ := hd1329 19 (by decide)
            refine ⟨_, some (), rfl, fun _ => ?_⟩
            refine s_env (env' := [(57, .bool false)]) (by exact ⟨congrArg some hv1331, trivial⟩) ?_
            refine o_mov rfl ?_
            exact s_pred fun tm w ht hE hI => ⟨(.bool false), [], _, fun d hd => (by cases hd; exact hE _ _ rfl), .refl _, by exact hI, ⟨rfl, rfl⟩⟩
          refine dcons ?_ ?_
          · intro V1333 G1334 H1335 fr1336 hle1337 hd1338
            have hA1340 := All2.mono (fun _ _ => GoT.mono hle1337) hA27
            obtain ⟨hv1341, hg1342⟩ := hd1338 20 (by decide)
            refine ⟨_, some (), rfl, fun _ => ?_⟩
            refine s_env (env' := [(58, .bool false), (11, .slice a20 y18.length c21)]) (by exact ⟨congrArg some hv1341, rfl, trivial⟩) ?_
            refine s_unwant rfl rfl rfl ?_
            exact s_pred fun tm w ht hE hI => ⟨undef, [], _, fun d hd => (by cases hd; exact hE _ _ rfl), .refl _, by exact hI, ⟨rfl, rfl⟩⟩
          refine dcons ?_ ?_
          · intro V1343 G1344 H1345 fr1346 hle1347 hd1348
            have hs1350 := RSl.mono hle1347 hs26
            obtain ⟨hv1351, hg1352⟩ := hd1348 20 (by decide)
            refine ⟨_, some (), rfl, fun _ => ?_⟩
            refine s_env (env' := [(58, .bool false), (2, .pointer (some ⟨b1, 0, none⟩))]) (by exact ⟨congrArg some hv1351, rfl, trivial⟩) ?_
            refine s_unwant rfl rfl rfl ?_
            exact s_pred fun tm w ht hE hI => ⟨undef, [], _, fun d hd => (by cases hd; exact hE _ _ rfl), .refl _, by exact hI, ⟨rfl, rfl⟩⟩
          refine dcons ?_ ?_
          · intro V1353 G1354 H1355 fr1356 hle1357 hd1358
            obtain ⟨hv1360, hg1361⟩ := hd1358 20 (by decide)
            refine ⟨_, some (), rfl, fun _ => ?_⟩
            refine s_env (env' := [(58, .bool false), (3, .pointer (some ⟨b3, 0, none⟩))]) (by exact ⟨congrArg some hv1360, rfl, trivial⟩) ?_
            refine s_unwant rfl rfl rfl ?_
            exact s_pred fun tm w ht hE hI => ⟨undef, [], _, fun d hd => (by cases hd; exact hE _ _ rfl), .refl _, by exact hI, ⟨rfl, rfl⟩⟩
          refine dcons ?_ ?_
          · intro V1362 G1363 H1364 fr1365 hle1366 hd1367
            obtain ⟨hv1369, hg1370⟩ := hd1367 20 (by decide)
            obtain ⟨hv1371, hg1372⟩ := hd1367 23 (by decide)
            refine ⟨_, some (), rfl, fun _ => ?_⟩
            refine s_env (env' := [(58, .bool false), (61, undef)]) (by exact ⟨congrArg some hv1369, congrArg some hv1371, trivial⟩) ?_
            refine s_unwant rfl rfl rfl ?_
            exact s_pred fun tm w ht hE hI => ⟨undef, [], _, fun d hd => (by cases hd; exact hE _ _ rfl), .refl _, by exact hI, ⟨rfl, rfl⟩⟩
          refine dcons ?_ ?_
          · intro V1373 G1374 H1375 fr1376 hle1377 hd1378
            obtain ⟨hv1380, hg1381⟩ := hd1378 20 (by decide)
            obtain ⟨hv1382, hg1383⟩ := hd1378 22 (by decide)
            obtain ⟨hv1384, hg1385⟩ := hd1378 24 (by decide)
            refine ⟨_, some (), rfl, fun _ => ?_⟩
            refine s_env (env' := [(58, .bool false), (60, undef), (62, undef)]) (by exact ⟨congrArg some hv1380, congrArg some hv1382, congrArg some hv1384, trivial⟩) ?_
            refine s_unwant rfl rfl rfl ?_
            exact s_pred fun tm w ht hE hI => ⟨undef, [], _, fun d hd => (by cases hd; exact hE _ _ rfl), .refl _, by exact hI, ⟨rfl, rfl⟩⟩
          refine dcons ?_ ?_
          · intro V1386 G1387 H1388 fr1389 hle1390 hd1391
            obtain ⟨hv1393, hg1394⟩ := hd1391 20 (by decide)
            obtain ⟨hv1395, hg1396⟩ := hd1391 21 (by decide)
            obtain ⟨hv1397, hg1398⟩ := hd1391 25 (by decide)
            refine ⟨_, some (), rfl, fun _ => ?_⟩
            refine s_env (env' := [(58, .bool false), (59, undef), (63, undef)]) (by exact ⟨congrArg some hv1393, congrArg some hv1395, congrArg some hv1397, trivial⟩) ?_
            refine s_unwant rfl rfl rfl ?_
            exact s_pred fun tm w ht hE hI => ⟨undef, [], _, fun d hd => (by cases hd; exact hE _ _ rfl), .refl _, by exact hI, ⟨rfl, rfl⟩⟩
          refine dcons ?_ ?_
          · intro V1399 G1400 H1401 fr1402 hle1403 hd1404
            obtain ⟨hv1406, hg1407⟩ := hd1404 20 (by decide)
            obtain ⟨hv1408, hg1409⟩ := hd1404 26 (by decide)
            refine ⟨_, some (), rfl, fun _ => ?_⟩
            refine s_env (env' := [(58, .bool false), (64, undef)]) (by exact ⟨congrArg some hv1406, congrArg some hv1408, trivial⟩) ?_
            refine o_pickF rfl rfl rfl ?_
            exact s_pred fun tm w ht hE hI => ⟨(.bool false), [], _, fun d hd => (by cases hd; exact hE _ _ rfl), .refl _, by exact hI, ⟨rfl, rfl⟩⟩
          refine dcons ?_ ?_
          · intro V1410 G1411 H1412 fr1413 hle1414 hd1415
            obtain ⟨hv1417, hg1418⟩ := hd1415 27 (by decide)
            refine ⟨_, some (), rfl, fun _ => ?_⟩
            refine s_env (env' := [(65, .bool false)]) (by exact ⟨congrArg some hv1417, trivial⟩) ?_
            refine o_mov rfl ?_
            exact s_pred fun tm w ht hE hI => ⟨(.bool false), [], _, fun d hd => (by cases hd; exact hE _ _ rfl), .refl _, by exact hI, ⟨rfl, rfl⟩⟩
          refine dcons ?_ ?_
          · intro V1419 G1420 H1421 fr1422 hle1423 hd1424
            obtain ⟨hv1426, hg1427⟩ := hd1424 28 (by decide)
            refine ⟨_, some (), rfl, fun _ => ?_⟩
            refine s_env (env' := [(66, .bool false)]) (by exact ⟨congrArg some hv1426, trivial⟩) ?_
            refine s_unwant rfl rfl rfl ?_
            exact s_pred fun tm w ht hE hI => ⟨undef, [], _, fun d hd => (by cases hd; exact hE _ _ rfl), .refl _, by exact hI, ⟨rfl, rfl⟩⟩
          refine dcons ?_ ?_
          · intro V1428 G1429 H1430 fr1431 hle1432 hd1433
            obtain ⟨hv1435, hg1436⟩ := hd1433 28 (by decide)
            obtain ⟨hv1437, hg1438⟩ := hd1433 29 (by decide)
            refine ⟨_, some (), rfl, fun _ => ?_⟩
            refine s_env (env' := [(66, .bool false), (67, undef)]) (by exact ⟨congrArg some hv1435, congrArg some hv1437, trivial⟩) ?_
            refine o_pickF rfl rfl rfl ?_
            exact s_pred fun tm w ht hE hI => ⟨(.bool false), [], _, fun d hd => (by cases hd; exact hE _ _ rfl), .refl _, by exact hI, ⟨rfl, rfl⟩⟩
          exact dnil
        · intro V1441 G1442 H1439 hle1440 hF1443
          have hs1444 := RSl.mono hle1440 hs25
          have hs1445 := RSl.mono hle1440 hs26
          have hA1446 := All2.mono (fun _ _ => GoT.mono hle1440) hA27
          obtain ⟨hv1447, hg1448⟩ := hF1443 30 (show 30 < 31 by decide)
          refine s_env (env' := [(68, .bool false), (0, .agg #[.int .i64 x0.Switches, .slice a0_0 x0.Links.length c0_0]), (1, .agg #[.int .i64 x1.Switch, .int .i64 x1.Port]), (2, .pointer (some ⟨b1, 0, none⟩)), (3, .pointer (some ⟨b3, 0, none⟩)), (4, .bool false), (12, .pointer (some ⟨b1, 1, none⟩)), (13, .slice a0_0 x0.Links.length c0_0), (14, .pointer (some ⟨b1, 1, none⟩)), (15, .slice a0_0 x0.Links.length c0_0), (16, .int .i64 (x0.Links.length : Int)), (17, .int .i64 (imin (x0.Links.length : Int) 30)), (18, .slice a5 y7.length c6), (19, .pointer (some ⟨b1, 1, none⟩)), (21, .agg #[.int .i64 x0.Switches, .slice a5 y7.length c6]), (22, .agg #[.int .i64 x1.Switch, .int .i64 x1.Port]), (24, .agg #[.int .i64 y10.1.Switch, .int .i64 y10.1.Port]), (25, .int .i64 y10.2.1), (26, .bool y10.2.2), (5, .pointer (some ⟨b12, 0, none⟩)), (6, .int .i64 y10.2.1), (7, .bool y10.2.2), (28, .agg #[.int .i64 x0.Switches, .slice a5 y7.length c6]), (29, .agg #[.int .i64 x1.Switch, .int .i64 x1.Port]), (31, .agg #[.int .i64 y14.1.Switch, .int .i64 y14.1.Port]), (32, .int .i64 y14.2.1), (33, .bool y14.2.2), (8, .pointer (some ⟨b16, 0, none⟩)), (9, .int .i64 y14.2.1), (10, .bool y14.2.2), (34, .agg #[.int .i64 x0.Switches, .slice a5 y7.length c6]), (35, .pointer (some ⟨b3, 0, none⟩)), (36, .int .i64 x1.Switch), (37, .slice a20 y18.length c21), (11, .slice a20 y18.length c21)]) (by exact ⟨congrArg some hv1447, rfl, rfl, rfl, rfl, rfl, rfl, rfl, rfl, rfl, rfl, rfl, rfl, rfl, rfl, rfl, rfl, rfl, rfl, rfl, rfl, rfl, rfl, rfl, rfl, rfl, rfl, rfl, rfl, rfl, rfl, rfl, rfl, rfl, rfl, trivial⟩) ?_
          refine s_own (List.sublist_append_left _ _) ?_
          refine o_asg rfl ?_
          refine s_done ?_
          exact s_retv (xs := [.tmp 4]) (vs := [.bool false]) [] fn_3 rfl ⟨rv_tmp rfl, trivial⟩ (.cons _ (.cons _ (.cons _ (.cons _ (.cons _ .slnil))))) ⟨rfl, rfl⟩
    · refine s_drawL [(fun H v g => v = .agg #[.int .i64 x0.Switches, .slice a5 y7.length c6] ∧ g = [] ∧ RSl H a5 c6 y7),
      (fun H v g => v = .int .i64 y28 ∧ g = []),
      (fun H v g => v = .agg #[.int .i64 x0.Switches, .slice a5 y7.length c6] ∧ g = [] ∧ RSl H a5 c6 y7),
      (fun H v g => v = .int .i64 y31 ∧ g = []),
      (fun H v g => v = .bool (y28 == y31) ∧ g = []),
      (fun H v g => v = .bool (y28 == y31) ∧ g = []),
      (fun H v g => v = .agg #[.int .i64 y10.1.Switch, .int .i64 y10.1.Port] ∧ g = []),
      (fun H v g => v = .agg #[.int .i64 y14.1.Switch, .int .i64 y14.1.Port] ∧ g = []),
      (fun H v g => v = .bool (decide (y10.1 = y14.1)) ∧ g = []),
      (fun H v g => v = .bool (decide (y10.1 = y14.1)) ∧ g = []),
      (fun H v g => v = .bool (decide (y10.1 = y14.1)) ∧ g = []),
      (fun H v g => v = undef ∧ g = []),
      (fun H v g => v = undef ∧ g = []),
      (fun H v g => v = undef ∧ g = []),
      (fun H v g => v = .bool false ∧ g = []),
      (fun H v g => v = .bool false ∧ g = []),
      (fun H v g => v = undef ∧ g = []),
      (fun H v g => v = undef ∧ g = []),
      (fun H v g => v = undef ∧ g = []),
      (fun H v g => v = .bool false ∧ g = []),
      (fun H v g => v = .bool false ∧ g = []),
      (fun H v g => v = undef ∧ g = []),
      (fun H v g => v = undef ∧ g = []),
      (fun H v g => v = undef ∧ g = []),
      (fun H v g => v = undef ∧ g = []),
      (fun H v g => v = undef ∧ g = []),
      (fun H v g => v = undef ∧ g = []),
      (fun H v g => v = .bool false ∧ g = []),
      (fun H v g => v = .bool false ∧ g = []),
      (fun H v g => v = undef ∧ g = []),
      (fun H v g => v = .bool false ∧ g = [])] [[], [], [], [], [], [], [], [], [], [], [], [], [], [], [], [], [], [], [], [], [], [], [], [], [], [], [], [], [], [], []] mixed ⟨fun _ _ _ _ hle ⟨e1, e2, h0_⟩ => ⟨e1, e2, RSl.mono hle h0_⟩, fun _ _ _ _ _ h => h, fun _ _ _ _ hle ⟨e1, e2, h0_⟩ => ⟨e1, e2, RSl.mono hle h0_⟩, fun _ _ _ _ _ h => h, fun _ _ _ _ _ h => h, fun _ _ _ _ _ h => h, fun _ _ _ _ _ h => h, fun _ _ _ _ _ h => h, fun _ _ _ _ _ h => h, fun _ _ _ _ _ h => h, fun _ _ _ _ _ h => h, fun _ _ _ _ _ h => h, fun _ _ _ _ _ h => h, fun _ _ _ _ _ h => h, fun _ _ _ _ _ h => h, fun _ _ _ _ _ h => h, fun _ _ _ _ _ h => h, fun _ _ _ _ _ h => h, fun _ _ _ _ _ h => h, fun _ _ _ _ _ h => h, fun _ _ _ _ _ h => h, fun _ _ _ _ _ h => h, fun _ _ _ _ _ h => h, fun _ _ _ _ _ h => h, fun _ _ _ _ _ h => h, fun _ _ _ _ _ h => h, fun _ _ _ _ _ h => h, fun _ _ _ _ _ h => h, fun _ _ _ _ _ h => h, fun _ _ _ _ _ h => h, fun _ _ _ _ _ h => h, trivial⟩ (by kernel_rfl) (by kernel_rfl) rfl (by kernel_rfl) rfl rfl ?_ ?_
      · refine dcons ?_ ?_
        · intro V1451 G1452 H1453 fr1454 hle1455 hd1456
          have hs1458 := RSl.mono hle1455 hs26
          refine ⟨_, some (), rfl, fun _ => ?_⟩
          refine s_env (env' := [(2, .pointer (some ⟨b1, 0, none⟩))]) (by exact ⟨rfl, trivial⟩) ?_
          refine o_ld 0 rfl rfl rfl ?_
          exact s_pred fun tm w ht hE hI => ⟨(.agg #[.int .i64 x0.Switches, .slice a5 y7.length c6]), [], _, fun d hd => (by cases hd; exact hE _ _ rfl), .refl _, by exact hI, ⟨rfl, rfl, hs1458⟩⟩
        refine dcons ?_ ?_
        · intro V1459 G1460 H1461 fr1462 hle1463 hd1464
          obtain ⟨hv1466, hg1467, hp1468⟩ := hd1464 0 (by decide)
          refine ⟨_, (graph_Check k (⟨x0.Switches, y7⟩ : Graph)).bind some, by rw [h30]; rfl, fun _ => ?_⟩
          refine s_env (env' := [(38, .agg #[.int .i64 x0.Switches, .slice a5 y7.length c6])]) (by exact ⟨congrArg some hv1466, trivial⟩) ?_
          refine s_bg fun y28 h1469 => ?_
          refine s_callF rfl rfl (graph_Check_ok k _ (⟨x0.Switches, y7⟩ : Graph) _ _ hp1468 h1469) ?_
          obtain rfl := Option.some.inj (h30.symm.trans h1469)
          exact s_pred fun tm w ht hE hI => ⟨(.int .i64 y28), [], _, fun d hd => (by cases hd; exact hE _ _ rfl), .refl _, by exact hI, ⟨rfl, rfl⟩⟩
        refine dcons ?_ ?_
        · intro V1470 G1471 H1472 fr1473 hle1474 hd1475
          have hs1477 := RSl.mono hle1474 hs26
          refine ⟨_, some (), rfl, fun _ => ?_⟩
          refine s_env (env' := [(2, .pointer (some ⟨b1, 0, none⟩))]) (by exact ⟨rfl, trivial⟩) ?_
          refine o_ld 0 rfl rfl rfl ?_
          exact s_pred fun tm w ht hE hI => ⟨(.agg #[.int .i64 x0.Switches, .slice a5 y7.length c6]), [], _, fun d hd => (by cases hd; exact hE _ _ rfl), .refl _, by exact hI, ⟨rfl, rfl, hs1477⟩⟩
        refine dcons ?_ ?_
        · intro V1478 G1479 H1480 fr1481 hle1482 hd1483
          obtain ⟨hv1485, hg1486, hp1487⟩ := hd1483 2 (by decide)
          refine ⟨_, (catenaryref12_Check k (⟨x0.Switches, y7⟩ : Graph)).bind some, by rw [h33]; rfl, fun _ => ?_⟩
          refine s_env (env' := [(40, .agg #[.int .i64 x0.Switches, .slice a5 y7.length c6])]) (by exact ⟨congrArg some hv1485, trivial⟩) ?_
          refine s_bg fun y31 h1488 => ?_
          refine s_callF rfl rfl (catenaryref12_Check_ok k _ (⟨x0.Switches, y7⟩ : Graph) _ _ hp1487 h1488) ?_
          obtain rfl := Option.some.inj (h33.symm.trans h1488)
          exact s_pred fun tm w ht hE hI => ⟨(.int .i64 y31), [], _, fun d hd => (by cases hd; exact hE _ _ rfl), .refl _, by exact hI, ⟨rfl, rfl⟩⟩
        refine dcons ?_ ?_
        · intro V1489 G1490 H1491 fr1492 hle1493 hd1494
          obtain ⟨hv1496, hg1497⟩ := hd1494 1 (by decide)
          obtain ⟨hv1498, hg1499⟩ := hd1494 3 (by decide)
          refine ⟨_, some (), rfl, fun _ => ?_⟩
          refine s_env (env' := [(39, .int .i64 y28), (41, .int .i64 y31)]) (by exact ⟨congrArg some hv1496, congrArg some hv1498, trivial⟩) ?_
          refine o_eq rfl rfl ?_
          exact s_pred fun tm w ht hE hI => ⟨(.bool (y28 == y31)), [], _, fun d hd => (by cases hd; exact hE _ _ rfl), .refl _, by exact hI, ⟨rfl, rfl⟩⟩
        refine dcons ?_ ?_
        · intro V1500 G1501 H1502 fr1503 hle1504 hd1505
          obtain ⟨hv1507, hg1508⟩ := hd1505 4 (by decide)
          refine ⟨_, some (), rfl, fun _ => ?_⟩
          refine s_env (env' := [(42, .bool (y28 == y31))]) (by exact ⟨congrArg some hv1507, trivial⟩) ?_
          refine o_mov rfl ?_
          exact s_pred fun tm w ht hE hI => ⟨(.bool (y28 == y31)), [], _, fun d hd => (by cases hd; exact hE _ _ rfl), .refl _, by exact hI, ⟨rfl, rfl⟩⟩
        refine dcons ?_ ?_
        · intro V1509 G1510 H1511 fr1512 hle1513 hd1514
          obtain ⟨hv1516, hg1517⟩ := hd1514 5 (by decide)
          refine ⟨_, some (), rfl, fun _ => ?_⟩
          refine s_env (env' := [(43, .bool (y28 == y31)), (5, .pointer (some ⟨b12, 0, none⟩))]) (by exact ⟨congrArg some hv1516, rfl, trivial⟩) ?_
          refine s_want rfl rfl h34 ?_
          refine o_ld 2 rfl rfl rfl ?_
          exact s_pred fun tm w ht hE hI => ⟨(.agg #[.int .i64 y10.1.Switch, .int .i64 y10.1.Port]), [], _, fun d hd => (by cases hd; exact hE _ _ rfl), .refl _, by exact hI, ⟨rfl, rfl⟩⟩
        refine dcons ?_ ?_
        · intro V1518 G1519 H1520 fr1521 hle1522 hd1523
          obtain ⟨hv1525, hg1526⟩ := hd1523 5 (by decide)
          refine ⟨_, some (), rfl, fun _ => ?_⟩
          refine s_env (env' := [(43, .bool (y28 == y31)), (8, .pointer (some ⟨b16, 0, none⟩))]) (by exact ⟨congrArg some hv1525, rfl, trivial⟩) ?_
          refine s_want rfl rfl h34 ?_
          refine o_ld 3 rfl rfl rfl ?_
          exact s_pred fun tm w ht hE hI => ⟨(.agg #[.int .i64 y14.1.Switch, .int .i64 y14.1.Port]), [], _, fun d hd => (by cases hd; exact hE _ _ rfl), .refl _, by exact hI, ⟨rfl, rfl⟩⟩
        refine dcons ?_ ?_
        · intro V1527 G1528 H1529 fr1530 hle1531 hd1532
          obtain ⟨hv1534, hg1535⟩ := hd1532 5 (by decide)
          obtain ⟨hv1536, hg1537⟩ := hd1532 6 (by decide)
          obtain ⟨hv1538, hg1539⟩ := hd1532 7 (by decide)
          refine ⟨_, some (), rfl, fun _ => ?_⟩
          refine s_env (env' := [(43, .bool (y28 == y31)), (44, .agg #[.int .i64 y10.1.Switch, .int .i64 y10.1.Port]), (45, .agg #[.int .i64 y14.1.Switch, .int .i64 y14.1.Port])]) (by exact ⟨congrArg some hv1534, congrArg some hv1536, congrArg some hv1538, trivial⟩) ?_
          refine s_want rfl rfl h34 ?_
          refine o_eqS y10.1 y14.1 rfl rfl ?_
          exact s_pred fun tm w ht hE hI => ⟨(.bool (decide (y10.1 = y14.1))), [], _, fun d hd => (by cases hd; exact hE _ _ rfl), .refl _, by exact hI, ⟨rfl, rfl⟩⟩
        refine dcons ?_ ?_
        · intro V1540 G1541 H1542 fr1543 hle1544 hd1545
          obtain ⟨hv1547, hg1548⟩ := hd1545 5 (by decide)
          obtain ⟨hv1549, hg1550⟩ := hd1545 8 (by decide)
          refine ⟨_, some (), rfl, fun _ => ?_⟩
          refine s_env (env' := [(43, .bool (y28 == y31)), (46, .bool (decide (y10.1 = y14.1)))]) (by exact ⟨congrArg some hv1547, congrArg some hv1549, trivial⟩) ?_
          refine o_pickT rfl h34 rfl ?_
          exact s_pred fun tm w ht hE hI => ⟨(.bool (decide (y10.1 = y14.1))), [], _, fun d hd => (by cases hd; exact hE _ _ rfl), .refl _, by exact hI, ⟨rfl, rfl⟩⟩
        refine dcons ?_ ?_
        · intro V1551 G1552 H1553 fr1554 hle1555 hd1556
          obtain ⟨hv1558, hg1559⟩ := hd1556 9 (by decide)
          refine ⟨_, some (), rfl, fun _ => ?_⟩
          refine s_env (env' := [(47, .bool (decide (y10.1 = y14.1)))]) (by exact ⟨congrArg some hv1558, trivial⟩) ?_
          refine o_mov rfl ?_
          exact s_pred fun tm w ht hE hI => ⟨(.bool (decide (y10.1 = y14.1))), [], _, fun d hd => (by cases hd; exact hE _ _ rfl), .refl _, by exact hI, ⟨rfl, rfl⟩⟩
        refine dcons ?_ ?_
        · intro V1560 G1561 H1562 fr1563 hle1564 hd1565
          obtain ⟨hv1567, hg1568⟩ := hd1565 10 (by decide)
          refine ⟨_, some (), rfl, fun _ => ?_⟩
          refine s_env (env' := [(48, .bool (decide (y10.1 = y14.1))), (6, .int .i64 y10.2.1)]) (by exact ⟨congrArg some hv1567, rfl, trivial⟩) ?_
          refine s_unwant rfl rfl h35 ?_
          exact s_pred fun tm w ht hE hI => ⟨undef, [], _, fun d hd => (by cases hd; exact hE _ _ rfl), .refl _, by exact hI, ⟨rfl, rfl⟩⟩
        refine dcons ?_ ?_
        · intro V1569 G1570 H1571 fr1572 hle1573 hd1574
          obtain ⟨hv1576, hg1577⟩ := hd1574 10 (by decide)
          refine ⟨_, some (), rfl, fun _ => ?_⟩
          refine s_env (env' := [(48, .bool (decide (y10.1 = y14.1))), (9, .int .i64 y14.2.1)]) (by exact ⟨congrArg some hv1576, rfl, trivial⟩) ?_
          refine s_unwant rfl rfl h35 ?_
          exact s_pred fun tm w ht hE hI => ⟨undef, [], _, fun d hd => (by cases hd; exact hE _ _ rfl), .refl _, by exact hI, ⟨rfl, rfl⟩⟩
        refine dcons ?_ ?_
        · intro V1578 G1579 H1580 fr1581 hle1582 hd1583
          obtain ⟨hv1585, hg1586⟩ := hd1583 10 (by decide)
          obtain ⟨hv1587, hg1588⟩ := hd1583 11 (by decide)
          obtain ⟨hv1589, hg1590⟩ := hd1583 12 (by decide)
          refine ⟨_, some (), rfl, fun _ => ?_⟩
          refine s_env (env' := [(48, .bool (decide (y10.1 = y14.1))), (49, undef), (50, undef)]) (by exact ⟨congrArg some hv1585, congrArg some hv1587, congrArg some hv1589, trivial⟩) ?_
          refine s_unwant rfl rfl h35 ?_
          exact s_pred fun tm w ht hE hI => ⟨undef, [], _, fun d hd => (by cases hd; exact hE _ _ rfl), .refl _, by exact hI, ⟨rfl, rfl⟩⟩
        refine dcons ?_ ?_
        · intro V1591 G1592 H1593 fr1594 hle1595 hd1596
          obtain ⟨hv1598, hg1599⟩ := hd1596 10 (by decide)
          obtain ⟨hv1600, hg1601⟩ := hd1596 13 (by decide)
          refine ⟨_, some (), rfl, fun _ => ?_⟩
          refine s_env (env' := [(48, .bool (decide (y10.1 = y14.1))), (51, undef)]) (by exact ⟨congrArg some hv1598, congrArg some hv1600, trivial⟩) ?_
          refine o_pickF rfl h35 rfl ?_
          exact s_pred fun tm w ht hE hI => ⟨(.bool false), [], _, fun d hd => (by cases hd; exact hE _ _ rfl), .refl _, by exact hI, ⟨rfl, rfl⟩⟩
        refine dcons ?_ ?_
        · intro V1602 G1603 H1604 fr1605 hle1606 hd1607
          obtain ⟨hv1609, hg1610⟩ := hd1607 14 (by decide)
          refine ⟨_, some (), rfl, fun _ => ?_⟩
          refine s_env (env' := [(52, .bool false)]) (by exact ⟨congrArg some hv1609, trivial⟩) ?_
          refine o_mov rfl ?_
          exact s_pred fun tm w ht hE hI => ⟨(.bool false), [], _, fun d hd => (by cases hd; exact hE _ _ rfl), .refl _, by exact hI, ⟨rfl, rfl⟩⟩
        refine dcons ?_ ?_
        · intro V1611 G1612 H1613 fr1614 hle1615 hd1616
          obtain ⟨hv1618, hg1619⟩ := hd1616 15 (by decide)
          refine ⟨_, some (), rfl, fun _ => ?_⟩
          refine s_env (env' := [(53, .bool false), (7, .bool y10.2.2)]) (by exact ⟨congrArg some hv1618, rfl, trivial⟩) ?_
          refine s_unwant rfl rfl rfl ?_
          exact s_pred fun tm w ht hE hI => ⟨undef, [], _, fun d hd => (by cases hd; exact hE _ _ rfl), .refl _, by exact hI, ⟨rfl, rfl⟩⟩
        refine dcons ?_ ?_
        · intro V1620 G1621 H1622 fr1623 hle1624 hd1625
          obtain ⟨hv1627, hg1628⟩ := hd1625 15 (by decide)
          refine ⟨_, some (), rfl, fun _ => ?_⟩
          refine s_env (env' := [(53, .bool false), (10, .bool y14.2.2)]) (by exact ⟨congrArg some hv1627, rfl, trivial⟩) ?_
          refine s_unwant rfl rfl rfl ?_
          exact s_pred fun tm w ht hE hI => ⟨undef, [], _, fun d hd => (by cases hd; exact hE _ _ rfl), .refl _, by exact hI, ⟨rfl, rfl⟩⟩
        refine dcons ?_ ?_
        · intro V1629 G1630 H1631 fr1632 hle1633 hd1634
          obtain ⟨hv1636, hg1637⟩ := hd1634 15 (by decide)
          obtain ⟨hv1638, hg1639⟩ := hd1634 16 (by decide)
          obtain ⟨hv1640, hg1641⟩ := hd1634 17 (by decide)
          refine ⟨_, some (), rfl, fun _ => ?_⟩
          refine s_env (env' := [(53, .bool false), (54, undef), (55, undef)]) (by exact ⟨congrArg some hv1636, congrArg some hv1638, congrArg some hv1640, trivial⟩) ?_
          refine s_unwant rfl rfl rfl ?_
          exact s_pred fun tm w ht hE hI => ⟨undef, [], _, fun d hd => (by cases hd; exact hE _ _ rfl), .refl _, by exact hI, ⟨rfl, rfl⟩⟩
        refine dcons ?_ ?_
        · intro V1642 G1643 H1644 fr1645 hle1646 hd1647
          obtain ⟨hv1649, hg1650⟩ := hd1647 15 (by decide)
          obtain ⟨hv1651, hg1652⟩ := hd1647 18 (by decide)
          refine ⟨_, some (), rfl, fun _ => ?_⟩
          refine s_env (env' := [(53, .bool false), (56, undef)]) (by exact ⟨congrArg some hv1649, congrArg some hv1651, trivial⟩) ?_
          refine o_pickF rfl rfl rfl ?_
          exact s_pred fun tm w ht hE hI => ⟨(.bool false), [], _, fun d hd => (by cases hd; exact hE _ _ rfl), .refl _, by exact hI, ⟨rfl, rfl⟩⟩
        refine dcons ?_ ?_
        · intro V1653 G1654 H1655 fr1656 hle1657 hd1658
          obtain ⟨hv1660, hg1661⟩ := hd1658 19 (by decide)
          refine ⟨_, some (), rfl, fun _ => ?_⟩
          refine s_env (env' := [(57, .bool false)]) (by exact ⟨congrArg some hv1660, trivial⟩) ?_
          refine o_mov rfl ?_
          exact s_pred fun tm w ht hE hI => ⟨(.bool false), [], _, fun d hd => (by cases hd; exact hE _ _ rfl), .refl _, by exact hI, ⟨rfl, rfl⟩⟩
        refine dcons ?_ ?_
        · intro V1662 G1663 H1664 fr1665 hle1666 hd1667
          have hA1669 := All2.mono (fun _ _ => GoT.mono hle1666) hA27
          obtain ⟨hv1670, hg1671⟩ := hd1667 20 (by decide)
          refine ⟨_, some (), rfl, fun _ => ?_⟩
          refine s_env (env' := [(58, .bool false), (11, .slice a20 y18.length c21)]) (by exact ⟨congrArg some hv1670, rfl, trivial⟩) ?_
          refine s_unwant rfl rfl rfl ?_
          exact s_pred fun tm w ht hE hI => ⟨undef, [], _, fun d hd => (by cases hd; exact hE _ _ rfl), .refl _, by exact hI, ⟨rfl, rfl⟩⟩
        refine dcons ?_ ?_
        · intro V1672 G1673 H1674 fr1675 hle1676 hd1677
          have hs1679 := RSl.mono hle1676 hs26
          obtain ⟨hv1680, hg1681⟩ := hd1677 20 (by decide)
          refine ⟨_, some (), rfl, fun _ => ?_⟩
          refine s_env (env' := [(58, .bool false), (2, .pointer (some ⟨b1, 0, none⟩))]) (by exact ⟨congrArg some hv1680, rfl, trivial⟩) ?_
          refine s_unwant rfl rfl rfl ?_
          exact s_pred fun tm w ht hE hI => ⟨undef, [], _, fun d hd => (by cases hd; exact hE _ _ rfl), .refl _, by exact hI, ⟨rfl, rfl⟩⟩
        refine dcons ?_ ?_
        · intro V1682 G1683 H1684 fr1685 hle1686 hd1687
          obtain ⟨hv1689, hg1690⟩ := hd1687 20 (by decide)
          refine ⟨_, some (), rfl, fun _ => ?_⟩
          refine s_env (env' := [(58, .bool false), (3, .pointer (some ⟨b3, 0, none⟩))]) (by exact ⟨congrArg some hv1689, rfl, trivial⟩) ?_
          refine s_unwant rfl rfl rfl ?_
          exact s_pred fun tm w ht hE hI => ⟨undef, [], _, fun d hd => (by cases hd; exact hE _ _ rfl), .refl _, by exact hI, ⟨rfl, rfl⟩⟩
        refine dcons ?_ ?_
        · intro V1691 G1692 H1693 fr1694 hle1695 hd1696
          obtain ⟨hv1698, hg1699⟩ := hd1696 20 (by decide)
          obtain ⟨hv1700, hg1701⟩ := hd1696 23 (by decide)
          refine ⟨_, some (), rfl, fun _ => ?_⟩
          refine s_env (env' := [(58, .bool false), (61, undef)]) (by exact ⟨congrArg some hv1698, congrArg some hv1700, trivial⟩) ?_
          refine s_unwant rfl rfl rfl ?_
          exact s_pred fun tm w ht hE hI => ⟨undef, [], _, fun d hd => (by cases hd; exact hE _ _ rfl), .refl _, by exact hI, ⟨rfl, rfl⟩⟩
        refine dcons ?_ ?_
        · intro V1702 G1703 H1704 fr1705 hle1706 hd1707
          obtain ⟨hv1709, hg1710⟩ := hd1707 20 (by decide)
          obtain ⟨hv1711, hg1712⟩ := hd1707 22 (by decide)
          obtain ⟨hv1713, hg1714⟩ := hd1707 24 (by decide)
          refine ⟨_, some (), rfl, fun _ => ?_⟩
          refine s_env (env' := [(58, .bool false), (60, undef), (62, undef)]) (by exact ⟨congrArg some hv1709, congrArg some hv1711, congrArg some hv1713, trivial⟩) ?_
          refine s_unwant rfl rfl rfl ?_
          exact s_pred fun tm w ht hE hI => ⟨undef, [], _, fun d hd => (by cases hd; exact hE _ _ rfl), .refl _, by exact hI, ⟨rfl, rfl⟩⟩
        refine dcons ?_ ?_
        · intro V1715 G1716 H1717 fr1718 hle1719 hd1720
          obtain ⟨hv1722, hg1723⟩ := hd1720 20 (by decide)
          obtain ⟨hv1724, hg1725⟩ := hd1720 21 (by decide)
          obtain ⟨hv1726, hg1727⟩ := hd1720 25 (by decide)
          refine ⟨_, some (), rfl, fun _ => ?_⟩
          refine s_env (env' := [(58, .bool false), (59, undef), (63, undef)]) (by exact ⟨congrArg some hv1722, congrArg some hv1724, congrArg some hv1726, trivial⟩) ?_
          refine s_unwant rfl rfl rfl ?_
          exact s_pred fun tm w ht hE hI => ⟨undef, [], _, fun d hd => (by cases hd; exact hE _ _ rfl), .refl _, by exact hI, ⟨rfl, rfl⟩⟩
        refine dcons ?_ ?_
        · intro V1728 G1729 H1730 fr1731 hle1732 hd1733
          obtain ⟨hv1735, hg1736⟩ := hd1733 20 (by decide)
          obtain ⟨hv1737, hg1738⟩ := hd1733 26 (by decide)
          refine ⟨_, some (), rfl, fun _ => ?_⟩
          refine s_env (env' := [(58, .bool false), (64, undef)]) (by exact ⟨congrArg some hv1735, congrArg some hv1737, trivial⟩) ?_
          refine o_pickF rfl rfl rfl ?_
          exact s_pred fun tm w ht hE hI => ⟨(.bool false), [], _, fun d hd => (by cases hd; exact hE _ _ rfl), .refl _, by exact hI, ⟨rfl, rfl⟩⟩
        refine dcons ?_ ?_
        · intro V1739 G1740 H1741 fr1742 hle1743 hd1744
          obtain ⟨hv1746, hg1747⟩ := hd1744 27 (by decide)
          refine ⟨_, some (), rfl, fun _ => ?_⟩
          refine s_env (env' := [(65, .bool false)]) (by exact ⟨congrArg some hv1746, trivial⟩) ?_
          refine o_mov rfl ?_
          exact s_pred fun tm w ht hE hI => ⟨(.bool false), [], _, fun d hd => (by cases hd; exact hE _ _ rfl), .refl _, by exact hI, ⟨rfl, rfl⟩⟩
        refine dcons ?_ ?_
        · intro V1748 G1749 H1750 fr1751 hle1752 hd1753
          obtain ⟨hv1755, hg1756⟩ := hd1753 28 (by decide)
          refine ⟨_, some (), rfl, fun _ => ?_⟩
          refine s_env (env' := [(66, .bool false)]) (by exact ⟨congrArg some hv1755, trivial⟩) ?_
          refine s_unwant rfl rfl rfl ?_
          exact s_pred fun tm w ht hE hI => ⟨undef, [], _, fun d hd => (by cases hd; exact hE _ _ rfl), .refl _, by exact hI, ⟨rfl, rfl⟩⟩
        refine dcons ?_ ?_
        · intro V1757 G1758 H1759 fr1760 hle1761 hd1762
          obtain ⟨hv1764, hg1765⟩ := hd1762 28 (by decide)
          obtain ⟨hv1766, hg1767⟩ := hd1762 29 (by decide)
          refine ⟨_, some (), rfl, fun _ => ?_⟩
          refine s_env (env' := [(66, .bool false), (67, undef)]) (by exact ⟨congrArg some hv1764, congrArg some hv1766, trivial⟩) ?_
          refine o_pickF rfl rfl rfl ?_
          exact s_pred fun tm w ht hE hI => ⟨(.bool false), [], _, fun d hd => (by cases hd; exact hE _ _ rfl), .refl _, by exact hI, ⟨rfl, rfl⟩⟩
        exact dnil
      · intro V1770 G1771 H1768 hle1769 hF1772
        have hs1773 := RSl.mono hle1769 hs25
        have hs1774 := RSl.mono hle1769 hs26
        have hA1775 := All2.mono (fun _ _ => GoT.mono hle1769) hA27
        obtain ⟨hv1776, hg1777⟩ := hF1772 30 (show 30 < 31 by decide)
        refine s_env (env' := [(68, .bool false), (0, .agg #[.int .i64 x0.Switches, .slice a0_0 x0.Links.length c0_0]), (1, .agg #[.int .i64 x1.Switch, .int .i64 x1.Port]), (2, .pointer (some ⟨b1, 0, none⟩)), (3, .pointer (some ⟨b3, 0, none⟩)), (4, .bool false), (12, .pointer (some ⟨b1, 1, none⟩)), (13, .slice a0_0 x0.Links.length c0_0), (14, .pointer (some ⟨b1, 1, none⟩)), (15, .slice a0_0 x0.Links.length c0_0), (16, .int .i64 (x0.Links.length : Int)), (17, .int .i64 (imin (x0.Links.length : Int) 30)), (18, .slice a5 y7.length c6), (19, .pointer (some ⟨b1, 1, none⟩)), (21, .agg #[.int .i64 x0.Switches, .slice a5 y7.length c6]), (22, .agg #[.int .i64 x1.Switch, .int .i64 x1.Port]), (24, .agg #[.int .i64 y10.1.Switch, .int .i64 y10.1.Port]), (25, .int .i64 y10.2.1), (26, .bool y10.2.2), (5, .pointer (some ⟨b12, 0, none⟩)), (6, .int .i64 y10.2.1), (7, .bool y10.2.2), (28, .agg #[.int .i64 x0.Switches, .slice a5 y7.length c6]), (29, .agg #[.int .i64 x1.Switch, .int .i64 x1.Port]), (31, .agg #[.int .i64 y14.1.Switch, .int .i64 y14.1.Port]), (32, .int .i64 y14.2.1), (33, .bool y14.2.2), (8, .pointer (some ⟨b16, 0, none⟩)), (9, .int .i64 y14.2.1), (10, .bool y14.2.2), (34, .agg #[.int .i64 x0.Switches, .slice a5 y7.length c6]), (35, .pointer (some ⟨b3, 0, none⟩)), (36, .int .i64 x1.Switch), (37, .slice a20 y18.length c21), (11, .slice a20 y18.length c21)]) (by exact ⟨congrArg some hv1776, rfl, rfl, rfl, rfl, rfl, rfl, rfl, rfl, rfl, rfl, rfl, rfl, rfl, rfl, rfl, rfl, rfl, rfl, rfl, rfl, rfl, rfl, rfl, rfl, rfl, rfl, rfl, rfl, rfl, rfl, rfl, rfl, rfl, rfl, trivial⟩) ?_
        refine s_own (List.sublist_append_left _ _) ?_
        refine o_asg rfl ?_
        refine s_done ?_
        exact s_retv (xs := [.tmp 4]) (vs := [.bool false]) [] fn_3 rfl ⟨rv_tmp rfl, trivial⟩ (.cons _ (.cons _ (.cons _ (.cons _ (.cons _ .slnil))))) ⟨rfl, rfl⟩
  · refine s_drawL [(fun H v g => v = .agg #[.int .i64 x0.Switches, .slice a5 y7.length c6] ∧ g = [] ∧ RSl H a5 c6 y7),
      (fun H v g => v = .int .i64 y28 ∧ g = []),
      (fun H v g => v = .agg #[.int .i64 x0.Switches, .slice a5 y7.length c6] ∧ g = [] ∧ RSl H a5 c6 y7),
      (fun H v g => v = .int .i64 y31 ∧ g = []),
      (fun H v g => v = .bool (y28 == y31) ∧ g = []),
      (fun H v g => v = .bool (y28 == y31) ∧ g = []),
      (fun H v g => v = undef ∧ g = []),
      (fun H v g => v = undef ∧ g = []),
      (fun H v g => v = undef ∧ g = []),
      (fun H v g => v = .bool false ∧ g = []),
      (fun H v g => v = .bool false ∧ g = []),
      (fun H v g => v = undef ∧ g = []),
      (fun H v g => v = undef ∧ g = []),
      (fun H v g => v = undef ∧ g = []),
      (fun H v g => v = .bool false ∧ g = []),
      (fun H v g => v = .bool false ∧ g = []),
      (fun H v g => v = undef ∧ g = []),
      (fun H v g => v = undef ∧ g = []),
      (fun H v g => v = undef ∧ g = []),
      (fun H v g => v = .bool false ∧ g = []),
      (fun H v g => v = .bool false ∧ g = []),
      (fun H v g => v = undef ∧ g = []),
      (fun H v g => v = undef ∧ g = []),
      (fun H v g => v = undef ∧ g = []),
      (fun H v g => v = undef ∧ g = []),
      (fun H v g => v = undef ∧ g = []),
      (fun H v g => v = undef ∧ g = []),
      (fun H v g => v = .bool false ∧ g = []),
      (fun H v g => v = .bool false ∧ g = []),
      (fun H v g => v = undef ∧ g = []),
      (fun H v g => v = .bool false ∧ g = [])] [[], [], [], [], [], [], [], [], [], [], [], [], [], [], [], [], [], [], [], [], [], [], [], [], [], [], [], [], [], [], []] mixed ⟨fun _ _ _ _ hle ⟨e1, e2, h0_⟩ => ⟨e1, e2, RSl.mono hle h0_⟩, fun _ _ _ _ _ h => h, fun _ _ _ _ hle ⟨e1, e2, h0_⟩ => ⟨e1, e2, RSl.mono hle h0_⟩, fun _ _ _ _ _ h => h, fun _ _ _ _ _ h => h, fun _ _ _ _ _ h => h, fun _ _ _ _ _ h => h, fun _ _ _ _ _ h => h, fun _ _ _ _ _ h => h, fun _ _ _ _ _ h => h, fun _ _ _ _ _ h => h, fun _ _ _ _ _ h => h, fun _ _ _ _ _ h => h, fun _ _ _ _ _ h => h, fun _ _ _ _ _ h => h, fun _ _ _ _ _ h => h, fun _ _ _ _ _ h => h, fun _ _ _ _ _ h => h, fun _ _ _ _ _ h => h, fun _ _ _ _ _ h => h, fun _ _ _ _ _ h => h, fun _ _ _ _ _ h => h, fun _ _ _ _ _ h => h, fun _ _ _ _ _ h => h, fun _ _ _ _ _ h => h, fun _ _ _ _ _ h => h, fun _ _ _ _ _ h => h, fun _ _ _ _ _ h => h, fun _ _ _ _ _ h => h, fun _ _ _ _ _ h => h, fun _ _ _ _ _ h => h, trivial⟩ (by kernel_rfl) (by kernel_rfl) rfl (by kernel_rfl) rfl rfl ?_ ?_
    · refine dcons ?_ ?_
      · intro V1780 G1781 H1782 fr1783 hle1784 hd1785
        have hs1787 := RSl.mono hle1784 hs26
        refine ⟨_, some (), rfl, fun _ => ?_⟩
        refine s_env (env' := [(2, .pointer (some ⟨b1, 0, none⟩))]) (by exact ⟨rfl, trivial⟩) ?_
        refine o_ld 0 rfl rfl rfl ?_
        exact s_pred fun tm w ht hE hI => ⟨(.agg #[.int .i64 x0.Switches, .slice a5 y7.length c6]), [], _, fun d hd => (by cases hd; exact hE _ _ rfl), .refl _, by exact hI, ⟨rfl, rfl, hs1787⟩⟩
      refine dcons ?_ ?_
      · intro V1788 G1789 H1790 fr1791 hle1792 hd1793
        obtain ⟨hv1795, hg1796, hp1797⟩ := hd1793 0 (by decide)
        refine ⟨_, (graph_Check k (⟨x0.Switches, y7⟩ : Graph)).bind some, by rw [h30]; rfl, fun _ => ?_⟩
        refine s_env (env' := [(38, .agg #[.int .i64 x0.Switches, .slice a5 y7.length c6])]) (by exact ⟨congrArg some hv1795, trivial⟩) ?_
        refine s_bg fun y28 h1798 => ?_
        refine s_callF rfl rfl (graph_Check_ok k _ (⟨x0.Switches, y7⟩ : Graph) _ _ hp1797 h1798) ?_
        obtain rfl := Option.some.inj (h30.symm.trans h1798)
        exact s_pred fun tm w ht hE hI => ⟨(.int .i64 y28), [], _, fun d hd => (by cases hd; exact hE _ _ rfl), .refl _, by exact hI, ⟨rfl, rfl⟩⟩
      refine dcons ?_ ?_
      · intro V1799 G1800 H1801 fr1802 hle1803 hd1804
        have hs1806 := RSl.mono hle1803 hs26
        refine ⟨_, some (), rfl, fun _ => ?_⟩
        refine s_env (env' := [(2, .pointer (some ⟨b1, 0, none⟩))]) (by exact ⟨rfl, trivial⟩) ?_
        refine o_ld 0 rfl rfl rfl ?_
        exact s_pred fun tm w ht hE hI => ⟨(.agg #[.int .i64 x0.Switches, .slice a5 y7.length c6]), [], _, fun d hd => (by cases hd; exact hE _ _ rfl), .refl _, by exact hI, ⟨rfl, rfl, hs1806⟩⟩
      refine dcons ?_ ?_
      · intro V1807 G1808 H1809 fr1810 hle1811 hd1812
        obtain ⟨hv1814, hg1815, hp1816⟩ := hd1812 2 (by decide)
        refine ⟨_, (catenaryref12_Check k (⟨x0.Switches, y7⟩ : Graph)).bind some, by rw [h33]; rfl, fun _ => ?_⟩
        refine s_env (env' := [(40, .agg #[.int .i64 x0.Switches, .slice a5 y7.length c6])]) (by exact ⟨congrArg some hv1814, trivial⟩) ?_
        refine s_bg fun y31 h1817 => ?_
        refine s_callF rfl rfl (catenaryref12_Check_ok k _ (⟨x0.Switches, y7⟩ : Graph) _ _ hp1816 h1817) ?_
        obtain rfl := Option.some.inj (h33.symm.trans h1817)
        exact s_pred fun tm w ht hE hI => ⟨(.int .i64 y31), [], _, fun d hd => (by cases hd; exact hE _ _ rfl), .refl _, by exact hI, ⟨rfl, rfl⟩⟩
      refine dcons ?_ ?_
      · intro V1818 G1819 H1820 fr1821 hle1822 hd1823
        obtain ⟨hv1825, hg1826⟩ := hd1823 1 (by decide)
        obtain ⟨hv1827, hg1828⟩ := hd1823 3 (by decide)
        refine ⟨_, some (), rfl, fun _ => ?_⟩
        refine s_env (env' := [(39, .int .i64 y28), (41, .int .i64 y31)]) (by exact ⟨congrArg some hv1825, congrArg some hv1827, trivial⟩) ?_
        refine o_eq rfl rfl ?_
        exact s_pred fun tm w ht hE hI => ⟨(.bool (y28 == y31)), [], _, fun d hd => (by cases hd; exact hE _ _ rfl), .refl _, by exact hI, ⟨rfl, rfl⟩⟩
      refine dcons ?_ ?_
      · intro V1829 G1830 H1831 fr1832 hle1833 hd1834
        obtain ⟨hv1836, hg1837⟩ := hd1834 4 (by decide)
        refine ⟨_, some (), rfl, fun _ => ?_⟩
        refine s_env (env' := [(42, .bool (y28 == y31))]) (by exact ⟨congrArg some hv1836, trivial⟩) ?_
        refine o_mov rfl ?_
        exact s_pred fun tm w ht hE hI => ⟨(.bool (y28 == y31)), [], _, fun d hd => (by cases hd; exact hE _ _ rfl), .refl _, by exact hI, ⟨rfl, rfl⟩⟩
      refine dcons ?_ ?_
      · intro V1838 G1839 H1840 fr1841 hle1842 hd1843
        obtain ⟨hv1845, hg1846⟩ := hd1843 5 (by decide)
        refine ⟨_, some (), rfl, fun _ => ?_⟩
        refine s_env (env' := [(43, .bool (y28 == y31)), (5, .pointer (some ⟨b12, 0, none⟩))]) (by exact ⟨congrArg some hv1845, rfl, trivial⟩) ?_
        refine s_unwant rfl rfl h34 ?_
        exact s_pred fun tm w ht hE hI => ⟨undef, [], _, fun d hd => (by cases hd; exact hE _ _ rfl), .refl _, by exact hI, ⟨rfl, rfl⟩⟩
      refine dcons ?_ ?_
      · intro V1847 G1848 H1849 fr1850 hle1851 hd1852
        obtain ⟨hv1854, hg1855⟩ := hd1852 5 (by decide)
        refine ⟨_, some (), rfl, fun _ => ?_⟩
        refine s_env (env' := [(43, .bool (y28 == y31)), (8, .pointer (some ⟨b16, 0, none⟩))]) (by exact ⟨congrArg some hv1854, rfl, trivial⟩) ?_
        refine s_unwant rfl rfl h34 ?_
        exact s_pred fun tm w ht hE hI => ⟨undef, [], _, fun d hd => (by cases hd; exact hE _ _ rfl), .refl _, by exact hI, ⟨rfl, rfl⟩⟩
      refine dcons ?_ ?_
      · intro V1856 G1857 H1858 fr1859 hle1860 hd1861
        obtain ⟨hv1863, hg1864⟩ := hd1861 5 (by decide)
        obtain ⟨hv1865, hg1866⟩ := hd1861 6 (by decide)
        obtain ⟨hv1867, hg1868⟩ := hd1861 7 (by decide)
        refine ⟨_, some (), rfl, fun _ => ?_⟩
        refine s_env (env' := [(43, .bool (y28 == y31)), (44, undef), (45, undef)]) (by exact ⟨congrArg some hv1863, congrArg some hv1865, congrArg some hv1867, trivial⟩) ?_
        refine s_unwant rfl rfl h34 ?_
        exact s_pred fun tm w ht hE hI => ⟨undef, [], _, fun d hd => (by cases hd; exact hE _ _ rfl), .refl _, by exact hI, ⟨rfl, rfl⟩⟩
      refine dcons ?_ ?_
      · intro V1869 G1870 H1871 fr1872 hle1873 hd1874
        obtain ⟨hv1876, hg1877⟩ := hd1874 5 (by decide)
        obtain ⟨hv1878, hg1879⟩ := hd1874 8 (by decide)
        refine ⟨_, some (), rfl, fun _ => ?_⟩
        refine s_env (env' := [(43, .bool (y28 == y31)), (46, undef)]) (by exact ⟨congrArg some hv1876, congrArg some hv1878, trivial⟩) ?_
        refine o_pickF rfl h34 rfl ?_
        exact s_pred fun tm w ht hE hI => ⟨(.bool false), [], _, fun d hd => (by cases hd; exact hE _ _ rfl), .refl _, by exact hI, ⟨rfl, rfl⟩⟩
      refine dcons ?_ ?_
      · intro V1880 G1881 H1882 fr1883 hle1884 hd1885
        obtain ⟨hv1887, hg1888⟩ := hd1885 9 (by decide)
        refine ⟨_, some (), rfl, fun _ => ?_⟩
        refine s_env (env' := [(47, .bool false)]) (by exact ⟨congrArg some hv1887, trivial⟩) ?_
        refine o_mov rfl ?_
        exact s_pred fun tm w ht hE hI => ⟨(.bool false), [], _, fun d hd => (by cases hd; exact hE _ _ rfl), .refl _, by exact hI, ⟨rfl, rfl⟩⟩
      refine dcons ?_ ?_
      · intro V1889 G1890 H1891 fr1892 hle1893 hd1894
        obtain ⟨hv1896, hg1897⟩ := hd1894 10 (by decide)
        refine ⟨_, some (), rfl, fun _ => ?_⟩
        refine s_env (env' := [(48, .bool false), (6, .int .i64 y10.2.1)]) (by exact ⟨congrArg some hv1896, rfl, trivial⟩) ?_
        refine s_unwant rfl rfl rfl ?_
        exact s_pred fun tm w ht hE hI => ⟨undef, [], _, fun d hd => (by cases hd; exact hE _ _ rfl), .refl _, by exact hI, ⟨rfl, rfl⟩⟩
      refine dcons ?_ ?_
      · intro V1898 G1899 H1900 fr1901 hle1902 hd1903
        obtain ⟨hv1905, hg1906⟩ := hd1903 10 (by decide)
        refine ⟨_, some (), rfl, fun _ => ?_⟩
        refine s_env (env' := [(48, .bool false), (9, .int .i64 y14.2.1)]) (by exact ⟨congrArg some hv1905, rfl, trivial⟩) ?_
        refine s_unwant rfl rfl rfl ?_
        exact s_pred fun tm w ht hE hI => ⟨undef, [], _, fun d hd => (by cases hd; exact hE _ _ rfl), .refl _, by exact hI, ⟨rfl, rfl⟩⟩
      refine dcons ?_ ?_
      · intro V1907 G1908 H1909 fr1910 hle1911 hd1912
        obtain ⟨hv1914, hg1915⟩ := hd1912 10 (by decide)
        obtain ⟨hv1916, hg1917⟩ := hd1912 11 (by decide)
        obtain ⟨hv1918, hg1919⟩ := hd1912 12 (by decide)
        refine ⟨_, some (), rfl, fun _ => ?_⟩
        refine s_env (env' := [(48, .bool false), (49, undef), (50, undef)]) (by exact ⟨congrArg some hv1914, congrArg some hv1916, congrArg some hv1918, trivial⟩) ?_
        refine s_unwant rfl rfl rfl ?_
        exact s_pred fun tm w ht hE hI => ⟨undef, [], _, fun d hd => (by cases hd; exact hE _ _ rfl), .refl _, by exact hI, ⟨rfl, rfl⟩⟩
      refine dcons ?_ ?_
      · intro V1920 G1921 H1922 fr1923 hle1924 hd1925
        obtain ⟨hv1927, hg1928⟩ := hd1925 10 (by decide)
        obtain ⟨hv1929, hg1930⟩ := hd1925 13 (by decide)
        refine ⟨_, some (), rfl, fun _ => ?_⟩
        refine s_env (env' := [(48, .bool false), (51, undef)]) (by exact ⟨congrArg some hv1927, congrArg some hv1929, trivial⟩) ?_
        refine o_pickF rfl rfl rfl ?_
        exact s_pred fun tm w ht hE hI => ⟨(.bool false), [], _, fun d hd => (by cases hd; exact hE _ _ rfl), .refl _, by exact hI, ⟨rfl, rfl⟩⟩
      refine dcons ?_ ?_
      · intro V1931 G1932 H1933 fr1934 hle1935 hd1936
        obtain ⟨hv1938, hg1939⟩ := hd1936 14 (by decide)
        refine ⟨_, some (), rfl, fun _ => ?_⟩
        refine s_env (env' := [(52, .bool false)]) (by exact ⟨congrArg some hv1938, trivial⟩) ?_
        refine o_mov rfl ?_
        exact s_pred fun tm w ht hE hI => ⟨(.bool false), [], _, fun d hd => (by cases hd; exact hE _ _ rfl), .refl _, by exact hI, ⟨rfl, rfl⟩⟩
      refine dcons ?_ ?_
      · intro V1940 G1941 H1942 fr1943 hle1944 hd1945
        obtain ⟨hv1947, hg1948⟩ := hd1945 15 (by decide)
        refine ⟨_, some (), rfl, fun _ => ?_⟩
        refine s_env (env' := [(53, .bool false), (7, .bool y10.2.2)]) (by exact ⟨congrArg some hv1947, rfl, trivial⟩) ?_
        refine s_unwant rfl rfl rfl ?_
        exact s_pred fun tm w ht hE hI => ⟨undef, [], _, fun d hd => (by cases hd; exact hE _ _ rfl), .refl _, by exact hI, ⟨rfl, rfl⟩⟩
      refine dcons ?_ ?_
      · intro V1949 G1950 H1951 fr1952 hle1953 hd1954
        obtain ⟨hv1956, hg1957⟩ := hd1954 15 (by decide)
        refine ⟨_, some (), rfl, fun _ => ?_⟩
        refine s_env (env' := [(53, .bool false), (10, .bool y14.2.2)]) (by exact ⟨congrArg some hv1956, rfl, trivial⟩) ?_
        refine s_unwant rfl rfl rfl ?_
        exact s_pred fun tm w ht hE hI => ⟨undef, [], _, fun d hd => (by cases hd; exact hE _ _ rfl), .refl _, by exact hI, ⟨rfl, rfl⟩⟩
      refine dcons ?_ ?_
      · intro V1958 G1959 H1960 fr1961 hle1962 hd1963
        obtain ⟨hv1965, hg1966⟩ := hd1963 15 (by decide)
        obtain ⟨hv1967, hg1968⟩ := hd1963 16 (by decide)
        obtain ⟨hv1969, hg1970⟩ := hd1963 17 (by decide)
        refine ⟨_, some (), rfl, fun _ => ?_⟩
        refine s_env (env' := [(53, .bool false), (54, undef), (55, undef)]) (by exact ⟨congrArg some hv1965, congrArg some hv1967, congrArg some hv1969, trivial⟩) ?_
        refine s_unwant rfl rfl rfl ?_
        exact s_pred fun tm w ht hE hI => ⟨undef, [], _, fun d hd => (by cases hd; exact hE _ _ rfl), .refl _, by exact hI, ⟨rfl, rfl⟩⟩
      refine dcons ?_ ?_
      · intro V1971 G1972 H1973 fr1974 hle1975 hd1976
        obtain ⟨hv1978, hg1979⟩ := hd1976 15 (by decide)
        obtain ⟨hv1980, hg1981⟩ := hd1976 18 (by decide)
        refine ⟨_, some (), rfl, fun _ => ?_⟩
        refine s_env (env' := [(53, .bool false), (56, undef)]) (by exact ⟨congrArg some hv1978, congrArg some hv1980, trivial⟩) ?_
        refine o_pickF rfl rfl rfl ?_
        exact s_pred fun tm w ht hE hI => ⟨(.bool false), [], _, fun d hd => (by cases hd; exact hE _ _ rfl), .refl _, by exact hI, ⟨rfl, rfl⟩⟩
      refine dcons ?_ ?_
      · intro V1982 G1983 H1984 fr1985 hle1986 hd1987
        obtain ⟨hv1989, hg1990⟩ := hd1987 19 (by decide)
        refine ⟨_, some (), rfl, fun _ => ?_⟩
        refine s_env (env' := [(57, .bool false)]) (by exact ⟨congrArg some hv1989, trivial⟩) ?_
        refine o_mov rfl ?_
        exact s_pred fun tm w ht hE hI => ⟨(.bool false), [], _, fun d hd => (by cases hd; exact hE _ _ rfl), .refl _, by exact hI, ⟨rfl, rfl⟩⟩
      refine dcons ?_ ?_
      · intro V1991 G1992 H1993 fr1994 hle1995 hd1996
        have hA1998 := All2.mono (fun _ _ => GoT.mono hle1995) hA27
        obtain ⟨hv1999, hg2000⟩ := hd1996 20 (by decide)
        refine ⟨_, some (), rfl, fun _ => ?_⟩
        refine s_env (env' := [(58, .bool false), (11, .slice a20 y18.length c21)]) (by exact ⟨congrArg some hv1999, rfl, trivial⟩) ?_
        refine s_unwant rfl rfl rfl ?_
        exact s_pred fun tm w ht hE hI => ⟨undef, [], _, fun d hd => (by cases hd; exact hE _ _ rfl), .refl _, by exact hI, ⟨rfl, rfl⟩⟩
      refine dcons ?_ ?_
      · intro V2001 G2002 H2003 fr2004 hle2005 hd2006
        have hs2008 := RSl.mono hle2005 hs26
        obtain ⟨hv2009, hg2010⟩ := hd2006 20 (by decide)
        refine ⟨_, some (), rfl, fun _ => ?_⟩
        refine s_env (env' := [(58, .bool false), (2, .pointer (some ⟨b1, 0, none⟩))]) (by exact ⟨congrArg some hv2009, rfl, trivial⟩) ?_
        refine s_unwant rfl rfl rfl ?_
        exact s_pred fun tm w ht hE hI => ⟨undef, [], _, fun d hd => (by cases hd; exact hE _ _ rfl), .refl _, by exact hI, ⟨rfl, rfl⟩⟩
      refine dcons ?_ ?_
      · intro V2011 G2012 H2013 fr2014 hle2015 hd2016
        obtain ⟨hv2018, hg2019⟩ := hd2016 20 (by decide)
        refine ⟨_, some (), rfl, fun _ => ?_⟩
        refine s_env (env' := [(58, .bool false), (3, .pointer (some ⟨b3, 0, none⟩))]) (by exact ⟨congrArg some hv2018, rfl, trivial⟩) ?_
        refine s_unwant rfl rfl rfl ?_
        exact s_pred fun tm w ht hE hI => ⟨undef, [], _, fun d hd => (by cases hd; exact hE _ _ rfl), .refl _, by exact hI, ⟨rfl, rfl⟩⟩
      refine dcons ?_ ?_
      · intro V2020 G2021 H2022 fr2023 hle2024 hd2025
        obtain ⟨hv2027, hg2028⟩ := hd2025 20 (by decide)
        obtain ⟨hv2029, hg2030⟩ := hd2025 23 (by decide)
        refine ⟨_, some (), rfl, fun _ => ?_⟩
        refine s_env (env' := [(58, .bool false), (61, undef)]) (by exact ⟨congrArg some hv2027, congrArg some hv2029, trivial⟩) ?_
        refine s_unwant rfl rfl rfl ?_
        exact s_pred fun tm w ht hE hI => ⟨undef, [], _, fun d hd => (by cases hd; exact hE _ _ rfl), .refl _, by exact hI, ⟨rfl, rfl⟩⟩
      refine dcons ?_ ?_
      · intro V2031 G2032 H2033 fr2034 hle2035 hd2036
        obtain ⟨hv2038, hg2039⟩ := hd2036 20 (by decide)
        obtain ⟨hv2040, hg2041⟩ := hd2036 22 (by decide)
        obtain ⟨hv2042, hg2043⟩ := hd2036 24 (by decide)
        refine ⟨_, some (), rfl, fun _ => ?_⟩
        refine s_env (env' := [(58, .bool false), (60, undef), (62, undef)]) (by exact ⟨congrArg some hv2038, congrArg some hv2040, congrArg some hv2042, trivial⟩) ?_
        refine s_unwant rfl rfl rfl ?_
        exact s_pred fun tm w ht hE hI => ⟨undef, [], _, fun d hd => (by cases hd; exact hE _ _ rfl), .refl _, by exact hI, ⟨rfl, rfl⟩⟩
      refine dcons ?_ ?_
      · intro V2044 G2045 H2046 fr2047 hle2048 hd2049
        obtain ⟨hv2051, hg2052⟩ := hd2049 20 (by decide)
        obtain ⟨hv2053, hg2054⟩ := hd2049 21 (by decide)
        obtain ⟨hv2055, hg2056⟩ := hd2049 25 (by decide)
        refine ⟨_, some (), rfl, fun _ => ?_⟩
        refine s_env (env' := [(58, .bool false), (59, undef), (63, undef)]) (by exact ⟨congrArg some hv2051, congrArg some hv2053, congrArg some hv2055, trivial⟩) ?_
        refine s_unwant rfl rfl rfl ?_
        exact s_pred fun tm w ht hE hI => ⟨undef, [], _, fun d hd => (by cases hd; exact hE _ _ rfl), .refl _, by exact hI, ⟨rfl, rfl⟩⟩
      refine dcons ?_ ?_
      · intro V2057 G2058 H2059 fr2060 hle2061 hd2062
        obtain ⟨hv2064, hg2065⟩ := hd2062 20 (by decide)
        obtain ⟨hv2066, hg2067⟩ := hd2062 26 (by decide)
        refine ⟨_, some (), rfl, fun _ => ?_⟩
        refine s_env (env' := [(58, .bool false), (64, undef)]) (by exact ⟨congrArg some hv2064, congrArg some hv2066, trivial⟩) ?_
        refine o_pickF rfl rfl rfl ?_
        exact s_pred fun tm w ht hE hI => ⟨(.bool false), [], _, fun d hd => (by cases hd; exact hE _ _ rfl), .refl _, by exact hI, ⟨rfl, rfl⟩⟩
      refine dcons ?_ ?_
      · intro V2068 G2069 H2070 fr2071 hle2072 hd2073
        obtain ⟨hv2075, hg2076⟩ := hd2073 27 (by decide)
        refine ⟨_, some (), rfl, fun _ => ?_⟩
        refine s_env (env' := [(65, .bool false)]) (by exact ⟨congrArg some hv2075, trivial⟩) ?_
        refine o_mov rfl ?_
        exact s_pred fun tm w ht hE hI => ⟨(.bool false), [], _, fun d hd => (by cases hd; exact hE _ _ rfl), .refl _, by exact hI, ⟨rfl, rfl⟩⟩
      refine dcons ?_ ?_
      · intro V2077 G2078 H2079 fr2080 hle2081 hd2082
        obtain ⟨hv2084, hg2085⟩ := hd2082 28 (by decide)
        refine ⟨_, some (), rfl, fun _ => ?_⟩
        refine s_env (env' := [(66, .bool false)]) (by exact ⟨congrArg some hv2084, trivial⟩) ?_
        refine s_unwant rfl rfl rfl ?_
        exact s_pred fun tm w ht hE hI => ⟨undef, [], _, fun d hd => (by cases hd; exact hE _ _ rfl), .refl _, by exact hI, ⟨rfl, rfl⟩⟩
      refine dcons ?_ ?_
      · intro V2086 G2087 H2088 fr2089 hle2090 hd2091
        obtain ⟨hv2093, hg2094⟩ := hd2091 28 (by decide)
        obtain ⟨hv2095, hg2096⟩ := hd2091 29 (by decide)
        refine ⟨_, some (), rfl, fun _ => ?_⟩
        refine s_env (env' := [(66, .bool false), (67, undef)]) (by exact ⟨congrArg some hv2093, congrArg some hv2095, trivial⟩) ?_
        refine o_pickF rfl rfl rfl ?_
        exact s_pred fun tm w ht hE hI => ⟨(.bool false), [], _, fun d hd => (by cases hd; exact hE _ _ rfl), .refl _, by exact hI, ⟨rfl, rfl⟩⟩
      exact dnil
    · intro V2099 G2100 H2097 hle2098 hF2101
      have hs2102 := RSl.mono hle2098 hs25
      have hs2103 := RSl.mono hle2098 hs26
      have hA2104 := All2.mono (fun _ _ => GoT.mono hle2098) hA27
      obtain ⟨hv2105, hg2106⟩ := hF2101 30 (show 30 < 31 by decide)
      refine s_env (env' := [(68, .bool false), (0, .agg #[.int .i64 x0.Switches, .slice a0_0 x0.Links.length c0_0]), (1, .agg #[.int .i64 x1.Switch, .int .i64 x1.Port]), (2, .pointer (some ⟨b1, 0, none⟩)), (3, .pointer (some ⟨b3, 0, none⟩)), (4, .bool false), (12, .pointer (some ⟨b1, 1, none⟩)), (13, .slice a0_0 x0.Links.length c0_0), (14, .pointer (some ⟨b1, 1, none⟩)), (15, .slice a0_0 x0.Links.length c0_0), (16, .int .i64 (x0.Links.length : Int)), (17, .int .i64 (imin (x0.Links.length : Int) 30)), (18, .slice a5 y7.length c6), (19, .pointer (some ⟨b1, 1, none⟩)), (21, .agg #[.int .i64 x0.Switches, .slice a5 y7.length c6]), (22, .agg #[.int .i64 x1.Switch, .int .i64 x1.Port]), (24, .agg #[.int .i64 y10.1.Switch, .int .i64 y10.1.Port]), (25, .int .i64 y10.2.1), (26, .bool y10.2.2), (5, .pointer (some ⟨b12, 0, none⟩)), (6, .int .i64 y10.2.1), (7, .bool y10.2.2), (28, .agg #[.int .i64 x0.Switches, .slice a5 y7.length c6]), (29, .agg #[.int .i64 x1.Switch, .int .i64 x1.Port]), (31, .agg #[.int .i64 y14.1.Switch, .int .i64 y14.1.Port]), (32, .int .i64 y14.2.1), (33, .bool y14.2.2), (8, .pointer (some ⟨b16, 0, none⟩)), (9, .int .i64 y14.2.1), (10, .bool y14.2.2), (34, .agg #[.int .i64 x0.Switches, .slice a5 y7.length c6]), (35, .pointer (some ⟨b3, 0, none⟩)), (36, .int .i64 x1.Switch), (37, .slice a20 y18.length c21), (11, .slice a20 y18.length c21)]) (by exact ⟨congrArg some hv2105, rfl, rfl, rfl, rfl, rfl, rfl, rfl, rfl, rfl, rfl, rfl, rfl, rfl, rfl, rfl, rfl, rfl, rfl, rfl, rfl, rfl, rfl, rfl, rfl, rfl, rfl, rfl, rfl, rfl, rfl, rfl, rfl, rfl, rfl, trivial⟩) ?_
      refine s_own (List.sublist_append_left _ _) ?_
      refine o_asg rfl ?_
      refine s_done ?_
      exact s_retv (xs := [.tmp 4]) (vs := [.bool false]) [] fn_3 rfl ⟨rv_tmp rfl, trivial⟩ (.cons _ (.cons _ (.cons _ (.cons _ (.cons _ .slnil))))) ⟨rfl, rfl⟩
end Go.Cat.G3
