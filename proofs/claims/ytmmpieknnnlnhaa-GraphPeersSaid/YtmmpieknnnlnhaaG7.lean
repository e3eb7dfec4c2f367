/- A text of the proof of the seat's laws: a step logic over the machine, or pure functions that the Go functions come to. No condition. -/
import Derived.Test.YtmmpieknnnlnhaaG6

namespace Go.Cat.G3
open Go Go.Cat Go.Proofs
set_option linter.unusedVariables false
set_option linter.unusedSimpArgs false

instance : TFun Try.prog 21 := ⟨_, (by kernel_rfl : Try.prog.funcs[21]? = some Try.f21), by decide, rfl⟩
instance : TFun Try.prog 22 := ⟨_, (by kernel_rfl : Try.prog.funcs[22]? = some Try.f22), by decide, rfl⟩
instance : TFun Try.prog 23 := ⟨_, (by kernel_rfl : Try.prog.funcs[23]? = some Try.f23), by decide, rfl⟩

/-! catenary/catenarylaw12.GraphPeers -/
def catenarylaw12_GraphPeers_l2 (k : Nat) (y6 : Graph) (s19 : Int) : Nat → Int → Option (LX (LX (Bool) (Unit)) (Unit))
  | 0, _ => none
  | q247 + 1, s246 =>
    if (decide (s246 ≤ 4)) = true then
      (graph_Peer k y6 (⟨s19, s246⟩ : End)).bind fun y256 =>
      (graph_Ports k y6 s19).bind fun y260 =>
      (catenarylaw12_in k y260 s246).bind fun y270 =>
      if (y256.2.2 != y270) = true then
        some (.ret (.ret false))
      else
        if (!y256.2.2) = true then
          catenarylaw12_GraphPeers_l2 k y6 s19 q247 (w64 (s246 + 1))
        else
          (graph_Peer k y6 y256.1).bind fun y274 =>
          (if (!y274.2.2) = true then
              some true
            else
              if (!(decide (y274.1 = (⟨s19, s246⟩ : End)))) = true then
                some true
              else
                if (y256.2.1 != y274.2.1) = true then
                  some true
                else
                  if (decide (y256.2.1 < 0)) = true then
                    some true
                  else
                    if (decide (y256.2.1 ≥ (y6.Links.length : Int))) = true then
                      some true
                    else
                      (rd y6.Links y256.2.1).bind fun y2592 =>
                      if (!(decide (y2592.A = (⟨s19, s246⟩ : End)))) = true then
                        (rd y6.Links y256.2.1).bind fun y2599 =>
                        some (!(decide (y2599.B = (⟨s19, s246⟩ : End))))
                      else
                        some false).bind fun p278 =>
          if (p278) = true then
            some (.ret (.ret false))
          else
            catenarylaw12_GraphPeers_l2 k y6 s19 q247 (w64 (s246 + 1))
    else
      some (.out ())
def catenarylaw12_GraphPeers_l1 (k : Nat) (x1 : (List Bool)) (y6 : Graph) (s19 : Int) : Nat → (List Int) × Int → Option (LX (LX (Bool) (Unit)) (Unit))
  | 0, _ => none
  | q56 + 1, s51 =>
    if (decide (s51.2 < (s51.1.length : Int))) = true then
      (rd s51.1 s51.2).bind fun y63 =>
      (graph_Reach k y6 x1 y63).bind fun y72 =>
      (catenaryref00_EqInts k y72 s51.1).bind fun y84 =>
      if (!y84) = true then
        some (.ret (.ret false))
      else
        catenarylaw12_GraphPeers_l1 k x1 y6 s19 q56 (s51.1, w64 (s51.2 + 1))
    else
      some (.out ())
def catenarylaw12_GraphPeers_l0 (k : Nat) (x1 : (List Bool)) (y6 : Graph) : Nat → Int → Option (LX (Bool) (Unit))
  | 0, _ => none
  | q20 + 1, s19 =>
    if (decide (s19 ≤ y6.Switches)) = true then
      (catenarylaw12_GraphPeers_l2 k y6 s19 k 1).bind (LX.go fun p27 =>
      (graph_Reach k y6 x1 s19).bind fun y32 =>
      (catenarylaw12_in k y32 s19).bind fun y42 =>
      if (!y42) = true then
        some (.ret false)
      else
        (catenarylaw12_GraphPeers_l1 k x1 y6 s19 k (y32, 0)).bind (LX.go fun p45 =>
        catenarylaw12_GraphPeers_l0 k x1 y6 q20 (w64 (s19 + 1))))
    else
      some (.out ())
def catenarylaw12_GraphPeers (k : Nat) (x0 : Graph) (x1 : (List Bool)) : Option Bool :=
  (catenarylaw12_works k).bind fun y3 =>
  if (!y3) = true then
    some false
  else
    (catenarylaw12_made k x0).bind fun y6 =>
    (catenarylaw12_GraphPeers_l0 k x1 y6 k 1).bind (LX.go fun p15 =>
    some true)
theorem fn_4 : Try.prog.funcs[4]? = some Try.f4 := by kernel_rfl
set_option maxRecDepth 100000 in
set_option maxHeartbeats 4000000 in
theorem catenarylaw12_GraphPeers_ok (k : Nat) (H : Heap) (x0 : Graph) (a0_0 : Option Addr) (c0_0 : Nat) (hx0_0 : RSl H a0_0 c0_0 x0.Links) (x1 : (List Bool)) (a1_0 : Option Addr) (c1_0 : Nat) (hx1_0 : RSl H a1_0 c1_0 x1) {r : Bool} (hr : catenarylaw12_GraphPeers k x0 x1 = some r) :
    Fn Try.prog 4 [.agg #[.int .i64 x0.Switches, .slice a0_0 x0.Links.length c0_0], .slice a1_0 x1.length c1_0] H [] fun H' v out => v = .bool r ∧ out = [] := by
  refine fn_of_sim (args := [.agg #[.int .i64 x0.Switches, .slice a0_0 x0.Links.length c0_0], .slice a1_0 x1.length c1_0]) (n := 123) (Φ := fun r H' v out => v = .bool r ∧ out = []) hr fn_4 rfl rfl rfl fun w => ?_
  refine s_eq (by rw [catenarylaw12_GraphPeers]) ?_
  refine s_seq ?_
  refine s_region ?_
  refine o_box rfl fun b1 => ?_
  refine o_asg rfl ?_
  refine s_done ?_
  refine s_seq ?_
  refine s_seq ?_
  refine s_region ?_
  refine s_bg fun y3 h4 => ?_
  refine s_callF rfl rfl (catenarylaw12_works_ok k _ h4) ?_
  refine o_not rfl ?_
  refine s_done ?_
  refine s_cond rfl (fun h5 => ?_) (fun h5 => ?_)
  · refine s_seq ?_
    refine s_region ?_
    refine o_asg rfl ?_
    refine s_done ?_
    exact s_retv (xs := [.tmp 4]) (vs := [.bool false]) [] fn_4 rfl ⟨rv_tmp rfl, trivial⟩ (.cons _ .slnil) ⟨rfl, rfl⟩
  · refine s_skip ?_
    refine s_seq ?_
    refine s_region ?_
    refine o_ld 0 rfl rfl rfl ?_
    refine s_bg fun y6 h7 => ?_
    refine s_call [] _ rfl rfl (.refl _) (catenarylaw12_made_ok k _ x0 _ _ hx0_0 h7) ?_
    rintro _ H11 _ hle12 ⟨a8, c9, rfl, rfl, hs10⟩
    have hs13 := RSl.mono hle12 hx0_0
    have hs14 := RSl.mono hle12 hx1_0
    refine s_ownN ?_
    refine o_st 0 rfl rfl rfl rfl rfl rfl ?_
    refine s_done ?_
    refine s_seq ?_
    refine s_seq ?_
    refine s_region ?_
    refine o_asg rfl ?_
    refine s_done ?_
    refine s_joinL (fun p15 env own H' => env = [] ∧ own = [] ∧ Hle H11 H') ?_ ?_
    · rintro p15 _ _ H16 ⟨rfl, rfl, hle17⟩
      refine s_seq ?_
      refine s_region ?_
      refine o_asg rfl ?_
      refine s_done ?_
      exact s_retv (xs := [.tmp 4]) (vs := [.bool true]) [] fn_4 rfl ⟨rv_tmp rfl, trivial⟩ .slnil ⟨rfl, rfl⟩
    · intro J18
      refine s_block ?_
      refine s_env (env' := [(1, .slice a1_0 x1.length c1_0), (2, .pointer (some ⟨b1, 0, none⟩)), (5, .int .i64 1)]) (by exact ⟨rfl, rfl, rfl, trivial⟩) ?_
      refine s_own (own' := [.blk b1 (rowObj [.int .i64 y6.Switches, .slice a8 y6.Links.length c9] 24)]) (.cons_cons _ .slnil) ?_
      refine s_loopn (fun q s19 => catenarylaw12_GraphPeers_l0 k x1 y6 q s19) (fun s19 env own H' => env = [(1, .slice a1_0 x1.length c1_0), (2, .pointer (some ⟨b1, 0, none⟩)), (5, .int .i64 s19)] ∧ own = [.blk b1 (rowObj [.int .i64 y6.Switches, .slice a8 y6.Links.length c9] 24)] ∧ Hle H11 H') (fun _ => rfl) ?_ k 1 ⟨rfl, rfl, .refl _⟩
      rintro q20 ih21 s19 _ _ H22 ⟨rfl, rfl, hle23⟩
      refine s_eq (by rw [catenarylaw12_GraphPeers_l0]) ?_
      have hs24 := RSl.mono hle23 hs14
      have hs25 := RSl.mono hle23 hs10
      refine s_seq ?_
      refine s_seq ?_
      refine s_region ?_
      refine o_mov rfl ?_
      refine o_fa rfl ?_
      refine o_ld 0 rfl rfl rfl ?_
      refine o_le rfl rfl ?_
      refine s_done ?_
      refine s_cond rfl (fun h26 => ?_) (fun h26 => ?_)
      · refine s_skip ?_
        refine s_seq ?_
        refine s_block ?_
        refine s_seq ?_
        refine s_seq ?_
        refine s_region ?_
        refine o_asg rfl ?_
        refine s_done ?_
        refine s_joinL (fun p27 env own H' => env = [(1, .slice a1_0 x1.length c1_0), (2, .pointer (some ⟨b1, 0, none⟩)), (5, .int .i64 s19)] ∧ own = [.blk b1 (rowObj [.int .i64 y6.Switches, .slice a8 y6.Links.length c9] 24)] ∧ Hle H22 H') ?_ ?_
        · rintro p27 _ _ H28 ⟨rfl, rfl, hle29⟩
          have hs30 := RSl.mono hle29 hs24
          have hs31 := RSl.mono hle29 hs25
          refine s_seq ?_
          refine s_region ?_
          refine o_ld 0 rfl rfl rfl ?_
          refine o_mov rfl ?_
          refine o_mov rfl ?_
          refine s_bg fun y32 h33 => ?_
          refine s_call [] _ rfl rfl (.refl _) (graph_Reach_ok k _ y6 _ _ hs31 x1 _ _ hs30 s19 h33) ?_
          rintro _ H37 _ hle38 ⟨a34, c35, rfl, rfl⟩
          have hs39 := RSl.mono hle38 hs30
          have hs40 := RSl.mono hle38 hs31
          have hA41 : All2 (GoT.rep H37) (y32.map GoE.enc) y32 := all2_enc _
          refine o_asg rfl ?_
          refine s_done ?_
          refine s_seq ?_
          refine s_seq ?_
          refine s_region ?_
          refine o_mov rfl ?_
          refine o_mov rfl ?_
          refine s_bg fun y42 h43 => ?_
          refine s_callL (Φ := fun v out => v = _ ∧ out = []) [] _ rfl rfl (.refl _) (fun H' hle hl => catenarylaw12_in_ok k _ y32 _ _ (lent_rsl (hl _ (List.mem_of_getElem? (i := 1) rfl)) hA41 hle).2 s19 h43) ?_
          rintro _ _ ⟨rfl, rfl⟩
          refine s_ownN ?_
          refine o_not rfl ?_
          refine s_done ?_
          refine s_cond rfl (fun h44 => ?_) (fun h44 => ?_)
          · refine s_seq ?_
            refine s_region ?_
            refine o_asg rfl ?_
            refine s_done ?_
            refine s_lret ?_
            exact s_retv (xs := [.tmp 4]) (vs := [.bool false]) [] fn_4 rfl ⟨rv_tmp rfl, trivial⟩ (.cons _ (.cons _ .slnil)) ⟨rfl, rfl⟩
          · refine s_skip ?_
            refine s_seq ?_
            refine s_region ?_
            refine o_asg rfl ?_
            refine s_done ?_
            refine s_joinL (fun p45 env own H' => env = [(1, .slice a1_0 x1.length c1_0), (2, .pointer (some ⟨b1, 0, none⟩)), (5, .int .i64 s19)] ∧ own = [.blk b1 (rowObj [.int .i64 y6.Switches, .slice a8 y6.Links.length c9] 24)] ∧ Hle H37 H') ?_ ?_
            · rintro p45 _ _ H46 ⟨rfl, rfl, hle47⟩
              have hs48 := RSl.mono hle47 hs39
              have hs49 := RSl.mono hle47 hs40
              refine s_inBlock ?_
              refine s_region ?_
              refine o_mov rfl ?_
              refine o_add rfl rfl ?_
              refine o_asg rfl ?_
              refine s_done ?_
              exact s_env (by exact ⟨rfl, rfl, rfl, trivial⟩) (s_own (by exact (.cons_cons _ .slnil)) (ih21 (w64 (s19 + 1)) _ _ _ ⟨rfl, rfl, (Hle.trans (Hle.trans (Hle.trans hle23 hle29) hle38) hle47)⟩))
            · intro J50
              refine s_block ?_
              refine s_env (env' := [(1, .slice a1_0 x1.length c1_0), (2, .pointer (some ⟨b1, 0, none⟩)), (5, .int .i64 s19), (14, .slice a34 y32.length c35), (15, .int .i64 0)]) (by exact ⟨rfl, rfl, rfl, rfl, rfl, trivial⟩) ?_
              refine s_own (own' := [.blk b1 (rowObj [.int .i64 y6.Switches, .slice a8 y6.Links.length c9] 24), .osl (.slice a34 y32.length c35) 1 3 (y32.map GoE.enc)]) (.cons_cons _ (.cons_cons _ .slnil)) ?_
              refine s_loopn (fun q s51 => catenarylaw12_GraphPeers_l1 k x1 y6 s19 q s51) (fun s51 env own H' => ∃ a52 c53 ls54, env = [(1, .slice a1_0 x1.length c1_0), (2, .pointer (some ⟨b1, 0, none⟩)), (5, .int .i64 s19), (14, .slice a52 s51.1.length c53), (15, .int .i64 s51.2)] ∧ own = [.blk b1 (rowObj [.int .i64 y6.Switches, .slice a8 y6.Links.length c9] 24), .osl (.slice a52 s51.1.length c53) 1 3 ls54] ∧ Hle H37 H' ∧ All2 (GoT.rep H') ls54 s51.1) (fun _ => rfl) ?_ k (y32, 0) ⟨_, _, _, rfl, rfl, .refl _, hA41⟩
              rintro q56 ih57 s51 _ _ H58 ⟨a52, c53, ls54, rfl, rfl, hle59, hA55⟩
              refine s_eq (by rw [catenarylaw12_GraphPeers_l1]) ?_
              have hs60 := RSl.mono hle59 hs39
              have hs61 := RSl.mono hle59 hs40
              refine s_seq ?_
              refine s_seq ?_
              refine s_region ?_
              refine o_mov rfl ?_
              refine o_mov rfl ?_
              refine o_lenS rfl ?_
              refine o_lt rfl rfl ?_
              refine s_done ?_
              refine s_cond rfl (fun h62 => ?_) (fun h62 => ?_)
              · refine s_skip ?_
                refine s_seq ?_
                refine s_block ?_
                refine s_seq ?_
                refine s_bg fun y63 h70 => ?_
                refine s_addr 1 rfl hA55 h70 fun bk65 ha71 => ?_
                subst ha71
                refine s_bg fun y72 h83 => ?_
                refine s_bg fun y84 h86 => ?_
                refine s_drawL [(fun H v g => v = Value.agg #[.int .i64 y6.Switches, .slice a8 y6.Links.length c9] ∧ g = [] ∧ RSl H a8 c9 y6.Links),
      (fun H v g => v = Value.slice a1_0 x1.length c1_0 ∧ g = [] ∧ RSl H a1_0 c1_0 x1),
      (fun H v g => v = Value.slice (some ⟨bk65, 0, none⟩) s51.1.length c53 ∧ g = []),
      (fun H v g => v = Value.int .i64 s51.2 ∧ g = []),
      (fun H v g => v = Value.pointer (some ⟨bk65, (s51.2 : Int).toNat * GoT.sz (Int), none⟩) ∧ g = [] ∧ (ls54)[(s51.2 : Int).toNat]? = some [.int .i64 y63]),
      (fun H v g => v = Value.int .i64 y63 ∧ g = []),
      (fun H v g => ∃ a94 c95, v = Value.slice a94 y72.length c95 ∧ g = [] ∧ RSl H a94 c95 y72),
      (fun H v g => v = Value.slice (some ⟨bk65, 0, none⟩) s51.1.length c53 ∧ g = []),
      (fun H v g => v = Value.bool y84 ∧ g = []),
      (fun H v g => v = Value.bool (!y84) ∧ g = [])] [[], [], [], [], [], [], [], [], [], []] mixed ⟨fun _ _ _ _ hle ⟨e1, e2, h0_⟩ => ⟨e1, e2, RSl.mono hle h0_⟩, fun _ _ _ _ hle ⟨e1, e2, h0_⟩ => ⟨e1, e2, RSl.mono hle h0_⟩, m0, m0, m0, m0, fun _ _ _ _ hle ⟨a94, c95, e1, e2, h0_⟩ => ⟨_, _, e1, e2, RSl.mono hle h0_⟩, m0, m0, m0, trivial⟩ (by kernel_rfl) (by kernel_rfl) rfl (by kernel_rfl) rfl rfl ?_ ?_
                · refine dcons ?_ ?_
                  · intro _ _ H113 fr114 hle115 hd116
                    have hs118 := RSl.mono hle115 hs61
                    refine ⟨_, some (), rfl, fun _ => ?_⟩
                    refine s_env (env' := [(2, .pointer (some ⟨b1, 0, none⟩))]) (by exact ⟨rfl, trivial⟩) ?_
                    refine o_ld 0 rfl rfl rfl ?_
                    exact s_pred fun _ _ _ hE hI => ⟨(.agg #[.int .i64 y6.Switches, .slice a8 y6.Links.length c9]), [], _, fun _ e => (by cases e; exact hE _ _ rfl), .refl _, by exact hI, ⟨rfl, rfl, hs118⟩⟩
                  refine dcons ?_ ?_
                  · intro _ _ H121 fr122 hle123 hd124
                    have hs126 := RSl.mono hle123 hs60
                    refine ⟨_, some (), rfl, fun _ => ?_⟩
                    refine s_env (env' := [(1, .slice a1_0 x1.length c1_0)]) (by exact ⟨rfl, trivial⟩) ?_
                    refine o_mov rfl ?_
                    exact s_pred fun _ _ _ hE hI => ⟨(.slice a1_0 x1.length c1_0), [], _, fun _ e => (by cases e; exact hE _ _ rfl), .refl _, by exact hI, ⟨rfl, rfl, hs126⟩⟩
                  refine dcons ?_ ?_
                  · intro _ _ H129 fr130 hle131 hd132
                    have hA134 := All2.mono (fun _ _ => GoT.mono hle131) hA55
                    refine ⟨_, some (), rfl, fun _ => ?_⟩
                    refine s_env (env' := [(14, .slice (some ⟨bk65, 0, none⟩) s51.1.length c53)]) (by exact ⟨rfl, trivial⟩) ?_
                    refine o_mov rfl ?_
                    exact s_pred fun _ _ _ hE hI => ⟨(.slice (some ⟨bk65, 0, none⟩) s51.1.length c53), [], _, fun _ e => (by cases e; exact hE _ _ rfl), .refl _, by exact hI, ⟨rfl, rfl⟩⟩
                  refine dcons ?_ ?_
                  · intro _ _ H137 fr138 hle139 hd140
                    refine ⟨_, some (), rfl, fun _ => ?_⟩
                    refine s_env (env' := [(15, .int .i64 s51.2)]) (by exact ⟨rfl, trivial⟩) ?_
                    refine o_mov rfl ?_
                    exact s_pred fun _ _ _ hE hI => ⟨(.int .i64 s51.2), [], _, fun _ e => (by cases e; exact hE _ _ rfl), .refl _, by exact hI, ⟨rfl, rfl⟩⟩
                  refine dcons ?_ ?_
                  · intro _ _ H144 fr145 hle146 hd147
                    have hA149 := All2.mono (fun _ _ => GoT.mono hle146) hA55
                    obtain ⟨hv150, hg151⟩ := hd147 2 (by decide)
                    obtain ⟨hv152, hg153⟩ := hd147 3 (by decide)
                    refine ⟨_, (rd s51.1 s51.2).bind some, by rw [h70]; rfl, fun _ => ?_⟩
                    refine s_env (env' := [(115, .slice (some ⟨bk65, 0, none⟩) s51.1.length c53), (116, .int .i64 s51.2)]) (by exact ⟨congrArg some hv150, congrArg some hv152, trivial⟩) ?_
                    refine o_ixO 1 rfl hA149 rfl rfl fun y63 bk155 vs156 h154 ha157 hi158 hr159 => ?_
                    subst hr159
                    obtain rfl := s_bk ha157
                    obtain rfl := Option.some.inj (h70.symm.trans h154)
                    exact s_pred fun _ _ _ hE hI => ⟨(.pointer (some ⟨bk65, (s51.2 : Int).toNat * GoT.sz (Int), none⟩)), [], _, fun _ e => (by cases e; exact hE _ _ rfl), .refl _, by exact hI, ⟨rfl, rfl, hi158⟩⟩
                  refine dcons ?_ ?_
                  · intro _ _ H162 fr163 hle164 hd165
                    have hA167 := All2.mono (fun _ _ => GoT.mono hle164) hA55
                    obtain ⟨hv168, hg169, hp170⟩ := hd165 4 (by decide)
                    refine ⟨_, some (), rfl, fun _ => ?_⟩
                    refine s_env (env' := [(117, .pointer (some ⟨bk65, (s51.2 : Int).toNat * GoT.sz (Int), none⟩))]) (by exact ⟨congrArg some hv168, trivial⟩) ?_
                    refine o_ldO 1 0 rfl hp170 rfl rfl rfl ?_
                    exact s_pred fun _ _ _ hE hI => ⟨(.int .i64 y63), [], _, fun _ e => (by cases e; exact hE _ _ rfl), .refl _, by exact hI, ⟨rfl, rfl⟩⟩
                  refine dcons ?_ ?_
                  · intro _ _ H173 fr174 hle175 hd176
                    obtain ⟨hv178, hg179, hp180⟩ := hd176 0 (by decide)
                    obtain ⟨hv181, hg182, hp183⟩ := hd176 1 (by decide)
                    obtain ⟨hv184, hg185⟩ := hd176 5 (by decide)
                    refine ⟨_, (graph_Reach k y6 x1 y63).bind some, by rw [h83]; rfl, fun _ => ?_⟩
                    refine s_env (env' := [(113, .agg #[.int .i64 y6.Switches, .slice a8 y6.Links.length c9]), (114, .slice a1_0 x1.length c1_0), (118, .int .i64 y63)]) (by exact ⟨congrArg some hv178, congrArg some hv181, congrArg some hv184, trivial⟩) ?_
                    refine s_bg fun y72 h186 => ?_
                    refine s_call [] _ rfl rfl (.refl _) (graph_Reach_ok k _ y6 _ _ hp180 x1 _ _ hp183 y63 h186) ?_
                    rintro _ H190 _ hle191 ⟨a187, c188, rfl, rfl⟩
                    have hs192 := RSl.mono hle191 hp180
                    have hs193 := RSl.mono hle191 hp183
                    have hA194 : All2 (GoT.rep H190) (y72.map GoE.enc) y72 := all2_enc _
                    obtain rfl := Option.some.inj (h83.symm.trans h186)
                    refine s_perm (own' := [.blk b1 (rowObj [.int .i64 y6.Switches, .slice a8 y6.Links.length c9] 24), .osl (.slice (some ⟨bk65, 0, none⟩) s51.1.length c53) 1 3 ls54, .osl (.slice a187 y72.length c188) 1 3 (y72.map GoE.enc)] ++ fr174) (pm3 (a := [.blk b1 (rowObj [.int .i64 y6.Switches, .slice a8 y6.Links.length c9] 24), .osl (.slice (some ⟨bk65, 0, none⟩) s51.1.length c53) 1 3 ls54]) (xs := [.osl (.slice a187 y72.length c188) 1 3 (y72.map GoE.enc)])) ?_
                    refine s_frz 2 (fun b => .inl (by simp [ids])) rfl hA194 fun H195 hle196 hn197 hs198 => ?_
                    have hs199 := RSl.mono hle196 hs192
                    have hs200 := RSl.mono hle196 hs193
                    exact s_pred fun _ _ _ hE hI => ⟨(.slice a187 y72.length c188), [], _, fun _ e => (by cases e; exact hE _ _ rfl), (Hle.trans hle191 hle196), by exact hI, ⟨a187, c188, rfl, rfl, hs198⟩⟩
                  refine dcons ?_ ?_
                  · intro _ _ H203 fr204 hle205 hd206
                    have hA208 := All2.mono (fun _ _ => GoT.mono hle205) hA55
                    refine ⟨_, some (), rfl, fun _ => ?_⟩
                    refine s_env (env' := [(14, .slice (some ⟨bk65, 0, none⟩) s51.1.length c53)]) (by exact ⟨rfl, trivial⟩) ?_
                    refine o_mov rfl ?_
                    exact s_pred fun _ _ _ hE hI => ⟨(.slice (some ⟨bk65, 0, none⟩) s51.1.length c53), [], _, fun _ e => (by cases e; exact hE _ _ rfl), .refl _, by exact hI, ⟨rfl, rfl⟩⟩
                  refine dcons ?_ ?_
                  · intro _ _ H211 fr212 hle213 hd214
                    have hA216 := All2.mono (fun _ _ => GoT.mono hle213) hA55
                    obtain ⟨a217, c218, hv219, hg220, hp221⟩ := hd214 6 (by decide)
                    obtain ⟨hv222, hg223⟩ := hd214 7 (by decide)
                    refine ⟨_, (catenaryref00_EqInts k y72 s51.1).bind some, by rw [h86]; rfl, fun _ => ?_⟩
                    refine s_env (env' := [(119, .slice a217 y72.length c218), (120, .slice (some ⟨bk65, 0, none⟩) s51.1.length c53)]) (by exact ⟨congrArg some hv219, congrArg some hv222, trivial⟩) ?_
                    refine s_bg fun y84 h224 => ?_
                    refine s_callL (Φ := fun v out => v = _ ∧ out = []) [] _ rfl rfl (.refl _) (fun H' hle hl => catenaryref00_EqInts_ok k _ y72 _ _ (RSl.mono hle hp221) s51.1 _ _ (lent_rsl (hl _ (List.mem_of_getElem? (i := 1) rfl)) hA216 hle).2 h224) ?_
                    rintro _ _ ⟨rfl, rfl⟩
                    refine s_ownN ?_
                    obtain rfl := Option.some.inj (h86.symm.trans h224)
                    exact s_pred fun _ _ _ hE hI => ⟨(.bool y84), [], _, fun _ e => (by cases e; exact hE _ _ rfl), .refl _, by exact hI, ⟨rfl, rfl⟩⟩
                  refine dcons ?_ ?_
                  · intro _ _ H227 fr228 hle229 hd230
                    obtain ⟨hv232, hg233⟩ := hd230 8 (by decide)
                    refine ⟨_, some (), rfl, fun _ => ?_⟩
                    refine s_env (env' := [(121, .bool y84)]) (by exact ⟨congrArg some hv232, trivial⟩) ?_
                    refine o_not rfl ?_
                    exact s_pred fun _ _ _ hE hI => ⟨(.bool (!y84)), [], _, fun _ e => (by cases e; exact hE _ _ rfl), .refl _, by exact hI, ⟨rfl, rfl⟩⟩
                  exact dnil
                · intro V236 G237 H234 hle235 hF238
                  have hs239 := RSl.mono hle235 hs60
                  have hs240 := RSl.mono hle235 hs61
                  have hA241 := All2.mono (fun _ _ => GoT.mono hle235) hA55
                  obtain ⟨hv242, hg243⟩ := hF238 9 (show 9 < 10 by decide)
                  refine s_env (env' := [(122, .bool (!y84)), (1, .slice a1_0 x1.length c1_0), (2, .pointer (some ⟨b1, 0, none⟩)), (5, .int .i64 s19), (14, .slice (some ⟨bk65, 0, none⟩) s51.1.length c53), (15, .int .i64 s51.2), (107, .int .i64 s51.2), (108, .slice (some ⟨bk65, 0, none⟩) s51.1.length c53), (109, .int .i64 (s51.1.length : Int)), (110, .bool (decide (s51.2 < (s51.1.length : Int))))]) (by exact ⟨congrArg some hv242, rfl, rfl, rfl, rfl, rfl, rfl, rfl, rfl, rfl, trivial⟩) ?_
                  refine s_own (List.sublist_append_left _ _) ?_
                  refine s_done ?_
                  refine s_cond rfl (fun h244 => ?_) (fun h244 => ?_)
                  · refine s_seq ?_
                    refine s_region ?_
                    refine o_asg rfl ?_
                    refine s_done ?_
                    refine s_lret ?_
                    refine s_lret ?_
                    exact s_retv (xs := [.tmp 4]) (vs := [.bool false]) [] fn_4 rfl ⟨rv_tmp rfl, trivial⟩ (.cons _ (.cons _ .slnil)) ⟨rfl, rfl⟩
                  · refine s_skip ?_
                    refine s_inBlock ?_
                    refine s_region ?_
                    refine o_mov rfl ?_
                    refine o_add rfl rfl ?_
                    refine o_asg rfl ?_
                    refine s_done ?_
                    exact s_env (by exact ⟨rfl, rfl, rfl, rfl, rfl, trivial⟩) (s_own (by exact (.cons_cons _ (.cons_cons _ .slnil))) (ih57 (s51.1, w64 (s51.2 + 1)) _ _ _ ⟨_, _, _, rfl, rfl, (Hle.trans hle59 hle235), hA241⟩))
              · refine s_exit rfl ?_
                exact s_env (by exact ⟨rfl, rfl, rfl, trivial⟩) (s_own (by exact (.cons_cons _ (.cons _ .slnil))) (J50 () _ _ _ ⟨rfl, rfl, hle59⟩))
        · intro J245
          refine s_block ?_
          refine s_env (env' := [(1, .slice a1_0 x1.length c1_0), (2, .pointer (some ⟨b1, 0, none⟩)), (5, .int .i64 s19), (6, .int .i64 1)]) (by exact ⟨rfl, rfl, rfl, rfl, trivial⟩) ?_
          refine s_own (own' := [.blk b1 (rowObj [.int .i64 y6.Switches, .slice a8 y6.Links.length c9] 24)]) (.cons_cons _ .slnil) ?_
          refine s_loopn (fun q s246 => catenarylaw12_GraphPeers_l2 k y6 s19 q s246) (fun s246 env own H' => env = [(1, .slice a1_0 x1.length c1_0), (2, .pointer (some ⟨b1, 0, none⟩)), (5, .int .i64 s19), (6, .int .i64 s246)] ∧ own = [.blk b1 (rowObj [.int .i64 y6.Switches, .slice a8 y6.Links.length c9] 24)] ∧ Hle H22 H') (fun _ => rfl) ?_ k 1 ⟨rfl, rfl, .refl _⟩
          rintro q247 ih248 s246 _ _ H249 ⟨rfl, rfl, hle250⟩
          refine s_eq (by rw [catenarylaw12_GraphPeers_l2]) ?_
          have hs251 := RSl.mono hle250 hs24
          have hs252 := RSl.mono hle250 hs25
          refine s_seq ?_
          refine s_seq ?_
          refine s_region ?_
          refine o_mov rfl ?_
          refine o_le rfl rfl ?_
          refine s_done ?_
          refine s_cond rfl (fun h253 => ?_) (fun h253 => ?_)
          · refine s_skip ?_
            refine s_seq ?_
            refine s_block ?_
            refine s_seq ?_
            refine s_region ?_
            refine o_mov rfl ?_
            refine o_mov rfl ?_
            refine o_bld rfl rfl ?_
            refine o_alloc fun b254 => ?_
            refine o_st 1 rfl rfl rfl rfl rfl rfl ?_
            refine s_done ?_
            refine s_seq ?_
            refine s_region ?_
            refine o_ld 0 rfl rfl rfl ?_
            refine o_ld 1 rfl rfl rfl ?_
            refine s_bg fun y256 h257 => ?_
            refine s_callF rfl rfl (graph_Peer_ok k _ y6 _ _ hs252 (⟨s19, s246⟩ : End) h257) ?_
            refine o_mov rfl ?_
            refine o_ext rfl rfl ?_
            refine o_ext rfl rfl ?_
            refine o_ext rfl rfl ?_
            refine o_alloc fun b258 => ?_
            refine o_st 2 rfl rfl rfl rfl rfl rfl ?_
            refine o_asg rfl ?_
            refine o_asg rfl ?_
            refine s_done ?_
            refine s_seq ?_
            refine s_seq ?_
            refine s_region ?_
            refine o_mov rfl ?_
            refine o_ld 0 rfl rfl rfl ?_
            refine o_mov rfl ?_
            refine s_bg fun y260 h261 => ?_
            refine s_call [] _ rfl rfl (.refl _) (graph_Ports_ok k _ y6 _ _ hs252 s19 h261) ?_
            rintro _ H265 _ hle266 ⟨a262, c263, rfl, rfl⟩
            have hs267 := RSl.mono hle266 hs251
            have hs268 := RSl.mono hle266 hs252
            have hA269 : All2 (GoT.rep H265) (y260.map GoE.enc) y260 := all2_enc _
            refine o_mov rfl ?_
            refine s_bg fun y270 h271 => ?_
            refine s_callL (Φ := fun v out => v = _ ∧ out = []) [] _ rfl rfl (.refl _) (fun H' hle hl => catenarylaw12_in_ok k _ y260 _ _ (lent_rsl (hl _ (List.mem_of_getElem? (i := 3) rfl)) hA269 hle).2 s246 h271) ?_
            rintro _ _ ⟨rfl, rfl⟩
            refine s_ownN ?_
            refine o_neb rfl rfl ?_
            refine s_done ?_
            refine s_cond rfl (fun h272 => ?_) (fun h272 => ?_)
            · refine s_seq ?_
              refine s_region ?_
              refine o_asg rfl ?_
              refine s_done ?_
              refine s_lret ?_
              refine s_lret ?_
              exact s_retv (xs := [.tmp 4]) (vs := [.bool false]) [] fn_4 rfl ⟨rv_tmp rfl, trivial⟩ (.cons _ (.cons _ (.cons _ (.cons _ .slnil)))) ⟨rfl, rfl⟩
            · refine s_skip ?_
              refine s_seq ?_
              refine s_seq ?_
              refine s_region ?_
              refine o_mov rfl ?_
              refine o_not rfl ?_
              refine s_done ?_
              refine s_cond rfl (fun h273 => ?_) (fun h273 => ?_)
              · refine s_exit rfl ?_
                refine s_region ?_
                refine o_mov rfl ?_
                refine o_add rfl rfl ?_
                refine o_asg rfl ?_
                refine s_done ?_
                exact s_env (by exact ⟨rfl, rfl, rfl, rfl, trivial⟩) (s_own (by exact (.cons_cons _ (.cons _ (.cons _ (.cons _ .slnil))))) (ih248 (w64 (s246 + 1)) _ _ _ ⟨rfl, rfl, (Hle.trans hle250 hle266)⟩))
              · refine s_skip ?_
                refine s_seq ?_
                refine s_region ?_
                refine o_ld 0 rfl rfl rfl ?_
                refine o_ld 2 rfl rfl rfl ?_
                refine s_bg fun y274 h275 => ?_
                refine s_callF rfl rfl (graph_Peer_ok k _ y6 _ _ hs268 y256.1 h275) ?_
                refine o_mov rfl ?_
                refine o_ext rfl rfl ?_
                refine o_ext rfl rfl ?_
                refine o_ext rfl rfl ?_
                refine o_alloc fun b276 => ?_
                refine o_st 4 rfl rfl rfl rfl rfl rfl ?_
                refine o_asg rfl ?_
                refine o_asg rfl ?_
                refine s_done ?_
                refine s_seq ?_
                refine s_join (fun p278 env own H' => env = [(1, .slice a1_0 x1.length c1_0), (2, .pointer (some ⟨b1, 0, none⟩)), (5, .int .i64 s19), (6, .int .i64 s246), (98, .bool p278)] ∧ own = [.blk b1 (rowObj [.int .i64 y6.Switches, .slice a8 y6.Links.length c9] 24)] ∧ Hle H265 H') ?_ ?_
                · rintro p278 _ _ H279 ⟨rfl, rfl, hle280⟩
                  have hs281 := RSl.mono hle280 hs267
                  have hs282 := RSl.mono hle280 hs268
                  refine s_cond rfl (fun h283 => ?_) (fun h283 => ?_)
                  · refine s_seq ?_
                    refine s_region ?_
                    refine o_asg rfl ?_
                    refine s_done ?_
                    refine s_lret ?_
                    refine s_lret ?_
                    exact s_retv (xs := [.tmp 4]) (vs := [.bool false]) [] fn_4 rfl ⟨rv_tmp rfl, trivial⟩ (.cons _ .slnil) ⟨rfl, rfl⟩
                  · refine s_skip ?_
                    refine s_inBlock ?_
                    refine s_region ?_
                    refine o_mov rfl ?_
                    refine o_add rfl rfl ?_
                    refine o_asg rfl ?_
                    refine s_done ?_
                    exact s_env (by exact ⟨rfl, rfl, rfl, rfl, trivial⟩) (s_own (by exact (.cons_cons _ .slnil)) (ih248 (w64 (s246 + 1)) _ _ _ ⟨rfl, rfl, (Hle.trans (Hle.trans hle250 hle266) hle280)⟩))
                · intro J284
                  refine s_split (!y274.2.2) (fun h285 => ?_) (fun h285 => ?_)
                  · refine s_drawL [(fun H v g => v = Value.bool y274.2.2 ∧ g = []),
      (fun H v g => v = Value.bool (!y274.2.2) ∧ g = []),
      (fun H v g => v = Value.bool (!y274.2.2) ∧ g = []),
      uF,
      uF,
      uF,
      (fun H v g => v = Value.bool true ∧ g = []),
      (fun H v g => v = Value.bool true ∧ g = []),
      uF,
      uF,
      uF,
      (fun H v g => v = Value.bool true ∧ g = []),
      (fun H v g => v = Value.bool true ∧ g = []),
      uF,
      uF,
      (fun H v g => v = Value.bool true ∧ g = []),
      (fun H v g => v = Value.bool true ∧ g = []),
      uF,
      uF,
      uF,
      uF,
      uF,
      (fun H v g => v = Value.bool true ∧ g = []),
      (fun H v g => v = Value.bool true ∧ g = []),
      uF,
      uF,
      uF,
      uF,
      uF,
      uF,
      uF,
      uF,
      uF,
      uF,
      uF,
      uF,
      uF,
      uF,
      uF,
      uF,
      uF,
      uF,
      (fun H v g => v = Value.bool true ∧ g = [])] [[], [], [], [], [], [], [], [], [], [], [], [], [], [], [], [], [], [], [], [], [], [], [], [], [], [], [], [], [], [], [], [], [], [], [], [], [], [], [], [], [], [], []] mixed ⟨m0, m0, m0, m0, m0, m0, m0, m0, m0, m0, m0, m0, m0, m0, m0, m0, m0, m0, m0, m0, m0, m0, m0, m0, m0, m0, m0, m0, m0, m0, m0, m0, m0, m0, m0, m0, m0, m0, m0, m0, m0, m0, m0, trivial⟩ (by kernel_rfl) (by kernel_rfl) rfl (by kernel_rfl) rfl rfl ?_ ?_
                    · refine dcons ?_ ?_
                      · intro _ _ H288 fr289 hle290 hd291
                        refine ⟨_, some (), rfl, fun _ => ?_⟩
                        refine s_env (env' := [(13, .bool y274.2.2)]) (by exact ⟨rfl, trivial⟩) ?_
                        refine o_mov rfl ?_
                        exact s_pred fun _ _ _ hE hI => ⟨(.bool y274.2.2), [], _, fun _ e => (by cases e; exact hE _ _ rfl), .refl _, by exact hI, ⟨rfl, rfl⟩⟩
                      refine dcons ?_ ?_
                      · intro _ _ H295 fr296 hle297 hd298
                        obtain ⟨hv300, hg301⟩ := hd298 0 (by decide)
                        refine ⟨_, some (), rfl, fun _ => ?_⟩
                        refine s_env (env' := [(56, .bool y274.2.2)]) (by exact ⟨congrArg some hv300, trivial⟩) ?_
                        refine o_not rfl ?_
                        exact s_pred fun _ _ _ hE hI => ⟨(.bool (!y274.2.2)), [], _, fun _ e => (by cases e; exact hE _ _ rfl), .refl _, by exact hI, ⟨rfl, rfl⟩⟩
                      refine dcons ?_ ?_
                      · intro _ _ H304 fr305 hle306 hd307
                        obtain ⟨hv309, hg310⟩ := hd307 1 (by decide)
                        refine ⟨_, some (), rfl, fun _ => ?_⟩
                        refine s_env (env' := [(57, .bool (!y274.2.2))]) (by exact ⟨congrArg some hv309, trivial⟩) ?_
                        refine o_mov rfl ?_
                        exact s_pred fun _ _ _ hE hI => ⟨(.bool (!y274.2.2)), [], _, fun _ e => (by cases e; exact hE _ _ rfl), .refl _, by exact hI, ⟨rfl, rfl⟩⟩
                      refine dcons ?_ ?_
                      · intro _ _ H313 fr314 hle315 hd316
                        obtain ⟨hv318, hg319⟩ := hd316 2 (by decide)
                        refine ⟨_, some (), rfl, fun _ => ?_⟩
                        refine s_env (env' := [(58, .bool (!y274.2.2)), (11, .pointer (some ⟨b276, 0, none⟩))]) (by exact ⟨congrArg some hv318, rfl, trivial⟩) ?_
                        refine s_unwant rfl rfl h285 ?_
                        exact s_pred fun _ _ _ hE hI => ⟨undef, [], _, fun _ e => (by cases e; exact hE _ _ rfl), .refl _, by exact hI, ⟨rfl, rfl⟩⟩
                      refine dcons ?_ ?_
                      · intro _ _ H322 fr323 hle324 hd325
                        obtain ⟨hv327, hg328⟩ := hd325 2 (by decide)
                        refine ⟨_, some (), rfl, fun _ => ?_⟩
                        refine s_env (env' := [(58, .bool (!y274.2.2)), (7, .pointer (some ⟨b254, 0, none⟩))]) (by exact ⟨congrArg some hv327, rfl, trivial⟩) ?_
                        refine s_unwant rfl rfl h285 ?_
                        exact s_pred fun _ _ _ hE hI => ⟨undef, [], _, fun _ e => (by cases e; exact hE _ _ rfl), .refl _, by exact hI, ⟨rfl, rfl⟩⟩
                      refine dcons ?_ ?_
                      · intro _ _ H331 fr332 hle333 hd334
                        obtain ⟨hv336, hg337⟩ := hd334 2 (by decide)
                        obtain ⟨hv338, hg339⟩ := hd334 3 (by decide)
                        obtain ⟨hv340, hg341⟩ := hd334 4 (by decide)
                        refine ⟨_, some (), rfl, fun _ => ?_⟩
                        refine s_env (env' := [(58, .bool (!y274.2.2)), (59, undef), (60, undef)]) (by exact ⟨congrArg some hv336, congrArg some hv338, congrArg some hv340, trivial⟩) ?_
                        refine s_unwant rfl rfl h285 ?_
                        exact s_pred fun _ _ _ hE hI => ⟨undef, [], _, fun _ e => (by cases e; exact hE _ _ rfl), .refl _, by exact hI, ⟨rfl, rfl⟩⟩
                      refine dcons ?_ ?_
                      · intro _ _ H344 fr345 hle346 hd347
                        obtain ⟨hv349, hg350⟩ := hd347 2 (by decide)
                        obtain ⟨hv351, hg352⟩ := hd347 5 (by decide)
                        refine ⟨_, some (), rfl, fun _ => ?_⟩
                        refine s_env (env' := [(58, .bool (!y274.2.2)), (61, undef)]) (by exact ⟨congrArg some hv349, congrArg some hv351, trivial⟩) ?_
                        refine o_pickT rfl h285 rfl ?_
                        exact s_pred fun _ _ _ hE hI => ⟨(.bool true), [], _, fun _ e => (by cases e; exact hE _ _ rfl), .refl _, by exact hI, ⟨rfl, rfl⟩⟩
                      refine dcons ?_ ?_
                      · intro _ _ H355 fr356 hle357 hd358
                        obtain ⟨hv360, hg361⟩ := hd358 6 (by decide)
                        refine ⟨_, some (), rfl, fun _ => ?_⟩
                        refine s_env (env' := [(62, .bool true)]) (by exact ⟨congrArg some hv360, trivial⟩) ?_
                        refine o_mov rfl ?_
                        exact s_pred fun _ _ _ hE hI => ⟨(.bool true), [], _, fun _ e => (by cases e; exact hE _ _ rfl), .refl _, by exact hI, ⟨rfl, rfl⟩⟩
                      refine dcons ?_ ?_
                      · intro _ _ H364 fr365 hle366 hd367
                        obtain ⟨hv369, hg370⟩ := hd367 7 (by decide)
                        refine ⟨_, some (), rfl, fun _ => ?_⟩
                        refine s_env (env' := [(63, .bool true), (9, .int .i64 y256.2.1)]) (by exact ⟨congrArg some hv369, rfl, trivial⟩) ?_
                        refine s_unwant rfl rfl rfl ?_
                        exact s_pred fun _ _ _ hE hI => ⟨undef, [], _, fun _ e => (by cases e; exact hE _ _ rfl), .refl _, by exact hI, ⟨rfl, rfl⟩⟩
                      refine dcons ?_ ?_
                      · intro _ _ H373 fr374 hle375 hd376
                        obtain ⟨hv378, hg379⟩ := hd376 7 (by decide)
                        refine ⟨_, some (), rfl, fun _ => ?_⟩
                        refine s_env (env' := [(63, .bool true), (12, .int .i64 y274.2.1)]) (by exact ⟨congrArg some hv378, rfl, trivial⟩) ?_
                        refine s_unwant rfl rfl rfl ?_
                        exact s_pred fun _ _ _ hE hI => ⟨undef, [], _, fun _ e => (by cases e; exact hE _ _ rfl), .refl _, by exact hI, ⟨rfl, rfl⟩⟩
                      refine dcons ?_ ?_
                      · intro _ _ H382 fr383 hle384 hd385
                        obtain ⟨hv387, hg388⟩ := hd385 7 (by decide)
                        obtain ⟨hv389, hg390⟩ := hd385 8 (by decide)
                        obtain ⟨hv391, hg392⟩ := hd385 9 (by decide)
                        refine ⟨_, some (), rfl, fun _ => ?_⟩
                        refine s_env (env' := [(63, .bool true), (64, undef), (65, undef)]) (by exact ⟨congrArg some hv387, congrArg some hv389, congrArg some hv391, trivial⟩) ?_
                        refine s_unwant rfl rfl rfl ?_
                        exact s_pred fun _ _ _ hE hI => ⟨undef, [], _, fun _ e => (by cases e; exact hE _ _ rfl), .refl _, by exact hI, ⟨rfl, rfl⟩⟩
                      refine dcons ?_ ?_
                      · intro _ _ H395 fr396 hle397 hd398
                        obtain ⟨hv400, hg401⟩ := hd398 7 (by decide)
                        obtain ⟨hv402, hg403⟩ := hd398 10 (by decide)
                        refine ⟨_, some (), rfl, fun _ => ?_⟩
                        refine s_env (env' := [(63, .bool true), (66, undef)]) (by exact ⟨congrArg some hv400, congrArg some hv402, trivial⟩) ?_
                        refine o_pickT rfl rfl rfl ?_
                        exact s_pred fun _ _ _ hE hI => ⟨(.bool true), [], _, fun _ e => (by cases e; exact hE _ _ rfl), .refl _, by exact hI, ⟨rfl, rfl⟩⟩
                      refine dcons ?_ ?_
                      · intro _ _ H406 fr407 hle408 hd409
                        obtain ⟨hv411, hg412⟩ := hd409 11 (by decide)
                        refine ⟨_, some (), rfl, fun _ => ?_⟩
                        refine s_env (env' := [(67, .bool true)]) (by exact ⟨congrArg some hv411, trivial⟩) ?_
                        refine o_mov rfl ?_
                        exact s_pred fun _ _ _ hE hI => ⟨(.bool true), [], _, fun _ e => (by cases e; exact hE _ _ rfl), .refl _, by exact hI, ⟨rfl, rfl⟩⟩
                      refine dcons ?_ ?_
                      · intro _ _ H415 fr416 hle417 hd418
                        obtain ⟨hv420, hg421⟩ := hd418 12 (by decide)
                        refine ⟨_, some (), rfl, fun _ => ?_⟩
                        refine s_env (env' := [(68, .bool true), (9, .int .i64 y256.2.1)]) (by exact ⟨congrArg some hv420, rfl, trivial⟩) ?_
                        refine s_unwant rfl rfl rfl ?_
                        exact s_pred fun _ _ _ hE hI => ⟨undef, [], _, fun _ e => (by cases e; exact hE _ _ rfl), .refl _, by exact hI, ⟨rfl, rfl⟩⟩
                      refine dcons ?_ ?_
                      · intro _ _ H424 fr425 hle426 hd427
                        obtain ⟨hv429, hg430⟩ := hd427 12 (by decide)
                        obtain ⟨hv431, hg432⟩ := hd427 13 (by decide)
                        refine ⟨_, some (), rfl, fun _ => ?_⟩
                        refine s_env (env' := [(68, .bool true), (69, undef)]) (by exact ⟨congrArg some hv429, congrArg some hv431, trivial⟩) ?_
                        refine s_unwant rfl rfl rfl ?_
                        exact s_pred fun _ _ _ hE hI => ⟨undef, [], _, fun _ e => (by cases e; exact hE _ _ rfl), .refl _, by exact hI, ⟨rfl, rfl⟩⟩
                      refine dcons ?_ ?_
                      · intro _ _ H435 fr436 hle437 hd438
                        obtain ⟨hv440, hg441⟩ := hd438 12 (by decide)
                        obtain ⟨hv442, hg443⟩ := hd438 14 (by decide)
                        refine ⟨_, some (), rfl, fun _ => ?_⟩
                        refine s_env (env' := [(68, .bool true), (70, undef)]) (by exact ⟨congrArg some hv440, congrArg some hv442, trivial⟩) ?_
                        refine o_pickT rfl rfl rfl ?_
                        exact s_pred fun _ _ _ hE hI => ⟨(.bool true), [], _, fun _ e => (by cases e; exact hE _ _ rfl), .refl _, by exact hI, ⟨rfl, rfl⟩⟩
                      refine dcons ?_ ?_
                      · intro _ _ H446 fr447 hle448 hd449
                        obtain ⟨hv451, hg452⟩ := hd449 15 (by decide)
                        refine ⟨_, some (), rfl, fun _ => ?_⟩
                        refine s_env (env' := [(71, .bool true)]) (by exact ⟨congrArg some hv451, trivial⟩) ?_
                        refine o_mov rfl ?_
                        exact s_pred fun _ _ _ hE hI => ⟨(.bool true), [], _, fun _ e => (by cases e; exact hE _ _ rfl), .refl _, by exact hI, ⟨rfl, rfl⟩⟩
                      refine dcons ?_ ?_
                      · intro _ _ H455 fr456 hle457 hd458
                        obtain ⟨hv460, hg461⟩ := hd458 16 (by decide)
                        refine ⟨_, some (), rfl, fun _ => ?_⟩
                        refine s_env (env' := [(72, .bool true), (9, .int .i64 y256.2.1)]) (by exact ⟨congrArg some hv460, rfl, trivial⟩) ?_
                        refine s_unwant rfl rfl rfl ?_
                        exact s_pred fun _ _ _ hE hI => ⟨undef, [], _, fun _ e => (by cases e; exact hE _ _ rfl), .refl _, by exact hI, ⟨rfl, rfl⟩⟩
                      refine dcons ?_ ?_
                      · intro _ _ H464 fr465 hle466 hd467
                        have hs469 := RSl.mono hle466 hs268
                        obtain ⟨hv470, hg471⟩ := hd467 16 (by decide)
                        refine ⟨_, some (), rfl, fun _ => ?_⟩
                        refine s_env (env' := [(72, .bool true), (2, .pointer (some ⟨b1, 0, none⟩))]) (by exact ⟨congrArg some hv470, rfl, trivial⟩) ?_
                        refine s_unwant rfl rfl rfl ?_
                        exact s_pred fun _ _ _ hE hI => ⟨undef, [], _, fun _ e => (by cases e; exact hE _ _ rfl), .refl _, by exact hI, ⟨rfl, rfl⟩⟩
                      refine dcons ?_ ?_
                      · intro _ _ H474 fr475 hle476 hd477
                        obtain ⟨hv479, hg480⟩ := hd477 16 (by decide)
                        obtain ⟨hv481, hg482⟩ := hd477 18 (by decide)
                        refine ⟨_, some (), rfl, fun _ => ?_⟩
                        refine s_env (env' := [(72, .bool true), (74, undef)]) (by exact ⟨congrArg some hv479, congrArg some hv481, trivial⟩) ?_
                        refine s_unwant rfl rfl rfl ?_
                        exact s_pred fun _ _ _ hE hI => ⟨undef, [], _, fun _ e => (by cases e; exact hE _ _ rfl), .refl _, by exact hI, ⟨rfl, rfl⟩⟩
                      refine dcons ?_ ?_
                      · intro _ _ H485 fr486 hle487 hd488
                        obtain ⟨hv490, hg491⟩ := hd488 16 (by decide)
                        obtain ⟨hv492, hg493⟩ := hd488 19 (by decide)
                        refine ⟨_, some (), rfl, fun _ => ?_⟩
                        refine s_env (env' := [(72, .bool true), (75, undef)]) (by exact ⟨congrArg some hv490, congrArg some hv492, trivial⟩) ?_
                        refine s_unwant rfl rfl rfl ?_
                        exact s_pred fun _ _ _ hE hI => ⟨undef, [], _, fun _ e => (by cases e; exact hE _ _ rfl), .refl _, by exact hI, ⟨rfl, rfl⟩⟩
                      refine dcons ?_ ?_
                      · intro _ _ H496 fr497 hle498 hd499
                        obtain ⟨hv501, hg502⟩ := hd499 16 (by decide)
                        obtain ⟨hv503, hg504⟩ := hd499 17 (by decide)
                        obtain ⟨hv505, hg506⟩ := hd499 20 (by decide)
                        refine ⟨_, some (), rfl, fun _ => ?_⟩
                        refine s_env (env' := [(72, .bool true), (73, undef), (76, undef)]) (by exact ⟨congrArg some hv501, congrArg some hv503, congrArg some hv505, trivial⟩) ?_
                        refine s_unwant rfl rfl rfl ?_
                        exact s_pred fun _ _ _ hE hI => ⟨undef, [], _, fun _ e => (by cases e; exact hE _ _ rfl), .refl _, by exact hI, ⟨rfl, rfl⟩⟩
                      refine dcons ?_ ?_
                      · intro _ _ H509 fr510 hle511 hd512
                        obtain ⟨hv514, hg515⟩ := hd512 16 (by decide)
                        obtain ⟨hv516, hg517⟩ := hd512 21 (by decide)
                        refine ⟨_, some (), rfl, fun _ => ?_⟩
                        refine s_env (env' := [(72, .bool true), (77, undef)]) (by exact ⟨congrArg some hv514, congrArg some hv516, trivial⟩) ?_
                        refine o_pickT rfl rfl rfl ?_
                        exact s_pred fun _ _ _ hE hI => ⟨(.bool true), [], _, fun _ e => (by cases e; exact hE _ _ rfl), .refl _, by exact hI, ⟨rfl, rfl⟩⟩
                      refine dcons ?_ ?_
                      · intro _ _ H520 fr521 hle522 hd523
                        obtain ⟨hv525, hg526⟩ := hd523 22 (by decide)
                        refine ⟨_, some (), rfl, fun _ => ?_⟩
                        refine s_env (env' := [(78, .bool true)]) (by exact ⟨congrArg some hv525, trivial⟩) ?_
                        refine o_mov rfl ?_
                        exact s_pred fun _ _ _ hE hI => ⟨(.bool true), [], _, fun _ e => (by cases e; exact hE _ _ rfl), .refl _, by exact hI, ⟨rfl, rfl⟩⟩
                      refine dcons ?_ ?_
                      · intro _ _ H529 fr530 hle531 hd532
                        have hs534 := RSl.mono hle531 hs268
                        obtain ⟨hv535, hg536⟩ := hd532 23 (by decide)
                        refine ⟨_, some (), rfl, fun _ => ?_⟩
                        refine s_env (env' := [(79, .bool true), (2, .pointer (some ⟨b1, 0, none⟩))]) (by exact ⟨congrArg some hv535, rfl, trivial⟩) ?_
                        refine s_unwant rfl rfl rfl ?_
                        exact s_pred fun _ _ _ hE hI => ⟨undef, [], _, fun _ e => (by cases e; exact hE _ _ rfl), .refl _, by exact hI, ⟨rfl, rfl⟩⟩
                      refine dcons ?_ ?_
                      · intro _ _ H539 fr540 hle541 hd542
                        obtain ⟨hv544, hg545⟩ := hd542 23 (by decide)
                        obtain ⟨hv546, hg547⟩ := hd542 24 (by decide)
                        refine ⟨_, some (), rfl, fun _ => ?_⟩
                        refine s_env (env' := [(79, .bool true), (80, undef)]) (by exact ⟨congrArg some hv544, congrArg some hv546, trivial⟩) ?_
                        refine s_unwant rfl rfl rfl ?_
                        exact s_pred fun _ _ _ hE hI => ⟨undef, [], _, fun _ e => (by cases e; exact hE _ _ rfl), .refl _, by exact hI, ⟨rfl, rfl⟩⟩
                      refine dcons ?_ ?_
                      · intro _ _ H550 fr551 hle552 hd553
                        obtain ⟨hv555, hg556⟩ := hd553 23 (by decide)
                        refine ⟨_, some (), rfl, fun _ => ?_⟩
                        refine s_env (env' := [(79, .bool true), (9, .int .i64 y256.2.1)]) (by exact ⟨congrArg some hv555, rfl, trivial⟩) ?_
                        refine s_unwant rfl rfl rfl ?_
                        exact s_pred fun _ _ _ hE hI => ⟨undef, [], _, fun _ e => (by cases e; exact hE _ _ rfl), .refl _, by exact hI, ⟨rfl, rfl⟩⟩
                      refine dcons ?_ ?_
                      · intro _ _ H559 fr560 hle561 hd562
                        obtain ⟨hv564, hg565⟩ := hd562 23 (by decide)
                        obtain ⟨hv566, hg567⟩ := hd562 25 (by decide)
                        obtain ⟨hv568, hg569⟩ := hd562 26 (by decide)
                        refine ⟨_, some (), rfl, fun _ => ?_⟩
                        refine s_env (env' := [(79, .bool true), (81, undef), (82, undef)]) (by exact ⟨congrArg some hv564, congrArg some hv566, congrArg some hv568, trivial⟩) ?_
                        refine s_unwant rfl rfl rfl ?_
                        exact s_pred fun _ _ _ hE hI => ⟨undef, [], _, fun _ e => (by cases e; exact hE _ _ rfl), .refl _, by exact hI, ⟨rfl, rfl⟩⟩
                      refine dcons ?_ ?_
                      · intro _ _ H572 fr573 hle574 hd575
                        obtain ⟨hv577, hg578⟩ := hd575 23 (by decide)
                        obtain ⟨hv579, hg580⟩ := hd575 27 (by decide)
                        refine ⟨_, some (), rfl, fun _ => ?_⟩
                        refine s_env (env' := [(79, .bool true), (83, undef)]) (by exact ⟨congrArg some hv577, congrArg some hv579, trivial⟩) ?_
                        refine s_unwant rfl rfl rfl ?_
                        exact s_pred fun _ _ _ hE hI => ⟨undef, [], _, fun _ e => (by cases e; exact hE _ _ rfl), .refl _, by exact hI, ⟨rfl, rfl⟩⟩
                      refine dcons ?_ ?_
                      · intro _ _ H583 fr584 hle585 hd586
                        obtain ⟨hv588, hg589⟩ := hd586 23 (by decide)
                        obtain ⟨hv590, hg591⟩ := hd586 28 (by decide)
                        refine ⟨_, some (), rfl, fun _ => ?_⟩
                        refine s_env (env' := [(79, .bool true), (84, undef)]) (by exact ⟨congrArg some hv588, congrArg some hv590, trivial⟩) ?_
                        refine s_unwant rfl rfl rfl ?_
                        exact s_pred fun _ _ _ hE hI => ⟨undef, [], _, fun _ e => (by cases e; exact hE _ _ rfl), .refl _, by exact hI, ⟨rfl, rfl⟩⟩
                      refine dcons ?_ ?_
                      · intro _ _ H594 fr595 hle596 hd597
                        obtain ⟨hv599, hg600⟩ := hd597 23 (by decide)
                        refine ⟨_, some (), rfl, fun _ => ?_⟩
                        refine s_env (env' := [(79, .bool true), (7, .pointer (some ⟨b254, 0, none⟩))]) (by exact ⟨congrArg some hv599, rfl, trivial⟩) ?_
                        refine s_unwant rfl rfl rfl ?_
                        exact s_pred fun _ _ _ hE hI => ⟨undef, [], _, fun _ e => (by cases e; exact hE _ _ rfl), .refl _, by exact hI, ⟨rfl, rfl⟩⟩
                      refine dcons ?_ ?_
                      · intro _ _ H603 fr604 hle605 hd606
                        obtain ⟨hv608, hg609⟩ := hd606 23 (by decide)
                        obtain ⟨hv610, hg611⟩ := hd606 29 (by decide)
                        obtain ⟨hv612, hg613⟩ := hd606 30 (by decide)
                        refine ⟨_, some (), rfl, fun _ => ?_⟩
                        refine s_env (env' := [(79, .bool true), (85, undef), (86, undef)]) (by exact ⟨congrArg some hv608, congrArg some hv610, congrArg some hv612, trivial⟩) ?_
                        refine s_unwant rfl rfl rfl ?_
                        exact s_pred fun _ _ _ hE hI => ⟨undef, [], _, fun _ e => (by cases e; exact hE _ _ rfl), .refl _, by exact hI, ⟨rfl, rfl⟩⟩
                      refine dcons ?_ ?_
                      · intro _ _ H616 fr617 hle618 hd619
                        obtain ⟨hv621, hg622⟩ := hd619 23 (by decide)
                        obtain ⟨hv623, hg624⟩ := hd619 31 (by decide)
                        refine ⟨_, some (), rfl, fun _ => ?_⟩
                        refine s_env (env' := [(79, .bool true), (87, undef)]) (by exact ⟨congrArg some hv621, congrArg some hv623, trivial⟩) ?_
                        refine s_unwant rfl rfl rfl ?_
                        exact s_pred fun _ _ _ hE hI => ⟨undef, [], _, fun _ e => (by cases e; exact hE _ _ rfl), .refl _, by exact hI, ⟨rfl, rfl⟩⟩
                      refine dcons ?_ ?_
                      · intro _ _ H627 fr628 hle629 hd630
                        have hs632 := RSl.mono hle629 hs268
                        obtain ⟨hv633, hg634⟩ := hd630 32 (by decide)
                        refine ⟨_, some (), rfl, fun _ => ?_⟩
                        refine s_env (env' := [(88, undef), (2, .pointer (some ⟨b1, 0, none⟩))]) (by exact ⟨congrArg some hv633, rfl, trivial⟩) ?_
                        refine s_unwantU rfl rfl ?_
                        exact s_pred fun _ _ _ hE hI => ⟨undef, [], _, fun _ e => (by cases e; exact hE _ _ rfl), .refl _, by exact hI, ⟨rfl, rfl⟩⟩
                      refine dcons ?_ ?_
                      · intro _ _ H637 fr638 hle639 hd640
                        obtain ⟨hv642, hg643⟩ := hd640 32 (by decide)
                        obtain ⟨hv644, hg645⟩ := hd640 33 (by decide)
                        refine ⟨_, some (), rfl, fun _ => ?_⟩
                        refine s_env (env' := [(88, undef), (89, undef)]) (by exact ⟨congrArg some hv642, congrArg some hv644, trivial⟩) ?_
                        refine s_unwantU rfl rfl ?_
                        exact s_pred fun _ _ _ hE hI => ⟨undef, [], _, fun _ e => (by cases e; exact hE _ _ rfl), .refl _, by exact hI, ⟨rfl, rfl⟩⟩
                      refine dcons ?_ ?_
                      · intro _ _ H648 fr649 hle650 hd651
                        obtain ⟨hv653, hg654⟩ := hd651 32 (by decide)
                        refine ⟨_, some (), rfl, fun _ => ?_⟩
                        refine s_env (env' := [(88, undef), (9, .int .i64 y256.2.1)]) (by exact ⟨congrArg some hv653, rfl, trivial⟩) ?_
                        refine s_unwantU rfl rfl ?_
                        exact s_pred fun _ _ _ hE hI => ⟨undef, [], _, fun _ e => (by cases e; exact hE _ _ rfl), .refl _, by exact hI, ⟨rfl, rfl⟩⟩
                      refine dcons ?_ ?_
                      · intro _ _ H657 fr658 hle659 hd660
                        obtain ⟨hv662, hg663⟩ := hd660 32 (by decide)
                        obtain ⟨hv664, hg665⟩ := hd660 34 (by decide)
                        obtain ⟨hv666, hg667⟩ := hd660 35 (by decide)
                        refine ⟨_, some (), rfl, fun _ => ?_⟩
                        refine s_env (env' := [(88, undef), (90, undef), (91, undef)]) (by exact ⟨congrArg some hv662, congrArg some hv664, congrArg some hv666, trivial⟩) ?_
                        refine s_unwantU rfl rfl ?_
                        exact s_pred fun _ _ _ hE hI => ⟨undef, [], _, fun _ e => (by cases e; exact hE _ _ rfl), .refl _, by exact hI, ⟨rfl, rfl⟩⟩
                      refine dcons ?_ ?_
                      · intro _ _ H670 fr671 hle672 hd673
                        obtain ⟨hv675, hg676⟩ := hd673 32 (by decide)
                        obtain ⟨hv677, hg678⟩ := hd673 36 (by decide)
                        refine ⟨_, some (), rfl, fun _ => ?_⟩
                        refine s_env (env' := [(88, undef), (92, undef)]) (by exact ⟨congrArg some hv675, congrArg some hv677, trivial⟩) ?_
                        refine s_unwantU rfl rfl ?_
                        exact s_pred fun _ _ _ hE hI => ⟨undef, [], _, fun _ e => (by cases e; exact hE _ _ rfl), .refl _, by exact hI, ⟨rfl, rfl⟩⟩
                      refine dcons ?_ ?_
                      · intro _ _ H681 fr682 hle683 hd684
                        obtain ⟨hv686, hg687⟩ := hd684 32 (by decide)
                        obtain ⟨hv688, hg689⟩ := hd684 37 (by decide)
                        refine ⟨_, some (), rfl, fun _ => ?_⟩
                        refine s_env (env' := [(88, undef), (93, undef)]) (by exact ⟨congrArg some hv686, congrArg some hv688, trivial⟩) ?_
                        refine s_unwantU rfl rfl ?_
                        exact s_pred fun _ _ _ hE hI => ⟨undef, [], _, fun _ e => (by cases e; exact hE _ _ rfl), .refl _, by exact hI, ⟨rfl, rfl⟩⟩
                      refine dcons ?_ ?_
                      · intro _ _ H692 fr693 hle694 hd695
                        obtain ⟨hv697, hg698⟩ := hd695 32 (by decide)
                        refine ⟨_, some (), rfl, fun _ => ?_⟩
                        refine s_env (env' := [(88, undef), (7, .pointer (some ⟨b254, 0, none⟩))]) (by exact ⟨congrArg some hv697, rfl, trivial⟩) ?_
                        refine s_unwantU rfl rfl ?_
                        exact s_pred fun _ _ _ hE hI => ⟨undef, [], _, fun _ e => (by cases e; exact hE _ _ rfl), .refl _, by exact hI, ⟨rfl, rfl⟩⟩
                      refine dcons ?_ ?_
                      · intro _ _ H701 fr702 hle703 hd704
                        obtain ⟨hv706, hg707⟩ := hd704 32 (by decide)
                        obtain ⟨hv708, hg709⟩ := hd704 38 (by decide)
                        obtain ⟨hv710, hg711⟩ := hd704 39 (by decide)
                        refine ⟨_, some (), rfl, fun _ => ?_⟩
                        refine s_env (env' := [(88, undef), (94, undef), (95, undef)]) (by exact ⟨congrArg some hv706, congrArg some hv708, congrArg some hv710, trivial⟩) ?_
                        refine s_unwantU rfl rfl ?_
                        exact s_pred fun _ _ _ hE hI => ⟨undef, [], _, fun _ e => (by cases e; exact hE _ _ rfl), .refl _, by exact hI, ⟨rfl, rfl⟩⟩
                      refine dcons ?_ ?_
                      · intro _ _ H714 fr715 hle716 hd717
                        obtain ⟨hv719, hg720⟩ := hd717 23 (by decide)
                        obtain ⟨hv721, hg722⟩ := hd717 32 (by decide)
                        obtain ⟨hv723, hg724⟩ := hd717 40 (by decide)
                        refine ⟨_, some (), rfl, fun _ => ?_⟩
                        refine s_env (env' := [(79, .bool true), (88, undef), (96, undef)]) (by exact ⟨congrArg some hv719, congrArg some hv721, congrArg some hv723, trivial⟩) ?_
                        refine s_unwant rfl rfl rfl ?_
                        exact s_pred fun _ _ _ hE hI => ⟨undef, [], _, fun _ e => (by cases e; exact hE _ _ rfl), .refl _, by exact hI, ⟨rfl, rfl⟩⟩
                      refine dcons ?_ ?_
                      · intro _ _ H727 fr728 hle729 hd730
                        obtain ⟨hv732, hg733⟩ := hd730 23 (by decide)
                        obtain ⟨hv734, hg735⟩ := hd730 41 (by decide)
                        refine ⟨_, some (), rfl, fun _ => ?_⟩
                        refine s_env (env' := [(79, .bool true), (97, undef)]) (by exact ⟨congrArg some hv732, congrArg some hv734, trivial⟩) ?_
                        refine o_pickT rfl rfl rfl ?_
                        exact s_pred fun _ _ _ hE hI => ⟨(.bool true), [], _, fun _ e => (by cases e; exact hE _ _ rfl), .refl _, by exact hI, ⟨rfl, rfl⟩⟩
                      exact dnil
                    · intro V738 G739 H736 hle737 hF740
                      have hs741 := RSl.mono hle737 hs267
                      have hs742 := RSl.mono hle737 hs268
                      have hA743 := All2.mono (fun _ _ => GoT.mono hle737) hA269
                      obtain ⟨hv744, hg745⟩ := hF740 42 (show 42 < 43 by decide)
                      refine s_env (env' := [(98, .bool true), (1, .slice a1_0 x1.length c1_0), (2, .pointer (some ⟨b1, 0, none⟩)), (5, .int .i64 s19), (6, .int .i64 s246), (26, .int .i64 s246), (27, .bool (decide (s246 ≤ 4))), (30, .int .i64 s19), (31, .int .i64 s246), (32, .agg #[.int .i64 s19, .int .i64 s246]), (7, .pointer (some ⟨b254, 0, none⟩)), (34, .agg #[.int .i64 y6.Switches, .slice a8 y6.Links.length c9]), (35, .agg #[.int .i64 s19, .int .i64 s246]), (37, .agg #[.int .i64 y256.1.Switch, .int .i64 y256.1.Port]), (38, .int .i64 y256.2.1), (39, .bool y256.2.2), (8, .pointer (some ⟨b258, 0, none⟩)), (9, .int .i64 y256.2.1), (10, .bool y256.2.2), (40, .bool y256.2.2), (41, .agg #[.int .i64 y6.Switches, .slice a8 y6.Links.length c9]), (42, .int .i64 s19), (43, .slice a262 y260.length c263), (44, .int .i64 s246), (45, .bool y270), (46, .bool (y256.2.2 != y270)), (47, .bool y256.2.2), (48, .bool (!y256.2.2)), (50, .agg #[.int .i64 y6.Switches, .slice a8 y6.Links.length c9]), (51, .agg #[.int .i64 y256.1.Switch, .int .i64 y256.1.Port]), (53, .agg #[.int .i64 y274.1.Switch, .int .i64 y274.1.Port]), (54, .int .i64 y274.2.1), (55, .bool y274.2.2), (11, .pointer (some ⟨b276, 0, none⟩)), (12, .int .i64 y274.2.1), (13, .bool y274.2.2)]) (by exact ⟨congrArg some hv744, rfl, rfl, rfl, rfl, rfl, rfl, rfl, rfl, rfl, rfl, rfl, rfl, rfl, rfl, rfl, rfl, rfl, rfl, rfl, rfl, rfl, rfl, rfl, rfl, rfl, rfl, rfl, rfl, rfl, rfl, rfl, rfl, rfl, rfl, rfl, trivial⟩) ?_
                      refine s_own (List.sublist_append_left _ _) ?_
                      refine s_done ?_
                      exact s_env (by exact ⟨rfl, rfl, rfl, rfl, rfl, trivial⟩) (s_own (by exact (.cons_cons _ (.cons _ (.cons _ (.cons _ (.cons _ .slnil)))))) (J284 true _ _ _ ⟨rfl, rfl, hle737⟩))
                  · refine s_split (!(decide (y274.1 = (⟨s19, s246⟩ : End)))) (fun h746 => ?_) (fun h746 => ?_)
                    · refine s_drawL [(fun H v g => v = Value.bool y274.2.2 ∧ g = []),
      (fun H v g => v = Value.bool (!y274.2.2) ∧ g = []),
      (fun H v g => v = Value.bool (!y274.2.2) ∧ g = []),
      (fun H v g => v = Value.agg #[.int .i64 y274.1.Switch, .int .i64 y274.1.Port] ∧ g = []),
      (fun H v g => v = Value.agg #[.int .i64 s19, .int .i64 s246] ∧ g = []),
      (fun H v g => v = Value.bool (!(decide (y274.1 = (⟨s19, s246⟩ : End)))) ∧ g = []),
      (fun H v g => v = Value.bool (!(decide (y274.1 = (⟨s19, s246⟩ : End)))) ∧ g = []),
      (fun H v g => v = Value.bool (!(decide (y274.1 = (⟨s19, s246⟩ : End)))) ∧ g = []),
      uF,
      uF,
      uF,
      (fun H v g => v = Value.bool true ∧ g = []),
      (fun H v g => v = Value.bool true ∧ g = []),
      uF,
      uF,
      (fun H v g => v = Value.bool true ∧ g = []),
      (fun H v g => v = Value.bool true ∧ g = []),
      uF,
      uF,
      uF,
      uF,
      uF,
      (fun H v g => v = Value.bool true ∧ g = []),
      (fun H v g => v = Value.bool true ∧ g = []),
      uF,
      uF,
      uF,
      uF,
      uF,
      uF,
      uF,
      uF,
      uF,
      uF,
      uF,
      uF,
      uF,
      uF,
      uF,
      uF,
      uF,
      uF,
      (fun H v g => v = Value.bool true ∧ g = [])] [[], [], [], [], [], [], [], [], [], [], [], [], [], [], [], [], [], [], [], [], [], [], [], [], [], [], [], [], [], [], [], [], [], [], [], [], [], [], [], [], [], [], []] mixed ⟨m0, m0, m0, m0, m0, m0, m0, m0, m0, m0, m0, m0, m0, m0, m0, m0, m0, m0, m0, m0, m0, m0, m0, m0, m0, m0, m0, m0, m0, m0, m0, m0, m0, m0, m0, m0, m0, m0, m0, m0, m0, m0, m0, trivial⟩ (by kernel_rfl) (by kernel_rfl) rfl (by kernel_rfl) rfl rfl ?_ ?_
                      · refine dcons ?_ ?_
                        · intro _ _ H749 fr750 hle751 hd752
                          refine ⟨_, some (), rfl, fun _ => ?_⟩
                          refine s_env (env' := [(13, .bool y274.2.2)]) (by exact ⟨rfl, trivial⟩) ?_
                          refine o_mov rfl ?_
                          exact s_pred fun _ _ _ hE hI => ⟨(.bool y274.2.2), [], _, fun _ e => (by cases e; exact hE _ _ rfl), .refl _, by exact hI, ⟨rfl, rfl⟩⟩
                        refine dcons ?_ ?_
                        · intro _ _ H756 fr757 hle758 hd759
                          obtain ⟨hv761, hg762⟩ := hd759 0 (by decide)
                          refine ⟨_, some (), rfl, fun _ => ?_⟩
                          refine s_env (env' := [(56, .bool y274.2.2)]) (by exact ⟨congrArg some hv761, trivial⟩) ?_
                          refine o_not rfl ?_
                          exact s_pred fun _ _ _ hE hI => ⟨(.bool (!y274.2.2)), [], _, fun _ e => (by cases e; exact hE _ _ rfl), .refl _, by exact hI, ⟨rfl, rfl⟩⟩
                        refine dcons ?_ ?_
                        · intro _ _ H765 fr766 hle767 hd768
                          obtain ⟨hv770, hg771⟩ := hd768 1 (by decide)
                          refine ⟨_, some (), rfl, fun _ => ?_⟩
                          refine s_env (env' := [(57, .bool (!y274.2.2))]) (by exact ⟨congrArg some hv770, trivial⟩) ?_
                          refine o_mov rfl ?_
                          exact s_pred fun _ _ _ hE hI => ⟨(.bool (!y274.2.2)), [], _, fun _ e => (by cases e; exact hE _ _ rfl), .refl _, by exact hI, ⟨rfl, rfl⟩⟩
                        refine dcons ?_ ?_
                        · intro _ _ H774 fr775 hle776 hd777
                          obtain ⟨hv779, hg780⟩ := hd777 2 (by decide)
                          refine ⟨_, some (), rfl, fun _ => ?_⟩
                          refine s_env (env' := [(58, .bool (!y274.2.2)), (11, .pointer (some ⟨b276, 0, none⟩))]) (by exact ⟨congrArg some hv779, rfl, trivial⟩) ?_
                          refine s_want rfl rfl h285 ?_
                          refine o_ld 4 rfl rfl rfl ?_
                          exact s_pred fun _ _ _ hE hI => ⟨(.agg #[.int .i64 y274.1.Switch, .int .i64 y274.1.Port]), [], _, fun _ e => (by cases e; exact hE _ _ rfl), .refl _, by exact hI, ⟨rfl, rfl⟩⟩
                        refine dcons ?_ ?_
                        · intro _ _ H783 fr784 hle785 hd786
                          obtain ⟨hv788, hg789⟩ := hd786 2 (by decide)
                          refine ⟨_, some (), rfl, fun _ => ?_⟩
                          refine s_env (env' := [(58, .bool (!y274.2.2)), (7, .pointer (some ⟨b254, 0, none⟩))]) (by exact ⟨congrArg some hv788, rfl, trivial⟩) ?_
                          refine s_want rfl rfl h285 ?_
                          refine o_ld 1 rfl rfl rfl ?_
                          exact s_pred fun _ _ _ hE hI => ⟨(.agg #[.int .i64 s19, .int .i64 s246]), [], _, fun _ e => (by cases e; exact hE _ _ rfl), .refl _, by exact hI, ⟨rfl, rfl⟩⟩
                        refine dcons ?_ ?_
                        · intro _ _ H792 fr793 hle794 hd795
                          obtain ⟨hv797, hg798⟩ := hd795 2 (by decide)
                          obtain ⟨hv799, hg800⟩ := hd795 3 (by decide)
                          obtain ⟨hv801, hg802⟩ := hd795 4 (by decide)
                          refine ⟨_, some (), rfl, fun _ => ?_⟩
                          refine s_env (env' := [(58, .bool (!y274.2.2)), (59, .agg #[.int .i64 y274.1.Switch, .int .i64 y274.1.Port]), (60, .agg #[.int .i64 s19, .int .i64 s246])]) (by exact ⟨congrArg some hv797, congrArg some hv799, congrArg some hv801, trivial⟩) ?_
                          refine s_want rfl rfl h285 ?_
                          refine o_neS y274.1 (⟨s19, s246⟩ : End) rfl rfl ?_
                          exact s_pred fun _ _ _ hE hI => ⟨(.bool (!(decide (y274.1 = (⟨s19, s246⟩ : End))))), [], _, fun _ e => (by cases e; exact hE _ _ rfl), .refl _, by exact hI, ⟨rfl, rfl⟩⟩
                        refine dcons ?_ ?_
                        · intro _ _ H805 fr806 hle807 hd808
                          obtain ⟨hv810, hg811⟩ := hd808 2 (by decide)
                          obtain ⟨hv812, hg813⟩ := hd808 5 (by decide)
                          refine ⟨_, some (), rfl, fun _ => ?_⟩
                          refine s_env (env' := [(58, .bool (!y274.2.2)), (61, .bool (!(decide (y274.1 = (⟨s19, s246⟩ : End)))))]) (by exact ⟨congrArg some hv810, congrArg some hv812, trivial⟩) ?_
                          refine o_pickF rfl h285 rfl ?_
                          exact s_pred fun _ _ _ hE hI => ⟨(.bool (!(decide (y274.1 = (⟨s19, s246⟩ : End))))), [], _, fun _ e => (by cases e; exact hE _ _ rfl), .refl _, by exact hI, ⟨rfl, rfl⟩⟩
                        refine dcons ?_ ?_
                        · intro _ _ H816 fr817 hle818 hd819
                          obtain ⟨hv821, hg822⟩ := hd819 6 (by decide)
                          refine ⟨_, some (), rfl, fun _ => ?_⟩
                          refine s_env (env' := [(62, .bool (!(decide (y274.1 = (⟨s19, s246⟩ : End)))))]) (by exact ⟨congrArg some hv821, trivial⟩) ?_
                          refine o_mov rfl ?_
                          exact s_pred fun _ _ _ hE hI => ⟨(.bool (!(decide (y274.1 = (⟨s19, s246⟩ : End))))), [], _, fun _ e => (by cases e; exact hE _ _ rfl), .refl _, by exact hI, ⟨rfl, rfl⟩⟩
                        refine dcons ?_ ?_
                        · intro _ _ H825 fr826 hle827 hd828
                          obtain ⟨hv830, hg831⟩ := hd828 7 (by decide)
                          refine ⟨_, some (), rfl, fun _ => ?_⟩
                          refine s_env (env' := [(63, .bool (!(decide (y274.1 = (⟨s19, s246⟩ : End))))), (9, .int .i64 y256.2.1)]) (by exact ⟨congrArg some hv830, rfl, trivial⟩) ?_
                          refine s_unwant rfl rfl h746 ?_
                          exact s_pred fun _ _ _ hE hI => ⟨undef, [], _, fun _ e => (by cases e; exact hE _ _ rfl), .refl _, by exact hI, ⟨rfl, rfl⟩⟩
                        refine dcons ?_ ?_
                        · intro _ _ H834 fr835 hle836 hd837
                          obtain ⟨hv839, hg840⟩ := hd837 7 (by decide)
                          refine ⟨_, some (), rfl, fun _ => ?_⟩
                          refine s_env (env' := [(63, .bool (!(decide (y274.1 = (⟨s19, s246⟩ : End))))), (12, .int .i64 y274.2.1)]) (by exact ⟨congrArg some hv839, rfl, trivial⟩) ?_
                          refine s_unwant rfl rfl h746 ?_
                          exact s_pred fun _ _ _ hE hI => ⟨undef, [], _, fun _ e => (by cases e; exact hE _ _ rfl), .refl _, by exact hI, ⟨rfl, rfl⟩⟩
                        refine dcons ?_ ?_
                        · intro _ _ H843 fr844 hle845 hd846
                          obtain ⟨hv848, hg849⟩ := hd846 7 (by decide)
                          obtain ⟨hv850, hg851⟩ := hd846 8 (by decide)
                          obtain ⟨hv852, hg853⟩ := hd846 9 (by decide)
                          refine ⟨_, some (), rfl, fun _ => ?_⟩
                          refine s_env (env' := [(63, .bool (!(decide (y274.1 = (⟨s19, s246⟩ : End))))), (64, undef), (65, undef)]) (by exact ⟨congrArg some hv848, congrArg some hv850, congrArg some hv852, trivial⟩) ?_
                          refine s_unwant rfl rfl h746 ?_
                          exact s_pred fun _ _ _ hE hI => ⟨undef, [], _, fun _ e => (by cases e; exact hE _ _ rfl), .refl _, by exact hI, ⟨rfl, rfl⟩⟩
                        refine dcons ?_ ?_
                        · intro _ _ H856 fr857 hle858 hd859
                          obtain ⟨hv861, hg862⟩ := hd859 7 (by decide)
                          obtain ⟨hv863, hg864⟩ := hd859 10 (by decide)
                          refine ⟨_, some (), rfl, fun _ => ?_⟩
                          refine s_env (env' := [(63, .bool (!(decide (y274.1 = (⟨s19, s246⟩ : End))))), (66, undef)]) (by exact ⟨congrArg some hv861, congrArg some hv863, trivial⟩) ?_
                          refine o_pickT rfl h746 rfl ?_
                          exact s_pred fun _ _ _ hE hI => ⟨(.bool true), [], _, fun _ e => (by cases e; exact hE _ _ rfl), .refl _, by exact hI, ⟨rfl, rfl⟩⟩
                        refine dcons ?_ ?_
                        · intro _ _ H867 fr868 hle869 hd870
                          obtain ⟨hv872, hg873⟩ := hd870 11 (by decide)
                          refine ⟨_, some (), rfl, fun _ => ?_⟩
                          refine s_env (env' := [(67, .bool true)]) (by exact ⟨congrArg some hv872, trivial⟩) ?_
                          refine o_mov rfl ?_
                          exact s_pred fun _ _ _ hE hI => ⟨(.bool true), [], _, fun _ e => (by cases e; exact hE _ _ rfl), .refl _, by exact hI, ⟨rfl, rfl⟩⟩
                        refine dcons ?_ ?_
                        · intro _ _ H876 fr877 hle878 hd879
                          obtain ⟨hv881, hg882⟩ := hd879 12 (by decide)
                          refine ⟨_, some (), rfl, fun _ => ?_⟩
                          refine s_env (env' := [(68, .bool true), (9, .int .i64 y256.2.1)]) (by exact ⟨congrArg some hv881, rfl, trivial⟩) ?_
                          refine s_unwant rfl rfl rfl ?_
                          exact s_pred fun _ _ _ hE hI => ⟨undef, [], _, fun _ e => (by cases e; exact hE _ _ rfl), .refl _, by exact hI, ⟨rfl, rfl⟩⟩
                        refine dcons ?_ ?_
                        · intro _ _ H885 fr886 hle887 hd888
                          obtain ⟨hv890, hg891⟩ := hd888 12 (by decide)
                          obtain ⟨hv892, hg893⟩ := hd888 13 (by decide)
                          refine ⟨_, some (), rfl, fun _ => ?_⟩
                          refine s_env (env' := [(68, .bool true), (69, undef)]) (by exact ⟨congrArg some hv890, congrArg some hv892, trivial⟩) ?_
                          refine s_unwant rfl rfl rfl ?_
                          exact s_pred fun _ _ _ hE hI => ⟨undef, [], _, fun _ e => (by cases e; exact hE _ _ rfl), .refl _, by exact hI, ⟨rfl, rfl⟩⟩
                        refine dcons ?_ ?_
                        · intro _ _ H896 fr897 hle898 hd899
                          obtain ⟨hv901, hg902⟩ := hd899 12 (by decide)
                          obtain ⟨hv903, hg904⟩ := hd899 14 (by decide)
                          refine ⟨_, some (), rfl, fun _ => ?_⟩
                          refine s_env (env' := [(68, .bool true), (70, undef)]) (by exact ⟨congrArg some hv901, congrArg some hv903, trivial⟩) ?_
                          refine o_pickT rfl rfl rfl ?_
                          exact s_pred fun _ _ _ hE hI => ⟨(.bool true), [], _, fun _ e => (by cases e; exact hE _ _ rfl), .refl _, by exact hI, ⟨rfl, rfl⟩⟩
                        refine dcons ?_ ?_
                        · intro _ _ H907 fr908 hle909 hd910
                          obtain ⟨hv912, hg913⟩ := hd910 15 (by decide)
                          refine ⟨_, some (), rfl, fun _ => ?_⟩
                          refine s_env (env' := [(71, .bool true)]) (by exact ⟨congrArg some hv912, trivial⟩) ?_
                          refine o_mov rfl ?_
                          exact s_pred fun _ _ _ hE hI => ⟨(.bool true), [], _, fun _ e => (by cases e; exact hE _ _ rfl), .refl _, by exact hI, ⟨rfl, rfl⟩⟩
                        refine dcons ?_ ?_
                        · intro _ _ H916 fr917 hle918 hd919
                          obtain ⟨hv921, hg922⟩ := hd919 16 (by decide)
                          refine ⟨_, some (), rfl, fun _ => ?_⟩
                          refine s_env (env' := [(72, .bool true), (9, .int .i64 y256.2.1)]) (by exact ⟨congrArg some hv921, rfl, trivial⟩) ?_
                          refine s_unwant rfl rfl rfl ?_
                          exact s_pred fun _ _ _ hE hI => ⟨undef, [], _, fun _ e => (by cases e; exact hE _ _ rfl), .refl _, by exact hI, ⟨rfl, rfl⟩⟩
                        refine dcons ?_ ?_
                        · intro _ _ H925 fr926 hle927 hd928
                          have hs930 := RSl.mono hle927 hs268
                          obtain ⟨hv931, hg932⟩ := hd928 16 (by decide)
                          refine ⟨_, some (), rfl, fun _ => ?_⟩
                          refine s_env (env' := [(72, .bool true), (2, .pointer (some ⟨b1, 0, none⟩))]) (by exact ⟨congrArg some hv931, rfl, trivial⟩) ?_
                          refine s_unwant rfl rfl rfl ?_
                          exact s_pred fun _ _ _ hE hI => ⟨undef, [], _, fun _ e => (by cases e; exact hE _ _ rfl), .refl _, by exact hI, ⟨rfl, rfl⟩⟩
                        refine dcons ?_ ?_
                        · intro _ _ H935 fr936 hle937 hd938
                          obtain ⟨hv940, hg941⟩ := hd938 16 (by decide)
                          obtain ⟨hv942, hg943⟩ := hd938 18 (by decide)
                          refine ⟨_, some (), rfl, fun _ => ?_⟩
                          refine s_env (env' := [(72, .bool true), (74, undef)]) (by exact ⟨congrArg some hv940, congrArg some hv942, trivial⟩) ?_
                          refine s_unwant rfl rfl rfl ?_
                          exact s_pred fun _ _ _ hE hI => ⟨undef, [], _, fun _ e => (by cases e; exact hE _ _ rfl), .refl _, by exact hI, ⟨rfl, rfl⟩⟩
                        refine dcons ?_ ?_
                        · intro _ _ H946 fr947 hle948 hd949
                          obtain ⟨hv951, hg952⟩ := hd949 16 (by decide)
                          obtain ⟨hv953, hg954⟩ := hd949 19 (by decide)
                          refine ⟨_, some (), rfl, fun _ => ?_⟩
                          refine s_env (env' := [(72, .bool true), (75, undef)]) (by exact ⟨congrArg some hv951, congrArg some hv953, trivial⟩) ?_
                          refine s_unwant rfl rfl rfl ?_
                          exact s_pred fun _ _ _ hE hI => ⟨undef, [], _, fun _ e => (by cases e; exact hE _ _ rfl), .refl _, by exact hI, ⟨rfl, rfl⟩⟩
                        refine dcons ?_ ?_
                        · intro _ _ H957 fr958 hle959 hd960
                          obtain ⟨hv962, hg963⟩ := hd960 16 (by decide)
                          obtain ⟨hv964, hg965⟩ := hd960 17 (by decide)
                          obtain ⟨hv966, hg967⟩ := hd960 20 (by decide)
                          refine ⟨_, some (), rfl, fun _ => ?_⟩
                          refine s_env (env' := [(72, .bool true), (73, undef), (76, undef)]) (by exact ⟨congrArg some hv962, congrArg some hv964, congrArg some hv966, trivial⟩) ?_
                          refine s_unwant rfl rfl rfl ?_
                          exact s_pred fun _ _ _ hE hI => ⟨undef, [], _, fun _ e => (by cases e; exact hE _ _ rfl), .refl _, by exact hI, ⟨rfl, rfl⟩⟩
                        refine dcons ?_ ?_
                        · intro _ _ H970 fr971 hle972 hd973
                          obtain ⟨hv975, hg976⟩ := hd973 16 (by decide)
                          obtain ⟨hv977, hg978⟩ := hd973 21 (by decide)
                          refine ⟨_, some (), rfl, fun _ => ?_⟩
                          refine s_env (env' := [(72, .bool true), (77, undef)]) (by exact ⟨congrArg some hv975, congrArg some hv977, trivial⟩) ?_
                          refine o_pickT rfl rfl rfl ?_
                          exact s_pred fun _ _ _ hE hI => ⟨(.bool true), [], _, fun _ e => (by cases e; exact hE _ _ rfl), .refl _, by exact hI, ⟨rfl, rfl⟩⟩
                        refine dcons ?_ ?_
                        · intro _ _ H981 fr982 hle983 hd984
                          obtain ⟨hv986, hg987⟩ := hd984 22 (by decide)
                          refine ⟨_, some (), rfl, fun _ => ?_⟩
                          refine s_env (env' := [(78, .bool true)]) (by exact ⟨congrArg some hv986, trivial⟩) ?_
                          refine o_mov rfl ?_
                          exact s_pred fun _ _ _ hE hI => ⟨(.bool true), [], _, fun _ e => (by cases e; exact hE _ _ rfl), .refl _, by exact hI, ⟨rfl, rfl⟩⟩
                        refine dcons ?_ ?_
                        · intro _ _ H990 fr991 hle992 hd993
                          have hs995 := RSl.mono hle992 hs268
                          obtain ⟨hv996, hg997⟩ := hd993 23 (by decide)
                          refine ⟨_, some (), rfl, fun _ => ?_⟩
                          refine s_env (env' := [(79, .bool true), (2, .pointer (some ⟨b1, 0, none⟩))]) (by exact ⟨congrArg some hv996, rfl, trivial⟩) ?_
                          refine s_unwant rfl rfl rfl ?_
                          exact s_pred fun _ _ _ hE hI => ⟨undef, [], _, fun _ e => (by cases e; exact hE _ _ rfl), .refl _, by exact hI, ⟨rfl, rfl⟩⟩
                        refine dcons ?_ ?_
                        · intro _ _ H1000 fr1001 hle1002 hd1003
                          obtain ⟨hv1005, hg1006⟩ := hd1003 23 (by decide)
                          obtain ⟨hv1007, hg1008⟩ := hd1003 24 (by decide)
                          refine ⟨_, some (), rfl, fun _ => ?_⟩
                          refine s_env (env' := [(79, .bool true), (80, undef)]) (by exact ⟨congrArg some hv1005, congrArg some hv1007, trivial⟩) ?_
                          refine s_unwant rfl rfl rfl ?_
                          exact s_pred fun _ _ _ hE hI => ⟨undef, [], _, fun _ e => (by cases e; exact hE _ _ rfl), .refl _, by exact hI, ⟨rfl, rfl⟩⟩
                        refine dcons ?_ ?_
                        · intro _ _ H1011 fr1012 hle1013 hd1014
                          obtain ⟨hv1016, hg1017⟩ := hd1014 23 (by decide)
                          refine ⟨_, some (), rfl, fun _ => ?_⟩
                          refine s_env (env' := [(79, .bool true), (9, .int .i64 y256.2.1)]) (by exact ⟨congrArg some hv1016, rfl, trivial⟩) ?_
                          refine s_unwant rfl rfl rfl ?_
                          exact s_pred fun _ _ _ hE hI => ⟨undef, [], _, fun _ e => (by cases e; exact hE _ _ rfl), .refl _, by exact hI, ⟨rfl, rfl⟩⟩
                        refine dcons ?_ ?_
                        · intro _ _ H1020 fr1021 hle1022 hd1023
                          obtain ⟨hv1025, hg1026⟩ := hd1023 23 (by decide)
                          obtain ⟨hv1027, hg1028⟩ := hd1023 25 (by decide)
                          obtain ⟨hv1029, hg1030⟩ := hd1023 26 (by decide)
                          refine ⟨_, some (), rfl, fun _ => ?_⟩
                          refine s_env (env' := [(79, .bool true), (81, undef), (82, undef)]) (by exact ⟨congrArg some hv1025, congrArg some hv1027, congrArg some hv1029, trivial⟩) ?_
                          refine s_unwant rfl rfl rfl ?_
                          exact s_pred fun _ _ _ hE hI => ⟨undef, [], _, fun _ e => (by cases e; exact hE _ _ rfl), .refl _, by exact hI, ⟨rfl, rfl⟩⟩
                        refine dcons ?_ ?_
                        · intro _ _ H1033 fr1034 hle1035 hd1036
                          obtain ⟨hv1038, hg1039⟩ := hd1036 23 (by decide)
                          obtain ⟨hv1040, hg1041⟩ := hd1036 27 (by decide)
                          refine ⟨_, some (), rfl, fun _ => ?_⟩
                          refine s_env (env' := [(79, .bool true), (83, undef)]) (by exact ⟨congrArg some hv1038, congrArg some hv1040, trivial⟩) ?_
                          refine s_unwant rfl rfl rfl ?_
                          exact s_pred fun _ _ _ hE hI => ⟨undef, [], _, fun _ e => (by cases e; exact hE _ _ rfl), .refl _, by exact hI, ⟨rfl, rfl⟩⟩
                        refine dcons ?_ ?_
                        · intro _ _ H1044 fr1045 hle1046 hd1047
                          obtain ⟨hv1049, hg1050⟩ := hd1047 23 (by decide)
                          obtain ⟨hv1051, hg1052⟩ := hd1047 28 (by decide)
                          refine ⟨_, some (), rfl, fun _ => ?_⟩
                          refine s_env (env' := [(79, .bool true), (84, undef)]) (by exact ⟨congrArg some hv1049, congrArg some hv1051, trivial⟩) ?_
                          refine s_unwant rfl rfl rfl ?_
                          exact s_pred fun _ _ _ hE hI => ⟨undef, [], _, fun _ e => (by cases e; exact hE _ _ rfl), .refl _, by exact hI, ⟨rfl, rfl⟩⟩
                        refine dcons ?_ ?_
                        · intro _ _ H1055 fr1056 hle1057 hd1058
                          obtain ⟨hv1060, hg1061⟩ := hd1058 23 (by decide)
                          refine ⟨_, some (), rfl, fun _ => ?_⟩
                          refine s_env (env' := [(79, .bool true), (7, .pointer (some ⟨b254, 0, none⟩))]) (by exact ⟨congrArg some hv1060, rfl, trivial⟩) ?_
                          refine s_unwant rfl rfl rfl ?_
                          exact s_pred fun _ _ _ hE hI => ⟨undef, [], _, fun _ e => (by cases e; exact hE _ _ rfl), .refl _, by exact hI, ⟨rfl, rfl⟩⟩
                        refine dcons ?_ ?_
                        · intro _ _ H1064 fr1065 hle1066 hd1067
                          obtain ⟨hv1069, hg1070⟩ := hd1067 23 (by decide)
                          obtain ⟨hv1071, hg1072⟩ := hd1067 29 (by decide)
                          obtain ⟨hv1073, hg1074⟩ := hd1067 30 (by decide)
                          refine ⟨_, some (), rfl, fun _ => ?_⟩
                          refine s_env (env' := [(79, .bool true), (85, undef), (86, undef)]) (by exact ⟨congrArg some hv1069, congrArg some hv1071, congrArg some hv1073, trivial⟩) ?_
                          refine s_unwant rfl rfl rfl ?_
                          exact s_pred fun _ _ _ hE hI => ⟨undef, [], _, fun _ e => (by cases e; exact hE _ _ rfl), .refl _, by exact hI, ⟨rfl, rfl⟩⟩
                        refine dcons ?_ ?_
                        · intro _ _ H1077 fr1078 hle1079 hd1080
                          obtain ⟨hv1082, hg1083⟩ := hd1080 23 (by decide)
                          obtain ⟨hv1084, hg1085⟩ := hd1080 31 (by decide)
                          refine ⟨_, some (), rfl, fun _ => ?_⟩
                          refine s_env (env' := [(79, .bool true), (87, undef)]) (by exact ⟨congrArg some hv1082, congrArg some hv1084, trivial⟩) ?_
                          refine s_unwant rfl rfl rfl ?_
                          exact s_pred fun _ _ _ hE hI => ⟨undef, [], _, fun _ e => (by cases e; exact hE _ _ rfl), .refl _, by exact hI, ⟨rfl, rfl⟩⟩
                        refine dcons ?_ ?_
                        · intro _ _ H1088 fr1089 hle1090 hd1091
                          have hs1093 := RSl.mono hle1090 hs268
                          obtain ⟨hv1094, hg1095⟩ := hd1091 32 (by decide)
                          refine ⟨_, some (), rfl, fun _ => ?_⟩
                          refine s_env (env' := [(88, undef), (2, .pointer (some ⟨b1, 0, none⟩))]) (by exact ⟨congrArg some hv1094, rfl, trivial⟩) ?_
                          refine s_unwantU rfl rfl ?_
                          exact s_pred fun _ _ _ hE hI => ⟨undef, [], _, fun _ e => (by cases e; exact hE _ _ rfl), .refl _, by exact hI, ⟨rfl, rfl⟩⟩
                        refine dcons ?_ ?_
                        · intro _ _ H1098 fr1099 hle1100 hd1101
                          obtain ⟨hv1103, hg1104⟩ := hd1101 32 (by decide)
                          obtain ⟨hv1105, hg1106⟩ := hd1101 33 (by decide)
                          refine ⟨_, some (), rfl, fun _ => ?_⟩
                          refine s_env (env' := [(88, undef), (89, undef)]) (by exact ⟨congrArg some hv1103, congrArg some hv1105, trivial⟩) ?_
                          refine s_unwantU rfl rfl ?_
                          exact s_pred fun _ _ _ hE hI => ⟨undef, [], _, fun _ e => (by cases e; exact hE _ _ rfl), .refl _, by exact hI, ⟨rfl, rfl⟩⟩
                        refine dcons ?_ ?_
                        · intro _ _ H1109 fr1110 hle1111 hd1112
                          obtain ⟨hv1114, hg1115⟩ := hd1112 32 (by decide)
                          refine ⟨_, some (), rfl, fun _ => ?_⟩
                          refine s_env (env' := [(88, undef), (9, .int .i64 y256.2.1)]) (by exact ⟨congrArg some hv1114, rfl, trivial⟩) ?_
                          refine s_unwantU rfl rfl ?_
                          exact s_pred fun _ _ _ hE hI => ⟨undef, [], _, fun _ e => (by cases e; exact hE _ _ rfl), .refl _, by exact hI, ⟨rfl, rfl⟩⟩
                        refine dcons ?_ ?_
                        · intro _ _ H1118 fr1119 hle1120 hd1121
                          obtain ⟨hv1123, hg1124⟩ := hd1121 32 (by decide)
                          obtain ⟨hv1125, hg1126⟩ := hd1121 34 (by decide)
                          obtain ⟨hv1127, hg1128⟩ := hd1121 35 (by decide)
                          refine ⟨_, some (), rfl, fun _ => ?_⟩
                          refine s_env (env' := [(88, undef), (90, undef), (91, undef)]) (by exact ⟨congrArg some hv1123, congrArg some hv1125, congrArg some hv1127, trivial⟩) ?_
                          refine s_unwantU rfl rfl ?_
                          exact s_pred fun _ _ _ hE hI => ⟨undef, [], _, fun _ e => (by cases e; exact hE _ _ rfl), .refl _, by exact hI, ⟨rfl, rfl⟩⟩
                        refine dcons ?_ ?_
                        · intro _ _ H1131 fr1132 hle1133 hd1134
                          obtain ⟨hv1136, hg1137⟩ := hd1134 32 (by decide)
                          obtain ⟨hv1138, hg1139⟩ := hd1134 36 (by decide)
                          refine ⟨_, some (), rfl, fun _ => ?_⟩
                          refine s_env (env' := [(88, undef), (92, undef)]) (by exact ⟨congrArg some hv1136, congrArg some hv1138, trivial⟩) ?_
                          refine s_unwantU rfl rfl ?_
                          exact s_pred fun _ _ _ hE hI => ⟨undef, [], _, fun _ e => (by cases e; exact hE _ _ rfl), .refl _, by exact hI, ⟨rfl, rfl⟩⟩
                        refine dcons ?_ ?_
                        · intro _ _ H1142 fr1143 hle1144 hd1145
                          obtain ⟨hv1147, hg1148⟩ := hd1145 32 (by decide)
                          obtain ⟨hv1149, hg1150⟩ := hd1145 37 (by decide)
                          refine ⟨_, some (), rfl, fun _ => ?_⟩
                          refine s_env (env' := [(88, undef), (93, undef)]) (by exact ⟨congrArg some hv1147, congrArg some hv1149, trivial⟩) ?_
                          refine s_unwantU rfl rfl ?_
                          exact s_pred fun _ _ _ hE hI => ⟨undef, [], _, fun _ e => (by cases e; exact hE _ _ rfl), .refl _, by exact hI, ⟨rfl, rfl⟩⟩
                        refine dcons ?_ ?_
                        · intro _ _ H1153 fr1154 hle1155 hd1156
                          obtain ⟨hv1158, hg1159⟩ := hd1156 32 (by decide)
                          refine ⟨_, some (), rfl, fun _ => ?_⟩
                          refine s_env (env' := [(88, undef), (7, .pointer (some ⟨b254, 0, none⟩))]) (by exact ⟨congrArg some hv1158, rfl, trivial⟩) ?_
                          refine s_unwantU rfl rfl ?_
                          exact s_pred fun _ _ _ hE hI => ⟨undef, [], _, fun _ e => (by cases e; exact hE _ _ rfl), .refl _, by exact hI, ⟨rfl, rfl⟩⟩
                        refine dcons ?_ ?_
                        · intro _ _ H1162 fr1163 hle1164 hd1165
                          obtain ⟨hv1167, hg1168⟩ := hd1165 32 (by decide)
                          obtain ⟨hv1169, hg1170⟩ := hd1165 38 (by decide)
                          obtain ⟨hv1171, hg1172⟩ := hd1165 39 (by decide)
                          refine ⟨_, some (), rfl, fun _ => ?_⟩
                          refine s_env (env' := [(88, undef), (94, undef), (95, undef)]) (by exact ⟨congrArg some hv1167, congrArg some hv1169, congrArg some hv1171, trivial⟩) ?_
                          refine s_unwantU rfl rfl ?_
                          exact s_pred fun _ _ _ hE hI => ⟨undef, [], _, fun _ e => (by cases e; exact hE _ _ rfl), .refl _, by exact hI, ⟨rfl, rfl⟩⟩
                        refine dcons ?_ ?_
                        · intro _ _ H1175 fr1176 hle1177 hd1178
                          obtain ⟨hv1180, hg1181⟩ := hd1178 23 (by decide)
                          obtain ⟨hv1182, hg1183⟩ := hd1178 32 (by decide)
                          obtain ⟨hv1184, hg1185⟩ := hd1178 40 (by decide)
                          refine ⟨_, some (), rfl, fun _ => ?_⟩
                          refine s_env (env' := [(79, .bool true), (88, undef), (96, undef)]) (by exact ⟨congrArg some hv1180, congrArg some hv1182, congrArg some hv1184, trivial⟩) ?_
                          refine s_unwant rfl rfl rfl ?_
                          exact s_pred fun _ _ _ hE hI => ⟨undef, [], _, fun _ e => (by cases e; exact hE _ _ rfl), .refl _, by exact hI, ⟨rfl, rfl⟩⟩
                        refine dcons ?_ ?_
                        · intro _ _ H1188 fr1189 hle1190 hd1191
                          obtain ⟨hv1193, hg1194⟩ := hd1191 23 (by decide)
                          obtain ⟨hv1195, hg1196⟩ := hd1191 41 (by decide)
                          refine ⟨_, some (), rfl, fun _ => ?_⟩
                          refine s_env (env' := [(79, .bool true), (97, undef)]) (by exact ⟨congrArg some hv1193, congrArg some hv1195, trivial⟩) ?_
                          refine o_pickT rfl rfl rfl ?_
                          exact s_pred fun _ _ _ hE hI => ⟨(.bool true), [], _, fun _ e => (by cases e; exact hE _ _ rfl), .refl _, by exact hI, ⟨rfl, rfl⟩⟩
                        exact dnil
                      · intro V1199 G1200 H1197 hle1198 hF1201
                        have hs1202 := RSl.mono hle1198 hs267
                        have hs1203 := RSl.mono hle1198 hs268
                        have hA1204 := All2.mono (fun _ _ => GoT.mono hle1198) hA269
                        obtain ⟨hv1205, hg1206⟩ := hF1201 42 (show 42 < 43 by decide)
                        refine s_env (env' := [(98, .bool true), (1, .slice a1_0 x1.length c1_0), (2, .pointer (some ⟨b1, 0, none⟩)), (5, .int .i64 s19), (6, .int .i64 s246), (26, .int .i64 s246), (27, .bool (decide (s246 ≤ 4))), (30, .int .i64 s19), (31, .int .i64 s246), (32, .agg #[.int .i64 s19, .int .i64 s246]), (7, .pointer (some ⟨b254, 0, none⟩)), (34, .agg #[.int .i64 y6.Switches, .slice a8 y6.Links.length c9]), (35, .agg #[.int .i64 s19, .int .i64 s246]), (37, .agg #[.int .i64 y256.1.Switch, .int .i64 y256.1.Port]), (38, .int .i64 y256.2.1), (39, .bool y256.2.2), (8, .pointer (some ⟨b258, 0, none⟩)), (9, .int .i64 y256.2.1), (10, .bool y256.2.2), (40, .bool y256.2.2), (41, .agg #[.int .i64 y6.Switches, .slice a8 y6.Links.length c9]), (42, .int .i64 s19), (43, .slice a262 y260.length c263), (44, .int .i64 s246), (45, .bool y270), (46, .bool (y256.2.2 != y270)), (47, .bool y256.2.2), (48, .bool (!y256.2.2)), (50, .agg #[.int .i64 y6.Switches, .slice a8 y6.Links.length c9]), (51, .agg #[.int .i64 y256.1.Switch, .int .i64 y256.1.Port]), (53, .agg #[.int .i64 y274.1.Switch, .int .i64 y274.1.Port]), (54, .int .i64 y274.2.1), (55, .bool y274.2.2), (11, .pointer (some ⟨b276, 0, none⟩)), (12, .int .i64 y274.2.1), (13, .bool y274.2.2)]) (by exact ⟨congrArg some hv1205, rfl, rfl, rfl, rfl, rfl, rfl, rfl, rfl, rfl, rfl, rfl, rfl, rfl, rfl, rfl, rfl, rfl, rfl, rfl, rfl, rfl, rfl, rfl, rfl, rfl, rfl, rfl, rfl, rfl, rfl, rfl, rfl, rfl, rfl, rfl, trivial⟩) ?_
                        refine s_own (List.sublist_append_left _ _) ?_
                        refine s_done ?_
                        exact s_env (by exact ⟨rfl, rfl, rfl, rfl, rfl, trivial⟩) (s_own (by exact (.cons_cons _ (.cons _ (.cons _ (.cons _ (.cons _ .slnil)))))) (J284 true _ _ _ ⟨rfl, rfl, hle1198⟩))
                    · refine s_split (y256.2.1 != y274.2.1) (fun h1207 => ?_) (fun h1207 => ?_)
                      · refine s_drawL [(fun H v g => v = Value.bool y274.2.2 ∧ g = []),
      (fun H v g => v = Value.bool (!y274.2.2) ∧ g = []),
      (fun H v g => v = Value.bool (!y274.2.2) ∧ g = []),
      (fun H v g => v = Value.agg #[.int .i64 y274.1.Switch, .int .i64 y274.1.Port] ∧ g = []),
      (fun H v g => v = Value.agg #[.int .i64 s19, .int .i64 s246] ∧ g = []),
      (fun H v g => v = Value.bool (!(decide (y274.1 = (⟨s19, s246⟩ : End)))) ∧ g = []),
      (fun H v g => v = Value.bool (!(decide (y274.1 = (⟨s19, s246⟩ : End)))) ∧ g = []),
      (fun H v g => v = Value.bool (!(decide (y274.1 = (⟨s19, s246⟩ : End)))) ∧ g = []),
      (fun H v g => v = Value.int .i64 y256.2.1 ∧ g = []),
      (fun H v g => v = Value.int .i64 y274.2.1 ∧ g = []),
      (fun H v g => v = Value.bool (y256.2.1 != y274.2.1) ∧ g = []),
      (fun H v g => v = Value.bool (y256.2.1 != y274.2.1) ∧ g = []),
      (fun H v g => v = Value.bool (y256.2.1 != y274.2.1) ∧ g = []),
      uF,
      uF,
      (fun H v g => v = Value.bool true ∧ g = []),
      (fun H v g => v = Value.bool true ∧ g = []),
      uF,
      uF,
      uF,
      uF,
      uF,
      (fun H v g => v = Value.bool true ∧ g = []),
      (fun H v g => v = Value.bool true ∧ g = []),
      uF,
      uF,
      uF,
      uF,
      uF,
      uF,
      uF,
      uF,
      uF,
      uF,
      uF,
      uF,
      uF,
      uF,
      uF,
      uF,
      uF,
      uF,
      (fun H v g => v = Value.bool true ∧ g = [])] [[], [], [], [], [], [], [], [], [], [], [], [], [], [], [], [], [], [], [], [], [], [], [], [], [], [], [], [], [], [], [], [], [], [], [], [], [], [], [], [], [], [], []] mixed ⟨m0, m0, m0, m0, m0, m0, m0, m0, m0, m0, m0, m0, m0, m0, m0, m0, m0, m0, m0, m0, m0, m0, m0, m0, m0, m0, m0, m0, m0, m0, m0, m0, m0, m0, m0, m0, m0, m0, m0, m0, m0, m0, m0, trivial⟩ (by kernel_rfl) (by kernel_rfl) rfl (by kernel_rfl) rfl rfl ?_ ?_
                        · refine dcons ?_ ?_
                          · intro _ _ H1210 fr1211 hle1212 hd1213
                            refine ⟨_, some (), rfl, fun _ => ?_⟩
                            refine s_env (env' := [(13, .bool y274.2.2)]) (by exact ⟨rfl, trivial⟩) ?_
                            refine o_mov rfl ?_
                            exact s_pred fun _ _ _ hE hI => ⟨(.bool y274.2.2), [], _, fun _ e => (by cases e; exact hE _ _ rfl), .refl _, by exact hI, ⟨rfl, rfl⟩⟩
                          refine dcons ?_ ?_
                          · intro _ _ H1217 fr1218 hle1219 hd1220
                            obtain ⟨hv1222, hg1223⟩ := hd1220 0 (by decide)
                            refine ⟨_, some (), rfl, fun _ => ?_⟩
                            refine s_env (env' := [(56, .bool y274.2.2)]) (by exact ⟨congrArg some hv1222, trivial⟩) ?_
                            refine o_not rfl ?_
                            exact s_pred fun _ _ _ hE hI => ⟨(.bool (!y274.2.2)), [], _, fun _ e => (by cases e; exact hE _ _ rfl), .refl _, by exact hI, ⟨rfl, rfl⟩⟩
                          refine dcons ?_ ?_
                          · intro _ _ H1226 fr1227 hle1228 hd1229
                            obtain ⟨hv1231, hg1232⟩ := hd1229 1 (by decide)
                            refine ⟨_, some (), rfl, fun _ => ?_⟩
                            refine s_env (env' := [(57, .bool (!y274.2.2))]) (by exact ⟨congrArg some hv1231, trivial⟩) ?_
                            refine o_mov rfl ?_
                            exact s_pred fun _ _ _ hE hI => ⟨(.bool (!y274.2.2)), [], _, fun _ e => (by cases e; exact hE _ _ rfl), .refl _, by exact hI, ⟨rfl, rfl⟩⟩
                          refine dcons ?_ ?_
                          · intro _ _ H1235 fr1236 hle1237 hd1238
                            obtain ⟨hv1240, hg1241⟩ := hd1238 2 (by decide)
                            refine ⟨_, some (), rfl, fun _ => ?_⟩
                            refine s_env (env' := [(58, .bool (!y274.2.2)), (11, .pointer (some ⟨b276, 0, none⟩))]) (by exact ⟨congrArg some hv1240, rfl, trivial⟩) ?_
                            refine s_want rfl rfl h285 ?_
                            refine o_ld 4 rfl rfl rfl ?_
                            exact s_pred fun _ _ _ hE hI => ⟨(.agg #[.int .i64 y274.1.Switch, .int .i64 y274.1.Port]), [], _, fun _ e => (by cases e; exact hE _ _ rfl), .refl _, by exact hI, ⟨rfl, rfl⟩⟩
                          refine dcons ?_ ?_
                          · intro _ _ H1244 fr1245 hle1246 hd1247
                            obtain ⟨hv1249, hg1250⟩ := hd1247 2 (by decide)
                            refine ⟨_, some (), rfl, fun _ => ?_⟩
                            refine s_env (env' := [(58, .bool (!y274.2.2)), (7, .pointer (some ⟨b254, 0, none⟩))]) (by exact ⟨congrArg some hv1249, rfl, trivial⟩) ?_
                            refine s_want rfl rfl h285 ?_
                            refine o_ld 1 rfl rfl rfl ?_
                            exact s_pred fun _ _ _ hE hI => ⟨(.agg #[.int .i64 s19, .int .i64 s246]), [], _, fun _ e => (by cases e; exact hE _ _ rfl), .refl _, by exact hI, ⟨rfl, rfl⟩⟩
                          refine dcons ?_ ?_
                          · intro _ _ H1253 fr1254 hle1255 hd1256
                            obtain ⟨hv1258, hg1259⟩ := hd1256 2 (by decide)
                            obtain ⟨hv1260, hg1261⟩ := hd1256 3 (by decide)
                            obtain ⟨hv1262, hg1263⟩ := hd1256 4 (by decide)
                            refine ⟨_, some (), rfl, fun _ => ?_⟩
                            refine s_env (env' := [(58, .bool (!y274.2.2)), (59, .agg #[.int .i64 y274.1.Switch, .int .i64 y274.1.Port]), (60, .agg #[.int .i64 s19, .int .i64 s246])]) (by exact ⟨congrArg some hv1258, congrArg some hv1260, congrArg some hv1262, trivial⟩) ?_
                            refine s_want rfl rfl h285 ?_
                            refine o_neS y274.1 (⟨s19, s246⟩ : End) rfl rfl ?_
                            exact s_pred fun _ _ _ hE hI => ⟨(.bool (!(decide (y274.1 = (⟨s19, s246⟩ : End))))), [], _, fun _ e => (by cases e; exact hE _ _ rfl), .refl _, by exact hI, ⟨rfl, rfl⟩⟩
                          refine dcons ?_ ?_
                          · intro _ _ H1266 fr1267 hle1268 hd1269
                            obtain ⟨hv1271, hg1272⟩ := hd1269 2 (by decide)
                            obtain ⟨hv1273, hg1274⟩ := hd1269 5 (by decide)
                            refine ⟨_, some (), rfl, fun _ => ?_⟩
                            refine s_env (env' := [(58, .bool (!y274.2.2)), (61, .bool (!(decide (y274.1 = (⟨s19, s246⟩ : End)))))]) (by exact ⟨congrArg some hv1271, congrArg some hv1273, trivial⟩) ?_
                            refine o_pickF rfl h285 rfl ?_
                            exact s_pred fun _ _ _ hE hI => ⟨(.bool (!(decide (y274.1 = (⟨s19, s246⟩ : End))))), [], _, fun _ e => (by cases e; exact hE _ _ rfl), .refl _, by exact hI, ⟨rfl, rfl⟩⟩
                          refine dcons ?_ ?_
                          · intro _ _ H1277 fr1278 hle1279 hd1280
                            obtain ⟨hv1282, hg1283⟩ := hd1280 6 (by decide)
                            refine ⟨_, some (), rfl, fun _ => ?_⟩
                            refine s_env (env' := [(62, .bool (!(decide (y274.1 = (⟨s19, s246⟩ : End)))))]) (by exact ⟨congrArg some hv1282, trivial⟩) ?_
                            refine o_mov rfl ?_
                            exact s_pred fun _ _ _ hE hI => ⟨(.bool (!(decide (y274.1 = (⟨s19, s246⟩ : End))))), [], _, fun _ e => (by cases e; exact hE _ _ rfl), .refl _, by exact hI, ⟨rfl, rfl⟩⟩
                          refine dcons ?_ ?_
                          · intro _ _ H1286 fr1287 hle1288 hd1289
                            obtain ⟨hv1291, hg1292⟩ := hd1289 7 (by decide)
                            refine ⟨_, some (), rfl, fun _ => ?_⟩
                            refine s_env (env' := [(63, .bool (!(decide (y274.1 = (⟨s19, s246⟩ : End))))), (9, .int .i64 y256.2.1)]) (by exact ⟨congrArg some hv1291, rfl, trivial⟩) ?_
                            refine s_want rfl rfl h746 ?_
                            refine o_mov rfl ?_
                            exact s_pred fun _ _ _ hE hI => ⟨(.int .i64 y256.2.1), [], _, fun _ e => (by cases e; exact hE _ _ rfl), .refl _, by exact hI, ⟨rfl, rfl⟩⟩
                          refine dcons ?_ ?_
                          · intro _ _ H1295 fr1296 hle1297 hd1298
                            obtain ⟨hv1300, hg1301⟩ := hd1298 7 (by decide)
                            refine ⟨_, some (), rfl, fun _ => ?_⟩
                            refine s_env (env' := [(63, .bool (!(decide (y274.1 = (⟨s19, s246⟩ : End))))), (12, .int .i64 y274.2.1)]) (by exact ⟨congrArg some hv1300, rfl, trivial⟩) ?_
                            refine s_want rfl rfl h746 ?_
                            refine o_mov rfl ?_
                            exact s_pred fun _ _ _ hE hI => ⟨(.int .i64 y274.2.1), [], _, fun _ e => (by cases e; exact hE _ _ rfl), .refl _, by exact hI, ⟨rfl, rfl⟩⟩
                          refine dcons ?_ ?_
                          · intro _ _ H1304 fr1305 hle1306 hd1307
                            obtain ⟨hv1309, hg1310⟩ := hd1307 7 (by decide)
                            obtain ⟨hv1311, hg1312⟩ := hd1307 8 (by decide)
                            obtain ⟨hv1313, hg1314⟩ := hd1307 9 (by decide)
                            refine ⟨_, some (), rfl, fun _ => ?_⟩
                            refine s_env (env' := [(63, .bool (!(decide (y274.1 = (⟨s19, s246⟩ : End))))), (64, .int .i64 y256.2.1), (65, .int .i64 y274.2.1)]) (by exact ⟨congrArg some hv1309, congrArg some hv1311, congrArg some hv1313, trivial⟩) ?_
                            refine s_want rfl rfl h746 ?_
                            refine o_ne rfl rfl ?_
                            exact s_pred fun _ _ _ hE hI => ⟨(.bool (y256.2.1 != y274.2.1)), [], _, fun _ e => (by cases e; exact hE _ _ rfl), .refl _, by exact hI, ⟨rfl, rfl⟩⟩
                          refine dcons ?_ ?_
                          · intro _ _ H1317 fr1318 hle1319 hd1320
                            obtain ⟨hv1322, hg1323⟩ := hd1320 7 (by decide)
                            obtain ⟨hv1324, hg1325⟩ := hd1320 10 (by decide)
                            refine ⟨_, some (), rfl, fun _ => ?_⟩
                            refine s_env (env' := [(63, .bool (!(decide (y274.1 = (⟨s19, s246⟩ : End))))), (66, .bool (y256.2.1 != y274.2.1))]) (by exact ⟨congrArg some hv1322, congrArg some hv1324, trivial⟩) ?_
                            refine o_pickF rfl h746 rfl ?_
                            exact s_pred fun _ _ _ hE hI => ⟨(.bool (y256.2.1 != y274.2.1)), [], _, fun _ e => (by cases e; exact hE _ _ rfl), .refl _, by exact hI, ⟨rfl, rfl⟩⟩
                          refine dcons ?_ ?_
                          · intro _ _ H1328 fr1329 hle1330 hd1331
                            obtain ⟨hv1333, hg1334⟩ := hd1331 11 (by decide)
                            refine ⟨_, some (), rfl, fun _ => ?_⟩
                            refine s_env (env' := [(67, .bool (y256.2.1 != y274.2.1))]) (by exact ⟨congrArg some hv1333, trivial⟩) ?_
                            refine o_mov rfl ?_
                            exact s_pred fun _ _ _ hE hI => ⟨(.bool (y256.2.1 != y274.2.1)), [], _, fun _ e => (by cases e; exact hE _ _ rfl), .refl _, by exact hI, ⟨rfl, rfl⟩⟩
                          refine dcons ?_ ?_
                          · intro _ _ H1337 fr1338 hle1339 hd1340
                            obtain ⟨hv1342, hg1343⟩ := hd1340 12 (by decide)
                            refine ⟨_, some (), rfl, fun _ => ?_⟩
                            refine s_env (env' := [(68, .bool (y256.2.1 != y274.2.1)), (9, .int .i64 y256.2.1)]) (by exact ⟨congrArg some hv1342, rfl, trivial⟩) ?_
                            refine s_unwant rfl rfl h1207 ?_
                            exact s_pred fun _ _ _ hE hI => ⟨undef, [], _, fun _ e => (by cases e; exact hE _ _ rfl), .refl _, by exact hI, ⟨rfl, rfl⟩⟩
                          refine dcons ?_ ?_
                          · intro _ _ H1346 fr1347 hle1348 hd1349
                            obtain ⟨hv1351, hg1352⟩ := hd1349 12 (by decide)
                            obtain ⟨hv1353, hg1354⟩ := hd1349 13 (by decide)
                            refine ⟨_, some (), rfl, fun _ => ?_⟩
                            refine s_env (env' := [(68, .bool (y256.2.1 != y274.2.1)), (69, undef)]) (by exact ⟨congrArg some hv1351, congrArg some hv1353, trivial⟩) ?_
                            refine s_unwant rfl rfl h1207 ?_
                            exact s_pred fun _ _ _ hE hI => ⟨undef, [], _, fun _ e => (by cases e; exact hE _ _ rfl), .refl _, by exact hI, ⟨rfl, rfl⟩⟩
                          refine dcons ?_ ?_
                          · intro _ _ H1357 fr1358 hle1359 hd1360
                            obtain ⟨hv1362, hg1363⟩ := hd1360 12 (by decide)
                            obtain ⟨hv1364, hg1365⟩ := hd1360 14 (by decide)
                            refine ⟨_, some (), rfl, fun _ => ?_⟩
                            refine s_env (env' := [(68, .bool (y256.2.1 != y274.2.1)), (70, undef)]) (by exact ⟨congrArg some hv1362, congrArg some hv1364, trivial⟩) ?_
                            refine o_pickT rfl h1207 rfl ?_
                            exact s_pred fun _ _ _ hE hI => ⟨(.bool true), [], _, fun _ e => (by cases e; exact hE _ _ rfl), .refl _, by exact hI, ⟨rfl, rfl⟩⟩
                          refine dcons ?_ ?_
                          · intro _ _ H1368 fr1369 hle1370 hd1371
                            obtain ⟨hv1373, hg1374⟩ := hd1371 15 (by decide)
                            refine ⟨_, some (), rfl, fun _ => ?_⟩
                            refine s_env (env' := [(71, .bool true)]) (by exact ⟨congrArg some hv1373, trivial⟩) ?_
                            refine o_mov rfl ?_
                            exact s_pred fun _ _ _ hE hI => ⟨(.bool true), [], _, fun _ e => (by cases e; exact hE _ _ rfl), .refl _, by exact hI, ⟨rfl, rfl⟩⟩
                          refine dcons ?_ ?_
                          · intro _ _ H1377 fr1378 hle1379 hd1380
                            obtain ⟨hv1382, hg1383⟩ := hd1380 16 (by decide)
                            refine ⟨_, some (), rfl, fun _ => ?_⟩
                            refine s_env (env' := [(72, .bool true), (9, .int .i64 y256.2.1)]) (by exact ⟨congrArg some hv1382, rfl, trivial⟩) ?_
                            refine s_unwant rfl rfl rfl ?_
                            exact s_pred fun _ _ _ hE hI => ⟨undef, [], _, fun _ e => (by cases e; exact hE _ _ rfl), .refl _, by exact hI, ⟨rfl, rfl⟩⟩
                          refine dcons ?_ ?_
                          · intro _ _ H1386 fr1387 hle1388 hd1389
                            have hs1391 := RSl.mono hle1388 hs268
                            obtain ⟨hv1392, hg1393⟩ := hd1389 16 (by decide)
                            refine ⟨_, some (), rfl, fun _ => ?_⟩
                            refine s_env (env' := [(72, .bool true), (2, .pointer (some ⟨b1, 0, none⟩))]) (by exact ⟨congrArg some hv1392, rfl, trivial⟩) ?_
                            refine s_unwant rfl rfl rfl ?_
                            exact s_pred fun _ _ _ hE hI => ⟨undef, [], _, fun _ e => (by cases e; exact hE _ _ rfl), .refl _, by exact hI, ⟨rfl, rfl⟩⟩
                          refine dcons ?_ ?_
                          · intro _ _ H1396 fr1397 hle1398 hd1399
                            obtain ⟨hv1401, hg1402⟩ := hd1399 16 (by decide)
                            obtain ⟨hv1403, hg1404⟩ := hd1399 18 (by decide)
                            refine ⟨_, some (), rfl, fun _ => ?_⟩
                            refine s_env (env' := [(72, .bool true), (74, undef)]) (by exact ⟨congrArg some hv1401, congrArg some hv1403, trivial⟩) ?_
                            refine s_unwant rfl rfl rfl ?_
                            exact s_pred fun _ _ _ hE hI => ⟨undef, [], _, fun _ e => (by cases e; exact hE _ _ rfl), .refl _, by exact hI, ⟨rfl, rfl⟩⟩
                          refine dcons ?_ ?_
                          · intro _ _ H1407 fr1408 hle1409 hd1410
                            obtain ⟨hv1412, hg1413⟩ := hd1410 16 (by decide)
                            obtain ⟨hv1414, hg1415⟩ := hd1410 19 (by decide)
                            refine ⟨_, some (), rfl, fun _ => ?_⟩
                            refine s_env (env' := [(72, .bool true), (75, undef)]) (by exact ⟨congrArg some hv1412, congrArg some hv1414, trivial⟩) ?_
                            refine s_unwant rfl rfl rfl ?_
                            exact s_pred fun _ _ _ hE hI => ⟨undef, [], _, fun _ e => (by cases e; exact hE _ _ rfl), .refl _, by exact hI, ⟨rfl, rfl⟩⟩
                          refine dcons ?_ ?_
                          · intro _ _ H1418 fr1419 hle1420 hd1421
                            obtain ⟨hv1423, hg1424⟩ := hd1421 16 (by decide)
                            obtain ⟨hv1425, hg1426⟩ := hd1421 17 (by decide)
                            obtain ⟨hv1427, hg1428⟩ := hd1421 20 (by decide)
                            refine ⟨_, some (), rfl, fun _ => ?_⟩
                            refine s_env (env' := [(72, .bool true), (73, undef), (76, undef)]) (by exact ⟨congrArg some hv1423, congrArg some hv1425, congrArg some hv1427, trivial⟩) ?_
                            refine s_unwant rfl rfl rfl ?_
                            exact s_pred fun _ _ _ hE hI => ⟨undef, [], _, fun _ e => (by cases e; exact hE _ _ rfl), .refl _, by exact hI, ⟨rfl, rfl⟩⟩
                          refine dcons ?_ ?_
                          · intro _ _ H1431 fr1432 hle1433 hd1434
                            obtain ⟨hv1436, hg1437⟩ := hd1434 16 (by decide)
                            obtain ⟨hv1438, hg1439⟩ := hd1434 21 (by decide)
                            refine ⟨_, some (), rfl, fun _ => ?_⟩
                            refine s_env (env' := [(72, .bool true), (77, undef)]) (by exact ⟨congrArg some hv1436, congrArg some hv1438, trivial⟩) ?_
                            refine o_pickT rfl rfl rfl ?_
                            exact s_pred fun _ _ _ hE hI => ⟨(.bool true), [], _, fun _ e => (by cases e; exact hE _ _ rfl), .refl _, by exact hI, ⟨rfl, rfl⟩⟩
                          refine dcons ?_ ?_
                          · intro _ _ H1442 fr1443 hle1444 hd1445
                            obtain ⟨hv1447, hg1448⟩ := hd1445 22 (by decide)
                            refine ⟨_, some (), rfl, fun _ => ?_⟩
                            refine s_env (env' := [(78, .bool true)]) (by exact ⟨congrArg some hv1447, trivial⟩) ?_
                            refine o_mov rfl ?_
                            exact s_pred fun _ _ _ hE hI => ⟨(.bool true), [], _, fun _ e => (by cases e; exact hE _ _ rfl), .refl _, by exact hI, ⟨rfl, rfl⟩⟩
                          refine dcons ?_ ?_
                          · intro _ _ H1451 fr1452 hle1453 hd1454
                            have hs1456 := RSl.mono hle1453 hs268
                            obtain ⟨hv1457, hg1458⟩ := hd1454 23 (by decide)
                            refine ⟨_, some (), rfl, fun _ => ?_⟩
                            refine s_env (env' := [(79, .bool true), (2, .pointer (some ⟨b1, 0, none⟩))]) (by exact ⟨congrArg some hv1457, rfl, trivial⟩) ?_
                            refine s_unwant rfl rfl rfl ?_
                            exact s_pred fun _ _ _ hE hI => ⟨undef, [], _, fun _ e => (by cases e; exact hE _ _ rfl), .refl _, by exact hI, ⟨rfl, rfl⟩⟩
                          refine dcons ?_ ?_
                          · intro _ _ H1461 fr1462 hle1463 hd1464
                            obtain ⟨hv1466, hg1467⟩ := hd1464 23 (by decide)
                            obtain ⟨hv1468, hg1469⟩ := hd1464 24 (by decide)
                            refine ⟨_, some (), rfl, fun _ => ?_⟩
                            refine s_env (env' := [(79, .bool true), (80, undef)]) (by exact ⟨congrArg some hv1466, congrArg some hv1468, trivial⟩) ?_
                            refine s_unwant rfl rfl rfl ?_
                            exact s_pred fun _ _ _ hE hI => ⟨undef, [], _, fun _ e => (by cases e; exact hE _ _ rfl), .refl _, by exact hI, ⟨rfl, rfl⟩⟩
                          refine dcons ?_ ?_
                          · intro _ _ H1472 fr1473 hle1474 hd1475
                            obtain ⟨hv1477, hg1478⟩ := hd1475 23 (by decide)
                            refine ⟨_, some (), rfl, fun _ => ?_⟩
                            refine s_env (env' := [(79, .bool true), (9, .int .i64 y256.2.1)]) (by exact ⟨congrArg some hv1477, rfl, trivial⟩) ?_
                            refine s_unwant rfl rfl rfl ?_
                            exact s_pred fun _ _ _ hE hI => ⟨undef, [], _, fun _ e => (by cases e; exact hE _ _ rfl), .refl _, by exact hI, ⟨rfl, rfl⟩⟩
                          refine dcons ?_ ?_
                          · intro _ _ H1481 fr1482 hle1483 hd1484
                            obtain ⟨hv1486, hg1487⟩ := hd1484 23 (by decide)
                            obtain ⟨hv1488, hg1489⟩ := hd1484 25 (by decide)
                            obtain ⟨hv1490, hg1491⟩ := hd1484 26 (by decide)
                            refine ⟨_, some (), rfl, fun _ => ?_⟩
                            refine s_env (env' := [(79, .bool true), (81, undef), (82, undef)]) (by exact ⟨congrArg some hv1486, congrArg some hv1488, congrArg some hv1490, trivial⟩) ?_
                            refine s_unwant rfl rfl rfl ?_
                            exact s_pred fun _ _ _ hE hI => ⟨undef, [], _, fun _ e => (by cases e; exact hE _ _ rfl), .refl _, by exact hI, ⟨rfl, rfl⟩⟩
                          refine dcons ?_ ?_
                          · intro _ _ H1494 fr1495 hle1496 hd1497
                            obtain ⟨hv1499, hg1500⟩ := hd1497 23 (by decide)
                            obtain ⟨hv1501, hg1502⟩ := hd1497 27 (by decide)
                            refine ⟨_, some (), rfl, fun _ => ?_⟩
                            refine s_env (env' := [(79, .bool true), (83, undef)]) (by exact ⟨congrArg some hv1499, congrArg some hv1501, trivial⟩) ?_
                            refine s_unwant rfl rfl rfl ?_
                            exact s_pred fun _ _ _ hE hI => ⟨undef, [], _, fun _ e => (by cases e; exact hE _ _ rfl), .refl _, by exact hI, ⟨rfl, rfl⟩⟩
                          refine dcons ?_ ?_
                          · intro _ _ H1505 fr1506 hle1507 hd1508
                            obtain ⟨hv1510, hg1511⟩ := hd1508 23 (by decide)
                            obtain ⟨hv1512, hg1513⟩ := hd1508 28 (by decide)
                            refine ⟨_, some (), rfl, fun _ => ?_⟩
                            refine s_env (env' := [(79, .bool true), (84, undef)]) (by exact ⟨congrArg some hv1510, congrArg some hv1512, trivial⟩) ?_
                            refine s_unwant rfl rfl rfl ?_
                            exact s_pred fun _ _ _ hE hI => ⟨undef, [], _, fun _ e => (by cases e; exact hE _ _ rfl), .refl _, by exact hI, ⟨rfl, rfl⟩⟩
                          refine dcons ?_ ?_
                          · intro _ _ H1516 fr1517 hle1518 hd1519
                            obtain ⟨hv1521, hg1522⟩ := hd1519 23 (by decide)
                            refine ⟨_, some (), rfl, fun _ => ?_⟩
                            refine s_env (env' := [(79, .bool true), (7, .pointer (some ⟨b254, 0, none⟩))]) (by exact ⟨congrArg some hv1521, rfl, trivial⟩) ?_
                            refine s_unwant rfl rfl rfl ?_
                            exact s_pred fun _ _ _ hE hI => ⟨undef, [], _, fun _ e => (by cases e; exact hE _ _ rfl), .refl _, by exact hI, ⟨rfl, rfl⟩⟩
                          refine dcons ?_ ?_
                          · intro _ _ H1525 fr1526 hle1527 hd1528
                            obtain ⟨hv1530, hg1531⟩ := hd1528 23 (by decide)
                            obtain ⟨hv1532, hg1533⟩ := hd1528 29 (by decide)
                            obtain ⟨hv1534, hg1535⟩ := hd1528 30 (by decide)
                            refine ⟨_, some (), rfl, fun _ => ?_⟩
                            refine s_env (env' := [(79, .bool true), (85, undef), (86, undef)]) (by exact ⟨congrArg some hv1530, congrArg some hv1532, congrArg some hv1534, trivial⟩) ?_
                            refine s_unwant rfl rfl rfl ?_
                            exact s_pred fun _ _ _ hE hI => ⟨undef, [], _, fun _ e => (by cases e; exact hE _ _ rfl), .refl _, by exact hI, ⟨rfl, rfl⟩⟩
                          refine dcons ?_ ?_
                          · intro _ _ H1538 fr1539 hle1540 hd1541
                            obtain ⟨hv1543, hg1544⟩ := hd1541 23 (by decide)
                            obtain ⟨hv1545, hg1546⟩ := hd1541 31 (by decide)
                            refine ⟨_, some (), rfl, fun _ => ?_⟩
                            refine s_env (env' := [(79, .bool true), (87, undef)]) (by exact ⟨congrArg some hv1543, congrArg some hv1545, trivial⟩) ?_
                            refine s_unwant rfl rfl rfl ?_
                            exact s_pred fun _ _ _ hE hI => ⟨undef, [], _, fun _ e => (by cases e; exact hE _ _ rfl), .refl _, by exact hI, ⟨rfl, rfl⟩⟩
                          refine dcons ?_ ?_
                          · intro _ _ H1549 fr1550 hle1551 hd1552
                            have hs1554 := RSl.mono hle1551 hs268
                            obtain ⟨hv1555, hg1556⟩ := hd1552 32 (by decide)
                            refine ⟨_, some (), rfl, fun _ => ?_⟩
                            refine s_env (env' := [(88, undef), (2, .pointer (some ⟨b1, 0, none⟩))]) (by exact ⟨congrArg some hv1555, rfl, trivial⟩) ?_
                            refine s_unwantU rfl rfl ?_
                            exact s_pred fun _ _ _ hE hI => ⟨undef, [], _, fun _ e => (by cases e; exact hE _ _ rfl), .refl _, by exact hI, ⟨rfl, rfl⟩⟩
                          refine dcons ?_ ?_
                          · intro _ _ H1559 fr1560 hle1561 hd1562
                            obtain ⟨hv1564, hg1565⟩ := hd1562 32 (by decide)
                            obtain ⟨hv1566, hg1567⟩ := hd1562 33 (by decide)
                            refine ⟨_, some (), rfl, fun _ => ?_⟩
                            refine s_env (env' := [(88, undef), (89, undef)]) (by exact ⟨congrArg some hv1564, congrArg some hv1566, trivial⟩) ?_
                            refine s_unwantU rfl rfl ?_
                            exact s_pred fun _ _ _ hE hI => ⟨undef, [], _, fun _ e => (by cases e; exact hE _ _ rfl), .refl _, by exact hI, ⟨rfl, rfl⟩⟩
                          refine dcons ?_ ?_
                          · intro _ _ H1570 fr1571 hle1572 hd1573
                            obtain ⟨hv1575, hg1576⟩ := hd1573 32 (by decide)
                            refine ⟨_, some (), rfl, fun _ => ?_⟩
                            refine s_env (env' := [(88, undef), (9, .int .i64 y256.2.1)]) (by exact ⟨congrArg some hv1575, rfl, trivial⟩) ?_
                            refine s_unwantU rfl rfl ?_
                            exact s_pred fun _ _ _ hE hI => ⟨undef, [], _, fun _ e => (by cases e; exact hE _ _ rfl), .refl _, by exact hI, ⟨rfl, rfl⟩⟩
                          refine dcons ?_ ?_
                          · intro _ _ H1579 fr1580 hle1581 hd1582
                            obtain ⟨hv1584, hg1585⟩ := hd1582 32 (by decide)
                            obtain ⟨hv1586, hg1587⟩ := hd1582 34 (by decide)
                            obtain ⟨hv1588, hg1589⟩ := hd1582 35 (by decide)
                            refine ⟨_, some (), rfl, fun _ => ?_⟩
                            refine s_env (env' := [(88, undef), (90, undef), (91, undef)]) (by exact ⟨congrArg some hv1584, congrArg some hv1586, congrArg some hv1588, trivial⟩) ?_
                            refine s_unwantU rfl rfl ?_
                            exact s_pred fun _ _ _ hE hI => ⟨undef, [], _, fun _ e => (by cases e; exact hE _ _ rfl), .refl _, by exact hI, ⟨rfl, rfl⟩⟩
                          refine dcons ?_ ?_
                          · intro _ _ H1592 fr1593 hle1594 hd1595
                            obtain ⟨hv1597, hg1598⟩ := hd1595 32 (by decide)
                            obtain ⟨hv1599, hg1600⟩ := hd1595 36 (by decide)
                            refine ⟨_, some (), rfl, fun _ => ?_⟩
                            refine s_env (env' := [(88, undef), (92, undef)]) (by exact ⟨congrArg some hv1597, congrArg some hv1599, trivial⟩) ?_
                            refine s_unwantU rfl rfl ?_
                            exact s_pred fun _ _ _ hE hI => ⟨undef, [], _, fun _ e => (by cases e; exact hE _ _ rfl), .refl _, by exact hI, ⟨rfl, rfl⟩⟩
                          refine dcons ?_ ?_
                          · intro _ _ H1603 fr1604 hle1605 hd1606
                            obtain ⟨hv1608, hg1609⟩ := hd1606 32 (by decide)
                            obtain ⟨hv1610, hg1611⟩ := hd1606 37 (by decide)
                            refine ⟨_, some (), rfl, fun _ => ?_⟩
                            refine s_env (env' := [(88, undef), (93, undef)]) (by exact ⟨congrArg some hv1608, congrArg some hv1610, trivial⟩) ?_
                            refine s_unwantU rfl rfl ?_
                            exact s_pred fun _ _ _ hE hI => ⟨undef, [], _, fun _ e => (by cases e; exact hE _ _ rfl), .refl _, by exact hI, ⟨rfl, rfl⟩⟩
                          refine dcons ?_ ?_
                          · intro _ _ H1614 fr1615 hle1616 hd1617
                            obtain ⟨hv1619, hg1620⟩ := hd1617 32 (by decide)
                            refine ⟨_, some (), rfl, fun _ => ?_⟩
                            refine s_env (env' := [(88, undef), (7, .pointer (some ⟨b254, 0, none⟩))]) (by exact ⟨congrArg some hv1619, rfl, trivial⟩) ?_
                            refine s_unwantU rfl rfl ?_
                            exact s_pred fun _ _ _ hE hI => ⟨undef, [], _, fun _ e => (by cases e; exact hE _ _ rfl), .refl _, by exact hI, ⟨rfl, rfl⟩⟩
                          refine dcons ?_ ?_
                          · intro _ _ H1623 fr1624 hle1625 hd1626
                            obtain ⟨hv1628, hg1629⟩ := hd1626 32 (by decide)
                            obtain ⟨hv1630, hg1631⟩ := hd1626 38 (by decide)
                            obtain ⟨hv1632, hg1633⟩ := hd1626 39 (by decide)
                            refine ⟨_, some (), rfl, fun _ => ?_⟩
                            refine s_env (env' := [(88, undef), (94, undef), (95, undef)]) (by exact ⟨congrArg some hv1628, congrArg some hv1630, congrArg some hv1632, trivial⟩) ?_
                            refine s_unwantU rfl rfl ?_
                            exact s_pred fun _ _ _ hE hI => ⟨undef, [], _, fun _ e => (by cases e; exact hE _ _ rfl), .refl _, by exact hI, ⟨rfl, rfl⟩⟩
                          refine dcons ?_ ?_
                          · intro _ _ H1636 fr1637 hle1638 hd1639
                            obtain ⟨hv1641, hg1642⟩ := hd1639 23 (by decide)
                            obtain ⟨hv1643, hg1644⟩ := hd1639 32 (by decide)
                            obtain ⟨hv1645, hg1646⟩ := hd1639 40 (by decide)
                            refine ⟨_, some (), rfl, fun _ => ?_⟩
                            refine s_env (env' := [(79, .bool true), (88, undef), (96, undef)]) (by exact ⟨congrArg some hv1641, congrArg some hv1643, congrArg some hv1645, trivial⟩) ?_
                            refine s_unwant rfl rfl rfl ?_
                            exact s_pred fun _ _ _ hE hI => ⟨undef, [], _, fun _ e => (by cases e; exact hE _ _ rfl), .refl _, by exact hI, ⟨rfl, rfl⟩⟩
                          refine dcons ?_ ?_
                          · intro _ _ H1649 fr1650 hle1651 hd1652
                            obtain ⟨hv1654, hg1655⟩ := hd1652 23 (by decide)
                            obtain ⟨hv1656, hg1657⟩ := hd1652 41 (by decide)
                            refine ⟨_, some (), rfl, fun _ => ?_⟩
                            refine s_env (env' := [(79, .bool true), (97, undef)]) (by exact ⟨congrArg some hv1654, congrArg some hv1656, trivial⟩) ?_
                            refine o_pickT rfl rfl rfl ?_
                            exact s_pred fun _ _ _ hE hI => ⟨(.bool true), [], _, fun _ e => (by cases e; exact hE _ _ rfl), .refl _, by exact hI, ⟨rfl, rfl⟩⟩
                          exact dnil
                        · intro V1660 G1661 H1658 hle1659 hF1662
                          have hs1663 := RSl.mono hle1659 hs267
                          have hs1664 := RSl.mono hle1659 hs268
                          have hA1665 := All2.mono (fun _ _ => GoT.mono hle1659) hA269
                          obtain ⟨hv1666, hg1667⟩ := hF1662 42 (show 42 < 43 by decide)
                          refine s_env (env' := [(98, .bool true), (1, .slice a1_0 x1.length c1_0), (2, .pointer (some ⟨b1, 0, none⟩)), (5, .int .i64 s19), (6, .int .i64 s246), (26, .int .i64 s246), (27, .bool (decide (s246 ≤ 4))), (30, .int .i64 s19), (31, .int .i64 s246), (32, .agg #[.int .i64 s19, .int .i64 s246]), (7, .pointer (some ⟨b254, 0, none⟩)), (34, .agg #[.int .i64 y6.Switches, .slice a8 y6.Links.length c9]), (35, .agg #[.int .i64 s19, .int .i64 s246]), (37, .agg #[.int .i64 y256.1.Switch, .int .i64 y256.1.Port]), (38, .int .i64 y256.2.1), (39, .bool y256.2.2), (8, .pointer (some ⟨b258, 0, none⟩)), (9, .int .i64 y256.2.1), (10, .bool y256.2.2), (40, .bool y256.2.2), (41, .agg #[.int .i64 y6.Switches, .slice a8 y6.Links.length c9]), (42, .int .i64 s19), (43, .slice a262 y260.length c263), (44, .int .i64 s246), (45, .bool y270), (46, .bool (y256.2.2 != y270)), (47, .bool y256.2.2), (48, .bool (!y256.2.2)), (50, .agg #[.int .i64 y6.Switches, .slice a8 y6.Links.length c9]), (51, .agg #[.int .i64 y256.1.Switch, .int .i64 y256.1.Port]), (53, .agg #[.int .i64 y274.1.Switch, .int .i64 y274.1.Port]), (54, .int .i64 y274.2.1), (55, .bool y274.2.2), (11, .pointer (some ⟨b276, 0, none⟩)), (12, .int .i64 y274.2.1), (13, .bool y274.2.2)]) (by exact ⟨congrArg some hv1666, rfl, rfl, rfl, rfl, rfl, rfl, rfl, rfl, rfl, rfl, rfl, rfl, rfl, rfl, rfl, rfl, rfl, rfl, rfl, rfl, rfl, rfl, rfl, rfl, rfl, rfl, rfl, rfl, rfl, rfl, rfl, rfl, rfl, rfl, rfl, trivial⟩) ?_
                          refine s_own (List.sublist_append_left _ _) ?_
                          refine s_done ?_
                          exact s_env (by exact ⟨rfl, rfl, rfl, rfl, rfl, trivial⟩) (s_own (by exact (.cons_cons _ (.cons _ (.cons _ (.cons _ (.cons _ .slnil)))))) (J284 true _ _ _ ⟨rfl, rfl, hle1659⟩))
                      · refine s_split (decide (y256.2.1 < 0)) (fun h1668 => ?_) (fun h1668 => ?_)
                        · refine s_drawL [(fun H v g => v = Value.bool y274.2.2 ∧ g = []),
      (fun H v g => v = Value.bool (!y274.2.2) ∧ g = []),
      (fun H v g => v = Value.bool (!y274.2.2) ∧ g = []),
      (fun H v g => v = Value.agg #[.int .i64 y274.1.Switch, .int .i64 y274.1.Port] ∧ g = []),
      (fun H v g => v = Value.agg #[.int .i64 s19, .int .i64 s246] ∧ g = []),
      (fun H v g => v = Value.bool (!(decide (y274.1 = (⟨s19, s246⟩ : End)))) ∧ g = []),
      (fun H v g => v = Value.bool (!(decide (y274.1 = (⟨s19, s246⟩ : End)))) ∧ g = []),
      (fun H v g => v = Value.bool (!(decide (y274.1 = (⟨s19, s246⟩ : End)))) ∧ g = []),
      (fun H v g => v = Value.int .i64 y256.2.1 ∧ g = []),
      (fun H v g => v = Value.int .i64 y274.2.1 ∧ g = []),
      (fun H v g => v = Value.bool (y256.2.1 != y274.2.1) ∧ g = []),
      (fun H v g => v = Value.bool (y256.2.1 != y274.2.1) ∧ g = []),
      (fun H v g => v = Value.bool (y256.2.1 != y274.2.1) ∧ g = []),
      (fun H v g => v = Value.int .i64 y256.2.1 ∧ g = []),
      (fun H v g => v = Value.bool (decide (y256.2.1 < 0)) ∧ g = []),
      (fun H v g => v = Value.bool (decide (y256.2.1 < 0)) ∧ g = []),
      (fun H v g => v = Value.bool (decide (y256.2.1 < 0)) ∧ g = []),
      uF,
      uF,
      uF,
      uF,
      uF,
      (fun H v g => v = Value.bool true ∧ g = []),
      (fun H v g => v = Value.bool true ∧ g = []),
      uF,
      uF,
      uF,
      uF,
      uF,
      uF,
      uF,
      uF,
      uF,
      uF,
      uF,
      uF,
      uF,
      uF,
      uF,
      uF,
      uF,
      uF,
      (fun H v g => v = Value.bool true ∧ g = [])] [[], [], [], [], [], [], [], [], [], [], [], [], [], [], [], [], [], [], [], [], [], [], [], [], [], [], [], [], [], [], [], [], [], [], [], [], [], [], [], [], [], [], []] mixed ⟨m0, m0, m0, m0, m0, m0, m0, m0, m0, m0, m0, m0, m0, m0, m0, m0, m0, m0, m0, m0, m0, m0, m0, m0, m0, m0, m0, m0, m0, m0, m0, m0, m0, m0, m0, m0, m0, m0, m0, m0, m0, m0, m0, trivial⟩ (by kernel_rfl) (by kernel_rfl) rfl (by kernel_rfl) rfl rfl ?_ ?_
                          · refine dcons ?_ ?_
                            · intro _ _ H1671 fr1672 hle1673 hd1674
                              refine ⟨_, some (), rfl, fun _ => ?_⟩
                              refine s_env (env' := [(13, .bool y274.2.2)]) (by exact ⟨rfl, trivial⟩) ?_
                              refine o_mov rfl ?_
                              exact s_pred fun _ _ _ hE hI => ⟨(.bool y274.2.2), [], _, fun _ e => (by cases e; exact hE _ _ rfl), .refl _, by exact hI, ⟨rfl, rfl⟩⟩
                            refine dcons ?_ ?_
                            · intro _ _ H1678 fr1679 hle1680 hd1681
                              obtain ⟨hv1683, hg1684⟩ := hd1681 0 (by decide)
                              refine ⟨_, some (), rfl, fun _ => ?_⟩
                              refine s_env (env' := [(56, .bool y274.2.2)]) (by exact ⟨congrArg some hv1683, trivial⟩) ?_
                              refine o_not rfl ?_
                              exact s_pred fun _ _ _ hE hI => ⟨(.bool (!y274.2.2)), [], _, fun _ e => (by cases e; exact hE _ _ rfl), .refl _, by exact hI, ⟨rfl, rfl⟩⟩
                            refine dcons ?_ ?_
                            · intro _ _ H1687 fr1688 hle1689 hd1690
                              obtain ⟨hv1692, hg1693⟩ := hd1690 1 (by decide)
                              refine ⟨_, some (), rfl, fun _ => ?_⟩
                              refine s_env (env' := [(57, .bool (!y274.2.2))]) (by exact ⟨congrArg some hv1692, trivial⟩) ?_
                              refine o_mov rfl ?_
                              exact s_pred fun _ _ _ hE hI => ⟨(.bool (!y274.2.2)), [], _, fun _ e => (by cases e; exact hE _ _ rfl), .refl _, by exact hI, ⟨rfl, rfl⟩⟩
                            refine dcons ?_ ?_
                            · intro _ _ H1696 fr1697 hle1698 hd1699
                              obtain ⟨hv1701, hg1702⟩ := hd1699 2 (by decide)
                              refine ⟨_, some (), rfl, fun _ => ?_⟩
                              refine s_env (env' := [(58, .bool (!y274.2.2)), (11, .pointer (some ⟨b276, 0, none⟩))]) (by exact ⟨congrArg some hv1701, rfl, trivial⟩) ?_
                              refine s_want rfl rfl h285 ?_
                              refine o_ld 4 rfl rfl rfl ?_
                              exact s_pred fun _ _ _ hE hI => ⟨(.agg #[.int .i64 y274.1.Switch, .int .i64 y274.1.Port]), [], _, fun _ e => (by cases e; exact hE _ _ rfl), .refl _, by exact hI, ⟨rfl, rfl⟩⟩
                            refine dcons ?_ ?_
                            · intro _ _ H1705 fr1706 hle1707 hd1708
                              obtain ⟨hv1710, hg1711⟩ := hd1708 2 (by decide)
                              refine ⟨_, some (), rfl, fun _ => ?_⟩
                              refine s_env (env' := [(58, .bool (!y274.2.2)), (7, .pointer (some ⟨b254, 0, none⟩))]) (by exact ⟨congrArg some hv1710, rfl, trivial⟩) ?_
                              refine s_want rfl rfl h285 ?_
                              refine o_ld 1 rfl rfl rfl ?_
                              exact s_pred fun _ _ _ hE hI => ⟨(.agg #[.int .i64 s19, .int .i64 s246]), [], _, fun _ e => (by cases e; exact hE _ _ rfl), .refl _, by exact hI, ⟨rfl, rfl⟩⟩
                            refine dcons ?_ ?_
                            · intro _ _ H1714 fr1715 hle1716 hd1717
                              obtain ⟨hv1719, hg1720⟩ := hd1717 2 (by decide)
                              obtain ⟨hv1721, hg1722⟩ := hd1717 3 (by decide)
                              obtain ⟨hv1723, hg1724⟩ := hd1717 4 (by decide)
                              refine ⟨_, some (), rfl, fun _ => ?_⟩
                              refine s_env (env' := [(58, .bool (!y274.2.2)), (59, .agg #[.int .i64 y274.1.Switch, .int .i64 y274.1.Port]), (60, .agg #[.int .i64 s19, .int .i64 s246])]) (by exact ⟨congrArg some hv1719, congrArg some hv1721, congrArg some hv1723, trivial⟩) ?_
                              refine s_want rfl rfl h285 ?_
                              refine o_neS y274.1 (⟨s19, s246⟩ : End) rfl rfl ?_
                              exact s_pred fun _ _ _ hE hI => ⟨(.bool (!(decide (y274.1 = (⟨s19, s246⟩ : End))))), [], _, fun _ e => (by cases e; exact hE _ _ rfl), .refl _, by exact hI, ⟨rfl, rfl⟩⟩
                            refine dcons ?_ ?_
                            · intro _ _ H1727 fr1728 hle1729 hd1730
                              obtain ⟨hv1732, hg1733⟩ := hd1730 2 (by decide)
                              obtain ⟨hv1734, hg1735⟩ := hd1730 5 (by decide)
                              refine ⟨_, some (), rfl, fun _ => ?_⟩
                              refine s_env (env' := [(58, .bool (!y274.2.2)), (61, .bool (!(decide (y274.1 = (⟨s19, s246⟩ : End)))))]) (by exact ⟨congrArg some hv1732, congrArg some hv1734, trivial⟩) ?_
                              refine o_pickF rfl h285 rfl ?_
                              exact s_pred fun _ _ _ hE hI => ⟨(.bool (!(decide (y274.1 = (⟨s19, s246⟩ : End))))), [], _, fun _ e => (by cases e; exact hE _ _ rfl), .refl _, by exact hI, ⟨rfl, rfl⟩⟩
                            refine dcons ?_ ?_
                            · intro _ _ H1738 fr1739 hle1740 hd1741
                              obtain ⟨hv1743, hg1744⟩ := hd1741 6 (by decide)
                              refine ⟨_, some (), rfl, fun _ => ?_⟩
                              refine s_env (env' := [(62, .bool (!(decide (y274.1 = (⟨s19, s246⟩ : End)))))]) (by exact ⟨congrArg some hv1743, trivial⟩) ?_
                              refine o_mov rfl ?_
                              exact s_pred fun _ _ _ hE hI => ⟨(.bool (!(decide (y274.1 = (⟨s19, s246⟩ : End))))), [], _, fun _ e => (by cases e; exact hE _ _ rfl), .refl _, by exact hI, ⟨rfl, rfl⟩⟩
                            refine dcons ?_ ?_
                            · intro _ _ H1747 fr1748 hle1749 hd1750
                              obtain ⟨hv1752, hg1753⟩ := hd1750 7 (by decide)
                              refine ⟨_, some (), rfl, fun _ => ?_⟩
                              refine s_env (env' := [(63, .bool (!(decide (y274.1 = (⟨s19, s246⟩ : End))))), (9, .int .i64 y256.2.1)]) (by exact ⟨congrArg some hv1752, rfl, trivial⟩) ?_
                              refine s_want rfl rfl h746 ?_
                              refine o_mov rfl ?_
                              exact s_pred fun _ _ _ hE hI => ⟨(.int .i64 y256.2.1), [], _, fun _ e => (by cases e; exact hE _ _ rfl), .refl _, by exact hI, ⟨rfl, rfl⟩⟩
                            refine dcons ?_ ?_
                            · intro _ _ H1756 fr1757 hle1758 hd1759
                              obtain ⟨hv1761, hg1762⟩ := hd1759 7 (by decide)
                              refine ⟨_, some (), rfl, fun _ => ?_⟩
                              refine s_env (env' := [(63, .bool (!(decide (y274.1 = (⟨s19, s246⟩ : End))))), (12, .int .i64 y274.2.1)]) (by exact ⟨congrArg some hv1761, rfl, trivial⟩) ?_
                              refine s_want rfl rfl h746 ?_
                              refine o_mov rfl ?_
                              exact s_pred fun _ _ _ hE hI => ⟨(.int .i64 y274.2.1), [], _, fun _ e => (by cases e; exact hE _ _ rfl), .refl _, by exact hI, ⟨rfl, rfl⟩⟩
                            refine dcons ?_ ?_
                            · intro _ _ H1765 fr1766 hle1767 hd1768
                              obtain ⟨hv1770, hg1771⟩ := hd1768 7 (by decide)
                              obtain ⟨hv1772, hg1773⟩ := hd1768 8 (by decide)
                              obtain ⟨hv1774, hg1775⟩ := hd1768 9 (by decide)
                              refine ⟨_, some (), rfl, fun _ => ?_⟩
                              refine s_env (env' := [(63, .bool (!(decide (y274.1 = (⟨s19, s246⟩ : End))))), (64, .int .i64 y256.2.1), (65, .int .i64 y274.2.1)]) (by exact ⟨congrArg some hv1770, congrArg some hv1772, congrArg some hv1774, trivial⟩) ?_
                              refine s_want rfl rfl h746 ?_
                              refine o_ne rfl rfl ?_
                              exact s_pred fun _ _ _ hE hI => ⟨(.bool (y256.2.1 != y274.2.1)), [], _, fun _ e => (by cases e; exact hE _ _ rfl), .refl _, by exact hI, ⟨rfl, rfl⟩⟩
                            refine dcons ?_ ?_
                            · intro _ _ H1778 fr1779 hle1780 hd1781
                              obtain ⟨hv1783, hg1784⟩ := hd1781 7 (by decide)
                              obtain ⟨hv1785, hg1786⟩ := hd1781 10 (by decide)
                              refine ⟨_, some (), rfl, fun _ => ?_⟩
                              refine s_env (env' := [(63, .bool (!(decide (y274.1 = (⟨s19, s246⟩ : End))))), (66, .bool (y256.2.1 != y274.2.1))]) (by exact ⟨congrArg some hv1783, congrArg some hv1785, trivial⟩) ?_
                              refine o_pickF rfl h746 rfl ?_
                              exact s_pred fun _ _ _ hE hI => ⟨(.bool (y256.2.1 != y274.2.1)), [], _, fun _ e => (by cases e; exact hE _ _ rfl), .refl _, by exact hI, ⟨rfl, rfl⟩⟩
                            refine dcons ?_ ?_
                            · intro _ _ H1789 fr1790 hle1791 hd1792
                              obtain ⟨hv1794, hg1795⟩ := hd1792 11 (by decide)
                              refine ⟨_, some (), rfl, fun _ => ?_⟩
                              refine s_env (env' := [(67, .bool (y256.2.1 != y274.2.1))]) (by exact ⟨congrArg some hv1794, trivial⟩) ?_
                              refine o_mov rfl ?_
                              exact s_pred fun _ _ _ hE hI => ⟨(.bool (y256.2.1 != y274.2.1)), [], _, fun _ e => (by cases e; exact hE _ _ rfl), .refl _, by exact hI, ⟨rfl, rfl⟩⟩
                            refine dcons ?_ ?_
                            · intro _ _ H1798 fr1799 hle1800 hd1801
                              obtain ⟨hv1803, hg1804⟩ := hd1801 12 (by decide)
                              refine ⟨_, some (), rfl, fun _ => ?_⟩
                              refine s_env (env' := [(68, .bool (y256.2.1 != y274.2.1)), (9, .int .i64 y256.2.1)]) (by exact ⟨congrArg some hv1803, rfl, trivial⟩) ?_
                              refine s_want rfl rfl h1207 ?_
                              refine o_mov rfl ?_
                              exact s_pred fun _ _ _ hE hI => ⟨(.int .i64 y256.2.1), [], _, fun _ e => (by cases e; exact hE _ _ rfl), .refl _, by exact hI, ⟨rfl, rfl⟩⟩
                            refine dcons ?_ ?_
                            · intro _ _ H1807 fr1808 hle1809 hd1810
                              obtain ⟨hv1812, hg1813⟩ := hd1810 12 (by decide)
                              obtain ⟨hv1814, hg1815⟩ := hd1810 13 (by decide)
                              refine ⟨_, some (), rfl, fun _ => ?_⟩
                              refine s_env (env' := [(68, .bool (y256.2.1 != y274.2.1)), (69, .int .i64 y256.2.1)]) (by exact ⟨congrArg some hv1812, congrArg some hv1814, trivial⟩) ?_
                              refine s_want rfl rfl h1207 ?_
                              refine o_lt rfl rfl ?_
                              exact s_pred fun _ _ _ hE hI => ⟨(.bool (decide (y256.2.1 < 0))), [], _, fun _ e => (by cases e; exact hE _ _ rfl), .refl _, by exact hI, ⟨rfl, rfl⟩⟩
                            refine dcons ?_ ?_
                            · intro _ _ H1818 fr1819 hle1820 hd1821
                              obtain ⟨hv1823, hg1824⟩ := hd1821 12 (by decide)
                              obtain ⟨hv1825, hg1826⟩ := hd1821 14 (by decide)
                              refine ⟨_, some (), rfl, fun _ => ?_⟩
                              refine s_env (env' := [(68, .bool (y256.2.1 != y274.2.1)), (70, .bool (decide (y256.2.1 < 0)))]) (by exact ⟨congrArg some hv1823, congrArg some hv1825, trivial⟩) ?_
                              refine o_pickF rfl h1207 rfl ?_
                              exact s_pred fun _ _ _ hE hI => ⟨(.bool (decide (y256.2.1 < 0))), [], _, fun _ e => (by cases e; exact hE _ _ rfl), .refl _, by exact hI, ⟨rfl, rfl⟩⟩
                            refine dcons ?_ ?_
                            · intro _ _ H1829 fr1830 hle1831 hd1832
                              obtain ⟨hv1834, hg1835⟩ := hd1832 15 (by decide)
                              refine ⟨_, some (), rfl, fun _ => ?_⟩
                              refine s_env (env' := [(71, .bool (decide (y256.2.1 < 0)))]) (by exact ⟨congrArg some hv1834, trivial⟩) ?_
                              refine o_mov rfl ?_
                              exact s_pred fun _ _ _ hE hI => ⟨(.bool (decide (y256.2.1 < 0))), [], _, fun _ e => (by cases e; exact hE _ _ rfl), .refl _, by exact hI, ⟨rfl, rfl⟩⟩
                            refine dcons ?_ ?_
                            · intro _ _ H1838 fr1839 hle1840 hd1841
                              obtain ⟨hv1843, hg1844⟩ := hd1841 16 (by decide)
                              refine ⟨_, some (), rfl, fun _ => ?_⟩
                              refine s_env (env' := [(72, .bool (decide (y256.2.1 < 0))), (9, .int .i64 y256.2.1)]) (by exact ⟨congrArg some hv1843, rfl, trivial⟩) ?_
                              refine s_unwant rfl rfl h1668 ?_
                              exact s_pred fun _ _ _ hE hI => ⟨undef, [], _, fun _ e => (by cases e; exact hE _ _ rfl), .refl _, by exact hI, ⟨rfl, rfl⟩⟩
                            refine dcons ?_ ?_
                            · intro _ _ H1847 fr1848 hle1849 hd1850
                              have hs1852 := RSl.mono hle1849 hs268
                              obtain ⟨hv1853, hg1854⟩ := hd1850 16 (by decide)
                              refine ⟨_, some (), rfl, fun _ => ?_⟩
                              refine s_env (env' := [(72, .bool (decide (y256.2.1 < 0))), (2, .pointer (some ⟨b1, 0, none⟩))]) (by exact ⟨congrArg some hv1853, rfl, trivial⟩) ?_
                              refine s_unwant rfl rfl h1668 ?_
                              exact s_pred fun _ _ _ hE hI => ⟨undef, [], _, fun _ e => (by cases e; exact hE _ _ rfl), .refl _, by exact hI, ⟨rfl, rfl⟩⟩
                            refine dcons ?_ ?_
                            · intro _ _ H1857 fr1858 hle1859 hd1860
                              obtain ⟨hv1862, hg1863⟩ := hd1860 16 (by decide)
                              obtain ⟨hv1864, hg1865⟩ := hd1860 18 (by decide)
                              refine ⟨_, some (), rfl, fun _ => ?_⟩
                              refine s_env (env' := [(72, .bool (decide (y256.2.1 < 0))), (74, undef)]) (by exact ⟨congrArg some hv1862, congrArg some hv1864, trivial⟩) ?_
                              refine s_unwant rfl rfl h1668 ?_
                              exact s_pred fun _ _ _ hE hI => ⟨undef, [], _, fun _ e => (by cases e; exact hE _ _ rfl), .refl _, by exact hI, ⟨rfl, rfl⟩⟩
                            refine dcons ?_ ?_
                            · intro _ _ H1868 fr1869 hle1870 hd1871
                              obtain ⟨hv1873, hg1874⟩ := hd1871 16 (by decide)
                              obtain ⟨hv1875, hg1876⟩ := hd1871 19 (by decide)
                              refine ⟨_, some (), rfl, fun _ => ?_⟩
                              refine s_env (env' := [(72, .bool (decide (y256.2.1 < 0))), (75, undef)]) (by exact ⟨congrArg some hv1873, congrArg some hv1875, trivial⟩) ?_
                              refine s_unwant rfl rfl h1668 ?_
                              exact s_pred fun _ _ _ hE hI => ⟨undef, [], _, fun _ e => (by cases e; exact hE _ _ rfl), .refl _, by exact hI, ⟨rfl, rfl⟩⟩
                            refine dcons ?_ ?_
                            · intro _ _ H1879 fr1880 hle1881 hd1882
                              obtain ⟨hv1884, hg1885⟩ := hd1882 16 (by decide)
                              obtain ⟨hv1886, hg1887⟩ := hd1882 17 (by decide)
                              obtain ⟨hv1888, hg1889⟩ := hd1882 20 (by decide)
                              refine ⟨_, some (), rfl, fun _ => ?_⟩
                              refine s_env (env' := [(72, .bool (decide (y256.2.1 < 0))), (73, undef), (76, undef)]) (by exact ⟨congrArg some hv1884, congrArg some hv1886, congrArg some hv1888, trivial⟩) ?_
                              refine s_unwant rfl rfl h1668 ?_
                              exact s_pred fun _ _ _ hE hI => ⟨undef, [], _, fun _ e => (by cases e; exact hE _ _ rfl), .refl _, by exact hI, ⟨rfl, rfl⟩⟩
                            refine dcons ?_ ?_
                            · intro _ _ H1892 fr1893 hle1894 hd1895
                              obtain ⟨hv1897, hg1898⟩ := hd1895 16 (by decide)
                              obtain ⟨hv1899, hg1900⟩ := hd1895 21 (by decide)
                              refine ⟨_, some (), rfl, fun _ => ?_⟩
                              refine s_env (env' := [(72, .bool (decide (y256.2.1 < 0))), (77, undef)]) (by exact ⟨congrArg some hv1897, congrArg some hv1899, trivial⟩) ?_
                              refine o_pickT rfl h1668 rfl ?_
                              exact s_pred fun _ _ _ hE hI => ⟨(.bool true), [], _, fun _ e => (by cases e; exact hE _ _ rfl), .refl _, by exact hI, ⟨rfl, rfl⟩⟩
                            refine dcons ?_ ?_
                            · intro _ _ H1903 fr1904 hle1905 hd1906
                              obtain ⟨hv1908, hg1909⟩ := hd1906 22 (by decide)
                              refine ⟨_, some (), rfl, fun _ => ?_⟩
                              refine s_env (env' := [(78, .bool true)]) (by exact ⟨congrArg some hv1908, trivial⟩) ?_
                              refine o_mov rfl ?_
                              exact s_pred fun _ _ _ hE hI => ⟨(.bool true), [], _, fun _ e => (by cases e; exact hE _ _ rfl), .refl _, by exact hI, ⟨rfl, rfl⟩⟩
                            refine dcons ?_ ?_
                            · intro _ _ H1912 fr1913 hle1914 hd1915
                              have hs1917 := RSl.mono hle1914 hs268
                              obtain ⟨hv1918, hg1919⟩ := hd1915 23 (by decide)
                              refine ⟨_, some (), rfl, fun _ => ?_⟩
                              refine s_env (env' := [(79, .bool true), (2, .pointer (some ⟨b1, 0, none⟩))]) (by exact ⟨congrArg some hv1918, rfl, trivial⟩) ?_
                              refine s_unwant rfl rfl rfl ?_
                              exact s_pred fun _ _ _ hE hI => ⟨undef, [], _, fun _ e => (by cases e; exact hE _ _ rfl), .refl _, by exact hI, ⟨rfl, rfl⟩⟩
                            refine dcons ?_ ?_
                            · intro _ _ H1922 fr1923 hle1924 hd1925
                              obtain ⟨hv1927, hg1928⟩ := hd1925 23 (by decide)
                              obtain ⟨hv1929, hg1930⟩ := hd1925 24 (by decide)
                              refine ⟨_, some (), rfl, fun _ => ?_⟩
                              refine s_env (env' := [(79, .bool true), (80, undef)]) (by exact ⟨congrArg some hv1927, congrArg some hv1929, trivial⟩) ?_
                              refine s_unwant rfl rfl rfl ?_
                              exact s_pred fun _ _ _ hE hI => ⟨undef, [], _, fun _ e => (by cases e; exact hE _ _ rfl), .refl _, by exact hI, ⟨rfl, rfl⟩⟩
                            refine dcons ?_ ?_
                            · intro _ _ H1933 fr1934 hle1935 hd1936
                              obtain ⟨hv1938, hg1939⟩ := hd1936 23 (by decide)
                              refine ⟨_, some (), rfl, fun _ => ?_⟩
                              refine s_env (env' := [(79, .bool true), (9, .int .i64 y256.2.1)]) (by exact ⟨congrArg some hv1938, rfl, trivial⟩) ?_
                              refine s_unwant rfl rfl rfl ?_
                              exact s_pred fun _ _ _ hE hI => ⟨undef, [], _, fun _ e => (by cases e; exact hE _ _ rfl), .refl _, by exact hI, ⟨rfl, rfl⟩⟩
                            refine dcons ?_ ?_
                            · intro _ _ H1942 fr1943 hle1944 hd1945
                              obtain ⟨hv1947, hg1948⟩ := hd1945 23 (by decide)
                              obtain ⟨hv1949, hg1950⟩ := hd1945 25 (by decide)
                              obtain ⟨hv1951, hg1952⟩ := hd1945 26 (by decide)
                              refine ⟨_, some (), rfl, fun _ => ?_⟩
                              refine s_env (env' := [(79, .bool true), (81, undef), (82, undef)]) (by exact ⟨congrArg some hv1947, congrArg some hv1949, congrArg some hv1951, trivial⟩) ?_
                              refine s_unwant rfl rfl rfl ?_
                              exact s_pred fun _ _ _ hE hI => ⟨undef, [], _, fun _ e => (by cases e; exact hE _ _ rfl), .refl _, by exact hI, ⟨rfl, rfl⟩⟩
                            refine dcons ?_ ?_
                            · intro _ _ H1955 fr1956 hle1957 hd1958
                              obtain ⟨hv1960, hg1961⟩ := hd1958 23 (by decide)
                              obtain ⟨hv1962, hg1963⟩ := hd1958 27 (by decide)
                              refine ⟨_, some (), rfl, fun _ => ?_⟩
                              refine s_env (env' := [(79, .bool true), (83, undef)]) (by exact ⟨congrArg some hv1960, congrArg some hv1962, trivial⟩) ?_
                              refine s_unwant rfl rfl rfl ?_
                              exact s_pred fun _ _ _ hE hI => ⟨undef, [], _, fun _ e => (by cases e; exact hE _ _ rfl), .refl _, by exact hI, ⟨rfl, rfl⟩⟩
                            refine dcons ?_ ?_
                            · intro _ _ H1966 fr1967 hle1968 hd1969
                              obtain ⟨hv1971, hg1972⟩ := hd1969 23 (by decide)
                              obtain ⟨hv1973, hg1974⟩ := hd1969 28 (by decide)
                              refine ⟨_, some (), rfl, fun _ => ?_⟩
                              refine s_env (env' := [(79, .bool true), (84, undef)]) (by exact ⟨congrArg some hv1971, congrArg some hv1973, trivial⟩) ?_
                              refine s_unwant rfl rfl rfl ?_
                              exact s_pred fun _ _ _ hE hI => ⟨undef, [], _, fun _ e => (by cases e; exact hE _ _ rfl), .refl _, by exact hI, ⟨rfl, rfl⟩⟩
                            refine dcons ?_ ?_
                            · intro _ _ H1977 fr1978 hle1979 hd1980
                              obtain ⟨hv1982, hg1983⟩ := hd1980 23 (by decide)
                              refine ⟨_, some (), rfl, fun _ => ?_⟩
                              refine s_env (env' := [(79, .bool true), (7, .pointer (some ⟨b254, 0, none⟩))]) (by exact ⟨congrArg some hv1982, rfl, trivial⟩) ?_
                              refine s_unwant rfl rfl rfl ?_
                              exact s_pred fun _ _ _ hE hI => ⟨undef, [], _, fun _ e => (by cases e; exact hE _ _ rfl), .refl _, by exact hI, ⟨rfl, rfl⟩⟩
                            refine dcons ?_ ?_
                            · intro _ _ H1986 fr1987 hle1988 hd1989
                              obtain ⟨hv1991, hg1992⟩ := hd1989 23 (by decide)
                              obtain ⟨hv1993, hg1994⟩ := hd1989 29 (by decide)
                              obtain ⟨hv1995, hg1996⟩ := hd1989 30 (by decide)
                              refine ⟨_, some (), rfl, fun _ => ?_⟩
                              refine s_env (env' := [(79, .bool true), (85, undef), (86, undef)]) (by exact ⟨congrArg some hv1991, congrArg some hv1993, congrArg some hv1995, trivial⟩) ?_
                              refine s_unwant rfl rfl rfl ?_
                              exact s_pred fun _ _ _ hE hI => ⟨undef, [], _, fun _ e => (by cases e; exact hE _ _ rfl), .refl _, by exact hI, ⟨rfl, rfl⟩⟩
                            refine dcons ?_ ?_
                            · intro _ _ H1999 fr2000 hle2001 hd2002
                              obtain ⟨hv2004, hg2005⟩ := hd2002 23 (by decide)
                              obtain ⟨hv2006, hg2007⟩ := hd2002 31 (by decide)
                              refine ⟨_, some (), rfl, fun _ => ?_⟩
                              refine s_env (env' := [(79, .bool true), (87, undef)]) (by exact ⟨congrArg some hv2004, congrArg some hv2006, trivial⟩) ?_
                              refine s_unwant rfl rfl rfl ?_
                              exact s_pred fun _ _ _ hE hI => ⟨undef, [], _, fun _ e => (by cases e; exact hE _ _ rfl), .refl _, by exact hI, ⟨rfl, rfl⟩⟩
                            refine dcons ?_ ?_
                            · intro _ _ H2010 fr2011 hle2012 hd2013
                              have hs2015 := RSl.mono hle2012 hs268
                              obtain ⟨hv2016, hg2017⟩ := hd2013 32 (by decide)
                              refine ⟨_, some (), rfl, fun _ => ?_⟩
                              refine s_env (env' := [(88, undef), (2, .pointer (some ⟨b1, 0, none⟩))]) (by exact ⟨congrArg some hv2016, rfl, trivial⟩) ?_
                              refine s_unwantU rfl rfl ?_
                              exact s_pred fun _ _ _ hE hI => ⟨undef, [], _, fun _ e => (by cases e; exact hE _ _ rfl), .refl _, by exact hI, ⟨rfl, rfl⟩⟩
                            refine dcons ?_ ?_
                            · intro _ _ H2020 fr2021 hle2022 hd2023
                              obtain ⟨hv2025, hg2026⟩ := hd2023 32 (by decide)
                              obtain ⟨hv2027, hg2028⟩ := hd2023 33 (by decide)
                              refine ⟨_, some (), rfl, fun _ => ?_⟩
                              refine s_env (env' := [(88, undef), (89, undef)]) (by exact ⟨congrArg some hv2025, congrArg some hv2027, trivial⟩) ?_
                              refine s_unwantU rfl rfl ?_
                              exact s_pred fun _ _ _ hE hI => ⟨undef, [], _, fun _ e => (by cases e; exact hE _ _ rfl), .refl _, by exact hI, ⟨rfl, rfl⟩⟩
                            refine dcons ?_ ?_
                            · intro _ _ H2031 fr2032 hle2033 hd2034
                              obtain ⟨hv2036, hg2037⟩ := hd2034 32 (by decide)
                              refine ⟨_, some (), rfl, fun _ => ?_⟩
                              refine s_env (env' := [(88, undef), (9, .int .i64 y256.2.1)]) (by exact ⟨congrArg some hv2036, rfl, trivial⟩) ?_
                              refine s_unwantU rfl rfl ?_
                              exact s_pred fun _ _ _ hE hI => ⟨undef, [], _, fun _ e => (by cases e; exact hE _ _ rfl), .refl _, by exact hI, ⟨rfl, rfl⟩⟩
                            refine dcons ?_ ?_
                            · intro _ _ H2040 fr2041 hle2042 hd2043
                              obtain ⟨hv2045, hg2046⟩ := hd2043 32 (by decide)
                              obtain ⟨hv2047, hg2048⟩ := hd2043 34 (by decide)
                              obtain ⟨hv2049, hg2050⟩ := hd2043 35 (by decide)
                              refine ⟨_, some (), rfl, fun _ => ?_⟩
                              refine s_env (env' := [(88, undef), (90, undef), (91, undef)]) (by exact ⟨congrArg some hv2045, congrArg some hv2047, congrArg some hv2049, trivial⟩) ?_
                              refine s_unwantU rfl rfl ?_
                              exact s_pred fun _ _ _ hE hI => ⟨undef, [], _, fun _ e => (by cases e; exact hE _ _ rfl), .refl _, by exact hI, ⟨rfl, rfl⟩⟩
                            refine dcons ?_ ?_
                            · intro _ _ H2053 fr2054 hle2055 hd2056
                              obtain ⟨hv2058, hg2059⟩ := hd2056 32 (by decide)
                              obtain ⟨hv2060, hg2061⟩ := hd2056 36 (by decide)
                              refine ⟨_, some (), rfl, fun _ => ?_⟩
                              refine s_env (env' := [(88, undef), (92, undef)]) (by exact ⟨congrArg some hv2058, congrArg some hv2060, trivial⟩) ?_
                              refine s_unwantU rfl rfl ?_
                              exact s_pred fun _ _ _ hE hI => ⟨undef, [], _, fun _ e => (by cases e; exact hE _ _ rfl), .refl _, by exact hI, ⟨rfl, rfl⟩⟩
                            refine dcons ?_ ?_
                            · intro _ _ H2064 fr2065 hle2066 hd2067
                              obtain ⟨hv2069, hg2070⟩ := hd2067 32 (by decide)
                              obtain ⟨hv2071, hg2072⟩ := hd2067 37 (by decide)
                              refine ⟨_, some (), rfl, fun _ => ?_⟩
                              refine s_env (env' := [(88, undef), (93, undef)]) (by exact ⟨congrArg some hv2069, congrArg some hv2071, trivial⟩) ?_
                              refine s_unwantU rfl rfl ?_
                              exact s_pred fun _ _ _ hE hI => ⟨undef, [], _, fun _ e => (by cases e; exact hE _ _ rfl), .refl _, by exact hI, ⟨rfl, rfl⟩⟩
                            refine dcons ?_ ?_
                            · intro _ _ H2075 fr2076 hle2077 hd2078
                              obtain ⟨hv2080, hg2081⟩ := hd2078 32 (by decide)
                              refine ⟨_, some (), rfl, fun _ => ?_⟩
                              refine s_env (env' := [(88, undef), (7, .pointer (some ⟨b254, 0, none⟩))]) (by exact ⟨congrArg some hv2080, rfl, trivial⟩) ?_
                              refine s_unwantU rfl rfl ?_
                              exact s_pred fun _ _ _ hE hI => ⟨undef, [], _, fun _ e => (by cases e; exact hE _ _ rfl), .refl _, by exact hI, ⟨rfl, rfl⟩⟩
                            refine dcons ?_ ?_
                            · intro _ _ H2084 fr2085 hle2086 hd2087
                              obtain ⟨hv2089, hg2090⟩ := hd2087 32 (by decide)
                              obtain ⟨hv2091, hg2092⟩ := hd2087 38 (by decide)
                              obtain ⟨hv2093, hg2094⟩ := hd2087 39 (by decide)
                              refine ⟨_, some (), rfl, fun _ => ?_⟩
                              refine s_env (env' := [(88, undef), (94, undef), (95, undef)]) (by exact ⟨congrArg some hv2089, congrArg some hv2091, congrArg some hv2093, trivial⟩) ?_
                              refine s_unwantU rfl rfl ?_
                              exact s_pred fun _ _ _ hE hI => ⟨undef, [], _, fun _ e => (by cases e; exact hE _ _ rfl), .refl _, by exact hI, ⟨rfl, rfl⟩⟩
                            refine dcons ?_ ?_
                            · intro _ _ H2097 fr2098 hle2099 hd2100
                              obtain ⟨hv2102, hg2103⟩ := hd2100 23 (by decide)
                              obtain ⟨hv2104, hg2105⟩ := hd2100 32 (by decide)
                              obtain ⟨hv2106, hg2107⟩ := hd2100 40 (by decide)
                              refine ⟨_, some (), rfl, fun _ => ?_⟩
                              refine s_env (env' := [(79, .bool true), (88, undef), (96, undef)]) (by exact ⟨congrArg some hv2102, congrArg some hv2104, congrArg some hv2106, trivial⟩) ?_
                              refine s_unwant rfl rfl rfl ?_
                              exact s_pred fun _ _ _ hE hI => ⟨undef, [], _, fun _ e => (by cases e; exact hE _ _ rfl), .refl _, by exact hI, ⟨rfl, rfl⟩⟩
                            refine dcons ?_ ?_
                            · intro _ _ H2110 fr2111 hle2112 hd2113
                              obtain ⟨hv2115, hg2116⟩ := hd2113 23 (by decide)
                              obtain ⟨hv2117, hg2118⟩ := hd2113 41 (by decide)
                              refine ⟨_, some (), rfl, fun _ => ?_⟩
                              refine s_env (env' := [(79, .bool true), (97, undef)]) (by exact ⟨congrArg some hv2115, congrArg some hv2117, trivial⟩) ?_
                              refine o_pickT rfl rfl rfl ?_
                              exact s_pred fun _ _ _ hE hI => ⟨(.bool true), [], _, fun _ e => (by cases e; exact hE _ _ rfl), .refl _, by exact hI, ⟨rfl, rfl⟩⟩
                            exact dnil
                          · intro V2121 G2122 H2119 hle2120 hF2123
                            have hs2124 := RSl.mono hle2120 hs267
                            have hs2125 := RSl.mono hle2120 hs268
                            have hA2126 := All2.mono (fun _ _ => GoT.mono hle2120) hA269
                            obtain ⟨hv2127, hg2128⟩ := hF2123 42 (show 42 < 43 by decide)
                            refine s_env (env' := [(98, .bool true), (1, .slice a1_0 x1.length c1_0), (2, .pointer (some ⟨b1, 0, none⟩)), (5, .int .i64 s19), (6, .int .i64 s246), (26, .int .i64 s246), (27, .bool (decide (s246 ≤ 4))), (30, .int .i64 s19), (31, .int .i64 s246), (32, .agg #[.int .i64 s19, .int .i64 s246]), (7, .pointer (some ⟨b254, 0, none⟩)), (34, .agg #[.int .i64 y6.Switches, .slice a8 y6.Links.length c9]), (35, .agg #[.int .i64 s19, .int .i64 s246]), (37, .agg #[.int .i64 y256.1.Switch, .int .i64 y256.1.Port]), (38, .int .i64 y256.2.1), (39, .bool y256.2.2), (8, .pointer (some ⟨b258, 0, none⟩)), (9, .int .i64 y256.2.1), (10, .bool y256.2.2), (40, .bool y256.2.2), (41, .agg #[.int .i64 y6.Switches, .slice a8 y6.Links.length c9]), (42, .int .i64 s19), (43, .slice a262 y260.length c263), (44, .int .i64 s246), (45, .bool y270), (46, .bool (y256.2.2 != y270)), (47, .bool y256.2.2), (48, .bool (!y256.2.2)), (50, .agg #[.int .i64 y6.Switches, .slice a8 y6.Links.length c9]), (51, .agg #[.int .i64 y256.1.Switch, .int .i64 y256.1.Port]), (53, .agg #[.int .i64 y274.1.Switch, .int .i64 y274.1.Port]), (54, .int .i64 y274.2.1), (55, .bool y274.2.2), (11, .pointer (some ⟨b276, 0, none⟩)), (12, .int .i64 y274.2.1), (13, .bool y274.2.2)]) (by exact ⟨congrArg some hv2127, rfl, rfl, rfl, rfl, rfl, rfl, rfl, rfl, rfl, rfl, rfl, rfl, rfl, rfl, rfl, rfl, rfl, rfl, rfl, rfl, rfl, rfl, rfl, rfl, rfl, rfl, rfl, rfl, rfl, rfl, rfl, rfl, rfl, rfl, rfl, trivial⟩) ?_
                            refine s_own (List.sublist_append_left _ _) ?_
                            refine s_done ?_
                            exact s_env (by exact ⟨rfl, rfl, rfl, rfl, rfl, trivial⟩) (s_own (by exact (.cons_cons _ (.cons _ (.cons _ (.cons _ (.cons _ .slnil)))))) (J284 true _ _ _ ⟨rfl, rfl, hle2120⟩))
                        · refine s_split (decide (y256.2.1 ≥ (y6.Links.length : Int))) (fun h2129 => ?_) (fun h2129 => ?_)
                          · refine s_drawL [(fun H v g => v = Value.bool y274.2.2 ∧ g = []),
      (fun H v g => v = Value.bool (!y274.2.2) ∧ g = []),
      (fun H v g => v = Value.bool (!y274.2.2) ∧ g = []),
      (fun H v g => v = Value.agg #[.int .i64 y274.1.Switch, .int .i64 y274.1.Port] ∧ g = []),
      (fun H v g => v = Value.agg #[.int .i64 s19, .int .i64 s246] ∧ g = []),
      (fun H v g => v = Value.bool (!(decide (y274.1 = (⟨s19, s246⟩ : End)))) ∧ g = []),
      (fun H v g => v = Value.bool (!(decide (y274.1 = (⟨s19, s246⟩ : End)))) ∧ g = []),
      (fun H v g => v = Value.bool (!(decide (y274.1 = (⟨s19, s246⟩ : End)))) ∧ g = []),
      (fun H v g => v = Value.int .i64 y256.2.1 ∧ g = []),
      (fun H v g => v = Value.int .i64 y274.2.1 ∧ g = []),
      (fun H v g => v = Value.bool (y256.2.1 != y274.2.1) ∧ g = []),
      (fun H v g => v = Value.bool (y256.2.1 != y274.2.1) ∧ g = []),
      (fun H v g => v = Value.bool (y256.2.1 != y274.2.1) ∧ g = []),
      (fun H v g => v = Value.int .i64 y256.2.1 ∧ g = []),
      (fun H v g => v = Value.bool (decide (y256.2.1 < 0)) ∧ g = []),
      (fun H v g => v = Value.bool (decide (y256.2.1 < 0)) ∧ g = []),
      (fun H v g => v = Value.bool (decide (y256.2.1 < 0)) ∧ g = []),
      (fun H v g => v = Value.int .i64 y256.2.1 ∧ g = []),
      (fun H v g => v = Value.pointer (some ⟨b1, 1, none⟩) ∧ g = []),
      (fun H v g => v = Value.slice a8 y6.Links.length c9 ∧ g = [] ∧ RSl H a8 c9 y6.Links),
      (fun H v g => v = Value.int .i64 (y6.Links.length : Int) ∧ g = []),
      (fun H v g => v = Value.bool (decide (y256.2.1 ≥ (y6.Links.length : Int))) ∧ g = []),
      (fun H v g => v = Value.bool (decide (y256.2.1 ≥ (y6.Links.length : Int))) ∧ g = []),
      (fun H v g => v = Value.bool (decide (y256.2.1 ≥ (y6.Links.length : Int))) ∧ g = []),
      uF,
      uF,
      uF,
      uF,
      uF,
      uF,
      uF,
      uF,
      uF,
      uF,
      uF,
      uF,
      uF,
      uF,
      uF,
      uF,
      uF,
      uF,
      (fun H v g => v = Value.bool true ∧ g = [])] [[], [], [], [], [], [], [], [], [], [], [], [], [], [], [], [], [], [], [], [], [], [], [], [], [], [], [], [], [], [], [], [], [], [], [], [], [], [], [], [], [], [], []] mixed ⟨m0, m0, m0, m0, m0, m0, m0, m0, m0, m0, m0, m0, m0, m0, m0, m0, m0, m0, m0, fun _ _ _ _ hle ⟨e1, e2, h0_⟩ => ⟨e1, e2, RSl.mono hle h0_⟩, m0, m0, m0, m0, m0, m0, m0, m0, m0, m0, m0, m0, m0, m0, m0, m0, m0, m0, m0, m0, m0, m0, m0, trivial⟩ (by kernel_rfl) (by kernel_rfl) rfl (by kernel_rfl) rfl rfl ?_ ?_
                            · refine dcons ?_ ?_
                              · intro _ _ H2132 fr2133 hle2134 hd2135
                                refine ⟨_, some (), rfl, fun _ => ?_⟩
                                refine s_env (env' := [(13, .bool y274.2.2)]) (by exact ⟨rfl, trivial⟩) ?_
                                refine o_mov rfl ?_
                                exact s_pred fun _ _ _ hE hI => ⟨(.bool y274.2.2), [], _, fun _ e => (by cases e; exact hE _ _ rfl), .refl _, by exact hI, ⟨rfl, rfl⟩⟩
                              refine dcons ?_ ?_
                              · intro _ _ H2139 fr2140 hle2141 hd2142
                                obtain ⟨hv2144, hg2145⟩ := hd2142 0 (by decide)
                                refine ⟨_, some (), rfl, fun _ => ?_⟩
                                refine s_env (env' := [(56, .bool y274.2.2)]) (by exact ⟨congrArg some hv2144, trivial⟩) ?_
                                refine o_not rfl ?_
                                exact s_pred fun _ _ _ hE hI => ⟨(.bool (!y274.2.2)), [], _, fun _ e => (by cases e; exact hE _ _ rfl), .refl _, by exact hI, ⟨rfl, rfl⟩⟩
                              refine dcons ?_ ?_
                              · intro _ _ H2148 fr2149 hle2150 hd2151
                                obtain ⟨hv2153, hg2154⟩ := hd2151 1 (by decide)
                                refine ⟨_, some (), rfl, fun _ => ?_⟩
                                refine s_env (env' := [(57, .bool (!y274.2.2))]) (by exact ⟨congrArg some hv2153, trivial⟩) ?_
                                refine o_mov rfl ?_
                                exact s_pred fun _ _ _ hE hI => ⟨(.bool (!y274.2.2)), [], _, fun _ e => (by cases e; exact hE _ _ rfl), .refl _, by exact hI, ⟨rfl, rfl⟩⟩
                              refine dcons ?_ ?_
                              · intro _ _ H2157 fr2158 hle2159 hd2160
                                obtain ⟨hv2162, hg2163⟩ := hd2160 2 (by decide)
                                refine ⟨_, some (), rfl, fun _ => ?_⟩
                                refine s_env (env' := [(58, .bool (!y274.2.2)), (11, .pointer (some ⟨b276, 0, none⟩))]) (by exact ⟨congrArg some hv2162, rfl, trivial⟩) ?_
                                refine s_want rfl rfl h285 ?_
                                refine o_ld 4 rfl rfl rfl ?_
                                exact s_pred fun _ _ _ hE hI => ⟨(.agg #[.int .i64 y274.1.Switch, .int .i64 y274.1.Port]), [], _, fun _ e => (by cases e; exact hE _ _ rfl), .refl _, by exact hI, ⟨rfl, rfl⟩⟩
                              refine dcons ?_ ?_
                              · intro _ _ H2166 fr2167 hle2168 hd2169
                                obtain ⟨hv2171, hg2172⟩ := hd2169 2 (by decide)
                                refine ⟨_, some (), rfl, fun _ => ?_⟩
                                refine s_env (env' := [(58, .bool (!y274.2.2)), (7, .pointer (some ⟨b254, 0, none⟩))]) (by exact ⟨congrArg some hv2171, rfl, trivial⟩) ?_
                                refine s_want rfl rfl h285 ?_
                                refine o_ld 1 rfl rfl rfl ?_
                                exact s_pred fun _ _ _ hE hI => ⟨(.agg #[.int .i64 s19, .int .i64 s246]), [], _, fun _ e => (by cases e; exact hE _ _ rfl), .refl _, by exact hI, ⟨rfl, rfl⟩⟩
                              refine dcons ?_ ?_
                              · intro _ _ H2175 fr2176 hle2177 hd2178
                                obtain ⟨hv2180, hg2181⟩ := hd2178 2 (by decide)
                                obtain ⟨hv2182, hg2183⟩ := hd2178 3 (by decide)
                                obtain ⟨hv2184, hg2185⟩ := hd2178 4 (by decide)
                                refine ⟨_, some (), rfl, fun _ => ?_⟩
                                refine s_env (env' := [(58, .bool (!y274.2.2)), (59, .agg #[.int .i64 y274.1.Switch, .int .i64 y274.1.Port]), (60, .agg #[.int .i64 s19, .int .i64 s246])]) (by exact ⟨congrArg some hv2180, congrArg some hv2182, congrArg some hv2184, trivial⟩) ?_
                                refine s_want rfl rfl h285 ?_
                                refine o_neS y274.1 (⟨s19, s246⟩ : End) rfl rfl ?_
                                exact s_pred fun _ _ _ hE hI => ⟨(.bool (!(decide (y274.1 = (⟨s19, s246⟩ : End))))), [], _, fun _ e => (by cases e; exact hE _ _ rfl), .refl _, by exact hI, ⟨rfl, rfl⟩⟩
                              refine dcons ?_ ?_
                              · intro _ _ H2188 fr2189 hle2190 hd2191
                                obtain ⟨hv2193, hg2194⟩ := hd2191 2 (by decide)
                                obtain ⟨hv2195, hg2196⟩ := hd2191 5 (by decide)
                                refine ⟨_, some (), rfl, fun _ => ?_⟩
                                refine s_env (env' := [(58, .bool (!y274.2.2)), (61, .bool (!(decide (y274.1 = (⟨s19, s246⟩ : End)))))]) (by exact ⟨congrArg some hv2193, congrArg some hv2195, trivial⟩) ?_
                                refine o_pickF rfl h285 rfl ?_
                                exact s_pred fun _ _ _ hE hI => ⟨(.bool (!(decide (y274.1 = (⟨s19, s246⟩ : End))))), [], _, fun _ e => (by cases e; exact hE _ _ rfl), .refl _, by exact hI, ⟨rfl, rfl⟩⟩
                              refine dcons ?_ ?_
                              · intro _ _ H2199 fr2200 hle2201 hd2202
                                obtain ⟨hv2204, hg2205⟩ := hd2202 6 (by decide)
                                refine ⟨_, some (), rfl, fun _ => ?_⟩
                                refine s_env (env' := [(62, .bool (!(decide (y274.1 = (⟨s19, s246⟩ : End)))))]) (by exact ⟨congrArg some hv2204, trivial⟩) ?_
                                refine o_mov rfl ?_
                                exact s_pred fun _ _ _ hE hI => ⟨(.bool (!(decide (y274.1 = (⟨s19, s246⟩ : End))))), [], _, fun _ e => (by cases e; exact hE _ _ rfl), .refl _, by exact hI, ⟨rfl, rfl⟩⟩
                              refine dcons ?_ ?_
                              · intro _ _ H2208 fr2209 hle2210 hd2211
                                obtain ⟨hv2213, hg2214⟩ := hd2211 7 (by decide)
                                refine ⟨_, some (), rfl, fun _ => ?_⟩
                                refine s_env (env' := [(63, .bool (!(decide (y274.1 = (⟨s19, s246⟩ : End))))), (9, .int .i64 y256.2.1)]) (by exact ⟨congrArg some hv2213, rfl, trivial⟩) ?_
                                refine s_want rfl rfl h746 ?_
                                refine o_mov rfl ?_
                                exact s_pred fun _ _ _ hE hI => ⟨(.int .i64 y256.2.1), [], _, fun _ e => (by cases e; exact hE _ _ rfl), .refl _, by exact hI, ⟨rfl, rfl⟩⟩
                              refine dcons ?_ ?_
                              · intro _ _ H2217 fr2218 hle2219 hd2220
                                obtain ⟨hv2222, hg2223⟩ := hd2220 7 (by decide)
                                refine ⟨_, some (), rfl, fun _ => ?_⟩
                                refine s_env (env' := [(63, .bool (!(decide (y274.1 = (⟨s19, s246⟩ : End))))), (12, .int .i64 y274.2.1)]) (by exact ⟨congrArg some hv2222, rfl, trivial⟩) ?_
                                refine s_want rfl rfl h746 ?_
                                refine o_mov rfl ?_
                                exact s_pred fun _ _ _ hE hI => ⟨(.int .i64 y274.2.1), [], _, fun _ e => (by cases e; exact hE _ _ rfl), .refl _, by exact hI, ⟨rfl, rfl⟩⟩
                              refine dcons ?_ ?_
                              · intro _ _ H2226 fr2227 hle2228 hd2229
                                obtain ⟨hv2231, hg2232⟩ := hd2229 7 (by decide)
                                obtain ⟨hv2233, hg2234⟩ := hd2229 8 (by decide)
                                obtain ⟨hv2235, hg2236⟩ := hd2229 9 (by decide)
                                refine ⟨_, some (), rfl, fun _ => ?_⟩
                                refine s_env (env' := [(63, .bool (!(decide (y274.1 = (⟨s19, s246⟩ : End))))), (64, .int .i64 y256.2.1), (65, .int .i64 y274.2.1)]) (by exact ⟨congrArg some hv2231, congrArg some hv2233, congrArg some hv2235, trivial⟩) ?_
                                refine s_want rfl rfl h746 ?_
                                refine o_ne rfl rfl ?_
                                exact s_pred fun _ _ _ hE hI => ⟨(.bool (y256.2.1 != y274.2.1)), [], _, fun _ e => (by cases e; exact hE _ _ rfl), .refl _, by exact hI, ⟨rfl, rfl⟩⟩
                              refine dcons ?_ ?_
                              · intro _ _ H2239 fr2240 hle2241 hd2242
                                obtain ⟨hv2244, hg2245⟩ := hd2242 7 (by decide)
                                obtain ⟨hv2246, hg2247⟩ := hd2242 10 (by decide)
                                refine ⟨_, some (), rfl, fun _ => ?_⟩
                                refine s_env (env' := [(63, .bool (!(decide (y274.1 = (⟨s19, s246⟩ : End))))), (66, .bool (y256.2.1 != y274.2.1))]) (by exact ⟨congrArg some hv2244, congrArg some hv2246, trivial⟩) ?_
                                refine o_pickF rfl h746 rfl ?_
                                exact s_pred fun _ _ _ hE hI => ⟨(.bool (y256.2.1 != y274.2.1)), [], _, fun _ e => (by cases e; exact hE _ _ rfl), .refl _, by exact hI, ⟨rfl, rfl⟩⟩
                              refine dcons ?_ ?_
                              · intro _ _ H2250 fr2251 hle2252 hd2253
                                obtain ⟨hv2255, hg2256⟩ := hd2253 11 (by decide)
                                refine ⟨_, some (), rfl, fun _ => ?_⟩
                                refine s_env (env' := [(67, .bool (y256.2.1 != y274.2.1))]) (by exact ⟨congrArg some hv2255, trivial⟩) ?_
                                refine o_mov rfl ?_
                                exact s_pred fun _ _ _ hE hI => ⟨(.bool (y256.2.1 != y274.2.1)), [], _, fun _ e => (by cases e; exact hE _ _ rfl), .refl _, by exact hI, ⟨rfl, rfl⟩⟩
                              refine dcons ?_ ?_
                              · intro _ _ H2259 fr2260 hle2261 hd2262
                                obtain ⟨hv2264, hg2265⟩ := hd2262 12 (by decide)
                                refine ⟨_, some (), rfl, fun _ => ?_⟩
                                refine s_env (env' := [(68, .bool (y256.2.1 != y274.2.1)), (9, .int .i64 y256.2.1)]) (by exact ⟨congrArg some hv2264, rfl, trivial⟩) ?_
                                refine s_want rfl rfl h1207 ?_
                                refine o_mov rfl ?_
                                exact s_pred fun _ _ _ hE hI => ⟨(.int .i64 y256.2.1), [], _, fun _ e => (by cases e; exact hE _ _ rfl), .refl _, by exact hI, ⟨rfl, rfl⟩⟩
                              refine dcons ?_ ?_
                              · intro _ _ H2268 fr2269 hle2270 hd2271
                                obtain ⟨hv2273, hg2274⟩ := hd2271 12 (by decide)
                                obtain ⟨hv2275, hg2276⟩ := hd2271 13 (by decide)
                                refine ⟨_, some (), rfl, fun _ => ?_⟩
                                refine s_env (env' := [(68, .bool (y256.2.1 != y274.2.1)), (69, .int .i64 y256.2.1)]) (by exact ⟨congrArg some hv2273, congrArg some hv2275, trivial⟩) ?_
                                refine s_want rfl rfl h1207 ?_
                                refine o_lt rfl rfl ?_
                                exact s_pred fun _ _ _ hE hI => ⟨(.bool (decide (y256.2.1 < 0))), [], _, fun _ e => (by cases e; exact hE _ _ rfl), .refl _, by exact hI, ⟨rfl, rfl⟩⟩
                              refine dcons ?_ ?_
                              · intro _ _ H2279 fr2280 hle2281 hd2282
                                obtain ⟨hv2284, hg2285⟩ := hd2282 12 (by decide)
                                obtain ⟨hv2286, hg2287⟩ := hd2282 14 (by decide)
                                refine ⟨_, some (), rfl, fun _ => ?_⟩
                                refine s_env (env' := [(68, .bool (y256.2.1 != y274.2.1)), (70, .bool (decide (y256.2.1 < 0)))]) (by exact ⟨congrArg some hv2284, congrArg some hv2286, trivial⟩) ?_
                                refine o_pickF rfl h1207 rfl ?_
                                exact s_pred fun _ _ _ hE hI => ⟨(.bool (decide (y256.2.1 < 0))), [], _, fun _ e => (by cases e; exact hE _ _ rfl), .refl _, by exact hI, ⟨rfl, rfl⟩⟩
                              refine dcons ?_ ?_
                              · intro _ _ H2290 fr2291 hle2292 hd2293
                                obtain ⟨hv2295, hg2296⟩ := hd2293 15 (by decide)
                                refine ⟨_, some (), rfl, fun _ => ?_⟩
                                refine s_env (env' := [(71, .bool (decide (y256.2.1 < 0)))]) (by exact ⟨congrArg some hv2295, trivial⟩) ?_
                                refine o_mov rfl ?_
                                exact s_pred fun _ _ _ hE hI => ⟨(.bool (decide (y256.2.1 < 0))), [], _, fun _ e => (by cases e; exact hE _ _ rfl), .refl _, by exact hI, ⟨rfl, rfl⟩⟩
                              refine dcons ?_ ?_
                              · intro _ _ H2299 fr2300 hle2301 hd2302
                                obtain ⟨hv2304, hg2305⟩ := hd2302 16 (by decide)
                                refine ⟨_, some (), rfl, fun _ => ?_⟩
                                refine s_env (env' := [(72, .bool (decide (y256.2.1 < 0))), (9, .int .i64 y256.2.1)]) (by exact ⟨congrArg some hv2304, rfl, trivial⟩) ?_
                                refine s_want rfl rfl h1668 ?_
                                refine o_mov rfl ?_
                                exact s_pred fun _ _ _ hE hI => ⟨(.int .i64 y256.2.1), [], _, fun _ e => (by cases e; exact hE _ _ rfl), .refl _, by exact hI, ⟨rfl, rfl⟩⟩
                              refine dcons ?_ ?_
                              · intro _ _ H2308 fr2309 hle2310 hd2311
                                have hs2313 := RSl.mono hle2310 hs268
                                obtain ⟨hv2314, hg2315⟩ := hd2311 16 (by decide)
                                refine ⟨_, some (), rfl, fun _ => ?_⟩
                                refine s_env (env' := [(72, .bool (decide (y256.2.1 < 0))), (2, .pointer (some ⟨b1, 0, none⟩))]) (by exact ⟨congrArg some hv2314, rfl, trivial⟩) ?_
                                refine s_want rfl rfl h1668 ?_
                                refine o_fa rfl ?_
                                exact s_pred fun _ _ _ hE hI => ⟨(.pointer (some ⟨b1, 1, none⟩)), [], _, fun _ e => (by cases e; exact hE _ _ rfl), .refl _, by exact hI, ⟨rfl, rfl⟩⟩
                              refine dcons ?_ ?_
                              · intro _ _ H2318 fr2319 hle2320 hd2321
                                have hs2323 := RSl.mono hle2320 hs268
                                obtain ⟨hv2324, hg2325⟩ := hd2321 16 (by decide)
                                obtain ⟨hv2326, hg2327⟩ := hd2321 18 (by decide)
                                refine ⟨_, some (), rfl, fun _ => ?_⟩
                                refine s_env (env' := [(72, .bool (decide (y256.2.1 < 0))), (74, .pointer (some ⟨b1, 1, none⟩))]) (by exact ⟨congrArg some hv2324, congrArg some hv2326, trivial⟩) ?_
                                refine s_want rfl rfl h1668 ?_
                                refine o_ld 0 rfl rfl rfl ?_
                                exact s_pred fun _ _ _ hE hI => ⟨(.slice a8 y6.Links.length c9), [], _, fun _ e => (by cases e; exact hE _ _ rfl), .refl _, by exact hI, ⟨rfl, rfl, hs2323⟩⟩
                              refine dcons ?_ ?_
                              · intro _ _ H2330 fr2331 hle2332 hd2333
                                obtain ⟨hv2335, hg2336⟩ := hd2333 16 (by decide)
                                obtain ⟨hv2337, hg2338, hp2339⟩ := hd2333 19 (by decide)
                                refine ⟨_, some (), rfl, fun _ => ?_⟩
                                refine s_env (env' := [(72, .bool (decide (y256.2.1 < 0))), (75, .slice a8 y6.Links.length c9)]) (by exact ⟨congrArg some hv2335, congrArg some hv2337, trivial⟩) ?_
                                refine s_want rfl rfl h1668 ?_
                                refine o_lenS rfl ?_
                                exact s_pred fun _ _ _ hE hI => ⟨(.int .i64 (y6.Links.length : Int)), [], _, fun _ e => (by cases e; exact hE _ _ rfl), .refl _, by exact hI, ⟨rfl, rfl⟩⟩
                              refine dcons ?_ ?_
                              · intro _ _ H2342 fr2343 hle2344 hd2345
                                obtain ⟨hv2347, hg2348⟩ := hd2345 16 (by decide)
                                obtain ⟨hv2349, hg2350⟩ := hd2345 17 (by decide)
                                obtain ⟨hv2351, hg2352⟩ := hd2345 20 (by decide)
                                refine ⟨_, some (), rfl, fun _ => ?_⟩
                                refine s_env (env' := [(72, .bool (decide (y256.2.1 < 0))), (73, .int .i64 y256.2.1), (76, .int .i64 (y6.Links.length : Int))]) (by exact ⟨congrArg some hv2347, congrArg some hv2349, congrArg some hv2351, trivial⟩) ?_
                                refine s_want rfl rfl h1668 ?_
                                refine o_ge rfl rfl ?_
                                exact s_pred fun _ _ _ hE hI => ⟨(.bool (decide (y256.2.1 ≥ (y6.Links.length : Int)))), [], _, fun _ e => (by cases e; exact hE _ _ rfl), .refl _, by exact hI, ⟨rfl, rfl⟩⟩
                              refine dcons ?_ ?_
                              · intro _ _ H2355 fr2356 hle2357 hd2358
                                obtain ⟨hv2360, hg2361⟩ := hd2358 16 (by decide)
                                obtain ⟨hv2362, hg2363⟩ := hd2358 21 (by decide)
                                refine ⟨_, some (), rfl, fun _ => ?_⟩
                                refine s_env (env' := [(72, .bool (decide (y256.2.1 < 0))), (77, .bool (decide (y256.2.1 ≥ (y6.Links.length : Int))))]) (by exact ⟨congrArg some hv2360, congrArg some hv2362, trivial⟩) ?_
                                refine o_pickF rfl h1668 rfl ?_
                                exact s_pred fun _ _ _ hE hI => ⟨(.bool (decide (y256.2.1 ≥ (y6.Links.length : Int)))), [], _, fun _ e => (by cases e; exact hE _ _ rfl), .refl _, by exact hI, ⟨rfl, rfl⟩⟩
                              refine dcons ?_ ?_
                              · intro _ _ H2366 fr2367 hle2368 hd2369
                                obtain ⟨hv2371, hg2372⟩ := hd2369 22 (by decide)
                                refine ⟨_, some (), rfl, fun _ => ?_⟩
                                refine s_env (env' := [(78, .bool (decide (y256.2.1 ≥ (y6.Links.length : Int))))]) (by exact ⟨congrArg some hv2371, trivial⟩) ?_
                                refine o_mov rfl ?_
                                exact s_pred fun _ _ _ hE hI => ⟨(.bool (decide (y256.2.1 ≥ (y6.Links.length : Int)))), [], _, fun _ e => (by cases e; exact hE _ _ rfl), .refl _, by exact hI, ⟨rfl, rfl⟩⟩
                              refine dcons ?_ ?_
                              · intro _ _ H2375 fr2376 hle2377 hd2378
                                have hs2380 := RSl.mono hle2377 hs268
                                obtain ⟨hv2381, hg2382⟩ := hd2378 23 (by decide)
                                refine ⟨_, some (), rfl, fun _ => ?_⟩
                                refine s_env (env' := [(79, .bool (decide (y256.2.1 ≥ (y6.Links.length : Int)))), (2, .pointer (some ⟨b1, 0, none⟩))]) (by exact ⟨congrArg some hv2381, rfl, trivial⟩) ?_
                                refine s_unwant rfl rfl h2129 ?_
                                exact s_pred fun _ _ _ hE hI => ⟨undef, [], _, fun _ e => (by cases e; exact hE _ _ rfl), .refl _, by exact hI, ⟨rfl, rfl⟩⟩
                              refine dcons ?_ ?_
                              · intro _ _ H2385 fr2386 hle2387 hd2388
                                obtain ⟨hv2390, hg2391⟩ := hd2388 23 (by decide)
                                obtain ⟨hv2392, hg2393⟩ := hd2388 24 (by decide)
                                refine ⟨_, some (), rfl, fun _ => ?_⟩
                                refine s_env (env' := [(79, .bool (decide (y256.2.1 ≥ (y6.Links.length : Int)))), (80, undef)]) (by exact ⟨congrArg some hv2390, congrArg some hv2392, trivial⟩) ?_
                                refine s_unwant rfl rfl h2129 ?_
                                exact s_pred fun _ _ _ hE hI => ⟨undef, [], _, fun _ e => (by cases e; exact hE _ _ rfl), .refl _, by exact hI, ⟨rfl, rfl⟩⟩
                              refine dcons ?_ ?_
                              · intro _ _ H2396 fr2397 hle2398 hd2399
                                obtain ⟨hv2401, hg2402⟩ := hd2399 23 (by decide)
                                refine ⟨_, some (), rfl, fun _ => ?_⟩
                                refine s_env (env' := [(79, .bool (decide (y256.2.1 ≥ (y6.Links.length : Int)))), (9, .int .i64 y256.2.1)]) (by exact ⟨congrArg some hv2401, rfl, trivial⟩) ?_
                                refine s_unwant rfl rfl h2129 ?_
                                exact s_pred fun _ _ _ hE hI => ⟨undef, [], _, fun _ e => (by cases e; exact hE _ _ rfl), .refl _, by exact hI, ⟨rfl, rfl⟩⟩
                              refine dcons ?_ ?_
                              · intro _ _ H2405 fr2406 hle2407 hd2408
                                obtain ⟨hv2410, hg2411⟩ := hd2408 23 (by decide)
                                obtain ⟨hv2412, hg2413⟩ := hd2408 25 (by decide)
                                obtain ⟨hv2414, hg2415⟩ := hd2408 26 (by decide)
                                refine ⟨_, some (), rfl, fun _ => ?_⟩
                                refine s_env (env' := [(79, .bool (decide (y256.2.1 ≥ (y6.Links.length : Int)))), (81, undef), (82, undef)]) (by exact ⟨congrArg some hv2410, congrArg some hv2412, congrArg some hv2414, trivial⟩) ?_
                                refine s_unwant rfl rfl h2129 ?_
                                exact s_pred fun _ _ _ hE hI => ⟨undef, [], _, fun _ e => (by cases e; exact hE _ _ rfl), .refl _, by exact hI, ⟨rfl, rfl⟩⟩
                              refine dcons ?_ ?_
                              · intro _ _ H2418 fr2419 hle2420 hd2421
                                obtain ⟨hv2423, hg2424⟩ := hd2421 23 (by decide)
                                obtain ⟨hv2425, hg2426⟩ := hd2421 27 (by decide)
                                refine ⟨_, some (), rfl, fun _ => ?_⟩
                                refine s_env (env' := [(79, .bool (decide (y256.2.1 ≥ (y6.Links.length : Int)))), (83, undef)]) (by exact ⟨congrArg some hv2423, congrArg some hv2425, trivial⟩) ?_
                                refine s_unwant rfl rfl h2129 ?_
                                exact s_pred fun _ _ _ hE hI => ⟨undef, [], _, fun _ e => (by cases e; exact hE _ _ rfl), .refl _, by exact hI, ⟨rfl, rfl⟩⟩
                              refine dcons ?_ ?_
                              · intro _ _ H2429 fr2430 hle2431 hd2432
                                obtain ⟨hv2434, hg2435⟩ := hd2432 23 (by decide)
                                obtain ⟨hv2436, hg2437⟩ := hd2432 28 (by decide)
                                refine ⟨_, some (), rfl, fun _ => ?_⟩
                                refine s_env (env' := [(79, .bool (decide (y256.2.1 ≥ (y6.Links.length : Int)))), (84, undef)]) (by exact ⟨congrArg some hv2434, congrArg some hv2436, trivial⟩) ?_
                                refine s_unwant rfl rfl h2129 ?_
                                exact s_pred fun _ _ _ hE hI => ⟨undef, [], _, fun _ e => (by cases e; exact hE _ _ rfl), .refl _, by exact hI, ⟨rfl, rfl⟩⟩
                              refine dcons ?_ ?_
                              · intro _ _ H2440 fr2441 hle2442 hd2443
                                obtain ⟨hv2445, hg2446⟩ := hd2443 23 (by decide)
                                refine ⟨_, some (), rfl, fun _ => ?_⟩
                                refine s_env (env' := [(79, .bool (decide (y256.2.1 ≥ (y6.Links.length : Int)))), (7, .pointer (some ⟨b254, 0, none⟩))]) (by exact ⟨congrArg some hv2445, rfl, trivial⟩) ?_
                                refine s_unwant rfl rfl h2129 ?_
                                exact s_pred fun _ _ _ hE hI => ⟨undef, [], _, fun _ e => (by cases e; exact hE _ _ rfl), .refl _, by exact hI, ⟨rfl, rfl⟩⟩
                              refine dcons ?_ ?_
                              · intro _ _ H2449 fr2450 hle2451 hd2452
                                obtain ⟨hv2454, hg2455⟩ := hd2452 23 (by decide)
                                obtain ⟨hv2456, hg2457⟩ := hd2452 29 (by decide)
                                obtain ⟨hv2458, hg2459⟩ := hd2452 30 (by decide)
                                refine ⟨_, some (), rfl, fun _ => ?_⟩
                                refine s_env (env' := [(79, .bool (decide (y256.2.1 ≥ (y6.Links.length : Int)))), (85, undef), (86, undef)]) (by exact ⟨congrArg some hv2454, congrArg some hv2456, congrArg some hv2458, trivial⟩) ?_
                                refine s_unwant rfl rfl h2129 ?_
                                exact s_pred fun _ _ _ hE hI => ⟨undef, [], _, fun _ e => (by cases e; exact hE _ _ rfl), .refl _, by exact hI, ⟨rfl, rfl⟩⟩
                              refine dcons ?_ ?_
                              · intro _ _ H2462 fr2463 hle2464 hd2465
                                obtain ⟨hv2467, hg2468⟩ := hd2465 23 (by decide)
                                obtain ⟨hv2469, hg2470⟩ := hd2465 31 (by decide)
                                refine ⟨_, some (), rfl, fun _ => ?_⟩
                                refine s_env (env' := [(79, .bool (decide (y256.2.1 ≥ (y6.Links.length : Int)))), (87, undef)]) (by exact ⟨congrArg some hv2467, congrArg some hv2469, trivial⟩) ?_
                                refine s_unwant rfl rfl h2129 ?_
                                exact s_pred fun _ _ _ hE hI => ⟨undef, [], _, fun _ e => (by cases e; exact hE _ _ rfl), .refl _, by exact hI, ⟨rfl, rfl⟩⟩
                              refine dcons ?_ ?_
                              · intro _ _ H2473 fr2474 hle2475 hd2476
                                have hs2478 := RSl.mono hle2475 hs268
                                obtain ⟨hv2479, hg2480⟩ := hd2476 32 (by decide)
                                refine ⟨_, some (), rfl, fun _ => ?_⟩
                                refine s_env (env' := [(88, undef), (2, .pointer (some ⟨b1, 0, none⟩))]) (by exact ⟨congrArg some hv2479, rfl, trivial⟩) ?_
                                refine s_unwantU rfl rfl ?_
                                exact s_pred fun _ _ _ hE hI => ⟨undef, [], _, fun _ e => (by cases e; exact hE _ _ rfl), .refl _, by exact hI, ⟨rfl, rfl⟩⟩
                              refine dcons ?_ ?_
                              · intro _ _ H2483 fr2484 hle2485 hd2486
                                obtain ⟨hv2488, hg2489⟩ := hd2486 32 (by decide)
                                obtain ⟨hv2490, hg2491⟩ := hd2486 33 (by decide)
                                refine ⟨_, some (), rfl, fun _ => ?_⟩
                                refine s_env (env' := [(88, undef), (89, undef)]) (by exact ⟨congrArg some hv2488, congrArg some hv2490, trivial⟩) ?_
                                refine s_unwantU rfl rfl ?_
                                exact s_pred fun _ _ _ hE hI => ⟨undef, [], _, fun _ e => (by cases e; exact hE _ _ rfl), .refl _, by exact hI, ⟨rfl, rfl⟩⟩
                              refine dcons ?_ ?_
                              · intro _ _ H2494 fr2495 hle2496 hd2497
                                obtain ⟨hv2499, hg2500⟩ := hd2497 32 (by decide)
                                refine ⟨_, some (), rfl, fun _ => ?_⟩
                                refine s_env (env' := [(88, undef), (9, .int .i64 y256.2.1)]) (by exact ⟨congrArg some hv2499, rfl, trivial⟩) ?_
                                refine s_unwantU rfl rfl ?_
                                exact s_pred fun _ _ _ hE hI => ⟨undef, [], _, fun _ e => (by cases e; exact hE _ _ rfl), .refl _, by exact hI, ⟨rfl, rfl⟩⟩
                              refine dcons ?_ ?_
                              · intro _ _ H2503 fr2504 hle2505 hd2506
                                obtain ⟨hv2508, hg2509⟩ := hd2506 32 (by decide)
                                obtain ⟨hv2510, hg2511⟩ := hd2506 34 (by decide)
                                obtain ⟨hv2512, hg2513⟩ := hd2506 35 (by decide)
                                refine ⟨_, some (), rfl, fun _ => ?_⟩
                                refine s_env (env' := [(88, undef), (90, undef), (91, undef)]) (by exact ⟨congrArg some hv2508, congrArg some hv2510, congrArg some hv2512, trivial⟩) ?_
                                refine s_unwantU rfl rfl ?_
                                exact s_pred fun _ _ _ hE hI => ⟨undef, [], _, fun _ e => (by cases e; exact hE _ _ rfl), .refl _, by exact hI, ⟨rfl, rfl⟩⟩
                              refine dcons ?_ ?_
                              · intro _ _ H2516 fr2517 hle2518 hd2519
                                obtain ⟨hv2521, hg2522⟩ := hd2519 32 (by decide)
                                obtain ⟨hv2523, hg2524⟩ := hd2519 36 (by decide)
                                refine ⟨_, some (), rfl, fun _ => ?_⟩
                                refine s_env (env' := [(88, undef), (92, undef)]) (by exact ⟨congrArg some hv2521, congrArg some hv2523, trivial⟩) ?_
                                refine s_unwantU rfl rfl ?_
                                exact s_pred fun _ _ _ hE hI => ⟨undef, [], _, fun _ e => (by cases e; exact hE _ _ rfl), .refl _, by exact hI, ⟨rfl, rfl⟩⟩
                              refine dcons ?_ ?_
                              · intro _ _ H2527 fr2528 hle2529 hd2530
                                obtain ⟨hv2532, hg2533⟩ := hd2530 32 (by decide)
                                obtain ⟨hv2534, hg2535⟩ := hd2530 37 (by decide)
                                refine ⟨_, some (), rfl, fun _ => ?_⟩
                                refine s_env (env' := [(88, undef), (93, undef)]) (by exact ⟨congrArg some hv2532, congrArg some hv2534, trivial⟩) ?_
                                refine s_unwantU rfl rfl ?_
                                exact s_pred fun _ _ _ hE hI => ⟨undef, [], _, fun _ e => (by cases e; exact hE _ _ rfl), .refl _, by exact hI, ⟨rfl, rfl⟩⟩
                              refine dcons ?_ ?_
                              · intro _ _ H2538 fr2539 hle2540 hd2541
                                obtain ⟨hv2543, hg2544⟩ := hd2541 32 (by decide)
                                refine ⟨_, some (), rfl, fun _ => ?_⟩
                                refine s_env (env' := [(88, undef), (7, .pointer (some ⟨b254, 0, none⟩))]) (by exact ⟨congrArg some hv2543, rfl, trivial⟩) ?_
                                refine s_unwantU rfl rfl ?_
                                exact s_pred fun _ _ _ hE hI => ⟨undef, [], _, fun _ e => (by cases e; exact hE _ _ rfl), .refl _, by exact hI, ⟨rfl, rfl⟩⟩
                              refine dcons ?_ ?_
                              · intro _ _ H2547 fr2548 hle2549 hd2550
                                obtain ⟨hv2552, hg2553⟩ := hd2550 32 (by decide)
                                obtain ⟨hv2554, hg2555⟩ := hd2550 38 (by decide)
                                obtain ⟨hv2556, hg2557⟩ := hd2550 39 (by decide)
                                refine ⟨_, some (), rfl, fun _ => ?_⟩
                                refine s_env (env' := [(88, undef), (94, undef), (95, undef)]) (by exact ⟨congrArg some hv2552, congrArg some hv2554, congrArg some hv2556, trivial⟩) ?_
                                refine s_unwantU rfl rfl ?_
                                exact s_pred fun _ _ _ hE hI => ⟨undef, [], _, fun _ e => (by cases e; exact hE _ _ rfl), .refl _, by exact hI, ⟨rfl, rfl⟩⟩
                              refine dcons ?_ ?_
                              · intro _ _ H2560 fr2561 hle2562 hd2563
                                obtain ⟨hv2565, hg2566⟩ := hd2563 23 (by decide)
                                obtain ⟨hv2567, hg2568⟩ := hd2563 32 (by decide)
                                obtain ⟨hv2569, hg2570⟩ := hd2563 40 (by decide)
                                refine ⟨_, some (), rfl, fun _ => ?_⟩
                                refine s_env (env' := [(79, .bool (decide (y256.2.1 ≥ (y6.Links.length : Int)))), (88, undef), (96, undef)]) (by exact ⟨congrArg some hv2565, congrArg some hv2567, congrArg some hv2569, trivial⟩) ?_
                                refine s_unwant rfl rfl h2129 ?_
                                exact s_pred fun _ _ _ hE hI => ⟨undef, [], _, fun _ e => (by cases e; exact hE _ _ rfl), .refl _, by exact hI, ⟨rfl, rfl⟩⟩
                              refine dcons ?_ ?_
                              · intro _ _ H2573 fr2574 hle2575 hd2576
                                obtain ⟨hv2578, hg2579⟩ := hd2576 23 (by decide)
                                obtain ⟨hv2580, hg2581⟩ := hd2576 41 (by decide)
                                refine ⟨_, some (), rfl, fun _ => ?_⟩
                                refine s_env (env' := [(79, .bool (decide (y256.2.1 ≥ (y6.Links.length : Int)))), (97, undef)]) (by exact ⟨congrArg some hv2578, congrArg some hv2580, trivial⟩) ?_
                                refine o_pickT rfl h2129 rfl ?_
                                exact s_pred fun _ _ _ hE hI => ⟨(.bool true), [], _, fun _ e => (by cases e; exact hE _ _ rfl), .refl _, by exact hI, ⟨rfl, rfl⟩⟩
                              exact dnil
                            · intro V2584 G2585 H2582 hle2583 hF2586
                              have hs2587 := RSl.mono hle2583 hs267
                              have hs2588 := RSl.mono hle2583 hs268
                              have hA2589 := All2.mono (fun _ _ => GoT.mono hle2583) hA269
                              obtain ⟨hv2590, hg2591⟩ := hF2586 42 (show 42 < 43 by decide)
                              refine s_env (env' := [(98, .bool true), (1, .slice a1_0 x1.length c1_0), (2, .pointer (some ⟨b1, 0, none⟩)), (5, .int .i64 s19), (6, .int .i64 s246), (26, .int .i64 s246), (27, .bool (decide (s246 ≤ 4))), (30, .int .i64 s19), (31, .int .i64 s246), (32, .agg #[.int .i64 s19, .int .i64 s246]), (7, .pointer (some ⟨b254, 0, none⟩)), (34, .agg #[.int .i64 y6.Switches, .slice a8 y6.Links.length c9]), (35, .agg #[.int .i64 s19, .int .i64 s246]), (37, .agg #[.int .i64 y256.1.Switch, .int .i64 y256.1.Port]), (38, .int .i64 y256.2.1), (39, .bool y256.2.2), (8, .pointer (some ⟨b258, 0, none⟩)), (9, .int .i64 y256.2.1), (10, .bool y256.2.2), (40, .bool y256.2.2), (41, .agg #[.int .i64 y6.Switches, .slice a8 y6.Links.length c9]), (42, .int .i64 s19), (43, .slice a262 y260.length c263), (44, .int .i64 s246), (45, .bool y270), (46, .bool (y256.2.2 != y270)), (47, .bool y256.2.2), (48, .bool (!y256.2.2)), (50, .agg #[.int .i64 y6.Switches, .slice a8 y6.Links.length c9]), (51, .agg #[.int .i64 y256.1.Switch, .int .i64 y256.1.Port]), (53, .agg #[.int .i64 y274.1.Switch, .int .i64 y274.1.Port]), (54, .int .i64 y274.2.1), (55, .bool y274.2.2), (11, .pointer (some ⟨b276, 0, none⟩)), (12, .int .i64 y274.2.1), (13, .bool y274.2.2)]) (by exact ⟨congrArg some hv2590, rfl, rfl, rfl, rfl, rfl, rfl, rfl, rfl, rfl, rfl, rfl, rfl, rfl, rfl, rfl, rfl, rfl, rfl, rfl, rfl, rfl, rfl, rfl, rfl, rfl, rfl, rfl, rfl, rfl, rfl, rfl, rfl, rfl, rfl, rfl, trivial⟩) ?_
                              refine s_own (List.sublist_append_left _ _) ?_
                              refine s_done ?_
                              exact s_env (by exact ⟨rfl, rfl, rfl, rfl, rfl, trivial⟩) (s_own (by exact (.cons_cons _ (.cons _ (.cons _ (.cons _ (.cons _ .slnil)))))) (J284 true _ _ _ ⟨rfl, rfl, hle2583⟩))
                          · refine s_bg fun y2592 h2597 => ?_
                            refine s_split (!(decide (y2592.A = (⟨s19, s246⟩ : End)))) (fun h2598 => ?_) (fun h2598 => ?_)
                            · refine s_bg fun y2599 h2604 => ?_
                              refine s_drawL [(fun H v g => v = Value.bool y274.2.2 ∧ g = []),
      (fun H v g => v = Value.bool (!y274.2.2) ∧ g = []),
      (fun H v g => v = Value.bool (!y274.2.2) ∧ g = []),
      (fun H v g => v = Value.agg #[.int .i64 y274.1.Switch, .int .i64 y274.1.Port] ∧ g = []),
      (fun H v g => v = Value.agg #[.int .i64 s19, .int .i64 s246] ∧ g = []),
      (fun H v g => v = Value.bool (!(decide (y274.1 = (⟨s19, s246⟩ : End)))) ∧ g = []),
      (fun H v g => v = Value.bool (!(decide (y274.1 = (⟨s19, s246⟩ : End)))) ∧ g = []),
      (fun H v g => v = Value.bool (!(decide (y274.1 = (⟨s19, s246⟩ : End)))) ∧ g = []),
      (fun H v g => v = Value.int .i64 y256.2.1 ∧ g = []),
      (fun H v g => v = Value.int .i64 y274.2.1 ∧ g = []),
      (fun H v g => v = Value.bool (y256.2.1 != y274.2.1) ∧ g = []),
      (fun H v g => v = Value.bool (y256.2.1 != y274.2.1) ∧ g = []),
      (fun H v g => v = Value.bool (y256.2.1 != y274.2.1) ∧ g = []),
      (fun H v g => v = Value.int .i64 y256.2.1 ∧ g = []),
      (fun H v g => v = Value.bool (decide (y256.2.1 < 0)) ∧ g = []),
      (fun H v g => v = Value.bool (decide (y256.2.1 < 0)) ∧ g = []),
      (fun H v g => v = Value.bool (decide (y256.2.1 < 0)) ∧ g = []),
      (fun H v g => v = Value.int .i64 y256.2.1 ∧ g = []),
      (fun H v g => v = Value.pointer (some ⟨b1, 1, none⟩) ∧ g = []),
      (fun H v g => v = Value.slice a8 y6.Links.length c9 ∧ g = [] ∧ RSl H a8 c9 y6.Links),
      (fun H v g => v = Value.int .i64 (y6.Links.length : Int) ∧ g = []),
      (fun H v g => v = Value.bool (decide (y256.2.1 ≥ (y6.Links.length : Int))) ∧ g = []),
      (fun H v g => v = Value.bool (decide (y256.2.1 ≥ (y6.Links.length : Int))) ∧ g = []),
      (fun H v g => v = Value.bool (decide (y256.2.1 ≥ (y6.Links.length : Int))) ∧ g = []),
      (fun H v g => v = Value.pointer (some ⟨b1, 1, none⟩) ∧ g = []),
      (fun H v g => v = Value.slice a8 y6.Links.length c9 ∧ g = [] ∧ RSl H a8 c9 y6.Links),
      (fun H v g => v = Value.int .i64 y256.2.1 ∧ g = []),
      (fun H v g => ∃ bk2606 of2607, v = Value.pointer (some ⟨bk2606, of2607, none⟩) ∧ g = [] ∧ CellsAt H bk2606 of2607 [.int .i64 y2592.A.Switch, .int .i64 y2592.A.Port, .int .i64 y2592.B.Switch, .int .i64 y2592.B.Port]),
      (fun H v g => ∃ bk2606 of2607, v = Value.pointer (some ⟨bk2606, of2607, none⟩) ∧ g = [] ∧ CellsAt H bk2606 of2607 [.int .i64 y2592.A.Switch, .int .i64 y2592.A.Port, .int .i64 y2592.B.Switch, .int .i64 y2592.B.Port]),
      (fun H v g => v = Value.agg #[.int .i64 y2592.A.Switch, .int .i64 y2592.A.Port] ∧ g = []),
      (fun H v g => v = Value.agg #[.int .i64 s19, .int .i64 s246] ∧ g = []),
      (fun H v g => v = Value.bool (!(decide (y2592.A = (⟨s19, s246⟩ : End)))) ∧ g = []),
      (fun H v g => v = Value.bool (!(decide (y2592.A = (⟨s19, s246⟩ : End)))) ∧ g = []),
      (fun H v g => v = Value.pointer (some ⟨b1, 1, none⟩) ∧ g = []),
      (fun H v g => v = Value.slice a8 y6.Links.length c9 ∧ g = [] ∧ RSl H a8 c9 y6.Links),
      (fun H v g => v = Value.int .i64 y256.2.1 ∧ g = []),
      (fun H v g => ∃ bk2610 of2611, v = Value.pointer (some ⟨bk2610, of2611, none⟩) ∧ g = [] ∧ CellsAt H bk2610 of2611 [.int .i64 y2599.A.Switch, .int .i64 y2599.A.Port, .int .i64 y2599.B.Switch, .int .i64 y2599.B.Port]),
      (fun H v g => ∃ bk2610 of2611, v = Value.pointer (some ⟨bk2610, of2611 + 2, none⟩) ∧ g = [] ∧ CellsAt H bk2610 of2611 [.int .i64 y2599.A.Switch, .int .i64 y2599.A.Port, .int .i64 y2599.B.Switch, .int .i64 y2599.B.Port]),
      (fun H v g => v = Value.agg #[.int .i64 y2599.B.Switch, .int .i64 y2599.B.Port] ∧ g = []),
      (fun H v g => v = Value.agg #[.int .i64 s19, .int .i64 s246] ∧ g = []),
      (fun H v g => v = Value.bool (!(decide (y2599.B = (⟨s19, s246⟩ : End)))) ∧ g = []),
      (fun H v g => v = Value.bool (!(decide (y2599.B = (⟨s19, s246⟩ : End)))) ∧ g = []),
      (fun H v g => v = Value.bool (!(decide (y2599.B = (⟨s19, s246⟩ : End)))) ∧ g = [])] [[], [], [], [], [], [], [], [], [], [], [], [], [], [], [], [], [], [], [], [], [], [], [], [], [], [], [], [], [], [], [], [], [], [], [], [], [], [], [], [], [], [], []] mixed ⟨m0, m0, m0, m0, m0, m0, m0, m0, m0, m0, m0, m0, m0, m0, m0, m0, m0, m0, m0, fun _ _ _ _ hle ⟨e1, e2, h0_⟩ => ⟨e1, e2, RSl.mono hle h0_⟩, m0, m0, m0, m0, m0, fun _ _ _ _ hle ⟨e1, e2, h0_⟩ => ⟨e1, e2, RSl.mono hle h0_⟩, m0, fun _ _ _ _ hle ⟨bk2606, of2607, e1, e2, h0_⟩ => ⟨_, _, e1, e2, CellsAt.mono hle h0_⟩, fun _ _ _ _ hle ⟨bk2606, of2607, e1, e2, h0_⟩ => ⟨_, _, e1, e2, CellsAt.mono hle h0_⟩, m0, m0, m0, m0, m0, fun _ _ _ _ hle ⟨e1, e2, h0_⟩ => ⟨e1, e2, RSl.mono hle h0_⟩, m0, fun _ _ _ _ hle ⟨bk2610, of2611, e1, e2, h0_⟩ => ⟨_, _, e1, e2, CellsAt.mono hle h0_⟩, fun _ _ _ _ hle ⟨bk2610, of2611, e1, e2, h0_⟩ => ⟨_, _, e1, e2, CellsAt.mono hle h0_⟩, m0, m0, m0, m0, m0, trivial⟩ (by kernel_rfl) (by kernel_rfl) rfl (by kernel_rfl) rfl rfl ?_ ?_
                              · refine dcons ?_ ?_
                                · intro _ _ H2615 fr2616 hle2617 hd2618
                                  refine ⟨_, some (), rfl, fun _ => ?_⟩
                                  refine s_env (env' := [(13, .bool y274.2.2)]) (by exact ⟨rfl, trivial⟩) ?_
                                  refine o_mov rfl ?_
                                  exact s_pred fun _ _ _ hE hI => ⟨(.bool y274.2.2), [], _, fun _ e => (by cases e; exact hE _ _ rfl), .refl _, by exact hI, ⟨rfl, rfl⟩⟩
                                refine dcons ?_ ?_
                                · intro _ _ H2622 fr2623 hle2624 hd2625
                                  obtain ⟨hv2627, hg2628⟩ := hd2625 0 (by decide)
                                  refine ⟨_, some (), rfl, fun _ => ?_⟩
                                  refine s_env (env' := [(56, .bool y274.2.2)]) (by exact ⟨congrArg some hv2627, trivial⟩) ?_
                                  refine o_not rfl ?_
                                  exact s_pred fun _ _ _ hE hI => ⟨(.bool (!y274.2.2)), [], _, fun _ e => (by cases e; exact hE _ _ rfl), .refl _, by exact hI, ⟨rfl, rfl⟩⟩
                                refine dcons ?_ ?_
                                · intro _ _ H2631 fr2632 hle2633 hd2634
                                  obtain ⟨hv2636, hg2637⟩ := hd2634 1 (by decide)
                                  refine ⟨_, some (), rfl, fun _ => ?_⟩
                                  refine s_env (env' := [(57, .bool (!y274.2.2))]) (by exact ⟨congrArg some hv2636, trivial⟩) ?_
                                  refine o_mov rfl ?_
                                  exact s_pred fun _ _ _ hE hI => ⟨(.bool (!y274.2.2)), [], _, fun _ e => (by cases e; exact hE _ _ rfl), .refl _, by exact hI, ⟨rfl, rfl⟩⟩
                                refine dcons ?_ ?_
                                · intro _ _ H2640 fr2641 hle2642 hd2643
                                  obtain ⟨hv2645, hg2646⟩ := hd2643 2 (by decide)
                                  refine ⟨_, some (), rfl, fun _ => ?_⟩
                                  refine s_env (env' := [(58, .bool (!y274.2.2)), (11, .pointer (some ⟨b276, 0, none⟩))]) (by exact ⟨congrArg some hv2645, rfl, trivial⟩) ?_
                                  refine s_want rfl rfl h285 ?_
                                  refine o_ld 4 rfl rfl rfl ?_
                                  exact s_pred fun _ _ _ hE hI => ⟨(.agg #[.int .i64 y274.1.Switch, .int .i64 y274.1.Port]), [], _, fun _ e => (by cases e; exact hE _ _ rfl), .refl _, by exact hI, ⟨rfl, rfl⟩⟩
                                refine dcons ?_ ?_
                                · intro _ _ H2649 fr2650 hle2651 hd2652
                                  obtain ⟨hv2654, hg2655⟩ := hd2652 2 (by decide)
                                  refine ⟨_, some (), rfl, fun _ => ?_⟩
                                  refine s_env (env' := [(58, .bool (!y274.2.2)), (7, .pointer (some ⟨b254, 0, none⟩))]) (by exact ⟨congrArg some hv2654, rfl, trivial⟩) ?_
                                  refine s_want rfl rfl h285 ?_
                                  refine o_ld 1 rfl rfl rfl ?_
                                  exact s_pred fun _ _ _ hE hI => ⟨(.agg #[.int .i64 s19, .int .i64 s246]), [], _, fun _ e => (by cases e; exact hE _ _ rfl), .refl _, by exact hI, ⟨rfl, rfl⟩⟩
                                refine dcons ?_ ?_
                                · intro _ _ H2658 fr2659 hle2660 hd2661
                                  obtain ⟨hv2663, hg2664⟩ := hd2661 2 (by decide)
                                  obtain ⟨hv2665, hg2666⟩ := hd2661 3 (by decide)
                                  obtain ⟨hv2667, hg2668⟩ := hd2661 4 (by decide)
                                  refine ⟨_, some (), rfl, fun _ => ?_⟩
                                  refine s_env (env' := [(58, .bool (!y274.2.2)), (59, .agg #[.int .i64 y274.1.Switch, .int .i64 y274.1.Port]), (60, .agg #[.int .i64 s19, .int .i64 s246])]) (by exact ⟨congrArg some hv2663, congrArg some hv2665, congrArg some hv2667, trivial⟩) ?_
                                  refine s_want rfl rfl h285 ?_
                                  refine o_neS y274.1 (⟨s19, s246⟩ : End) rfl rfl ?_
                                  exact s_pred fun _ _ _ hE hI => ⟨(.bool (!(decide (y274.1 = (⟨s19, s246⟩ : End))))), [], _, fun _ e => (by cases e; exact hE _ _ rfl), .refl _, by exact hI, ⟨rfl, rfl⟩⟩
                                refine dcons ?_ ?_
                                · intro _ _ H2671 fr2672 hle2673 hd2674
                                  obtain ⟨hv2676, hg2677⟩ := hd2674 2 (by decide)
                                  obtain ⟨hv2678, hg2679⟩ := hd2674 5 (by decide)
                                  refine ⟨_, some (), rfl, fun _ => ?_⟩
                                  refine s_env (env' := [(58, .bool (!y274.2.2)), (61, .bool (!(decide (y274.1 = (⟨s19, s246⟩ : End)))))]) (by exact ⟨congrArg some hv2676, congrArg some hv2678, trivial⟩) ?_
                                  refine o_pickF rfl h285 rfl ?_
                                  exact s_pred fun _ _ _ hE hI => ⟨(.bool (!(decide (y274.1 = (⟨s19, s246⟩ : End))))), [], _, fun _ e => (by cases e; exact hE _ _ rfl), .refl _, by exact hI, ⟨rfl, rfl⟩⟩
                                refine dcons ?_ ?_
                                · intro _ _ H2682 fr2683 hle2684 hd2685
                                  obtain ⟨hv2687, hg2688⟩ := hd2685 6 (by decide)
                                  refine ⟨_, some (), rfl, fun _ => ?_⟩
                                  refine s_env (env' := [(62, .bool (!(decide (y274.1 = (⟨s19, s246⟩ : End)))))]) (by exact ⟨congrArg some hv2687, trivial⟩) ?_
                                  refine o_mov rfl ?_
                                  exact s_pred fun _ _ _ hE hI => ⟨(.bool (!(decide (y274.1 = (⟨s19, s246⟩ : End))))), [], _, fun _ e => (by cases e; exact hE _ _ rfl), .refl _, by exact hI, ⟨rfl, rfl⟩⟩
                                refine dcons ?_ ?_
                                · intro _ _ H2691 fr2692 hle2693 hd2694
                                  obtain ⟨hv2696, hg2697⟩ := hd2694 7 (by decide)
                                  refine ⟨_, some (), rfl, fun _ => ?_⟩
                                  refine s_env (env' := [(63, .bool (!(decide (y274.1 = (⟨s19, s246⟩ : End))))), (9, .int .i64 y256.2.1)]) (by exact ⟨congrArg some hv2696, rfl, trivial⟩) ?_
                                  refine s_want rfl rfl h746 ?_
                                  refine o_mov rfl ?_
                                  exact s_pred fun _ _ _ hE hI => ⟨(.int .i64 y256.2.1), [], _, fun _ e => (by cases e; exact hE _ _ rfl), .refl _, by exact hI, ⟨rfl, rfl⟩⟩
                                refine dcons ?_ ?_
                                · intro _ _ H2700 fr2701 hle2702 hd2703
                                  obtain ⟨hv2705, hg2706⟩ := hd2703 7 (by decide)
                                  refine ⟨_, some (), rfl, fun _ => ?_⟩
                                  refine s_env (env' := [(63, .bool (!(decide (y274.1 = (⟨s19, s246⟩ : End))))), (12, .int .i64 y274.2.1)]) (by exact ⟨congrArg some hv2705, rfl, trivial⟩) ?_
                                  refine s_want rfl rfl h746 ?_
                                  refine o_mov rfl ?_
                                  exact s_pred fun _ _ _ hE hI => ⟨(.int .i64 y274.2.1), [], _, fun _ e => (by cases e; exact hE _ _ rfl), .refl _, by exact hI, ⟨rfl, rfl⟩⟩
                                refine dcons ?_ ?_
                                · intro _ _ H2709 fr2710 hle2711 hd2712
                                  obtain ⟨hv2714, hg2715⟩ := hd2712 7 (by decide)
                                  obtain ⟨hv2716, hg2717⟩ := hd2712 8 (by decide)
                                  obtain ⟨hv2718, hg2719⟩ := hd2712 9 (by decide)
                                  refine ⟨_, some (), rfl, fun _ => ?_⟩
                                  refine s_env (env' := [(63, .bool (!(decide (y274.1 = (⟨s19, s246⟩ : End))))), (64, .int .i64 y256.2.1), (65, .int .i64 y274.2.1)]) (by exact ⟨congrArg some hv2714, congrArg some hv2716, congrArg some hv2718, trivial⟩) ?_
                                  refine s_want rfl rfl h746 ?_
                                  refine o_ne rfl rfl ?_
                                  exact s_pred fun _ _ _ hE hI => ⟨(.bool (y256.2.1 != y274.2.1)), [], _, fun _ e => (by cases e; exact hE _ _ rfl), .refl _, by exact hI, ⟨rfl, rfl⟩⟩
                                refine dcons ?_ ?_
                                · intro _ _ H2722 fr2723 hle2724 hd2725
                                  obtain ⟨hv2727, hg2728⟩ := hd2725 7 (by decide)
                                  obtain ⟨hv2729, hg2730⟩ := hd2725 10 (by decide)
                                  refine ⟨_, some (), rfl, fun _ => ?_⟩
                                  refine s_env (env' := [(63, .bool (!(decide (y274.1 = (⟨s19, s246⟩ : End))))), (66, .bool (y256.2.1 != y274.2.1))]) (by exact ⟨congrArg some hv2727, congrArg some hv2729, trivial⟩) ?_
                                  refine o_pickF rfl h746 rfl ?_
                                  exact s_pred fun _ _ _ hE hI => ⟨(.bool (y256.2.1 != y274.2.1)), [], _, fun _ e => (by cases e; exact hE _ _ rfl), .refl _, by exact hI, ⟨rfl, rfl⟩⟩
                                refine dcons ?_ ?_
                                · intro _ _ H2733 fr2734 hle2735 hd2736
                                  obtain ⟨hv2738, hg2739⟩ := hd2736 11 (by decide)
                                  refine ⟨_, some (), rfl, fun _ => ?_⟩
                                  refine s_env (env' := [(67, .bool (y256.2.1 != y274.2.1))]) (by exact ⟨congrArg some hv2738, trivial⟩) ?_
                                  refine o_mov rfl ?_
                                  exact s_pred fun _ _ _ hE hI => ⟨(.bool (y256.2.1 != y274.2.1)), [], _, fun _ e => (by cases e; exact hE _ _ rfl), .refl _, by exact hI, ⟨rfl, rfl⟩⟩
                                refine dcons ?_ ?_
                                · intro _ _ H2742 fr2743 hle2744 hd2745
                                  obtain ⟨hv2747, hg2748⟩ := hd2745 12 (by decide)
                                  refine ⟨_, some (), rfl, fun _ => ?_⟩
                                  refine s_env (env' := [(68, .bool (y256.2.1 != y274.2.1)), (9, .int .i64 y256.2.1)]) (by exact ⟨congrArg some hv2747, rfl, trivial⟩) ?_
                                  refine s_want rfl rfl h1207 ?_
                                  refine o_mov rfl ?_
                                  exact s_pred fun _ _ _ hE hI => ⟨(.int .i64 y256.2.1), [], _, fun _ e => (by cases e; exact hE _ _ rfl), .refl _, by exact hI, ⟨rfl, rfl⟩⟩
                                refine dcons ?_ ?_
                                · intro _ _ H2751 fr2752 hle2753 hd2754
                                  obtain ⟨hv2756, hg2757⟩ := hd2754 12 (by decide)
                                  obtain ⟨hv2758, hg2759⟩ := hd2754 13 (by decide)
                                  refine ⟨_, some (), rfl, fun _ => ?_⟩
                                  refine s_env (env' := [(68, .bool (y256.2.1 != y274.2.1)), (69, .int .i64 y256.2.1)]) (by exact ⟨congrArg some hv2756, congrArg some hv2758, trivial⟩) ?_
                                  refine s_want rfl rfl h1207 ?_
                                  refine o_lt rfl rfl ?_
                                  exact s_pred fun _ _ _ hE hI => ⟨(.bool (decide (y256.2.1 < 0))), [], _, fun _ e => (by cases e; exact hE _ _ rfl), .refl _, by exact hI, ⟨rfl, rfl⟩⟩
                                refine dcons ?_ ?_
                                · intro _ _ H2762 fr2763 hle2764 hd2765
                                  obtain ⟨hv2767, hg2768⟩ := hd2765 12 (by decide)
                                  obtain ⟨hv2769, hg2770⟩ := hd2765 14 (by decide)
                                  refine ⟨_, some (), rfl, fun _ => ?_⟩
                                  refine s_env (env' := [(68, .bool (y256.2.1 != y274.2.1)), (70, .bool (decide (y256.2.1 < 0)))]) (by exact ⟨congrArg some hv2767, congrArg some hv2769, trivial⟩) ?_
                                  refine o_pickF rfl h1207 rfl ?_
                                  exact s_pred fun _ _ _ hE hI => ⟨(.bool (decide (y256.2.1 < 0))), [], _, fun _ e => (by cases e; exact hE _ _ rfl), .refl _, by exact hI, ⟨rfl, rfl⟩⟩
                                refine dcons ?_ ?_
                                · intro _ _ H2773 fr2774 hle2775 hd2776
                                  obtain ⟨hv2778, hg2779⟩ := hd2776 15 (by decide)
                                  refine ⟨_, some (), rfl, fun _ => ?_⟩
                                  refine s_env (env' := [(71, .bool (decide (y256.2.1 < 0)))]) (by exact ⟨congrArg some hv2778, trivial⟩) ?_
                                  refine o_mov rfl ?_
                                  exact s_pred fun _ _ _ hE hI => ⟨(.bool (decide (y256.2.1 < 0))), [], _, fun _ e => (by cases e; exact hE _ _ rfl), .refl _, by exact hI, ⟨rfl, rfl⟩⟩
                                refine dcons ?_ ?_
                                · intro _ _ H2782 fr2783 hle2784 hd2785
                                  obtain ⟨hv2787, hg2788⟩ := hd2785 16 (by decide)
                                  refine ⟨_, some (), rfl, fun _ => ?_⟩
                                  refine s_env (env' := [(72, .bool (decide (y256.2.1 < 0))), (9, .int .i64 y256.2.1)]) (by exact ⟨congrArg some hv2787, rfl, trivial⟩) ?_
                                  refine s_want rfl rfl h1668 ?_
                                  refine o_mov rfl ?_
                                  exact s_pred fun _ _ _ hE hI => ⟨(.int .i64 y256.2.1), [], _, fun _ e => (by cases e; exact hE _ _ rfl), .refl _, by exact hI, ⟨rfl, rfl⟩⟩
                                refine dcons ?_ ?_
                                · intro _ _ H2791 fr2792 hle2793 hd2794
                                  have hs2796 := RSl.mono hle2793 hs268
                                  obtain ⟨hv2797, hg2798⟩ := hd2794 16 (by decide)
                                  refine ⟨_, some (), rfl, fun _ => ?_⟩
                                  refine s_env (env' := [(72, .bool (decide (y256.2.1 < 0))), (2, .pointer (some ⟨b1, 0, none⟩))]) (by exact ⟨congrArg some hv2797, rfl, trivial⟩) ?_
                                  refine s_want rfl rfl h1668 ?_
                                  refine o_fa rfl ?_
                                  exact s_pred fun _ _ _ hE hI => ⟨(.pointer (some ⟨b1, 1, none⟩)), [], _, fun _ e => (by cases e; exact hE _ _ rfl), .refl _, by exact hI, ⟨rfl, rfl⟩⟩
                                refine dcons ?_ ?_
                                · intro _ _ H2801 fr2802 hle2803 hd2804
                                  have hs2806 := RSl.mono hle2803 hs268
                                  obtain ⟨hv2807, hg2808⟩ := hd2804 16 (by decide)
                                  obtain ⟨hv2809, hg2810⟩ := hd2804 18 (by decide)
                                  refine ⟨_, some (), rfl, fun _ => ?_⟩
                                  refine s_env (env' := [(72, .bool (decide (y256.2.1 < 0))), (74, .pointer (some ⟨b1, 1, none⟩))]) (by exact ⟨congrArg some hv2807, congrArg some hv2809, trivial⟩) ?_
                                  refine s_want rfl rfl h1668 ?_
                                  refine o_ld 0 rfl rfl rfl ?_
                                  exact s_pred fun _ _ _ hE hI => ⟨(.slice a8 y6.Links.length c9), [], _, fun _ e => (by cases e; exact hE _ _ rfl), .refl _, by exact hI, ⟨rfl, rfl, hs2806⟩⟩
                                refine dcons ?_ ?_
                                · intro _ _ H2813 fr2814 hle2815 hd2816
                                  obtain ⟨hv2818, hg2819⟩ := hd2816 16 (by decide)
                                  obtain ⟨hv2820, hg2821, hp2822⟩ := hd2816 19 (by decide)
                                  refine ⟨_, some (), rfl, fun _ => ?_⟩
                                  refine s_env (env' := [(72, .bool (decide (y256.2.1 < 0))), (75, .slice a8 y6.Links.length c9)]) (by exact ⟨congrArg some hv2818, congrArg some hv2820, trivial⟩) ?_
                                  refine s_want rfl rfl h1668 ?_
                                  refine o_lenS rfl ?_
                                  exact s_pred fun _ _ _ hE hI => ⟨(.int .i64 (y6.Links.length : Int)), [], _, fun _ e => (by cases e; exact hE _ _ rfl), .refl _, by exact hI, ⟨rfl, rfl⟩⟩
                                refine dcons ?_ ?_
                                · intro _ _ H2825 fr2826 hle2827 hd2828
                                  obtain ⟨hv2830, hg2831⟩ := hd2828 16 (by decide)
                                  obtain ⟨hv2832, hg2833⟩ := hd2828 17 (by decide)
                                  obtain ⟨hv2834, hg2835⟩ := hd2828 20 (by decide)
                                  refine ⟨_, some (), rfl, fun _ => ?_⟩
                                  refine s_env (env' := [(72, .bool (decide (y256.2.1 < 0))), (73, .int .i64 y256.2.1), (76, .int .i64 (y6.Links.length : Int))]) (by exact ⟨congrArg some hv2830, congrArg some hv2832, congrArg some hv2834, trivial⟩) ?_
                                  refine s_want rfl rfl h1668 ?_
                                  refine o_ge rfl rfl ?_
                                  exact s_pred fun _ _ _ hE hI => ⟨(.bool (decide (y256.2.1 ≥ (y6.Links.length : Int)))), [], _, fun _ e => (by cases e; exact hE _ _ rfl), .refl _, by exact hI, ⟨rfl, rfl⟩⟩
                                refine dcons ?_ ?_
                                · intro _ _ H2838 fr2839 hle2840 hd2841
                                  obtain ⟨hv2843, hg2844⟩ := hd2841 16 (by decide)
                                  obtain ⟨hv2845, hg2846⟩ := hd2841 21 (by decide)
                                  refine ⟨_, some (), rfl, fun _ => ?_⟩
                                  refine s_env (env' := [(72, .bool (decide (y256.2.1 < 0))), (77, .bool (decide (y256.2.1 ≥ (y6.Links.length : Int))))]) (by exact ⟨congrArg some hv2843, congrArg some hv2845, trivial⟩) ?_
                                  refine o_pickF rfl h1668 rfl ?_
                                  exact s_pred fun _ _ _ hE hI => ⟨(.bool (decide (y256.2.1 ≥ (y6.Links.length : Int)))), [], _, fun _ e => (by cases e; exact hE _ _ rfl), .refl _, by exact hI, ⟨rfl, rfl⟩⟩
                                refine dcons ?_ ?_
                                · intro _ _ H2849 fr2850 hle2851 hd2852
                                  obtain ⟨hv2854, hg2855⟩ := hd2852 22 (by decide)
                                  refine ⟨_, some (), rfl, fun _ => ?_⟩
                                  refine s_env (env' := [(78, .bool (decide (y256.2.1 ≥ (y6.Links.length : Int))))]) (by exact ⟨congrArg some hv2854, trivial⟩) ?_
                                  refine o_mov rfl ?_
                                  exact s_pred fun _ _ _ hE hI => ⟨(.bool (decide (y256.2.1 ≥ (y6.Links.length : Int)))), [], _, fun _ e => (by cases e; exact hE _ _ rfl), .refl _, by exact hI, ⟨rfl, rfl⟩⟩
                                refine dcons ?_ ?_
                                · intro _ _ H2858 fr2859 hle2860 hd2861
                                  have hs2863 := RSl.mono hle2860 hs268
                                  obtain ⟨hv2864, hg2865⟩ := hd2861 23 (by decide)
                                  refine ⟨_, some (), rfl, fun _ => ?_⟩
                                  refine s_env (env' := [(79, .bool (decide (y256.2.1 ≥ (y6.Links.length : Int)))), (2, .pointer (some ⟨b1, 0, none⟩))]) (by exact ⟨congrArg some hv2864, rfl, trivial⟩) ?_
                                  refine s_want rfl rfl h2129 ?_
                                  refine o_fa rfl ?_
                                  exact s_pred fun _ _ _ hE hI => ⟨(.pointer (some ⟨b1, 1, none⟩)), [], _, fun _ e => (by cases e; exact hE _ _ rfl), .refl _, by exact hI, ⟨rfl, rfl⟩⟩
                                refine dcons ?_ ?_
                                · intro _ _ H2868 fr2869 hle2870 hd2871
                                  have hs2873 := RSl.mono hle2870 hs268
                                  obtain ⟨hv2874, hg2875⟩ := hd2871 23 (by decide)
                                  obtain ⟨hv2876, hg2877⟩ := hd2871 24 (by decide)
                                  refine ⟨_, some (), rfl, fun _ => ?_⟩
                                  refine s_env (env' := [(79, .bool (decide (y256.2.1 ≥ (y6.Links.length : Int)))), (80, .pointer (some ⟨b1, 1, none⟩))]) (by exact ⟨congrArg some hv2874, congrArg some hv2876, trivial⟩) ?_
                                  refine s_want rfl rfl h2129 ?_
                                  refine o_ld 0 rfl rfl rfl ?_
                                  exact s_pred fun _ _ _ hE hI => ⟨(.slice a8 y6.Links.length c9), [], _, fun _ e => (by cases e; exact hE _ _ rfl), .refl _, by exact hI, ⟨rfl, rfl, hs2873⟩⟩
                                refine dcons ?_ ?_
                                · intro _ _ H2880 fr2881 hle2882 hd2883
                                  obtain ⟨hv2885, hg2886⟩ := hd2883 23 (by decide)
                                  refine ⟨_, some (), rfl, fun _ => ?_⟩
                                  refine s_env (env' := [(79, .bool (decide (y256.2.1 ≥ (y6.Links.length : Int)))), (9, .int .i64 y256.2.1)]) (by exact ⟨congrArg some hv2885, rfl, trivial⟩) ?_
                                  refine s_want rfl rfl h2129 ?_
                                  refine o_mov rfl ?_
                                  exact s_pred fun _ _ _ hE hI => ⟨(.int .i64 y256.2.1), [], _, fun _ e => (by cases e; exact hE _ _ rfl), .refl _, by exact hI, ⟨rfl, rfl⟩⟩
                                refine dcons ?_ ?_
                                · intro _ _ H2889 fr2890 hle2891 hd2892
                                  obtain ⟨hv2894, hg2895⟩ := hd2892 23 (by decide)
                                  obtain ⟨hv2896, hg2897, hp2898⟩ := hd2892 25 (by decide)
                                  obtain ⟨hv2899, hg2900⟩ := hd2892 26 (by decide)
                                  refine ⟨_, (rd y6.Links y256.2.1).bind some, by rw [h2597]; rfl, fun _ => ?_⟩
                                  refine s_env (env' := [(79, .bool (decide (y256.2.1 ≥ (y6.Links.length : Int)))), (81, .slice a8 y6.Links.length c9), (82, .int .i64 y256.2.1)]) (by exact ⟨congrArg some hv2894, congrArg some hv2896, congrArg some hv2899, trivial⟩) ?_
                                  refine s_want rfl rfl h2129 ?_
                                  refine o_ixf hp2898 rfl rfl fun y2592 bk2902 of2903 h2901 hc2904 => ?_
                                  obtain rfl := Option.some.inj (h2597.symm.trans h2901)
                                  exact s_pred fun _ _ _ hE hI => ⟨(.pointer (some ⟨bk2902, of2903, none⟩)), [], _, fun _ e => (by cases e; exact hE _ _ rfl), .refl _, by exact hI, ⟨bk2902, of2903, rfl, rfl, hc2904⟩⟩
                                refine dcons ?_ ?_
                                · intro _ _ H2907 fr2908 hle2909 hd2910
                                  obtain ⟨hv2912, hg2913⟩ := hd2910 23 (by decide)
                                  obtain ⟨bk2914, of2915, hv2916, hg2917, hp2918⟩ := hd2910 27 (by decide)
                                  refine ⟨_, some (), rfl, fun _ => ?_⟩
                                  refine s_env (env' := [(79, .bool (decide (y256.2.1 ≥ (y6.Links.length : Int)))), (83, .pointer (some ⟨bk2914, of2915, none⟩))]) (by exact ⟨congrArg some hv2912, congrArg some hv2916, trivial⟩) ?_
                                  refine s_want rfl rfl h2129 ?_
                                  refine o_fa rfl ?_
                                  exact s_pred fun _ _ _ hE hI => ⟨(.pointer (some ⟨bk2914, of2915, none⟩)), [], _, fun _ e => (by cases e; exact hE _ _ rfl), .refl _, by exact hI, ⟨bk2914, of2915, rfl, rfl, hp2918⟩⟩
                                refine dcons ?_ ?_
                                · intro _ _ H2921 fr2922 hle2923 hd2924
                                  obtain ⟨hv2926, hg2927⟩ := hd2924 23 (by decide)
                                  obtain ⟨bk2928, of2929, hv2930, hg2931, hp2932⟩ := hd2924 28 (by decide)
                                  refine ⟨_, some (), rfl, fun _ => ?_⟩
                                  refine s_env (env' := [(79, .bool (decide (y256.2.1 ≥ (y6.Links.length : Int)))), (84, .pointer (some ⟨bk2928, of2929, none⟩))]) (by exact ⟨congrArg some hv2926, congrArg some hv2930, trivial⟩) ?_
                                  refine s_want rfl rfl h2129 ?_
                                  refine o_ldH 0 hp2932 rfl rfl rfl ?_
                                  exact s_pred fun _ _ _ hE hI => ⟨(.agg #[.int .i64 y2592.A.Switch, .int .i64 y2592.A.Port]), [], _, fun _ e => (by cases e; exact hE _ _ rfl), .refl _, by exact hI, ⟨rfl, rfl⟩⟩
                                refine dcons ?_ ?_
                                · intro _ _ H2935 fr2936 hle2937 hd2938
                                  obtain ⟨hv2940, hg2941⟩ := hd2938 23 (by decide)
                                  refine ⟨_, some (), rfl, fun _ => ?_⟩
                                  refine s_env (env' := [(79, .bool (decide (y256.2.1 ≥ (y6.Links.length : Int)))), (7, .pointer (some ⟨b254, 0, none⟩))]) (by exact ⟨congrArg some hv2940, rfl, trivial⟩) ?_
                                  refine s_want rfl rfl h2129 ?_
                                  refine o_ld 1 rfl rfl rfl ?_
                                  exact s_pred fun _ _ _ hE hI => ⟨(.agg #[.int .i64 s19, .int .i64 s246]), [], _, fun _ e => (by cases e; exact hE _ _ rfl), .refl _, by exact hI, ⟨rfl, rfl⟩⟩
                                refine dcons ?_ ?_
                                · intro _ _ H2944 fr2945 hle2946 hd2947
                                  obtain ⟨hv2949, hg2950⟩ := hd2947 23 (by decide)
                                  obtain ⟨hv2951, hg2952⟩ := hd2947 29 (by decide)
                                  obtain ⟨hv2953, hg2954⟩ := hd2947 30 (by decide)
                                  refine ⟨_, some (), rfl, fun _ => ?_⟩
                                  refine s_env (env' := [(79, .bool (decide (y256.2.1 ≥ (y6.Links.length : Int)))), (85, .agg #[.int .i64 y2592.A.Switch, .int .i64 y2592.A.Port]), (86, .agg #[.int .i64 s19, .int .i64 s246])]) (by exact ⟨congrArg some hv2949, congrArg some hv2951, congrArg some hv2953, trivial⟩) ?_
                                  refine s_want rfl rfl h2129 ?_
                                  refine o_neS y2592.A (⟨s19, s246⟩ : End) rfl rfl ?_
                                  exact s_pred fun _ _ _ hE hI => ⟨(.bool (!(decide (y2592.A = (⟨s19, s246⟩ : End))))), [], _, fun _ e => (by cases e; exact hE _ _ rfl), .refl _, by exact hI, ⟨rfl, rfl⟩⟩
                                refine dcons ?_ ?_
                                · intro _ _ H2957 fr2958 hle2959 hd2960
                                  obtain ⟨hv2962, hg2963⟩ := hd2960 23 (by decide)
                                  obtain ⟨hv2964, hg2965⟩ := hd2960 31 (by decide)
                                  refine ⟨_, some (), rfl, fun _ => ?_⟩
                                  refine s_env (env' := [(79, .bool (decide (y256.2.1 ≥ (y6.Links.length : Int)))), (87, .bool (!(decide (y2592.A = (⟨s19, s246⟩ : End)))))]) (by exact ⟨congrArg some hv2962, congrArg some hv2964, trivial⟩) ?_
                                  refine s_want rfl rfl h2129 ?_
                                  refine o_mov rfl ?_
                                  exact s_pred fun _ _ _ hE hI => ⟨(.bool (!(decide (y2592.A = (⟨s19, s246⟩ : End))))), [], _, fun _ e => (by cases e; exact hE _ _ rfl), .refl _, by exact hI, ⟨rfl, rfl⟩⟩
                                refine dcons ?_ ?_
                                · intro _ _ H2968 fr2969 hle2970 hd2971
                                  have hs2973 := RSl.mono hle2970 hs268
                                  obtain ⟨hv2974, hg2975⟩ := hd2971 32 (by decide)
                                  refine ⟨_, some (), rfl, fun _ => ?_⟩
                                  refine s_env (env' := [(88, .bool (!(decide (y2592.A = (⟨s19, s246⟩ : End))))), (2, .pointer (some ⟨b1, 0, none⟩))]) (by exact ⟨congrArg some hv2974, rfl, trivial⟩) ?_
                                  refine s_want rfl rfl h2598 ?_
                                  refine o_fa rfl ?_
                                  exact s_pred fun _ _ _ hE hI => ⟨(.pointer (some ⟨b1, 1, none⟩)), [], _, fun _ e => (by cases e; exact hE _ _ rfl), .refl _, by exact hI, ⟨rfl, rfl⟩⟩
                                refine dcons ?_ ?_
                                · intro _ _ H2978 fr2979 hle2980 hd2981
                                  have hs2983 := RSl.mono hle2980 hs268
                                  obtain ⟨hv2984, hg2985⟩ := hd2981 32 (by decide)
                                  obtain ⟨hv2986, hg2987⟩ := hd2981 33 (by decide)
                                  refine ⟨_, some (), rfl, fun _ => ?_⟩
                                  refine s_env (env' := [(88, .bool (!(decide (y2592.A = (⟨s19, s246⟩ : End))))), (89, .pointer (some ⟨b1, 1, none⟩))]) (by exact ⟨congrArg some hv2984, congrArg some hv2986, trivial⟩) ?_
                                  refine s_want rfl rfl h2598 ?_
                                  refine o_ld 0 rfl rfl rfl ?_
                                  exact s_pred fun _ _ _ hE hI => ⟨(.slice a8 y6.Links.length c9), [], _, fun _ e => (by cases e; exact hE _ _ rfl), .refl _, by exact hI, ⟨rfl, rfl, hs2983⟩⟩
                                refine dcons ?_ ?_
                                · intro _ _ H2990 fr2991 hle2992 hd2993
                                  obtain ⟨hv2995, hg2996⟩ := hd2993 32 (by decide)
                                  refine ⟨_, some (), rfl, fun _ => ?_⟩
                                  refine s_env (env' := [(88, .bool (!(decide (y2592.A = (⟨s19, s246⟩ : End))))), (9, .int .i64 y256.2.1)]) (by exact ⟨congrArg some hv2995, rfl, trivial⟩) ?_
                                  refine s_want rfl rfl h2598 ?_
                                  refine o_mov rfl ?_
                                  exact s_pred fun _ _ _ hE hI => ⟨(.int .i64 y256.2.1), [], _, fun _ e => (by cases e; exact hE _ _ rfl), .refl _, by exact hI, ⟨rfl, rfl⟩⟩
                                refine dcons ?_ ?_
                                · intro _ _ H2999 fr3000 hle3001 hd3002
                                  obtain ⟨hv3004, hg3005⟩ := hd3002 32 (by decide)
                                  obtain ⟨hv3006, hg3007, hp3008⟩ := hd3002 34 (by decide)
                                  obtain ⟨hv3009, hg3010⟩ := hd3002 35 (by decide)
                                  refine ⟨_, (rd y6.Links y256.2.1).bind some, by rw [h2604]; rfl, fun _ => ?_⟩
                                  refine s_env (env' := [(88, .bool (!(decide (y2592.A = (⟨s19, s246⟩ : End))))), (90, .slice a8 y6.Links.length c9), (91, .int .i64 y256.2.1)]) (by exact ⟨congrArg some hv3004, congrArg some hv3006, congrArg some hv3009, trivial⟩) ?_
                                  refine s_want rfl rfl h2598 ?_
                                  refine o_ixf hp3008 rfl rfl fun y2599 bk3012 of3013 h3011 hc3014 => ?_
                                  obtain rfl := Option.some.inj (h2604.symm.trans h3011)
                                  exact s_pred fun _ _ _ hE hI => ⟨(.pointer (some ⟨bk3012, of3013, none⟩)), [], _, fun _ e => (by cases e; exact hE _ _ rfl), .refl _, by exact hI, ⟨bk3012, of3013, rfl, rfl, hc3014⟩⟩
                                refine dcons ?_ ?_
                                · intro _ _ H3017 fr3018 hle3019 hd3020
                                  obtain ⟨hv3022, hg3023⟩ := hd3020 32 (by decide)
                                  obtain ⟨bk3024, of3025, hv3026, hg3027, hp3028⟩ := hd3020 36 (by decide)
                                  refine ⟨_, some (), rfl, fun _ => ?_⟩
                                  refine s_env (env' := [(88, .bool (!(decide (y2592.A = (⟨s19, s246⟩ : End))))), (92, .pointer (some ⟨bk3024, of3025, none⟩))]) (by exact ⟨congrArg some hv3022, congrArg some hv3026, trivial⟩) ?_
                                  refine s_want rfl rfl h2598 ?_
                                  refine o_fa rfl ?_
                                  exact s_pred fun _ _ _ hE hI => ⟨(.pointer (some ⟨bk3024, of3025 + 2, none⟩)), [], _, fun _ e => (by cases e; exact hE _ _ rfl), .refl _, by exact hI, ⟨bk3024, of3025, rfl, rfl, hp3028⟩⟩
                                refine dcons ?_ ?_
                                · intro _ _ H3031 fr3032 hle3033 hd3034
                                  obtain ⟨hv3036, hg3037⟩ := hd3034 32 (by decide)
                                  obtain ⟨bk3038, of3039, hv3040, hg3041, hp3042⟩ := hd3034 37 (by decide)
                                  refine ⟨_, some (), rfl, fun _ => ?_⟩
                                  refine s_env (env' := [(88, .bool (!(decide (y2592.A = (⟨s19, s246⟩ : End))))), (93, .pointer (some ⟨bk3038, of3039 + 2, none⟩))]) (by exact ⟨congrArg some hv3036, congrArg some hv3040, trivial⟩) ?_
                                  refine s_want rfl rfl h2598 ?_
                                  refine o_ldH 2 hp3042 rfl rfl rfl ?_
                                  exact s_pred fun _ _ _ hE hI => ⟨(.agg #[.int .i64 y2599.B.Switch, .int .i64 y2599.B.Port]), [], _, fun _ e => (by cases e; exact hE _ _ rfl), .refl _, by exact hI, ⟨rfl, rfl⟩⟩
                                refine dcons ?_ ?_
                                · intro _ _ H3045 fr3046 hle3047 hd3048
                                  obtain ⟨hv3050, hg3051⟩ := hd3048 32 (by decide)
                                  refine ⟨_, some (), rfl, fun _ => ?_⟩
                                  refine s_env (env' := [(88, .bool (!(decide (y2592.A = (⟨s19, s246⟩ : End))))), (7, .pointer (some ⟨b254, 0, none⟩))]) (by exact ⟨congrArg some hv3050, rfl, trivial⟩) ?_
                                  refine s_want rfl rfl h2598 ?_
                                  refine o_ld 1 rfl rfl rfl ?_
                                  exact s_pred fun _ _ _ hE hI => ⟨(.agg #[.int .i64 s19, .int .i64 s246]), [], _, fun _ e => (by cases e; exact hE _ _ rfl), .refl _, by exact hI, ⟨rfl, rfl⟩⟩
                                refine dcons ?_ ?_
                                · intro _ _ H3054 fr3055 hle3056 hd3057
                                  obtain ⟨hv3059, hg3060⟩ := hd3057 32 (by decide)
                                  obtain ⟨hv3061, hg3062⟩ := hd3057 38 (by decide)
                                  obtain ⟨hv3063, hg3064⟩ := hd3057 39 (by decide)
                                  refine ⟨_, some (), rfl, fun _ => ?_⟩
                                  refine s_env (env' := [(88, .bool (!(decide (y2592.A = (⟨s19, s246⟩ : End))))), (94, .agg #[.int .i64 y2599.B.Switch, .int .i64 y2599.B.Port]), (95, .agg #[.int .i64 s19, .int .i64 s246])]) (by exact ⟨congrArg some hv3059, congrArg some hv3061, congrArg some hv3063, trivial⟩) ?_
                                  refine s_want rfl rfl h2598 ?_
                                  refine o_neS y2599.B (⟨s19, s246⟩ : End) rfl rfl ?_
                                  exact s_pred fun _ _ _ hE hI => ⟨(.bool (!(decide (y2599.B = (⟨s19, s246⟩ : End))))), [], _, fun _ e => (by cases e; exact hE _ _ rfl), .refl _, by exact hI, ⟨rfl, rfl⟩⟩
                                refine dcons ?_ ?_
                                · intro _ _ H3067 fr3068 hle3069 hd3070
                                  obtain ⟨hv3072, hg3073⟩ := hd3070 23 (by decide)
                                  obtain ⟨hv3074, hg3075⟩ := hd3070 32 (by decide)
                                  obtain ⟨hv3076, hg3077⟩ := hd3070 40 (by decide)
                                  refine ⟨_, some (), rfl, fun _ => ?_⟩
                                  refine s_env (env' := [(79, .bool (decide (y256.2.1 ≥ (y6.Links.length : Int)))), (88, .bool (!(decide (y2592.A = (⟨s19, s246⟩ : End))))), (96, .bool (!(decide (y2599.B = (⟨s19, s246⟩ : End)))))]) (by exact ⟨congrArg some hv3072, congrArg some hv3074, congrArg some hv3076, trivial⟩) ?_
                                  refine s_want rfl rfl h2129 ?_
                                  refine o_pickT rfl h2598 rfl ?_
                                  exact s_pred fun _ _ _ hE hI => ⟨(.bool (!(decide (y2599.B = (⟨s19, s246⟩ : End))))), [], _, fun _ e => (by cases e; exact hE _ _ rfl), .refl _, by exact hI, ⟨rfl, rfl⟩⟩
                                refine dcons ?_ ?_
                                · intro _ _ H3080 fr3081 hle3082 hd3083
                                  obtain ⟨hv3085, hg3086⟩ := hd3083 23 (by decide)
                                  obtain ⟨hv3087, hg3088⟩ := hd3083 41 (by decide)
                                  refine ⟨_, some (), rfl, fun _ => ?_⟩
                                  refine s_env (env' := [(79, .bool (decide (y256.2.1 ≥ (y6.Links.length : Int)))), (97, .bool (!(decide (y2599.B = (⟨s19, s246⟩ : End)))))]) (by exact ⟨congrArg some hv3085, congrArg some hv3087, trivial⟩) ?_
                                  refine o_pickF rfl h2129 rfl ?_
                                  exact s_pred fun _ _ _ hE hI => ⟨(.bool (!(decide (y2599.B = (⟨s19, s246⟩ : End))))), [], _, fun _ e => (by cases e; exact hE _ _ rfl), .refl _, by exact hI, ⟨rfl, rfl⟩⟩
                                exact dnil
                              · intro V3091 G3092 H3089 hle3090 hF3093
                                have hs3094 := RSl.mono hle3090 hs267
                                have hs3095 := RSl.mono hle3090 hs268
                                have hA3096 := All2.mono (fun _ _ => GoT.mono hle3090) hA269
                                obtain ⟨hv3097, hg3098⟩ := hF3093 42 (show 42 < 43 by decide)
                                refine s_env (env' := [(98, .bool (!(decide (y2599.B = (⟨s19, s246⟩ : End))))), (1, .slice a1_0 x1.length c1_0), (2, .pointer (some ⟨b1, 0, none⟩)), (5, .int .i64 s19), (6, .int .i64 s246), (26, .int .i64 s246), (27, .bool (decide (s246 ≤ 4))), (30, .int .i64 s19), (31, .int .i64 s246), (32, .agg #[.int .i64 s19, .int .i64 s246]), (7, .pointer (some ⟨b254, 0, none⟩)), (34, .agg #[.int .i64 y6.Switches, .slice a8 y6.Links.length c9]), (35, .agg #[.int .i64 s19, .int .i64 s246]), (37, .agg #[.int .i64 y256.1.Switch, .int .i64 y256.1.Port]), (38, .int .i64 y256.2.1), (39, .bool y256.2.2), (8, .pointer (some ⟨b258, 0, none⟩)), (9, .int .i64 y256.2.1), (10, .bool y256.2.2), (40, .bool y256.2.2), (41, .agg #[.int .i64 y6.Switches, .slice a8 y6.Links.length c9]), (42, .int .i64 s19), (43, .slice a262 y260.length c263), (44, .int .i64 s246), (45, .bool y270), (46, .bool (y256.2.2 != y270)), (47, .bool y256.2.2), (48, .bool (!y256.2.2)), (50, .agg #[.int .i64 y6.Switches, .slice a8 y6.Links.length c9]), (51, .agg #[.int .i64 y256.1.Switch, .int .i64 y256.1.Port]), (53, .agg #[.int .i64 y274.1.Switch, .int .i64 y274.1.Port]), (54, .int .i64 y274.2.1), (55, .bool y274.2.2), (11, .pointer (some ⟨b276, 0, none⟩)), (12, .int .i64 y274.2.1), (13, .bool y274.2.2)]) (by exact ⟨congrArg some hv3097, rfl, rfl, rfl, rfl, rfl, rfl, rfl, rfl, rfl, rfl, rfl, rfl, rfl, rfl, rfl, rfl, rfl, rfl, rfl, rfl, rfl, rfl, rfl, rfl, rfl, rfl, rfl, rfl, rfl, rfl, rfl, rfl, rfl, rfl, rfl, trivial⟩) ?_
                                refine s_own (List.sublist_append_left _ _) ?_
                                refine s_done ?_
                                exact s_env (by exact ⟨rfl, rfl, rfl, rfl, rfl, trivial⟩) (s_own (by exact (.cons_cons _ (.cons _ (.cons _ (.cons _ (.cons _ .slnil)))))) (J284 (!(decide (y2599.B = (⟨s19, s246⟩ : End)))) _ _ _ ⟨rfl, rfl, hle3090⟩))
                            · refine s_drawL [(fun H v g => v = Value.bool y274.2.2 ∧ g = []),
      (fun H v g => v = Value.bool (!y274.2.2) ∧ g = []),
      (fun H v g => v = Value.bool (!y274.2.2) ∧ g = []),
      (fun H v g => v = Value.agg #[.int .i64 y274.1.Switch, .int .i64 y274.1.Port] ∧ g = []),
      (fun H v g => v = Value.agg #[.int .i64 s19, .int .i64 s246] ∧ g = []),
      (fun H v g => v = Value.bool (!(decide (y274.1 = (⟨s19, s246⟩ : End)))) ∧ g = []),
      (fun H v g => v = Value.bool (!(decide (y274.1 = (⟨s19, s246⟩ : End)))) ∧ g = []),
      (fun H v g => v = Value.bool (!(decide (y274.1 = (⟨s19, s246⟩ : End)))) ∧ g = []),
      (fun H v g => v = Value.int .i64 y256.2.1 ∧ g = []),
      (fun H v g => v = Value.int .i64 y274.2.1 ∧ g = []),
      (fun H v g => v = Value.bool (y256.2.1 != y274.2.1) ∧ g = []),
      (fun H v g => v = Value.bool (y256.2.1 != y274.2.1) ∧ g = []),
      (fun H v g => v = Value.bool (y256.2.1 != y274.2.1) ∧ g = []),
      (fun H v g => v = Value.int .i64 y256.2.1 ∧ g = []),
      (fun H v g => v = Value.bool (decide (y256.2.1 < 0)) ∧ g = []),
      (fun H v g => v = Value.bool (decide (y256.2.1 < 0)) ∧ g = []),
      (fun H v g => v = Value.bool (decide (y256.2.1 < 0)) ∧ g = []),
      (fun H v g => v = Value.int .i64 y256.2.1 ∧ g = []),
      (fun H v g => v = Value.pointer (some ⟨b1, 1, none⟩) ∧ g = []),
      (fun H v g => v = Value.slice a8 y6.Links.length c9 ∧ g = [] ∧ RSl H a8 c9 y6.Links),
      (fun H v g => v = Value.int .i64 (y6.Links.length : Int) ∧ g = []),
      (fun H v g => v = Value.bool (decide (y256.2.1 ≥ (y6.Links.length : Int))) ∧ g = []),
      (fun H v g => v = Value.bool (decide (y256.2.1 ≥ (y6.Links.length : Int))) ∧ g = []),
      (fun H v g => v = Value.bool (decide (y256.2.1 ≥ (y6.Links.length : Int))) ∧ g = []),
      (fun H v g => v = Value.pointer (some ⟨b1, 1, none⟩) ∧ g = []),
      (fun H v g => v = Value.slice a8 y6.Links.length c9 ∧ g = [] ∧ RSl H a8 c9 y6.Links),
      (fun H v g => v = Value.int .i64 y256.2.1 ∧ g = []),
      (fun H v g => ∃ bk3100 of3101, v = Value.pointer (some ⟨bk3100, of3101, none⟩) ∧ g = [] ∧ CellsAt H bk3100 of3101 [.int .i64 y2592.A.Switch, .int .i64 y2592.A.Port, .int .i64 y2592.B.Switch, .int .i64 y2592.B.Port]),
      (fun H v g => ∃ bk3100 of3101, v = Value.pointer (some ⟨bk3100, of3101, none⟩) ∧ g = [] ∧ CellsAt H bk3100 of3101 [.int .i64 y2592.A.Switch, .int .i64 y2592.A.Port, .int .i64 y2592.B.Switch, .int .i64 y2592.B.Port]),
      (fun H v g => v = Value.agg #[.int .i64 y2592.A.Switch, .int .i64 y2592.A.Port] ∧ g = []),
      (fun H v g => v = Value.agg #[.int .i64 s19, .int .i64 s246] ∧ g = []),
      (fun H v g => v = Value.bool (!(decide (y2592.A = (⟨s19, s246⟩ : End)))) ∧ g = []),
      (fun H v g => v = Value.bool (!(decide (y2592.A = (⟨s19, s246⟩ : End)))) ∧ g = []),
      uF,
      uF,
      uF,
      uF,
      uF,
      uF,
      uF,
      uF,
      (fun H v g => v = Value.bool false ∧ g = []),
      (fun H v g => v = Value.bool false ∧ g = [])] [[], [], [], [], [], [], [], [], [], [], [], [], [], [], [], [], [], [], [], [], [], [], [], [], [], [], [], [], [], [], [], [], [], [], [], [], [], [], [], [], [], [], []] mixed ⟨m0, m0, m0, m0, m0, m0, m0, m0, m0, m0, m0, m0, m0, m0, m0, m0, m0, m0, m0, fun _ _ _ _ hle ⟨e1, e2, h0_⟩ => ⟨e1, e2, RSl.mono hle h0_⟩, m0, m0, m0, m0, m0, fun _ _ _ _ hle ⟨e1, e2, h0_⟩ => ⟨e1, e2, RSl.mono hle h0_⟩, m0, fun _ _ _ _ hle ⟨bk3100, of3101, e1, e2, h0_⟩ => ⟨_, _, e1, e2, CellsAt.mono hle h0_⟩, fun _ _ _ _ hle ⟨bk3100, of3101, e1, e2, h0_⟩ => ⟨_, _, e1, e2, CellsAt.mono hle h0_⟩, m0, m0, m0, m0, m0, m0, m0, m0, m0, m0, m0, m0, m0, m0, trivial⟩ (by kernel_rfl) (by kernel_rfl) rfl (by kernel_rfl) rfl rfl ?_ ?_
                              · refine dcons ?_ ?_
                                · intro _ _ H3105 fr3106 hle3107 hd3108
                                  refine ⟨_, some (), rfl, fun _ => ?_⟩
                                  refine s_env (env' := [(13, .bool y274.2.2)]) (by exact ⟨rfl, trivial⟩) ?_
                                  refine o_mov rfl ?_
                                  exact s_pred fun _ _ _ hE hI => ⟨(.bool y274.2.2), [], _, fun _ e => (by cases e; exact hE _ _ rfl), .refl _, by exact hI, ⟨rfl, rfl⟩⟩
                                refine dcons ?_ ?_
                                · intro _ _ H3112 fr3113 hle3114 hd3115
                                  obtain ⟨hv3117, hg3118⟩ := hd3115 0 (by decide)
                                  refine ⟨_, some (), rfl, fun _ => ?_⟩
                                  refine s_env (env' := [(56, .bool y274.2.2)]) (by exact ⟨congrArg some hv3117, trivial⟩) ?_
                                  refine o_not rfl ?_
                                  exact s_pred fun _ _ _ hE hI => ⟨(.bool (!y274.2.2)), [], _, fun _ e => (by cases e; exact hE _ _ rfl), .refl _, by exact hI, ⟨rfl, rfl⟩⟩
                                refine dcons ?_ ?_
                                · intro _ _ H3121 fr3122 hle3123 hd3124
                                  obtain ⟨hv3126, hg3127⟩ := hd3124 1 (by decide)
                                  refine ⟨_, some (), rfl, fun _ => ?_⟩
                                  refine s_env (env' := [(57, .bool (!y274.2.2))]) (by exact ⟨congrArg some hv3126, trivial⟩) ?_
                                  refine o_mov rfl ?_
                                  exact s_pred fun _ _ _ hE hI => ⟨(.bool (!y274.2.2)), [], _, fun _ e => (by cases e; exact hE _ _ rfl), .refl _, by exact hI, ⟨rfl, rfl⟩⟩
                                refine dcons ?_ ?_
                                · intro _ _ H3130 fr3131 hle3132 hd3133
                                  obtain ⟨hv3135, hg3136⟩ := hd3133 2 (by decide)
                                  refine ⟨_, some (), rfl, fun _ => ?_⟩
                                  refine s_env (env' := [(58, .bool (!y274.2.2)), (11, .pointer (some ⟨b276, 0, none⟩))]) (by exact ⟨congrArg some hv3135, rfl, trivial⟩) ?_
                                  refine s_want rfl rfl h285 ?_
                                  refine o_ld 4 rfl rfl rfl ?_
                                  exact s_pred fun _ _ _ hE hI => ⟨(.agg #[.int .i64 y274.1.Switch, .int .i64 y274.1.Port]), [], _, fun _ e => (by cases e; exact hE _ _ rfl), .refl _, by exact hI, ⟨rfl, rfl⟩⟩
                                refine dcons ?_ ?_
                                · intro _ _ H3139 fr3140 hle3141 hd3142
                                  obtain ⟨hv3144, hg3145⟩ := hd3142 2 (by decide)
                                  refine ⟨_, some (), rfl, fun _ => ?_⟩
                                  refine s_env (env' := [(58, .bool (!y274.2.2)), (7, .pointer (some ⟨b254, 0, none⟩))]) (by exact ⟨congrArg some hv3144, rfl, trivial⟩) ?_
                                  refine s_want rfl rfl h285 ?_
                                  refine o_ld 1 rfl rfl rfl ?_
                                  exact s_pred fun _ _ _ hE hI => ⟨(.agg #[.int .i64 s19, .int .i64 s246]), [], _, fun _ e => (by cases e; exact hE _ _ rfl), .refl _, by exact hI, ⟨rfl, rfl⟩⟩
                                refine dcons ?_ ?_
                                · intro _ _ H3148 fr3149 hle3150 hd3151
                                  obtain ⟨hv3153, hg3154⟩ := hd3151 2 (by decide)
                                  obtain ⟨hv3155, hg3156⟩ := hd3151 3 (by decide)
                                  obtain ⟨hv3157, hg3158⟩ := hd3151 4 (by decide)
                                  refine ⟨_, some (), rfl, fun _ => ?_⟩
                                  refine s_env (env' := [(58, .bool (!y274.2.2)), (59, .agg #[.int .i64 y274.1.Switch, .int .i64 y274.1.Port]), (60, .agg #[.int .i64 s19, .int .i64 s246])]) (by exact ⟨congrArg some hv3153, congrArg some hv3155, congrArg some hv3157, trivial⟩) ?_
                                  refine s_want rfl rfl h285 ?_
                                  refine o_neS y274.1 (⟨s19, s246⟩ : End) rfl rfl ?_
                                  exact s_pred fun _ _ _ hE hI => ⟨(.bool (!(decide (y274.1 = (⟨s19, s246⟩ : End))))), [], _, fun _ e => (by cases e; exact hE _ _ rfl), .refl _, by exact hI, ⟨rfl, rfl⟩⟩
                                refine dcons ?_ ?_
                                · intro _ _ H3161 fr3162 hle3163 hd3164
                                  obtain ⟨hv3166, hg3167⟩ := hd3164 2 (by decide)
                                  obtain ⟨hv3168, hg3169⟩ := hd3164 5 (by decide)
                                  refine ⟨_, some (), rfl, fun _ => ?_⟩
                                  refine s_env (env' := [(58, .bool (!y274.2.2)), (61, .bool (!(decide (y274.1 = (⟨s19, s246⟩ : End)))))]) (by exact ⟨congrArg some hv3166, congrArg some hv3168, trivial⟩) ?_
                                  refine o_pickF rfl h285 rfl ?_
                                  exact s_pred fun _ _ _ hE hI => ⟨(.bool (!(decide (y274.1 = (⟨s19, s246⟩ : End))))), [], _, fun _ e => (by cases e; exact hE _ _ rfl), .refl _, by exact hI, ⟨rfl, rfl⟩⟩
                                refine dcons ?_ ?_
                                · intro _ _ H3172 fr3173 hle3174 hd3175
                                  obtain ⟨hv3177, hg3178⟩ := hd3175 6 (by decide)
                                  refine ⟨_, some (), rfl, fun _ => ?_⟩
                                  refine s_env (env' := [(62, .bool (!(decide (y274.1 = (⟨s19, s246⟩ : End)))))]) (by exact ⟨congrArg some hv3177, trivial⟩) ?_
                                  refine o_mov rfl ?_
                                  exact s_pred fun _ _ _ hE hI => ⟨(.bool (!(decide (y274.1 = (⟨s19, s246⟩ : End))))), [], _, fun _ e => (by cases e; exact hE _ _ rfl), .refl _, by exact hI, ⟨rfl, rfl⟩⟩
                                refine dcons ?_ ?_
                                · intro _ _ H3181 fr3182 hle3183 hd3184
                                  obtain ⟨hv3186, hg3187⟩ := hd3184 7 (by decide)
                                  refine ⟨_, some (), rfl, fun _ => ?_⟩
                                  refine s_env (env' := [(63, .bool (!(decide (y274.1 = (⟨s19, s246⟩ : End))))), (9, .int .i64 y256.2.1)]) (by exact ⟨congrArg some hv3186, rfl, trivial⟩) ?_
                                  refine s_want rfl rfl h746 ?_
                                  refine o_mov rfl ?_
                                  exact s_pred fun _ _ _ hE hI => ⟨(.int .i64 y256.2.1), [], _, fun _ e => (by cases e; exact hE _ _ rfl), .refl _, by exact hI, ⟨rfl, rfl⟩⟩
                                refine dcons ?_ ?_
                                · intro _ _ H3190 fr3191 hle3192 hd3193
                                  obtain ⟨hv3195, hg3196⟩ := hd3193 7 (by decide)
                                  refine ⟨_, some (), rfl, fun _ => ?_⟩
                                  refine s_env (env' := [(63, .bool (!(decide (y274.1 = (⟨s19, s246⟩ : End))))), (12, .int .i64 y274.2.1)]) (by exact ⟨congrArg some hv3195, rfl, trivial⟩) ?_
                                  refine s_want rfl rfl h746 ?_
                                  refine o_mov rfl ?_
                                  exact s_pred fun _ _ _ hE hI => ⟨(.int .i64 y274.2.1), [], _, fun _ e => (by cases e; exact hE _ _ rfl), .refl _, by exact hI, ⟨rfl, rfl⟩⟩
                                refine dcons ?_ ?_
                                · intro _ _ H3199 fr3200 hle3201 hd3202
                                  obtain ⟨hv3204, hg3205⟩ := hd3202 7 (by decide)
                                  obtain ⟨hv3206, hg3207⟩ := hd3202 8 (by decide)
                                  obtain ⟨hv3208, hg3209⟩ := hd3202 9 (by decide)
                                  refine ⟨_, some (), rfl, fun _ => ?_⟩
                                  refine s_env (env' := [(63, .bool (!(decide (y274.1 = (⟨s19, s246⟩ : End))))), (64, .int .i64 y256.2.1), (65, .int .i64 y274.2.1)]) (by exact ⟨congrArg some hv3204, congrArg some hv3206, congrArg some hv3208, trivial⟩) ?_
                                  refine s_want rfl rfl h746 ?_
                                  refine o_ne rfl rfl ?_
                                  exact s_pred fun _ _ _ hE hI => ⟨(.bool (y256.2.1 != y274.2.1)), [], _, fun _ e => (by cases e; exact hE _ _ rfl), .refl _, by exact hI, ⟨rfl, rfl⟩⟩
                                refine dcons ?_ ?_
                                · intro _ _ H3212 fr3213 hle3214 hd3215
                                  obtain ⟨hv3217, hg3218⟩ := hd3215 7 (by decide)
                                  obtain ⟨hv3219, hg3220⟩ := hd3215 10 (by decide)
                                  refine ⟨_, some (), rfl, fun _ => ?_⟩
                                  refine s_env (env' := [(63, .bool (!(decide (y274.1 = (⟨s19, s246⟩ : End))))), (66, .bool (y256.2.1 != y274.2.1))]) (by exact ⟨congrArg some hv3217, congrArg some hv3219, trivial⟩) ?_
                                  refine o_pickF rfl h746 rfl ?_
                                  exact s_pred fun _ _ _ hE hI => ⟨(.bool (y256.2.1 != y274.2.1)), [], _, fun _ e => (by cases e; exact hE _ _ rfl), .refl _, by exact hI, ⟨rfl, rfl⟩⟩
                                refine dcons ?_ ?_
                                · intro _ _ H3223 fr3224 hle3225 hd3226
                                  obtain ⟨hv3228, hg3229⟩ := hd3226 11 (by decide)
                                  refine ⟨_, some (), rfl, fun _ => ?_⟩
                                  refine s_env (env' := [(67, .bool (y256.2.1 != y274.2.1))]) (by exact ⟨congrArg some hv3228, trivial⟩) ?_
                                  refine o_mov rfl ?_
                                  exact s_pred fun _ _ _ hE hI => ⟨(.bool (y256.2.1 != y274.2.1)), [], _, fun _ e => (by cases e; exact hE _ _ rfl), .refl _, by exact hI, ⟨rfl, rfl⟩⟩
                                refine dcons ?_ ?_
                                · intro _ _ H3232 fr3233 hle3234 hd3235
                                  obtain ⟨hv3237, hg3238⟩ := hd3235 12 (by decide)
                                  refine ⟨_, some (), rfl, fun _ => ?_⟩
                                  refine s_env (env' := [(68, .bool (y256.2.1 != y274.2.1)), (9, .int .i64 y256.2.1)]) (by exact ⟨congrArg some hv3237, rfl, trivial⟩) ?_
                                  refine s_want rfl rfl h1207 ?_
                                  refine o_mov rfl ?_
                                  exact s_pred fun _ _ _ hE hI => ⟨(.int .i64 y256.2.1), [], _, fun _ e => (by cases e; exact hE _ _ rfl), .refl _, by exact hI, ⟨rfl, rfl⟩⟩
                                refine dcons ?_ ?_
                                · intro _ _ H3241 fr3242 hle3243 hd3244
                                  obtain ⟨hv3246, hg3247⟩ := hd3244 12 (by decide)
                                  obtain ⟨hv3248, hg3249⟩ := hd3244 13 (by decide)
                                  refine ⟨_, some (), rfl, fun _ => ?_⟩
                                  refine s_env (env' := [(68, .bool (y256.2.1 != y274.2.1)), (69, .int .i64 y256.2.1)]) (by exact ⟨congrArg some hv3246, congrArg some hv3248, trivial⟩) ?_
                                  refine s_want rfl rfl h1207 ?_
                                  refine o_lt rfl rfl ?_
                                  exact s_pred fun _ _ _ hE hI => ⟨(.bool (decide (y256.2.1 < 0))), [], _, fun _ e => (by cases e; exact hE _ _ rfl), .refl _, by exact hI, ⟨rfl, rfl⟩⟩
                                refine dcons ?_ ?_
                                · intro _ _ H3252 fr3253 hle3254 hd3255
                                  obtain ⟨hv3257, hg3258⟩ := hd3255 12 (by decide)
                                  obtain ⟨hv3259, hg3260⟩ := hd3255 14 (by decide)
                                  refine ⟨_, some (), rfl, fun _ => ?_⟩
                                  refine s_env (env' := [(68, .bool (y256.2.1 != y274.2.1)), (70, .bool (decide (y256.2.1 < 0)))]) (by exact ⟨congrArg some hv3257, congrArg some hv3259, trivial⟩) ?_
                                  refine o_pickF rfl h1207 rfl ?_
                                  exact s_pred fun _ _ _ hE hI => ⟨(.bool (decide (y256.2.1 < 0))), [], _, fun _ e => (by cases e; exact hE _ _ rfl), .refl _, by exact hI, ⟨rfl, rfl⟩⟩
                                refine dcons ?_ ?_
                                · intro _ _ H3263 fr3264 hle3265 hd3266
                                  obtain ⟨hv3268, hg3269⟩ := hd3266 15 (by decide)
                                  refine ⟨_, some (), rfl, fun _ => ?_⟩
                                  refine s_env (env' := [(71, .bool (decide (y256.2.1 < 0)))]) (by exact ⟨congrArg some hv3268, trivial⟩) ?_
                                  refine o_mov rfl ?_
                                  exact s_pred fun _ _ _ hE hI => ⟨(.bool (decide (y256.2.1 < 0))), [], _, fun _ e => (by cases e; exact hE _ _ rfl), .refl _, by exact hI, ⟨rfl, rfl⟩⟩
                                refine dcons ?_ ?_
                                · intro _ _ H3272 fr3273 hle3274 hd3275
                                  obtain ⟨hv3277, hg3278⟩ := hd3275 16 (by decide)
                                  refine ⟨_, some (), rfl, fun _ => ?_⟩
                                  refine s_env (env' := [(72, .bool (decide (y256.2.1 < 0))), (9, .int .i64 y256.2.1)]) (by exact ⟨congrArg some hv3277, rfl, trivial⟩) ?_
                                  refine s_want rfl rfl h1668 ?_
                                  refine o_mov rfl ?_
                                  exact s_pred fun _ _ _ hE hI => ⟨(.int .i64 y256.2.1), [], _, fun _ e => (by cases e; exact hE _ _ rfl), .refl _, by exact hI, ⟨rfl, rfl⟩⟩
                                refine dcons ?_ ?_
                                · intro _ _ H3281 fr3282 hle3283 hd3284
                                  have hs3286 := RSl.mono hle3283 hs268
                                  obtain ⟨hv3287, hg3288⟩ := hd3284 16 (by decide)
                                  refine ⟨_, some (), rfl, fun _ => ?_⟩
                                  refine s_env (env' := [(72, .bool (decide (y256.2.1 < 0))), (2, .pointer (some ⟨b1, 0, none⟩))]) (by exact ⟨congrArg some hv3287, rfl, trivial⟩) ?_
                                  refine s_want rfl rfl h1668 ?_
                                  refine o_fa rfl ?_
                                  exact s_pred fun _ _ _ hE hI => ⟨(.pointer (some ⟨b1, 1, none⟩)), [], _, fun _ e => (by cases e; exact hE _ _ rfl), .refl _, by exact hI, ⟨rfl, rfl⟩⟩
                                refine dcons ?_ ?_
                                · intro _ _ H3291 fr3292 hle3293 hd3294
                                  have hs3296 := RSl.mono hle3293 hs268
                                  obtain ⟨hv3297, hg3298⟩ := hd3294 16 (by decide)
                                  obtain ⟨hv3299, hg3300⟩ := hd3294 18 (by decide)
                                  refine ⟨_, some (), rfl, fun _ => ?_⟩
                                  refine s_env (env' := [(72, .bool (decide (y256.2.1 < 0))), (74, .pointer (some ⟨b1, 1, none⟩))]) (by exact ⟨congrArg some hv3297, congrArg some hv3299, trivial⟩) ?_
                                  refine s_want rfl rfl h1668 ?_
                                  refine o_ld 0 rfl rfl rfl ?_
                                  exact s_pred fun _ _ _ hE hI => ⟨(.slice a8 y6.Links.length c9), [], _, fun _ e => (by cases e; exact hE _ _ rfl), .refl _, by exact hI, ⟨rfl, rfl, hs3296⟩⟩
                                refine dcons ?_ ?_
                                · intro _ _ H3303 fr3304 hle3305 hd3306
                                  obtain ⟨hv3308, hg3309⟩ := hd3306 16 (by decide)
                                  obtain ⟨hv3310, hg3311, hp3312⟩ := hd3306 19 (by decide)
                                  refine ⟨_, some (), rfl, fun _ => ?_⟩
                                  refine s_env (env' := [(72, .bool (decide (y256.2.1 < 0))), (75, .slice a8 y6.Links.length c9)]) (by exact ⟨congrArg some hv3308, congrArg some hv3310, trivial⟩) ?_
                                  refine s_want rfl rfl h1668 ?_
                                  refine o_lenS rfl ?_
                                  exact s_pred fun _ _ _ hE hI => ⟨(.int .i64 (y6.Links.length : Int)), [], _, fun _ e => (by cases e; exact hE _ _ rfl), .refl _, by exact hI, ⟨rfl, rfl⟩⟩
                                refine dcons ?_ ?_
                                · intro _ _ H3315 fr3316 hle3317 hd3318
                                  obtain ⟨hv3320, hg3321⟩ := hd3318 16 (by decide)
                                  obtain ⟨hv3322, hg3323⟩ := hd3318 17 (by decide)
                                  obtain ⟨hv3324, hg3325⟩ := hd3318 20 (by decide)
                                  refine ⟨_, some (), rfl, fun _ => ?_⟩
                                  refine s_env (env' := [(72, .bool (decide (y256.2.1 < 0))), (73, .int .i64 y256.2.1), (76, .int .i64 (y6.Links.length : Int))]) (by exact ⟨congrArg some hv3320, congrArg some hv3322, congrArg some hv3324, trivial⟩) ?_
                                  refine s_want rfl rfl h1668 ?_
                                  refine o_ge rfl rfl ?_
                                  exact s_pred fun _ _ _ hE hI => ⟨(.bool (decide (y256.2.1 ≥ (y6.Links.length : Int)))), [], _, fun _ e => (by cases e; exact hE _ _ rfl), .refl _, by exact hI, ⟨rfl, rfl⟩⟩
                                refine dcons ?_ ?_
                                · intro _ _ H3328 fr3329 hle3330 hd3331
                                  obtain ⟨hv3333, hg3334⟩ := hd3331 16 (by decide)
                                  obtain ⟨hv3335, hg3336⟩ := hd3331 21 (by decide)
                                  refine ⟨_, some (), rfl, fun _ => ?_⟩
                                  refine s_env (env' := [(72, .bool (decide (y256.2.1 < 0))), (77, .bool (decide (y256.2.1 ≥ (y6.Links.length : Int))))]) (by exact ⟨congrArg some hv3333, congrArg some hv3335, trivial⟩) ?_
                                  refine o_pickF rfl h1668 rfl ?_
                                  exact s_pred fun _ _ _ hE hI => ⟨(.bool (decide (y256.2.1 ≥ (y6.Links.length : Int)))), [], _, fun _ e => (by cases e; exact hE _ _ rfl), .refl _, by exact hI, ⟨rfl, rfl⟩⟩
                                refine dcons ?_ ?_
                                · intro _ _ H3339 fr3340 hle3341 hd3342
                                  obtain ⟨hv3344, hg3345⟩ := hd3342 22 (by decide)
                                  refine ⟨_, some (), rfl, fun _ => ?_⟩
                                  refine s_env (env' := [(78, .bool (decide (y256.2.1 ≥ (y6.Links.length : Int))))]) (by exact ⟨congrArg some hv3344, trivial⟩) ?_
                                  refine o_mov rfl ?_
                                  exact s_pred fun _ _ _ hE hI => ⟨(.bool (decide (y256.2.1 ≥ (y6.Links.length : Int)))), [], _, fun _ e => (by cases e; exact hE _ _ rfl), .refl _, by exact hI, ⟨rfl, rfl⟩⟩
                                refine dcons ?_ ?_
                                · intro _ _ H3348 fr3349 hle3350 hd3351
                                  have hs3353 := RSl.mono hle3350 hs268
                                  obtain ⟨hv3354, hg3355⟩ := hd3351 23 (by decide)
                                  refine ⟨_, some (), rfl, fun _ => ?_⟩
                                  refine s_env (env' := [(79, .bool (decide (y256.2.1 ≥ (y6.Links.length : Int)))), (2, .pointer (some ⟨b1, 0, none⟩))]) (by exact ⟨congrArg some hv3354, rfl, trivial⟩) ?_
                                  refine s_want rfl rfl h2129 ?_
                                  refine o_fa rfl ?_
                                  exact s_pred fun _ _ _ hE hI => ⟨(.pointer (some ⟨b1, 1, none⟩)), [], _, fun _ e => (by cases e; exact hE _ _ rfl), .refl _, by exact hI, ⟨rfl, rfl⟩⟩
                                refine dcons ?_ ?_
                                · intro _ _ H3358 fr3359 hle3360 hd3361
                                  have hs3363 := RSl.mono hle3360 hs268
                                  obtain ⟨hv3364, hg3365⟩ := hd3361 23 (by decide)
                                  obtain ⟨hv3366, hg3367⟩ := hd3361 24 (by decide)
                                  refine ⟨_, some (), rfl, fun _ => ?_⟩
                                  refine s_env (env' := [(79, .bool (decide (y256.2.1 ≥ (y6.Links.length : Int)))), (80, .pointer (some ⟨b1, 1, none⟩))]) (by exact ⟨congrArg some hv3364, congrArg some hv3366, trivial⟩) ?_
                                  refine s_want rfl rfl h2129 ?_
                                  refine o_ld 0 rfl rfl rfl ?_
                                  exact s_pred fun _ _ _ hE hI => ⟨(.slice a8 y6.Links.length c9), [], _, fun _ e => (by cases e; exact hE _ _ rfl), .refl _, by exact hI, ⟨rfl, rfl, hs3363⟩⟩
                                refine dcons ?_ ?_
                                · intro _ _ H3370 fr3371 hle3372 hd3373
                                  obtain ⟨hv3375, hg3376⟩ := hd3373 23 (by decide)
                                  refine ⟨_, some (), rfl, fun _ => ?_⟩
                                  refine s_env (env' := [(79, .bool (decide (y256.2.1 ≥ (y6.Links.length : Int)))), (9, .int .i64 y256.2.1)]) (by exact ⟨congrArg some hv3375, rfl, trivial⟩) ?_
                                  refine s_want rfl rfl h2129 ?_
                                  refine o_mov rfl ?_
                                  exact s_pred fun _ _ _ hE hI => ⟨(.int .i64 y256.2.1), [], _, fun _ e => (by cases e; exact hE _ _ rfl), .refl _, by exact hI, ⟨rfl, rfl⟩⟩
                                refine dcons ?_ ?_
                                · intro _ _ H3379 fr3380 hle3381 hd3382
                                  obtain ⟨hv3384, hg3385⟩ := hd3382 23 (by decide)
                                  obtain ⟨hv3386, hg3387, hp3388⟩ := hd3382 25 (by decide)
                                  obtain ⟨hv3389, hg3390⟩ := hd3382 26 (by decide)
                                  refine ⟨_, (rd y6.Links y256.2.1).bind some, by rw [h2597]; rfl, fun _ => ?_⟩
                                  refine s_env (env' := [(79, .bool (decide (y256.2.1 ≥ (y6.Links.length : Int)))), (81, .slice a8 y6.Links.length c9), (82, .int .i64 y256.2.1)]) (by exact ⟨congrArg some hv3384, congrArg some hv3386, congrArg some hv3389, trivial⟩) ?_
                                  refine s_want rfl rfl h2129 ?_
                                  refine o_ixf hp3388 rfl rfl fun y2592 bk3392 of3393 h3391 hc3394 => ?_
                                  obtain rfl := Option.some.inj (h2597.symm.trans h3391)
                                  exact s_pred fun _ _ _ hE hI => ⟨(.pointer (some ⟨bk3392, of3393, none⟩)), [], _, fun _ e => (by cases e; exact hE _ _ rfl), .refl _, by exact hI, ⟨bk3392, of3393, rfl, rfl, hc3394⟩⟩
                                refine dcons ?_ ?_
                                · intro _ _ H3397 fr3398 hle3399 hd3400
                                  obtain ⟨hv3402, hg3403⟩ := hd3400 23 (by decide)
                                  obtain ⟨bk3404, of3405, hv3406, hg3407, hp3408⟩ := hd3400 27 (by decide)
                                  refine ⟨_, some (), rfl, fun _ => ?_⟩
                                  refine s_env (env' := [(79, .bool (decide (y256.2.1 ≥ (y6.Links.length : Int)))), (83, .pointer (some ⟨bk3404, of3405, none⟩))]) (by exact ⟨congrArg some hv3402, congrArg some hv3406, trivial⟩) ?_
                                  refine s_want rfl rfl h2129 ?_
                                  refine o_fa rfl ?_
                                  exact s_pred fun _ _ _ hE hI => ⟨(.pointer (some ⟨bk3404, of3405, none⟩)), [], _, fun _ e => (by cases e; exact hE _ _ rfl), .refl _, by exact hI, ⟨bk3404, of3405, rfl, rfl, hp3408⟩⟩
                                refine dcons ?_ ?_
                                · intro _ _ H3411 fr3412 hle3413 hd3414
                                  obtain ⟨hv3416, hg3417⟩ := hd3414 23 (by decide)
                                  obtain ⟨bk3418, of3419, hv3420, hg3421, hp3422⟩ := hd3414 28 (by decide)
                                  refine ⟨_, some (), rfl, fun _ => ?_⟩
                                  refine s_env (env' := [(79, .bool (decide (y256.2.1 ≥ (y6.Links.length : Int)))), (84, .pointer (some ⟨bk3418, of3419, none⟩))]) (by exact ⟨congrArg some hv3416, congrArg some hv3420, trivial⟩) ?_
                                  refine s_want rfl rfl h2129 ?_
                                  refine o_ldH 0 hp3422 rfl rfl rfl ?_
                                  exact s_pred fun _ _ _ hE hI => ⟨(.agg #[.int .i64 y2592.A.Switch, .int .i64 y2592.A.Port]), [], _, fun _ e => (by cases e; exact hE _ _ rfl), .refl _, by exact hI, ⟨rfl, rfl⟩⟩
                                refine dcons ?_ ?_
                                · intro _ _ H3425 fr3426 hle3427 hd3428
                                  obtain ⟨hv3430, hg3431⟩ := hd3428 23 (by decide)
                                  refine ⟨_, some (), rfl, fun _ => ?_⟩
                                  refine s_env (env' := [(79, .bool (decide (y256.2.1 ≥ (y6.Links.length : Int)))), (7, .pointer (some ⟨b254, 0, none⟩))]) (by exact ⟨congrArg some hv3430, rfl, trivial⟩) ?_
                                  refine s_want rfl rfl h2129 ?_
                                  refine o_ld 1 rfl rfl rfl ?_
                                  exact s_pred fun _ _ _ hE hI => ⟨(.agg #[.int .i64 s19, .int .i64 s246]), [], _, fun _ e => (by cases e; exact hE _ _ rfl), .refl _, by exact hI, ⟨rfl, rfl⟩⟩
                                refine dcons ?_ ?_
                                · intro _ _ H3434 fr3435 hle3436 hd3437
                                  obtain ⟨hv3439, hg3440⟩ := hd3437 23 (by decide)
                                  obtain ⟨hv3441, hg3442⟩ := hd3437 29 (by decide)
                                  obtain ⟨hv3443, hg3444⟩ := hd3437 30 (by decide)
                                  refine ⟨_, some (), rfl, fun _ => ?_⟩
                                  refine s_env (env' := [(79, .bool (decide (y256.2.1 ≥ (y6.Links.length : Int)))), (85, .agg #[.int .i64 y2592.A.Switch, .int .i64 y2592.A.Port]), (86, .agg #[.int .i64 s19, .int .i64 s246])]) (by exact ⟨congrArg some hv3439, congrArg some hv3441, congrArg some hv3443, trivial⟩) ?_
                                  refine s_want rfl rfl h2129 ?_
                                  refine o_neS y2592.A (⟨s19, s246⟩ : End) rfl rfl ?_
                                  exact s_pred fun _ _ _ hE hI => ⟨(.bool (!(decide (y2592.A = (⟨s19, s246⟩ : End))))), [], _, fun _ e => (by cases e; exact hE _ _ rfl), .refl _, by exact hI, ⟨rfl, rfl⟩⟩
                                refine dcons ?_ ?_
                                · intro _ _ H3447 fr3448 hle3449 hd3450
                                  obtain ⟨hv3452, hg3453⟩ := hd3450 23 (by decide)
                                  obtain ⟨hv3454, hg3455⟩ := hd3450 31 (by decide)
                                  refine ⟨_, some (), rfl, fun _ => ?_⟩
                                  refine s_env (env' := [(79, .bool (decide (y256.2.1 ≥ (y6.Links.length : Int)))), (87, .bool (!(decide (y2592.A = (⟨s19, s246⟩ : End)))))]) (by exact ⟨congrArg some hv3452, congrArg some hv3454, trivial⟩) ?_
                                  refine s_want rfl rfl h2129 ?_
                                  refine o_mov rfl ?_
                                  exact s_pred fun _ _ _ hE hI => ⟨(.bool (!(decide (y2592.A = (⟨s19, s246⟩ : End))))), [], _, fun _ e => (by cases e; exact hE _ _ rfl), .refl _, by exact hI, ⟨rfl, rfl⟩⟩
                                refine dcons ?_ ?_
                                · intro _ _ H3458 fr3459 hle3460 hd3461
                                  have hs3463 := RSl.mono hle3460 hs268
                                  obtain ⟨hv3464, hg3465⟩ := hd3461 32 (by decide)
                                  refine ⟨_, some (), rfl, fun _ => ?_⟩
                                  refine s_env (env' := [(88, .bool (!(decide (y2592.A = (⟨s19, s246⟩ : End))))), (2, .pointer (some ⟨b1, 0, none⟩))]) (by exact ⟨congrArg some hv3464, rfl, trivial⟩) ?_
                                  refine s_unwant rfl rfl h2598 ?_
                                  exact s_pred fun _ _ _ hE hI => ⟨undef, [], _, fun _ e => (by cases e; exact hE _ _ rfl), .refl _, by exact hI, ⟨rfl, rfl⟩⟩
                                refine dcons ?_ ?_
                                · intro _ _ H3468 fr3469 hle3470 hd3471
                                  obtain ⟨hv3473, hg3474⟩ := hd3471 32 (by decide)
                                  obtain ⟨hv3475, hg3476⟩ := hd3471 33 (by decide)
                                  refine ⟨_, some (), rfl, fun _ => ?_⟩
                                  refine s_env (env' := [(88, .bool (!(decide (y2592.A = (⟨s19, s246⟩ : End))))), (89, undef)]) (by exact ⟨congrArg some hv3473, congrArg some hv3475, trivial⟩) ?_
                                  refine s_unwant rfl rfl h2598 ?_
                                  exact s_pred fun _ _ _ hE hI => ⟨undef, [], _, fun _ e => (by cases e; exact hE _ _ rfl), .refl _, by exact hI, ⟨rfl, rfl⟩⟩
                                refine dcons ?_ ?_
                                · intro _ _ H3479 fr3480 hle3481 hd3482
                                  obtain ⟨hv3484, hg3485⟩ := hd3482 32 (by decide)
                                  refine ⟨_, some (), rfl, fun _ => ?_⟩
                                  refine s_env (env' := [(88, .bool (!(decide (y2592.A = (⟨s19, s246⟩ : End))))), (9, .int .i64 y256.2.1)]) (by exact ⟨congrArg some hv3484, rfl, trivial⟩) ?_
                                  refine s_unwant rfl rfl h2598 ?_
                                  exact s_pred fun _ _ _ hE hI => ⟨undef, [], _, fun _ e => (by cases e; exact hE _ _ rfl), .refl _, by exact hI, ⟨rfl, rfl⟩⟩
                                refine dcons ?_ ?_
                                · intro _ _ H3488 fr3489 hle3490 hd3491
                                  obtain ⟨hv3493, hg3494⟩ := hd3491 32 (by decide)
                                  obtain ⟨hv3495, hg3496⟩ := hd3491 34 (by decide)
                                  obtain ⟨hv3497, hg3498⟩ := hd3491 35 (by decide)
                                  refine ⟨_, some (), rfl, fun _ => ?_⟩
                                  refine s_env (env' := [(88, .bool (!(decide (y2592.A = (⟨s19, s246⟩ : End))))), (90, undef), (91, undef)]) (by exact ⟨congrArg some hv3493, congrArg some hv3495, congrArg some hv3497, trivial⟩) ?_
                                  refine s_unwant rfl rfl h2598 ?_
                                  exact s_pred fun _ _ _ hE hI => ⟨undef, [], _, fun _ e => (by cases e; exact hE _ _ rfl), .refl _, by exact hI, ⟨rfl, rfl⟩⟩
                                refine dcons ?_ ?_
                                · intro _ _ H3501 fr3502 hle3503 hd3504
                                  obtain ⟨hv3506, hg3507⟩ := hd3504 32 (by decide)
                                  obtain ⟨hv3508, hg3509⟩ := hd3504 36 (by decide)
                                  refine ⟨_, some (), rfl, fun _ => ?_⟩
                                  refine s_env (env' := [(88, .bool (!(decide (y2592.A = (⟨s19, s246⟩ : End))))), (92, undef)]) (by exact ⟨congrArg some hv3506, congrArg some hv3508, trivial⟩) ?_
                                  refine s_unwant rfl rfl h2598 ?_
                                  exact s_pred fun _ _ _ hE hI => ⟨undef, [], _, fun _ e => (by cases e; exact hE _ _ rfl), .refl _, by exact hI, ⟨rfl, rfl⟩⟩
                                refine dcons ?_ ?_
                                · intro _ _ H3512 fr3513 hle3514 hd3515
                                  obtain ⟨hv3517, hg3518⟩ := hd3515 32 (by decide)
                                  obtain ⟨hv3519, hg3520⟩ := hd3515 37 (by decide)
                                  refine ⟨_, some (), rfl, fun _ => ?_⟩
                                  refine s_env (env' := [(88, .bool (!(decide (y2592.A = (⟨s19, s246⟩ : End))))), (93, undef)]) (by exact ⟨congrArg some hv3517, congrArg some hv3519, trivial⟩) ?_
                                  refine s_unwant rfl rfl h2598 ?_
                                  exact s_pred fun _ _ _ hE hI => ⟨undef, [], _, fun _ e => (by cases e; exact hE _ _ rfl), .refl _, by exact hI, ⟨rfl, rfl⟩⟩
                                refine dcons ?_ ?_
                                · intro _ _ H3523 fr3524 hle3525 hd3526
                                  obtain ⟨hv3528, hg3529⟩ := hd3526 32 (by decide)
                                  refine ⟨_, some (), rfl, fun _ => ?_⟩
                                  refine s_env (env' := [(88, .bool (!(decide (y2592.A = (⟨s19, s246⟩ : End))))), (7, .pointer (some ⟨b254, 0, none⟩))]) (by exact ⟨congrArg some hv3528, rfl, trivial⟩) ?_
                                  refine s_unwant rfl rfl h2598 ?_
                                  exact s_pred fun _ _ _ hE hI => ⟨undef, [], _, fun _ e => (by cases e; exact hE _ _ rfl), .refl _, by exact hI, ⟨rfl, rfl⟩⟩
                                refine dcons ?_ ?_
                                · intro _ _ H3532 fr3533 hle3534 hd3535
                                  obtain ⟨hv3537, hg3538⟩ := hd3535 32 (by decide)
                                  obtain ⟨hv3539, hg3540⟩ := hd3535 38 (by decide)
                                  obtain ⟨hv3541, hg3542⟩ := hd3535 39 (by decide)
                                  refine ⟨_, some (), rfl, fun _ => ?_⟩
                                  refine s_env (env' := [(88, .bool (!(decide (y2592.A = (⟨s19, s246⟩ : End))))), (94, undef), (95, undef)]) (by exact ⟨congrArg some hv3537, congrArg some hv3539, congrArg some hv3541, trivial⟩) ?_
                                  refine s_unwant rfl rfl h2598 ?_
                                  exact s_pred fun _ _ _ hE hI => ⟨undef, [], _, fun _ e => (by cases e; exact hE _ _ rfl), .refl _, by exact hI, ⟨rfl, rfl⟩⟩
                                refine dcons ?_ ?_
                                · intro _ _ H3545 fr3546 hle3547 hd3548
                                  obtain ⟨hv3550, hg3551⟩ := hd3548 23 (by decide)
                                  obtain ⟨hv3552, hg3553⟩ := hd3548 32 (by decide)
                                  obtain ⟨hv3554, hg3555⟩ := hd3548 40 (by decide)
                                  refine ⟨_, some (), rfl, fun _ => ?_⟩
                                  refine s_env (env' := [(79, .bool (decide (y256.2.1 ≥ (y6.Links.length : Int)))), (88, .bool (!(decide (y2592.A = (⟨s19, s246⟩ : End))))), (96, undef)]) (by exact ⟨congrArg some hv3550, congrArg some hv3552, congrArg some hv3554, trivial⟩) ?_
                                  refine s_want rfl rfl h2129 ?_
                                  refine o_pickF rfl h2598 rfl ?_
                                  exact s_pred fun _ _ _ hE hI => ⟨(.bool false), [], _, fun _ e => (by cases e; exact hE _ _ rfl), .refl _, by exact hI, ⟨rfl, rfl⟩⟩
                                refine dcons ?_ ?_
                                · intro _ _ H3558 fr3559 hle3560 hd3561
                                  obtain ⟨hv3563, hg3564⟩ := hd3561 23 (by decide)
                                  obtain ⟨hv3565, hg3566⟩ := hd3561 41 (by decide)
                                  refine ⟨_, some (), rfl, fun _ => ?_⟩
                                  refine s_env (env' := [(79, .bool (decide (y256.2.1 ≥ (y6.Links.length : Int)))), (97, .bool false)]) (by exact ⟨congrArg some hv3563, congrArg some hv3565, trivial⟩) ?_
                                  refine o_pickF rfl h2129 rfl ?_
                                  exact s_pred fun _ _ _ hE hI => ⟨(.bool false), [], _, fun _ e => (by cases e; exact hE _ _ rfl), .refl _, by exact hI, ⟨rfl, rfl⟩⟩
                                exact dnil
                              · intro V3569 G3570 H3567 hle3568 hF3571
                                have hs3572 := RSl.mono hle3568 hs267
                                have hs3573 := RSl.mono hle3568 hs268
                                have hA3574 := All2.mono (fun _ _ => GoT.mono hle3568) hA269
                                obtain ⟨hv3575, hg3576⟩ := hF3571 42 (show 42 < 43 by decide)
                                refine s_env (env' := [(98, .bool false), (1, .slice a1_0 x1.length c1_0), (2, .pointer (some ⟨b1, 0, none⟩)), (5, .int .i64 s19), (6, .int .i64 s246), (26, .int .i64 s246), (27, .bool (decide (s246 ≤ 4))), (30, .int .i64 s19), (31, .int .i64 s246), (32, .agg #[.int .i64 s19, .int .i64 s246]), (7, .pointer (some ⟨b254, 0, none⟩)), (34, .agg #[.int .i64 y6.Switches, .slice a8 y6.Links.length c9]), (35, .agg #[.int .i64 s19, .int .i64 s246]), (37, .agg #[.int .i64 y256.1.Switch, .int .i64 y256.1.Port]), (38, .int .i64 y256.2.1), (39, .bool y256.2.2), (8, .pointer (some ⟨b258, 0, none⟩)), (9, .int .i64 y256.2.1), (10, .bool y256.2.2), (40, .bool y256.2.2), (41, .agg #[.int .i64 y6.Switches, .slice a8 y6.Links.length c9]), (42, .int .i64 s19), (43, .slice a262 y260.length c263), (44, .int .i64 s246), (45, .bool y270), (46, .bool (y256.2.2 != y270)), (47, .bool y256.2.2), (48, .bool (!y256.2.2)), (50, .agg #[.int .i64 y6.Switches, .slice a8 y6.Links.length c9]), (51, .agg #[.int .i64 y256.1.Switch, .int .i64 y256.1.Port]), (53, .agg #[.int .i64 y274.1.Switch, .int .i64 y274.1.Port]), (54, .int .i64 y274.2.1), (55, .bool y274.2.2), (11, .pointer (some ⟨b276, 0, none⟩)), (12, .int .i64 y274.2.1), (13, .bool y274.2.2)]) (by exact ⟨congrArg some hv3575, rfl, rfl, rfl, rfl, rfl, rfl, rfl, rfl, rfl, rfl, rfl, rfl, rfl, rfl, rfl, rfl, rfl, rfl, rfl, rfl, rfl, rfl, rfl, rfl, rfl, rfl, rfl, rfl, rfl, rfl, rfl, rfl, rfl, rfl, rfl, trivial⟩) ?_
                                refine s_own (List.sublist_append_left _ _) ?_
                                refine s_done ?_
                                exact s_env (by exact ⟨rfl, rfl, rfl, rfl, rfl, trivial⟩) (s_own (by exact (.cons_cons _ (.cons _ (.cons _ (.cons _ (.cons _ .slnil)))))) (J284 false _ _ _ ⟨rfl, rfl, hle3568⟩))
          · refine s_exit rfl ?_
            exact s_env (by exact ⟨rfl, rfl, rfl, trivial⟩) (s_own (by exact (.cons_cons _ .slnil)) (J245 () _ _ _ ⟨rfl, rfl, hle250⟩))
      · refine s_exit rfl ?_
        exact s_env (by exact trivial) (s_own (by exact (.cons _ .slnil)) (J18 () _ _ _ ⟨rfl, rfl, hle23⟩))
end Go.Cat.G3
