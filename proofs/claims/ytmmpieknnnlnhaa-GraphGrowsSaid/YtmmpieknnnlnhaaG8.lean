/- A text of the proof of the seat's laws: a step logic over the machine, or pure functions that the Go functions come to. No condition. -/
import Derived.Test.YtmmpieknnnlnhaaG6
set_option linter.unusedVariables false
set_option linter.unusedSimpArgs false
set_option linter.unnecessarySimpa false

namespace Go.Cat.G3
open Go Go.Cat Go.Proofs
set_option linter.unusedVariables false
set_option linter.unusedSimpArgs false

instance : TFun Try.prog 21 := ⟨_, (by kernel_rfl : Try.prog.funcs[21]? = some Try.f21), by decide, rfl⟩
instance : TFun Try.prog 22 := ⟨_, (by kernel_rfl : Try.prog.funcs[22]? = some Try.f22), by decide, rfl⟩
instance : TFun Try.prog 23 := ⟨_, (by kernel_rfl : Try.prog.funcs[23]? = some Try.f23), by decide, rfl⟩

/-! catenary/catenarylaw12.GraphGrows -/
def catenarylaw12_GraphGrows_l3 (k : Nat) (x1 : (List Bool)) : Nat → (List Bool) × Int → Option ((List Bool))
  | 0, _ => none
  | q1326 + 1, s1321 =>
    if (decide (s1321.2 < (s1321.1.length : Int))) = true then
      if (decide (s1321.2 ≥ (x1.length : Int))) = true then
        (rd s1321.1 s1321.2).bind fun y1334 =>
        catenarylaw12_GraphGrows_l3 k x1 q1326 ((s1321.1.set (s1321.2 : Int).toNat true), w64 (s1321.2 + 1))
      else
        (rd x1 s1321.2).bind fun y1343 =>
        (rd s1321.1 s1321.2).bind fun y1348 =>
        catenarylaw12_GraphGrows_l3 k x1 q1326 ((s1321.1.set (s1321.2 : Int).toNat y1343), w64 (s1321.2 + 1))
    else
      some s1321.1
def catenarylaw12_GraphGrows_l2 (k : Nat) (y1128 : (List Int)) (y1135 : (List Int)) : Nat → Int → Option (LX (LX (Bool) (Unit)) (Unit))
  | 0, _ => none
  | q1289 + 1, s1288 =>
    if (decide (s1288 < (y1128.length : Int))) = true then
      (rd y1128 s1288).bind fun y1299 =>
      (catenarylaw12_in k y1135 y1299).bind fun y1304 =>
      if (!y1304) = true then
        some (.ret (.ret false))
      else
        catenarylaw12_GraphGrows_l2 k y1128 y1135 q1289 (w64 (s1288 + 1))
    else
      some (.out ())
def catenarylaw12_GraphGrows_l1 (k : Nat) (y3 : Graph) (p16 : (List Bool)) (p31 : (List Bool)) : Nat → Int → Option (LX (Bool) (Unit))
  | 0, _ => none
  | q1120 + 1, s1119 =>
    if (decide (s1119 ≤ y3.Switches)) = true then
      (graph_Reach k y3 (([] : List Bool) ++ p16) s1119).bind fun y1128 =>
      (graph_Reach k y3 p31 s1119).bind fun y1135 =>
      (catenarylaw12_GraphGrows_l2 k y1128 y1135 k 0).bind (LX.go fun p1281 =>
      catenarylaw12_GraphGrows_l1 k y3 p16 p31 q1120 (w64 (s1119 + 1)))
    else
      some (.out ())
def catenarylaw12_GraphGrows_l0 (k : Nat) (x1 : (List Bool)) (y3 : Graph) (p16 : (List Bool)) (p31 : (List Bool)) : Nat → (List Bool) × Int → Option (LX (Bool) (Unit))
  | 0, _ => none
  | q417 + 1, s412 =>
    if (decide (s412.2 < (s412.1.length : Int))) = true then
      ((rd s412.1 s412.2).bind fun y435 =>
        if (y435) = true then
          (rd y3.Links s412.2).bind fun y445 =>
          (graph_Reach k y3 s412.1 y445.A.Switch).bind fun y451 =>
          (rd y3.Links s412.2).bind fun y458 =>
          (catenarylaw12_in k y451 y458.B.Switch).bind fun y464 =>
          some (s412.1, !y464)
        else
          some (s412.1, false)).bind fun p424 =>
      if (p424.2) = true then
        some (.ret false)
      else
        catenarylaw12_GraphGrows_l0 k x1 y3 p16 p31 q417 (p424.1, w64 (s412.2 + 1))
    else
      some (.out ())
def catenarylaw12_GraphGrows (k : Nat) (x0 : Graph) (x1 : (List Bool)) (x2 : Int) : Option Bool :=
  (catenarylaw12_made k x0).bind fun y3 =>
  (mks (y3.Links.length : Int) (false : Bool)).bind fun _ =>
  (catenarylaw12_GraphGrows_l3 k x1 k ((List.replicate ((y3.Links.length : Int) : Int).toNat (false : Bool)), 0)).bind fun p16 =>
  (app ([] : List Bool) p16).bind fun _ =>
  (if (decide ((p16.length : Int) > 0)) = true then
      (catenaryref00_Bring k x2 (p16.length : Int)).bind fun y1309 =>
      (rd p16 y1309).bind fun y1311 =>
      some (p16.set (y1309 : Int).toNat true)
    else
      some p16).bind fun p31 =>
  (catenarylaw12_GraphGrows_l1 k y3 p16 p31 k 1).bind (LX.go fun p40 =>
  (catenarylaw12_GraphGrows_l0 k x1 y3 p16 p31 k (p31, 0)).bind (LX.go fun p46 =>
  (graph_Whole k y3 (([] : List Bool) ++ p16)).bind fun y51 =>
  (graph_Reach k y3 (([] : List Bool) ++ p16) 1).bind fun y54 =>
  if (y51 == ((y54.length : Int) == y3.Switches)) = true then
    (catenarylaw12_works k).bind fun y62 =>
    some y62
  else
    some false))
theorem fn_5 : Try.prog.funcs[5]? = some Try.f5 := by kernel_rfl
set_option maxRecDepth 100000 in
set_option maxHeartbeats 4000000 in
theorem catenarylaw12_GraphGrows_ok (k : Nat) (H : Heap) (x0 : Graph) (a0_0 : Option Addr) (c0_0 : Nat) (hx0_0 : RSl H a0_0 c0_0 x0.Links) (x1 : (List Bool)) (a1_0 : Option Addr) (c1_0 : Nat) (hx1_0 : RSl H a1_0 c1_0 x1) (x2 : Int) {r : Bool} (hr : catenarylaw12_GraphGrows k x0 x1 x2 = some r) :
    Fn Try.prog 5 [.agg #[.int .i64 x0.Switches, .slice a0_0 x0.Links.length c0_0], .slice a1_0 x1.length c1_0, .int .i64 x2] H [] fun H' v out => v = .bool r ∧ out = [] := by
  refine fn_of_sim (args := [.agg #[.int .i64 x0.Switches, .slice a0_0 x0.Links.length c0_0], .slice a1_0 x1.length c1_0, .int .i64 x2]) (n := 124) (Φ := fun r H' v out => v = .bool r ∧ out = []) hr fn_5 rfl rfl rfl fun w => ?_
  refine s_eq (by rw [catenarylaw12_GraphGrows]) ?_
  refine s_seq ?_
  refine s_region ?_
  refine o_box rfl fun b1 => ?_
  refine o_asg rfl ?_
  refine s_done ?_
  refine s_seq ?_
  refine s_region ?_
  refine o_ld 0 rfl rfl rfl ?_
  refine s_bg fun y3 h4 => ?_
  refine s_call [] _ rfl rfl (.refl _) (catenarylaw12_made_ok k _ x0 _ _ hx0_0 h4) ?_
  rintro _ H8 _ hle9 ⟨a5, c6, rfl, rfl, hs7⟩
  have hs10 := RSl.mono hle9 hx0_0
  have hs11 := RSl.mono hle9 hx1_0
  refine s_ownN ?_
  refine o_st 0 rfl rfl rfl rfl rfl rfl ?_
  refine s_done ?_
  refine s_seq ?_
  refine s_region ?_
  refine o_fa rfl ?_
  refine o_ld 0 rfl rfl rfl ?_
  refine o_lenS rfl ?_
  refine o_mks (z := (false : Bool)) (zc := [.bool false]) rfl rfl (fun _ => ⟨.bool false, by kernel_rfl, rfl⟩) rfl fun b12 h13 hA14 => ?_
  refine o_asg rfl ?_
  refine s_done ?_
  refine s_seq ?_
  refine s_seq ?_
  refine s_region ?_
  refine o_asg rfl ?_
  refine s_done ?_
  refine s_join (fun p16 env own H' => ∃ a17 c18 ls19, env = [(2, .int .i64 x2), (3, .pointer (some ⟨b1, 0, none⟩)), (7, .slice a17 p16.length c18)] ∧ own = [.blk b1 (rowObj [.int .i64 y3.Switches, .slice a5 y3.Links.length c6] 24), .osl (.slice a17 p16.length c18) 1 4 ls19] ∧ Hle H8 H' ∧ All2 (GoT.rep H') ls19 p16) ?_ ?_
  · rintro p16 _ _ H21 ⟨a17, c18, ls19, rfl, rfl, hle22, hA20⟩
    have hs23 := RSl.mono hle22 hs7
    refine s_seq ?_
    refine s_region ?_
    refine o_bsl (xs := []) rfl rfl (by simp) rfl rfl fun b24 => ?_
    have hA25 : All2 (GoT.rep H21) [] ([] : List Bool) := all2_enc (([] : List Bool))
    refine o_mov rfl ?_
    refine o_appO 2 1 rfl rfl rfl hA25 rfl hA20 fun a27 c28 h29 hA30 => ?_
    refine o_asg rfl ?_
    refine s_done ?_
    refine s_seq ?_
    refine s_seq ?_
    refine s_region ?_
    refine o_mov rfl ?_
    refine o_lenS rfl ?_
    refine o_gt rfl rfl ?_
    refine s_done ?_
    refine s_join (fun p31 env own H' => ∃ a32 c33 ls34, env = [(3, .pointer (some ⟨b1, 0, none⟩)), (7, .slice a32 p31.length c33), (9, .slice a27 (([] : List Bool) ++ p16).length c28)] ∧ own = [.blk b1 (rowObj [.int .i64 y3.Switches, .slice a5 y3.Links.length c6] 24), .osl (.slice a32 p31.length c33) 1 4 ls34, .osl (.slice a27 (([] : List Bool) ++ p16).length c28) 1 4 (([]) ++ ls19)] ∧ Hle H21 H' ∧ All2 (GoT.rep H') ls34 p31) ?_ ?_
    · rintro p31 _ _ H36 ⟨a32, c33, ls34, rfl, rfl, hle37, hA35⟩
      have hs38 := RSl.mono hle37 hs23
      have hA39 := All2.mono (fun _ _ => GoT.mono hle37) hA30
      refine s_seq ?_
      refine s_seq ?_
      refine s_region ?_
      refine o_asg rfl ?_
      refine s_done ?_
      refine s_joinL (fun p40 env own H' => env = [(3, .pointer (some ⟨b1, 0, none⟩)), (7, .slice a32 p31.length c33), (9, .slice a27 (([] : List Bool) ++ p16).length c28)] ∧ own = [.blk b1 (rowObj [.int .i64 y3.Switches, .slice a5 y3.Links.length c6] 24), .osl (.slice a32 p31.length c33) 1 4 ls34, .osl (.slice a27 (([] : List Bool) ++ p16).length c28) 1 4 (([]) ++ ls19)] ∧ Hle H36 H') ?_ ?_
      · rintro p40 _ _ H41 ⟨rfl, rfl, hle42⟩
        have hs43 := RSl.mono hle42 hs38
        have hA44 := All2.mono (fun _ _ => GoT.mono hle42) hA35
        have hA45 := All2.mono (fun _ _ => GoT.mono hle42) hA39
        refine s_seq ?_
        refine s_seq ?_
        refine s_region ?_
        refine o_asg rfl ?_
        refine s_done ?_
        refine s_joinL (fun p46 env own H' => env = [(3, .pointer (some ⟨b1, 0, none⟩)), (9, .slice a27 (([] : List Bool) ++ p16).length c28)] ∧ own = [.blk b1 (rowObj [.int .i64 y3.Switches, .slice a5 y3.Links.length c6] 24), .osl (.slice a27 (([] : List Bool) ++ p16).length c28) 1 4 (([]) ++ ls19)] ∧ Hle H41 H') ?_ ?_
        · rintro p46 _ _ H47 ⟨rfl, rfl, hle48⟩
          have hs49 := RSl.mono hle48 hs43
          have hA50 := All2.mono (fun _ _ => GoT.mono hle48) hA45
          refine s_seq ?_
          refine s_bg fun y51 h53 => ?_
          refine s_bg fun y54 h60 => ?_
          refine s_split (y51 == ((y54.length : Int) == y3.Switches)) (fun h61 => ?_) (fun h61 => ?_)
          · refine s_bg fun y62 h64 => ?_
            refine s_drawL [(fun H v g => v = Value.agg #[.int .i64 y3.Switches, .slice a5 y3.Links.length c6] ∧ g = [] ∧ RSl H a5 c6 y3.Links),
      (fun H v g => v = Value.slice a27 (([] : List Bool) ++ p16).length c28 ∧ g = []),
      (fun H v g => v = Value.bool y51 ∧ g = []),
      (fun H v g => v = Value.agg #[.int .i64 y3.Switches, .slice a5 y3.Links.length c6] ∧ g = [] ∧ RSl H a5 c6 y3.Links),
      (fun H v g => v = Value.slice a27 (([] : List Bool) ++ p16).length c28 ∧ g = []),
      (fun H v g => ∃ a67 c68, v = Value.slice a67 y54.length c68 ∧ g = [] ∧ RSl H a67 c68 y54),
      (fun H v g => v = Value.int .i64 (y54.length : Int) ∧ g = []),
      (fun H v g => v = Value.pointer (some ⟨b1, 0, none⟩) ∧ g = []),
      (fun H v g => v = Value.int .i64 y3.Switches ∧ g = []),
      (fun H v g => v = Value.bool ((y54.length : Int) == y3.Switches) ∧ g = []),
      (fun H v g => v = Value.bool (y51 == ((y54.length : Int) == y3.Switches)) ∧ g = []),
      (fun H v g => v = Value.bool (y51 == ((y54.length : Int) == y3.Switches)) ∧ g = []),
      (fun H v g => v = Value.bool y62 ∧ g = []),
      (fun H v g => v = Value.bool y62 ∧ g = [])] [[], [], [], [], [], [], [], [], [], [], [], [], [], []] mixed ⟨fun _ _ _ _ hle ⟨e1, e2, h0_⟩ => ⟨e1, e2, RSl.mono hle h0_⟩, fun _ _ _ _ _ h => h, fun _ _ _ _ _ h => h, fun _ _ _ _ hle ⟨e1, e2, h0_⟩ => ⟨e1, e2, RSl.mono hle h0_⟩, fun _ _ _ _ _ h => h, fun _ _ _ _ hle ⟨a67, c68, e1, e2, h0_⟩ => ⟨_, _, e1, e2, RSl.mono hle h0_⟩, fun _ _ _ _ _ h => h, fun _ _ _ _ _ h => h, fun _ _ _ _ _ h => h, fun _ _ _ _ _ h => h, fun _ _ _ _ _ h => h, fun _ _ _ _ _ h => h, fun _ _ _ _ _ h => h, fun _ _ _ _ _ h => h, trivial⟩ (by kernel_rfl) (by kernel_rfl) rfl (by kernel_rfl) rfl rfl ?_ ?_
            · refine dcons ?_ ?_
              · intro V78 G79 H80 fr81 hle82 hd83
                have hs85 := RSl.mono hle82 hs49
                refine ⟨_, some (), rfl, fun _ => ?_⟩
                refine s_env (env' := [(3, .pointer (some ⟨b1, 0, none⟩))]) (by exact ⟨rfl, trivial⟩) ?_
                refine o_ld 0 rfl rfl rfl ?_
                exact s_pred fun tm w ht hE hI => ⟨(.agg #[.int .i64 y3.Switches, .slice a5 y3.Links.length c6]), [], _, fun d hd => (by cases hd; exact hE _ _ rfl), .refl _, by exact hI, ⟨rfl, rfl, hs85⟩⟩
              refine dcons ?_ ?_
              · intro V86 G87 H88 fr89 hle90 hd91
                have hA93 := All2.mono (fun _ _ => GoT.mono hle90) hA50
                refine ⟨_, some (), rfl, fun _ => ?_⟩
                refine s_env (env' := [(9, .slice a27 (([] : List Bool) ++ p16).length c28)]) (by exact ⟨rfl, trivial⟩) ?_
                refine o_mov rfl ?_
                exact s_pred fun tm w ht hE hI => ⟨(.slice a27 (([] : List Bool) ++ p16).length c28), [], _, fun d hd => (by cases hd; exact hE _ _ rfl), .refl _, by exact hI, ⟨rfl, rfl⟩⟩
              refine dcons ?_ ?_
              · intro V94 G95 H96 fr97 hle98 hd99
                have hA101 := All2.mono (fun _ _ => GoT.mono hle98) hA50
                obtain ⟨hv102, hg103, hp104⟩ := hd99 0 (by decide)
                obtain ⟨hv105, hg106⟩ := hd99 1 (by decide)
                refine ⟨_, (graph_Whole k y3 (([] : List Bool) ++ p16)).bind some, by rw [h53]; rfl, fun _ => ?_⟩
                refine s_env (env' := [(110, .agg #[.int .i64 y3.Switches, .slice a5 y3.Links.length c6]), (111, .slice a27 (([] : List Bool) ++ p16).length c28)]) (by exact ⟨congrArg some hv102, congrArg some hv105, trivial⟩) ?_
                refine s_bg fun y51 h107 => ?_
                refine s_callL (Φ := fun v out => v = _ ∧ out = []) [] _ rfl rfl (.refl _) (fun H' hle hl => graph_Whole_ok k _ y3 _ _ (RSl.mono hle hp104) (([] : List Bool) ++ p16) _ _ (lent_rsl (hl _ (List.mem_of_getElem? (i := 1) rfl)) hA101 hle).2 h107) ?_
                rintro _ _ ⟨rfl, rfl⟩
                refine s_ownN ?_
                obtain rfl := Option.some.inj (h53.symm.trans h107)
                exact s_pred fun tm w ht hE hI => ⟨(.bool y51), [], _, fun d hd => (by cases hd; exact hE _ _ rfl), .refl _, by exact hI, ⟨rfl, rfl⟩⟩
              refine dcons ?_ ?_
              · intro V108 G109 H110 fr111 hle112 hd113
                have hs115 := RSl.mono hle112 hs49
                refine ⟨_, some (), rfl, fun _ => ?_⟩
                refine s_env (env' := [(3, .pointer (some ⟨b1, 0, none⟩))]) (by exact ⟨rfl, trivial⟩) ?_
                refine o_ld 0 rfl rfl rfl ?_
                exact s_pred fun tm w ht hE hI => ⟨(.agg #[.int .i64 y3.Switches, .slice a5 y3.Links.length c6]), [], _, fun d hd => (by cases hd; exact hE _ _ rfl), .refl _, by exact hI, ⟨rfl, rfl, hs115⟩⟩
              refine dcons ?_ ?_
              · intro V116 G117 H118 fr119 hle120 hd121
                have hA123 := All2.mono (fun _ _ => GoT.mono hle120) hA50
                refine ⟨_, some (), rfl, fun _ => ?_⟩
                refine s_env (env' := [(9, .slice a27 (([] : List Bool) ++ p16).length c28)]) (by exact ⟨rfl, trivial⟩) ?_
                refine o_mov rfl ?_
                exact s_pred fun tm w ht hE hI => ⟨(.slice a27 (([] : List Bool) ++ p16).length c28), [], _, fun d hd => (by cases hd; exact hE _ _ rfl), .refl _, by exact hI, ⟨rfl, rfl⟩⟩
              refine dcons ?_ ?_
              · intro V124 G125 H126 fr127 hle128 hd129
                have hA131 := All2.mono (fun _ _ => GoT.mono hle128) hA50
                obtain ⟨hv132, hg133, hp134⟩ := hd129 3 (by decide)
                obtain ⟨hv135, hg136⟩ := hd129 4 (by decide)
                refine ⟨_, (graph_Reach k y3 (([] : List Bool) ++ p16) 1).bind some, by rw [h60]; rfl, fun _ => ?_⟩
                refine s_env (env' := [(113, .agg #[.int .i64 y3.Switches, .slice a5 y3.Links.length c6]), (114, .slice a27 (([] : List Bool) ++ p16).length c28)]) (by exact ⟨congrArg some hv132, congrArg some hv135, trivial⟩) ?_
                refine s_bg fun y54 h137 => ?_
                refine s_callL (Φ := fun v out => ∃ a0 c0, v = .slice a0 y54.length c0 ∧ out = [.osl (.slice a0 y54.length c0) 1 3 (y54.map GoE.enc)]) [] _ rfl rfl (.refl _) (fun H' hle hl => graph_Reach_ok k _ y3 _ _ (RSl.mono hle hp134) (([] : List Bool) ++ p16) _ _ (lent_rsl (hl _ (List.mem_of_getElem? (i := 1) rfl)) hA131 hle).2 1 h137) ?_
                rintro _ _ ⟨a138, c139, rfl, rfl⟩
                have hA141 : All2 (GoT.rep H126) (y54.map GoE.enc) y54 := all2_enc _
                obtain rfl := Option.some.inj (h60.symm.trans h137)
                refine s_perm (own' := [.blk b1 (rowObj [.int .i64 y3.Switches, .slice a5 y3.Links.length c6] 24), .osl (.slice a27 (([] : List Bool) ++ p16).length c28) 1 4 (([]) ++ ls19), .osl (.slice a138 y54.length c139) 1 3 (y54.map GoE.enc)] ++ fr127) (pm3 (a := [.blk b1 (rowObj [.int .i64 y3.Switches, .slice a5 y3.Links.length c6] 24), .osl (.slice a27 (([] : List Bool) ++ p16).length c28) 1 4 (([]) ++ ls19)]) (xs := [.osl (.slice a138 y54.length c139) 1 3 (y54.map GoE.enc)])) ?_
                refine s_frz 2 (fun b => .inl (by simp [ids])) rfl hA141 fun H142 hle143 hn144 hs145 => ?_
                have hs146 := RSl.mono hle143 hp134
                have hA147 := All2.mono (fun _ _ => GoT.mono hle143) hA131
                exact s_pred fun tm w ht hE hI => ⟨(.slice a138 y54.length c139), [], _, fun d hd => (by cases hd; exact hE _ _ rfl), hle143, by exact hI, ⟨a138, c139, rfl, rfl, hs145⟩⟩
              refine dcons ?_ ?_
              · intro V148 G149 H150 fr151 hle152 hd153
                obtain ⟨a155, c156, hv157, hg158, hp159⟩ := hd153 5 (by decide)
                refine ⟨_, some (), rfl, fun _ => ?_⟩
                refine s_env (env' := [(115, .slice a155 y54.length c156)]) (by exact ⟨congrArg some hv157, trivial⟩) ?_
                refine o_lenS rfl ?_
                exact s_pred fun tm w ht hE hI => ⟨(.int .i64 (y54.length : Int)), [], _, fun d hd => (by cases hd; exact hE _ _ rfl), .refl _, by exact hI, ⟨rfl, rfl⟩⟩
              refine dcons ?_ ?_
              · intro V160 G161 H162 fr163 hle164 hd165
                have hs167 := RSl.mono hle164 hs49
                refine ⟨_, some (), rfl, fun _ => ?_⟩
                refine s_env (env' := [(3, .pointer (some ⟨b1, 0, none⟩))]) (by exact ⟨rfl, trivial⟩) ?_
                refine o_fa rfl ?_
                exact s_pred fun tm w ht hE hI => ⟨(.pointer (some ⟨b1, 0, none⟩)), [], _, fun d hd => (by cases hd; exact hE _ _ rfl), .refl _, by exact hI, ⟨rfl, rfl⟩⟩
              refine dcons ?_ ?_
              · intro V168 G169 H170 fr171 hle172 hd173
                have hs175 := RSl.mono hle172 hs49
                obtain ⟨hv176, hg177⟩ := hd173 7 (by decide)
                refine ⟨_, some (), rfl, fun _ => ?_⟩
                refine s_env (env' := [(117, .pointer (some ⟨b1, 0, none⟩))]) (by exact ⟨congrArg some hv176, trivial⟩) ?_
                refine o_ld 0 rfl rfl rfl ?_
                exact s_pred fun tm w ht hE hI => ⟨(.int .i64 y3.Switches), [], _, fun d hd => (by cases hd; exact hE _ _ rfl), .refl _, by exact hI, ⟨rfl, rfl⟩⟩
              refine dcons ?_ ?_
              · intro V178 G179 H180 fr181 hle182 hd183
                obtain ⟨hv185, hg186⟩ := hd183 6 (by decide)
                obtain ⟨hv187, hg188⟩ := hd183 8 (by decide)
                refine ⟨_, some (), rfl, fun _ => ?_⟩
                refine s_env (env' := [(116, .int .i64 (y54.length : Int)), (118, .int .i64 y3.Switches)]) (by exact ⟨congrArg some hv185, congrArg some hv187, trivial⟩) ?_
                refine o_eq rfl rfl ?_
                exact s_pred fun tm w ht hE hI => ⟨(.bool ((y54.length : Int) == y3.Switches)), [], _, fun d hd => (by cases hd; exact hE _ _ rfl), .refl _, by exact hI, ⟨rfl, rfl⟩⟩
              refine dcons ?_ ?_
              · intro V189 G190 H191 fr192 hle193 hd194
                obtain ⟨hv196, hg197⟩ := hd194 2 (by decide)
                obtain ⟨hv198, hg199⟩ := hd194 9 (by decide)
                refine ⟨_, some (), rfl, fun _ => ?_⟩
                refine s_env (env' := [(112, .bool y51), (119, .bool ((y54.length : Int) == y3.Switches))]) (by exact ⟨congrArg some hv196, congrArg some hv198, trivial⟩) ?_
                refine o_eqb rfl rfl ?_
                exact s_pred fun tm w ht hE hI => ⟨(.bool (y51 == ((y54.length : Int) == y3.Switches))), [], _, fun d hd => (by cases hd; exact hE _ _ rfl), .refl _, by exact hI, ⟨rfl, rfl⟩⟩
              refine dcons ?_ ?_
              · intro V200 G201 H202 fr203 hle204 hd205
                obtain ⟨hv207, hg208⟩ := hd205 10 (by decide)
                refine ⟨_, some (), rfl, fun _ => ?_⟩
                refine s_env (env' := [(120, .bool (y51 == ((y54.length : Int) == y3.Switches)))]) (by exact ⟨congrArg some hv207, trivial⟩) ?_
                refine o_mov rfl ?_
                exact s_pred fun tm w ht hE hI => ⟨(.bool (y51 == ((y54.length : Int) == y3.Switches))), [], _, fun d hd => (by cases hd; exact hE _ _ rfl), .refl _, by exact hI, ⟨rfl, rfl⟩⟩
              refine dcons ?_ ?_
              · intro V209 G210 H211 fr212 hle213 hd214
                obtain ⟨hv216, hg217⟩ := hd214 11 (by decide)
                refine ⟨_, (catenarylaw12_works k).bind some, by rw [h64]; rfl, fun _ => ?_⟩
                refine s_env (env' := [(121, .bool (y51 == ((y54.length : Int) == y3.Switches)))]) (by exact ⟨congrArg some hv216, trivial⟩) ?_
                refine s_want rfl rfl h61 ?_
                refine s_bg fun y62 h218 => ?_
                refine s_callF rfl rfl (catenarylaw12_works_ok k _ h218) ?_
                obtain rfl := Option.some.inj (h64.symm.trans h218)
                exact s_pred fun tm w ht hE hI => ⟨(.bool y62), [], _, fun d hd => (by cases hd; exact hE _ _ rfl), .refl _, by exact hI, ⟨rfl, rfl⟩⟩
              refine dcons ?_ ?_
              · intro V219 G220 H221 fr222 hle223 hd224
                obtain ⟨hv226, hg227⟩ := hd224 11 (by decide)
                obtain ⟨hv228, hg229⟩ := hd224 12 (by decide)
                refine ⟨_, some (), rfl, fun _ => ?_⟩
                refine s_env (env' := [(121, .bool (y51 == ((y54.length : Int) == y3.Switches))), (122, .bool y62)]) (by exact ⟨congrArg some hv226, congrArg some hv228, trivial⟩) ?_
                refine o_pickT rfl h61 rfl ?_
                exact s_pred fun tm w ht hE hI => ⟨(.bool y62), [], _, fun d hd => (by cases hd; exact hE _ _ rfl), .refl _, by exact hI, ⟨rfl, rfl⟩⟩
              exact dnil
            · intro V232 G233 H230 hle231 hF234
              have hs235 := RSl.mono hle231 hs49
              have hA236 := All2.mono (fun _ _ => GoT.mono hle231) hA50
              obtain ⟨hv237, hg238⟩ := hF234 13 (show 13 < 14 by decide)
              refine s_env (env' := [(123, .bool y62), (3, .pointer (some ⟨b1, 0, none⟩)), (9, .slice a27 (([] : List Bool) ++ p16).length c28)]) (by exact ⟨congrArg some hv237, rfl, rfl, trivial⟩) ?_
              refine s_own (List.sublist_append_left _ _) ?_
              refine o_asg rfl ?_
              refine s_done ?_
              exact s_retv (xs := [.tmp 6]) (vs := [.bool y62]) [] fn_5 rfl ⟨rv_tmp rfl, trivial⟩ (.cons _ (.cons _ .slnil)) ⟨rfl, rfl⟩
          · refine s_drawL [(fun H v g => v = Value.agg #[.int .i64 y3.Switches, .slice a5 y3.Links.length c6] ∧ g = [] ∧ RSl H a5 c6 y3.Links),
      (fun H v g => v = Value.slice a27 (([] : List Bool) ++ p16).length c28 ∧ g = []),
      (fun H v g => v = Value.bool y51 ∧ g = []),
      (fun H v g => v = Value.agg #[.int .i64 y3.Switches, .slice a5 y3.Links.length c6] ∧ g = [] ∧ RSl H a5 c6 y3.Links),
      (fun H v g => v = Value.slice a27 (([] : List Bool) ++ p16).length c28 ∧ g = []),
      (fun H v g => ∃ a241 c242, v = Value.slice a241 y54.length c242 ∧ g = [] ∧ RSl H a241 c242 y54),
      (fun H v g => v = Value.int .i64 (y54.length : Int) ∧ g = []),
      (fun H v g => v = Value.pointer (some ⟨b1, 0, none⟩) ∧ g = []),
      (fun H v g => v = Value.int .i64 y3.Switches ∧ g = []),
      (fun H v g => v = Value.bool ((y54.length : Int) == y3.Switches) ∧ g = []),
      (fun H v g => v = Value.bool (y51 == ((y54.length : Int) == y3.Switches)) ∧ g = []),
      (fun H v g => v = Value.bool (y51 == ((y54.length : Int) == y3.Switches)) ∧ g = []),
      (fun H v g => v = undef ∧ g = []),
      (fun H v g => v = Value.bool false ∧ g = [])] [[], [], [], [], [], [], [], [], [], [], [], [], [], []] mixed ⟨fun _ _ _ _ hle ⟨e1, e2, h0_⟩ => ⟨e1, e2, RSl.mono hle h0_⟩, fun _ _ _ _ _ h => h, fun _ _ _ _ _ h => h, fun _ _ _ _ hle ⟨e1, e2, h0_⟩ => ⟨e1, e2, RSl.mono hle h0_⟩, fun _ _ _ _ _ h => h, fun _ _ _ _ hle ⟨a241, c242, e1, e2, h0_⟩ => ⟨_, _, e1, e2, RSl.mono hle h0_⟩, fun _ _ _ _ _ h => h, fun _ _ _ _ _ h => h, fun _ _ _ _ _ h => h, fun _ _ _ _ _ h => h, fun _ _ _ _ _ h => h, fun _ _ _ _ _ h => h, fun _ _ _ _ _ h => h, fun _ _ _ _ _ h => h, trivial⟩ (by kernel_rfl) (by kernel_rfl) rfl (by kernel_rfl) rfl rfl ?_ ?_
            · refine dcons ?_ ?_
              · intro V251 G252 H253 fr254 hle255 hd256
                have hs258 := RSl.mono hle255 hs49
                refine ⟨_, some (), rfl, fun _ => ?_⟩
                refine s_env (env' := [(3, .pointer (some ⟨b1, 0, none⟩))]) (by exact ⟨rfl, trivial⟩) ?_
                refine o_ld 0 rfl rfl rfl ?_
                exact s_pred fun tm w ht hE hI => ⟨(.agg #[.int .i64 y3.Switches, .slice a5 y3.Links.length c6]), [], _, fun d hd => (by cases hd; exact hE _ _ rfl), .refl _, by exact hI, ⟨rfl, rfl, hs258⟩⟩
              refine dcons ?_ ?_
              · intro V259 G260 H261 fr262 hle263 hd264
                have hA266 := All2.mono (fun _ _ => GoT.mono hle263) hA50
                refine ⟨_, some (), rfl, fun _ => ?_⟩
                refine s_env (env' := [(9, .slice a27 (([] : List Bool) ++ p16).length c28)]) (by exact ⟨rfl, trivial⟩) ?_
                refine o_mov rfl ?_
                exact s_pred fun tm w ht hE hI => ⟨(.slice a27 (([] : List Bool) ++ p16).length c28), [], _, fun d hd => (by cases hd; exact hE _ _ rfl), .refl _, by exact hI, ⟨rfl, rfl⟩⟩
              refine dcons ?_ ?_
              · intro V267 G268 H269 fr270 hle271 hd272
                have hA274 := All2.mono (fun _ _ => GoT.mono hle271) hA50
                obtain ⟨hv275, hg276, hp277⟩ := hd272 0 (by decide)
                obtain ⟨hv278, hg279⟩ := hd272 1 (by decide)
                refine ⟨_, (graph_Whole k y3 (([] : List Bool) ++ p16)).bind some, by rw [h53]; rfl, fun _ => ?_⟩
                refine s_env (env' := [(110, .agg #[.int .i64 y3.Switches, .slice a5 y3.Links.length c6]), (111, .slice a27 (([] : List Bool) ++ p16).length c28)]) (by exact ⟨congrArg some hv275, congrArg some hv278, trivial⟩) ?_
                refine s_bg fun y51 h280 => ?_
                refine s_callL (Φ := fun v out => v = _ ∧ out = []) [] _ rfl rfl (.refl _) (fun H' hle hl => graph_Whole_ok k _ y3 _ _ (RSl.mono hle hp277) (([] : List Bool) ++ p16) _ _ (lent_rsl (hl _ (List.mem_of_getElem? (i := 1) rfl)) hA274 hle).2 h280) ?_
                rintro _ _ ⟨rfl, rfl⟩
                refine s_ownN ?_
                obtain rfl := Option.some.inj (h53.symm.trans h280)
                exact s_pred fun tm w ht hE hI => ⟨(.bool y51), [], _, fun d hd => (by cases hd; exact hE _ _ rfl), .refl _, by exact hI, ⟨rfl, rfl⟩⟩
              refine dcons ?_ ?_
              · intro V281 G282 H283 fr284 hle285 hd286
                have hs288 := RSl.mono hle285 hs49
                refine ⟨_, some (), rfl, fun _ => ?_⟩
                refine s_env (env' := [(3, .pointer (some ⟨b1, 0, none⟩))]) (by exact ⟨rfl, trivial⟩) ?_
                refine o_ld 0 rfl rfl rfl ?_
                exact s_pred fun tm w ht hE hI => ⟨(.agg #[.int .i64 y3.Switches, .slice a5 y3.Links.length c6]), [], _, fun d hd => (by cases hd; exact hE _ _ rfl), .refl _, by exact hI, ⟨rfl, rfl, hs288⟩⟩
              refine dcons ?_ ?_
              · intro V289 G290 H291 fr292 hle293 hd294
                have hA296 := All2.mono (fun _ _ => GoT.mono hle293) hA50
                refine ⟨_, some (), rfl, fun _ => ?_⟩
                refine s_env (env' := [(9, .slice a27 (([] : List Bool) ++ p16).length c28)]) (by exact ⟨rfl, trivial⟩) ?_
                refine o_mov rfl ?_
                exact s_pred fun tm w ht hE hI => ⟨(.slice a27 (([] : List Bool) ++ p16).length c28), [], _, fun d hd => (by cases hd; exact hE _ _ rfl), .refl _, by exact hI, ⟨rfl, rfl⟩⟩
              refine dcons ?_ ?_
              · intro V297 G298 H299 fr300 hle301 hd302
                have hA304 := All2.mono (fun _ _ => GoT.mono hle301) hA50
                obtain ⟨hv305, hg306, hp307⟩ := hd302 3 (by decide)
                obtain ⟨hv308, hg309⟩ := hd302 4 (by decide)
                refine ⟨_, (graph_Reach k y3 (([] : List Bool) ++ p16) 1).bind some, by rw [h60]; rfl, fun _ => ?_⟩
                refine s_env (env' := [(113, .agg #[.int .i64 y3.Switches, .slice a5 y3.Links.length c6]), (114, .slice a27 (([] : List Bool) ++ p16).length c28)]) (by exact ⟨congrArg some hv305, congrArg some hv308, trivial⟩) ?_
                refine s_bg fun y54 h310 => ?_
                refine s_callL (Φ := fun v out => ∃ a0 c0, v = .slice a0 y54.length c0 ∧ out = [.osl (.slice a0 y54.length c0) 1 3 (y54.map GoE.enc)]) [] _ rfl rfl (.refl _) (fun H' hle hl => graph_Reach_ok k _ y3 _ _ (RSl.mono hle hp307) (([] : List Bool) ++ p16) _ _ (lent_rsl (hl _ (List.mem_of_getElem? (i := 1) rfl)) hA304 hle).2 1 h310) ?_
                rintro _ _ ⟨a311, c312, rfl, rfl⟩
                have hA314 : All2 (GoT.rep H299) (y54.map GoE.enc) y54 := all2_enc _
                obtain rfl := Option.some.inj (h60.symm.trans h310)
                refine s_perm (own' := [.blk b1 (rowObj [.int .i64 y3.Switches, .slice a5 y3.Links.length c6] 24), .osl (.slice a27 (([] : List Bool) ++ p16).length c28) 1 4 (([]) ++ ls19), .osl (.slice a311 y54.length c312) 1 3 (y54.map GoE.enc)] ++ fr300) (pm3 (a := [.blk b1 (rowObj [.int .i64 y3.Switches, .slice a5 y3.Links.length c6] 24), .osl (.slice a27 (([] : List Bool) ++ p16).length c28) 1 4 (([]) ++ ls19)]) (xs := [.osl (.slice a311 y54.length c312) 1 3 (y54.map GoE.enc)])) ?_
                refine s_frz 2 (fun b => .inl (by simp [ids])) rfl hA314 fun H315 hle316 hn317 hs318 => ?_
                have hs319 := RSl.mono hle316 hp307
                have hA320 := All2.mono (fun _ _ => GoT.mono hle316) hA304
                exact s_pred fun tm w ht hE hI => ⟨(.slice a311 y54.length c312), [], _, fun d hd => (by cases hd; exact hE _ _ rfl), hle316, by exact hI, ⟨a311, c312, rfl, rfl, hs318⟩⟩
              refine dcons ?_ ?_
              · intro V321 G322 H323 fr324 hle325 hd326
                obtain ⟨a328, c329, hv330, hg331, hp332⟩ := hd326 5 (by decide)
                refine ⟨_, some (), rfl, fun _ => ?_⟩
                refine s_env (env' := [(115, .slice a328 y54.length c329)]) (by exact ⟨congrArg some hv330, trivial⟩) ?_
                refine o_lenS rfl ?_
                exact s_pred fun tm w ht hE hI => ⟨(.int .i64 (y54.length : Int)), [], _, fun d hd => (by cases hd; exact hE _ _ rfl), .refl _, by exact hI, ⟨rfl, rfl⟩⟩
              refine dcons ?_ ?_
              · intro V333 G334 H335 fr336 hle337 hd338
                have hs340 := RSl.mono hle337 hs49
                refine ⟨_, some (), rfl, fun _ => ?_⟩
                refine s_env (env' := [(3, .pointer (some ⟨b1, 0, none⟩))]) (by exact ⟨rfl, trivial⟩) ?_
                refine o_fa rfl ?_
                exact s_pred fun tm w ht hE hI => ⟨(.pointer (some ⟨b1, 0, none⟩)), [], _, fun d hd => (by cases hd; exact hE _ _ rfl), .refl _, by exact hI, ⟨rfl, rfl⟩⟩
              refine dcons ?_ ?_
              · intro V341 G342 H343 fr344 hle345 hd346
                have hs348 := RSl.mono hle345 hs49
                obtain ⟨hv349, hg350⟩ := hd346 7 (by decide)
                refine ⟨_, some (), rfl, fun _ => ?_⟩
                refine s_env (env' := [(117, .pointer (some ⟨b1, 0, none⟩))]) (by exact ⟨congrArg some hv349, trivial⟩) ?_
                refine o_ld 0 rfl rfl rfl ?_
                exact s_pred fun tm w ht hE hI => ⟨(.int .i64 y3.Switches), [], _, fun d hd => (by cases hd; exact hE _ _ rfl), .refl _, by exact hI, ⟨rfl, rfl⟩⟩
              refine dcons ?_ ?_
              · intro V351 G352 H353 fr354 hle355 hd356
                obtain ⟨hv358, hg359⟩ := hd356 6 (by decide)
                obtain ⟨hv360, hg361⟩ := hd356 8 (by decide)
                refine ⟨_, some (), rfl, fun _ => ?_⟩
                refine s_env (env' := [(116, .int .i64 (y54.length : Int)), (118, .int .i64 y3.Switches)]) (by exact ⟨congrArg some hv358, congrArg some hv360, trivial⟩) ?_
                refine o_eq rfl rfl ?_
                exact s_pred fun tm w ht hE hI => ⟨(.bool ((y54.length : Int) == y3.Switches)), [], _, fun d hd => (by cases hd; exact hE _ _ rfl), .refl _, by exact hI, ⟨rfl, rfl⟩⟩
              refine dcons ?_ ?_
              · intro V362 G363 H364 fr365 hle366 hd367
                obtain ⟨hv369, hg370⟩ := hd367 2 (by decide)
                obtain ⟨hv371, hg372⟩ := hd367 9 (by decide)
                refine ⟨_, some (), rfl, fun _ => ?_⟩
                refine s_env (env' := [(112, .bool y51), (119, .bool ((y54.length : Int) == y3.Switches))]) (by exact ⟨congrArg some hv369, congrArg some hv371, trivial⟩) ?_
                refine o_eqb rfl rfl ?_
                exact s_pred fun tm w ht hE hI => ⟨(.bool (y51 == ((y54.length : Int) == y3.Switches))), [], _, fun d hd => (by cases hd; exact hE _ _ rfl), .refl _, by exact hI, ⟨rfl, rfl⟩⟩
              refine dcons ?_ ?_
              · intro V373 G374 H375 fr376 hle377 hd378
                obtain ⟨hv380, hg381⟩ := hd378 10 (by decide)
                refine ⟨_, some (), rfl, fun _ => ?_⟩
                refine s_env (env' := [(120, .bool (y51 == ((y54.length : Int) == y3.Switches)))]) (by exact ⟨congrArg some hv380, trivial⟩) ?_
                refine o_mov rfl ?_
                exact s_pred fun tm w ht hE hI => ⟨(.bool (y51 == ((y54.length : Int) == y3.Switches))), [], _, fun d hd => (by cases hd; exact hE _ _ rfl), .refl _, by exact hI, ⟨rfl, rfl⟩⟩
              refine dcons ?_ ?_
              · intro V382 G383 H384 fr385 hle386 hd387
                obtain ⟨hv389, hg390⟩ := hd387 11 (by decide)
                refine ⟨_, some (), rfl, fun _ => ?_⟩
                refine s_env (env' := [(121, .bool (y51 == ((y54.length : Int) == y3.Switches)))]) (by exact ⟨congrArg some hv389, trivial⟩) ?_
                refine s_unwant rfl rfl h61 ?_
                exact s_pred fun tm w ht hE hI => ⟨undef, [], _, fun d hd => (by cases hd; exact hE _ _ rfl), .refl _, by exact hI, ⟨rfl, rfl⟩⟩
              refine dcons ?_ ?_
              · intro V391 G392 H393 fr394 hle395 hd396
                obtain ⟨hv398, hg399⟩ := hd396 11 (by decide)
                obtain ⟨hv400, hg401⟩ := hd396 12 (by decide)
                refine ⟨_, some (), rfl, fun _ => ?_⟩
                refine s_env (env' := [(121, .bool (y51 == ((y54.length : Int) == y3.Switches))), (122, undef)]) (by exact ⟨congrArg some hv398, congrArg some hv400, trivial⟩) ?_
                refine o_pickF rfl h61 rfl ?_
                exact s_pred fun tm w ht hE hI => ⟨(.bool false), [], _, fun d hd => (by cases hd; exact hE _ _ rfl), .refl _, by exact hI, ⟨rfl, rfl⟩⟩
              exact dnil
            · intro V404 G405 H402 hle403 hF406
              have hs407 := RSl.mono hle403 hs49
              have hA408 := All2.mono (fun _ _ => GoT.mono hle403) hA50
              obtain ⟨hv409, hg410⟩ := hF406 13 (show 13 < 14 by decide)
              refine s_env (env' := [(123, .bool false), (3, .pointer (some ⟨b1, 0, none⟩)), (9, .slice a27 (([] : List Bool) ++ p16).length c28)]) (by exact ⟨congrArg some hv409, rfl, rfl, trivial⟩) ?_
              refine s_own (List.sublist_append_left _ _) ?_
              refine o_asg rfl ?_
              refine s_done ?_
              exact s_retv (xs := [.tmp 6]) (vs := [.bool false]) [] fn_5 rfl ⟨rv_tmp rfl, trivial⟩ (.cons _ (.cons _ .slnil)) ⟨rfl, rfl⟩
        · intro J411
          refine s_block ?_
          refine s_env (env' := [(3, .pointer (some ⟨b1, 0, none⟩)), (7, .slice a32 p31.length c33), (9, .slice a27 (([] : List Bool) ++ p16).length c28), (14, .int .i64 0)]) (by exact ⟨rfl, rfl, rfl, rfl, trivial⟩) ?_
          refine s_own (own' := [.blk b1 (rowObj [.int .i64 y3.Switches, .slice a5 y3.Links.length c6] 24), .osl (.slice a32 p31.length c33) 1 4 ls34, .osl (.slice a27 (([] : List Bool) ++ p16).length c28) 1 4 (([]) ++ ls19)]) (.cons_cons _ (.cons_cons _ (.cons_cons _ .slnil))) ?_
          refine s_loopn (fun q s412 => catenarylaw12_GraphGrows_l0 k x1 y3 p16 p31 q s412) (fun s412 env own H' => ∃ a413 c414 ls415, env = [(3, .pointer (some ⟨b1, 0, none⟩)), (7, .slice a413 s412.1.length c414), (9, .slice a27 (([] : List Bool) ++ p16).length c28), (14, .int .i64 s412.2)] ∧ own = [.blk b1 (rowObj [.int .i64 y3.Switches, .slice a5 y3.Links.length c6] 24), .osl (.slice a413 s412.1.length c414) 1 4 ls415, .osl (.slice a27 (([] : List Bool) ++ p16).length c28) 1 4 (([]) ++ ls19)] ∧ Hle H41 H' ∧ All2 (GoT.rep H') ls415 s412.1) (fun _ => rfl) ?_ k (p31, 0) ⟨_, _, _, rfl, rfl, .refl _, hA44⟩
          rintro q417 ih418 s412 _ _ H419 ⟨a413, c414, ls415, rfl, rfl, hle420, hA416⟩
          refine s_eq (by rw [catenarylaw12_GraphGrows_l0]) ?_
          have hs421 := RSl.mono hle420 hs43
          have hA422 := All2.mono (fun _ _ => GoT.mono hle420) hA45
          refine s_seq ?_
          refine s_seq ?_
          refine s_region ?_
          refine o_mov rfl ?_
          refine o_mov rfl ?_
          refine o_lenS rfl ?_
          refine o_lt rfl rfl ?_
          refine s_done ?_
          refine s_cond rfl (fun h423 => ?_) (fun h423 => ?_)
          · refine s_skip ?_
            refine s_seq ?_
            refine s_block ?_
            refine s_seq ?_
            refine s_join (fun p424 env own H' => ∃ a425 c426 ls427, env = [(3, .pointer (some ⟨b1, 0, none⟩)), (7, .slice a425 p424.1.length c426), (9, .slice a27 (([] : List Bool) ++ p16).length c28), (14, .int .i64 s412.2), (109, .bool p424.2)] ∧ own = [.blk b1 (rowObj [.int .i64 y3.Switches, .slice a5 y3.Links.length c6] 24), .osl (.slice a425 p424.1.length c426) 1 4 ls427, .osl (.slice a27 (([] : List Bool) ++ p16).length c28) 1 4 (([]) ++ ls19)] ∧ Hle H419 H' ∧ All2 (GoT.rep H') ls427 p424.1) ?_ ?_
            · rintro p424 _ _ H429 ⟨a425, c426, ls427, rfl, rfl, hle430, hA428⟩
              have hs431 := RSl.mono hle430 hs421
              have hA432 := All2.mono (fun _ _ => GoT.mono hle430) hA422
              refine s_cond rfl (fun h433 => ?_) (fun h433 => ?_)
              · refine s_seq ?_
                refine s_region ?_
                refine o_asg rfl ?_
                refine s_done ?_
                refine s_lret ?_
                exact s_retv (xs := [.tmp 6]) (vs := [.bool false]) [] fn_5 rfl ⟨rv_tmp rfl, trivial⟩ (.cons _ (.cons _ (.cons _ .slnil))) ⟨rfl, rfl⟩
              · refine s_skip ?_
                refine s_inBlock ?_
                refine s_region ?_
                refine o_mov rfl ?_
                refine o_add rfl rfl ?_
                refine o_asg rfl ?_
                refine s_done ?_
                exact s_env (by exact ⟨rfl, rfl, rfl, rfl, trivial⟩) (s_own (by exact (.cons_cons _ (.cons_cons _ (.cons_cons _ .slnil)))) (ih418 (p424.1, w64 (s412.2 + 1)) _ _ _ ⟨_, _, _, rfl, rfl, (Hle.trans hle420 hle430), hA428⟩))
            · intro J434
              refine s_bg fun y435 h442 => ?_
              refine s_addr 1 rfl hA416 h442 fun bk437 ha443 => ?_
              subst ha443
              refine s_split y435 (fun h444 => ?_) (fun h444 => ?_)
              · refine s_bg fun y445 h450 => ?_
                refine s_bg fun y451 h457 => ?_
                refine s_bg fun y458 h463 => ?_
                refine s_bg fun y464 h466 => ?_
                refine s_drawL [(fun H v g => v = Value.slice (some ⟨bk437, 0, none⟩) s412.1.length c414 ∧ g = []),
      (fun H v g => v = Value.int .i64 s412.2 ∧ g = []),
      (fun H v g => v = Value.pointer (some ⟨bk437, (s412.2 : Int).toNat * GoT.sz (Bool), none⟩) ∧ g = [] ∧ (ls415)[(s412.2 : Int).toNat]? = some [.bool y435]),
      (fun H v g => v = Value.bool y435 ∧ g = []),
      (fun H v g => v = Value.bool y435 ∧ g = []),
      (fun H v g => v = Value.agg #[.int .i64 y3.Switches, .slice a5 y3.Links.length c6] ∧ g = [] ∧ RSl H a5 c6 y3.Links),
      (fun H v g => v = Value.slice (some ⟨bk437, 0, none⟩) s412.1.length c414 ∧ g = []),
      (fun H v g => v = Value.pointer (some ⟨b1, 1, none⟩) ∧ g = []),
      (fun H v g => v = Value.slice a5 y3.Links.length c6 ∧ g = [] ∧ RSl H a5 c6 y3.Links),
      (fun H v g => v = Value.int .i64 s412.2 ∧ g = []),
      (fun H v g => ∃ bk474 of475, v = Value.pointer (some ⟨bk474, of475, none⟩) ∧ g = [] ∧ CellsAt H bk474 of475 [.int .i64 y445.A.Switch, .int .i64 y445.A.Port, .int .i64 y445.B.Switch, .int .i64 y445.B.Port]),
      (fun H v g => ∃ bk474 of475, v = Value.pointer (some ⟨bk474, of475, none⟩) ∧ g = [] ∧ CellsAt H bk474 of475 [.int .i64 y445.A.Switch, .int .i64 y445.A.Port, .int .i64 y445.B.Switch, .int .i64 y445.B.Port]),
      (fun H v g => ∃ bk474 of475, v = Value.pointer (some ⟨bk474, of475, none⟩) ∧ g = [] ∧ CellsAt H bk474 of475 [.int .i64 y445.A.Switch, .int .i64 y445.A.Port, .int .i64 y445.B.Switch, .int .i64 y445.B.Port]),
      (fun H v g => v = Value.int .i64 y445.A.Switch ∧ g = []),
      (fun H v g => ∃ a478 c479, v = Value.slice a478 y451.length c479 ∧ g = [] ∧ RSl H a478 c479 y451),
      (fun H v g => v = Value.pointer (some ⟨b1, 1, none⟩) ∧ g = []),
      (fun H v g => v = Value.slice a5 y3.Links.length c6 ∧ g = [] ∧ RSl H a5 c6 y3.Links),
      (fun H v g => v = Value.int .i64 s412.2 ∧ g = []),
      (fun H v g => ∃ bk491 of492, v = Value.pointer (some ⟨bk491, of492, none⟩) ∧ g = [] ∧ CellsAt H bk491 of492 [.int .i64 y458.A.Switch, .int .i64 y458.A.Port, .int .i64 y458.B.Switch, .int .i64 y458.B.Port]),
      (fun H v g => ∃ bk491 of492, v = Value.pointer (some ⟨bk491, of492 + 2, none⟩) ∧ g = [] ∧ CellsAt H bk491 of492 [.int .i64 y458.A.Switch, .int .i64 y458.A.Port, .int .i64 y458.B.Switch, .int .i64 y458.B.Port]),
      (fun H v g => ∃ bk491 of492, v = Value.pointer (some ⟨bk491, of492 + 2, none⟩) ∧ g = [] ∧ CellsAt H bk491 of492 [.int .i64 y458.A.Switch, .int .i64 y458.A.Port, .int .i64 y458.B.Switch, .int .i64 y458.B.Port]),
      (fun H v g => v = Value.int .i64 y458.B.Switch ∧ g = []),
      (fun H v g => v = Value.bool y464 ∧ g = []),
      (fun H v g => v = Value.bool (!y464) ∧ g = []),
      (fun H v g => v = Value.bool (!y464) ∧ g = [])] [[], [], [], [], [], [], [], [], [], [], [], [], [], [], [], [], [], [], [], [], [], [], [], [], []] mixed ⟨fun _ _ _ _ _ h => h, fun _ _ _ _ _ h => h, fun _ _ _ _ _ h => h, fun _ _ _ _ _ h => h, fun _ _ _ _ _ h => h, fun _ _ _ _ hle ⟨e1, e2, h0_⟩ => ⟨e1, e2, RSl.mono hle h0_⟩, fun _ _ _ _ _ h => h, fun _ _ _ _ _ h => h, fun _ _ _ _ hle ⟨e1, e2, h0_⟩ => ⟨e1, e2, RSl.mono hle h0_⟩, fun _ _ _ _ _ h => h, fun _ _ _ _ hle ⟨bk474, of475, e1, e2, h0_⟩ => ⟨_, _, e1, e2, CellsAt.mono hle h0_⟩, fun _ _ _ _ hle ⟨bk474, of475, e1, e2, h0_⟩ => ⟨_, _, e1, e2, CellsAt.mono hle h0_⟩, fun _ _ _ _ hle ⟨bk474, of475, e1, e2, h0_⟩ => ⟨_, _, e1, e2, CellsAt.mono hle h0_⟩, fun _ _ _ _ _ h => h, fun _ _ _ _ hle ⟨a478, c479, e1, e2, h0_⟩ => ⟨_, _, e1, e2, RSl.mono hle h0_⟩, fun _ _ _ _ _ h => h, fun _ _ _ _ hle ⟨e1, e2, h0_⟩ => ⟨e1, e2, RSl.mono hle h0_⟩, fun _ _ _ _ _ h => h, fun _ _ _ _ hle ⟨bk491, of492, e1, e2, h0_⟩ => ⟨_, _, e1, e2, CellsAt.mono hle h0_⟩, fun _ _ _ _ hle ⟨bk491, of492, e1, e2, h0_⟩ => ⟨_, _, e1, e2, CellsAt.mono hle h0_⟩, fun _ _ _ _ hle ⟨bk491, of492, e1, e2, h0_⟩ => ⟨_, _, e1, e2, CellsAt.mono hle h0_⟩, fun _ _ _ _ _ h => h, fun _ _ _ _ _ h => h, fun _ _ _ _ _ h => h, fun _ _ _ _ _ h => h, trivial⟩ (by kernel_rfl) (by kernel_rfl) rfl (by kernel_rfl) rfl rfl ?_ ?_
                · refine dcons ?_ ?_
                  · intro V495 G496 H497 fr498 hle499 hd500
                    have hA502 := All2.mono (fun _ _ => GoT.mono hle499) hA416
                    refine ⟨_, some (), rfl, fun _ => ?_⟩
                    refine s_env (env' := [(7, .slice (some ⟨bk437, 0, none⟩) s412.1.length c414)]) (by exact ⟨rfl, trivial⟩) ?_
                    refine o_mov rfl ?_
                    exact s_pred fun tm w ht hE hI => ⟨(.slice (some ⟨bk437, 0, none⟩) s412.1.length c414), [], _, fun d hd => (by cases hd; exact hE _ _ rfl), .refl _, by exact hI, ⟨rfl, rfl⟩⟩
                  refine dcons ?_ ?_
                  · intro V503 G504 H505 fr506 hle507 hd508
                    refine ⟨_, some (), rfl, fun _ => ?_⟩
                    refine s_env (env' := [(14, .int .i64 s412.2)]) (by exact ⟨rfl, trivial⟩) ?_
                    refine o_mov rfl ?_
                    exact s_pred fun tm w ht hE hI => ⟨(.int .i64 s412.2), [], _, fun d hd => (by cases hd; exact hE _ _ rfl), .refl _, by exact hI, ⟨rfl, rfl⟩⟩
                  refine dcons ?_ ?_
                  · intro V510 G511 H512 fr513 hle514 hd515
                    have hA517 := All2.mono (fun _ _ => GoT.mono hle514) hA416
                    obtain ⟨hv518, hg519⟩ := hd515 0 (by decide)
                    obtain ⟨hv520, hg521⟩ := hd515 1 (by decide)
                    refine ⟨_, (rd s412.1 s412.2).bind some, by rw [h442]; rfl, fun _ => ?_⟩
                    refine s_env (env' := [(85, .slice (some ⟨bk437, 0, none⟩) s412.1.length c414), (86, .int .i64 s412.2)]) (by exact ⟨congrArg some hv518, congrArg some hv520, trivial⟩) ?_
                    refine o_ixO 1 rfl hA517 rfl rfl fun y435 bk523 vs524 h522 ha525 hi526 hr527 => ?_
                    subst hr527
                    obtain rfl := s_bk ha525
                    obtain rfl := Option.some.inj (h442.symm.trans h522)
                    exact s_pred fun tm w ht hE hI => ⟨(.pointer (some ⟨bk437, (s412.2 : Int).toNat * GoT.sz (Bool), none⟩)), [], _, fun d hd => (by cases hd; exact hE _ _ rfl), .refl _, by exact hI, ⟨rfl, rfl, hi526⟩⟩
                  refine dcons ?_ ?_
                  · intro V528 G529 H530 fr531 hle532 hd533
                    have hA535 := All2.mono (fun _ _ => GoT.mono hle532) hA416
                    obtain ⟨hv536, hg537, hp538⟩ := hd533 2 (by decide)
                    refine ⟨_, some (), rfl, fun _ => ?_⟩
                    refine s_env (env' := [(87, .pointer (some ⟨bk437, (s412.2 : Int).toNat * GoT.sz (Bool), none⟩))]) (by exact ⟨congrArg some hv536, trivial⟩) ?_
                    refine o_ldO 1 0 rfl hp538 rfl rfl rfl ?_
                    exact s_pred fun tm w ht hE hI => ⟨(.bool y435), [], _, fun d hd => (by cases hd; exact hE _ _ rfl), .refl _, by exact hI, ⟨rfl, rfl⟩⟩
                  refine dcons ?_ ?_
                  · intro V539 G540 H541 fr542 hle543 hd544
                    obtain ⟨hv546, hg547⟩ := hd544 3 (by decide)
                    refine ⟨_, some (), rfl, fun _ => ?_⟩
                    refine s_env (env' := [(88, .bool y435)]) (by exact ⟨congrArg some hv546, trivial⟩) ?_
                    refine o_mov rfl ?_
                    exact s_pred fun tm w ht hE hI => ⟨(.bool y435), [], _, fun d hd => (by cases hd; exact hE _ _ rfl), .refl _, by exact hI, ⟨rfl, rfl⟩⟩
                  refine dcons ?_ ?_
                  · intro V548 G549 H550 fr551 hle552 hd553
                    have hs555 := RSl.mono hle552 hs421
                    obtain ⟨hv556, hg557⟩ := hd553 4 (by decide)
                    refine ⟨_, some (), rfl, fun _ => ?_⟩
                    refine s_env (env' := [(89, .bool y435), (3, .pointer (some ⟨b1, 0, none⟩))]) (by exact ⟨congrArg some hv556, rfl, trivial⟩) ?_
                    refine s_want rfl rfl h444 ?_
                    refine o_ld 0 rfl rfl rfl ?_
                    exact s_pred fun tm w ht hE hI => ⟨(.agg #[.int .i64 y3.Switches, .slice a5 y3.Links.length c6]), [], _, fun d hd => (by cases hd; exact hE _ _ rfl), .refl _, by exact hI, ⟨rfl, rfl, hs555⟩⟩
                  refine dcons ?_ ?_
                  · intro V558 G559 H560 fr561 hle562 hd563
                    have hA565 := All2.mono (fun _ _ => GoT.mono hle562) hA416
                    obtain ⟨hv566, hg567⟩ := hd563 4 (by decide)
                    refine ⟨_, some (), rfl, fun _ => ?_⟩
                    refine s_env (env' := [(89, .bool y435), (7, .slice (some ⟨bk437, 0, none⟩) s412.1.length c414)]) (by exact ⟨congrArg some hv566, rfl, trivial⟩) ?_
                    refine s_want rfl rfl h444 ?_
                    refine o_mov rfl ?_
                    exact s_pred fun tm w ht hE hI => ⟨(.slice (some ⟨bk437, 0, none⟩) s412.1.length c414), [], _, fun d hd => (by cases hd; exact hE _ _ rfl), .refl _, by exact hI, ⟨rfl, rfl⟩⟩
                  refine dcons ?_ ?_
                  · intro V568 G569 H570 fr571 hle572 hd573
                    have hs575 := RSl.mono hle572 hs421
                    obtain ⟨hv576, hg577⟩ := hd573 4 (by decide)
                    refine ⟨_, some (), rfl, fun _ => ?_⟩
                    refine s_env (env' := [(89, .bool y435), (3, .pointer (some ⟨b1, 0, none⟩))]) (by exact ⟨congrArg some hv576, rfl, trivial⟩) ?_
                    refine s_want rfl rfl h444 ?_
                    refine o_fa rfl ?_
                    exact s_pred fun tm w ht hE hI => ⟨(.pointer (some ⟨b1, 1, none⟩)), [], _, fun d hd => (by cases hd; exact hE _ _ rfl), .refl _, by exact hI, ⟨rfl, rfl⟩⟩
                  refine dcons ?_ ?_
                  · intro V578 G579 H580 fr581 hle582 hd583
                    have hs585 := RSl.mono hle582 hs421
                    obtain ⟨hv586, hg587⟩ := hd583 4 (by decide)
                    obtain ⟨hv588, hg589⟩ := hd583 7 (by decide)
                    refine ⟨_, some (), rfl, fun _ => ?_⟩
                    refine s_env (env' := [(89, .bool y435), (92, .pointer (some ⟨b1, 1, none⟩))]) (by exact ⟨congrArg some hv586, congrArg some hv588, trivial⟩) ?_
                    refine s_want rfl rfl h444 ?_
                    refine o_ld 0 rfl rfl rfl ?_
                    exact s_pred fun tm w ht hE hI => ⟨(.slice a5 y3.Links.length c6), [], _, fun d hd => (by cases hd; exact hE _ _ rfl), .refl _, by exact hI, ⟨rfl, rfl, hs585⟩⟩
                  refine dcons ?_ ?_
                  · intro V590 G591 H592 fr593 hle594 hd595
                    obtain ⟨hv597, hg598⟩ := hd595 4 (by decide)
                    refine ⟨_, some (), rfl, fun _ => ?_⟩
                    refine s_env (env' := [(89, .bool y435), (14, .int .i64 s412.2)]) (by exact ⟨congrArg some hv597, rfl, trivial⟩) ?_
                    refine s_want rfl rfl h444 ?_
                    refine o_mov rfl ?_
                    exact s_pred fun tm w ht hE hI => ⟨(.int .i64 s412.2), [], _, fun d hd => (by cases hd; exact hE _ _ rfl), .refl _, by exact hI, ⟨rfl, rfl⟩⟩
                  refine dcons ?_ ?_
                  · intro V599 G600 H601 fr602 hle603 hd604
                    obtain ⟨hv606, hg607⟩ := hd604 4 (by decide)
                    obtain ⟨hv608, hg609, hp610⟩ := hd604 8 (by decide)
                    obtain ⟨hv611, hg612⟩ := hd604 9 (by decide)
                    refine ⟨_, (rd y3.Links s412.2).bind some, by rw [h450]; rfl, fun _ => ?_⟩
                    refine s_env (env' := [(89, .bool y435), (93, .slice a5 y3.Links.length c6), (94, .int .i64 s412.2)]) (by exact ⟨congrArg some hv606, congrArg some hv608, congrArg some hv611, trivial⟩) ?_
                    refine s_want rfl rfl h444 ?_
                    refine o_ixf hp610 rfl rfl fun y445 bk614 of615 h613 hc616 => ?_
                    obtain rfl := Option.some.inj (h450.symm.trans h613)
                    exact s_pred fun tm w ht hE hI => ⟨(.pointer (some ⟨bk614, of615, none⟩)), [], _, fun d hd => (by cases hd; exact hE _ _ rfl), .refl _, by exact hI, ⟨bk614, of615, rfl, rfl, hc616⟩⟩
                  refine dcons ?_ ?_
                  · intro V617 G618 H619 fr620 hle621 hd622
                    obtain ⟨hv624, hg625⟩ := hd622 4 (by decide)
                    obtain ⟨bk626, of627, hv628, hg629, hp630⟩ := hd622 10 (by decide)
                    refine ⟨_, some (), rfl, fun _ => ?_⟩
                    refine s_env (env' := [(89, .bool y435), (95, .pointer (some ⟨bk626, of627, none⟩))]) (by exact ⟨congrArg some hv624, congrArg some hv628, trivial⟩) ?_
                    refine s_want rfl rfl h444 ?_
                    refine o_fa rfl ?_
                    exact s_pred fun tm w ht hE hI => ⟨(.pointer (some ⟨bk626, of627, none⟩)), [], _, fun d hd => (by cases hd; exact hE _ _ rfl), .refl _, by exact hI, ⟨bk626, of627, rfl, rfl, hp630⟩⟩
                  refine dcons ?_ ?_
                  · intro V631 G632 H633 fr634 hle635 hd636
                    obtain ⟨hv638, hg639⟩ := hd636 4 (by decide)
                    obtain ⟨bk640, of641, hv642, hg643, hp644⟩ := hd636 11 (by decide)
                    refine ⟨_, some (), rfl, fun _ => ?_⟩
                    refine s_env (env' := [(89, .bool y435), (96, .pointer (some ⟨bk640, of641, none⟩))]) (by exact ⟨congrArg some hv638, congrArg some hv642, trivial⟩) ?_
                    refine s_want rfl rfl h444 ?_
                    refine o_fa rfl ?_
                    exact s_pred fun tm w ht hE hI => ⟨(.pointer (some ⟨bk640, of641, none⟩)), [], _, fun d hd => (by cases hd; exact hE _ _ rfl), .refl _, by exact hI, ⟨bk640, of641, rfl, rfl, hp644⟩⟩
                  refine dcons ?_ ?_
                  · intro V645 G646 H647 fr648 hle649 hd650
                    obtain ⟨hv652, hg653⟩ := hd650 4 (by decide)
                    obtain ⟨bk654, of655, hv656, hg657, hp658⟩ := hd650 12 (by decide)
                    refine ⟨_, some (), rfl, fun _ => ?_⟩
                    refine s_env (env' := [(89, .bool y435), (97, .pointer (some ⟨bk654, of655, none⟩))]) (by exact ⟨congrArg some hv652, congrArg some hv656, trivial⟩) ?_
                    refine s_want rfl rfl h444 ?_
                    refine o_ldH 0 hp658 rfl rfl rfl ?_
                    exact s_pred fun tm w ht hE hI => ⟨(.int .i64 y445.A.Switch), [], _, fun d hd => (by cases hd; exact hE _ _ rfl), .refl _, by exact hI, ⟨rfl, rfl⟩⟩
                  refine dcons ?_ ?_
                  · intro V659 G660 H661 fr662 hle663 hd664
                    have hA666 := All2.mono (fun _ _ => GoT.mono hle663) hA416
                    obtain ⟨hv667, hg668⟩ := hd664 4 (by decide)
                    obtain ⟨hv669, hg670, hp671⟩ := hd664 5 (by decide)
                    obtain ⟨hv672, hg673⟩ := hd664 6 (by decide)
                    obtain ⟨hv674, hg675⟩ := hd664 13 (by decide)
                    refine ⟨_, (graph_Reach k y3 s412.1 y445.A.Switch).bind some, by rw [h457]; rfl, fun _ => ?_⟩
                    refine s_env (env' := [(89, .bool y435), (90, .agg #[.int .i64 y3.Switches, .slice a5 y3.Links.length c6]), (91, .slice (some ⟨bk437, 0, none⟩) s412.1.length c414), (98, .int .i64 y445.A.Switch)]) (by exact ⟨congrArg some hv667, congrArg some hv669, congrArg some hv672, congrArg some hv674, trivial⟩) ?_
                    refine s_want rfl rfl h444 ?_
                    refine s_bg fun y451 h676 => ?_
                    refine s_callL (Φ := fun v out => ∃ a0 c0, v = .slice a0 y451.length c0 ∧ out = [.osl (.slice a0 y451.length c0) 1 3 (y451.map GoE.enc)]) [] _ rfl rfl (.refl _) (fun H' hle hl => graph_Reach_ok k _ y3 _ _ (RSl.mono hle hp671) s412.1 _ _ (lent_rsl (hl _ (List.mem_of_getElem? (i := 1) rfl)) hA666 hle).2 y445.A.Switch h676) ?_
                    rintro _ _ ⟨a677, c678, rfl, rfl⟩
                    have hA680 : All2 (GoT.rep H661) (y451.map GoE.enc) y451 := all2_enc _
                    obtain rfl := Option.some.inj (h457.symm.trans h676)
                    refine s_perm (own' := [.blk b1 (rowObj [.int .i64 y3.Switches, .slice a5 y3.Links.length c6] 24), .osl (.slice (some ⟨bk437, 0, none⟩) s412.1.length c414) 1 4 ls415, .osl (.slice a27 (([] : List Bool) ++ p16).length c28) 1 4 (([]) ++ ls19), .osl (.slice a677 y451.length c678) 1 3 (y451.map GoE.enc)] ++ fr662) (pm3 (a := [.blk b1 (rowObj [.int .i64 y3.Switches, .slice a5 y3.Links.length c6] 24), .osl (.slice (some ⟨bk437, 0, none⟩) s412.1.length c414) 1 4 ls415, .osl (.slice a27 (([] : List Bool) ++ p16).length c28) 1 4 (([]) ++ ls19)]) (xs := [.osl (.slice a677 y451.length c678) 1 3 (y451.map GoE.enc)])) ?_
                    refine s_frz 3 (fun b => .inl (by simp [ids])) rfl hA680 fun H681 hle682 hn683 hs684 => ?_
                    have hs685 := RSl.mono hle682 hp671
                    have hA686 := All2.mono (fun _ _ => GoT.mono hle682) hA666
                    exact s_pred fun tm w ht hE hI => ⟨(.slice a677 y451.length c678), [], _, fun d hd => (by cases hd; exact hE _ _ rfl), hle682, by exact hI, ⟨a677, c678, rfl, rfl, hs684⟩⟩
                  refine dcons ?_ ?_
                  · intro V687 G688 H689 fr690 hle691 hd692
                    have hs694 := RSl.mono hle691 hs421
                    obtain ⟨hv695, hg696⟩ := hd692 4 (by decide)
                    refine ⟨_, some (), rfl, fun _ => ?_⟩
                    refine s_env (env' := [(89, .bool y435), (3, .pointer (some ⟨b1, 0, none⟩))]) (by exact ⟨congrArg some hv695, rfl, trivial⟩) ?_
                    refine s_want rfl rfl h444 ?_
                    refine o_fa rfl ?_
                    exact s_pred fun tm w ht hE hI => ⟨(.pointer (some ⟨b1, 1, none⟩)), [], _, fun d hd => (by cases hd; exact hE _ _ rfl), .refl _, by exact hI, ⟨rfl, rfl⟩⟩
                  refine dcons ?_ ?_
                  · intro V697 G698 H699 fr700 hle701 hd702
                    have hs704 := RSl.mono hle701 hs421
                    obtain ⟨hv705, hg706⟩ := hd702 4 (by decide)
                    obtain ⟨hv707, hg708⟩ := hd702 15 (by decide)
                    refine ⟨_, some (), rfl, fun _ => ?_⟩
                    refine s_env (env' := [(89, .bool y435), (100, .pointer (some ⟨b1, 1, none⟩))]) (by exact ⟨congrArg some hv705, congrArg some hv707, trivial⟩) ?_
                    refine s_want rfl rfl h444 ?_
                    refine o_ld 0 rfl rfl rfl ?_
                    exact s_pred fun tm w ht hE hI => ⟨(.slice a5 y3.Links.length c6), [], _, fun d hd => (by cases hd; exact hE _ _ rfl), .refl _, by exact hI, ⟨rfl, rfl, hs704⟩⟩
                  refine dcons ?_ ?_
                  · intro V709 G710 H711 fr712 hle713 hd714
                    obtain ⟨hv716, hg717⟩ := hd714 4 (by decide)
                    refine ⟨_, some (), rfl, fun _ => ?_⟩
                    refine s_env (env' := [(89, .bool y435), (14, .int .i64 s412.2)]) (by exact ⟨congrArg some hv716, rfl, trivial⟩) ?_
                    refine s_want rfl rfl h444 ?_
                    refine o_mov rfl ?_
                    exact s_pred fun tm w ht hE hI => ⟨(.int .i64 s412.2), [], _, fun d hd => (by cases hd; exact hE _ _ rfl), .refl _, by exact hI, ⟨rfl, rfl⟩⟩
                  refine dcons ?_ ?_
                  · intro V718 G719 H720 fr721 hle722 hd723
                    obtain ⟨hv725, hg726⟩ := hd723 4 (by decide)
                    obtain ⟨hv727, hg728, hp729⟩ := hd723 16 (by decide)
                    obtain ⟨hv730, hg731⟩ := hd723 17 (by decide)
                    refine ⟨_, (rd y3.Links s412.2).bind some, by rw [h463]; rfl, fun _ => ?_⟩
                    refine s_env (env' := [(89, .bool y435), (101, .slice a5 y3.Links.length c6), (102, .int .i64 s412.2)]) (by exact ⟨congrArg some hv725, congrArg some hv727, congrArg some hv730, trivial⟩) ?_
                    refine s_want rfl rfl h444 ?_
                    refine o_ixf hp729 rfl rfl fun y458 bk733 of734 h732 hc735 => ?_
                    obtain rfl := Option.some.inj (h463.symm.trans h732)
                    exact s_pred fun tm w ht hE hI => ⟨(.pointer (some ⟨bk733, of734, none⟩)), [], _, fun d hd => (by cases hd; exact hE _ _ rfl), .refl _, by exact hI, ⟨bk733, of734, rfl, rfl, hc735⟩⟩
                  refine dcons ?_ ?_
                  · intro V736 G737 H738 fr739 hle740 hd741
                    obtain ⟨hv743, hg744⟩ := hd741 4 (by decide)
                    obtain ⟨bk745, of746, hv747, hg748, hp749⟩ := hd741 18 (by decide)
                    refine ⟨_, some (), rfl, fun _ => ?_⟩
                    refine s_env (env' := [(89, .bool y435), (103, .pointer (some ⟨bk745, of746, none⟩))]) (by exact ⟨congrArg some hv743, congrArg some hv747, trivial⟩) ?_
                    refine s_want rfl rfl h444 ?_
                    refine o_fa rfl ?_
                    exact s_pred fun tm w ht hE hI => ⟨(.pointer (some ⟨bk745, of746 + 2, none⟩)), [], _, fun d hd => (by cases hd; exact hE _ _ rfl), .refl _, by exact hI, ⟨bk745, of746, rfl, rfl, hp749⟩⟩
                  refine dcons ?_ ?_
                  · intro V750 G751 H752 fr753 hle754 hd755
                    obtain ⟨hv757, hg758⟩ := hd755 4 (by decide)
                    obtain ⟨bk759, of760, hv761, hg762, hp763⟩ := hd755 19 (by decide)
                    refine ⟨_, some (), rfl, fun _ => ?_⟩
                    refine s_env (env' := [(89, .bool y435), (104, .pointer (some ⟨bk759, of760 + 2, none⟩))]) (by exact ⟨congrArg some hv757, congrArg some hv761, trivial⟩) ?_
                    refine s_want rfl rfl h444 ?_
                    refine o_fa rfl ?_
                    exact s_pred fun tm w ht hE hI => ⟨(.pointer (some ⟨bk759, of760 + 2, none⟩)), [], _, fun d hd => (by cases hd; exact hE _ _ rfl), .refl _, by exact hI, ⟨bk759, of760, rfl, rfl, hp763⟩⟩
                  refine dcons ?_ ?_
                  · intro V764 G765 H766 fr767 hle768 hd769
                    obtain ⟨hv771, hg772⟩ := hd769 4 (by decide)
                    obtain ⟨bk773, of774, hv775, hg776, hp777⟩ := hd769 20 (by decide)
                    refine ⟨_, some (), rfl, fun _ => ?_⟩
                    refine s_env (env' := [(89, .bool y435), (105, .pointer (some ⟨bk773, of774 + 2, none⟩))]) (by exact ⟨congrArg some hv771, congrArg some hv775, trivial⟩) ?_
                    refine s_want rfl rfl h444 ?_
                    refine o_ldH 2 hp777 rfl rfl rfl ?_
                    exact s_pred fun tm w ht hE hI => ⟨(.int .i64 y458.B.Switch), [], _, fun d hd => (by cases hd; exact hE _ _ rfl), .refl _, by exact hI, ⟨rfl, rfl⟩⟩
                  refine dcons ?_ ?_
                  · intro V778 G779 H780 fr781 hle782 hd783
                    obtain ⟨hv785, hg786⟩ := hd783 4 (by decide)
                    obtain ⟨a787, c788, hv789, hg790, hp791⟩ := hd783 14 (by decide)
                    obtain ⟨hv792, hg793⟩ := hd783 21 (by decide)
                    refine ⟨_, (catenarylaw12_in k y451 y458.B.Switch).bind some, by rw [h466]; rfl, fun _ => ?_⟩
                    refine s_env (env' := [(89, .bool y435), (99, .slice a787 y451.length c788), (106, .int .i64 y458.B.Switch)]) (by exact ⟨congrArg some hv785, congrArg some hv789, congrArg some hv792, trivial⟩) ?_
                    refine s_want rfl rfl h444 ?_
                    refine s_bg fun y464 h794 => ?_
                    refine s_callF rfl rfl (catenarylaw12_in_ok k _ y451 _ _ hp791 y458.B.Switch h794) ?_
                    obtain rfl := Option.some.inj (h466.symm.trans h794)
                    exact s_pred fun tm w ht hE hI => ⟨(.bool y464), [], _, fun d hd => (by cases hd; exact hE _ _ rfl), .refl _, by exact hI, ⟨rfl, rfl⟩⟩
                  refine dcons ?_ ?_
                  · intro V795 G796 H797 fr798 hle799 hd800
                    obtain ⟨hv802, hg803⟩ := hd800 4 (by decide)
                    obtain ⟨hv804, hg805⟩ := hd800 22 (by decide)
                    refine ⟨_, some (), rfl, fun _ => ?_⟩
                    refine s_env (env' := [(89, .bool y435), (107, .bool y464)]) (by exact ⟨congrArg some hv802, congrArg some hv804, trivial⟩) ?_
                    refine s_want rfl rfl h444 ?_
                    refine o_not rfl ?_
                    exact s_pred fun tm w ht hE hI => ⟨(.bool (!y464)), [], _, fun d hd => (by cases hd; exact hE _ _ rfl), .refl _, by exact hI, ⟨rfl, rfl⟩⟩
                  refine dcons ?_ ?_
                  · intro V806 G807 H808 fr809 hle810 hd811
                    obtain ⟨hv813, hg814⟩ := hd811 4 (by decide)
                    obtain ⟨hv815, hg816⟩ := hd811 23 (by decide)
                    refine ⟨_, some (), rfl, fun _ => ?_⟩
                    refine s_env (env' := [(89, .bool y435), (108, .bool (!y464))]) (by exact ⟨congrArg some hv813, congrArg some hv815, trivial⟩) ?_
                    refine o_pickT rfl h444 rfl ?_
                    exact s_pred fun tm w ht hE hI => ⟨(.bool (!y464)), [], _, fun d hd => (by cases hd; exact hE _ _ rfl), .refl _, by exact hI, ⟨rfl, rfl⟩⟩
                  exact dnil
                · intro V819 G820 H817 hle818 hF821
                  have hs822 := RSl.mono hle818 hs421
                  have hA823 := All2.mono (fun _ _ => GoT.mono hle818) hA416
                  have hA824 := All2.mono (fun _ _ => GoT.mono hle818) hA422
                  obtain ⟨hv825, hg826⟩ := hF821 24 (show 24 < 25 by decide)
                  refine s_env (env' := [(109, .bool (!y464)), (3, .pointer (some ⟨b1, 0, none⟩)), (7, .slice (some ⟨bk437, 0, none⟩) s412.1.length c414), (9, .slice a27 (([] : List Bool) ++ p16).length c28), (14, .int .i64 s412.2), (79, .int .i64 s412.2), (80, .slice (some ⟨bk437, 0, none⟩) s412.1.length c414), (81, .int .i64 (s412.1.length : Int)), (82, .bool (decide (s412.2 < (s412.1.length : Int))))]) (by exact ⟨congrArg some hv825, rfl, rfl, rfl, rfl, rfl, rfl, rfl, rfl, trivial⟩) ?_
                  refine s_own (List.sublist_append_left _ _) ?_
                  refine s_done ?_
                  exact s_env (by exact ⟨rfl, rfl, rfl, rfl, rfl, trivial⟩) (s_own (by exact (.cons_cons _ (.cons_cons _ (.cons_cons _ .slnil)))) (J434 (s412.1, !y464) _ _ _ ⟨_, _, _, rfl, rfl, hle818, hA823⟩))
              · refine s_drawL [(fun H v g => v = Value.slice (some ⟨bk437, 0, none⟩) s412.1.length c414 ∧ g = []),
      (fun H v g => v = Value.int .i64 s412.2 ∧ g = []),
      (fun H v g => v = Value.pointer (some ⟨bk437, (s412.2 : Int).toNat * GoT.sz (Bool), none⟩) ∧ g = [] ∧ (ls415)[(s412.2 : Int).toNat]? = some [.bool y435]),
      (fun H v g => v = Value.bool y435 ∧ g = []),
      (fun H v g => v = Value.bool y435 ∧ g = []),
      (fun H v g => v = undef ∧ g = []),
      (fun H v g => v = undef ∧ g = []),
      (fun H v g => v = undef ∧ g = []),
      (fun H v g => v = undef ∧ g = []),
      (fun H v g => v = undef ∧ g = []),
      (fun H v g => v = undef ∧ g = []),
      (fun H v g => v = undef ∧ g = []),
      (fun H v g => v = undef ∧ g = []),
      (fun H v g => v = undef ∧ g = []),
      (fun H v g => v = undef ∧ g = []),
      (fun H v g => v = undef ∧ g = []),
      (fun H v g => v = undef ∧ g = []),
      (fun H v g => v = undef ∧ g = []),
      (fun H v g => v = undef ∧ g = []),
      (fun H v g => v = undef ∧ g = []),
      (fun H v g => v = undef ∧ g = []),
      (fun H v g => v = undef ∧ g = []),
      (fun H v g => v = undef ∧ g = []),
      (fun H v g => v = undef ∧ g = []),
      (fun H v g => v = Value.bool false ∧ g = [])] [[], [], [], [], [], [], [], [], [], [], [], [], [], [], [], [], [], [], [], [], [], [], [], [], []] mixed ⟨fun _ _ _ _ _ h => h, fun _ _ _ _ _ h => h, fun _ _ _ _ _ h => h, fun _ _ _ _ _ h => h, fun _ _ _ _ _ h => h, fun _ _ _ _ _ h => h, fun _ _ _ _ _ h => h, fun _ _ _ _ _ h => h, fun _ _ _ _ _ h => h, fun _ _ _ _ _ h => h, fun _ _ _ _ _ h => h, fun _ _ _ _ _ h => h, fun _ _ _ _ _ h => h, fun _ _ _ _ _ h => h, fun _ _ _ _ _ h => h, fun _ _ _ _ _ h => h, fun _ _ _ _ _ h => h, fun _ _ _ _ _ h => h, fun _ _ _ _ _ h => h, fun _ _ _ _ _ h => h, fun _ _ _ _ _ h => h, fun _ _ _ _ _ h => h, fun _ _ _ _ _ h => h, fun _ _ _ _ _ h => h, fun _ _ _ _ _ h => h, trivial⟩ (by kernel_rfl) (by kernel_rfl) rfl (by kernel_rfl) rfl rfl ?_ ?_
                · refine dcons ?_ ?_
                  · intro V833 G834 H835 fr836 hle837 hd838
                    have hA840 := All2.mono (fun _ _ => GoT.mono hle837) hA416
                    refine ⟨_, some (), rfl, fun _ => ?_⟩
                    refine s_env (env' := [(7, .slice (some ⟨bk437, 0, none⟩) s412.1.length c414)]) (by exact ⟨rfl, trivial⟩) ?_
                    refine o_mov rfl ?_
                    exact s_pred fun tm w ht hE hI => ⟨(.slice (some ⟨bk437, 0, none⟩) s412.1.length c414), [], _, fun d hd => (by cases hd; exact hE _ _ rfl), .refl _, by exact hI, ⟨rfl, rfl⟩⟩
                  refine dcons ?_ ?_
                  · intro V841 G842 H843 fr844 hle845 hd846
                    refine ⟨_, some (), rfl, fun _ => ?_⟩
                    refine s_env (env' := [(14, .int .i64 s412.2)]) (by exact ⟨rfl, trivial⟩) ?_
                    refine o_mov rfl ?_
                    exact s_pred fun tm w ht hE hI => ⟨(.int .i64 s412.2), [], _, fun d hd => (by cases hd; exact hE _ _ rfl), .refl _, by exact hI, ⟨rfl, rfl⟩⟩
                  refine dcons ?_ ?_
                  · intro V848 G849 H850 fr851 hle852 hd853
                    have hA855 := All2.mono (fun _ _ => GoT.mono hle852) hA416
                    obtain ⟨hv856, hg857⟩ := hd853 0 (by decide)
                    obtain ⟨hv858, hg859⟩ := hd853 1 (by decide)
                    refine ⟨_, (rd s412.1 s412.2).bind some, by rw [h442]; rfl, fun _ => ?_⟩
                    refine s_env (env' := [(85, .slice (some ⟨bk437, 0, none⟩) s412.1.length c414), (86, .int .i64 s412.2)]) (by exact ⟨congrArg some hv856, congrArg some hv858, trivial⟩) ?_
                    refine o_ixO 1 rfl hA855 rfl rfl fun y435 bk861 vs862 h860 ha863 hi864 hr865 => ?_
                    subst hr865
                    obtain rfl := s_bk ha863
                    obtain rfl := Option.some.inj (h442.symm.trans h860)
                    exact s_pred fun tm w ht hE hI => ⟨(.pointer (some ⟨bk437, (s412.2 : Int).toNat * GoT.sz (Bool), none⟩)), [], _, fun d hd => (by cases hd; exact hE _ _ rfl), .refl _, by exact hI, ⟨rfl, rfl, hi864⟩⟩
                  refine dcons ?_ ?_
                  · intro V866 G867 H868 fr869 hle870 hd871
                    have hA873 := All2.mono (fun _ _ => GoT.mono hle870) hA416
                    obtain ⟨hv874, hg875, hp876⟩ := hd871 2 (by decide)
                    refine ⟨_, some (), rfl, fun _ => ?_⟩
                    refine s_env (env' := [(87, .pointer (some ⟨bk437, (s412.2 : Int).toNat * GoT.sz (Bool), none⟩))]) (by exact ⟨congrArg some hv874, trivial⟩) ?_
                    refine o_ldO 1 0 rfl hp876 rfl rfl rfl ?_
                    exact s_pred fun tm w ht hE hI => ⟨(.bool y435), [], _, fun d hd => (by cases hd; exact hE _ _ rfl), .refl _, by exact hI, ⟨rfl, rfl⟩⟩
                  refine dcons ?_ ?_
                  · intro V877 G878 H879 fr880 hle881 hd882
                    obtain ⟨hv884, hg885⟩ := hd882 3 (by decide)
                    refine ⟨_, some (), rfl, fun _ => ?_⟩
                    refine s_env (env' := [(88, .bool y435)]) (by exact ⟨congrArg some hv884, trivial⟩) ?_
                    refine o_mov rfl ?_
                    exact s_pred fun tm w ht hE hI => ⟨(.bool y435), [], _, fun d hd => (by cases hd; exact hE _ _ rfl), .refl _, by exact hI, ⟨rfl, rfl⟩⟩
                  refine dcons ?_ ?_
                  · intro V886 G887 H888 fr889 hle890 hd891
                    have hs893 := RSl.mono hle890 hs421
                    obtain ⟨hv894, hg895⟩ := hd891 4 (by decide)
                    refine ⟨_, some (), rfl, fun _ => ?_⟩
                    refine s_env (env' := [(89, .bool y435), (3, .pointer (some ⟨b1, 0, none⟩))]) (by exact ⟨congrArg some hv894, rfl, trivial⟩) ?_
                    refine s_unwant rfl rfl h444 ?_
                    exact s_pred fun tm w ht hE hI => ⟨undef, [], _, fun d hd => (by cases hd; exact hE _ _ rfl), .refl _, by exact hI, ⟨rfl, rfl⟩⟩
                  refine dcons ?_ ?_
                  · intro V896 G897 H898 fr899 hle900 hd901
                    have hA903 := All2.mono (fun _ _ => GoT.mono hle900) hA416
                    obtain ⟨hv904, hg905⟩ := hd901 4 (by decide)
                    refine ⟨_, some (), rfl, fun _ => ?_⟩
                    refine s_env (env' := [(89, .bool y435), (7, .slice (some ⟨bk437, 0, none⟩) s412.1.length c414)]) (by exact ⟨congrArg some hv904, rfl, trivial⟩) ?_
                    refine s_unwant rfl rfl h444 ?_
                    exact s_pred fun tm w ht hE hI => ⟨undef, [], _, fun d hd => (by cases hd; exact hE _ _ rfl), .refl _, by exact hI, ⟨rfl, rfl⟩⟩
                  refine dcons ?_ ?_
                  · intro V906 G907 H908 fr909 hle910 hd911
                    have hs913 := RSl.mono hle910 hs421
                    obtain ⟨hv914, hg915⟩ := hd911 4 (by decide)
                    refine ⟨_, some (), rfl, fun _ => ?_⟩
                    refine s_env (env' := [(89, .bool y435), (3, .pointer (some ⟨b1, 0, none⟩))]) (by exact ⟨congrArg some hv914, rfl, trivial⟩) ?_
                    refine s_unwant rfl rfl h444 ?_
                    exact s_pred fun tm w ht hE hI => ⟨undef, [], _, fun d hd => (by cases hd; exact hE _ _ rfl), .refl _, by exact hI, ⟨rfl, rfl⟩⟩
                  refine dcons ?_ ?_
                  · intro V916 G917 H918 fr919 hle920 hd921
                    obtain ⟨hv923, hg924⟩ := hd921 4 (by decide)
                    obtain ⟨hv925, hg926⟩ := hd921 7 (by decide)
                    refine ⟨_, some (), rfl, fun _ => ?_⟩
                    refine s_env (env' := [(89, .bool y435), (92, undef)]) (by exact ⟨congrArg some hv923, congrArg some hv925, trivial⟩) ?_
                    refine s_unwant rfl rfl h444 ?_
                    exact s_pred fun tm w ht hE hI => ⟨undef, [], _, fun d hd => (by cases hd; exact hE _ _ rfl), .refl _, by exact hI, ⟨rfl, rfl⟩⟩
                  refine dcons ?_ ?_
                  · intro V927 G928 H929 fr930 hle931 hd932
                    obtain ⟨hv934, hg935⟩ := hd932 4 (by decide)
                    refine ⟨_, some (), rfl, fun _ => ?_⟩
                    refine s_env (env' := [(89, .bool y435), (14, .int .i64 s412.2)]) (by exact ⟨congrArg some hv934, rfl, trivial⟩) ?_
                    refine s_unwant rfl rfl h444 ?_
                    exact s_pred fun tm w ht hE hI => ⟨undef, [], _, fun d hd => (by cases hd; exact hE _ _ rfl), .refl _, by exact hI, ⟨rfl, rfl⟩⟩
                  refine dcons ?_ ?_
                  · intro V936 G937 H938 fr939 hle940 hd941
                    obtain ⟨hv943, hg944⟩ := hd941 4 (by decide)
                    obtain ⟨hv945, hg946⟩ := hd941 8 (by decide)
                    obtain ⟨hv947, hg948⟩ := hd941 9 (by decide)
                    refine ⟨_, some (), rfl, fun _ => ?_⟩
                    refine s_env (env' := [(89, .bool y435), (93, undef), (94, undef)]) (by exact ⟨congrArg some hv943, congrArg some hv945, congrArg some hv947, trivial⟩) ?_
                    refine s_unwant rfl rfl h444 ?_
                    exact s_pred fun tm w ht hE hI => ⟨undef, [], _, fun d hd => (by cases hd; exact hE _ _ rfl), .refl _, by exact hI, ⟨rfl, rfl⟩⟩
                  refine dcons ?_ ?_
                  · intro V949 G950 H951 fr952 hle953 hd954
                    obtain ⟨hv956, hg957⟩ := hd954 4 (by decide)
                    obtain ⟨hv958, hg959⟩ := hd954 10 (by decide)
                    refine ⟨_, some (), rfl, fun _ => ?_⟩
                    refine s_env (env' := [(89, .bool y435), (95, undef)]) (by exact ⟨congrArg some hv956, congrArg some hv958, trivial⟩) ?_
                    refine s_unwant rfl rfl h444 ?_
                    exact s_pred fun tm w ht hE hI => ⟨undef, [], _, fun d hd => (by cases hd; exact hE _ _ rfl), .refl _, by exact hI, ⟨rfl, rfl⟩⟩
                  refine dcons ?_ ?_
                  · intro V960 G961 H962 fr963 hle964 hd965
                    obtain ⟨hv967, hg968⟩ := hd965 4 (by decide)
                    obtain ⟨hv969, hg970⟩ := hd965 11 (by decide)
                    refine ⟨_, some (), rfl, fun _ => ?_⟩
                    refine s_env (env' := [(89, .bool y435), (96, undef)]) (by exact ⟨congrArg some hv967, congrArg some hv969, trivial⟩) ?_
                    refine s_unwant rfl rfl h444 ?_
                    exact s_pred fun tm w ht hE hI => ⟨undef, [], _, fun d hd => (by cases hd; exact hE _ _ rfl), .refl _, by exact hI, ⟨rfl, rfl⟩⟩
                  refine dcons ?_ ?_
                  · intro V971 G972 H973 fr974 hle975 hd976
                    obtain ⟨hv978, hg979⟩ := hd976 4 (by decide)
                    obtain ⟨hv980, hg981⟩ := hd976 12 (by decide)
                    refine ⟨_, some (), rfl, fun _ => ?_⟩
                    refine s_env (env' := [(89, .bool y435), (97, undef)]) (by exact ⟨congrArg some hv978, congrArg some hv980, trivial⟩) ?_
                    refine s_unwant rfl rfl h444 ?_
                    exact s_pred fun tm w ht hE hI => ⟨undef, [], _, fun d hd => (by cases hd; exact hE _ _ rfl), .refl _, by exact hI, ⟨rfl, rfl⟩⟩
                  refine dcons ?_ ?_
                  · intro V982 G983 H984 fr985 hle986 hd987
                    obtain ⟨hv989, hg990⟩ := hd987 4 (by decide)
                    obtain ⟨hv991, hg992⟩ := hd987 5 (by decide)
                    obtain ⟨hv993, hg994⟩ := hd987 6 (by decide)
                    obtain ⟨hv995, hg996⟩ := hd987 13 (by decide)
                    refine ⟨_, some (), rfl, fun _ => ?_⟩
                    refine s_env (env' := [(89, .bool y435), (90, undef), (91, undef), (98, undef)]) (by exact ⟨congrArg some hv989, congrArg some hv991, congrArg some hv993, congrArg some hv995, trivial⟩) ?_
                    refine s_unwant rfl rfl h444 ?_
                    exact s_pred fun tm w ht hE hI => ⟨undef, [], _, fun d hd => (by cases hd; exact hE _ _ rfl), .refl _, by exact hI, ⟨rfl, rfl⟩⟩
                  refine dcons ?_ ?_
                  · intro V997 G998 H999 fr1000 hle1001 hd1002
                    have hs1004 := RSl.mono hle1001 hs421
                    obtain ⟨hv1005, hg1006⟩ := hd1002 4 (by decide)
                    refine ⟨_, some (), rfl, fun _ => ?_⟩
                    refine s_env (env' := [(89, .bool y435), (3, .pointer (some ⟨b1, 0, none⟩))]) (by exact ⟨congrArg some hv1005, rfl, trivial⟩) ?_
                    refine s_unwant rfl rfl h444 ?_
                    exact s_pred fun tm w ht hE hI => ⟨undef, [], _, fun d hd => (by cases hd; exact hE _ _ rfl), .refl _, by exact hI, ⟨rfl, rfl⟩⟩
                  refine dcons ?_ ?_
                  · intro V1007 G1008 H1009 fr1010 hle1011 hd1012
                    obtain ⟨hv1014, hg1015⟩ := hd1012 4 (by decide)
                    obtain ⟨hv1016, hg1017⟩ := hd1012 15 (by decide)
                    refine ⟨_, some (), rfl, fun _ => ?_⟩
                    refine s_env (env' := [(89, .bool y435), (100, undef)]) (by exact ⟨congrArg some hv1014, congrArg some hv1016, trivial⟩) ?_
                    refine s_unwant rfl rfl h444 ?_
                    exact s_pred fun tm w ht hE hI => ⟨undef, [], _, fun d hd => (by cases hd; exact hE _ _ rfl), .refl _, by exact hI, ⟨rfl, rfl⟩⟩
                  refine dcons ?_ ?_
                  · intro V1018 G1019 H1020 fr1021 hle1022 hd1023
                    obtain ⟨hv1025, hg1026⟩ := hd1023 4 (by decide)
                    refine ⟨_, some (), rfl, fun _ => ?_⟩
                    refine s_env (env' := [(89, .bool y435), (14, .int .i64 s412.2)]) (by exact ⟨congrArg some hv1025, rfl, trivial⟩) ?_
                    refine s_unwant rfl rfl h444 ?_
                    exact s_pred fun tm w ht hE hI => ⟨undef, [], _, fun d hd => (by cases hd; exact hE _ _ rfl), .refl _, by exact hI, ⟨rfl, rfl⟩⟩
                  refine dcons ?_ ?_
                  · intro V1027 G1028 H1029 fr1030 hle1031 hd1032
                    obtain ⟨hv1034, hg1035⟩ := hd1032 4 (by decide)
                    obtain ⟨hv1036, hg1037⟩ := hd1032 16 (by decide)
                    obtain ⟨hv1038, hg1039⟩ := hd1032 17 (by decide)
                    refine ⟨_, some (), rfl, fun _ => ?_⟩
                    refine s_env (env' := [(89, .bool y435), (101, undef), (102, undef)]) (by exact ⟨congrArg some hv1034, congrArg some hv1036, congrArg some hv1038, trivial⟩) ?_
                    refine s_unwant rfl rfl h444 ?_
                    exact s_pred fun tm w ht hE hI => ⟨undef, [], _, fun d hd => (by cases hd; exact hE _ _ rfl), .refl _, by exact hI, ⟨rfl, rfl⟩⟩
                  refine dcons ?_ ?_
                  · intro V1040 G1041 H1042 fr1043 hle1044 hd1045
                    obtain ⟨hv1047, hg1048⟩ := hd1045 4 (by decide)
                    obtain ⟨hv1049, hg1050⟩ := hd1045 18 (by decide)
                    refine ⟨_, some (), rfl, fun _ => ?_⟩
                    refine s_env (env' := [(89, .bool y435), (103, undef)]) (by exact ⟨congrArg some hv1047, congrArg some hv1049, trivial⟩) ?_
                    refine s_unwant rfl rfl h444 ?_
                    exact s_pred fun tm w ht hE hI => ⟨undef, [], _, fun d hd => (by cases hd; exact hE _ _ rfl), .refl _, by exact hI, ⟨rfl, rfl⟩⟩
                  refine dcons ?_ ?_
                  · intro V1051 G1052 H1053 fr1054 hle1055 hd1056
                    obtain ⟨hv1058, hg1059⟩ := hd1056 4 (by decide)
                    obtain ⟨hv1060, hg1061⟩ := hd1056 19 (by decide)
                    refine ⟨_, some (), rfl, fun _ => ?_⟩
                    refine s_env (env' := [(89, .bool y435), (104, undef)]) (by exact ⟨congrArg some hv1058, congrArg some hv1060, trivial⟩) ?_
                    refine s_unwant rfl rfl h444 ?_
                    exact s_pred fun tm w ht hE hI => ⟨undef, [], _, fun d hd => (by cases hd; exact hE _ _ rfl), .refl _, by exact hI, ⟨rfl, rfl⟩⟩
                  refine dcons ?_ ?_
                  · intro V1062 G1063 H1064 fr1065 hle1066 hd1067
                    obtain ⟨hv1069, hg1070⟩ := hd1067 4 (by decide)
                    obtain ⟨hv1071, hg1072⟩ := hd1067 20 (by decide)
                    refine ⟨_, some (), rfl, fun _ => ?_⟩
                    refine s_env (env' := [(89, .bool y435), (105, undef)]) (by exact ⟨congrArg some hv1069, congrArg some hv1071, trivial⟩) ?_
                    refine s_unwant rfl rfl h444 ?_
                    exact s_pred fun tm w ht hE hI => ⟨undef, [], _, fun d hd => (by cases hd; exact hE _ _ rfl), .refl _, by exact hI, ⟨rfl, rfl⟩⟩
                  refine dcons ?_ ?_
                  · intro V1073 G1074 H1075 fr1076 hle1077 hd1078
                    obtain ⟨hv1080, hg1081⟩ := hd1078 4 (by decide)
                    obtain ⟨hv1082, hg1083⟩ := hd1078 14 (by decide)
                    obtain ⟨hv1084, hg1085⟩ := hd1078 21 (by decide)
                    refine ⟨_, some (), rfl, fun _ => ?_⟩
                    refine s_env (env' := [(89, .bool y435), (99, undef), (106, undef)]) (by exact ⟨congrArg some hv1080, congrArg some hv1082, congrArg some hv1084, trivial⟩) ?_
                    refine s_unwant rfl rfl h444 ?_
                    exact s_pred fun tm w ht hE hI => ⟨undef, [], _, fun d hd => (by cases hd; exact hE _ _ rfl), .refl _, by exact hI, ⟨rfl, rfl⟩⟩
                  refine dcons ?_ ?_
                  · intro V1086 G1087 H1088 fr1089 hle1090 hd1091
                    obtain ⟨hv1093, hg1094⟩ := hd1091 4 (by decide)
                    obtain ⟨hv1095, hg1096⟩ := hd1091 22 (by decide)
                    refine ⟨_, some (), rfl, fun _ => ?_⟩
                    refine s_env (env' := [(89, .bool y435), (107, undef)]) (by exact ⟨congrArg some hv1093, congrArg some hv1095, trivial⟩) ?_
                    refine s_unwant rfl rfl h444 ?_
                    exact s_pred fun tm w ht hE hI => ⟨undef, [], _, fun d hd => (by cases hd; exact hE _ _ rfl), .refl _, by exact hI, ⟨rfl, rfl⟩⟩
                  refine dcons ?_ ?_
                  · intro V1097 G1098 H1099 fr1100 hle1101 hd1102
                    obtain ⟨hv1104, hg1105⟩ := hd1102 4 (by decide)
                    obtain ⟨hv1106, hg1107⟩ := hd1102 23 (by decide)
                    refine ⟨_, some (), rfl, fun _ => ?_⟩
                    refine s_env (env' := [(89, .bool y435), (108, undef)]) (by exact ⟨congrArg some hv1104, congrArg some hv1106, trivial⟩) ?_
                    refine o_pickF rfl h444 rfl ?_
                    exact s_pred fun tm w ht hE hI => ⟨(.bool false), [], _, fun d hd => (by cases hd; exact hE _ _ rfl), .refl _, by exact hI, ⟨rfl, rfl⟩⟩
                  exact dnil
                · intro V1110 G1111 H1108 hle1109 hF1112
                  have hs1113 := RSl.mono hle1109 hs421
                  have hA1114 := All2.mono (fun _ _ => GoT.mono hle1109) hA416
                  have hA1115 := All2.mono (fun _ _ => GoT.mono hle1109) hA422
                  obtain ⟨hv1116, hg1117⟩ := hF1112 24 (show 24 < 25 by decide)
                  refine s_env (env' := [(109, .bool false), (3, .pointer (some ⟨b1, 0, none⟩)), (7, .slice (some ⟨bk437, 0, none⟩) s412.1.length c414), (9, .slice a27 (([] : List Bool) ++ p16).length c28), (14, .int .i64 s412.2), (79, .int .i64 s412.2), (80, .slice (some ⟨bk437, 0, none⟩) s412.1.length c414), (81, .int .i64 (s412.1.length : Int)), (82, .bool (decide (s412.2 < (s412.1.length : Int))))]) (by exact ⟨congrArg some hv1116, rfl, rfl, rfl, rfl, rfl, rfl, rfl, rfl, trivial⟩) ?_
                  refine s_own (List.sublist_append_left _ _) ?_
                  refine s_done ?_
                  exact s_env (by exact ⟨rfl, rfl, rfl, rfl, rfl, trivial⟩) (s_own (by exact (.cons_cons _ (.cons_cons _ (.cons_cons _ .slnil)))) (J434 (s412.1, false) _ _ _ ⟨_, _, _, rfl, rfl, hle1109, hA1114⟩))
          · refine s_exit rfl ?_
            exact s_env (by exact ⟨rfl, rfl, trivial⟩) (s_own (by exact (.cons_cons _ (.cons _ (.cons_cons _ .slnil)))) (J411 () _ _ _ ⟨rfl, rfl, hle420⟩))
      · intro J1118
        refine s_block ?_
        refine s_env (env' := [(3, .pointer (some ⟨b1, 0, none⟩)), (7, .slice a32 p31.length c33), (9, .slice a27 (([] : List Bool) ++ p16).length c28), (10, .int .i64 1)]) (by exact ⟨rfl, rfl, rfl, rfl, trivial⟩) ?_
        refine s_own (own' := [.blk b1 (rowObj [.int .i64 y3.Switches, .slice a5 y3.Links.length c6] 24), .osl (.slice a32 p31.length c33) 1 4 ls34, .osl (.slice a27 (([] : List Bool) ++ p16).length c28) 1 4 (([]) ++ ls19)]) (.cons_cons _ (.cons_cons _ (.cons_cons _ .slnil))) ?_
        refine s_loopn (fun q s1119 => catenarylaw12_GraphGrows_l1 k y3 p16 p31 q s1119) (fun s1119 env own H' => env = [(3, .pointer (some ⟨b1, 0, none⟩)), (7, .slice a32 p31.length c33), (9, .slice a27 (([] : List Bool) ++ p16).length c28), (10, .int .i64 s1119)] ∧ own = [.blk b1 (rowObj [.int .i64 y3.Switches, .slice a5 y3.Links.length c6] 24), .osl (.slice a32 p31.length c33) 1 4 ls34, .osl (.slice a27 (([] : List Bool) ++ p16).length c28) 1 4 (([]) ++ ls19)] ∧ Hle H36 H') (fun _ => rfl) ?_ k 1 ⟨rfl, rfl, .refl _⟩
        rintro q1120 ih1121 s1119 _ _ H1122 ⟨rfl, rfl, hle1123⟩
        refine s_eq (by rw [catenarylaw12_GraphGrows_l1]) ?_
        have hs1124 := RSl.mono hle1123 hs38
        have hA1125 := All2.mono (fun _ _ => GoT.mono hle1123) hA35
        have hA1126 := All2.mono (fun _ _ => GoT.mono hle1123) hA39
        refine s_seq ?_
        refine s_seq ?_
        refine s_region ?_
        refine o_mov rfl ?_
        refine o_fa rfl ?_
        refine o_ld 0 rfl rfl rfl ?_
        refine o_le rfl rfl ?_
        refine s_done ?_
        refine s_cond rfl (fun h1127 => ?_) (fun h1127 => ?_)
        · refine s_skip ?_
          refine s_seq ?_
          refine s_block ?_
          refine s_seq ?_
          refine s_bg fun y1128 h1134 => ?_
          refine s_bg fun y1135 h1141 => ?_
          refine s_drawL [(fun H v g => v = Value.agg #[.int .i64 y3.Switches, .slice a5 y3.Links.length c6] ∧ g = [] ∧ RSl H a5 c6 y3.Links),
      (fun H v g => v = Value.slice a27 (([] : List Bool) ++ p16).length c28 ∧ g = []),
      (fun H v g => v = Value.int .i64 s1119 ∧ g = []),
      (fun H v g => ∃ a1143 c1144, v = Value.slice a1143 y1128.length c1144 ∧ g = [] ∧ RSl H a1143 c1144 y1128),
      (fun H v g => v = Value.agg #[.int .i64 y3.Switches, .slice a5 y3.Links.length c6] ∧ g = [] ∧ RSl H a5 c6 y3.Links),
      (fun H v g => v = Value.slice a32 p31.length c33 ∧ g = []),
      (fun H v g => v = Value.int .i64 s1119 ∧ g = []),
      (fun H v g => ∃ a1155 c1156, v = Value.slice a1155 y1135.length c1156 ∧ g = [.osl (.slice a1155 y1135.length c1156) 1 3 (y1135.map GoE.enc)] ∧ All2 (GoT.rep H) (y1135.map GoE.enc) y1135),
      (fun H v g => ∃ a1143 c1144, v = Value.slice a1143 y1128.length c1144 ∧ g = [] ∧ RSl H a1143 c1144 y1128)] [[], [], [], [], [], [], [], [], []] mixed ⟨fun _ _ _ _ hle ⟨e1, e2, h0_⟩ => ⟨e1, e2, RSl.mono hle h0_⟩, fun _ _ _ _ _ h => h, fun _ _ _ _ _ h => h, fun _ _ _ _ hle ⟨a1143, c1144, e1, e2, h0_⟩ => ⟨_, _, e1, e2, RSl.mono hle h0_⟩, fun _ _ _ _ hle ⟨e1, e2, h0_⟩ => ⟨e1, e2, RSl.mono hle h0_⟩, fun _ _ _ _ _ h => h, fun _ _ _ _ _ h => h, fun _ _ _ _ hle ⟨a1155, c1156, e1, e2, h0_⟩ => ⟨_, _, e1, e2, All2.mono (fun _ _ => GoT.mono hle) h0_⟩, fun _ _ _ _ hle ⟨a1143, c1144, e1, e2, h0_⟩ => ⟨_, _, e1, e2, RSl.mono hle h0_⟩, trivial⟩ (by kernel_rfl) (by kernel_rfl) rfl (by kernel_rfl) rfl rfl ?_ ?_
          · refine dcons ?_ ?_
            · intro V1159 G1160 H1161 fr1162 hle1163 hd1164
              have hs1166 := RSl.mono hle1163 hs1124
              refine ⟨_, some (), rfl, fun _ => ?_⟩
              refine s_env (env' := [(3, .pointer (some ⟨b1, 0, none⟩))]) (by exact ⟨rfl, trivial⟩) ?_
              refine o_ld 0 rfl rfl rfl ?_
              exact s_pred fun tm w ht hE hI => ⟨(.agg #[.int .i64 y3.Switches, .slice a5 y3.Links.length c6]), [], _, fun d hd => (by cases hd; exact hE _ _ rfl), .refl _, by exact hI, ⟨rfl, rfl, hs1166⟩⟩
            refine dcons ?_ ?_
            · intro V1167 G1168 H1169 fr1170 hle1171 hd1172
              have hA1174 := All2.mono (fun _ _ => GoT.mono hle1171) hA1126
              refine ⟨_, some (), rfl, fun _ => ?_⟩
              refine s_env (env' := [(9, .slice a27 (([] : List Bool) ++ p16).length c28)]) (by exact ⟨rfl, trivial⟩) ?_
              refine o_mov rfl ?_
              exact s_pred fun tm w ht hE hI => ⟨(.slice a27 (([] : List Bool) ++ p16).length c28), [], _, fun d hd => (by cases hd; exact hE _ _ rfl), .refl _, by exact hI, ⟨rfl, rfl⟩⟩
            refine dcons ?_ ?_
            · intro V1175 G1176 H1177 fr1178 hle1179 hd1180
              refine ⟨_, some (), rfl, fun _ => ?_⟩
              refine s_env (env' := [(10, .int .i64 s1119)]) (by exact ⟨rfl, trivial⟩) ?_
              refine o_mov rfl ?_
              exact s_pred fun tm w ht hE hI => ⟨(.int .i64 s1119), [], _, fun d hd => (by cases hd; exact hE _ _ rfl), .refl _, by exact hI, ⟨rfl, rfl⟩⟩
            refine dcons ?_ ?_
            · intro V1182 G1183 H1184 fr1185 hle1186 hd1187
              have hA1189 := All2.mono (fun _ _ => GoT.mono hle1186) hA1126
              obtain ⟨hv1190, hg1191, hp1192⟩ := hd1187 0 (by decide)
              obtain ⟨hv1193, hg1194⟩ := hd1187 1 (by decide)
              obtain ⟨hv1195, hg1196⟩ := hd1187 2 (by decide)
              refine ⟨_, (graph_Reach k y3 (([] : List Bool) ++ p16) s1119).bind some, by rw [h1134]; rfl, fun _ => ?_⟩
              refine s_env (env' := [(58, .agg #[.int .i64 y3.Switches, .slice a5 y3.Links.length c6]), (59, .slice a27 (([] : List Bool) ++ p16).length c28), (60, .int .i64 s1119)]) (by exact ⟨congrArg some hv1190, congrArg some hv1193, congrArg some hv1195, trivial⟩) ?_
              refine s_bg fun y1128 h1197 => ?_
              refine s_callL (Φ := fun v out => ∃ a0 c0, v = .slice a0 y1128.length c0 ∧ out = [.osl (.slice a0 y1128.length c0) 1 3 (y1128.map GoE.enc)]) [] _ rfl rfl (.refl _) (fun H' hle hl => graph_Reach_ok k _ y3 _ _ (RSl.mono hle hp1192) (([] : List Bool) ++ p16) _ _ (lent_rsl (hl _ (List.mem_of_getElem? (i := 2) rfl)) hA1189 hle).2 s1119 h1197) ?_
              rintro _ _ ⟨a1198, c1199, rfl, rfl⟩
              have hA1201 : All2 (GoT.rep H1184) (y1128.map GoE.enc) y1128 := all2_enc _
              obtain rfl := Option.some.inj (h1134.symm.trans h1197)
              refine s_perm (own' := [.blk b1 (rowObj [.int .i64 y3.Switches, .slice a5 y3.Links.length c6] 24), .osl (.slice a32 p31.length c33) 1 4 ls34, .osl (.slice a27 (([] : List Bool) ++ p16).length c28) 1 4 (([]) ++ ls19), .osl (.slice a1198 y1128.length c1199) 1 3 (y1128.map GoE.enc)] ++ fr1185) (pm3 (a := [.blk b1 (rowObj [.int .i64 y3.Switches, .slice a5 y3.Links.length c6] 24), .osl (.slice a32 p31.length c33) 1 4 ls34, .osl (.slice a27 (([] : List Bool) ++ p16).length c28) 1 4 (([]) ++ ls19)]) (xs := [.osl (.slice a1198 y1128.length c1199) 1 3 (y1128.map GoE.enc)])) ?_
              refine s_frz 3 (fun b => .inl (by simp [ids])) rfl hA1201 fun H1202 hle1203 hn1204 hs1205 => ?_
              have hs1206 := RSl.mono hle1203 hp1192
              have hA1207 := All2.mono (fun _ _ => GoT.mono hle1203) hA1189
              exact s_pred fun tm w ht hE hI => ⟨(.slice a1198 y1128.length c1199), [], _, fun d hd => (by cases hd; exact hE _ _ rfl), hle1203, by exact hI, ⟨a1198, c1199, rfl, rfl, hs1205⟩⟩
            refine dcons ?_ ?_
            · intro V1208 G1209 H1210 fr1211 hle1212 hd1213
              have hs1215 := RSl.mono hle1212 hs1124
              refine ⟨_, some (), rfl, fun _ => ?_⟩
              refine s_env (env' := [(3, .pointer (some ⟨b1, 0, none⟩))]) (by exact ⟨rfl, trivial⟩) ?_
              refine o_ld 0 rfl rfl rfl ?_
              exact s_pred fun tm w ht hE hI => ⟨(.agg #[.int .i64 y3.Switches, .slice a5 y3.Links.length c6]), [], _, fun d hd => (by cases hd; exact hE _ _ rfl), .refl _, by exact hI, ⟨rfl, rfl, hs1215⟩⟩
            refine dcons ?_ ?_
            · intro V1216 G1217 H1218 fr1219 hle1220 hd1221
              have hA1223 := All2.mono (fun _ _ => GoT.mono hle1220) hA1125
              refine ⟨_, some (), rfl, fun _ => ?_⟩
              refine s_env (env' := [(7, .slice a32 p31.length c33)]) (by exact ⟨rfl, trivial⟩) ?_
              refine o_mov rfl ?_
              exact s_pred fun tm w ht hE hI => ⟨(.slice a32 p31.length c33), [], _, fun d hd => (by cases hd; exact hE _ _ rfl), .refl _, by exact hI, ⟨rfl, rfl⟩⟩
            refine dcons ?_ ?_
            · intro V1224 G1225 H1226 fr1227 hle1228 hd1229
              refine ⟨_, some (), rfl, fun _ => ?_⟩
              refine s_env (env' := [(10, .int .i64 s1119)]) (by exact ⟨rfl, trivial⟩) ?_
              refine o_mov rfl ?_
              exact s_pred fun tm w ht hE hI => ⟨(.int .i64 s1119), [], _, fun d hd => (by cases hd; exact hE _ _ rfl), .refl _, by exact hI, ⟨rfl, rfl⟩⟩
            refine dcons ?_ ?_
            · intro V1231 G1232 H1233 fr1234 hle1235 hd1236
              have hA1238 := All2.mono (fun _ _ => GoT.mono hle1235) hA1125
              obtain ⟨hv1239, hg1240, hp1241⟩ := hd1236 4 (by decide)
              obtain ⟨hv1242, hg1243⟩ := hd1236 5 (by decide)
              obtain ⟨hv1244, hg1245⟩ := hd1236 6 (by decide)
              refine ⟨_, (graph_Reach k y3 p31 s1119).bind some, by rw [h1141]; rfl, fun _ => ?_⟩
              refine s_env (env' := [(62, .agg #[.int .i64 y3.Switches, .slice a5 y3.Links.length c6]), (63, .slice a32 p31.length c33), (64, .int .i64 s1119)]) (by exact ⟨congrArg some hv1239, congrArg some hv1242, congrArg some hv1244, trivial⟩) ?_
              refine s_bg fun y1135 h1246 => ?_
              refine s_callL (Φ := fun v out => ∃ a0 c0, v = .slice a0 y1135.length c0 ∧ out = [.osl (.slice a0 y1135.length c0) 1 3 (y1135.map GoE.enc)]) [] _ rfl rfl (.refl _) (fun H' hle hl => graph_Reach_ok k _ y3 _ _ (RSl.mono hle hp1241) p31 _ _ (lent_rsl (hl _ (List.mem_of_getElem? (i := 1) rfl)) hA1238 hle).2 s1119 h1246) ?_
              rintro _ _ ⟨a1247, c1248, rfl, rfl⟩
              have hA1250 : All2 (GoT.rep H1233) (y1135.map GoE.enc) y1135 := all2_enc _
              obtain rfl := Option.some.inj (h1141.symm.trans h1246)
              refine s_perm (own' := [.blk b1 (rowObj [.int .i64 y3.Switches, .slice a5 y3.Links.length c6] 24), .osl (.slice a32 p31.length c33) 1 4 ls34, .osl (.slice a27 (([] : List Bool) ++ p16).length c28) 1 4 (([]) ++ ls19), .osl (.slice a1247 y1135.length c1248) 1 3 (y1135.map GoE.enc)] ++ fr1234) (pm3 (a := [.blk b1 (rowObj [.int .i64 y3.Switches, .slice a5 y3.Links.length c6] 24), .osl (.slice a32 p31.length c33) 1 4 ls34, .osl (.slice a27 (([] : List Bool) ++ p16).length c28) 1 4 (([]) ++ ls19)]) (xs := [.osl (.slice a1247 y1135.length c1248) 1 3 (y1135.map GoE.enc)])) ?_
              exact s_pred fun tm w ht hE hI => ⟨(.slice a1247 y1135.length c1248), [.osl (.slice a1247 y1135.length c1248) 1 3 (y1135.map GoE.enc)], _, fun d hd => (by cases hd; exact hE _ _ rfl), .refl _, by exact hI, ⟨a1247, c1248, rfl, rfl, hA1250⟩⟩
            refine dcons ?_ ?_
            · intro V1251 G1252 H1253 fr1254 hle1255 hd1256
              obtain ⟨a1258, c1259, hv1260, hg1261, hp1262⟩ := hd1256 3 (by decide)
              refine ⟨_, some (), rfl, fun _ => ?_⟩
              refine s_env (env' := [(61, .slice a1258 y1128.length c1259)]) (by exact ⟨congrArg some hv1260, trivial⟩) ?_
              refine o_asg rfl ?_
              exact s_pred fun tm w ht hE hI => ⟨(.slice a1258 y1128.length c1259), [], _, fun d hd => (by cases hd; exact hE _ _ rfl), .refl _, by exact hI, ⟨a1258, c1259, rfl, rfl, hp1262⟩⟩
            exact dnil
          · intro V1265 G1266 H1263 hle1264 hF1267
            have hs1268 := RSl.mono hle1264 hs1124
            have hA1269 := All2.mono (fun _ _ => GoT.mono hle1264) hA1125
            have hA1270 := All2.mono (fun _ _ => GoT.mono hle1264) hA1126
            obtain ⟨a1271, c1272, hv1273, hg1274, hp1275⟩ := hF1267 7 (show 7 < 9 by decide)
            obtain ⟨a1276, c1277, hv1278, hg1279, hp1280⟩ := hF1267 8 (show 8 < 9 by decide)
            refine s_env (env' := [(65, .slice a1271 y1135.length c1272), (11, .slice a1276 y1128.length c1277), (3, .pointer (some ⟨b1, 0, none⟩)), (7, .slice a32 p31.length c33), (9, .slice a27 (([] : List Bool) ++ p16).length c28), (10, .int .i64 s1119), (52, .int .i64 s1119), (53, .pointer (some ⟨b1, 0, none⟩)), (54, .int .i64 y3.Switches), (55, .bool (decide (s1119 ≤ y3.Switches)))]) (by exact ⟨congrArg some hv1273, congrArg some hv1278, rfl, rfl, rfl, rfl, rfl, rfl, rfl, rfl, trivial⟩) ?_
            refine s_liv (js := [7]) rfl ?_
            refine s_ownE (own' := [.blk b1 (rowObj [.int .i64 y3.Switches, .slice a5 y3.Links.length c6] 24), .osl (.slice a32 p31.length c33) 1 4 ls34, .osl (.slice a27 (([] : List Bool) ++ p16).length c28) 1 4 (([]) ++ ls19), .osl (.slice a1271 y1135.length c1272) 1 3 (y1135.map GoE.enc)]) (by simp only [List.flatMap_cons, List.flatMap_nil, List.append_nil, hg1274]; rfl) ?_
            refine o_asg rfl ?_
            refine s_done ?_
            refine s_seq ?_
            refine s_region ?_
            refine o_asg rfl ?_
            refine s_done ?_
            refine s_joinL (fun p1281 env own H' => env = [(3, .pointer (some ⟨b1, 0, none⟩)), (7, .slice a32 p31.length c33), (9, .slice a27 (([] : List Bool) ++ p16).length c28), (10, .int .i64 s1119)] ∧ own = [.blk b1 (rowObj [.int .i64 y3.Switches, .slice a5 y3.Links.length c6] 24), .osl (.slice a32 p31.length c33) 1 4 ls34, .osl (.slice a27 (([] : List Bool) ++ p16).length c28) 1 4 (([]) ++ ls19)] ∧ Hle H1263 H') ?_ ?_
            · rintro p1281 _ _ H1282 ⟨rfl, rfl, hle1283⟩
              have hs1284 := RSl.mono hle1283 hs1268
              have hA1285 := All2.mono (fun _ _ => GoT.mono hle1283) hA1269
              have hA1286 := All2.mono (fun _ _ => GoT.mono hle1283) hA1270
              refine s_inBlock ?_
              refine s_region ?_
              refine o_mov rfl ?_
              refine o_add rfl rfl ?_
              refine o_asg rfl ?_
              refine s_done ?_
              exact s_env (by exact ⟨rfl, rfl, rfl, rfl, trivial⟩) (s_own (by exact (.cons_cons _ (.cons_cons _ (.cons_cons _ .slnil)))) (ih1121 (w64 (s1119 + 1)) _ _ _ ⟨rfl, rfl, (Hle.trans (Hle.trans hle1123 hle1264) hle1283)⟩))
            · intro J1287
              refine s_block ?_
              refine s_env (env' := [(3, .pointer (some ⟨b1, 0, none⟩)), (7, .slice a32 p31.length c33), (9, .slice a27 (([] : List Bool) ++ p16).length c28), (10, .int .i64 s1119), (11, .slice a1276 y1128.length c1277), (12, .slice a1271 y1135.length c1272), (13, .int .i64 0)]) (by exact ⟨rfl, rfl, rfl, rfl, rfl, rfl, rfl, trivial⟩) ?_
              refine s_own (own' := [.blk b1 (rowObj [.int .i64 y3.Switches, .slice a5 y3.Links.length c6] 24), .osl (.slice a32 p31.length c33) 1 4 ls34, .osl (.slice a27 (([] : List Bool) ++ p16).length c28) 1 4 (([]) ++ ls19), .osl (.slice a1271 y1135.length c1272) 1 3 (y1135.map GoE.enc)]) (.cons_cons _ (.cons_cons _ (.cons_cons _ (.cons_cons _ .slnil)))) ?_
              refine s_loopn (fun q s1288 => catenarylaw12_GraphGrows_l2 k y1128 y1135 q s1288) (fun s1288 env own H' => env = [(3, .pointer (some ⟨b1, 0, none⟩)), (7, .slice a32 p31.length c33), (9, .slice a27 (([] : List Bool) ++ p16).length c28), (10, .int .i64 s1119), (11, .slice a1276 y1128.length c1277), (12, .slice a1271 y1135.length c1272), (13, .int .i64 s1288)] ∧ own = [.blk b1 (rowObj [.int .i64 y3.Switches, .slice a5 y3.Links.length c6] 24), .osl (.slice a32 p31.length c33) 1 4 ls34, .osl (.slice a27 (([] : List Bool) ++ p16).length c28) 1 4 (([]) ++ ls19), .osl (.slice a1271 y1135.length c1272) 1 3 (y1135.map GoE.enc)] ∧ Hle H1263 H') (fun _ => rfl) ?_ k 0 ⟨rfl, rfl, .refl _⟩
              rintro q1289 ih1290 s1288 _ _ H1291 ⟨rfl, rfl, hle1292⟩
              refine s_eq (by rw [catenarylaw12_GraphGrows_l2]) ?_
              have hs1293 := RSl.mono hle1292 hp1280
              have hs1294 := RSl.mono hle1292 hs1268
              have hA1295 := All2.mono (fun _ _ => GoT.mono hle1292) hA1269
              have hA1296 := All2.mono (fun _ _ => GoT.mono hle1292) hA1270
              have hA1297 := All2.mono (fun _ _ => GoT.mono hle1292) hp1275
              refine s_seq ?_
              refine s_seq ?_
              refine s_region ?_
              refine o_mov rfl ?_
              refine o_mov rfl ?_
              refine o_lenS rfl ?_
              refine o_lt rfl rfl ?_
              refine s_done ?_
              refine s_cond rfl (fun h1298 => ?_) (fun h1298 => ?_)
              · refine s_skip ?_
                refine s_seq ?_
                refine s_block ?_
                refine s_seq ?_
                refine s_region ?_
                refine o_mov rfl ?_
                refine o_mov rfl ?_
                refine o_mov rfl ?_
                refine o_ixf hs1293 rfl rfl fun y1299 bk1301 of1302 h1300 hc1303 => ?_
                refine o_ldH 0 hc1303 rfl rfl rfl ?_
                refine s_bg fun y1304 h1305 => ?_
                refine s_callL (Φ := fun v out => v = _ ∧ out = []) [] _ rfl rfl (.refl _) (fun H' hle hl => catenarylaw12_in_ok k _ y1135 _ _ (lent_rsl (hl _ (List.mem_of_getElem? (i := 3) rfl)) hA1297 hle).2 y1299 h1305) ?_
                rintro _ _ ⟨rfl, rfl⟩
                refine s_ownN ?_
                refine o_not rfl ?_
                refine s_done ?_
                refine s_cond rfl (fun h1306 => ?_) (fun h1306 => ?_)
                · refine s_seq ?_
                  refine s_region ?_
                  refine o_asg rfl ?_
                  refine s_done ?_
                  refine s_lret ?_
                  refine s_lret ?_
                  exact s_retv (xs := [.tmp 6]) (vs := [.bool false]) [] fn_5 rfl ⟨rv_tmp rfl, trivial⟩ (.cons _ (.cons _ (.cons _ (.cons _ .slnil)))) ⟨rfl, rfl⟩
                · refine s_skip ?_
                  refine s_inBlock ?_
                  refine s_region ?_
                  refine o_mov rfl ?_
                  refine o_add rfl rfl ?_
                  refine o_asg rfl ?_
                  refine s_done ?_
                  exact s_env (by exact ⟨rfl, rfl, rfl, rfl, rfl, rfl, rfl, trivial⟩) (s_own (by exact (.cons_cons _ (.cons_cons _ (.cons_cons _ (.cons_cons _ .slnil))))) (ih1290 (w64 (s1288 + 1)) _ _ _ ⟨rfl, rfl, hle1292⟩))
              · refine s_exit rfl ?_
                exact s_env (by exact ⟨rfl, rfl, rfl, rfl, trivial⟩) (s_own (by exact (.cons_cons _ (.cons_cons _ (.cons_cons _ (.cons _ .slnil))))) (J1287 () _ _ _ ⟨rfl, rfl, hle1292⟩))
        · refine s_exit rfl ?_
          exact s_env (by exact ⟨rfl, rfl, rfl, trivial⟩) (s_own (by exact (.cons_cons _ (.cons_cons _ (.cons_cons _ .slnil)))) (J1118 () _ _ _ ⟨rfl, rfl, hle1123⟩))
    · intro J1307
      refine s_cond rfl (fun h1308 => ?_) (fun h1308 => ?_)
      · refine s_region ?_
        refine o_mov rfl ?_
        refine o_mov rfl ?_
        refine o_mov rfl ?_
        refine o_lenS rfl ?_
        refine s_bg fun y1309 h1310 => ?_
        refine s_callF rfl rfl (catenaryref00_Bring_ok k _ x2 (p16.length : Int) h1310) ?_
        refine o_ixO 1 rfl hA20 rfl rfl fun y1311 bk1313 vs1314 h1312 ha1315 hi1316 hr1317 => ?_
        subst hr1317
        subst ha1315
        refine o_stV (l := p16) (ci := y1309) 1 0 rfl hA20 hi1316 rfl rfl rfl rfl rfl rfl true (rfl) fun ls1318 hA1319 => ?_
        refine s_env (env' := [(2, .int .i64 x2), (3, .pointer (some ⟨b1, 0, none⟩)), (7, .slice (some ⟨bk1313, 0, none⟩) (p16.set (y1309 : Int).toNat true).length c18), (41, .slice (some ⟨bk1313, 0, none⟩) (p16.set (y1309 : Int).toNat true).length c18), (42, .slice a27 (([] : List Bool) ++ p16).length c28), (9, .slice a27 (([] : List Bool) ++ p16).length c28), (43, .slice (some ⟨bk1313, 0, none⟩) (p16.set (y1309 : Int).toNat true).length c18), (44, .int .i64 (p16.length : Int)), (45, .bool (decide ((p16.length : Int) > 0))), (46, .slice (some ⟨bk1313, 0, none⟩) (p16.set (y1309 : Int).toNat true).length c18), (47, .int .i64 x2), (48, .slice (some ⟨bk1313, 0, none⟩) (p16.set (y1309 : Int).toNat true).length c18), (49, .int .i64 (p16.length : Int)), (50, .int .i64 y1309)]) (by exact ⟨rfl, rfl, (by first | (simp only [List.length_set]; rfl) | rfl), (by first | (simp only [List.length_set]; rfl) | rfl), rfl, rfl, (by first | (simp only [List.length_set]; rfl) | rfl), rfl, rfl, (by first | (simp only [List.length_set]; rfl) | rfl), rfl, (by first | (simp only [List.length_set]; rfl) | rfl), rfl, rfl, trivial⟩) ?_
        refine s_ownE (own' := [.blk b1 (rowObj [.int .i64 y3.Switches, .slice a5 y3.Links.length c6] 24), .osl (.slice (some ⟨bk1313, 0, none⟩) (p16.set (y1309 : Int).toNat true).length c18) 1 4 ls1318, .osl (.slice a27 (([] : List Bool) ++ p16).length c28) 1 4 (([]) ++ ls19)]) (by first | (simp only [List.length_set]; done) | (simp only [List.length_set]; rfl) | rfl) ?_
        refine s_done ?_
        exact s_env (by exact ⟨rfl, rfl, rfl, trivial⟩) (s_own (by exact (.cons_cons _ (.cons_cons _ (.cons_cons _ .slnil)))) (J1307 (p16.set (y1309 : Int).toNat true) _ _ _ ⟨_, _, _, rfl, rfl, .refl _, hA1319⟩))
      · refine s_skip ?_
        exact s_env (by exact ⟨rfl, rfl, rfl, trivial⟩) (s_own (by exact (.cons_cons _ (.cons_cons _ (.cons_cons _ .slnil)))) (J1307 p16 _ _ _ ⟨_, _, _, rfl, rfl, .refl _, hA20⟩))
  · intro J1320
    refine s_block ?_
    refine s_env (env' := [(1, .slice a1_0 x1.length c1_0), (2, .int .i64 x2), (3, .pointer (some ⟨b1, 0, none⟩)), (7, .slice (some ⟨b12, 0, none⟩) (List.replicate ((y3.Links.length : Int) : Int).toNat (false : Bool)).length ((y3.Links.length : Int) : Int).toNat), (8, .int .i64 0)]) (by exact ⟨rfl, rfl, rfl, rfl, rfl, trivial⟩) ?_
    refine s_own (own' := [.blk b1 (rowObj [.int .i64 y3.Switches, .slice a5 y3.Links.length c6] 24), .osl (.slice (some ⟨b12, 0, none⟩) (List.replicate ((y3.Links.length : Int) : Int).toNat (false : Bool)).length ((y3.Links.length : Int) : Int).toNat) 1 4 _]) (.cons_cons _ (.cons_cons _ .slnil)) ?_
    refine s_loopn (fun q s1321 => catenarylaw12_GraphGrows_l3 k x1 q s1321) (fun s1321 env own H' => ∃ a1322 c1323 ls1324, env = [(1, .slice a1_0 x1.length c1_0), (2, .int .i64 x2), (3, .pointer (some ⟨b1, 0, none⟩)), (7, .slice a1322 s1321.1.length c1323), (8, .int .i64 s1321.2)] ∧ own = [.blk b1 (rowObj [.int .i64 y3.Switches, .slice a5 y3.Links.length c6] 24), .osl (.slice a1322 s1321.1.length c1323) 1 4 ls1324] ∧ Hle H8 H' ∧ All2 (GoT.rep H') ls1324 s1321.1) (fun _ => rfl) ?_ k ((List.replicate ((y3.Links.length : Int) : Int).toNat (false : Bool)), 0) ⟨_, _, _, rfl, rfl, .refl _, hA14⟩
    rintro q1326 ih1327 s1321 _ _ H1328 ⟨a1322, c1323, ls1324, rfl, rfl, hle1329, hA1325⟩
    refine s_eq (by rw [catenarylaw12_GraphGrows_l3]) ?_
    have hs1330 := RSl.mono hle1329 hs11
    have hs1331 := RSl.mono hle1329 hs7
    refine s_seq ?_
    refine s_seq ?_
    refine s_region ?_
    refine o_mov rfl ?_
    refine o_mov rfl ?_
    refine o_lenS rfl ?_
    refine o_lt rfl rfl ?_
    refine s_done ?_
    refine s_cond rfl (fun h1332 => ?_) (fun h1332 => ?_)
    · refine s_skip ?_
      refine s_seq ?_
      refine s_block ?_
      refine s_region ?_
      refine o_mov rfl ?_
      refine o_mov rfl ?_
      refine o_mov rfl ?_
      refine o_mov rfl ?_
      refine o_lenS rfl ?_
      refine o_ge rfl rfl ?_
      refine o_mov rfl ?_
      refine s_split (decide (s1321.2 ≥ (x1.length : Int))) (fun h1333 => ?_) (fun h1333 => ?_)
      · refine s_unwant rfl rfl h1333 ?_
        refine s_unwant rfl rfl h1333 ?_
        refine s_unwant rfl rfl h1333 ?_
        refine s_unwant rfl rfl h1333 ?_
        refine o_pickT rfl h1333 rfl ?_
        refine o_ixO 1 rfl hA1325 rfl rfl fun y1334 bk1336 vs1337 h1335 ha1338 hi1339 hr1340 => ?_
        subst hr1340
        subst ha1338
        refine o_stV (l := s1321.1) (ci := s1321.2) 1 0 rfl hA1325 hi1339 rfl rfl rfl rfl rfl rfl true (rfl) fun ls1341 hA1342 => ?_
        refine s_env (env' := [(1, .slice a1_0 x1.length c1_0), (2, .int .i64 x2), (3, .pointer (some ⟨b1, 0, none⟩)), (7, .slice (some ⟨bk1336, 0, none⟩) (s1321.1.set (s1321.2 : Int).toNat true).length c1323), (8, .int .i64 s1321.2), (21, .int .i64 s1321.2), (22, .slice (some ⟨bk1336, 0, none⟩) (s1321.1.set (s1321.2 : Int).toNat true).length c1323), (23, .int .i64 (s1321.1.length : Int)), (24, .bool (decide (s1321.2 < (s1321.1.length : Int)))), (27, .slice (some ⟨bk1336, 0, none⟩) (s1321.1.set (s1321.2 : Int).toNat true).length c1323), (28, .int .i64 s1321.2), (29, .int .i64 s1321.2), (30, .slice a1_0 x1.length c1_0), (31, .int .i64 (x1.length : Int)), (32, .bool (decide (s1321.2 ≥ (x1.length : Int)))), (33, .bool (decide (s1321.2 ≥ (x1.length : Int)))), (34, undef), (35, undef), (36, undef), (37, undef), (38, .bool true)]) (by exact ⟨rfl, rfl, rfl, (by first | (simp only [List.length_set]; rfl) | rfl), rfl, rfl, (by first | (simp only [List.length_set]; rfl) | rfl), rfl, rfl, (by first | (simp only [List.length_set]; rfl) | rfl), rfl, rfl, rfl, rfl, rfl, rfl, rfl, rfl, rfl, rfl, rfl, trivial⟩) ?_
        refine s_ownE (own' := [.blk b1 (rowObj [.int .i64 y3.Switches, .slice a5 y3.Links.length c6] 24), .osl (.slice (some ⟨bk1336, 0, none⟩) (s1321.1.set (s1321.2 : Int).toNat true).length c1323) 1 4 ls1341]) (by first | (simp only [List.length_set]; done) | (simp only [List.length_set]; rfl) | rfl) ?_
        refine s_done ?_
        refine s_inBlock ?_
        refine s_region ?_
        refine o_mov rfl ?_
        refine o_add rfl rfl ?_
        refine o_asg rfl ?_
        refine s_done ?_
        exact s_env (by exact ⟨rfl, rfl, rfl, rfl, rfl, trivial⟩) (s_own (by exact (.cons_cons _ (.cons_cons _ .slnil))) (ih1327 ((s1321.1.set (s1321.2 : Int).toNat true), w64 (s1321.2 + 1)) _ _ _ ⟨_, _, _, rfl, rfl, hle1329, hA1342⟩))
      · refine s_want rfl rfl h1333 ?_
        refine o_mov rfl ?_
        refine s_want rfl rfl h1333 ?_
        refine o_mov rfl ?_
        refine s_want rfl rfl h1333 ?_
        refine o_ixf hs1330 rfl rfl fun y1343 bk1345 of1346 h1344 hc1347 => ?_
        refine s_want rfl rfl h1333 ?_
        refine o_ldH 0 hc1347 rfl rfl rfl ?_
        refine o_pickF rfl h1333 rfl ?_
        refine o_ixO 1 rfl hA1325 rfl rfl fun y1348 bk1350 vs1351 h1349 ha1352 hi1353 hr1354 => ?_
        subst hr1354
        subst ha1352
        refine o_stV (l := s1321.1) (ci := s1321.2) 1 0 rfl hA1325 hi1353 rfl rfl rfl rfl rfl rfl y1343 (rfl) fun ls1355 hA1356 => ?_
        refine s_env (env' := [(1, .slice a1_0 x1.length c1_0), (2, .int .i64 x2), (3, .pointer (some ⟨b1, 0, none⟩)), (7, .slice (some ⟨bk1350, 0, none⟩) (s1321.1.set (s1321.2 : Int).toNat y1343).length c1323), (8, .int .i64 s1321.2), (21, .int .i64 s1321.2), (22, .slice (some ⟨bk1350, 0, none⟩) (s1321.1.set (s1321.2 : Int).toNat y1343).length c1323), (23, .int .i64 (s1321.1.length : Int)), (24, .bool (decide (s1321.2 < (s1321.1.length : Int)))), (27, .slice (some ⟨bk1350, 0, none⟩) (s1321.1.set (s1321.2 : Int).toNat y1343).length c1323), (28, .int .i64 s1321.2), (29, .int .i64 s1321.2), (30, .slice a1_0 x1.length c1_0), (31, .int .i64 (x1.length : Int)), (32, .bool (decide (s1321.2 ≥ (x1.length : Int)))), (33, .bool (decide (s1321.2 ≥ (x1.length : Int)))), (34, .slice a1_0 x1.length c1_0), (35, .int .i64 s1321.2), (36, .pointer (some ⟨bk1345, of1346, none⟩)), (37, .bool y1343), (38, .bool y1343)]) (by exact ⟨rfl, rfl, rfl, (by first | (simp only [List.length_set]; rfl) | rfl), rfl, rfl, (by first | (simp only [List.length_set]; rfl) | rfl), rfl, rfl, (by first | (simp only [List.length_set]; rfl) | rfl), rfl, rfl, rfl, rfl, rfl, rfl, rfl, rfl, rfl, rfl, rfl, trivial⟩) ?_
        refine s_ownE (own' := [.blk b1 (rowObj [.int .i64 y3.Switches, .slice a5 y3.Links.length c6] 24), .osl (.slice (some ⟨bk1350, 0, none⟩) (s1321.1.set (s1321.2 : Int).toNat y1343).length c1323) 1 4 ls1355]) (by first | (simp only [List.length_set]; done) | (simp only [List.length_set]; rfl) | rfl) ?_
        refine s_done ?_
        refine s_inBlock ?_
        refine s_region ?_
        refine o_mov rfl ?_
        refine o_add rfl rfl ?_
        refine o_asg rfl ?_
        refine s_done ?_
        exact s_env (by exact ⟨rfl, rfl, rfl, rfl, rfl, trivial⟩) (s_own (by exact (.cons_cons _ (.cons_cons _ .slnil))) (ih1327 ((s1321.1.set (s1321.2 : Int).toNat y1343), w64 (s1321.2 + 1)) _ _ _ ⟨_, _, _, rfl, rfl, hle1329, hA1356⟩))
    · refine s_exit rfl ?_
      exact s_env (by exact ⟨rfl, rfl, rfl, trivial⟩) (s_own (by exact (.cons_cons _ (.cons_cons _ .slnil))) (J1320 s1321.1 _ _ _ ⟨_, _, _, rfl, rfl, hle1329, hA1325⟩))
end Go.Cat.G3
