/- A text of the proof of the seat's laws: a step logic over the machine, or pure functions that the Go functions come to. No condition. -/
import Derived.Test.YtmmpieknnnlnhaaP5
set_option linter.unusedVariables false
set_option linter.unusedSimpArgs false
set_option linter.unnecessarySimpa false

namespace Go.Cat.G3
open Go Go.Cat Go.Proofs
set_option linter.unusedVariables false
set_option linter.unusedSimpArgs false

instance : TSl Try.prog 46 24 2 32 := ⟨by kernel_rfl, fun _ => by kernel_rfl, ⟨Try.t24, by kernel_rfl, by kernel_rfl⟩, by decide, by decide, ⟨.agg #[.int .i64 0, .slice none 0 0], fun _ => by kernel_rfl, rfl, rfl⟩⟩
instance : TFun Try.prog 17 := ⟨_, (by kernel_rfl : Try.prog.funcs[17]? = some Try.f17), by decide, rfl⟩
instance : TFun Try.prog 21 := ⟨_, (by kernel_rfl : Try.prog.funcs[21]? = some Try.f21), by decide, rfl⟩

/-! catenary/catenarylaw12.GraphNames -/
def catenarylaw12_GraphNames_l1 (k : Nat) (y1 : Link) (y10 : Link) (y20 : Link) (y31 : Link) (y43 : Link) (y56 : Link) (y58 : Link) (y72 : Link) (y74 : Link) (y89 : Link) (y91 : Link) : Nat → Int → Option (LX (Bool) (Unit))
  | 0, _ => none
  | q386 + 1, s385 =>
    if (decide (s385 < (([(⟨0, []⟩ : Graph), (⟨7, []⟩ : Graph), (⟨2, ([y1] : List Link)⟩ : Graph), (⟨2, ([y10] : List Link)⟩ : Graph), (⟨2, ([y20] : List Link)⟩ : Graph), (⟨2, ([y31] : List Link)⟩ : Graph), (⟨2, ([y43] : List Link)⟩ : Graph), (⟨3, ([y56, y58] : List Link)⟩ : Graph), (⟨3, ([y72, y74] : List Link)⟩ : Graph), (⟨2, ([y89, y91] : List Link)⟩ : Graph)] : List Graph).length : Int))) = true then
      (rd ([(⟨0, []⟩ : Graph), (⟨7, []⟩ : Graph), (⟨2, ([y1] : List Link)⟩ : Graph), (⟨2, ([y10] : List Link)⟩ : Graph), (⟨2, ([y20] : List Link)⟩ : Graph), (⟨2, ([y31] : List Link)⟩ : Graph), (⟨2, ([y43] : List Link)⟩ : Graph), (⟨3, ([y56, y58] : List Link)⟩ : Graph), (⟨3, ([y72, y74] : List Link)⟩ : Graph), (⟨2, ([y89, y91] : List Link)⟩ : Graph)] : List Graph) s385).bind fun y392 =>
      (graph_Peer k y392 (⟨1, 1⟩ : End)).bind fun y402 =>
      ((rd ([(⟨0, []⟩ : Graph), (⟨7, []⟩ : Graph), (⟨2, ([y1] : List Link)⟩ : Graph), (⟨2, ([y10] : List Link)⟩ : Graph), (⟨2, ([y20] : List Link)⟩ : Graph), (⟨2, ([y31] : List Link)⟩ : Graph), (⟨2, ([y43] : List Link)⟩ : Graph), (⟨3, ([y56, y58] : List Link)⟩ : Graph), (⟨3, ([y72, y74] : List Link)⟩ : Graph), (⟨2, ([y89, y91] : List Link)⟩ : Graph)] : List Graph) s385).bind fun y412 =>
        (graph_Check k y412).bind fun y422 =>
        if (y422 != 2) = true then
          some true
        else
          if (y402.2.2) = true then
            some true
          else
            (rd ([(⟨0, []⟩ : Graph), (⟨7, []⟩ : Graph), (⟨2, ([y1] : List Link)⟩ : Graph), (⟨2, ([y10] : List Link)⟩ : Graph), (⟨2, ([y20] : List Link)⟩ : Graph), (⟨2, ([y31] : List Link)⟩ : Graph), (⟨2, ([y43] : List Link)⟩ : Graph), (⟨3, ([y56, y58] : List Link)⟩ : Graph), (⟨3, ([y72, y74] : List Link)⟩ : Graph), (⟨2, ([y89, y91] : List Link)⟩ : Graph)] : List Graph) s385).bind fun y426 =>
            (graph_Ports k y426 1).bind fun y436 =>
            if ((y436.length : Int) != 0) = true then
              some true
            else
              (rd ([(⟨0, []⟩ : Graph), (⟨7, []⟩ : Graph), (⟨2, ([y1] : List Link)⟩ : Graph), (⟨2, ([y10] : List Link)⟩ : Graph), (⟨2, ([y20] : List Link)⟩ : Graph), (⟨2, ([y31] : List Link)⟩ : Graph), (⟨2, ([y43] : List Link)⟩ : Graph), (⟨3, ([y56, y58] : List Link)⟩ : Graph), (⟨3, ([y72, y74] : List Link)⟩ : Graph), (⟨2, ([y89, y91] : List Link)⟩ : Graph)] : List Graph) s385).bind fun y449 =>
              (graph_Reach k y449 ([]) 1).bind fun y459 =>
              if ((y459.length : Int) != 0) = true then
                some true
              else
                (rd ([(⟨0, []⟩ : Graph), (⟨7, []⟩ : Graph), (⟨2, ([y1] : List Link)⟩ : Graph), (⟨2, ([y10] : List Link)⟩ : Graph), (⟨2, ([y20] : List Link)⟩ : Graph), (⟨2, ([y31] : List Link)⟩ : Graph), (⟨2, ([y43] : List Link)⟩ : Graph), (⟨3, ([y56, y58] : List Link)⟩ : Graph), (⟨3, ([y72, y74] : List Link)⟩ : Graph), (⟨2, ([y89, y91] : List Link)⟩ : Graph)] : List Graph) s385).bind fun y474 =>
                (graph_Whole k y474 ([])).bind fun y484 =>
                some y484).bind fun p406 =>
      if (p406) = true then
        some (.ret false)
      else
        catenarylaw12_GraphNames_l1 k y1 y10 y20 y31 y43 y56 y58 y72 y74 y89 y91 q386 (w64 (s385 + 1))
    else
      some (.out ())
def catenarylaw12_GraphNames_l0 (k : Nat) (y1 : Link) (y10 : Link) (y20 : Link) (y31 : Link) (y43 : Link) (y56 : Link) (y58 : Link) (y72 : Link) (y74 : Link) (y89 : Link) (y91 : Link) : Nat → (List Link) × Int → Option ((List Link))
  | 0, _ => none
  | q173 + 1, s168 =>
    if (decide (s168.2 < 12)) = true then
      (catenarylaw12_link k (w64 (1 + (s168.2.tmod 6))) (w64 (1 + (IntKind.i64.wrap (s168.2.tdiv 6)))) (w64 (1 + ((w64 (s168.2 + 1)).tmod 6))) (w64 (3 + (IntKind.i64.wrap (s168.2.tdiv 6))))).bind fun y179 =>
      (app s168.1 ([y179] : List Link)).bind fun _ =>
      catenarylaw12_GraphNames_l0 k y1 y10 y20 y31 y43 y56 y58 y72 y74 y89 y91 q173 ((s168.1 ++ ([y179] : List Link)), w64 (s168.2 + 1))
    else
      some s168.1
def catenarylaw12_GraphNames (k : Nat)  : Option Bool :=
  (catenarylaw12_link k 1 1 1 2).bind fun y1 =>
  (catenarylaw12_link k 1 0 2 1).bind fun y10 =>
  (catenarylaw12_link k 1 5 2 1).bind fun y20 =>
  (catenarylaw12_link k 0 1 2 1).bind fun y31 =>
  (catenarylaw12_link k 1 1 3 1).bind fun y43 =>
  (catenarylaw12_link k 1 1 2 1).bind fun y56 =>
  (catenarylaw12_link k 3 1 1 1).bind fun y58 =>
  (catenarylaw12_link k 1 1 2 1).bind fun y72 =>
  (catenarylaw12_link k 2 1 3 1).bind fun y74 =>
  (catenarylaw12_link k 1 1 2 1).bind fun y89 =>
  (catenarylaw12_link k 1 1 2 1).bind fun y91 =>
  (catenarylaw12_GraphNames_l1 k y1 y10 y20 y31 y43 y56 y58 y72 y74 y89 y91 k 0).bind (LX.go fun p110 =>
  (catenarylaw12_GraphNames_l0 k y1 y10 y20 y31 y43 y56 y58 y72 y74 y89 y91 k (([] : List Link), 0)).bind fun p121 =>
  (catenarylaw12_works k).bind fun y129 =>
  if (y129) = true then
    (graph_Check k (⟨1, ([] : List Link)⟩ : Graph)).bind fun y132 =>
    if (y132 == 0) = true then
      (graph_Whole k (⟨1, ([] : List Link)⟩ : Graph) ([])).bind fun y135 =>
      if (y135) = true then
        (graph_Reach k (⟨1, ([] : List Link)⟩ : Graph) ([]) 2).bind fun y138 =>
        if ((y138.length : Int) == 0) = true then
          (graph_Reach k (⟨1, ([] : List Link)⟩ : Graph) ([]) 0).bind fun y145 =>
          if ((y145.length : Int) == 0) = true then
            (graph_Check k (⟨6, p121⟩ : Graph)).bind fun y152 =>
            if (y152 == 0) = true then
              (graph_Ports k (⟨6, p121⟩ : Graph) 1).bind fun y155 =>
              if ((y155.length : Int) == 4) = true then
                (graph_Whole k (⟨6, p121⟩ : Graph) ([false, false] : List Bool)).bind fun y165 =>
                some y165
              else
                some false
            else
              some false
          else
            some false
        else
          some false
      else
        some false
    else
      some false
  else
    some false)
theorem fn_6 : Try.prog.funcs[6]? = some Try.f6 := by kernel_rfl
set_option maxRecDepth 100000 in
set_option maxHeartbeats 4000000 in
theorem catenarylaw12_GraphNames_ok (k : Nat) (H : Heap)  {r : Bool} (hr : catenarylaw12_GraphNames k  = some r) :
    Fn Try.prog 6 [] H [] fun H' v out => v = .bool r ∧ out = [] := by
  refine fn_of_sim (args := []) (n := 154) (Φ := fun r H' v out => v = .bool r ∧ out = []) hr fn_6 rfl rfl rfl fun w => ?_
  refine s_eq (by rw [catenarylaw12_GraphNames]) ?_
  refine s_seq ?_
  refine s_region ?_
  refine o_asg rfl ?_
  refine s_done ?_
  refine s_seq ?_
  refine s_region ?_
  refine o_bld rfl rfl ?_
  refine o_bld rfl rfl ?_
  refine s_bg fun y1 h2 => ?_
  refine s_callF rfl rfl (catenarylaw12_link_ok k _ 1 1 1 2 h2) ?_
  refine o_bsl (xs := [.tmp 11]) rfl rfl (by simp only [List.mem_cons, List.not_mem_nil, or_false, forall_eq_or_imp, forall_eq]; exact ⟨rfl, rfl⟩) rfl rfl fun b3 => ?_
  have hA4 : All2 (GoT.rep H) [[.int .i64 y1.A.Switch, .int .i64 y1.A.Port, .int .i64 y1.B.Switch, .int .i64 y1.B.Port]] ([y1] : List Link) := all2_enc (([y1] : List Link))
  refine s_frz 0 (fun b => .inl (by simp [ids])) rfl hA4 fun H6 hle7 hn8 hs9 => ?_
  refine o_bld rfl rfl ?_
  refine s_bg fun y10 h11 => ?_
  refine s_callF rfl rfl (catenarylaw12_link_ok k _ 1 0 2 1 h11) ?_
  refine o_bsl (xs := [.tmp 14]) rfl rfl (by simp only [List.mem_cons, List.not_mem_nil, or_false, forall_eq_or_imp, forall_eq]; exact ⟨rfl, rfl⟩) rfl rfl fun b12 => ?_
  have hA13 : All2 (GoT.rep H6) [[.int .i64 y10.A.Switch, .int .i64 y10.A.Port, .int .i64 y10.B.Switch, .int .i64 y10.B.Port]] ([y10] : List Link) := all2_enc (([y10] : List Link))
  refine s_frz 0 (fun b => .inl (by simp [ids])) rfl hA13 fun H15 hle16 hn17 hs18 => ?_
  have hs19 := RSl.mono hle16 hs9
  refine o_bld rfl rfl ?_
  refine s_bg fun y20 h21 => ?_
  refine s_callF rfl rfl (catenarylaw12_link_ok k _ 1 5 2 1 h21) ?_
  refine o_bsl (xs := [.tmp 17]) rfl rfl (by simp only [List.mem_cons, List.not_mem_nil, or_false, forall_eq_or_imp, forall_eq]; exact ⟨rfl, rfl⟩) rfl rfl fun b22 => ?_
  have hA23 : All2 (GoT.rep H15) [[.int .i64 y20.A.Switch, .int .i64 y20.A.Port, .int .i64 y20.B.Switch, .int .i64 y20.B.Port]] ([y20] : List Link) := all2_enc (([y20] : List Link))
  refine s_frz 0 (fun b => .inl (by simp [ids])) rfl hA23 fun H25 hle26 hn27 hs28 => ?_
  have hs29 := RSl.mono hle26 hs19
  have hs30 := RSl.mono hle26 hs18
  refine o_bld rfl rfl ?_
  refine s_bg fun y31 h32 => ?_
  refine s_callF rfl rfl (catenarylaw12_link_ok k _ 0 1 2 1 h32) ?_
  refine o_bsl (xs := [.tmp 20]) rfl rfl (by simp only [List.mem_cons, List.not_mem_nil, or_false, forall_eq_or_imp, forall_eq]; exact ⟨rfl, rfl⟩) rfl rfl fun b33 => ?_
  have hA34 : All2 (GoT.rep H25) [[.int .i64 y31.A.Switch, .int .i64 y31.A.Port, .int .i64 y31.B.Switch, .int .i64 y31.B.Port]] ([y31] : List Link) := all2_enc (([y31] : List Link))
  refine s_frz 0 (fun b => .inl (by simp [ids])) rfl hA34 fun H36 hle37 hn38 hs39 => ?_
  have hs40 := RSl.mono hle37 hs29
  have hs41 := RSl.mono hle37 hs30
  have hs42 := RSl.mono hle37 hs28
  refine o_bld rfl rfl ?_
  refine s_bg fun y43 h44 => ?_
  refine s_callF rfl rfl (catenarylaw12_link_ok k _ 1 1 3 1 h44) ?_
  refine o_bsl (xs := [.tmp 23]) rfl rfl (by simp only [List.mem_cons, List.not_mem_nil, or_false, forall_eq_or_imp, forall_eq]; exact ⟨rfl, rfl⟩) rfl rfl fun b45 => ?_
  have hA46 : All2 (GoT.rep H36) [[.int .i64 y43.A.Switch, .int .i64 y43.A.Port, .int .i64 y43.B.Switch, .int .i64 y43.B.Port]] ([y43] : List Link) := all2_enc (([y43] : List Link))
  refine s_frz 0 (fun b => .inl (by simp [ids])) rfl hA46 fun H48 hle49 hn50 hs51 => ?_
  have hs52 := RSl.mono hle49 hs40
  have hs53 := RSl.mono hle49 hs41
  have hs54 := RSl.mono hle49 hs42
  have hs55 := RSl.mono hle49 hs39
  refine o_bld rfl rfl ?_
  refine s_bg fun y56 h57 => ?_
  refine s_callF rfl rfl (catenarylaw12_link_ok k _ 1 1 2 1 h57) ?_
  refine s_bg fun y58 h59 => ?_
  refine s_callF rfl rfl (catenarylaw12_link_ok k _ 3 1 1 1 h59) ?_
  refine o_bsl (xs := [.tmp 26, .tmp 27]) rfl rfl (by simp only [List.mem_cons, List.not_mem_nil, or_false, forall_eq_or_imp, forall_eq]; exact ⟨⟨rfl, rfl⟩, ⟨rfl, rfl⟩⟩) rfl rfl fun b60 => ?_
  have hA61 : All2 (GoT.rep H48) [[.int .i64 y56.A.Switch, .int .i64 y56.A.Port, .int .i64 y56.B.Switch, .int .i64 y56.B.Port], [.int .i64 y58.A.Switch, .int .i64 y58.A.Port, .int .i64 y58.B.Switch, .int .i64 y58.B.Port]] ([y56, y58] : List Link) := all2_enc (([y56, y58] : List Link))
  refine s_frz 0 (fun b => .inl (by simp [ids])) rfl hA61 fun H63 hle64 hn65 hs66 => ?_
  have hs67 := RSl.mono hle64 hs52
  have hs68 := RSl.mono hle64 hs53
  have hs69 := RSl.mono hle64 hs54
  have hs70 := RSl.mono hle64 hs55
  have hs71 := RSl.mono hle64 hs51
  refine o_bld rfl rfl ?_
  refine s_bg fun y72 h73 => ?_
  refine s_callF rfl rfl (catenarylaw12_link_ok k _ 1 1 2 1 h73) ?_
  refine s_bg fun y74 h75 => ?_
  refine s_callF rfl rfl (catenarylaw12_link_ok k _ 2 1 3 1 h75) ?_
  refine o_bsl (xs := [.tmp 30, .tmp 31]) rfl rfl (by simp only [List.mem_cons, List.not_mem_nil, or_false, forall_eq_or_imp, forall_eq]; exact ⟨⟨rfl, rfl⟩, ⟨rfl, rfl⟩⟩) rfl rfl fun b76 => ?_
  have hA77 : All2 (GoT.rep H63) [[.int .i64 y72.A.Switch, .int .i64 y72.A.Port, .int .i64 y72.B.Switch, .int .i64 y72.B.Port], [.int .i64 y74.A.Switch, .int .i64 y74.A.Port, .int .i64 y74.B.Switch, .int .i64 y74.B.Port]] ([y72, y74] : List Link) := all2_enc (([y72, y74] : List Link))
  refine s_frz 0 (fun b => .inl (by simp [ids])) rfl hA77 fun H79 hle80 hn81 hs82 => ?_
  have hs83 := RSl.mono hle80 hs67
  have hs84 := RSl.mono hle80 hs68
  have hs85 := RSl.mono hle80 hs69
  have hs86 := RSl.mono hle80 hs70
  have hs87 := RSl.mono hle80 hs71
  have hs88 := RSl.mono hle80 hs66
  refine o_bld rfl rfl ?_
  refine s_bg fun y89 h90 => ?_
  refine s_callF rfl rfl (catenarylaw12_link_ok k _ 1 1 2 1 h90) ?_
  refine s_bg fun y91 h92 => ?_
  refine s_callF rfl rfl (catenarylaw12_link_ok k _ 1 1 2 1 h92) ?_
  refine o_bsl (xs := [.tmp 34, .tmp 35]) rfl rfl (by simp only [List.mem_cons, List.not_mem_nil, or_false, forall_eq_or_imp, forall_eq]; exact ⟨⟨rfl, rfl⟩, ⟨rfl, rfl⟩⟩) rfl rfl fun b93 => ?_
  have hA94 : All2 (GoT.rep H79) [[.int .i64 y89.A.Switch, .int .i64 y89.A.Port, .int .i64 y89.B.Switch, .int .i64 y89.B.Port], [.int .i64 y91.A.Switch, .int .i64 y91.A.Port, .int .i64 y91.B.Switch, .int .i64 y91.B.Port]] ([y89, y91] : List Link) := all2_enc (([y89, y91] : List Link))
  refine s_frz 0 (fun b => .inl (by simp [ids])) rfl hA94 fun H96 hle97 hn98 hs99 => ?_
  have hs100 := RSl.mono hle97 hs83
  have hs101 := RSl.mono hle97 hs84
  have hs102 := RSl.mono hle97 hs85
  have hs103 := RSl.mono hle97 hs86
  have hs104 := RSl.mono hle97 hs87
  have hs105 := RSl.mono hle97 hs88
  have hs106 := RSl.mono hle97 hs82
  refine o_bld rfl rfl ?_
  refine o_bsl (xs := [.tmp 9, .tmp 10, .tmp 13, .tmp 16, .tmp 19, .tmp 22, .tmp 25, .tmp 29, .tmp 33, .tmp 37]) rfl rfl (by simp only [List.mem_cons, List.not_mem_nil, or_false, forall_eq_or_imp, forall_eq]; exact ⟨⟨rfl, rfl⟩, ⟨rfl, rfl⟩, ⟨rfl, rfl⟩, ⟨rfl, rfl⟩, ⟨rfl, rfl⟩, ⟨rfl, rfl⟩, ⟨rfl, rfl⟩, ⟨rfl, rfl⟩, ⟨rfl, rfl⟩, ⟨rfl, rfl⟩⟩) rfl rfl fun b107 => ?_
  have hA108 : All2 (GoT.rep H96) [[.int .i64 0, .slice none 0 0], [.int .i64 7, .slice none 0 0], [.int .i64 2, .slice (some ⟨b3, 0, none⟩) ([y1] : List Link).length 1], [.int .i64 2, .slice (some ⟨b12, 0, none⟩) ([y10] : List Link).length 1], [.int .i64 2, .slice (some ⟨b22, 0, none⟩) ([y20] : List Link).length 1], [.int .i64 2, .slice (some ⟨b33, 0, none⟩) ([y31] : List Link).length 1], [.int .i64 2, .slice (some ⟨b45, 0, none⟩) ([y43] : List Link).length 1], [.int .i64 3, .slice (some ⟨b60, 0, none⟩) ([y56, y58] : List Link).length 2], [.int .i64 3, .slice (some ⟨b76, 0, none⟩) ([y72, y74] : List Link).length 2], [.int .i64 2, .slice (some ⟨b93, 0, none⟩) ([y89, y91] : List Link).length 2]] ([(⟨0, []⟩ : Graph), (⟨7, []⟩ : Graph), (⟨2, ([y1] : List Link)⟩ : Graph), (⟨2, ([y10] : List Link)⟩ : Graph), (⟨2, ([y20] : List Link)⟩ : Graph), (⟨2, ([y31] : List Link)⟩ : Graph), (⟨2, ([y43] : List Link)⟩ : Graph), (⟨3, ([y56, y58] : List Link)⟩ : Graph), (⟨3, ([y72, y74] : List Link)⟩ : Graph), (⟨2, ([y89, y91] : List Link)⟩ : Graph)] : List Graph) := all2_cons ⟨_, _,  rfl, rsl_nil⟩ (all2_cons ⟨_, _,  rfl, rsl_nil⟩ (all2_cons ⟨_, _,  rfl, hs100⟩ (all2_cons ⟨_, _,  rfl, hs101⟩ (all2_cons ⟨_, _,  rfl, hs102⟩ (all2_cons ⟨_, _,  rfl, hs103⟩ (all2_cons ⟨_, _,  rfl, hs104⟩ (all2_cons ⟨_, _,  rfl, hs105⟩ (all2_cons ⟨_, _,  rfl, hs106⟩ (all2_cons ⟨_, _,  rfl, hs99⟩ all2_nil)))))))))
  refine o_asg rfl ?_
  refine s_done ?_
  refine s_seq ?_
  refine s_seq ?_
  refine s_region ?_
  refine o_asg rfl ?_
  refine s_done ?_
  refine s_joinL (fun p110 env own H' => env = [] ∧ own = [] ∧ Hle H96 H') ?_ ?_
  · rintro p110 _ _ H111 ⟨rfl, rfl, hle112⟩
    refine s_seq ?_
    refine s_region ?_
    refine o_bld rfl rfl ?_
    refine o_alloc fun b113 => ?_
    refine o_st 0 rfl rfl rfl rfl rfl rfl ?_
    refine s_nilO (sz := 4) (t := 40) ?_
    have hA116 : All2 (GoT.rep H111) [] ([] : List Link) := all2_nil
    refine s_done ?_
    refine s_seq ?_
    refine s_region ?_
    refine o_bld rfl rfl ?_
    refine o_alloc fun b117 => ?_
    refine o_st 2 rfl rfl rfl rfl rfl rfl ?_
    refine s_nilO (sz := 4) (t := 40) ?_
    have hA120 : All2 (GoT.rep H111) [] ([] : List Link) := all2_nil
    refine s_done ?_
    refine s_seq ?_
    refine s_seq ?_
    refine s_region ?_
    refine o_asg rfl ?_
    refine s_done ?_
    refine s_join (fun p121 env own H' => ∃ a122 c123 ls124, env = [(6, .pointer (some ⟨b113, 0, none⟩)), (7, .pointer (some ⟨b117, 0, none⟩))] ∧ own = [.blk b113 (rowObj [.int .i64 1, .slice none ([] : List Link).length 0] 24), .osl (.slice none ([] : List Link).length 0) 4 40 [], .blk b117 (rowObj [.int .i64 6, .slice a122 p121.length c123] 24), .osl (.slice a122 p121.length c123) 4 40 ls124] ∧ Hle H111 H' ∧ All2 (GoT.rep H') ls124 p121) ?_ ?_
    · rintro p121 _ _ H126 ⟨a122, c123, ls124, rfl, rfl, hle127, hA125⟩
      have hA128 := All2.mono (fun _ _ => GoT.mono hle127) hA116
      refine s_seq ?_
      refine s_region ?_
      refine o_mov rfl ?_
      refine s_want rfl rfl rfl ?_
      refine s_bg fun y129 h130 => ?_
      refine s_callF rfl rfl (catenarylaw12_works_ok k _ h130) ?_
      refine o_pickT rfl rfl rfl ?_
      refine o_mov rfl ?_
      refine s_split y129 (fun h131 => ?_) (fun h131 => ?_)
      · refine s_want rfl rfl h131 ?_
        refine o_ld 0 rfl rfl rfl ?_
        refine s_want rfl rfl h131 ?_
        refine s_bg fun y132 h133 => ?_
        refine s_callL (Φ := fun v out => v = _ ∧ out = []) [] _ rfl rfl (.refl _) (fun H' hle hl => graph_Check_ok k _ (⟨1, ([] : List Link)⟩ : Graph) _ _ (lent_rsl (hl _ (List.mem_of_getElem? (i := 1) rfl)) hA128 hle).2 h133) ?_
        rintro _ _ ⟨rfl, rfl⟩
        refine s_ownN ?_
        refine s_want rfl rfl h131 ?_
        refine o_eq rfl rfl ?_
        refine o_pickT rfl h131 rfl ?_
        refine o_mov rfl ?_
        refine s_split (y132 == 0) (fun h134 => ?_) (fun h134 => ?_)
        · refine s_want rfl rfl h134 ?_
          refine o_ld 0 rfl rfl rfl ?_
          refine s_want rfl rfl h134 ?_
          refine s_bg fun y135 h136 => ?_
          refine s_callL (Φ := fun v out => v = _ ∧ out = []) [] _ rfl rfl (.refl _) (fun H' hle hl => graph_Whole_ok k _ (⟨1, ([] : List Link)⟩ : Graph) _ _ (lent_rsl (hl _ (List.mem_of_getElem? (i := 1) rfl)) hA128 hle).2 ([]) _ _ rsl_nil h136) ?_
          rintro _ _ ⟨rfl, rfl⟩
          refine s_ownN ?_
          refine o_pickT rfl h134 rfl ?_
          refine o_mov rfl ?_
          refine s_split y135 (fun h137 => ?_) (fun h137 => ?_)
          · refine s_want rfl rfl h137 ?_
            refine o_ld 0 rfl rfl rfl ?_
            refine s_want rfl rfl h137 ?_
            refine s_bg fun y138 h139 => ?_
            refine s_callL (Φ := fun v out => ∃ a0 c0, v = .slice a0 y138.length c0 ∧ out = [.osl (.slice a0 y138.length c0) 1 3 (y138.map GoE.enc)]) [] _ rfl rfl (.refl _) (fun H' hle hl => graph_Reach_ok k _ (⟨1, ([] : List Link)⟩ : Graph) _ _ (lent_rsl (hl _ (List.mem_of_getElem? (i := 1) rfl)) hA128 hle).2 ([]) _ _ rsl_nil 2 h139) ?_
            rintro _ _ ⟨a140, c141, rfl, rfl⟩
            have hA143 : All2 (GoT.rep H126) (y138.map GoE.enc) y138 := all2_enc _
            refine s_want rfl rfl h137 ?_
            refine o_lenS rfl ?_
            refine s_want rfl rfl h137 ?_
            refine o_eq rfl rfl ?_
            refine o_pickT rfl h137 rfl ?_
            refine o_mov rfl ?_
            refine s_split ((y138.length : Int) == 0) (fun h144 => ?_) (fun h144 => ?_)
            · refine s_want rfl rfl h144 ?_
              refine o_ld 0 rfl rfl rfl ?_
              refine s_want rfl rfl h144 ?_
              refine s_bg fun y145 h146 => ?_
              refine s_callL (Φ := fun v out => ∃ a0 c0, v = .slice a0 y145.length c0 ∧ out = [.osl (.slice a0 y145.length c0) 1 3 (y145.map GoE.enc)]) [] _ rfl rfl (.refl _) (fun H' hle hl => graph_Reach_ok k _ (⟨1, ([] : List Link)⟩ : Graph) _ _ (lent_rsl (hl _ (List.mem_of_getElem? (i := 1) rfl)) hA128 hle).2 ([]) _ _ rsl_nil 0 h146) ?_
              rintro _ _ ⟨a147, c148, rfl, rfl⟩
              have hA150 : All2 (GoT.rep H126) (y145.map GoE.enc) y145 := all2_enc _
              refine s_want rfl rfl h144 ?_
              refine o_lenS rfl ?_
              refine s_want rfl rfl h144 ?_
              refine o_eq rfl rfl ?_
              refine o_pickT rfl h144 rfl ?_
              refine o_mov rfl ?_
              refine s_split ((y145.length : Int) == 0) (fun h151 => ?_) (fun h151 => ?_)
              · refine s_want rfl rfl h151 ?_
                refine o_ld 2 rfl rfl rfl ?_
                refine s_want rfl rfl h151 ?_
                refine s_bg fun y152 h153 => ?_
                refine s_callL (Φ := fun v out => v = _ ∧ out = []) [] _ rfl rfl (.refl _) (fun H' hle hl => graph_Check_ok k _ (⟨6, p121⟩ : Graph) _ _ (lent_rsl (hl _ (List.mem_of_getElem? (i := 3) rfl)) hA125 hle).2 h153) ?_
                rintro _ _ ⟨rfl, rfl⟩
                refine s_ownN ?_
                refine s_want rfl rfl h151 ?_
                refine o_eq rfl rfl ?_
                refine o_pickT rfl h151 rfl ?_
                refine o_mov rfl ?_
                refine s_split (y152 == 0) (fun h154 => ?_) (fun h154 => ?_)
                · refine s_want rfl rfl h154 ?_
                  refine o_ld 2 rfl rfl rfl ?_
                  refine s_want rfl rfl h154 ?_
                  refine s_bg fun y155 h156 => ?_
                  refine s_callL (Φ := fun v out => ∃ a0 c0, v = .slice a0 y155.length c0 ∧ out = [.osl (.slice a0 y155.length c0) 1 3 (y155.map GoE.enc)]) [] _ rfl rfl (.refl _) (fun H' hle hl => graph_Ports_ok k _ (⟨6, p121⟩ : Graph) _ _ (lent_rsl (hl _ (List.mem_of_getElem? (i := 3) rfl)) hA125 hle).2 1 h156) ?_
                  rintro _ _ ⟨a157, c158, rfl, rfl⟩
                  have hA160 : All2 (GoT.rep H126) (y155.map GoE.enc) y155 := all2_enc _
                  refine s_want rfl rfl h154 ?_
                  refine o_lenS rfl ?_
                  refine s_want rfl rfl h154 ?_
                  refine o_eq rfl rfl ?_
                  refine o_pickT rfl h154 rfl ?_
                  refine o_mov rfl ?_
                  refine s_split ((y155.length : Int) == 4) (fun h161 => ?_) (fun h161 => ?_)
                  · refine s_want rfl rfl h161 ?_
                    refine o_ld 2 rfl rfl rfl ?_
                    refine s_want rfl rfl h161 ?_
                    refine o_bsl (xs := [.const (.bool false), .const (.bool false)]) rfl rfl (by simp only [List.mem_cons, List.not_mem_nil, or_false, forall_eq_or_imp, forall_eq]; exact ⟨⟨rfl, rfl⟩, ⟨rfl, rfl⟩⟩) rfl rfl fun b162 => ?_
                    have hA163 : All2 (GoT.rep H126) [[.bool false], [.bool false]] ([false, false] : List Bool) := all2_enc (([false, false] : List Bool))
                    refine s_want rfl rfl h161 ?_
                    refine s_bg fun y165 h166 => ?_
                    refine s_callL (Φ := fun v out => v = _ ∧ out = []) [] _ rfl rfl (.refl _) (fun H' hle hl => graph_Whole_ok k _ (⟨6, p121⟩ : Graph) _ _ (lent_rsl (hl _ (List.mem_of_getElem? (i := 3) rfl)) hA125 hle).2 ([false, false] : List Bool) _ _ (lent_rsl (hl _ (List.mem_of_getElem? (i := 7) rfl)) hA163 hle).2 h166) ?_
                    rintro _ _ ⟨rfl, rfl⟩
                    refine s_ownN ?_
                    refine o_pickT rfl h161 rfl ?_
                    refine o_asg rfl ?_
                    refine s_done ?_
                    exact s_retv (xs := [.tmp 0]) (vs := [.bool y165]) [] fn_6 rfl ⟨rv_tmp rfl, trivial⟩ (.cons _ (.cons _ (.cons _ (.cons _ (.cons _ (.cons _ (.cons _ (.cons _ .slnil)))))))) ⟨rfl, rfl⟩
                  · refine s_unwant rfl rfl h161 ?_
                    refine s_unwant rfl rfl h161 ?_
                    refine s_unwant rfl rfl h161 ?_
                    refine o_pickF rfl h161 rfl ?_
                    refine o_asg rfl ?_
                    refine s_done ?_
                    exact s_retv (xs := [.tmp 0]) (vs := [.bool false]) [] fn_6 rfl ⟨rv_tmp rfl, trivial⟩ (.cons _ (.cons _ (.cons _ (.cons _ (.cons _ (.cons _ (.cons _ .slnil))))))) ⟨rfl, rfl⟩
                · refine s_unwant rfl rfl h154 ?_
                  refine s_unwant rfl rfl h154 ?_
                  refine s_unwant rfl rfl h154 ?_
                  refine s_unwant rfl rfl h154 ?_
                  refine o_pickF rfl h154 rfl ?_
                  refine o_mov rfl ?_
                  refine s_unwant rfl rfl rfl ?_
                  refine s_unwant rfl rfl rfl ?_
                  refine s_unwant rfl rfl rfl ?_
                  refine o_pickF rfl rfl rfl ?_
                  refine o_asg rfl ?_
                  refine s_done ?_
                  exact s_retv (xs := [.tmp 0]) (vs := [.bool false]) [] fn_6 rfl ⟨rv_tmp rfl, trivial⟩ (.cons _ (.cons _ (.cons _ (.cons _ (.cons _ (.cons _ .slnil)))))) ⟨rfl, rfl⟩
              · refine s_unwant rfl rfl h151 ?_
                refine s_unwant rfl rfl h151 ?_
                refine s_unwant rfl rfl h151 ?_
                refine o_pickF rfl h151 rfl ?_
                refine o_mov rfl ?_
                refine s_unwant rfl rfl rfl ?_
                refine s_unwant rfl rfl rfl ?_
                refine s_unwant rfl rfl rfl ?_
                refine s_unwant rfl rfl rfl ?_
                refine o_pickF rfl rfl rfl ?_
                refine o_mov rfl ?_
                refine s_unwant rfl rfl rfl ?_
                refine s_unwant rfl rfl rfl ?_
                refine s_unwant rfl rfl rfl ?_
                refine o_pickF rfl rfl rfl ?_
                refine o_asg rfl ?_
                refine s_done ?_
                exact s_retv (xs := [.tmp 0]) (vs := [.bool false]) [] fn_6 rfl ⟨rv_tmp rfl, trivial⟩ (.cons _ (.cons _ (.cons _ (.cons _ (.cons _ (.cons _ .slnil)))))) ⟨rfl, rfl⟩
            · refine s_unwant rfl rfl h144 ?_
              refine s_unwant rfl rfl h144 ?_
              refine s_unwant rfl rfl h144 ?_
              refine s_unwant rfl rfl h144 ?_
              refine o_pickF rfl h144 rfl ?_
              refine o_mov rfl ?_
              refine s_unwant rfl rfl rfl ?_
              refine s_unwant rfl rfl rfl ?_
              refine s_unwant rfl rfl rfl ?_
              refine o_pickF rfl rfl rfl ?_
              refine o_mov rfl ?_
              refine s_unwant rfl rfl rfl ?_
              refine s_unwant rfl rfl rfl ?_
              refine s_unwant rfl rfl rfl ?_
              refine s_unwant rfl rfl rfl ?_
              refine o_pickF rfl rfl rfl ?_
              refine o_mov rfl ?_
              refine s_unwant rfl rfl rfl ?_
              refine s_unwant rfl rfl rfl ?_
              refine s_unwant rfl rfl rfl ?_
              refine o_pickF rfl rfl rfl ?_
              refine o_asg rfl ?_
              refine s_done ?_
              exact s_retv (xs := [.tmp 0]) (vs := [.bool false]) [] fn_6 rfl ⟨rv_tmp rfl, trivial⟩ (.cons _ (.cons _ (.cons _ (.cons _ (.cons _ .slnil))))) ⟨rfl, rfl⟩
          · refine s_unwant rfl rfl h137 ?_
            refine s_unwant rfl rfl h137 ?_
            refine s_unwant rfl rfl h137 ?_
            refine s_unwant rfl rfl h137 ?_
            refine o_pickF rfl h137 rfl ?_
            refine o_mov rfl ?_
            refine s_unwant rfl rfl rfl ?_
            refine s_unwant rfl rfl rfl ?_
            refine s_unwant rfl rfl rfl ?_
            refine s_unwant rfl rfl rfl ?_
            refine o_pickF rfl rfl rfl ?_
            refine o_mov rfl ?_
            refine s_unwant rfl rfl rfl ?_
            refine s_unwant rfl rfl rfl ?_
            refine s_unwant rfl rfl rfl ?_
            refine o_pickF rfl rfl rfl ?_
            refine o_mov rfl ?_
            refine s_unwant rfl rfl rfl ?_
            refine s_unwant rfl rfl rfl ?_
            refine s_unwant rfl rfl rfl ?_
            refine s_unwant rfl rfl rfl ?_
            refine o_pickF rfl rfl rfl ?_
            refine o_mov rfl ?_
            refine s_unwant rfl rfl rfl ?_
            refine s_unwant rfl rfl rfl ?_
            refine s_unwant rfl rfl rfl ?_
            refine o_pickF rfl rfl rfl ?_
            refine o_asg rfl ?_
            refine s_done ?_
            exact s_retv (xs := [.tmp 0]) (vs := [.bool false]) [] fn_6 rfl ⟨rv_tmp rfl, trivial⟩ (.cons _ (.cons _ (.cons _ (.cons _ .slnil)))) ⟨rfl, rfl⟩
        · refine s_unwant rfl rfl h134 ?_
          refine s_unwant rfl rfl h134 ?_
          refine o_pickF rfl h134 rfl ?_
          refine o_mov rfl ?_
          refine s_unwant rfl rfl rfl ?_
          refine s_unwant rfl rfl rfl ?_
          refine s_unwant rfl rfl rfl ?_
          refine s_unwant rfl rfl rfl ?_
          refine o_pickF rfl rfl rfl ?_
          refine o_mov rfl ?_
          refine s_unwant rfl rfl rfl ?_
          refine s_unwant rfl rfl rfl ?_
          refine s_unwant rfl rfl rfl ?_
          refine s_unwant rfl rfl rfl ?_
          refine o_pickF rfl rfl rfl ?_
          refine o_mov rfl ?_
          refine s_unwant rfl rfl rfl ?_
          refine s_unwant rfl rfl rfl ?_
          refine s_unwant rfl rfl rfl ?_
          refine o_pickF rfl rfl rfl ?_
          refine o_mov rfl ?_
          refine s_unwant rfl rfl rfl ?_
          refine s_unwant rfl rfl rfl ?_
          refine s_unwant rfl rfl rfl ?_
          refine s_unwant rfl rfl rfl ?_
          refine o_pickF rfl rfl rfl ?_
          refine o_mov rfl ?_
          refine s_unwant rfl rfl rfl ?_
          refine s_unwant rfl rfl rfl ?_
          refine s_unwant rfl rfl rfl ?_
          refine o_pickF rfl rfl rfl ?_
          refine o_asg rfl ?_
          refine s_done ?_
          exact s_retv (xs := [.tmp 0]) (vs := [.bool false]) [] fn_6 rfl ⟨rv_tmp rfl, trivial⟩ (.cons _ (.cons _ (.cons _ (.cons _ .slnil)))) ⟨rfl, rfl⟩
      · refine s_unwant rfl rfl h131 ?_
        refine s_unwant rfl rfl h131 ?_
        refine s_unwant rfl rfl h131 ?_
        refine o_pickF rfl h131 rfl ?_
        refine o_mov rfl ?_
        refine s_unwant rfl rfl rfl ?_
        refine s_unwant rfl rfl rfl ?_
        refine o_pickF rfl rfl rfl ?_
        refine o_mov rfl ?_
        refine s_unwant rfl rfl rfl ?_
        refine s_unwant rfl rfl rfl ?_
        refine s_unwant rfl rfl rfl ?_
        refine s_unwant rfl rfl rfl ?_
        refine o_pickF rfl rfl rfl ?_
        refine o_mov rfl ?_
        refine s_unwant rfl rfl rfl ?_
        refine s_unwant rfl rfl rfl ?_
        refine s_unwant rfl rfl rfl ?_
        refine s_unwant rfl rfl rfl ?_
        refine o_pickF rfl rfl rfl ?_
        refine o_mov rfl ?_
        refine s_unwant rfl rfl rfl ?_
        refine s_unwant rfl rfl rfl ?_
        refine s_unwant rfl rfl rfl ?_
        refine o_pickF rfl rfl rfl ?_
        refine o_mov rfl ?_
        refine s_unwant rfl rfl rfl ?_
        refine s_unwant rfl rfl rfl ?_
        refine s_unwant rfl rfl rfl ?_
        refine s_unwant rfl rfl rfl ?_
        refine o_pickF rfl rfl rfl ?_
        refine o_mov rfl ?_
        refine s_unwant rfl rfl rfl ?_
        refine s_unwant rfl rfl rfl ?_
        refine s_unwant rfl rfl rfl ?_
        refine o_pickF rfl rfl rfl ?_
        refine o_asg rfl ?_
        refine s_done ?_
        exact s_retv (xs := [.tmp 0]) (vs := [.bool false]) [] fn_6 rfl ⟨rv_tmp rfl, trivial⟩ (.cons _ (.cons _ (.cons _ (.cons _ .slnil)))) ⟨rfl, rfl⟩
    · intro J167
      refine s_block ?_
      refine s_env (env' := [(6, .pointer (some ⟨b113, 0, none⟩)), (7, .pointer (some ⟨b117, 0, none⟩)), (8, .int .i64 0)]) (by exact ⟨rfl, rfl, rfl, trivial⟩) ?_
      refine s_own (own' := [.blk b113 (rowObj [.int .i64 1, .slice none ([] : List Link).length 0] 24), .osl (.slice none ([] : List Link).length 0) 4 40 [], .blk b117 (rowObj [.int .i64 6, .slice none ([] : List Link).length 0] 24), .osl (.slice none ([] : List Link).length 0) 4 40 []]) (.cons_cons _ (.cons_cons _ (.cons_cons _ (.cons_cons _ .slnil)))) ?_
      refine s_loopn (fun q s168 => catenarylaw12_GraphNames_l0 k y1 y10 y20 y31 y43 y56 y58 y72 y74 y89 y91 q s168) (fun s168 env own H' => ∃ a169 c170 ls171, env = [(6, .pointer (some ⟨b113, 0, none⟩)), (7, .pointer (some ⟨b117, 0, none⟩)), (8, .int .i64 s168.2)] ∧ own = [.blk b113 (rowObj [.int .i64 1, .slice none ([] : List Link).length 0] 24), .osl (.slice none ([] : List Link).length 0) 4 40 [], .blk b117 (rowObj [.int .i64 6, .slice a169 s168.1.length c170] 24), .osl (.slice a169 s168.1.length c170) 4 40 ls171] ∧ Hle H111 H' ∧ All2 (GoT.rep H') ls171 s168.1) (fun _ => rfl) ?_ k (([] : List Link), 0) ⟨_, _, _, rfl, rfl, .refl _, hA120⟩
      rintro q173 ih174 s168 _ _ H175 ⟨a169, c170, ls171, rfl, rfl, hle176, hA172⟩
      refine s_eq (by rw [catenarylaw12_GraphNames_l0]) ?_
      have hA177 := All2.mono (fun _ _ => GoT.mono hle176) hA116
      refine s_seq ?_
      refine s_seq ?_
      refine s_region ?_
      refine o_mov rfl ?_
      refine o_lt rfl rfl ?_
      refine s_done ?_
      refine s_cond rfl (fun h178 => ?_) (fun h178 => ?_)
      · refine s_skip ?_
        refine s_seq ?_
        refine s_block ?_
        refine s_bg fun y179 h181 => ?_
        refine s_bg fun _ h189 => ?_
        refine s_mv 3 rfl ?_
        refine s_ownE (own' := [.blk b113 (rowObj [.int .i64 1, .slice none ([] : List Link).length 0] 24), .osl (.slice none ([] : List Link).length 0) 4 40 [], .blk b117 (rowObj [.int .i64 6, .slice a169 s168.1.length c170] 24)] ++ [.osl (.slice a169 s168.1.length c170) 4 40 ls171]) rfl ?_
        refine s_drawLG [.osl (.slice a169 s168.1.length c170) 4 40 ls171] [(fun H v g => v = Value.pointer (some ⟨b117, 1, none⟩) ∧ g = []),
      (fun H v g => v = Value.slice a169 s168.1.length c170 ∧ g = []),
      (fun H v g => v = Value.int .i64 s168.2 ∧ g = []),
      (fun H v g => v = Value.int .i64 (s168.2.tmod 6) ∧ g = []),
      (fun H v g => v = Value.int .i64 (w64 (1 + (s168.2.tmod 6))) ∧ g = []),
      (fun H v g => v = Value.int .i64 s168.2 ∧ g = []),
      (fun H v g => v = Value.int .i64 (IntKind.i64.wrap (s168.2.tdiv 6)) ∧ g = []),
      (fun H v g => v = Value.int .i64 (w64 (1 + (IntKind.i64.wrap (s168.2.tdiv 6)))) ∧ g = []),
      (fun H v g => v = Value.int .i64 s168.2 ∧ g = []),
      (fun H v g => v = Value.int .i64 (w64 (s168.2 + 1)) ∧ g = []),
      (fun H v g => v = Value.int .i64 ((w64 (s168.2 + 1)).tmod 6) ∧ g = []),
      (fun H v g => v = Value.int .i64 (w64 (1 + ((w64 (s168.2 + 1)).tmod 6))) ∧ g = []),
      (fun H v g => v = Value.int .i64 s168.2 ∧ g = []),
      (fun H v g => v = Value.int .i64 (IntKind.i64.wrap (s168.2.tdiv 6)) ∧ g = []),
      (fun H v g => v = Value.int .i64 (w64 (3 + (IntKind.i64.wrap (s168.2.tdiv 6)))) ∧ g = []),
      (fun H v g => v = Value.agg #[.int .i64 y179.A.Switch, .int .i64 y179.A.Port, .int .i64 y179.B.Switch, .int .i64 y179.B.Port] ∧ g = []),
      (fun H v g => ∃ b191, v = Value.slice (some ⟨b191, 0, none⟩) ([y179] : List Link).length 1 ∧ g = [.osl (.slice (some ⟨b191, 0, none⟩) ([y179] : List Link).length 1) 4 40 [[.int .i64 y179.A.Switch, .int .i64 y179.A.Port, .int .i64 y179.B.Switch, .int .i64 y179.B.Port]]] ∧ All2 (GoT.rep H) [[.int .i64 y179.A.Switch, .int .i64 y179.A.Port, .int .i64 y179.B.Switch, .int .i64 y179.B.Port]] ([y179] : List Link)),
      (fun H v g => ∃ a194 c195 b191, v = Value.slice a194 (s168.1 ++ ([y179] : List Link)).length c195 ∧ g = [.osl (.slice (some ⟨b191, 0, none⟩) ([y179] : List Link).length 1) 4 40 [[.int .i64 y179.A.Switch, .int .i64 y179.A.Port, .int .i64 y179.B.Switch, .int .i64 y179.B.Port]], .osl (.slice a194 (s168.1 ++ ([y179] : List Link)).length c195) 4 40 (ls171 ++ ([[.int .i64 y179.A.Switch, .int .i64 y179.A.Port, .int .i64 y179.B.Switch, .int .i64 y179.B.Port]]))] ∧ All2 (GoT.rep H) [[.int .i64 y179.A.Switch, .int .i64 y179.A.Port, .int .i64 y179.B.Switch, .int .i64 y179.B.Port]] ([y179] : List Link) ∧ All2 (GoT.rep H) (ls171 ++ ([[.int .i64 y179.A.Switch, .int .i64 y179.A.Port, .int .i64 y179.B.Switch, .int .i64 y179.B.Port]])) (s168.1 ++ ([y179] : List Link)))] [[], [], [], [], [], [], [], [], [], [], [], [], [], [], [], [], [], [16, 20]] mixed ⟨fun _ _ _ _ _ h => h, fun _ _ _ _ _ h => h, fun _ _ _ _ _ h => h, fun _ _ _ _ _ h => h, fun _ _ _ _ _ h => h, fun _ _ _ _ _ h => h, fun _ _ _ _ _ h => h, fun _ _ _ _ _ h => h, fun _ _ _ _ _ h => h, fun _ _ _ _ _ h => h, fun _ _ _ _ _ h => h, fun _ _ _ _ _ h => h, fun _ _ _ _ _ h => h, fun _ _ _ _ _ h => h, fun _ _ _ _ _ h => h, fun _ _ _ _ _ h => h, fun _ _ _ _ hle ⟨b191, e1, e2, h0_⟩ => ⟨_, e1, e2, All2.mono (fun _ _ => GoT.mono hle) h0_⟩, fun _ _ _ _ hle ⟨a194, c195, b191, e1, e2, h0_, h1_⟩ => ⟨_, _, _, e1, e2, All2.mono (fun _ _ => GoT.mono hle) h0_, All2.mono (fun _ _ => GoT.mono hle) h1_⟩, trivial⟩ (by kernel_rfl) (by kernel_rfl) rfl (by kernel_rfl) rfl rfl ?_ ?_
        · refine dconsG ?_ ?_
          · intro V198 G199 H200 fr201 hvg204 hle202 hd203
            refine ⟨_, some (), rfl, fun _ => ?_⟩
            refine s_env (env' := [(7, .pointer (some ⟨b117, 0, none⟩))]) (by exact ⟨rfl, trivial⟩) ?_
            refine o_fa rfl ?_
            exact s_pred fun tm w ht hE hI => ⟨(.pointer (some ⟨b117, 1, none⟩)), [], _, fun d hd => (by cases hd; exact hE _ _ rfl), .refl _, by exact hI, ⟨rfl, rfl⟩⟩
          refine dconsG ?_ ?_
          · intro V205 G206 H207 fr208 hvg211 hle209 hd210
            obtain ⟨hv212, hg213⟩ := hd210 0 (by decide)
            refine ⟨_, some (), rfl, fun _ => ?_⟩
            refine s_env (env' := [(95, .pointer (some ⟨b117, 1, none⟩))]) (by exact ⟨congrArg some hv212, trivial⟩) ?_
            refine o_ld 2 rfl rfl rfl ?_
            exact s_pred fun tm w ht hE hI => ⟨(.slice a169 s168.1.length c170), [], _, fun d hd => (by cases hd; exact hE _ _ rfl), .refl _, by exact hI, ⟨rfl, rfl⟩⟩
          refine dconsG ?_ ?_
          · intro V214 G215 H216 fr217 hvg220 hle218 hd219
            refine ⟨_, some (), rfl, fun _ => ?_⟩
            refine s_env (env' := [(8, .int .i64 s168.2)]) (by exact ⟨rfl, trivial⟩) ?_
            refine o_mov rfl ?_
            exact s_pred fun tm w ht hE hI => ⟨(.int .i64 s168.2), [], _, fun d hd => (by cases hd; exact hE _ _ rfl), .refl _, by exact hI, ⟨rfl, rfl⟩⟩
          refine dconsG ?_ ?_
          · intro V221 G222 H223 fr224 hvg227 hle225 hd226
            obtain ⟨hv228, hg229⟩ := hd226 2 (by decide)
            refine ⟨_, some (), rfl, fun _ => ?_⟩
            refine s_env (env' := [(97, .int .i64 s168.2)]) (by exact ⟨congrArg some hv228, trivial⟩) ?_
            refine o_rem rfl rfl (by decide) ?_
            exact s_pred fun tm w ht hE hI => ⟨(.int .i64 (s168.2.tmod 6)), [], _, fun d hd => (by cases hd; exact hE _ _ rfl), .refl _, by exact hI, ⟨rfl, rfl⟩⟩
          refine dconsG ?_ ?_
          · intro V230 G231 H232 fr233 hvg236 hle234 hd235
            obtain ⟨hv237, hg238⟩ := hd235 3 (by decide)
            refine ⟨_, some (), rfl, fun _ => ?_⟩
            refine s_env (env' := [(98, .int .i64 (s168.2.tmod 6))]) (by exact ⟨congrArg some hv237, trivial⟩) ?_
            refine o_add rfl rfl ?_
            exact s_pred fun tm w ht hE hI => ⟨(.int .i64 (w64 (1 + (s168.2.tmod 6)))), [], _, fun d hd => (by cases hd; exact hE _ _ rfl), .refl _, by exact hI, ⟨rfl, rfl⟩⟩
          refine dconsG ?_ ?_
          · intro V239 G240 H241 fr242 hvg245 hle243 hd244
            refine ⟨_, some (), rfl, fun _ => ?_⟩
            refine s_env (env' := [(8, .int .i64 s168.2)]) (by exact ⟨rfl, trivial⟩) ?_
            refine o_mov rfl ?_
            exact s_pred fun tm w ht hE hI => ⟨(.int .i64 s168.2), [], _, fun d hd => (by cases hd; exact hE _ _ rfl), .refl _, by exact hI, ⟨rfl, rfl⟩⟩
          refine dconsG ?_ ?_
          · intro V246 G247 H248 fr249 hvg252 hle250 hd251
            obtain ⟨hv253, hg254⟩ := hd251 5 (by decide)
            refine ⟨_, some (), rfl, fun _ => ?_⟩
            refine s_env (env' := [(100, .int .i64 s168.2)]) (by exact ⟨congrArg some hv253, trivial⟩) ?_
            refine o_quo rfl rfl (by decide) ?_
            exact s_pred fun tm w ht hE hI => ⟨(.int .i64 (IntKind.i64.wrap (s168.2.tdiv 6))), [], _, fun d hd => (by cases hd; exact hE _ _ rfl), .refl _, by exact hI, ⟨rfl, rfl⟩⟩
          refine dconsG ?_ ?_
          · intro V255 G256 H257 fr258 hvg261 hle259 hd260
            obtain ⟨hv262, hg263⟩ := hd260 6 (by decide)
            refine ⟨_, some (), rfl, fun _ => ?_⟩
            refine s_env (env' := [(101, .int .i64 (IntKind.i64.wrap (s168.2.tdiv 6)))]) (by exact ⟨congrArg some hv262, trivial⟩) ?_
            refine o_add rfl rfl ?_
            exact s_pred fun tm w ht hE hI => ⟨(.int .i64 (w64 (1 + (IntKind.i64.wrap (s168.2.tdiv 6))))), [], _, fun d hd => (by cases hd; exact hE _ _ rfl), .refl _, by exact hI, ⟨rfl, rfl⟩⟩
          refine dconsG ?_ ?_
          · intro V264 G265 H266 fr267 hvg270 hle268 hd269
            refine ⟨_, some (), rfl, fun _ => ?_⟩
            refine s_env (env' := [(8, .int .i64 s168.2)]) (by exact ⟨rfl, trivial⟩) ?_
            refine o_mov rfl ?_
            exact s_pred fun tm w ht hE hI => ⟨(.int .i64 s168.2), [], _, fun d hd => (by cases hd; exact hE _ _ rfl), .refl _, by exact hI, ⟨rfl, rfl⟩⟩
          refine dconsG ?_ ?_
          · intro V271 G272 H273 fr274 hvg277 hle275 hd276
            obtain ⟨hv278, hg279⟩ := hd276 8 (by decide)
            refine ⟨_, some (), rfl, fun _ => ?_⟩
            refine s_env (env' := [(103, .int .i64 s168.2)]) (by exact ⟨congrArg some hv278, trivial⟩) ?_
            refine o_add rfl rfl ?_
            exact s_pred fun tm w ht hE hI => ⟨(.int .i64 (w64 (s168.2 + 1))), [], _, fun d hd => (by cases hd; exact hE _ _ rfl), .refl _, by exact hI, ⟨rfl, rfl⟩⟩
          refine dconsG ?_ ?_
          · intro V280 G281 H282 fr283 hvg286 hle284 hd285
            obtain ⟨hv287, hg288⟩ := hd285 9 (by decide)
            refine ⟨_, some (), rfl, fun _ => ?_⟩
            refine s_env (env' := [(104, .int .i64 (w64 (s168.2 + 1)))]) (by exact ⟨congrArg some hv287, trivial⟩) ?_
            refine o_rem rfl rfl (by decide) ?_
            exact s_pred fun tm w ht hE hI => ⟨(.int .i64 ((w64 (s168.2 + 1)).tmod 6)), [], _, fun d hd => (by cases hd; exact hE _ _ rfl), .refl _, by exact hI, ⟨rfl, rfl⟩⟩
          refine dconsG ?_ ?_
          · intro V289 G290 H291 fr292 hvg295 hle293 hd294
            obtain ⟨hv296, hg297⟩ := hd294 10 (by decide)
            refine ⟨_, some (), rfl, fun _ => ?_⟩
            refine s_env (env' := [(105, .int .i64 ((w64 (s168.2 + 1)).tmod 6))]) (by exact ⟨congrArg some hv296, trivial⟩) ?_
            refine o_add rfl rfl ?_
            exact s_pred fun tm w ht hE hI => ⟨(.int .i64 (w64 (1 + ((w64 (s168.2 + 1)).tmod 6)))), [], _, fun d hd => (by cases hd; exact hE _ _ rfl), .refl _, by exact hI, ⟨rfl, rfl⟩⟩
          refine dconsG ?_ ?_
          · intro V298 G299 H300 fr301 hvg304 hle302 hd303
            refine ⟨_, some (), rfl, fun _ => ?_⟩
            refine s_env (env' := [(8, .int .i64 s168.2)]) (by exact ⟨rfl, trivial⟩) ?_
            refine o_mov rfl ?_
            exact s_pred fun tm w ht hE hI => ⟨(.int .i64 s168.2), [], _, fun d hd => (by cases hd; exact hE _ _ rfl), .refl _, by exact hI, ⟨rfl, rfl⟩⟩
          refine dconsG ?_ ?_
          · intro V305 G306 H307 fr308 hvg311 hle309 hd310
            obtain ⟨hv312, hg313⟩ := hd310 12 (by decide)
            refine ⟨_, some (), rfl, fun _ => ?_⟩
            refine s_env (env' := [(107, .int .i64 s168.2)]) (by exact ⟨congrArg some hv312, trivial⟩) ?_
            refine o_quo rfl rfl (by decide) ?_
            exact s_pred fun tm w ht hE hI => ⟨(.int .i64 (IntKind.i64.wrap (s168.2.tdiv 6))), [], _, fun d hd => (by cases hd; exact hE _ _ rfl), .refl _, by exact hI, ⟨rfl, rfl⟩⟩
          refine dconsG ?_ ?_
          · intro V314 G315 H316 fr317 hvg320 hle318 hd319
            obtain ⟨hv321, hg322⟩ := hd319 13 (by decide)
            refine ⟨_, some (), rfl, fun _ => ?_⟩
            refine s_env (env' := [(108, .int .i64 (IntKind.i64.wrap (s168.2.tdiv 6)))]) (by exact ⟨congrArg some hv321, trivial⟩) ?_
            refine o_add rfl rfl ?_
            exact s_pred fun tm w ht hE hI => ⟨(.int .i64 (w64 (3 + (IntKind.i64.wrap (s168.2.tdiv 6))))), [], _, fun d hd => (by cases hd; exact hE _ _ rfl), .refl _, by exact hI, ⟨rfl, rfl⟩⟩
          refine dconsG ?_ ?_
          · intro V323 G324 H325 fr326 hvg329 hle327 hd328
            obtain ⟨hv330, hg331⟩ := hd328 4 (by decide)
            obtain ⟨hv332, hg333⟩ := hd328 7 (by decide)
            obtain ⟨hv334, hg335⟩ := hd328 11 (by decide)
            obtain ⟨hv336, hg337⟩ := hd328 14 (by decide)
            refine ⟨_, (catenarylaw12_link k (w64 (1 + (s168.2.tmod 6))) (w64 (1 + (IntKind.i64.wrap (s168.2.tdiv 6)))) (w64 (1 + ((w64 (s168.2 + 1)).tmod 6))) (w64 (3 + (IntKind.i64.wrap (s168.2.tdiv 6))))).bind some, by rw [h181]; rfl, fun _ => ?_⟩
            refine s_env (env' := [(99, .int .i64 (w64 (1 + (s168.2.tmod 6)))), (102, .int .i64 (w64 (1 + (IntKind.i64.wrap (s168.2.tdiv 6))))), (106, .int .i64 (w64 (1 + ((w64 (s168.2 + 1)).tmod 6)))), (109, .int .i64 (w64 (3 + (IntKind.i64.wrap (s168.2.tdiv 6)))))]) (by exact ⟨congrArg some hv330, congrArg some hv332, congrArg some hv334, congrArg some hv336, trivial⟩) ?_
            refine s_bg fun y179 h338 => ?_
            refine s_callF rfl rfl (catenarylaw12_link_ok k _ (w64 (1 + (s168.2.tmod 6))) (w64 (1 + (IntKind.i64.wrap (s168.2.tdiv 6)))) (w64 (1 + ((w64 (s168.2 + 1)).tmod 6))) (w64 (3 + (IntKind.i64.wrap (s168.2.tdiv 6)))) h338) ?_
            obtain rfl := Option.some.inj (h181.symm.trans h338)
            exact s_pred fun tm w ht hE hI => ⟨(.agg #[.int .i64 y179.A.Switch, .int .i64 y179.A.Port, .int .i64 y179.B.Switch, .int .i64 y179.B.Port]), [], _, fun d hd => (by cases hd; exact hE _ _ rfl), .refl _, by exact hI, ⟨rfl, rfl⟩⟩
          refine dconsG ?_ ?_
          · intro V339 G340 H341 fr342 hvg345 hle343 hd344
            obtain ⟨hv346, hg347⟩ := hd344 15 (by decide)
            refine ⟨_, some (), rfl, fun _ => ?_⟩
            refine s_env (env' := [(110, .agg #[.int .i64 y179.A.Switch, .int .i64 y179.A.Port, .int .i64 y179.B.Switch, .int .i64 y179.B.Port])]) (by exact ⟨congrArg some hv346, trivial⟩) ?_
            refine o_bsl (xs := [.tmp 110]) rfl rfl (by simp only [List.mem_cons, List.not_mem_nil, or_false, forall_eq_or_imp, forall_eq]; exact ⟨rfl, rfl⟩) rfl rfl fun b348 => ?_
            have hA349 : All2 (GoT.rep H341) [[.int .i64 y179.A.Switch, .int .i64 y179.A.Port, .int .i64 y179.B.Switch, .int .i64 y179.B.Port]] ([y179] : List Link) := all2_enc (([y179] : List Link))
            refine s_perm (own' := [.blk b113 (rowObj [.int .i64 1, .slice none ([] : List Link).length 0] 24), .osl (.slice none ([] : List Link).length 0) 4 40 [], .blk b117 (rowObj [.int .i64 6, .slice a169 s168.1.length c170] 24), .osl (.slice (some ⟨b348, 0, none⟩) ([y179] : List Link).length 1) 4 40 [[.int .i64 y179.A.Switch, .int .i64 y179.A.Port, .int .i64 y179.B.Switch, .int .i64 y179.B.Port]]] ++ fr342) (pm3 (a := [.blk b113 (rowObj [.int .i64 1, .slice none ([] : List Link).length 0] 24), .osl (.slice none ([] : List Link).length 0) 4 40 [], .blk b117 (rowObj [.int .i64 6, .slice a169 s168.1.length c170] 24)]) (xs := [.osl (.slice (some ⟨b348, 0, none⟩) ([y179] : List Link).length 1) 4 40 [[.int .i64 y179.A.Switch, .int .i64 y179.A.Port, .int .i64 y179.B.Switch, .int .i64 y179.B.Port]]])) ?_
            exact s_pred fun tm w ht hE hI => ⟨(.slice (some ⟨b348, 0, none⟩) ([y179] : List Link).length 1), [.osl (.slice (some ⟨b348, 0, none⟩) ([y179] : List Link).length 1) 4 40 [[.int .i64 y179.A.Switch, .int .i64 y179.A.Port, .int .i64 y179.B.Switch, .int .i64 y179.B.Port]]], _, fun d hd => (by cases hd; exact hE _ _ rfl), .refl _, by exact hI, ⟨b348, rfl, rfl, hA349⟩⟩
          refine dconsG ?_ ?_
          · intro V351 G352 H353 fr354 hvg357 hle355 hd356
            have hA358 := All2.mono (fun _ _ => GoT.mono hle355) hA172
            obtain ⟨hv359, hg360⟩ := hd356 1 (by decide)
            obtain ⟨b361, hv362, hg363, hp364⟩ := hd356 16 (by decide)
            refine ⟨_, (app s168.1 ([y179] : List Link)).bind some, by rw [h189]; rfl, fun _ => ?_⟩
            refine s_env (env' := [(96, .slice a169 s168.1.length c170), (111, .slice (some ⟨b361, 0, none⟩) ([y179] : List Link).length 1)]) (by exact ⟨congrArg some hv359, congrArg some hv362, trivial⟩) ?_
            have hg365 : G352 20 = [.osl (.slice a169 s168.1.length c170) 4 40 ls171] := hvg357 0 _ rfl
            refine s_ownE (own' := [.blk b113 (rowObj [.int .i64 1, .slice none ([] : List Link).length 0] 24), .osl (.slice none ([] : List Link).length 0) 4 40 [], .blk b117 (rowObj [.int .i64 6, .slice a169 s168.1.length c170] 24), .osl (.slice (some ⟨b361, 0, none⟩) ([y179] : List Link).length 1) 4 40 [[.int .i64 y179.A.Switch, .int .i64 y179.A.Port, .int .i64 y179.B.Switch, .int .i64 y179.B.Port]], .osl (.slice a169 s168.1.length c170) 4 40 ls171] ++ fr354) (by simp only [List.flatMap_cons, List.flatMap_nil, List.append_nil, hg363, hg365]; rfl) ?_
            refine o_appO 4 3 rfl rfl rfl hA358 rfl hp364 fun a366 c367 h368 hA369 => ?_
            exact s_pred fun tm w ht hE hI => ⟨(.slice a366 (s168.1 ++ ([y179] : List Link)).length c367), [.osl (.slice (some ⟨b361, 0, none⟩) ([y179] : List Link).length 1) 4 40 [[.int .i64 y179.A.Switch, .int .i64 y179.A.Port, .int .i64 y179.B.Switch, .int .i64 y179.B.Port]], .osl (.slice a366 (s168.1 ++ ([y179] : List Link)).length c367) 4 40 (ls171 ++ ([[.int .i64 y179.A.Switch, .int .i64 y179.A.Port, .int .i64 y179.B.Switch, .int .i64 y179.B.Port]]))], _, fun d hd => (by cases hd; exact hE _ _ rfl), .refl _, by exact hI, ⟨a366, c367, b361, rfl, rfl, hp364, hA369⟩⟩
          exact dnilG
        · intro V372 G373 H370 hvg375 hle371 hF374
          have hA376 := All2.mono (fun _ _ => GoT.mono hle371) hA177
          obtain ⟨a377, c378, b379, hv380, hg381, hp382, hp383⟩ := hF374 17 (show 17 < 18 by decide)
          refine s_env (env' := [(112, .slice a377 (s168.1 ++ ([y179] : List Link)).length c378), (6, .pointer (some ⟨b113, 0, none⟩)), (7, .pointer (some ⟨b117, 0, none⟩)), (8, .int .i64 s168.2), (91, .int .i64 s168.2), (92, .bool (decide (s168.2 < 12)))]) (by exact ⟨congrArg some hv380, rfl, rfl, rfl, rfl, rfl, trivial⟩) ?_
          refine s_liv (js := [17]) rfl ?_
          refine s_ownE (own' := [.blk b113 (rowObj [.int .i64 1, .slice none ([] : List Link).length 0] 24), .osl (.slice none ([] : List Link).length 0) 4 40 [], .blk b117 (rowObj [.int .i64 6, .slice a169 s168.1.length c170] 24), .osl (.slice (some ⟨b379, 0, none⟩) ([y179] : List Link).length 1) 4 40 [[.int .i64 y179.A.Switch, .int .i64 y179.A.Port, .int .i64 y179.B.Switch, .int .i64 y179.B.Port]], .osl (.slice a377 (s168.1 ++ ([y179] : List Link)).length c378) 4 40 (ls171 ++ ([[.int .i64 y179.A.Switch, .int .i64 y179.A.Port, .int .i64 y179.B.Switch, .int .i64 y179.B.Port]]))]) (by simp only [List.flatMap_cons, List.flatMap_nil, List.append_nil, hg381]; rfl) ?_
          refine o_fa rfl ?_
          refine o_st 2 rfl rfl rfl rfl rfl rfl ?_
          refine s_done ?_
          refine s_inBlock ?_
          refine s_region ?_
          refine o_mov rfl ?_
          refine o_add rfl rfl ?_
          refine o_asg rfl ?_
          refine s_done ?_
          exact s_env (by exact ⟨rfl, rfl, rfl, trivial⟩) (s_own (by exact (.cons_cons _ (.cons_cons _ (.cons_cons _ (.cons _ (.cons_cons _ .slnil)))))) (ih174 ((s168.1 ++ ([y179] : List Link)), w64 (s168.2 + 1)) _ _ _ ⟨_, _, _, rfl, rfl, (Hle.trans hle176 hle371), hp383⟩))
      · refine s_exit rfl ?_
        exact s_env (by exact ⟨rfl, rfl, trivial⟩) (s_own (by exact (.cons_cons _ (.cons_cons _ (.cons_cons _ (.cons_cons _ .slnil))))) (J167 s168.1 _ _ _ ⟨_, _, _, rfl, rfl, hle176, hA172⟩))
  · intro J384
    refine s_block ?_
    refine s_env (env' := [(1, .slice (some ⟨b107, 0, none⟩) ([(⟨0, []⟩ : Graph), (⟨7, []⟩ : Graph), (⟨2, ([y1] : List Link)⟩ : Graph), (⟨2, ([y10] : List Link)⟩ : Graph), (⟨2, ([y20] : List Link)⟩ : Graph), (⟨2, ([y31] : List Link)⟩ : Graph), (⟨2, ([y43] : List Link)⟩ : Graph), (⟨3, ([y56, y58] : List Link)⟩ : Graph), (⟨3, ([y72, y74] : List Link)⟩ : Graph), (⟨2, ([y89, y91] : List Link)⟩ : Graph)] : List Graph).length 10), (2, .int .i64 0)]) (by exact ⟨rfl, rfl, trivial⟩) ?_
    refine s_own (own' := [.osl (.slice (some ⟨b107, 0, none⟩) ([(⟨0, []⟩ : Graph), (⟨7, []⟩ : Graph), (⟨2, ([y1] : List Link)⟩ : Graph), (⟨2, ([y10] : List Link)⟩ : Graph), (⟨2, ([y20] : List Link)⟩ : Graph), (⟨2, ([y31] : List Link)⟩ : Graph), (⟨2, ([y43] : List Link)⟩ : Graph), (⟨3, ([y56, y58] : List Link)⟩ : Graph), (⟨3, ([y72, y74] : List Link)⟩ : Graph), (⟨2, ([y89, y91] : List Link)⟩ : Graph)] : List Graph).length 10) 2 24 [[.int .i64 0, .slice none 0 0], [.int .i64 7, .slice none 0 0], [.int .i64 2, .slice (some ⟨b3, 0, none⟩) ([y1] : List Link).length 1], [.int .i64 2, .slice (some ⟨b12, 0, none⟩) ([y10] : List Link).length 1], [.int .i64 2, .slice (some ⟨b22, 0, none⟩) ([y20] : List Link).length 1], [.int .i64 2, .slice (some ⟨b33, 0, none⟩) ([y31] : List Link).length 1], [.int .i64 2, .slice (some ⟨b45, 0, none⟩) ([y43] : List Link).length 1], [.int .i64 3, .slice (some ⟨b60, 0, none⟩) ([y56, y58] : List Link).length 2], [.int .i64 3, .slice (some ⟨b76, 0, none⟩) ([y72, y74] : List Link).length 2], [.int .i64 2, .slice (some ⟨b93, 0, none⟩) ([y89, y91] : List Link).length 2]]]) (.cons_cons _ .slnil) ?_
    refine s_loopn (fun q s385 => catenarylaw12_GraphNames_l1 k y1 y10 y20 y31 y43 y56 y58 y72 y74 y89 y91 q s385) (fun s385 env own H' => env = [(1, .slice (some ⟨b107, 0, none⟩) ([(⟨0, []⟩ : Graph), (⟨7, []⟩ : Graph), (⟨2, ([y1] : List Link)⟩ : Graph), (⟨2, ([y10] : List Link)⟩ : Graph), (⟨2, ([y20] : List Link)⟩ : Graph), (⟨2, ([y31] : List Link)⟩ : Graph), (⟨2, ([y43] : List Link)⟩ : Graph), (⟨3, ([y56, y58] : List Link)⟩ : Graph), (⟨3, ([y72, y74] : List Link)⟩ : Graph), (⟨2, ([y89, y91] : List Link)⟩ : Graph)] : List Graph).length 10), (2, .int .i64 s385)] ∧ own = [.osl (.slice (some ⟨b107, 0, none⟩) ([(⟨0, []⟩ : Graph), (⟨7, []⟩ : Graph), (⟨2, ([y1] : List Link)⟩ : Graph), (⟨2, ([y10] : List Link)⟩ : Graph), (⟨2, ([y20] : List Link)⟩ : Graph), (⟨2, ([y31] : List Link)⟩ : Graph), (⟨2, ([y43] : List Link)⟩ : Graph), (⟨3, ([y56, y58] : List Link)⟩ : Graph), (⟨3, ([y72, y74] : List Link)⟩ : Graph), (⟨2, ([y89, y91] : List Link)⟩ : Graph)] : List Graph).length 10) 2 24 [[.int .i64 0, .slice none 0 0], [.int .i64 7, .slice none 0 0], [.int .i64 2, .slice (some ⟨b3, 0, none⟩) ([y1] : List Link).length 1], [.int .i64 2, .slice (some ⟨b12, 0, none⟩) ([y10] : List Link).length 1], [.int .i64 2, .slice (some ⟨b22, 0, none⟩) ([y20] : List Link).length 1], [.int .i64 2, .slice (some ⟨b33, 0, none⟩) ([y31] : List Link).length 1], [.int .i64 2, .slice (some ⟨b45, 0, none⟩) ([y43] : List Link).length 1], [.int .i64 3, .slice (some ⟨b60, 0, none⟩) ([y56, y58] : List Link).length 2], [.int .i64 3, .slice (some ⟨b76, 0, none⟩) ([y72, y74] : List Link).length 2], [.int .i64 2, .slice (some ⟨b93, 0, none⟩) ([y89, y91] : List Link).length 2]]] ∧ Hle H96 H') (fun _ => rfl) ?_ k 0 ⟨rfl, rfl, .refl _⟩
    rintro q386 ih387 s385 _ _ H388 ⟨rfl, rfl, hle389⟩
    refine s_eq (by rw [catenarylaw12_GraphNames_l1]) ?_
    have hA390 := All2.mono (fun _ _ => GoT.mono hle389) hA108
    refine s_seq ?_
    refine s_seq ?_
    refine s_region ?_
    refine o_mov rfl ?_
    refine o_mov rfl ?_
    refine o_lenS rfl ?_
    refine o_lt rfl rfl ?_
    refine s_done ?_
    refine s_cond rfl (fun h391 => ?_) (fun h391 => ?_)
    · refine s_skip ?_
      refine s_seq ?_
      refine s_block ?_
      refine s_seq ?_
      refine s_region ?_
      refine o_mov rfl ?_
      refine o_mov rfl ?_
      refine o_ixO 0 rfl hA390 rfl rfl fun y392 bk394 vs395 h393 ha396 hi397 hr398 => ?_
      obtain ⟨a399, c400, rfl, hs401⟩ := hr398
      obtain rfl := s_bk ha396
      refine o_ldO 0 0 rfl hi397 rfl rfl rfl ?_
      refine o_bld rfl rfl ?_
      refine s_bg fun y402 h403 => ?_
      refine s_callF rfl rfl (graph_Peer_ok k _ y392 _ _ hs401 (⟨1, 1⟩ : End) h403) ?_
      refine o_mov rfl ?_
      refine o_ext rfl rfl ?_
      refine o_ext rfl rfl ?_
      refine o_ext rfl rfl ?_
      refine o_alloc fun b404 => ?_
      refine o_st 1 rfl rfl rfl rfl rfl rfl ?_
      refine o_asg rfl ?_
      refine o_asg rfl ?_
      refine s_done ?_
      refine s_seq ?_
      refine s_region ?_
      refine s_joinR (fun p406 env own H' => env = [(1, .slice (some ⟨b107, 0, none⟩) ([(⟨0, []⟩ : Graph), (⟨7, []⟩ : Graph), (⟨2, ([y1] : List Link)⟩ : Graph), (⟨2, ([y10] : List Link)⟩ : Graph), (⟨2, ([y20] : List Link)⟩ : Graph), (⟨2, ([y31] : List Link)⟩ : Graph), (⟨2, ([y43] : List Link)⟩ : Graph), (⟨3, ([y56, y58] : List Link)⟩ : Graph), (⟨3, ([y72, y74] : List Link)⟩ : Graph), (⟨2, ([y89, y91] : List Link)⟩ : Graph)] : List Graph).length 10), (2, .int .i64 s385), (88, .bool p406)] ∧ own = [.osl (.slice (some ⟨b107, 0, none⟩) ([(⟨0, []⟩ : Graph), (⟨7, []⟩ : Graph), (⟨2, ([y1] : List Link)⟩ : Graph), (⟨2, ([y10] : List Link)⟩ : Graph), (⟨2, ([y20] : List Link)⟩ : Graph), (⟨2, ([y31] : List Link)⟩ : Graph), (⟨2, ([y43] : List Link)⟩ : Graph), (⟨3, ([y56, y58] : List Link)⟩ : Graph), (⟨3, ([y72, y74] : List Link)⟩ : Graph), (⟨2, ([y89, y91] : List Link)⟩ : Graph)] : List Graph).length 10) 2 24 [[.int .i64 0, .slice none 0 0], [.int .i64 7, .slice none 0 0], [.int .i64 2, .slice (some ⟨b3, 0, none⟩) ([y1] : List Link).length 1], [.int .i64 2, .slice (some ⟨b12, 0, none⟩) ([y10] : List Link).length 1], [.int .i64 2, .slice (some ⟨b22, 0, none⟩) ([y20] : List Link).length 1], [.int .i64 2, .slice (some ⟨b33, 0, none⟩) ([y31] : List Link).length 1], [.int .i64 2, .slice (some ⟨b45, 0, none⟩) ([y43] : List Link).length 1], [.int .i64 3, .slice (some ⟨b60, 0, none⟩) ([y56, y58] : List Link).length 2], [.int .i64 3, .slice (some ⟨b76, 0, none⟩) ([y72, y74] : List Link).length 2], [.int .i64 2, .slice (some ⟨b93, 0, none⟩) ([y89, y91] : List Link).length 2]]] ∧ Hle H388 H') ?_ ?_
      · rintro p406 _ _ H407 ⟨rfl, rfl, hle408⟩
        have hA409 := All2.mono (fun _ _ => GoT.mono hle408) hA390
        refine s_cond rfl (fun h410 => ?_) (fun h410 => ?_)
        · refine s_seq ?_
          refine s_region ?_
          refine o_asg rfl ?_
          refine s_done ?_
          refine s_lret ?_
          exact s_retv (xs := [.tmp 0]) (vs := [.bool false]) [] fn_6 rfl ⟨rv_tmp rfl, trivial⟩ (.cons _ .slnil) ⟨rfl, rfl⟩
        · refine s_skip ?_
          refine s_inBlock ?_
          refine s_region ?_
          refine o_mov rfl ?_
          refine o_add rfl rfl ?_
          refine o_asg rfl ?_
          refine s_done ?_
          exact s_env (by exact ⟨rfl, rfl, trivial⟩) (s_own (by exact (.cons_cons _ .slnil)) (ih387 (w64 (s385 + 1)) _ _ _ ⟨rfl, rfl, (Hle.trans hle389 hle408)⟩))
      · intro J411
        refine o_mov rfl ?_
        refine o_mov rfl ?_
        refine o_ixO 0 rfl hA390 rfl rfl fun y412 bk414 vs415 h413 ha416 hi417 hr418 => ?_
        obtain ⟨a419, c420, rfl, hs421⟩ := hr418
        obtain rfl := s_bk ha416
        refine o_ldO 0 0 rfl hi417 rfl rfl rfl ?_
        refine s_bg fun y422 h423 => ?_
        refine s_callF rfl rfl (graph_Check_ok k _ y412 _ _ hs421 h423) ?_
        refine o_ne rfl rfl ?_
        refine o_mov rfl ?_
        refine s_split (y422 != 2) (fun h424 => ?_) (fun h424 => ?_)
        · refine s_unwant rfl rfl h424 ?_
          refine o_pickT rfl h424 rfl ?_
          refine o_mov rfl ?_
          refine s_unwant rfl rfl rfl ?_
          refine s_unwant rfl rfl rfl ?_
          refine s_unwant rfl rfl rfl ?_
          refine s_unwant rfl rfl rfl ?_
          refine s_unwant rfl rfl rfl ?_
          refine s_unwant rfl rfl rfl ?_
          refine s_unwant rfl rfl rfl ?_
          refine o_pickT rfl rfl rfl ?_
          refine o_mov rfl ?_
          refine s_unwant rfl rfl rfl ?_
          refine s_unwant rfl rfl rfl ?_
          refine s_unwant rfl rfl rfl ?_
          refine s_unwant rfl rfl rfl ?_
          refine s_unwant rfl rfl rfl ?_
          refine s_unwant rfl rfl rfl ?_
          refine s_unwant rfl rfl rfl ?_
          refine o_pickT rfl rfl rfl ?_
          refine o_mov rfl ?_
          refine s_unwant rfl rfl rfl ?_
          refine s_unwant rfl rfl rfl ?_
          refine s_unwant rfl rfl rfl ?_
          refine s_unwant rfl rfl rfl ?_
          refine s_unwant rfl rfl rfl ?_
          refine o_pickT rfl rfl rfl ?_
          exact s_env (by exact ⟨rfl, rfl, rfl, trivial⟩) (s_own (by exact (.cons_cons _ (.cons _ .slnil))) (J411 true _ _ _ ⟨rfl, rfl, .refl _⟩))
        · refine s_want rfl rfl h424 ?_
          refine o_mov rfl ?_
          refine o_pickF rfl h424 rfl ?_
          refine o_mov rfl ?_
          refine s_split y402.2.2 (fun h425 => ?_) (fun h425 => ?_)
          · refine s_unwant rfl rfl h425 ?_
            refine s_unwant rfl rfl h425 ?_
            refine s_unwant rfl rfl h425 ?_
            refine s_unwant rfl rfl h425 ?_
            refine s_unwant rfl rfl h425 ?_
            refine s_unwant rfl rfl h425 ?_
            refine s_unwant rfl rfl h425 ?_
            refine o_pickT rfl h425 rfl ?_
            refine o_mov rfl ?_
            refine s_unwant rfl rfl rfl ?_
            refine s_unwant rfl rfl rfl ?_
            refine s_unwant rfl rfl rfl ?_
            refine s_unwant rfl rfl rfl ?_
            refine s_unwant rfl rfl rfl ?_
            refine s_unwant rfl rfl rfl ?_
            refine s_unwant rfl rfl rfl ?_
            refine o_pickT rfl rfl rfl ?_
            refine o_mov rfl ?_
            refine s_unwant rfl rfl rfl ?_
            refine s_unwant rfl rfl rfl ?_
            refine s_unwant rfl rfl rfl ?_
            refine s_unwant rfl rfl rfl ?_
            refine s_unwant rfl rfl rfl ?_
            refine o_pickT rfl rfl rfl ?_
            exact s_env (by exact ⟨rfl, rfl, rfl, trivial⟩) (s_own (by exact (.cons_cons _ (.cons _ .slnil))) (J411 true _ _ _ ⟨rfl, rfl, .refl _⟩))
          · refine s_want rfl rfl h425 ?_
            refine o_mov rfl ?_
            refine s_want rfl rfl h425 ?_
            refine o_mov rfl ?_
            refine s_want rfl rfl h425 ?_
            refine o_ixO 0 rfl hA390 rfl rfl fun y426 bk428 vs429 h427 ha430 hi431 hr432 => ?_
            obtain ⟨a433, c434, rfl, hs435⟩ := hr432
            obtain rfl := s_bk ha430
            refine s_want rfl rfl h425 ?_
            refine o_ldO 0 0 rfl hi431 rfl rfl rfl ?_
            refine s_want rfl rfl h425 ?_
            refine s_bg fun y436 h437 => ?_
            refine s_call [] _ rfl rfl (.refl _) (graph_Ports_ok k _ y426 _ _ hs435 1 h437) ?_
            rintro _ H441 _ hle442 ⟨a438, c439, rfl, rfl⟩
            have hs443 := RSl.mono hle442 hs401
            have hs444 := RSl.mono hle442 hs421
            have hs445 := RSl.mono hle442 hs435
            have hA446 := All2.mono (fun _ _ => GoT.mono hle442) hA390
            have hA447 : All2 (GoT.rep H441) (y436.map GoE.enc) y436 := all2_enc _
            refine s_want rfl rfl h425 ?_
            refine o_lenS rfl ?_
            refine s_want rfl rfl h425 ?_
            refine o_ne rfl rfl ?_
            refine o_pickF rfl h425 rfl ?_
            refine o_mov rfl ?_
            refine s_split ((y436.length : Int) != 0) (fun h448 => ?_) (fun h448 => ?_)
            · refine s_unwant rfl rfl h448 ?_
              refine s_unwant rfl rfl h448 ?_
              refine s_unwant rfl rfl h448 ?_
              refine s_unwant rfl rfl h448 ?_
              refine s_unwant rfl rfl h448 ?_
              refine s_unwant rfl rfl h448 ?_
              refine s_unwant rfl rfl h448 ?_
              refine o_pickT rfl h448 rfl ?_
              refine o_mov rfl ?_
              refine s_unwant rfl rfl rfl ?_
              refine s_unwant rfl rfl rfl ?_
              refine s_unwant rfl rfl rfl ?_
              refine s_unwant rfl rfl rfl ?_
              refine s_unwant rfl rfl rfl ?_
              refine o_pickT rfl rfl rfl ?_
              exact s_env (by exact ⟨rfl, rfl, rfl, trivial⟩) (s_own (by exact (.cons_cons _ (.cons _ (.cons _ .slnil)))) (J411 true _ _ _ ⟨rfl, rfl, hle442⟩))
            · refine s_want rfl rfl h448 ?_
              refine o_mov rfl ?_
              refine s_want rfl rfl h448 ?_
              refine o_mov rfl ?_
              refine s_want rfl rfl h448 ?_
              refine o_ixO 0 rfl hA446 rfl rfl fun y449 bk451 vs452 h450 ha453 hi454 hr455 => ?_
              obtain ⟨a456, c457, rfl, hs458⟩ := hr455
              obtain rfl := s_bk ha453
              refine s_want rfl rfl h448 ?_
              refine o_ldO 0 0 rfl hi454 rfl rfl rfl ?_
              refine s_want rfl rfl h448 ?_
              refine s_bg fun y459 h460 => ?_
              refine s_call [] _ rfl rfl (.refl _) (graph_Reach_ok k _ y449 _ _ hs458 ([]) _ _ rsl_nil 1 h460) ?_
              rintro _ H464 _ hle465 ⟨a461, c462, rfl, rfl⟩
              have hs466 := RSl.mono hle465 hs443
              have hs467 := RSl.mono hle465 hs444
              have hs468 := RSl.mono hle465 hs445
              have hs469 := RSl.mono hle465 hs458
              have hA470 := All2.mono (fun _ _ => GoT.mono hle465) hA446
              have hA471 := All2.mono (fun _ _ => GoT.mono hle465) hA447
              have hA472 : All2 (GoT.rep H464) (y459.map GoE.enc) y459 := all2_enc _
              refine s_want rfl rfl h448 ?_
              refine o_lenS rfl ?_
              refine s_want rfl rfl h448 ?_
              refine o_ne rfl rfl ?_
              refine o_pickF rfl h448 rfl ?_
              refine o_mov rfl ?_
              refine s_split ((y459.length : Int) != 0) (fun h473 => ?_) (fun h473 => ?_)
              · refine s_unwant rfl rfl h473 ?_
                refine s_unwant rfl rfl h473 ?_
                refine s_unwant rfl rfl h473 ?_
                refine s_unwant rfl rfl h473 ?_
                refine s_unwant rfl rfl h473 ?_
                refine o_pickT rfl h473 rfl ?_
                exact s_env (by exact ⟨rfl, rfl, rfl, trivial⟩) (s_own (by exact (.cons_cons _ (.cons _ (.cons _ (.cons _ .slnil))))) (J411 true _ _ _ ⟨rfl, rfl, (Hle.trans hle442 hle465)⟩))
              · refine s_want rfl rfl h473 ?_
                refine o_mov rfl ?_
                refine s_want rfl rfl h473 ?_
                refine o_mov rfl ?_
                refine s_want rfl rfl h473 ?_
                refine o_ixO 0 rfl hA470 rfl rfl fun y474 bk476 vs477 h475 ha478 hi479 hr480 => ?_
                obtain ⟨a481, c482, rfl, hs483⟩ := hr480
                obtain rfl := s_bk ha478
                refine s_want rfl rfl h473 ?_
                refine o_ldO 0 0 rfl hi479 rfl rfl rfl ?_
                refine s_want rfl rfl h473 ?_
                refine s_bg fun y484 h485 => ?_
                refine s_callF rfl rfl (graph_Whole_ok k _ y474 _ _ hs483 ([]) _ _ rsl_nil h485) ?_
                refine o_pickF rfl h473 rfl ?_
                exact s_env (by exact ⟨rfl, rfl, rfl, trivial⟩) (s_own (by exact (.cons_cons _ (.cons _ (.cons _ (.cons _ .slnil))))) (J411 y484 _ _ _ ⟨rfl, rfl, (Hle.trans hle442 hle465)⟩))
    · refine s_exit rfl ?_
      exact s_env (by exact trivial) (s_own (by exact (.cons _ .slnil)) (J384 () _ _ _ ⟨rfl, rfl, hle389⟩))
end Go.Cat.G3
