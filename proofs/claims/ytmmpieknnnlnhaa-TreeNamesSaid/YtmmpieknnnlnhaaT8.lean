/- A text of the proof of the seat's laws: a step logic over the machine, or pure functions that the Go functions come to. No condition. -/
import Derived.Test.YtmmpieknnnlnhaaT2b

namespace Go.Cat.G3
open Go Go.Cat Go.Proofs
set_option linter.unusedVariables false
set_option linter.unusedSimpArgs false

instance : TSl Try.prog 77 22 1 24 := ⟨by kernel_rfl, fun _ => by kernel_rfl, ⟨Try.t22, by kernel_rfl, by kernel_rfl⟩, by decide, by decide, ⟨.slice none 0 0, fun _ => by kernel_rfl, rfl, rfl⟩⟩
instance : TFun Try.prog 43 := ⟨_, (by kernel_rfl : Try.prog.funcs[43]? = some Try.f43), by decide, rfl⟩

/-! catenary/catenarylaw20.TreeNames -/
def catenarylaw20_TreeNames_l1 (k : Nat) (y1 : End) (y3 : End) (y8 : End) (y10 : End) (y15 : End) (y17 : End) (y19 : End) (y21 : End) : Nat → Int → Option (LX (Bool) (Unit))
  | 0, _ => none
  | q248 + 1, s247 =>
    if (decide (s247 < (([([(⟨y1, y3⟩ : Link)] : List Link), ([(⟨y8, y10⟩ : Link)] : List Link), ([(⟨y15, y17⟩ : Link), (⟨y19, y21⟩ : Link)] : List Link), ([(⟨(⟨0, 0⟩ : End), (⟨0, 0⟩ : End)⟩ : Link)] : List Link)] : List (List Link)).length : Int))) = true then
      (rd ([([(⟨y1, y3⟩ : Link)] : List Link), ([(⟨y8, y10⟩ : Link)] : List Link), ([(⟨y15, y17⟩ : Link), (⟨y19, y21⟩ : Link)] : List Link), ([(⟨(⟨0, 0⟩ : End), (⟨0, 0⟩ : End)⟩ : Link)] : List Link)] : List (List Link)) s247).bind fun y254 =>
      (tree_Tree k y254).bind fun y264 =>
      (rd ([([(⟨y1, y3⟩ : Link)] : List Link), ([(⟨y8, y10⟩ : Link)] : List Link), ([(⟨y15, y17⟩ : Link), (⟨y19, y21⟩ : Link)] : List Link), ([(⟨(⟨0, 0⟩ : End), (⟨0, 0⟩ : End)⟩ : Link)] : List Link)] : List (List Link)) s247).bind fun y274 =>
      (tree_First k y274 1).bind fun y284 =>
      (rd ([([(⟨y1, y3⟩ : Link)] : List Link), ([(⟨y8, y10⟩ : Link)] : List Link), ([(⟨y15, y17⟩ : Link), (⟨y19, y21⟩ : Link)] : List Link), ([(⟨(⟨0, 0⟩ : End), (⟨0, 0⟩ : End)⟩ : Link)] : List Link)] : List (List Link)) s247).bind fun y296 =>
      (tree_Second k y296 1).bind fun y306 =>
      if (((y264.2 != 2) || (y284.2 || y306.2))) = true then
        some (.ret false)
      else
        catenarylaw20_TreeNames_l1 k y1 y3 y8 y10 y15 y17 y19 y21 q248 (w64 (s247 + 1))
    else
      some (.out ())
def catenarylaw20_TreeNames_l0 (k : Nat) (y1 : End) (y3 : End) (y8 : End) (y10 : End) (y15 : End) (y17 : End) (y19 : End) (y21 : End) : Nat → (List Link) × Int → Option ((List Link))
  | 0, _ => none
  | q226 + 1, s221 =>
    if (decide (s221.2 < 6)) = true then
      (catenarylaw20_at k s221.2 2).bind fun y235 =>
      (catenarylaw20_at k (w64 (s221.2 + 1)) 1).bind fun y237 =>
      (app s221.1 ([(⟨y235, y237⟩ : Link)] : List Link)).bind fun _ =>
      catenarylaw20_TreeNames_l0 k y1 y3 y8 y10 y15 y17 y19 y21 q226 ((s221.1 ++ ([(⟨y235, y237⟩ : Link)] : List Link)), w64 (s221.2 + 1))
    else
      some s221.1
def catenarylaw20_TreeNames (k : Nat)  : Option Bool :=
  (catenarylaw20_at k 1 1).bind fun y1 =>
  (catenarylaw20_at k 1 2).bind fun y3 =>
  (catenarylaw20_at k 1 1).bind fun y8 =>
  (catenarylaw20_at k 7 1).bind fun y10 =>
  (catenarylaw20_at k 1 1).bind fun y15 =>
  (catenarylaw20_at k 2 1).bind fun y17 =>
  (catenarylaw20_at k 3 1).bind fun y19 =>
  (catenarylaw20_at k 1 1).bind fun y21 =>
  (catenarylaw20_TreeNames_l1 k y1 y3 y8 y10 y15 y17 y19 y21 k 0).bind (LX.go fun p60 =>
  (tree_Tree k ([])).bind fun y63 =>
  (tree_First k ([]) 1).bind fun y71 =>
  (tree_Second k ([]) 1).bind fun y80 =>
  (tree_First k ([]) 0).bind fun y90 =>
  (tree_First k ([]) 7).bind fun y101 =>
  (catenarylaw20_at k 9 9).bind fun y113 =>
  (catenarylaw20_at k 2 1).bind fun y115 =>
  (catenarylaw20_at k 1 1).bind fun y117 =>
  (catenarylaw20_at k 2 9).bind fun y119 =>
  (catenarylaw20_at k (-1) 0).bind fun y121 =>
  (catenarylaw20_at k 5 1).bind fun y123 =>
  (catenarylaw20_at k 4 2).bind fun y125 =>
  (catenarylaw20_at k 1 1).bind fun y127 =>
  (catenarylaw20_TreeNames_l0 k y1 y3 y8 y10 y15 y17 y19 y21 k (([] : List Link), 1)).bind fun p135 =>
  (tree_First k p135 6).bind fun y146 =>
  (catenarylaw20_works k).bind fun y152 =>
  if (y152) = true then
    if (y63.2 == 0) = true then
      if ((y63.1.length : Int) == 7) = true then
        if ((y71.1.length : Int) == 0) = true then
          if (y71.2) = true then
            if ((y80.1.length : Int) == 0) = true then
              if (y80.2) = true then
                if (!y90.2) = true then
                  if (!y101.2) = true then
                    (tree_Below k ([y113, y115, y117, y119, y121, y123, y125, y127] : List End) 1).bind fun y163 =>
                    (catenaryref00_EqInts k y163 ([1, 2, 3] : List Int)).bind fun y172 =>
                    if (y172) = true then
                      (tree_Below k ([y113, y115, y117, y119, y121, y123, y125, y127] : List End) 5).bind fun y175 =>
                      (catenaryref00_EqInts k y175 ([5] : List Int)).bind fun y184 =>
                      if (y184) = true then
                        (tree_Below k ([y113, y115, y117, y119, y121, y123, y125, y127] : List End) 0).bind fun y187 =>
                        if ((y187.length : Int) == 0) = true then
                          (tree_Below k ([]) 6).bind fun y194 =>
                          (catenaryref00_EqInts k y194 ([6] : List Int)).bind fun y216 =>
                          if (y216) = true then
                            if (y146.2) = true then
                              some ((y146.1.length : Int) == 5)
                            else
                              some false
                          else
                            some false
                        else
                          some false
                      else
                        some false
                    else
                      some false
                  else
                    some false
                else
                  some false
              else
                some false
            else
              some false
          else
            some false
        else
          some false
      else
        some false
    else
      some false
  else
    some false)
theorem fn_12 : Try.prog.funcs[12]? = some Try.f12 := by kernel_rfl
set_option maxRecDepth 100000 in
set_option maxHeartbeats 4000000 in
theorem catenarylaw20_TreeNames_ok (k : Nat) (H : Heap)  {r : Bool} (hr : catenarylaw20_TreeNames k  = some r) :
    Fn Try.prog 12 [] H [] fun H' v out => v = .bool r ∧ out = [] := by
  refine fn_of_sim (args := []) (n := 195) (Φ := fun r H' v out => v = .bool r ∧ out = []) hr fn_12 rfl rfl rfl fun w => ?_
  refine s_eq (by rw [catenarylaw20_TreeNames]) ?_
  refine s_seq ?_
  refine s_region ?_
  refine o_asg rfl ?_
  refine s_done ?_
  refine s_seq ?_
  refine s_region ?_
  refine s_bg fun y1 h2 => ?_
  refine s_callF rfl rfl (catenarylaw20_at_ok k _ 1 1 h2) ?_
  refine s_bg fun y3 h4 => ?_
  refine s_callF rfl rfl (catenarylaw20_at_ok k _ 1 2 h4) ?_
  refine o_bld rfl rfl ?_
  refine o_bsl (xs := [.tmp 26]) rfl rfl (by simp only [List.mem_cons, List.not_mem_nil, or_false, forall_eq_or_imp, forall_eq]; exact ⟨rfl, rfl⟩) rfl rfl fun b5 => ?_
  have hA6 : All2 (GoT.rep H) [[.int .i64 y1.Switch, .int .i64 y1.Port, .int .i64 y3.Switch, .int .i64 y3.Port]] ([(⟨y1, y3⟩ : Link)] : List Link) := all2_enc (([(⟨y1, y3⟩ : Link)] : List Link))
  refine s_bg fun y8 h9 => ?_
  refine s_callF rfl rfl (catenarylaw20_at_ok k _ 1 1 h9) ?_
  refine s_bg fun y10 h11 => ?_
  refine s_callF rfl rfl (catenarylaw20_at_ok k _ 7 1 h11) ?_
  refine o_bld rfl rfl ?_
  refine o_bsl (xs := [.tmp 30]) rfl rfl (by simp only [List.mem_cons, List.not_mem_nil, or_false, forall_eq_or_imp, forall_eq]; exact ⟨rfl, rfl⟩) rfl rfl fun b12 => ?_
  have hA13 : All2 (GoT.rep H) [[.int .i64 y8.Switch, .int .i64 y8.Port, .int .i64 y10.Switch, .int .i64 y10.Port]] ([(⟨y8, y10⟩ : Link)] : List Link) := all2_enc (([(⟨y8, y10⟩ : Link)] : List Link))
  refine s_bg fun y15 h16 => ?_
  refine s_callF rfl rfl (catenarylaw20_at_ok k _ 1 1 h16) ?_
  refine s_bg fun y17 h18 => ?_
  refine s_callF rfl rfl (catenarylaw20_at_ok k _ 2 1 h18) ?_
  refine o_bld rfl rfl ?_
  refine s_bg fun y19 h20 => ?_
  refine s_callF rfl rfl (catenarylaw20_at_ok k _ 3 1 h20) ?_
  refine s_bg fun y21 h22 => ?_
  refine s_callF rfl rfl (catenarylaw20_at_ok k _ 1 1 h22) ?_
  refine o_bld rfl rfl ?_
  refine o_bsl (xs := [.tmp 34, .tmp 37]) rfl rfl (by simp only [List.mem_cons, List.not_mem_nil, or_false, forall_eq_or_imp, forall_eq]; exact ⟨⟨rfl, rfl⟩, ⟨rfl, rfl⟩⟩) rfl rfl fun b23 => ?_
  have hA24 : All2 (GoT.rep H) [[.int .i64 y15.Switch, .int .i64 y15.Port, .int .i64 y17.Switch, .int .i64 y17.Port], [.int .i64 y19.Switch, .int .i64 y19.Port, .int .i64 y21.Switch, .int .i64 y21.Port]] ([(⟨y15, y17⟩ : Link), (⟨y19, y21⟩ : Link)] : List Link) := all2_enc (([(⟨y15, y17⟩ : Link), (⟨y19, y21⟩ : Link)] : List Link))
  refine o_bld rfl rfl ?_
  refine o_bsl (xs := [.tmp 39]) rfl rfl (by simp only [List.mem_cons, List.not_mem_nil, or_false, forall_eq_or_imp, forall_eq]; exact ⟨rfl, rfl⟩) rfl rfl fun b26 => ?_
  have hA27 : All2 (GoT.rep H) [[.int .i64 0, .int .i64 0, .int .i64 0, .int .i64 0]] ([(⟨(⟨0, 0⟩ : End), (⟨0, 0⟩ : End)⟩ : Link)] : List Link) := all2_enc (([(⟨(⟨0, 0⟩ : End), (⟨0, 0⟩ : End)⟩ : Link)] : List Link))
  refine s_frz 0 (fun b => .inl (by simp [ids])) rfl hA6 fun H29 hle30 hn31 hs32 => ?_
  have hA33 := All2.mono (fun _ _ => GoT.mono hle30) hA13
  have hA34 := All2.mono (fun _ _ => GoT.mono hle30) hA24
  have hA35 := All2.mono (fun _ _ => GoT.mono hle30) hA27
  refine s_frz 0 (fun b => .inl (by simp [ids])) rfl hA33 fun H36 hle37 hn38 hs39 => ?_
  have hs40 := RSl.mono hle37 hs32
  have hA41 := All2.mono (fun _ _ => GoT.mono hle37) hA34
  have hA42 := All2.mono (fun _ _ => GoT.mono hle37) hA35
  refine s_frz 0 (fun b => .inl (by simp [ids])) rfl hA41 fun H43 hle44 hn45 hs46 => ?_
  have hs47 := RSl.mono hle44 hs40
  have hs48 := RSl.mono hle44 hs39
  have hA49 := All2.mono (fun _ _ => GoT.mono hle44) hA42
  refine s_frz 0 (fun b => .inl (by simp [ids])) rfl hA49 fun H50 hle51 hn52 hs53 => ?_
  have hs54 := RSl.mono hle51 hs47
  have hs55 := RSl.mono hle51 hs48
  have hs56 := RSl.mono hle51 hs46
  refine o_bsl (xs := [.tmp 27, .tmp 31, .tmp 38, .tmp 40]) rfl rfl (by simp only [List.mem_cons, List.not_mem_nil, or_false, forall_eq_or_imp, forall_eq]; exact ⟨⟨rfl, rfl⟩, ⟨rfl, rfl⟩, ⟨rfl, rfl⟩, ⟨rfl, rfl⟩⟩) rfl rfl fun b57 => ?_
  have hA58 : All2 (GoT.rep H50) [[.slice (some ⟨b5, 0, none⟩) ([(⟨y1, y3⟩ : Link)] : List Link).length 1], [.slice (some ⟨b12, 0, none⟩) ([(⟨y8, y10⟩ : Link)] : List Link).length 1], [.slice (some ⟨b23, 0, none⟩) ([(⟨y15, y17⟩ : Link), (⟨y19, y21⟩ : Link)] : List Link).length 2], [.slice (some ⟨b26, 0, none⟩) ([(⟨(⟨0, 0⟩ : End), (⟨0, 0⟩ : End)⟩ : Link)] : List Link).length 1]] ([([(⟨y1, y3⟩ : Link)] : List Link), ([(⟨y8, y10⟩ : Link)] : List Link), ([(⟨y15, y17⟩ : Link), (⟨y19, y21⟩ : Link)] : List Link), ([(⟨(⟨0, 0⟩ : End), (⟨0, 0⟩ : End)⟩ : Link)] : List Link)] : List (List Link)) := all2_cons ⟨_, _,  rfl, hs54⟩ (all2_cons ⟨_, _,  rfl, hs55⟩ (all2_cons ⟨_, _,  rfl, hs56⟩ (all2_cons ⟨_, _,  rfl, hs53⟩ all2_nil)))
  refine o_asg rfl ?_
  refine s_done ?_
  refine s_seq ?_
  refine s_seq ?_
  refine s_region ?_
  refine o_asg rfl ?_
  refine s_done ?_
  refine s_joinL (fun p60 env own H' => env = [] ∧ own = [] ∧ Hle H50 H') ?_ ?_
  · rintro p60 _ _ H61 ⟨rfl, rfl, hle62⟩
    refine s_seq ?_
    refine s_region ?_
    refine s_bg fun y63 h64 => ?_
    refine s_call [] _ rfl rfl (.refl _) (tree_Tree_ok k _ ([]) _ _ rsl_nil h64) ?_
    rintro _ H68 _ hle69 ⟨a65, c66, rfl, rfl⟩
    have hA70 : All2 (GoT.rep H68) (y63.1.map GoE.enc) y63.1 := all2_enc _
    refine o_mov rfl ?_
    refine o_ext rfl rfl ?_
    refine o_ext rfl rfl ?_
    refine o_asg rfl ?_
    refine o_asg rfl ?_
    refine s_done ?_
    refine s_seq ?_
    refine s_region ?_
    refine s_bg fun y71 h72 => ?_
    refine s_call [] _ rfl rfl (.refl _) (tree_First_ok k _ ([]) _ _ rsl_nil 1 h72) ?_
    rintro _ H76 _ hle77 ⟨a73, c74, rfl, rfl⟩
    have hA78 := All2.mono (fun _ _ => GoT.mono hle77) hA70
    have hA79 : All2 (GoT.rep H76) (y71.1.map GoE.enc) y71.1 := all2_enc _
    refine o_mov rfl ?_
    refine o_ext rfl rfl ?_
    refine o_ext rfl rfl ?_
    refine o_asg rfl ?_
    refine o_asg rfl ?_
    refine s_done ?_
    refine s_seq ?_
    refine s_region ?_
    refine s_bg fun y80 h81 => ?_
    refine s_call [] _ rfl rfl (.refl _) (tree_Second_ok k _ ([]) _ _ rsl_nil 1 h81) ?_
    rintro _ H85 _ hle86 ⟨a82, c83, rfl, rfl⟩
    have hA87 := All2.mono (fun _ _ => GoT.mono hle86) hA78
    have hA88 := All2.mono (fun _ _ => GoT.mono hle86) hA79
    have hA89 : All2 (GoT.rep H85) (y80.1.map GoE.enc) y80.1 := all2_enc _
    refine o_mov rfl ?_
    refine o_ext rfl rfl ?_
    refine o_ext rfl rfl ?_
    refine o_asg rfl ?_
    refine o_asg rfl ?_
    refine s_done ?_
    refine s_seq ?_
    refine s_region ?_
    refine s_bg fun y90 h91 => ?_
    refine s_call [] _ rfl rfl (.refl _) (tree_First_ok k _ ([]) _ _ rsl_nil 0 h91) ?_
    rintro _ H95 _ hle96 ⟨a92, c93, rfl, rfl⟩
    have hA97 := All2.mono (fun _ _ => GoT.mono hle96) hA87
    have hA98 := All2.mono (fun _ _ => GoT.mono hle96) hA88
    have hA99 := All2.mono (fun _ _ => GoT.mono hle96) hA89
    have hA100 : All2 (GoT.rep H95) (y90.1.map GoE.enc) y90.1 := all2_enc _
    refine o_mov rfl ?_
    refine o_ext rfl rfl ?_
    refine o_ext rfl rfl ?_
    refine o_asg rfl ?_
    refine o_asg rfl ?_
    refine s_done ?_
    refine s_seq ?_
    refine s_region ?_
    refine s_bg fun y101 h102 => ?_
    refine s_call [] _ rfl rfl (.refl _) (tree_First_ok k _ ([]) _ _ rsl_nil 7 h102) ?_
    rintro _ H106 _ hle107 ⟨a103, c104, rfl, rfl⟩
    have hA108 := All2.mono (fun _ _ => GoT.mono hle107) hA97
    have hA109 := All2.mono (fun _ _ => GoT.mono hle107) hA98
    have hA110 := All2.mono (fun _ _ => GoT.mono hle107) hA99
    have hA111 := All2.mono (fun _ _ => GoT.mono hle107) hA100
    have hA112 : All2 (GoT.rep H106) (y101.1.map GoE.enc) y101.1 := all2_enc _
    refine o_mov rfl ?_
    refine o_ext rfl rfl ?_
    refine o_ext rfl rfl ?_
    refine o_asg rfl ?_
    refine o_asg rfl ?_
    refine s_done ?_
    refine s_seq ?_
    refine s_region ?_
    refine s_bg fun y113 h114 => ?_
    refine s_callF rfl rfl (catenarylaw20_at_ok k _ 9 9 h114) ?_
    refine s_bg fun y115 h116 => ?_
    refine s_callF rfl rfl (catenarylaw20_at_ok k _ 2 1 h116) ?_
    refine s_bg fun y117 h118 => ?_
    refine s_callF rfl rfl (catenarylaw20_at_ok k _ 1 1 h118) ?_
    refine s_bg fun y119 h120 => ?_
    refine s_callF rfl rfl (catenarylaw20_at_ok k _ 2 9 h120) ?_
    refine s_bg fun y121 h122 => ?_
    refine s_callF rfl rfl (catenarylaw20_at_ok k _ (-1) 0 h122) ?_
    refine s_bg fun y123 h124 => ?_
    refine s_callF rfl rfl (catenarylaw20_at_ok k _ 5 1 h124) ?_
    refine s_bg fun y125 h126 => ?_
    refine s_callF rfl rfl (catenarylaw20_at_ok k _ 4 2 h126) ?_
    refine s_bg fun y127 h128 => ?_
    refine s_callF rfl rfl (catenarylaw20_at_ok k _ 1 1 h128) ?_
    refine o_bsl (xs := [.tmp 100, .tmp 101, .tmp 102, .tmp 103, .tmp 104, .tmp 105, .tmp 106, .tmp 107]) rfl rfl (by simp only [List.mem_cons, List.not_mem_nil, or_false, forall_eq_or_imp, forall_eq]; exact ⟨⟨rfl, rfl⟩, ⟨rfl, rfl⟩, ⟨rfl, rfl⟩, ⟨rfl, rfl⟩, ⟨rfl, rfl⟩, ⟨rfl, rfl⟩, ⟨rfl, rfl⟩, ⟨rfl, rfl⟩⟩) rfl rfl fun b129 => ?_
    have hA130 : All2 (GoT.rep H106) [[.int .i64 y113.Switch, .int .i64 y113.Port], [.int .i64 y115.Switch, .int .i64 y115.Port], [.int .i64 y117.Switch, .int .i64 y117.Port], [.int .i64 y119.Switch, .int .i64 y119.Port], [.int .i64 y121.Switch, .int .i64 y121.Port], [.int .i64 y123.Switch, .int .i64 y123.Port], [.int .i64 y125.Switch, .int .i64 y125.Port], [.int .i64 y127.Switch, .int .i64 y127.Port]] ([y113, y115, y117, y119, y121, y123, y125, y127] : List End) := all2_enc (([y113, y115, y117, y119, y121, y123, y125, y127] : List End))
    refine o_asg rfl ?_
    refine s_done ?_
    refine s_seq ?_
    refine s_region ?_
    refine o_bsl (xs := []) rfl rfl (by simp) rfl rfl fun b132 => ?_
    have hA133 : All2 (GoT.rep H106) [] ([] : List Link) := all2_enc (([] : List Link))
    refine o_asg rfl ?_
    refine s_done ?_
    refine s_seq ?_
    refine s_seq ?_
    refine s_region ?_
    refine o_asg rfl ?_
    refine s_done ?_
    refine s_join (fun p135 env own H' => ∃ a136 c137 ls138, env = [(9, .slice a65 y63.1.length c66), (10, .int .i64 y63.2), (11, .slice a73 y71.1.length c74), (12, .bool y71.2), (13, .slice a82 y80.1.length c83), (14, .bool y80.2), (16, .bool y90.2), (18, .bool y101.2), (19, .slice (some ⟨b129, 0, none⟩) ([y113, y115, y117, y119, y121, y123, y125, y127] : List End).length 8), (20, .slice a136 p135.length c137)] ∧ own = [.osl (.slice a65 y63.1.length c66) 2 26 (y63.1.map GoE.enc), .osl (.slice a73 y71.1.length c74) 2 26 (y71.1.map GoE.enc), .osl (.slice a82 y80.1.length c83) 2 26 (y80.1.map GoE.enc), .osl (.slice (some ⟨b129, 0, none⟩) ([y113, y115, y117, y119, y121, y123, y125, y127] : List End).length 8) 2 26 [[.int .i64 y113.Switch, .int .i64 y113.Port], [.int .i64 y115.Switch, .int .i64 y115.Port], [.int .i64 y117.Switch, .int .i64 y117.Port], [.int .i64 y119.Switch, .int .i64 y119.Port], [.int .i64 y121.Switch, .int .i64 y121.Port], [.int .i64 y123.Switch, .int .i64 y123.Port], [.int .i64 y125.Switch, .int .i64 y125.Port], [.int .i64 y127.Switch, .int .i64 y127.Port]], .osl (.slice a136 p135.length c137) 4 40 ls138] ∧ Hle H106 H' ∧ All2 (GoT.rep H') ls138 p135) ?_ ?_
    · rintro p135 _ _ H140 ⟨a136, c137, ls138, rfl, rfl, hle141, hA139⟩
      have hA142 := All2.mono (fun _ _ => GoT.mono hle141) hA108
      have hA143 := All2.mono (fun _ _ => GoT.mono hle141) hA109
      have hA144 := All2.mono (fun _ _ => GoT.mono hle141) hA110
      have hA145 := All2.mono (fun _ _ => GoT.mono hle141) hA130
      refine s_seq ?_
      refine s_region ?_
      refine o_mov rfl ?_
      refine s_bg fun y146 h147 => ?_
      refine s_callL (Φ := fun v out => ∃ a0 c0, v = .tuple #[.slice a0 y146.1.length c0, .bool y146.2] ∧ out = [.osl (.slice a0 y146.1.length c0) 2 26 (y146.1.map GoE.enc)]) [] _ rfl rfl (.refl _) (fun H' hle hl => tree_First_ok k _ p135 _ _ (lent_rsl (hl _ (List.mem_of_getElem? (i := 4) rfl)) hA139 hle).2 6 h147) ?_
      rintro _ _ ⟨a148, c149, rfl, rfl⟩
      have hA151 : All2 (GoT.rep H140) (y146.1.map GoE.enc) y146.1 := all2_enc _
      refine o_mov rfl ?_
      refine o_ext rfl rfl ?_
      refine o_ext rfl rfl ?_
      refine o_asg rfl ?_
      refine o_asg rfl ?_
      refine s_done ?_
      refine s_seq ?_
      refine s_region ?_
      refine o_mov rfl ?_
      refine s_want rfl rfl rfl ?_
      refine s_bg fun y152 h153 => ?_
      refine s_callF rfl rfl (catenarylaw20_works_ok k _ h153) ?_
      refine o_pickT rfl rfl rfl ?_
      refine o_mov rfl ?_
      refine s_split y152 (fun h154 => ?_) (fun h154 => ?_)
      · refine s_want rfl rfl h154 ?_
        refine o_mov rfl ?_
        refine s_want rfl rfl h154 ?_
        refine o_eq rfl rfl ?_
        refine o_pickT rfl h154 rfl ?_
        refine o_mov rfl ?_
        refine s_split (y63.2 == 0) (fun h155 => ?_) (fun h155 => ?_)
        · refine s_want rfl rfl h155 ?_
          refine o_mov rfl ?_
          refine s_want rfl rfl h155 ?_
          refine o_lenS rfl ?_
          refine s_want rfl rfl h155 ?_
          refine o_eq rfl rfl ?_
          refine o_pickT rfl h155 rfl ?_
          refine o_mov rfl ?_
          refine s_split ((y63.1.length : Int) == 7) (fun h156 => ?_) (fun h156 => ?_)
          · refine s_want rfl rfl h156 ?_
            refine o_mov rfl ?_
            refine s_want rfl rfl h156 ?_
            refine o_lenS rfl ?_
            refine s_want rfl rfl h156 ?_
            refine o_eq rfl rfl ?_
            refine o_pickT rfl h156 rfl ?_
            refine o_mov rfl ?_
            refine s_split ((y71.1.length : Int) == 0) (fun h157 => ?_) (fun h157 => ?_)
            · refine s_want rfl rfl h157 ?_
              refine o_mov rfl ?_
              refine o_pickT rfl h157 rfl ?_
              refine o_mov rfl ?_
              refine s_split y71.2 (fun h158 => ?_) (fun h158 => ?_)
              · refine s_want rfl rfl h158 ?_
                refine o_mov rfl ?_
                refine s_want rfl rfl h158 ?_
                refine o_lenS rfl ?_
                refine s_want rfl rfl h158 ?_
                refine o_eq rfl rfl ?_
                refine o_pickT rfl h158 rfl ?_
                refine o_mov rfl ?_
                refine s_split ((y80.1.length : Int) == 0) (fun h159 => ?_) (fun h159 => ?_)
                · refine s_want rfl rfl h159 ?_
                  refine o_mov rfl ?_
                  refine o_pickT rfl h159 rfl ?_
                  refine o_mov rfl ?_
                  refine s_split y80.2 (fun h160 => ?_) (fun h160 => ?_)
                  · refine s_want rfl rfl h160 ?_
                    refine o_mov rfl ?_
                    refine s_want rfl rfl h160 ?_
                    refine o_not rfl ?_
                    refine o_pickT rfl h160 rfl ?_
                    refine o_mov rfl ?_
                    refine s_split (!y90.2) (fun h161 => ?_) (fun h161 => ?_)
                    · refine s_want rfl rfl h161 ?_
                      refine o_mov rfl ?_
                      refine s_want rfl rfl h161 ?_
                      refine o_not rfl ?_
                      refine o_pickT rfl h161 rfl ?_
                      refine o_mov rfl ?_
                      refine s_split (!y101.2) (fun h162 => ?_) (fun h162 => ?_)
                      · refine s_want rfl rfl h162 ?_
                        refine o_mov rfl ?_
                        refine s_want rfl rfl h162 ?_
                        refine s_bg fun y163 h164 => ?_
                        refine s_callL (Φ := fun v out => ∃ a0 c0, v = .slice a0 y163.length c0 ∧ out = [.osl (.slice a0 y163.length c0) 1 3 (y163.map GoE.enc)]) [] _ rfl rfl (.refl _) (fun H' hle hl => tree_Below_ok k _ ([y113, y115, y117, y119, y121, y123, y125, y127] : List End) _ _ (lent_rsl (hl _ (List.mem_of_getElem? (i := 3) rfl)) hA145 hle).2 1 h164) ?_
                        rintro _ _ ⟨a165, c166, rfl, rfl⟩
                        have hA168 : All2 (GoT.rep H140) (y163.map GoE.enc) y163 := all2_enc _
                        refine s_want rfl rfl h162 ?_
                        refine o_bsl (xs := [.const (.int .i64 1), .const (.int .i64 2), .const (.int .i64 3)]) rfl rfl (by simp only [List.mem_cons, List.not_mem_nil, or_false, forall_eq_or_imp, forall_eq]; exact ⟨⟨rfl, rfl⟩, ⟨rfl, rfl⟩, ⟨rfl, rfl⟩⟩) rfl rfl fun b169 => ?_
                        have hA170 : All2 (GoT.rep H140) [[.int .i64 1], [.int .i64 2], [.int .i64 3]] ([1, 2, 3] : List Int) := all2_enc (([1, 2, 3] : List Int))
                        refine s_want rfl rfl h162 ?_
                        refine s_bg fun y172 h173 => ?_
                        refine s_callL (Φ := fun v out => v = _ ∧ out = []) [] _ rfl rfl (.refl _) (fun H' hle hl => catenaryref00_EqInts_ok k _ y163 _ _ (lent_rsl (hl _ (List.mem_of_getElem? (i := 6) rfl)) hA168 hle).2 ([1, 2, 3] : List Int) _ _ (lent_rsl (hl _ (List.mem_of_getElem? (i := 7) rfl)) hA170 hle).2 h173) ?_
                        rintro _ _ ⟨rfl, rfl⟩
                        refine s_ownN ?_
                        refine o_pickT rfl h162 rfl ?_
                        refine o_mov rfl ?_
                        refine s_split y172 (fun h174 => ?_) (fun h174 => ?_)
                        · refine s_want rfl rfl h174 ?_
                          refine o_mov rfl ?_
                          refine s_want rfl rfl h174 ?_
                          refine s_bg fun y175 h176 => ?_
                          refine s_callL (Φ := fun v out => ∃ a0 c0, v = .slice a0 y175.length c0 ∧ out = [.osl (.slice a0 y175.length c0) 1 3 (y175.map GoE.enc)]) [] _ rfl rfl (.refl _) (fun H' hle hl => tree_Below_ok k _ ([y113, y115, y117, y119, y121, y123, y125, y127] : List End) _ _ (lent_rsl (hl _ (List.mem_of_getElem? (i := 3) rfl)) hA145 hle).2 5 h176) ?_
                          rintro _ _ ⟨a177, c178, rfl, rfl⟩
                          have hA180 : All2 (GoT.rep H140) (y175.map GoE.enc) y175 := all2_enc _
                          refine s_want rfl rfl h174 ?_
                          refine o_bsl (xs := [.const (.int .i64 5)]) rfl rfl (by simp only [List.mem_cons, List.not_mem_nil, or_false, forall_eq_or_imp, forall_eq]; exact ⟨rfl, rfl⟩) rfl rfl fun b181 => ?_
                          have hA182 : All2 (GoT.rep H140) [[.int .i64 5]] ([5] : List Int) := all2_enc (([5] : List Int))
                          refine s_want rfl rfl h174 ?_
                          refine s_bg fun y184 h185 => ?_
                          refine s_callL (Φ := fun v out => v = _ ∧ out = []) [] _ rfl rfl (.refl _) (fun H' hle hl => catenaryref00_EqInts_ok k _ y175 _ _ (lent_rsl (hl _ (List.mem_of_getElem? (i := 8) rfl)) hA180 hle).2 ([5] : List Int) _ _ (lent_rsl (hl _ (List.mem_of_getElem? (i := 9) rfl)) hA182 hle).2 h185) ?_
                          rintro _ _ ⟨rfl, rfl⟩
                          refine s_ownN ?_
                          refine o_pickT rfl h174 rfl ?_
                          refine o_mov rfl ?_
                          refine s_split y184 (fun h186 => ?_) (fun h186 => ?_)
                          · refine s_want rfl rfl h186 ?_
                            refine o_mov rfl ?_
                            refine s_want rfl rfl h186 ?_
                            refine s_bg fun y187 h188 => ?_
                            refine s_callL (Φ := fun v out => ∃ a0 c0, v = .slice a0 y187.length c0 ∧ out = [.osl (.slice a0 y187.length c0) 1 3 (y187.map GoE.enc)]) [] _ rfl rfl (.refl _) (fun H' hle hl => tree_Below_ok k _ ([y113, y115, y117, y119, y121, y123, y125, y127] : List End) _ _ (lent_rsl (hl _ (List.mem_of_getElem? (i := 3) rfl)) hA145 hle).2 0 h188) ?_
                            rintro _ _ ⟨a189, c190, rfl, rfl⟩
                            have hA192 : All2 (GoT.rep H140) (y187.map GoE.enc) y187 := all2_enc _
                            refine s_want rfl rfl h186 ?_
                            refine o_lenS rfl ?_
                            refine s_want rfl rfl h186 ?_
                            refine o_eq rfl rfl ?_
                            refine o_pickT rfl h186 rfl ?_
                            refine o_mov rfl ?_
                            refine s_split ((y187.length : Int) == 0) (fun h193 => ?_) (fun h193 => ?_)
                            · refine s_want rfl rfl h193 ?_
                              refine s_bg fun y194 h195 => ?_
                              refine s_call [] _ rfl rfl (.refl _) (tree_Below_ok k _ ([]) _ _ rsl_nil 6 h195) ?_
                              rintro _ H199 _ hle200 ⟨a196, c197, rfl, rfl⟩
                              have hA201 := All2.mono (fun _ _ => GoT.mono hle200) hA142
                              have hA202 := All2.mono (fun _ _ => GoT.mono hle200) hA143
                              have hA203 := All2.mono (fun _ _ => GoT.mono hle200) hA144
                              have hA204 := All2.mono (fun _ _ => GoT.mono hle200) hA145
                              have hA205 := All2.mono (fun _ _ => GoT.mono hle200) hA139
                              have hA206 := All2.mono (fun _ _ => GoT.mono hle200) hA151
                              have hA207 := All2.mono (fun _ _ => GoT.mono hle200) hA168
                              have hA208 := All2.mono (fun _ _ => GoT.mono hle200) hA170
                              have hA209 := All2.mono (fun _ _ => GoT.mono hle200) hA180
                              have hA210 := All2.mono (fun _ _ => GoT.mono hle200) hA182
                              have hA211 := All2.mono (fun _ _ => GoT.mono hle200) hA192
                              have hA212 : All2 (GoT.rep H199) (y194.map GoE.enc) y194 := all2_enc _
                              refine s_want rfl rfl h193 ?_
                              refine o_bsl (xs := [.const (.int .i64 6)]) rfl rfl (by simp only [List.mem_cons, List.not_mem_nil, or_false, forall_eq_or_imp, forall_eq]; exact ⟨rfl, rfl⟩) rfl rfl fun b213 => ?_
                              have hA214 : All2 (GoT.rep H199) [[.int .i64 6]] ([6] : List Int) := all2_enc (([6] : List Int))
                              refine s_want rfl rfl h193 ?_
                              refine s_bg fun y216 h217 => ?_
                              refine s_callL (Φ := fun v out => v = _ ∧ out = []) [] _ rfl rfl (.refl _) (fun H' hle hl => catenaryref00_EqInts_ok k _ y194 _ _ (lent_rsl (hl _ (List.mem_of_getElem? (i := 11) rfl)) hA212 hle).2 ([6] : List Int) _ _ (lent_rsl (hl _ (List.mem_of_getElem? (i := 12) rfl)) hA214 hle).2 h217) ?_
                              rintro _ _ ⟨rfl, rfl⟩
                              refine s_ownN ?_
                              refine o_pickT rfl h193 rfl ?_
                              refine o_mov rfl ?_
                              refine s_split y216 (fun h218 => ?_) (fun h218 => ?_)
                              · refine s_want rfl rfl h218 ?_
                                refine o_mov rfl ?_
                                refine o_pickT rfl h218 rfl ?_
                                refine o_mov rfl ?_
                                refine s_split y146.2 (fun h219 => ?_) (fun h219 => ?_)
                                · refine s_want rfl rfl h219 ?_
                                  refine o_mov rfl ?_
                                  refine s_want rfl rfl h219 ?_
                                  refine o_lenS rfl ?_
                                  refine s_want rfl rfl h219 ?_
                                  refine o_eq rfl rfl ?_
                                  refine o_pickT rfl h219 rfl ?_
                                  refine o_asg rfl ?_
                                  refine s_done ?_
                                  exact s_retv (xs := [.tmp 0]) (vs := [.bool ((y146.1.length : Int) == 5)]) [] fn_12 rfl ⟨rv_tmp rfl, trivial⟩ (.cons _ (.cons _ (.cons _ (.cons _ (.cons _ (.cons _ (.cons _ (.cons _ (.cons _ (.cons _ (.cons _ (.cons _ (.cons _ .slnil))))))))))))) ⟨rfl, rfl⟩
                                · refine s_unwant rfl rfl h219 ?_
                                  refine s_unwant rfl rfl h219 ?_
                                  refine s_unwant rfl rfl h219 ?_
                                  refine o_pickF rfl h219 rfl ?_
                                  refine o_asg rfl ?_
                                  refine s_done ?_
                                  exact s_retv (xs := [.tmp 0]) (vs := [.bool false]) [] fn_12 rfl ⟨rv_tmp rfl, trivial⟩ (.cons _ (.cons _ (.cons _ (.cons _ (.cons _ (.cons _ (.cons _ (.cons _ (.cons _ (.cons _ (.cons _ (.cons _ (.cons _ .slnil))))))))))))) ⟨rfl, rfl⟩
                              · refine s_unwant rfl rfl h218 ?_
                                refine o_pickF rfl h218 rfl ?_
                                refine o_mov rfl ?_
                                refine s_unwant rfl rfl rfl ?_
                                refine s_unwant rfl rfl rfl ?_
                                refine s_unwant rfl rfl rfl ?_
                                refine o_pickF rfl rfl rfl ?_
                                refine o_asg rfl ?_
                                refine s_done ?_
                                exact s_retv (xs := [.tmp 0]) (vs := [.bool false]) [] fn_12 rfl ⟨rv_tmp rfl, trivial⟩ (.cons _ (.cons _ (.cons _ (.cons _ (.cons _ (.cons _ (.cons _ (.cons _ (.cons _ (.cons _ (.cons _ (.cons _ (.cons _ .slnil))))))))))))) ⟨rfl, rfl⟩
                            · refine s_unwant rfl rfl h193 ?_
                              refine s_unwant rfl rfl h193 ?_
                              refine s_unwant rfl rfl h193 ?_
                              refine o_pickF rfl h193 rfl ?_
                              refine o_mov rfl ?_
                              refine s_unwant rfl rfl rfl ?_
                              refine o_pickF rfl rfl rfl ?_
                              refine o_mov rfl ?_
                              refine s_unwant rfl rfl rfl ?_
                              refine s_unwant rfl rfl rfl ?_
                              refine s_unwant rfl rfl rfl ?_
                              refine o_pickF rfl rfl rfl ?_
                              refine o_asg rfl ?_
                              refine s_done ?_
                              exact s_retv (xs := [.tmp 0]) (vs := [.bool false]) [] fn_12 rfl ⟨rv_tmp rfl, trivial⟩ (.cons _ (.cons _ (.cons _ (.cons _ (.cons _ (.cons _ (.cons _ (.cons _ (.cons _ (.cons _ (.cons _ .slnil))))))))))) ⟨rfl, rfl⟩
                          · refine s_unwant rfl rfl h186 ?_
                            refine s_unwant rfl rfl h186 ?_
                            refine s_unwant rfl rfl h186 ?_
                            refine s_unwant rfl rfl h186 ?_
                            refine o_pickF rfl h186 rfl ?_
                            refine o_mov rfl ?_
                            refine s_unwant rfl rfl rfl ?_
                            refine s_unwant rfl rfl rfl ?_
                            refine s_unwant rfl rfl rfl ?_
                            refine o_pickF rfl rfl rfl ?_
                            refine o_mov rfl ?_
                            refine s_unwant rfl rfl rfl ?_
                            refine o_pickF rfl rfl rfl ?_
                            refine o_mov rfl ?_
                            refine s_unwant rfl rfl rfl ?_
                            refine s_unwant rfl rfl rfl ?_
                            refine s_unwant rfl rfl rfl ?_
                            refine o_pickF rfl rfl rfl ?_
                            refine o_asg rfl ?_
                            refine s_done ?_
                            exact s_retv (xs := [.tmp 0]) (vs := [.bool false]) [] fn_12 rfl ⟨rv_tmp rfl, trivial⟩ (.cons _ (.cons _ (.cons _ (.cons _ (.cons _ (.cons _ (.cons _ (.cons _ (.cons _ (.cons _ .slnil)))))))))) ⟨rfl, rfl⟩
                        · refine s_unwant rfl rfl h174 ?_
                          refine s_unwant rfl rfl h174 ?_
                          refine s_unwant rfl rfl h174 ?_
                          refine s_unwant rfl rfl h174 ?_
                          refine o_pickF rfl h174 rfl ?_
                          refine o_mov rfl ?_
                          refine s_unwant rfl rfl rfl ?_
                          refine s_unwant rfl rfl rfl ?_
                          refine s_unwant rfl rfl rfl ?_
                          refine s_unwant rfl rfl rfl ?_
                          refine o_pickF rfl rfl rfl ?_
                          refine o_mov rfl ?_
                          refine s_unwant rfl rfl rfl ?_
                          refine s_unwant rfl rfl rfl ?_
                          refine s_unwant rfl rfl rfl ?_
                          refine o_pickF rfl rfl rfl ?_
                          refine o_mov rfl ?_
                          refine s_unwant rfl rfl rfl ?_
                          refine o_pickF rfl rfl rfl ?_
                          refine o_mov rfl ?_
                          refine s_unwant rfl rfl rfl ?_
                          refine s_unwant rfl rfl rfl ?_
                          refine s_unwant rfl rfl rfl ?_
                          refine o_pickF rfl rfl rfl ?_
                          refine o_asg rfl ?_
                          refine s_done ?_
                          exact s_retv (xs := [.tmp 0]) (vs := [.bool false]) [] fn_12 rfl ⟨rv_tmp rfl, trivial⟩ (.cons _ (.cons _ (.cons _ (.cons _ (.cons _ (.cons _ (.cons _ (.cons _ .slnil)))))))) ⟨rfl, rfl⟩
                      · refine s_unwant rfl rfl h162 ?_
                        refine s_unwant rfl rfl h162 ?_
                        refine s_unwant rfl rfl h162 ?_
                        refine s_unwant rfl rfl h162 ?_
                        refine o_pickF rfl h162 rfl ?_
                        refine o_mov rfl ?_
                        refine s_unwant rfl rfl rfl ?_
                        refine s_unwant rfl rfl rfl ?_
                        refine s_unwant rfl rfl rfl ?_
                        refine s_unwant rfl rfl rfl ?_
                        refine o_pickF rfl rfl rfl ?_
                        refine o_mov rfl ?_
                        refine s_unwant rfl rfl rfl ?_
                        refine s_unwant rfl rfl rfl ?_
                        refine s_unwant rfl rfl rfl ?_
                        refine s_unwant rfl rfl rfl ?_
                        refine o_pickF rfl rfl rfl ?_
                        refine o_mov rfl ?_
                        refine s_unwant rfl rfl rfl ?_
                        refine s_unwant rfl rfl rfl ?_
                        refine s_unwant rfl rfl rfl ?_
                        refine o_pickF rfl rfl rfl ?_
                        refine o_mov rfl ?_
                        refine s_unwant rfl rfl rfl ?_
                        refine o_pickF rfl rfl rfl ?_
                        refine o_mov rfl ?_
                        refine s_unwant rfl rfl rfl ?_
                        refine s_unwant rfl rfl rfl ?_
                        refine s_unwant rfl rfl rfl ?_
                        refine o_pickF rfl rfl rfl ?_
                        refine o_asg rfl ?_
                        refine s_done ?_
                        exact s_retv (xs := [.tmp 0]) (vs := [.bool false]) [] fn_12 rfl ⟨rv_tmp rfl, trivial⟩ (.cons _ (.cons _ (.cons _ (.cons _ (.cons _ (.cons _ .slnil)))))) ⟨rfl, rfl⟩
                    · refine s_unwant rfl rfl h161 ?_
                      refine s_unwant rfl rfl h161 ?_
                      refine o_pickF rfl h161 rfl ?_
                      refine o_mov rfl ?_
                      refine s_unwant rfl rfl rfl ?_
                      refine s_unwant rfl rfl rfl ?_
                      refine s_unwant rfl rfl rfl ?_
                      refine s_unwant rfl rfl rfl ?_
                      refine o_pickF rfl rfl rfl ?_
                      refine o_mov rfl ?_
                      refine s_unwant rfl rfl rfl ?_
                      refine s_unwant rfl rfl rfl ?_
                      refine s_unwant rfl rfl rfl ?_
                      refine s_unwant rfl rfl rfl ?_
                      refine o_pickF rfl rfl rfl ?_
                      refine o_mov rfl ?_
                      refine s_unwant rfl rfl rfl ?_
                      refine s_unwant rfl rfl rfl ?_
                      refine s_unwant rfl rfl rfl ?_
                      refine s_unwant rfl rfl rfl ?_
                      refine o_pickF rfl rfl rfl ?_
                      refine o_mov rfl ?_
                      refine s_unwant rfl rfl rfl ?_
                      refine s_unwant rfl rfl rfl ?_
                      refine s_unwant rfl rfl rfl ?_
                      refine o_pickF rfl rfl rfl ?_
                      refine o_mov rfl ?_
                      refine s_unwant rfl rfl rfl ?_
                      refine o_pickF rfl rfl rfl ?_
                      refine o_mov rfl ?_
                      refine s_unwant rfl rfl rfl ?_
                      refine s_unwant rfl rfl rfl ?_
                      refine s_unwant rfl rfl rfl ?_
                      refine o_pickF rfl rfl rfl ?_
                      refine o_asg rfl ?_
                      refine s_done ?_
                      exact s_retv (xs := [.tmp 0]) (vs := [.bool false]) [] fn_12 rfl ⟨rv_tmp rfl, trivial⟩ (.cons _ (.cons _ (.cons _ (.cons _ (.cons _ (.cons _ .slnil)))))) ⟨rfl, rfl⟩
                  · refine s_unwant rfl rfl h160 ?_
                    refine s_unwant rfl rfl h160 ?_
                    refine o_pickF rfl h160 rfl ?_
                    refine o_mov rfl ?_
                    refine s_unwant rfl rfl rfl ?_
                    refine s_unwant rfl rfl rfl ?_
                    refine o_pickF rfl rfl rfl ?_
                    refine o_mov rfl ?_
                    refine s_unwant rfl rfl rfl ?_
                    refine s_unwant rfl rfl rfl ?_
                    refine s_unwant rfl rfl rfl ?_
                    refine s_unwant rfl rfl rfl ?_
                    refine o_pickF rfl rfl rfl ?_
                    refine o_mov rfl ?_
                    refine s_unwant rfl rfl rfl ?_
                    refine s_unwant rfl rfl rfl ?_
                    refine s_unwant rfl rfl rfl ?_
                    refine s_unwant rfl rfl rfl ?_
                    refine o_pickF rfl rfl rfl ?_
                    refine o_mov rfl ?_
                    refine s_unwant rfl rfl rfl ?_
                    refine s_unwant rfl rfl rfl ?_
                    refine s_unwant rfl rfl rfl ?_
                    refine s_unwant rfl rfl rfl ?_
                    refine o_pickF rfl rfl rfl ?_
                    refine o_mov rfl ?_
                    refine s_unwant rfl rfl rfl ?_
                    refine s_unwant rfl rfl rfl ?_
                    refine s_unwant rfl rfl rfl ?_
                    refine o_pickF rfl rfl rfl ?_
                    refine o_mov rfl ?_
                    refine s_unwant rfl rfl rfl ?_
                    refine o_pickF rfl rfl rfl ?_
                    refine o_mov rfl ?_
                    refine s_unwant rfl rfl rfl ?_
                    refine s_unwant rfl rfl rfl ?_
                    refine s_unwant rfl rfl rfl ?_
                    refine o_pickF rfl rfl rfl ?_
                    refine o_asg rfl ?_
                    refine s_done ?_
                    exact s_retv (xs := [.tmp 0]) (vs := [.bool false]) [] fn_12 rfl ⟨rv_tmp rfl, trivial⟩ (.cons _ (.cons _ (.cons _ (.cons _ (.cons _ (.cons _ .slnil)))))) ⟨rfl, rfl⟩
                · refine s_unwant rfl rfl h159 ?_
                  refine o_pickF rfl h159 rfl ?_
                  refine o_mov rfl ?_
                  refine s_unwant rfl rfl rfl ?_
                  refine s_unwant rfl rfl rfl ?_
                  refine o_pickF rfl rfl rfl ?_
                  refine o_mov rfl ?_
                  refine s_unwant rfl rfl rfl ?_
                  refine s_unwant rfl rfl rfl ?_
                  refine o_pickF rfl rfl rfl ?_
                  refine o_mov rfl ?_
                  refine s_unwant rfl rfl rfl ?_
                  refine s_unwant rfl rfl rfl ?_
                  refine s_unwant rfl rfl rfl ?_
                  refine s_unwant rfl rfl rfl ?_
                  refine o_pickF rfl rfl rfl ?_
                  refine o_mov rfl ?_
                  refine s_unwant rfl rfl rfl ?_
                  refine s_unwant rfl rfl rfl ?_
                  refine s_unwant rfl rfl rfl ?_
                  refine s_unwant rfl rfl rfl ?_
                  refine o_pickF rfl rfl rfl ?_
                  refine o_mov rfl ?_
                  refine s_unwant rfl rfl rfl ?_
                  refine s_unwant rfl rfl rfl ?_
                  refine s_unwant rfl rfl rfl ?_
                  refine s_unwant rfl rfl rfl ?_
                  refine o_pickF rfl rfl rfl ?_
                  refine o_mov rfl ?_
                  refine s_unwant rfl rfl rfl ?_
                  refine s_unwant rfl rfl rfl ?_
                  refine s_unwant rfl rfl rfl ?_
                  refine o_pickF rfl rfl rfl ?_
                  refine o_mov rfl ?_
                  refine s_unwant rfl rfl rfl ?_
                  refine o_pickF rfl rfl rfl ?_
                  refine o_mov rfl ?_
                  refine s_unwant rfl rfl rfl ?_
                  refine s_unwant rfl rfl rfl ?_
                  refine s_unwant rfl rfl rfl ?_
                  refine o_pickF rfl rfl rfl ?_
                  refine o_asg rfl ?_
                  refine s_done ?_
                  exact s_retv (xs := [.tmp 0]) (vs := [.bool false]) [] fn_12 rfl ⟨rv_tmp rfl, trivial⟩ (.cons _ (.cons _ (.cons _ (.cons _ (.cons _ (.cons _ .slnil)))))) ⟨rfl, rfl⟩
              · refine s_unwant rfl rfl h158 ?_
                refine s_unwant rfl rfl h158 ?_
                refine s_unwant rfl rfl h158 ?_
                refine o_pickF rfl h158 rfl ?_
                refine o_mov rfl ?_
                refine s_unwant rfl rfl rfl ?_
                refine o_pickF rfl rfl rfl ?_
                refine o_mov rfl ?_
                refine s_unwant rfl rfl rfl ?_
                refine s_unwant rfl rfl rfl ?_
                refine o_pickF rfl rfl rfl ?_
                refine o_mov rfl ?_
                refine s_unwant rfl rfl rfl ?_
                refine s_unwant rfl rfl rfl ?_
                refine o_pickF rfl rfl rfl ?_
                refine o_mov rfl ?_
                refine s_unwant rfl rfl rfl ?_
                refine s_unwant rfl rfl rfl ?_
                refine s_unwant rfl rfl rfl ?_
                refine s_unwant rfl rfl rfl ?_
                refine o_pickF rfl rfl rfl ?_
                refine o_mov rfl ?_
                refine s_unwant rfl rfl rfl ?_
                refine s_unwant rfl rfl rfl ?_
                refine s_unwant rfl rfl rfl ?_
                refine s_unwant rfl rfl rfl ?_
                refine o_pickF rfl rfl rfl ?_
                refine o_mov rfl ?_
                refine s_unwant rfl rfl rfl ?_
                refine s_unwant rfl rfl rfl ?_
                refine s_unwant rfl rfl rfl ?_
                refine s_unwant rfl rfl rfl ?_
                refine o_pickF rfl rfl rfl ?_
                refine o_mov rfl ?_
                refine s_unwant rfl rfl rfl ?_
                refine s_unwant rfl rfl rfl ?_
                refine s_unwant rfl rfl rfl ?_
                refine o_pickF rfl rfl rfl ?_
                refine o_mov rfl ?_
                refine s_unwant rfl rfl rfl ?_
                refine o_pickF rfl rfl rfl ?_
                refine o_mov rfl ?_
                refine s_unwant rfl rfl rfl ?_
                refine s_unwant rfl rfl rfl ?_
                refine s_unwant rfl rfl rfl ?_
                refine o_pickF rfl rfl rfl ?_
                refine o_asg rfl ?_
                refine s_done ?_
                exact s_retv (xs := [.tmp 0]) (vs := [.bool false]) [] fn_12 rfl ⟨rv_tmp rfl, trivial⟩ (.cons _ (.cons _ (.cons _ (.cons _ (.cons _ (.cons _ .slnil)))))) ⟨rfl, rfl⟩
            · refine s_unwant rfl rfl h157 ?_
              refine o_pickF rfl h157 rfl ?_
              refine o_mov rfl ?_
              refine s_unwant rfl rfl rfl ?_
              refine s_unwant rfl rfl rfl ?_
              refine s_unwant rfl rfl rfl ?_
              refine o_pickF rfl rfl rfl ?_
              refine o_mov rfl ?_
              refine s_unwant rfl rfl rfl ?_
              refine o_pickF rfl rfl rfl ?_
              refine o_mov rfl ?_
              refine s_unwant rfl rfl rfl ?_
              refine s_unwant rfl rfl rfl ?_
              refine o_pickF rfl rfl rfl ?_
              refine o_mov rfl ?_
              refine s_unwant rfl rfl rfl ?_
              refine s_unwant rfl rfl rfl ?_
              refine o_pickF rfl rfl rfl ?_
              refine o_mov rfl ?_
              refine s_unwant rfl rfl rfl ?_
              refine s_unwant rfl rfl rfl ?_
              refine s_unwant rfl rfl rfl ?_
              refine s_unwant rfl rfl rfl ?_
              refine o_pickF rfl rfl rfl ?_
              refine o_mov rfl ?_
              refine s_unwant rfl rfl rfl ?_
              refine s_unwant rfl rfl rfl ?_
              refine s_unwant rfl rfl rfl ?_
              refine s_unwant rfl rfl rfl ?_
              refine o_pickF rfl rfl rfl ?_
              refine o_mov rfl ?_
              refine s_unwant rfl rfl rfl ?_
              refine s_unwant rfl rfl rfl ?_
              refine s_unwant rfl rfl rfl ?_
              refine s_unwant rfl rfl rfl ?_
              refine o_pickF rfl rfl rfl ?_
              refine o_mov rfl ?_
              refine s_unwant rfl rfl rfl ?_
              refine s_unwant rfl rfl rfl ?_
              refine s_unwant rfl rfl rfl ?_
              refine o_pickF rfl rfl rfl ?_
              refine o_mov rfl ?_
              refine s_unwant rfl rfl rfl ?_
              refine o_pickF rfl rfl rfl ?_
              refine o_mov rfl ?_
              refine s_unwant rfl rfl rfl ?_
              refine s_unwant rfl rfl rfl ?_
              refine s_unwant rfl rfl rfl ?_
              refine o_pickF rfl rfl rfl ?_
              refine o_asg rfl ?_
              refine s_done ?_
              exact s_retv (xs := [.tmp 0]) (vs := [.bool false]) [] fn_12 rfl ⟨rv_tmp rfl, trivial⟩ (.cons _ (.cons _ (.cons _ (.cons _ (.cons _ (.cons _ .slnil)))))) ⟨rfl, rfl⟩
          · refine s_unwant rfl rfl h156 ?_
            refine s_unwant rfl rfl h156 ?_
            refine s_unwant rfl rfl h156 ?_
            refine o_pickF rfl h156 rfl ?_
            refine o_mov rfl ?_
            refine s_unwant rfl rfl rfl ?_
            refine o_pickF rfl rfl rfl ?_
            refine o_mov rfl ?_
            refine s_unwant rfl rfl rfl ?_
            refine s_unwant rfl rfl rfl ?_
            refine s_unwant rfl rfl rfl ?_
            refine o_pickF rfl rfl rfl ?_
            refine o_mov rfl ?_
            refine s_unwant rfl rfl rfl ?_
            refine o_pickF rfl rfl rfl ?_
            refine o_mov rfl ?_
            refine s_unwant rfl rfl rfl ?_
            refine s_unwant rfl rfl rfl ?_
            refine o_pickF rfl rfl rfl ?_
            refine o_mov rfl ?_
            refine s_unwant rfl rfl rfl ?_
            refine s_unwant rfl rfl rfl ?_
            refine o_pickF rfl rfl rfl ?_
            refine o_mov rfl ?_
            refine s_unwant rfl rfl rfl ?_
            refine s_unwant rfl rfl rfl ?_
            refine s_unwant rfl rfl rfl ?_
            refine s_unwant rfl rfl rfl ?_
            refine o_pickF rfl rfl rfl ?_
            refine o_mov rfl ?_
            refine s_unwant rfl rfl rfl ?_
            refine s_unwant rfl rfl rfl ?_
            refine s_unwant rfl rfl rfl ?_
            refine s_unwant rfl rfl rfl ?_
            refine o_pickF rfl rfl rfl ?_
            refine o_mov rfl ?_
            refine s_unwant rfl rfl rfl ?_
            refine s_unwant rfl rfl rfl ?_
            refine s_unwant rfl rfl rfl ?_
            refine s_unwant rfl rfl rfl ?_
            refine o_pickF rfl rfl rfl ?_
            refine o_mov rfl ?_
            refine s_unwant rfl rfl rfl ?_
            refine s_unwant rfl rfl rfl ?_
            refine s_unwant rfl rfl rfl ?_
            refine o_pickF rfl rfl rfl ?_
            refine o_mov rfl ?_
            refine s_unwant rfl rfl rfl ?_
            refine o_pickF rfl rfl rfl ?_
            refine o_mov rfl ?_
            refine s_unwant rfl rfl rfl ?_
            refine s_unwant rfl rfl rfl ?_
            refine s_unwant rfl rfl rfl ?_
            refine o_pickF rfl rfl rfl ?_
            refine o_asg rfl ?_
            refine s_done ?_
            exact s_retv (xs := [.tmp 0]) (vs := [.bool false]) [] fn_12 rfl ⟨rv_tmp rfl, trivial⟩ (.cons _ (.cons _ (.cons _ (.cons _ (.cons _ (.cons _ .slnil)))))) ⟨rfl, rfl⟩
        · refine s_unwant rfl rfl h155 ?_
          refine s_unwant rfl rfl h155 ?_
          refine s_unwant rfl rfl h155 ?_
          refine o_pickF rfl h155 rfl ?_
          refine o_mov rfl ?_
          refine s_unwant rfl rfl rfl ?_
          refine s_unwant rfl rfl rfl ?_
          refine s_unwant rfl rfl rfl ?_
          refine o_pickF rfl rfl rfl ?_
          refine o_mov rfl ?_
          refine s_unwant rfl rfl rfl ?_
          refine o_pickF rfl rfl rfl ?_
          refine o_mov rfl ?_
          refine s_unwant rfl rfl rfl ?_
          refine s_unwant rfl rfl rfl ?_
          refine s_unwant rfl rfl rfl ?_
          refine o_pickF rfl rfl rfl ?_
          refine o_mov rfl ?_
          refine s_unwant rfl rfl rfl ?_
          refine o_pickF rfl rfl rfl ?_
          refine o_mov rfl ?_
          refine s_unwant rfl rfl rfl ?_
          refine s_unwant rfl rfl rfl ?_
          refine o_pickF rfl rfl rfl ?_
          refine o_mov rfl ?_
          refine s_unwant rfl rfl rfl ?_
          refine s_unwant rfl rfl rfl ?_
          refine o_pickF rfl rfl rfl ?_
          refine o_mov rfl ?_
          refine s_unwant rfl rfl rfl ?_
          refine s_unwant rfl rfl rfl ?_
          refine s_unwant rfl rfl rfl ?_
          refine s_unwant rfl rfl rfl ?_
          refine o_pickF rfl rfl rfl ?_
          refine o_mov rfl ?_
          refine s_unwant rfl rfl rfl ?_
          refine s_unwant rfl rfl rfl ?_
          refine s_unwant rfl rfl rfl ?_
          refine s_unwant rfl rfl rfl ?_
          refine o_pickF rfl rfl rfl ?_
          refine o_mov rfl ?_
          refine s_unwant rfl rfl rfl ?_
          refine s_unwant rfl rfl rfl ?_
          refine s_unwant rfl rfl rfl ?_
          refine s_unwant rfl rfl rfl ?_
          refine o_pickF rfl rfl rfl ?_
          refine o_mov rfl ?_
          refine s_unwant rfl rfl rfl ?_
          refine s_unwant rfl rfl rfl ?_
          refine s_unwant rfl rfl rfl ?_
          refine o_pickF rfl rfl rfl ?_
          refine o_mov rfl ?_
          refine s_unwant rfl rfl rfl ?_
          refine o_pickF rfl rfl rfl ?_
          refine o_mov rfl ?_
          refine s_unwant rfl rfl rfl ?_
          refine s_unwant rfl rfl rfl ?_
          refine s_unwant rfl rfl rfl ?_
          refine o_pickF rfl rfl rfl ?_
          refine o_asg rfl ?_
          refine s_done ?_
          exact s_retv (xs := [.tmp 0]) (vs := [.bool false]) [] fn_12 rfl ⟨rv_tmp rfl, trivial⟩ (.cons _ (.cons _ (.cons _ (.cons _ (.cons _ (.cons _ .slnil)))))) ⟨rfl, rfl⟩
      · refine s_unwant rfl rfl h154 ?_
        refine s_unwant rfl rfl h154 ?_
        refine o_pickF rfl h154 rfl ?_
        refine o_mov rfl ?_
        refine s_unwant rfl rfl rfl ?_
        refine s_unwant rfl rfl rfl ?_
        refine s_unwant rfl rfl rfl ?_
        refine o_pickF rfl rfl rfl ?_
        refine o_mov rfl ?_
        refine s_unwant rfl rfl rfl ?_
        refine s_unwant rfl rfl rfl ?_
        refine s_unwant rfl rfl rfl ?_
        refine o_pickF rfl rfl rfl ?_
        refine o_mov rfl ?_
        refine s_unwant rfl rfl rfl ?_
        refine o_pickF rfl rfl rfl ?_
        refine o_mov rfl ?_
        refine s_unwant rfl rfl rfl ?_
        refine s_unwant rfl rfl rfl ?_
        refine s_unwant rfl rfl rfl ?_
        refine o_pickF rfl rfl rfl ?_
        refine o_mov rfl ?_
        refine s_unwant rfl rfl rfl ?_
        refine o_pickF rfl rfl rfl ?_
        refine o_mov rfl ?_
        refine s_unwant rfl rfl rfl ?_
        refine s_unwant rfl rfl rfl ?_
        refine o_pickF rfl rfl rfl ?_
        refine o_mov rfl ?_
        refine s_unwant rfl rfl rfl ?_
        refine s_unwant rfl rfl rfl ?_
        refine o_pickF rfl rfl rfl ?_
        refine o_mov rfl ?_
        refine s_unwant rfl rfl rfl ?_
        refine s_unwant rfl rfl rfl ?_
        refine s_unwant rfl rfl rfl ?_
        refine s_unwant rfl rfl rfl ?_
        refine o_pickF rfl rfl rfl ?_
        refine o_mov rfl ?_
        refine s_unwant rfl rfl rfl ?_
        refine s_unwant rfl rfl rfl ?_
        refine s_unwant rfl rfl rfl ?_
        refine s_unwant rfl rfl rfl ?_
        refine o_pickF rfl rfl rfl ?_
        refine o_mov rfl ?_
        refine s_unwant rfl rfl rfl ?_
        refine s_unwant rfl rfl rfl ?_
        refine s_unwant rfl rfl rfl ?_
        refine s_unwant rfl rfl rfl ?_
        refine o_pickF rfl rfl rfl ?_
        refine o_mov rfl ?_
        refine s_unwant rfl rfl rfl ?_
        refine s_unwant rfl rfl rfl ?_
        refine s_unwant rfl rfl rfl ?_
        refine o_pickF rfl rfl rfl ?_
        refine o_mov rfl ?_
        refine s_unwant rfl rfl rfl ?_
        refine o_pickF rfl rfl rfl ?_
        refine o_mov rfl ?_
        refine s_unwant rfl rfl rfl ?_
        refine s_unwant rfl rfl rfl ?_
        refine s_unwant rfl rfl rfl ?_
        refine o_pickF rfl rfl rfl ?_
        refine o_asg rfl ?_
        refine s_done ?_
        exact s_retv (xs := [.tmp 0]) (vs := [.bool false]) [] fn_12 rfl ⟨rv_tmp rfl, trivial⟩ (.cons _ (.cons _ (.cons _ (.cons _ (.cons _ (.cons _ .slnil)))))) ⟨rfl, rfl⟩
    · intro J220
      refine s_block ?_
      refine s_env (env' := [(9, .slice a65 y63.1.length c66), (10, .int .i64 y63.2), (11, .slice a73 y71.1.length c74), (12, .bool y71.2), (13, .slice a82 y80.1.length c83), (14, .bool y80.2), (16, .bool y90.2), (18, .bool y101.2), (19, .slice (some ⟨b129, 0, none⟩) ([y113, y115, y117, y119, y121, y123, y125, y127] : List End).length 8), (20, .slice (some ⟨b132, 0, none⟩) ([] : List Link).length 0), (21, .int .i64 1)]) (by exact ⟨rfl, rfl, rfl, rfl, rfl, rfl, rfl, rfl, rfl, rfl, rfl, trivial⟩) ?_
      refine s_own (own' := [.osl (.slice a65 y63.1.length c66) 2 26 (y63.1.map GoE.enc), .osl (.slice a73 y71.1.length c74) 2 26 (y71.1.map GoE.enc), .osl (.slice a82 y80.1.length c83) 2 26 (y80.1.map GoE.enc), .osl (.slice (some ⟨b129, 0, none⟩) ([y113, y115, y117, y119, y121, y123, y125, y127] : List End).length 8) 2 26 [[.int .i64 y113.Switch, .int .i64 y113.Port], [.int .i64 y115.Switch, .int .i64 y115.Port], [.int .i64 y117.Switch, .int .i64 y117.Port], [.int .i64 y119.Switch, .int .i64 y119.Port], [.int .i64 y121.Switch, .int .i64 y121.Port], [.int .i64 y123.Switch, .int .i64 y123.Port], [.int .i64 y125.Switch, .int .i64 y125.Port], [.int .i64 y127.Switch, .int .i64 y127.Port]], .osl (.slice (some ⟨b132, 0, none⟩) ([] : List Link).length 0) 4 40 []]) (.cons_cons _ (.cons_cons _ (.cons_cons _ (.cons _ (.cons _ (.cons_cons _ (.cons_cons _ .slnil))))))) ?_
      refine s_loopn (fun q s221 => catenarylaw20_TreeNames_l0 k y1 y3 y8 y10 y15 y17 y19 y21 q s221) (fun s221 env own H' => ∃ a222 c223 ls224, env = [(9, .slice a65 y63.1.length c66), (10, .int .i64 y63.2), (11, .slice a73 y71.1.length c74), (12, .bool y71.2), (13, .slice a82 y80.1.length c83), (14, .bool y80.2), (16, .bool y90.2), (18, .bool y101.2), (19, .slice (some ⟨b129, 0, none⟩) ([y113, y115, y117, y119, y121, y123, y125, y127] : List End).length 8), (20, .slice a222 s221.1.length c223), (21, .int .i64 s221.2)] ∧ own = [.osl (.slice a65 y63.1.length c66) 2 26 (y63.1.map GoE.enc), .osl (.slice a73 y71.1.length c74) 2 26 (y71.1.map GoE.enc), .osl (.slice a82 y80.1.length c83) 2 26 (y80.1.map GoE.enc), .osl (.slice (some ⟨b129, 0, none⟩) ([y113, y115, y117, y119, y121, y123, y125, y127] : List End).length 8) 2 26 [[.int .i64 y113.Switch, .int .i64 y113.Port], [.int .i64 y115.Switch, .int .i64 y115.Port], [.int .i64 y117.Switch, .int .i64 y117.Port], [.int .i64 y119.Switch, .int .i64 y119.Port], [.int .i64 y121.Switch, .int .i64 y121.Port], [.int .i64 y123.Switch, .int .i64 y123.Port], [.int .i64 y125.Switch, .int .i64 y125.Port], [.int .i64 y127.Switch, .int .i64 y127.Port]], .osl (.slice a222 s221.1.length c223) 4 40 ls224] ∧ Hle H106 H' ∧ All2 (GoT.rep H') ls224 s221.1) (fun _ => rfl) ?_ k (([] : List Link), 1) ⟨_, _, _, rfl, rfl, .refl _, hA133⟩
      rintro q226 ih227 s221 _ _ H228 ⟨a222, c223, ls224, rfl, rfl, hle229, hA225⟩
      refine s_eq (by rw [catenarylaw20_TreeNames_l0]) ?_
      have hA230 := All2.mono (fun _ _ => GoT.mono hle229) hA108
      have hA231 := All2.mono (fun _ _ => GoT.mono hle229) hA109
      have hA232 := All2.mono (fun _ _ => GoT.mono hle229) hA110
      have hA233 := All2.mono (fun _ _ => GoT.mono hle229) hA130
      refine s_seq ?_
      refine s_seq ?_
      refine s_region ?_
      refine o_mov rfl ?_
      refine o_lt rfl rfl ?_
      refine s_done ?_
      refine s_cond rfl (fun h234 => ?_) (fun h234 => ?_)
      · refine s_skip ?_
        refine s_seq ?_
        refine s_block ?_
        refine s_region ?_
        refine o_mov rfl ?_
        refine o_mov rfl ?_
        refine s_bg fun y235 h236 => ?_
        refine s_callF rfl rfl (catenarylaw20_at_ok k _ s221.2 2 h236) ?_
        refine o_mov rfl ?_
        refine o_add rfl rfl ?_
        refine s_bg fun y237 h238 => ?_
        refine s_callF rfl rfl (catenarylaw20_at_ok k _ (w64 (s221.2 + 1)) 1 h238) ?_
        refine o_bld rfl rfl ?_
        refine o_bsl (xs := [.tmp 120]) rfl rfl (by simp only [List.mem_cons, List.not_mem_nil, or_false, forall_eq_or_imp, forall_eq]; exact ⟨rfl, rfl⟩) rfl rfl fun b239 => ?_
        have hA240 : All2 (GoT.rep H228) [[.int .i64 y235.Switch, .int .i64 y235.Port, .int .i64 y237.Switch, .int .i64 y237.Port]] ([(⟨y235, y237⟩ : Link)] : List Link) := all2_enc (([(⟨y235, y237⟩ : Link)] : List Link))
        refine o_appO 4 5 rfl rfl rfl hA225 rfl hA240 fun a242 c243 h244 hA245 => ?_
        refine o_asg rfl ?_
        refine s_done ?_
        refine s_inBlock ?_
        refine s_region ?_
        refine o_mov rfl ?_
        refine o_add rfl rfl ?_
        refine o_asg rfl ?_
        refine s_done ?_
        exact s_env (by exact ⟨rfl, rfl, rfl, rfl, rfl, rfl, rfl, rfl, rfl, rfl, rfl, trivial⟩) (s_own (by exact (.cons_cons _ (.cons_cons _ (.cons_cons _ (.cons_cons _ (.cons_cons _ (.cons _ .slnil))))))) (ih227 ((s221.1 ++ ([(⟨y235, y237⟩ : Link)] : List Link)), w64 (s221.2 + 1)) _ _ _ ⟨_, _, _, rfl, rfl, hle229, hA245⟩))
      · refine s_exit rfl ?_
        exact s_env (by exact ⟨rfl, rfl, rfl, rfl, rfl, rfl, rfl, rfl, rfl, rfl, trivial⟩) (s_own (by exact (.cons_cons _ (.cons_cons _ (.cons_cons _ (.cons_cons _ (.cons_cons _ .slnil)))))) (J220 s221.1 _ _ _ ⟨_, _, _, rfl, rfl, hle229, hA225⟩))
  · intro J246
    refine s_block ?_
    refine s_env (env' := [(1, .slice (some ⟨b57, 0, none⟩) ([([(⟨y1, y3⟩ : Link)] : List Link), ([(⟨y8, y10⟩ : Link)] : List Link), ([(⟨y15, y17⟩ : Link), (⟨y19, y21⟩ : Link)] : List Link), ([(⟨(⟨0, 0⟩ : End), (⟨0, 0⟩ : End)⟩ : Link)] : List Link)] : List (List Link)).length 4), (2, .int .i64 0)]) (by exact ⟨rfl, rfl, trivial⟩) ?_
    refine s_own (own' := [.osl (.slice (some ⟨b57, 0, none⟩) ([([(⟨y1, y3⟩ : Link)] : List Link), ([(⟨y8, y10⟩ : Link)] : List Link), ([(⟨y15, y17⟩ : Link), (⟨y19, y21⟩ : Link)] : List Link), ([(⟨(⟨0, 0⟩ : End), (⟨0, 0⟩ : End)⟩ : Link)] : List Link)] : List (List Link)).length 4) 1 22 [[.slice (some ⟨b5, 0, none⟩) ([(⟨y1, y3⟩ : Link)] : List Link).length 1], [.slice (some ⟨b12, 0, none⟩) ([(⟨y8, y10⟩ : Link)] : List Link).length 1], [.slice (some ⟨b23, 0, none⟩) ([(⟨y15, y17⟩ : Link), (⟨y19, y21⟩ : Link)] : List Link).length 2], [.slice (some ⟨b26, 0, none⟩) ([(⟨(⟨0, 0⟩ : End), (⟨0, 0⟩ : End)⟩ : Link)] : List Link).length 1]]]) (.cons_cons _ .slnil) ?_
    refine s_loopn (fun q s247 => catenarylaw20_TreeNames_l1 k y1 y3 y8 y10 y15 y17 y19 y21 q s247) (fun s247 env own H' => env = [(1, .slice (some ⟨b57, 0, none⟩) ([([(⟨y1, y3⟩ : Link)] : List Link), ([(⟨y8, y10⟩ : Link)] : List Link), ([(⟨y15, y17⟩ : Link), (⟨y19, y21⟩ : Link)] : List Link), ([(⟨(⟨0, 0⟩ : End), (⟨0, 0⟩ : End)⟩ : Link)] : List Link)] : List (List Link)).length 4), (2, .int .i64 s247)] ∧ own = [.osl (.slice (some ⟨b57, 0, none⟩) ([([(⟨y1, y3⟩ : Link)] : List Link), ([(⟨y8, y10⟩ : Link)] : List Link), ([(⟨y15, y17⟩ : Link), (⟨y19, y21⟩ : Link)] : List Link), ([(⟨(⟨0, 0⟩ : End), (⟨0, 0⟩ : End)⟩ : Link)] : List Link)] : List (List Link)).length 4) 1 22 [[.slice (some ⟨b5, 0, none⟩) ([(⟨y1, y3⟩ : Link)] : List Link).length 1], [.slice (some ⟨b12, 0, none⟩) ([(⟨y8, y10⟩ : Link)] : List Link).length 1], [.slice (some ⟨b23, 0, none⟩) ([(⟨y15, y17⟩ : Link), (⟨y19, y21⟩ : Link)] : List Link).length 2], [.slice (some ⟨b26, 0, none⟩) ([(⟨(⟨0, 0⟩ : End), (⟨0, 0⟩ : End)⟩ : Link)] : List Link).length 1]]] ∧ Hle H50 H') (fun _ => rfl) ?_ k 0 ⟨rfl, rfl, .refl _⟩
    rintro q248 ih249 s247 _ _ H250 ⟨rfl, rfl, hle251⟩
    refine s_eq (by rw [catenarylaw20_TreeNames_l1]) ?_
    have hA252 := All2.mono (fun _ _ => GoT.mono hle251) hA58
    refine s_seq ?_
    refine s_seq ?_
    refine s_region ?_
    refine o_mov rfl ?_
    refine o_mov rfl ?_
    refine o_lenS rfl ?_
    refine o_lt rfl rfl ?_
    refine s_done ?_
    refine s_cond rfl (fun h253 => ?_) (fun h253 => ?_)
    · refine s_skip ?_
      refine s_seq ?_
      refine s_block ?_
      refine s_seq ?_
      refine s_region ?_
      refine o_mov rfl ?_
      refine o_mov rfl ?_
      refine o_ixO 0 rfl hA252 rfl rfl fun y254 bk256 vs257 h255 ha258 hi259 hr260 => ?_
      obtain ⟨a261, c262, rfl, hs263⟩ := hr260
      obtain rfl := s_bk ha258
      refine o_ldO 0 0 rfl hi259 rfl rfl rfl ?_
      refine s_bg fun y264 h265 => ?_
      refine s_call [] _ rfl rfl (.refl _) (tree_Tree_ok k _ y254 _ _ hs263 h265) ?_
      rintro _ H269 _ hle270 ⟨a266, c267, rfl, rfl⟩
      have hs271 := RSl.mono hle270 hs263
      have hA272 := All2.mono (fun _ _ => GoT.mono hle270) hA252
      have hA273 : All2 (GoT.rep H269) (y264.1.map GoE.enc) y264.1 := all2_enc _
      refine o_mov rfl ?_
      refine o_ext rfl rfl ?_
      refine o_ext rfl rfl ?_
      refine o_asg rfl ?_
      refine o_asg rfl ?_
      refine s_done ?_
      refine s_seq ?_
      refine s_region ?_
      refine o_mov rfl ?_
      refine o_mov rfl ?_
      refine o_ixO 0 rfl hA272 rfl rfl fun y274 bk276 vs277 h275 ha278 hi279 hr280 => ?_
      obtain ⟨a281, c282, rfl, hs283⟩ := hr280
      obtain rfl := s_bk ha278
      refine o_ldO 0 0 rfl hi279 rfl rfl rfl ?_
      refine s_bg fun y284 h285 => ?_
      refine s_call [] _ rfl rfl (.refl _) (tree_First_ok k _ y274 _ _ hs283 1 h285) ?_
      rintro _ H289 _ hle290 ⟨a286, c287, rfl, rfl⟩
      have hs291 := RSl.mono hle290 hs271
      have hs292 := RSl.mono hle290 hs283
      have hA293 := All2.mono (fun _ _ => GoT.mono hle290) hA272
      have hA294 := All2.mono (fun _ _ => GoT.mono hle290) hA273
      have hA295 : All2 (GoT.rep H289) (y284.1.map GoE.enc) y284.1 := all2_enc _
      refine o_mov rfl ?_
      refine o_ext rfl rfl ?_
      refine o_ext rfl rfl ?_
      refine o_asg rfl ?_
      refine o_asg rfl ?_
      refine s_done ?_
      refine s_seq ?_
      refine s_region ?_
      refine o_mov rfl ?_
      refine o_mov rfl ?_
      refine o_ixO 0 rfl hA293 rfl rfl fun y296 bk298 vs299 h297 ha300 hi301 hr302 => ?_
      obtain ⟨a303, c304, rfl, hs305⟩ := hr302
      obtain rfl := s_bk ha300
      refine o_ldO 0 0 rfl hi301 rfl rfl rfl ?_
      refine s_bg fun y306 h307 => ?_
      refine s_call [] _ rfl rfl (.refl _) (tree_Second_ok k _ y296 _ _ hs305 1 h307) ?_
      rintro _ H311 _ hle312 ⟨a308, c309, rfl, rfl⟩
      have hs313 := RSl.mono hle312 hs291
      have hs314 := RSl.mono hle312 hs292
      have hs315 := RSl.mono hle312 hs305
      have hA316 := All2.mono (fun _ _ => GoT.mono hle312) hA293
      have hA317 := All2.mono (fun _ _ => GoT.mono hle312) hA294
      have hA318 := All2.mono (fun _ _ => GoT.mono hle312) hA295
      have hA319 : All2 (GoT.rep H311) (y306.1.map GoE.enc) y306.1 := all2_enc _
      refine o_mov rfl ?_
      refine o_ext rfl rfl ?_
      refine o_ext rfl rfl ?_
      refine o_asg rfl ?_
      refine o_asg rfl ?_
      refine s_done ?_
      refine s_seq ?_
      refine s_region ?_
      refine s_mid [(1, .slice (some ⟨b57, 0, none⟩) ([([(⟨y1, y3⟩ : Link)] : List Link), ([(⟨y8, y10⟩ : Link)] : List Link), ([(⟨y15, y17⟩ : Link), (⟨y19, y21⟩ : Link)] : List Link), ([(⟨(⟨0, 0⟩ : End), (⟨0, 0⟩ : End)⟩ : Link)] : List Link)] : List (List Link)).length 4), (2, .int .i64 s247), (79, .bool ((y264.2 != 2) || (y284.2 || y306.2)))] [.osl (.slice (some ⟨b57, 0, none⟩) ([([(⟨y1, y3⟩ : Link)] : List Link), ([(⟨y8, y10⟩ : Link)] : List Link), ([(⟨y15, y17⟩ : Link), (⟨y19, y21⟩ : Link)] : List Link), ([(⟨(⟨0, 0⟩ : End), (⟨0, 0⟩ : End)⟩ : Link)] : List Link)] : List (List Link)).length 4) 1 22 [[.slice (some ⟨b5, 0, none⟩) ([(⟨y1, y3⟩ : Link)] : List Link).length 1], [.slice (some ⟨b12, 0, none⟩) ([(⟨y8, y10⟩ : Link)] : List Link).length 1], [.slice (some ⟨b23, 0, none⟩) ([(⟨y15, y17⟩ : Link), (⟨y19, y21⟩ : Link)] : List Link).length 2], [.slice (some ⟨b26, 0, none⟩) ([(⟨(⟨0, 0⟩ : End), (⟨0, 0⟩ : End)⟩ : Link)] : List Link).length 1]]] ?_ ?_
      · refine s_cond rfl (fun h320 => ?_) (fun h320 => ?_)
        · refine s_seq ?_
          refine s_region ?_
          refine o_asg rfl ?_
          refine s_done ?_
          refine s_lret ?_
          exact s_retv (xs := [.tmp 0]) (vs := [.bool false]) [] fn_12 rfl ⟨rv_tmp rfl, trivial⟩ (.cons _ .slnil) ⟨rfl, rfl⟩
        · refine s_skip ?_
          refine s_inBlock ?_
          refine s_region ?_
          refine o_mov rfl ?_
          refine o_add rfl rfl ?_
          refine o_asg rfl ?_
          refine s_done ?_
          exact s_env (by exact ⟨rfl, rfl, trivial⟩) (s_own (by exact (.cons_cons _ .slnil)) (ih249 (w64 (s247 + 1)) _ _ _ ⟨rfl, rfl, (Hle.trans (Hle.trans (Hle.trans hle251 hle270) hle290) hle312)⟩))
      · intro J321
        refine o_mov rfl ?_
        refine o_ne rfl rfl ?_
        refine o_mov rfl ?_
        refine s_case (y264.2 != 2) (fun h322 => ?_) (fun h322 => ?_)
        · refine s_unwant rfl rfl h322 ?_
          refine o_pickT rfl h322 rfl ?_
          refine o_mov rfl ?_
          refine s_unwant rfl rfl rfl ?_
          refine o_pickT rfl rfl rfl ?_
          exact s_env (by exact ⟨rfl, rfl, lkb rfl (by first | simp only [h322, Bool.true_and, Bool.and_true, Bool.false_and, Bool.and_false, Bool.true_or, Bool.false_or, Bool.or_true, Bool.or_false, Bool.not_true, Bool.not_false] | simp [h322]), trivial⟩) (s_own (by exact (.cons_cons _ (.cons _ (.cons _ (.cons _ .slnil))))) J321)
        · refine s_want rfl rfl h322 ?_
          refine o_mov rfl ?_
          refine o_pickF rfl h322 rfl ?_
          refine o_mov rfl ?_
          refine s_case y284.2 (fun h323 => ?_) (fun h323 => ?_)
          · refine s_unwant rfl rfl h323 ?_
            refine o_pickT rfl h323 rfl ?_
            exact s_env (by exact ⟨rfl, rfl, lkb rfl (by first | simp only [h322, h323, Bool.true_and, Bool.and_true, Bool.false_and, Bool.and_false, Bool.true_or, Bool.false_or, Bool.or_true, Bool.or_false, Bool.not_true, Bool.not_false] | simp [h322, h323]), trivial⟩) (s_own (by exact (.cons_cons _ (.cons _ (.cons _ (.cons _ .slnil))))) J321)
          · refine s_want rfl rfl h323 ?_
            refine o_mov rfl ?_
            refine o_pickF rfl h323 rfl ?_
            exact s_env (by exact ⟨rfl, rfl, lkb rfl (by first | simp only [h322, h323, Bool.true_and, Bool.and_true, Bool.false_and, Bool.and_false, Bool.true_or, Bool.false_or, Bool.or_true, Bool.or_false, Bool.not_true, Bool.not_false] | simp [h322, h323]), trivial⟩) (s_own (by exact (.cons_cons _ (.cons _ (.cons _ (.cons _ .slnil))))) J321)
    · refine s_exit rfl ?_
      exact s_env (by exact trivial) (s_own (by exact (.cons _ .slnil)) (J246 () _ _ _ ⟨rfl, rfl, hle251⟩))
end Go.Cat.G3
