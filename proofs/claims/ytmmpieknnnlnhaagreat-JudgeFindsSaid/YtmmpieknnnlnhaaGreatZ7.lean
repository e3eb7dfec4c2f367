/- A text of the proof of the seat's laws: a step logic over the machine, or pure functions that the Go functions come to. No condition. -/
import Derived.Test.YtmmpieknnnlnhaaGreatCore1
import Derived.Test.YtmmpieknnnlnhaaGreatZ6
namespace Go.Cat.G3
open Go Go.Cat Go.Proofs
set_option maxRecDepth 100000
set_option maxHeartbeats 4000000
set_option linter.unusedVariables false
set_option linter.unusedSimpArgs false
instance iZ7x1 : TZero Tryz.prog 24 (.agg #[.int .i64 0, .slice none 0 0]) := ⟨fun _ => by kernel_rfl⟩
instance iZ7x2 : TBldA Tryz.prog 41 [.int .u8 0, .int .u8 0, .int .u8 0] 3 1 := ⟨fun _ => by kernel_rfl, ⟨_, Tryz.underlying41, fun _ => by kernel_rfl⟩⟩
instance iZ7x3 : TBld Tryz.prog 24 [.int .i64 0, .slice none 0 0] [(0, 1), (1, 1)] := ⟨fun _ => by kernel_rfl, ⟨_, Tryz.underlying24, fun _ => by kernel_rfl⟩⟩
instance iZ7x4 : TBld Tryz.prog 29 [.int .i64 0, .slice none 0 0] [(0, 1), (1, 1)] := ⟨fun _ => by kernel_rfl, ⟨_, Tryz.underlying29, fun _ => by kernel_rfl⟩⟩
instance iZ7x5 : TBld Tryz.prog 44 [.int .i64 0, .int .i64 0, .int .i64 0, .int .i64 0, .int .u8 0, .int .u8 0, .int .u8 0, .slice none 0 0] [(0, 1), (1, 1), (2, 1), (3, 1), (4, 3), (7, 1)] := ⟨fun _ => by kernel_rfl, ⟨_, Tryz.underlying44, fun _ => by kernel_rfl⟩⟩
instance iZ7x6 : TBld Tryz.prog 83 [.int .i64 0, .int .i64 0, .int .i64 0, .int .i64 0] [(0, 2), (2, 2)] := ⟨fun _ => by kernel_rfl, ⟨_, Tryz.underlying83, fun _ => by kernel_rfl⟩⟩
instance iZ7x7 : TFun Tryz.prog 7 := ⟨_, (by kernel_rfl : Tryz.prog.funcs[7]? = some Tryz.f7), by decide, rfl⟩
instance iZ7x8 : TFun Tryz.prog 8 := ⟨_, (by kernel_rfl : Tryz.prog.funcs[8]? = some Tryz.f8), by decide, rfl⟩
instance iZ7x9 : TFun Tryz.prog 9 := ⟨_, (by kernel_rfl : Tryz.prog.funcs[9]? = some Tryz.f9), by decide, rfl⟩
instance iZ7x10 : TFun Tryz.prog 10 := ⟨_, (by kernel_rfl : Tryz.prog.funcs[10]? = some Tryz.f10), by decide, rfl⟩
instance iZ7x11 : TFun Tryz.prog 11 := ⟨_, (by kernel_rfl : Tryz.prog.funcs[11]? = some Tryz.f11), by decide, rfl⟩
instance iZ7x12 : TFun Tryz.prog 13 := ⟨_, (by kernel_rfl : Tryz.prog.funcs[13]? = some Tryz.f13), by decide, rfl⟩
instance iZ7x13 : TFun Tryz.prog 34 := ⟨_, (by kernel_rfl : Tryz.prog.funcs[34]? = some Tryz.f34), by decide, rfl⟩
def Zc3 (k : Nat)  : Option Graph :=
 some (⟨2, ([(⟨(⟨1, 1⟩ : End), (⟨2, 1⟩ : End)⟩ : Link)] : List Link)⟩ : Graph)
theorem ZnJ : Tryz.prog.funcs[11]? = some Tryz.f11 := by kernel_rfl
theorem Zfk (k : Nat) (H : Heap)  {r : Graph} (hr : Zc3 k  = some r) :
  Fn Tryz.prog 11 [] H [] fun H' v out => ∃ a0_0 c0_0, v = .agg #[.int .i64 r.Switches, .slice a0_0 r.Links.length c0_0] ∧ out = [] ∧ RSl H' a0_0 c0_0 r.Links := by
 refine Zaq (args := []) (n := 6) (Φ := fun r H' v out => ∃ a0_0 c0_0, v = .agg #[.int .i64 r.Switches, .slice a0_0 r.Links.length c0_0] ∧ out = [] ∧ RSl H' a0_0 c0_0 r.Links) hr ZnJ rfl rfl rfl fun w => ?_
 refine s_eq (by rw [Zc3]) ?_
 refine Zae <| Zaa ?_
 refine Zbw fun b1 => ?_
 refine Zac <| Zae <| Zaa ?_
 refine Zdx rfl rfl ?_
 refine Zdx rfl rfl ?_
 refine Zdx rfl rfl ?_
 refine Zdw (xs := [.tmp 3]) rfl rfl (by simp only [List.mem_cons, List.not_mem_nil, or_false, forall_eq_or_imp, forall_eq]; exact ⟨rfl, rfl⟩) rfl rfl fun b3 => ?_
 have hA4 : All2 (GoT.rep H) [[.int .i64 1, .int .i64 1, .int .i64 2, .int .i64 1]] ([(⟨(⟨1, 1⟩ : End), (⟨2, 1⟩ : End)⟩ : Link)] : List Link) := ZaZ (([(⟨(⟨1, 1⟩ : End), (⟨2, 1⟩ : End)⟩ : Link)] : List Link))
 refine Zg9 1 (fun b => .inl (by simp [ids])) rfl hA4 fun H6 hle7 hn8 hs9 => ?_
 refine Zdx rfl rfl ?_
 refine o_st 0 rfl rfl rfl rfl rfl rfl ?_
 refine Zac ?_
 exact ZaF (xs := [.cell 0 24]) (vs := [.agg #[.int .i64 2, .slice (some ⟨b3, 0, none⟩) ([(⟨(⟨1, 1⟩ : End), (⟨2, 1⟩ : End)⟩ : Link)] : List Link).length 1]]) [] ZnJ rfl ⟨Zft 0 rfl rfl rfl rfl, trivial⟩ (.cons _ .slnil) ⟨_, _, rfl, rfl, hs9⟩
def ZcU (k : Nat)  : Option (List Version) :=
 some ([(⟨1, ([(⟨7, 0, 0, 1, 0, 0⟩ : Node)] : List Node)⟩ : Version)] : List Version)
theorem ZnK : Tryz.prog.funcs[10]? = some Tryz.f10 := by kernel_rfl
theorem Ze0 (k : Nat) (H : Heap)  {r : (List Version)} (hr : ZcU k  = some r) :
  Fn Tryz.prog 10 [] H [] fun H' v out => ∃ a0 c0 ls0, v = .slice a0 r.length c0 ∧ out = [.osl (.slice a0 r.length c0) 2 29 ls0] ∧ All2 (GoT.rep H') ls0 r := by
 refine Zaq (args := []) (n := 5) (Φ := fun r H' v out => ∃ a0 c0 ls0, v = .slice a0 r.length c0 ∧ out = [.osl (.slice a0 r.length c0) 2 29 ls0] ∧ All2 (GoT.rep H') ls0 r) hr ZnK rfl rfl rfl fun w => ?_
 refine s_eq (by rw [ZcU]) ?_
 refine Zae <| Zaa <| Zah rfl <| Zac <| Zae <| Zaa ?_
 refine Zdx rfl rfl ?_
 refine Zdw (xs := [.tmp 1]) rfl rfl (by simp only [List.mem_cons, List.not_mem_nil, or_false, forall_eq_or_imp, forall_eq]; exact ⟨rfl, rfl⟩) rfl rfl fun b1 => ?_
 have hA2 : All2 (GoT.rep H) [[.int .i64 7, .int .i64 0, .int .i64 0, .int .i64 1, .int .i64 0, .int .i64 0]] ([(⟨7, 0, 0, 1, 0, 0⟩ : Node)] : List Node) := ZaZ (([(⟨7, 0, 0, 1, 0, 0⟩ : Node)] : List Node))
 refine Zg9 0 (fun b => .inl (by simp [ids])) rfl hA2 fun H4 hle5 hn6 hs7 => ?_
 refine Zdx rfl rfl ?_
 refine Zdw (xs := [.tmp 3]) rfl rfl (by simp only [List.mem_cons, List.not_mem_nil, or_false, forall_eq_or_imp, forall_eq]; exact ⟨rfl, rfl⟩) rfl rfl fun b8 => ?_
 have hA9 : All2 (GoT.rep H4) [[.int .i64 1, .slice (some ⟨b1, 0, none⟩) ([(⟨7, 0, 0, 1, 0, 0⟩ : Node)] : List Node).length 1]] ([(⟨1, ([(⟨7, 0, 0, 1, 0, 0⟩ : Node)] : List Node)⟩ : Version)] : List Version) := Zcd ⟨_, _,  rfl, hs7⟩ Zbv
 refine Zah rfl <| Zac ?_
 exact ZaF (xs := [.tmp 0]) (vs := [.slice (some ⟨b8, 0, none⟩) ([(⟨1, ([(⟨7, 0, 0, 1, 0, 0⟩ : Node)] : List Node)⟩ : Version)] : List Version).length 1]) [.osl (.slice (some ⟨b8, 0, none⟩) ([(⟨1, ([(⟨7, 0, 0, 1, 0, 0⟩ : Node)] : List Node)⟩ : Version)] : List Version).length 1) 2 29 [[.int .i64 1, .slice (some ⟨b1, 0, none⟩) ([(⟨7, 0, 0, 1, 0, 0⟩ : Node)] : List Node).length 1]]] ZnK rfl ⟨Zaz rfl, trivial⟩ (.cons_cons _ .slnil) ⟨_, _, _, rfl, rfl, hA9⟩
def Zbc (k : Nat)  : Option Event :=
 some (⟨1, 0, 1, 1, (⟨5, 6, 7⟩ : Arr3u8), ([(⟨1, (⟨5, 6, 7⟩ : Arr3u8)⟩ : Sent)] : List Sent)⟩ : Event)
theorem ZnI : Tryz.prog.funcs[13]? = some Tryz.f13 := by kernel_rfl
theorem ZbK (k : Nat) (H : Heap)  {r : Event} (hr : Zbc k  = some r) :
  Fn Tryz.prog 13 [] H [] fun H' v out => ∃ a0_0 c0_0, v = (aE r a0_0 c0_0) ∧ out = [] ∧ RSl H' a0_0 c0_0 r.Sent := by
 refine Zaq (args := []) (n := 6) (Φ := fun r H' v out => ∃ a0_0 c0_0, v = (aE r a0_0 c0_0) ∧ out = [] ∧ RSl H' a0_0 c0_0 r.Sent) hr ZnI rfl rfl rfl fun w => ?_
 refine s_eq (by rw [Zbc]) ?_
 refine Zae <| Zaa ?_
 refine Zbw fun b1 => ?_
 refine Zac <| Zae <| Zaa ?_
 refine ZiF rfl rfl ?_
 refine ZiF rfl rfl ?_
 refine Zdx rfl rfl ?_
 refine Zdw (xs := [.tmp 3]) rfl rfl (by simp only [List.mem_cons, List.not_mem_nil, or_false, forall_eq_or_imp, forall_eq]; exact ⟨rfl, rfl⟩) rfl rfl fun b3 => ?_
 have hA4 : All2 (GoT.rep H) [[.int .i64 1, .int .u8 5, .int .u8 6, .int .u8 7]] ([(⟨1, (⟨5, 6, 7⟩ : Arr3u8)⟩ : Sent)] : List Sent) := ZaZ (([(⟨1, (⟨5, 6, 7⟩ : Arr3u8)⟩ : Sent)] : List Sent))
 refine Zg9 1 (fun b => .inl (by simp [ids])) rfl hA4 fun H6 hle7 hn8 hs9 => ?_
 refine Zdx rfl rfl ?_
 refine o_st 0 rfl rfl rfl rfl rfl rfl ?_
 refine Zac ?_
 exact ZaF (xs := [.cell 0 44]) (vs := [.agg #[.int .i64 1, .int .i64 0, .int .i64 1, .int .i64 1, .int .u8 5, .int .u8 6, .int .u8 7, .slice (some ⟨b3, 0, none⟩) ([(⟨1, (⟨5, 6, 7⟩ : Arr3u8)⟩ : Sent)] : List Sent).length 1]]) [] ZnI rfl ⟨Zft 0 rfl rfl rfl rfl, trivial⟩ (.cons _ .slnil) ⟨_, _, rfl, rfl, hs9⟩
def ZaU (k : Nat) (x0 : Int) (x1 : Int) (x2 : (List Event)) : Option Bool :=
 (Zc3 k).bind fun y1 =>
 (ZcU k).bind fun y9 =>
 (ZdA k y1 y9 x2).bind fun y20 =>
 if (y20.1 == x0) = true then
  if (y20.2.1 == x1) = true then
   some (y20.2.2 == 0)
  else
   some false
 else
  some false
theorem Zlm : Tryz.prog.funcs[34]? = some Tryz.f34 := by kernel_rfl
theorem Zbs (k : Nat) (H : Heap) (x0 : Int) (x1 : Int) (x2 : (List Event)) (a2_0 : Option Addr) (c2_0 : Nat) (hx2_0 : RSl H a2_0 c2_0 x2) {r : Bool} (hr : ZaU k x0 x1 x2 = some r) :
  Fn Tryz.prog 34 [.int .i64 x0, .int .i64 x1, .slice a2_0 x2.length c2_0] H [] fun H' v out => v = .bool r ∧ out = [] := by
 refine Zaq (args := [.int .i64 x0, .int .i64 x1, .slice a2_0 x2.length c2_0]) (n := 30) (Φ := fun r H' v out => v = .bool r ∧ out = []) hr Zlm rfl rfl rfl fun w => ?_
 refine s_eq (by rw [ZaU]) ?_
 refine Zae <| Zaa <| Zah rfl <| Zac <| Zae <| Zaa ?_
 refine s_bg fun y1 h2 => ?_
 refine Zbg [] _ rfl rfl (.refl _) (Zfk k _ h2) ?_
 rintro _ H6 _ hle7 ⟨a3, c4, rfl, rfl, hs5⟩
 have hs8 := RSl.mono hle7 hx2_0
 refine ZcG ?_
 refine s_bg fun y9 h10 => ?_
 refine Zbg [] _ rfl rfl (.refl _) (Ze0 k _ h10) ?_
 rintro _ H16 _ hle17 ⟨a11, c12, ls14, rfl, rfl, hA15⟩
 have hs18 := RSl.mono hle17 hs8
 have hs19 := RSl.mono hle17 hs5
 refine Zad rfl ?_
 refine s_bg fun y20 h21 => ?_
 refine Zc5 (Φ := fun v out => v = _ ∧ out = []) [] _ rfl rfl (.refl _) (fun H' hle hl => ZfG k _ y1 _ _ (RSl.mono hle hs19) y9 _ _ (Zcf (hl _ (List.mem_of_getElem? (i := 0) rfl)) hA15 hle).2 x2 _ _ (RSl.mono hle hs18) h21) ?_
 rintro _ _ ⟨rfl, rfl⟩
 refine ZcG <| Zad rfl <| ZcI rfl rfl <| ZcI rfl rfl <| ZcI rfl rfl <| Zah rfl <| Zah rfl <| Zah rfl <| Zac <| Zae <| Zaa <| Zad rfl ?_
 refine Zad rfl <| o_eq rfl rfl <| Zad rfl ?_
 refine Zax (y20.1 == x0) (fun h22 => ?_) (fun h22 => ?_)
 ·refine Zaf rfl rfl h22 <| Zad rfl <| Zaf rfl rfl h22 <| Zad rfl <| Zaf rfl rfl h22 <| o_eq rfl rfl <| Zan rfl h22 rfl <| Zad rfl ?_
  refine Zax (y20.2.1 == x1) (fun h23 => ?_) (fun h23 => ?_)
  ·refine Zaf rfl rfl h23 <| Zad rfl <| Zaf rfl rfl h23 <| o_eq rfl rfl <| Zan rfl h23 rfl <| Zah rfl <| Zac ?_
   exact s_r1 6 (.bool (y20.2.2 == 0)) Zlm ⟨rfl, rfl⟩
  ·refine Zab rfl rfl h23 <| Zab rfl rfl h23 <| Zal rfl h23 rfl <| Zah rfl <| Zac ?_
   exact s_r1 6 (.bool false) Zlm ⟨rfl, rfl⟩
 ·refine Zab rfl rfl h22 <| Zab rfl rfl h22 <| Zab rfl rfl h22 <| Zal rfl h22 rfl <| Zad rfl <| Zab rfl rfl rfl <| Zab rfl rfl rfl <| Zal rfl rfl rfl <| Zah rfl <| Zac ?_
  exact s_r1 6 (.bool false) Zlm ⟨rfl, rfl⟩
theorem z1 {α : Type} (a b : α) (l : List α) : (a :: l).set 0 b = b :: l := rfl
theorem z2 {α : Type} (a b : α) (l : List α) (n : Nat) : (a :: l).set (n + 1) b = a :: l.set n b := rfl
theorem z3 {α : Type} (a : α) (l m : List α) : (a :: l) ++ m = a :: (l ++ m) := rfl
theorem z4 {α : Type} (m : List α) : [] ++ m = m := rfl
theorem z5 {α : Type} (a : α) (l : List α) (n : Nat) : (a :: l).eraseIdx (n + 1) = a :: l.eraseIdx n := rfl
theorem z6 {α : Type} (a : α) (l : List α) : (a :: l).eraseIdx 0 = l := rfl
theorem z7 {α β : Type} (f : α → β) (a : α) (l : List α) : (a :: l).map f = f a :: l.map f := rfl
theorem z8 {α β : Type} (f : α → β) : ([] : List α).map f = [] := rfl
theorem z9 {α : Type} (a : α) (l : List α) (n : Nat) : (a :: l).drop (n + 1) = l.drop n := rfl
theorem z10 {α : Type} (l : List α) : l.drop 0 = l := rfl
theorem z11 {α : Type} (a : α) (l : List α) (n : Nat) : (a :: l).take (n + 1) = a :: l.take n := rfl
theorem z12 {α : Type} (l : List α) : l.take 0 = [] := rfl
def Zcs (k : Nat)  : Option Bool :=
 (Zbc k).bind fun y1 =>
 (Zbc k).bind fun y8 =>
 (Zbc k).bind fun y16 =>
 (Zbc k).bind fun y25 =>
 (Zbc k).bind fun y35 =>
 (Zbc k).bind fun y46 =>
 (ZaU k 0 0 ([y1] : List Event)).bind fun y86 =>
 if (y86) = true then
  (ZaU k 0 0 ([y1, (⟨2, 1, y25.Ver, y25.Id, y25.H, []⟩ : Event)] : List Event)).bind fun y92 =>
  if (y92) = true then
   (ZaU k 2 0 ([(⟨y8.Switch, y8.Port, 2, y8.Id, y8.H, y8.Sent⟩ : Event)] : List Event)).bind fun y98 =>
   if (y98) = true then
    (ZaU k 2 0 ([(⟨y16.Switch, y16.Port, y16.Ver, y16.Id, y16.H, ([(⟨2, (⟨5, 6, 7⟩ : Arr3u8)⟩ : Sent)] : List Sent)⟩ : Event)] : List Event)).bind fun y104 =>
    if (y104) = true then
     (ZaU k 3 1 ([y1, y1] : List Event)).bind fun y110 =>
     if (y110) = true then
      (ZaU k 4 1 ([y1, (⟨2, 1, y35.Ver, y35.Id, (⟨5, 6, 8⟩ : Arr3u8), []⟩ : Event)] : List Event)).bind fun y116 =>
      if (y116) = true then
       (ZaU k 1 0 ([(⟨3, y46.Port, y46.Ver, y46.Id, y46.H, y46.Sent⟩ : Event)] : List Event)).bind fun y122 =>
       some y122
      else
       some false
     else
      some false
    else
     some false
   else
    some false
  else
   some false
 else
  some false
theorem fn_9 : Tryz.prog.funcs[9]? = some Tryz.f9 := by kernel_rfl
theorem ZeF (k : Nat) (H : Heap)  {r : Bool} (hr : Zcs k  = some r) :
  Fn Tryz.prog 9 [] H [] fun H' v out => v = .bool r ∧ out = [] := by
 refine Zaq (args := []) (n := 63) (Φ := fun r H' v out => v = .bool r ∧ out = []) hr fn_9 rfl rfl rfl fun w => ?_
 refine s_eq (by rw [Zcs]) ?_
 refine Zae <| Zaa <| Zah rfl <| Zac <| Zae <| Zaa ?_
 refine s_bg fun y1 h2 => ?_
 refine Zbg [] _ rfl rfl (.refl _) (ZbK k _ h2) ?_
 rintro _ H6 _ hle7 ⟨a3, c4, rfl, rfl, hs5⟩
 refine ZcG ?_
 refine s_bg fun y8 h9 => ?_
 refine Zbg [] _ rfl rfl (.refl _) (ZbK k _ h9) ?_
 rintro _ H13 _ hle14 ⟨a10, c11, rfl, rfl, hs12⟩
 have hs15 := RSl.mono hle14 hs5
 refine ZcG ?_
 refine s_bg fun y16 h17 => ?_
 refine Zbg [] _ rfl rfl (.refl _) (ZbK k _ h17) ?_
 rintro _ H21 _ hle22 ⟨a18, c19, rfl, rfl, hs20⟩
 have hs23 := RSl.mono hle22 hs15
 have hs24 := RSl.mono hle22 hs12
 refine ZcG ?_
 refine s_bg fun y25 h26 => ?_
 refine Zbg [] _ rfl rfl (.refl _) (ZbK k _ h26) ?_
 rintro _ H30 _ hle31 ⟨a27, c28, rfl, rfl, hs29⟩
 have hs32 := RSl.mono hle31 hs23
 have hs33 := RSl.mono hle31 hs24
 refine ZcG ?_
 refine s_bg fun y35 h36 => ?_
 refine Zbg [] _ rfl rfl (.refl _) (ZbK k _ h36) ?_
 rintro _ H40 _ hle41 ⟨a37, c38, rfl, rfl, hs39⟩
 have hs42 := RSl.mono hle41 hs32
 have hs43 := RSl.mono hle41 hs33
 refine ZcG ?_
 refine s_bg fun y46 h47 => ?_
 refine Zbg [] _ rfl rfl (.refl _) (ZbK k _ h47) ?_
 rintro _ H51 _ hle52 ⟨a48, c49, rfl, rfl, hs50⟩
 have hs53 := RSl.mono hle52 hs42
 have hs54 := RSl.mono hle52 hs43
 refine ZcG ?_
 refine Zbw fun b58 => ?_
 refine Zbw fun b60 => ?_
 refine Zbw fun b62 => ?_
 refine Zbw fun b64 => ?_
 refine Zbw fun b66 => ?_
 refine Zbw fun b68 => ?_
 refine o_st 0 rfl rfl rfl rfl rfl rfl ?_
 dsimp only [z1, z2, z3, z4, z5, z6, z7, z8, z9, z10, z11, z12, spl, Value.cells, mkv, subc, Nat.zero_add, Nat.reduceAdd, Nat.reduceMul]
 refine o_st 1 rfl rfl rfl rfl rfl rfl ?_
 dsimp only [z1, z2, z3, z4, z5, z6, z7, z8, z9, z10, z11, z12, spl, Value.cells, mkv, subc, Nat.zero_add, Nat.reduceAdd, Nat.reduceMul]
 refine o_st 2 rfl rfl rfl rfl rfl rfl ?_
 dsimp only [z1, z2, z3, z4, z5, z6, z7, z8, z9, z10, z11, z12, spl, Value.cells, mkv, subc, Nat.zero_add, Nat.reduceAdd, Nat.reduceMul]
 refine o_st 3 rfl rfl rfl rfl rfl rfl ?_
 dsimp only [z1, z2, z3, z4, z5, z6, z7, z8, z9, z10, z11, z12, spl, Value.cells, mkv, subc, Nat.zero_add, Nat.reduceAdd, Nat.reduceMul]
 refine o_st 4 rfl rfl rfl rfl rfl rfl ?_
 dsimp only [z1, z2, z3, z4, z5, z6, z7, z8, z9, z10, z11, z12, spl, Value.cells, mkv, subc, Nat.zero_add, Nat.reduceAdd, Nat.reduceMul]
 refine o_st 5 rfl rfl rfl rfl rfl rfl ?_
 dsimp only [z1, z2, z3, z4, z5, z6, z7, z8, z9, z10, z11, z12, spl, Value.cells, mkv, subc, Nat.zero_add, Nat.reduceAdd, Nat.reduceMul]
 refine Zac <| Zae <| Zaa <| o_fa rfl ?_
 refine o_st 1 rfl rfl rfl rfl rfl rfl ?_
 dsimp only [z1, z2, z3, z4, z5, z6, z7, z8, z9, z10, z11, z12, spl, Value.cells, mkv, subc, Nat.zero_add, Nat.reduceAdd, Nat.reduceMul]
 refine Zac <| Zae <| Zaa ?_
 refine ZiF rfl rfl ?_
 refine Zdx rfl rfl ?_
 refine Zdw (xs := [.tmp 15]) rfl rfl (by simp only [List.mem_cons, List.not_mem_nil, or_false, forall_eq_or_imp, forall_eq]; exact ⟨rfl, rfl⟩) rfl rfl fun b70 => ?_
 try dsimp only [z1, z2, z3, z4, z5, z6, z7, z8, z9, z10, z11, z12, spl, Value.cells, mkv, subc, Nat.zero_add, Nat.reduceAdd, Nat.reduceMul]
 have hA71 : All2 (GoT.rep H51) [[.int .i64 2, .int .u8 5, .int .u8 6, .int .u8 7]] ([(⟨2, (⟨5, 6, 7⟩ : Arr3u8)⟩ : Sent)] : List Sent) := ZaZ (([(⟨2, (⟨5, 6, 7⟩ : Arr3u8)⟩ : Sent)] : List Sent))
 refine o_fa rfl ?_
 refine Zg9 6 (fun b => .inl (by simp [ids])) rfl hA71 fun H73 hle74 hn75 hs76 => ?_
 try dsimp only [z1, z2, z3, z4, z5, z6, z7, z8, z9, z10, z11, z12, spl, Value.cells, mkv, subc, Nat.zero_add, Nat.reduceAdd, Nat.reduceMul]
 have hs77 := RSl.mono hle74 hs53
 have hs78 := RSl.mono hle74 hs54
 have hs82 := RSl.mono hle74 hs50
 refine o_st 2 rfl rfl rfl rfl rfl rfl ?_
 dsimp only [z1, z2, z3, z4, z5, z6, z7, z8, z9, z10, z11, z12, spl, Value.cells, mkv, subc, Nat.zero_add, Nat.reduceAdd, Nat.reduceMul]
 refine Zac <| Zae <| Zaa <| o_fa rfl ?_
 refine o_st 3 rfl rfl rfl rfl rfl rfl ?_
 dsimp only [z1, z2, z3, z4, z5, z6, z7, z8, z9, z10, z11, z12, spl, Value.cells, mkv, subc, Nat.zero_add, Nat.reduceAdd, Nat.reduceMul]
 refine o_fa rfl ?_
 refine o_st 3 rfl rfl rfl rfl rfl rfl ?_
 dsimp only [z1, z2, z3, z4, z5, z6, z7, z8, z9, z10, z11, z12, spl, Value.cells, mkv, subc, Nat.zero_add, Nat.reduceAdd, Nat.reduceMul]
 refine o_fa rfl ?_
 refine o_st 3 rfl rfl rfl rfl rfl rfl ?_
 dsimp only [z1, z2, z3, z4, z5, z6, z7, z8, z9, z10, z11, z12, spl, Value.cells, mkv, subc, Nat.zero_add, Nat.reduceAdd, Nat.reduceMul]
 refine Zac <| Zae <| Zaa ?_
 refine ZiF rfl rfl ?_
 refine o_fa rfl ?_
 refine o_st 4 rfl rfl rfl rfl rfl rfl ?_
 dsimp only [z1, z2, z3, z4, z5, z6, z7, z8, z9, z10, z11, z12, spl, Value.cells, mkv, subc, Nat.zero_add, Nat.reduceAdd, Nat.reduceMul]
 refine o_fa rfl ?_
 refine o_st 4 rfl rfl rfl rfl rfl rfl ?_
 dsimp only [z1, z2, z3, z4, z5, z6, z7, z8, z9, z10, z11, z12, spl, Value.cells, mkv, subc, Nat.zero_add, Nat.reduceAdd, Nat.reduceMul]
 refine o_fa rfl ?_
 refine o_st 4 rfl rfl rfl rfl rfl rfl ?_
 dsimp only [z1, z2, z3, z4, z5, z6, z7, z8, z9, z10, z11, z12, spl, Value.cells, mkv, subc, Nat.zero_add, Nat.reduceAdd, Nat.reduceMul]
 refine o_fa rfl ?_
 refine o_st 4 rfl rfl rfl rfl rfl rfl ?_
 dsimp only [z1, z2, z3, z4, z5, z6, z7, z8, z9, z10, z11, z12, spl, Value.cells, mkv, subc, Nat.zero_add, Nat.reduceAdd, Nat.reduceMul]
 refine Zac <| Zae <| Zaa <| o_fa rfl ?_
 refine o_st 5 rfl rfl rfl rfl rfl rfl ?_
 dsimp only [z1, z2, z3, z4, z5, z6, z7, z8, z9, z10, z11, z12, spl, Value.cells, mkv, subc, Nat.zero_add, Nat.reduceAdd, Nat.reduceMul]
 refine Zac <| Zae <| Zaa <| o_ld 0 rfl rfl rfl ?_
 try dsimp only [z1, z2, z3, z4, z5, z6, z7, z8, z9, z10, z11, z12, spl, Value.cells, mkv, subc, Nat.zero_add, Nat.reduceAdd, Nat.reduceMul]
 refine Zdw (xs := [.tmp 27]) rfl rfl (by simp only [List.mem_cons, List.not_mem_nil, or_false, forall_eq_or_imp, forall_eq]; exact ⟨rfl, rfl⟩) rfl rfl fun b83 => ?_
 try dsimp only [z1, z2, z3, z4, z5, z6, z7, z8, z9, z10, z11, z12, spl, Value.cells, mkv, subc, Nat.zero_add, Nat.reduceAdd, Nat.reduceMul]
 have hA84 : All2 (GoT.rep H73) [(cE y1 a3 c4)] ([y1] : List Event) := Zcd ⟨_, _,  rfl, hs77⟩ Zbv
 refine s_bg fun y86 h87 => ?_
 refine Zc5 (Φ := fun v out => v = _ ∧ out = []) [] _ rfl rfl (.refl _) (fun H' hle hl => Zbs k _ 0 0 ([y1] : List Event) _ _ (Zcf (hl _ (List.mem_of_getElem? (i := 6) rfl)) hA84 hle).2 h87) ?_
 rintro _ _ ⟨rfl, rfl⟩
 refine ZcG <| Zad rfl ?_
 refine Zax y86 (fun h88 => ?_) (fun h88 => ?_)
 ·refine Zaf rfl rfl h88 <| o_ld 0 rfl rfl rfl ?_
  try dsimp only [z1, z2, z3, z4, z5, z6, z7, z8, z9, z10, z11, z12, spl, Value.cells, mkv, subc, Nat.zero_add, Nat.reduceAdd, Nat.reduceMul]
  refine Zaf rfl rfl h88 <| o_ld 3 rfl rfl rfl ?_
  try dsimp only [z1, z2, z3, z4, z5, z6, z7, z8, z9, z10, z11, z12, spl, Value.cells, mkv, subc, Nat.zero_add, Nat.reduceAdd, Nat.reduceMul]
  refine Zaf rfl rfl h88 ?_
  refine Zdw (xs := [.tmp 31, .tmp 32]) rfl rfl (by simp only [List.mem_cons, List.not_mem_nil, or_false, forall_eq_or_imp, forall_eq]; exact ⟨⟨rfl, rfl⟩, ⟨rfl, rfl⟩⟩) rfl rfl fun b89 => ?_
  try dsimp only [z1, z2, z3, z4, z5, z6, z7, z8, z9, z10, z11, z12, spl, Value.cells, mkv, subc, Nat.zero_add, Nat.reduceAdd, Nat.reduceMul]
  have hA90 : All2 (GoT.rep H73) [(cE y1 a3 c4), [.int .i64 2, .int .i64 1, .int .i64 y25.Ver, .int .i64 y25.Id, .int .u8 y25.H.e0, .int .u8 y25.H.e1, .int .u8 y25.H.e2, .slice none 0 0]] ([y1, (⟨2, 1, y25.Ver, y25.Id, y25.H, []⟩ : Event)] : List Event) := Zcd ⟨_, _,  rfl, hs77⟩ (Zcd ⟨_, _,  rfl, ZeK⟩ Zbv)
  refine Zaf rfl rfl h88 ?_
  refine s_bg fun y92 h93 => ?_
  refine Zc5 (Φ := fun v out => v = _ ∧ out = []) [] _ rfl rfl (.refl _) (fun H' hle hl => Zbs k _ 0 0 ([y1, (⟨2, 1, y25.Ver, y25.Id, y25.H, []⟩ : Event)] : List Event) _ _ (Zcf (hl _ (List.mem_of_getElem? (i := 7) rfl)) hA90 hle).2 h93) ?_
  rintro _ _ ⟨rfl, rfl⟩
  refine ZcG <| Zan rfl h88 rfl <| Zad rfl ?_
  refine Zax y92 (fun h94 => ?_) (fun h94 => ?_)
  ·refine Zaf rfl rfl h94 <| o_ld 1 rfl rfl rfl ?_
   try dsimp only [z1, z2, z3, z4, z5, z6, z7, z8, z9, z10, z11, z12, spl, Value.cells, mkv, subc, Nat.zero_add, Nat.reduceAdd, Nat.reduceMul]
   refine Zaf rfl rfl h94 ?_
   refine Zdw (xs := [.tmp 37]) rfl rfl (by simp only [List.mem_cons, List.not_mem_nil, or_false, forall_eq_or_imp, forall_eq]; exact ⟨rfl, rfl⟩) rfl rfl fun b95 => ?_
   try dsimp only [z1, z2, z3, z4, z5, z6, z7, z8, z9, z10, z11, z12, spl, Value.cells, mkv, subc, Nat.zero_add, Nat.reduceAdd, Nat.reduceMul]
   have hA96 : All2 (GoT.rep H73) [[.int .i64 y8.Switch, .int .i64 y8.Port, .int .i64 2, .int .i64 y8.Id, .int .u8 y8.H.e0, .int .u8 y8.H.e1, .int .u8 y8.H.e2, .slice a10 y8.Sent.length c11]] ([(⟨y8.Switch, y8.Port, 2, y8.Id, y8.H, y8.Sent⟩ : Event)] : List Event) := Zcd ⟨_, _,  rfl, hs78⟩ Zbv
   refine Zaf rfl rfl h94 ?_
   refine s_bg fun y98 h99 => ?_
   refine Zc5 (Φ := fun v out => v = _ ∧ out = []) [] _ rfl rfl (.refl _) (fun H' hle hl => Zbs k _ 2 0 ([(⟨y8.Switch, y8.Port, 2, y8.Id, y8.H, y8.Sent⟩ : Event)] : List Event) _ _ (Zcf (hl _ (List.mem_of_getElem? (i := 8) rfl)) hA96 hle).2 h99) ?_
   rintro _ _ ⟨rfl, rfl⟩
   refine ZcG <| Zan rfl h94 rfl <| Zad rfl ?_
   refine Zax y98 (fun h100 => ?_) (fun h100 => ?_)
   ·refine Zaf rfl rfl h100 <| o_ld 2 rfl rfl rfl ?_
    try dsimp only [z1, z2, z3, z4, z5, z6, z7, z8, z9, z10, z11, z12, spl, Value.cells, mkv, subc, Nat.zero_add, Nat.reduceAdd, Nat.reduceMul]
    refine Zaf rfl rfl h100 ?_
    refine Zdw (xs := [.tmp 42]) rfl rfl (by simp only [List.mem_cons, List.not_mem_nil, or_false, forall_eq_or_imp, forall_eq]; exact ⟨rfl, rfl⟩) rfl rfl fun b101 => ?_
    try dsimp only [z1, z2, z3, z4, z5, z6, z7, z8, z9, z10, z11, z12, spl, Value.cells, mkv, subc, Nat.zero_add, Nat.reduceAdd, Nat.reduceMul]
    have hA102 : All2 (GoT.rep H73) [[.int .i64 y16.Switch, .int .i64 y16.Port, .int .i64 y16.Ver, .int .i64 y16.Id, .int .u8 y16.H.e0, .int .u8 y16.H.e1, .int .u8 y16.H.e2, .slice (some ⟨b70, 0, none⟩) ([(⟨2, (⟨5, 6, 7⟩ : Arr3u8)⟩ : Sent)] : List Sent).length 1]] ([(⟨y16.Switch, y16.Port, y16.Ver, y16.Id, y16.H, ([(⟨2, (⟨5, 6, 7⟩ : Arr3u8)⟩ : Sent)] : List Sent)⟩ : Event)] : List Event) := Zcd ⟨_, _,  rfl, hs76⟩ Zbv
    refine Zaf rfl rfl h100 ?_
    refine s_bg fun y104 h105 => ?_
    refine Zc5 (Φ := fun v out => v = _ ∧ out = []) [] _ rfl rfl (.refl _) (fun H' hle hl => Zbs k _ 2 0 ([(⟨y16.Switch, y16.Port, y16.Ver, y16.Id, y16.H, ([(⟨2, (⟨5, 6, 7⟩ : Arr3u8)⟩ : Sent)] : List Sent)⟩ : Event)] : List Event) _ _ (Zcf (hl _ (List.mem_of_getElem? (i := 9) rfl)) hA102 hle).2 h105) ?_
    rintro _ _ ⟨rfl, rfl⟩
    refine ZcG <| Zan rfl h100 rfl <| Zad rfl ?_
    refine Zax y104 (fun h106 => ?_) (fun h106 => ?_)
    ·refine Zaf rfl rfl h106 <| o_ld 0 rfl rfl rfl ?_
     try dsimp only [z1, z2, z3, z4, z5, z6, z7, z8, z9, z10, z11, z12, spl, Value.cells, mkv, subc, Nat.zero_add, Nat.reduceAdd, Nat.reduceMul]
     refine Zaf rfl rfl h106 <| o_ld 0 rfl rfl rfl ?_
     try dsimp only [z1, z2, z3, z4, z5, z6, z7, z8, z9, z10, z11, z12, spl, Value.cells, mkv, subc, Nat.zero_add, Nat.reduceAdd, Nat.reduceMul]
     refine Zaf rfl rfl h106 ?_
     refine Zdw (xs := [.tmp 47, .tmp 48]) rfl rfl (by simp only [List.mem_cons, List.not_mem_nil, or_false, forall_eq_or_imp, forall_eq]; exact ⟨⟨rfl, rfl⟩, ⟨rfl, rfl⟩⟩) rfl rfl fun b107 => ?_
     try dsimp only [z1, z2, z3, z4, z5, z6, z7, z8, z9, z10, z11, z12, spl, Value.cells, mkv, subc, Nat.zero_add, Nat.reduceAdd, Nat.reduceMul]
     have hA108 : All2 (GoT.rep H73) [(cE y1 a3 c4), (cE y1 a3 c4)] ([y1, y1] : List Event) := Zcd ⟨_, _,  rfl, hs77⟩ (Zcd ⟨_, _,  rfl, hs77⟩ Zbv)
     refine Zaf rfl rfl h106 ?_
     refine s_bg fun y110 h111 => ?_
     refine Zc5 (Φ := fun v out => v = _ ∧ out = []) [] _ rfl rfl (.refl _) (fun H' hle hl => Zbs k _ 3 1 ([y1, y1] : List Event) _ _ (Zcf (hl _ (List.mem_of_getElem? (i := 10) rfl)) hA108 hle).2 h111) ?_
     rintro _ _ ⟨rfl, rfl⟩
     refine ZcG <| Zan rfl h106 rfl <| Zad rfl ?_
     refine Zax y110 (fun h112 => ?_) (fun h112 => ?_)
     ·refine Zaf rfl rfl h112 <| o_ld 0 rfl rfl rfl ?_
      try dsimp only [z1, z2, z3, z4, z5, z6, z7, z8, z9, z10, z11, z12, spl, Value.cells, mkv, subc, Nat.zero_add, Nat.reduceAdd, Nat.reduceMul]
      refine Zaf rfl rfl h112 <| o_ld 4 rfl rfl rfl ?_
      try dsimp only [z1, z2, z3, z4, z5, z6, z7, z8, z9, z10, z11, z12, spl, Value.cells, mkv, subc, Nat.zero_add, Nat.reduceAdd, Nat.reduceMul]
      refine Zaf rfl rfl h112 ?_
      refine Zdw (xs := [.tmp 53, .tmp 54]) rfl rfl (by simp only [List.mem_cons, List.not_mem_nil, or_false, forall_eq_or_imp, forall_eq]; exact ⟨⟨rfl, rfl⟩, ⟨rfl, rfl⟩⟩) rfl rfl fun b113 => ?_
      try dsimp only [z1, z2, z3, z4, z5, z6, z7, z8, z9, z10, z11, z12, spl, Value.cells, mkv, subc, Nat.zero_add, Nat.reduceAdd, Nat.reduceMul]
      have hA114 : All2 (GoT.rep H73) [(cE y1 a3 c4), [.int .i64 2, .int .i64 1, .int .i64 y35.Ver, .int .i64 y35.Id, .int .u8 5, .int .u8 6, .int .u8 8, .slice none 0 0]] ([y1, (⟨2, 1, y35.Ver, y35.Id, (⟨5, 6, 8⟩ : Arr3u8), []⟩ : Event)] : List Event) := Zcd ⟨_, _,  rfl, hs77⟩ (Zcd ⟨_, _,  rfl, ZeK⟩ Zbv)
      refine Zaf rfl rfl h112 ?_
      refine s_bg fun y116 h117 => ?_
      refine Zc5 (Φ := fun v out => v = _ ∧ out = []) [] _ rfl rfl (.refl _) (fun H' hle hl => Zbs k _ 4 1 ([y1, (⟨2, 1, y35.Ver, y35.Id, (⟨5, 6, 8⟩ : Arr3u8), []⟩ : Event)] : List Event) _ _ (Zcf (hl _ (List.mem_of_getElem? (i := 11) rfl)) hA114 hle).2 h117) ?_
      rintro _ _ ⟨rfl, rfl⟩
      refine ZcG <| Zan rfl h112 rfl <| Zad rfl ?_
      refine Zax y116 (fun h118 => ?_) (fun h118 => ?_)
      ·refine Zaf rfl rfl h118 <| o_ld 5 rfl rfl rfl ?_
       try dsimp only [z1, z2, z3, z4, z5, z6, z7, z8, z9, z10, z11, z12, spl, Value.cells, mkv, subc, Nat.zero_add, Nat.reduceAdd, Nat.reduceMul]
       refine Zaf rfl rfl h118 ?_
       refine Zdw (xs := [.tmp 59]) rfl rfl (by simp only [List.mem_cons, List.not_mem_nil, or_false, forall_eq_or_imp, forall_eq]; exact ⟨rfl, rfl⟩) rfl rfl fun b119 => ?_
       try dsimp only [z1, z2, z3, z4, z5, z6, z7, z8, z9, z10, z11, z12, spl, Value.cells, mkv, subc, Nat.zero_add, Nat.reduceAdd, Nat.reduceMul]
       have hA120 : All2 (GoT.rep H73) [[.int .i64 3, .int .i64 y46.Port, .int .i64 y46.Ver, .int .i64 y46.Id, .int .u8 y46.H.e0, .int .u8 y46.H.e1, .int .u8 y46.H.e2, .slice a48 y46.Sent.length c49]] ([(⟨3, y46.Port, y46.Ver, y46.Id, y46.H, y46.Sent⟩ : Event)] : List Event) := Zcd ⟨_, _,  rfl, hs82⟩ Zbv
       refine Zaf rfl rfl h118 ?_
       refine s_bg fun y122 h123 => ?_
       refine Zc5 (Φ := fun v out => v = _ ∧ out = []) [] _ rfl rfl (.refl _) (fun H' hle hl => Zbs k _ 1 0 ([(⟨3, y46.Port, y46.Ver, y46.Id, y46.H, y46.Sent⟩ : Event)] : List Event) _ _ (Zcf (hl _ (List.mem_of_getElem? (i := 12) rfl)) hA120 hle).2 h123) ?_
       rintro _ _ ⟨rfl, rfl⟩
       refine ZcG <| Zan rfl h118 rfl <| Zah rfl <| Zac ?_
       exact s_r1 0 (.bool y122) fn_9 ⟨rfl, rfl⟩
      ·refine Zab rfl rfl h118 <| Zab rfl rfl h118 <| Zab rfl rfl h118 <| Zal rfl h118 rfl <| Zah rfl <| Zac ?_
       exact s_r1 0 (.bool false) fn_9 ⟨rfl, rfl⟩
     ·refine Zab rfl rfl h112 <| Zab rfl rfl h112 <| Zab rfl rfl h112 <| Zab rfl rfl h112 <| Zal rfl h112 rfl <| Zad rfl <| Zab rfl rfl rfl <| Zab rfl rfl rfl <| Zab rfl rfl rfl <| Zal rfl rfl rfl <| Zah rfl <| Zac ?_
      exact s_r1 0 (.bool false) fn_9 ⟨rfl, rfl⟩
    ·refine Zab rfl rfl h106 <| Zab rfl rfl h106 <| Zab rfl rfl h106 <| Zab rfl rfl h106 <| Zal rfl h106 rfl <| Zad rfl <| Zab rfl rfl rfl <| Zab rfl rfl rfl <| Zab rfl rfl rfl <| Zab rfl rfl rfl <| Zal rfl rfl rfl <| Zad rfl ?_
     refine Zab rfl rfl rfl <| Zab rfl rfl rfl <| Zab rfl rfl rfl <| Zal rfl rfl rfl <| Zah rfl <| Zac ?_
     exact s_r1 0 (.bool false) fn_9 ⟨rfl, rfl⟩
   ·refine Zab rfl rfl h100 <| Zab rfl rfl h100 <| Zab rfl rfl h100 <| Zal rfl h100 rfl <| Zad rfl <| Zab rfl rfl rfl <| Zab rfl rfl rfl <| Zab rfl rfl rfl <| Zab rfl rfl rfl <| Zal rfl rfl rfl <| Zad rfl <| Zab rfl rfl rfl ?_
    refine Zab rfl rfl rfl <| Zab rfl rfl rfl <| Zab rfl rfl rfl <| Zal rfl rfl rfl <| Zad rfl <| Zab rfl rfl rfl <| Zab rfl rfl rfl <| Zab rfl rfl rfl <| Zal rfl rfl rfl <| Zah rfl <| Zac ?_
    exact s_r1 0 (.bool false) fn_9 ⟨rfl, rfl⟩
  ·refine Zab rfl rfl h94 <| Zab rfl rfl h94 <| Zab rfl rfl h94 <| Zal rfl h94 rfl <| Zad rfl <| Zab rfl rfl rfl <| Zab rfl rfl rfl <| Zab rfl rfl rfl <| Zal rfl rfl rfl <| Zad rfl <| Zab rfl rfl rfl <| Zab rfl rfl rfl ?_
   refine Zab rfl rfl rfl <| Zab rfl rfl rfl <| Zal rfl rfl rfl <| Zad rfl <| Zab rfl rfl rfl <| Zab rfl rfl rfl <| Zab rfl rfl rfl <| Zab rfl rfl rfl <| Zal rfl rfl rfl <| Zad rfl <| Zab rfl rfl rfl <| Zab rfl rfl rfl ?_
   refine Zab rfl rfl rfl <| Zal rfl rfl rfl <| Zah rfl <| Zac ?_
   exact s_r1 0 (.bool false) fn_9 ⟨rfl, rfl⟩
 ·refine Zab rfl rfl h88 <| Zab rfl rfl h88 <| Zab rfl rfl h88 <| Zab rfl rfl h88 <| Zal rfl h88 rfl <| Zad rfl <| Zab rfl rfl rfl <| Zab rfl rfl rfl <| Zab rfl rfl rfl <| Zal rfl rfl rfl <| Zad rfl <| Zab rfl rfl rfl ?_
  refine Zab rfl rfl rfl <| Zab rfl rfl rfl <| Zal rfl rfl rfl <| Zad rfl <| Zab rfl rfl rfl <| Zab rfl rfl rfl <| Zab rfl rfl rfl <| Zab rfl rfl rfl <| Zal rfl rfl rfl <| Zad rfl <| Zab rfl rfl rfl <| Zab rfl rfl rfl ?_
  refine Zab rfl rfl rfl <| Zab rfl rfl rfl <| Zal rfl rfl rfl <| Zad rfl <| Zab rfl rfl rfl <| Zab rfl rfl rfl <| Zab rfl rfl rfl <| Zal rfl rfl rfl <| Zah rfl <| Zac ?_
  exact s_r1 0 (.bool false) fn_9 ⟨rfl, rfl⟩
def ZaV (k : Nat) (y5 : (List Version)) : Nat → (List Version) × Int → Option ((List Version))
 | 0, _ => none
 | q188 + 1, s183 =>
  if (decide (s183.2 < (y5.length : Int))) = true then
   (rd y5 s183.2).bind fun y196 =>
   (rd y5 s183.2).bind fun y207 =>
   (rd y5 s183.2).bind fun y218 =>
   (slc y207.Nodes 0 (imin (y218.Nodes.length : Int) 70)).bind fun y231 =>
   (app s183.1 ([(⟨y196.Ver, y231⟩ : Version)] : List Version)).bind fun _ =>
   ZaV k y5 q188 ((s183.1 ++ ([(⟨y196.Ver, y231⟩ : Version)] : List Version)), w64 (s183.2 + 1))
  else
   some s183.1
def catenarylaw28_JudgeFinds (k : Nat) (x0 : Graph) (x1 : (List Version)) (x2 : (List Event)) : Option Bool :=
 (slc x1 0 (imin (x1.length : Int) 12)).bind fun y5 =>
 (slc x2 0 (imin (x2.length : Int) 120)).bind fun y11 =>
 (ZaV k y5 k (([] : List Version), 0)).bind fun p155 =>
 (ZdA k x0 p155 y11).bind fun y165 =>
 (ZcA k x0 p155 y11).bind fun y167 =>
 if (y165.1 == y167.1) = true then
  if (y165.2.1 == y167.2.1) = true then
   if (y165.2.2 == y167.2.2) = true then
    (Zcs k).bind fun y172 =>
    some y172
   else
    some false
  else
   some false
 else
  some false
theorem fn_3 : Tryz.prog.funcs[3]? = some Tryz.f3 := by kernel_rfl
theorem ZdY (k : Nat) (H : Heap) (x0 : Graph) (a0_0 : Option Addr) (c0_0 : Nat) (hx0_0 : RSl H a0_0 c0_0 x0.Links) (x1 : (List Version)) (a1_0 : Option Addr) (c1_0 : Nat) (hx1_0 : RSl H a1_0 c1_0 x1) (x2 : (List Event)) (a2_0 : Option Addr) (c2_0 : Nat) (hx2_0 : RSl H a2_0 c2_0 x2) {r : Bool} (hr : catenarylaw28_JudgeFinds k x0 x1 x2 = some r) :
  Fn Tryz.prog 3 [.agg #[.int .i64 x0.Switches, .slice a0_0 x0.Links.length c0_0], .slice a1_0 x1.length c1_0, .slice a2_0 x2.length c2_0] H [] fun H' v out => v = .bool r ∧ out = [] := by
 refine Zaq (args := [.agg #[.int .i64 x0.Switches, .slice a0_0 x0.Links.length c0_0], .slice a1_0 x1.length c1_0, .slice a2_0 x2.length c2_0]) (n := 85) (Φ := fun r H' v out => v = .bool r ∧ out = []) hr fn_3 rfl rfl rfl fun w => ?_
 refine s_eq (by rw [catenarylaw28_JudgeFinds]) ?_
 refine Zae <| Zaa ?_
 refine ZbO rfl fun b1 => ?_
 refine Zah rfl <| Zac <| Zae ?_
 refine s_bg fun y5 h8 => ?_
 refine s_bg fun y11 h14 => ?_
 refine Zag (env' := [(1, .slice a1_0 x1.length c1_0)] ++ [(0, .agg #[.int .i64 x0.Switches, .slice a0_0 x0.Links.length c0_0]), (2, .slice a2_0 x2.length c2_0), (3, .pointer (some ⟨b1, 0, none⟩)), (6, .bool false)]) (by exact ⟨rfl, rfl, rfl, rfl, rfl, trivial⟩) ?_
 refine ZbL (own' := [.blk b1 (Zak [.int .i64 x0.Switches, .slice a0_0 x0.Links.length c0_0] 24)] ++ []) rfl ?_
 refine Zha [(1, Value.slice a1_0 x1.length c1_0, 10)] [] [(fun V H v g => v = Value.slice a1_0 x1.length c1_0 ∧ g = [] ∧ RSl H a1_0 c1_0 x1),
   (fun V H v g => v = Value.slice a1_0 x1.length c1_0 ∧ g = [] ∧ RSl H a1_0 c1_0 x1),
   (fun V H v g => v = Value.int .i64 (x1.length : Int) ∧ g = []),
   (fun V H v g => v = Value.int .i64 (imin (x1.length : Int) 12) ∧ g = []),
   (fun V H v g => ∃ a15 c16, v = Value.slice a15 y5.length c16 ∧ g = [] ∧ RSl H a15 c16 y5),
   (fun V H v g => v = Value.slice a2_0 x2.length c2_0 ∧ g = [] ∧ RSl H a2_0 c2_0 x2),
   (fun V H v g => v = Value.slice a2_0 x2.length c2_0 ∧ g = [] ∧ RSl H a2_0 c2_0 x2),
   (fun V H v g => v = Value.int .i64 (x2.length : Int) ∧ g = []),
   (fun V H v g => v = Value.int .i64 (imin (x2.length : Int) 120) ∧ g = []),
   (fun V H v g => ∃ a19 c20, v = Value.slice a19 y11.length c20 ∧ g = [] ∧ RSl H a19 c20 y11),
   (fun V H v g => ∃ a15 c16, v = Value.slice a15 y5.length c16 ∧ g = [] ∧ RSl H a15 c16 y5)] [[], [], [], [], [], [], [], [], [], [], []] mixed ⟨fun _ _ _ _ _ hle ⟨e1, e2, h0_⟩ => ⟨e1, e2, RSl.mono hle h0_⟩, fun _ _ _ _ _ hle ⟨e1, e2, h0_⟩ => ⟨e1, e2, RSl.mono hle h0_⟩, m0V, m0V, fun _ _ _ _ _ hle ⟨a15, c16, e1, e2, h0_⟩ => ⟨_, _, e1, e2, RSl.mono hle h0_⟩, fun _ _ _ _ _ hle ⟨e1, e2, h0_⟩ => ⟨e1, e2, RSl.mono hle h0_⟩, fun _ _ _ _ _ hle ⟨e1, e2, h0_⟩ => ⟨e1, e2, RSl.mono hle h0_⟩, m0V, m0V, fun _ _ _ _ _ hle ⟨a19, c20, e1, e2, h0_⟩ => ⟨_, _, e1, e2, RSl.mono hle h0_⟩, fun _ _ _ _ _ hle ⟨a15, c16, e1, e2, h0_⟩ => ⟨_, _, e1, e2, RSl.mono hle h0_⟩, trivial⟩ ⟨l0V, l0V, l0V, l0V, l0V, l0V, l0V, l0V, l0V, l0V, l0V, trivial⟩ (by kernel_rfl) (by kernel_rfl) rfl (by kernel_rfl) rfl rfl rfl (by exact ⟨rfl, rfl, rfl, rfl, trivial⟩) (by exact ⟨rfl, trivial⟩) ?_ ?_
 ·refine Zb8 ?_ ?_
  ·intro _ _ H25 fr26 hvg29 hle27 hd28
   have hs30 := RSl.mono hle27 hx1_0
   refine ⟨_, some (), rfl, fun _ => ?_⟩
   refine Zag (env' := [(1, .slice a1_0 x1.length c1_0)]) (by exact ⟨rfl, trivial⟩) ?_
   refine Zad rfl ?_
   exact Zai (.slice a1_0 x1.length c1_0) ⟨rfl, rfl, hs30⟩
  refine Zb8 ?_ ?_
  ·intro _ _ H33 fr34 hvg37 hle35 hd36
   have hs38 := RSl.mono hle35 hx1_0
   refine ⟨_, some (), rfl, fun _ => ?_⟩
   refine Zag (env' := [(1, .slice a1_0 x1.length c1_0)]) (by exact ⟨rfl, trivial⟩) ?_
   refine Zad rfl ?_
   exact Zai (.slice a1_0 x1.length c1_0) ⟨rfl, rfl, hs38⟩
  refine Zb8 ?_ ?_
  ·intro _ _ H41 fr42 hvg45 hle43 hd44
   obtain ⟨hv46, hg47, hp48⟩ := hd44 1 (by decide)
   refine ⟨_, some (), rfl, fun _ => ?_⟩
   refine Zag (env' := [(16, .slice a1_0 x1.length c1_0)]) (by exact ⟨congrArg some hv46, trivial⟩) ?_
   refine ZaG rfl ?_
   exact Zai (.int .i64 (x1.length : Int)) ⟨rfl, rfl⟩
  refine Zb8 ?_ ?_
  ·intro _ _ H51 fr52 hvg55 hle53 hd54
   obtain ⟨hv56, hg57⟩ := hd54 2 (by decide)
   refine ⟨_, some (), rfl, fun _ => ?_⟩
   refine Zag (env' := [(17, .int .i64 (x1.length : Int))]) (by exact ⟨congrArg some hv56, trivial⟩) ?_
   refine Zmz rfl rfl ?_
   exact Zai (.int .i64 (imin (x1.length : Int) 12)) ⟨rfl, rfl⟩
  refine Zb8 ?_ ?_
  ·intro _ _ H60 fr61 hvg64 hle62 hd63
   obtain ⟨hv65, hg66, hp67⟩ := hd63 0 (by decide)
   obtain ⟨hv68, hg69⟩ := hd63 3 (by decide)
   refine ⟨_, (slc x1 0 (imin (x1.length : Int) 12)).bind some, by rw [h8]; rfl, fun _ => ?_⟩
   refine Zag (env' := [(15, .slice a1_0 x1.length c1_0), (18, .int .i64 (imin (x1.length : Int) 12))]) (by exact ⟨congrArg some hv65, congrArg some hv68, trivial⟩) ?_
   refine o_sl hp67 rfl rfl ⟨_, rfl⟩ fun a70 c71 y5 h72 hs73 => ?_
   obtain rfl := Option.some.inj (h8.symm.trans h72)
   exact Zai (.slice a70 y5.length c71) ⟨a70, c71, rfl, rfl, hs73⟩
  refine Zb8 ?_ ?_
  ·intro _ _ H76 fr77 hvg80 hle78 hd79
   have hs81 := RSl.mono hle78 hx2_0
   refine ⟨_, some (), rfl, fun _ => ?_⟩
   refine Zag (env' := [(2, .slice a2_0 x2.length c2_0)]) (by exact ⟨rfl, trivial⟩) ?_
   refine Zad rfl ?_
   exact Zai (.slice a2_0 x2.length c2_0) ⟨rfl, rfl, hs81⟩
  refine Zb8 ?_ ?_
  ·intro _ _ H84 fr85 hvg88 hle86 hd87
   have hs89 := RSl.mono hle86 hx2_0
   refine ⟨_, some (), rfl, fun _ => ?_⟩
   refine Zag (env' := [(2, .slice a2_0 x2.length c2_0)]) (by exact ⟨rfl, trivial⟩) ?_
   refine Zad rfl ?_
   exact Zai (.slice a2_0 x2.length c2_0) ⟨rfl, rfl, hs89⟩
  refine Zb8 ?_ ?_
  ·intro _ _ H92 fr93 hvg96 hle94 hd95
   obtain ⟨hv97, hg98, hp99⟩ := hd95 6 (by decide)
   refine ⟨_, some (), rfl, fun _ => ?_⟩
   refine Zag (env' := [(21, .slice a2_0 x2.length c2_0)]) (by exact ⟨congrArg some hv97, trivial⟩) ?_
   refine ZaG rfl ?_
   exact Zai (.int .i64 (x2.length : Int)) ⟨rfl, rfl⟩
  refine Zb8 ?_ ?_
  ·intro _ _ H102 fr103 hvg106 hle104 hd105
   obtain ⟨hv107, hg108⟩ := hd105 7 (by decide)
   refine ⟨_, some (), rfl, fun _ => ?_⟩
   refine Zag (env' := [(22, .int .i64 (x2.length : Int))]) (by exact ⟨congrArg some hv107, trivial⟩) ?_
   refine Zmz rfl rfl ?_
   exact Zai (.int .i64 (imin (x2.length : Int) 120)) ⟨rfl, rfl⟩
  refine Zb8 ?_ ?_
  ·intro _ _ H111 fr112 hvg115 hle113 hd114
   obtain ⟨hv116, hg117, hp118⟩ := hd114 5 (by decide)
   obtain ⟨hv119, hg120⟩ := hd114 8 (by decide)
   refine ⟨_, (slc x2 0 (imin (x2.length : Int) 120)).bind some, by rw [h14]; rfl, fun _ => ?_⟩
   refine Zag (env' := [(20, .slice a2_0 x2.length c2_0), (23, .int .i64 (imin (x2.length : Int) 120))]) (by exact ⟨congrArg some hv116, congrArg some hv119, trivial⟩) ?_
   refine o_sl hp118 rfl rfl ⟨_, rfl⟩ fun a121 c122 y11 h123 hs124 => ?_
   obtain rfl := Option.some.inj (h14.symm.trans h123)
   exact Zai (.slice a121 y11.length c122) ⟨a121, c122, rfl, rfl, hs124⟩
  refine Zb8 ?_ ?_
  ·intro _ _ H127 fr128 hvg131 hle129 hd130
   obtain ⟨a132, c133, hv134, hg135, hp136⟩ := hd130 4 (by decide)
   refine ⟨_, some (), rfl, fun _ => ?_⟩
   refine Zag (env' := [(19, .slice a132 y5.length c133)]) (by exact ⟨congrArg some hv134, trivial⟩) ?_
   refine Zah rfl ?_
   exact Zai (.slice a132 y5.length c133) ⟨a132, c133, rfl, rfl, hp136⟩
  exact Zm0
 ·intro V139 G140 H137 hvg142 hle138 hF141
  have hs143 := RSl.mono hle138 hx0_0
  obtain ⟨a145, c146, hv147, hg148, hp149⟩ := hF141 9 (show 9 < 11 by decide)
  obtain ⟨a150, c151, hv152, hg153, hp154⟩ := hF141 10 (show 10 < 11 by decide)
  refine Zag (env' := [(24, .slice a145 y11.length c146), (1, .slice a150 y5.length c151), (0, .agg #[.int .i64 x0.Switches, .slice a0_0 x0.Links.length c0_0]), (2, .slice a2_0 x2.length c2_0), (3, .pointer (some ⟨b1, 0, none⟩)), (6, .bool false)]) (by exact ⟨congrArg some hv147, congrArg some hv152, rfl, rfl, rfl, rfl, trivial⟩) ?_
  refine Zam (List.sublist_append_left _ _) ?_
  refine Zah rfl <| Zac <| Zae <| Zaa <| Zah rfl <| Zac <| Zae <| Zae <| Zaa <| Zah rfl <| Zac ?_
  refine Zb3 (fun p155 env own H' => ∃ a157 c158 ls159, env = [(2, .slice a145 y11.length c146), (3, .pointer (some ⟨b1, 0, none⟩)), (7, .slice a157 p155.length c158)] ∧ own = [.blk b1 (Zak [.int .i64 x0.Switches, .slice a0_0 x0.Links.length c0_0] 24), .osl (.slice a157 p155.length c158) 2 29 ls159] ∧ Hle H137 H' ∧ All2 (GoT.rep H') ls159 p155) ?_ ?_
  ·rintro p155 _ _ H161 ⟨a157, c158, ls159, rfl, rfl, hle162, hA160⟩
   have hs163 := RSl.mono hle162 hp149
   have hs164 := RSl.mono hle162 hs143
   refine Zae <| Zaa <| o_ld 0 rfl rfl rfl <| Zad rfl <| Zad rfl ?_
   refine s_bg fun y165 h166 => ?_
   refine Zc5 (Φ := fun v out => v = _ ∧ out = []) [] _ rfl rfl (.refl _) (fun H' hle hl => ZfG k _ x0 _ _ (RSl.mono hle hs164) p155 _ _ (Zcf (hl _ (List.mem_of_getElem? (i := 1) rfl)) hA160 hle).2 y11 _ _ (RSl.mono hle hs163) h166) ?_
   rintro _ _ ⟨rfl, rfl⟩
   refine ZcG <| Zad rfl <| ZcI rfl rfl <| ZcI rfl rfl <| ZcI rfl rfl <| Zah rfl <| Zah rfl <| Zah rfl <| Zac <| Zae <| Zaa <| o_ld 0 rfl rfl rfl ?_
   refine Zad rfl <| Zad rfl ?_
   refine s_bg fun y167 h168 => ?_
   refine Zc5 (Φ := fun v out => v = _ ∧ out = []) [] _ rfl rfl (.refl _) (fun H' hle hl => ZeX k _ x0 _ _ (RSl.mono hle hs164) p155 _ _ (Zcf (hl _ (List.mem_of_getElem? (i := 1) rfl)) hA160 hle).2 y11 _ _ (RSl.mono hle hs163) h168) ?_
   rintro _ _ ⟨rfl, rfl⟩
   refine ZcG <| Zad rfl <| ZcI rfl rfl <| ZcI rfl rfl <| ZcI rfl rfl <| Zah rfl <| Zah rfl <| Zah rfl <| Zac <| Zae <| Zaa <| Zad rfl ?_
   refine Zad rfl <| o_eq rfl rfl <| Zad rfl ?_
   refine Zax (y165.1 == y167.1) (fun h169 => ?_) (fun h169 => ?_)
   ·refine Zaf rfl rfl h169 <| Zad rfl <| Zaf rfl rfl h169 <| Zad rfl <| Zaf rfl rfl h169 <| o_eq rfl rfl <| Zan rfl h169 rfl <| Zad rfl ?_
    refine Zax (y165.2.1 == y167.2.1) (fun h170 => ?_) (fun h170 => ?_)
    ·refine Zaf rfl rfl h170 <| Zad rfl <| Zaf rfl rfl h170 <| Zad rfl <| Zaf rfl rfl h170 <| o_eq rfl rfl <| Zan rfl h170 rfl <| Zad rfl ?_
     refine Zax (y165.2.2 == y167.2.2) (fun h171 => ?_) (fun h171 => ?_)
     ·refine Zaf rfl rfl h171 ?_
      refine s_bg fun y172 h173 => ?_
      refine Zas rfl rfl (ZeF k _ h173) ?_
      refine Zan rfl h171 rfl <| Zah rfl <| Zac ?_
      exact s_r1 6 (.bool y172) fn_3 ⟨rfl, rfl⟩
     ·refine Zab rfl rfl h171 <| Zal rfl h171 rfl <| Zah rfl <| Zac ?_
      exact s_r1 6 (.bool false) fn_3 ⟨rfl, rfl⟩
    ·refine Zab rfl rfl h170 <| Zab rfl rfl h170 <| Zab rfl rfl h170 <| Zal rfl h170 rfl <| Zad rfl <| Zab rfl rfl rfl <| Zal rfl rfl rfl <| Zah rfl <| Zac ?_
     exact s_r1 6 (.bool false) fn_3 ⟨rfl, rfl⟩
   ·refine Zab rfl rfl h169 <| Zab rfl rfl h169 <| Zab rfl rfl h169 <| Zal rfl h169 rfl <| Zad rfl <| Zab rfl rfl rfl <| Zab rfl rfl rfl <| Zab rfl rfl rfl <| Zal rfl rfl rfl <| Zad rfl <| Zab rfl rfl rfl <| Zal rfl rfl rfl ?_
    refine Zah rfl <| Zac ?_
    exact s_r1 6 (.bool false) fn_3 ⟨rfl, rfl⟩
  ·intro J174
   refine Zat ?_
   refine Zc4 (sz := 2) (t := 29) ?_
   have hA176 : All2 (GoT.rep H137) [] ([] : List Version) := Zbv
   refine Zag (env' := [(1, .slice a150 y5.length c151), (2, .slice a145 y11.length c146), (3, .pointer (some ⟨b1, 0, none⟩)), (7, .slice none ([] : List Version).length 0), (8, .int .i64 0)]) (by exact ⟨rfl, rfl, rfl, rfl, rfl, trivial⟩) ?_
   refine Zam (own' := [.blk b1 (Zak [.int .i64 x0.Switches, .slice a0_0 x0.Links.length c0_0] 24), .osl (.slice none ([] : List Version).length 0) 2 29 []]) (.cons_cons _ (.cons_cons _ .slnil)) ?_
   refine Za2 (fun q s183 => ZaV k y5 q s183) (fun s183 env own H' => ∃ a184 c185 ls186, env = [(1, .slice a150 y5.length c151), (2, .slice a145 y11.length c146), (3, .pointer (some ⟨b1, 0, none⟩)), (7, .slice a184 s183.1.length c185), (8, .int .i64 s183.2)] ∧ own = [.blk b1 (Zak [.int .i64 x0.Switches, .slice a0_0 x0.Links.length c0_0] 24), .osl (.slice a184 s183.1.length c185) 2 29 ls186] ∧ Hle H137 H' ∧ All2 (GoT.rep H') ls186 s183.1) (fun _ => rfl) ?_ k (([] : List Version), 0) ⟨_, _, _, rfl, rfl, .refl _, hA176⟩
   rintro q188 ih189 s183 _ _ H190 ⟨a184, c185, ls186, rfl, rfl, hle191, hA187⟩
   refine s_eq (by rw [ZaV]) ?_
   have hs192 := RSl.mono hle191 hp154
   refine Zae <| Zae <| Zaa <| Zad rfl <| Zad rfl <| ZaG rfl <| o_lt rfl rfl <| Zac ?_
   refine Zao rfl (fun h195 => ?_) (fun h195 => ?_)
   ·refine Zar <| Zae <| Zat ?_
    refine s_bg fun y196 h206 => ?_
    refine s_bg fun y207 h217 => ?_
    refine s_bg fun y218 h228 => ?_
    refine s_bg fun y231 h234 => ?_
    refine s_bg fun _ h242 => ?_
    refine s_mv 1 rfl ?_
    refine ZbL (own' := [.blk b1 (Zak [.int .i64 x0.Switches, .slice a0_0 x0.Links.length c0_0] 24)] ++ [.osl (.slice a184 s183.1.length c185) 2 29 ls186]) rfl ?_
    refine Zhb [.osl (.slice a184 s183.1.length c185) 2 29 ls186] [(fV (.slice a184 s183.1.length c185)),
   (fun H v g => v = Value.slice a150 y5.length c151 ∧ g = [] ∧ RSl H a150 c151 y5),
   (fV (.int .i64 s183.2)),
   (fun H v g => ∃ bk244 of245 a249 c250, v = Value.pointer (some ⟨bk244, of245, none⟩) ∧ g = [] ∧ RSl H a249 c250 y196.Nodes ∧ Zaj H bk244 of245 [.int .i64 y196.Ver, .slice a249 y196.Nodes.length c250]),
   (fun H v g => ∃ bk244 of245 a249 c250, v = Value.pointer (some ⟨bk244, of245, none⟩) ∧ g = [] ∧ RSl H a249 c250 y196.Nodes ∧ Zaj H bk244 of245 [.int .i64 y196.Ver, .slice a249 y196.Nodes.length c250]),
   (fV (.int .i64 y196.Ver)),
   (fun H v g => v = Value.slice a150 y5.length c151 ∧ g = [] ∧ RSl H a150 c151 y5),
   (fV (.int .i64 s183.2)),
   (fun H v g => ∃ bk253 of254 a258 c259, v = Value.pointer (some ⟨bk253, of254, none⟩) ∧ g = [] ∧ RSl H a258 c259 y207.Nodes ∧ Zaj H bk253 of254 [.int .i64 y207.Ver, .slice a258 y207.Nodes.length c259]),
   (fun H v g => ∃ bk253 of254 a258 c259, v = Value.pointer (some ⟨bk253, of254 + 1, none⟩) ∧ g = [] ∧ RSl H a258 c259 y207.Nodes ∧ Zaj H bk253 of254 [.int .i64 y207.Ver, .slice a258 y207.Nodes.length c259]),
   (fun H v g => ∃ a258 c259, v = Value.slice a258 y207.Nodes.length c259 ∧ g = [] ∧ RSl H a258 c259 y207.Nodes),
   (fun H v g => v = Value.slice a150 y5.length c151 ∧ g = [] ∧ RSl H a150 c151 y5),
   (fV (.int .i64 s183.2)),
   (fun H v g => ∃ bk262 of263 a267 c268, v = Value.pointer (some ⟨bk262, of263, none⟩) ∧ g = [] ∧ RSl H a267 c268 y218.Nodes ∧ Zaj H bk262 of263 [.int .i64 y218.Ver, .slice a267 y218.Nodes.length c268]),
   (fun H v g => ∃ bk262 of263 a267 c268, v = Value.pointer (some ⟨bk262, of263 + 1, none⟩) ∧ g = [] ∧ RSl H a267 c268 y218.Nodes ∧ Zaj H bk262 of263 [.int .i64 y218.Ver, .slice a267 y218.Nodes.length c268]),
   (fun H v g => ∃ a267 c268, v = Value.slice a267 y218.Nodes.length c268 ∧ g = [] ∧ RSl H a267 c268 y218.Nodes),
   (fV (.int .i64 (y218.Nodes.length : Int))),
   (fV (.int .i64 (imin (y218.Nodes.length : Int) 70))),
   (fun H v g => ∃ a270 c271, v = Value.slice a270 y231.length c271 ∧ g = [] ∧ RSl H a270 c271 y231),
   (fun H v g => ∃ a270 c271, v = Value.agg #[.int .i64 y196.Ver, .slice a270 y231.length c271] ∧ g = [] ∧ RSl H a270 c271 y231),
   (fun H v g => ∃ b274 a270 c271, v = Value.slice (some ⟨b274, 0, none⟩) ([(⟨y196.Ver, y231⟩ : Version)] : List Version).length 1 ∧ g = [.osl (.slice (some ⟨b274, 0, none⟩) ([(⟨y196.Ver, y231⟩ : Version)] : List Version).length 1) 2 29 [[.int .i64 y196.Ver, .slice a270 y231.length c271]]] ∧ All2 (GoT.rep H) [[.int .i64 y196.Ver, .slice a270 y231.length c271]] ([(⟨y196.Ver, y231⟩ : Version)] : List Version)),
   (fun H v g => ∃ a277 c278 b274 a270 c271, v = Value.slice a277 (s183.1 ++ ([(⟨y196.Ver, y231⟩ : Version)] : List Version)).length c278 ∧ g = [.osl (.slice (some ⟨b274, 0, none⟩) ([(⟨y196.Ver, y231⟩ : Version)] : List Version).length 1) 2 29 [[.int .i64 y196.Ver, .slice a270 y231.length c271]], .osl (.slice a277 (s183.1 ++ ([(⟨y196.Ver, y231⟩ : Version)] : List Version)).length c278) 2 29 (ls186 ++ ([[.int .i64 y196.Ver, .slice a270 y231.length c271]]))] ∧ All2 (GoT.rep H) [[.int .i64 y196.Ver, .slice a270 y231.length c271]] ([(⟨y196.Ver, y231⟩ : Version)] : List Version) ∧ All2 (GoT.rep H) (ls186 ++ ([[.int .i64 y196.Ver, .slice a270 y231.length c271]])) (s183.1 ++ ([(⟨y196.Ver, y231⟩ : Version)] : List Version)))] [[], [], [], [], [], [], [], [], [], [], [], [], [], [], [], [], [], [], [], [], [], [20, 23]] mixed ⟨m0, fun _ _ _ _ hle ⟨e1, e2, h0_⟩ => ⟨e1, e2, RSl.mono hle h0_⟩, m0, fun _ _ _ _ hle ⟨bk244, of245, a249, c250, e1, e2, h0_, h1_⟩ => ⟨_, _, _, _, e1, e2, RSl.mono hle h0_, Zaj.mono hle h1_⟩, fun _ _ _ _ hle ⟨bk244, of245, a249, c250, e1, e2, h0_, h1_⟩ => ⟨_, _, _, _, e1, e2, RSl.mono hle h0_, Zaj.mono hle h1_⟩, m0, fun _ _ _ _ hle ⟨e1, e2, h0_⟩ => ⟨e1, e2, RSl.mono hle h0_⟩, m0, fun _ _ _ _ hle ⟨bk253, of254, a258, c259, e1, e2, h0_, h1_⟩ => ⟨_, _, _, _, e1, e2, RSl.mono hle h0_, Zaj.mono hle h1_⟩, fun _ _ _ _ hle ⟨bk253, of254, a258, c259, e1, e2, h0_, h1_⟩ => ⟨_, _, _, _, e1, e2, RSl.mono hle h0_, Zaj.mono hle h1_⟩, fun _ _ _ _ hle ⟨a258, c259, e1, e2, h0_⟩ => ⟨_, _, e1, e2, RSl.mono hle h0_⟩, fun _ _ _ _ hle ⟨e1, e2, h0_⟩ => ⟨e1, e2, RSl.mono hle h0_⟩, m0, fun _ _ _ _ hle ⟨bk262, of263, a267, c268, e1, e2, h0_, h1_⟩ => ⟨_, _, _, _, e1, e2, RSl.mono hle h0_, Zaj.mono hle h1_⟩, fun _ _ _ _ hle ⟨bk262, of263, a267, c268, e1, e2, h0_, h1_⟩ => ⟨_, _, _, _, e1, e2, RSl.mono hle h0_, Zaj.mono hle h1_⟩, fun _ _ _ _ hle ⟨a267, c268, e1, e2, h0_⟩ => ⟨_, _, e1, e2, RSl.mono hle h0_⟩, m0, m0, fun _ _ _ _ hle ⟨a270, c271, e1, e2, h0_⟩ => ⟨_, _, e1, e2, RSl.mono hle h0_⟩, fun _ _ _ _ hle ⟨a270, c271, e1, e2, h0_⟩ => ⟨_, _, e1, e2, RSl.mono hle h0_⟩, fun _ _ _ _ hle ⟨b274, a270, c271, e1, e2, h0_⟩ => ⟨_, _, _, e1, e2, All2.mono (fun _ _ => GoT.mono hle) h0_⟩, fun _ _ _ _ hle ⟨a277, c278, b274, a270, c271, e1, e2, h0_, h1_⟩ => ⟨_, _, _, _, _, e1, e2, All2.mono (fun _ _ => GoT.mono hle) h0_, All2.mono (fun _ _ => GoT.mono hle) h1_⟩, trivial⟩ (by kernel_rfl) (by kernel_rfl) rfl (by kernel_rfl) rfl rfl ?_ ?_
    ·refine Zby ?_ ?_
     ·intro _ G282 H283 fr284 hvg287 hle285 hd286
      refine ⟨_, some (), rfl, fun _ => ?_⟩
      refine Zag (env' := [(7, .slice a184 s183.1.length c185)]) (by exact ⟨rfl, trivial⟩) ?_
      refine Zad rfl ?_
      exact Zai (.slice a184 s183.1.length c185) ⟨rfl, rfl⟩
     refine Zby ?_ ?_
     ·intro _ G289 H290 fr291 hvg294 hle292 hd293
      have hs295 := RSl.mono hle292 hs192
      refine ⟨_, some (), rfl, fun _ => ?_⟩
      refine Zag (env' := [(1, .slice a150 y5.length c151)]) (by exact ⟨rfl, trivial⟩) ?_
      refine Zad rfl ?_
      exact Zai (.slice a150 y5.length c151) ⟨rfl, rfl, hs295⟩
     refine Zby ?_ ?_
     ·intro _ G297 H298 fr299 hvg302 hle300 hd301
      refine ⟨_, some (), rfl, fun _ => ?_⟩
      refine Zag (env' := [(8, .int .i64 s183.2)]) (by exact ⟨rfl, trivial⟩) ?_
      refine Zad rfl ?_
      exact Zai (.int .i64 s183.2) ⟨rfl, rfl⟩
     refine Zby ?_ ?_
     ·intro _ G304 H305 fr306 hvg309 hle307 hd308
      obtain ⟨hv310, hg311, hp312⟩ := hd308 1 (by decide)
      obtain ⟨hv313, hg314⟩ := hd308 2 (by decide)
      refine ⟨_, (rd y5 s183.2).bind some, by rw [h206]; rfl, fun _ => ?_⟩
      refine Zag (env' := [(32, .slice a150 y5.length c151), (33, .int .i64 s183.2)]) (by exact ⟨congrArg some hv310, congrArg some hv313, trivial⟩) ?_
      refine o_ix hp312 rfl rfl fun y196 bk316 of317 vs319 h315 hc318 hr320 => ?_
      obtain ⟨a321, c322, rfl, hs323⟩ := hr320
      obtain rfl := Option.some.inj (h206.symm.trans h315)
      exact Zai (.pointer (some ⟨bk316, of317, none⟩)) ⟨bk316, of317, a321, c322, rfl, rfl, hs323, hc318⟩
     refine Zby ?_ ?_
     ·intro _ G325 H326 fr327 hvg330 hle328 hd329
      obtain ⟨bk331, of332, a333, c334, hv335, hg336, hp337, hp338⟩ := hd329 3 (by decide)
      refine ⟨_, some (), rfl, fun _ => ?_⟩
      refine Zag (env' := [(34, .pointer (some ⟨bk331, of332, none⟩))]) (by exact ⟨congrArg some hv335, trivial⟩) ?_
      refine o_fa rfl ?_
      exact Zai (.pointer (some ⟨bk331, of332, none⟩)) ⟨bk331, of332, a333, c334, rfl, rfl, hp337, hp338⟩
     refine Zby ?_ ?_
     ·intro _ G340 H341 fr342 hvg345 hle343 hd344
      obtain ⟨bk346, of347, a348, c349, hv350, hg351, hp352, hp353⟩ := hd344 4 (by decide)
      refine ⟨_, some (), rfl, fun _ => ?_⟩
      refine Zag (env' := [(35, .pointer (some ⟨bk346, of347, none⟩))]) (by exact ⟨congrArg some hv350, trivial⟩) ?_
      refine ZaP 0 hp353 rfl rfl rfl ?_
      exact Zai (.int .i64 y196.Ver) ⟨rfl, rfl⟩
     refine Zby ?_ ?_
     ·intro _ G355 H356 fr357 hvg360 hle358 hd359
      have hs361 := RSl.mono hle358 hs192
      refine ⟨_, some (), rfl, fun _ => ?_⟩
      refine Zag (env' := [(1, .slice a150 y5.length c151)]) (by exact ⟨rfl, trivial⟩) ?_
      refine Zad rfl ?_
      exact Zai (.slice a150 y5.length c151) ⟨rfl, rfl, hs361⟩
     refine Zby ?_ ?_
     ·intro _ G363 H364 fr365 hvg368 hle366 hd367
      refine ⟨_, some (), rfl, fun _ => ?_⟩
      refine Zag (env' := [(8, .int .i64 s183.2)]) (by exact ⟨rfl, trivial⟩) ?_
      refine Zad rfl ?_
      exact Zai (.int .i64 s183.2) ⟨rfl, rfl⟩
     refine Zby ?_ ?_
     ·intro _ G370 H371 fr372 hvg375 hle373 hd374
      obtain ⟨hv376, hg377, hp378⟩ := hd374 6 (by decide)
      obtain ⟨hv379, hg380⟩ := hd374 7 (by decide)
      refine ⟨_, (rd y5 s183.2).bind some, by rw [h217]; rfl, fun _ => ?_⟩
      refine Zag (env' := [(37, .slice a150 y5.length c151), (38, .int .i64 s183.2)]) (by exact ⟨congrArg some hv376, congrArg some hv379, trivial⟩) ?_
      refine o_ix hp378 rfl rfl fun y207 bk382 of383 vs385 h381 hc384 hr386 => ?_
      obtain ⟨a387, c388, rfl, hs389⟩ := hr386
      obtain rfl := Option.some.inj (h217.symm.trans h381)
      exact Zai (.pointer (some ⟨bk382, of383, none⟩)) ⟨bk382, of383, a387, c388, rfl, rfl, hs389, hc384⟩
     refine Zby ?_ ?_
     ·intro _ G391 H392 fr393 hvg396 hle394 hd395
      obtain ⟨bk397, of398, a399, c400, hv401, hg402, hp403, hp404⟩ := hd395 8 (by decide)
      refine ⟨_, some (), rfl, fun _ => ?_⟩
      refine Zag (env' := [(39, .pointer (some ⟨bk397, of398, none⟩))]) (by exact ⟨congrArg some hv401, trivial⟩) ?_
      refine o_fa rfl ?_
      exact Zai (.pointer (some ⟨bk397, of398 + 1, none⟩)) ⟨bk397, of398, a399, c400, rfl, rfl, hp403, hp404⟩
     refine Zby ?_ ?_
     ·intro _ G406 H407 fr408 hvg411 hle409 hd410
      obtain ⟨bk412, of413, a414, c415, hv416, hg417, hp418, hp419⟩ := hd410 9 (by decide)
      refine ⟨_, some (), rfl, fun _ => ?_⟩
      refine Zag (env' := [(40, .pointer (some ⟨bk412, of413 + 1, none⟩))]) (by exact ⟨congrArg some hv416, trivial⟩) ?_
      refine ZaP 1 hp419 rfl rfl rfl ?_
      exact Zai (.slice a414 y207.Nodes.length c415) ⟨a414, c415, rfl, rfl, hp418⟩
     refine Zby ?_ ?_
     ·intro _ G421 H422 fr423 hvg426 hle424 hd425
      have hs427 := RSl.mono hle424 hs192
      refine ⟨_, some (), rfl, fun _ => ?_⟩
      refine Zag (env' := [(1, .slice a150 y5.length c151)]) (by exact ⟨rfl, trivial⟩) ?_
      refine Zad rfl ?_
      exact Zai (.slice a150 y5.length c151) ⟨rfl, rfl, hs427⟩
     refine Zby ?_ ?_
     ·intro _ G429 H430 fr431 hvg434 hle432 hd433
      refine ⟨_, some (), rfl, fun _ => ?_⟩
      refine Zag (env' := [(8, .int .i64 s183.2)]) (by exact ⟨rfl, trivial⟩) ?_
      refine Zad rfl ?_
      exact Zai (.int .i64 s183.2) ⟨rfl, rfl⟩
     refine Zby ?_ ?_
     ·intro _ G436 H437 fr438 hvg441 hle439 hd440
      obtain ⟨hv442, hg443, hp444⟩ := hd440 11 (by decide)
      obtain ⟨hv445, hg446⟩ := hd440 12 (by decide)
      refine ⟨_, (rd y5 s183.2).bind some, by rw [h228]; rfl, fun _ => ?_⟩
      refine Zag (env' := [(42, .slice a150 y5.length c151), (43, .int .i64 s183.2)]) (by exact ⟨congrArg some hv442, congrArg some hv445, trivial⟩) ?_
      refine o_ix hp444 rfl rfl fun y218 bk448 of449 vs451 h447 hc450 hr452 => ?_
      obtain ⟨a453, c454, rfl, hs455⟩ := hr452
      obtain rfl := Option.some.inj (h228.symm.trans h447)
      exact Zai (.pointer (some ⟨bk448, of449, none⟩)) ⟨bk448, of449, a453, c454, rfl, rfl, hs455, hc450⟩
     refine Zby ?_ ?_
     ·intro _ G457 H458 fr459 hvg462 hle460 hd461
      obtain ⟨bk463, of464, a465, c466, hv467, hg468, hp469, hp470⟩ := hd461 13 (by decide)
      refine ⟨_, some (), rfl, fun _ => ?_⟩
      refine Zag (env' := [(44, .pointer (some ⟨bk463, of464, none⟩))]) (by exact ⟨congrArg some hv467, trivial⟩) ?_
      refine o_fa rfl ?_
      exact Zai (.pointer (some ⟨bk463, of464 + 1, none⟩)) ⟨bk463, of464, a465, c466, rfl, rfl, hp469, hp470⟩
     refine Zby ?_ ?_
     ·intro _ G472 H473 fr474 hvg477 hle475 hd476
      obtain ⟨bk478, of479, a480, c481, hv482, hg483, hp484, hp485⟩ := hd476 14 (by decide)
      refine ⟨_, some (), rfl, fun _ => ?_⟩
      refine Zag (env' := [(45, .pointer (some ⟨bk478, of479 + 1, none⟩))]) (by exact ⟨congrArg some hv482, trivial⟩) ?_
      refine ZaP 1 hp485 rfl rfl rfl ?_
      exact Zai (.slice a480 y218.Nodes.length c481) ⟨a480, c481, rfl, rfl, hp484⟩
     refine Zby ?_ ?_
     ·intro _ G487 H488 fr489 hvg492 hle490 hd491
      obtain ⟨a493, c494, hv495, hg496, hp497⟩ := hd491 15 (by decide)
      refine ⟨_, some (), rfl, fun _ => ?_⟩
      refine Zag (env' := [(46, .slice a493 y218.Nodes.length c494)]) (by exact ⟨congrArg some hv495, trivial⟩) ?_
      refine ZaG rfl ?_
      exact Zai (.int .i64 (y218.Nodes.length : Int)) ⟨rfl, rfl⟩
     refine Zby ?_ ?_
     ·intro _ G499 H500 fr501 hvg504 hle502 hd503
      obtain ⟨hv505, hg506⟩ := hd503 16 (by decide)
      refine ⟨_, some (), rfl, fun _ => ?_⟩
      refine Zag (env' := [(47, .int .i64 (y218.Nodes.length : Int))]) (by exact ⟨congrArg some hv505, trivial⟩) ?_
      refine Zmz rfl rfl ?_
      exact Zai (.int .i64 (imin (y218.Nodes.length : Int) 70)) ⟨rfl, rfl⟩
     refine Zby ?_ ?_
     ·intro _ G508 H509 fr510 hvg513 hle511 hd512
      obtain ⟨a514, c515, hv516, hg517, hp518⟩ := hd512 10 (by decide)
      obtain ⟨hv519, hg520⟩ := hd512 17 (by decide)
      refine ⟨_, (slc y207.Nodes 0 (imin (y218.Nodes.length : Int) 70)).bind some, by rw [h234]; rfl, fun _ => ?_⟩
      refine Zag (env' := [(41, .slice a514 y207.Nodes.length c515), (48, .int .i64 (imin (y218.Nodes.length : Int) 70))]) (by exact ⟨congrArg some hv516, congrArg some hv519, trivial⟩) ?_
      refine o_sl hp518 rfl rfl ⟨_, rfl⟩ fun a521 c522 y231 h523 hs524 => ?_
      obtain rfl := Option.some.inj (h234.symm.trans h523)
      exact Zai (.slice a521 y231.length c522) ⟨a521, c522, rfl, rfl, hs524⟩
     refine Zby ?_ ?_
     ·intro _ G526 H527 fr528 hvg531 hle529 hd530
      obtain ⟨hv532, hg533⟩ := hd530 5 (by decide)
      obtain ⟨a534, c535, hv536, hg537, hp538⟩ := hd530 18 (by decide)
      refine ⟨_, some (), rfl, fun _ => ?_⟩
      refine Zag (env' := [(36, .int .i64 y196.Ver), (49, .slice a534 y231.length c535)]) (by exact ⟨congrArg some hv532, congrArg some hv536, trivial⟩) ?_
      refine Zdx rfl rfl ?_
      exact Zai (.agg #[.int .i64 y196.Ver, .slice a534 y231.length c535]) ⟨a534, c535, rfl, rfl, hp538⟩
     refine Zby ?_ ?_
     ·intro _ G540 H541 fr542 hvg545 hle543 hd544
      obtain ⟨a546, c547, hv548, hg549, hp550⟩ := hd544 19 (by decide)
      refine ⟨_, some (), rfl, fun _ => ?_⟩
      refine Zag (env' := [(50, .agg #[.int .i64 y196.Ver, .slice a546 y231.length c547])]) (by exact ⟨congrArg some hv548, trivial⟩) ?_
      refine Zdw (xs := [.tmp 50]) rfl rfl (by simp only [List.mem_cons, List.not_mem_nil, or_false, forall_eq_or_imp, forall_eq]; exact ⟨rfl, rfl⟩) rfl rfl fun b551 => ?_
      have hA552 : All2 (GoT.rep H541) [[.int .i64 y196.Ver, .slice a546 y231.length c547]] ([(⟨y196.Ver, y231⟩ : Version)] : List Version) := Zcd ⟨_, _,  rfl, hp550⟩ Zbv
      refine ZcP (own' := [.blk b1 (Zak [.int .i64 x0.Switches, .slice a0_0 x0.Links.length c0_0] 24), .osl (.slice (some ⟨b551, 0, none⟩) ([(⟨y196.Ver, y231⟩ : Version)] : List Version).length 1) 2 29 [[.int .i64 y196.Ver, .slice a546 y231.length c547]]] ++ fr542) (pm3 (a := [.blk b1 (Zak [.int .i64 x0.Switches, .slice a0_0 x0.Links.length c0_0] 24)]) (xs := [.osl (.slice (some ⟨b551, 0, none⟩) ([(⟨y196.Ver, y231⟩ : Version)] : List Version).length 1) 2 29 [[.int .i64 y196.Ver, .slice a546 y231.length c547]]])) ?_
      exact ZbV fun _ _ _ hE hI => ⟨(.slice (some ⟨b551, 0, none⟩) ([(⟨y196.Ver, y231⟩ : Version)] : List Version).length 1), [.osl (.slice (some ⟨b551, 0, none⟩) ([(⟨y196.Ver, y231⟩ : Version)] : List Version).length 1) 2 29 [[.int .i64 y196.Ver, .slice a546 y231.length c547]]], _, fun _ e => (by cases e; exact hE _ _ rfl), .refl _, by exact hI, ⟨b551, a546, c547, rfl, rfl, hA552⟩⟩
     refine Zby ?_ ?_
     ·intro _ G555 H556 fr557 hvg560 hle558 hd559
      have hA561 := All2.mono (fun _ _ => GoT.mono hle558) hA187
      obtain ⟨hv562, hg563⟩ := hd559 0 (by decide)
      obtain ⟨b564, a565, c566, hv567, hg568, hp569⟩ := hd559 20 (by decide)
      refine ⟨_, (app s183.1 ([(⟨y196.Ver, y231⟩ : Version)] : List Version)).bind some, by rw [h242]; rfl, fun _ => ?_⟩
      refine Zag (env' := [(31, .slice a184 s183.1.length c185), (51, .slice (some ⟨b564, 0, none⟩) ([(⟨y196.Ver, y231⟩ : Version)] : List Version).length 1)]) (by exact ⟨congrArg some hv562, congrArg some hv567, trivial⟩) ?_
      have hg570 : G555 23 = [.osl (.slice a184 s183.1.length c185) 2 29 ls186] := hvg560 0 _ rfl
      refine ZbL (own' := [.blk b1 (Zak [.int .i64 x0.Switches, .slice a0_0 x0.Links.length c0_0] 24), .osl (.slice (some ⟨b564, 0, none⟩) ([(⟨y196.Ver, y231⟩ : Version)] : List Version).length 1) 2 29 [[.int .i64 y196.Ver, .slice a565 y231.length c566]], .osl (.slice a184 s183.1.length c185) 2 29 ls186] ++ fr557) (by simp only [List.flatMap_cons, List.flatMap_nil, List.append_nil, hg568, hg570]; rfl) ?_
      refine Zfl 2 1 rfl rfl rfl hA561 rfl hp569 fun a571 c572 h573 hA574 => ?_
      exact ZbV fun _ _ _ hE hI => ⟨(.slice a571 (s183.1 ++ ([(⟨y196.Ver, y231⟩ : Version)] : List Version)).length c572), [.osl (.slice (some ⟨b564, 0, none⟩) ([(⟨y196.Ver, y231⟩ : Version)] : List Version).length 1) 2 29 [[.int .i64 y196.Ver, .slice a565 y231.length c566]], .osl (.slice a571 (s183.1 ++ ([(⟨y196.Ver, y231⟩ : Version)] : List Version)).length c572) 2 29 (ls186 ++ ([[.int .i64 y196.Ver, .slice a565 y231.length c566]]))], _, fun _ e => (by cases e; exact hE _ _ rfl), .refl _, by exact hI, ⟨a571, c572, b564, a565, c566, rfl, rfl, hp569, hA574⟩⟩
     exact Zm1
    ·intro V577 G578 H575 hvg580 hle576 hF579
     obtain ⟨a584, c585, b586, a587, c588, hv589, hg590, hp591, hp592⟩ := hF579 21 (show 21 < 22 by decide)
     refine Zag (env' := [(52, .slice a584 (s183.1 ++ ([(⟨y196.Ver, y231⟩ : Version)] : List Version)).length c585), (1, .slice a150 y5.length c151), (2, .slice a145 y11.length c146), (3, .pointer (some ⟨b1, 0, none⟩)), (7, .slice a184 s183.1.length c185), (8, .int .i64 s183.2), (25, .int .i64 s183.2), (26, .slice a150 y5.length c151), (27, .int .i64 (y5.length : Int)), (28, .bool (decide (s183.2 < (y5.length : Int))))]) (by exact ⟨congrArg some hv589, rfl, rfl, rfl, rfl, rfl, rfl, rfl, rfl, rfl, trivial⟩) ?_
     refine Zg8 (js := [21]) rfl ?_
     refine ZbL (own' := [.blk b1 (Zak [.int .i64 x0.Switches, .slice a0_0 x0.Links.length c0_0] 24), .osl (.slice (some ⟨b586, 0, none⟩) ([(⟨y196.Ver, y231⟩ : Version)] : List Version).length 1) 2 29 [[.int .i64 y196.Ver, .slice a587 y231.length c588]], .osl (.slice a584 (s183.1 ++ ([(⟨y196.Ver, y231⟩ : Version)] : List Version)).length c585) 2 29 (ls186 ++ ([[.int .i64 y196.Ver, .slice a587 y231.length c588]]))]) (by simp only [List.flatMap_cons, List.flatMap_nil, List.append_nil, hg590]; rfl) ?_
     refine Zah rfl <| Zac <| Zav <| Zaa <| Zad rfl <| ZbM rfl rfl <| Zah rfl <| Zac ?_
     exact Zag (by exact ⟨rfl, rfl, rfl, rfl, rfl, trivial⟩) (Zam (by exact (.cons_cons _ (.cons _ (.cons_cons _ .slnil)))) (ih189 ((s183.1 ++ ([(⟨y196.Ver, y231⟩ : Version)] : List Version)), w64 (s183.2 + 1)) _ _ _ ⟨_, _, _, rfl, rfl, (Hle.trans hle191 hle576), hp592⟩))
   ·refine Zbf rfl ?_
    exact Zag (by exact ⟨rfl, rfl, rfl, trivial⟩) (Zam (by exact (.cons_cons _ (.cons_cons _ .slnil))) (J174 s183.1 _ _ _ ⟨_, _, _, rfl, rfl, hle191, hA187⟩))
end Go.Cat.G3

