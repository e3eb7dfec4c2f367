/- A text of the proof of the seat's laws: a step logic over the machine, or pure functions that the Go functions come to. No condition. -/
import Derived.Test.YtmmpieknnnlnhaaGreatCore1
import Derived.Test.YtmmpieknnnlnhaaGreatZ5b
namespace Go.Cat.G3
open Go Go.Cat Go.Proofs
set_option maxRecDepth 100000
set_option maxHeartbeats 4000000
set_option linter.unusedVariables false
set_option linter.unusedSimpArgs false
instance iZ6x1 : TLay Tryz.prog 44 8 true := ⟨fun _ => by kernel_rfl, fun _ => by kernel_rfl, fun h => by first | rfl | cases h⟩
instance iZ6x2 : TZero Tryz.prog 44 (.agg #[.int .i64 0, .int .i64 0, .int .i64 0, .int .i64 0, .int .u8 0, .int .u8 0, .int .u8 0, .slice none 0 0]) := ⟨fun _ => by kernel_rfl⟩
instance iZ6x3 : TZero Tryz.prog 243 (.agg #[.slice none 0 0, .int .i64 0, .int .i64 0]) := ⟨fun _ => by kernel_rfl⟩
instance iZ6x4 : TBld Tryz.prog 243 [.slice none 0 0, .int .i64 0, .int .i64 0] [(0, 1), (1, 1), (2, 1)] := ⟨fun _ => by kernel_rfl, ⟨_, Tryz.underlying243, fun _ => by kernel_rfl⟩⟩
instance iZ6x5 : TFun Tryz.prog 29 := ⟨_, (by kernel_rfl : Tryz.prog.funcs[29]? = some Tryz.f29), by decide, rfl⟩
instance iZ6x6 : TFun Tryz.prog 30 := ⟨_, (by kernel_rfl : Tryz.prog.funcs[30]? = some Tryz.f30), by decide, rfl⟩
instance iZ6x7 : TFun Tryz.prog 31 := ⟨_, (by kernel_rfl : Tryz.prog.funcs[31]? = some Tryz.f31), by decide, rfl⟩
instance iZ6x8 : TFun Tryz.prog 32 := ⟨_, (by kernel_rfl : Tryz.prog.funcs[32]? = some Tryz.f32), by decide, rfl⟩
instance iZ6x9 : TFun Tryz.prog 33 := ⟨_, (by kernel_rfl : Tryz.prog.funcs[33]? = some Tryz.f33), by decide, rfl⟩
instance iZ6x10 : TFun Tryz.prog 74 := ⟨_, (by kernel_rfl : Tryz.prog.funcs[74]? = some Tryz.f74), by decide, rfl⟩
instance iZ6x11 : TFun Tryz.prog 75 := ⟨_, (by kernel_rfl : Tryz.prog.funcs[75]? = some Tryz.f75), by decide, rfl⟩
instance iZ6x12 : TFun Tryz.prog 76 := ⟨_, (by kernel_rfl : Tryz.prog.funcs[76]? = some Tryz.f76), by decide, rfl⟩
instance iZ6x13 : TFun Tryz.prog 77 := ⟨_, (by kernel_rfl : Tryz.prog.funcs[77]? = some Tryz.f77), by decide, rfl⟩
instance iZ6x14 : TFun Tryz.prog 78 := ⟨_, (by kernel_rfl : Tryz.prog.funcs[78]? = some Tryz.f78), by decide, rfl⟩
instance iZ6x15 : TFun Tryz.prog 135 := ⟨_, (by kernel_rfl : Tryz.prog.funcs[135]? = some Tryz.f135), by decide, rfl⟩
instance iZ6x16 : TFun Tryz.prog 137 := ⟨_, (by kernel_rfl : Tryz.prog.funcs[137]? = some Tryz.f137), by decide, rfl⟩
instance iZ6x17 : TEq Tryz.prog 41 Arr3u8 := ZiA 2 (by omega) (fun a b => Zgn (r := ((a.e0 == b.e0) && ((a.e1 == b.e1) && ((a.e2 == b.e2) && true)))) (ZhU (n := 1) Tryz.underlying41 (fun _ => by kernel_rfl) (Zfe (n := 1) (sz := 1) (ag := false) rfl rfl (Zc6 (K := .u8) Tryz.underlying5) (Zfe (n := 1) (sz := 1) (ag := false) rfl rfl (Zc6 (K := .u8) Tryz.underlying5) (Zfe (n := 1) (sz := 1) (ag := false) rfl rfl (Zc6 (K := .u8) Tryz.underlying5) (Zkt))))) (by rw [Bool.eq_iff_iff]; simp [ZfN, Zg6, and_assoc])) (by kernel_rfl)
def ZbD (k : Nat) : Nat → (List Sent) × (List Sent) × Int → Option ((List Sent))
 | 0, _ => none
 | q52 + 1, s43 =>
  if (decide (s43.2.2 < (s43.1.length : Int))) = true then
   (rd s43.1 s43.2.2).bind fun y57 =>
   if (decide (y57.Port ≥ 0)) = true then
    (rd s43.1 s43.2.2).bind fun y65 =>
    (app s43.2.1 ([y65] : List Sent)).bind fun _ =>
    ZbD k q52 (s43.1, (s43.2.1 ++ ([y65] : List Sent)), w64 (s43.2.2 + 1))
   else
    ZbD k q52 (s43.1, s43.2.1, w64 (s43.2.2 + 1))
  else
   some s43.2.1
def Zca (k : Nat) (x0 : (List Node)) (x1 : Int) (x2 : Int) (x3 : Arr3u8) : Option ((List Sent) × Int) :=
 (Zb1 k x0).bind fun y3 =>
 if (y3 != 0) = true then
  some (([] : List Sent), y3)
 else
  if (((decide (x1 < 1)) || ((decide (x1 > 6)) || ((decide (x2 < 0)) || decide (x2 > 4))))) = true then
   some (([] : List Sent), 9)
  else
   (rgsK k (⟨x0, x1, x2⟩ : Catenaryref23_place) (w64 ((x0.length : Int) - 1)) (⟨(-1), x3⟩ : Sent)).bind fun y13 =>
   (ZbD k k (y13, ([] : List Sent), 0)).bind fun p22 =>
   some (p22, 0)
theorem ZiQ : Tryz.prog.funcs[135]? = some Tryz.f135 := by kernel_rfl
theorem Zfx (k : Nat) (H : Heap) (x0 : (List Node)) (a0_0 : Option Addr) (c0_0 : Nat) (hx0_0 : RSl H a0_0 c0_0 x0) (x1 : Int) (x2 : Int) (x3 : Arr3u8) {r : (List Sent) × Int} (hr : Zca k x0 x1 x2 x3 = some r) :
  Fn Tryz.prog 135 [.slice a0_0 x0.length c0_0, .int .i64 x1, .int .i64 x2, .agg #[.int .u8 x3.e0, .int .u8 x3.e1, .int .u8 x3.e2]] H [] fun H' v out => ∃ a0 c0, v = .tuple #[.slice a0 r.1.length c0, .int .i64 r.2] ∧ out = [.osl (.slice a0 r.1.length c0) 4 47 (r.1.map GoE.enc)] := by
 refine Zaq (args := [.slice a0_0 x0.length c0_0, .int .i64 x1, .int .i64 x2, .agg #[.int .u8 x3.e0, .int .u8 x3.e1, .int .u8 x3.e2]]) (n := 65) (Φ := fun r H' v out => ∃ a0 c0, v = .tuple #[.slice a0 r.1.length c0, .int .i64 r.2] ∧ out = [.osl (.slice a0 r.1.length c0) 4 47 (r.1.map GoE.enc)]) hr ZiQ rfl rfl rfl fun w => ?_
 refine s_eq (by rw [Zca]) ?_
 refine Zae <| Zaa ?_
 refine ZbO rfl fun b1 => ?_
 refine Zah rfl <| Zah rfl <| Zac <| Zae <| Zae <| Zaa <| Zad rfl ?_
 refine s_bg fun y3 h4 => ?_
 refine Zas rfl rfl (Zdt k _ x0 _ _ hx0_0 h4) ?_
 refine Zah rfl <| Zac <| Zae <| Zaa <| Zad rfl <| o_ne rfl rfl <| Zac ?_
 refine Zao rfl (fun h5 => ?_) (fun h5 => ?_)
 ·refine Zae <| Zaa <| Zad rfl <| Zah rfl <| Zah rfl <| Zac ?_
  refine Zc4 (sz := 4) (t := 47) ?_
  have hA6 : All2 (GoT.rep H) [] ([] : List Sent) := Zbv
  exact ZaF (xs := [.tmp 8, .tmp 9]) (vs := [.slice none ([] : List Sent).length 0, .int .i64 y3]) [.osl (.slice none ([] : List Sent).length 0) 4 47 []] ZiQ rfl ⟨Zaz rfl, Zaz rfl, trivial⟩ (.cons _ (.cons_cons _ .slnil)) ⟨_, _, rfl, (congrArg (fun z => [Res.osl _ _ _ z]) (Zb7 hA6))⟩
 ·refine Zar <| Zae <| Zae <| Zaa ?_
  refine Zfs [(0, .slice a0_0 x0.length c0_0), (1, .int .i64 x1), (2, .int .i64 x2), (7, .pointer (some ⟨b1, 0, none⟩)), (33, .bool ((decide (x1 < 1)) || ((decide (x1 > 6)) || ((decide (x2 < 0)) || decide (x2 > 4)))))] [.blk b1 (Zak [.int .u8 x3.e0, .int .u8 x3.e1, .int .u8 x3.e2] 41)] ?_ ?_
  ·refine Zao rfl (fun h8 => ?_) (fun h8 => ?_)
   ·refine Zae <| Zaa <| Zah rfl <| Zah rfl <| Zac ?_
    refine Zc4 (sz := 4) (t := 47) ?_
    have hA9 : All2 (GoT.rep H) [] ([] : List Sent) := Zbv
    exact ZaF (xs := [.tmp 8, .tmp 9]) (vs := [.slice none ([] : List Sent).length 0, .int .i64 9]) [.osl (.slice none ([] : List Sent).length 0) 4 47 []] ZiQ rfl ⟨Zaz rfl, Zaz rfl, trivial⟩ (.cons _ (.cons_cons _ .slnil)) ⟨_, _, rfl, (congrArg (fun z => [Res.osl _ _ _ z]) (Zb7 hA9))⟩
   ·refine Zar <| Zae <| Zaa <| Zad rfl <| Zad rfl <| Zad rfl ?_
    refine Zdx rfl rfl ?_
    refine Zbw fun b11 => ?_
    refine o_st 1 rfl rfl rfl rfl rfl rfl ?_
    refine Zac <| Zae <| Zaa <| o_ld 1 rfl rfl rfl <| Zad rfl <| ZaG rfl <| ZhF rfl rfl <| o_ld 0 rfl rfl rfl ?_
    refine Zdx rfl rfl ?_
    refine s_bg fun y13 h14 => ?_
    refine Zbg [] _ rfl rfl (.refl _) (Zmh k _ (⟨x0, x1, x2⟩ : Catenaryref23_place) _ _ hx0_0 (w64 ((x0.length : Int) - 1)) (⟨(-1), x3⟩ : Sent) h14) ?_
    rintro _ H18 _ hle19 ⟨a15, c16, rfl, rfl⟩
    have hA21 : All2 (GoT.rep H18) (y13.map GoE.enc) y13 := ZaZ _
    refine Zah rfl <| Zac <| Zae <| Zaa <| Zah rfl <| Zac <| Zae <| Zae <| Zaa <| Zah rfl <| Zac ?_
    refine Zb3 (fun p22 env own H' => ∃ a24 c25 ls26, env = [(13, .slice a24 p22.length c25)] ∧ own = [.osl (.slice a24 p22.length c25) 4 47 ls26] ∧ Hle H18 H' ∧ All2 (GoT.rep H') ls26 p22) ?_ ?_
    ·rintro p22 _ _ H28 ⟨a24, c25, ls26, rfl, rfl, hle29, hA27⟩
     refine Zae <| Zaa <| Zad rfl <| Zah rfl <| Zah rfl <| Zac ?_
     exact ZaF (xs := [.tmp 8, .tmp 9]) (vs := [.slice a24 p22.length c25, .int .i64 0]) [.osl (.slice a24 p22.length c25) 4 47 ls26] ZiQ rfl ⟨Zaz rfl, Zaz rfl, trivial⟩ (.cons_cons _ .slnil) ⟨_, _, rfl, (congrArg (fun z => [Res.osl _ _ _ z]) (Zb7 hA27))⟩
    ·intro J30
     refine Zat ?_
     refine Zc4 (sz := 4) (t := 47) ?_
     have hA32 : All2 (GoT.rep H18) [] ([] : List Sent) := Zbv
     refine Zag (env' := [(12, .slice a15 y13.length c16), (13, .slice none ([] : List Sent).length 0), (14, .int .i64 0)]) (by exact ⟨rfl, rfl, rfl, trivial⟩) ?_
     refine Zam (own' := [.osl (.slice a15 y13.length c16) 4 47 (y13.map GoE.enc), .osl (.slice none ([] : List Sent).length 0) 4 47 []]) (.cons _ (.cons _ (.cons_cons _ (.cons_cons _ .slnil)))) ?_
     refine Za2 (fun q s43 => ZbD k q s43) (fun s43 env own H' => ∃ a44 c45 ls46 a48 c49 ls50, env = [(12, .slice a44 s43.1.length c45), (13, .slice a48 s43.2.1.length c49), (14, .int .i64 s43.2.2)] ∧ own = [.osl (.slice a44 s43.1.length c45) 4 47 ls46, .osl (.slice a48 s43.2.1.length c49) 4 47 ls50] ∧ Hle H18 H' ∧ All2 (GoT.rep H') ls46 s43.1 ∧ All2 (GoT.rep H') ls50 s43.2.1) (fun _ => rfl) ?_ k (y13, ([] : List Sent), 0) ⟨_, _, _, _, _, _, rfl, rfl, .refl _, hA21, hA32⟩
     rintro q52 ih53 s43 _ _ H54 ⟨a44, c45, ls46, a48, c49, ls50, rfl, rfl, hle55, hA47, hA51⟩
     refine s_eq (by rw [ZbD]) ?_
     refine Zae <| Zae <| Zaa <| Zad rfl <| Zad rfl <| ZaG rfl <| o_lt rfl rfl <| Zac ?_
     refine Zao rfl (fun h56 => ?_) (fun h56 => ?_)
     ·refine Zar <| Zae <| Zat <| Zae <| Zaa <| Zad rfl <| Zad rfl ?_
      refine Zc2 0 rfl hA47 rfl rfl fun y57 bk59 vs60 h58 ha61 hi62 hr63 => ?_
      subst hr63
      subst ha61
      refine o_fa rfl ?_
      refine ZdL 0 0 rfl hi62 rfl rfl rfl ?_
      refine o_ge rfl rfl <| Zac ?_
      refine Zao rfl (fun h64 => ?_) (fun h64 => ?_)
      ·refine Zaa <| Zad rfl <| Zad rfl <| Zad rfl ?_
       refine Zc2 0 rfl hA47 rfl rfl fun y65 bk67 vs68 h66 ha69 hi70 hr71 => ?_
       subst hr71
       obtain rfl := s_bk ha69
       refine ZdL 0 0 rfl hi70 rfl rfl rfl ?_
       refine Zdw (xs := [.tmp 61]) rfl rfl (by simp only [List.mem_cons, List.not_mem_nil, or_false, forall_eq_or_imp, forall_eq]; exact ⟨rfl, rfl⟩) rfl rfl fun b72 => ?_
       have hA73 : All2 (GoT.rep H54) [(cS y65)] ([y65] : List Sent) := ZaZ (([y65] : List Sent))
       refine Zfl 1 2 rfl rfl rfl hA51 rfl hA73 fun a75 c76 h77 hA78 => ?_
       refine Zah rfl <| Zac <| Zav <| Zaa <| Zad rfl <| ZbM rfl rfl <| Zah rfl <| Zac ?_
       exact Zag (by exact ⟨rfl, rfl, rfl, trivial⟩) (Zam (by exact (.cons_cons _ (.cons_cons _ (.cons _ .slnil)))) (ih53 (s43.1, (s43.2.1 ++ ([y65] : List Sent)), w64 (s43.2.2 + 1)) _ _ _ ⟨_, _, _, _, _, _, rfl, rfl, hle55, hA47, hA78⟩))
      ·refine Zar <| Zav <| Zaa <| Zad rfl <| ZbM rfl rfl <| Zah rfl <| Zac ?_
       exact Zag (by exact ⟨rfl, rfl, rfl, trivial⟩) (Zam (by exact (.cons_cons _ (.cons_cons _ .slnil))) (ih53 (s43.1, s43.2.1, w64 (s43.2.2 + 1)) _ _ _ ⟨_, _, _, _, _, _, rfl, rfl, hle55, hA47, hA51⟩))
     ·refine Zbf rfl ?_
      exact Zag (by exact ⟨rfl, trivial⟩) (Zam (by exact (.cons _ (.cons_cons _ .slnil))) (J30 s43.2.1 _ _ _ ⟨_, _, _, rfl, rfl, hle55, hA51⟩))
  ·intro J79
   refine Zad rfl <| o_lt rfl rfl <| Zad rfl ?_
   refine Zcw (decide (x1 < 1)) (fun h80 => ?_) (fun h80 => ?_)
   ·refine Zab rfl rfl h80 <| Zab rfl rfl h80 <| Zan rfl h80 rfl <| Zad rfl <| Zab rfl rfl rfl <| Zab rfl rfl rfl <| Zan rfl rfl rfl <| Zad rfl <| Zab rfl rfl rfl <| Zab rfl rfl rfl <| Zan rfl rfl rfl ?_
    exact Zag (by exact ⟨rfl, rfl, rfl, rfl, lkb rfl (by first | simp only [h80, Bool.true_and, Bool.and_true, Bool.false_and, Bool.and_false, Bool.true_or, Bool.false_or, Bool.or_true, Bool.or_false, Bool.not_true, Bool.not_false] | simp [h80]), trivial⟩) (Zam (by exact (.cons_cons _ .slnil)) J79)
   ·refine Zaf rfl rfl h80 <| Zad rfl <| Zaf rfl rfl h80 <| o_gt rfl rfl <| Zal rfl h80 rfl <| Zad rfl ?_
    refine Zcw (decide (x1 > 6)) (fun h81 => ?_) (fun h81 => ?_)
    ·refine Zab rfl rfl h81 <| Zab rfl rfl h81 <| Zan rfl h81 rfl <| Zad rfl <| Zab rfl rfl rfl <| Zab rfl rfl rfl <| Zan rfl rfl rfl ?_
     exact Zag (by exact ⟨rfl, rfl, rfl, rfl, lkb rfl (by first | simp only [h80, h81, Bool.true_and, Bool.and_true, Bool.false_and, Bool.and_false, Bool.true_or, Bool.false_or, Bool.or_true, Bool.or_false, Bool.not_true, Bool.not_false] | simp [h80, h81]), trivial⟩) (Zam (by exact (.cons_cons _ .slnil)) J79)
    ·refine Zaf rfl rfl h81 <| Zad rfl <| Zaf rfl rfl h81 <| o_lt rfl rfl <| Zal rfl h81 rfl <| Zad rfl ?_
     refine Zcw (decide (x2 < 0)) (fun h82 => ?_) (fun h82 => ?_)
     ·refine Zab rfl rfl h82 <| Zab rfl rfl h82 <| Zan rfl h82 rfl ?_
      exact Zag (by exact ⟨rfl, rfl, rfl, rfl, lkb rfl (by first | simp only [h80, h81, h82, Bool.true_and, Bool.and_true, Bool.false_and, Bool.and_false, Bool.true_or, Bool.false_or, Bool.or_true, Bool.or_false, Bool.not_true, Bool.not_false] | simp [h80, h81, h82]), trivial⟩) (Zam (by exact (.cons_cons _ .slnil)) J79)
     ·refine Zaf rfl rfl h82 <| Zad rfl <| Zaf rfl rfl h82 <| o_gt rfl rfl <| Zal rfl h82 rfl ?_
      exact Zag (by exact ⟨rfl, rfl, rfl, rfl, lkb rfl (by first | simp only [h80, h81, h82, Bool.true_and, Bool.and_true, Bool.false_and, Bool.and_false, Bool.true_or, Bool.false_or, Bool.or_true, Bool.or_false, Bool.not_true, Bool.not_false] | simp [h80, h81, h82]), trivial⟩) (Zam (by exact (.cons_cons _ .slnil)) J79)
def ZbC (k : Nat) (x0 : (List Sent)) (x1 : (List Sent)) : Nat → Int → Option (LX (Bool) (Unit))
 | 0, _ => none
 | q7 + 1, s6 =>
  if (decide (s6 < (x0.length : Int))) = true then
   (rd x0 s6).bind fun y14 =>
   (rd x1 s6).bind fun y20 =>
   if (!(decide (y14 = y20))) = true then
    some (.ret false)
   else
    ZbC k x0 x1 q7 (w64 (s6 + 1))
  else
   some (.out ())
def ZcB (k : Nat) (x0 : (List Sent)) (x1 : (List Sent)) : Option Bool :=
 if ((x0.length : Int) != (x1.length : Int)) = true then
  some false
 else
  (ZbC k x0 x1 k 0).bind (LX.go fun p2 =>
  some true)
theorem ZiP : Tryz.prog.funcs[137]? = some Tryz.f137 := by kernel_rfl
theorem ZeY (k : Nat) (H : Heap) (x0 : (List Sent)) (a0_0 : Option Addr) (c0_0 : Nat) (hx0_0 : RSl H a0_0 c0_0 x0) (x1 : (List Sent)) (a1_0 : Option Addr) (c1_0 : Nat) (hx1_0 : RSl H a1_0 c1_0 x1) {r : Bool} (hr : ZcB k x0 x1 = some r) :
  Fn Tryz.prog 137 [.slice a0_0 x0.length c0_0, .slice a1_0 x1.length c1_0] H [] fun H' v out => v = .bool r ∧ out = [] := by
 refine Zaq (args := [.slice a0_0 x0.length c0_0, .slice a1_0 x1.length c1_0]) (n := 26) (Φ := fun r H' v out => v = .bool r ∧ out = []) hr ZiP rfl rfl rfl fun w => ?_
 refine s_eq (by rw [ZcB]) ?_
 refine Zae <| Zaa <| Zah rfl <| Zac <| Zae <| Zae <| Zaa <| Zad rfl <| ZaG rfl <| Zad rfl <| ZaG rfl <| o_ne rfl rfl ?_
 refine Zac ?_
 refine Zao rfl (fun h1 => ?_) (fun h1 => ?_)
 ·refine Zae <| Zaa <| Zah rfl <| Zac ?_
  exact s_r1 4 (.bool false) ZiP ⟨rfl, rfl⟩
 ·refine Zar <| Zae <| Zae <| Zaa <| Zah rfl <| Zac ?_
  refine ZbR (fun p2 env own H' => env = [] ∧ own = [] ∧ Hle H H') ?_ ?_
  ·rintro p2 _ _ H3 ⟨rfl, rfl, hle4⟩
   refine Zae <| Zaa <| Zah rfl <| Zac ?_
   exact s_r1 4 (.bool true) ZiP ⟨rfl, rfl⟩
  ·intro J5
   refine Zat ?_
   refine Zag (env' := [(0, .slice a0_0 x0.length c0_0), (1, .slice a1_0 x1.length c1_0), (5, .int .i64 0)]) (by exact ⟨rfl, rfl, rfl, trivial⟩) ?_
   refine Zam (own' := []) .slnil ?_
   refine Za2 (fun q s6 => ZbC k x0 x1 q s6) (fun s6 env own H' => env = [(0, .slice a0_0 x0.length c0_0), (1, .slice a1_0 x1.length c1_0), (5, .int .i64 s6)] ∧ own = [] ∧ Hle H H') (fun _ => rfl) ?_ k 0 ⟨rfl, rfl, .refl _⟩
   rintro q7 ih8 s6 _ _ H9 ⟨rfl, rfl, hle10⟩
   refine s_eq (by rw [ZbC]) ?_
   have hs11 := RSl.mono hle10 hx0_0
   have hs12 := RSl.mono hle10 hx1_0
   refine Zae <| Zae <| Zaa <| Zad rfl <| Zad rfl <| ZaG rfl <| o_lt rfl rfl <| Zac ?_
   refine Zao rfl (fun h13 => ?_) (fun h13 => ?_)
   ·refine Zar <| Zae <| Zat <| Zae ?_
    refine s_bg fun y14 h19 => ?_
    refine s_bg fun y20 h25 => ?_
    refine Za8 [(fun H v g => v = Value.slice a0_0 x0.length c0_0 ∧ g = [] ∧ RSl H a0_0 c0_0 x0),
   (fV (.int .i64 s6)),
   (fun H v g => ∃ bk27 of28, v = Value.pointer (some ⟨bk27, of28, none⟩) ∧ g = [] ∧ Zaj H bk27 of28 (cS y14)),
   (fV ((aS y14))),
   (fun H v g => v = Value.slice a1_0 x1.length c1_0 ∧ g = [] ∧ RSl H a1_0 c1_0 x1),
   (fV (.int .i64 s6)),
   (fun H v g => ∃ bk31 of32, v = Value.pointer (some ⟨bk31, of32, none⟩) ∧ g = [] ∧ Zaj H bk31 of32 (cS y20)),
   (fV ((aS y20))),
   (fV (.bool (!(decide (y14 = y20)))))] [[], [], [], [], [], [], [], [], []] mixed ⟨fun _ _ _ _ hle ⟨e1, e2, h0_⟩ => ⟨e1, e2, RSl.mono hle h0_⟩, m0, fun _ _ _ _ hle ⟨bk27, of28, e1, e2, h0_⟩ => ⟨_, _, e1, e2, Zaj.mono hle h0_⟩, m0, fun _ _ _ _ hle ⟨e1, e2, h0_⟩ => ⟨e1, e2, RSl.mono hle h0_⟩, m0, fun _ _ _ _ hle ⟨bk31, of32, e1, e2, h0_⟩ => ⟨_, _, e1, e2, Zaj.mono hle h0_⟩, m0, m0, trivial⟩ (by kernel_rfl) (by kernel_rfl) rfl (by kernel_rfl) rfl rfl ?_ ?_
    ·refine dc (fun _ _ _ _ hle38 _ _ => ?_) ?_
     ·have hs41 := RSl.mono hle38 hs11
      refine Zag (env' := [(0, .slice a0_0 x0.length c0_0)]) (by exact ⟨rfl, trivial⟩) ?_
      refine Zad rfl ?_
      exact Zai (.slice a0_0 x0.length c0_0) ⟨rfl, rfl, hs41⟩
     refine dc (fun _ _ _ _ _ _ _ => ?_) ?_
     ·refine Zag (env' := [(5, .int .i64 s6)]) (by exact ⟨rfl, trivial⟩) ?_
      refine Zad rfl ?_
      exact Zai (.int .i64 s6) ⟨rfl, rfl⟩
     refine Za3 ?_ ?_
     ·intro _ _ H51 fr52 hle53 hd54
      obtain ⟨hv56, hg57, hp58⟩ := hd54 0 (by decide)
      obtain ⟨hv59, hg60⟩ := hd54 1 (by decide)
      refine ⟨_, (rd x0 s6).bind some, by rw [h19]; rfl, fun _ => ?_⟩
      refine Zag (env' := [(17, .slice a0_0 x0.length c0_0), (18, .int .i64 s6)]) (by exact ⟨congrArg some hv56, congrArg some hv59, trivial⟩) ?_
      refine Zce hp58 rfl rfl fun y14 bk62 of63 h61 hc64 => ?_
      obtain rfl := Option.some.inj (h19.symm.trans h61)
      exact Zai (.pointer (some ⟨bk62, of63, none⟩)) ⟨bk62, of63, rfl, rfl, hc64⟩
     refine dc (fun _ _ _ _ _ hd70 _ => ?_) ?_
     ·obtain ⟨bk72, of73, hv74, hg75, hp76⟩ := hd70 2 (by decide)
      refine Zag (env' := [(19, .pointer (some ⟨bk72, of73, none⟩))]) (by exact ⟨congrArg some hv74, trivial⟩) ?_
      refine ZaP 0 hp76 rfl rfl rfl ?_
      exact Zai ((aS y14)) ⟨rfl, rfl⟩
     refine dc (fun _ _ _ _ hle81 _ _ => ?_) ?_
     ·have hs84 := RSl.mono hle81 hs12
      refine Zag (env' := [(1, .slice a1_0 x1.length c1_0)]) (by exact ⟨rfl, trivial⟩) ?_
      refine Zad rfl ?_
      exact Zai (.slice a1_0 x1.length c1_0) ⟨rfl, rfl, hs84⟩
     refine dc (fun _ _ _ _ _ _ _ => ?_) ?_
     ·refine Zag (env' := [(5, .int .i64 s6)]) (by exact ⟨rfl, trivial⟩) ?_
      refine Zad rfl ?_
      exact Zai (.int .i64 s6) ⟨rfl, rfl⟩
     refine Za3 ?_ ?_
     ·intro _ _ H94 fr95 hle96 hd97
      obtain ⟨hv99, hg100, hp101⟩ := hd97 4 (by decide)
      obtain ⟨hv102, hg103⟩ := hd97 5 (by decide)
      refine ⟨_, (rd x1 s6).bind some, by rw [h25]; rfl, fun _ => ?_⟩
      refine Zag (env' := [(21, .slice a1_0 x1.length c1_0), (22, .int .i64 s6)]) (by exact ⟨congrArg some hv99, congrArg some hv102, trivial⟩) ?_
      refine Zce hp101 rfl rfl fun y20 bk105 of106 h104 hc107 => ?_
      obtain rfl := Option.some.inj (h25.symm.trans h104)
      exact Zai (.pointer (some ⟨bk105, of106, none⟩)) ⟨bk105, of106, rfl, rfl, hc107⟩
     refine dc (fun _ _ _ _ _ hd113 _ => ?_) ?_
     ·obtain ⟨bk115, of116, hv117, hg118, hp119⟩ := hd113 6 (by decide)
      refine Zag (env' := [(23, .pointer (some ⟨bk115, of116, none⟩))]) (by exact ⟨congrArg some hv117, trivial⟩) ?_
      refine ZaP 0 hp119 rfl rfl rfl ?_
      exact Zai ((aS y20)) ⟨rfl, rfl⟩
     refine dc2 3 7 (fun _ _ _ _ _ _ => ?_) ?_
     ·refine Znl y14 y20 rfl rfl ?_
      exact Zai (.bool (!(decide (y14 = y20)))) ⟨rfl, rfl⟩
     exact dnil
    ·intro V133 G134 H131 hle132 hF135
     obtain ⟨hv138, hg139⟩ := hF135 8 (show 8 < 9 by decide)
     refine Zag (env' := [(25, .bool (!(decide (y14 = y20)))), (0, .slice a0_0 x0.length c0_0), (1, .slice a1_0 x1.length c1_0), (5, .int .i64 s6), (11, .int .i64 s6), (12, .slice a0_0 x0.length c0_0), (13, .int .i64 (x0.length : Int)), (14, .bool (decide (s6 < (x0.length : Int))))]) (by exact ⟨congrArg some hv138, rfl, rfl, rfl, rfl, rfl, rfl, rfl, trivial⟩) ?_
     refine Zam (List.sublist_append_left _ _) ?_
     refine Zac ?_
     refine Zao rfl (fun h140 => ?_) (fun h140 => ?_)
     ·refine Zae <| Zaa <| Zah rfl <| Zac <| ZbQ ?_
      exact s_r1 4 (.bool false) ZiP ⟨rfl, rfl⟩
     ·refine Zar <| Zav <| Zaa <| Zad rfl <| ZbM rfl rfl <| Zah rfl <| Zac ?_
      exact Zag (by exact ⟨rfl, rfl, rfl, trivial⟩) (Zam (by exact .slnil) (ih8 (w64 (s6 + 1)) _ _ _ ⟨rfl, rfl, (Hle.trans hle10 hle132)⟩))
   ·refine Zbf rfl ?_
    exact Zag (by exact trivial) (Zam (by exact .slnil) (J5 () _ _ _ ⟨rfl, rfl, hle10⟩))
def Zbn (k : Nat) (x4 : (List Sent)) : Nat → (List Sent) × Int → Option ((List Sent))
 | 0, _ => none
 | q39 + 1, s34 =>
  if (decide (s34.2 < (x4.length : Int))) = true then
   (rd x4 s34.2).bind fun y46 =>
   (ZbZ k s34.1 y46).bind fun y51 =>
   Zbn k x4 q39 (y51, w64 (s34.2 + 1))
  else
   some s34.1
def Zbb (k : Nat) (x0 : (List Node)) (x1 : Int) (x2 : Int) (x3 : Arr3u8) (x4 : (List Sent)) : Option Bool :=
 (Zca k x0 x1 x2 x3).bind fun y3 =>
 if (((y3.2 != 0) || (y3.1.length : Int) != (x4.length : Int))) = true then
  some false
 else
  (Zbn k x4 k (([] : List Sent), 0)).bind fun p14 =>
  (ZcB k y3.1 p14).bind fun y23 =>
  some y23
theorem ZmQ : Tryz.prog.funcs[78]? = some Tryz.f78 := by kernel_rfl
theorem ZeC (k : Nat) (H : Heap) (x0 : (List Node)) (a0_0 : Option Addr) (c0_0 : Nat) (hx0_0 : RSl H a0_0 c0_0 x0) (x1 : Int) (x2 : Int) (x3 : Arr3u8) (x4 : (List Sent)) (a4_0 : Option Addr) (c4_0 : Nat) (hx4_0 : RSl H a4_0 c4_0 x4) {r : Bool} (hr : Zbb k x0 x1 x2 x3 x4 = some r) :
  Fn Tryz.prog 78 [.slice a0_0 x0.length c0_0, .int .i64 x1, .int .i64 x2, .agg #[.int .u8 x3.e0, .int .u8 x3.e1, .int .u8 x3.e2], .slice a4_0 x4.length c4_0] H [] fun H' v out => v = .bool r ∧ out = [] := by
 refine Zaq (args := [.slice a0_0 x0.length c0_0, .int .i64 x1, .int .i64 x2, .agg #[.int .u8 x3.e0, .int .u8 x3.e1, .int .u8 x3.e2], .slice a4_0 x4.length c4_0]) (n := 47) (Φ := fun r H' v out => v = .bool r ∧ out = []) hr ZmQ rfl rfl rfl fun w => ?_
 refine s_eq (by rw [Zbb]) ?_
 refine Zae <| Zaa ?_
 refine ZbO rfl fun b1 => ?_
 refine Zah rfl <| Zac <| Zae <| Zaa <| Zad rfl <| Zad rfl <| Zad rfl <| o_ld 0 rfl rfl rfl ?_
 refine s_bg fun y3 h4 => ?_
 refine Zbg [] _ rfl rfl (.refl _) (Zfx k _ x0 _ _ hx0_0 x1 x2 x3 h4) ?_
 rintro _ H8 _ hle9 ⟨a5, c6, rfl, rfl⟩
 have hs11 := RSl.mono hle9 hx4_0
 have hA12 : All2 (GoT.rep H8) (y3.1.map GoE.enc) y3.1 := ZaZ _
 refine Zad rfl <| ZcI rfl rfl <| ZcI rfl rfl <| Zah rfl <| Zah rfl <| Zac <| Zae <| Zae <| Zaa ?_
 refine Zfs [(4, .slice a4_0 x4.length c4_0), (11, .slice a5 y3.1.length c6), (31, .bool ((y3.2 != 0) || (y3.1.length : Int) != (x4.length : Int)))] [.osl (.slice a5 y3.1.length c6) 4 47 (y3.1.map GoE.enc)] ?_ ?_
 ·refine Zao rfl (fun h13 => ?_) (fun h13 => ?_)
  ·refine Zae <| Zaa <| Zah rfl <| Zac ?_
   exact s_r1 10 (.bool false) ZmQ ⟨rfl, rfl⟩
  ·refine Zar <| Zae <| Zaa <| Zah rfl <| Zac <| Zae <| Zae <| Zaa <| Zah rfl <| Zac ?_
   refine Zb3 (fun p14 env own H' => ∃ a16 c17 ls18, env = [(11, .slice a5 y3.1.length c6), (13, .slice a16 p14.length c17)] ∧ own = [.osl (.slice a5 y3.1.length c6) 4 47 (y3.1.map GoE.enc), .osl (.slice a16 p14.length c17) 4 47 ls18] ∧ Hle H8 H' ∧ All2 (GoT.rep H') ls18 p14) ?_ ?_
   ·rintro p14 _ _ H20 ⟨a16, c17, ls18, rfl, rfl, hle21, hA19⟩
    have hA22 := All2.mono (fun _ _ => GoT.mono hle21) hA12
    refine Zae <| Zaa <| Zad rfl <| Zad rfl ?_
    refine s_bg fun y23 h24 => ?_
    refine Zc5 (Φ := fun v out => v = _ ∧ out = []) [] _ rfl rfl (.refl _) (fun H' hle hl => ZeY k _ y3.1 _ _ (Zcf (hl _ (List.mem_of_getElem? (i := 0) rfl)) hA22 hle).2 p14 _ _ (Zcf (hl _ (List.mem_of_getElem? (i := 1) rfl)) hA19 hle).2 h24) ?_
    rintro _ _ ⟨rfl, rfl⟩
    refine ZcG <| Zah rfl <| Zac ?_
    exact s_r1 10 (.bool y23) ZmQ ⟨rfl, rfl⟩
   ·intro J25
    refine Zat ?_
    refine Zc4 (sz := 4) (t := 47) ?_
    have hA27 : All2 (GoT.rep H8) [] ([] : List Sent) := Zbv
    refine Zag (env' := [(4, .slice a4_0 x4.length c4_0), (11, .slice a5 y3.1.length c6), (13, .slice none ([] : List Sent).length 0), (14, .int .i64 0)]) (by exact ⟨rfl, rfl, rfl, rfl, trivial⟩) ?_
    refine Zam (own' := [.osl (.slice a5 y3.1.length c6) 4 47 (y3.1.map GoE.enc), .osl (.slice none ([] : List Sent).length 0) 4 47 []]) (.cons_cons _ (.cons_cons _ .slnil)) ?_
    refine Za2 (fun q s34 => Zbn k x4 q s34) (fun s34 env own H' => ∃ a35 c36 ls37, env = [(4, .slice a4_0 x4.length c4_0), (11, .slice a5 y3.1.length c6), (13, .slice a35 s34.1.length c36), (14, .int .i64 s34.2)] ∧ own = [.osl (.slice a5 y3.1.length c6) 4 47 (y3.1.map GoE.enc), .osl (.slice a35 s34.1.length c36) 4 47 ls37] ∧ Hle H8 H' ∧ All2 (GoT.rep H') ls37 s34.1) (fun _ => rfl) ?_ k (([] : List Sent), 0) ⟨_, _, _, rfl, rfl, .refl _, hA27⟩
    rintro q39 ih40 s34 _ _ H41 ⟨a35, c36, ls37, rfl, rfl, hle42, hA38⟩
    refine s_eq (by rw [Zbn]) ?_
    have hs43 := RSl.mono hle42 hs11
    refine Zae <| Zae <| Zaa <| Zad rfl <| Zad rfl <| ZaG rfl <| o_lt rfl rfl <| Zac ?_
    refine Zao rfl (fun h45 => ?_) (fun h45 => ?_)
    ·refine Zar <| Zae <| Zat <| Zaa <| Zad rfl <| Zad rfl <| Zad rfl ?_
     refine Zce hs43 rfl rfl fun y46 bk48 of49 h47 hc50 => ?_
     refine ZaP 0 hc50 rfl rfl rfl ?_
     refine s_bg fun y51 h52 => ?_
     refine Zc5 (Φ := fun v out => ∃ a0 c0, v = .slice a0 y51.length c0 ∧ out = [.osl (.slice a0 y51.length c0) 4 47 (y51.map GoE.enc)]) [] _ rfl rfl (.refl _) (fun H' hle hl => Zc7 k _ s34.1 _ _ (Zcf (hl _ (List.mem_of_getElem? (i := 1) rfl)) hA38 hle).2 y46 h52) ?_
     rintro _ _ ⟨a53, c54, rfl, rfl⟩
     have hA56 : All2 (GoT.rep H41) (y51.map GoE.enc) y51 := ZaZ _
     refine Zah rfl <| Zac <| Zav <| Zaa <| Zad rfl <| ZbM rfl rfl <| Zah rfl <| Zac ?_
     exact Zag (by exact ⟨rfl, rfl, rfl, rfl, trivial⟩) (Zam (by exact (.cons_cons _ (.cons _ (.cons_cons _ .slnil)))) (ih40 (y51, w64 (s34.2 + 1)) _ _ _ ⟨_, _, _, rfl, rfl, hle42, hA56⟩))
    ·refine Zbf rfl ?_
     exact Zag (by exact ⟨rfl, rfl, trivial⟩) (Zam (by exact (.cons_cons _ (.cons_cons _ .slnil))) (J25 s34.1 _ _ _ ⟨_, _, _, rfl, rfl, hle42, hA38⟩))
 ·intro J57
  refine Zad rfl <| o_ne rfl rfl <| Zad rfl ?_
  refine Zcw (y3.2 != 0) (fun h58 => ?_) (fun h58 => ?_)
  ·refine Zab rfl rfl h58 <| Zab rfl rfl h58 <| Zab rfl rfl h58 <| Zab rfl rfl h58 <| Zab rfl rfl h58 <| Zan rfl h58 rfl ?_
   exact Zag (by exact ⟨rfl, rfl, lkb rfl (by first | simp only [h58, Bool.true_and, Bool.and_true, Bool.false_and, Bool.and_false, Bool.true_or, Bool.false_or, Bool.or_true, Bool.or_false, Bool.not_true, Bool.not_false] | simp [h58]), trivial⟩) (Zam (by exact (.cons _ (.cons_cons _ .slnil))) J57)
  ·refine Zaf rfl rfl h58 <| Zad rfl <| Zaf rfl rfl h58 <| ZaG rfl <| Zaf rfl rfl h58 <| Zad rfl <| Zaf rfl rfl h58 <| ZaG rfl <| Zaf rfl rfl h58 <| o_ne rfl rfl <| Zal rfl h58 rfl ?_
   exact Zag (by exact ⟨rfl, rfl, lkb rfl (by first | simp only [h58, Bool.true_and, Bool.and_true, Bool.false_and, Bool.and_false, Bool.true_or, Bool.false_or, Bool.or_true, Bool.or_false, Bool.not_true, Bool.not_false] | simp [h58]), trivial⟩) (Zam (by exact (.cons _ (.cons_cons _ .slnil))) J57)
def ZaY (k : Nat) (x0 : Int) (x1 : Int) (x2 : Int) : Option Bool :=
 if (decide (x0 ≥ x1)) = true then
  some (decide (x0 ≤ x2))
 else
  some false
theorem ZmR : Tryz.prog.funcs[74]? = some Tryz.f74 := by kernel_rfl
theorem ZbG (k : Nat) (H : Heap) (x0 : Int) (x1 : Int) (x2 : Int) {r : Bool} (hr : ZaY k x0 x1 x2 = some r) :
  Fn Tryz.prog 74 [.int .i64 x0, .int .i64 x1, .int .i64 x2] H [] fun H' v out => v = .bool r ∧ out = [] := by
 refine Zaq (args := [.int .i64 x0, .int .i64 x1, .int .i64 x2]) (n := 15) (Φ := fun r H' v out => v = .bool r ∧ out = []) hr ZmR rfl rfl rfl fun w => ?_
 refine s_eq (by rw [ZaY]) ?_
 refine Zae <| Zaa <| Zah rfl <| Zac <| Zae <| Zaa <| Zad rfl <| Zad rfl <| o_ge rfl rfl <| Zad rfl ?_
 refine Zax (decide (x0 ≥ x1)) (fun h1 => ?_) (fun h1 => ?_)
 ·refine Zaf rfl rfl h1 <| Zad rfl <| Zaf rfl rfl h1 <| Zad rfl <| Zaf rfl rfl h1 <| o_le rfl rfl <| Zan rfl h1 rfl <| Zah rfl <| Zac ?_
  exact s_r1 6 (.bool (decide (x0 ≤ x2))) ZmR ⟨rfl, rfl⟩
 ·refine Zab rfl rfl h1 <| Zab rfl rfl h1 <| Zab rfl rfl h1 <| Zal rfl h1 rfl <| Zah rfl <| Zac ?_
  exact s_r1 6 (.bool false) ZmR ⟨rfl, rfl⟩
def Zbk (k : Nat) (x1 : (List Version)) (s36 : Int) : Nat → Int → Option (LX (LX (Int) (Unit)) (Unit))
 | 0, _ => none
 | q62 + 1, s61 =>
  if (decide (s61 < s36)) = true then
   (rd x1 s61).bind fun y68 =>
   (rd x1 s36).bind fun y79 =>
   if (y68.Ver == y79.Ver) = true then
    some (.ret (.ret 2))
   else
    Zbk k x1 s36 q62 (w64 (s61 + 1))
  else
   some (.out ())
def Zbl (k : Nat) (x1 : (List Version)) : Nat → Int → Option (LX (Int) (Unit))
 | 0, _ => none
 | q37 + 1, s36 =>
  if (decide (s36 < (x1.length : Int))) = true then
   (rd x1 s36).bind fun y43 =>
   (ZaY k y43.Ver 1 200).bind fun y53 =>
   if (!y53) = true then
    some (.ret 2)
   else
    (Zbk k x1 s36 k 0).bind (LX.go fun p56 =>
    Zbl k x1 q37 (w64 (s36 + 1)))
  else
   some (.out ())
def Zbm (k : Nat) (x1 : (List Version)) : Nat → Int → Option (LX (Int) (Unit))
 | 0, _ => none
 | q16 + 1, s15 =>
  if (decide (s15 < (x1.length : Int))) = true then
   (rd x1 s15).bind fun y22 =>
   (Zb1 k y22.Nodes).bind fun y32 =>
   if (y32 != 0) = true then
    some (.ret y32)
   else
    Zbm k x1 q16 (w64 (s15 + 1))
  else
   some (.out ())
def Zcq (k : Nat) (x0 : Graph) (x1 : (List Version)) (x2 : (List Event)) : Option Int :=
 (Zb2 k x0).bind fun y3 =>
 if (y3 != 0) = true then
  some y3
 else
  if (((decide ((x1.length : Int) > 200)) || decide ((x2.length : Int) > 2000))) = true then
   some 5
  else
   (Zbl k x1 k 0).bind (LX.go fun p7 =>
   (Zbm k x1 k 0).bind (LX.go fun p11 =>
   some 0))
theorem Zil : Tryz.prog.funcs[29]? = some Tryz.f29 := by kernel_rfl
theorem ZeA (k : Nat) (H : Heap) (x0 : Graph) (a0_0 : Option Addr) (c0_0 : Nat) (hx0_0 : RSl H a0_0 c0_0 x0.Links) (x1 : (List Version)) (a1_0 : Option Addr) (c1_0 : Nat) (hx1_0 : RSl H a1_0 c1_0 x1) (x2 : (List Event)) (a2_0 : Option Addr) (c2_0 : Nat) (hx2_0 : RSl H a2_0 c2_0 x2) {r : Int} (hr : Zcq k x0 x1 x2 = some r) :
  Fn Tryz.prog 29 [.agg #[.int .i64 x0.Switches, .slice a0_0 x0.Links.length c0_0], .slice a1_0 x1.length c1_0, .slice a2_0 x2.length c2_0] H [] fun H' v out => v = .int .i64 r ∧ out = [] := by
 refine Zaq (args := [.agg #[.int .i64 x0.Switches, .slice a0_0 x0.Links.length c0_0], .slice a1_0 x1.length c1_0, .slice a2_0 x2.length c2_0]) (n := 69) (Φ := fun r H' v out => v = .int .i64 r ∧ out = []) hr Zil rfl rfl rfl fun w => ?_
 refine s_eq (by rw [Zcq]) ?_
 refine Zae <| Zaa ?_
 refine ZbO rfl fun b1 => ?_
 refine Zah rfl <| Zac <| Zae <| Zae <| Zaa <| o_ld 0 rfl rfl rfl ?_
 refine s_bg fun y3 h4 => ?_
 refine Zas rfl rfl (Zdu k _ x0 _ _ hx0_0 h4) ?_
 refine Zah rfl <| Zac <| Zae <| Zaa <| Zad rfl <| o_ne rfl rfl <| Zac ?_
 refine Zao rfl (fun h5 => ?_) (fun h5 => ?_)
 ·refine Zae <| Zaa <| Zad rfl <| Zah rfl <| Zac ?_
  exact s_r1 6 (.int .i64 y3) Zil ⟨rfl, rfl⟩
 ·refine Zar <| Zae <| Zae <| Zaa ?_
  refine Zfs [(1, .slice a1_0 x1.length c1_0), (24, .bool ((decide ((x1.length : Int) > 200)) || decide ((x2.length : Int) > 2000)))] [] ?_ ?_
  ·refine Zao rfl (fun h6 => ?_) (fun h6 => ?_)
   ·refine Zae <| Zaa <| Zah rfl <| Zac ?_
    exact s_r1 6 (.int .i64 5) Zil ⟨rfl, rfl⟩
   ·refine Zar <| Zae <| Zae <| Zaa <| Zah rfl <| Zac ?_
    refine ZbR (fun p7 env own H' => env = [(1, .slice a1_0 x1.length c1_0)] ∧ own = [] ∧ Hle H H') ?_ ?_
    ·rintro p7 _ _ H8 ⟨rfl, rfl, hle9⟩
     have hs10 := RSl.mono hle9 hx1_0
     refine Zae <| Zae <| Zaa <| Zah rfl <| Zac ?_
     refine ZbR (fun p11 env own H' => env = [] ∧ own = [] ∧ Hle H8 H') ?_ ?_
     ·rintro p11 _ _ H12 ⟨rfl, rfl, hle13⟩
      refine Zae <| Zaa <| Zah rfl <| Zac ?_
      exact s_r1 6 (.int .i64 0) Zil ⟨rfl, rfl⟩
     ·intro J14
      refine Zat ?_
      refine Zag (env' := [(1, .slice a1_0 x1.length c1_0), (10, .int .i64 0)]) (by exact ⟨rfl, rfl, trivial⟩) ?_
      refine Zam (own' := []) .slnil ?_
      refine Za2 (fun q s15 => Zbm k x1 q s15) (fun s15 env own H' => env = [(1, .slice a1_0 x1.length c1_0), (10, .int .i64 s15)] ∧ own = [] ∧ Hle H8 H') (fun _ => rfl) ?_ k 0 ⟨rfl, rfl, .refl _⟩
      rintro q16 ih17 s15 _ _ H18 ⟨rfl, rfl, hle19⟩
      refine s_eq (by rw [Zbm]) ?_
      have hs20 := RSl.mono hle19 hs10
      refine Zae <| Zae <| Zaa <| Zad rfl <| Zad rfl <| ZaG rfl <| o_lt rfl rfl <| Zac ?_
      refine Zao rfl (fun h21 => ?_) (fun h21 => ?_)
      ·refine Zar <| Zae <| Zat <| Zae <| Zaa <| Zad rfl <| Zad rfl ?_
       refine o_ix hs20 rfl rfl fun y22 bk24 of25 vs27 h23 hc26 hr28 => ?_
       obtain ⟨a29, c30, rfl, hs31⟩ := hr28
       refine o_fa rfl ?_
       refine ZaP 1 hc26 rfl rfl rfl ?_
       refine s_bg fun y32 h33 => ?_
       refine Zas rfl rfl (Zdt k _ y22.Nodes _ _ hs31 h33) ?_
       refine Zah rfl <| Zac <| Zae <| Zaa <| Zad rfl <| o_ne rfl rfl <| Zac ?_
       refine Zao rfl (fun h34 => ?_) (fun h34 => ?_)
       ·refine Zae <| Zaa <| Zad rfl <| Zah rfl <| Zac <| ZbQ ?_
        exact s_r1 6 (.int .i64 y32) Zil ⟨rfl, rfl⟩
       ·refine Zar <| Zav <| Zaa <| Zad rfl <| ZbM rfl rfl <| Zah rfl <| Zac ?_
        exact Zag (by exact ⟨rfl, rfl, trivial⟩) (Zam (by exact .slnil) (ih17 (w64 (s15 + 1)) _ _ _ ⟨rfl, rfl, hle19⟩))
      ·refine Zbf rfl ?_
       exact Zag (by exact trivial) (Zam (by exact .slnil) (J14 () _ _ _ ⟨rfl, rfl, hle19⟩))
    ·intro J35
     refine Zat ?_
     refine Zag (env' := [(1, .slice a1_0 x1.length c1_0), (8, .int .i64 0)]) (by exact ⟨rfl, rfl, trivial⟩) ?_
     refine Zam (own' := []) .slnil ?_
     refine Za2 (fun q s36 => Zbl k x1 q s36) (fun s36 env own H' => env = [(1, .slice a1_0 x1.length c1_0), (8, .int .i64 s36)] ∧ own = [] ∧ Hle H H') (fun _ => rfl) ?_ k 0 ⟨rfl, rfl, .refl _⟩
     rintro q37 ih38 s36 _ _ H39 ⟨rfl, rfl, hle40⟩
     refine s_eq (by rw [Zbl]) ?_
     have hs41 := RSl.mono hle40 hx1_0
     refine Zae <| Zae <| Zaa <| Zad rfl <| Zad rfl <| ZaG rfl <| o_lt rfl rfl <| Zac ?_
     refine Zao rfl (fun h42 => ?_) (fun h42 => ?_)
     ·refine Zar <| Zae <| Zat <| Zae <| Zae <| Zaa <| Zad rfl <| Zad rfl ?_
      refine o_ix hs41 rfl rfl fun y43 bk45 of46 vs48 h44 hc47 hr49 => ?_
      obtain ⟨a50, c51, rfl, hs52⟩ := hr49
      refine o_fa rfl ?_
      refine ZaP 0 hc47 rfl rfl rfl ?_
      refine s_bg fun y53 h54 => ?_
      refine Zas rfl rfl (ZbG k _ y43.Ver 1 200 h54) ?_
      refine Zdc rfl <| Zac ?_
      refine Zao rfl (fun h55 => ?_) (fun h55 => ?_)
      ·refine Zae <| Zaa <| Zah rfl <| Zac <| ZbQ ?_
       exact s_r1 6 (.int .i64 2) Zil ⟨rfl, rfl⟩
      ·refine Zar <| Zae <| Zaa <| Zah rfl <| Zac ?_
       refine ZbR (fun p56 env own H' => env = [(1, .slice a1_0 x1.length c1_0), (8, .int .i64 s36)] ∧ own = [] ∧ Hle H39 H') ?_ ?_
       ·rintro p56 _ _ H57 ⟨rfl, rfl, hle58⟩
        refine Zav <| Zaa <| Zad rfl <| ZbM rfl rfl <| Zah rfl <| Zac ?_
        exact Zag (by exact ⟨rfl, rfl, trivial⟩) (Zam (by exact .slnil) (ih38 (w64 (s36 + 1)) _ _ _ ⟨rfl, rfl, (Hle.trans hle40 hle58)⟩))
       ·intro J60
        refine Zat ?_
        refine Zag (env' := [(1, .slice a1_0 x1.length c1_0), (8, .int .i64 s36), (9, .int .i64 0)]) (by exact ⟨rfl, rfl, rfl, trivial⟩) ?_
        refine Zam (own' := []) .slnil ?_
        refine Za2 (fun q s61 => Zbk k x1 s36 q s61) (fun s61 env own H' => env = [(1, .slice a1_0 x1.length c1_0), (8, .int .i64 s36), (9, .int .i64 s61)] ∧ own = [] ∧ Hle H39 H') (fun _ => rfl) ?_ k 0 ⟨rfl, rfl, .refl _⟩
        rintro q62 ih63 s61 _ _ H64 ⟨rfl, rfl, hle65⟩
        refine s_eq (by rw [Zbk]) ?_
        have hs66 := RSl.mono hle65 hs41
        refine Zae <| Zae <| Zaa <| Zad rfl <| Zad rfl <| o_lt rfl rfl <| Zac ?_
        refine Zao rfl (fun h67 => ?_) (fun h67 => ?_)
        ·refine Zar <| Zae <| Zat <| Zae ?_
         refine s_bg fun y68 h78 => ?_
         refine s_bg fun y79 h89 => ?_
         refine Za8 [(fun H v g => v = Value.slice a1_0 x1.length c1_0 ∧ g = [] ∧ RSl H a1_0 c1_0 x1),
   (fV (.int .i64 s61)),
   (fun H v g => ∃ bk91 of92 a96 c97, v = Value.pointer (some ⟨bk91, of92, none⟩) ∧ g = [] ∧ RSl H a96 c97 y68.Nodes ∧ Zaj H bk91 of92 [.int .i64 y68.Ver, .slice a96 y68.Nodes.length c97]),
   (fun H v g => ∃ bk91 of92 a96 c97, v = Value.pointer (some ⟨bk91, of92, none⟩) ∧ g = [] ∧ RSl H a96 c97 y68.Nodes ∧ Zaj H bk91 of92 [.int .i64 y68.Ver, .slice a96 y68.Nodes.length c97]),
   (fV (.int .i64 y68.Ver)),
   (fun H v g => v = Value.slice a1_0 x1.length c1_0 ∧ g = [] ∧ RSl H a1_0 c1_0 x1),
   (fV (.int .i64 s36)),
   (fun H v g => ∃ bk100 of101 a105 c106, v = Value.pointer (some ⟨bk100, of101, none⟩) ∧ g = [] ∧ RSl H a105 c106 y79.Nodes ∧ Zaj H bk100 of101 [.int .i64 y79.Ver, .slice a105 y79.Nodes.length c106]),
   (fun H v g => ∃ bk100 of101 a105 c106, v = Value.pointer (some ⟨bk100, of101, none⟩) ∧ g = [] ∧ RSl H a105 c106 y79.Nodes ∧ Zaj H bk100 of101 [.int .i64 y79.Ver, .slice a105 y79.Nodes.length c106]),
   (fV (.int .i64 y79.Ver)),
   (fV (.bool (y68.Ver == y79.Ver)))] [[], [], [], [], [], [], [], [], [], [], []] mixed ⟨fun _ _ _ _ hle ⟨e1, e2, h0_⟩ => ⟨e1, e2, RSl.mono hle h0_⟩, m0, fun _ _ _ _ hle ⟨bk91, of92, a96, c97, e1, e2, h0_, h1_⟩ => ⟨_, _, _, _, e1, e2, RSl.mono hle h0_, Zaj.mono hle h1_⟩, fun _ _ _ _ hle ⟨bk91, of92, a96, c97, e1, e2, h0_, h1_⟩ => ⟨_, _, _, _, e1, e2, RSl.mono hle h0_, Zaj.mono hle h1_⟩, m0, fun _ _ _ _ hle ⟨e1, e2, h0_⟩ => ⟨e1, e2, RSl.mono hle h0_⟩, m0, fun _ _ _ _ hle ⟨bk100, of101, a105, c106, e1, e2, h0_, h1_⟩ => ⟨_, _, _, _, e1, e2, RSl.mono hle h0_, Zaj.mono hle h1_⟩, fun _ _ _ _ hle ⟨bk100, of101, a105, c106, e1, e2, h0_, h1_⟩ => ⟨_, _, _, _, e1, e2, RSl.mono hle h0_, Zaj.mono hle h1_⟩, m0, m0, trivial⟩ (by kernel_rfl) (by kernel_rfl) rfl (by kernel_rfl) rfl rfl ?_ ?_
         ·refine dc (fun _ _ _ _ hle112 _ _ => ?_) ?_
          ·have hs115 := RSl.mono hle112 hs66
           refine Zag (env' := [(1, .slice a1_0 x1.length c1_0)]) (by exact ⟨rfl, trivial⟩) ?_
           refine Zad rfl ?_
           exact Zai (.slice a1_0 x1.length c1_0) ⟨rfl, rfl, hs115⟩
          refine dc (fun _ _ _ _ _ _ _ => ?_) ?_
          ·refine Zag (env' := [(9, .int .i64 s61)]) (by exact ⟨rfl, trivial⟩) ?_
           refine Zad rfl ?_
           exact Zai (.int .i64 s61) ⟨rfl, rfl⟩
          refine Za3 ?_ ?_
          ·intro _ _ H125 fr126 hle127 hd128
           obtain ⟨hv130, hg131, hp132⟩ := hd128 0 (by decide)
           obtain ⟨hv133, hg134⟩ := hd128 1 (by decide)
           refine ⟨_, (rd x1 s61).bind some, by rw [h78]; rfl, fun _ => ?_⟩
           refine Zag (env' := [(43, .slice a1_0 x1.length c1_0), (44, .int .i64 s61)]) (by exact ⟨congrArg some hv130, congrArg some hv133, trivial⟩) ?_
           refine o_ix hp132 rfl rfl fun y68 bk136 of137 vs139 h135 hc138 hr140 => ?_
           obtain ⟨a141, c142, rfl, hs143⟩ := hr140
           obtain rfl := Option.some.inj (h78.symm.trans h135)
           exact Zai (.pointer (some ⟨bk136, of137, none⟩)) ⟨bk136, of137, a141, c142, rfl, rfl, hs143, hc138⟩
          refine dc (fun _ _ _ _ _ hd149 _ => ?_) ?_
          ·obtain ⟨bk151, of152, a153, c154, hv155, hg156, hp157, hp158⟩ := hd149 2 (by decide)
           refine Zag (env' := [(45, .pointer (some ⟨bk151, of152, none⟩))]) (by exact ⟨congrArg some hv155, trivial⟩) ?_
           refine o_fa rfl ?_
           exact Zai (.pointer (some ⟨bk151, of152, none⟩)) ⟨bk151, of152, a153, c154, rfl, rfl, hp157, hp158⟩
          refine dc (fun _ _ _ _ _ hd164 _ => ?_) ?_
          ·obtain ⟨bk166, of167, a168, c169, hv170, hg171, hp172, hp173⟩ := hd164 3 (by decide)
           refine Zag (env' := [(46, .pointer (some ⟨bk166, of167, none⟩))]) (by exact ⟨congrArg some hv170, trivial⟩) ?_
           refine ZaP 0 hp173 rfl rfl rfl ?_
           exact Zai (.int .i64 y68.Ver) ⟨rfl, rfl⟩
          refine dc (fun _ _ _ _ hle178 _ _ => ?_) ?_
          ·have hs181 := RSl.mono hle178 hs66
           refine Zag (env' := [(1, .slice a1_0 x1.length c1_0)]) (by exact ⟨rfl, trivial⟩) ?_
           refine Zad rfl ?_
           exact Zai (.slice a1_0 x1.length c1_0) ⟨rfl, rfl, hs181⟩
          refine dc (fun _ _ _ _ _ _ _ => ?_) ?_
          ·refine Zag (env' := [(8, .int .i64 s36)]) (by exact ⟨rfl, trivial⟩) ?_
           refine Zad rfl ?_
           exact Zai (.int .i64 s36) ⟨rfl, rfl⟩
          refine Za3 ?_ ?_
          ·intro _ _ H191 fr192 hle193 hd194
           obtain ⟨hv196, hg197, hp198⟩ := hd194 5 (by decide)
           obtain ⟨hv199, hg200⟩ := hd194 6 (by decide)
           refine ⟨_, (rd x1 s36).bind some, by rw [h89]; rfl, fun _ => ?_⟩
           refine Zag (env' := [(48, .slice a1_0 x1.length c1_0), (49, .int .i64 s36)]) (by exact ⟨congrArg some hv196, congrArg some hv199, trivial⟩) ?_
           refine o_ix hp198 rfl rfl fun y79 bk202 of203 vs205 h201 hc204 hr206 => ?_
           obtain ⟨a207, c208, rfl, hs209⟩ := hr206
           obtain rfl := Option.some.inj (h89.symm.trans h201)
           exact Zai (.pointer (some ⟨bk202, of203, none⟩)) ⟨bk202, of203, a207, c208, rfl, rfl, hs209, hc204⟩
          refine dc (fun _ _ _ _ _ hd215 _ => ?_) ?_
          ·obtain ⟨bk217, of218, a219, c220, hv221, hg222, hp223, hp224⟩ := hd215 7 (by decide)
           refine Zag (env' := [(50, .pointer (some ⟨bk217, of218, none⟩))]) (by exact ⟨congrArg some hv221, trivial⟩) ?_
           refine o_fa rfl ?_
           exact Zai (.pointer (some ⟨bk217, of218, none⟩)) ⟨bk217, of218, a219, c220, rfl, rfl, hp223, hp224⟩
          refine dc (fun _ _ _ _ _ hd230 _ => ?_) ?_
          ·obtain ⟨bk232, of233, a234, c235, hv236, hg237, hp238, hp239⟩ := hd230 8 (by decide)
           refine Zag (env' := [(51, .pointer (some ⟨bk232, of233, none⟩))]) (by exact ⟨congrArg some hv236, trivial⟩) ?_
           refine ZaP 0 hp239 rfl rfl rfl ?_
           exact Zai (.int .i64 y79.Ver) ⟨rfl, rfl⟩
          refine dc2 4 9 (fun _ _ _ _ _ _ => ?_) ?_
          ·refine o_eq rfl rfl ?_
           exact Zai (.bool (y68.Ver == y79.Ver)) ⟨rfl, rfl⟩
          exact dnil
         ·intro V253 G254 H251 hle252 hF255
          obtain ⟨hv257, hg258⟩ := hF255 10 (show 10 < 11 by decide)
          refine Zag (env' := [(53, .bool (y68.Ver == y79.Ver)), (1, .slice a1_0 x1.length c1_0), (8, .int .i64 s36), (9, .int .i64 s61), (38, .int .i64 s61), (39, .int .i64 s36), (40, .bool (decide (s61 < s36)))]) (by exact ⟨congrArg some hv257, rfl, rfl, rfl, rfl, rfl, rfl, trivial⟩) ?_
          refine Zam (List.sublist_append_left _ _) ?_
          refine Zac ?_
          refine Zao rfl (fun h259 => ?_) (fun h259 => ?_)
          ·refine Zae <| Zaa <| Zah rfl <| Zac <| ZbQ <| ZbQ ?_
           exact s_r1 6 (.int .i64 2) Zil ⟨rfl, rfl⟩
          ·refine Zar <| Zav <| Zaa <| Zad rfl <| ZbM rfl rfl <| Zah rfl <| Zac ?_
           exact Zag (by exact ⟨rfl, rfl, rfl, trivial⟩) (Zam (by exact .slnil) (ih63 (w64 (s61 + 1)) _ _ _ ⟨rfl, rfl, (Hle.trans hle65 hle252)⟩))
        ·refine Zbf rfl ?_
         exact Zag (by exact ⟨rfl, rfl, trivial⟩) (Zam (by exact .slnil) (J60 () _ _ _ ⟨rfl, rfl, hle65⟩))
     ·refine Zbf rfl ?_
      exact Zag (by exact ⟨rfl, trivial⟩) (Zam (by exact .slnil) (J35 () _ _ _ ⟨rfl, rfl, hle40⟩))
  ·intro J260
   refine Zad rfl <| ZaG rfl <| o_gt rfl rfl <| Zad rfl ?_
   refine Zcw (decide ((x1.length : Int) > 200)) (fun h261 => ?_) (fun h261 => ?_)
   ·refine Zab rfl rfl h261 <| Zab rfl rfl h261 <| Zab rfl rfl h261 <| Zan rfl h261 rfl ?_
    exact Zag (by exact ⟨rfl, lkb rfl (by first | simp only [h261, Bool.true_and, Bool.and_true, Bool.false_and, Bool.and_false, Bool.true_or, Bool.false_or, Bool.or_true, Bool.or_false, Bool.not_true, Bool.not_false] | simp [h261]), trivial⟩) (Zam (by exact (.cons _ .slnil)) J260)
   ·refine Zaf rfl rfl h261 <| Zad rfl <| Zaf rfl rfl h261 <| ZaG rfl <| Zaf rfl rfl h261 <| o_gt rfl rfl <| Zal rfl h261 rfl ?_
    exact Zag (by exact ⟨rfl, lkb rfl (by first | simp only [h261, Bool.true_and, Bool.and_true, Bool.false_and, Bool.and_false, Bool.true_or, Bool.false_or, Bool.or_true, Bool.or_false, Bool.not_true, Bool.not_false] | simp [h261]), trivial⟩) (Zam (by exact (.cons _ .slnil)) J260)
def Zba (k : Nat) (x1 : Event) : Nat → Int → Option (LX (Bool) (Unit))
 | 0, _ => none
 | q23 + 1, s22 =>
  if (decide (s22 < (x1.Sent.length : Int))) = true then
   (rd x1.Sent s22).bind fun y30 =>
   (ZaY k y30.Port 0 4).bind fun y35 =>
   if (!y35) = true then
    some (.ret false)
   else
    Zba k x1 q23 (w64 (s22 + 1))
  else
   some (.out ())
def ZbS (k : Nat) (x0 : Graph) (x1 : Event) : Option Bool :=
 (Zba k x1 k 0).bind (LX.go fun p5 =>
 (ZaY k x1.Switch 1 x0.Switches).bind fun y10 =>
 if (y10) = true then
  (ZaY k x1.Port 0 4).bind fun y13 =>
  if (y13) = true then
   (ZaY k x1.Ver 1 200).bind fun y16 =>
   if (y16) = true then
    (ZaY k x1.Id 1 4294967295).bind fun y19 =>
    some y19
   else
    some false
  else
   some false
 else
  some false)
theorem Zjp : Tryz.prog.funcs[30]? = some Tryz.f30 := by kernel_rfl
theorem Zeu (k : Nat) (H : Heap) (x0 : Graph) (a0_0 : Option Addr) (c0_0 : Nat) (hx0_0 : RSl H a0_0 c0_0 x0.Links) (x1 : Event) (a1_0 : Option Addr) (c1_0 : Nat) (hx1_0 : RSl H a1_0 c1_0 x1.Sent) {r : Bool} (hr : ZbS k x0 x1 = some r) :
  Fn Tryz.prog 30 [.agg #[.int .i64 x0.Switches, .slice a0_0 x0.Links.length c0_0], (aE x1 a1_0 c1_0)] H [] fun H' v out => v = .bool r ∧ out = [] := by
 refine Zaq (args := [.agg #[.int .i64 x0.Switches, .slice a0_0 x0.Links.length c0_0], (aE x1 a1_0 c1_0)]) (n := 41) (Φ := fun r H' v out => v = .bool r ∧ out = []) hr Zjp rfl rfl rfl fun w => ?_
 refine s_eq (by rw [ZbS]) ?_
 refine Zae <| Zaa ?_
 refine ZbO rfl fun b1 => ?_
 refine ZbO rfl fun b3 => ?_
 refine Zah rfl <| Zac <| Zae <| Zae <| Zaa <| Zah rfl <| Zac ?_
 refine ZbR (fun p5 env own H' => env = [(2, .pointer (some ⟨b1, 0, none⟩)), (3, .pointer (some ⟨b3, 0, none⟩))] ∧ own = [.blk b1 (Zak [.int .i64 x0.Switches, .slice a0_0 x0.Links.length c0_0] 24), .blk b3 (Zak (cE x1 a1_0 c1_0) 44)] ∧ Hle H H') ?_ ?_
 ·rintro p5 _ _ H6 ⟨rfl, rfl, hle7⟩
  refine Zae <| Zaa <| o_fa rfl <| o_ld 1 rfl rfl rfl <| o_fa rfl <| o_ld 0 rfl rfl rfl ?_
  refine s_bg fun y10 h11 => ?_
  refine Zas rfl rfl (ZbG k _ x1.Switch 1 x0.Switches h11) ?_
  refine Zad rfl ?_
  refine Zax y10 (fun h12 => ?_) (fun h12 => ?_)
  ·refine Zaf rfl rfl h12 <| o_fa rfl <| Zaf rfl rfl h12 <| o_ld 1 rfl rfl rfl <| Zaf rfl rfl h12 ?_
   refine s_bg fun y13 h14 => ?_
   refine Zas rfl rfl (ZbG k _ x1.Port 0 4 h14) ?_
   refine Zan rfl h12 rfl <| Zad rfl ?_
   refine Zax y13 (fun h15 => ?_) (fun h15 => ?_)
   ·refine Zaf rfl rfl h15 <| o_fa rfl <| Zaf rfl rfl h15 <| o_ld 1 rfl rfl rfl <| Zaf rfl rfl h15 ?_
    refine s_bg fun y16 h17 => ?_
    refine Zas rfl rfl (ZbG k _ x1.Ver 1 200 h17) ?_
    refine Zan rfl h15 rfl <| Zad rfl ?_
    refine Zax y16 (fun h18 => ?_) (fun h18 => ?_)
    ·refine Zaf rfl rfl h18 <| o_fa rfl <| Zaf rfl rfl h18 <| o_ld 1 rfl rfl rfl <| Zaf rfl rfl h18 ?_
     refine s_bg fun y19 h20 => ?_
     refine Zas rfl rfl (ZbG k _ x1.Id 1 4294967295 h20) ?_
     refine Zan rfl h18 rfl <| Zah rfl <| Zac ?_
     exact s_r1 4 (.bool y19) Zjp ⟨rfl, rfl⟩
    ·refine Zab rfl rfl h18 <| Zab rfl rfl h18 <| Zab rfl rfl h18 <| Zal rfl h18 rfl <| Zah rfl <| Zac ?_
     exact s_r1 4 (.bool false) Zjp ⟨rfl, rfl⟩
   ·refine Zab rfl rfl h15 <| Zab rfl rfl h15 <| Zab rfl rfl h15 <| Zal rfl h15 rfl <| Zad rfl <| Zab rfl rfl rfl <| Zab rfl rfl rfl <| Zab rfl rfl rfl <| Zal rfl rfl rfl <| Zah rfl <| Zac ?_
    exact s_r1 4 (.bool false) Zjp ⟨rfl, rfl⟩
  ·refine Zab rfl rfl h12 <| Zab rfl rfl h12 <| Zab rfl rfl h12 <| Zal rfl h12 rfl <| Zad rfl <| Zab rfl rfl rfl <| Zab rfl rfl rfl <| Zab rfl rfl rfl <| Zal rfl rfl rfl <| Zad rfl <| Zab rfl rfl rfl <| Zab rfl rfl rfl ?_
   refine Zab rfl rfl rfl <| Zal rfl rfl rfl <| Zah rfl <| Zac ?_
   exact s_r1 4 (.bool false) Zjp ⟨rfl, rfl⟩
 ·intro J21
  refine Zat ?_
  refine Zag (env' := [(2, .pointer (some ⟨b1, 0, none⟩)), (3, .pointer (some ⟨b3, 0, none⟩)), (5, .int .i64 0)]) (by exact ⟨rfl, rfl, rfl, trivial⟩) ?_
  refine Zam (own' := [.blk b1 (Zak [.int .i64 x0.Switches, .slice a0_0 x0.Links.length c0_0] 24), .blk b3 (Zak (cE x1 a1_0 c1_0) 44)]) (.cons_cons _ (.cons_cons _ .slnil)) ?_
  refine Za2 (fun q s22 => Zba k x1 q s22) (fun s22 env own H' => env = [(2, .pointer (some ⟨b1, 0, none⟩)), (3, .pointer (some ⟨b3, 0, none⟩)), (5, .int .i64 s22)] ∧ own = [.blk b1 (Zak [.int .i64 x0.Switches, .slice a0_0 x0.Links.length c0_0] 24), .blk b3 (Zak (cE x1 a1_0 c1_0) 44)] ∧ Hle H H') (fun _ => rfl) ?_ k 0 ⟨rfl, rfl, .refl _⟩
  rintro q23 ih24 s22 _ _ H25 ⟨rfl, rfl, hle26⟩
  refine s_eq (by rw [Zba]) ?_
  have hs28 := RSl.mono hle26 hx1_0
  refine Zae <| Zae <| Zaa <| Zad rfl <| o_fa rfl <| o_ld 1 rfl rfl rfl <| ZaG rfl <| o_lt rfl rfl <| Zac ?_
  refine Zao rfl (fun h29 => ?_) (fun h29 => ?_)
  ·refine Zar <| Zae <| Zat <| Zae <| Zaa <| o_fa rfl <| o_ld 1 rfl rfl rfl <| Zad rfl ?_
   refine Zce hs28 rfl rfl fun y30 bk32 of33 h31 hc34 => ?_
   refine o_fa rfl ?_
   refine ZaP 0 hc34 rfl rfl rfl ?_
   refine s_bg fun y35 h36 => ?_
   refine Zas rfl rfl (ZbG k _ y30.Port 0 4 h36) ?_
   refine Zdc rfl <| Zac ?_
   refine Zao rfl (fun h37 => ?_) (fun h37 => ?_)
   ·refine Zae <| Zaa <| Zah rfl <| Zac <| ZbQ ?_
    exact s_r1 4 (.bool false) Zjp ⟨rfl, rfl⟩
   ·refine Zar <| Zav <| Zaa <| Zad rfl <| ZbM rfl rfl <| Zah rfl <| Zac ?_
    exact Zag (by exact ⟨rfl, rfl, rfl, trivial⟩) (Zam (by exact (.cons_cons _ (.cons_cons _ .slnil))) (ih24 (w64 (s22 + 1)) _ _ _ ⟨rfl, rfl, hle26⟩))
  ·refine Zbf rfl ?_
   exact Zag (by exact ⟨rfl, rfl, trivial⟩) (Zam (by exact (.cons_cons _ (.cons_cons _ .slnil))) (J21 () _ _ _ ⟨rfl, rfl, hle26⟩))
def Zbi (k : Nat) (x0 : (List Version)) (x1 : Event) : Nat → Int → Option (LX (Bool) (Unit))
 | 0, _ => none
 | q8 + 1, s7 =>
  if (decide (s7 < (x0.length : Int))) = true then
   (rd x0 s7).bind fun y15 =>
   if (y15.Ver == x1.Ver) = true then
    if ((x1.Sent.length : Int) == 0) = true then
     some (.ret true)
    else
     (rd x0 s7).bind fun y364 =>
     (Zbb k y364.Nodes x1.Switch x1.Port x1.H x1.Sent).bind fun y375 =>
     some (.ret y375)
   else
    Zbi k x0 x1 q8 (w64 (s7 + 1))
  else
   some (.out ())
def ZbY (k : Nat) (x0 : (List Version)) (x1 : Event) : Option Bool :=
 (Zbi k x0 x1 k 0).bind (LX.go fun p3 =>
 some false)
theorem Zln : Tryz.prog.funcs[32]? = some Tryz.f32 := by kernel_rfl
theorem Zey (k : Nat) (H : Heap) (x0 : (List Version)) (a0_0 : Option Addr) (c0_0 : Nat) (hx0_0 : RSl H a0_0 c0_0 x0) (x1 : Event) (a1_0 : Option Addr) (c1_0 : Nat) (hx1_0 : RSl H a1_0 c1_0 x1.Sent) {r : Bool} (hr : ZbY k x0 x1 = some r) :
  Fn Tryz.prog 32 [.slice a0_0 x0.length c0_0, (aE x1 a1_0 c1_0)] H [] fun H' v out => v = .bool r ∧ out = [] := by
 refine Zaq (args := [.slice a0_0 x0.length c0_0, (aE x1 a1_0 c1_0)]) (n := 40) (Φ := fun r H' v out => v = .bool r ∧ out = []) hr Zln rfl rfl rfl fun w => ?_
 refine s_eq (by rw [ZbY]) ?_
 refine Zae <| Zaa ?_
 refine ZbO rfl fun b1 => ?_
 refine Zah rfl <| Zac <| Zae <| Zae <| Zaa <| Zah rfl <| Zac ?_
 refine ZbR (fun p3 env own H' => env = [] ∧ own = [] ∧ Hle H H') ?_ ?_
 ·rintro p3 _ _ H4 ⟨rfl, rfl, hle5⟩
  refine Zae <| Zaa <| Zah rfl <| Zac ?_
  exact s_r1 4 (.bool false) Zln ⟨rfl, rfl⟩
 ·intro J6
  refine Zat ?_
  refine Zag (env' := [(0, .slice a0_0 x0.length c0_0), (3, .pointer (some ⟨b1, 0, none⟩)), (5, .int .i64 0)]) (by exact ⟨rfl, rfl, rfl, trivial⟩) ?_
  refine Zam (own' := [.blk b1 (Zak (cE x1 a1_0 c1_0) 44)]) (.cons_cons _ .slnil) ?_
  refine Za2 (fun q s7 => Zbi k x0 x1 q s7) (fun s7 env own H' => env = [(0, .slice a0_0 x0.length c0_0), (3, .pointer (some ⟨b1, 0, none⟩)), (5, .int .i64 s7)] ∧ own = [.blk b1 (Zak (cE x1 a1_0 c1_0) 44)] ∧ Hle H H') (fun _ => rfl) ?_ k 0 ⟨rfl, rfl, .refl _⟩
  rintro q8 ih9 s7 _ _ H10 ⟨rfl, rfl, hle11⟩
  refine s_eq (by rw [Zbi]) ?_
  have hs12 := RSl.mono hle11 hx0_0
  have hs13 := RSl.mono hle11 hx1_0
  refine Zae <| Zae <| Zaa <| Zad rfl <| Zad rfl <| ZaG rfl <| o_lt rfl rfl <| Zac ?_
  refine Zao rfl (fun h14 => ?_) (fun h14 => ?_)
  ·refine Zar <| Zae <| Zat <| Zae ?_
   refine s_bg fun y15 h25 => ?_
   refine Za8 [(fun H v g => v = Value.slice a0_0 x0.length c0_0 ∧ g = [] ∧ RSl H a0_0 c0_0 x0),
   (fV (.int .i64 s7)),
   (fun H v g => ∃ bk27 of28 a32 c33, v = Value.pointer (some ⟨bk27, of28, none⟩) ∧ g = [] ∧ RSl H a32 c33 y15.Nodes ∧ Zaj H bk27 of28 [.int .i64 y15.Ver, .slice a32 y15.Nodes.length c33]),
   (fun H v g => ∃ bk27 of28 a32 c33, v = Value.pointer (some ⟨bk27, of28, none⟩) ∧ g = [] ∧ RSl H a32 c33 y15.Nodes ∧ Zaj H bk27 of28 [.int .i64 y15.Ver, .slice a32 y15.Nodes.length c33]),
   (fV (.int .i64 y15.Ver)),
   (fV (.pointer (some ⟨b1, 2, none⟩))),
   (fV (.int .i64 x1.Ver)),
   (fV (.bool (y15.Ver == x1.Ver)))] [[], [], [], [], [], [], [], []] mixed ⟨fun _ _ _ _ hle ⟨e1, e2, h0_⟩ => ⟨e1, e2, RSl.mono hle h0_⟩, m0, fun _ _ _ _ hle ⟨bk27, of28, a32, c33, e1, e2, h0_, h1_⟩ => ⟨_, _, _, _, e1, e2, RSl.mono hle h0_, Zaj.mono hle h1_⟩, fun _ _ _ _ hle ⟨bk27, of28, a32, c33, e1, e2, h0_, h1_⟩ => ⟨_, _, _, _, e1, e2, RSl.mono hle h0_, Zaj.mono hle h1_⟩, m0, m0, m0, m0, trivial⟩ (by kernel_rfl) (by kernel_rfl) rfl (by kernel_rfl) rfl rfl ?_ ?_
   ·refine dc (fun _ _ _ _ hle39 _ _ => ?_) ?_
    ·have hs42 := RSl.mono hle39 hs12
     refine Zag (env' := [(0, .slice a0_0 x0.length c0_0)]) (by exact ⟨rfl, trivial⟩) ?_
     refine Zad rfl ?_
     exact Zai (.slice a0_0 x0.length c0_0) ⟨rfl, rfl, hs42⟩
    refine dc (fun _ _ _ _ _ _ _ => ?_) ?_
    ·refine Zag (env' := [(5, .int .i64 s7)]) (by exact ⟨rfl, trivial⟩) ?_
     refine Zad rfl ?_
     exact Zai (.int .i64 s7) ⟨rfl, rfl⟩
    refine Za3 ?_ ?_
    ·intro _ _ H52 fr53 hle54 hd55
     obtain ⟨hv57, hg58, hp59⟩ := hd55 0 (by decide)
     obtain ⟨hv60, hg61⟩ := hd55 1 (by decide)
     refine ⟨_, (rd x0 s7).bind some, by rw [h25]; rfl, fun _ => ?_⟩
     refine Zag (env' := [(12, .slice a0_0 x0.length c0_0), (13, .int .i64 s7)]) (by exact ⟨congrArg some hv57, congrArg some hv60, trivial⟩) ?_
     refine o_ix hp59 rfl rfl fun y15 bk63 of64 vs66 h62 hc65 hr67 => ?_
     obtain ⟨a68, c69, rfl, hs70⟩ := hr67
     obtain rfl := Option.some.inj (h25.symm.trans h62)
     exact Zai (.pointer (some ⟨bk63, of64, none⟩)) ⟨bk63, of64, a68, c69, rfl, rfl, hs70, hc65⟩
    refine dc (fun _ _ _ _ _ hd76 _ => ?_) ?_
    ·obtain ⟨bk78, of79, a80, c81, hv82, hg83, hp84, hp85⟩ := hd76 2 (by decide)
     refine Zag (env' := [(14, .pointer (some ⟨bk78, of79, none⟩))]) (by exact ⟨congrArg some hv82, trivial⟩) ?_
     refine o_fa rfl ?_
     exact Zai (.pointer (some ⟨bk78, of79, none⟩)) ⟨bk78, of79, a80, c81, rfl, rfl, hp84, hp85⟩
    refine dc (fun _ _ _ _ _ hd91 _ => ?_) ?_
    ·obtain ⟨bk93, of94, a95, c96, hv97, hg98, hp99, hp100⟩ := hd91 3 (by decide)
     refine Zag (env' := [(15, .pointer (some ⟨bk93, of94, none⟩))]) (by exact ⟨congrArg some hv97, trivial⟩) ?_
     refine ZaP 0 hp100 rfl rfl rfl ?_
     exact Zai (.int .i64 y15.Ver) ⟨rfl, rfl⟩
    refine dc (fun _ _ _ _ _ _ _ => ?_) ?_
    ·refine Zag (env' := [(3, .pointer (some ⟨b1, 0, none⟩))]) (by exact ⟨rfl, trivial⟩) ?_
     refine o_fa rfl ?_
     exact Zai (.pointer (some ⟨b1, 2, none⟩)) ⟨rfl, rfl⟩
    refine dc1 5 (fun _ _ _ _ _ _ => ?_) ?_
    ·refine o_ld 0 rfl rfl rfl ?_
     exact Zai (.int .i64 x1.Ver) ⟨rfl, rfl⟩
    refine dc2 4 6 (fun _ _ _ _ _ _ => ?_) ?_
    ·refine o_eq rfl rfl ?_
     exact Zai (.bool (y15.Ver == x1.Ver)) ⟨rfl, rfl⟩
    exact dnil
   ·intro V132 G133 H130 hle131 hF134
    have hs135 := RSl.mono hle131 hs12
    have hs136 := RSl.mono hle131 hs13
    obtain ⟨hv137, hg138⟩ := hF134 7 (show 7 < 8 by decide)
    refine Zag (env' := [(19, .bool (y15.Ver == x1.Ver)), (0, .slice a0_0 x0.length c0_0), (3, .pointer (some ⟨b1, 0, none⟩)), (5, .int .i64 s7), (6, .int .i64 s7), (7, .slice a0_0 x0.length c0_0), (8, .int .i64 (x0.length : Int)), (9, .bool (decide (s7 < (x0.length : Int))))]) (by exact ⟨congrArg some hv137, rfl, rfl, rfl, rfl, rfl, rfl, rfl, trivial⟩) ?_
    refine Zam (List.sublist_append_left _ _) ?_
    refine Zac ?_
    refine Zao rfl (fun h139 => ?_) (fun h139 => ?_)
    ·refine Zae ?_
     refine Zax ((x1.Sent.length : Int) == 0) (fun h140 => ?_) (fun h140 => ?_)
     ·refine Za8 [(fV (.pointer (some ⟨b1, 7, none⟩))),
   (fun H v g => v = Value.slice a1_0 x1.Sent.length c1_0 ∧ g = [] ∧ RSl H a1_0 c1_0 x1.Sent),
   (fV (.int .i64 (x1.Sent.length : Int))),
   (fV (.bool ((x1.Sent.length : Int) == 0))),
   (fV (.bool ((x1.Sent.length : Int) == 0))),
   uF,
   uF,
   uF,
   uF,
   uF,
   uF,
   uF,
   uF,
   uF,
   uF,
   uF,
   uF,
   uF,
   uF,
   (fV (.bool true))] [[], [], [], [], [], [], [], [], [], [], [], [], [], [], [], [], [], [], [], []] mixed ⟨m0, fun _ _ _ _ hle ⟨e1, e2, h0_⟩ => ⟨e1, e2, RSl.mono hle h0_⟩, m0, m0, m0, m0, m0, m0, m0, m0, m0, m0, m0, m0, m0, m0, m0, m0, m0, m0, trivial⟩ (by kernel_rfl) (by kernel_rfl) rfl (by kernel_rfl) rfl rfl ?_ ?_
      ·refine dc (fun _ _ _ _ _ _ _ => ?_) ?_
       ·refine Zag (env' := [(3, .pointer (some ⟨b1, 0, none⟩))]) (by exact ⟨rfl, trivial⟩) ?_
        refine o_fa rfl ?_
        exact Zai (.pointer (some ⟨b1, 7, none⟩)) ⟨rfl, rfl⟩
       refine dc1 0 (fun _ _ _ _ hle153 _ => ?_) ?_
       ·have hs156 := RSl.mono hle153 hs136
        refine o_ld 0 rfl rfl rfl ?_
        exact Zai (.slice a1_0 x1.Sent.length c1_0) ⟨rfl, rfl, hs156⟩
       refine dc (fun _ _ _ _ _ hd164 _ => ?_) ?_
       ·obtain ⟨hv166, hg167, hp168⟩ := hd164 1 (by decide)
        refine Zag (env' := [(21, .slice a1_0 x1.Sent.length c1_0)]) (by exact ⟨congrArg some hv166, trivial⟩) ?_
        refine ZaG rfl ?_
        exact Zai (.int .i64 (x1.Sent.length : Int)) ⟨rfl, rfl⟩
       refine dc1 2 (fun _ _ _ _ _ _ => ?_) ?_
       ·refine o_eq rfl rfl ?_
        exact Zai (.bool ((x1.Sent.length : Int) == 0)) ⟨rfl, rfl⟩
       refine dc1 3 (fun _ _ _ _ _ _ => ?_) ?_
       ·refine Zad rfl ?_
        exact Zai (.bool ((x1.Sent.length : Int) == 0)) ⟨rfl, rfl⟩
       refine dcU 4 h140 ?_
       refine dcU 4 h140 ?_
       refine dcU 4 h140 ?_
       refine dcU 4 h140 ?_
       refine dcU 4 h140 ?_
       refine dcU 4 h140 ?_
       refine dcU 4 h140 ?_
       refine dcU 4 h140 ?_
       refine dcU 4 h140 ?_
       refine dcU 4 h140 ?_
       refine dcU 4 h140 ?_
       refine dcU 4 h140 ?_
       refine dcU 4 h140 ?_
       refine dcU 4 h140 ?_
       refine dc2 4 18 (fun _ _ _ _ _ _ => ?_) ?_
       ·refine Zan rfl h140 rfl ?_
        exact Zai (.bool true) ⟨rfl, rfl⟩
       exact dnil
      ·intro V357 G358 H355 hle356 hF359
       obtain ⟨hv362, hg363⟩ := hF359 19 (show 19 < 20 by decide)
       refine Zag (env' := [(39, .bool true), (0, .slice a0_0 x0.length c0_0), (3, .pointer (some ⟨b1, 0, none⟩)), (5, .int .i64 s7), (6, .int .i64 s7), (7, .slice a0_0 x0.length c0_0), (8, .int .i64 (x0.length : Int)), (9, .bool (decide (s7 < (x0.length : Int)))), (19, .bool (y15.Ver == x1.Ver))]) (by exact ⟨congrArg some hv362, rfl, rfl, rfl, rfl, rfl, rfl, rfl, rfl, trivial⟩) ?_
       refine Zam (List.sublist_append_left _ _) ?_
       refine Zah rfl <| Zac <| ZbQ ?_
       exact s_r1 4 (.bool true) Zln ⟨rfl, rfl⟩
     ·refine s_bg fun y364 h374 => ?_
      refine s_bg fun y375 h377 => ?_
      refine Za8 [(fV (.pointer (some ⟨b1, 7, none⟩))),
   (fun H v g => v = Value.slice a1_0 x1.Sent.length c1_0 ∧ g = [] ∧ RSl H a1_0 c1_0 x1.Sent),
   (fV (.int .i64 (x1.Sent.length : Int))),
   (fV (.bool ((x1.Sent.length : Int) == 0))),
   (fV (.bool ((x1.Sent.length : Int) == 0))),
   (fun H v g => v = Value.slice a0_0 x0.length c0_0 ∧ g = [] ∧ RSl H a0_0 c0_0 x0),
   (fV (.int .i64 s7)),
   (fun H v g => ∃ bk379 of380 a384 c385, v = Value.pointer (some ⟨bk379, of380, none⟩) ∧ g = [] ∧ RSl H a384 c385 y364.Nodes ∧ Zaj H bk379 of380 [.int .i64 y364.Ver, .slice a384 y364.Nodes.length c385]),
   (fun H v g => ∃ bk379 of380 a384 c385, v = Value.pointer (some ⟨bk379, of380 + 1, none⟩) ∧ g = [] ∧ RSl H a384 c385 y364.Nodes ∧ Zaj H bk379 of380 [.int .i64 y364.Ver, .slice a384 y364.Nodes.length c385]),
   (fun H v g => ∃ a384 c385, v = Value.slice a384 y364.Nodes.length c385 ∧ g = [] ∧ RSl H a384 c385 y364.Nodes),
   (fV (.pointer (some ⟨b1, 0, none⟩))),
   (fV (.int .i64 x1.Switch)),
   (fV (.pointer (some ⟨b1, 1, none⟩))),
   (fV (.int .i64 x1.Port)),
   (fV (.pointer (some ⟨b1, 4, none⟩))),
   (fV (.agg #[.int .u8 x1.H.e0, .int .u8 x1.H.e1, .int .u8 x1.H.e2])),
   (fV (.pointer (some ⟨b1, 7, none⟩))),
   (fun H v g => v = Value.slice a1_0 x1.Sent.length c1_0 ∧ g = [] ∧ RSl H a1_0 c1_0 x1.Sent),
   (fV (.bool y375)),
   (fV (.bool y375))] [[], [], [], [], [], [], [], [], [], [], [], [], [], [], [], [], [], [], [], []] mixed ⟨m0, fun _ _ _ _ hle ⟨e1, e2, h0_⟩ => ⟨e1, e2, RSl.mono hle h0_⟩, m0, m0, m0, fun _ _ _ _ hle ⟨e1, e2, h0_⟩ => ⟨e1, e2, RSl.mono hle h0_⟩, m0, fun _ _ _ _ hle ⟨bk379, of380, a384, c385, e1, e2, h0_, h1_⟩ => ⟨_, _, _, _, e1, e2, RSl.mono hle h0_, Zaj.mono hle h1_⟩, fun _ _ _ _ hle ⟨bk379, of380, a384, c385, e1, e2, h0_, h1_⟩ => ⟨_, _, _, _, e1, e2, RSl.mono hle h0_, Zaj.mono hle h1_⟩, fun _ _ _ _ hle ⟨a384, c385, e1, e2, h0_⟩ => ⟨_, _, e1, e2, RSl.mono hle h0_⟩, m0, m0, m0, m0, m0, m0, m0, fun _ _ _ _ hle ⟨e1, e2, h0_⟩ => ⟨e1, e2, RSl.mono hle h0_⟩, m0, m0, trivial⟩ (by kernel_rfl) (by kernel_rfl) rfl (by kernel_rfl) rfl rfl ?_ ?_
      ·refine dc (fun _ _ _ _ _ _ _ => ?_) ?_
       ·refine Zag (env' := [(3, .pointer (some ⟨b1, 0, none⟩))]) (by exact ⟨rfl, trivial⟩) ?_
        refine o_fa rfl ?_
        exact Zai (.pointer (some ⟨b1, 7, none⟩)) ⟨rfl, rfl⟩
       refine dc1 0 (fun _ _ _ _ hle400 _ => ?_) ?_
       ·have hs403 := RSl.mono hle400 hs136
        refine o_ld 0 rfl rfl rfl ?_
        exact Zai (.slice a1_0 x1.Sent.length c1_0) ⟨rfl, rfl, hs403⟩
       refine dc (fun _ _ _ _ _ hd411 _ => ?_) ?_
       ·obtain ⟨hv413, hg414, hp415⟩ := hd411 1 (by decide)
        refine Zag (env' := [(21, .slice a1_0 x1.Sent.length c1_0)]) (by exact ⟨congrArg some hv413, trivial⟩) ?_
        refine ZaG rfl ?_
        exact Zai (.int .i64 (x1.Sent.length : Int)) ⟨rfl, rfl⟩
       refine dc1 2 (fun _ _ _ _ _ _ => ?_) ?_
       ·refine o_eq rfl rfl ?_
        exact Zai (.bool ((x1.Sent.length : Int) == 0)) ⟨rfl, rfl⟩
       refine dc1 3 (fun _ _ _ _ _ _ => ?_) ?_
       ·refine Zad rfl ?_
        exact Zai (.bool ((x1.Sent.length : Int) == 0)) ⟨rfl, rfl⟩
       refine dc1 4 (fun _ _ _ _ hle438 _ => ?_) ?_
       ·have hs441 := RSl.mono hle438 hs135
        refine Zaf rfl rfl h140 <| Zad rfl ?_
        exact Zai (.slice a0_0 x0.length c0_0) ⟨rfl, rfl, hs441⟩
       refine dc1 4 (fun _ _ _ _ _ _ => ?_) ?_
       ·refine Zaf rfl rfl h140 <| Zad rfl ?_
        exact Zai (.int .i64 s7) ⟨rfl, rfl⟩
       refine Za3 ?_ ?_
       ·intro _ _ H455 fr456 hle457 hd458
        obtain ⟨hv460, hg461⟩ := hd458 4 (by decide)
        obtain ⟨hv462, hg463, hp464⟩ := hd458 5 (by decide)
        obtain ⟨hv465, hg466⟩ := hd458 6 (by decide)
        refine ⟨_, (rd x0 s7).bind some, by rw [h374]; rfl, fun _ => ?_⟩
        refine Zag (env' := [(24, .bool ((x1.Sent.length : Int) == 0)), (25, .slice a0_0 x0.length c0_0), (26, .int .i64 s7)]) (by exact ⟨congrArg some hv460, congrArg some hv462, congrArg some hv465, trivial⟩) ?_
        refine Zaf rfl rfl h140 ?_
        refine o_ix hp464 rfl rfl fun y364 bk468 of469 vs471 h467 hc470 hr472 => ?_
        obtain ⟨a473, c474, rfl, hs475⟩ := hr472
        obtain rfl := Option.some.inj (h374.symm.trans h467)
        exact Zai (.pointer (some ⟨bk468, of469, none⟩)) ⟨bk468, of469, a473, c474, rfl, rfl, hs475, hc470⟩
       refine dc (fun _ _ _ _ _ hd481 _ => ?_) ?_
       ·obtain ⟨hv483, hg484⟩ := hd481 4 (by decide)
        obtain ⟨bk485, of486, a487, c488, hv489, hg490, hp491, hp492⟩ := hd481 7 (by decide)
        refine Zag (env' := [(24, .bool ((x1.Sent.length : Int) == 0)), (27, .pointer (some ⟨bk485, of486, none⟩))]) (by exact ⟨congrArg some hv483, congrArg some hv489, trivial⟩) ?_
        refine Zaf rfl rfl h140 <| o_fa rfl ?_
        exact Zai (.pointer (some ⟨bk485, of486 + 1, none⟩)) ⟨bk485, of486, a487, c488, rfl, rfl, hp491, hp492⟩
       refine dc (fun _ _ _ _ _ hd498 _ => ?_) ?_
       ·obtain ⟨hv500, hg501⟩ := hd498 4 (by decide)
        obtain ⟨bk502, of503, a504, c505, hv506, hg507, hp508, hp509⟩ := hd498 8 (by decide)
        refine Zag (env' := [(24, .bool ((x1.Sent.length : Int) == 0)), (28, .pointer (some ⟨bk502, of503 + 1, none⟩))]) (by exact ⟨congrArg some hv500, congrArg some hv506, trivial⟩) ?_
        refine Zaf rfl rfl h140 ?_
        refine ZaP 1 hp509 rfl rfl rfl ?_
        exact Zai (.slice a504 y364.Nodes.length c505) ⟨a504, c505, rfl, rfl, hp508⟩
       refine dc1 4 (fun _ _ _ _ _ _ => ?_) ?_
       ·refine Zaf rfl rfl h140 <| o_fa rfl ?_
        exact Zai (.pointer (some ⟨b1, 0, none⟩)) ⟨rfl, rfl⟩
       refine dc2 4 10 (fun _ _ _ _ _ _ => ?_) ?_
       ·refine Zaf rfl rfl h140 <| o_ld 0 rfl rfl rfl ?_
        exact Zai (.int .i64 x1.Switch) ⟨rfl, rfl⟩
       refine dc1 4 (fun _ _ _ _ _ _ => ?_) ?_
       ·refine Zaf rfl rfl h140 <| o_fa rfl ?_
        exact Zai (.pointer (some ⟨b1, 1, none⟩)) ⟨rfl, rfl⟩
       refine dc2 4 12 (fun _ _ _ _ _ _ => ?_) ?_
       ·refine Zaf rfl rfl h140 <| o_ld 0 rfl rfl rfl ?_
        exact Zai (.int .i64 x1.Port) ⟨rfl, rfl⟩
       refine dc1 4 (fun _ _ _ _ _ _ => ?_) ?_
       ·refine Zaf rfl rfl h140 <| o_fa rfl ?_
        exact Zai (.pointer (some ⟨b1, 4, none⟩)) ⟨rfl, rfl⟩
       refine dc2 4 14 (fun _ _ _ _ _ _ => ?_) ?_
       ·refine Zaf rfl rfl h140 <| o_ld 0 rfl rfl rfl ?_
        exact Zai (.agg #[.int .u8 x1.H.e0, .int .u8 x1.H.e1, .int .u8 x1.H.e2]) ⟨rfl, rfl⟩
       refine dc1 4 (fun _ _ _ _ _ _ => ?_) ?_
       ·refine Zaf rfl rfl h140 <| o_fa rfl ?_
        exact Zai (.pointer (some ⟨b1, 7, none⟩)) ⟨rfl, rfl⟩
       refine dc2 4 16 (fun _ _ _ _ hle590 _ => ?_) ?_
       ·have hs593 := RSl.mono hle590 hs136
        refine Zaf rfl rfl h140 <| o_ld 0 rfl rfl rfl ?_
        exact Zai (.slice a1_0 x1.Sent.length c1_0) ⟨rfl, rfl, hs593⟩
       refine Za3 ?_ ?_
       ·intro _ _ H600 fr601 hle602 hd603
        obtain ⟨hv605, hg606⟩ := hd603 4 (by decide)
        obtain ⟨a607, c608, hv609, hg610, hp611⟩ := hd603 9 (by decide)
        obtain ⟨hv612, hg613⟩ := hd603 11 (by decide)
        obtain ⟨hv614, hg615⟩ := hd603 13 (by decide)
        obtain ⟨hv616, hg617⟩ := hd603 15 (by decide)
        obtain ⟨hv618, hg619, hp620⟩ := hd603 17 (by decide)
        refine ⟨_, (Zbb k y364.Nodes x1.Switch x1.Port x1.H x1.Sent).bind some, by rw [h377]; rfl, fun _ => ?_⟩
        refine Zag (env' := [(24, .bool ((x1.Sent.length : Int) == 0)), (29, .slice a607 y364.Nodes.length c608), (31, .int .i64 x1.Switch), (33, .int .i64 x1.Port), (35, .agg #[.int .u8 x1.H.e0, .int .u8 x1.H.e1, .int .u8 x1.H.e2]), (37, .slice a1_0 x1.Sent.length c1_0)]) (by exact ⟨congrArg some hv605, congrArg some hv609, congrArg some hv612, congrArg some hv614, congrArg some hv616, congrArg some hv618, trivial⟩) ?_
        refine Zaf rfl rfl h140 ?_
        refine s_bg fun y375 h621 => ?_
        refine Zas rfl rfl (ZeC k _ y364.Nodes _ _ hp611 x1.Switch x1.Port x1.H x1.Sent _ _ hp620 h621) ?_
        obtain rfl := Option.some.inj (h377.symm.trans h621)
        exact Zai (.bool y375) ⟨rfl, rfl⟩
       refine dc2 4 18 (fun _ _ _ _ _ _ => ?_) ?_
       ·refine Zal rfl h140 rfl ?_
        exact Zai (.bool y375) ⟨rfl, rfl⟩
       exact dnil
      ·intro V635 G636 H633 hle634 hF637
       obtain ⟨hv640, hg641⟩ := hF637 19 (show 19 < 20 by decide)
       refine Zag (env' := [(39, .bool y375), (0, .slice a0_0 x0.length c0_0), (3, .pointer (some ⟨b1, 0, none⟩)), (5, .int .i64 s7), (6, .int .i64 s7), (7, .slice a0_0 x0.length c0_0), (8, .int .i64 (x0.length : Int)), (9, .bool (decide (s7 < (x0.length : Int)))), (19, .bool (y15.Ver == x1.Ver))]) (by exact ⟨congrArg some hv640, rfl, rfl, rfl, rfl, rfl, rfl, rfl, rfl, trivial⟩) ?_
       refine Zam (List.sublist_append_left _ _) ?_
       refine Zah rfl <| Zac <| ZbQ ?_
       exact s_r1 4 (.bool y375) Zln ⟨rfl, rfl⟩
    ·refine Zar <| Zav <| Zaa <| Zad rfl <| ZbM rfl rfl <| Zah rfl <| Zac ?_
     exact Zag (by exact ⟨rfl, rfl, rfl, trivial⟩) (Zam (by exact (.cons_cons _ .slnil)) (ih9 (w64 (s7 + 1)) _ _ _ ⟨rfl, rfl, (Hle.trans hle11 hle131)⟩))
  ·refine Zbf rfl ?_
   exact Zag (by exact trivial) (Zam (by exact (.cons _ .slnil)) (J6 () _ _ _ ⟨rfl, rfl, hle11⟩))
def ZbH (k : Nat) (x0 : (List Event)) (x1 : Int) : Nat → Int → Option (LX (Bool) (Unit))
 | 0, _ => none
 | q6 + 1, s5 =>
  if (decide (s5 < x1)) = true then
   ((rd x0 s5).bind fun y18 =>
    (rd x0 x1).bind fun y29 =>
    if (y18.Id == y29.Id) = true then
     (rd x0 s5).bind fun y41 =>
     (rd x0 x1).bind fun y52 =>
     if (y41.Ver != y52.Ver) = true then
      some true
     else
      (rd x0 x1).bind fun y525 =>
      some (y525.Port == 0)
    else
     some false).bind fun p12 =>
   if (p12) = true then
    some (.ret false)
   else
    ZbH k x0 x1 q6 (w64 (s5 + 1))
  else
   some (.out ())
def ZcL (k : Nat) (x0 : (List Event)) (x1 : Int) : Option Bool :=
 (ZbH k x0 x1 k 0).bind (LX.go fun p1 =>
 some true)
theorem ZmW : Tryz.prog.funcs[33]? = some Tryz.f33 := by kernel_rfl
theorem Zfj (k : Nat) (H : Heap) (x0 : (List Event)) (a0_0 : Option Addr) (c0_0 : Nat) (hx0_0 : RSl H a0_0 c0_0 x0) (x1 : Int) {r : Bool} (hr : ZcL k x0 x1 = some r) :
  Fn Tryz.prog 33 [.slice a0_0 x0.length c0_0, .int .i64 x1] H [] fun H' v out => v = .bool r ∧ out = [] := by
 refine Zaq (args := [.slice a0_0 x0.length c0_0, .int .i64 x1]) (n := 43) (Φ := fun r H' v out => v = .bool r ∧ out = []) hr ZmW rfl rfl rfl fun w => ?_
 refine s_eq (by rw [ZcL]) ?_
 refine Zae <| Zaa <| Zah rfl <| Zac <| Zae <| Zae <| Zaa <| Zah rfl <| Zac ?_
 refine ZbR (fun p1 env own H' => env = [] ∧ own = [] ∧ Hle H H') ?_ ?_
 ·rintro p1 _ _ H2 ⟨rfl, rfl, hle3⟩
  refine Zae <| Zaa <| Zah rfl <| Zac ?_
  exact s_r1 4 (.bool true) ZmW ⟨rfl, rfl⟩
 ·intro J4
  refine Zat ?_
  refine Zag (env' := [(0, .slice a0_0 x0.length c0_0), (1, .int .i64 x1), (5, .int .i64 0)]) (by exact ⟨rfl, rfl, rfl, trivial⟩) ?_
  refine Zam (own' := []) .slnil ?_
  refine Za2 (fun q s5 => ZbH k x0 x1 q s5) (fun s5 env own H' => env = [(0, .slice a0_0 x0.length c0_0), (1, .int .i64 x1), (5, .int .i64 s5)] ∧ own = [] ∧ Hle H H') (fun _ => rfl) ?_ k 0 ⟨rfl, rfl, .refl _⟩
  rintro q6 ih7 s5 _ _ H8 ⟨rfl, rfl, hle9⟩
  refine s_eq (by rw [ZbH]) ?_
  have hs10 := RSl.mono hle9 hx0_0
  refine Zae <| Zae <| Zaa <| Zad rfl <| Zad rfl <| o_lt rfl rfl <| Zac ?_
  refine Zao rfl (fun h11 => ?_) (fun h11 => ?_)
  ·refine Zar <| Zae <| Zat <| Zae ?_
   refine Zb3 (fun p12 env own H' => env = [(0, .slice a0_0 x0.length c0_0), (1, .int .i64 x1), (5, .int .i64 s5), (42, .bool p12)] ∧ own = [] ∧ Hle H8 H') ?_ ?_
   ·rintro p12 _ _ H13 ⟨rfl, rfl, hle14⟩
    refine Zao rfl (fun h16 => ?_) (fun h16 => ?_)
    ·refine Zae <| Zaa <| Zah rfl <| Zac <| ZbQ ?_
     exact s_r1 4 (.bool false) ZmW ⟨rfl, rfl⟩
    ·refine Zar <| Zav <| Zaa <| Zad rfl <| ZbM rfl rfl <| Zah rfl <| Zac ?_
     exact Zag (by exact ⟨rfl, rfl, rfl, trivial⟩) (Zam (by exact .slnil) (ih7 (w64 (s5 + 1)) _ _ _ ⟨rfl, rfl, (Hle.trans hle9 hle14)⟩))
   ·intro J17
    refine s_bg fun y18 h28 => ?_
    refine s_bg fun y29 h39 => ?_
    refine Zax (y18.Id == y29.Id) (fun h40 => ?_) (fun h40 => ?_)
    ·refine s_bg fun y41 h51 => ?_
     refine s_bg fun y52 h62 => ?_
     refine Zax (y41.Ver != y52.Ver) (fun h63 => ?_) (fun h63 => ?_)
     ·refine Za8 [(fun H v g => v = Value.slice a0_0 x0.length c0_0 ∧ g = [] ∧ RSl H a0_0 c0_0 x0),
   (fV (.int .i64 s5)),
   (fun H v g => ∃ bk65 of66 a70 c71, v = Value.pointer (some ⟨bk65, of66, none⟩) ∧ g = [] ∧ RSl H a70 c71 y18.Sent ∧ Zaj H bk65 of66 (cE y18 a70 c71)),
   (fun H v g => ∃ bk65 of66 a70 c71, v = Value.pointer (some ⟨bk65, of66 + 3, none⟩) ∧ g = [] ∧ RSl H a70 c71 y18.Sent ∧ Zaj H bk65 of66 (cE y18 a70 c71)),
   (fV (.int .i64 y18.Id)),
   (fun H v g => v = Value.slice a0_0 x0.length c0_0 ∧ g = [] ∧ RSl H a0_0 c0_0 x0),
   (fV (.int .i64 x1)),
   (fun H v g => ∃ bk74 of75 a79 c80, v = Value.pointer (some ⟨bk74, of75, none⟩) ∧ g = [] ∧ RSl H a79 c80 y29.Sent ∧ Zaj H bk74 of75 (cE y29 a79 c80)),
   (fun H v g => ∃ bk74 of75 a79 c80, v = Value.pointer (some ⟨bk74, of75 + 3, none⟩) ∧ g = [] ∧ RSl H a79 c80 y29.Sent ∧ Zaj H bk74 of75 (cE y29 a79 c80)),
   (fV (.int .i64 y29.Id)),
   (fV (.bool (y18.Id == y29.Id))),
   (fV (.bool (y18.Id == y29.Id))),
   (fun H v g => v = Value.slice a0_0 x0.length c0_0 ∧ g = [] ∧ RSl H a0_0 c0_0 x0),
   (fV (.int .i64 s5)),
   (fun H v g => ∃ bk83 of84 a88 c89, v = Value.pointer (some ⟨bk83, of84, none⟩) ∧ g = [] ∧ RSl H a88 c89 y41.Sent ∧ Zaj H bk83 of84 (cE y41 a88 c89)),
   (fun H v g => ∃ bk83 of84 a88 c89, v = Value.pointer (some ⟨bk83, of84 + 2, none⟩) ∧ g = [] ∧ RSl H a88 c89 y41.Sent ∧ Zaj H bk83 of84 (cE y41 a88 c89)),
   (fV (.int .i64 y41.Ver)),
   (fun H v g => v = Value.slice a0_0 x0.length c0_0 ∧ g = [] ∧ RSl H a0_0 c0_0 x0),
   (fV (.int .i64 x1)),
   (fun H v g => ∃ bk92 of93 a97 c98, v = Value.pointer (some ⟨bk92, of93, none⟩) ∧ g = [] ∧ RSl H a97 c98 y52.Sent ∧ Zaj H bk92 of93 (cE y52 a97 c98)),
   (fun H v g => ∃ bk92 of93 a97 c98, v = Value.pointer (some ⟨bk92, of93 + 2, none⟩) ∧ g = [] ∧ RSl H a97 c98 y52.Sent ∧ Zaj H bk92 of93 (cE y52 a97 c98)),
   (fV (.int .i64 y52.Ver)),
   (fV (.bool (y41.Ver != y52.Ver))),
   (fV (.bool (y41.Ver != y52.Ver))),
   uF,
   uF,
   uF,
   uF,
   uF,
   uF,
   (fV (.bool true)),
   (fV (.bool true))] [[], [], [], [], [], [], [], [], [], [], [], [], [], [], [], [], [], [], [], [], [], [], [], [], [], [], [], [], [], [], [], []] mixed ⟨fun _ _ _ _ hle ⟨e1, e2, h0_⟩ => ⟨e1, e2, RSl.mono hle h0_⟩, m0, fun _ _ _ _ hle ⟨bk65, of66, a70, c71, e1, e2, h0_, h1_⟩ => ⟨_, _, _, _, e1, e2, RSl.mono hle h0_, Zaj.mono hle h1_⟩, fun _ _ _ _ hle ⟨bk65, of66, a70, c71, e1, e2, h0_, h1_⟩ => ⟨_, _, _, _, e1, e2, RSl.mono hle h0_, Zaj.mono hle h1_⟩, m0, fun _ _ _ _ hle ⟨e1, e2, h0_⟩ => ⟨e1, e2, RSl.mono hle h0_⟩, m0, fun _ _ _ _ hle ⟨bk74, of75, a79, c80, e1, e2, h0_, h1_⟩ => ⟨_, _, _, _, e1, e2, RSl.mono hle h0_, Zaj.mono hle h1_⟩, fun _ _ _ _ hle ⟨bk74, of75, a79, c80, e1, e2, h0_, h1_⟩ => ⟨_, _, _, _, e1, e2, RSl.mono hle h0_, Zaj.mono hle h1_⟩, m0, m0, m0, fun _ _ _ _ hle ⟨e1, e2, h0_⟩ => ⟨e1, e2, RSl.mono hle h0_⟩, m0, fun _ _ _ _ hle ⟨bk83, of84, a88, c89, e1, e2, h0_, h1_⟩ => ⟨_, _, _, _, e1, e2, RSl.mono hle h0_, Zaj.mono hle h1_⟩, fun _ _ _ _ hle ⟨bk83, of84, a88, c89, e1, e2, h0_, h1_⟩ => ⟨_, _, _, _, e1, e2, RSl.mono hle h0_, Zaj.mono hle h1_⟩, m0, fun _ _ _ _ hle ⟨e1, e2, h0_⟩ => ⟨e1, e2, RSl.mono hle h0_⟩, m0, fun _ _ _ _ hle ⟨bk92, of93, a97, c98, e1, e2, h0_, h1_⟩ => ⟨_, _, _, _, e1, e2, RSl.mono hle h0_, Zaj.mono hle h1_⟩, fun _ _ _ _ hle ⟨bk92, of93, a97, c98, e1, e2, h0_, h1_⟩ => ⟨_, _, _, _, e1, e2, RSl.mono hle h0_, Zaj.mono hle h1_⟩, m0, m0, m0, m0, m0, m0, m0, m0, m0, m0, m0, trivial⟩ (by kernel_rfl) (by kernel_rfl) rfl (by kernel_rfl) rfl rfl ?_ ?_
      ·refine dc (fun _ _ _ _ hle104 _ _ => ?_) ?_
       ·have hs107 := RSl.mono hle104 hs10
        refine Zag (env' := [(0, .slice a0_0 x0.length c0_0)]) (by exact ⟨rfl, trivial⟩) ?_
        refine Zad rfl ?_
        exact Zai (.slice a0_0 x0.length c0_0) ⟨rfl, rfl, hs107⟩
       refine dc (fun _ _ _ _ _ _ _ => ?_) ?_
       ·refine Zag (env' := [(5, .int .i64 s5)]) (by exact ⟨rfl, trivial⟩) ?_
        refine Zad rfl ?_
        exact Zai (.int .i64 s5) ⟨rfl, rfl⟩
       refine Za3 ?_ ?_
       ·intro _ _ H117 fr118 hle119 hd120
        obtain ⟨hv122, hg123, hp124⟩ := hd120 0 (by decide)
        obtain ⟨hv125, hg126⟩ := hd120 1 (by decide)
        refine ⟨_, (rd x0 s5).bind some, by rw [h28]; rfl, fun _ => ?_⟩
        refine Zag (env' := [(11, .slice a0_0 x0.length c0_0), (12, .int .i64 s5)]) (by exact ⟨congrArg some hv122, congrArg some hv125, trivial⟩) ?_
        refine o_ix hp124 rfl rfl fun y18 bk128 of129 vs131 h127 hc130 hr132 => ?_
        obtain ⟨a133, c134, rfl, hs135⟩ := hr132
        obtain rfl := Option.some.inj (h28.symm.trans h127)
        exact Zai (.pointer (some ⟨bk128, of129, none⟩)) ⟨bk128, of129, a133, c134, rfl, rfl, hs135, hc130⟩
       refine dc (fun _ _ _ _ _ hd141 _ => ?_) ?_
       ·obtain ⟨bk143, of144, a145, c146, hv147, hg148, hp149, hp150⟩ := hd141 2 (by decide)
        refine Zag (env' := [(13, .pointer (some ⟨bk143, of144, none⟩))]) (by exact ⟨congrArg some hv147, trivial⟩) ?_
        refine o_fa rfl ?_
        exact Zai (.pointer (some ⟨bk143, of144 + 3, none⟩)) ⟨bk143, of144, a145, c146, rfl, rfl, hp149, hp150⟩
       refine dc (fun _ _ _ _ _ hd156 _ => ?_) ?_
       ·obtain ⟨bk158, of159, a160, c161, hv162, hg163, hp164, hp165⟩ := hd156 3 (by decide)
        refine Zag (env' := [(14, .pointer (some ⟨bk158, of159 + 3, none⟩))]) (by exact ⟨congrArg some hv162, trivial⟩) ?_
        refine ZaP 3 hp165 rfl rfl rfl ?_
        exact Zai (.int .i64 y18.Id) ⟨rfl, rfl⟩
       refine dc (fun _ _ _ _ hle170 _ _ => ?_) ?_
       ·have hs173 := RSl.mono hle170 hs10
        refine Zag (env' := [(0, .slice a0_0 x0.length c0_0)]) (by exact ⟨rfl, trivial⟩) ?_
        refine Zad rfl ?_
        exact Zai (.slice a0_0 x0.length c0_0) ⟨rfl, rfl, hs173⟩
       refine dc (fun _ _ _ _ _ _ _ => ?_) ?_
       ·refine Zag (env' := [(1, .int .i64 x1)]) (by exact ⟨rfl, trivial⟩) ?_
        refine Zad rfl ?_
        exact Zai (.int .i64 x1) ⟨rfl, rfl⟩
       refine Za3 ?_ ?_
       ·intro _ _ H183 fr184 hle185 hd186
        obtain ⟨hv188, hg189, hp190⟩ := hd186 5 (by decide)
        obtain ⟨hv191, hg192⟩ := hd186 6 (by decide)
        refine ⟨_, (rd x0 x1).bind some, by rw [h39]; rfl, fun _ => ?_⟩
        refine Zag (env' := [(16, .slice a0_0 x0.length c0_0), (17, .int .i64 x1)]) (by exact ⟨congrArg some hv188, congrArg some hv191, trivial⟩) ?_
        refine o_ix hp190 rfl rfl fun y29 bk194 of195 vs197 h193 hc196 hr198 => ?_
        obtain ⟨a199, c200, rfl, hs201⟩ := hr198
        obtain rfl := Option.some.inj (h39.symm.trans h193)
        exact Zai (.pointer (some ⟨bk194, of195, none⟩)) ⟨bk194, of195, a199, c200, rfl, rfl, hs201, hc196⟩
       refine dc (fun _ _ _ _ _ hd207 _ => ?_) ?_
       ·obtain ⟨bk209, of210, a211, c212, hv213, hg214, hp215, hp216⟩ := hd207 7 (by decide)
        refine Zag (env' := [(18, .pointer (some ⟨bk209, of210, none⟩))]) (by exact ⟨congrArg some hv213, trivial⟩) ?_
        refine o_fa rfl ?_
        exact Zai (.pointer (some ⟨bk209, of210 + 3, none⟩)) ⟨bk209, of210, a211, c212, rfl, rfl, hp215, hp216⟩
       refine dc (fun _ _ _ _ _ hd222 _ => ?_) ?_
       ·obtain ⟨bk224, of225, a226, c227, hv228, hg229, hp230, hp231⟩ := hd222 8 (by decide)
        refine Zag (env' := [(19, .pointer (some ⟨bk224, of225 + 3, none⟩))]) (by exact ⟨congrArg some hv228, trivial⟩) ?_
        refine ZaP 3 hp231 rfl rfl rfl ?_
        exact Zai (.int .i64 y29.Id) ⟨rfl, rfl⟩
       refine dc2 4 9 (fun _ _ _ _ _ _ => ?_) ?_
       ·refine o_eq rfl rfl ?_
        exact Zai (.bool (y18.Id == y29.Id)) ⟨rfl, rfl⟩
       refine dc1 10 (fun _ _ _ _ _ _ => ?_) ?_
       ·refine Zad rfl ?_
        exact Zai (.bool (y18.Id == y29.Id)) ⟨rfl, rfl⟩
       refine dc1 11 (fun _ _ _ _ hle256 _ => ?_) ?_
       ·have hs259 := RSl.mono hle256 hs10
        refine Zaf rfl rfl h40 <| Zad rfl ?_
        exact Zai (.slice a0_0 x0.length c0_0) ⟨rfl, rfl, hs259⟩
       refine dc1 11 (fun _ _ _ _ _ _ => ?_) ?_
       ·refine Zaf rfl rfl h40 <| Zad rfl ?_
        exact Zai (.int .i64 s5) ⟨rfl, rfl⟩
       refine Za3 ?_ ?_
       ·intro _ _ H273 fr274 hle275 hd276
        obtain ⟨hv278, hg279⟩ := hd276 11 (by decide)
        obtain ⟨hv280, hg281, hp282⟩ := hd276 12 (by decide)
        obtain ⟨hv283, hg284⟩ := hd276 13 (by decide)
        refine ⟨_, (rd x0 s5).bind some, by rw [h51]; rfl, fun _ => ?_⟩
        refine Zag (env' := [(22, .bool (y18.Id == y29.Id)), (23, .slice a0_0 x0.length c0_0), (24, .int .i64 s5)]) (by exact ⟨congrArg some hv278, congrArg some hv280, congrArg some hv283, trivial⟩) ?_
        refine Zaf rfl rfl h40 ?_
        refine o_ix hp282 rfl rfl fun y41 bk286 of287 vs289 h285 hc288 hr290 => ?_
        obtain ⟨a291, c292, rfl, hs293⟩ := hr290
        obtain rfl := Option.some.inj (h51.symm.trans h285)
        exact Zai (.pointer (some ⟨bk286, of287, none⟩)) ⟨bk286, of287, a291, c292, rfl, rfl, hs293, hc288⟩
       refine dc (fun _ _ _ _ _ hd299 _ => ?_) ?_
       ·obtain ⟨hv301, hg302⟩ := hd299 11 (by decide)
        obtain ⟨bk303, of304, a305, c306, hv307, hg308, hp309, hp310⟩ := hd299 14 (by decide)
        refine Zag (env' := [(22, .bool (y18.Id == y29.Id)), (25, .pointer (some ⟨bk303, of304, none⟩))]) (by exact ⟨congrArg some hv301, congrArg some hv307, trivial⟩) ?_
        refine Zaf rfl rfl h40 <| o_fa rfl ?_
        exact Zai (.pointer (some ⟨bk303, of304 + 2, none⟩)) ⟨bk303, of304, a305, c306, rfl, rfl, hp309, hp310⟩
       refine dc (fun _ _ _ _ _ hd316 _ => ?_) ?_
       ·obtain ⟨hv318, hg319⟩ := hd316 11 (by decide)
        obtain ⟨bk320, of321, a322, c323, hv324, hg325, hp326, hp327⟩ := hd316 15 (by decide)
        refine Zag (env' := [(22, .bool (y18.Id == y29.Id)), (26, .pointer (some ⟨bk320, of321 + 2, none⟩))]) (by exact ⟨congrArg some hv318, congrArg some hv324, trivial⟩) ?_
        refine Zaf rfl rfl h40 ?_
        refine ZaP 2 hp327 rfl rfl rfl ?_
        exact Zai (.int .i64 y41.Ver) ⟨rfl, rfl⟩
       refine dc1 11 (fun _ _ _ _ hle332 _ => ?_) ?_
       ·have hs335 := RSl.mono hle332 hs10
        refine Zaf rfl rfl h40 <| Zad rfl ?_
        exact Zai (.slice a0_0 x0.length c0_0) ⟨rfl, rfl, hs335⟩
       refine dc1 11 (fun _ _ _ _ _ _ => ?_) ?_
       ·refine Zaf rfl rfl h40 <| Zad rfl ?_
        exact Zai (.int .i64 x1) ⟨rfl, rfl⟩
       refine Za3 ?_ ?_
       ·intro _ _ H349 fr350 hle351 hd352
        obtain ⟨hv354, hg355⟩ := hd352 11 (by decide)
        obtain ⟨hv356, hg357, hp358⟩ := hd352 17 (by decide)
        obtain ⟨hv359, hg360⟩ := hd352 18 (by decide)
        refine ⟨_, (rd x0 x1).bind some, by rw [h62]; rfl, fun _ => ?_⟩
        refine Zag (env' := [(22, .bool (y18.Id == y29.Id)), (28, .slice a0_0 x0.length c0_0), (29, .int .i64 x1)]) (by exact ⟨congrArg some hv354, congrArg some hv356, congrArg some hv359, trivial⟩) ?_
        refine Zaf rfl rfl h40 ?_
        refine o_ix hp358 rfl rfl fun y52 bk362 of363 vs365 h361 hc364 hr366 => ?_
        obtain ⟨a367, c368, rfl, hs369⟩ := hr366
        obtain rfl := Option.some.inj (h62.symm.trans h361)
        exact Zai (.pointer (some ⟨bk362, of363, none⟩)) ⟨bk362, of363, a367, c368, rfl, rfl, hs369, hc364⟩
       refine dc (fun _ _ _ _ _ hd375 _ => ?_) ?_
       ·obtain ⟨hv377, hg378⟩ := hd375 11 (by decide)
        obtain ⟨bk379, of380, a381, c382, hv383, hg384, hp385, hp386⟩ := hd375 19 (by decide)
        refine Zag (env' := [(22, .bool (y18.Id == y29.Id)), (30, .pointer (some ⟨bk379, of380, none⟩))]) (by exact ⟨congrArg some hv377, congrArg some hv383, trivial⟩) ?_
        refine Zaf rfl rfl h40 <| o_fa rfl ?_
        exact Zai (.pointer (some ⟨bk379, of380 + 2, none⟩)) ⟨bk379, of380, a381, c382, rfl, rfl, hp385, hp386⟩
       refine dc (fun _ _ _ _ _ hd392 _ => ?_) ?_
       ·obtain ⟨hv394, hg395⟩ := hd392 11 (by decide)
        obtain ⟨bk396, of397, a398, c399, hv400, hg401, hp402, hp403⟩ := hd392 20 (by decide)
        refine Zag (env' := [(22, .bool (y18.Id == y29.Id)), (31, .pointer (some ⟨bk396, of397 + 2, none⟩))]) (by exact ⟨congrArg some hv394, congrArg some hv400, trivial⟩) ?_
        refine Zaf rfl rfl h40 ?_
        refine ZaP 2 hp403 rfl rfl rfl ?_
        exact Zai (.int .i64 y52.Ver) ⟨rfl, rfl⟩
       refine dc (fun _ _ _ _ _ hd409 _ => ?_) ?_
       ·obtain ⟨hv411, hg412⟩ := hd409 11 (by decide)
        obtain ⟨hv413, hg414⟩ := hd409 16 (by decide)
        obtain ⟨hv415, hg416⟩ := hd409 21 (by decide)
        refine Zag (env' := [(22, .bool (y18.Id == y29.Id)), (27, .int .i64 y41.Ver), (32, .int .i64 y52.Ver)]) (by exact ⟨congrArg some hv411, congrArg some hv413, congrArg some hv415, trivial⟩) ?_
        refine Zaf rfl rfl h40 <| o_ne rfl rfl ?_
        exact Zai (.bool (y41.Ver != y52.Ver)) ⟨rfl, rfl⟩
       refine dc2 11 22 (fun _ _ _ _ _ _ => ?_) ?_
       ·refine Zaf rfl rfl h40 <| Zad rfl ?_
        exact Zai (.bool (y41.Ver != y52.Ver)) ⟨rfl, rfl⟩
       refine dcU 23 h63 ?_
       refine dcU 23 h63 ?_
       refine dcU 23 h63 ?_
       refine dcU 23 h63 ?_
       refine dcU 23 h63 ?_
       refine dcU 23 h63 ?_
       refine dc (fun _ _ _ _ _ hd498 _ => ?_) ?_
       ·obtain ⟨hv500, hg501⟩ := hd498 11 (by decide)
        obtain ⟨hv502, hg503⟩ := hd498 23 (by decide)
        obtain ⟨hv504, hg505⟩ := hd498 29 (by decide)
        refine Zag (env' := [(22, .bool (y18.Id == y29.Id)), (34, .bool (y41.Ver != y52.Ver)), (40, undef)]) (by exact ⟨congrArg some hv500, congrArg some hv502, congrArg some hv504, trivial⟩) ?_
        refine Zaf rfl rfl h40 <| Zan rfl h63 rfl ?_
        exact Zai (.bool true) ⟨rfl, rfl⟩
       refine dc2 11 30 (fun _ _ _ _ _ _ => ?_) ?_
       ·refine Zan rfl h40 rfl ?_
        exact Zai (.bool true) ⟨rfl, rfl⟩
       exact dnil
      ·intro V519 G520 H517 hle518 hF521
       obtain ⟨hv523, hg524⟩ := hF521 31 (show 31 < 32 by decide)
       refine Zag (env' := [(42, .bool true), (0, .slice a0_0 x0.length c0_0), (1, .int .i64 x1), (5, .int .i64 s5), (6, .int .i64 s5), (7, .int .i64 x1), (8, .bool (decide (s5 < x1)))]) (by exact ⟨congrArg some hv523, rfl, rfl, rfl, rfl, rfl, rfl, trivial⟩) ?_
       refine Zam (List.sublist_append_left _ _) ?_
       refine Zac ?_
       exact Zag (by exact ⟨rfl, rfl, rfl, rfl, trivial⟩) (Zam (by exact .slnil) (J17 true _ _ _ ⟨rfl, rfl, hle518⟩))
     ·refine s_bg fun y525 h535 => ?_
      refine Za8 [(fun H v g => v = Value.slice a0_0 x0.length c0_0 ∧ g = [] ∧ RSl H a0_0 c0_0 x0),
   (fV (.int .i64 s5)),
   (fun H v g => ∃ bk537 of538 a542 c543, v = Value.pointer (some ⟨bk537, of538, none⟩) ∧ g = [] ∧ RSl H a542 c543 y18.Sent ∧ Zaj H bk537 of538 (cE y18 a542 c543)),
   (fun H v g => ∃ bk537 of538 a542 c543, v = Value.pointer (some ⟨bk537, of538 + 3, none⟩) ∧ g = [] ∧ RSl H a542 c543 y18.Sent ∧ Zaj H bk537 of538 (cE y18 a542 c543)),
   (fV (.int .i64 y18.Id)),
   (fun H v g => v = Value.slice a0_0 x0.length c0_0 ∧ g = [] ∧ RSl H a0_0 c0_0 x0),
   (fV (.int .i64 x1)),
   (fun H v g => ∃ bk546 of547 a551 c552, v = Value.pointer (some ⟨bk546, of547, none⟩) ∧ g = [] ∧ RSl H a551 c552 y29.Sent ∧ Zaj H bk546 of547 (cE y29 a551 c552)),
   (fun H v g => ∃ bk546 of547 a551 c552, v = Value.pointer (some ⟨bk546, of547 + 3, none⟩) ∧ g = [] ∧ RSl H a551 c552 y29.Sent ∧ Zaj H bk546 of547 (cE y29 a551 c552)),
   (fV (.int .i64 y29.Id)),
   (fV (.bool (y18.Id == y29.Id))),
   (fV (.bool (y18.Id == y29.Id))),
   (fun H v g => v = Value.slice a0_0 x0.length c0_0 ∧ g = [] ∧ RSl H a0_0 c0_0 x0),
   (fV (.int .i64 s5)),
   (fun H v g => ∃ bk555 of556 a560 c561, v = Value.pointer (some ⟨bk555, of556, none⟩) ∧ g = [] ∧ RSl H a560 c561 y41.Sent ∧ Zaj H bk555 of556 (cE y41 a560 c561)),
   (fun H v g => ∃ bk555 of556 a560 c561, v = Value.pointer (some ⟨bk555, of556 + 2, none⟩) ∧ g = [] ∧ RSl H a560 c561 y41.Sent ∧ Zaj H bk555 of556 (cE y41 a560 c561)),
   (fV (.int .i64 y41.Ver)),
   (fun H v g => v = Value.slice a0_0 x0.length c0_0 ∧ g = [] ∧ RSl H a0_0 c0_0 x0),
   (fV (.int .i64 x1)),
   (fun H v g => ∃ bk564 of565 a569 c570, v = Value.pointer (some ⟨bk564, of565, none⟩) ∧ g = [] ∧ RSl H a569 c570 y52.Sent ∧ Zaj H bk564 of565 (cE y52 a569 c570)),
   (fun H v g => ∃ bk564 of565 a569 c570, v = Value.pointer (some ⟨bk564, of565 + 2, none⟩) ∧ g = [] ∧ RSl H a569 c570 y52.Sent ∧ Zaj H bk564 of565 (cE y52 a569 c570)),
   (fV (.int .i64 y52.Ver)),
   (fV (.bool (y41.Ver != y52.Ver))),
   (fV (.bool (y41.Ver != y52.Ver))),
   (fun H v g => v = Value.slice a0_0 x0.length c0_0 ∧ g = [] ∧ RSl H a0_0 c0_0 x0),
   (fV (.int .i64 x1)),
   (fun H v g => ∃ bk573 of574 a578 c579, v = Value.pointer (some ⟨bk573, of574, none⟩) ∧ g = [] ∧ RSl H a578 c579 y525.Sent ∧ Zaj H bk573 of574 (cE y525 a578 c579)),
   (fun H v g => ∃ bk573 of574 a578 c579, v = Value.pointer (some ⟨bk573, of574 + 1, none⟩) ∧ g = [] ∧ RSl H a578 c579 y525.Sent ∧ Zaj H bk573 of574 (cE y525 a578 c579)),
   (fV (.int .i64 y525.Port)),
   (fV (.bool (y525.Port == 0))),
   (fV (.bool (y525.Port == 0))),
   (fV (.bool (y525.Port == 0)))] [[], [], [], [], [], [], [], [], [], [], [], [], [], [], [], [], [], [], [], [], [], [], [], [], [], [], [], [], [], [], [], []] mixed ⟨fun _ _ _ _ hle ⟨e1, e2, h0_⟩ => ⟨e1, e2, RSl.mono hle h0_⟩, m0, fun _ _ _ _ hle ⟨bk537, of538, a542, c543, e1, e2, h0_, h1_⟩ => ⟨_, _, _, _, e1, e2, RSl.mono hle h0_, Zaj.mono hle h1_⟩, fun _ _ _ _ hle ⟨bk537, of538, a542, c543, e1, e2, h0_, h1_⟩ => ⟨_, _, _, _, e1, e2, RSl.mono hle h0_, Zaj.mono hle h1_⟩, m0, fun _ _ _ _ hle ⟨e1, e2, h0_⟩ => ⟨e1, e2, RSl.mono hle h0_⟩, m0, fun _ _ _ _ hle ⟨bk546, of547, a551, c552, e1, e2, h0_, h1_⟩ => ⟨_, _, _, _, e1, e2, RSl.mono hle h0_, Zaj.mono hle h1_⟩, fun _ _ _ _ hle ⟨bk546, of547, a551, c552, e1, e2, h0_, h1_⟩ => ⟨_, _, _, _, e1, e2, RSl.mono hle h0_, Zaj.mono hle h1_⟩, m0, m0, m0, fun _ _ _ _ hle ⟨e1, e2, h0_⟩ => ⟨e1, e2, RSl.mono hle h0_⟩, m0, fun _ _ _ _ hle ⟨bk555, of556, a560, c561, e1, e2, h0_, h1_⟩ => ⟨_, _, _, _, e1, e2, RSl.mono hle h0_, Zaj.mono hle h1_⟩, fun _ _ _ _ hle ⟨bk555, of556, a560, c561, e1, e2, h0_, h1_⟩ => ⟨_, _, _, _, e1, e2, RSl.mono hle h0_, Zaj.mono hle h1_⟩, m0, fun _ _ _ _ hle ⟨e1, e2, h0_⟩ => ⟨e1, e2, RSl.mono hle h0_⟩, m0, fun _ _ _ _ hle ⟨bk564, of565, a569, c570, e1, e2, h0_, h1_⟩ => ⟨_, _, _, _, e1, e2, RSl.mono hle h0_, Zaj.mono hle h1_⟩, fun _ _ _ _ hle ⟨bk564, of565, a569, c570, e1, e2, h0_, h1_⟩ => ⟨_, _, _, _, e1, e2, RSl.mono hle h0_, Zaj.mono hle h1_⟩, m0, m0, m0, fun _ _ _ _ hle ⟨e1, e2, h0_⟩ => ⟨e1, e2, RSl.mono hle h0_⟩, m0, fun _ _ _ _ hle ⟨bk573, of574, a578, c579, e1, e2, h0_, h1_⟩ => ⟨_, _, _, _, e1, e2, RSl.mono hle h0_, Zaj.mono hle h1_⟩, fun _ _ _ _ hle ⟨bk573, of574, a578, c579, e1, e2, h0_, h1_⟩ => ⟨_, _, _, _, e1, e2, RSl.mono hle h0_, Zaj.mono hle h1_⟩, m0, m0, m0, m0, trivial⟩ (by kernel_rfl) (by kernel_rfl) rfl (by kernel_rfl) rfl rfl ?_ ?_
      ·refine dc (fun _ _ _ _ hle585 _ _ => ?_) ?_
       ·have hs588 := RSl.mono hle585 hs10
        refine Zag (env' := [(0, .slice a0_0 x0.length c0_0)]) (by exact ⟨rfl, trivial⟩) ?_
        refine Zad rfl ?_
        exact Zai (.slice a0_0 x0.length c0_0) ⟨rfl, rfl, hs588⟩
       refine dc (fun _ _ _ _ _ _ _ => ?_) ?_
       ·refine Zag (env' := [(5, .int .i64 s5)]) (by exact ⟨rfl, trivial⟩) ?_
        refine Zad rfl ?_
        exact Zai (.int .i64 s5) ⟨rfl, rfl⟩
       refine Za3 ?_ ?_
       ·intro _ _ H598 fr599 hle600 hd601
        obtain ⟨hv603, hg604, hp605⟩ := hd601 0 (by decide)
        obtain ⟨hv606, hg607⟩ := hd601 1 (by decide)
        refine ⟨_, (rd x0 s5).bind some, by rw [h28]; rfl, fun _ => ?_⟩
        refine Zag (env' := [(11, .slice a0_0 x0.length c0_0), (12, .int .i64 s5)]) (by exact ⟨congrArg some hv603, congrArg some hv606, trivial⟩) ?_
        refine o_ix hp605 rfl rfl fun y18 bk609 of610 vs612 h608 hc611 hr613 => ?_
        obtain ⟨a614, c615, rfl, hs616⟩ := hr613
        obtain rfl := Option.some.inj (h28.symm.trans h608)
        exact Zai (.pointer (some ⟨bk609, of610, none⟩)) ⟨bk609, of610, a614, c615, rfl, rfl, hs616, hc611⟩
       refine dc (fun _ _ _ _ _ hd622 _ => ?_) ?_
       ·obtain ⟨bk624, of625, a626, c627, hv628, hg629, hp630, hp631⟩ := hd622 2 (by decide)
        refine Zag (env' := [(13, .pointer (some ⟨bk624, of625, none⟩))]) (by exact ⟨congrArg some hv628, trivial⟩) ?_
        refine o_fa rfl ?_
        exact Zai (.pointer (some ⟨bk624, of625 + 3, none⟩)) ⟨bk624, of625, a626, c627, rfl, rfl, hp630, hp631⟩
       refine dc (fun _ _ _ _ _ hd637 _ => ?_) ?_
       ·obtain ⟨bk639, of640, a641, c642, hv643, hg644, hp645, hp646⟩ := hd637 3 (by decide)
        refine Zag (env' := [(14, .pointer (some ⟨bk639, of640 + 3, none⟩))]) (by exact ⟨congrArg some hv643, trivial⟩) ?_
        refine ZaP 3 hp646 rfl rfl rfl ?_
        exact Zai (.int .i64 y18.Id) ⟨rfl, rfl⟩
       refine dc (fun _ _ _ _ hle651 _ _ => ?_) ?_
       ·have hs654 := RSl.mono hle651 hs10
        refine Zag (env' := [(0, .slice a0_0 x0.length c0_0)]) (by exact ⟨rfl, trivial⟩) ?_
        refine Zad rfl ?_
        exact Zai (.slice a0_0 x0.length c0_0) ⟨rfl, rfl, hs654⟩
       refine dc (fun _ _ _ _ _ _ _ => ?_) ?_
       ·refine Zag (env' := [(1, .int .i64 x1)]) (by exact ⟨rfl, trivial⟩) ?_
        refine Zad rfl ?_
        exact Zai (.int .i64 x1) ⟨rfl, rfl⟩
       refine Za3 ?_ ?_
       ·intro _ _ H664 fr665 hle666 hd667
        obtain ⟨hv669, hg670, hp671⟩ := hd667 5 (by decide)
        obtain ⟨hv672, hg673⟩ := hd667 6 (by decide)
        refine ⟨_, (rd x0 x1).bind some, by rw [h39]; rfl, fun _ => ?_⟩
        refine Zag (env' := [(16, .slice a0_0 x0.length c0_0), (17, .int .i64 x1)]) (by exact ⟨congrArg some hv669, congrArg some hv672, trivial⟩) ?_
        refine o_ix hp671 rfl rfl fun y29 bk675 of676 vs678 h674 hc677 hr679 => ?_
        obtain ⟨a680, c681, rfl, hs682⟩ := hr679
        obtain rfl := Option.some.inj (h39.symm.trans h674)
        exact Zai (.pointer (some ⟨bk675, of676, none⟩)) ⟨bk675, of676, a680, c681, rfl, rfl, hs682, hc677⟩
       refine dc (fun _ _ _ _ _ hd688 _ => ?_) ?_
       ·obtain ⟨bk690, of691, a692, c693, hv694, hg695, hp696, hp697⟩ := hd688 7 (by decide)
        refine Zag (env' := [(18, .pointer (some ⟨bk690, of691, none⟩))]) (by exact ⟨congrArg some hv694, trivial⟩) ?_
        refine o_fa rfl ?_
        exact Zai (.pointer (some ⟨bk690, of691 + 3, none⟩)) ⟨bk690, of691, a692, c693, rfl, rfl, hp696, hp697⟩
       refine dc (fun _ _ _ _ _ hd703 _ => ?_) ?_
       ·obtain ⟨bk705, of706, a707, c708, hv709, hg710, hp711, hp712⟩ := hd703 8 (by decide)
        refine Zag (env' := [(19, .pointer (some ⟨bk705, of706 + 3, none⟩))]) (by exact ⟨congrArg some hv709, trivial⟩) ?_
        refine ZaP 3 hp712 rfl rfl rfl ?_
        exact Zai (.int .i64 y29.Id) ⟨rfl, rfl⟩
       refine dc2 4 9 (fun _ _ _ _ _ _ => ?_) ?_
       ·refine o_eq rfl rfl ?_
        exact Zai (.bool (y18.Id == y29.Id)) ⟨rfl, rfl⟩
       refine dc1 10 (fun _ _ _ _ _ _ => ?_) ?_
       ·refine Zad rfl ?_
        exact Zai (.bool (y18.Id == y29.Id)) ⟨rfl, rfl⟩
       refine dc1 11 (fun _ _ _ _ hle737 _ => ?_) ?_
       ·have hs740 := RSl.mono hle737 hs10
        refine Zaf rfl rfl h40 <| Zad rfl ?_
        exact Zai (.slice a0_0 x0.length c0_0) ⟨rfl, rfl, hs740⟩
       refine dc1 11 (fun _ _ _ _ _ _ => ?_) ?_
       ·refine Zaf rfl rfl h40 <| Zad rfl ?_
        exact Zai (.int .i64 s5) ⟨rfl, rfl⟩
       refine Za3 ?_ ?_
       ·intro _ _ H754 fr755 hle756 hd757
        obtain ⟨hv759, hg760⟩ := hd757 11 (by decide)
        obtain ⟨hv761, hg762, hp763⟩ := hd757 12 (by decide)
        obtain ⟨hv764, hg765⟩ := hd757 13 (by decide)
        refine ⟨_, (rd x0 s5).bind some, by rw [h51]; rfl, fun _ => ?_⟩
        refine Zag (env' := [(22, .bool (y18.Id == y29.Id)), (23, .slice a0_0 x0.length c0_0), (24, .int .i64 s5)]) (by exact ⟨congrArg some hv759, congrArg some hv761, congrArg some hv764, trivial⟩) ?_
        refine Zaf rfl rfl h40 ?_
        refine o_ix hp763 rfl rfl fun y41 bk767 of768 vs770 h766 hc769 hr771 => ?_
        obtain ⟨a772, c773, rfl, hs774⟩ := hr771
        obtain rfl := Option.some.inj (h51.symm.trans h766)
        exact Zai (.pointer (some ⟨bk767, of768, none⟩)) ⟨bk767, of768, a772, c773, rfl, rfl, hs774, hc769⟩
       refine dc (fun _ _ _ _ _ hd780 _ => ?_) ?_
       ·obtain ⟨hv782, hg783⟩ := hd780 11 (by decide)
        obtain ⟨bk784, of785, a786, c787, hv788, hg789, hp790, hp791⟩ := hd780 14 (by decide)
        refine Zag (env' := [(22, .bool (y18.Id == y29.Id)), (25, .pointer (some ⟨bk784, of785, none⟩))]) (by exact ⟨congrArg some hv782, congrArg some hv788, trivial⟩) ?_
        refine Zaf rfl rfl h40 <| o_fa rfl ?_
        exact Zai (.pointer (some ⟨bk784, of785 + 2, none⟩)) ⟨bk784, of785, a786, c787, rfl, rfl, hp790, hp791⟩
       refine dc (fun _ _ _ _ _ hd797 _ => ?_) ?_
       ·obtain ⟨hv799, hg800⟩ := hd797 11 (by decide)
        obtain ⟨bk801, of802, a803, c804, hv805, hg806, hp807, hp808⟩ := hd797 15 (by decide)
        refine Zag (env' := [(22, .bool (y18.Id == y29.Id)), (26, .pointer (some ⟨bk801, of802 + 2, none⟩))]) (by exact ⟨congrArg some hv799, congrArg some hv805, trivial⟩) ?_
        refine Zaf rfl rfl h40 ?_
        refine ZaP 2 hp808 rfl rfl rfl ?_
        exact Zai (.int .i64 y41.Ver) ⟨rfl, rfl⟩
       refine dc1 11 (fun _ _ _ _ hle813 _ => ?_) ?_
       ·have hs816 := RSl.mono hle813 hs10
        refine Zaf rfl rfl h40 <| Zad rfl ?_
        exact Zai (.slice a0_0 x0.length c0_0) ⟨rfl, rfl, hs816⟩
       refine dc1 11 (fun _ _ _ _ _ _ => ?_) ?_
       ·refine Zaf rfl rfl h40 <| Zad rfl ?_
        exact Zai (.int .i64 x1) ⟨rfl, rfl⟩
       refine Za3 ?_ ?_
       ·intro _ _ H830 fr831 hle832 hd833
        obtain ⟨hv835, hg836⟩ := hd833 11 (by decide)
        obtain ⟨hv837, hg838, hp839⟩ := hd833 17 (by decide)
        obtain ⟨hv840, hg841⟩ := hd833 18 (by decide)
        refine ⟨_, (rd x0 x1).bind some, by rw [h62]; rfl, fun _ => ?_⟩
        refine Zag (env' := [(22, .bool (y18.Id == y29.Id)), (28, .slice a0_0 x0.length c0_0), (29, .int .i64 x1)]) (by exact ⟨congrArg some hv835, congrArg some hv837, congrArg some hv840, trivial⟩) ?_
        refine Zaf rfl rfl h40 ?_
        refine o_ix hp839 rfl rfl fun y52 bk843 of844 vs846 h842 hc845 hr847 => ?_
        obtain ⟨a848, c849, rfl, hs850⟩ := hr847
        obtain rfl := Option.some.inj (h62.symm.trans h842)
        exact Zai (.pointer (some ⟨bk843, of844, none⟩)) ⟨bk843, of844, a848, c849, rfl, rfl, hs850, hc845⟩
       refine dc (fun _ _ _ _ _ hd856 _ => ?_) ?_
       ·obtain ⟨hv858, hg859⟩ := hd856 11 (by decide)
        obtain ⟨bk860, of861, a862, c863, hv864, hg865, hp866, hp867⟩ := hd856 19 (by decide)
        refine Zag (env' := [(22, .bool (y18.Id == y29.Id)), (30, .pointer (some ⟨bk860, of861, none⟩))]) (by exact ⟨congrArg some hv858, congrArg some hv864, trivial⟩) ?_
        refine Zaf rfl rfl h40 <| o_fa rfl ?_
        exact Zai (.pointer (some ⟨bk860, of861 + 2, none⟩)) ⟨bk860, of861, a862, c863, rfl, rfl, hp866, hp867⟩
       refine dc (fun _ _ _ _ _ hd873 _ => ?_) ?_
       ·obtain ⟨hv875, hg876⟩ := hd873 11 (by decide)
        obtain ⟨bk877, of878, a879, c880, hv881, hg882, hp883, hp884⟩ := hd873 20 (by decide)
        refine Zag (env' := [(22, .bool (y18.Id == y29.Id)), (31, .pointer (some ⟨bk877, of878 + 2, none⟩))]) (by exact ⟨congrArg some hv875, congrArg some hv881, trivial⟩) ?_
        refine Zaf rfl rfl h40 ?_
        refine ZaP 2 hp884 rfl rfl rfl ?_
        exact Zai (.int .i64 y52.Ver) ⟨rfl, rfl⟩
       refine dc (fun _ _ _ _ _ hd890 _ => ?_) ?_
       ·obtain ⟨hv892, hg893⟩ := hd890 11 (by decide)
        obtain ⟨hv894, hg895⟩ := hd890 16 (by decide)
        obtain ⟨hv896, hg897⟩ := hd890 21 (by decide)
        refine Zag (env' := [(22, .bool (y18.Id == y29.Id)), (27, .int .i64 y41.Ver), (32, .int .i64 y52.Ver)]) (by exact ⟨congrArg some hv892, congrArg some hv894, congrArg some hv896, trivial⟩) ?_
        refine Zaf rfl rfl h40 <| o_ne rfl rfl ?_
        exact Zai (.bool (y41.Ver != y52.Ver)) ⟨rfl, rfl⟩
       refine dc2 11 22 (fun _ _ _ _ _ _ => ?_) ?_
       ·refine Zaf rfl rfl h40 <| Zad rfl ?_
        exact Zai (.bool (y41.Ver != y52.Ver)) ⟨rfl, rfl⟩
       refine dc1 23 (fun _ _ _ _ hle913 _ => ?_) ?_
       ·have hs916 := RSl.mono hle913 hs10
        refine Zaf rfl rfl h63 <| Zad rfl ?_
        exact Zai (.slice a0_0 x0.length c0_0) ⟨rfl, rfl, hs916⟩
       refine dc1 23 (fun _ _ _ _ _ _ => ?_) ?_
       ·refine Zaf rfl rfl h63 <| Zad rfl ?_
        exact Zai (.int .i64 x1) ⟨rfl, rfl⟩
       refine Za3 ?_ ?_
       ·intro _ _ H930 fr931 hle932 hd933
        obtain ⟨hv935, hg936⟩ := hd933 23 (by decide)
        obtain ⟨hv937, hg938, hp939⟩ := hd933 24 (by decide)
        obtain ⟨hv940, hg941⟩ := hd933 25 (by decide)
        refine ⟨_, (rd x0 x1).bind some, by rw [h535]; rfl, fun _ => ?_⟩
        refine Zag (env' := [(34, .bool (y41.Ver != y52.Ver)), (35, .slice a0_0 x0.length c0_0), (36, .int .i64 x1)]) (by exact ⟨congrArg some hv935, congrArg some hv937, congrArg some hv940, trivial⟩) ?_
        refine Zaf rfl rfl h63 ?_
        refine o_ix hp939 rfl rfl fun y525 bk943 of944 vs946 h942 hc945 hr947 => ?_
        obtain ⟨a948, c949, rfl, hs950⟩ := hr947
        obtain rfl := Option.some.inj (h535.symm.trans h942)
        exact Zai (.pointer (some ⟨bk943, of944, none⟩)) ⟨bk943, of944, a948, c949, rfl, rfl, hs950, hc945⟩
       refine dc (fun _ _ _ _ _ hd956 _ => ?_) ?_
       ·obtain ⟨hv958, hg959⟩ := hd956 23 (by decide)
        obtain ⟨bk960, of961, a962, c963, hv964, hg965, hp966, hp967⟩ := hd956 26 (by decide)
        refine Zag (env' := [(34, .bool (y41.Ver != y52.Ver)), (37, .pointer (some ⟨bk960, of961, none⟩))]) (by exact ⟨congrArg some hv958, congrArg some hv964, trivial⟩) ?_
        refine Zaf rfl rfl h63 <| o_fa rfl ?_
        exact Zai (.pointer (some ⟨bk960, of961 + 1, none⟩)) ⟨bk960, of961, a962, c963, rfl, rfl, hp966, hp967⟩
       refine dc (fun _ _ _ _ _ hd973 _ => ?_) ?_
       ·obtain ⟨hv975, hg976⟩ := hd973 23 (by decide)
        obtain ⟨bk977, of978, a979, c980, hv981, hg982, hp983, hp984⟩ := hd973 27 (by decide)
        refine Zag (env' := [(34, .bool (y41.Ver != y52.Ver)), (38, .pointer (some ⟨bk977, of978 + 1, none⟩))]) (by exact ⟨congrArg some hv975, congrArg some hv981, trivial⟩) ?_
        refine Zaf rfl rfl h63 ?_
        refine ZaP 1 hp984 rfl rfl rfl ?_
        exact Zai (.int .i64 y525.Port) ⟨rfl, rfl⟩
       refine dc2 23 28 (fun _ _ _ _ _ _ => ?_) ?_
       ·refine Zaf rfl rfl h63 <| o_eq rfl rfl ?_
        exact Zai (.bool (y525.Port == 0)) ⟨rfl, rfl⟩
       refine dc (fun _ _ _ _ _ hd1001 _ => ?_) ?_
       ·obtain ⟨hv1003, hg1004⟩ := hd1001 11 (by decide)
        obtain ⟨hv1005, hg1006⟩ := hd1001 23 (by decide)
        obtain ⟨hv1007, hg1008⟩ := hd1001 29 (by decide)
        refine Zag (env' := [(22, .bool (y18.Id == y29.Id)), (34, .bool (y41.Ver != y52.Ver)), (40, .bool (y525.Port == 0))]) (by exact ⟨congrArg some hv1003, congrArg some hv1005, congrArg some hv1007, trivial⟩) ?_
        refine Zaf rfl rfl h40 <| Zal rfl h63 rfl ?_
        exact Zai (.bool (y525.Port == 0)) ⟨rfl, rfl⟩
       refine dc2 11 30 (fun _ _ _ _ _ _ => ?_) ?_
       ·refine Zan rfl h40 rfl ?_
        exact Zai (.bool (y525.Port == 0)) ⟨rfl, rfl⟩
       exact dnil
      ·intro V1022 G1023 H1020 hle1021 hF1024
       obtain ⟨hv1026, hg1027⟩ := hF1024 31 (show 31 < 32 by decide)
       refine Zag (env' := [(42, .bool (y525.Port == 0)), (0, .slice a0_0 x0.length c0_0), (1, .int .i64 x1), (5, .int .i64 s5), (6, .int .i64 s5), (7, .int .i64 x1), (8, .bool (decide (s5 < x1)))]) (by exact ⟨congrArg some hv1026, rfl, rfl, rfl, rfl, rfl, rfl, trivial⟩) ?_
       refine Zam (List.sublist_append_left _ _) ?_
       refine Zac ?_
       exact Zag (by exact ⟨rfl, rfl, rfl, rfl, trivial⟩) (Zam (by exact .slnil) (J17 (y525.Port == 0) _ _ _ ⟨rfl, rfl, hle1021⟩))
    ·refine Za8 [(fun H v g => v = Value.slice a0_0 x0.length c0_0 ∧ g = [] ∧ RSl H a0_0 c0_0 x0),
   (fV (.int .i64 s5)),
   (fun H v g => ∃ bk1029 of1030 a1034 c1035, v = Value.pointer (some ⟨bk1029, of1030, none⟩) ∧ g = [] ∧ RSl H a1034 c1035 y18.Sent ∧ Zaj H bk1029 of1030 (cE y18 a1034 c1035)),
   (fun H v g => ∃ bk1029 of1030 a1034 c1035, v = Value.pointer (some ⟨bk1029, of1030 + 3, none⟩) ∧ g = [] ∧ RSl H a1034 c1035 y18.Sent ∧ Zaj H bk1029 of1030 (cE y18 a1034 c1035)),
   (fV (.int .i64 y18.Id)),
   (fun H v g => v = Value.slice a0_0 x0.length c0_0 ∧ g = [] ∧ RSl H a0_0 c0_0 x0),
   (fV (.int .i64 x1)),
   (fun H v g => ∃ bk1038 of1039 a1043 c1044, v = Value.pointer (some ⟨bk1038, of1039, none⟩) ∧ g = [] ∧ RSl H a1043 c1044 y29.Sent ∧ Zaj H bk1038 of1039 (cE y29 a1043 c1044)),
   (fun H v g => ∃ bk1038 of1039 a1043 c1044, v = Value.pointer (some ⟨bk1038, of1039 + 3, none⟩) ∧ g = [] ∧ RSl H a1043 c1044 y29.Sent ∧ Zaj H bk1038 of1039 (cE y29 a1043 c1044)),
   (fV (.int .i64 y29.Id)),
   (fV (.bool (y18.Id == y29.Id))),
   (fV (.bool (y18.Id == y29.Id))),
   uF,
   uF,
   uF,
   uF,
   uF,
   uF,
   uF,
   uF,
   uF,
   uF,
   uF,
   uF,
   uF,
   uF,
   uF,
   uF,
   uF,
   uF,
   uF,
   (fV (.bool false))] [[], [], [], [], [], [], [], [], [], [], [], [], [], [], [], [], [], [], [], [], [], [], [], [], [], [], [], [], [], [], [], []] mixed ⟨fun _ _ _ _ hle ⟨e1, e2, h0_⟩ => ⟨e1, e2, RSl.mono hle h0_⟩, m0, fun _ _ _ _ hle ⟨bk1029, of1030, a1034, c1035, e1, e2, h0_, h1_⟩ => ⟨_, _, _, _, e1, e2, RSl.mono hle h0_, Zaj.mono hle h1_⟩, fun _ _ _ _ hle ⟨bk1029, of1030, a1034, c1035, e1, e2, h0_, h1_⟩ => ⟨_, _, _, _, e1, e2, RSl.mono hle h0_, Zaj.mono hle h1_⟩, m0, fun _ _ _ _ hle ⟨e1, e2, h0_⟩ => ⟨e1, e2, RSl.mono hle h0_⟩, m0, fun _ _ _ _ hle ⟨bk1038, of1039, a1043, c1044, e1, e2, h0_, h1_⟩ => ⟨_, _, _, _, e1, e2, RSl.mono hle h0_, Zaj.mono hle h1_⟩, fun _ _ _ _ hle ⟨bk1038, of1039, a1043, c1044, e1, e2, h0_, h1_⟩ => ⟨_, _, _, _, e1, e2, RSl.mono hle h0_, Zaj.mono hle h1_⟩, m0, m0, m0, m0, m0, m0, m0, m0, m0, m0, m0, m0, m0, m0, m0, m0, m0, m0, m0, m0, m0, m0, m0, trivial⟩ (by kernel_rfl) (by kernel_rfl) rfl (by kernel_rfl) rfl rfl ?_ ?_
     ·refine dc (fun _ _ _ _ hle1050 _ _ => ?_) ?_
      ·have hs1053 := RSl.mono hle1050 hs10
       refine Zag (env' := [(0, .slice a0_0 x0.length c0_0)]) (by exact ⟨rfl, trivial⟩) ?_
       refine Zad rfl ?_
       exact Zai (.slice a0_0 x0.length c0_0) ⟨rfl, rfl, hs1053⟩
      refine dc (fun _ _ _ _ _ _ _ => ?_) ?_
      ·refine Zag (env' := [(5, .int .i64 s5)]) (by exact ⟨rfl, trivial⟩) ?_
       refine Zad rfl ?_
       exact Zai (.int .i64 s5) ⟨rfl, rfl⟩
      refine Za3 ?_ ?_
      ·intro _ _ H1063 fr1064 hle1065 hd1066
       obtain ⟨hv1068, hg1069, hp1070⟩ := hd1066 0 (by decide)
       obtain ⟨hv1071, hg1072⟩ := hd1066 1 (by decide)
       refine ⟨_, (rd x0 s5).bind some, by rw [h28]; rfl, fun _ => ?_⟩
       refine Zag (env' := [(11, .slice a0_0 x0.length c0_0), (12, .int .i64 s5)]) (by exact ⟨congrArg some hv1068, congrArg some hv1071, trivial⟩) ?_
       refine o_ix hp1070 rfl rfl fun y18 bk1074 of1075 vs1077 h1073 hc1076 hr1078 => ?_
       obtain ⟨a1079, c1080, rfl, hs1081⟩ := hr1078
       obtain rfl := Option.some.inj (h28.symm.trans h1073)
       exact Zai (.pointer (some ⟨bk1074, of1075, none⟩)) ⟨bk1074, of1075, a1079, c1080, rfl, rfl, hs1081, hc1076⟩
      refine dc (fun _ _ _ _ _ hd1087 _ => ?_) ?_
      ·obtain ⟨bk1089, of1090, a1091, c1092, hv1093, hg1094, hp1095, hp1096⟩ := hd1087 2 (by decide)
       refine Zag (env' := [(13, .pointer (some ⟨bk1089, of1090, none⟩))]) (by exact ⟨congrArg some hv1093, trivial⟩) ?_
       refine o_fa rfl ?_
       exact Zai (.pointer (some ⟨bk1089, of1090 + 3, none⟩)) ⟨bk1089, of1090, a1091, c1092, rfl, rfl, hp1095, hp1096⟩
      refine dc (fun _ _ _ _ _ hd1102 _ => ?_) ?_
      ·obtain ⟨bk1104, of1105, a1106, c1107, hv1108, hg1109, hp1110, hp1111⟩ := hd1102 3 (by decide)
       refine Zag (env' := [(14, .pointer (some ⟨bk1104, of1105 + 3, none⟩))]) (by exact ⟨congrArg some hv1108, trivial⟩) ?_
       refine ZaP 3 hp1111 rfl rfl rfl ?_
       exact Zai (.int .i64 y18.Id) ⟨rfl, rfl⟩
      refine dc (fun _ _ _ _ hle1116 _ _ => ?_) ?_
      ·have hs1119 := RSl.mono hle1116 hs10
       refine Zag (env' := [(0, .slice a0_0 x0.length c0_0)]) (by exact ⟨rfl, trivial⟩) ?_
       refine Zad rfl ?_
       exact Zai (.slice a0_0 x0.length c0_0) ⟨rfl, rfl, hs1119⟩
      refine dc (fun _ _ _ _ _ _ _ => ?_) ?_
      ·refine Zag (env' := [(1, .int .i64 x1)]) (by exact ⟨rfl, trivial⟩) ?_
       refine Zad rfl ?_
       exact Zai (.int .i64 x1) ⟨rfl, rfl⟩
      refine Za3 ?_ ?_
      ·intro _ _ H1129 fr1130 hle1131 hd1132
       obtain ⟨hv1134, hg1135, hp1136⟩ := hd1132 5 (by decide)
       obtain ⟨hv1137, hg1138⟩ := hd1132 6 (by decide)
       refine ⟨_, (rd x0 x1).bind some, by rw [h39]; rfl, fun _ => ?_⟩
       refine Zag (env' := [(16, .slice a0_0 x0.length c0_0), (17, .int .i64 x1)]) (by exact ⟨congrArg some hv1134, congrArg some hv1137, trivial⟩) ?_
       refine o_ix hp1136 rfl rfl fun y29 bk1140 of1141 vs1143 h1139 hc1142 hr1144 => ?_
       obtain ⟨a1145, c1146, rfl, hs1147⟩ := hr1144
       obtain rfl := Option.some.inj (h39.symm.trans h1139)
       exact Zai (.pointer (some ⟨bk1140, of1141, none⟩)) ⟨bk1140, of1141, a1145, c1146, rfl, rfl, hs1147, hc1142⟩
      refine dc (fun _ _ _ _ _ hd1153 _ => ?_) ?_
      ·obtain ⟨bk1155, of1156, a1157, c1158, hv1159, hg1160, hp1161, hp1162⟩ := hd1153 7 (by decide)
       refine Zag (env' := [(18, .pointer (some ⟨bk1155, of1156, none⟩))]) (by exact ⟨congrArg some hv1159, trivial⟩) ?_
       refine o_fa rfl ?_
       exact Zai (.pointer (some ⟨bk1155, of1156 + 3, none⟩)) ⟨bk1155, of1156, a1157, c1158, rfl, rfl, hp1161, hp1162⟩
      refine dc (fun _ _ _ _ _ hd1168 _ => ?_) ?_
      ·obtain ⟨bk1170, of1171, a1172, c1173, hv1174, hg1175, hp1176, hp1177⟩ := hd1168 8 (by decide)
       refine Zag (env' := [(19, .pointer (some ⟨bk1170, of1171 + 3, none⟩))]) (by exact ⟨congrArg some hv1174, trivial⟩) ?_
       refine ZaP 3 hp1177 rfl rfl rfl ?_
       exact Zai (.int .i64 y29.Id) ⟨rfl, rfl⟩
      refine dc2 4 9 (fun _ _ _ _ _ _ => ?_) ?_
      ·refine o_eq rfl rfl ?_
       exact Zai (.bool (y18.Id == y29.Id)) ⟨rfl, rfl⟩
      refine dc1 10 (fun _ _ _ _ _ _ => ?_) ?_
      ·refine Zad rfl ?_
       exact Zai (.bool (y18.Id == y29.Id)) ⟨rfl, rfl⟩
      refine dcU 11 h40 ?_
      refine dcU 11 h40 ?_
      refine dcU 11 h40 ?_
      refine dcU 11 h40 ?_
      refine dcU 11 h40 ?_
      refine dcU 11 h40 ?_
      refine dcU 11 h40 ?_
      refine dcU 11 h40 ?_
      refine dcU 11 h40 ?_
      refine dcU 11 h40 ?_
      refine dcU 11 h40 ?_
      refine dcU 11 h40 ?_
      refine dcUU 23 ?_
      refine dcUU 23 ?_
      refine dcUU 23 ?_
      refine dcUU 23 ?_
      refine dcUU 23 ?_
      refine dcUU 23 ?_
      refine dcU 11 h40 ?_
      refine dc2 11 30 (fun _ _ _ _ _ _ => ?_) ?_
      ·refine Zal rfl h40 rfl ?_
       exact Zai (.bool false) ⟨rfl, rfl⟩
      exact dnil
     ·intro V1421 G1422 H1419 hle1420 hF1423
      obtain ⟨hv1425, hg1426⟩ := hF1423 31 (show 31 < 32 by decide)
      refine Zag (env' := [(42, .bool false), (0, .slice a0_0 x0.length c0_0), (1, .int .i64 x1), (5, .int .i64 s5), (6, .int .i64 s5), (7, .int .i64 x1), (8, .bool (decide (s5 < x1)))]) (by exact ⟨congrArg some hv1425, rfl, rfl, rfl, rfl, rfl, rfl, trivial⟩) ?_
      refine Zam (List.sublist_append_left _ _) ?_
      refine Zac ?_
      exact Zag (by exact ⟨rfl, rfl, rfl, rfl, trivial⟩) (Zam (by exact .slnil) (J17 false _ _ _ ⟨rfl, rfl, hle1420⟩))
  ·refine Zbf rfl ?_
   exact Zag (by exact trivial) (Zam (by exact .slnil) (J4 () _ _ _ ⟨rfl, rfl, hle9⟩))
def Zbj (k : Nat) (x0 : Event) (x1 : Event) (x2 : End) : Nat → Int → Option (LX (Bool) (Unit))
 | 0, _ => none
 | q13 + 1, s12 =>
  if (decide (s12 < (x1.Sent.length : Int))) = true then
   ((rd x1.Sent s12).bind fun y27 =>
    if (y27.Port == x2.Port) = true then
     (rd x1.Sent s12).bind fun y34 =>
     some (decide (y34.H = x0.H))
    else
     some false).bind fun p20 =>
   if (p20) = true then
    some (.ret true)
   else
    Zbj k x0 x1 x2 q13 (w64 (s12 + 1))
  else
   some (.out ())
def Zbz (k : Nat) (x0 : Event) (x1 : Event) (x2 : End) : Option Bool :=
 if (((x1.Switch != x2.Switch) || ((x1.Id != x0.Id) || x1.Ver != x0.Ver))) = true then
  some false
 else
  (Zbj k x0 x1 x2 k 0).bind (LX.go fun p8 =>
  some false)
theorem Zlj : Tryz.prog.funcs[77]? = some Tryz.f77 := by kernel_rfl
theorem ZcT (k : Nat) (H : Heap) (x0 : Event) (a0_0 : Option Addr) (c0_0 : Nat) (hx0_0 : RSl H a0_0 c0_0 x0.Sent) (x1 : Event) (a1_0 : Option Addr) (c1_0 : Nat) (hx1_0 : RSl H a1_0 c1_0 x1.Sent) (x2 : End) {r : Bool} (hr : Zbz k x0 x1 x2 = some r) :
  Fn Tryz.prog 77 [(aE x0 a0_0 c0_0), (aE x1 a1_0 c1_0), .agg #[.int .i64 x2.Switch, .int .i64 x2.Port]] H [] fun H' v out => v = .bool r ∧ out = [] := by
 refine Zaq (args := [(aE x0 a0_0 c0_0), (aE x1 a1_0 c1_0), .agg #[.int .i64 x2.Switch, .int .i64 x2.Port]]) (n := 54) (Φ := fun r H' v out => v = .bool r ∧ out = []) hr Zlj rfl rfl rfl fun w => ?_
 refine s_eq (by rw [Zbz]) ?_
 refine Zae <| Zaa ?_
 refine ZbO rfl fun b1 => ?_
 refine ZbO rfl fun b3 => ?_
 refine ZbO rfl fun b5 => ?_
 refine Zah rfl <| Zac <| Zae <| Zae <| Zaa ?_
 refine Zfs [(3, .pointer (some ⟨b1, 0, none⟩)), (4, .pointer (some ⟨b3, 0, none⟩)), (5, .pointer (some ⟨b5, 0, none⟩)), (26, .bool ((x1.Switch != x2.Switch) || ((x1.Id != x0.Id) || x1.Ver != x0.Ver)))] [.blk b1 (Zak (cE x0 a0_0 c0_0) 44), .blk b3 (Zak (cE x1 a1_0 c1_0) 44), .blk b5 (Zak [.int .i64 x2.Switch, .int .i64 x2.Port] 81)] ?_ ?_
 ·refine Zao rfl (fun h7 => ?_) (fun h7 => ?_)
  ·refine Zae <| Zaa <| Zah rfl <| Zac ?_
   exact s_r1 6 (.bool false) Zlj ⟨rfl, rfl⟩
  ·refine Zar <| Zae <| Zae <| Zaa <| Zah rfl <| Zac ?_
   refine ZbR (fun p8 env own H' => env = [] ∧ own = [] ∧ Hle H H') ?_ ?_
   ·rintro p8 _ _ H9 ⟨rfl, rfl, hle10⟩
    refine Zae <| Zaa <| Zah rfl <| Zac ?_
    exact s_r1 6 (.bool false) Zlj ⟨rfl, rfl⟩
   ·intro J11
    refine Zat ?_
    refine Zag (env' := [(3, .pointer (some ⟨b1, 0, none⟩)), (4, .pointer (some ⟨b3, 0, none⟩)), (5, .pointer (some ⟨b5, 0, none⟩)), (7, .int .i64 0)]) (by exact ⟨rfl, rfl, rfl, rfl, trivial⟩) ?_
    refine Zam (own' := [.blk b1 (Zak (cE x0 a0_0 c0_0) 44), .blk b3 (Zak (cE x1 a1_0 c1_0) 44), .blk b5 (Zak [.int .i64 x2.Switch, .int .i64 x2.Port] 81)]) (.cons_cons _ (.cons_cons _ (.cons_cons _ .slnil))) ?_
    refine Za2 (fun q s12 => Zbj k x0 x1 x2 q s12) (fun s12 env own H' => env = [(3, .pointer (some ⟨b1, 0, none⟩)), (4, .pointer (some ⟨b3, 0, none⟩)), (5, .pointer (some ⟨b5, 0, none⟩)), (7, .int .i64 s12)] ∧ own = [.blk b1 (Zak (cE x0 a0_0 c0_0) 44), .blk b3 (Zak (cE x1 a1_0 c1_0) 44), .blk b5 (Zak [.int .i64 x2.Switch, .int .i64 x2.Port] 81)] ∧ Hle H H') (fun _ => rfl) ?_ k 0 ⟨rfl, rfl, .refl _⟩
    rintro q13 ih14 s12 _ _ H15 ⟨rfl, rfl, hle16⟩
    refine s_eq (by rw [Zbj]) ?_
    have hs18 := RSl.mono hle16 hx1_0
    refine Zae <| Zae <| Zaa <| Zad rfl <| o_fa rfl <| o_ld 1 rfl rfl rfl <| ZaG rfl <| o_lt rfl rfl <| Zac ?_
    refine Zao rfl (fun h19 => ?_) (fun h19 => ?_)
    ·refine Zar <| Zae <| Zat <| Zae ?_
     refine Zb3 (fun p20 env own H' => env = [(3, .pointer (some ⟨b1, 0, none⟩)), (4, .pointer (some ⟨b3, 0, none⟩)), (5, .pointer (some ⟨b5, 0, none⟩)), (7, .int .i64 s12), (53, .bool p20)] ∧ own = [.blk b1 (Zak (cE x0 a0_0 c0_0) 44), .blk b3 (Zak (cE x1 a1_0 c1_0) 44), .blk b5 (Zak [.int .i64 x2.Switch, .int .i64 x2.Port] 81)] ∧ Hle H15 H') ?_ ?_
     ·rintro p20 _ _ H21 ⟨rfl, rfl, hle22⟩
      refine Zao rfl (fun h25 => ?_) (fun h25 => ?_)
      ·refine Zae <| Zaa <| Zah rfl <| Zac <| ZbQ ?_
       exact s_r1 6 (.bool true) Zlj ⟨rfl, rfl⟩
      ·refine Zar <| Zav <| Zaa <| Zad rfl <| ZbM rfl rfl <| Zah rfl <| Zac ?_
       exact Zag (by exact ⟨rfl, rfl, rfl, rfl, trivial⟩) (Zam (by exact (.cons_cons _ (.cons_cons _ (.cons_cons _ .slnil)))) (ih14 (w64 (s12 + 1)) _ _ _ ⟨rfl, rfl, (Hle.trans hle16 hle22)⟩))
     ·intro J26
      refine s_bg fun y27 h32 => ?_
      refine Zax (y27.Port == x2.Port) (fun h33 => ?_) (fun h33 => ?_)
      ·refine s_bg fun y34 h39 => ?_
       refine Za8 [(fV (.pointer (some ⟨b3, 7, none⟩))),
   (fun H v g => v = Value.slice a1_0 x1.Sent.length c1_0 ∧ g = [] ∧ RSl H a1_0 c1_0 x1.Sent),
   (fV (.int .i64 s12)),
   (fun H v g => ∃ bk41 of42, v = Value.pointer (some ⟨bk41, of42, none⟩) ∧ g = [] ∧ Zaj H bk41 of42 (cS y27)),
   (fun H v g => ∃ bk41 of42, v = Value.pointer (some ⟨bk41, of42, none⟩) ∧ g = [] ∧ Zaj H bk41 of42 (cS y27)),
   (fV (.int .i64 y27.Port)),
   (fV (.pointer (some ⟨b5, 1, none⟩))),
   (fV (.int .i64 x2.Port)),
   (fV (.bool (y27.Port == x2.Port))),
   (fV (.bool (y27.Port == x2.Port))),
   (fV (.pointer (some ⟨b3, 7, none⟩))),
   (fun H v g => v = Value.slice a1_0 x1.Sent.length c1_0 ∧ g = [] ∧ RSl H a1_0 c1_0 x1.Sent),
   (fV (.int .i64 s12)),
   (fun H v g => ∃ bk45 of46, v = Value.pointer (some ⟨bk45, of46, none⟩) ∧ g = [] ∧ Zaj H bk45 of46 (cS y34)),
   (fun H v g => ∃ bk45 of46, v = Value.pointer (some ⟨bk45, of46 + 1, none⟩) ∧ g = [] ∧ Zaj H bk45 of46 (cS y34)),
   (fV (.agg #[.int .u8 y34.H.e0, .int .u8 y34.H.e1, .int .u8 y34.H.e2])),
   (fV (.pointer (some ⟨b1, 4, none⟩))),
   (fV (.agg #[.int .u8 x0.H.e0, .int .u8 x0.H.e1, .int .u8 x0.H.e2])),
   (fV (.bool (decide (y34.H = x0.H)))),
   (fV (.bool (decide (y34.H = x0.H))))] [[], [], [], [], [], [], [], [], [], [], [], [], [], [], [], [], [], [], [], []] mixed ⟨m0, fun _ _ _ _ hle ⟨e1, e2, h0_⟩ => ⟨e1, e2, RSl.mono hle h0_⟩, m0, fun _ _ _ _ hle ⟨bk41, of42, e1, e2, h0_⟩ => ⟨_, _, e1, e2, Zaj.mono hle h0_⟩, fun _ _ _ _ hle ⟨bk41, of42, e1, e2, h0_⟩ => ⟨_, _, e1, e2, Zaj.mono hle h0_⟩, m0, m0, m0, m0, m0, m0, fun _ _ _ _ hle ⟨e1, e2, h0_⟩ => ⟨e1, e2, RSl.mono hle h0_⟩, m0, fun _ _ _ _ hle ⟨bk45, of46, e1, e2, h0_⟩ => ⟨_, _, e1, e2, Zaj.mono hle h0_⟩, fun _ _ _ _ hle ⟨bk45, of46, e1, e2, h0_⟩ => ⟨_, _, e1, e2, Zaj.mono hle h0_⟩, m0, m0, m0, m0, m0, trivial⟩ (by kernel_rfl) (by kernel_rfl) rfl (by kernel_rfl) rfl rfl ?_ ?_
       ·refine dc (fun _ _ _ _ _ _ _ => ?_) ?_
        ·refine Zag (env' := [(4, .pointer (some ⟨b3, 0, none⟩))]) (by exact ⟨rfl, trivial⟩) ?_
         refine o_fa rfl ?_
         exact Zai (.pointer (some ⟨b3, 7, none⟩)) ⟨rfl, rfl⟩
        refine dc1 0 (fun _ _ _ _ hle60 _ => ?_) ?_
        ·have hs63 := RSl.mono hle60 hs18
         refine o_ld 1 rfl rfl rfl ?_
         exact Zai (.slice a1_0 x1.Sent.length c1_0) ⟨rfl, rfl, hs63⟩
        refine dc (fun _ _ _ _ _ _ _ => ?_) ?_
        ·refine Zag (env' := [(7, .int .i64 s12)]) (by exact ⟨rfl, trivial⟩) ?_
         refine Zad rfl ?_
         exact Zai (.int .i64 s12) ⟨rfl, rfl⟩
        refine Za3 ?_ ?_
        ·intro _ _ H75 fr76 hle77 hd78
         obtain ⟨hv80, hg81, hp82⟩ := hd78 1 (by decide)
         obtain ⟨hv83, hg84⟩ := hd78 2 (by decide)
         refine ⟨_, (rd x1.Sent s12).bind some, by rw [h32]; rfl, fun _ => ?_⟩
         refine Zag (env' := [(35, .slice a1_0 x1.Sent.length c1_0), (36, .int .i64 s12)]) (by exact ⟨congrArg some hv80, congrArg some hv83, trivial⟩) ?_
         refine Zce hp82 rfl rfl fun y27 bk86 of87 h85 hc88 => ?_
         obtain rfl := Option.some.inj (h32.symm.trans h85)
         exact Zai (.pointer (some ⟨bk86, of87, none⟩)) ⟨bk86, of87, rfl, rfl, hc88⟩
        refine dc (fun _ _ _ _ _ hd94 _ => ?_) ?_
        ·obtain ⟨bk96, of97, hv98, hg99, hp100⟩ := hd94 3 (by decide)
         refine Zag (env' := [(37, .pointer (some ⟨bk96, of97, none⟩))]) (by exact ⟨congrArg some hv98, trivial⟩) ?_
         refine o_fa rfl ?_
         exact Zai (.pointer (some ⟨bk96, of97, none⟩)) ⟨bk96, of97, rfl, rfl, hp100⟩
        refine dc (fun _ _ _ _ _ hd106 _ => ?_) ?_
        ·obtain ⟨bk108, of109, hv110, hg111, hp112⟩ := hd106 4 (by decide)
         refine Zag (env' := [(38, .pointer (some ⟨bk108, of109, none⟩))]) (by exact ⟨congrArg some hv110, trivial⟩) ?_
         refine ZaP 0 hp112 rfl rfl rfl ?_
         exact Zai (.int .i64 y27.Port) ⟨rfl, rfl⟩
        refine dc (fun _ _ _ _ _ _ _ => ?_) ?_
        ·refine Zag (env' := [(5, .pointer (some ⟨b5, 0, none⟩))]) (by exact ⟨rfl, trivial⟩) ?_
         refine o_fa rfl ?_
         exact Zai (.pointer (some ⟨b5, 1, none⟩)) ⟨rfl, rfl⟩
        refine dc1 6 (fun _ _ _ _ _ _ => ?_) ?_
        ·refine o_ld 2 rfl rfl rfl ?_
         exact Zai (.int .i64 x2.Port) ⟨rfl, rfl⟩
        refine dc2 5 7 (fun _ _ _ _ _ _ => ?_) ?_
        ·refine o_eq rfl rfl ?_
         exact Zai (.bool (y27.Port == x2.Port)) ⟨rfl, rfl⟩
        refine dc1 8 (fun _ _ _ _ _ _ => ?_) ?_
        ·refine Zad rfl ?_
         exact Zai (.bool (y27.Port == x2.Port)) ⟨rfl, rfl⟩
        refine dc1 9 (fun _ _ _ _ _ _ => ?_) ?_
        ·refine Zaf rfl rfl h33 <| o_fa rfl ?_
         exact Zai (.pointer (some ⟨b3, 7, none⟩)) ⟨rfl, rfl⟩
        refine dc2 9 10 (fun _ _ _ _ hle163 _ => ?_) ?_
        ·have hs166 := RSl.mono hle163 hs18
         refine Zaf rfl rfl h33 <| o_ld 1 rfl rfl rfl ?_
         exact Zai (.slice a1_0 x1.Sent.length c1_0) ⟨rfl, rfl, hs166⟩
        refine dc1 9 (fun _ _ _ _ _ _ => ?_) ?_
        ·refine Zaf rfl rfl h33 <| Zad rfl ?_
         exact Zai (.int .i64 s12) ⟨rfl, rfl⟩
        refine Za3 ?_ ?_
        ·intro _ _ H182 fr183 hle184 hd185
         obtain ⟨hv187, hg188⟩ := hd185 9 (by decide)
         obtain ⟨hv189, hg190, hp191⟩ := hd185 11 (by decide)
         obtain ⟨hv192, hg193⟩ := hd185 12 (by decide)
         refine ⟨_, (rd x1.Sent s12).bind some, by rw [h39]; rfl, fun _ => ?_⟩
         refine Zag (env' := [(43, .bool (y27.Port == x2.Port)), (45, .slice a1_0 x1.Sent.length c1_0), (46, .int .i64 s12)]) (by exact ⟨congrArg some hv187, congrArg some hv189, congrArg some hv192, trivial⟩) ?_
         refine Zaf rfl rfl h33 ?_
         refine Zce hp191 rfl rfl fun y34 bk195 of196 h194 hc197 => ?_
         obtain rfl := Option.some.inj (h39.symm.trans h194)
         exact Zai (.pointer (some ⟨bk195, of196, none⟩)) ⟨bk195, of196, rfl, rfl, hc197⟩
        refine dc (fun _ _ _ _ _ hd203 _ => ?_) ?_
        ·obtain ⟨hv205, hg206⟩ := hd203 9 (by decide)
         obtain ⟨bk207, of208, hv209, hg210, hp211⟩ := hd203 13 (by decide)
         refine Zag (env' := [(43, .bool (y27.Port == x2.Port)), (47, .pointer (some ⟨bk207, of208, none⟩))]) (by exact ⟨congrArg some hv205, congrArg some hv209, trivial⟩) ?_
         refine Zaf rfl rfl h33 <| o_fa rfl ?_
         exact Zai (.pointer (some ⟨bk207, of208 + 1, none⟩)) ⟨bk207, of208, rfl, rfl, hp211⟩
        refine dc (fun _ _ _ _ _ hd217 _ => ?_) ?_
        ·obtain ⟨hv219, hg220⟩ := hd217 9 (by decide)
         obtain ⟨bk221, of222, hv223, hg224, hp225⟩ := hd217 14 (by decide)
         refine Zag (env' := [(43, .bool (y27.Port == x2.Port)), (48, .pointer (some ⟨bk221, of222 + 1, none⟩))]) (by exact ⟨congrArg some hv219, congrArg some hv223, trivial⟩) ?_
         refine Zaf rfl rfl h33 ?_
         refine ZaP 1 hp225 rfl rfl rfl ?_
         exact Zai (.agg #[.int .u8 y34.H.e0, .int .u8 y34.H.e1, .int .u8 y34.H.e2]) ⟨rfl, rfl⟩
        refine dc1 9 (fun _ _ _ _ _ _ => ?_) ?_
        ·refine Zaf rfl rfl h33 <| o_fa rfl ?_
         exact Zai (.pointer (some ⟨b1, 4, none⟩)) ⟨rfl, rfl⟩
        refine dc2 9 16 (fun _ _ _ _ _ _ => ?_) ?_
        ·refine Zaf rfl rfl h33 <| o_ld 0 rfl rfl rfl ?_
         exact Zai (.agg #[.int .u8 x0.H.e0, .int .u8 x0.H.e1, .int .u8 x0.H.e2]) ⟨rfl, rfl⟩
        refine dc (fun _ _ _ _ _ hd253 _ => ?_) ?_
        ·obtain ⟨hv255, hg256⟩ := hd253 9 (by decide)
         obtain ⟨hv257, hg258⟩ := hd253 15 (by decide)
         obtain ⟨hv259, hg260⟩ := hd253 17 (by decide)
         refine Zag (env' := [(43, .bool (y27.Port == x2.Port)), (49, .agg #[.int .u8 y34.H.e0, .int .u8 y34.H.e1, .int .u8 y34.H.e2]), (51, .agg #[.int .u8 x0.H.e0, .int .u8 x0.H.e1, .int .u8 x0.H.e2])]) (by exact ⟨congrArg some hv255, congrArg some hv257, congrArg some hv259, trivial⟩) ?_
         refine Zaf rfl rfl h33 ?_
         refine ZfV y34.H x0.H rfl rfl ?_
         exact Zai (.bool (decide (y34.H = x0.H))) ⟨rfl, rfl⟩
        refine dc2 9 18 (fun _ _ _ _ _ _ => ?_) ?_
        ·refine Zan rfl h33 rfl ?_
         exact Zai (.bool (decide (y34.H = x0.H))) ⟨rfl, rfl⟩
        exact dnil
       ·intro V274 G275 H272 hle273 hF276
        obtain ⟨hv279, hg280⟩ := hF276 19 (show 19 < 20 by decide)
        refine Zag (env' := [(53, .bool (decide (y34.H = x0.H))), (3, .pointer (some ⟨b1, 0, none⟩)), (4, .pointer (some ⟨b3, 0, none⟩)), (5, .pointer (some ⟨b5, 0, none⟩)), (7, .int .i64 s12), (27, .int .i64 s12), (28, .pointer (some ⟨b3, 7, none⟩)), (29, .slice a1_0 x1.Sent.length c1_0), (30, .int .i64 (x1.Sent.length : Int)), (31, .bool (decide (s12 < (x1.Sent.length : Int))))]) (by exact ⟨congrArg some hv279, rfl, rfl, rfl, rfl, rfl, rfl, rfl, rfl, rfl, trivial⟩) ?_
        refine Zam (List.sublist_append_left _ _) ?_
        refine Zac ?_
        exact Zag (by exact ⟨rfl, rfl, rfl, rfl, rfl, trivial⟩) (Zam (by exact (.cons_cons _ (.cons_cons _ (.cons_cons _ .slnil)))) (J26 (decide (y34.H = x0.H)) _ _ _ ⟨rfl, rfl, hle273⟩))
      ·refine Za8 [(fV (.pointer (some ⟨b3, 7, none⟩))),
   (fun H v g => v = Value.slice a1_0 x1.Sent.length c1_0 ∧ g = [] ∧ RSl H a1_0 c1_0 x1.Sent),
   (fV (.int .i64 s12)),
   (fun H v g => ∃ bk282 of283, v = Value.pointer (some ⟨bk282, of283, none⟩) ∧ g = [] ∧ Zaj H bk282 of283 (cS y27)),
   (fun H v g => ∃ bk282 of283, v = Value.pointer (some ⟨bk282, of283, none⟩) ∧ g = [] ∧ Zaj H bk282 of283 (cS y27)),
   (fV (.int .i64 y27.Port)),
   (fV (.pointer (some ⟨b5, 1, none⟩))),
   (fV (.int .i64 x2.Port)),
   (fV (.bool (y27.Port == x2.Port))),
   (fV (.bool (y27.Port == x2.Port))),
   uF,
   uF,
   uF,
   uF,
   uF,
   uF,
   uF,
   uF,
   uF,
   (fV (.bool false))] [[], [], [], [], [], [], [], [], [], [], [], [], [], [], [], [], [], [], [], []] mixed ⟨m0, fun _ _ _ _ hle ⟨e1, e2, h0_⟩ => ⟨e1, e2, RSl.mono hle h0_⟩, m0, fun _ _ _ _ hle ⟨bk282, of283, e1, e2, h0_⟩ => ⟨_, _, e1, e2, Zaj.mono hle h0_⟩, fun _ _ _ _ hle ⟨bk282, of283, e1, e2, h0_⟩ => ⟨_, _, e1, e2, Zaj.mono hle h0_⟩, m0, m0, m0, m0, m0, m0, m0, m0, m0, m0, m0, m0, m0, m0, m0, trivial⟩ (by kernel_rfl) (by kernel_rfl) rfl (by kernel_rfl) rfl rfl ?_ ?_
       ·refine dc (fun _ _ _ _ _ _ _ => ?_) ?_
        ·refine Zag (env' := [(4, .pointer (some ⟨b3, 0, none⟩))]) (by exact ⟨rfl, trivial⟩) ?_
         refine o_fa rfl ?_
         exact Zai (.pointer (some ⟨b3, 7, none⟩)) ⟨rfl, rfl⟩
        refine dc1 0 (fun _ _ _ _ hle297 _ => ?_) ?_
        ·have hs300 := RSl.mono hle297 hs18
         refine o_ld 1 rfl rfl rfl ?_
         exact Zai (.slice a1_0 x1.Sent.length c1_0) ⟨rfl, rfl, hs300⟩
        refine dc (fun _ _ _ _ _ _ _ => ?_) ?_
        ·refine Zag (env' := [(7, .int .i64 s12)]) (by exact ⟨rfl, trivial⟩) ?_
         refine Zad rfl ?_
         exact Zai (.int .i64 s12) ⟨rfl, rfl⟩
        refine Za3 ?_ ?_
        ·intro _ _ H312 fr313 hle314 hd315
         obtain ⟨hv317, hg318, hp319⟩ := hd315 1 (by decide)
         obtain ⟨hv320, hg321⟩ := hd315 2 (by decide)
         refine ⟨_, (rd x1.Sent s12).bind some, by rw [h32]; rfl, fun _ => ?_⟩
         refine Zag (env' := [(35, .slice a1_0 x1.Sent.length c1_0), (36, .int .i64 s12)]) (by exact ⟨congrArg some hv317, congrArg some hv320, trivial⟩) ?_
         refine Zce hp319 rfl rfl fun y27 bk323 of324 h322 hc325 => ?_
         obtain rfl := Option.some.inj (h32.symm.trans h322)
         exact Zai (.pointer (some ⟨bk323, of324, none⟩)) ⟨bk323, of324, rfl, rfl, hc325⟩
        refine dc (fun _ _ _ _ _ hd331 _ => ?_) ?_
        ·obtain ⟨bk333, of334, hv335, hg336, hp337⟩ := hd331 3 (by decide)
         refine Zag (env' := [(37, .pointer (some ⟨bk333, of334, none⟩))]) (by exact ⟨congrArg some hv335, trivial⟩) ?_
         refine o_fa rfl ?_
         exact Zai (.pointer (some ⟨bk333, of334, none⟩)) ⟨bk333, of334, rfl, rfl, hp337⟩
        refine dc (fun _ _ _ _ _ hd343 _ => ?_) ?_
        ·obtain ⟨bk345, of346, hv347, hg348, hp349⟩ := hd343 4 (by decide)
         refine Zag (env' := [(38, .pointer (some ⟨bk345, of346, none⟩))]) (by exact ⟨congrArg some hv347, trivial⟩) ?_
         refine ZaP 0 hp349 rfl rfl rfl ?_
         exact Zai (.int .i64 y27.Port) ⟨rfl, rfl⟩
        refine dc (fun _ _ _ _ _ _ _ => ?_) ?_
        ·refine Zag (env' := [(5, .pointer (some ⟨b5, 0, none⟩))]) (by exact ⟨rfl, trivial⟩) ?_
         refine o_fa rfl ?_
         exact Zai (.pointer (some ⟨b5, 1, none⟩)) ⟨rfl, rfl⟩
        refine dc1 6 (fun _ _ _ _ _ _ => ?_) ?_
        ·refine o_ld 2 rfl rfl rfl ?_
         exact Zai (.int .i64 x2.Port) ⟨rfl, rfl⟩
        refine dc2 5 7 (fun _ _ _ _ _ _ => ?_) ?_
        ·refine o_eq rfl rfl ?_
         exact Zai (.bool (y27.Port == x2.Port)) ⟨rfl, rfl⟩
        refine dc1 8 (fun _ _ _ _ _ _ => ?_) ?_
        ·refine Zad rfl ?_
         exact Zai (.bool (y27.Port == x2.Port)) ⟨rfl, rfl⟩
        refine dcU 9 h33 ?_
        refine dcU 9 h33 ?_
        refine dcU 9 h33 ?_
        refine dcU 9 h33 ?_
        refine dcU 9 h33 ?_
        refine dcU 9 h33 ?_
        refine dcU 9 h33 ?_
        refine dcU 9 h33 ?_
        refine dcU 9 h33 ?_
        refine dc2 9 18 (fun _ _ _ _ _ _ => ?_) ?_
        ·refine Zal rfl h33 rfl ?_
         exact Zai (.bool false) ⟨rfl, rfl⟩
        exact dnil
       ·intro V498 G499 H496 hle497 hF500
        obtain ⟨hv503, hg504⟩ := hF500 19 (show 19 < 20 by decide)
        refine Zag (env' := [(53, .bool false), (3, .pointer (some ⟨b1, 0, none⟩)), (4, .pointer (some ⟨b3, 0, none⟩)), (5, .pointer (some ⟨b5, 0, none⟩)), (7, .int .i64 s12), (27, .int .i64 s12), (28, .pointer (some ⟨b3, 7, none⟩)), (29, .slice a1_0 x1.Sent.length c1_0), (30, .int .i64 (x1.Sent.length : Int)), (31, .bool (decide (s12 < (x1.Sent.length : Int))))]) (by exact ⟨congrArg some hv503, rfl, rfl, rfl, rfl, rfl, rfl, rfl, rfl, rfl, trivial⟩) ?_
        refine Zam (List.sublist_append_left _ _) ?_
        refine Zac ?_
        exact Zag (by exact ⟨rfl, rfl, rfl, rfl, rfl, trivial⟩) (Zam (by exact (.cons_cons _ (.cons_cons _ (.cons_cons _ .slnil)))) (J26 false _ _ _ ⟨rfl, rfl, hle497⟩))
    ·refine Zbf rfl ?_
     exact Zag (by exact trivial) (Zam (by exact (.cons _ (.cons _ (.cons _ .slnil)))) (J11 () _ _ _ ⟨rfl, rfl, hle16⟩))
 ·intro J505
  refine o_fa rfl <| o_ld 1 rfl rfl rfl <| o_fa rfl <| o_ld 2 rfl rfl rfl <| o_ne rfl rfl <| Zad rfl ?_
  refine Zcw (x1.Switch != x2.Switch) (fun h506 => ?_) (fun h506 => ?_)
  ·refine Zab rfl rfl h506 <| Zab rfl rfl h506 <| Zab rfl rfl h506 <| Zab rfl rfl h506 <| Zab rfl rfl h506 <| Zan rfl h506 rfl <| Zad rfl <| Zab rfl rfl rfl <| Zab rfl rfl rfl <| Zab rfl rfl rfl <| Zab rfl rfl rfl <| Zab rfl rfl rfl ?_
   refine Zan rfl rfl rfl ?_
   exact Zag (by exact ⟨rfl, rfl, rfl, lkb rfl (by first | simp only [h506, Bool.true_and, Bool.and_true, Bool.false_and, Bool.and_false, Bool.true_or, Bool.false_or, Bool.or_true, Bool.or_false, Bool.not_true, Bool.not_false] | simp [h506]), trivial⟩) (Zam (by exact (.cons_cons _ (.cons_cons _ (.cons_cons _ .slnil)))) J505)
  ·refine Zaf rfl rfl h506 <| o_fa rfl <| Zaf rfl rfl h506 <| o_ld 1 rfl rfl rfl <| Zaf rfl rfl h506 <| o_fa rfl <| Zaf rfl rfl h506 <| o_ld 0 rfl rfl rfl <| Zaf rfl rfl h506 <| o_ne rfl rfl <| Zal rfl h506 rfl <| Zad rfl ?_
   refine Zcw (x1.Id != x0.Id) (fun h507 => ?_) (fun h507 => ?_)
   ·refine Zab rfl rfl h507 <| Zab rfl rfl h507 <| Zab rfl rfl h507 <| Zab rfl rfl h507 <| Zab rfl rfl h507 <| Zan rfl h507 rfl ?_
    exact Zag (by exact ⟨rfl, rfl, rfl, lkb rfl (by first | simp only [h506, h507, Bool.true_and, Bool.and_true, Bool.false_and, Bool.and_false, Bool.true_or, Bool.false_or, Bool.or_true, Bool.or_false, Bool.not_true, Bool.not_false] | simp [h506, h507]), trivial⟩) (Zam (by exact (.cons_cons _ (.cons_cons _ (.cons_cons _ .slnil)))) J505)
   ·refine Zaf rfl rfl h507 <| o_fa rfl <| Zaf rfl rfl h507 <| o_ld 1 rfl rfl rfl <| Zaf rfl rfl h507 <| o_fa rfl <| Zaf rfl rfl h507 <| o_ld 0 rfl rfl rfl <| Zaf rfl rfl h507 <| o_ne rfl rfl <| Zal rfl h507 rfl ?_
    exact Zag (by exact ⟨rfl, rfl, rfl, lkb rfl (by first | simp only [h506, h507, Bool.true_and, Bool.and_true, Bool.false_and, Bool.and_false, Bool.true_or, Bool.false_or, Bool.or_true, Bool.or_false, Bool.not_true, Bool.not_false] | simp [h506, h507]), trivial⟩) (Zam (by exact (.cons_cons _ (.cons_cons _ (.cons_cons _ .slnil)))) J505)
def ZaW (k : Nat) (x1 : (List Event)) (x2 : Int) (x3 : (List Int)) (y3 : Event) (y16 : End × Int × Bool) : Nat → (Int × Int) → Option (Int)
 | 0, _ => none
 | q25 + 1, s24 =>
  if (((decide (s24.2 < x2)) && y16.2.2)) = true then
   ((rd x1 s24.2).bind fun y46 =>
    (Zbz k y3 y46 y16.1).bind fun y57 =>
    if (y57) = true then
     if (s24.1 == 0) = true then
      some true
     else
      (rd x3 s24.2).bind fun y306 =>
      some (decide ((w64 (y306 + 1)) < s24.1))
    else
     some false).bind fun p33 =>
   if (p33) = true then
    (rd x3 s24.2).bind fun y40 =>
    ZaW k x1 x2 x3 y3 y16 q25 (w64 (y40 + 1), w64 (s24.2 + 1))
   else
    ZaW k x1 x2 x3 y3 y16 q25 (s24.1, w64 (s24.2 + 1))
  else
   some s24.1
def Zcp (k : Nat) (x0 : Graph) (x1 : (List Event)) (x2 : Int) (x3 : (List Int)) : Option Int :=
 (rd x1 x2).bind fun y3 =>
 if (y3.Port == 0) = true then
  some 1
 else
  (ZcC k x0 (⟨y3.Switch, y3.Port⟩ : End)).bind fun y16 =>
  (ZaW k x1 x2 x3 y3 y16 k (0, 0)).bind fun p20 =>
  some p20
theorem ZmX : Tryz.prog.funcs[31]? = some Tryz.f31 := by kernel_rfl
theorem Zez (k : Nat) (H : Heap) (x0 : Graph) (a0_0 : Option Addr) (c0_0 : Nat) (hx0_0 : RSl H a0_0 c0_0 x0.Links) (x1 : (List Event)) (a1_0 : Option Addr) (c1_0 : Nat) (hx1_0 : RSl H a1_0 c1_0 x1) (x2 : Int) (x3 : (List Int)) (a3_0 : Option Addr) (c3_0 : Nat) (hx3_0 : RSl H a3_0 c3_0 x3) {r : Int} (hr : Zcp k x0 x1 x2 x3 = some r) :
  Fn Tryz.prog 31 [.agg #[.int .i64 x0.Switches, .slice a0_0 x0.Links.length c0_0], .slice a1_0 x1.length c1_0, .int .i64 x2, .slice a3_0 x3.length c3_0] H [] fun H' v out => v = .int .i64 r ∧ out = [] := by
 refine Zaq (args := [.agg #[.int .i64 x0.Switches, .slice a0_0 x0.Links.length c0_0], .slice a1_0 x1.length c1_0, .int .i64 x2, .slice a3_0 x3.length c3_0]) (n := 67) (Φ := fun r H' v out => v = .int .i64 r ∧ out = []) hr ZmX rfl rfl rfl fun w => ?_
 refine s_eq (by rw [Zcp]) ?_
 refine Zae <| Zaa ?_
 refine ZbO rfl fun b1 => ?_
 refine Zah rfl <| Zac <| Zae <| Zaa <| Zad rfl <| Zad rfl ?_
 refine o_ix hx1_0 rfl rfl fun y3 bk5 of6 vs8 h4 hc7 hr9 => ?_
 obtain ⟨a10, c11, rfl, hs12⟩ := hr9
 refine ZaP 0 hc7 rfl rfl rfl ?_
 refine Zbw fun b13 => ?_
 refine o_st 1 rfl rfl rfl rfl rfl rfl ?_
 refine Zac <| Zae <| Zae <| Zaa <| o_fa rfl <| o_ld 1 rfl rfl rfl <| o_eq rfl rfl <| Zac ?_
 refine Zao rfl (fun h15 => ?_) (fun h15 => ?_)
 ·refine Zae <| Zaa <| Zah rfl <| Zac ?_
  exact s_r1 8 (.int .i64 1) ZmX ⟨rfl, rfl⟩
 ·refine Zar <| Zae <| Zaa <| o_ld 0 rfl rfl rfl <| o_fa rfl <| o_ld 1 rfl rfl rfl <| o_fa rfl <| o_ld 1 rfl rfl rfl ?_
  refine Zdx rfl rfl ?_
  refine s_bg fun y16 h17 => ?_
  refine Zas rfl rfl (ZeZ k _ x0 _ _ hx0_0 (⟨y3.Switch, y3.Port⟩ : End) h17) ?_
  refine Zad rfl <| ZcI rfl rfl <| ZcI rfl rfl <| ZcI rfl rfl ?_
  refine Zbw fun b18 => ?_
  refine o_st 2 rfl rfl rfl rfl rfl rfl ?_
  refine Zah rfl <| Zah rfl <| Zac <| Zae <| Zaa <| Zah rfl <| Zac <| Zae <| Zae <| Zaa <| Zah rfl <| Zac ?_
  refine Zb3 (fun p20 env own H' => env = [(13, .int .i64 p20)] ∧ own = [] ∧ Hle H H') ?_ ?_
  ·rintro p20 _ _ H21 ⟨rfl, rfl, hle22⟩
   refine Zae <| Zaa <| Zad rfl <| Zah rfl <| Zac ?_
   exact s_r1 8 (.int .i64 p20) ZmX ⟨rfl, rfl⟩
  ·intro J23
   refine Zat ?_
   refine Zag (env' := [(1, .slice a1_0 x1.length c1_0), (2, .int .i64 x2), (3, .slice a3_0 x3.length c3_0), (9, .pointer (some ⟨b13, 0, none⟩)), (10, .pointer (some ⟨b18, 0, none⟩)), (12, .bool y16.2.2), (13, .int .i64 0), (14, .int .i64 0)]) (by exact ⟨rfl, rfl, rfl, rfl, rfl, rfl, rfl, rfl, trivial⟩) ?_
   refine Zam (own' := [.blk b13 (Zak (cE y3 a10 c11) 44), .blk b18 (Zak [.int .i64 y16.1.Switch, .int .i64 y16.1.Port] 81)]) (.cons _ (.cons_cons _ (.cons_cons _ .slnil))) ?_
   refine Za2 (fun q s24 => ZaW k x1 x2 x3 y3 y16 q s24) (fun s24 env own H' => env = [(1, .slice a1_0 x1.length c1_0), (2, .int .i64 x2), (3, .slice a3_0 x3.length c3_0), (9, .pointer (some ⟨b13, 0, none⟩)), (10, .pointer (some ⟨b18, 0, none⟩)), (12, .bool y16.2.2), (13, .int .i64 s24.1), (14, .int .i64 s24.2)] ∧ own = [.blk b13 (Zak (cE y3 a10 c11) 44), .blk b18 (Zak [.int .i64 y16.1.Switch, .int .i64 y16.1.Port] 81)] ∧ Hle H H') (fun _ => rfl) ?_ k (0, 0) ⟨rfl, rfl, .refl _⟩
   rintro q25 ih26 s24 _ _ H27 ⟨rfl, rfl, hle28⟩
   refine s_eq (by rw [ZaW]) ?_
   have hs29 := RSl.mono hle28 hx1_0
   have hs30 := RSl.mono hle28 hx3_0
   have hs31 := RSl.mono hle28 hs12
   refine Zae <| Zae <| Zaa ?_
   refine Zfs [(1, .slice a1_0 x1.length c1_0), (2, .int .i64 x2), (3, .slice a3_0 x3.length c3_0), (9, .pointer (some ⟨b13, 0, none⟩)), (10, .pointer (some ⟨b18, 0, none⟩)), (12, .bool y16.2.2), (13, .int .i64 s24.1), (14, .int .i64 s24.2), (38, .bool ((decide (s24.2 < x2)) && y16.2.2))] [.blk b13 (Zak (cE y3 a10 c11) 44), .blk b18 (Zak [.int .i64 y16.1.Switch, .int .i64 y16.1.Port] 81)] ?_ ?_
   ·refine Zao rfl (fun h32 => ?_) (fun h32 => ?_)
    ·refine Zar <| Zae <| Zat <| Zae ?_
     refine Zb3 (fun p33 env own H' => env = [(1, .slice a1_0 x1.length c1_0), (2, .int .i64 x2), (3, .slice a3_0 x3.length c3_0), (9, .pointer (some ⟨b13, 0, none⟩)), (10, .pointer (some ⟨b18, 0, none⟩)), (12, .bool y16.2.2), (13, .int .i64 s24.1), (14, .int .i64 s24.2), (60, .bool p33)] ∧ own = [.blk b13 (Zak (cE y3 a10 c11) 44), .blk b18 (Zak [.int .i64 y16.1.Switch, .int .i64 y16.1.Port] 81)] ∧ Hle H27 H') ?_ ?_
     ·rintro p33 _ _ H34 ⟨rfl, rfl, hle35⟩
      have hs37 := RSl.mono hle35 hs30
      refine Zao rfl (fun h39 => ?_) (fun h39 => ?_)
      ·refine Zaa <| Zad rfl <| Zad rfl ?_
       refine Zce hs37 rfl rfl fun y40 bk42 of43 h41 hc44 => ?_
       refine ZaP 0 hc44 rfl rfl rfl ?_
       refine ZbM rfl rfl <| Zah rfl <| Zac <| Zav <| Zaa <| Zad rfl <| ZbM rfl rfl <| Zah rfl <| Zac ?_
       exact Zag (by exact ⟨rfl, rfl, rfl, rfl, rfl, rfl, rfl, rfl, trivial⟩) (Zam (by exact (.cons_cons _ (.cons_cons _ .slnil))) (ih26 (w64 (y40 + 1), w64 (s24.2 + 1)) _ _ _ ⟨rfl, rfl, (Hle.trans hle28 hle35)⟩))
      ·refine Zar <| Zav <| Zaa <| Zad rfl <| ZbM rfl rfl <| Zah rfl <| Zac ?_
       exact Zag (by exact ⟨rfl, rfl, rfl, rfl, rfl, rfl, rfl, rfl, trivial⟩) (Zam (by exact (.cons_cons _ (.cons_cons _ .slnil))) (ih26 (s24.1, w64 (s24.2 + 1)) _ _ _ ⟨rfl, rfl, (Hle.trans hle28 hle35)⟩))
     ·intro J45
      refine s_bg fun y46 h56 => ?_
      refine s_bg fun y57 h59 => ?_
      refine Zax y57 (fun h60 => ?_) (fun h60 => ?_)
      ·refine Zax (s24.1 == 0) (fun h61 => ?_) (fun h61 => ?_)
       ·refine Za8 [(fun H v g => v = (aE y3 a10 c11) ∧ g = [] ∧ RSl H a10 c11 y3.Sent),
   (fun H v g => v = Value.slice a1_0 x1.length c1_0 ∧ g = [] ∧ RSl H a1_0 c1_0 x1),
   (fV (.int .i64 s24.2)),
   (fun H v g => ∃ bk63 of64 a68 c69, v = Value.pointer (some ⟨bk63, of64, none⟩) ∧ g = [] ∧ RSl H a68 c69 y46.Sent ∧ Zaj H bk63 of64 (cE y46 a68 c69)),
   (fun H v g => ∃ a68 c69, v = (aE y46 a68 c69) ∧ g = [] ∧ RSl H a68 c69 y46.Sent),
   (fV (.agg #[.int .i64 y16.1.Switch, .int .i64 y16.1.Port])),
   (fV (.bool y57)),
   (fV (.bool y57)),
   (fV (.int .i64 s24.1)),
   (fV (.bool (s24.1 == 0))),
   (fV (.bool (s24.1 == 0))),
   uF,
   uF,
   uF,
   uF,
   uF,
   uF,
   uF,
   (fV (.bool true)),
   (fV (.bool true))] [[], [], [], [], [], [], [], [], [], [], [], [], [], [], [], [], [], [], [], []] mixed ⟨fun _ _ _ _ hle ⟨e1, e2, h0_⟩ => ⟨e1, e2, RSl.mono hle h0_⟩, fun _ _ _ _ hle ⟨e1, e2, h0_⟩ => ⟨e1, e2, RSl.mono hle h0_⟩, m0, fun _ _ _ _ hle ⟨bk63, of64, a68, c69, e1, e2, h0_, h1_⟩ => ⟨_, _, _, _, e1, e2, RSl.mono hle h0_, Zaj.mono hle h1_⟩, fun _ _ _ _ hle ⟨a68, c69, e1, e2, h0_⟩ => ⟨_, _, e1, e2, RSl.mono hle h0_⟩, m0, m0, m0, m0, m0, m0, m0, m0, m0, m0, m0, m0, m0, m0, m0, trivial⟩ (by kernel_rfl) (by kernel_rfl) rfl (by kernel_rfl) rfl rfl ?_ ?_
        ·refine dc (fun _ _ _ _ hle76 _ _ => ?_) ?_
         ·have hs79 := RSl.mono hle76 hs31
          refine Zag (env' := [(9, .pointer (some ⟨b13, 0, none⟩))]) (by exact ⟨rfl, trivial⟩) ?_
          refine o_ld 0 rfl rfl rfl ?_
          exact Zai ((aE y3 a10 c11)) ⟨rfl, rfl, hs79⟩
         refine dc (fun _ _ _ _ hle84 _ _ => ?_) ?_
         ·have hs87 := RSl.mono hle84 hs29
          refine Zag (env' := [(1, .slice a1_0 x1.length c1_0)]) (by exact ⟨rfl, trivial⟩) ?_
          refine Zad rfl ?_
          exact Zai (.slice a1_0 x1.length c1_0) ⟨rfl, rfl, hs87⟩
         refine dc (fun _ _ _ _ _ _ _ => ?_) ?_
         ·refine Zag (env' := [(14, .int .i64 s24.2)]) (by exact ⟨rfl, trivial⟩) ?_
          refine Zad rfl ?_
          exact Zai (.int .i64 s24.2) ⟨rfl, rfl⟩
         refine Za3 ?_ ?_
         ·intro _ _ H97 fr98 hle99 hd100
          obtain ⟨hv102, hg103, hp104⟩ := hd100 1 (by decide)
          obtain ⟨hv105, hg106⟩ := hd100 2 (by decide)
          refine ⟨_, (rd x1 s24.2).bind some, by rw [h56]; rfl, fun _ => ?_⟩
          refine Zag (env' := [(42, .slice a1_0 x1.length c1_0), (43, .int .i64 s24.2)]) (by exact ⟨congrArg some hv102, congrArg some hv105, trivial⟩) ?_
          refine o_ix hp104 rfl rfl fun y46 bk108 of109 vs111 h107 hc110 hr112 => ?_
          obtain ⟨a113, c114, rfl, hs115⟩ := hr112
          obtain rfl := Option.some.inj (h56.symm.trans h107)
          exact Zai (.pointer (some ⟨bk108, of109, none⟩)) ⟨bk108, of109, a113, c114, rfl, rfl, hs115, hc110⟩
         refine dc (fun _ _ _ _ _ hd121 _ => ?_) ?_
         ·obtain ⟨bk123, of124, a125, c126, hv127, hg128, hp129, hp130⟩ := hd121 3 (by decide)
          refine Zag (env' := [(44, .pointer (some ⟨bk123, of124, none⟩))]) (by exact ⟨congrArg some hv127, trivial⟩) ?_
          refine ZaP 0 hp130 rfl rfl rfl ?_
          exact Zai ((aE y46 a125 c126)) ⟨a125, c126, rfl, rfl, hp129⟩
         refine dc (fun _ _ _ _ _ _ _ => ?_) ?_
         ·refine Zag (env' := [(10, .pointer (some ⟨b18, 0, none⟩))]) (by exact ⟨rfl, trivial⟩) ?_
          refine o_ld 1 rfl rfl rfl ?_
          exact Zai (.agg #[.int .i64 y16.1.Switch, .int .i64 y16.1.Port]) ⟨rfl, rfl⟩
         refine Za3 ?_ ?_
         ·intro _ _ H140 fr141 hle142 hd143
          obtain ⟨hv145, hg146, hp147⟩ := hd143 0 (by decide)
          obtain ⟨a148, c149, hv150, hg151, hp152⟩ := hd143 4 (by decide)
          obtain ⟨hv153, hg154⟩ := hd143 5 (by decide)
          refine ⟨_, (Zbz k y3 y46 y16.1).bind some, by rw [h59]; rfl, fun _ => ?_⟩
          refine Zag (env' := [(41, (aE y3 a10 c11)), (45, (aE y46 a148 c149)), (46, .agg #[.int .i64 y16.1.Switch, .int .i64 y16.1.Port])]) (by exact ⟨congrArg some hv145, congrArg some hv150, congrArg some hv153, trivial⟩) ?_
          refine s_bg fun y57 h155 => ?_
          refine Zas rfl rfl (ZcT k _ y3 _ _ hp147 y46 _ _ hp152 y16.1 h155) ?_
          obtain rfl := Option.some.inj (h59.symm.trans h155)
          exact Zai (.bool y57) ⟨rfl, rfl⟩
         refine dc1 6 (fun _ _ _ _ _ _ => ?_) ?_
         ·refine Zad rfl ?_
          exact Zai (.bool y57) ⟨rfl, rfl⟩
         refine dc1 7 (fun _ _ _ _ _ _ => ?_) ?_
         ·refine Zaf rfl rfl h60 <| Zad rfl ?_
          exact Zai (.int .i64 s24.1) ⟨rfl, rfl⟩
         refine dc2 7 8 (fun _ _ _ _ _ _ => ?_) ?_
         ·refine Zaf rfl rfl h60 <| o_eq rfl rfl ?_
          exact Zai (.bool (s24.1 == 0)) ⟨rfl, rfl⟩
         refine dc2 7 9 (fun _ _ _ _ _ _ => ?_) ?_
         ·refine Zaf rfl rfl h60 <| Zad rfl ?_
          exact Zai (.bool (s24.1 == 0)) ⟨rfl, rfl⟩
         refine dcU 10 h61 ?_
         refine dcU 10 h61 ?_
         refine dcU 10 h61 ?_
         refine dcU 10 h61 ?_
         refine dcU 10 h61 ?_
         refine dcU 10 h61 ?_
         refine dcU 10 h61 ?_
         refine dc (fun _ _ _ _ _ hd277 _ => ?_) ?_
         ·obtain ⟨hv279, hg280⟩ := hd277 7 (by decide)
          obtain ⟨hv281, hg282⟩ := hd277 10 (by decide)
          obtain ⟨hv283, hg284⟩ := hd277 17 (by decide)
          refine Zag (env' := [(48, .bool y57), (51, .bool (s24.1 == 0)), (58, undef)]) (by exact ⟨congrArg some hv279, congrArg some hv281, congrArg some hv283, trivial⟩) ?_
          refine Zaf rfl rfl h60 <| Zan rfl h61 rfl ?_
          exact Zai (.bool true) ⟨rfl, rfl⟩
         refine dc2 7 18 (fun _ _ _ _ _ _ => ?_) ?_
         ·refine Zan rfl h60 rfl ?_
          exact Zai (.bool true) ⟨rfl, rfl⟩
         exact dnil
        ·intro V298 G299 H296 hle297 hF300
         obtain ⟨hv304, hg305⟩ := hF300 19 (show 19 < 20 by decide)
         refine Zag (env' := [(60, .bool true), (1, .slice a1_0 x1.length c1_0), (2, .int .i64 x2), (3, .slice a3_0 x3.length c3_0), (9, .pointer (some ⟨b13, 0, none⟩)), (10, .pointer (some ⟨b18, 0, none⟩)), (12, .bool y16.2.2), (13, .int .i64 s24.1), (14, .int .i64 s24.2), (38, .bool ((decide (s24.2 < x2)) && y16.2.2))]) (by exact ⟨congrArg some hv304, rfl, rfl, rfl, rfl, rfl, rfl, rfl, rfl, rfl, trivial⟩) ?_
         refine Zam (List.sublist_append_left _ _) ?_
         refine Zac ?_
         exact Zag (by exact ⟨rfl, rfl, rfl, rfl, rfl, rfl, rfl, rfl, rfl, trivial⟩) (Zam (by exact (.cons_cons _ (.cons_cons _ .slnil))) (J45 true _ _ _ ⟨rfl, rfl, hle297⟩))
       ·refine s_bg fun y306 h311 => ?_
        refine Za8 [(fun H v g => v = (aE y3 a10 c11) ∧ g = [] ∧ RSl H a10 c11 y3.Sent),
   (fun H v g => v = Value.slice a1_0 x1.length c1_0 ∧ g = [] ∧ RSl H a1_0 c1_0 x1),
   (fV (.int .i64 s24.2)),
   (fun H v g => ∃ bk313 of314 a318 c319, v = Value.pointer (some ⟨bk313, of314, none⟩) ∧ g = [] ∧ RSl H a318 c319 y46.Sent ∧ Zaj H bk313 of314 (cE y46 a318 c319)),
   (fun H v g => ∃ a318 c319, v = (aE y46 a318 c319) ∧ g = [] ∧ RSl H a318 c319 y46.Sent),
   (fV (.agg #[.int .i64 y16.1.Switch, .int .i64 y16.1.Port])),
   (fV (.bool y57)),
   (fV (.bool y57)),
   (fV (.int .i64 s24.1)),
   (fV (.bool (s24.1 == 0))),
   (fV (.bool (s24.1 == 0))),
   (fun H v g => v = Value.slice a3_0 x3.length c3_0 ∧ g = [] ∧ RSl H a3_0 c3_0 x3),
   (fV (.int .i64 s24.2)),
   (fun H v g => ∃ bk323 of324, v = Value.pointer (some ⟨bk323, of324, none⟩) ∧ g = [] ∧ Zaj H bk323 of324 [.int .i64 y306]),
   (fV (.int .i64 y306)),
   (fV (.int .i64 (w64 (y306 + 1)))),
   (fV (.int .i64 s24.1)),
   (fV (.bool (decide ((w64 (y306 + 1)) < s24.1)))),
   (fV (.bool (decide ((w64 (y306 + 1)) < s24.1)))),
   (fV (.bool (decide ((w64 (y306 + 1)) < s24.1))))] [[], [], [], [], [], [], [], [], [], [], [], [], [], [], [], [], [], [], [], []] mixed ⟨fun _ _ _ _ hle ⟨e1, e2, h0_⟩ => ⟨e1, e2, RSl.mono hle h0_⟩, fun _ _ _ _ hle ⟨e1, e2, h0_⟩ => ⟨e1, e2, RSl.mono hle h0_⟩, m0, fun _ _ _ _ hle ⟨bk313, of314, a318, c319, e1, e2, h0_, h1_⟩ => ⟨_, _, _, _, e1, e2, RSl.mono hle h0_, Zaj.mono hle h1_⟩, fun _ _ _ _ hle ⟨a318, c319, e1, e2, h0_⟩ => ⟨_, _, e1, e2, RSl.mono hle h0_⟩, m0, m0, m0, m0, m0, m0, fun _ _ _ _ hle ⟨e1, e2, h0_⟩ => ⟨e1, e2, RSl.mono hle h0_⟩, m0, fun _ _ _ _ hle ⟨bk323, of324, e1, e2, h0_⟩ => ⟨_, _, e1, e2, Zaj.mono hle h0_⟩, m0, m0, m0, m0, m0, m0, trivial⟩ (by kernel_rfl) (by kernel_rfl) rfl (by kernel_rfl) rfl rfl ?_ ?_
        ·refine dc (fun _ _ _ _ hle330 _ _ => ?_) ?_
         ·have hs333 := RSl.mono hle330 hs31
          refine Zag (env' := [(9, .pointer (some ⟨b13, 0, none⟩))]) (by exact ⟨rfl, trivial⟩) ?_
          refine o_ld 0 rfl rfl rfl ?_
          exact Zai ((aE y3 a10 c11)) ⟨rfl, rfl, hs333⟩
         refine dc (fun _ _ _ _ hle338 _ _ => ?_) ?_
         ·have hs341 := RSl.mono hle338 hs29
          refine Zag (env' := [(1, .slice a1_0 x1.length c1_0)]) (by exact ⟨rfl, trivial⟩) ?_
          refine Zad rfl ?_
          exact Zai (.slice a1_0 x1.length c1_0) ⟨rfl, rfl, hs341⟩
         refine dc (fun _ _ _ _ _ _ _ => ?_) ?_
         ·refine Zag (env' := [(14, .int .i64 s24.2)]) (by exact ⟨rfl, trivial⟩) ?_
          refine Zad rfl ?_
          exact Zai (.int .i64 s24.2) ⟨rfl, rfl⟩
         refine Za3 ?_ ?_
         ·intro _ _ H351 fr352 hle353 hd354
          obtain ⟨hv356, hg357, hp358⟩ := hd354 1 (by decide)
          obtain ⟨hv359, hg360⟩ := hd354 2 (by decide)
          refine ⟨_, (rd x1 s24.2).bind some, by rw [h56]; rfl, fun _ => ?_⟩
          refine Zag (env' := [(42, .slice a1_0 x1.length c1_0), (43, .int .i64 s24.2)]) (by exact ⟨congrArg some hv356, congrArg some hv359, trivial⟩) ?_
          refine o_ix hp358 rfl rfl fun y46 bk362 of363 vs365 h361 hc364 hr366 => ?_
          obtain ⟨a367, c368, rfl, hs369⟩ := hr366
          obtain rfl := Option.some.inj (h56.symm.trans h361)
          exact Zai (.pointer (some ⟨bk362, of363, none⟩)) ⟨bk362, of363, a367, c368, rfl, rfl, hs369, hc364⟩
         refine dc (fun _ _ _ _ _ hd375 _ => ?_) ?_
         ·obtain ⟨bk377, of378, a379, c380, hv381, hg382, hp383, hp384⟩ := hd375 3 (by decide)
          refine Zag (env' := [(44, .pointer (some ⟨bk377, of378, none⟩))]) (by exact ⟨congrArg some hv381, trivial⟩) ?_
          refine ZaP 0 hp384 rfl rfl rfl ?_
          exact Zai ((aE y46 a379 c380)) ⟨a379, c380, rfl, rfl, hp383⟩
         refine dc (fun _ _ _ _ _ _ _ => ?_) ?_
         ·refine Zag (env' := [(10, .pointer (some ⟨b18, 0, none⟩))]) (by exact ⟨rfl, trivial⟩) ?_
          refine o_ld 1 rfl rfl rfl ?_
          exact Zai (.agg #[.int .i64 y16.1.Switch, .int .i64 y16.1.Port]) ⟨rfl, rfl⟩
         refine Za3 ?_ ?_
         ·intro _ _ H394 fr395 hle396 hd397
          obtain ⟨hv399, hg400, hp401⟩ := hd397 0 (by decide)
          obtain ⟨a402, c403, hv404, hg405, hp406⟩ := hd397 4 (by decide)
          obtain ⟨hv407, hg408⟩ := hd397 5 (by decide)
          refine ⟨_, (Zbz k y3 y46 y16.1).bind some, by rw [h59]; rfl, fun _ => ?_⟩
          refine Zag (env' := [(41, (aE y3 a10 c11)), (45, (aE y46 a402 c403)), (46, .agg #[.int .i64 y16.1.Switch, .int .i64 y16.1.Port])]) (by exact ⟨congrArg some hv399, congrArg some hv404, congrArg some hv407, trivial⟩) ?_
          refine s_bg fun y57 h409 => ?_
          refine Zas rfl rfl (ZcT k _ y3 _ _ hp401 y46 _ _ hp406 y16.1 h409) ?_
          obtain rfl := Option.some.inj (h59.symm.trans h409)
          exact Zai (.bool y57) ⟨rfl, rfl⟩
         refine dc1 6 (fun _ _ _ _ _ _ => ?_) ?_
         ·refine Zad rfl ?_
          exact Zai (.bool y57) ⟨rfl, rfl⟩
         refine dc1 7 (fun _ _ _ _ _ _ => ?_) ?_
         ·refine Zaf rfl rfl h60 <| Zad rfl ?_
          exact Zai (.int .i64 s24.1) ⟨rfl, rfl⟩
         refine dc2 7 8 (fun _ _ _ _ _ _ => ?_) ?_
         ·refine Zaf rfl rfl h60 <| o_eq rfl rfl ?_
          exact Zai (.bool (s24.1 == 0)) ⟨rfl, rfl⟩
         refine dc2 7 9 (fun _ _ _ _ _ _ => ?_) ?_
         ·refine Zaf rfl rfl h60 <| Zad rfl ?_
          exact Zai (.bool (s24.1 == 0)) ⟨rfl, rfl⟩
         refine dc1 10 (fun _ _ _ _ hle454 _ => ?_) ?_
         ·have hs457 := RSl.mono hle454 hs30
          refine Zaf rfl rfl h61 <| Zad rfl ?_
          exact Zai (.slice a3_0 x3.length c3_0) ⟨rfl, rfl, hs457⟩
         refine dc1 10 (fun _ _ _ _ _ _ => ?_) ?_
         ·refine Zaf rfl rfl h61 <| Zad rfl ?_
          exact Zai (.int .i64 s24.2) ⟨rfl, rfl⟩
         refine Za3 ?_ ?_
         ·intro _ _ H471 fr472 hle473 hd474
          obtain ⟨hv476, hg477⟩ := hd474 10 (by decide)
          obtain ⟨hv478, hg479, hp480⟩ := hd474 11 (by decide)
          obtain ⟨hv481, hg482⟩ := hd474 12 (by decide)
          refine ⟨_, (rd x3 s24.2).bind some, by rw [h311]; rfl, fun _ => ?_⟩
          refine Zag (env' := [(51, .bool (s24.1 == 0)), (52, .slice a3_0 x3.length c3_0), (53, .int .i64 s24.2)]) (by exact ⟨congrArg some hv476, congrArg some hv478, congrArg some hv481, trivial⟩) ?_
          refine Zaf rfl rfl h61 ?_
          refine Zce hp480 rfl rfl fun y306 bk484 of485 h483 hc486 => ?_
          obtain rfl := Option.some.inj (h311.symm.trans h483)
          exact Zai (.pointer (some ⟨bk484, of485, none⟩)) ⟨bk484, of485, rfl, rfl, hc486⟩
         refine dc (fun _ _ _ _ _ hd492 _ => ?_) ?_
         ·obtain ⟨hv494, hg495⟩ := hd492 10 (by decide)
          obtain ⟨bk496, of497, hv498, hg499, hp500⟩ := hd492 13 (by decide)
          refine Zag (env' := [(51, .bool (s24.1 == 0)), (54, .pointer (some ⟨bk496, of497, none⟩))]) (by exact ⟨congrArg some hv494, congrArg some hv498, trivial⟩) ?_
          refine Zaf rfl rfl h61 ?_
          refine ZaP 0 hp500 rfl rfl rfl ?_
          exact Zai (.int .i64 y306) ⟨rfl, rfl⟩
         refine dc2 10 14 (fun _ _ _ _ _ _ => ?_) ?_
         ·refine Zaf rfl rfl h61 <| ZbM rfl rfl ?_
          exact Zai (.int .i64 (w64 (y306 + 1))) ⟨rfl, rfl⟩
         refine dc1 10 (fun _ _ _ _ _ _ => ?_) ?_
         ·refine Zaf rfl rfl h61 <| Zad rfl ?_
          exact Zai (.int .i64 s24.1) ⟨rfl, rfl⟩
         refine dc (fun _ _ _ _ _ hd526 _ => ?_) ?_
         ·obtain ⟨hv528, hg529⟩ := hd526 10 (by decide)
          obtain ⟨hv530, hg531⟩ := hd526 15 (by decide)
          obtain ⟨hv532, hg533⟩ := hd526 16 (by decide)
          refine Zag (env' := [(51, .bool (s24.1 == 0)), (56, .int .i64 (w64 (y306 + 1))), (57, .int .i64 s24.1)]) (by exact ⟨congrArg some hv528, congrArg some hv530, congrArg some hv532, trivial⟩) ?_
          refine Zaf rfl rfl h61 <| o_lt rfl rfl ?_
          exact Zai (.bool (decide ((w64 (y306 + 1)) < s24.1))) ⟨rfl, rfl⟩
         refine dc (fun _ _ _ _ _ hd539 _ => ?_) ?_
         ·obtain ⟨hv541, hg542⟩ := hd539 7 (by decide)
          obtain ⟨hv543, hg544⟩ := hd539 10 (by decide)
          obtain ⟨hv545, hg546⟩ := hd539 17 (by decide)
          refine Zag (env' := [(48, .bool y57), (51, .bool (s24.1 == 0)), (58, .bool (decide ((w64 (y306 + 1)) < s24.1)))]) (by exact ⟨congrArg some hv541, congrArg some hv543, congrArg some hv545, trivial⟩) ?_
          refine Zaf rfl rfl h60 <| Zal rfl h61 rfl ?_
          exact Zai (.bool (decide ((w64 (y306 + 1)) < s24.1))) ⟨rfl, rfl⟩
         refine dc2 7 18 (fun _ _ _ _ _ _ => ?_) ?_
         ·refine Zan rfl h60 rfl ?_
          exact Zai (.bool (decide ((w64 (y306 + 1)) < s24.1))) ⟨rfl, rfl⟩
         exact dnil
        ·intro V560 G561 H558 hle559 hF562
         obtain ⟨hv566, hg567⟩ := hF562 19 (show 19 < 20 by decide)
         refine Zag (env' := [(60, .bool (decide ((w64 (y306 + 1)) < s24.1))), (1, .slice a1_0 x1.length c1_0), (2, .int .i64 x2), (3, .slice a3_0 x3.length c3_0), (9, .pointer (some ⟨b13, 0, none⟩)), (10, .pointer (some ⟨b18, 0, none⟩)), (12, .bool y16.2.2), (13, .int .i64 s24.1), (14, .int .i64 s24.2), (38, .bool ((decide (s24.2 < x2)) && y16.2.2))]) (by exact ⟨congrArg some hv566, rfl, rfl, rfl, rfl, rfl, rfl, rfl, rfl, rfl, trivial⟩) ?_
         refine Zam (List.sublist_append_left _ _) ?_
         refine Zac ?_
         exact Zag (by exact ⟨rfl, rfl, rfl, rfl, rfl, rfl, rfl, rfl, rfl, trivial⟩) (Zam (by exact (.cons_cons _ (.cons_cons _ .slnil))) (J45 (decide ((w64 (y306 + 1)) < s24.1)) _ _ _ ⟨rfl, rfl, hle559⟩))
      ·refine Za8 [(fun H v g => v = (aE y3 a10 c11) ∧ g = [] ∧ RSl H a10 c11 y3.Sent),
   (fun H v g => v = Value.slice a1_0 x1.length c1_0 ∧ g = [] ∧ RSl H a1_0 c1_0 x1),
   (fV (.int .i64 s24.2)),
   (fun H v g => ∃ bk569 of570 a574 c575, v = Value.pointer (some ⟨bk569, of570, none⟩) ∧ g = [] ∧ RSl H a574 c575 y46.Sent ∧ Zaj H bk569 of570 (cE y46 a574 c575)),
   (fun H v g => ∃ a574 c575, v = (aE y46 a574 c575) ∧ g = [] ∧ RSl H a574 c575 y46.Sent),
   (fV (.agg #[.int .i64 y16.1.Switch, .int .i64 y16.1.Port])),
   (fV (.bool y57)),
   (fV (.bool y57)),
   uF,
   uF,
   uF,
   uF,
   uF,
   uF,
   uF,
   uF,
   uF,
   uF,
   uF,
   (fV (.bool false))] [[], [], [], [], [], [], [], [], [], [], [], [], [], [], [], [], [], [], [], []] mixed ⟨fun _ _ _ _ hle ⟨e1, e2, h0_⟩ => ⟨e1, e2, RSl.mono hle h0_⟩, fun _ _ _ _ hle ⟨e1, e2, h0_⟩ => ⟨e1, e2, RSl.mono hle h0_⟩, m0, fun _ _ _ _ hle ⟨bk569, of570, a574, c575, e1, e2, h0_, h1_⟩ => ⟨_, _, _, _, e1, e2, RSl.mono hle h0_, Zaj.mono hle h1_⟩, fun _ _ _ _ hle ⟨a574, c575, e1, e2, h0_⟩ => ⟨_, _, e1, e2, RSl.mono hle h0_⟩, m0, m0, m0, m0, m0, m0, m0, m0, m0, m0, m0, m0, m0, m0, m0, trivial⟩ (by kernel_rfl) (by kernel_rfl) rfl (by kernel_rfl) rfl rfl ?_ ?_
       ·refine dc (fun _ _ _ _ hle582 _ _ => ?_) ?_
        ·have hs585 := RSl.mono hle582 hs31
         refine Zag (env' := [(9, .pointer (some ⟨b13, 0, none⟩))]) (by exact ⟨rfl, trivial⟩) ?_
         refine o_ld 0 rfl rfl rfl ?_
         exact Zai ((aE y3 a10 c11)) ⟨rfl, rfl, hs585⟩
        refine dc (fun _ _ _ _ hle590 _ _ => ?_) ?_
        ·have hs593 := RSl.mono hle590 hs29
         refine Zag (env' := [(1, .slice a1_0 x1.length c1_0)]) (by exact ⟨rfl, trivial⟩) ?_
         refine Zad rfl ?_
         exact Zai (.slice a1_0 x1.length c1_0) ⟨rfl, rfl, hs593⟩
        refine dc (fun _ _ _ _ _ _ _ => ?_) ?_
        ·refine Zag (env' := [(14, .int .i64 s24.2)]) (by exact ⟨rfl, trivial⟩) ?_
         refine Zad rfl ?_
         exact Zai (.int .i64 s24.2) ⟨rfl, rfl⟩
        refine Za3 ?_ ?_
        ·intro _ _ H603 fr604 hle605 hd606
         obtain ⟨hv608, hg609, hp610⟩ := hd606 1 (by decide)
         obtain ⟨hv611, hg612⟩ := hd606 2 (by decide)
         refine ⟨_, (rd x1 s24.2).bind some, by rw [h56]; rfl, fun _ => ?_⟩
         refine Zag (env' := [(42, .slice a1_0 x1.length c1_0), (43, .int .i64 s24.2)]) (by exact ⟨congrArg some hv608, congrArg some hv611, trivial⟩) ?_
         refine o_ix hp610 rfl rfl fun y46 bk614 of615 vs617 h613 hc616 hr618 => ?_
         obtain ⟨a619, c620, rfl, hs621⟩ := hr618
         obtain rfl := Option.some.inj (h56.symm.trans h613)
         exact Zai (.pointer (some ⟨bk614, of615, none⟩)) ⟨bk614, of615, a619, c620, rfl, rfl, hs621, hc616⟩
        refine dc (fun _ _ _ _ _ hd627 _ => ?_) ?_
        ·obtain ⟨bk629, of630, a631, c632, hv633, hg634, hp635, hp636⟩ := hd627 3 (by decide)
         refine Zag (env' := [(44, .pointer (some ⟨bk629, of630, none⟩))]) (by exact ⟨congrArg some hv633, trivial⟩) ?_
         refine ZaP 0 hp636 rfl rfl rfl ?_
         exact Zai ((aE y46 a631 c632)) ⟨a631, c632, rfl, rfl, hp635⟩
        refine dc (fun _ _ _ _ _ _ _ => ?_) ?_
        ·refine Zag (env' := [(10, .pointer (some ⟨b18, 0, none⟩))]) (by exact ⟨rfl, trivial⟩) ?_
         refine o_ld 1 rfl rfl rfl ?_
         exact Zai (.agg #[.int .i64 y16.1.Switch, .int .i64 y16.1.Port]) ⟨rfl, rfl⟩
        refine Za3 ?_ ?_
        ·intro _ _ H646 fr647 hle648 hd649
         obtain ⟨hv651, hg652, hp653⟩ := hd649 0 (by decide)
         obtain ⟨a654, c655, hv656, hg657, hp658⟩ := hd649 4 (by decide)
         obtain ⟨hv659, hg660⟩ := hd649 5 (by decide)
         refine ⟨_, (Zbz k y3 y46 y16.1).bind some, by rw [h59]; rfl, fun _ => ?_⟩
         refine Zag (env' := [(41, (aE y3 a10 c11)), (45, (aE y46 a654 c655)), (46, .agg #[.int .i64 y16.1.Switch, .int .i64 y16.1.Port])]) (by exact ⟨congrArg some hv651, congrArg some hv656, congrArg some hv659, trivial⟩) ?_
         refine s_bg fun y57 h661 => ?_
         refine Zas rfl rfl (ZcT k _ y3 _ _ hp653 y46 _ _ hp658 y16.1 h661) ?_
         obtain rfl := Option.some.inj (h59.symm.trans h661)
         exact Zai (.bool y57) ⟨rfl, rfl⟩
        refine dc1 6 (fun _ _ _ _ _ _ => ?_) ?_
        ·refine Zad rfl ?_
         exact Zai (.bool y57) ⟨rfl, rfl⟩
        refine dcU 7 h60 ?_
        refine dcU 7 h60 ?_
        refine dcU 7 h60 ?_
        refine dcUU 10 ?_
        refine dcUU 10 ?_
        refine dcUU 10 ?_
        refine dcUU 10 ?_
        refine dcUU 10 ?_
        refine dcUU 10 ?_
        refine dcUU 10 ?_
        refine dcU 7 h60 ?_
        refine dc2 7 18 (fun _ _ _ _ _ _ => ?_) ?_
        ·refine Zal rfl h60 rfl ?_
         exact Zai (.bool false) ⟨rfl, rfl⟩
        exact dnil
       ·intro V804 G805 H802 hle803 hF806
        obtain ⟨hv810, hg811⟩ := hF806 19 (show 19 < 20 by decide)
        refine Zag (env' := [(60, .bool false), (1, .slice a1_0 x1.length c1_0), (2, .int .i64 x2), (3, .slice a3_0 x3.length c3_0), (9, .pointer (some ⟨b13, 0, none⟩)), (10, .pointer (some ⟨b18, 0, none⟩)), (12, .bool y16.2.2), (13, .int .i64 s24.1), (14, .int .i64 s24.2), (38, .bool ((decide (s24.2 < x2)) && y16.2.2))]) (by exact ⟨congrArg some hv810, rfl, rfl, rfl, rfl, rfl, rfl, rfl, rfl, rfl, trivial⟩) ?_
        refine Zam (List.sublist_append_left _ _) ?_
        refine Zac ?_
        exact Zag (by exact ⟨rfl, rfl, rfl, rfl, rfl, rfl, rfl, rfl, rfl, trivial⟩) (Zam (by exact (.cons_cons _ (.cons_cons _ .slnil))) (J45 false _ _ _ ⟨rfl, rfl, hle803⟩))
    ·refine Zbf rfl ?_
     exact Zag (by exact ⟨rfl, trivial⟩) (Zam (by exact (.cons _ (.cons _ .slnil))) (J23 s24.1 _ _ _ ⟨rfl, rfl, hle28⟩))
   ·intro J812
    refine Zad rfl <| Zad rfl <| o_lt rfl rfl <| Zad rfl ?_
    refine Zcw (decide (s24.2 < x2)) (fun h813 => ?_) (fun h813 => ?_)
    ·refine Zaf rfl rfl h813 <| Zad rfl <| Zan rfl h813 rfl ?_
     exact Zag (by exact ⟨rfl, rfl, rfl, rfl, rfl, rfl, rfl, rfl, lkb rfl (by first | simp only [h813, Bool.true_and, Bool.and_true, Bool.false_and, Bool.and_false, Bool.true_or, Bool.false_or, Bool.or_true, Bool.or_false, Bool.not_true, Bool.not_false] | simp [h813]), trivial⟩) (Zam (by exact (.cons_cons _ (.cons_cons _ .slnil))) J812)
    ·refine Zab rfl rfl h813 <| Zal rfl h813 rfl ?_
     exact Zag (by exact ⟨rfl, rfl, rfl, rfl, rfl, rfl, rfl, rfl, lkb rfl (by first | simp only [h813, Bool.true_and, Bool.and_true, Bool.false_and, Bool.and_false, Bool.true_or, Bool.false_or, Bool.or_true, Bool.or_false, Bool.not_true, Bool.not_false] | simp [h813]), trivial⟩) (Zam (by exact (.cons_cons _ (.cons_cons _ .slnil))) J812)
def ZbA (k : Nat) (x0 : Graph) (x1 : (List Version)) (x2 : (List Event)) : Nat → (List Int) × Int → Option (LX (Int × Int × Int) (Unit))
 | 0, _ => none
 | q23 + 1, s18 =>
  if (decide (s18.2 < (x2.length : Int))) = true then
   (rd x2 s18.2).bind fun y31 =>
   (ZbS k x0 y31).bind fun y42 =>
   if (!y42) = true then
    some (.ret (1, s18.2, 0))
   else
    (Zcp k x0 x2 s18.2 s18.1).bind fun y151 =>
    (app s18.1 ([y151] : List Int)).bind fun _ =>
    (rd x2 s18.2).bind fun y160 =>
    (ZbY k x1 y160).bind fun y170 =>
    if (!y170) = true then
     some (.ret (2, s18.2, 0))
    else
     (ZcL k x2 s18.2).bind fun y173 =>
     if (!y173) = true then
      some (.ret (3, s18.2, 0))
     else
      if (y151 == 0) = true then
       some (.ret (4, s18.2, 0))
      else
       if (decide (y151 > 12)) = true then
        some (.ret (5, s18.2, 0))
       else
        ZbA k x0 x1 x2 q23 ((s18.1 ++ ([y151] : List Int)), w64 (s18.2 + 1))
  else
   some (.out ())
def ZcA (k : Nat) (x0 : Graph) (x1 : (List Version)) (x2 : (List Event)) : Option (Int × Int × Int) :=
 (Zcq k x0 x1 x2).bind fun y3 =>
 if (y3 != 0) = true then
  some (0, 0, y3)
 else
  (ZbA k x0 x1 x2 k (([] : List Int), 0)).bind (LX.go fun p6 =>
  some (0, 0, 0))
theorem fn_8 : Tryz.prog.funcs[8]? = some Tryz.f8 := by kernel_rfl
theorem ZeX (k : Nat) (H : Heap) (x0 : Graph) (a0_0 : Option Addr) (c0_0 : Nat) (hx0_0 : RSl H a0_0 c0_0 x0.Links) (x1 : (List Version)) (a1_0 : Option Addr) (c1_0 : Nat) (hx1_0 : RSl H a1_0 c1_0 x1) (x2 : (List Event)) (a2_0 : Option Addr) (c2_0 : Nat) (hx2_0 : RSl H a2_0 c2_0 x2) {r : Int × Int × Int} (hr : ZcA k x0 x1 x2 = some r) :
  Fn Tryz.prog 8 [.agg #[.int .i64 x0.Switches, .slice a0_0 x0.Links.length c0_0], .slice a1_0 x1.length c1_0, .slice a2_0 x2.length c2_0] H [] fun H' v out => v = .tuple #[.int .i64 r.1, .int .i64 r.2.1, .int .i64 r.2.2] ∧ out = [] := by
 refine Zaq (args := [.agg #[.int .i64 x0.Switches, .slice a0_0 x0.Links.length c0_0], .slice a1_0 x1.length c1_0, .slice a2_0 x2.length c2_0]) (n := 66) (Φ := fun r H' v out => v = .tuple #[.int .i64 r.1, .int .i64 r.2.1, .int .i64 r.2.2] ∧ out = []) hr fn_8 rfl rfl rfl fun w => ?_
 refine s_eq (by rw [ZcA]) ?_
 refine Zae <| Zaa ?_
 refine ZbO rfl fun b1 => ?_
 refine Zah rfl <| Zah rfl <| Zah rfl <| Zac <| Zae <| Zae <| Zaa <| o_ld 0 rfl rfl rfl <| Zad rfl <| Zad rfl ?_
 refine s_bg fun y3 h4 => ?_
 refine Zas rfl rfl (ZeA k _ x0 _ _ hx0_0 x1 _ _ hx1_0 x2 _ _ hx2_0 h4) ?_
 refine Zah rfl <| Zac <| Zae <| Zaa <| Zad rfl <| o_ne rfl rfl <| Zac ?_
 refine Zao rfl (fun h5 => ?_) (fun h5 => ?_)
 ·refine Zae <| Zaa <| Zad rfl <| Zah rfl <| Zah rfl <| Zah rfl <| Zac ?_
  exact ZaF (xs := [.tmp 6, .tmp 7, .tmp 8]) (vs := [.int .i64 0, .int .i64 0, .int .i64 y3]) [] fn_8 rfl ⟨Zaz rfl, Zaz rfl, Zaz rfl, trivial⟩ (.cons _ .slnil) ⟨rfl, rfl⟩
 ·refine Zar <| Zae <| Zaa <| Zah rfl <| Zac <| Zae <| Zae <| Zaa <| Zah rfl <| Zac ?_
  refine ZbR (fun p6 env own H' => env = [] ∧ own = [] ∧ Hle H H') ?_ ?_
  ·rintro p6 _ _ H7 ⟨rfl, rfl, hle8⟩
   refine Zae <| Zaa <| Zah rfl <| Zah rfl <| Zah rfl <| Zac ?_
   exact ZaF (xs := [.tmp 6, .tmp 7, .tmp 8]) (vs := [.int .i64 0, .int .i64 0, .int .i64 0]) [] fn_8 rfl ⟨Zaz rfl, Zaz rfl, Zaz rfl, trivial⟩ .slnil ⟨rfl, rfl⟩
  ·intro J9
   refine Zat ?_
   refine Zc4 (sz := 1) (t := 3) ?_
   have hA11 : All2 (GoT.rep H) [] ([] : List Int) := Zbv
   refine Zag (env' := [(1, .slice a1_0 x1.length c1_0), (2, .slice a2_0 x2.length c2_0), (3, .pointer (some ⟨b1, 0, none⟩)), (10, .slice none ([] : List Int).length 0), (11, .int .i64 0)]) (by exact ⟨rfl, rfl, rfl, rfl, rfl, trivial⟩) ?_
   refine Zam (own' := [.blk b1 (Zak [.int .i64 x0.Switches, .slice a0_0 x0.Links.length c0_0] 24), .osl (.slice none ([] : List Int).length 0) 1 3 []]) (.cons_cons _ (.cons_cons _ .slnil)) ?_
   refine Za2 (fun q s18 => ZbA k x0 x1 x2 q s18) (fun s18 env own H' => ∃ a19 c20 ls21, env = [(1, .slice a1_0 x1.length c1_0), (2, .slice a2_0 x2.length c2_0), (3, .pointer (some ⟨b1, 0, none⟩)), (10, .slice a19 s18.1.length c20), (11, .int .i64 s18.2)] ∧ own = [.blk b1 (Zak [.int .i64 x0.Switches, .slice a0_0 x0.Links.length c0_0] 24), .osl (.slice a19 s18.1.length c20) 1 3 ls21] ∧ Hle H H' ∧ All2 (GoT.rep H') ls21 s18.1) (fun _ => rfl) ?_ k (([] : List Int), 0) ⟨_, _, _, rfl, rfl, .refl _, hA11⟩
   rintro q23 ih24 s18 _ _ H25 ⟨a19, c20, ls21, rfl, rfl, hle26, hA22⟩
   refine s_eq (by rw [ZbA]) ?_
   have hs27 := RSl.mono hle26 hx1_0
   have hs28 := RSl.mono hle26 hx2_0
   have hs29 := RSl.mono hle26 hx0_0
   refine Zae <| Zae <| Zaa <| Zad rfl <| Zad rfl <| ZaG rfl <| o_lt rfl rfl <| Zac ?_
   refine Zao rfl (fun h30 => ?_) (fun h30 => ?_)
   ·refine Zar <| Zae <| Zat <| Zae <| Zae ?_
    refine s_bg fun y31 h41 => ?_
    refine s_bg fun y42 h44 => ?_
    refine Za8 [(fun H v g => v = Value.agg #[.int .i64 x0.Switches, .slice a0_0 x0.Links.length c0_0] ∧ g = [] ∧ RSl H a0_0 c0_0 x0.Links),
   (fun H v g => v = Value.slice a2_0 x2.length c2_0 ∧ g = [] ∧ RSl H a2_0 c2_0 x2),
   (fV (.int .i64 s18.2)),
   (fun H v g => ∃ bk46 of47 a51 c52, v = Value.pointer (some ⟨bk46, of47, none⟩) ∧ g = [] ∧ RSl H a51 c52 y31.Sent ∧ Zaj H bk46 of47 (cE y31 a51 c52)),
   (fun H v g => ∃ a51 c52, v = (aE y31 a51 c52) ∧ g = [] ∧ RSl H a51 c52 y31.Sent),
   (fV (.bool y42)),
   (fV (.bool (!y42)))] [[], [], [], [], [], [], []] mixed ⟨fun _ _ _ _ hle ⟨e1, e2, h0_⟩ => ⟨e1, e2, RSl.mono hle h0_⟩, fun _ _ _ _ hle ⟨e1, e2, h0_⟩ => ⟨e1, e2, RSl.mono hle h0_⟩, m0, fun _ _ _ _ hle ⟨bk46, of47, a51, c52, e1, e2, h0_, h1_⟩ => ⟨_, _, _, _, e1, e2, RSl.mono hle h0_, Zaj.mono hle h1_⟩, fun _ _ _ _ hle ⟨a51, c52, e1, e2, h0_⟩ => ⟨_, _, e1, e2, RSl.mono hle h0_⟩, m0, m0, trivial⟩ (by kernel_rfl) (by kernel_rfl) rfl (by kernel_rfl) rfl rfl ?_ ?_
    ·refine dc (fun _ _ _ _ hle59 _ _ => ?_) ?_
     ·have hs62 := RSl.mono hle59 hs29
      refine Zag (env' := [(3, .pointer (some ⟨b1, 0, none⟩))]) (by exact ⟨rfl, trivial⟩) ?_
      refine o_ld 0 rfl rfl rfl ?_
      exact Zai (.agg #[.int .i64 x0.Switches, .slice a0_0 x0.Links.length c0_0]) ⟨rfl, rfl, hs62⟩
     refine dc (fun _ _ _ _ hle67 _ _ => ?_) ?_
     ·have hs70 := RSl.mono hle67 hs28
      refine Zag (env' := [(2, .slice a2_0 x2.length c2_0)]) (by exact ⟨rfl, trivial⟩) ?_
      refine Zad rfl ?_
      exact Zai (.slice a2_0 x2.length c2_0) ⟨rfl, rfl, hs70⟩
     refine dc (fun _ _ _ _ _ _ _ => ?_) ?_
     ·refine Zag (env' := [(11, .int .i64 s18.2)]) (by exact ⟨rfl, trivial⟩) ?_
      refine Zad rfl ?_
      exact Zai (.int .i64 s18.2) ⟨rfl, rfl⟩
     refine Za3 ?_ ?_
     ·intro _ _ H80 fr81 hle82 hd83
      obtain ⟨hv85, hg86, hp87⟩ := hd83 1 (by decide)
      obtain ⟨hv88, hg89⟩ := hd83 2 (by decide)
      refine ⟨_, (rd x2 s18.2).bind some, by rw [h41]; rfl, fun _ => ?_⟩
      refine Zag (env' := [(27, .slice a2_0 x2.length c2_0), (28, .int .i64 s18.2)]) (by exact ⟨congrArg some hv85, congrArg some hv88, trivial⟩) ?_
      refine o_ix hp87 rfl rfl fun y31 bk91 of92 vs94 h90 hc93 hr95 => ?_
      obtain ⟨a96, c97, rfl, hs98⟩ := hr95
      obtain rfl := Option.some.inj (h41.symm.trans h90)
      exact Zai (.pointer (some ⟨bk91, of92, none⟩)) ⟨bk91, of92, a96, c97, rfl, rfl, hs98, hc93⟩
     refine dc (fun _ _ _ _ _ hd104 _ => ?_) ?_
     ·obtain ⟨bk106, of107, a108, c109, hv110, hg111, hp112, hp113⟩ := hd104 3 (by decide)
      refine Zag (env' := [(29, .pointer (some ⟨bk106, of107, none⟩))]) (by exact ⟨congrArg some hv110, trivial⟩) ?_
      refine ZaP 0 hp113 rfl rfl rfl ?_
      exact Zai ((aE y31 a108 c109)) ⟨a108, c109, rfl, rfl, hp112⟩
     refine Za3 ?_ ?_
     ·intro _ _ H116 fr117 hle118 hd119
      obtain ⟨hv121, hg122, hp123⟩ := hd119 0 (by decide)
      obtain ⟨a124, c125, hv126, hg127, hp128⟩ := hd119 4 (by decide)
      refine ⟨_, (ZbS k x0 y31).bind some, by rw [h44]; rfl, fun _ => ?_⟩
      refine Zag (env' := [(26, .agg #[.int .i64 x0.Switches, .slice a0_0 x0.Links.length c0_0]), (30, (aE y31 a124 c125))]) (by exact ⟨congrArg some hv121, congrArg some hv126, trivial⟩) ?_
      refine s_bg fun y42 h129 => ?_
      refine Zas rfl rfl (Zeu k _ x0 _ _ hp123 y31 _ _ hp128 h129) ?_
      obtain rfl := Option.some.inj (h44.symm.trans h129)
      exact Zai (.bool y42) ⟨rfl, rfl⟩
     refine dc1 5 (fun _ _ _ _ _ _ => ?_) ?_
     ·refine Zdc rfl ?_
      exact Zai (.bool (!y42)) ⟨rfl, rfl⟩
     exact dnil
    ·intro V141 G142 H139 hle140 hF143
     have hs144 := RSl.mono hle140 hs27
     have hs145 := RSl.mono hle140 hs28
     have hs146 := RSl.mono hle140 hs29
     have hA147 := All2.mono (fun _ _ => GoT.mono hle140) hA22
     obtain ⟨hv148, hg149⟩ := hF143 6 (show 6 < 7 by decide)
     refine Zag (env' := [(32, .bool (!y42)), (1, .slice a1_0 x1.length c1_0), (2, .slice a2_0 x2.length c2_0), (3, .pointer (some ⟨b1, 0, none⟩)), (10, .slice a19 s18.1.length c20), (11, .int .i64 s18.2), (20, .int .i64 s18.2), (21, .slice a2_0 x2.length c2_0), (22, .int .i64 (x2.length : Int)), (23, .bool (decide (s18.2 < (x2.length : Int))))]) (by exact ⟨congrArg some hv148, rfl, rfl, rfl, rfl, rfl, rfl, rfl, rfl, rfl, trivial⟩) ?_
     refine Zam (List.sublist_append_left _ _) ?_
     refine Zac ?_
     refine Zao rfl (fun h150 => ?_) (fun h150 => ?_)
     ·refine Zae <| Zaa <| Zad rfl <| Zah rfl <| Zah rfl <| Zah rfl <| Zac <| ZbQ ?_
      exact ZaF (xs := [.tmp 6, .tmp 7, .tmp 8]) (vs := [.int .i64 1, .int .i64 s18.2, .int .i64 0]) [] fn_8 rfl ⟨Zaz rfl, Zaz rfl, Zaz rfl, trivial⟩ (.cons _ (.cons _ .slnil)) ⟨rfl, rfl⟩
     ·refine Zar <| Zae <| Zaa <| o_ld 0 rfl rfl rfl <| Zad rfl <| Zad rfl <| Zad rfl ?_
      refine s_bg fun y151 h152 => ?_
      refine Zc5 (Φ := fun v out => v = _ ∧ out = []) [] _ rfl rfl (.refl _) (fun H' hle hl => Zez k _ x0 _ _ (RSl.mono hle hs146) x2 _ _ (RSl.mono hle hs145) s18.2 s18.1 _ _ (Zcf (hl _ (List.mem_of_getElem? (i := 1) rfl)) hA147 hle).2 h152) ?_
      rintro _ _ ⟨rfl, rfl⟩
      refine ZcG <| Zah rfl <| Zac <| Zae <| Zaa <| Zad rfl <| Zad rfl ?_
      refine Zdw (xs := [.tmp 40]) rfl rfl (by simp only [List.mem_cons, List.not_mem_nil, or_false, forall_eq_or_imp, forall_eq]; exact ⟨rfl, rfl⟩) rfl rfl fun b153 => ?_
      have hA154 : All2 (GoT.rep H139) [[.int .i64 y151]] ([y151] : List Int) := ZaZ (([y151] : List Int))
      refine Zfl 1 2 rfl rfl rfl hA147 rfl hA154 fun a156 c157 h158 hA159 => ?_
      refine Zah rfl <| Zac <| Zat <| Zae <| Zaa <| Zad rfl <| Zad rfl <| Zad rfl ?_
      refine o_ix hs145 rfl rfl fun y160 bk162 of163 vs165 h161 hc164 hr166 => ?_
      obtain ⟨a167, c168, rfl, hs169⟩ := hr166
      refine ZaP 0 hc164 rfl rfl rfl ?_
      refine s_bg fun y170 h171 => ?_
      refine Zas rfl rfl (Zey k _ x1 _ _ hs144 y160 _ _ hs169 h171) ?_
      refine Zdc rfl <| Zah rfl <| Zac ?_
      refine Zao rfl (fun h172 => ?_) (fun h172 => ?_)
      ·refine Zae <| Zaa <| Zad rfl <| Zah rfl <| Zah rfl <| Zah rfl <| Zac <| ZbQ ?_
       exact ZaF (xs := [.tmp 6, .tmp 7, .tmp 8]) (vs := [.int .i64 2, .int .i64 s18.2, .int .i64 0]) [] fn_8 rfl ⟨Zaz rfl, Zaz rfl, Zaz rfl, trivial⟩ (.cons _ (.cons _ (.cons _ .slnil))) ⟨rfl, rfl⟩
      ·refine Zae <| Zaa <| Zad rfl <| Zad rfl ?_
       refine s_bg fun y173 h174 => ?_
       refine Zas rfl rfl (Zfj k _ x2 _ _ hs145 s18.2 h174) ?_
       refine Zdc rfl <| Zah rfl <| Zac ?_
       refine Zao rfl (fun h175 => ?_) (fun h175 => ?_)
       ·refine Zae <| Zaa <| Zad rfl <| Zah rfl <| Zah rfl <| Zah rfl <| Zac <| ZbQ ?_
        exact ZaF (xs := [.tmp 6, .tmp 7, .tmp 8]) (vs := [.int .i64 3, .int .i64 s18.2, .int .i64 0]) [] fn_8 rfl ⟨Zaz rfl, Zaz rfl, Zaz rfl, trivial⟩ (.cons _ (.cons _ (.cons _ .slnil))) ⟨rfl, rfl⟩
       ·refine Zae <| Zaa <| Zad rfl <| o_eq rfl rfl <| Zah rfl <| Zac ?_
        refine Zao rfl (fun h176 => ?_) (fun h176 => ?_)
        ·refine Zae <| Zaa <| Zad rfl <| Zah rfl <| Zah rfl <| Zah rfl <| Zac <| ZbQ ?_
         exact ZaF (xs := [.tmp 6, .tmp 7, .tmp 8]) (vs := [.int .i64 4, .int .i64 s18.2, .int .i64 0]) [] fn_8 rfl ⟨Zaz rfl, Zaz rfl, Zaz rfl, trivial⟩ (.cons _ (.cons _ (.cons _ .slnil))) ⟨rfl, rfl⟩
        ·refine Zae <| Zaa <| Zad rfl <| o_gt rfl rfl <| Zah rfl <| Zac ?_
         refine Zao rfl (fun h177 => ?_) (fun h177 => ?_)
         ·refine Zae <| Zaa <| Zad rfl <| Zah rfl <| Zah rfl <| Zah rfl <| Zac <| ZbQ ?_
          exact ZaF (xs := [.tmp 6, .tmp 7, .tmp 8]) (vs := [.int .i64 5, .int .i64 s18.2, .int .i64 0]) [] fn_8 rfl ⟨Zaz rfl, Zaz rfl, Zaz rfl, trivial⟩ (.cons _ (.cons _ (.cons _ .slnil))) ⟨rfl, rfl⟩
         ·refine Zar <| Zav <| Zav <| Zaa <| Zad rfl <| ZbM rfl rfl <| Zah rfl <| Zac ?_
          exact Zag (by exact ⟨rfl, rfl, rfl, rfl, rfl, trivial⟩) (Zam (by exact (.cons_cons _ (.cons_cons _ (.cons _ .slnil)))) (ih24 ((s18.1 ++ ([y151] : List Int)), w64 (s18.2 + 1)) _ _ _ ⟨_, _, _, rfl, rfl, (Hle.trans hle26 hle140), hA159⟩))
   ·refine Zbf rfl ?_
    exact Zag (by exact trivial) (Zam (by exact (.cons _ (.cons _ .slnil))) (J9 () _ _ _ ⟨rfl, rfl, hle26⟩))
end Go.Cat.G3

