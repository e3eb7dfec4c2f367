/- A text of the proof of the seat's laws: a step logic over the machine, or pure functions that the Go functions come to. No condition. -/
import Derived.Test.YtmmpieknnnlnhaaGreatCore1
import Derived.Test.YtmmpieknnnlnhaaGreatJ14
namespace Go.Cat.G3
open Go Go.Cat Go.Proofs
set_option maxRecDepth 100000
set_option maxHeartbeats 4000000
set_option linter.unusedVariables false
set_option linter.unusedSimpArgs false
structure Catenaryref23_place where
 nodes : (List Node)
 sw : Int
 port : Int
instance iZ5x1 : GoT Catenaryref23_place := {
 sz := 3
 rep := fun H vs x => ∃ a0 c0, vs = [.slice a0 x.nodes.length c0, .int .i64 x.sw, .int .i64 x.port] ∧ RSl H a0 c0 x.nodes
 mono := fun h ⟨a0, c0, e, h0⟩ => ⟨a0, c0, e, h0.mono h⟩
 len := fun ⟨_, _, e, _⟩ => by rw [e]; rfl
 one := fun ⟨_, _, e, _⟩ => by rw [e]; rfl }
instance iZ5x2 : TUnd Tryz.prog 5 (.int .u8) := ⟨by kernel_rfl⟩
instance iZ5x3 : TLay Tryz.prog 243 3 true := ⟨fun _ => by kernel_rfl, fun _ => by kernel_rfl, fun h => by first | rfl | cases h⟩
instance iZ5x4 : TFld Tryz.prog 243 0 0 1 false := ⟨⟨_, _, Tryz.underlying243, rfl, rfl, fun _ => by kernel_rfl, fun _ => by kernel_rfl, by decide, fun h => by first | rfl | cases h⟩⟩
instance iZ5x5 : TFld Tryz.prog 243 1 1 1 false := ⟨⟨_, _, Tryz.underlying243, rfl, rfl, fun _ => by kernel_rfl, fun _ => by kernel_rfl, by decide, fun h => by first | rfl | cases h⟩⟩
instance iZ5x6 : TFld Tryz.prog 243 2 2 1 false := ⟨⟨_, _, Tryz.underlying243, rfl, rfl, fun _ => by kernel_rfl, fun _ => by kernel_rfl, by decide, fun h => by first | rfl | cases h⟩⟩
instance iZ5x7 : TFun Tryz.prog 136 := ⟨_, (by kernel_rfl : Tryz.prog.funcs[136]? = some Tryz.f136), by decide, rfl⟩
instance iZ5x8 : TFun Tryz.prog 170 := ⟨_, (by kernel_rfl : Tryz.prog.funcs[170]? = some Tryz.f170), by decide, rfl⟩
instance iZ5x9 : TFun Tryz.prog 171 := ⟨_, (by kernel_rfl : Tryz.prog.funcs[171]? = some Tryz.f171), by decide, rfl⟩
instance iZ5x10 : TFun Tryz.prog 193 := ⟨_, (by kernel_rfl : Tryz.prog.funcs[193]? = some Tryz.f193), by decide, rfl⟩
def catenaryref23_ahead_l0 (k : Nat) (x0 : Sent) (x1 : Sent) : Nat → Int → Option (LX (Bool) (Unit))
 | 0, _ => none
 | q11 + 1, s10 =>
  if (decide (s10 < 3)) = true then
   (rd ([x0.H.e0, x0.H.e1, x0.H.e2] : List Int) s10).bind fun y16 =>
   (rd ([x1.H.e0, x1.H.e1, x1.H.e2] : List Int) s10).bind fun y19 =>
   if (y16 != y19) = true then
    (rd ([x0.H.e0, x0.H.e1, x0.H.e2] : List Int) s10).bind fun y113 =>
    (rd ([x1.H.e0, x1.H.e1, x1.H.e2] : List Int) s10).bind fun y116 =>
    some (.ret (decide (y113 < y116)))
   else
    catenaryref23_ahead_l0 k x0 x1 q11 (w64 (s10 + 1))
  else
   some (.out ())
def Zb0 (k : Nat) (x0 : Sent) (x1 : Sent) : Option Bool :=
 if (x0.Port != x1.Port) = true then
  some (decide (x0.Port < x1.Port))
 else
  (catenaryref23_ahead_l0 k x0 x1 k 0).bind (LX.go fun p6 =>
  some false)
theorem ZiN : Tryz.prog.funcs[171]? = some Tryz.f171 := by kernel_rfl
theorem ZeB (k : Nat) (H : Heap) (x0 : Sent) (x1 : Sent) {r : Bool} (hr : Zb0 k x0 x1 = some r) :
  Fn Tryz.prog 171 [(aS x0), (aS x1)] H [] fun H' v out => v = .bool r ∧ out = [] := by
 refine Zaq (args := [(aS x0), (aS x1)]) (n := 38) (Φ := fun r H' v out => v = .bool r ∧ out = []) hr ZiN rfl rfl rfl fun w => ?_
 refine s_eq (by rw [Zb0]) ?_
 refine Zae <| Zaa ?_
 refine ZbO rfl fun b1 => ?_
 refine ZbO rfl fun b3 => ?_
 refine Zah rfl <| Zac <| Zae <| Zae <| Zaa <| o_fa rfl <| o_ld 0 rfl rfl rfl <| o_fa rfl <| o_ld 1 rfl rfl rfl <| o_ne rfl rfl <| Zac ?_
 refine Zao rfl (fun h5 => ?_) (fun h5 => ?_)
 ·refine Zae <| Zaa <| o_fa rfl <| o_ld 0 rfl rfl rfl <| o_fa rfl <| o_ld 1 rfl rfl rfl <| o_lt rfl rfl <| Zah rfl <| Zac ?_
  exact s_r1 4 (.bool (decide (x0.Port < x1.Port))) ZiN ⟨rfl, rfl⟩
 ·refine Zar <| Zae <| Zae <| Zaa <| Zah rfl <| Zac ?_
  refine ZbR (fun p6 env own H' => env = [] ∧ own = [] ∧ Hle H H') ?_ ?_
  ·rintro p6 _ _ H7 ⟨rfl, rfl, hle8⟩
   refine Zae <| Zaa <| Zah rfl <| Zac ?_
   exact s_r1 4 (.bool false) ZiN ⟨rfl, rfl⟩
  ·intro J9
   refine Zat ?_
   refine Zag (env' := [(2, .pointer (some ⟨b1, 0, none⟩)), (3, .pointer (some ⟨b3, 0, none⟩)), (5, .int .i64 0)]) (by exact ⟨rfl, rfl, rfl, trivial⟩) ?_
   refine Zam (own' := [.blk b1 (Zak (cS x0) 47), .blk b3 (Zak (cS x1) 47)]) (.cons_cons _ (.cons_cons _ .slnil)) ?_
   refine Za2 (fun q s10 => catenaryref23_ahead_l0 k x0 x1 q s10) (fun s10 env own H' => env = [(2, .pointer (some ⟨b1, 0, none⟩)), (3, .pointer (some ⟨b3, 0, none⟩)), (5, .int .i64 s10)] ∧ own = [.blk b1 (Zak (cS x0) 47), .blk b3 (Zak (cS x1) 47)] ∧ Hle H H') (fun _ => rfl) ?_ k 0 ⟨rfl, rfl, .refl _⟩
   rintro q11 ih12 s10 _ _ H13 ⟨rfl, rfl, hle14⟩
   refine s_eq (by rw [catenaryref23_ahead_l0]) ?_
   refine Zae <| Zae <| Zaa <| Zad rfl <| o_lt rfl rfl <| Zac ?_
   refine Zao rfl (fun h15 => ?_) (fun h15 => ?_)
   ·refine Zar <| Zae <| Zat <| Zae ?_
    refine s_bg fun y16 h18 => ?_
    refine s_bg fun y19 h21 => ?_
    refine Za8 [(fV (.int .i64 s10)),
   (fV (.pointer (some ⟨b1, 1, none⟩))),
   (fV (.pointer (some ⟨b1, 1 + (s10 : Int).toNat, none⟩))),
   (fV (.int .u8 y16)),
   (fV (.int .i64 s10)),
   (fV (.pointer (some ⟨b3, 1, none⟩))),
   (fV (.pointer (some ⟨b3, 1 + (s10 : Int).toNat, none⟩))),
   (fV (.int .u8 y19)),
   (fV (.bool (y16 != y19)))] [[], [], [], [], [], [], [], [], []] mixed ⟨m0, m0, m0, m0, m0, m0, m0, m0, m0, trivial⟩ (by kernel_rfl) (by kernel_rfl) rfl (by kernel_rfl) rfl rfl ?_ ?_
    ·refine dc (fun _ _ _ _ _ _ _ => ?_) ?_
     ·refine Zag (env' := [(5, .int .i64 s10)]) (by exact ⟨rfl, trivial⟩) ?_
      refine Zad rfl ?_
      exact Zai (.int .i64 s10) ⟨rfl, rfl⟩
     refine dc (fun _ _ _ _ _ _ _ => ?_) ?_
     ·refine Zag (env' := [(2, .pointer (some ⟨b1, 0, none⟩))]) (by exact ⟨rfl, trivial⟩) ?_
      refine o_fa rfl ?_
      exact Zai (.pointer (some ⟨b1, 1, none⟩)) ⟨rfl, rfl⟩
     refine Za3 ?_ ?_
     ·intro _ _ H40 fr41 hle42 hd43
      obtain ⟨hv45, hg46⟩ := hd43 0 (by decide)
      obtain ⟨hv47, hg48⟩ := hd43 1 (by decide)
      refine ⟨_, (rd ([x0.H.e0, x0.H.e1, x0.H.e2] : List Int) s10).bind some, by rw [h18]; rfl, fun _ => ?_⟩
      refine Zag (env' := [(20, .int .i64 s10), (21, .pointer (some ⟨b1, 1, none⟩))]) (by exact ⟨congrArg some hv45, congrArg some hv47, trivial⟩) ?_
      refine ZhG ([x0.H.e0, x0.H.e1, x0.H.e2] : List Int) rfl rfl rfl fun y16 h49 => ?_
      obtain rfl := Option.some.inj (h18.symm.trans h49)
      exact Zai (.pointer (some ⟨b1, 1 + (s10 : Int).toNat, none⟩)) ⟨rfl, rfl⟩
     refine dc1 2 (fun _ _ _ _ _ _ => ?_) ?_
     ·refine Zjc 0 rfl rfl (getA (off := 1) (len := 3) (g := (Value.int .u8)) rfl h18) ?_
      exact Zai (.int .u8 y16) ⟨rfl, rfl⟩
     refine dc (fun _ _ _ _ _ _ _ => ?_) ?_
     ·refine Zag (env' := [(5, .int .i64 s10)]) (by exact ⟨rfl, trivial⟩) ?_
      refine Zad rfl ?_
      exact Zai (.int .i64 s10) ⟨rfl, rfl⟩
     refine dc (fun _ _ _ _ _ _ _ => ?_) ?_
     ·refine Zag (env' := [(3, .pointer (some ⟨b3, 0, none⟩))]) (by exact ⟨rfl, trivial⟩) ?_
      refine o_fa rfl ?_
      exact Zai (.pointer (some ⟨b3, 1, none⟩)) ⟨rfl, rfl⟩
     refine Za3 ?_ ?_
     ·intro _ _ H75 fr76 hle77 hd78
      obtain ⟨hv80, hg81⟩ := hd78 4 (by decide)
      obtain ⟨hv82, hg83⟩ := hd78 5 (by decide)
      refine ⟨_, (rd ([x1.H.e0, x1.H.e1, x1.H.e2] : List Int) s10).bind some, by rw [h21]; rfl, fun _ => ?_⟩
      refine Zag (env' := [(24, .int .i64 s10), (25, .pointer (some ⟨b3, 1, none⟩))]) (by exact ⟨congrArg some hv80, congrArg some hv82, trivial⟩) ?_
      refine ZhG ([x1.H.e0, x1.H.e1, x1.H.e2] : List Int) rfl rfl rfl fun y19 h84 => ?_
      obtain rfl := Option.some.inj (h21.symm.trans h84)
      exact Zai (.pointer (some ⟨b3, 1 + (s10 : Int).toNat, none⟩)) ⟨rfl, rfl⟩
     refine dc1 6 (fun _ _ _ _ _ _ => ?_) ?_
     ·refine Zjc 1 rfl rfl (getA (off := 1) (len := 3) (g := (Value.int .u8)) rfl h21) ?_
      exact Zai (.int .u8 y19) ⟨rfl, rfl⟩
     refine dc2 3 7 (fun _ _ _ _ _ _ => ?_) ?_
     ·refine o_ne rfl rfl ?_
      exact Zai (.bool (y16 != y19)) ⟨rfl, rfl⟩
     exact dnil
    ·intro V107 G108 H105 hle106 hF109
     obtain ⟨hv110, hg111⟩ := hF109 8 (show 8 < 9 by decide)
     refine Zag (env' := [(28, .bool (y16 != y19)), (2, .pointer (some ⟨b1, 0, none⟩)), (3, .pointer (some ⟨b3, 0, none⟩)), (5, .int .i64 s10), (16, .int .i64 s10), (17, .bool (decide (s10 < 3)))]) (by exact ⟨congrArg some hv110, rfl, rfl, rfl, rfl, rfl, trivial⟩) ?_
     refine Zam (List.sublist_append_left _ _) ?_
     refine Zac ?_
     refine Zao rfl (fun h112 => ?_) (fun h112 => ?_)
     ·refine Zae ?_
      refine s_bg fun y113 h115 => ?_
      refine s_bg fun y116 h118 => ?_
      refine Za8 [(fV (.int .i64 s10)),
   (fV (.pointer (some ⟨b1, 1, none⟩))),
   (fV (.pointer (some ⟨b1, 1 + (s10 : Int).toNat, none⟩))),
   (fV (.int .u8 y113)),
   (fV (.int .i64 s10)),
   (fV (.pointer (some ⟨b3, 1, none⟩))),
   (fV (.pointer (some ⟨b3, 1 + (s10 : Int).toNat, none⟩))),
   (fV (.int .u8 y116)),
   (fV (.bool (decide (y113 < y116))))] [[], [], [], [], [], [], [], [], []] mixed ⟨m0, m0, m0, m0, m0, m0, m0, m0, m0, trivial⟩ (by kernel_rfl) (by kernel_rfl) rfl (by kernel_rfl) rfl rfl ?_ ?_
      ·refine dc (fun _ _ _ _ _ _ _ => ?_) ?_
       ·refine Zag (env' := [(5, .int .i64 s10)]) (by exact ⟨rfl, trivial⟩) ?_
        refine Zad rfl ?_
        exact Zai (.int .i64 s10) ⟨rfl, rfl⟩
       refine dc (fun _ _ _ _ _ _ _ => ?_) ?_
       ·refine Zag (env' := [(2, .pointer (some ⟨b1, 0, none⟩))]) (by exact ⟨rfl, trivial⟩) ?_
        refine o_fa rfl ?_
        exact Zai (.pointer (some ⟨b1, 1, none⟩)) ⟨rfl, rfl⟩
       refine Za3 ?_ ?_
       ·intro _ _ H137 fr138 hle139 hd140
        obtain ⟨hv142, hg143⟩ := hd140 0 (by decide)
        obtain ⟨hv144, hg145⟩ := hd140 1 (by decide)
        refine ⟨_, (rd ([x0.H.e0, x0.H.e1, x0.H.e2] : List Int) s10).bind some, by rw [h115]; rfl, fun _ => ?_⟩
        refine Zag (env' := [(29, .int .i64 s10), (30, .pointer (some ⟨b1, 1, none⟩))]) (by exact ⟨congrArg some hv142, congrArg some hv144, trivial⟩) ?_
        refine ZhG ([x0.H.e0, x0.H.e1, x0.H.e2] : List Int) rfl rfl rfl fun y113 h146 => ?_
        obtain rfl := Option.some.inj (h115.symm.trans h146)
        exact Zai (.pointer (some ⟨b1, 1 + (s10 : Int).toNat, none⟩)) ⟨rfl, rfl⟩
       refine dc1 2 (fun _ _ _ _ _ _ => ?_) ?_
       ·refine Zjc 0 rfl rfl (getA (off := 1) (len := 3) (g := (Value.int .u8)) rfl h115) ?_
        exact Zai (.int .u8 y113) ⟨rfl, rfl⟩
       refine dc (fun _ _ _ _ _ _ _ => ?_) ?_
       ·refine Zag (env' := [(5, .int .i64 s10)]) (by exact ⟨rfl, trivial⟩) ?_
        refine Zad rfl ?_
        exact Zai (.int .i64 s10) ⟨rfl, rfl⟩
       refine dc (fun _ _ _ _ _ _ _ => ?_) ?_
       ·refine Zag (env' := [(3, .pointer (some ⟨b3, 0, none⟩))]) (by exact ⟨rfl, trivial⟩) ?_
        refine o_fa rfl ?_
        exact Zai (.pointer (some ⟨b3, 1, none⟩)) ⟨rfl, rfl⟩
       refine Za3 ?_ ?_
       ·intro _ _ H172 fr173 hle174 hd175
        obtain ⟨hv177, hg178⟩ := hd175 4 (by decide)
        obtain ⟨hv179, hg180⟩ := hd175 5 (by decide)
        refine ⟨_, (rd ([x1.H.e0, x1.H.e1, x1.H.e2] : List Int) s10).bind some, by rw [h118]; rfl, fun _ => ?_⟩
        refine Zag (env' := [(33, .int .i64 s10), (34, .pointer (some ⟨b3, 1, none⟩))]) (by exact ⟨congrArg some hv177, congrArg some hv179, trivial⟩) ?_
        refine ZhG ([x1.H.e0, x1.H.e1, x1.H.e2] : List Int) rfl rfl rfl fun y116 h181 => ?_
        obtain rfl := Option.some.inj (h118.symm.trans h181)
        exact Zai (.pointer (some ⟨b3, 1 + (s10 : Int).toNat, none⟩)) ⟨rfl, rfl⟩
       refine dc1 6 (fun _ _ _ _ _ _ => ?_) ?_
       ·refine Zjc 1 rfl rfl (getA (off := 1) (len := 3) (g := (Value.int .u8)) rfl h118) ?_
        exact Zai (.int .u8 y116) ⟨rfl, rfl⟩
       refine dc2 3 7 (fun _ _ _ _ _ _ => ?_) ?_
       ·refine o_lt rfl rfl ?_
        exact Zai (.bool (decide (y113 < y116))) ⟨rfl, rfl⟩
       exact dnil
      ·intro V204 G205 H202 hle203 hF206
       obtain ⟨hv207, hg208⟩ := hF206 8 (show 8 < 9 by decide)
       refine Zag (env' := [(37, .bool (decide (y113 < y116))), (2, .pointer (some ⟨b1, 0, none⟩)), (3, .pointer (some ⟨b3, 0, none⟩)), (5, .int .i64 s10), (16, .int .i64 s10), (17, .bool (decide (s10 < 3))), (28, .bool (y16 != y19))]) (by exact ⟨congrArg some hv207, rfl, rfl, rfl, rfl, rfl, rfl, trivial⟩) ?_
       refine Zam (List.sublist_append_left _ _) ?_
       refine Zah rfl <| Zac <| ZbQ ?_
       exact s_r1 4 (.bool (decide (y113 < y116))) ZiN ⟨rfl, rfl⟩
     ·refine Zar <| Zav <| Zaa <| Zad rfl <| ZbM rfl rfl <| Zah rfl <| Zac ?_
      exact Zag (by exact ⟨rfl, rfl, rfl, trivial⟩) (Zam (by exact (.cons_cons _ (.cons_cons _ .slnil))) (ih12 (w64 (s10 + 1)) _ _ _ ⟨rfl, rfl, (Hle.trans hle14 hle106)⟩))
   ·refine Zbf rfl ?_
    exact Zag (by exact trivial) (Zam (by exact (.cons _ (.cons _ .slnil))) (J9 () _ _ _ ⟨rfl, rfl, hle14⟩))
def ZbI (k : Nat) (x0 : (List Sent)) (x1 : Sent) : Nat → (List Sent) × Int → Option ((List Sent) × Int)
 | 0, _ => none
 | q337 + 1, s332 =>
  (if (decide (s332.2 < (x0.length : Int))) = true then
    (rd x0 s332.2).bind fun y362 =>
    (Zb0 k y362 x1).bind fun y368 =>
    some y368
   else
    some false).bind fun p342 =>
  if (p342) = true then
   (rd x0 s332.2).bind fun y348 =>
   (app s332.1 ([y348] : List Sent)).bind fun _ =>
   ZbI k x0 x1 q337 ((s332.1 ++ ([y348] : List Sent)), w64 (s332.2 + 1))
  else
   some (s332.1, s332.2)
def ZbZ (k : Nat) (x0 : (List Sent)) (x1 : Sent) : Option (List Sent) :=
 (ZbI k x0 x1 k (([] : List Sent), 0)).bind fun p3 =>
 (app p3.1 ([x1] : List Sent)).bind fun _ =>
 (if (decide (p3.2 < (x0.length : Int))) = true then
   (rd x0 p3.2).bind fun y43 =>
   some (decide (y43 = x1))
  else
   some false).bind fun p19 =>
 (if (p19) = true then
   some (w64 (p3.2 + 1))
  else
   some p3.2).bind fun p24 =>
 (slc x0 p24 x0.length).bind fun y31 =>
 (app (p3.1 ++ ([x1] : List Sent)) y31).bind fun _ =>
 some ((p3.1 ++ ([x1] : List Sent)) ++ y31)
theorem ZlZ : Tryz.prog.funcs[136]? = some Tryz.f136 := by kernel_rfl
theorem Zc7 (k : Nat) (H : Heap) (x0 : (List Sent)) (a0_0 : Option Addr) (c0_0 : Nat) (hx0_0 : RSl H a0_0 c0_0 x0) (x1 : Sent) {r : (List Sent)} (hr : ZbZ k x0 x1 = some r) :
  Fn Tryz.prog 136 [.slice a0_0 x0.length c0_0, (aS x1)] H [] fun H' v out => ∃ a0 c0, v = .slice a0 r.length c0 ∧ out = [.osl (.slice a0 r.length c0) 4 47 (r.map GoE.enc)] := by
 refine Zaq (args := [.slice a0_0 x0.length c0_0, (aS x1)]) (n := 51) (Φ := fun r H' v out => ∃ a0 c0, v = .slice a0 r.length c0 ∧ out = [.osl (.slice a0 r.length c0) 4 47 (r.map GoE.enc)]) hr ZlZ rfl rfl rfl fun w => ?_
 refine s_eq (by rw [ZbZ]) ?_
 refine Zae <| Zaa ?_
 refine ZbO rfl fun b1 => ?_
 refine Zah rfl <| Zac <| Zae <| Zaa <| Zah rfl <| Zac <| Zae <| Zaa <| Zah rfl <| Zac <| Zae ?_
 refine Zb3 (fun p3 env own H' => ∃ a5 c6 ls7, env = [(0, .slice a0_0 x0.length c0_0), (3, .pointer (some ⟨b1, 0, none⟩)), (5, .slice a5 p3.1.length c6), (6, .int .i64 p3.2)] ∧ own = [.blk b1 (Zak (cS x1) 47), .osl (.slice a5 p3.1.length c6) 4 47 ls7] ∧ Hle H H' ∧ All2 (GoT.rep H') ls7 p3.1) ?_ ?_
 ·rintro p3 _ _ H9 ⟨a5, c6, ls7, rfl, rfl, hle10, hA8⟩
  have hs11 := RSl.mono hle10 hx0_0
  refine Zae <| Zaa <| Zad rfl <| o_ld 0 rfl rfl rfl ?_
  refine Zdw (xs := [.tmp 29]) rfl rfl (by simp only [List.mem_cons, List.not_mem_nil, or_false, forall_eq_or_imp, forall_eq]; exact ⟨rfl, rfl⟩) rfl rfl fun b12 => ?_
  have hA13 : All2 (GoT.rep H9) [(cS x1)] ([x1] : List Sent) := ZaZ (([x1] : List Sent))
  refine Zfl 1 2 rfl rfl rfl hA8 rfl hA13 fun a15 c16 h17 hA18 => ?_
  refine Zah rfl <| Zac <| Zae <| Zae ?_
  refine Zb3 (fun p19 env own H' => env = [(0, .slice a0_0 x0.length c0_0), (5, .slice a15 (p3.1 ++ ([x1] : List Sent)).length c16), (6, .int .i64 p3.2), (43, .bool p19)] ∧ own = [.osl (.slice a15 (p3.1 ++ ([x1] : List Sent)).length c16) 4 47 (ls7 ++ ([(cS x1)]))] ∧ Hle H9 H') ?_ ?_
  ·rintro p19 _ _ H20 ⟨rfl, rfl, hle21⟩
   have hs22 := RSl.mono hle21 hs11
   have hA23 := All2.mono (fun _ _ => GoT.mono hle21) hA18
   refine Zb3 (fun p24 env own H' => env = [(0, .slice a0_0 x0.length c0_0), (5, .slice a15 (p3.1 ++ ([x1] : List Sent)).length c16), (6, .int .i64 p24)] ∧ own = [.osl (.slice a15 (p3.1 ++ ([x1] : List Sent)).length c16) 4 47 (ls7 ++ ([(cS x1)]))] ∧ Hle H20 H') ?_ ?_
   ·rintro p24 _ _ H25 ⟨rfl, rfl, hle26⟩
    have hs27 := RSl.mono hle26 hs22
    have hA28 := All2.mono (fun _ _ => GoT.mono hle26) hA23
    refine Zae <| Zaa <| Zad rfl <| Zad rfl <| Zad rfl ?_
    refine o_sl hs27 rfl ⟨_, rfl⟩ rfl fun a29 c30 y31 h32 hs33 => ?_
    refine ZlU 0 rfl rfl rfl hA28 hs33 fun a34 c35 ls38 h36 hA37 => ?_
    refine Zah rfl <| Zac ?_
    exact ZaF (xs := [.tmp 4]) (vs := [.slice a34 ((p3.1 ++ ([x1] : List Sent)) ++ y31).length c35]) [.osl (.slice a34 ((p3.1 ++ ([x1] : List Sent)) ++ y31).length c35) 4 47 ls38] ZlZ rfl ⟨Zaz rfl, trivial⟩ (.cons_cons _ .slnil) ⟨_, _, rfl, (congrArg (fun z => [Res.osl _ _ _ z]) (Zb7 hA37))⟩
   ·intro J39
    refine Zao rfl (fun h40 => ?_) (fun h40 => ?_)
    ·refine Zaa <| Zad rfl <| ZbM rfl rfl <| Zah rfl <| Zac ?_
     exact Zag (by exact ⟨rfl, rfl, rfl, trivial⟩) (Zam (by exact (.cons_cons _ .slnil)) (J39 (w64 (p3.2 + 1)) _ _ _ ⟨rfl, rfl, .refl _⟩))
    ·refine Zar ?_
     exact Zag (by exact ⟨rfl, rfl, rfl, trivial⟩) (Zam (by exact (.cons_cons _ .slnil)) (J39 p3.2 _ _ _ ⟨rfl, rfl, .refl _⟩))
  ·intro J41
   refine Zax (decide (p3.2 < (x0.length : Int))) (fun h42 => ?_) (fun h42 => ?_)
   ·refine s_bg fun y43 h48 => ?_
    refine Za8 [(fV (.int .i64 p3.2)),
   (fun H v g => v = Value.slice a0_0 x0.length c0_0 ∧ g = [] ∧ RSl H a0_0 c0_0 x0),
   (fV (.int .i64 (x0.length : Int))),
   (fV (.bool (decide (p3.2 < (x0.length : Int))))),
   (fV (.bool (decide (p3.2 < (x0.length : Int))))),
   (fun H v g => v = Value.slice a0_0 x0.length c0_0 ∧ g = [] ∧ RSl H a0_0 c0_0 x0),
   (fV (.int .i64 p3.2)),
   (fun H v g => ∃ bk50 of51, v = Value.pointer (some ⟨bk50, of51, none⟩) ∧ g = [] ∧ Zaj H bk50 of51 (cS y43)),
   (fV ((aS y43))),
   (fV ((aS x1))),
   (fV (.bool (decide (y43 = x1)))),
   (fV (.bool (decide (y43 = x1))))] [[], [], [], [], [], [], [], [], [], [], [], []] mixed ⟨m0, fun _ _ _ _ hle ⟨e1, e2, h0_⟩ => ⟨e1, e2, RSl.mono hle h0_⟩, m0, m0, m0, fun _ _ _ _ hle ⟨e1, e2, h0_⟩ => ⟨e1, e2, RSl.mono hle h0_⟩, m0, fun _ _ _ _ hle ⟨bk50, of51, e1, e2, h0_⟩ => ⟨_, _, e1, e2, Zaj.mono hle h0_⟩, m0, m0, m0, m0, trivial⟩ (by kernel_rfl) (by kernel_rfl) rfl (by kernel_rfl) rfl rfl ?_ ?_
    ·refine dc (fun _ _ _ _ _ _ _ => ?_) ?_
     ·refine Zag (env' := [(6, .int .i64 p3.2)]) (by exact ⟨rfl, trivial⟩) ?_
      refine Zad rfl ?_
      exact Zai (.int .i64 p3.2) ⟨rfl, rfl⟩
     refine dc (fun _ _ _ _ hle64 _ _ => ?_) ?_
     ·have hs67 := RSl.mono hle64 hs11
      refine Zag (env' := [(0, .slice a0_0 x0.length c0_0)]) (by exact ⟨rfl, trivial⟩) ?_
      refine Zad rfl ?_
      exact Zai (.slice a0_0 x0.length c0_0) ⟨rfl, rfl, hs67⟩
     refine dc (fun _ _ _ _ _ hd73 _ => ?_) ?_
     ·obtain ⟨hv75, hg76, hp77⟩ := hd73 1 (by decide)
      refine Zag (env' := [(33, .slice a0_0 x0.length c0_0)]) (by exact ⟨congrArg some hv75, trivial⟩) ?_
      refine ZaG rfl ?_
      exact Zai (.int .i64 (x0.length : Int)) ⟨rfl, rfl⟩
     refine dc2 0 2 (fun _ _ _ _ _ _ => ?_) ?_
     ·refine o_lt rfl rfl ?_
      exact Zai (.bool (decide (p3.2 < (x0.length : Int)))) ⟨rfl, rfl⟩
     refine dc1 3 (fun _ _ _ _ _ _ => ?_) ?_
     ·refine Zad rfl ?_
      exact Zai (.bool (decide (p3.2 < (x0.length : Int)))) ⟨rfl, rfl⟩
     refine dc1 4 (fun _ _ _ _ hle102 _ => ?_) ?_
     ·have hs105 := RSl.mono hle102 hs11
      refine Zaf rfl rfl h42 <| Zad rfl ?_
      exact Zai (.slice a0_0 x0.length c0_0) ⟨rfl, rfl, hs105⟩
     refine dc1 4 (fun _ _ _ _ _ _ => ?_) ?_
     ·refine Zaf rfl rfl h42 <| Zad rfl ?_
      exact Zai (.int .i64 p3.2) ⟨rfl, rfl⟩
     refine Za3 ?_ ?_
     ·intro _ _ H119 fr120 hle121 hd122
      obtain ⟨hv124, hg125⟩ := hd122 4 (by decide)
      obtain ⟨hv126, hg127, hp128⟩ := hd122 5 (by decide)
      obtain ⟨hv129, hg130⟩ := hd122 6 (by decide)
      refine ⟨_, (rd x0 p3.2).bind some, by rw [h48]; rfl, fun _ => ?_⟩
      refine Zag (env' := [(36, .bool (decide (p3.2 < (x0.length : Int)))), (37, .slice a0_0 x0.length c0_0), (38, .int .i64 p3.2)]) (by exact ⟨congrArg some hv124, congrArg some hv126, congrArg some hv129, trivial⟩) ?_
      refine Zaf rfl rfl h42 ?_
      refine Zce hp128 rfl rfl fun y43 bk132 of133 h131 hc134 => ?_
      obtain rfl := Option.some.inj (h48.symm.trans h131)
      exact Zai (.pointer (some ⟨bk132, of133, none⟩)) ⟨bk132, of133, rfl, rfl, hc134⟩
     refine dc (fun _ _ _ _ _ hd140 _ => ?_) ?_
     ·obtain ⟨hv142, hg143⟩ := hd140 4 (by decide)
      obtain ⟨bk144, of145, hv146, hg147, hp148⟩ := hd140 7 (by decide)
      refine Zag (env' := [(36, .bool (decide (p3.2 < (x0.length : Int)))), (39, .pointer (some ⟨bk144, of145, none⟩))]) (by exact ⟨congrArg some hv142, congrArg some hv146, trivial⟩) ?_
      refine Zaf rfl rfl h42 ?_
      refine ZaP 0 hp148 rfl rfl rfl ?_
      exact Zai ((aS y43)) ⟨rfl, rfl⟩
     refine dc1 4 (fun _ _ _ _ _ _ => ?_) ?_
     ·refine Zaf rfl rfl h42 <| o_ld 0 rfl rfl rfl ?_
      exact Zai ((aS x1)) ⟨rfl, rfl⟩
     refine dc (fun _ _ _ _ _ hd163 _ => ?_) ?_
     ·obtain ⟨hv165, hg166⟩ := hd163 4 (by decide)
      obtain ⟨hv167, hg168⟩ := hd163 8 (by decide)
      obtain ⟨hv169, hg170⟩ := hd163 9 (by decide)
      refine Zag (env' := [(36, .bool (decide (p3.2 < (x0.length : Int)))), (40, (aS y43)), (41, (aS x1))]) (by exact ⟨congrArg some hv165, congrArg some hv167, congrArg some hv169, trivial⟩) ?_
      refine Zaf rfl rfl h42 ?_
      refine ZfV y43 x1 rfl rfl ?_
      exact Zai (.bool (decide (y43 = x1))) ⟨rfl, rfl⟩
     refine dc2 4 10 (fun _ _ _ _ _ _ => ?_) ?_
     ·refine Zan rfl h42 rfl ?_
      exact Zai (.bool (decide (y43 = x1))) ⟨rfl, rfl⟩
     exact dnil
    ·intro V184 G185 H182 hle183 hF186
     obtain ⟨hv190, hg191⟩ := hF186 11 (show 11 < 12 by decide)
     refine Zag (env' := [(43, .bool (decide (y43 = x1))), (0, .slice a0_0 x0.length c0_0), (3, .pointer (some ⟨b1, 0, none⟩)), (6, .int .i64 p3.2), (29, (aS x1)), (30, .slice (some ⟨b12, 0, none⟩) ([x1] : List Sent).length 1), (31, .slice a15 (p3.1 ++ ([x1] : List Sent)).length c16), (5, .slice a15 (p3.1 ++ ([x1] : List Sent)).length c16)]) (by exact ⟨congrArg some hv190, rfl, rfl, rfl, rfl, rfl, rfl, rfl, trivial⟩) ?_
     refine Zam (List.sublist_append_left _ _) ?_
     refine Zac ?_
     exact Zag (by exact ⟨rfl, rfl, rfl, rfl, trivial⟩) (Zam (by exact (.cons _ (.cons_cons _ (.cons _ .slnil)))) (J41 (decide (y43 = x1)) _ _ _ ⟨rfl, rfl, hle183⟩))
   ·refine Za8 [(fV (.int .i64 p3.2)),
   (fun H v g => v = Value.slice a0_0 x0.length c0_0 ∧ g = [] ∧ RSl H a0_0 c0_0 x0),
   (fV (.int .i64 (x0.length : Int))),
   (fV (.bool (decide (p3.2 < (x0.length : Int))))),
   (fV (.bool (decide (p3.2 < (x0.length : Int))))),
   uF,
   uF,
   uF,
   uF,
   uF,
   uF,
   (fV (.bool false))] [[], [], [], [], [], [], [], [], [], [], [], []] mixed ⟨m0, fun _ _ _ _ hle ⟨e1, e2, h0_⟩ => ⟨e1, e2, RSl.mono hle h0_⟩, m0, m0, m0, m0, m0, m0, m0, m0, m0, m0, trivial⟩ (by kernel_rfl) (by kernel_rfl) rfl (by kernel_rfl) rfl rfl ?_ ?_
    ·refine dc (fun _ _ _ _ _ _ _ => ?_) ?_
     ·refine Zag (env' := [(6, .int .i64 p3.2)]) (by exact ⟨rfl, trivial⟩) ?_
      refine Zad rfl ?_
      exact Zai (.int .i64 p3.2) ⟨rfl, rfl⟩
     refine dc (fun _ _ _ _ hle203 _ _ => ?_) ?_
     ·have hs206 := RSl.mono hle203 hs11
      refine Zag (env' := [(0, .slice a0_0 x0.length c0_0)]) (by exact ⟨rfl, trivial⟩) ?_
      refine Zad rfl ?_
      exact Zai (.slice a0_0 x0.length c0_0) ⟨rfl, rfl, hs206⟩
     refine dc (fun _ _ _ _ _ hd212 _ => ?_) ?_
     ·obtain ⟨hv214, hg215, hp216⟩ := hd212 1 (by decide)
      refine Zag (env' := [(33, .slice a0_0 x0.length c0_0)]) (by exact ⟨congrArg some hv214, trivial⟩) ?_
      refine ZaG rfl ?_
      exact Zai (.int .i64 (x0.length : Int)) ⟨rfl, rfl⟩
     refine dc2 0 2 (fun _ _ _ _ _ _ => ?_) ?_
     ·refine o_lt rfl rfl ?_
      exact Zai (.bool (decide (p3.2 < (x0.length : Int)))) ⟨rfl, rfl⟩
     refine dc1 3 (fun _ _ _ _ _ _ => ?_) ?_
     ·refine Zad rfl ?_
      exact Zai (.bool (decide (p3.2 < (x0.length : Int)))) ⟨rfl, rfl⟩
     refine dcU 4 h42 ?_
     refine dcU 4 h42 ?_
     refine dcU 4 h42 ?_
     refine dcU 4 h42 ?_
     refine dcU 4 h42 ?_
     refine dcU 4 h42 ?_
     refine dc2 4 10 (fun _ _ _ _ _ _ => ?_) ?_
     ·refine Zal rfl h42 rfl ?_
      exact Zai (.bool false) ⟨rfl, rfl⟩
     exact dnil
    ·intro V315 G316 H313 hle314 hF317
     obtain ⟨hv321, hg322⟩ := hF317 11 (show 11 < 12 by decide)
     refine Zag (env' := [(43, .bool false), (0, .slice a0_0 x0.length c0_0), (3, .pointer (some ⟨b1, 0, none⟩)), (6, .int .i64 p3.2), (29, (aS x1)), (30, .slice (some ⟨b12, 0, none⟩) ([x1] : List Sent).length 1), (31, .slice a15 (p3.1 ++ ([x1] : List Sent)).length c16), (5, .slice a15 (p3.1 ++ ([x1] : List Sent)).length c16)]) (by exact ⟨congrArg some hv321, rfl, rfl, rfl, rfl, rfl, rfl, rfl, trivial⟩) ?_
     refine Zam (List.sublist_append_left _ _) ?_
     refine Zac ?_
     exact Zag (by exact ⟨rfl, rfl, rfl, rfl, trivial⟩) (Zam (by exact (.cons _ (.cons_cons _ (.cons _ .slnil)))) (J41 false _ _ _ ⟨rfl, rfl, hle314⟩))
 ·intro J323
  refine Zat ?_
  refine Zc4 (sz := 4) (t := 47) ?_
  have hA325 : All2 (GoT.rep H) [] ([] : List Sent) := Zbv
  refine Zag (env' := [(0, .slice a0_0 x0.length c0_0), (3, .pointer (some ⟨b1, 0, none⟩)), (5, .slice none ([] : List Sent).length 0), (6, .int .i64 0)]) (by exact ⟨rfl, rfl, rfl, rfl, trivial⟩) ?_
  refine Zam (own' := [.blk b1 (Zak (cS x1) 47), .osl (.slice none ([] : List Sent).length 0) 4 47 []]) (.cons_cons _ (.cons_cons _ .slnil)) ?_
  refine Za2 (fun q s332 => ZbI k x0 x1 q s332) (fun s332 env own H' => ∃ a333 c334 ls335, env = [(0, .slice a0_0 x0.length c0_0), (3, .pointer (some ⟨b1, 0, none⟩)), (5, .slice a333 s332.1.length c334), (6, .int .i64 s332.2)] ∧ own = [.blk b1 (Zak (cS x1) 47), .osl (.slice a333 s332.1.length c334) 4 47 ls335] ∧ Hle H H' ∧ All2 (GoT.rep H') ls335 s332.1) (fun _ => rfl) ?_ k (([] : List Sent), 0) ⟨_, _, _, rfl, rfl, .refl _, hA325⟩
  rintro q337 ih338 s332 _ _ H339 ⟨a333, c334, ls335, rfl, rfl, hle340, hA336⟩
  refine s_eq (by rw [ZbI]) ?_
  have hs341 := RSl.mono hle340 hx0_0
  refine Zae <| Zae ?_
  refine Zb3 (fun p342 env own H' => env = [(0, .slice a0_0 x0.length c0_0), (3, .pointer (some ⟨b1, 0, none⟩)), (5, .slice a333 s332.1.length c334), (6, .int .i64 s332.2), (18, .bool p342)] ∧ own = [.blk b1 (Zak (cS x1) 47), .osl (.slice a333 s332.1.length c334) 4 47 ls335] ∧ Hle H339 H') ?_ ?_
  ·rintro p342 _ _ H343 ⟨rfl, rfl, hle344⟩
   have hs345 := RSl.mono hle344 hs341
   have hA346 := All2.mono (fun _ _ => GoT.mono hle344) hA336
   refine Zao rfl (fun h347 => ?_) (fun h347 => ?_)
   ·refine Zar <| Zat <| Zae <| Zaa <| Zad rfl <| Zad rfl <| Zad rfl ?_
    refine Zce hs345 rfl rfl fun y348 bk350 of351 h349 hc352 => ?_
    refine ZaP 0 hc352 rfl rfl rfl ?_
    refine Zdw (xs := [.tmp 23]) rfl rfl (by simp only [List.mem_cons, List.not_mem_nil, or_false, forall_eq_or_imp, forall_eq]; exact ⟨rfl, rfl⟩) rfl rfl fun b353 => ?_
    have hA354 : All2 (GoT.rep H343) [(cS y348)] ([y348] : List Sent) := ZaZ (([y348] : List Sent))
    refine Zfl 1 2 rfl rfl rfl hA346 rfl hA354 fun a356 c357 h358 hA359 => ?_
    refine Zah rfl <| Zac <| Zaa <| Zad rfl <| ZbM rfl rfl <| Zah rfl <| Zac <| Zav ?_
    exact Zag (by exact ⟨rfl, rfl, rfl, rfl, trivial⟩) (Zam (by exact (.cons_cons _ (.cons_cons _ (.cons _ .slnil)))) (ih338 ((s332.1 ++ ([y348] : List Sent)), w64 (s332.2 + 1)) _ _ _ ⟨_, _, _, rfl, rfl, (Hle.trans hle340 hle344), hA359⟩))
   ·refine Zbf rfl ?_
    exact Zag (by exact ⟨rfl, rfl, rfl, rfl, trivial⟩) (Zam (by exact (.cons_cons _ (.cons_cons _ .slnil))) (J323 (s332.1, s332.2) _ _ _ ⟨_, _, _, rfl, rfl, (Hle.trans hle340 hle344), hA346⟩))
  ·intro J360
   refine Zax (decide (s332.2 < (x0.length : Int))) (fun h361 => ?_) (fun h361 => ?_)
   ·refine s_bg fun y362 h367 => ?_
    refine s_bg fun y368 h370 => ?_
    refine Za8 [(fV (.int .i64 s332.2)),
   (fun H v g => v = Value.slice a0_0 x0.length c0_0 ∧ g = [] ∧ RSl H a0_0 c0_0 x0),
   (fV (.int .i64 (x0.length : Int))),
   (fV (.bool (decide (s332.2 < (x0.length : Int))))),
   (fV (.bool (decide (s332.2 < (x0.length : Int))))),
   (fun H v g => v = Value.slice a0_0 x0.length c0_0 ∧ g = [] ∧ RSl H a0_0 c0_0 x0),
   (fV (.int .i64 s332.2)),
   (fun H v g => ∃ bk372 of373, v = Value.pointer (some ⟨bk372, of373, none⟩) ∧ g = [] ∧ Zaj H bk372 of373 (cS y362)),
   (fV ((aS y362))),
   (fV ((aS x1))),
   (fV (.bool y368)),
   (fV (.bool y368))] [[], [], [], [], [], [], [], [], [], [], [], []] mixed ⟨m0, fun _ _ _ _ hle ⟨e1, e2, h0_⟩ => ⟨e1, e2, RSl.mono hle h0_⟩, m0, m0, m0, fun _ _ _ _ hle ⟨e1, e2, h0_⟩ => ⟨e1, e2, RSl.mono hle h0_⟩, m0, fun _ _ _ _ hle ⟨bk372, of373, e1, e2, h0_⟩ => ⟨_, _, e1, e2, Zaj.mono hle h0_⟩, m0, m0, m0, m0, trivial⟩ (by kernel_rfl) (by kernel_rfl) rfl (by kernel_rfl) rfl rfl ?_ ?_
    ·refine dc (fun _ _ _ _ _ _ _ => ?_) ?_
     ·refine Zag (env' := [(6, .int .i64 s332.2)]) (by exact ⟨rfl, trivial⟩) ?_
      refine Zad rfl ?_
      exact Zai (.int .i64 s332.2) ⟨rfl, rfl⟩
     refine dc (fun _ _ _ _ hle387 _ _ => ?_) ?_
     ·have hs390 := RSl.mono hle387 hs341
      refine Zag (env' := [(0, .slice a0_0 x0.length c0_0)]) (by exact ⟨rfl, trivial⟩) ?_
      refine Zad rfl ?_
      exact Zai (.slice a0_0 x0.length c0_0) ⟨rfl, rfl, hs390⟩
     refine dc (fun _ _ _ _ _ hd396 _ => ?_) ?_
     ·obtain ⟨hv398, hg399, hp400⟩ := hd396 1 (by decide)
      refine Zag (env' := [(8, .slice a0_0 x0.length c0_0)]) (by exact ⟨congrArg some hv398, trivial⟩) ?_
      refine ZaG rfl ?_
      exact Zai (.int .i64 (x0.length : Int)) ⟨rfl, rfl⟩
     refine dc2 0 2 (fun _ _ _ _ _ _ => ?_) ?_
     ·refine o_lt rfl rfl ?_
      exact Zai (.bool (decide (s332.2 < (x0.length : Int)))) ⟨rfl, rfl⟩
     refine dc1 3 (fun _ _ _ _ _ _ => ?_) ?_
     ·refine Zad rfl ?_
      exact Zai (.bool (decide (s332.2 < (x0.length : Int)))) ⟨rfl, rfl⟩
     refine dc1 4 (fun _ _ _ _ hle425 _ => ?_) ?_
     ·have hs428 := RSl.mono hle425 hs341
      refine Zaf rfl rfl h361 <| Zad rfl ?_
      exact Zai (.slice a0_0 x0.length c0_0) ⟨rfl, rfl, hs428⟩
     refine dc1 4 (fun _ _ _ _ _ _ => ?_) ?_
     ·refine Zaf rfl rfl h361 <| Zad rfl ?_
      exact Zai (.int .i64 s332.2) ⟨rfl, rfl⟩
     refine Za3 ?_ ?_
     ·intro _ _ H442 fr443 hle444 hd445
      obtain ⟨hv447, hg448⟩ := hd445 4 (by decide)
      obtain ⟨hv449, hg450, hp451⟩ := hd445 5 (by decide)
      obtain ⟨hv452, hg453⟩ := hd445 6 (by decide)
      refine ⟨_, (rd x0 s332.2).bind some, by rw [h367]; rfl, fun _ => ?_⟩
      refine Zag (env' := [(11, .bool (decide (s332.2 < (x0.length : Int)))), (12, .slice a0_0 x0.length c0_0), (13, .int .i64 s332.2)]) (by exact ⟨congrArg some hv447, congrArg some hv449, congrArg some hv452, trivial⟩) ?_
      refine Zaf rfl rfl h361 ?_
      refine Zce hp451 rfl rfl fun y362 bk455 of456 h454 hc457 => ?_
      obtain rfl := Option.some.inj (h367.symm.trans h454)
      exact Zai (.pointer (some ⟨bk455, of456, none⟩)) ⟨bk455, of456, rfl, rfl, hc457⟩
     refine dc (fun _ _ _ _ _ hd463 _ => ?_) ?_
     ·obtain ⟨hv465, hg466⟩ := hd463 4 (by decide)
      obtain ⟨bk467, of468, hv469, hg470, hp471⟩ := hd463 7 (by decide)
      refine Zag (env' := [(11, .bool (decide (s332.2 < (x0.length : Int)))), (14, .pointer (some ⟨bk467, of468, none⟩))]) (by exact ⟨congrArg some hv465, congrArg some hv469, trivial⟩) ?_
      refine Zaf rfl rfl h361 ?_
      refine ZaP 0 hp471 rfl rfl rfl ?_
      exact Zai ((aS y362)) ⟨rfl, rfl⟩
     refine dc1 4 (fun _ _ _ _ _ _ => ?_) ?_
     ·refine Zaf rfl rfl h361 <| o_ld 0 rfl rfl rfl ?_
      exact Zai ((aS x1)) ⟨rfl, rfl⟩
     refine Za3 ?_ ?_
     ·intro _ _ H483 fr484 hle485 hd486
      obtain ⟨hv488, hg489⟩ := hd486 4 (by decide)
      obtain ⟨hv490, hg491⟩ := hd486 8 (by decide)
      obtain ⟨hv492, hg493⟩ := hd486 9 (by decide)
      refine ⟨_, (Zb0 k y362 x1).bind some, by rw [h370]; rfl, fun _ => ?_⟩
      refine Zag (env' := [(11, .bool (decide (s332.2 < (x0.length : Int)))), (15, (aS y362)), (16, (aS x1))]) (by exact ⟨congrArg some hv488, congrArg some hv490, congrArg some hv492, trivial⟩) ?_
      refine Zaf rfl rfl h361 ?_
      refine s_bg fun y368 h494 => ?_
      refine Zas rfl rfl (ZeB k _ y362 x1 h494) ?_
      obtain rfl := Option.some.inj (h370.symm.trans h494)
      exact Zai (.bool y368) ⟨rfl, rfl⟩
     refine dc2 4 10 (fun _ _ _ _ _ _ => ?_) ?_
     ·refine Zan rfl h361 rfl ?_
      exact Zai (.bool y368) ⟨rfl, rfl⟩
     exact dnil
    ·intro V508 G509 H506 hle507 hF510
     obtain ⟨hv513, hg514⟩ := hF510 11 (show 11 < 12 by decide)
     refine Zag (env' := [(18, .bool y368), (0, .slice a0_0 x0.length c0_0), (3, .pointer (some ⟨b1, 0, none⟩)), (5, .slice a333 s332.1.length c334), (6, .int .i64 s332.2)]) (by exact ⟨congrArg some hv513, rfl, rfl, rfl, rfl, trivial⟩) ?_
     refine Zam (List.sublist_append_left _ _) ?_
     refine Zac ?_
     exact Zag (by exact ⟨rfl, rfl, rfl, rfl, rfl, trivial⟩) (Zam (by exact (.cons_cons _ (.cons_cons _ .slnil))) (J360 y368 _ _ _ ⟨rfl, rfl, hle507⟩))
   ·refine Za8 [(fV (.int .i64 s332.2)),
   (fun H v g => v = Value.slice a0_0 x0.length c0_0 ∧ g = [] ∧ RSl H a0_0 c0_0 x0),
   (fV (.int .i64 (x0.length : Int))),
   (fV (.bool (decide (s332.2 < (x0.length : Int))))),
   (fV (.bool (decide (s332.2 < (x0.length : Int))))),
   uF,
   uF,
   uF,
   uF,
   uF,
   uF,
   (fV (.bool false))] [[], [], [], [], [], [], [], [], [], [], [], []] mixed ⟨m0, fun _ _ _ _ hle ⟨e1, e2, h0_⟩ => ⟨e1, e2, RSl.mono hle h0_⟩, m0, m0, m0, m0, m0, m0, m0, m0, m0, m0, trivial⟩ (by kernel_rfl) (by kernel_rfl) rfl (by kernel_rfl) rfl rfl ?_ ?_
    ·refine dc (fun _ _ _ _ _ _ _ => ?_) ?_
     ·refine Zag (env' := [(6, .int .i64 s332.2)]) (by exact ⟨rfl, trivial⟩) ?_
      refine Zad rfl ?_
      exact Zai (.int .i64 s332.2) ⟨rfl, rfl⟩
     refine dc (fun _ _ _ _ hle526 _ _ => ?_) ?_
     ·have hs529 := RSl.mono hle526 hs341
      refine Zag (env' := [(0, .slice a0_0 x0.length c0_0)]) (by exact ⟨rfl, trivial⟩) ?_
      refine Zad rfl ?_
      exact Zai (.slice a0_0 x0.length c0_0) ⟨rfl, rfl, hs529⟩
     refine dc (fun _ _ _ _ _ hd535 _ => ?_) ?_
     ·obtain ⟨hv537, hg538, hp539⟩ := hd535 1 (by decide)
      refine Zag (env' := [(8, .slice a0_0 x0.length c0_0)]) (by exact ⟨congrArg some hv537, trivial⟩) ?_
      refine ZaG rfl ?_
      exact Zai (.int .i64 (x0.length : Int)) ⟨rfl, rfl⟩
     refine dc2 0 2 (fun _ _ _ _ _ _ => ?_) ?_
     ·refine o_lt rfl rfl ?_
      exact Zai (.bool (decide (s332.2 < (x0.length : Int)))) ⟨rfl, rfl⟩
     refine dc1 3 (fun _ _ _ _ _ _ => ?_) ?_
     ·refine Zad rfl ?_
      exact Zai (.bool (decide (s332.2 < (x0.length : Int)))) ⟨rfl, rfl⟩
     refine dcU 4 h361 ?_
     refine dcU 4 h361 ?_
     refine dcU 4 h361 ?_
     refine dcU 4 h361 ?_
     refine dcU 4 h361 ?_
     refine dcU 4 h361 ?_
     refine dc2 4 10 (fun _ _ _ _ _ _ => ?_) ?_
     ·refine Zal rfl h361 rfl ?_
      exact Zai (.bool false) ⟨rfl, rfl⟩
     exact dnil
    ·intro V638 G639 H636 hle637 hF640
     obtain ⟨hv643, hg644⟩ := hF640 11 (show 11 < 12 by decide)
     refine Zag (env' := [(18, .bool false), (0, .slice a0_0 x0.length c0_0), (3, .pointer (some ⟨b1, 0, none⟩)), (5, .slice a333 s332.1.length c334), (6, .int .i64 s332.2)]) (by exact ⟨congrArg some hv643, rfl, rfl, rfl, rfl, trivial⟩) ?_
     refine Zam (List.sublist_append_left _ _) ?_
     refine Zac ?_
     exact Zag (by exact ⟨rfl, rfl, rfl, rfl, rfl, trivial⟩) (Zam (by exact (.cons_cons _ (.cons_cons _ .slnil))) (J360 false _ _ _ ⟨rfl, rfl, hle637⟩))
def ZaM (k : Nat) (x0 : Bool) (x1 : Sent) : Option (List Sent) :=
 if (x0) = true then
  some ([x1] : List Sent)
 else
  some ([] : List Sent)
theorem Zkk : Tryz.prog.funcs[193]? = some Tryz.f193 := by kernel_rfl
theorem ZbB (k : Nat) (H : Heap) (x0 : Bool) (x1 : Sent) {r : (List Sent)} (hr : ZaM k x0 x1 = some r) :
  Fn Tryz.prog 193 [.bool x0, (aS x1)] H [] fun H' v out => ∃ a0 c0, v = .slice a0 r.length c0 ∧ out = [.osl (.slice a0 r.length c0) 4 47 (r.map GoE.enc)] := by
 refine Zaq (args := [.bool x0, (aS x1)]) (n := 8) (Φ := fun r H' v out => ∃ a0 c0, v = .slice a0 r.length c0 ∧ out = [.osl (.slice a0 r.length c0) 4 47 (r.map GoE.enc)]) hr Zkk rfl rfl rfl fun w => ?_
 refine s_eq (by rw [ZaM]) ?_
 refine Zae <| Zaa ?_
 refine ZbO rfl fun b1 => ?_
 refine Zah rfl <| Zac <| Zae <| Zae <| Zaa <| Zad rfl <| Zac ?_
 refine Zao rfl (fun h3 => ?_) (fun h3 => ?_)
 ·refine Zae <| Zaa <| o_ld 0 rfl rfl rfl ?_
  refine Zdw (xs := [.tmp 6]) rfl rfl (by simp only [List.mem_cons, List.not_mem_nil, or_false, forall_eq_or_imp, forall_eq]; exact ⟨rfl, rfl⟩) rfl rfl fun b4 => ?_
  have hA5 : All2 (GoT.rep H) [(cS x1)] ([x1] : List Sent) := ZaZ (([x1] : List Sent))
  refine Zah rfl <| Zac ?_
  exact ZaF (xs := [.tmp 4]) (vs := [.slice (some ⟨b4, 0, none⟩) ([x1] : List Sent).length 1]) [.osl (.slice (some ⟨b4, 0, none⟩) ([x1] : List Sent).length 1) 4 47 [(cS x1)]] Zkk rfl ⟨Zaz rfl, trivial⟩ (.cons _ (.cons_cons _ .slnil)) ⟨_, _, rfl, (congrArg (fun z => [Res.osl _ _ _ z]) (Zb7 hA5))⟩
 ·refine Zar <| Zae <| Zaa <| Zah rfl <| Zac ?_
  refine Zc4 (sz := 4) (t := 47) ?_
  have hA7 : All2 (GoT.rep H) [] ([] : List Sent) := Zbv
  exact ZaF (xs := [.tmp 4]) (vs := [.slice none ([] : List Sent).length 0]) [.osl (.slice none ([] : List Sent).length 0) 4 47 []] Zkk rfl ⟨Zaz rfl, trivial⟩ (.cons _ (.cons_cons _ .slnil)) ⟨_, _, rfl, (congrArg (fun z => [Res.osl _ _ _ z]) (Zb7 hA7))⟩
def RefGivesOk (gf : Nat → Catenaryref23_place → Int → Sent → Option (List Sent)) : Prop := ∀ (k : Nat) (H : Heap) (x0 : Catenaryref23_place) (a0_0 : Option Addr) (c0_0 : Nat) (hx0_0 : RSl H a0_0 c0_0 x0.nodes) (x1 : Int) (x2 : Sent) {r : (List Sent)} (hr : gf k x0 x1 x2 = some r),
  Fn Tryz.prog 170 [.agg #[.slice a0_0 x0.nodes.length c0_0, .int .i64 x0.sw, .int .i64 x0.port], .int .i64 x1, (aS x2)] H [] fun H' v out => ∃ a0 c0, v = .slice a0 r.length c0 ∧ out = [.osl (.slice a0 r.length c0) 4 47 (r.map GoE.enc)]
def ZaN (gf : Nat → Catenaryref23_place → Int → Sent → Option (List Sent)) (k : Nat) : Nat → (List Sent) × (List Sent) × Int → Option ((List Sent))
 | 0, _ => none
 | q667 + 1, s658 =>
  if (decide (s658.2.2 < (s658.2.1.length : Int))) = true then
   (rd s658.2.1 s658.2.2).bind fun y674 =>
   (ZbZ k s658.1 y674).bind fun y681 =>
   ZaN gf k q667 (y681, s658.2.1, w64 (s658.2.2 + 1))
  else
   some s658.1
def ZaH (gf : Nat → Catenaryref23_place → Int → Sent → Option (List Sent)) (k : Nat) (x0 : Catenaryref23_place) (y5 : Node) : Nat → (List Sent) × (List Sent) × Int → Option ((List Sent))
 | 0, _ => none
 | q502 + 1, s493 =>
  if (decide (s493.2.2 < (s493.1.length : Int))) = true then
   (rd s493.1 s493.2.2).bind fun y508 =>
   (gf k x0 y5.B y508).bind fun y517 =>
   (ZaN gf k k (s493.2.1, y517, 0)).bind fun p648 =>
   ZaH gf k x0 y5 q502 (s493.1, p648, w64 (s493.2.2 + 1))
  else
   some s493.2.1
def ZaO (gf : Nat → Catenaryref23_place → Int → Sent → Option (List Sent)) (k : Nat) : Nat → (List Sent) × (List Sent) × Int → Option ((List Sent))
 | 0, _ => none
 | q443 + 1, s434 =>
  if (decide (s434.2.2 < (s434.2.1.length : Int))) = true then
   (rd s434.2.1 s434.2.2).bind fun y448 =>
   (ZbZ k s434.1 y448).bind fun y455 =>
   ZaO gf k q443 (y455, s434.2.1, w64 (s434.2.2 + 1))
  else
   some s434.1
def Zau (gf : Nat → Catenaryref23_place → Int → Sent → Option (List Sent)) (k : Nat) (x0 : Catenaryref23_place) (x1 : Int) (x2 : Sent) : Option (List Sent) :=
 (rd x0.nodes x1).bind fun y5 =>
 if (y5.Kind == 2) = true then
  (ZaM k true x2).bind fun y13 =>
  some y13
 else
  if (y5.Kind == 3) = true then
   (rd ([x2.H.e0, x2.H.e1, x2.H.e2] : List Int) y5.N).bind fun y24 =>
   (ZaM k ((ibit .and .i64 (IntKind.i64.wrap y24) y5.M) == y5.V) x2).bind fun y27 =>
   some y27
  else
   if (y5.Kind == 4) = true then
    (ZaM k (x0.sw == y5.N) x2).bind fun y193 =>
    some y193
   else
    if (y5.Kind == 5) = true then
     (ZaM k (x0.port == y5.N) x2).bind fun y204 =>
     some y204
    else
     if (y5.Kind == 6) = true then
      (rd ([x2.H.e0, x2.H.e1, x2.H.e2] : List Int) y5.N).bind fun y215 =>
      (ZaM k true (⟨x2.Port, (⟨(if y5.N = 0 then IntKind.u8.wrap y5.V else x2.H.e0), (if y5.N = 1 then IntKind.u8.wrap y5.V else x2.H.e1), (if y5.N = 2 then IntKind.u8.wrap y5.V else x2.H.e2)⟩ : Arr3u8)⟩ : Sent)).bind fun y218 =>
      some y218
     else
      if (y5.Kind == 7) = true then
       (ZaM k true (⟨y5.N, x2.H⟩ : Sent)).bind fun y229 =>
       some y229
      else
       if (y5.Kind == 10) = true then
        (gf k x0 y5.A x2).bind fun y240 =>
        (ZaM k ((y240.length : Int) == 0) x2).bind fun y251 =>
        some y251
       else
        if (y5.Kind == 8) = true then
         (gf k x0 y5.A x2).bind fun y405 =>
         (gf k x0 y5.B x2).bind fun y415 =>
         (ZaO gf k k (y405, y415, 0)).bind fun p426 =>
         some p426
        else
         if (y5.Kind == 9) = true then
          (gf k x0 y5.A x2).bind fun y462 =>
          (ZaH gf k x0 y5 k (y462, ([] : List Sent), 0)).bind fun p472 =>
          some p472
         else
          some ([] : List Sent)
theorem ZeT : Tryz.prog.funcs[170]? = some Tryz.f170 := by kernel_rfl
theorem ZdH (gf : Nat → Catenaryref23_place → Int → Sent → Option (List Sent)) (hgf : RefGivesOk gf) (k : Nat) (H : Heap) (x0 : Catenaryref23_place) (a0_0 : Option Addr) (c0_0 : Nat) (hx0_0 : RSl H a0_0 c0_0 x0.nodes) (x1 : Int) (x2 : Sent) {r : (List Sent)} (hr : Zau gf k x0 x1 x2 = some r) :
  Fn Tryz.prog 170 [.agg #[.slice a0_0 x0.nodes.length c0_0, .int .i64 x0.sw, .int .i64 x0.port], .int .i64 x1, (aS x2)] H [] fun H' v out => ∃ a0 c0, v = .slice a0 r.length c0 ∧ out = [.osl (.slice a0 r.length c0) 4 47 (r.map GoE.enc)] := by
 refine Zaq (args := [.agg #[.slice a0_0 x0.nodes.length c0_0, .int .i64 x0.sw, .int .i64 x0.port], .int .i64 x1, (aS x2)]) (n := 149) (Φ := fun r H' v out => ∃ a0 c0, v = .slice a0 r.length c0 ∧ out = [.osl (.slice a0 r.length c0) 4 47 (r.map GoE.enc)]) hr ZeT rfl rfl rfl fun w => ?_
 refine s_eq (by rw [Zau]) ?_
 refine Zae <| Zaa ?_
 refine ZbO rfl fun b1 => ?_
 refine ZbO rfl fun b3 => ?_
 refine Zah rfl <| Zac <| Zae <| Zaa <| o_fa rfl <| o_ld 0 rfl rfl rfl <| Zad rfl ?_
 refine Zce hx0_0 rfl rfl fun y5 bk7 of8 h6 hc9 => ?_
 refine ZaP 0 hc9 rfl rfl rfl ?_
 refine Zbw fun b10 => ?_
 refine o_st 2 rfl rfl rfl rfl rfl rfl ?_
 refine Zac <| Zae <| Zae <| Zaa <| o_fa rfl <| o_ld 2 rfl rfl rfl <| Zac <| Zat <| Zae <| Zaa <| o_eq rfl rfl <| Zah rfl ?_
 refine Zac ?_
 refine Zao rfl (fun h12 => ?_) (fun h12 => ?_)
 ·refine Zae <| Zaa <| o_ld 1 rfl rfl rfl ?_
  refine s_bg fun y13 h14 => ?_
  refine Zbg [] _ rfl rfl (.refl _) (ZbB k _ true x2 h14) ?_
  rintro _ H18 _ hle19 ⟨a15, c16, rfl, rfl⟩
  have hA22 : All2 (GoT.rep H18) (y13.map GoE.enc) y13 := ZaZ _
  refine Zah rfl <| Zac ?_
  exact ZaF (xs := [.tmp 6]) (vs := [.slice a15 y13.length c16]) [.osl (.slice a15 y13.length c16) 4 47 (y13.map GoE.enc)] ZeT rfl ⟨Zaz rfl, trivial⟩ (.cons _ (.cons _ (.cons _ (.cons_cons _ .slnil)))) ⟨_, _, rfl, (congrArg (fun z => [Res.osl _ _ _ z]) (Zb7 hA22))⟩
 ·refine Zae <| Zaa <| o_eq rfl rfl <| Zah rfl <| Zac ?_
  refine Zao rfl (fun h23 => ?_) (fun h23 => ?_)
  ·refine Zae ?_
   refine s_bg fun y24 h26 => ?_
   refine s_bg fun y27 h37 => ?_
   refine Za8 [(fV (.pointer (some ⟨b10, 3, none⟩))),
   (fV (.int .i64 y5.N)),
   (fV (.pointer (some ⟨b3, 1, none⟩))),
   (fV (.pointer (some ⟨b3, 1 + (y5.N : Int).toNat, none⟩))),
   (fV (.int .u8 y24)),
   (fV (.int .i64 (IntKind.i64.wrap y24))),
   (fV (.pointer (some ⟨b10, 4, none⟩))),
   (fV (.int .i64 y5.M)),
   (fV (.int .i64 (ibit .and .i64 (IntKind.i64.wrap y24) y5.M))),
   (fV (.pointer (some ⟨b10, 5, none⟩))),
   (fV (.int .i64 y5.V)),
   (fV (.bool ((ibit .and .i64 (IntKind.i64.wrap y24) y5.M) == y5.V))),
   (fV ((aS x2))),
   (fun H v g => ∃ a40 c41, v = Value.slice a40 y27.length c41 ∧ g = [.osl (.slice a40 y27.length c41) 4 47 (y27.map GoE.enc)] ∧ All2 (GoT.rep H) (y27.map GoE.enc) y27)] [[], [], [], [], [], [], [], [], [], [], [], [], [], []] mixed ⟨m0, m0, m0, m0, m0, m0, m0, m0, m0, m0, m0, m0, m0, fun _ _ _ _ hle ⟨a40, c41, e1, e2, h0_⟩ => ⟨_, _, e1, e2, All2.mono (fun _ _ => GoT.mono hle) h0_⟩, trivial⟩ (by kernel_rfl) (by kernel_rfl) rfl (by kernel_rfl) rfl rfl ?_ ?_
   ·refine dc (fun _ _ _ _ _ _ _ => ?_) ?_
    ·refine Zag (env' := [(7, .pointer (some ⟨b10, 0, none⟩))]) (by exact ⟨rfl, trivial⟩) ?_
     refine o_fa rfl ?_
     exact Zai (.pointer (some ⟨b10, 3, none⟩)) ⟨rfl, rfl⟩
    refine dc1 0 (fun _ _ _ _ _ _ => ?_) ?_
    ·refine o_ld 2 rfl rfl rfl ?_
     exact Zai (.int .i64 y5.N) ⟨rfl, rfl⟩
    refine dc (fun _ _ _ _ _ _ _ => ?_) ?_
    ·refine Zag (env' := [(5, .pointer (some ⟨b3, 0, none⟩))]) (by exact ⟨rfl, trivial⟩) ?_
     refine o_fa rfl ?_
     exact Zai (.pointer (some ⟨b3, 1, none⟩)) ⟨rfl, rfl⟩
    refine Za3 ?_ ?_
    ·intro _ _ H73 fr74 hle75 hd76
     obtain ⟨hv78, hg79⟩ := hd76 1 (by decide)
     obtain ⟨hv80, hg81⟩ := hd76 2 (by decide)
     refine ⟨_, (rd ([x2.H.e0, x2.H.e1, x2.H.e2] : List Int) y5.N).bind some, by rw [h26]; rfl, fun _ => ?_⟩
     refine Zag (env' := [(30, .int .i64 y5.N), (31, .pointer (some ⟨b3, 1, none⟩))]) (by exact ⟨congrArg some hv78, congrArg some hv80, trivial⟩) ?_
     refine ZhG ([x2.H.e0, x2.H.e1, x2.H.e2] : List Int) rfl rfl rfl fun y24 h82 => ?_
     obtain rfl := Option.some.inj (h26.symm.trans h82)
     exact Zai (.pointer (some ⟨b3, 1 + (y5.N : Int).toNat, none⟩)) ⟨rfl, rfl⟩
    refine dc1 3 (fun _ _ _ _ _ _ => ?_) ?_
    ·refine Zjc 1 rfl rfl (getA (off := 1) (len := 3) (g := (Value.int .u8)) rfl h26) ?_
     exact Zai (.int .u8 y24) ⟨rfl, rfl⟩
    refine dc1 4 (fun _ _ _ _ _ _ => ?_) ?_
    ·refine Zjd rfl ?_
     exact Zai (.int .i64 (IntKind.i64.wrap y24)) ⟨rfl, rfl⟩
    refine dc (fun _ _ _ _ _ _ _ => ?_) ?_
    ·refine Zag (env' := [(7, .pointer (some ⟨b10, 0, none⟩))]) (by exact ⟨rfl, trivial⟩) ?_
     refine o_fa rfl ?_
     exact Zai (.pointer (some ⟨b10, 4, none⟩)) ⟨rfl, rfl⟩
    refine dc1 6 (fun _ _ _ _ _ _ => ?_) ?_
    ·refine o_ld 2 rfl rfl rfl ?_
     exact Zai (.int .i64 y5.M) ⟨rfl, rfl⟩
    refine dc2 5 7 (fun _ _ _ _ _ _ => ?_) ?_
    ·refine Zno rfl rfl ?_
     exact Zai (.int .i64 (ibit .and .i64 (IntKind.i64.wrap y24) y5.M)) ⟨rfl, rfl⟩
    refine dc (fun _ _ _ _ _ _ _ => ?_) ?_
    ·refine Zag (env' := [(7, .pointer (some ⟨b10, 0, none⟩))]) (by exact ⟨rfl, trivial⟩) ?_
     refine o_fa rfl ?_
     exact Zai (.pointer (some ⟨b10, 5, none⟩)) ⟨rfl, rfl⟩
    refine dc1 9 (fun _ _ _ _ _ _ => ?_) ?_
    ·refine o_ld 2 rfl rfl rfl ?_
     exact Zai (.int .i64 y5.V) ⟨rfl, rfl⟩
    refine dc2 8 10 (fun _ _ _ _ _ _ => ?_) ?_
    ·refine o_eq rfl rfl ?_
     exact Zai (.bool ((ibit .and .i64 (IntKind.i64.wrap y24) y5.M) == y5.V)) ⟨rfl, rfl⟩
    refine dc (fun _ _ _ _ _ _ _ => ?_) ?_
    ·refine Zag (env' := [(5, .pointer (some ⟨b3, 0, none⟩))]) (by exact ⟨rfl, trivial⟩) ?_
     refine o_ld 1 rfl rfl rfl ?_
     exact Zai ((aS x2)) ⟨rfl, rfl⟩
    refine Za3 ?_ ?_
    ·intro _ _ H164 fr165 hle166 hd167
     obtain ⟨hv169, hg170⟩ := hd167 11 (by decide)
     obtain ⟨hv171, hg172⟩ := hd167 12 (by decide)
     refine ⟨_, (ZaM k ((ibit .and .i64 (IntKind.i64.wrap y24) y5.M) == y5.V) x2).bind some, by rw [h37]; rfl, fun _ => ?_⟩
     refine Zag (env' := [(40, .bool ((ibit .and .i64 (IntKind.i64.wrap y24) y5.M) == y5.V)), (41, (aS x2))]) (by exact ⟨congrArg some hv169, congrArg some hv171, trivial⟩) ?_
     refine s_bg fun y27 h173 => ?_
     refine Zbg [] _ rfl rfl (.refl _) (ZbB k _ ((ibit .and .i64 (IntKind.i64.wrap y24) y5.M) == y5.V) x2 h173) ?_
     rintro _ H177 _ hle178 ⟨a174, c175, rfl, rfl⟩
     have hA179 : All2 (GoT.rep H177) (y27.map GoE.enc) y27 := ZaZ _
     obtain rfl := Option.some.inj (h37.symm.trans h173)
     refine ZcP (own' := [.blk b1 (Zak [.slice a0_0 x0.nodes.length c0_0, .int .i64 x0.sw, .int .i64 x0.port] 243), .blk b3 (Zak (cS x2) 47), .blk b10 (Zak (cN y5) 38), .osl (.slice a174 y27.length c175) 4 47 (y27.map GoE.enc)] ++ fr165) (pm3 (a := [.blk b1 (Zak [.slice a0_0 x0.nodes.length c0_0, .int .i64 x0.sw, .int .i64 x0.port] 243), .blk b3 (Zak (cS x2) 47), .blk b10 (Zak (cN y5) 38)]) (xs := [.osl (.slice a174 y27.length c175) 4 47 (y27.map GoE.enc)])) ?_
     exact ZbV fun _ _ _ hE hI => ⟨(.slice a174 y27.length c175), [.osl (.slice a174 y27.length c175) 4 47 (y27.map GoE.enc)], _, fun _ e => (by cases e; exact hE _ _ rfl), hle178, by exact hI, ⟨a174, c175, rfl, rfl, hA179⟩⟩
    exact dnil
   ·intro V182 G183 H180 hle181 hF184
    obtain ⟨a187, c188, hv189, hg190, hp191⟩ := hF184 13 (show 13 < 14 by decide)
    refine Zag (env' := [(42, .slice a187 y27.length c188), (0, .agg #[.slice a0_0 x0.nodes.length c0_0, .int .i64 x0.sw, .int .i64 x0.port]), (1, .int .i64 x1), (2, (aS x2)), (3, .pointer (some ⟨b1, 0, none⟩)), (5, .pointer (some ⟨b3, 0, none⟩)), (6, .slice none 0 0), (16, .pointer (some ⟨b1, 0, none⟩)), (17, .slice a0_0 x0.nodes.length c0_0), (18, .int .i64 x1), (19, .pointer (some ⟨bk7, of8, none⟩)), (20, (aN y5)), (7, .pointer (some ⟨b10, 0, none⟩)), (21, .pointer (some ⟨b10, 0, none⟩)), (22, .int .i64 y5.Kind), (24, .bool (y5.Kind == 2)), (23, .bool (y5.Kind == 2)), (28, .bool (y5.Kind == 3)), (27, .bool (y5.Kind == 3))]) (by exact ⟨congrArg some hv189, rfl, rfl, rfl, rfl, rfl, rfl, rfl, rfl, rfl, rfl, rfl, rfl, rfl, rfl, rfl, rfl, rfl, rfl, trivial⟩) ?_
    refine Zg8 (js := [13]) rfl ?_
    refine ZbL (own' := [.blk b1 (Zak [.slice a0_0 x0.nodes.length c0_0, .int .i64 x0.sw, .int .i64 x0.port] 243), .blk b3 (Zak (cS x2) 47), .blk b10 (Zak (cN y5) 38), .osl (.slice a187 y27.length c188) 4 47 (y27.map GoE.enc)]) (by simp only [List.flatMap_cons, List.flatMap_nil, List.append_nil, hg190]; rfl) ?_
    refine Zah rfl <| Zac ?_
    exact ZaF (xs := [.tmp 6]) (vs := [.slice a187 y27.length c188]) [.osl (.slice a187 y27.length c188) 4 47 (y27.map GoE.enc)] ZeT rfl ⟨Zaz rfl, trivial⟩ (.cons _ (.cons _ (.cons _ (.cons_cons _ .slnil)))) ⟨_, _, rfl, (congrArg (fun z => [Res.osl _ _ _ z]) (Zb7 hp191))⟩
  ·refine Zae <| Zaa <| o_eq rfl rfl <| Zah rfl <| Zac ?_
   refine Zao rfl (fun h192 => ?_) (fun h192 => ?_)
   ·refine Zae <| Zaa <| o_fa rfl <| o_ld 0 rfl rfl rfl <| o_fa rfl <| o_ld 2 rfl rfl rfl <| o_eq rfl rfl <| o_ld 1 rfl rfl rfl ?_
    refine s_bg fun y193 h194 => ?_
    refine Zbg [] _ rfl rfl (.refl _) (ZbB k _ (x0.sw == y5.N) x2 h194) ?_
    rintro _ H198 _ hle199 ⟨a195, c196, rfl, rfl⟩
    have hA202 : All2 (GoT.rep H198) (y193.map GoE.enc) y193 := ZaZ _
    refine Zah rfl <| Zac ?_
    exact ZaF (xs := [.tmp 6]) (vs := [.slice a195 y193.length c196]) [.osl (.slice a195 y193.length c196) 4 47 (y193.map GoE.enc)] ZeT rfl ⟨Zaz rfl, trivial⟩ (.cons _ (.cons _ (.cons _ (.cons_cons _ .slnil)))) ⟨_, _, rfl, (congrArg (fun z => [Res.osl _ _ _ z]) (Zb7 hA202))⟩
   ·refine Zae <| Zaa <| o_eq rfl rfl <| Zah rfl <| Zac ?_
    refine Zao rfl (fun h203 => ?_) (fun h203 => ?_)
    ·refine Zae <| Zaa <| o_fa rfl <| o_ld 0 rfl rfl rfl <| o_fa rfl <| o_ld 2 rfl rfl rfl <| o_eq rfl rfl <| o_ld 1 rfl rfl rfl ?_
     refine s_bg fun y204 h205 => ?_
     refine Zbg [] _ rfl rfl (.refl _) (ZbB k _ (x0.port == y5.N) x2 h205) ?_
     rintro _ H209 _ hle210 ⟨a206, c207, rfl, rfl⟩
     have hA213 : All2 (GoT.rep H209) (y204.map GoE.enc) y204 := ZaZ _
     refine Zah rfl <| Zac ?_
     exact ZaF (xs := [.tmp 6]) (vs := [.slice a206 y204.length c207]) [.osl (.slice a206 y204.length c207) 4 47 (y204.map GoE.enc)] ZeT rfl ⟨Zaz rfl, trivial⟩ (.cons _ (.cons _ (.cons _ (.cons_cons _ .slnil)))) ⟨_, _, rfl, (congrArg (fun z => [Res.osl _ _ _ z]) (Zb7 hA213))⟩
    ·refine Zae <| Zaa <| o_eq rfl rfl <| Zah rfl <| Zac ?_
     refine Zao rfl (fun h214 => ?_) (fun h214 => ?_)
     ·refine Zae <| Zaa <| o_fa rfl <| o_ld 2 rfl rfl rfl <| o_fa rfl <| o_ld 2 rfl rfl rfl ?_
      refine Zjd rfl ?_
      refine o_fa rfl ?_
      refine ZhG ([x2.H.e0, x2.H.e1, x2.H.e2] : List Int) rfl rfl rfl fun y215 h216 => ?_
      refine ZbL (own' := [.blk b1 (Zak [.slice a0_0 x0.nodes.length c0_0, .int .i64 x0.sw, .int .i64 x0.port] 243), .blk b3 (Zak (cS x2) 47), .blk b10 (Zak (cN y5) 38)]) rfl ?_
      refine o_st 1 rfl rfl rfl rfl rfl (Zkg (off := 1) (len := 3) (g := (Value.int .u8)) rfl h216) ?_
      refine ZbL (own' := [.blk b1 (Zak [.slice a0_0 x0.nodes.length c0_0, .int .i64 x0.sw, .int .i64 x0.port] 243), .blk b3 (Zak [.int .i64 x2.Port, .int .u8 (if y5.N = 0 then IntKind.u8.wrap y5.V else x2.H.e0), .int .u8 (if y5.N = 1 then IntKind.u8.wrap y5.V else x2.H.e1), .int .u8 (if y5.N = 2 then IntKind.u8.wrap y5.V else x2.H.e2)] 47), .blk b10 (Zak (cN y5) 38)]) (by rcases ZlO h216 with h217 | h217 | h217 <;> (rw [h217]; rfl)) ?_
      refine Zac <| Zae <| Zaa <| o_ld 1 rfl rfl rfl ?_
      refine s_bg fun y218 h219 => ?_
      refine Zbg [] _ rfl rfl (.refl _) (ZbB k _ true (⟨x2.Port, (⟨(if y5.N = 0 then IntKind.u8.wrap y5.V else x2.H.e0), (if y5.N = 1 then IntKind.u8.wrap y5.V else x2.H.e1), (if y5.N = 2 then IntKind.u8.wrap y5.V else x2.H.e2)⟩ : Arr3u8)⟩ : Sent) h219) ?_
      rintro _ H223 _ hle224 ⟨a220, c221, rfl, rfl⟩
      have hA227 : All2 (GoT.rep H223) (y218.map GoE.enc) y218 := ZaZ _
      refine Zah rfl <| Zac ?_
      exact ZaF (xs := [.tmp 6]) (vs := [.slice a220 y218.length c221]) [.osl (.slice a220 y218.length c221) 4 47 (y218.map GoE.enc)] ZeT rfl ⟨Zaz rfl, trivial⟩ (.cons _ (.cons _ (.cons _ (.cons_cons _ .slnil)))) ⟨_, _, rfl, (congrArg (fun z => [Res.osl _ _ _ z]) (Zb7 hA227))⟩
     ·refine Zae <| Zaa <| o_eq rfl rfl <| Zah rfl <| Zac ?_
      refine Zao rfl (fun h228 => ?_) (fun h228 => ?_)
      ·refine Zae <| Zaa <| o_fa rfl <| o_ld 2 rfl rfl rfl <| o_fa rfl ?_
       refine o_st 1 rfl rfl rfl rfl rfl rfl ?_
       refine Zac <| Zae <| Zaa <| o_ld 1 rfl rfl rfl ?_
       refine s_bg fun y229 h230 => ?_
       refine Zbg [] _ rfl rfl (.refl _) (ZbB k _ true (⟨y5.N, x2.H⟩ : Sent) h230) ?_
       rintro _ H234 _ hle235 ⟨a231, c232, rfl, rfl⟩
       have hA238 : All2 (GoT.rep H234) (y229.map GoE.enc) y229 := ZaZ _
       refine Zah rfl <| Zac ?_
       exact ZaF (xs := [.tmp 6]) (vs := [.slice a231 y229.length c232]) [.osl (.slice a231 y229.length c232) 4 47 (y229.map GoE.enc)] ZeT rfl ⟨Zaz rfl, trivial⟩ (.cons _ (.cons _ (.cons _ (.cons_cons _ .slnil)))) ⟨_, _, rfl, (congrArg (fun z => [Res.osl _ _ _ z]) (Zb7 hA238))⟩
      ·refine Zae <| Zaa <| o_eq rfl rfl <| Zah rfl <| Zac ?_
       refine Zao rfl (fun h239 => ?_) (fun h239 => ?_)
       ·refine Zae ?_
        refine s_bg fun y240 h250 => ?_
        refine s_bg fun y251 h262 => ?_
        refine Za8 [(fun H v g => v = Value.agg #[.slice a0_0 x0.nodes.length c0_0, .int .i64 x0.sw, .int .i64 x0.port] ∧ g = [] ∧ RSl H a0_0 c0_0 x0.nodes),
   (fV (.pointer (some ⟨b10, 1, none⟩))),
   (fV (.int .i64 y5.A)),
   (fV ((aS x2))),
   (fun H v g => ∃ a264 c265, v = Value.slice a264 y240.length c265 ∧ g = [] ∧ RSl H a264 c265 y240),
   (fV (.int .i64 (y240.length : Int))),
   (fV (.bool ((y240.length : Int) == 0))),
   (fV ((aS x2))),
   (fun H v g => ∃ a279 c280, v = Value.slice a279 y251.length c280 ∧ g = [.osl (.slice a279 y251.length c280) 4 47 (y251.map GoE.enc)] ∧ All2 (GoT.rep H) (y251.map GoE.enc) y251)] [[], [], [], [], [], [], [], [], []] mixed ⟨fun _ _ _ _ hle ⟨e1, e2, h0_⟩ => ⟨e1, e2, RSl.mono hle h0_⟩, m0, m0, m0, fun _ _ _ _ hle ⟨a264, c265, e1, e2, h0_⟩ => ⟨_, _, e1, e2, RSl.mono hle h0_⟩, m0, m0, m0, fun _ _ _ _ hle ⟨a279, c280, e1, e2, h0_⟩ => ⟨_, _, e1, e2, All2.mono (fun _ _ => GoT.mono hle) h0_⟩, trivial⟩ (by kernel_rfl) (by kernel_rfl) rfl (by kernel_rfl) rfl rfl ?_ ?_
        ·refine dc (fun _ _ _ _ hle292 _ _ => ?_) ?_
         ·have hs295 := RSl.mono hle292 hx0_0
          refine Zag (env' := [(3, .pointer (some ⟨b1, 0, none⟩))]) (by exact ⟨rfl, trivial⟩) ?_
          refine o_ld 0 rfl rfl rfl ?_
          exact Zai (.agg #[.slice a0_0 x0.nodes.length c0_0, .int .i64 x0.sw, .int .i64 x0.port]) ⟨rfl, rfl, hs295⟩
         refine dc (fun _ _ _ _ _ _ _ => ?_) ?_
         ·refine Zag (env' := [(7, .pointer (some ⟨b10, 0, none⟩))]) (by exact ⟨rfl, trivial⟩) ?_
          refine o_fa rfl ?_
          exact Zai (.pointer (some ⟨b10, 1, none⟩)) ⟨rfl, rfl⟩
         refine dc1 1 (fun _ _ _ _ _ _ => ?_) ?_
         ·refine o_ld 2 rfl rfl rfl ?_
          exact Zai (.int .i64 y5.A) ⟨rfl, rfl⟩
         refine dc (fun _ _ _ _ _ _ _ => ?_) ?_
         ·refine Zag (env' := [(5, .pointer (some ⟨b3, 0, none⟩))]) (by exact ⟨rfl, trivial⟩) ?_
          refine o_ld 1 rfl rfl rfl ?_
          exact Zai ((aS x2)) ⟨rfl, rfl⟩
         refine Za3 ?_ ?_
         ·intro _ _ H321 fr322 hle323 hd324
          obtain ⟨hv326, hg327, hp328⟩ := hd324 0 (by decide)
          obtain ⟨hv329, hg330⟩ := hd324 2 (by decide)
          obtain ⟨hv331, hg332⟩ := hd324 3 (by decide)
          refine ⟨_, (gf k x0 y5.A x2).bind some, by rw [h250]; rfl, fun _ => ?_⟩
          refine Zag (env' := [(81, .agg #[.slice a0_0 x0.nodes.length c0_0, .int .i64 x0.sw, .int .i64 x0.port]), (83, .int .i64 y5.A), (84, (aS x2))]) (by exact ⟨congrArg some hv326, congrArg some hv329, congrArg some hv331, trivial⟩) ?_
          refine s_bg fun y240 h333 => ?_
          refine Zbg [] _ rfl rfl (.refl _) (hgf k _ x0 _ _ hp328 y5.A x2 h333) ?_
          rintro _ H337 _ hle338 ⟨a334, c335, rfl, rfl⟩
          have hA340 : All2 (GoT.rep H337) (y240.map GoE.enc) y240 := ZaZ _
          obtain rfl := Option.some.inj (h250.symm.trans h333)
          refine ZcP (own' := [.blk b1 (Zak [.slice a0_0 x0.nodes.length c0_0, .int .i64 x0.sw, .int .i64 x0.port] 243), .blk b3 (Zak (cS x2) 47), .blk b10 (Zak (cN y5) 38), .osl (.slice a334 y240.length c335) 4 47 (y240.map GoE.enc)] ++ fr322) (pm3 (a := [.blk b1 (Zak [.slice a0_0 x0.nodes.length c0_0, .int .i64 x0.sw, .int .i64 x0.port] 243), .blk b3 (Zak (cS x2) 47), .blk b10 (Zak (cN y5) 38)]) (xs := [.osl (.slice a334 y240.length c335) 4 47 (y240.map GoE.enc)])) ?_
          refine Zg9 3 (fun b => .inl (by simp [ids])) rfl hA340 fun H341 hle342 hn343 hs344 => ?_
          exact ZbV fun _ _ _ hE hI => ⟨(.slice a334 y240.length c335), [], _, fun _ e => (by cases e; exact hE _ _ rfl), (Hle.trans hle338 hle342), by exact hI, ⟨a334, c335, rfl, rfl, hs344⟩⟩
         refine dc (fun _ _ _ _ _ hd351 _ => ?_) ?_
         ·obtain ⟨a353, c354, hv355, hg356, hp357⟩ := hd351 4 (by decide)
          refine Zag (env' := [(85, .slice a353 y240.length c354)]) (by exact ⟨congrArg some hv355, trivial⟩) ?_
          refine ZaG rfl ?_
          exact Zai (.int .i64 (y240.length : Int)) ⟨rfl, rfl⟩
         refine dc1 5 (fun _ _ _ _ _ _ => ?_) ?_
         ·refine o_eq rfl rfl ?_
          exact Zai (.bool ((y240.length : Int) == 0)) ⟨rfl, rfl⟩
         refine dc (fun _ _ _ _ _ _ _ => ?_) ?_
         ·refine Zag (env' := [(5, .pointer (some ⟨b3, 0, none⟩))]) (by exact ⟨rfl, trivial⟩) ?_
          refine o_ld 1 rfl rfl rfl ?_
          exact Zai ((aS x2)) ⟨rfl, rfl⟩
         refine Za3 ?_ ?_
         ·intro _ _ H376 fr377 hle378 hd379
          obtain ⟨hv381, hg382⟩ := hd379 6 (by decide)
          obtain ⟨hv383, hg384⟩ := hd379 7 (by decide)
          refine ⟨_, (ZaM k ((y240.length : Int) == 0) x2).bind some, by rw [h262]; rfl, fun _ => ?_⟩
          refine Zag (env' := [(87, .bool ((y240.length : Int) == 0)), (88, (aS x2))]) (by exact ⟨congrArg some hv381, congrArg some hv383, trivial⟩) ?_
          refine s_bg fun y251 h385 => ?_
          refine Zbg [] _ rfl rfl (.refl _) (ZbB k _ ((y240.length : Int) == 0) x2 h385) ?_
          rintro _ H389 _ hle390 ⟨a386, c387, rfl, rfl⟩
          have hA391 : All2 (GoT.rep H389) (y251.map GoE.enc) y251 := ZaZ _
          obtain rfl := Option.some.inj (h262.symm.trans h385)
          refine ZcP (own' := [.blk b1 (Zak [.slice a0_0 x0.nodes.length c0_0, .int .i64 x0.sw, .int .i64 x0.port] 243), .blk b3 (Zak (cS x2) 47), .blk b10 (Zak (cN y5) 38), .osl (.slice a386 y251.length c387) 4 47 (y251.map GoE.enc)] ++ fr377) (pm3 (a := [.blk b1 (Zak [.slice a0_0 x0.nodes.length c0_0, .int .i64 x0.sw, .int .i64 x0.port] 243), .blk b3 (Zak (cS x2) 47), .blk b10 (Zak (cN y5) 38)]) (xs := [.osl (.slice a386 y251.length c387) 4 47 (y251.map GoE.enc)])) ?_
          exact ZbV fun _ _ _ hE hI => ⟨(.slice a386 y251.length c387), [.osl (.slice a386 y251.length c387) 4 47 (y251.map GoE.enc)], _, fun _ e => (by cases e; exact hE _ _ rfl), hle390, by exact hI, ⟨a386, c387, rfl, rfl, hA391⟩⟩
         exact dnil
        ·intro V394 G395 H392 hle393 hF396
         obtain ⟨a399, c400, hv401, hg402, hp403⟩ := hF396 8 (show 8 < 9 by decide)
         refine Zag (env' := [(89, .slice a399 y251.length c400), (0, .agg #[.slice a0_0 x0.nodes.length c0_0, .int .i64 x0.sw, .int .i64 x0.port]), (1, .int .i64 x1), (2, (aS x2)), (3, .pointer (some ⟨b1, 0, none⟩)), (5, .pointer (some ⟨b3, 0, none⟩)), (6, .slice none 0 0), (16, .pointer (some ⟨b1, 0, none⟩)), (17, .slice a0_0 x0.nodes.length c0_0), (18, .int .i64 x1), (19, .pointer (some ⟨bk7, of8, none⟩)), (20, (aN y5)), (7, .pointer (some ⟨b10, 0, none⟩)), (21, .pointer (some ⟨b10, 0, none⟩)), (22, .int .i64 y5.Kind), (24, .bool (y5.Kind == 2)), (23, .bool (y5.Kind == 2)), (28, .bool (y5.Kind == 3)), (27, .bool (y5.Kind == 3)), (44, .bool (y5.Kind == 4)), (43, .bool (y5.Kind == 4)), (53, .bool (y5.Kind == 5)), (52, .bool (y5.Kind == 5)), (62, .bool (y5.Kind == 6)), (61, .bool (y5.Kind == 6)), (73, .bool (y5.Kind == 7)), (72, .bool (y5.Kind == 7)), (80, .bool (y5.Kind == 10)), (79, .bool (y5.Kind == 10))]) (by exact ⟨congrArg some hv401, rfl, rfl, rfl, rfl, rfl, rfl, rfl, rfl, rfl, rfl, rfl, rfl, rfl, rfl, rfl, rfl, rfl, rfl, rfl, rfl, rfl, rfl, rfl, rfl, rfl, rfl, rfl, rfl, trivial⟩) ?_
         refine Zg8 (js := [8]) rfl ?_
         refine ZbL (own' := [.blk b1 (Zak [.slice a0_0 x0.nodes.length c0_0, .int .i64 x0.sw, .int .i64 x0.port] 243), .blk b3 (Zak (cS x2) 47), .blk b10 (Zak (cN y5) 38), .osl (.slice a399 y251.length c400) 4 47 (y251.map GoE.enc)]) (by simp only [List.flatMap_cons, List.flatMap_nil, List.append_nil, hg402]; rfl) ?_
         refine Zah rfl <| Zac ?_
         exact ZaF (xs := [.tmp 6]) (vs := [.slice a399 y251.length c400]) [.osl (.slice a399 y251.length c400) 4 47 (y251.map GoE.enc)] ZeT rfl ⟨Zaz rfl, trivial⟩ (.cons _ (.cons _ (.cons _ (.cons_cons _ .slnil)))) ⟨_, _, rfl, (congrArg (fun z => [Res.osl _ _ _ z]) (Zb7 hp403))⟩
       ·refine Zae <| Zaa <| o_eq rfl rfl <| Zah rfl <| Zac ?_
        refine Zao rfl (fun h404 => ?_) (fun h404 => ?_)
        ·refine Zae <| Zaa <| o_ld 0 rfl rfl rfl <| o_fa rfl <| o_ld 2 rfl rfl rfl <| o_ld 1 rfl rfl rfl ?_
         refine s_bg fun y405 h406 => ?_
         refine Zbg [] _ rfl rfl (.refl _) (hgf k _ x0 _ _ hx0_0 y5.A x2 h406) ?_
         rintro _ H410 _ hle411 ⟨a407, c408, rfl, rfl⟩
         have hs412 := RSl.mono hle411 hx0_0
         have hA414 : All2 (GoT.rep H410) (y405.map GoE.enc) y405 := ZaZ _
         refine Zah rfl <| Zac <| Zae <| Zaa <| o_ld 0 rfl rfl rfl <| o_fa rfl <| o_ld 2 rfl rfl rfl <| o_ld 1 rfl rfl rfl ?_
         refine s_bg fun y415 h416 => ?_
         refine Zbg [] _ rfl rfl (.refl _) (hgf k _ x0 _ _ hs412 y5.B x2 h416) ?_
         rintro _ H420 _ hle421 ⟨a417, c418, rfl, rfl⟩
         have hA424 := All2.mono (fun _ _ => GoT.mono hle421) hA414
         have hA425 : All2 (GoT.rep H420) (y415.map GoE.enc) y415 := ZaZ _
         refine Zah rfl <| Zac <| Zae <| Zae <| Zaa <| Zah rfl <| Zac ?_
         refine Zb3 (fun p426 env own H' => ∃ a427 c428 ls429, env = [(8, .slice a427 p426.length c428)] ∧ own = [.osl (.slice a427 p426.length c428) 4 47 ls429] ∧ Hle H420 H' ∧ All2 (GoT.rep H') ls429 p426) ?_ ?_
         ·rintro p426 _ _ H431 ⟨a427, c428, ls429, rfl, rfl, hle432, hA430⟩
          refine Zae <| Zaa <| Zad rfl <| Zah rfl <| Zac ?_
          exact ZaF (xs := [.tmp 6]) (vs := [.slice a427 p426.length c428]) [.osl (.slice a427 p426.length c428) 4 47 ls429] ZeT rfl ⟨Zaz rfl, trivial⟩ (.cons_cons _ .slnil) ⟨_, _, rfl, (congrArg (fun z => [Res.osl _ _ _ z]) (Zb7 hA430))⟩
         ·intro J433
          refine Zat ?_
          refine Zag (env' := [(8, .slice a407 y405.length c408), (9, .slice a417 y415.length c418), (10, .int .i64 0)]) (by exact ⟨rfl, rfl, rfl, trivial⟩) ?_
          refine Zam (own' := [.osl (.slice a407 y405.length c408) 4 47 (y405.map GoE.enc), .osl (.slice a417 y415.length c418) 4 47 (y415.map GoE.enc)]) (.cons _ (.cons _ (.cons _ (.cons_cons _ (.cons_cons _ .slnil))))) ?_
          refine Za2 (fun q s434 => ZaO gf k q s434) (fun s434 env own H' => ∃ a435 c436 ls437 a439 c440 ls441, env = [(8, .slice a435 s434.1.length c436), (9, .slice a439 s434.2.1.length c440), (10, .int .i64 s434.2.2)] ∧ own = [.osl (.slice a435 s434.1.length c436) 4 47 ls437, .osl (.slice a439 s434.2.1.length c440) 4 47 ls441] ∧ Hle H420 H' ∧ All2 (GoT.rep H') ls437 s434.1 ∧ All2 (GoT.rep H') ls441 s434.2.1) (fun _ => rfl) ?_ k (y405, y415, 0) ⟨_, _, _, _, _, _, rfl, rfl, .refl _, hA424, hA425⟩
          rintro q443 ih444 s434 _ _ H445 ⟨a435, c436, ls437, a439, c440, ls441, rfl, rfl, hle446, hA438, hA442⟩
          refine s_eq (by rw [ZaO]) ?_
          refine Zae <| Zae <| Zaa <| Zad rfl <| Zad rfl <| ZaG rfl <| o_lt rfl rfl <| Zac ?_
          refine Zao rfl (fun h447 => ?_) (fun h447 => ?_)
          ·refine Zar <| Zae <| Zat <| Zaa <| Zad rfl <| Zad rfl <| Zad rfl ?_
           refine Zc2 1 rfl hA442 rfl rfl fun y448 bk450 vs451 h449 ha452 hi453 hr454 => ?_
           subst hr454
           subst ha452
           refine ZdL 1 0 rfl hi453 rfl rfl rfl ?_
           refine s_bg fun y455 h456 => ?_
           refine Zc5 (Φ := fun v out => ∃ a0 c0, v = .slice a0 y455.length c0 ∧ out = [.osl (.slice a0 y455.length c0) 4 47 (y455.map GoE.enc)]) [] _ rfl rfl (.refl _) (fun H' hle hl => Zc7 k _ s434.1 _ _ (Zcf (hl _ (List.mem_of_getElem? (i := 0) rfl)) hA438 hle).2 y448 h456) ?_
           rintro _ _ ⟨a457, c458, rfl, rfl⟩
           have hA460 : All2 (GoT.rep H445) (y455.map GoE.enc) y455 := ZaZ _
           refine Zah rfl <| Zac <| Zav <| Zaa <| Zad rfl <| ZbM rfl rfl <| Zah rfl <| Zac ?_
           refine s_mv 2 rfl ?_
           refine s_mv 1 rfl ?_
           exact Zag (by exact ⟨rfl, rfl, rfl, trivial⟩) (Zam (by exact (.cons _ (.cons_cons _ (.cons_cons _ .slnil)))) (ih444 (y455, s434.2.1, w64 (s434.2.2 + 1)) _ _ _ ⟨_, _, _, _, _, _, rfl, rfl, hle446, hA460, hA442⟩))
          ·refine Zbf rfl ?_
           exact Zag (by exact ⟨rfl, trivial⟩) (Zam (by exact (.cons_cons _ (.cons _ .slnil))) (J433 s434.1 _ _ _ ⟨_, _, _, rfl, rfl, hle446, hA438⟩))
        ·refine Zae <| Zaa <| o_eq rfl rfl <| Zah rfl <| Zac ?_
         refine Zao rfl (fun h461 => ?_) (fun h461 => ?_)
         ·refine Zae <| Zaa <| Zah rfl <| Zac <| Zae <| Zaa <| o_ld 0 rfl rfl rfl <| o_fa rfl <| o_ld 2 rfl rfl rfl <| o_ld 1 rfl rfl rfl ?_
          refine s_bg fun y462 h463 => ?_
          refine Zbg [] _ rfl rfl (.refl _) (hgf k _ x0 _ _ hx0_0 y5.A x2 h463) ?_
          rintro _ H467 _ hle468 ⟨a464, c465, rfl, rfl⟩
          have hs469 := RSl.mono hle468 hx0_0
          have hA471 : All2 (GoT.rep H467) (y462.map GoE.enc) y462 := ZaZ _
          refine Zah rfl <| Zac <| Zae <| Zae <| Zaa <| Zah rfl <| Zac ?_
          refine Zb3 (fun p472 env own H' => ∃ a474 c475 ls476, env = [(11, .slice a474 p472.length c475)] ∧ own = [.osl (.slice a474 p472.length c475) 4 47 ls476] ∧ Hle H467 H' ∧ All2 (GoT.rep H') ls476 p472) ?_ ?_
          ·rintro p472 _ _ H478 ⟨a474, c475, ls476, rfl, rfl, hle479, hA477⟩
           refine Zae <| Zaa <| Zad rfl <| Zah rfl <| Zac ?_
           exact ZaF (xs := [.tmp 6]) (vs := [.slice a474 p472.length c475]) [.osl (.slice a474 p472.length c475) 4 47 ls476] ZeT rfl ⟨Zaz rfl, trivial⟩ (.cons_cons _ .slnil) ⟨_, _, rfl, (congrArg (fun z => [Res.osl _ _ _ z]) (Zb7 hA477))⟩
          ·intro J480
           refine Zat ?_
           refine Zc4 (sz := 4) (t := 47) ?_
           have hA482 : All2 (GoT.rep H467) [] ([] : List Sent) := Zbv
           refine Zag (env' := [(3, .pointer (some ⟨b1, 0, none⟩)), (7, .pointer (some ⟨b10, 0, none⟩)), (11, .slice none ([] : List Sent).length 0), (12, .slice a464 y462.length c465), (13, .int .i64 0)]) (by exact ⟨rfl, rfl, rfl, rfl, rfl, trivial⟩) ?_
           refine Zam (own' := [.blk b1 (Zak [.slice a0_0 x0.nodes.length c0_0, .int .i64 x0.sw, .int .i64 x0.port] 243), .blk b10 (Zak (cN y5) 38), .osl (.slice a464 y462.length c465) 4 47 (y462.map GoE.enc), .osl (.slice none ([] : List Sent).length 0) 4 47 []]) (.cons_cons _ (.cons _ (.cons_cons _ (.cons_cons _ (.cons_cons _ .slnil))))) ?_
           refine Za2 (fun q s493 => ZaH gf k x0 y5 q s493) (fun s493 env own H' => ∃ a494 c495 ls496 a498 c499 ls500, env = [(3, .pointer (some ⟨b1, 0, none⟩)), (7, .pointer (some ⟨b10, 0, none⟩)), (11, .slice a498 s493.2.1.length c499), (12, .slice a494 s493.1.length c495), (13, .int .i64 s493.2.2)] ∧ own = [.blk b1 (Zak [.slice a0_0 x0.nodes.length c0_0, .int .i64 x0.sw, .int .i64 x0.port] 243), .blk b10 (Zak (cN y5) 38), .osl (.slice a494 s493.1.length c495) 4 47 ls496, .osl (.slice a498 s493.2.1.length c499) 4 47 ls500] ∧ Hle H467 H' ∧ All2 (GoT.rep H') ls496 s493.1 ∧ All2 (GoT.rep H') ls500 s493.2.1) (fun _ => rfl) ?_ k (y462, ([] : List Sent), 0) ⟨_, _, _, _, _, _, rfl, rfl, .refl _, hA471, hA482⟩
           rintro q502 ih503 s493 _ _ H504 ⟨a494, c495, ls496, a498, c499, ls500, rfl, rfl, hle505, hA497, hA501⟩
           refine s_eq (by rw [ZaH]) ?_
           have hs506 := RSl.mono hle505 hs469
           refine Zae <| Zae <| Zaa <| Zad rfl <| Zad rfl <| ZaG rfl <| o_lt rfl rfl <| Zac ?_
           refine Zao rfl (fun h507 => ?_) (fun h507 => ?_)
           ·refine Zar <| Zae <| Zat <| Zae ?_
            refine s_bg fun y508 h515 => ?_
            refine ZlM 2 rfl hA497 h515 fun bk510 ha516 => ?_
            subst ha516
            refine s_bg fun y517 h528 => ?_
            refine Za8 [(fun H v g => v = Value.agg #[.slice a0_0 x0.nodes.length c0_0, .int .i64 x0.sw, .int .i64 x0.port] ∧ g = [] ∧ RSl H a0_0 c0_0 x0.nodes),
   (fV (.pointer (some ⟨b10, 2, none⟩))),
   (fV (.int .i64 y5.B)),
   (fV (.slice (some ⟨bk510, 0, none⟩) s493.1.length c495)),
   (fV (.int .i64 s493.2.2)),
   (fun H v g => v = Value.pointer (some ⟨bk510, (s493.2.2 : Int).toNat * GoT.sz (Sent), none⟩) ∧ g = [] ∧ (ls496)[(s493.2.2 : Int).toNat]? = some (cS y508)),
   (fV ((aS y508))),
   (fun H v g => ∃ a536 c537, v = Value.slice a536 y517.length c537 ∧ g = [.osl (.slice a536 y517.length c537) 4 47 (y517.map GoE.enc)] ∧ All2 (GoT.rep H) (y517.map GoE.enc) y517)] [[], [], [], [], [], [], [], []] mixed ⟨fun _ _ _ _ hle ⟨e1, e2, h0_⟩ => ⟨e1, e2, RSl.mono hle h0_⟩, m0, m0, m0, m0, m0, m0, fun _ _ _ _ hle ⟨a536, c537, e1, e2, h0_⟩ => ⟨_, _, e1, e2, All2.mono (fun _ _ => GoT.mono hle) h0_⟩, trivial⟩ (by kernel_rfl) (by kernel_rfl) rfl (by kernel_rfl) rfl rfl ?_ ?_
            ·refine dc (fun _ _ _ _ hle549 _ _ => ?_) ?_
             ·have hs552 := RSl.mono hle549 hs506
              refine Zag (env' := [(3, .pointer (some ⟨b1, 0, none⟩))]) (by exact ⟨rfl, trivial⟩) ?_
              refine o_ld 0 rfl rfl rfl ?_
              exact Zai (.agg #[.slice a0_0 x0.nodes.length c0_0, .int .i64 x0.sw, .int .i64 x0.port]) ⟨rfl, rfl, hs552⟩
             refine dc (fun _ _ _ _ _ _ _ => ?_) ?_
             ·refine Zag (env' := [(7, .pointer (some ⟨b10, 0, none⟩))]) (by exact ⟨rfl, trivial⟩) ?_
              refine o_fa rfl ?_
              exact Zai (.pointer (some ⟨b10, 2, none⟩)) ⟨rfl, rfl⟩
             refine dc1 1 (fun _ _ _ _ _ _ => ?_) ?_
             ·refine o_ld 1 rfl rfl rfl ?_
              exact Zai (.int .i64 y5.B) ⟨rfl, rfl⟩
             refine dc (fun _ _ _ _ _ _ _ => ?_) ?_
             ·refine Zag (env' := [(12, .slice (some ⟨bk510, 0, none⟩) s493.1.length c495)]) (by exact ⟨rfl, trivial⟩) ?_
              refine Zad rfl ?_
              exact Zai (.slice (some ⟨bk510, 0, none⟩) s493.1.length c495) ⟨rfl, rfl⟩
             refine dc (fun _ _ _ _ _ _ _ => ?_) ?_
             ·refine Zag (env' := [(13, .int .i64 s493.2.2)]) (by exact ⟨rfl, trivial⟩) ?_
              refine Zad rfl ?_
              exact Zai (.int .i64 s493.2.2) ⟨rfl, rfl⟩
             refine Za3 ?_ ?_
             ·intro _ _ H586 fr587 hle588 hd589
              have hA591 := All2.mono (fun _ _ => GoT.mono hle588) hA497
              obtain ⟨hv592, hg593⟩ := hd589 3 (by decide)
              obtain ⟨hv594, hg595⟩ := hd589 4 (by decide)
              refine ⟨_, (rd s493.1 s493.2.2).bind some, by rw [h515]; rfl, fun _ => ?_⟩
              refine Zag (env' := [(131, .slice (some ⟨bk510, 0, none⟩) s493.1.length c495), (132, .int .i64 s493.2.2)]) (by exact ⟨congrArg some hv592, congrArg some hv594, trivial⟩) ?_
              refine Zc2 2 rfl hA591 rfl rfl fun y508 bk597 vs598 h596 ha599 hi600 hr601 => ?_
              subst hr601
              obtain rfl := s_bk ha599
              obtain rfl := Option.some.inj (h515.symm.trans h596)
              exact Zai (.pointer (some ⟨bk510, (s493.2.2 : Int).toNat * GoT.sz (Sent), none⟩)) ⟨rfl, rfl, hi600⟩
             refine dc (fun _ _ _ _ _ hd607 _ => ?_) ?_
             ·obtain ⟨hv610, hg611, hp612⟩ := hd607 5 (by decide)
              refine Zag (env' := [(133, .pointer (some ⟨bk510, (s493.2.2 : Int).toNat * GoT.sz (Sent), none⟩))]) (by exact ⟨congrArg some hv610, trivial⟩) ?_
              refine ZdL 2 0 rfl hp612 rfl rfl rfl ?_
              exact Zai ((aS y508)) ⟨rfl, rfl⟩
             refine Za3 ?_ ?_
             ·intro _ _ H615 fr616 hle617 hd618
              obtain ⟨hv620, hg621, hp622⟩ := hd618 0 (by decide)
              obtain ⟨hv623, hg624⟩ := hd618 2 (by decide)
              obtain ⟨hv625, hg626⟩ := hd618 6 (by decide)
              refine ⟨_, (gf k x0 y5.B y508).bind some, by rw [h528]; rfl, fun _ => ?_⟩
              refine Zag (env' := [(128, .agg #[.slice a0_0 x0.nodes.length c0_0, .int .i64 x0.sw, .int .i64 x0.port]), (130, .int .i64 y5.B), (134, (aS y508))]) (by exact ⟨congrArg some hv620, congrArg some hv623, congrArg some hv625, trivial⟩) ?_
              refine s_bg fun y517 h627 => ?_
              refine Zbg [] _ rfl rfl (.refl _) (hgf k _ x0 _ _ hp622 y5.B y508 h627) ?_
              rintro _ H631 _ hle632 ⟨a628, c629, rfl, rfl⟩
              have hA634 : All2 (GoT.rep H631) (y517.map GoE.enc) y517 := ZaZ _
              obtain rfl := Option.some.inj (h528.symm.trans h627)
              refine ZcP (own' := [.blk b1 (Zak [.slice a0_0 x0.nodes.length c0_0, .int .i64 x0.sw, .int .i64 x0.port] 243), .blk b10 (Zak (cN y5) 38), .osl (.slice (some ⟨bk510, 0, none⟩) s493.1.length c495) 4 47 ls496, .osl (.slice a498 s493.2.1.length c499) 4 47 ls500, .osl (.slice a628 y517.length c629) 4 47 (y517.map GoE.enc)] ++ fr616) (pm3 (a := [.blk b1 (Zak [.slice a0_0 x0.nodes.length c0_0, .int .i64 x0.sw, .int .i64 x0.port] 243), .blk b10 (Zak (cN y5) 38), .osl (.slice (some ⟨bk510, 0, none⟩) s493.1.length c495) 4 47 ls496, .osl (.slice a498 s493.2.1.length c499) 4 47 ls500]) (xs := [.osl (.slice a628 y517.length c629) 4 47 (y517.map GoE.enc)])) ?_
              exact ZbV fun _ _ _ hE hI => ⟨(.slice a628 y517.length c629), [.osl (.slice a628 y517.length c629) 4 47 (y517.map GoE.enc)], _, fun _ e => (by cases e; exact hE _ _ rfl), hle632, by exact hI, ⟨a628, c629, rfl, rfl, hA634⟩⟩
             exact dnil
            ·intro V637 G638 H635 hle636 hF639
             have hA641 := All2.mono (fun _ _ => GoT.mono hle636) hA497
             have hA642 := All2.mono (fun _ _ => GoT.mono hle636) hA501
             obtain ⟨a643, c644, hv645, hg646, hp647⟩ := hF639 7 (show 7 < 8 by decide)
             refine Zag (env' := [(135, .slice a643 y517.length c644), (3, .pointer (some ⟨b1, 0, none⟩)), (7, .pointer (some ⟨b10, 0, none⟩)), (11, .slice a498 s493.2.1.length c499), (12, .slice (some ⟨bk510, 0, none⟩) s493.1.length c495), (13, .int .i64 s493.2.2), (122, .int .i64 s493.2.2), (123, .slice (some ⟨bk510, 0, none⟩) s493.1.length c495), (124, .int .i64 (s493.1.length : Int)), (125, .bool (decide (s493.2.2 < (s493.1.length : Int))))]) (by exact ⟨congrArg some hv645, rfl, rfl, rfl, rfl, rfl, rfl, rfl, rfl, rfl, trivial⟩) ?_
             refine Zg8 (js := [7]) rfl ?_
             refine ZbL (own' := [.blk b1 (Zak [.slice a0_0 x0.nodes.length c0_0, .int .i64 x0.sw, .int .i64 x0.port] 243), .blk b10 (Zak (cN y5) 38), .osl (.slice (some ⟨bk510, 0, none⟩) s493.1.length c495) 4 47 ls496, .osl (.slice a498 s493.2.1.length c499) 4 47 ls500, .osl (.slice a643 y517.length c644) 4 47 (y517.map GoE.enc)]) (by simp only [List.flatMap_cons, List.flatMap_nil, List.append_nil, hg646]; rfl) ?_
             refine Zah rfl <| Zac <| Zae <| Zaa <| Zah rfl <| Zac ?_
             refine Zb3 (fun p648 env own H' => ∃ a649 c650 ls651, env = [(3, .pointer (some ⟨b1, 0, none⟩)), (7, .pointer (some ⟨b10, 0, none⟩)), (11, .slice a649 p648.length c650), (12, .slice (some ⟨bk510, 0, none⟩) s493.1.length c495), (13, .int .i64 s493.2.2)] ∧ own = [.blk b1 (Zak [.slice a0_0 x0.nodes.length c0_0, .int .i64 x0.sw, .int .i64 x0.port] 243), .blk b10 (Zak (cN y5) 38), .osl (.slice (some ⟨bk510, 0, none⟩) s493.1.length c495) 4 47 ls496, .osl (.slice a649 p648.length c650) 4 47 ls651] ∧ Hle H635 H' ∧ All2 (GoT.rep H') ls651 p648) ?_ ?_
             ·rintro p648 _ _ H653 ⟨a649, c650, ls651, rfl, rfl, hle654, hA652⟩
              have hA656 := All2.mono (fun _ _ => GoT.mono hle654) hA641
              refine Zav <| Zaa <| Zad rfl <| ZbM rfl rfl <| Zah rfl <| Zac ?_
              exact Zag (by exact ⟨rfl, rfl, rfl, rfl, rfl, trivial⟩) (Zam (by exact (.cons_cons _ (.cons_cons _ (.cons_cons _ (.cons_cons _ .slnil))))) (ih503 (s493.1, p648, w64 (s493.2.2 + 1)) _ _ _ ⟨_, _, _, _, _, _, rfl, rfl, (Hle.trans (Hle.trans hle505 hle636) hle654), hA656, hA652⟩))
             ·intro J657
              refine Zat ?_
              refine Zag (env' := [(3, .pointer (some ⟨b1, 0, none⟩)), (7, .pointer (some ⟨b10, 0, none⟩)), (11, .slice a498 s493.2.1.length c499), (12, .slice (some ⟨bk510, 0, none⟩) s493.1.length c495), (13, .int .i64 s493.2.2), (14, .slice a643 y517.length c644), (15, .int .i64 0)]) (by exact ⟨rfl, rfl, rfl, rfl, rfl, rfl, rfl, trivial⟩) ?_
              refine Zam (own' := [.blk b1 (Zak [.slice a0_0 x0.nodes.length c0_0, .int .i64 x0.sw, .int .i64 x0.port] 243), .blk b10 (Zak (cN y5) 38), .osl (.slice (some ⟨bk510, 0, none⟩) s493.1.length c495) 4 47 ls496, .osl (.slice a498 s493.2.1.length c499) 4 47 ls500, .osl (.slice a643 y517.length c644) 4 47 (y517.map GoE.enc)]) (.cons_cons _ (.cons_cons _ (.cons_cons _ (.cons_cons _ (.cons_cons _ .slnil))))) ?_
              refine Za2 (fun q s658 => ZaN gf k q s658) (fun s658 env own H' => ∃ a659 c660 ls661 a663 c664 ls665, env = [(3, .pointer (some ⟨b1, 0, none⟩)), (7, .pointer (some ⟨b10, 0, none⟩)), (11, .slice a659 s658.1.length c660), (12, .slice (some ⟨bk510, 0, none⟩) s493.1.length c495), (13, .int .i64 s493.2.2), (14, .slice a663 s658.2.1.length c664), (15, .int .i64 s658.2.2)] ∧ own = [.blk b1 (Zak [.slice a0_0 x0.nodes.length c0_0, .int .i64 x0.sw, .int .i64 x0.port] 243), .blk b10 (Zak (cN y5) 38), .osl (.slice (some ⟨bk510, 0, none⟩) s493.1.length c495) 4 47 ls496, .osl (.slice a659 s658.1.length c660) 4 47 ls661, .osl (.slice a663 s658.2.1.length c664) 4 47 ls665] ∧ Hle H635 H' ∧ All2 (GoT.rep H') ls661 s658.1 ∧ All2 (GoT.rep H') ls665 s658.2.1) (fun _ => rfl) ?_ k (s493.2.1, y517, 0) ⟨_, _, _, _, _, _, rfl, rfl, .refl _, hA642, hp647⟩
              rintro q667 ih668 s658 _ _ H669 ⟨a659, c660, ls661, a663, c664, ls665, rfl, rfl, hle670, hA662, hA666⟩
              refine s_eq (by rw [ZaN]) ?_
              refine Zae <| Zae <| Zaa <| Zad rfl <| Zad rfl <| ZaG rfl <| o_lt rfl rfl <| Zac ?_
              refine Zao rfl (fun h673 => ?_) (fun h673 => ?_)
              ·refine Zar <| Zae <| Zat <| Zaa <| Zad rfl <| Zad rfl <| Zad rfl ?_
               refine Zc2 4 rfl hA666 rfl rfl fun y674 bk676 vs677 h675 ha678 hi679 hr680 => ?_
               subst hr680
               subst ha678
               refine ZdL 4 0 rfl hi679 rfl rfl rfl ?_
               refine s_bg fun y681 h682 => ?_
               refine Zc5 (Φ := fun v out => ∃ a0 c0, v = .slice a0 y681.length c0 ∧ out = [.osl (.slice a0 y681.length c0) 4 47 (y681.map GoE.enc)]) [] _ rfl rfl (.refl _) (fun H' hle hl => Zc7 k _ s658.1 _ _ (Zcf (hl _ (List.mem_of_getElem? (i := 3) rfl)) hA662 hle).2 y674 h682) ?_
               rintro _ _ ⟨a683, c684, rfl, rfl⟩
               have hA686 : All2 (GoT.rep H669) (y681.map GoE.enc) y681 := ZaZ _
               refine Zah rfl <| Zac <| Zav <| Zaa <| Zad rfl <| ZbM rfl rfl <| Zah rfl <| Zac ?_
               refine s_mv 0 rfl ?_
               refine s_mv 0 rfl ?_
               refine s_mv 0 rfl ?_
               refine s_mv 2 rfl ?_
               refine s_mv 1 rfl ?_
               exact Zag (by exact ⟨rfl, rfl, rfl, rfl, rfl, rfl, rfl, trivial⟩) (Zam (by exact (.cons _ (.cons_cons _ (.cons_cons _ (.cons_cons _ (.cons_cons _ (.cons_cons _ .slnil))))))) (ih668 (y681, s658.2.1, w64 (s658.2.2 + 1)) _ _ _ ⟨_, _, _, _, _, _, rfl, rfl, hle670, hA686, hA666⟩))
              ·refine Zbf rfl ?_
               exact Zag (by exact ⟨rfl, rfl, rfl, rfl, rfl, trivial⟩) (Zam (by exact (.cons_cons _ (.cons_cons _ (.cons_cons _ (.cons_cons _ (.cons _ .slnil)))))) (J657 s658.1 _ _ _ ⟨_, _, _, rfl, rfl, hle670, hA662⟩))
           ·refine Zbf rfl ?_
            exact Zag (by exact ⟨rfl, trivial⟩) (Zam (by exact (.cons _ (.cons _ (.cons _ (.cons_cons _ .slnil))))) (J480 s493.2.1 _ _ _ ⟨_, _, _, rfl, rfl, hle505, hA501⟩))
         ·refine Zar <| Zav <| Zae <| Zaa <| Zah rfl <| Zac ?_
          refine Zc4 (sz := 4) (t := 47) ?_
          have hA687 : All2 (GoT.rep H) [] ([] : List Sent) := Zbv
          exact ZaF (xs := [.tmp 6]) (vs := [.slice none ([] : List Sent).length 0]) [.osl (.slice none ([] : List Sent).length 0) 4 47 []] ZeT rfl ⟨Zaz rfl, trivial⟩ (.cons _ (.cons _ (.cons _ (.cons_cons _ .slnil)))) ⟨_, _, rfl, (congrArg (fun z => [Res.osl _ _ _ z]) (Zb7 hA687))⟩
end Go.Cat.G3

