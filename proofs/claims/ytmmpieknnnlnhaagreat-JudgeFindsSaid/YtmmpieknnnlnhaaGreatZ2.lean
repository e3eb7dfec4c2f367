/- A text of the proof of the seat's laws: a step logic over the machine, or pure functions that the Go functions come to. No condition. -/
import Derived.Test.YtmmpieknnnlnhaaGreatCore1
import Derived.Test.YtmmpieknnnlnhaaGreatJ2
import Derived.Test.YtmmpieknnnlnhaaGreatHG
namespace Go.Cat.G3
open Go Go.Cat Go.Proofs
abbrev cS (x : Sent) : List Value := [.int .i64 x.Port, .int .u8 x.H.e0, .int .u8 x.H.e1, .int .u8 x.H.e2]
abbrev aS (x : Sent) : Value := .agg #[.int .i64 x.Port, .int .u8 x.H.e0, .int .u8 x.H.e1, .int .u8 x.H.e2]
set_option maxRecDepth 100000
set_option maxHeartbeats 4000000
set_option linter.unusedVariables false
set_option linter.unusedSimpArgs false
instance iZ2x1 : TLay Tryz.prog 47 4 true := ⟨fun _ => by kernel_rfl, fun _ => by kernel_rfl, fun h => by first | rfl | cases h⟩
instance iZ2x2 : TFld Tryz.prog 47 0 0 1 false := ⟨⟨_, _, Tryz.underlying47, rfl, rfl, fun _ => by kernel_rfl, fun _ => by kernel_rfl, by decide, fun h => by first | rfl | cases h⟩⟩
instance iZ2x3 : TFld Tryz.prog 47 1 1 3 true := ⟨⟨_, _, Tryz.underlying47, rfl, rfl, fun _ => by kernel_rfl, fun _ => by kernel_rfl, by decide, fun h => by first | rfl | cases h⟩⟩
instance iZ2x4 : TSl Tryz.prog 42 47 4 16 := ⟨by kernel_rfl, fun _ => by kernel_rfl, ⟨Tryz.t47, by kernel_rfl, by kernel_rfl⟩, by decide, by decide, ⟨.agg #[.int .i64 0, .int .u8 0, .int .u8 0, .int .u8 0], fun _ => by kernel_rfl, rfl, rfl⟩⟩
instance iZ2x5 : TSl Tryz.prog 171 5 1 1 := ⟨by kernel_rfl, fun _ => by kernel_rfl, ⟨Tryz.t5, by kernel_rfl, by kernel_rfl⟩, by decide, by decide, ⟨.int .u8 0, fun _ => by kernel_rfl, rfl, rfl⟩⟩
instance iZ2x6 : TArr Tryz.prog 41 3 5 1 := ⟨by kernel_rfl, fun _ => by kernel_rfl⟩
instance iZ2x7 : TFun Tryz.prog 27 := ⟨_, (by kernel_rfl : Tryz.prog.funcs[27]? = some Tryz.f27), by decide, rfl⟩
instance iZ2x8 : TFun Tryz.prog 67 := ⟨_, (by kernel_rfl : Tryz.prog.funcs[67]? = some Tryz.f67), by decide, rfl⟩
instance iZ2x9 : TFun Tryz.prog 100 := ⟨_, (by kernel_rfl : Tryz.prog.funcs[100]? = some Tryz.f100), by decide, rfl⟩
instance iZ2x10 : TFun Tryz.prog 101 := ⟨_, (by kernel_rfl : Tryz.prog.funcs[101]? = some Tryz.f101), by decide, rfl⟩
instance iZ2x11 : TFun Tryz.prog 153 := ⟨_, (by kernel_rfl : Tryz.prog.funcs[153]? = some Tryz.f153), by decide, rfl⟩
instance iZ2x12 : TFun Tryz.prog 182 := ⟨_, (by kernel_rfl : Tryz.prog.funcs[182]? = some Tryz.f182), by decide, rfl⟩
def ZcS (k : Nat) (x0 : Int) : Option Bool :=
 some (x0 != x0)
theorem ZnA : Tryz.prog.funcs[67]? = some Tryz.f67 := by kernel_rfl
theorem Zeg (k : Nat) (H : Heap) (x0 : Int) {r : Bool} (hr : ZcS k x0 = some r) :
  Fn Tryz.prog 67 [.int .i64 x0] H [] fun H' v out => v = .bool r ∧ out = [] := by
 refine Zaq (args := [.int .i64 x0]) (n := 6) (Φ := fun r H' v out => v = .bool r ∧ out = []) hr ZnA rfl rfl rfl fun w => ?_
 refine s_eq (by rw [ZcS]) ?_
 refine Zae <| Zaa <| Zah rfl <| Zac <| Zae <| Zaa <| Zad rfl <| Zad rfl <| o_ne rfl rfl <| Zah rfl <| Zac ?_
 exact s_r1 2 (.bool (x0 != x0)) ZnA ⟨rfl, rfl⟩
def ZbN (k : Nat) (x0 : Int) (x1 : Int) : Option Int :=
 (ZcS k x0).bind fun y1 =>
 (ZcS k x1).bind fun y3 =>
 if (y1) = true then
  if (y3) = true then
   some 0
  else
   some (-1)
 else
  if (y3) = true then
   some 1
  else
   if (decide (x0 < x1)) = true then
    some (-1)
   else
    if (decide (x0 > x1)) = true then
     some 1
    else
     some 0
theorem Zim : Tryz.prog.funcs[27]? = some Tryz.f27 := by kernel_rfl
theorem Zdj (k : Nat) (H : Heap) (x0 : Int) (x1 : Int) {r : Int} (hr : ZbN k x0 x1 = some r) :
  Fn Tryz.prog 27 [.int .i64 x0, .int .i64 x1] H [] fun H' v out => v = .int .i64 r ∧ out = [] := by
 refine Zaq (args := [.int .i64 x0, .int .i64 x1]) (n := 20) (Φ := fun r H' v out => v = .int .i64 r ∧ out = []) hr Zim rfl rfl rfl fun w => ?_
 refine s_eq (by rw [ZbN]) ?_
 refine Zae <| Zaa <| Zah rfl <| Zac <| Zae <| Zaa <| Zad rfl ?_
 refine s_bg fun y1 h2 => ?_
 refine Zas rfl rfl (Zeg k _ x0 h2) ?_
 refine Zah rfl <| Zac <| Zae <| Zaa <| Zad rfl ?_
 refine s_bg fun y3 h4 => ?_
 refine Zas rfl rfl (Zeg k _ x1 h4) ?_
 refine Zah rfl <| Zac <| Zae <| Zae <| Zaa <| Zad rfl <| Zac ?_
 refine Zao rfl (fun h5 => ?_) (fun h5 => ?_)
 ·refine Zae <| Zae <| Zaa <| Zad rfl <| Zac ?_
  refine Zao rfl (fun h6 => ?_) (fun h6 => ?_)
  ·refine Zae <| Zaa <| Zah rfl <| Zac ?_
   exact s_r1 4 (.int .i64 0) Zim ⟨rfl, rfl⟩
  ·refine Zar <| Zae <| Zaa <| Zah rfl <| Zac ?_
   exact s_r1 4 (.int .i64 (-1)) Zim ⟨rfl, rfl⟩
 ·refine Zar <| Zae <| Zae <| Zaa <| Zad rfl <| Zac ?_
  refine Zao rfl (fun h7 => ?_) (fun h7 => ?_)
  ·refine Zae <| Zaa <| Zah rfl <| Zac ?_
   exact s_r1 4 (.int .i64 1) Zim ⟨rfl, rfl⟩
  ·refine Zar <| Zae <| Zae <| Zaa <| Zad rfl <| Zad rfl <| o_lt rfl rfl <| Zac ?_
   refine Zao rfl (fun h8 => ?_) (fun h8 => ?_)
   ·refine Zae <| Zaa <| Zah rfl <| Zac ?_
    exact s_r1 4 (.int .i64 (-1)) Zim ⟨rfl, rfl⟩
   ·refine Zar <| Zae <| Zae <| Zaa <| Zad rfl <| Zad rfl <| o_gt rfl rfl <| Zac ?_
    refine Zao rfl (fun h9 => ?_) (fun h9 => ?_)
    ·refine Zae <| Zaa <| Zah rfl <| Zac ?_
     exact s_r1 4 (.int .i64 1) Zim ⟨rfl, rfl⟩
    ·refine Zar <| Zae <| Zaa <| Zah rfl <| Zac ?_
     exact s_r1 4 (.int .i64 0) Zim ⟨rfl, rfl⟩
def ZcQ (k : Nat) (x0 : Int) : Option Bool :=
 some (x0 != x0)
theorem ZlX : Tryz.prog.funcs[182]? = some Tryz.f182 := by kernel_rfl
theorem ZdX (k : Nat) (H : Heap) (x0 : Int) {r : Bool} (hr : ZcQ k x0 = some r) :
  Fn Tryz.prog 182 [.int .u8 x0] H [] fun H' v out => v = .bool r ∧ out = [] := by
 refine Zaq (args := [.int .u8 x0]) (n := 6) (Φ := fun r H' v out => v = .bool r ∧ out = []) hr ZlX rfl rfl rfl fun w => ?_
 refine s_eq (by rw [ZcQ]) ?_
 refine Zae <| Zaa <| Zah rfl <| Zac <| Zae <| Zaa <| Zad rfl <| Zad rfl <| o_ne rfl rfl <| Zah rfl <| Zac ?_
 exact s_r1 2 (.bool (x0 != x0)) ZlX ⟨rfl, rfl⟩
def Zcz (k : Nat) (x0 : Int) (x1 : Int) : Option Int :=
 (ZcQ k x0).bind fun y1 =>
 (ZcQ k x1).bind fun y3 =>
 if (y1) = true then
  if (y3) = true then
   some 0
  else
   some (-1)
 else
  if (y3) = true then
   some 1
  else
   if (decide (x0 < x1)) = true then
    some (-1)
   else
    if (decide (x0 > x1)) = true then
     some 1
    else
     some 0
theorem ZgD : Tryz.prog.funcs[153]? = some Tryz.f153 := by kernel_rfl
theorem ZeV (k : Nat) (H : Heap) (x0 : Int) (x1 : Int) {r : Int} (hr : Zcz k x0 x1 = some r) :
  Fn Tryz.prog 153 [.int .u8 x0, .int .u8 x1] H [] fun H' v out => v = .int .i64 r ∧ out = [] := by
 refine Zaq (args := [.int .u8 x0, .int .u8 x1]) (n := 20) (Φ := fun r H' v out => v = .int .i64 r ∧ out = []) hr ZgD rfl rfl rfl fun w => ?_
 refine s_eq (by rw [Zcz]) ?_
 refine Zae <| Zaa <| Zah rfl <| Zac <| Zae <| Zaa <| Zad rfl ?_
 refine s_bg fun y1 h2 => ?_
 refine Zas rfl rfl (ZdX k _ x0 h2) ?_
 refine Zah rfl <| Zac <| Zae <| Zaa <| Zad rfl ?_
 refine s_bg fun y3 h4 => ?_
 refine Zas rfl rfl (ZdX k _ x1 h4) ?_
 refine Zah rfl <| Zac <| Zae <| Zae <| Zaa <| Zad rfl <| Zac ?_
 refine Zao rfl (fun h5 => ?_) (fun h5 => ?_)
 ·refine Zae <| Zae <| Zaa <| Zad rfl <| Zac ?_
  refine Zao rfl (fun h6 => ?_) (fun h6 => ?_)
  ·refine Zae <| Zaa <| Zah rfl <| Zac ?_
   exact s_r1 4 (.int .i64 0) ZgD ⟨rfl, rfl⟩
  ·refine Zar <| Zae <| Zaa <| Zah rfl <| Zac ?_
   exact s_r1 4 (.int .i64 (-1)) ZgD ⟨rfl, rfl⟩
 ·refine Zar <| Zae <| Zae <| Zaa <| Zad rfl <| Zac ?_
  refine Zao rfl (fun h7 => ?_) (fun h7 => ?_)
  ·refine Zae <| Zaa <| Zah rfl <| Zac ?_
   exact s_r1 4 (.int .i64 1) ZgD ⟨rfl, rfl⟩
  ·refine Zar <| Zae <| Zae <| Zaa <| Zad rfl <| Zad rfl <| o_lt rfl rfl <| Zac ?_
   refine Zao rfl (fun h8 => ?_) (fun h8 => ?_)
   ·refine Zae <| Zaa <| Zah rfl <| Zac ?_
    exact s_r1 4 (.int .i64 (-1)) ZgD ⟨rfl, rfl⟩
   ·refine Zar <| Zae <| Zae <| Zaa <| Zad rfl <| Zad rfl <| o_gt rfl rfl <| Zac ?_
    refine Zao rfl (fun h9 => ?_) (fun h9 => ?_)
    ·refine Zae <| Zaa <| Zah rfl <| Zac ?_
     exact s_r1 4 (.int .i64 1) ZgD ⟨rfl, rfl⟩
    ·refine Zar <| Zae <| Zaa <| Zah rfl <| Zac ?_
     exact s_r1 4 (.int .i64 0) ZgD ⟨rfl, rfl⟩
def Za4 (k : Nat) (x0 : (List B8)) (x1 : (List B8)) : Nat → Int → Option (LX (Int) (Unit))
 | 0, _ => none
 | q9 + 1, s8 =>
  if (decide (s8 < (x0.length : Int))) = true then
   (rd x0 s8).bind fun y16 =>
   if (decide (s8 ≥ (x1.length : Int))) = true then
    some (.ret 1)
   else
    (rd x1 s8).bind fun y22 =>
    (Zcz k y16.v y22.v).bind fun y27 =>
    if (y27 != 0) = true then
     some (.ret y27)
    else
     Za4 k x0 x1 q9 (w64 (s8 + 1))
  else
   some (.out ())
def Za0 (k : Nat) (x0 : (List B8)) (x1 : (List B8)) : Option Int :=
 (Za4 k x0 x1 k 0).bind (LX.go fun p1 =>
 if (decide ((x0.length : Int) < (x1.length : Int))) = true then
  some (-1)
 else
  some 0)
theorem ZhR : Tryz.prog.funcs[101]? = some Tryz.f101 := by kernel_rfl
theorem Zds (k : Nat) (H : Heap) (x0 : (List B8)) (a0_0 : Option Addr) (c0_0 : Nat) (hx0_0 : RSl H a0_0 c0_0 x0) (x1 : (List B8)) (a1_0 : Option Addr) (c1_0 : Nat) (hx1_0 : RSl H a1_0 c1_0 x1) {r : Int} (hr : Za0 k x0 x1 = some r) :
  Fn Tryz.prog 101 [.slice a0_0 x0.length c0_0, .slice a1_0 x1.length c1_0] H [] fun H' v out => v = .int .i64 r ∧ out = [] := by
 refine Zaq (args := [.slice a0_0 x0.length c0_0, .slice a1_0 x1.length c1_0]) (n := 36) (Φ := fun r H' v out => v = .int .i64 r ∧ out = []) hr ZhR rfl rfl rfl fun w => ?_
 refine s_eq (by rw [Za0]) ?_
 refine Zae <| Zaa <| Zah rfl <| Zac <| Zae <| Zae <| Zaa <| Zad rfl <| ZaG rfl <| Zad rfl <| Zac ?_
 refine ZbR (fun p1 env own H' => env = [(0, .slice a0_0 x0.length c0_0), (1, .slice a1_0 x1.length c1_0)] ∧ own = [] ∧ Hle H H') ?_ ?_
 ·rintro p1 _ _ H2 ⟨rfl, rfl, hle3⟩
  refine Zae <| Zae <| Zaa <| Zad rfl <| ZaG rfl <| Zad rfl <| ZaG rfl <| o_lt rfl rfl <| Zac ?_
  refine Zao rfl (fun h6 => ?_) (fun h6 => ?_)
  ·refine Zae <| Zaa <| Zah rfl <| Zac ?_
   exact s_r1 4 (.int .i64 (-1)) ZhR ⟨rfl, rfl⟩
  ·refine Zar <| Zae <| Zaa <| Zah rfl <| Zac ?_
   exact s_r1 4 (.int .i64 0) ZhR ⟨rfl, rfl⟩
 ·intro J7
  refine Zat ?_
  refine Zag (env' := [(0, .slice a0_0 x0.length c0_0), (1, .slice a1_0 x1.length c1_0), (9, .slice a0_0 x0.length c0_0), (10, .int .i64 (x0.length : Int)), (11, .int .i64 0)]) (by exact ⟨rfl, rfl, rfl, rfl, rfl, trivial⟩) ?_
  refine Zam (own' := []) .slnil ?_
  refine Za2 (fun q s8 => Za4 k x0 x1 q s8) (fun s8 env own H' => env = [(0, .slice a0_0 x0.length c0_0), (1, .slice a1_0 x1.length c1_0), (9, .slice a0_0 x0.length c0_0), (10, .int .i64 (x0.length : Int)), (11, .int .i64 s8)] ∧ own = [] ∧ Hle H H') (fun _ => rfl) ?_ k 0 ⟨rfl, rfl, .refl _⟩
  rintro q9 ih10 s8 _ _ H11 ⟨rfl, rfl, hle12⟩
  refine s_eq (by rw [Za4]) ?_
  have hs13 := RSl.mono hle12 hx0_0
  have hs14 := RSl.mono hle12 hx1_0
  refine Zae <| Zaa <| o_lt rfl rfl <| Zac <| Zae ?_
  refine Zao rfl (fun h15 => ?_) (fun h15 => ?_)
  ·refine Zar <| Zae <| Zat <| Zae <| Zaa <| Zad rfl ?_
   refine Zce hs13 rfl rfl fun y16 bk18 of19 h17 hc20 => ?_
   refine ZaP 0 hc20 rfl rfl rfl ?_
   refine Zah rfl <| Zah rfl <| Zac <| Zae <| Zae <| Zaa <| Zad rfl <| Zad rfl <| ZaG rfl <| o_ge rfl rfl <| Zac ?_
   refine Zao rfl (fun h21 => ?_) (fun h21 => ?_)
   ·refine Zae <| Zaa <| Zah rfl <| Zac <| ZbQ ?_
    exact s_r1 4 (.int .i64 1) ZhR ⟨rfl, rfl⟩
   ·refine Zar <| Zae <| Zaa <| Zad rfl <| Zad rfl ?_
    refine Zce hs14 rfl rfl fun y22 bk24 of25 h23 hc26 => ?_
    refine ZaP 0 hc26 rfl rfl rfl ?_
    refine Zah rfl <| Zac <| Zae <| Zaa <| Zad rfl <| Zad rfl ?_
    refine s_bg fun y27 h28 => ?_
    refine Zas rfl rfl (ZeV k _ y16.v y22.v h28) ?_
    refine Zah rfl <| Zac <| Zae <| Zaa <| Zad rfl <| o_ne rfl rfl <| Zac ?_
    refine Zao rfl (fun h29 => ?_) (fun h29 => ?_)
    ·refine Zae <| Zaa <| Zad rfl <| Zah rfl <| Zac <| ZbQ ?_
     exact s_r1 4 (.int .i64 y27) ZhR ⟨rfl, rfl⟩
    ·refine Zar <| Zav <| Zaa <| ZbM rfl rfl <| Zad rfl <| Zac ?_
     exact Zag (by exact ⟨rfl, rfl, rfl, rfl, rfl, trivial⟩) (Zam (by exact .slnil) (ih10 (w64 (s8 + 1)) _ _ _ ⟨rfl, rfl, hle12⟩))
  ·refine Zbf rfl ?_
   exact Zag (by exact ⟨rfl, rfl, trivial⟩) (Zam (by exact .slnil) (J7 () _ _ _ ⟨rfl, rfl, hle12⟩))
def Zdg (k : Nat) (x0 : (List Int)) : Nat → Int → Option (LX (Int) (Unit))
 | 0, _ => none
 | q6 + 1, s5 =>
  if (decide (s5 < (x0.length : Int))) = true then
   (rd x0 s5).bind fun y12 =>
   if (y12 != 0) = true then
    some (.ret y12)
   else
    Zdg k x0 q6 (w64 (s5 + 1))
  else
   some (.out ())
def ZdD (k : Nat) (x0 : (List Int)) : Option Int :=
 (Zdg k x0 k 0).bind (LX.go fun p1 =>
 some 0)
theorem Zkr : Tryz.prog.funcs[100]? = some Tryz.f100 := by kernel_rfl
theorem ZgO (k : Nat) (H : Heap) (x0 : (List Int)) (a0_0 : Option Addr) (c0_0 : Nat) (hx0_0 : RSl H a0_0 c0_0 x0) {r : Int} (hr : ZdD k x0 = some r) :
  Fn Tryz.prog 100 [.slice a0_0 x0.length c0_0] H [] fun H' v out => v = .int .i64 r ∧ out = [] := by
 refine Zaq (args := [.slice a0_0 x0.length c0_0]) (n := 18) (Φ := fun r H' v out => v = .int .i64 r ∧ out = []) hr Zkr rfl rfl rfl fun w => ?_
 refine s_eq (by rw [ZdD]) ?_
 refine Zae <| Zaa <| Zah rfl <| Zac <| Zae <| Zaa <| Zah rfl <| Zac <| Zae <| Zae <| Zaa <| Zad rfl ?_
 refine ZaG rfl <| Zad rfl <| Zac ?_
 refine ZbR (fun p1 env own H' => env = [(3, .int .i64 0)] ∧ own = [] ∧ Hle H H') ?_ ?_
 ·rintro p1 _ _ H2 ⟨rfl, rfl, hle3⟩
  refine Zae <| Zaa <| Zad rfl <| Zah rfl <| Zac ?_
  exact s_r1 2 (.int .i64 0) Zkr ⟨rfl, rfl⟩
 ·intro J4
  refine Zat ?_
  refine Zag (env' := [(3, .int .i64 0), (6, .slice a0_0 x0.length c0_0), (7, .int .i64 (x0.length : Int)), (8, .int .i64 0)]) (by exact ⟨rfl, rfl, rfl, rfl, trivial⟩) ?_
  refine Zam (own' := []) .slnil ?_
  refine Za2 (fun q s5 => Zdg k x0 q s5) (fun s5 env own H' => env = [(3, .int .i64 0), (6, .slice a0_0 x0.length c0_0), (7, .int .i64 (x0.length : Int)), (8, .int .i64 s5)] ∧ own = [] ∧ Hle H H') (fun _ => rfl) ?_ k 0 ⟨rfl, rfl, .refl _⟩
  rintro q6 ih7 s5 _ _ H8 ⟨rfl, rfl, hle9⟩
  refine s_eq (by rw [Zdg]) ?_
  have hs10 := RSl.mono hle9 hx0_0
  refine Zae <| Zaa <| o_lt rfl rfl <| Zac <| Zae ?_
  refine Zao rfl (fun h11 => ?_) (fun h11 => ?_)
  ·refine Zar <| Zae <| Zat <| Zae <| Zaa ?_
   refine Zce hs10 rfl rfl fun y12 bk14 of15 h13 hc16 => ?_
   refine ZaP 0 hc16 rfl rfl rfl ?_
   refine Zah rfl <| Zac <| Zae <| Zaa <| Zad rfl <| Zad rfl <| o_ne rfl rfl <| Zac ?_
   refine Zao rfl (fun h17 => ?_) (fun h17 => ?_)
   ·refine Zae <| Zaa <| Zad rfl <| Zah rfl <| Zac <| ZbQ ?_
    exact s_r1 2 (.int .i64 y12) Zkr ⟨rfl, rfl⟩
   ·refine Zar <| Zav <| Zaa <| ZbM rfl rfl <| Zad rfl <| Zac ?_
    exact Zag (by exact ⟨rfl, rfl, rfl, rfl, trivial⟩) (Zam (by exact .slnil) (ih7 (w64 (s5 + 1)) _ _ _ ⟨rfl, rfl, hle9⟩))
  ·refine Zbf rfl ?_
   exact Zag (by exact ⟨rfl, trivial⟩) (Zam (by exact .slnil) (J4 () _ _ _ ⟨rfl, rfl, hle9⟩))
def ZdM (k : Nat) (x0 : Sent) (x1 : Sent) : Option Int :=
 (ZbN k x0.Port x1.Port).bind fun y14 =>
 (Za0 k ([(⟨x0.H.e0⟩ : B8), (⟨x0.H.e1⟩ : B8), (⟨x0.H.e2⟩ : B8)] : List B8) ([(⟨x1.H.e0⟩ : B8), (⟨x1.H.e1⟩ : B8), (⟨x1.H.e2⟩ : B8)] : List B8)).bind fun y19 =>
 (ZdD k ([y14, y19] : List Int)).bind fun y25 =>
 some y25
theorem ZnC : Tryz.prog.funcs[55]? = some Tryz.f55 := by kernel_rfl
theorem Zge (k : Nat) (H : Heap) (x0 : Sent) (x1 : Sent) {r : Int} (hr : ZdM k x0 x1 = some r) :
  Fn Tryz.prog 55 [(aS x0), (aS x1)] H [] fun H' v out => v = .int .i64 r ∧ out = [] := by
 refine Zaq (args := [(aS x0), (aS x1)]) (n := 17) (Φ := fun r H' v out => v = .int .i64 r ∧ out = []) hr ZnC rfl rfl rfl fun w => ?_
 refine s_eq (by rw [ZdM]) ?_
 refine Zae <| Zaa ?_
 refine ZbO rfl fun b1 => ?_
 refine ZbO rfl fun b3 => ?_
 refine Zah rfl <| Zac <| Zae ?_
 refine ZgS 0 (fun b => .inl (by simp [ids])) rfl fun H5 hle6 hb7 => ?_
 have hc8 := ZgG hb7
 refine ZgS 0 (fun b => .inl (by simp [ids])) rfl fun H9 hle10 hb11 => ?_
 have hc12 := ZgG hb11
 have hc13 := Zaj.mono hle10 hc8
 refine s_bg fun y14 h16 => ?_
 refine s_bg fun y19 h21 => ?_
 refine s_bg fun y25 h27 => ?_
 refine Za8 [(fun H v g => v = Value.pointer (some ⟨b1, 0, none⟩) ∧ g = [] ∧ Zaj H b1 0 (cS x0)),
   (fV (.int .i64 x0.Port)),
   (fun H v g => v = Value.pointer (some ⟨b3, 0, none⟩) ∧ g = [] ∧ Zaj H b3 0 (cS x1)),
   (fV (.int .i64 x1.Port)),
   (fV (.int .i64 y14)),
   (fun H v g => v = Value.pointer (some ⟨b1, 0 + 1, none⟩) ∧ g = [] ∧ Zaj H b1 0 (cS x0)),
   (fun H v g => v = Value.slice (some ⟨b1, 0 + 1, none⟩) ([(⟨x0.H.e0⟩ : B8), (⟨x0.H.e1⟩ : B8), (⟨x0.H.e2⟩ : B8)] : List B8).length 3 ∧ g = [] ∧ RSl H (some ⟨b1, 0 + 1, none⟩) 3 ([(⟨x0.H.e0⟩ : B8), (⟨x0.H.e1⟩ : B8), (⟨x0.H.e2⟩ : B8)] : List B8)),
   (fun H v g => v = Value.pointer (some ⟨b3, 0 + 1, none⟩) ∧ g = [] ∧ Zaj H b3 0 (cS x1)),
   (fun H v g => v = Value.slice (some ⟨b3, 0 + 1, none⟩) ([(⟨x1.H.e0⟩ : B8), (⟨x1.H.e1⟩ : B8), (⟨x1.H.e2⟩ : B8)] : List B8).length 3 ∧ g = [] ∧ RSl H (some ⟨b3, 0 + 1, none⟩) 3 ([(⟨x1.H.e0⟩ : B8), (⟨x1.H.e1⟩ : B8), (⟨x1.H.e2⟩ : B8)] : List B8)),
   (fV (.int .i64 y19)),
   (fun H v g => ∃ b32, v = Value.slice (some ⟨b32, 0, none⟩) ([y14, y19] : List Int).length 2 ∧ g = [] ∧ RSl H (some ⟨b32, 0, none⟩) 2 ([y14, y19] : List Int)),
   (fV (.int .i64 y25))] [[], [], [], [], [], [], [], [], [], [], [], []] mixed ⟨fun _ _ _ _ hle ⟨e1, e2, h0_⟩ => ⟨e1, e2, Zaj.mono hle h0_⟩, m0, fun _ _ _ _ hle ⟨e1, e2, h0_⟩ => ⟨e1, e2, Zaj.mono hle h0_⟩, m0, m0, fun _ _ _ _ hle ⟨e1, e2, h0_⟩ => ⟨e1, e2, Zaj.mono hle h0_⟩, fun _ _ _ _ hle ⟨e1, e2, h0_⟩ => ⟨e1, e2, RSl.mono hle h0_⟩, fun _ _ _ _ hle ⟨e1, e2, h0_⟩ => ⟨e1, e2, Zaj.mono hle h0_⟩, fun _ _ _ _ hle ⟨e1, e2, h0_⟩ => ⟨e1, e2, RSl.mono hle h0_⟩, m0, fun _ _ _ _ hle ⟨b32, e1, e2, h0_⟩ => ⟨_, e1, e2, RSl.mono hle h0_⟩, m0, trivial⟩ (by kernel_rfl) (by kernel_rfl) rfl (by kernel_rfl) rfl rfl ?_ ?_
 ·refine dc (fun _ _ _ _ hle48 _ _ => ?_) ?_
  ·have hc51 := Zaj.mono hle48 hc13
   refine Zag (env' := [(2, .pointer (some ⟨b1, 0, none⟩))]) (by exact ⟨rfl, trivial⟩) ?_
   refine o_fa rfl ?_
   exact Zai (.pointer (some ⟨b1, 0, none⟩)) ⟨rfl, rfl, hc51⟩
  refine dc (fun _ _ _ _ _ hd57 _ => ?_) ?_
  ·obtain ⟨hv59, hg60, hp61⟩ := hd57 0 (by decide)
   refine Zag (env' := [(5, .pointer (some ⟨b1, 0, none⟩))]) (by exact ⟨congrArg some hv59, trivial⟩) ?_
   refine ZaP 0 hp61 rfl rfl rfl ?_
   exact Zai (.int .i64 x0.Port) ⟨rfl, rfl⟩
  refine dc (fun _ _ _ _ hle66 _ _ => ?_) ?_
  ·have hc69 := Zaj.mono hle66 hc12
   refine Zag (env' := [(3, .pointer (some ⟨b3, 0, none⟩))]) (by exact ⟨rfl, trivial⟩) ?_
   refine o_fa rfl ?_
   exact Zai (.pointer (some ⟨b3, 0, none⟩)) ⟨rfl, rfl, hc69⟩
  refine dc (fun _ _ _ _ _ hd75 _ => ?_) ?_
  ·obtain ⟨hv77, hg78, hp79⟩ := hd75 2 (by decide)
   refine Zag (env' := [(7, .pointer (some ⟨b3, 0, none⟩))]) (by exact ⟨congrArg some hv77, trivial⟩) ?_
   refine ZaP 0 hp79 rfl rfl rfl ?_
   exact Zai (.int .i64 x1.Port) ⟨rfl, rfl⟩
  refine Za3 ?_ ?_
  ·intro _ _ H82 fr83 hle84 hd85
   obtain ⟨hv87, hg88⟩ := hd85 1 (by decide)
   obtain ⟨hv89, hg90⟩ := hd85 3 (by decide)
   refine ⟨_, (ZbN k x0.Port x1.Port).bind some, by rw [h16]; rfl, fun _ => ?_⟩
   refine Zag (env' := [(6, .int .i64 x0.Port), (8, .int .i64 x1.Port)]) (by exact ⟨congrArg some hv87, congrArg some hv89, trivial⟩) ?_
   refine s_bg fun y14 h91 => ?_
   refine Zas rfl rfl (Zdj k _ x0.Port x1.Port h91) ?_
   obtain rfl := Option.some.inj (h16.symm.trans h91)
   exact Zai (.int .i64 y14) ⟨rfl, rfl⟩
  refine dc (fun _ _ _ _ hle96 _ _ => ?_) ?_
  ·have hc99 := Zaj.mono hle96 hc13
   refine Zag (env' := [(2, .pointer (some ⟨b1, 0, none⟩))]) (by exact ⟨rfl, trivial⟩) ?_
   refine o_fa rfl ?_
   exact Zai (.pointer (some ⟨b1, 0 + 1, none⟩)) ⟨rfl, rfl, hc99⟩
  refine dc (fun _ _ _ _ _ hd105 _ => ?_) ?_
  ·obtain ⟨hv107, hg108, hp109⟩ := hd105 5 (by decide)
   refine Zag (env' := [(10, .pointer (some ⟨b1, 0 + 1, none⟩))]) (by exact ⟨congrArg some hv107, trivial⟩) ?_
   have hs110 := ZjN hp109 1 ([(⟨x0.H.e0⟩ : B8), (⟨x0.H.e1⟩ : B8), (⟨x0.H.e2⟩ : B8)] : List B8) 3 (Nat.le_refl _) (fun i hi => by match i, hi with | 0, _ => rfl | 1, _ => rfl | 2, _ => rfl) (Nat.le_of_ble_eq_true rfl)
   refine Zni rfl ?_
   exact Zai (.slice (some ⟨b1, 0 + 1, none⟩) ([(⟨x0.H.e0⟩ : B8), (⟨x0.H.e1⟩ : B8), (⟨x0.H.e2⟩ : B8)] : List B8).length 3) ⟨rfl, rfl, hs110⟩
  refine dc (fun _ _ _ _ hle115 _ _ => ?_) ?_
  ·have hc118 := Zaj.mono hle115 hc12
   refine Zag (env' := [(3, .pointer (some ⟨b3, 0, none⟩))]) (by exact ⟨rfl, trivial⟩) ?_
   refine o_fa rfl ?_
   exact Zai (.pointer (some ⟨b3, 0 + 1, none⟩)) ⟨rfl, rfl, hc118⟩
  refine dc (fun _ _ _ _ _ hd124 _ => ?_) ?_
  ·obtain ⟨hv126, hg127, hp128⟩ := hd124 7 (by decide)
   refine Zag (env' := [(12, .pointer (some ⟨b3, 0 + 1, none⟩))]) (by exact ⟨congrArg some hv126, trivial⟩) ?_
   have hs129 := ZjN hp128 1 ([(⟨x1.H.e0⟩ : B8), (⟨x1.H.e1⟩ : B8), (⟨x1.H.e2⟩ : B8)] : List B8) 3 (Nat.le_refl _) (fun i hi => by match i, hi with | 0, _ => rfl | 1, _ => rfl | 2, _ => rfl) (Nat.le_of_ble_eq_true rfl)
   refine Zni rfl ?_
   exact Zai (.slice (some ⟨b3, 0 + 1, none⟩) ([(⟨x1.H.e0⟩ : B8), (⟨x1.H.e1⟩ : B8), (⟨x1.H.e2⟩ : B8)] : List B8).length 3) ⟨rfl, rfl, hs129⟩
  refine Za3 ?_ ?_
  ·intro _ _ H132 fr133 hle134 hd135
   obtain ⟨hv137, hg138, hp139⟩ := hd135 6 (by decide)
   obtain ⟨hv140, hg141, hp142⟩ := hd135 8 (by decide)
   refine ⟨_, (Za0 k ([(⟨x0.H.e0⟩ : B8), (⟨x0.H.e1⟩ : B8), (⟨x0.H.e2⟩ : B8)] : List B8) ([(⟨x1.H.e0⟩ : B8), (⟨x1.H.e1⟩ : B8), (⟨x1.H.e2⟩ : B8)] : List B8)).bind some, by rw [h21]; rfl, fun _ => ?_⟩
   refine Zag (env' := [(11, .slice (some ⟨b1, 0 + 1, none⟩) ([(⟨x0.H.e0⟩ : B8), (⟨x0.H.e1⟩ : B8), (⟨x0.H.e2⟩ : B8)] : List B8).length 3), (13, .slice (some ⟨b3, 0 + 1, none⟩) ([(⟨x1.H.e0⟩ : B8), (⟨x1.H.e1⟩ : B8), (⟨x1.H.e2⟩ : B8)] : List B8).length 3)]) (by exact ⟨congrArg some hv137, congrArg some hv140, trivial⟩) ?_
   refine s_bg fun y19 h143 => ?_
   refine Zas rfl rfl (Zds k _ ([(⟨x0.H.e0⟩ : B8), (⟨x0.H.e1⟩ : B8), (⟨x0.H.e2⟩ : B8)] : List B8) _ _ hp139 ([(⟨x1.H.e0⟩ : B8), (⟨x1.H.e1⟩ : B8), (⟨x1.H.e2⟩ : B8)] : List B8) _ _ hp142 h143) ?_
   obtain rfl := Option.some.inj (h21.symm.trans h143)
   exact Zai (.int .i64 y19) ⟨rfl, rfl⟩
  refine Za3 ?_ ?_
  ·intro _ _ H146 fr147 hle148 hd149
   obtain ⟨hv151, hg152⟩ := hd149 4 (by decide)
   obtain ⟨hv153, hg154⟩ := hd149 9 (by decide)
   refine ⟨_, some (), rfl, fun _ => ?_⟩
   refine Zag (env' := [(9, .int .i64 y14), (14, .int .i64 y19)]) (by exact ⟨congrArg some hv151, congrArg some hv153, trivial⟩) ?_
   refine Zdw (xs := [.tmp 9, .tmp 14]) rfl rfl (by simp only [List.mem_cons, List.not_mem_nil, or_false, forall_eq_or_imp, forall_eq]; exact ⟨⟨rfl, rfl⟩, ⟨rfl, rfl⟩⟩) rfl rfl fun b155 => ?_
   have hA156 : All2 (GoT.rep H146) [[.int .i64 y14], [.int .i64 y19]] ([y14, y19] : List Int) := ZaZ (([y14, y19] : List Int))
   refine ZcP (own' := [.osl (.slice (some ⟨b155, 0, none⟩) ([y14, y19] : List Int).length 2) 1 3 [[.int .i64 y14], [.int .i64 y19]]] ++ fr147) (pm3 (a := []) (xs := [.osl (.slice (some ⟨b155, 0, none⟩) ([y14, y19] : List Int).length 2) 1 3 [[.int .i64 y14], [.int .i64 y19]]])) ?_
   refine Zg9 0 (fun b => .inl (by simp [ids])) rfl hA156 fun H158 hle159 hn160 hs161 => ?_
   exact ZbV fun _ _ _ hE hI => ⟨(.slice (some ⟨b155, 0, none⟩) ([y14, y19] : List Int).length 2), [], _, fun _ e => (by cases e; exact hE _ _ rfl), hle159, by exact hI, ⟨b155, rfl, rfl, hs161⟩⟩
  refine Za3 ?_ ?_
  ·intro _ _ H164 fr165 hle166 hd167
   obtain ⟨b169, hv170, hg171, hp172⟩ := hd167 10 (by decide)
   refine ⟨_, (ZdD k ([y14, y19] : List Int)).bind some, by rw [h27]; rfl, fun _ => ?_⟩
   refine Zag (env' := [(15, .slice (some ⟨b169, 0, none⟩) ([y14, y19] : List Int).length 2)]) (by exact ⟨congrArg some hv170, trivial⟩) ?_
   refine s_bg fun y25 h173 => ?_
   refine Zas rfl rfl (ZgO k _ ([y14, y19] : List Int) _ _ hp172 h173) ?_
   obtain rfl := Option.some.inj (h27.symm.trans h173)
   exact Zai (.int .i64 y25) ⟨rfl, rfl⟩
  exact dnil
 ·intro V176 G177 H174 hle175 hF178
  obtain ⟨hv181, hg182⟩ := hF178 11 (show 11 < 12 by decide)
  refine Zag (env' := [(16, .int .i64 y25), (0, (aS x0)), (1, (aS x1)), (2, .pointer (some ⟨b1, 0, none⟩)), (3, .pointer (some ⟨b3, 0, none⟩)), (4, .int .i64 0)]) (by exact ⟨congrArg some hv181, rfl, rfl, rfl, rfl, rfl, trivial⟩) ?_
  refine Zam (List.sublist_append_left _ _) ?_
  refine Zah rfl <| Zac ?_
  exact s_r1 4 (.int .i64 y25) ZnC ⟨rfl, rfl⟩
def ZaC (k : Nat) (x0 : (List Sent)) (x1 : (List Sent)) : Nat → Int → Option (LX (Bool) (Unit))
 | 0, _ => none
 | q7 + 1, s6 =>
  if (decide (s6 < (x0.length : Int))) = true then
   (rd x0 s6).bind fun y14 =>
   (rd x1 s6).bind fun y20 =>
   if (!(decide (y14 = y20))) = true then
    some (.ret false)
   else
    ZaC k x0 x1 q7 (w64 (s6 + 1))
  else
   some (.out ())
def Za1 (k : Nat) (x0 : (List Sent)) (x1 : (List Sent)) : Option Bool :=
 if ((x0.length : Int) != (x1.length : Int)) = true then
  some false
 else
  (ZaC k x0 x1 k 0).bind (LX.go fun p2 =>
  some true)
theorem Zll : Tryz.prog.funcs[59]? = some Tryz.f59 := by kernel_rfl
theorem Zc9 (k : Nat) (H : Heap) (x0 : (List Sent)) (a0_0 : Option Addr) (c0_0 : Nat) (hx0_0 : RSl H a0_0 c0_0 x0) (x1 : (List Sent)) (a1_0 : Option Addr) (c1_0 : Nat) (hx1_0 : RSl H a1_0 c1_0 x1) {r : Bool} (hr : Za1 k x0 x1 = some r) :
  Fn Tryz.prog 59 [.slice a0_0 x0.length c0_0, .slice a1_0 x1.length c1_0] H [] fun H' v out => v = .bool r ∧ out = [] := by
 refine Zaq (args := [.slice a0_0 x0.length c0_0, .slice a1_0 x1.length c1_0]) (n := 26) (Φ := fun r H' v out => v = .bool r ∧ out = []) hr Zll rfl rfl rfl fun w => ?_
 refine s_eq (by rw [Za1]) ?_
 refine Zae <| Zaa <| Zah rfl <| Zac <| Zae <| Zae <| Zaa <| Zad rfl <| ZaG rfl <| Zad rfl <| ZaG rfl <| o_ne rfl rfl ?_
 refine Zac ?_
 refine Zao rfl (fun h1 => ?_) (fun h1 => ?_)
 ·refine Zae <| Zaa <| Zah rfl <| Zac ?_
  exact s_r1 4 (.bool false) Zll ⟨rfl, rfl⟩
 ·refine Zar <| Zae <| Zae <| Zaa <| Zad rfl <| ZaG rfl <| Zad rfl <| Zac ?_
  refine ZbR (fun p2 env own H' => env = [] ∧ own = [] ∧ Hle H H') ?_ ?_
  ·rintro p2 _ _ H3 ⟨rfl, rfl, hle4⟩
   refine Zae <| Zaa <| Zah rfl <| Zac ?_
   exact s_r1 4 (.bool true) Zll ⟨rfl, rfl⟩
  ·intro J5
   refine Zat ?_
   refine Zag (env' := [(0, .slice a0_0 x0.length c0_0), (1, .slice a1_0 x1.length c1_0), (12, .int .i64 (x0.length : Int)), (13, .int .i64 0)]) (by exact ⟨rfl, rfl, rfl, rfl, trivial⟩) ?_
   refine Zam (own' := []) .slnil ?_
   refine Za2 (fun q s6 => ZaC k x0 x1 q s6) (fun s6 env own H' => env = [(0, .slice a0_0 x0.length c0_0), (1, .slice a1_0 x1.length c1_0), (12, .int .i64 (x0.length : Int)), (13, .int .i64 s6)] ∧ own = [] ∧ Hle H H') (fun _ => rfl) ?_ k 0 ⟨rfl, rfl, .refl _⟩
   rintro q7 ih8 s6 _ _ H9 ⟨rfl, rfl, hle10⟩
   refine s_eq (by rw [ZaC]) ?_
   have hs11 := RSl.mono hle10 hx0_0
   have hs12 := RSl.mono hle10 hx1_0
   refine Zae <| Zaa <| o_lt rfl rfl <| Zac <| Zae ?_
   refine Zao rfl (fun h13 => ?_) (fun h13 => ?_)
   ·refine Zar <| Zae <| Zat <| Zae <| Zaa <| Zad rfl <| Zah rfl <| Zac <| Zae ?_
    refine s_bg fun y14 h19 => ?_
    refine s_bg fun y20 h25 => ?_
    refine Za8 [(fun H v g => v = Value.slice a0_0 x0.length c0_0 ∧ g = [] ∧ RSl H a0_0 c0_0 x0),
   (fV (.int .i64 s6)),
   (fun H v g => ∃ bk27 of28, v = Value.pointer (some ⟨bk27, of28, none⟩) ∧ g = [] ∧ Zaj H bk27 of28 (cS y14)),
   (fV ((aS y14))),
   (fun H v g => v = Value.slice a1_0 x1.length c1_0 ∧ g = [] ∧ RSl H a1_0 c1_0 x1),
   (fV (.int .i64 s6)),
   (fun H v g => ∃ bk31 of32, v = Value.pointer (some ⟨bk31, of32, none⟩) ∧ g = [] ∧ Zaj H bk31 of32 (cS y20)),
   (fV ((aS y20))),
   (fV (.bool (!(decide (y14 = y20)))))] [[], [], [], [], [], [], [], [], []] mixed ⟨fun _ _ _ _ hle ⟨e1, e2, h0_⟩ => ⟨e1, e2, RSl.mono hle h0_⟩, m0, fun _ _ _ _ hle ⟨bk27, of28, e1, e2, h0_⟩ => ⟨_, _, e1, e2, Zaj.mono hle h0_⟩, m0, fun _ _ _ _ hle ⟨e1, e2, h0_⟩ => ⟨e1, e2, RSl.mono hle h0_⟩, m0, fun _ _ _ _ hle ⟨bk31, of32, e1, e2, h0_⟩ => ⟨_, _, e1, e2, Zaj.mono hle h0_⟩, m0, m0, trivial⟩ (by kernel_rfl) (by kernel_rfl) rfl (by kernel_rfl) rfl rfl ?_ ?_
    ·refine dc (fun _ _ _ _ hle38 _ _ => ?_) ?_
     ·have hs41 := RSl.mono hle38 hs11
      refine Zag (env' := [(0, .slice a0_0 x0.length c0_0)]) (by exact ⟨rfl, trivial⟩) ?_
      refine Zad rfl ?_
      exact Zai (.slice a0_0 x0.length c0_0) ⟨rfl, rfl, hs41⟩
     refine dc (fun _ _ _ _ _ _ _ => ?_) ?_
     ·refine Zag (env' := [(5, .int .i64 s6)]) (by exact ⟨rfl, trivial⟩) ?_
      refine Zad rfl ?_
      exact Zai (.int .i64 s6) ⟨rfl, rfl⟩
     refine Za3 ?_ ?_
     ·intro _ _ H51 fr52 hle53 hd54
      obtain ⟨hv56, hg57, hp58⟩ := hd54 0 (by decide)
      obtain ⟨hv59, hg60⟩ := hd54 1 (by decide)
      refine ⟨_, (rd x0 s6).bind some, by rw [h19]; rfl, fun _ => ?_⟩
      refine Zag (env' := [(16, .slice a0_0 x0.length c0_0), (17, .int .i64 s6)]) (by exact ⟨congrArg some hv56, congrArg some hv59, trivial⟩) ?_
      refine Zce hp58 rfl rfl fun y14 bk62 of63 h61 hc64 => ?_
      obtain rfl := Option.some.inj (h19.symm.trans h61)
      exact Zai (.pointer (some ⟨bk62, of63, none⟩)) ⟨bk62, of63, rfl, rfl, hc64⟩
     refine dc (fun _ _ _ _ _ hd70 _ => ?_) ?_
     ·obtain ⟨bk72, of73, hv74, hg75, hp76⟩ := hd70 2 (by decide)
      refine Zag (env' := [(18, .pointer (some ⟨bk72, of73, none⟩))]) (by exact ⟨congrArg some hv74, trivial⟩) ?_
      refine ZaP 0 hp76 rfl rfl rfl ?_
      exact Zai ((aS y14)) ⟨rfl, rfl⟩
     refine dc (fun _ _ _ _ hle81 _ _ => ?_) ?_
     ·have hs84 := RSl.mono hle81 hs12
      refine Zag (env' := [(1, .slice a1_0 x1.length c1_0)]) (by exact ⟨rfl, trivial⟩) ?_
      refine Zad rfl ?_
      exact Zai (.slice a1_0 x1.length c1_0) ⟨rfl, rfl, hs84⟩
     refine dc (fun _ _ _ _ _ _ _ => ?_) ?_
     ·refine Zag (env' := [(5, .int .i64 s6)]) (by exact ⟨rfl, trivial⟩) ?_
      refine Zad rfl ?_
      exact Zai (.int .i64 s6) ⟨rfl, rfl⟩
     refine Za3 ?_ ?_
     ·intro _ _ H94 fr95 hle96 hd97
      obtain ⟨hv99, hg100, hp101⟩ := hd97 4 (by decide)
      obtain ⟨hv102, hg103⟩ := hd97 5 (by decide)
      refine ⟨_, (rd x1 s6).bind some, by rw [h25]; rfl, fun _ => ?_⟩
      refine Zag (env' := [(20, .slice a1_0 x1.length c1_0), (21, .int .i64 s6)]) (by exact ⟨congrArg some hv99, congrArg some hv102, trivial⟩) ?_
      refine Zce hp101 rfl rfl fun y20 bk105 of106 h104 hc107 => ?_
      obtain rfl := Option.some.inj (h25.symm.trans h104)
      exact Zai (.pointer (some ⟨bk105, of106, none⟩)) ⟨bk105, of106, rfl, rfl, hc107⟩
     refine dc (fun _ _ _ _ _ hd113 _ => ?_) ?_
     ·obtain ⟨bk115, of116, hv117, hg118, hp119⟩ := hd113 6 (by decide)
      refine Zag (env' := [(22, .pointer (some ⟨bk115, of116, none⟩))]) (by exact ⟨congrArg some hv117, trivial⟩) ?_
      refine ZaP 0 hp119 rfl rfl rfl ?_
      exact Zai ((aS y20)) ⟨rfl, rfl⟩
     refine dc2 3 7 (fun _ _ _ _ _ _ => ?_) ?_
     ·refine Znl y14 y20 rfl rfl ?_
      exact Zai (.bool (!(decide (y14 = y20)))) ⟨rfl, rfl⟩
     exact dnil
    ·intro V133 G134 H131 hle132 hF135
     obtain ⟨hv138, hg139⟩ := hF135 8 (show 8 < 9 by decide)
     refine Zag (env' := [(24, .bool (!(decide (y14 = y20)))), (0, .slice a0_0 x0.length c0_0), (1, .slice a1_0 x1.length c1_0), (12, .int .i64 (x0.length : Int)), (13, .int .i64 s6), (14, .bool (decide (s6 < (x0.length : Int)))), (15, .int .i64 s6), (5, .int .i64 s6)]) (by exact ⟨congrArg some hv138, rfl, rfl, rfl, rfl, rfl, rfl, rfl, trivial⟩) ?_
     refine Zam (List.sublist_append_left _ _) ?_
     refine Zac ?_
     refine Zao rfl (fun h140 => ?_) (fun h140 => ?_)
     ·refine Zae <| Zaa <| Zah rfl <| Zac <| ZbQ ?_
      exact s_r1 4 (.bool false) Zll ⟨rfl, rfl⟩
     ·refine Zar <| Zav <| Zaa <| ZbM rfl rfl <| Zad rfl <| Zac ?_
      exact Zag (by exact ⟨rfl, rfl, rfl, rfl, trivial⟩) (Zam (by exact .slnil) (ih8 (w64 (s6 + 1)) _ _ _ ⟨rfl, rfl, (Hle.trans hle10 hle132)⟩))
   ·refine Zbf rfl ?_
    exact Zag (by exact trivial) (Zam (by exact .slnil) (J5 () _ _ _ ⟨rfl, rfl, hle10⟩))
end Go.Cat.G3

