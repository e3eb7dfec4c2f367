/- A text of the proof of the seat's laws: a step logic over the machine, or pure functions that the Go functions come to. No condition. -/
import Derived.Test.YtmmpieknnnlnhaaGreatCore1
import Derived.Test.YtmmpieknnnlnhaaGreatJ12
namespace Go.Cat.G3
open Go Go.Cat Go.Proofs
set_option maxRecDepth 100000
set_option maxHeartbeats 4000000
set_option linter.unusedVariables false
set_option linter.unusedSimpArgs false
structure Version where
 Ver : Int
 Nodes : (List Node)
instance iZ3x1 : GoT Version := {
 sz := 2
 rep := fun H vs x => ∃ a0 c0, vs = [.int .i64 x.Ver, .slice a0 x.Nodes.length c0] ∧ RSl H a0 c0 x.Nodes
 mono := fun h ⟨a0, c0, e, h0⟩ => ⟨a0, c0, e, h0.mono h⟩
 len := fun ⟨_, _, e, _⟩ => by rw [e]; rfl
 one := fun ⟨_, _, e, _⟩ => by rw [e]; rfl }
structure Event where
 Switch : Int
 Port : Int
 Ver : Int
 Id : Int
 H : Arr3u8
 Sent : (List Sent)
abbrev aE (x : Event) (a : Option Addr) (c : Nat) : Value := .agg #[.int .i64 x.Switch, .int .i64 x.Port, .int .i64 x.Ver, .int .i64 x.Id, .int .u8 x.H.e0, .int .u8 x.H.e1, .int .u8 x.H.e2, .slice a x.Sent.length c]
abbrev cE (x : Event) (a : Option Addr) (c : Nat) : List Value := [.int .i64 x.Switch, .int .i64 x.Port, .int .i64 x.Ver, .int .i64 x.Id, .int .u8 x.H.e0, .int .u8 x.H.e1, .int .u8 x.H.e2, .slice a x.Sent.length c]
instance iZ3x2 : GoT Event := {
 sz := 8
 rep := fun H vs x => ∃ a0 c0, vs = [.int .i64 x.Switch, .int .i64 x.Port, .int .i64 x.Ver, .int .i64 x.Id, .int .u8 x.H.e0, .int .u8 x.H.e1, .int .u8 x.H.e2, .slice a0 x.Sent.length c0] ∧ RSl H a0 c0 x.Sent
 mono := fun h ⟨a0, c0, e, h0⟩ => ⟨a0, c0, e, h0.mono h⟩
 len := fun ⟨_, _, e, _⟩ => by rw [e]; rfl
 one := fun ⟨_, _, e, _⟩ => by rw [e]; rfl }
structure Judge_seen where
 Event : Event
 depth : Int
instance iZ3x3 : GoT Judge_seen := {
 sz := 9
 rep := fun H vs x => ∃ a0 c0, vs = [.int .i64 x.Event.Switch, .int .i64 x.Event.Port, .int .i64 x.Event.Ver, .int .i64 x.Event.Id, .int .u8 x.Event.H.e0, .int .u8 x.Event.H.e1, .int .u8 x.Event.H.e2, .slice a0 x.Event.Sent.length c0, .int .i64 x.depth] ∧ RSl H a0 c0 x.Event.Sent
 mono := fun h ⟨a0, c0, e, h0⟩ => ⟨a0, c0, e, h0.mono h⟩
 len := fun ⟨_, _, e, _⟩ => by rw [e]; rfl
 one := fun ⟨_, _, e, _⟩ => by rw [e]; rfl }
structure Judge_look where
 g : Graph
 versions : (List Version)
 ids : (Option (List (Int × (List Judge_seen))))
instance iZ3x4 : TUnd Tryz.prog 3 (.int .i64) := ⟨by kernel_rfl⟩
instance iZ3x5 : TUnd Tryz.prog 138 (.int .u64) := ⟨by kernel_rfl⟩
instance iZ3x6 : TLay Tryz.prog 25 1 false := ⟨fun _ => by kernel_rfl, fun _ => by kernel_rfl, fun h => by first | rfl | cases h⟩
instance iZ3x7 : TLay Tryz.prog 27 1 false := ⟨fun _ => by kernel_rfl, fun _ => by kernel_rfl, fun h => by first | rfl | cases h⟩
instance iZ3x8 : TLay Tryz.prog 29 2 true := ⟨fun _ => by kernel_rfl, fun _ => by kernel_rfl, fun h => by first | rfl | cases h⟩
instance iZ3x9 : TLay Tryz.prog 42 1 false := ⟨fun _ => by kernel_rfl, fun _ => by kernel_rfl, fun h => by first | rfl | cases h⟩
instance iZ3x10 : TLay Tryz.prog 69 1 false := ⟨fun _ => by kernel_rfl, fun _ => by kernel_rfl, fun h => by first | rfl | cases h⟩
instance iZ3x11 : TLay Tryz.prog 144 9 true := ⟨fun _ => by kernel_rfl, fun _ => by kernel_rfl, fun h => by first | rfl | cases h⟩
instance iZ3x12 : TFld Tryz.prog 29 0 0 1 false := ⟨⟨_, _, Tryz.underlying29, rfl, rfl, fun _ => by kernel_rfl, fun _ => by kernel_rfl, by decide, fun h => by first | rfl | cases h⟩⟩
instance iZ3x13 : TFld Tryz.prog 29 1 1 1 false := ⟨⟨_, _, Tryz.underlying29, rfl, rfl, fun _ => by kernel_rfl, fun _ => by kernel_rfl, by decide, fun h => by first | rfl | cases h⟩⟩
instance iZ3x14 : TFld Tryz.prog 44 0 0 1 false := ⟨⟨_, _, Tryz.underlying44, rfl, rfl, fun _ => by kernel_rfl, fun _ => by kernel_rfl, by decide, fun h => by first | rfl | cases h⟩⟩
instance iZ3x15 : TFld Tryz.prog 44 1 1 1 false := ⟨⟨_, _, Tryz.underlying44, rfl, rfl, fun _ => by kernel_rfl, fun _ => by kernel_rfl, by decide, fun h => by first | rfl | cases h⟩⟩
instance iZ3x16 : TFld Tryz.prog 44 2 2 1 false := ⟨⟨_, _, Tryz.underlying44, rfl, rfl, fun _ => by kernel_rfl, fun _ => by kernel_rfl, by decide, fun h => by first | rfl | cases h⟩⟩
instance iZ3x17 : TFld Tryz.prog 44 3 3 1 false := ⟨⟨_, _, Tryz.underlying44, rfl, rfl, fun _ => by kernel_rfl, fun _ => by kernel_rfl, by decide, fun h => by first | rfl | cases h⟩⟩
instance iZ3x18 : TFld Tryz.prog 44 4 4 3 true := ⟨⟨_, _, Tryz.underlying44, rfl, rfl, fun _ => by kernel_rfl, fun _ => by kernel_rfl, by decide, fun h => by first | rfl | cases h⟩⟩
instance iZ3x19 : TFld Tryz.prog 44 5 7 1 false := ⟨⟨_, _, Tryz.underlying44, rfl, rfl, fun _ => by kernel_rfl, fun _ => by kernel_rfl, by decide, fun h => by first | rfl | cases h⟩⟩
instance iZ3x20 : TFld Tryz.prog 71 0 0 2 true := ⟨⟨_, _, Tryz.underlying71, rfl, rfl, fun _ => by kernel_rfl, fun _ => by kernel_rfl, by decide, fun h => by first | rfl | cases h⟩⟩
instance iZ3x21 : TFld Tryz.prog 71 1 2 1 false := ⟨⟨_, _, Tryz.underlying71, rfl, rfl, fun _ => by kernel_rfl, fun _ => by kernel_rfl, by decide, fun h => by first | rfl | cases h⟩⟩
instance iZ3x22 : TFld Tryz.prog 71 2 3 1 false := ⟨⟨_, _, Tryz.underlying71, rfl, rfl, fun _ => by kernel_rfl, fun _ => by kernel_rfl, by decide, fun h => by first | rfl | cases h⟩⟩
instance iZ3x23 : TFld Tryz.prog 144 0 0 8 true := ⟨⟨_, _, Tryz.underlying144, rfl, rfl, fun _ => by kernel_rfl, fun _ => by kernel_rfl, by decide, fun h => by first | rfl | cases h⟩⟩
instance iZ3x24 : TFld Tryz.prog 144 1 8 1 false := ⟨⟨_, _, Tryz.underlying144, rfl, rfl, fun _ => by kernel_rfl, fun _ => by kernel_rfl, by decide, fun h => by first | rfl | cases h⟩⟩
instance iZ3x25 : TZero Tryz.prog 3 (.int .i64 0) := ⟨fun _ => by kernel_rfl⟩
instance iZ3x26 : TZero Tryz.prog 29 (.agg #[.int .i64 0, .slice none 0 0]) := ⟨fun _ => by kernel_rfl⟩
instance iZ3x27 : TZero Tryz.prog 144 (.agg #[.int .i64 0, .int .i64 0, .int .i64 0, .int .i64 0, .int .u8 0, .int .u8 0, .int .u8 0, .slice none 0 0, .int .i64 0]) := ⟨fun _ => by kernel_rfl⟩
instance iZ3x28 : TZero Tryz.prog 147 (.slice none 0 0) := ⟨fun _ => by kernel_rfl⟩
instance iZ3x29 : TSl Tryz.prog 25 29 2 32 := ⟨by kernel_rfl, fun _ => by kernel_rfl, ⟨Tryz.t29, by kernel_rfl, by kernel_rfl⟩, by decide, by decide, ⟨.agg #[.int .i64 0, .slice none 0 0], fun _ => by kernel_rfl, rfl, rfl⟩⟩
instance iZ3x30 : TSl Tryz.prog 26 44 8 64 := ⟨by kernel_rfl, fun _ => by kernel_rfl, ⟨Tryz.t44, by kernel_rfl, by kernel_rfl⟩, by decide, by decide, ⟨.agg #[.int .i64 0, .int .i64 0, .int .i64 0, .int .i64 0, .int .u8 0, .int .u8 0, .int .u8 0, .slice none 0 0], fun _ => by kernel_rfl, rfl, rfl⟩⟩
instance iZ3x31 : TSl Tryz.prog 147 144 9 72 := ⟨by kernel_rfl, fun _ => by kernel_rfl, ⟨Tryz.t144, by kernel_rfl, by kernel_rfl⟩, by decide, by decide, ⟨.agg #[.int .i64 0, .int .i64 0, .int .i64 0, .int .i64 0, .int .u8 0, .int .u8 0, .int .u8 0, .slice none 0 0, .int .i64 0], fun _ => by kernel_rfl, rfl, rfl⟩⟩
instance iZ3x32 : TBld Tryz.prog 47 [.int .i64 0, .int .u8 0, .int .u8 0, .int .u8 0] [(0, 1), (1, 3)] := ⟨fun _ => by kernel_rfl, ⟨_, Tryz.underlying47, fun _ => by kernel_rfl⟩⟩
instance iZ3x33 : TFun Tryz.prog 43 := ⟨_, (by kernel_rfl : Tryz.prog.funcs[43]? = some Tryz.f43), by decide, rfl⟩
instance iZ3x34 : TFun Tryz.prog 63 := ⟨_, (by kernel_rfl : Tryz.prog.funcs[63]? = some Tryz.f63), by decide, rfl⟩
instance iZ3x35 : TFun Tryz.prog 64 := ⟨_, (by kernel_rfl : Tryz.prog.funcs[64]? = some Tryz.f64), by decide, rfl⟩
instance iZ3x36 : TFun Tryz.prog 71 := ⟨_, (by kernel_rfl : Tryz.prog.funcs[71]? = some Tryz.f71), by decide, rfl⟩
instance iZ3x37 : TFun Tryz.prog 111 := ⟨_, (by kernel_rfl : Tryz.prog.funcs[111]? = some Tryz.f111), by decide, rfl⟩
instance iZ3x38 : TFun Tryz.prog 123 := ⟨_, (by kernel_rfl : Tryz.prog.funcs[123]? = some Tryz.f123), by decide, rfl⟩
instance iZ3x39 : TFun Tryz.prog 124 := ⟨_, (by kernel_rfl : Tryz.prog.funcs[124]? = some Tryz.f124), by decide, rfl⟩
instance iZ3x40 : TFun Tryz.prog 125 := ⟨_, (by kernel_rfl : Tryz.prog.funcs[125]? = some Tryz.f125), by decide, rfl⟩
instance iZ3x41 : TFun Tryz.prog 126 := ⟨_, (by kernel_rfl : Tryz.prog.funcs[126]? = some Tryz.f126), by decide, rfl⟩
instance iZ3x42 : TFun Tryz.prog 127 := ⟨_, (by kernel_rfl : Tryz.prog.funcs[127]? = some Tryz.f127), by decide, rfl⟩
instance iZ3x43 : TFun Tryz.prog 128 := ⟨_, (by kernel_rfl : Tryz.prog.funcs[128]? = some Tryz.f128), by decide, rfl⟩
instance iZ3x44 : TFun Tryz.prog 161 := ⟨_, (by kernel_rfl : Tryz.prog.funcs[161]? = some Tryz.f161), by decide, rfl⟩
instance iZ3x45 : TFun Tryz.prog 167 := ⟨_, (by kernel_rfl : Tryz.prog.funcs[167]? = some Tryz.f167), by decide, rfl⟩
instance iZ3x46 : TMap Tryz.prog 69 3 147 := ⟨by kernel_rfl⟩
instance iZ3x47 : TMap Tryz.prog 134 3 3 := ⟨by kernel_rfl⟩
instance iZ3x48 : TKey Tryz.prog 3 false Int := ZkI Tryz.underlying3
def ZaX (k : Nat) (x0 : Int) (x1 : Int) (x2 : Int) : Option Bool :=
 if (decide (x1 ≤ x0)) = true then
  some (decide (x0 ≤ x2))
 else
  some false
theorem ZmU : Tryz.prog.funcs[64]? = some Tryz.f64 := by kernel_rfl
theorem Zbe (k : Nat) (H : Heap) (x0 : Int) (x1 : Int) (x2 : Int) {r : Bool} (hr : ZaX k x0 x1 x2 = some r) :
  Fn Tryz.prog 64 [.int .i64 x0, .int .i64 x1, .int .i64 x2] H [] fun H' v out => v = .bool r ∧ out = [] := by
 refine Zaq (args := [.int .i64 x0, .int .i64 x1, .int .i64 x2]) (n := 15) (Φ := fun r H' v out => v = .bool r ∧ out = []) hr ZmU rfl rfl rfl fun w => ?_
 refine s_eq (by rw [ZaX]) ?_
 refine Zae <| Zaa <| Zah rfl <| Zac <| Zae <| Zaa <| Zad rfl <| Zad rfl <| o_le rfl rfl <| Zad rfl ?_
 refine Zax (decide (x1 ≤ x0)) (fun h1 => ?_) (fun h1 => ?_)
 ·refine Zaf rfl rfl h1 <| Zad rfl <| Zaf rfl rfl h1 <| Zad rfl <| Zaf rfl rfl h1 <| o_le rfl rfl <| Zan rfl h1 rfl <| Zah rfl <| Zac ?_
  exact s_r1 6 (.bool (decide (x0 ≤ x2))) ZmU ⟨rfl, rfl⟩
 ·refine Zab rfl rfl h1 <| Zab rfl rfl h1 <| Zab rfl rfl h1 <| Zal rfl h1 rfl <| Zah rfl <| Zac ?_
  exact s_r1 6 (.bool false) ZmU ⟨rfl, rfl⟩
def Zcv (k : Nat) (x0 : Version) (x1 : Int) : Option Int :=
 (ZbN k x0.Ver x1).bind fun y3 =>
 some y3
theorem Zl3 : Tryz.prog.funcs[126]? = some Tryz.f126 := by kernel_rfl
theorem ZdT (k : Nat) (H : Heap) (x0 : Version) (a0_0 : Option Addr) (c0_0 : Nat) (hx0_0 : RSl H a0_0 c0_0 x0.Nodes) (x1 : Int) {r : Int} (hr : Zcv k x0 x1 = some r) :
  Fn Tryz.prog 126 [.agg #[.int .i64 x0.Ver, .slice a0_0 x0.Nodes.length c0_0], .int .i64 x1] H [] fun H' v out => v = .int .i64 r ∧ out = [] := by
 refine Zaq (args := [.agg #[.int .i64 x0.Ver, .slice a0_0 x0.Nodes.length c0_0], .int .i64 x1]) (n := 9) (Φ := fun r H' v out => v = .int .i64 r ∧ out = []) hr Zl3 rfl rfl rfl fun w => ?_
 refine s_eq (by rw [Zcv]) ?_
 refine Zae <| Zaa ?_
 refine ZbO rfl fun b1 => ?_
 refine Zah rfl <| Zac <| Zae <| Zaa <| o_fa rfl <| o_ld 0 rfl rfl rfl <| Zad rfl ?_
 refine s_bg fun y3 h4 => ?_
 refine Zas rfl rfl (Zdj k _ x0.Ver x1 h4) ?_
 refine Zah rfl <| Zac ?_
 exact s_r1 4 (.int .i64 y3) Zl3 ⟨rfl, rfl⟩
def Zap (k : Nat) (x0 : (List Version)) (x1 : Int) : Nat → (Int × Int) → Option (Int)
 | 0, _ => none
 | q20 + 1, s19 =>
  if (decide (s19.1 < s19.2)) = true then
   (gshr .u64 (IntKind.u64.wrap (w64 (s19.1 + s19.2))) 1).bind fun y26 =>
   (rd x0 (IntKind.i64.wrap y26)).bind fun y28 =>
   (Zcv k y28 x1).bind fun y38 =>
   if (decide (y38 < 0)) = true then
    Zap k x0 x1 q20 (w64 ((IntKind.i64.wrap y26) + 1), s19.2)
   else
    Zap k x0 x1 q20 (s19.1, IntKind.i64.wrap y26)
  else
   some s19.1
def ZaB (k : Nat) (x0 : (List Version)) (x1 : Int) : Option (Int × Bool) :=
 (Zap k x0 x1 k (0, (x0.length : Int))).bind fun p1 =>
 if (decide (p1 < (x0.length : Int))) = true then
  (rd x0 p1).bind fun y6 =>
  (Zcv k y6 x1).bind fun y16 =>
  some (p1, y16 == 0)
 else
  some (p1, false)
theorem Zkq : Tryz.prog.funcs[125]? = some Tryz.f125 := by kernel_rfl
theorem ZbP (k : Nat) (H : Heap) (x0 : (List Version)) (a0_0 : Option Addr) (c0_0 : Nat) (hx0_0 : RSl H a0_0 c0_0 x0) (x1 : Int) {r : Int × Bool} (hr : ZaB k x0 x1 = some r) :
  Fn Tryz.prog 125 [.slice a0_0 x0.length c0_0, .int .i64 x1, .func (.func 126) #[] #[]] H [] fun H' v out => v = .tuple #[.int .i64 r.1, .bool r.2] ∧ out = [] := by
 refine Zaq (args := [.slice a0_0 x0.length c0_0, .int .i64 x1, .func (.func 126) #[] #[]]) (n := 49) (Φ := fun r H' v out => v = .tuple #[.int .i64 r.1, .bool r.2] ∧ out = []) hr Zkq rfl rfl rfl fun w => ?_
 refine s_eq (by rw [ZaB]) ?_
 refine Zae <| Zaa <| Zah rfl <| Zah rfl <| Zac <| Zae <| Zaa <| Zad rfl <| ZaG rfl <| Zah rfl <| Zac <| Zae ?_
 refine Zaa <| Zad rfl <| Zah rfl <| Zah rfl <| Zac <| Zae ?_
 refine Zb3 (fun p1 env own H' => env = [(0, .slice a0_0 x0.length c0_0), (1, .int .i64 x1), (2, .func (.func 126) #[] #[]), (8, .int .i64 (x0.length : Int)), (9, .int .i64 p1)] ∧ own = [] ∧ Hle H H') ?_ ?_
 ·rintro p1 _ _ H2 ⟨rfl, rfl, hle3⟩
  have hs4 := RSl.mono hle3 hx0_0
  refine Zae <| Zaa <| Zad rfl <| Zad rfl <| Zad rfl <| o_lt rfl rfl <| Zad rfl ?_
  refine Zax (decide (p1 < (x0.length : Int))) (fun h5 => ?_) (fun h5 => ?_)
  ·refine Zaf rfl rfl h5 <| Zad rfl <| Zaf rfl rfl h5 <| Zad rfl <| Zaf rfl rfl h5 <| Zad rfl <| Zaf rfl rfl h5 ?_
   refine o_ix hs4 rfl rfl fun y6 bk8 of9 vs11 h7 hc10 hr12 => ?_
   obtain ⟨a13, c14, rfl, hs15⟩ := hr12
   refine Zaf rfl rfl h5 ?_
   refine ZaP 0 hc10 rfl rfl rfl ?_
   refine Zaf rfl rfl h5 <| Zad rfl <| Zaf rfl rfl h5 ?_
   refine s_bg fun y16 h17 => ?_
   refine Zas rfl rfl (ZdT k _ y6 _ _ hs15 x1 h17) ?_
   refine Zaf rfl rfl h5 <| o_eq rfl rfl <| Zan rfl h5 rfl <| Zah rfl <| Zah rfl <| Zac ?_
   exact ZaF (xs := [.tmp 6, .tmp 7]) (vs := [.int .i64 p1, .bool (y16 == 0)]) [] Zkq rfl ⟨Zaz rfl, Zaz rfl, trivial⟩ .slnil ⟨rfl, rfl⟩
  ·refine Zab rfl rfl h5 <| Zab rfl rfl h5 <| Zab rfl rfl h5 <| Zab rfl rfl h5 <| Zab rfl rfl h5 <| Zab rfl rfl h5 <| Zab rfl rfl h5 <| Zab rfl rfl h5 <| Zal rfl h5 rfl <| Zah rfl <| Zah rfl <| Zac ?_
   exact ZaF (xs := [.tmp 6, .tmp 7]) (vs := [.int .i64 p1, .bool false]) [] Zkq rfl ⟨Zaz rfl, Zaz rfl, trivial⟩ .slnil ⟨rfl, rfl⟩
 ·intro J18
  refine Zat ?_
  refine Zag (env' := [(0, .slice a0_0 x0.length c0_0), (1, .int .i64 x1), (2, .func (.func 126) #[] #[]), (8, .int .i64 (x0.length : Int)), (9, .int .i64 0), (10, .int .i64 (x0.length : Int))]) (by exact ⟨rfl, rfl, rfl, rfl, rfl, rfl, trivial⟩) ?_
  refine Zam (own' := []) .slnil ?_
  refine Za2 (fun q s19 => Zap k x0 x1 q s19) (fun s19 env own H' => env = [(0, .slice a0_0 x0.length c0_0), (1, .int .i64 x1), (2, .func (.func 126) #[] #[]), (8, .int .i64 (x0.length : Int)), (9, .int .i64 s19.1), (10, .int .i64 s19.2)] ∧ own = [] ∧ Hle H H') (fun _ => rfl) ?_ k (0, (x0.length : Int)) ⟨rfl, rfl, .refl _⟩
  rintro q20 ih21 s19 _ _ H22 ⟨rfl, rfl, hle23⟩
  refine s_eq (by rw [Zap]) ?_
  have hs24 := RSl.mono hle23 hx0_0
  refine Zae <| Zae <| Zaa <| Zad rfl <| Zad rfl <| o_lt rfl rfl <| Zac ?_
  refine Zao rfl (fun h25 => ?_) (fun h25 => ?_)
  ·refine Zar <| Zat <| Zae <| Zaa <| Zad rfl <| Zad rfl <| ZbM rfl rfl ?_
   refine Zjd rfl ?_
   refine Znj rfl rfl fun y26 h27 => ?_
   refine Zjd rfl ?_
   refine Zah rfl <| Zac <| Zae <| Zaa <| Zad rfl <| Zad rfl <| Zad rfl ?_
   refine o_ix hs24 rfl rfl fun y28 bk30 of31 vs33 h29 hc32 hr34 => ?_
   obtain ⟨a35, c36, rfl, hs37⟩ := hr34
   refine ZaP 0 hc32 rfl rfl rfl ?_
   refine Zad rfl ?_
   refine s_bg fun y38 h39 => ?_
   refine Zas rfl rfl (ZdT k _ y28 _ _ hs37 x1 h39) ?_
   refine o_lt rfl rfl <| Zac ?_
   refine Zao rfl (fun h40 => ?_) (fun h40 => ?_)
   ·refine Zaa <| Zad rfl <| ZbM rfl rfl <| Zah rfl <| Zac <| Zav ?_
    exact Zag (by exact ⟨rfl, rfl, rfl, rfl, rfl, rfl, trivial⟩) (Zam (by exact .slnil) (ih21 (w64 ((IntKind.i64.wrap y26) + 1), s19.2) _ _ _ ⟨rfl, rfl, hle23⟩))
   ·refine Zaa <| Zad rfl <| Zah rfl <| Zac <| Zav ?_
    exact Zag (by exact ⟨rfl, rfl, rfl, rfl, rfl, rfl, trivial⟩) (Zam (by exact .slnil) (ih21 (s19.1, IntKind.i64.wrap y26) _ _ _ ⟨rfl, rfl, hle23⟩))
  ·refine Zbf rfl ?_
   exact Zag (by exact ⟨rfl, rfl, rfl, rfl, rfl, trivial⟩) (Zam (by exact .slnil) (J18 s19.1 _ _ _ ⟨rfl, rfl, hle23⟩))
def Zdd (k : Nat) (x0 : Judge_look) (x1 : Int) : Option ((List Node) × Bool) :=
 (ZaB k x0.versions x1).bind fun y1 =>
 if (!y1.2) = true then
  some ([], false)
 else
  (rd x0.versions y1.1).bind fun y4 =>
  some (y4.Nodes, true)
theorem ZmT : Tryz.prog.funcs[69]? = some Tryz.f69 := by kernel_rfl
theorem ZfX (k : Nat) (H : Heap) (x0 : Judge_look) (bq0 oq0 : Nat) (a0_0 : Option Addr) (c0_0 : Nat) (hx0_0 : RSl H a0_0 c0_0 x0.g.Links) (a0_1 : Option Addr) (c0_1 : Nat) (hx0_1 : RSl H a0_1 c0_1 x0.versions) (mv0_2 : Value) (hx0_2 : MapV false false H mv0_2 x0.ids) (hcq0 : Zaj H bq0 oq0 [.int .i64 x0.g.Switches, .slice a0_0 x0.g.Links.length c0_0, .slice a0_1 x0.versions.length c0_1, mv0_2]) (x1 : Int) {r : (List Node) × Bool} (hr : Zdd k x0 x1 = some r) :
  Fn Tryz.prog 69 [.pointer (some ⟨bq0, oq0, none⟩), .int .i64 x1] H [] fun H' v out => ∃ a0_0 c0_0, v = .tuple #[.slice a0_0 r.1.length c0_0, .bool r.2] ∧ out = [] ∧ RSl H' a0_0 c0_0 r.1 := by
 refine Zaq (args := [.pointer (some ⟨bq0, oq0, none⟩), .int .i64 x1]) (n := 27) (Φ := fun r H' v out => ∃ a0_0 c0_0, v = .tuple #[.slice a0_0 r.1.length c0_0, .bool r.2] ∧ out = [] ∧ RSl H' a0_0 c0_0 r.1) hr ZmT rfl rfl rfl fun w => ?_
 refine s_eq (by rw [Zdd]) ?_
 refine Zae <| Zaa <| Zah rfl <| Zah rfl <| Zac <| Zae <| Zaa <| Zad rfl ?_
 refine Zd3 rfl ?_
 refine o_fa rfl ?_
 refine ZaP 2 hcq0 rfl rfl rfl ?_
 refine Zad rfl ?_
 refine s_bg fun y1 h2 => ?_
 refine Zas rfl rfl (ZbP k _ x0.versions _ _ hx0_1 x1 h2) ?_
 refine Zad rfl <| ZcI rfl rfl <| ZcI rfl rfl <| Zah rfl <| Zah rfl <| Zac <| Zae <| Zae <| Zaa <| Zad rfl <| Zdc rfl <| Zac ?_
 refine Zao rfl (fun h3 => ?_) (fun h3 => ?_)
 ·refine Zae <| Zaa <| Zah rfl <| Zah rfl <| Zac ?_
  exact ZaF (xs := [.tmp 4, .tmp 5]) (vs := [.slice none 0 0, .bool false]) [] ZmT rfl ⟨Zaz rfl, Zaz rfl, trivial⟩ .slnil ⟨_, _, rfl, rfl, ZeK⟩
 ·refine Zar <| Zae <| Zaa <| Zad rfl ?_
  refine Zd3 rfl ?_
  refine o_fa rfl ?_
  refine ZaP 2 hcq0 rfl rfl rfl ?_
  refine Zad rfl ?_
  refine o_ix hx0_1 rfl rfl fun y4 bk6 of7 vs9 h5 hc8 hr10 => ?_
  obtain ⟨a11, c12, rfl, hs13⟩ := hr10
  refine o_fa rfl ?_
  refine ZaP 1 hc8 rfl rfl rfl ?_
  refine Zah rfl <| Zah rfl <| Zac ?_
  exact ZaF (xs := [.tmp 4, .tmp 5]) (vs := [.slice a11 y4.Nodes.length c12, .bool true]) [] ZmT rfl ⟨Zaz rfl, Zaz rfl, trivial⟩ .slnil ⟨_, _, rfl, rfl, hs13⟩
def ZcJ (k : Nat) (x0 : Sent) : Option Bool :=
 (ZaX k x0.Port 0 4).bind fun y3 =>
 some (!y3)
theorem Zl4 : Tryz.prog.funcs[124]? = some Tryz.f124 := by kernel_rfl
theorem Zen (k : Nat) (H : Heap) (x0 : Sent) {r : Bool} (hr : ZcJ k x0 = some r) :
  Fn Tryz.prog 124 [(aS x0)] H [] fun H' v out => v = .bool r ∧ out = [] := by
 refine Zaq (args := [(aS x0)]) (n := 7) (Φ := fun r H' v out => v = .bool r ∧ out = []) hr Zl4 rfl rfl rfl fun w => ?_
 refine s_eq (by rw [ZcJ]) ?_
 refine Zae <| Zaa ?_
 refine ZbO rfl fun b1 => ?_
 refine Zah rfl <| Zac <| Zae <| Zaa <| o_fa rfl <| o_ld 0 rfl rfl rfl ?_
 refine s_bg fun y3 h4 => ?_
 refine Zas rfl rfl (Zbe k _ x0.Port 0 4 h4) ?_
 refine Zdc rfl <| Zah rfl <| Zac ?_
 exact s_r1 2 (.bool (!y3)) Zl4 ⟨rfl, rfl⟩
def slices_IndexFunc___api_Sent_api_Sent__at124_l0 (k : Nat) (x0 : (List Sent)) : Nat → Int → Option (LX (Int) (Unit))
 | 0, _ => none
 | q6 + 1, s5 =>
  if (decide (s5 < (x0.length : Int))) = true then
   (rd x0 s5).bind fun y12 =>
   (ZcJ k y12).bind fun y17 =>
   if (y17) = true then
    some (.ret s5)
   else
    slices_IndexFunc___api_Sent_api_Sent__at124_l0 k x0 q6 (w64 (s5 + 1))
  else
   some (.out ())
def ZaQ (k : Nat) (x0 : (List Sent)) : Option Int :=
 (slices_IndexFunc___api_Sent_api_Sent__at124_l0 k x0 k 0).bind (LX.go fun p1 =>
 some (-1))
theorem Zkm : Tryz.prog.funcs[167]? = some Tryz.f167 := by kernel_rfl
theorem ZcH (k : Nat) (H : Heap) (x0 : (List Sent)) (a0_0 : Option Addr) (c0_0 : Nat) (hx0_0 : RSl H a0_0 c0_0 x0) {r : Int} (hr : ZaQ k x0 = some r) :
  Fn Tryz.prog 167 [.slice a0_0 x0.length c0_0, .func (.func 124) #[] #[]] H [] fun H' v out => v = .int .i64 r ∧ out = [] := by
 refine Zaq (args := [.slice a0_0 x0.length c0_0, .func (.func 124) #[] #[]]) (n := 19) (Φ := fun r H' v out => v = .int .i64 r ∧ out = []) hr Zkm rfl rfl rfl fun w => ?_
 refine s_eq (by rw [ZaQ]) ?_
 refine Zae <| Zaa <| Zah rfl <| Zac <| Zae <| Zae <| Zaa <| Zad rfl <| ZaG rfl <| Zad rfl <| Zac ?_
 refine ZbR (fun p1 env own H' => env = [] ∧ own = [] ∧ Hle H H') ?_ ?_
 ·rintro p1 _ _ H2 ⟨rfl, rfl, hle3⟩
  refine Zae <| Zaa <| Zah rfl <| Zac ?_
  exact s_r1 4 (.int .i64 (-1)) Zkm ⟨rfl, rfl⟩
 ·intro J4
  refine Zat ?_
  refine Zag (env' := [(0, .slice a0_0 x0.length c0_0), (1, .func (.func 124) #[] #[]), (7, .int .i64 (x0.length : Int)), (8, .int .i64 0)]) (by exact ⟨rfl, rfl, rfl, rfl, trivial⟩) ?_
  refine Zam (own' := []) .slnil ?_
  refine Za2 (fun q s5 => slices_IndexFunc___api_Sent_api_Sent__at124_l0 k x0 q s5) (fun s5 env own H' => env = [(0, .slice a0_0 x0.length c0_0), (1, .func (.func 124) #[] #[]), (7, .int .i64 (x0.length : Int)), (8, .int .i64 s5)] ∧ own = [] ∧ Hle H H') (fun _ => rfl) ?_ k 0 ⟨rfl, rfl, .refl _⟩
  rintro q6 ih7 s5 _ _ H8 ⟨rfl, rfl, hle9⟩
  refine s_eq (by rw [slices_IndexFunc___api_Sent_api_Sent__at124_l0]) ?_
  have hs10 := RSl.mono hle9 hx0_0
  refine Zae <| Zaa <| o_lt rfl rfl <| Zac <| Zae ?_
  refine Zao rfl (fun h11 => ?_) (fun h11 => ?_)
  ·refine Zar <| Zae <| Zat <| Zae <| Zaa <| Zad rfl <| Zah rfl <| Zac <| Zae <| Zaa <| Zad rfl <| Zad rfl ?_
   refine Zad rfl ?_
   refine Zce hs10 rfl rfl fun y12 bk14 of15 h13 hc16 => ?_
   refine ZaP 0 hc16 rfl rfl rfl ?_
   refine s_bg fun y17 h18 => ?_
   refine Zas rfl rfl (Zen k _ y12 h18) ?_
   refine Zac ?_
   refine Zao rfl (fun h19 => ?_) (fun h19 => ?_)
   ·refine Zae <| Zaa <| Zad rfl <| Zah rfl <| Zac <| ZbQ ?_
    exact s_r1 4 (.int .i64 s5) Zkm ⟨rfl, rfl⟩
   ·refine Zar <| Zav <| Zaa <| ZbM rfl rfl <| Zad rfl <| Zac ?_
    exact Zag (by exact ⟨rfl, rfl, rfl, rfl, trivial⟩) (Zam (by exact .slnil) (ih7 (w64 (s5 + 1)) _ _ _ ⟨rfl, rfl, hle9⟩))
  ·refine Zbf rfl ?_
   exact Zag (by exact trivial) (Zam (by exact .slnil) (J4 () _ _ _ ⟨rfl, rfl, hle9⟩))
def ZaL (k : Nat) (x0 : (List Sent)) : Option Bool :=
 (ZaQ k x0).bind fun y1 =>
 some (decide (y1 ≥ 0))
theorem Zl5 : Tryz.prog.funcs[123]? = some Tryz.f123 := by kernel_rfl
theorem Zcu (k : Nat) (H : Heap) (x0 : (List Sent)) (a0_0 : Option Addr) (c0_0 : Nat) (hx0_0 : RSl H a0_0 c0_0 x0) {r : Bool} (hr : ZaL k x0 = some r) :
  Fn Tryz.prog 123 [.slice a0_0 x0.length c0_0, .func (.func 124) #[] #[]] H [] fun H' v out => v = .bool r ∧ out = [] := by
 refine Zaq (args := [.slice a0_0 x0.length c0_0, .func (.func 124) #[] #[]]) (n := 9) (Φ := fun r H' v out => v = .bool r ∧ out = []) hr Zl5 rfl rfl rfl fun w => ?_
 refine s_eq (by rw [ZaL]) ?_
 refine Zae <| Zaa <| Zah rfl <| Zac <| Zae <| Zaa <| Zad rfl <| Zad rfl ?_
 refine s_bg fun y1 h2 => ?_
 refine Zas rfl rfl (ZcH k _ x0 _ _ hx0_0 h2) ?_
 refine o_ge rfl rfl <| Zah rfl <| Zac ?_
 exact s_r1 4 (.bool (decide (y1 ≥ 0))) Zl5 ⟨rfl, rfl⟩
def Zcx (k : Nat) (x0 : Judge_look) (x1 : Event) : Option Bool :=
 (ZaL k x1.Sent).bind fun y3 =>
 if (!y3) = true then
  (ZaX k x1.Switch 1 x0.g.Switches).bind fun y6 =>
  if (y6) = true then
   (ZaX k x1.Port 0 4).bind fun y10 =>
   if (y10) = true then
    (ZaX k x1.Ver 1 200).bind fun y14 =>
    if (y14) = true then
     (ZaX k x1.Id 1 4294967295).bind fun y18 =>
     some y18
    else
     some false
   else
    some false
  else
   some false
 else
  some false
theorem Zjn : Tryz.prog.funcs[68]? = some Tryz.f68 := by kernel_rfl
theorem ZeR (k : Nat) (H : Heap) (x0 : Judge_look) (bq0 oq0 : Nat) (a0_0 : Option Addr) (c0_0 : Nat) (hx0_0 : RSl H a0_0 c0_0 x0.g.Links) (a0_1 : Option Addr) (c0_1 : Nat) (hx0_1 : RSl H a0_1 c0_1 x0.versions) (mv0_2 : Value) (hx0_2 : MapV false false H mv0_2 x0.ids) (hcq0 : Zaj H bq0 oq0 [.int .i64 x0.g.Switches, .slice a0_0 x0.g.Links.length c0_0, .slice a0_1 x0.versions.length c0_1, mv0_2]) (x1 : Event) (a1_0 : Option Addr) (c1_0 : Nat) (hx1_0 : RSl H a1_0 c1_0 x1.Sent) {r : Bool} (hr : Zcx k x0 x1 = some r) :
  Fn Tryz.prog 68 [.pointer (some ⟨bq0, oq0, none⟩), (aE x1 a1_0 c1_0)] H [] fun H' v out => v = .bool r ∧ out = [] := by
 refine Zaq (args := [.pointer (some ⟨bq0, oq0, none⟩), (aE x1 a1_0 c1_0)]) (n := 36) (Φ := fun r H' v out => v = .bool r ∧ out = []) hr Zjn rfl rfl rfl fun w => ?_
 refine s_eq (by rw [Zcx]) ?_
 refine Zae <| Zaa ?_
 refine ZbO rfl fun b1 => ?_
 refine Zah rfl <| Zac <| Zae <| Zaa <| o_fa rfl <| o_ld 0 rfl rfl rfl ?_
 refine s_bg fun y3 h4 => ?_
 refine Zas rfl rfl (Zcu k _ x1.Sent _ _ hx1_0 h4) ?_
 refine Zah rfl <| Zac <| Zae ?_
 refine Zax (!y3) (fun h5 => ?_) (fun h5 => ?_)
 ·refine s_bg fun y6 h8 => ?_
  refine Zax y6 (fun h9 => ?_) (fun h9 => ?_)
  ·refine s_bg fun y10 h12 => ?_
   refine Zax y10 (fun h13 => ?_) (fun h13 => ?_)
   ·refine s_bg fun y14 h16 => ?_
    refine Zax y14 (fun h17 => ?_) (fun h17 => ?_)
    ·refine s_bg fun y18 h20 => ?_
     refine Za8 [(fV (.bool y3)),
   (fV (.bool (!y3))),
   (fV (.bool (!y3))),
   (fV (.pointer (some ⟨b1, 0, none⟩))),
   (fV (.int .i64 x1.Switch)),
   (fun H v g => v = Value.pointer (some ⟨bq0, oq0, none⟩) ∧ g = [] ∧ RSl H a0_0 c0_0 x0.g.Links ∧ RSl H a0_1 c0_1 x0.versions ∧ MapV false false H mv0_2 x0.ids ∧ Zaj H bq0 oq0 [.int .i64 x0.g.Switches, .slice a0_0 x0.g.Links.length c0_0, .slice a0_1 x0.versions.length c0_1, mv0_2]),
   (fun H v g => v = Value.pointer (some ⟨bq0, oq0, none⟩) ∧ g = [] ∧ RSl H a0_0 c0_0 x0.g.Links ∧ RSl H a0_1 c0_1 x0.versions ∧ MapV false false H mv0_2 x0.ids ∧ Zaj H bq0 oq0 [.int .i64 x0.g.Switches, .slice a0_0 x0.g.Links.length c0_0, .slice a0_1 x0.versions.length c0_1, mv0_2]),
   (fun H v g => v = Value.pointer (some ⟨bq0, oq0, none⟩) ∧ g = [] ∧ RSl H a0_0 c0_0 x0.g.Links ∧ RSl H a0_1 c0_1 x0.versions ∧ MapV false false H mv0_2 x0.ids ∧ Zaj H bq0 oq0 [.int .i64 x0.g.Switches, .slice a0_0 x0.g.Links.length c0_0, .slice a0_1 x0.versions.length c0_1, mv0_2]),
   (fun H v g => v = Value.pointer (some ⟨bq0, oq0, none⟩) ∧ g = [] ∧ RSl H a0_0 c0_0 x0.g.Links ∧ RSl H a0_1 c0_1 x0.versions ∧ MapV false false H mv0_2 x0.ids ∧ Zaj H bq0 oq0 [.int .i64 x0.g.Switches, .slice a0_0 x0.g.Links.length c0_0, .slice a0_1 x0.versions.length c0_1, mv0_2]),
   (fV (.int .i64 x0.g.Switches)),
   (fV (.bool y6)),
   (fV (.bool y6)),
   (fV (.bool y6)),
   (fV (.pointer (some ⟨b1, 1, none⟩))),
   (fV (.int .i64 x1.Port)),
   (fV (.bool y10)),
   (fV (.bool y10)),
   (fV (.bool y10)),
   (fV (.pointer (some ⟨b1, 2, none⟩))),
   (fV (.int .i64 x1.Ver)),
   (fV (.bool y14)),
   (fV (.bool y14)),
   (fV (.bool y14)),
   (fV (.pointer (some ⟨b1, 3, none⟩))),
   (fV (.int .i64 x1.Id)),
   (fV (.bool y18)),
   (fV (.bool y18))] [[], [], [], [], [], [], [], [], [], [], [], [], [], [], [], [], [], [], [], [], [], [], [], [], [], [], []] mixed ⟨m0, m0, m0, m0, m0, fun _ _ _ _ hle ⟨e1, e2, h0_, h1_, h2_, h3_⟩ => ⟨e1, e2, RSl.mono hle h0_, RSl.mono hle h1_, MapV.mono hle h2_, Zaj.mono hle h3_⟩, fun _ _ _ _ hle ⟨e1, e2, h0_, h1_, h2_, h3_⟩ => ⟨e1, e2, RSl.mono hle h0_, RSl.mono hle h1_, MapV.mono hle h2_, Zaj.mono hle h3_⟩, fun _ _ _ _ hle ⟨e1, e2, h0_, h1_, h2_, h3_⟩ => ⟨e1, e2, RSl.mono hle h0_, RSl.mono hle h1_, MapV.mono hle h2_, Zaj.mono hle h3_⟩, fun _ _ _ _ hle ⟨e1, e2, h0_, h1_, h2_, h3_⟩ => ⟨e1, e2, RSl.mono hle h0_, RSl.mono hle h1_, MapV.mono hle h2_, Zaj.mono hle h3_⟩, m0, m0, m0, m0, m0, m0, m0, m0, m0, m0, m0, m0, m0, m0, m0, m0, m0, m0, trivial⟩ (by kernel_rfl) (by kernel_rfl) rfl (by kernel_rfl) rfl rfl ?_ ?_
     ·refine dc (fun _ _ _ _ _ _ _ => ?_) ?_
      ·refine Zag (env' := [(5, .bool y3)]) (by exact ⟨rfl, trivial⟩) ?_
       refine Zad rfl ?_
       exact Zai (.bool y3) ⟨rfl, rfl⟩
      refine dc1 0 (fun _ _ _ _ _ _ => ?_) ?_
      ·refine Zdc rfl ?_
       exact Zai (.bool (!y3)) ⟨rfl, rfl⟩
      refine dc1 1 (fun _ _ _ _ _ _ => ?_) ?_
      ·refine Zad rfl ?_
       exact Zai (.bool (!y3)) ⟨rfl, rfl⟩
      refine dc1 2 (fun _ _ _ _ _ _ => ?_) ?_
      ·refine Zaf rfl rfl h5 <| o_fa rfl ?_
       exact Zai (.pointer (some ⟨b1, 0, none⟩)) ⟨rfl, rfl⟩
      refine dc2 2 3 (fun _ _ _ _ _ _ => ?_) ?_
      ·refine Zaf rfl rfl h5 <| o_ld 0 rfl rfl rfl ?_
       exact Zai (.int .i64 x1.Switch) ⟨rfl, rfl⟩
      refine dc1 2 (fun _ _ _ _ hle76 _ => ?_) ?_
      ·have hc79 := Zaj.mono hle76 hcq0
       have hs80 := RSl.mono hle76 hx0_0
       have hs81 := RSl.mono hle76 hx0_1
       have hs82 := MapV.mono hle76 hx0_2
       refine Zaf rfl rfl h5 <| Zad rfl ?_
       exact Zai (.pointer (some ⟨bq0, oq0, none⟩)) ⟨rfl, rfl, hs80, hs81, hs82, hc79⟩
      refine dc (fun _ _ _ _ _ hd90 _ => ?_) ?_
      ·obtain ⟨hv92, hg93⟩ := hd90 2 (by decide)
       obtain ⟨hv94, hg95, hp96, hp97, hp98, hp99⟩ := hd90 5 (by decide)
       refine Zag (env' := [(11, .bool (!y3)), (14, .pointer (some ⟨bq0, oq0, none⟩))]) (by exact ⟨congrArg some hv92, congrArg some hv94, trivial⟩) ?_
       refine Zaf rfl rfl h5 ?_
       refine Zd3 rfl ?_
       exact Zai (.pointer (some ⟨bq0, oq0, none⟩)) ⟨rfl, rfl, hp96, hp97, hp98, hp99⟩
      refine dc (fun _ _ _ _ _ hd105 _ => ?_) ?_
      ·obtain ⟨hv107, hg108⟩ := hd105 2 (by decide)
       obtain ⟨hv109, hg110, hp111, hp112, hp113, hp114⟩ := hd105 6 (by decide)
       refine Zag (env' := [(11, .bool (!y3)), (15, .pointer (some ⟨bq0, oq0, none⟩))]) (by exact ⟨congrArg some hv107, congrArg some hv109, trivial⟩) ?_
       refine Zaf rfl rfl h5 <| o_fa rfl ?_
       exact Zai (.pointer (some ⟨bq0, oq0, none⟩)) ⟨rfl, rfl, hp111, hp112, hp113, hp114⟩
      refine dc (fun _ _ _ _ _ hd120 _ => ?_) ?_
      ·obtain ⟨hv122, hg123⟩ := hd120 2 (by decide)
       obtain ⟨hv124, hg125, hp126, hp127, hp128, hp129⟩ := hd120 7 (by decide)
       refine Zag (env' := [(11, .bool (!y3)), (16, .pointer (some ⟨bq0, oq0, none⟩))]) (by exact ⟨congrArg some hv122, congrArg some hv124, trivial⟩) ?_
       refine Zaf rfl rfl h5 <| o_fa rfl ?_
       exact Zai (.pointer (some ⟨bq0, oq0, none⟩)) ⟨rfl, rfl, hp126, hp127, hp128, hp129⟩
      refine dc (fun _ _ _ _ _ hd135 _ => ?_) ?_
      ·obtain ⟨hv137, hg138⟩ := hd135 2 (by decide)
       obtain ⟨hv139, hg140, hp141, hp142, hp143, hp144⟩ := hd135 8 (by decide)
       refine Zag (env' := [(11, .bool (!y3)), (17, .pointer (some ⟨bq0, oq0, none⟩))]) (by exact ⟨congrArg some hv137, congrArg some hv139, trivial⟩) ?_
       refine Zaf rfl rfl h5 ?_
       refine ZaP 0 hp144 rfl rfl rfl ?_
       exact Zai (.int .i64 x0.g.Switches) ⟨rfl, rfl⟩
      refine Za3 ?_ ?_
      ·intro _ _ H147 fr148 hle149 hd150
       obtain ⟨hv152, hg153⟩ := hd150 2 (by decide)
       obtain ⟨hv154, hg155⟩ := hd150 4 (by decide)
       obtain ⟨hv156, hg157⟩ := hd150 9 (by decide)
       refine ⟨_, (ZaX k x1.Switch 1 x0.g.Switches).bind some, by rw [h8]; rfl, fun _ => ?_⟩
       refine Zag (env' := [(11, .bool (!y3)), (13, .int .i64 x1.Switch), (18, .int .i64 x0.g.Switches)]) (by exact ⟨congrArg some hv152, congrArg some hv154, congrArg some hv156, trivial⟩) ?_
       refine Zaf rfl rfl h5 ?_
       refine s_bg fun y6 h158 => ?_
       refine Zas rfl rfl (Zbe k _ x1.Switch 1 x0.g.Switches h158) ?_
       obtain rfl := Option.some.inj (h8.symm.trans h158)
       exact Zai (.bool y6) ⟨rfl, rfl⟩
      refine dc2 2 10 (fun _ _ _ _ _ _ => ?_) ?_
      ·refine Zan rfl h5 rfl ?_
       exact Zai (.bool y6) ⟨rfl, rfl⟩
      refine dc1 11 (fun _ _ _ _ _ _ => ?_) ?_
      ·refine Zad rfl ?_
       exact Zai (.bool y6) ⟨rfl, rfl⟩
      refine dc1 12 (fun _ _ _ _ _ _ => ?_) ?_
      ·refine Zaf rfl rfl h9 <| o_fa rfl ?_
       exact Zai (.pointer (some ⟨b1, 1, none⟩)) ⟨rfl, rfl⟩
      refine dc2 12 13 (fun _ _ _ _ _ _ => ?_) ?_
      ·refine Zaf rfl rfl h9 <| o_ld 0 rfl rfl rfl ?_
       exact Zai (.int .i64 x1.Port) ⟨rfl, rfl⟩
      refine Za3 ?_ ?_
      ·intro _ _ H203 fr204 hle205 hd206
       obtain ⟨hv208, hg209⟩ := hd206 12 (by decide)
       obtain ⟨hv210, hg211⟩ := hd206 14 (by decide)
       refine ⟨_, (ZaX k x1.Port 0 4).bind some, by rw [h12]; rfl, fun _ => ?_⟩
       refine Zag (env' := [(21, .bool y6), (23, .int .i64 x1.Port)]) (by exact ⟨congrArg some hv208, congrArg some hv210, trivial⟩) ?_
       refine Zaf rfl rfl h9 ?_
       refine s_bg fun y10 h212 => ?_
       refine Zas rfl rfl (Zbe k _ x1.Port 0 4 h212) ?_
       obtain rfl := Option.some.inj (h12.symm.trans h212)
       exact Zai (.bool y10) ⟨rfl, rfl⟩
      refine dc2 12 15 (fun _ _ _ _ _ _ => ?_) ?_
      ·refine Zan rfl h9 rfl ?_
       exact Zai (.bool y10) ⟨rfl, rfl⟩
      refine dc1 16 (fun _ _ _ _ _ _ => ?_) ?_
      ·refine Zad rfl ?_
       exact Zai (.bool y10) ⟨rfl, rfl⟩
      refine dc1 17 (fun _ _ _ _ _ _ => ?_) ?_
      ·refine Zaf rfl rfl h13 <| o_fa rfl ?_
       exact Zai (.pointer (some ⟨b1, 2, none⟩)) ⟨rfl, rfl⟩
      refine dc2 17 18 (fun _ _ _ _ _ _ => ?_) ?_
      ·refine Zaf rfl rfl h13 <| o_ld 0 rfl rfl rfl ?_
       exact Zai (.int .i64 x1.Ver) ⟨rfl, rfl⟩
      refine Za3 ?_ ?_
      ·intro _ _ H257 fr258 hle259 hd260
       obtain ⟨hv262, hg263⟩ := hd260 17 (by decide)
       obtain ⟨hv264, hg265⟩ := hd260 19 (by decide)
       refine ⟨_, (ZaX k x1.Ver 1 200).bind some, by rw [h16]; rfl, fun _ => ?_⟩
       refine Zag (env' := [(26, .bool y10), (28, .int .i64 x1.Ver)]) (by exact ⟨congrArg some hv262, congrArg some hv264, trivial⟩) ?_
       refine Zaf rfl rfl h13 ?_
       refine s_bg fun y14 h266 => ?_
       refine Zas rfl rfl (Zbe k _ x1.Ver 1 200 h266) ?_
       obtain rfl := Option.some.inj (h16.symm.trans h266)
       exact Zai (.bool y14) ⟨rfl, rfl⟩
      refine dc2 17 20 (fun _ _ _ _ _ _ => ?_) ?_
      ·refine Zan rfl h13 rfl ?_
       exact Zai (.bool y14) ⟨rfl, rfl⟩
      refine dc1 21 (fun _ _ _ _ _ _ => ?_) ?_
      ·refine Zad rfl ?_
       exact Zai (.bool y14) ⟨rfl, rfl⟩
      refine dc1 22 (fun _ _ _ _ _ _ => ?_) ?_
      ·refine Zaf rfl rfl h17 <| o_fa rfl ?_
       exact Zai (.pointer (some ⟨b1, 3, none⟩)) ⟨rfl, rfl⟩
      refine dc2 22 23 (fun _ _ _ _ _ _ => ?_) ?_
      ·refine Zaf rfl rfl h17 <| o_ld 0 rfl rfl rfl ?_
       exact Zai (.int .i64 x1.Id) ⟨rfl, rfl⟩
      refine Za3 ?_ ?_
      ·intro _ _ H311 fr312 hle313 hd314
       obtain ⟨hv316, hg317⟩ := hd314 22 (by decide)
       obtain ⟨hv318, hg319⟩ := hd314 24 (by decide)
       refine ⟨_, (ZaX k x1.Id 1 4294967295).bind some, by rw [h20]; rfl, fun _ => ?_⟩
       refine Zag (env' := [(31, .bool y14), (33, .int .i64 x1.Id)]) (by exact ⟨congrArg some hv316, congrArg some hv318, trivial⟩) ?_
       refine Zaf rfl rfl h17 ?_
       refine s_bg fun y18 h320 => ?_
       refine Zas rfl rfl (Zbe k _ x1.Id 1 4294967295 h320) ?_
       obtain rfl := Option.some.inj (h20.symm.trans h320)
       exact Zai (.bool y18) ⟨rfl, rfl⟩
      refine dc2 22 25 (fun _ _ _ _ _ _ => ?_) ?_
      ·refine Zan rfl h17 rfl ?_
       exact Zai (.bool y18) ⟨rfl, rfl⟩
      exact dnil
     ·intro V334 G335 H332 hle333 hF336
      obtain ⟨hv342, hg343⟩ := hF336 26 (show 26 < 27 by decide)
      refine Zag (env' := [(35, .bool y18), (0, .pointer (some ⟨bq0, oq0, none⟩)), (1, (aE x1 a1_0 c1_0)), (3, .pointer (some ⟨b1, 0, none⟩)), (4, .bool false), (6, .pointer (some ⟨b1, 7, none⟩)), (7, .slice a1_0 x1.Sent.length c1_0), (8, .bool y3), (5, .bool y3)]) (by exact ⟨congrArg some hv342, rfl, rfl, rfl, rfl, rfl, rfl, rfl, rfl, trivial⟩) ?_
      refine Zam (List.sublist_append_left _ _) ?_
      refine Zah rfl <| Zac ?_
      exact s_r1 4 (.bool y18) Zjn ⟨rfl, rfl⟩
    ·refine Za8 [(fV (.bool y3)),
   (fV (.bool (!y3))),
   (fV (.bool (!y3))),
   (fV (.pointer (some ⟨b1, 0, none⟩))),
   (fV (.int .i64 x1.Switch)),
   (fun H v g => v = Value.pointer (some ⟨bq0, oq0, none⟩) ∧ g = [] ∧ RSl H a0_0 c0_0 x0.g.Links ∧ RSl H a0_1 c0_1 x0.versions ∧ MapV false false H mv0_2 x0.ids ∧ Zaj H bq0 oq0 [.int .i64 x0.g.Switches, .slice a0_0 x0.g.Links.length c0_0, .slice a0_1 x0.versions.length c0_1, mv0_2]),
   (fun H v g => v = Value.pointer (some ⟨bq0, oq0, none⟩) ∧ g = [] ∧ RSl H a0_0 c0_0 x0.g.Links ∧ RSl H a0_1 c0_1 x0.versions ∧ MapV false false H mv0_2 x0.ids ∧ Zaj H bq0 oq0 [.int .i64 x0.g.Switches, .slice a0_0 x0.g.Links.length c0_0, .slice a0_1 x0.versions.length c0_1, mv0_2]),
   (fun H v g => v = Value.pointer (some ⟨bq0, oq0, none⟩) ∧ g = [] ∧ RSl H a0_0 c0_0 x0.g.Links ∧ RSl H a0_1 c0_1 x0.versions ∧ MapV false false H mv0_2 x0.ids ∧ Zaj H bq0 oq0 [.int .i64 x0.g.Switches, .slice a0_0 x0.g.Links.length c0_0, .slice a0_1 x0.versions.length c0_1, mv0_2]),
   (fun H v g => v = Value.pointer (some ⟨bq0, oq0, none⟩) ∧ g = [] ∧ RSl H a0_0 c0_0 x0.g.Links ∧ RSl H a0_1 c0_1 x0.versions ∧ MapV false false H mv0_2 x0.ids ∧ Zaj H bq0 oq0 [.int .i64 x0.g.Switches, .slice a0_0 x0.g.Links.length c0_0, .slice a0_1 x0.versions.length c0_1, mv0_2]),
   (fV (.int .i64 x0.g.Switches)),
   (fV (.bool y6)),
   (fV (.bool y6)),
   (fV (.bool y6)),
   (fV (.pointer (some ⟨b1, 1, none⟩))),
   (fV (.int .i64 x1.Port)),
   (fV (.bool y10)),
   (fV (.bool y10)),
   (fV (.bool y10)),
   (fV (.pointer (some ⟨b1, 2, none⟩))),
   (fV (.int .i64 x1.Ver)),
   (fV (.bool y14)),
   (fV (.bool y14)),
   (fV (.bool y14)),
   uF,
   uF,
   uF,
   (fV (.bool false))] [[], [], [], [], [], [], [], [], [], [], [], [], [], [], [], [], [], [], [], [], [], [], [], [], [], [], []] mixed ⟨m0, m0, m0, m0, m0, fun _ _ _ _ hle ⟨e1, e2, h0_, h1_, h2_, h3_⟩ => ⟨e1, e2, RSl.mono hle h0_, RSl.mono hle h1_, MapV.mono hle h2_, Zaj.mono hle h3_⟩, fun _ _ _ _ hle ⟨e1, e2, h0_, h1_, h2_, h3_⟩ => ⟨e1, e2, RSl.mono hle h0_, RSl.mono hle h1_, MapV.mono hle h2_, Zaj.mono hle h3_⟩, fun _ _ _ _ hle ⟨e1, e2, h0_, h1_, h2_, h3_⟩ => ⟨e1, e2, RSl.mono hle h0_, RSl.mono hle h1_, MapV.mono hle h2_, Zaj.mono hle h3_⟩, fun _ _ _ _ hle ⟨e1, e2, h0_, h1_, h2_, h3_⟩ => ⟨e1, e2, RSl.mono hle h0_, RSl.mono hle h1_, MapV.mono hle h2_, Zaj.mono hle h3_⟩, m0, m0, m0, m0, m0, m0, m0, m0, m0, m0, m0, m0, m0, m0, m0, m0, m0, m0, trivial⟩ (by kernel_rfl) (by kernel_rfl) rfl (by kernel_rfl) rfl rfl ?_ ?_
     ·refine dc (fun _ _ _ _ _ _ _ => ?_) ?_
      ·refine Zag (env' := [(5, .bool y3)]) (by exact ⟨rfl, trivial⟩) ?_
       refine Zad rfl ?_
       exact Zai (.bool y3) ⟨rfl, rfl⟩
      refine dc1 0 (fun _ _ _ _ _ _ => ?_) ?_
      ·refine Zdc rfl ?_
       exact Zai (.bool (!y3)) ⟨rfl, rfl⟩
      refine dc1 1 (fun _ _ _ _ _ _ => ?_) ?_
      ·refine Zad rfl ?_
       exact Zai (.bool (!y3)) ⟨rfl, rfl⟩
      refine dc1 2 (fun _ _ _ _ _ _ => ?_) ?_
      ·refine Zaf rfl rfl h5 <| o_fa rfl ?_
       exact Zai (.pointer (some ⟨b1, 0, none⟩)) ⟨rfl, rfl⟩
      refine dc2 2 3 (fun _ _ _ _ _ _ => ?_) ?_
      ·refine Zaf rfl rfl h5 <| o_ld 0 rfl rfl rfl ?_
       exact Zai (.int .i64 x1.Switch) ⟨rfl, rfl⟩
      refine dc1 2 (fun _ _ _ _ hle398 _ => ?_) ?_
      ·have hc401 := Zaj.mono hle398 hcq0
       have hs402 := RSl.mono hle398 hx0_0
       have hs403 := RSl.mono hle398 hx0_1
       have hs404 := MapV.mono hle398 hx0_2
       refine Zaf rfl rfl h5 <| Zad rfl ?_
       exact Zai (.pointer (some ⟨bq0, oq0, none⟩)) ⟨rfl, rfl, hs402, hs403, hs404, hc401⟩
      refine dc (fun _ _ _ _ _ hd412 _ => ?_) ?_
      ·obtain ⟨hv414, hg415⟩ := hd412 2 (by decide)
       obtain ⟨hv416, hg417, hp418, hp419, hp420, hp421⟩ := hd412 5 (by decide)
       refine Zag (env' := [(11, .bool (!y3)), (14, .pointer (some ⟨bq0, oq0, none⟩))]) (by exact ⟨congrArg some hv414, congrArg some hv416, trivial⟩) ?_
       refine Zaf rfl rfl h5 ?_
       refine Zd3 rfl ?_
       exact Zai (.pointer (some ⟨bq0, oq0, none⟩)) ⟨rfl, rfl, hp418, hp419, hp420, hp421⟩
      refine dc (fun _ _ _ _ _ hd427 _ => ?_) ?_
      ·obtain ⟨hv429, hg430⟩ := hd427 2 (by decide)
       obtain ⟨hv431, hg432, hp433, hp434, hp435, hp436⟩ := hd427 6 (by decide)
       refine Zag (env' := [(11, .bool (!y3)), (15, .pointer (some ⟨bq0, oq0, none⟩))]) (by exact ⟨congrArg some hv429, congrArg some hv431, trivial⟩) ?_
       refine Zaf rfl rfl h5 <| o_fa rfl ?_
       exact Zai (.pointer (some ⟨bq0, oq0, none⟩)) ⟨rfl, rfl, hp433, hp434, hp435, hp436⟩
      refine dc (fun _ _ _ _ _ hd442 _ => ?_) ?_
      ·obtain ⟨hv444, hg445⟩ := hd442 2 (by decide)
       obtain ⟨hv446, hg447, hp448, hp449, hp450, hp451⟩ := hd442 7 (by decide)
       refine Zag (env' := [(11, .bool (!y3)), (16, .pointer (some ⟨bq0, oq0, none⟩))]) (by exact ⟨congrArg some hv444, congrArg some hv446, trivial⟩) ?_
       refine Zaf rfl rfl h5 <| o_fa rfl ?_
       exact Zai (.pointer (some ⟨bq0, oq0, none⟩)) ⟨rfl, rfl, hp448, hp449, hp450, hp451⟩
      refine dc (fun _ _ _ _ _ hd457 _ => ?_) ?_
      ·obtain ⟨hv459, hg460⟩ := hd457 2 (by decide)
       obtain ⟨hv461, hg462, hp463, hp464, hp465, hp466⟩ := hd457 8 (by decide)
       refine Zag (env' := [(11, .bool (!y3)), (17, .pointer (some ⟨bq0, oq0, none⟩))]) (by exact ⟨congrArg some hv459, congrArg some hv461, trivial⟩) ?_
       refine Zaf rfl rfl h5 ?_
       refine ZaP 0 hp466 rfl rfl rfl ?_
       exact Zai (.int .i64 x0.g.Switches) ⟨rfl, rfl⟩
      refine Za3 ?_ ?_
      ·intro _ _ H469 fr470 hle471 hd472
       obtain ⟨hv474, hg475⟩ := hd472 2 (by decide)
       obtain ⟨hv476, hg477⟩ := hd472 4 (by decide)
       obtain ⟨hv478, hg479⟩ := hd472 9 (by decide)
       refine ⟨_, (ZaX k x1.Switch 1 x0.g.Switches).bind some, by rw [h8]; rfl, fun _ => ?_⟩
       refine Zag (env' := [(11, .bool (!y3)), (13, .int .i64 x1.Switch), (18, .int .i64 x0.g.Switches)]) (by exact ⟨congrArg some hv474, congrArg some hv476, congrArg some hv478, trivial⟩) ?_
       refine Zaf rfl rfl h5 ?_
       refine s_bg fun y6 h480 => ?_
       refine Zas rfl rfl (Zbe k _ x1.Switch 1 x0.g.Switches h480) ?_
       obtain rfl := Option.some.inj (h8.symm.trans h480)
       exact Zai (.bool y6) ⟨rfl, rfl⟩
      refine dc2 2 10 (fun _ _ _ _ _ _ => ?_) ?_
      ·refine Zan rfl h5 rfl ?_
       exact Zai (.bool y6) ⟨rfl, rfl⟩
      refine dc1 11 (fun _ _ _ _ _ _ => ?_) ?_
      ·refine Zad rfl ?_
       exact Zai (.bool y6) ⟨rfl, rfl⟩
      refine dc1 12 (fun _ _ _ _ _ _ => ?_) ?_
      ·refine Zaf rfl rfl h9 <| o_fa rfl ?_
       exact Zai (.pointer (some ⟨b1, 1, none⟩)) ⟨rfl, rfl⟩
      refine dc2 12 13 (fun _ _ _ _ _ _ => ?_) ?_
      ·refine Zaf rfl rfl h9 <| o_ld 0 rfl rfl rfl ?_
       exact Zai (.int .i64 x1.Port) ⟨rfl, rfl⟩
      refine Za3 ?_ ?_
      ·intro _ _ H525 fr526 hle527 hd528
       obtain ⟨hv530, hg531⟩ := hd528 12 (by decide)
       obtain ⟨hv532, hg533⟩ := hd528 14 (by decide)
       refine ⟨_, (ZaX k x1.Port 0 4).bind some, by rw [h12]; rfl, fun _ => ?_⟩
       refine Zag (env' := [(21, .bool y6), (23, .int .i64 x1.Port)]) (by exact ⟨congrArg some hv530, congrArg some hv532, trivial⟩) ?_
       refine Zaf rfl rfl h9 ?_
       refine s_bg fun y10 h534 => ?_
       refine Zas rfl rfl (Zbe k _ x1.Port 0 4 h534) ?_
       obtain rfl := Option.some.inj (h12.symm.trans h534)
       exact Zai (.bool y10) ⟨rfl, rfl⟩
      refine dc2 12 15 (fun _ _ _ _ _ _ => ?_) ?_
      ·refine Zan rfl h9 rfl ?_
       exact Zai (.bool y10) ⟨rfl, rfl⟩
      refine dc1 16 (fun _ _ _ _ _ _ => ?_) ?_
      ·refine Zad rfl ?_
       exact Zai (.bool y10) ⟨rfl, rfl⟩
      refine dc1 17 (fun _ _ _ _ _ _ => ?_) ?_
      ·refine Zaf rfl rfl h13 <| o_fa rfl ?_
       exact Zai (.pointer (some ⟨b1, 2, none⟩)) ⟨rfl, rfl⟩
      refine dc2 17 18 (fun _ _ _ _ _ _ => ?_) ?_
      ·refine Zaf rfl rfl h13 <| o_ld 0 rfl rfl rfl ?_
       exact Zai (.int .i64 x1.Ver) ⟨rfl, rfl⟩
      refine Za3 ?_ ?_
      ·intro _ _ H579 fr580 hle581 hd582
       obtain ⟨hv584, hg585⟩ := hd582 17 (by decide)
       obtain ⟨hv586, hg587⟩ := hd582 19 (by decide)
       refine ⟨_, (ZaX k x1.Ver 1 200).bind some, by rw [h16]; rfl, fun _ => ?_⟩
       refine Zag (env' := [(26, .bool y10), (28, .int .i64 x1.Ver)]) (by exact ⟨congrArg some hv584, congrArg some hv586, trivial⟩) ?_
       refine Zaf rfl rfl h13 ?_
       refine s_bg fun y14 h588 => ?_
       refine Zas rfl rfl (Zbe k _ x1.Ver 1 200 h588) ?_
       obtain rfl := Option.some.inj (h16.symm.trans h588)
       exact Zai (.bool y14) ⟨rfl, rfl⟩
      refine dc2 17 20 (fun _ _ _ _ _ _ => ?_) ?_
      ·refine Zan rfl h13 rfl ?_
       exact Zai (.bool y14) ⟨rfl, rfl⟩
      refine dc1 21 (fun _ _ _ _ _ _ => ?_) ?_
      ·refine Zad rfl ?_
       exact Zai (.bool y14) ⟨rfl, rfl⟩
      refine dcU 22 h17 ?_
      refine dcU 22 h17 ?_
      refine dcU 22 h17 ?_
      refine dc2 22 25 (fun _ _ _ _ _ _ => ?_) ?_
      ·refine Zal rfl h17 rfl ?_
       exact Zai (.bool false) ⟨rfl, rfl⟩
      exact dnil
     ·intro V654 G655 H652 hle653 hF656
      obtain ⟨hv662, hg663⟩ := hF656 26 (show 26 < 27 by decide)
      refine Zag (env' := [(35, .bool false), (0, .pointer (some ⟨bq0, oq0, none⟩)), (1, (aE x1 a1_0 c1_0)), (3, .pointer (some ⟨b1, 0, none⟩)), (4, .bool false), (6, .pointer (some ⟨b1, 7, none⟩)), (7, .slice a1_0 x1.Sent.length c1_0), (8, .bool y3), (5, .bool y3)]) (by exact ⟨congrArg some hv662, rfl, rfl, rfl, rfl, rfl, rfl, rfl, rfl, trivial⟩) ?_
      refine Zam (List.sublist_append_left _ _) ?_
      refine Zah rfl <| Zac ?_
      exact s_r1 4 (.bool false) Zjn ⟨rfl, rfl⟩
   ·refine Za8 [(fV (.bool y3)),
   (fV (.bool (!y3))),
   (fV (.bool (!y3))),
   (fV (.pointer (some ⟨b1, 0, none⟩))),
   (fV (.int .i64 x1.Switch)),
   (fun H v g => v = Value.pointer (some ⟨bq0, oq0, none⟩) ∧ g = [] ∧ RSl H a0_0 c0_0 x0.g.Links ∧ RSl H a0_1 c0_1 x0.versions ∧ MapV false false H mv0_2 x0.ids ∧ Zaj H bq0 oq0 [.int .i64 x0.g.Switches, .slice a0_0 x0.g.Links.length c0_0, .slice a0_1 x0.versions.length c0_1, mv0_2]),
   (fun H v g => v = Value.pointer (some ⟨bq0, oq0, none⟩) ∧ g = [] ∧ RSl H a0_0 c0_0 x0.g.Links ∧ RSl H a0_1 c0_1 x0.versions ∧ MapV false false H mv0_2 x0.ids ∧ Zaj H bq0 oq0 [.int .i64 x0.g.Switches, .slice a0_0 x0.g.Links.length c0_0, .slice a0_1 x0.versions.length c0_1, mv0_2]),
   (fun H v g => v = Value.pointer (some ⟨bq0, oq0, none⟩) ∧ g = [] ∧ RSl H a0_0 c0_0 x0.g.Links ∧ RSl H a0_1 c0_1 x0.versions ∧ MapV false false H mv0_2 x0.ids ∧ Zaj H bq0 oq0 [.int .i64 x0.g.Switches, .slice a0_0 x0.g.Links.length c0_0, .slice a0_1 x0.versions.length c0_1, mv0_2]),
   (fun H v g => v = Value.pointer (some ⟨bq0, oq0, none⟩) ∧ g = [] ∧ RSl H a0_0 c0_0 x0.g.Links ∧ RSl H a0_1 c0_1 x0.versions ∧ MapV false false H mv0_2 x0.ids ∧ Zaj H bq0 oq0 [.int .i64 x0.g.Switches, .slice a0_0 x0.g.Links.length c0_0, .slice a0_1 x0.versions.length c0_1, mv0_2]),
   (fV (.int .i64 x0.g.Switches)),
   (fV (.bool y6)),
   (fV (.bool y6)),
   (fV (.bool y6)),
   (fV (.pointer (some ⟨b1, 1, none⟩))),
   (fV (.int .i64 x1.Port)),
   (fV (.bool y10)),
   (fV (.bool y10)),
   (fV (.bool y10)),
   uF,
   uF,
   uF,
   (fV (.bool false)),
   (fV (.bool false)),
   uF,
   uF,
   uF,
   (fV (.bool false))] [[], [], [], [], [], [], [], [], [], [], [], [], [], [], [], [], [], [], [], [], [], [], [], [], [], [], []] mixed ⟨m0, m0, m0, m0, m0, fun _ _ _ _ hle ⟨e1, e2, h0_, h1_, h2_, h3_⟩ => ⟨e1, e2, RSl.mono hle h0_, RSl.mono hle h1_, MapV.mono hle h2_, Zaj.mono hle h3_⟩, fun _ _ _ _ hle ⟨e1, e2, h0_, h1_, h2_, h3_⟩ => ⟨e1, e2, RSl.mono hle h0_, RSl.mono hle h1_, MapV.mono hle h2_, Zaj.mono hle h3_⟩, fun _ _ _ _ hle ⟨e1, e2, h0_, h1_, h2_, h3_⟩ => ⟨e1, e2, RSl.mono hle h0_, RSl.mono hle h1_, MapV.mono hle h2_, Zaj.mono hle h3_⟩, fun _ _ _ _ hle ⟨e1, e2, h0_, h1_, h2_, h3_⟩ => ⟨e1, e2, RSl.mono hle h0_, RSl.mono hle h1_, MapV.mono hle h2_, Zaj.mono hle h3_⟩, m0, m0, m0, m0, m0, m0, m0, m0, m0, m0, m0, m0, m0, m0, m0, m0, m0, m0, trivial⟩ (by kernel_rfl) (by kernel_rfl) rfl (by kernel_rfl) rfl rfl ?_ ?_
    ·refine dc (fun _ _ _ _ _ _ _ => ?_) ?_
     ·refine Zag (env' := [(5, .bool y3)]) (by exact ⟨rfl, trivial⟩) ?_
      refine Zad rfl ?_
      exact Zai (.bool y3) ⟨rfl, rfl⟩
     refine dc1 0 (fun _ _ _ _ _ _ => ?_) ?_
     ·refine Zdc rfl ?_
      exact Zai (.bool (!y3)) ⟨rfl, rfl⟩
     refine dc1 1 (fun _ _ _ _ _ _ => ?_) ?_
     ·refine Zad rfl ?_
      exact Zai (.bool (!y3)) ⟨rfl, rfl⟩
     refine dc1 2 (fun _ _ _ _ _ _ => ?_) ?_
     ·refine Zaf rfl rfl h5 <| o_fa rfl ?_
      exact Zai (.pointer (some ⟨b1, 0, none⟩)) ⟨rfl, rfl⟩
     refine dc2 2 3 (fun _ _ _ _ _ _ => ?_) ?_
     ·refine Zaf rfl rfl h5 <| o_ld 0 rfl rfl rfl ?_
      exact Zai (.int .i64 x1.Switch) ⟨rfl, rfl⟩
     refine dc1 2 (fun _ _ _ _ hle717 _ => ?_) ?_
     ·have hc720 := Zaj.mono hle717 hcq0
      have hs721 := RSl.mono hle717 hx0_0
      have hs722 := RSl.mono hle717 hx0_1
      have hs723 := MapV.mono hle717 hx0_2
      refine Zaf rfl rfl h5 <| Zad rfl ?_
      exact Zai (.pointer (some ⟨bq0, oq0, none⟩)) ⟨rfl, rfl, hs721, hs722, hs723, hc720⟩
     refine dc (fun _ _ _ _ _ hd731 _ => ?_) ?_
     ·obtain ⟨hv733, hg734⟩ := hd731 2 (by decide)
      obtain ⟨hv735, hg736, hp737, hp738, hp739, hp740⟩ := hd731 5 (by decide)
      refine Zag (env' := [(11, .bool (!y3)), (14, .pointer (some ⟨bq0, oq0, none⟩))]) (by exact ⟨congrArg some hv733, congrArg some hv735, trivial⟩) ?_
      refine Zaf rfl rfl h5 ?_
      refine Zd3 rfl ?_
      exact Zai (.pointer (some ⟨bq0, oq0, none⟩)) ⟨rfl, rfl, hp737, hp738, hp739, hp740⟩
     refine dc (fun _ _ _ _ _ hd746 _ => ?_) ?_
     ·obtain ⟨hv748, hg749⟩ := hd746 2 (by decide)
      obtain ⟨hv750, hg751, hp752, hp753, hp754, hp755⟩ := hd746 6 (by decide)
      refine Zag (env' := [(11, .bool (!y3)), (15, .pointer (some ⟨bq0, oq0, none⟩))]) (by exact ⟨congrArg some hv748, congrArg some hv750, trivial⟩) ?_
      refine Zaf rfl rfl h5 <| o_fa rfl ?_
      exact Zai (.pointer (some ⟨bq0, oq0, none⟩)) ⟨rfl, rfl, hp752, hp753, hp754, hp755⟩
     refine dc (fun _ _ _ _ _ hd761 _ => ?_) ?_
     ·obtain ⟨hv763, hg764⟩ := hd761 2 (by decide)
      obtain ⟨hv765, hg766, hp767, hp768, hp769, hp770⟩ := hd761 7 (by decide)
      refine Zag (env' := [(11, .bool (!y3)), (16, .pointer (some ⟨bq0, oq0, none⟩))]) (by exact ⟨congrArg some hv763, congrArg some hv765, trivial⟩) ?_
      refine Zaf rfl rfl h5 <| o_fa rfl ?_
      exact Zai (.pointer (some ⟨bq0, oq0, none⟩)) ⟨rfl, rfl, hp767, hp768, hp769, hp770⟩
     refine dc (fun _ _ _ _ _ hd776 _ => ?_) ?_
     ·obtain ⟨hv778, hg779⟩ := hd776 2 (by decide)
      obtain ⟨hv780, hg781, hp782, hp783, hp784, hp785⟩ := hd776 8 (by decide)
      refine Zag (env' := [(11, .bool (!y3)), (17, .pointer (some ⟨bq0, oq0, none⟩))]) (by exact ⟨congrArg some hv778, congrArg some hv780, trivial⟩) ?_
      refine Zaf rfl rfl h5 ?_
      refine ZaP 0 hp785 rfl rfl rfl ?_
      exact Zai (.int .i64 x0.g.Switches) ⟨rfl, rfl⟩
     refine Za3 ?_ ?_
     ·intro _ _ H788 fr789 hle790 hd791
      obtain ⟨hv793, hg794⟩ := hd791 2 (by decide)
      obtain ⟨hv795, hg796⟩ := hd791 4 (by decide)
      obtain ⟨hv797, hg798⟩ := hd791 9 (by decide)
      refine ⟨_, (ZaX k x1.Switch 1 x0.g.Switches).bind some, by rw [h8]; rfl, fun _ => ?_⟩
      refine Zag (env' := [(11, .bool (!y3)), (13, .int .i64 x1.Switch), (18, .int .i64 x0.g.Switches)]) (by exact ⟨congrArg some hv793, congrArg some hv795, congrArg some hv797, trivial⟩) ?_
      refine Zaf rfl rfl h5 ?_
      refine s_bg fun y6 h799 => ?_
      refine Zas rfl rfl (Zbe k _ x1.Switch 1 x0.g.Switches h799) ?_
      obtain rfl := Option.some.inj (h8.symm.trans h799)
      exact Zai (.bool y6) ⟨rfl, rfl⟩
     refine dc2 2 10 (fun _ _ _ _ _ _ => ?_) ?_
     ·refine Zan rfl h5 rfl ?_
      exact Zai (.bool y6) ⟨rfl, rfl⟩
     refine dc1 11 (fun _ _ _ _ _ _ => ?_) ?_
     ·refine Zad rfl ?_
      exact Zai (.bool y6) ⟨rfl, rfl⟩
     refine dc1 12 (fun _ _ _ _ _ _ => ?_) ?_
     ·refine Zaf rfl rfl h9 <| o_fa rfl ?_
      exact Zai (.pointer (some ⟨b1, 1, none⟩)) ⟨rfl, rfl⟩
     refine dc2 12 13 (fun _ _ _ _ _ _ => ?_) ?_
     ·refine Zaf rfl rfl h9 <| o_ld 0 rfl rfl rfl ?_
      exact Zai (.int .i64 x1.Port) ⟨rfl, rfl⟩
     refine Za3 ?_ ?_
     ·intro _ _ H844 fr845 hle846 hd847
      obtain ⟨hv849, hg850⟩ := hd847 12 (by decide)
      obtain ⟨hv851, hg852⟩ := hd847 14 (by decide)
      refine ⟨_, (ZaX k x1.Port 0 4).bind some, by rw [h12]; rfl, fun _ => ?_⟩
      refine Zag (env' := [(21, .bool y6), (23, .int .i64 x1.Port)]) (by exact ⟨congrArg some hv849, congrArg some hv851, trivial⟩) ?_
      refine Zaf rfl rfl h9 ?_
      refine s_bg fun y10 h853 => ?_
      refine Zas rfl rfl (Zbe k _ x1.Port 0 4 h853) ?_
      obtain rfl := Option.some.inj (h12.symm.trans h853)
      exact Zai (.bool y10) ⟨rfl, rfl⟩
     refine dc2 12 15 (fun _ _ _ _ _ _ => ?_) ?_
     ·refine Zan rfl h9 rfl ?_
      exact Zai (.bool y10) ⟨rfl, rfl⟩
     refine dc1 16 (fun _ _ _ _ _ _ => ?_) ?_
     ·refine Zad rfl ?_
      exact Zai (.bool y10) ⟨rfl, rfl⟩
     refine dcU 17 h13 ?_
     refine dcU 17 h13 ?_
     refine dcU 17 h13 ?_
     refine dc2 17 20 (fun _ _ _ _ _ _ => ?_) ?_
     ·refine Zal rfl h13 rfl ?_
      exact Zai (.bool false) ⟨rfl, rfl⟩
     refine dc1 21 (fun _ _ _ _ _ _ => ?_) ?_
     ·refine Zad rfl ?_
      exact Zai (.bool false) ⟨rfl, rfl⟩
     refine dcU 22 rfl ?_
     refine dcU 22 rfl ?_
     refine dcU 22 rfl ?_
     refine dc2 22 25 (fun _ _ _ _ _ _ => ?_) ?_
     ·refine Zal rfl rfl rfl ?_
      exact Zai (.bool false) ⟨rfl, rfl⟩
     exact dnil
    ·intro V971 G972 H969 hle970 hF973
     obtain ⟨hv979, hg980⟩ := hF973 26 (show 26 < 27 by decide)
     refine Zag (env' := [(35, .bool false), (0, .pointer (some ⟨bq0, oq0, none⟩)), (1, (aE x1 a1_0 c1_0)), (3, .pointer (some ⟨b1, 0, none⟩)), (4, .bool false), (6, .pointer (some ⟨b1, 7, none⟩)), (7, .slice a1_0 x1.Sent.length c1_0), (8, .bool y3), (5, .bool y3)]) (by exact ⟨congrArg some hv979, rfl, rfl, rfl, rfl, rfl, rfl, rfl, rfl, trivial⟩) ?_
     refine Zam (List.sublist_append_left _ _) ?_
     refine Zah rfl <| Zac ?_
     exact s_r1 4 (.bool false) Zjn ⟨rfl, rfl⟩
  ·refine Za8 [(fV (.bool y3)),
   (fV (.bool (!y3))),
   (fV (.bool (!y3))),
   (fV (.pointer (some ⟨b1, 0, none⟩))),
   (fV (.int .i64 x1.Switch)),
   (fun H v g => v = Value.pointer (some ⟨bq0, oq0, none⟩) ∧ g = [] ∧ RSl H a0_0 c0_0 x0.g.Links ∧ RSl H a0_1 c0_1 x0.versions ∧ MapV false false H mv0_2 x0.ids ∧ Zaj H bq0 oq0 [.int .i64 x0.g.Switches, .slice a0_0 x0.g.Links.length c0_0, .slice a0_1 x0.versions.length c0_1, mv0_2]),
   (fun H v g => v = Value.pointer (some ⟨bq0, oq0, none⟩) ∧ g = [] ∧ RSl H a0_0 c0_0 x0.g.Links ∧ RSl H a0_1 c0_1 x0.versions ∧ MapV false false H mv0_2 x0.ids ∧ Zaj H bq0 oq0 [.int .i64 x0.g.Switches, .slice a0_0 x0.g.Links.length c0_0, .slice a0_1 x0.versions.length c0_1, mv0_2]),
   (fun H v g => v = Value.pointer (some ⟨bq0, oq0, none⟩) ∧ g = [] ∧ RSl H a0_0 c0_0 x0.g.Links ∧ RSl H a0_1 c0_1 x0.versions ∧ MapV false false H mv0_2 x0.ids ∧ Zaj H bq0 oq0 [.int .i64 x0.g.Switches, .slice a0_0 x0.g.Links.length c0_0, .slice a0_1 x0.versions.length c0_1, mv0_2]),
   (fun H v g => v = Value.pointer (some ⟨bq0, oq0, none⟩) ∧ g = [] ∧ RSl H a0_0 c0_0 x0.g.Links ∧ RSl H a0_1 c0_1 x0.versions ∧ MapV false false H mv0_2 x0.ids ∧ Zaj H bq0 oq0 [.int .i64 x0.g.Switches, .slice a0_0 x0.g.Links.length c0_0, .slice a0_1 x0.versions.length c0_1, mv0_2]),
   (fV (.int .i64 x0.g.Switches)),
   (fV (.bool y6)),
   (fV (.bool y6)),
   (fV (.bool y6)),
   uF,
   uF,
   uF,
   (fV (.bool false)),
   (fV (.bool false)),
   uF,
   uF,
   uF,
   (fV (.bool false)),
   (fV (.bool false)),
   uF,
   uF,
   uF,
   (fV (.bool false))] [[], [], [], [], [], [], [], [], [], [], [], [], [], [], [], [], [], [], [], [], [], [], [], [], [], [], []] mixed ⟨m0, m0, m0, m0, m0, fun _ _ _ _ hle ⟨e1, e2, h0_, h1_, h2_, h3_⟩ => ⟨e1, e2, RSl.mono hle h0_, RSl.mono hle h1_, MapV.mono hle h2_, Zaj.mono hle h3_⟩, fun _ _ _ _ hle ⟨e1, e2, h0_, h1_, h2_, h3_⟩ => ⟨e1, e2, RSl.mono hle h0_, RSl.mono hle h1_, MapV.mono hle h2_, Zaj.mono hle h3_⟩, fun _ _ _ _ hle ⟨e1, e2, h0_, h1_, h2_, h3_⟩ => ⟨e1, e2, RSl.mono hle h0_, RSl.mono hle h1_, MapV.mono hle h2_, Zaj.mono hle h3_⟩, fun _ _ _ _ hle ⟨e1, e2, h0_, h1_, h2_, h3_⟩ => ⟨e1, e2, RSl.mono hle h0_, RSl.mono hle h1_, MapV.mono hle h2_, Zaj.mono hle h3_⟩, m0, m0, m0, m0, m0, m0, m0, m0, m0, m0, m0, m0, m0, m0, m0, m0, m0, m0, trivial⟩ (by kernel_rfl) (by kernel_rfl) rfl (by kernel_rfl) rfl rfl ?_ ?_
   ·refine dc (fun _ _ _ _ _ _ _ => ?_) ?_
    ·refine Zag (env' := [(5, .bool y3)]) (by exact ⟨rfl, trivial⟩) ?_
     refine Zad rfl ?_
     exact Zai (.bool y3) ⟨rfl, rfl⟩
    refine dc1 0 (fun _ _ _ _ _ _ => ?_) ?_
    ·refine Zdc rfl ?_
     exact Zai (.bool (!y3)) ⟨rfl, rfl⟩
    refine dc1 1 (fun _ _ _ _ _ _ => ?_) ?_
    ·refine Zad rfl ?_
     exact Zai (.bool (!y3)) ⟨rfl, rfl⟩
    refine dc1 2 (fun _ _ _ _ _ _ => ?_) ?_
    ·refine Zaf rfl rfl h5 <| o_fa rfl ?_
     exact Zai (.pointer (some ⟨b1, 0, none⟩)) ⟨rfl, rfl⟩
    refine dc2 2 3 (fun _ _ _ _ _ _ => ?_) ?_
    ·refine Zaf rfl rfl h5 <| o_ld 0 rfl rfl rfl ?_
     exact Zai (.int .i64 x1.Switch) ⟨rfl, rfl⟩
    refine dc1 2 (fun _ _ _ _ hle1033 _ => ?_) ?_
    ·have hc1036 := Zaj.mono hle1033 hcq0
     have hs1037 := RSl.mono hle1033 hx0_0
     have hs1038 := RSl.mono hle1033 hx0_1
     have hs1039 := MapV.mono hle1033 hx0_2
     refine Zaf rfl rfl h5 <| Zad rfl ?_
     exact Zai (.pointer (some ⟨bq0, oq0, none⟩)) ⟨rfl, rfl, hs1037, hs1038, hs1039, hc1036⟩
    refine dc (fun _ _ _ _ _ hd1047 _ => ?_) ?_
    ·obtain ⟨hv1049, hg1050⟩ := hd1047 2 (by decide)
     obtain ⟨hv1051, hg1052, hp1053, hp1054, hp1055, hp1056⟩ := hd1047 5 (by decide)
     refine Zag (env' := [(11, .bool (!y3)), (14, .pointer (some ⟨bq0, oq0, none⟩))]) (by exact ⟨congrArg some hv1049, congrArg some hv1051, trivial⟩) ?_
     refine Zaf rfl rfl h5 ?_
     refine Zd3 rfl ?_
     exact Zai (.pointer (some ⟨bq0, oq0, none⟩)) ⟨rfl, rfl, hp1053, hp1054, hp1055, hp1056⟩
    refine dc (fun _ _ _ _ _ hd1062 _ => ?_) ?_
    ·obtain ⟨hv1064, hg1065⟩ := hd1062 2 (by decide)
     obtain ⟨hv1066, hg1067, hp1068, hp1069, hp1070, hp1071⟩ := hd1062 6 (by decide)
     refine Zag (env' := [(11, .bool (!y3)), (15, .pointer (some ⟨bq0, oq0, none⟩))]) (by exact ⟨congrArg some hv1064, congrArg some hv1066, trivial⟩) ?_
     refine Zaf rfl rfl h5 <| o_fa rfl ?_
     exact Zai (.pointer (some ⟨bq0, oq0, none⟩)) ⟨rfl, rfl, hp1068, hp1069, hp1070, hp1071⟩
    refine dc (fun _ _ _ _ _ hd1077 _ => ?_) ?_
    ·obtain ⟨hv1079, hg1080⟩ := hd1077 2 (by decide)
     obtain ⟨hv1081, hg1082, hp1083, hp1084, hp1085, hp1086⟩ := hd1077 7 (by decide)
     refine Zag (env' := [(11, .bool (!y3)), (16, .pointer (some ⟨bq0, oq0, none⟩))]) (by exact ⟨congrArg some hv1079, congrArg some hv1081, trivial⟩) ?_
     refine Zaf rfl rfl h5 <| o_fa rfl ?_
     exact Zai (.pointer (some ⟨bq0, oq0, none⟩)) ⟨rfl, rfl, hp1083, hp1084, hp1085, hp1086⟩
    refine dc (fun _ _ _ _ _ hd1092 _ => ?_) ?_
    ·obtain ⟨hv1094, hg1095⟩ := hd1092 2 (by decide)
     obtain ⟨hv1096, hg1097, hp1098, hp1099, hp1100, hp1101⟩ := hd1092 8 (by decide)
     refine Zag (env' := [(11, .bool (!y3)), (17, .pointer (some ⟨bq0, oq0, none⟩))]) (by exact ⟨congrArg some hv1094, congrArg some hv1096, trivial⟩) ?_
     refine Zaf rfl rfl h5 ?_
     refine ZaP 0 hp1101 rfl rfl rfl ?_
     exact Zai (.int .i64 x0.g.Switches) ⟨rfl, rfl⟩
    refine Za3 ?_ ?_
    ·intro _ _ H1104 fr1105 hle1106 hd1107
     obtain ⟨hv1109, hg1110⟩ := hd1107 2 (by decide)
     obtain ⟨hv1111, hg1112⟩ := hd1107 4 (by decide)
     obtain ⟨hv1113, hg1114⟩ := hd1107 9 (by decide)
     refine ⟨_, (ZaX k x1.Switch 1 x0.g.Switches).bind some, by rw [h8]; rfl, fun _ => ?_⟩
     refine Zag (env' := [(11, .bool (!y3)), (13, .int .i64 x1.Switch), (18, .int .i64 x0.g.Switches)]) (by exact ⟨congrArg some hv1109, congrArg some hv1111, congrArg some hv1113, trivial⟩) ?_
     refine Zaf rfl rfl h5 ?_
     refine s_bg fun y6 h1115 => ?_
     refine Zas rfl rfl (Zbe k _ x1.Switch 1 x0.g.Switches h1115) ?_
     obtain rfl := Option.some.inj (h8.symm.trans h1115)
     exact Zai (.bool y6) ⟨rfl, rfl⟩
    refine dc2 2 10 (fun _ _ _ _ _ _ => ?_) ?_
    ·refine Zan rfl h5 rfl ?_
     exact Zai (.bool y6) ⟨rfl, rfl⟩
    refine dc1 11 (fun _ _ _ _ _ _ => ?_) ?_
    ·refine Zad rfl ?_
     exact Zai (.bool y6) ⟨rfl, rfl⟩
    refine dcU 12 h9 ?_
    refine dcU 12 h9 ?_
    refine dcU 12 h9 ?_
    refine dc2 12 15 (fun _ _ _ _ _ _ => ?_) ?_
    ·refine Zal rfl h9 rfl ?_
     exact Zai (.bool false) ⟨rfl, rfl⟩
    refine dc1 16 (fun _ _ _ _ _ _ => ?_) ?_
    ·refine Zad rfl ?_
     exact Zai (.bool false) ⟨rfl, rfl⟩
    refine dcU 17 rfl ?_
    refine dcU 17 rfl ?_
    refine dcU 17 rfl ?_
    refine dc2 17 20 (fun _ _ _ _ _ _ => ?_) ?_
    ·refine Zal rfl rfl rfl ?_
     exact Zai (.bool false) ⟨rfl, rfl⟩
    refine dc1 21 (fun _ _ _ _ _ _ => ?_) ?_
    ·refine Zad rfl ?_
     exact Zai (.bool false) ⟨rfl, rfl⟩
    refine dcU 22 rfl ?_
    refine dcU 22 rfl ?_
    refine dcU 22 rfl ?_
    refine dc2 22 25 (fun _ _ _ _ _ _ => ?_) ?_
    ·refine Zal rfl rfl rfl ?_
     exact Zai (.bool false) ⟨rfl, rfl⟩
    exact dnil
   ·intro V1285 G1286 H1283 hle1284 hF1287
    obtain ⟨hv1293, hg1294⟩ := hF1287 26 (show 26 < 27 by decide)
    refine Zag (env' := [(35, .bool false), (0, .pointer (some ⟨bq0, oq0, none⟩)), (1, (aE x1 a1_0 c1_0)), (3, .pointer (some ⟨b1, 0, none⟩)), (4, .bool false), (6, .pointer (some ⟨b1, 7, none⟩)), (7, .slice a1_0 x1.Sent.length c1_0), (8, .bool y3), (5, .bool y3)]) (by exact ⟨congrArg some hv1293, rfl, rfl, rfl, rfl, rfl, rfl, rfl, rfl, trivial⟩) ?_
    refine Zam (List.sublist_append_left _ _) ?_
    refine Zah rfl <| Zac ?_
    exact s_r1 4 (.bool false) Zjn ⟨rfl, rfl⟩
 ·refine Za8 [(fV (.bool y3)),
   (fV (.bool (!y3))),
   (fV (.bool (!y3))),
   uF,
   uF,
   uF,
   uF,
   uF,
   uF,
   uF,
   uF,
   (fV (.bool false)),
   (fV (.bool false)),
   uF,
   uF,
   uF,
   (fV (.bool false)),
   (fV (.bool false)),
   uF,
   uF,
   uF,
   (fV (.bool false)),
   (fV (.bool false)),
   uF,
   uF,
   uF,
   (fV (.bool false))] [[], [], [], [], [], [], [], [], [], [], [], [], [], [], [], [], [], [], [], [], [], [], [], [], [], [], []] mixed ⟨m0, m0, m0, m0, m0, m0, m0, m0, m0, m0, m0, m0, m0, m0, m0, m0, m0, m0, m0, m0, m0, m0, m0, m0, m0, m0, m0, trivial⟩ (by kernel_rfl) (by kernel_rfl) rfl (by kernel_rfl) rfl rfl ?_ ?_
  ·refine dc (fun _ _ _ _ _ _ _ => ?_) ?_
   ·refine Zag (env' := [(5, .bool y3)]) (by exact ⟨rfl, trivial⟩) ?_
    refine Zad rfl ?_
    exact Zai (.bool y3) ⟨rfl, rfl⟩
   refine dc1 0 (fun _ _ _ _ _ _ => ?_) ?_
   ·refine Zdc rfl ?_
    exact Zai (.bool (!y3)) ⟨rfl, rfl⟩
   refine dc1 1 (fun _ _ _ _ _ _ => ?_) ?_
   ·refine Zad rfl ?_
    exact Zai (.bool (!y3)) ⟨rfl, rfl⟩
   refine dcU 2 h5 ?_
   refine dcU 2 h5 ?_
   refine dcU 2 h5 ?_
   refine dcU 2 h5 ?_
   refine dcU 2 h5 ?_
   refine dcU 2 h5 ?_
   refine dcU 2 h5 ?_
   refine dcU 2 h5 ?_
   refine dc2 2 10 (fun _ _ _ _ _ _ => ?_) ?_
   ·refine Zal rfl h5 rfl ?_
    exact Zai (.bool false) ⟨rfl, rfl⟩
   refine dc1 11 (fun _ _ _ _ _ _ => ?_) ?_
   ·refine Zad rfl ?_
    exact Zai (.bool false) ⟨rfl, rfl⟩
   refine dcU 12 rfl ?_
   refine dcU 12 rfl ?_
   refine dcU 12 rfl ?_
   refine dc2 12 15 (fun _ _ _ _ _ _ => ?_) ?_
   ·refine Zal rfl rfl rfl ?_
    exact Zai (.bool false) ⟨rfl, rfl⟩
   refine dc1 16 (fun _ _ _ _ _ _ => ?_) ?_
   ·refine Zad rfl ?_
    exact Zai (.bool false) ⟨rfl, rfl⟩
   refine dcU 17 rfl ?_
   refine dcU 17 rfl ?_
   refine dcU 17 rfl ?_
   refine dc2 17 20 (fun _ _ _ _ _ _ => ?_) ?_
   ·refine Zal rfl rfl rfl ?_
    exact Zai (.bool false) ⟨rfl, rfl⟩
   refine dc1 21 (fun _ _ _ _ _ _ => ?_) ?_
   ·refine Zad rfl ?_
    exact Zai (.bool false) ⟨rfl, rfl⟩
   refine dcU 22 rfl ?_
   refine dcU 22 rfl ?_
   refine dcU 22 rfl ?_
   refine dc2 22 25 (fun _ _ _ _ _ _ => ?_) ?_
   ·refine Zal rfl rfl rfl ?_
    exact Zai (.bool false) ⟨rfl, rfl⟩
   exact dnil
  ·intro V1580 G1581 H1578 hle1579 hF1582
   obtain ⟨hv1588, hg1589⟩ := hF1582 26 (show 26 < 27 by decide)
   refine Zag (env' := [(35, .bool false), (0, .pointer (some ⟨bq0, oq0, none⟩)), (1, (aE x1 a1_0 c1_0)), (3, .pointer (some ⟨b1, 0, none⟩)), (4, .bool false), (6, .pointer (some ⟨b1, 7, none⟩)), (7, .slice a1_0 x1.Sent.length c1_0), (8, .bool y3), (5, .bool y3)]) (by exact ⟨congrArg some hv1588, rfl, rfl, rfl, rfl, rfl, rfl, rfl, rfl, trivial⟩) ?_
   refine Zam (List.sublist_append_left _ _) ?_
   refine Zah rfl <| Zac ?_
   exact s_r1 4 (.bool false) Zjn ⟨rfl, rfl⟩
def slices_Index___api_Sent_api_Sent__l0 (k : Nat) (x0 : (List Sent)) (x1 : Sent) : Nat → Int → Option (LX (Int) (Unit))
 | 0, _ => none
 | q8 + 1, s7 =>
  if (decide (s7 < (x0.length : Int))) = true then
   (rd x0 s7).bind fun y14 =>
   if (decide (x1 = y14)) = true then
    some (.ret s7)
   else
    slices_Index___api_Sent_api_Sent__l0 k x0 x1 q8 (w64 (s7 + 1))
  else
   some (.out ())
def Zbt (k : Nat) (x0 : (List Sent)) (x1 : Sent) : Option Int :=
 (slices_Index___api_Sent_api_Sent__l0 k x0 x1 k 0).bind (LX.go fun p3 =>
 some (-1))
theorem Zkn : Tryz.prog.funcs[161]? = some Tryz.f161 := by kernel_rfl
theorem Zc8 (k : Nat) (H : Heap) (x0 : (List Sent)) (a0_0 : Option Addr) (c0_0 : Nat) (hx0_0 : RSl H a0_0 c0_0 x0) (x1 : Sent) {r : Int} (hr : Zbt k x0 x1 = some r) :
  Fn Tryz.prog 161 [.slice a0_0 x0.length c0_0, (aS x1)] H [] fun H' v out => v = .int .i64 r ∧ out = [] := by
 refine Zaq (args := [.slice a0_0 x0.length c0_0, (aS x1)]) (n := 19) (Φ := fun r H' v out => v = .int .i64 r ∧ out = []) hr Zkn rfl rfl rfl fun w => ?_
 refine s_eq (by rw [Zbt]) ?_
 refine Zae <| Zaa ?_
 refine ZbO rfl fun b1 => ?_
 refine Zah rfl <| Zac <| Zae <| Zae <| Zaa <| Zad rfl <| ZaG rfl <| Zad rfl <| Zac ?_
 refine ZbR (fun p3 env own H' => env = [] ∧ own = [] ∧ Hle H H') ?_ ?_
 ·rintro p3 _ _ H4 ⟨rfl, rfl, hle5⟩
  refine Zae <| Zaa <| Zah rfl <| Zac ?_
  exact s_r1 4 (.int .i64 (-1)) Zkn ⟨rfl, rfl⟩
 ·intro J6
  refine Zat ?_
  refine Zag (env' := [(0, .slice a0_0 x0.length c0_0), (3, .pointer (some ⟨b1, 0, none⟩)), (7, .int .i64 (x0.length : Int)), (8, .int .i64 0)]) (by exact ⟨rfl, rfl, rfl, rfl, trivial⟩) ?_
  refine Zam (own' := [.blk b1 (Zak (cS x1) 47)]) (.cons_cons _ .slnil) ?_
  refine Za2 (fun q s7 => slices_Index___api_Sent_api_Sent__l0 k x0 x1 q s7) (fun s7 env own H' => env = [(0, .slice a0_0 x0.length c0_0), (3, .pointer (some ⟨b1, 0, none⟩)), (7, .int .i64 (x0.length : Int)), (8, .int .i64 s7)] ∧ own = [.blk b1 (Zak (cS x1) 47)] ∧ Hle H H') (fun _ => rfl) ?_ k 0 ⟨rfl, rfl, .refl _⟩
  rintro q8 ih9 s7 _ _ H10 ⟨rfl, rfl, hle11⟩
  refine s_eq (by rw [slices_Index___api_Sent_api_Sent__l0]) ?_
  have hs12 := RSl.mono hle11 hx0_0
  refine Zae <| Zaa <| o_lt rfl rfl <| Zac <| Zae ?_
  refine Zao rfl (fun h13 => ?_) (fun h13 => ?_)
  ·refine Zar <| Zae <| Zat <| Zae <| Zaa <| Zad rfl <| Zah rfl <| Zac <| Zae ?_
   refine s_bg fun y14 h19 => ?_
   refine Za8 [(fV ((aS x1))),
   (fun H v g => v = Value.slice a0_0 x0.length c0_0 ∧ g = [] ∧ RSl H a0_0 c0_0 x0),
   (fV (.int .i64 s7)),
   (fun H v g => ∃ bk21 of22, v = Value.pointer (some ⟨bk21, of22, none⟩) ∧ g = [] ∧ Zaj H bk21 of22 (cS y14)),
   (fV ((aS y14))),
   (fV (.bool (decide (x1 = y14))))] [[], [], [], [], [], []] mixed ⟨m0, fun _ _ _ _ hle ⟨e1, e2, h0_⟩ => ⟨e1, e2, RSl.mono hle h0_⟩, m0, fun _ _ _ _ hle ⟨bk21, of22, e1, e2, h0_⟩ => ⟨_, _, e1, e2, Zaj.mono hle h0_⟩, m0, m0, trivial⟩ (by kernel_rfl) (by kernel_rfl) rfl (by kernel_rfl) rfl rfl ?_ ?_
   ·refine dc (fun _ _ _ _ _ _ _ => ?_) ?_
    ·refine Zag (env' := [(3, .pointer (some ⟨b1, 0, none⟩))]) (by exact ⟨rfl, trivial⟩) ?_
     refine o_ld 0 rfl rfl rfl ?_
     exact Zai ((aS x1)) ⟨rfl, rfl⟩
    refine dc (fun _ _ _ _ hle35 _ _ => ?_) ?_
    ·have hs38 := RSl.mono hle35 hs12
     refine Zag (env' := [(0, .slice a0_0 x0.length c0_0)]) (by exact ⟨rfl, trivial⟩) ?_
     refine Zad rfl ?_
     exact Zai (.slice a0_0 x0.length c0_0) ⟨rfl, rfl, hs38⟩
    refine dc (fun _ _ _ _ _ _ _ => ?_) ?_
    ·refine Zag (env' := [(5, .int .i64 s7)]) (by exact ⟨rfl, trivial⟩) ?_
     refine Zad rfl ?_
     exact Zai (.int .i64 s7) ⟨rfl, rfl⟩
    refine Za3 ?_ ?_
    ·intro _ _ H48 fr49 hle50 hd51
     obtain ⟨hv53, hg54, hp55⟩ := hd51 1 (by decide)
     obtain ⟨hv56, hg57⟩ := hd51 2 (by decide)
     refine ⟨_, (rd x0 s7).bind some, by rw [h19]; rfl, fun _ => ?_⟩
     refine Zag (env' := [(12, .slice a0_0 x0.length c0_0), (13, .int .i64 s7)]) (by exact ⟨congrArg some hv53, congrArg some hv56, trivial⟩) ?_
     refine Zce hp55 rfl rfl fun y14 bk59 of60 h58 hc61 => ?_
     obtain rfl := Option.some.inj (h19.symm.trans h58)
     exact Zai (.pointer (some ⟨bk59, of60, none⟩)) ⟨bk59, of60, rfl, rfl, hc61⟩
    refine dc (fun _ _ _ _ _ hd67 _ => ?_) ?_
    ·obtain ⟨bk69, of70, hv71, hg72, hp73⟩ := hd67 3 (by decide)
     refine Zag (env' := [(14, .pointer (some ⟨bk69, of70, none⟩))]) (by exact ⟨congrArg some hv71, trivial⟩) ?_
     refine ZaP 0 hp73 rfl rfl rfl ?_
     exact Zai ((aS y14)) ⟨rfl, rfl⟩
    refine dc2 0 4 (fun _ _ _ _ _ _ => ?_) ?_
    ·refine ZfV x1 y14 rfl rfl ?_
     exact Zai (.bool (decide (x1 = y14))) ⟨rfl, rfl⟩
    exact dnil
   ·intro V87 G88 H85 hle86 hF89
    obtain ⟨hv91, hg92⟩ := hF89 5 (show 5 < 6 by decide)
    refine Zag (env' := [(16, .bool (decide (x1 = y14))), (0, .slice a0_0 x0.length c0_0), (3, .pointer (some ⟨b1, 0, none⟩)), (7, .int .i64 (x0.length : Int)), (8, .int .i64 s7), (9, .bool (decide (s7 < (x0.length : Int)))), (10, .int .i64 s7), (5, .int .i64 s7)]) (by exact ⟨congrArg some hv91, rfl, rfl, rfl, rfl, rfl, rfl, rfl, trivial⟩) ?_
    refine Zam (List.sublist_append_left _ _) ?_
    refine Zac ?_
    refine Zao rfl (fun h93 => ?_) (fun h93 => ?_)
    ·refine Zae <| Zaa <| Zad rfl <| Zah rfl <| Zac <| ZbQ ?_
     exact s_r1 4 (.int .i64 s7) Zkn ⟨rfl, rfl⟩
    ·refine Zar <| Zav <| Zaa <| ZbM rfl rfl <| Zad rfl <| Zac ?_
     exact Zag (by exact ⟨rfl, rfl, rfl, rfl, trivial⟩) (Zam (by exact (.cons_cons _ .slnil)) (ih9 (w64 (s7 + 1)) _ _ _ ⟨rfl, rfl, (Hle.trans hle11 hle86)⟩))
  ·refine Zbf rfl ?_
   exact Zag (by exact trivial) (Zam (by exact (.cons _ .slnil)) (J6 () _ _ _ ⟨rfl, rfl, hle11⟩))
def ZaR (k : Nat) (x0 : (List Sent)) (x1 : Sent) : Option Bool :=
 (Zbt k x0 x1).bind fun y3 =>
 some (decide (y3 ≥ 0))
theorem Zl6 : Tryz.prog.funcs[111]? = some Tryz.f111 := by kernel_rfl
theorem ZcV (k : Nat) (H : Heap) (x0 : (List Sent)) (a0_0 : Option Addr) (c0_0 : Nat) (hx0_0 : RSl H a0_0 c0_0 x0) (x1 : Sent) {r : Bool} (hr : ZaR k x0 x1 = some r) :
  Fn Tryz.prog 111 [.slice a0_0 x0.length c0_0, (aS x1)] H [] fun H' v out => v = .bool r ∧ out = [] := by
 refine Zaq (args := [.slice a0_0 x0.length c0_0, (aS x1)]) (n := 9) (Φ := fun r H' v out => v = .bool r ∧ out = []) hr Zl6 rfl rfl rfl fun w => ?_
 refine s_eq (by rw [ZaR]) ?_
 refine Zae <| Zaa ?_
 refine ZbO rfl fun b1 => ?_
 refine Zah rfl <| Zac <| Zae <| Zaa <| Zad rfl <| o_ld 0 rfl rfl rfl ?_
 refine s_bg fun y3 h4 => ?_
 refine Zas rfl rfl (Zc8 k _ x0 _ _ hx0_0 x1 h4) ?_
 refine o_ge rfl rfl <| Zah rfl <| Zac ?_
 exact s_r1 4 (.bool (decide (y3 ≥ 0))) Zl6 ⟨rfl, rfl⟩
def Zbh (k : Nat) (x0 : Judge_look) (x1 : Event) (y4 : End × Int × Bool) : Nat → (Int × Int) → Option (Int)
 | 0, _ => none
 | q338 + 1, s337 =>
  if (decide (s337.2 < ((mgetD (x0.ids.getD []) x1.Id ([] : (List Judge_seen))).length : Int))) = true then
   (rd (mgetD (x0.ids.getD []) x1.Id ([] : (List Judge_seen))) s337.2).bind fun y345 =>
   (ZaR k y345.Event.Sent (⟨y4.1.Port, x1.H⟩ : Sent)).bind fun y357 =>
   if ((y357 && ((y345.Event.Switch == y4.1.Switch) && ((y345.Event.Ver == x1.Ver) && ((s337.1 == 0) || decide (y345.depth < (w64 (s337.1 - 1)))))))) = true then
    Zbh k x0 x1 y4 q338 (w64 (y345.depth + 1), w64 (s337.2 + 1))
   else
    Zbh k x0 x1 y4 q338 (s337.1, w64 (s337.2 + 1))
  else
   some s337.1
def ZcK (k : Nat) (x0 : Judge_look) (x1 : Event) : Option Int :=
 if (x1.Port == 0) = true then
  some 1
 else
  (ZdP k x0.g (⟨x1.Switch, x1.Port⟩ : End)).bind fun y4 =>
  if (!y4.2.2) = true then
   some 0
  else
   (Zbh k x0 x1 y4 k (0, 0)).bind fun p333 =>
   some p333
theorem Zlk : Tryz.prog.funcs[70]? = some Tryz.f70 := by kernel_rfl
theorem Zfi (k : Nat) (H : Heap) (x0 : Judge_look) (bq0 oq0 : Nat) (a0_0 : Option Addr) (c0_0 : Nat) (hx0_0 : RSl H a0_0 c0_0 x0.g.Links) (a0_1 : Option Addr) (c0_1 : Nat) (hx0_1 : RSl H a0_1 c0_1 x0.versions) (mv0_2 : Value) (hx0_2 : MapV false false H mv0_2 x0.ids) (hcq0 : Zaj H bq0 oq0 [.int .i64 x0.g.Switches, .slice a0_0 x0.g.Links.length c0_0, .slice a0_1 x0.versions.length c0_1, mv0_2]) (x1 : Event) (a1_0 : Option Addr) (c1_0 : Nat) (hx1_0 : RSl H a1_0 c1_0 x1.Sent) {r : Int} (hr : ZcK k x0 x1 = some r) :
  Fn Tryz.prog 70 [.pointer (some ⟨bq0, oq0, none⟩), (aE x1 a1_0 c1_0)] H [] fun H' v out => v = .int .i64 r ∧ out = [] := by
 refine Zaq (args := [.pointer (some ⟨bq0, oq0, none⟩), (aE x1 a1_0 c1_0)]) (n := 84) (Φ := fun r H' v out => v = .int .i64 r ∧ out = []) hr Zlk rfl rfl rfl fun w => ?_
 refine s_eq (by rw [ZcK]) ?_
 refine Zae <| Zaa ?_
 refine ZbO rfl fun b1 => ?_
 refine Zah rfl <| Zac <| Zae <| Zae <| Zaa <| o_fa rfl <| o_ld 0 rfl rfl rfl <| o_eq rfl rfl <| Zac ?_
 refine Zao rfl (fun h3 => ?_) (fun h3 => ?_)
 ·refine Zae <| Zaa <| Zah rfl <| Zac ?_
  exact s_r1 4 (.int .i64 1) Zlk ⟨rfl, rfl⟩
 ·refine Zar <| Zae ?_
  refine s_bg fun y4 h6 => ?_
  refine Zag (env' := [(0, .pointer (some ⟨bq0, oq0, none⟩)), (1, (aE x1 a1_0 c1_0)), (3, .pointer (some ⟨b1, 0, none⟩)), (4, .int .i64 0), (11, .pointer (some ⟨b1, 1, none⟩)), (12, .int .i64 x1.Port), (13, .bool (x1.Port == 0))]) (by exact ⟨rfl, rfl, rfl, rfl, rfl, rfl, rfl, trivial⟩) ?_
  refine ZbL (own' := [.blk b1 (Zak (cE x1 a1_0 c1_0) 44)] ++ []) rfl ?_
  refine Zha [] [] [(fun V H v g => v = Value.pointer (some ⟨bq0, oq0, none⟩) ∧ g = [] ∧ RSl H a0_0 c0_0 x0.g.Links ∧ RSl H a0_1 c0_1 x0.versions ∧ MapV false false H mv0_2 x0.ids ∧ Zaj H bq0 oq0 [.int .i64 x0.g.Switches, .slice a0_0 x0.g.Links.length c0_0, .slice a0_1 x0.versions.length c0_1, mv0_2]),
   (fun V H v g => v = Value.pointer (some ⟨bq0, oq0, none⟩) ∧ g = [] ∧ RSl H a0_0 c0_0 x0.g.Links ∧ RSl H a0_1 c0_1 x0.versions ∧ MapV false false H mv0_2 x0.ids ∧ Zaj H bq0 oq0 [.int .i64 x0.g.Switches, .slice a0_0 x0.g.Links.length c0_0, .slice a0_1 x0.versions.length c0_1, mv0_2]),
   (fun V H v g => v = Value.pointer (some ⟨bq0, oq0, none⟩) ∧ g = [] ∧ RSl H a0_0 c0_0 x0.g.Links ∧ RSl H a0_1 c0_1 x0.versions ∧ MapV false false H mv0_2 x0.ids ∧ Zaj H bq0 oq0 [.int .i64 x0.g.Switches, .slice a0_0 x0.g.Links.length c0_0, .slice a0_1 x0.versions.length c0_1, mv0_2]),
   (fun V H v g => v = Value.agg #[.int .i64 x0.g.Switches, .slice a0_0 x0.g.Links.length c0_0] ∧ g = [] ∧ RSl H a0_0 c0_0 x0.g.Links),
   (fun V H v g => v = Value.pointer (some ⟨b1, 0, none⟩) ∧ g = []),
   (fun V H v g => v = Value.int .i64 x1.Switch ∧ g = []),
   (fun V H v g => v = Value.pointer (some ⟨b1, 1, none⟩) ∧ g = []),
   (fun V H v g => v = Value.int .i64 x1.Port ∧ g = []),
   (fun V H v g => v = Value.agg #[.int .i64 x1.Switch, .int .i64 x1.Port] ∧ g = []),
   (fun V H v g => v = Value.tuple #[.agg #[.int .i64 y4.1.Switch, .int .i64 y4.1.Port], .int .i64 y4.2.1, .bool y4.2.2] ∧ g = []),
   (fun V H v g => v = Value.tuple #[.agg #[.int .i64 y4.1.Switch, .int .i64 y4.1.Port], .int .i64 y4.2.1, .bool y4.2.2] ∧ g = []),
   (fun V H v g => v = Value.agg #[.int .i64 y4.1.Switch, .int .i64 y4.1.Port] ∧ g = []),
   (fun V H v g => v = Value.int .i64 y4.2.1 ∧ g = []),
   (fun V H v g => v = Value.bool y4.2.2 ∧ g = []),
   (fun V H v g => ∃ b10, v = Value.pointer (some ⟨b10, 0, none⟩) ∧ g = [.blk b10 (Zak [.int .i64 0, .int .i64 0] 81)]),
   (fun V H v g => ∃ b10, v = undef ∧ g = [.blk b10 (Zak [.int .i64 y4.1.Switch, .int .i64 y4.1.Port] 81)] ∧ V 14 = .pointer (some ⟨b10, 0, none⟩)),
   (fun V H v g => v = Value.int .i64 y4.2.1 ∧ g = [])] [[], [], [], [], [], [], [], [], [], [], [], [], [], [], [], [14], []] mixed ⟨fun _ _ _ _ _ hle ⟨e1, e2, h0_, h1_, h2_, h3_⟩ => ⟨e1, e2, RSl.mono hle h0_, RSl.mono hle h1_, MapV.mono hle h2_, Zaj.mono hle h3_⟩, fun _ _ _ _ _ hle ⟨e1, e2, h0_, h1_, h2_, h3_⟩ => ⟨e1, e2, RSl.mono hle h0_, RSl.mono hle h1_, MapV.mono hle h2_, Zaj.mono hle h3_⟩, fun _ _ _ _ _ hle ⟨e1, e2, h0_, h1_, h2_, h3_⟩ => ⟨e1, e2, RSl.mono hle h0_, RSl.mono hle h1_, MapV.mono hle h2_, Zaj.mono hle h3_⟩, fun _ _ _ _ _ hle ⟨e1, e2, h0_⟩ => ⟨e1, e2, RSl.mono hle h0_⟩, m0V, m0V, m0V, m0V, m0V, m0V, m0V, m0V, m0V, m0V, m0V, m0V, m0V, trivial⟩ ⟨l0V, l0V, l0V, l0V, l0V, l0V, l0V, l0V, l0V, l0V, l0V, l0V, l0V, l0V, l0V, fun V V' hV H v g ⟨b10, e1, e2, hl_⟩ => ⟨_, e1, e2, (hV 14 (by decide)).symm.trans hl_⟩, l0V, trivial⟩ (by kernel_rfl) (by kernel_rfl) rfl (by kernel_rfl) rfl rfl rfl (by exact ⟨rfl, rfl, rfl, rfl, rfl, rfl, rfl, trivial⟩) (by exact trivial) ?_ ?_
  ·refine Zb8 ?_ ?_
   ·intro _ _ H14 fr15 hvg18 hle16 hd17
    have hc19 := Zaj.mono hle16 hcq0
    have hs20 := RSl.mono hle16 hx0_0
    have hs21 := RSl.mono hle16 hx0_1
    have hs22 := MapV.mono hle16 hx0_2
    refine ⟨_, some (), rfl, fun _ => ?_⟩
    refine Zag (env' := [(0, .pointer (some ⟨bq0, oq0, none⟩))]) (by exact ⟨rfl, trivial⟩) ?_
    refine Zad rfl ?_
    exact Zai (.pointer (some ⟨bq0, oq0, none⟩)) ⟨rfl, rfl, hs20, hs21, hs22, hc19⟩
   refine Zb8 ?_ ?_
   ·intro _ _ H25 fr26 hvg29 hle27 hd28
    obtain ⟨hv30, hg31, hp32, hp33, hp34, hp35⟩ := hd28 0 (by decide)
    refine ⟨_, some (), rfl, fun _ => ?_⟩
    refine Zag (env' := [(15, .pointer (some ⟨bq0, oq0, none⟩))]) (by exact ⟨congrArg some hv30, trivial⟩) ?_
    refine Zd3 rfl ?_
    exact Zai (.pointer (some ⟨bq0, oq0, none⟩)) ⟨rfl, rfl, hp32, hp33, hp34, hp35⟩
   refine Zb8 ?_ ?_
   ·intro _ _ H38 fr39 hvg42 hle40 hd41
    obtain ⟨hv43, hg44, hp45, hp46, hp47, hp48⟩ := hd41 1 (by decide)
    refine ⟨_, some (), rfl, fun _ => ?_⟩
    refine Zag (env' := [(16, .pointer (some ⟨bq0, oq0, none⟩))]) (by exact ⟨congrArg some hv43, trivial⟩) ?_
    refine o_fa rfl ?_
    exact Zai (.pointer (some ⟨bq0, oq0, none⟩)) ⟨rfl, rfl, hp45, hp46, hp47, hp48⟩
   refine Zb8 ?_ ?_
   ·intro _ _ H51 fr52 hvg55 hle53 hd54
    obtain ⟨hv56, hg57, hp58, hp59, hp60, hp61⟩ := hd54 2 (by decide)
    refine ⟨_, some (), rfl, fun _ => ?_⟩
    refine Zag (env' := [(17, .pointer (some ⟨bq0, oq0, none⟩))]) (by exact ⟨congrArg some hv56, trivial⟩) ?_
    refine ZaP 0 hp61 rfl rfl rfl ?_
    exact Zai (.agg #[.int .i64 x0.g.Switches, .slice a0_0 x0.g.Links.length c0_0]) ⟨rfl, rfl, hp58⟩
   refine Zb8 ?_ ?_
   ·intro _ _ H64 fr65 hvg68 hle66 hd67
    refine ⟨_, some (), rfl, fun _ => ?_⟩
    refine Zag (env' := [(3, .pointer (some ⟨b1, 0, none⟩))]) (by exact ⟨rfl, trivial⟩) ?_
    refine o_fa rfl ?_
    exact Zai (.pointer (some ⟨b1, 0, none⟩)) ⟨rfl, rfl⟩
   refine Zb8 ?_ ?_
   ·intro _ _ H72 fr73 hvg76 hle74 hd75
    obtain ⟨hv78, hg79⟩ := hd75 4 (by decide)
    refine ⟨_, some (), rfl, fun _ => ?_⟩
    refine Zag (env' := [(19, .pointer (some ⟨b1, 0, none⟩))]) (by exact ⟨congrArg some hv78, trivial⟩) ?_
    refine o_ld 0 rfl rfl rfl ?_
    exact Zai (.int .i64 x1.Switch) ⟨rfl, rfl⟩
   refine Zb8 ?_ ?_
   ·intro _ _ H82 fr83 hvg86 hle84 hd85
    refine ⟨_, some (), rfl, fun _ => ?_⟩
    refine Zag (env' := [(3, .pointer (some ⟨b1, 0, none⟩))]) (by exact ⟨rfl, trivial⟩) ?_
    refine o_fa rfl ?_
    exact Zai (.pointer (some ⟨b1, 1, none⟩)) ⟨rfl, rfl⟩
   refine Zb8 ?_ ?_
   ·intro _ _ H90 fr91 hvg94 hle92 hd93
    obtain ⟨hv96, hg97⟩ := hd93 6 (by decide)
    refine ⟨_, some (), rfl, fun _ => ?_⟩
    refine Zag (env' := [(21, .pointer (some ⟨b1, 1, none⟩))]) (by exact ⟨congrArg some hv96, trivial⟩) ?_
    refine o_ld 0 rfl rfl rfl ?_
    exact Zai (.int .i64 x1.Port) ⟨rfl, rfl⟩
   refine Zb8 ?_ ?_
   ·intro _ _ H100 fr101 hvg104 hle102 hd103
    obtain ⟨hv105, hg106⟩ := hd103 5 (by decide)
    obtain ⟨hv107, hg108⟩ := hd103 7 (by decide)
    refine ⟨_, some (), rfl, fun _ => ?_⟩
    refine Zag (env' := [(20, .int .i64 x1.Switch), (22, .int .i64 x1.Port)]) (by exact ⟨congrArg some hv105, congrArg some hv107, trivial⟩) ?_
    refine Zdx rfl rfl ?_
    exact Zai (.agg #[.int .i64 x1.Switch, .int .i64 x1.Port]) ⟨rfl, rfl⟩
   refine Zb8 ?_ ?_
   ·intro _ _ H111 fr112 hvg115 hle113 hd114
    obtain ⟨hv116, hg117, hp118⟩ := hd114 3 (by decide)
    obtain ⟨hv119, hg120⟩ := hd114 8 (by decide)
    refine ⟨_, (ZdP k x0.g (⟨x1.Switch, x1.Port⟩ : End)).bind some, by rw [h6]; rfl, fun _ => ?_⟩
    refine Zag (env' := [(18, .agg #[.int .i64 x0.g.Switches, .slice a0_0 x0.g.Links.length c0_0]), (23, .agg #[.int .i64 x1.Switch, .int .i64 x1.Port])]) (by exact ⟨congrArg some hv116, congrArg some hv119, trivial⟩) ?_
    refine s_bg fun y4 h121 => ?_
    refine Zas rfl rfl (Zhj k _ x0.g _ _ hp118 (⟨x1.Switch, x1.Port⟩ : End) h121) ?_
    obtain rfl := Option.some.inj (h6.symm.trans h121)
    exact Zai (.tuple #[.agg #[.int .i64 y4.1.Switch, .int .i64 y4.1.Port], .int .i64 y4.2.1, .bool y4.2.2]) ⟨rfl, rfl⟩
   refine Zb8 ?_ ?_
   ·intro _ _ H124 fr125 hvg128 hle126 hd127
    obtain ⟨hv129, hg130⟩ := hd127 9 (by decide)
    refine ⟨_, some (), rfl, fun _ => ?_⟩
    refine Zag (env' := [(24, .tuple #[.agg #[.int .i64 y4.1.Switch, .int .i64 y4.1.Port], .int .i64 y4.2.1, .bool y4.2.2])]) (by exact ⟨congrArg some hv129, trivial⟩) ?_
    refine Zad rfl ?_
    exact Zai (.tuple #[.agg #[.int .i64 y4.1.Switch, .int .i64 y4.1.Port], .int .i64 y4.2.1, .bool y4.2.2]) ⟨rfl, rfl⟩
   refine Zb8 ?_ ?_
   ·intro _ _ H133 fr134 hvg137 hle135 hd136
    obtain ⟨hv138, hg139⟩ := hd136 10 (by decide)
    refine ⟨_, some (), rfl, fun _ => ?_⟩
    refine Zag (env' := [(14, .tuple #[.agg #[.int .i64 y4.1.Switch, .int .i64 y4.1.Port], .int .i64 y4.2.1, .bool y4.2.2])]) (by exact ⟨congrArg some hv138, trivial⟩) ?_
    refine ZcI rfl rfl ?_
    exact Zai (.agg #[.int .i64 y4.1.Switch, .int .i64 y4.1.Port]) ⟨rfl, rfl⟩
   refine Zb8 ?_ ?_
   ·intro _ _ H142 fr143 hvg146 hle144 hd145
    obtain ⟨hv147, hg148⟩ := hd145 10 (by decide)
    refine ⟨_, some (), rfl, fun _ => ?_⟩
    refine Zag (env' := [(14, .tuple #[.agg #[.int .i64 y4.1.Switch, .int .i64 y4.1.Port], .int .i64 y4.2.1, .bool y4.2.2])]) (by exact ⟨congrArg some hv147, trivial⟩) ?_
    refine ZcI rfl rfl ?_
    exact Zai (.int .i64 y4.2.1) ⟨rfl, rfl⟩
   refine Zb8 ?_ ?_
   ·intro _ _ H151 fr152 hvg155 hle153 hd154
    obtain ⟨hv156, hg157⟩ := hd154 10 (by decide)
    refine ⟨_, some (), rfl, fun _ => ?_⟩
    refine Zag (env' := [(14, .tuple #[.agg #[.int .i64 y4.1.Switch, .int .i64 y4.1.Port], .int .i64 y4.2.1, .bool y4.2.2])]) (by exact ⟨congrArg some hv156, trivial⟩) ?_
    refine ZcI rfl rfl ?_
    exact Zai (.bool y4.2.2) ⟨rfl, rfl⟩
   refine Zb8 ?_ ?_
   ·intro _ _ H160 fr161 hvg164 hle162 hd163
    refine ⟨_, some (), rfl, fun _ => ?_⟩
    refine Zag (env' := []) (by exact trivial) ?_
    refine Zbw fun b165 => ?_
    refine ZcP (own' := [.blk b1 (Zak (cE x1 a1_0 c1_0) 44), .blk b165 (Zak [.int .i64 0, .int .i64 0] 81)] ++ fr161) (pm3 (a := [.blk b1 (Zak (cE x1 a1_0 c1_0) 44)]) (xs := [.blk b165 (Zak [.int .i64 0, .int .i64 0] 81)])) ?_
    exact ZbV fun _ _ _ hE hI => ⟨(.pointer (some ⟨b165, 0, none⟩)), [.blk b165 (Zak [.int .i64 0, .int .i64 0] 81)], _, fun _ e => (by cases e; exact hE _ _ rfl), .refl _, by exact hI, ⟨b165, rfl, rfl⟩⟩
   refine Zb8 ?_ ?_
   ·intro _ _ H169 fr170 hvg173 hle171 hd172
    obtain ⟨b174, hv175, hg176⟩ := hd172 14 (by decide)
    obtain ⟨hv177, hg178⟩ := hd172 11 (by decide)
    refine ⟨_, some (), rfl, fun _ => ?_⟩
    refine Zag (env' := [(5, .pointer (some ⟨b174, 0, none⟩)), (25, .agg #[.int .i64 y4.1.Switch, .int .i64 y4.1.Port])]) (by exact ⟨congrArg some hv175, congrArg some hv177, trivial⟩) ?_
    refine ZbL (own' := [.blk b1 (Zak (cE x1 a1_0 c1_0) 44), .blk b174 (Zak [.int .i64 0, .int .i64 0] 81)] ++ fr170) (by simp only [List.flatMap_cons, List.flatMap_nil, List.append_nil, hg176]; rfl) ?_
    refine o_st 1 rfl rfl rfl rfl rfl rfl ?_
    exact ZbV fun _ _ _ hE hI => ⟨undef, [.blk b174 (Zak [.int .i64 y4.1.Switch, .int .i64 y4.1.Port] 81)], _, fun _ e => (by cases e), .refl _, by exact hI, ⟨b174, rfl, rfl, hv175⟩⟩
   refine Zb8 ?_ ?_
   ·intro _ _ H181 fr182 hvg185 hle183 hd184
    obtain ⟨hv186, hg187⟩ := hd184 12 (by decide)
    refine ⟨_, some (), rfl, fun _ => ?_⟩
    refine Zag (env' := [(26, .int .i64 y4.2.1)]) (by exact ⟨congrArg some hv186, trivial⟩) ?_
    refine Zah rfl ?_
    exact Zai (.int .i64 y4.2.1) ⟨rfl, rfl⟩
   exact Zm0
  ·intro V190 G191 H188 hvg193 hle189 hF192
   have hc194 := Zaj.mono hle189 hcq0
   have hs195 := RSl.mono hle189 hx0_0
   have hs196 := RSl.mono hle189 hx0_1
   have hs197 := MapV.mono hle189 hx0_2
   obtain ⟨hv199, hg200⟩ := hF192 13 (show 13 < 17 by decide)
   obtain ⟨b201, hv202, hg203, hp204⟩ := hF192 15 (show 15 < 17 by decide)
   refine Zag (env' := [(27, .bool y4.2.2), (5, .pointer (some ⟨b201, 0, none⟩)), (0, .pointer (some ⟨bq0, oq0, none⟩)), (1, (aE x1 a1_0 c1_0)), (3, .pointer (some ⟨b1, 0, none⟩)), (4, .int .i64 0), (11, .pointer (some ⟨b1, 1, none⟩)), (12, .int .i64 x1.Port), (13, .bool (x1.Port == 0))]) (by exact ⟨congrArg some hv199, congrArg some hp204, rfl, rfl, rfl, rfl, rfl, rfl, rfl, trivial⟩) ?_
   refine Zg8 (js := [15]) rfl ?_
   refine ZbL (own' := [.blk b1 (Zak (cE x1 a1_0 c1_0) 44), .blk b201 (Zak [.int .i64 y4.1.Switch, .int .i64 y4.1.Port] 81)]) (by simp only [List.flatMap_cons, List.flatMap_nil, List.append_nil, hg203]; rfl) ?_
   refine Zah rfl <| Zac <| Zae <| Zae <| Zaa <| Zad rfl <| Zdc rfl <| Zac ?_
   refine Zao rfl (fun h205 => ?_) (fun h205 => ?_)
   ·refine Zae <| Zaa <| Zah rfl <| Zac ?_
    exact s_r1 4 (.int .i64 0) Zlk ⟨rfl, rfl⟩
   ·refine Zar <| Zae <| Zae ?_
    refine Za8 [(fun H v g => v = Value.pointer (some ⟨bq0, oq0, none⟩) ∧ g = [] ∧ RSl H a0_0 c0_0 x0.g.Links ∧ RSl H a0_1 c0_1 x0.versions ∧ MapV false false H mv0_2 x0.ids ∧ Zaj H bq0 oq0 [.int .i64 x0.g.Switches, .slice a0_0 x0.g.Links.length c0_0, .slice a0_1 x0.versions.length c0_1, mv0_2]),
   (fun H v g => v = Value.pointer (some ⟨bq0, oq0, none⟩) ∧ g = [] ∧ RSl H a0_0 c0_0 x0.g.Links ∧ RSl H a0_1 c0_1 x0.versions ∧ MapV false false H mv0_2 x0.ids ∧ Zaj H bq0 oq0 [.int .i64 x0.g.Switches, .slice a0_0 x0.g.Links.length c0_0, .slice a0_1 x0.versions.length c0_1, mv0_2]),
   (fun H v g => v = Value.pointer (some ⟨bq0, oq0 + 3, none⟩) ∧ g = [] ∧ RSl H a0_0 c0_0 x0.g.Links ∧ RSl H a0_1 c0_1 x0.versions ∧ MapV false false H mv0_2 x0.ids ∧ Zaj H bq0 oq0 [.int .i64 x0.g.Switches, .slice a0_0 x0.g.Links.length c0_0, .slice a0_1 x0.versions.length c0_1, mv0_2]),
   (fun H v g => v = mv0_2 ∧ g = [] ∧ MapV false false H mv0_2 x0.ids),
   (fV (.pointer (some ⟨b1, 3, none⟩))),
   (fV (.int .i64 x1.Id)),
   (fun H v g => ∃ a209 c210, v = Value.slice a209 (mgetD (x0.ids.getD []) x1.Id ([] : (List Judge_seen))).length c210 ∧ g = [] ∧ RSl H a209 c210 (mgetD (x0.ids.getD []) x1.Id ([] : (List Judge_seen)))),
   (fV (.int .i64 ((mgetD (x0.ids.getD []) x1.Id ([] : (List Judge_seen))).length : Int))),
   (fV (.int .i64 0))] [[], [], [], [], [], [], [], [], []] mixed ⟨fun _ _ _ _ hle ⟨e1, e2, h0_, h1_, h2_, h3_⟩ => ⟨e1, e2, RSl.mono hle h0_, RSl.mono hle h1_, MapV.mono hle h2_, Zaj.mono hle h3_⟩, fun _ _ _ _ hle ⟨e1, e2, h0_, h1_, h2_, h3_⟩ => ⟨e1, e2, RSl.mono hle h0_, RSl.mono hle h1_, MapV.mono hle h2_, Zaj.mono hle h3_⟩, fun _ _ _ _ hle ⟨e1, e2, h0_, h1_, h2_, h3_⟩ => ⟨e1, e2, RSl.mono hle h0_, RSl.mono hle h1_, MapV.mono hle h2_, Zaj.mono hle h3_⟩, fun _ _ _ _ hle ⟨e1, e2, h0_⟩ => ⟨e1, e2, MapV.mono hle h0_⟩, m0, m0, fun _ _ _ _ hle ⟨a209, c210, e1, e2, h0_⟩ => ⟨_, _, e1, e2, RSl.mono hle h0_⟩, m0, m0, trivial⟩ (by kernel_rfl) (by kernel_rfl) rfl (by kernel_rfl) rfl rfl ?_ ?_
    ·refine dc (fun _ _ _ _ hle216 _ _ => ?_) ?_
     ·have hc219 := Zaj.mono hle216 hc194
      have hs220 := RSl.mono hle216 hs195
      have hs221 := RSl.mono hle216 hs196
      have hs222 := MapV.mono hle216 hs197
      refine Zag (env' := [(0, .pointer (some ⟨bq0, oq0, none⟩))]) (by exact ⟨rfl, trivial⟩) ?_
      refine Zad rfl ?_
      exact Zai (.pointer (some ⟨bq0, oq0, none⟩)) ⟨rfl, rfl, hs220, hs221, hs222, hc219⟩
     refine dc (fun _ _ _ _ _ hd228 _ => ?_) ?_
     ·obtain ⟨hv230, hg231, hp232, hp233, hp234, hp235⟩ := hd228 0 (by decide)
      refine Zag (env' := [(30, .pointer (some ⟨bq0, oq0, none⟩))]) (by exact ⟨congrArg some hv230, trivial⟩) ?_
      refine Zd3 rfl ?_
      exact Zai (.pointer (some ⟨bq0, oq0, none⟩)) ⟨rfl, rfl, hp232, hp233, hp234, hp235⟩
     refine dc (fun _ _ _ _ _ hd241 _ => ?_) ?_
     ·obtain ⟨hv243, hg244, hp245, hp246, hp247, hp248⟩ := hd241 1 (by decide)
      refine Zag (env' := [(31, .pointer (some ⟨bq0, oq0, none⟩))]) (by exact ⟨congrArg some hv243, trivial⟩) ?_
      refine o_fa rfl ?_
      exact Zai (.pointer (some ⟨bq0, oq0 + 3, none⟩)) ⟨rfl, rfl, hp245, hp246, hp247, hp248⟩
     refine dc (fun _ _ _ _ _ hd254 _ => ?_) ?_
     ·obtain ⟨hv256, hg257, hp258, hp259, hp260, hp261⟩ := hd254 2 (by decide)
      refine Zag (env' := [(32, .pointer (some ⟨bq0, oq0 + 3, none⟩))]) (by exact ⟨congrArg some hv256, trivial⟩) ?_
      refine ZaP 3 hp261 rfl rfl rfl ?_
      exact Zai mv0_2 ⟨rfl, rfl, hp260⟩
     refine dc (fun _ _ _ _ _ _ _ => ?_) ?_
     ·refine Zag (env' := [(3, .pointer (some ⟨b1, 0, none⟩))]) (by exact ⟨rfl, trivial⟩) ?_
      refine o_fa rfl ?_
      exact Zai (.pointer (some ⟨b1, 3, none⟩)) ⟨rfl, rfl⟩
     refine dc1 4 (fun _ _ _ _ _ _ => ?_) ?_
     ·refine o_ld 0 rfl rfl rfl ?_
      exact Zai (.int .i64 x1.Id) ⟨rfl, rfl⟩
     refine dc (fun _ _ _ _ _ hd285 _ => ?_) ?_
     ·obtain ⟨hv287, hg288, hp289⟩ := hd285 3 (by decide)
      obtain ⟨hv290, hg291⟩ := hd285 5 (by decide)
      refine Zag (env' := [(33, mv0_2), (35, .int .i64 x1.Id)]) (by exact ⟨congrArg some hv287, congrArg some hv290, trivial⟩) ?_
      refine ZjW (kt := 3) (et := 147) hp289 rfl x1.Id rfl fun a292 c293 hs294 => ?_
      exact Zai (.slice a292 (mgetD (x0.ids.getD []) x1.Id ([] : (List Judge_seen))).length c293) ⟨a292, c293, rfl, rfl, hs294⟩
     refine dc (fun _ _ _ _ _ hd300 _ => ?_) ?_
     ·obtain ⟨a302, c303, hv304, hg305, hp306⟩ := hd300 6 (by decide)
      refine Zag (env' := [(36, .slice a302 (mgetD (x0.ids.getD []) x1.Id ([] : (List Judge_seen))).length c303)]) (by exact ⟨congrArg some hv304, trivial⟩) ?_
      refine ZaG rfl ?_
      exact Zai (.int .i64 ((mgetD (x0.ids.getD []) x1.Id ([] : (List Judge_seen))).length : Int)) ⟨rfl, rfl⟩
     refine dc (fun _ _ _ _ _ _ _ => ?_) ?_
     ·refine Zag (env' := []) (by exact trivial) ?_
      refine Zad rfl ?_
      exact Zai (.int .i64 0) ⟨rfl, rfl⟩
     exact dnil
    ·intro V316 G317 H314 hle315 hF318
     obtain ⟨a324, c325, hv326, hg327, hp328⟩ := hF318 6 (show 6 < 9 by decide)
     obtain ⟨hv329, hg330⟩ := hF318 7 (show 7 < 9 by decide)
     obtain ⟨hv331, hg332⟩ := hF318 8 (show 8 < 9 by decide)
     refine Zag (env' := [(36, .slice a324 (mgetD (x0.ids.getD []) x1.Id ([] : (List Judge_seen))).length c325), (37, .int .i64 ((mgetD (x0.ids.getD []) x1.Id ([] : (List Judge_seen))).length : Int)), (38, .int .i64 0), (0, .pointer (some ⟨bq0, oq0, none⟩)), (1, (aE x1 a1_0 c1_0)), (3, .pointer (some ⟨b1, 0, none⟩)), (4, .int .i64 0), (11, .pointer (some ⟨b1, 1, none⟩)), (12, .int .i64 x1.Port), (13, .bool (x1.Port == 0)), (27, .bool y4.2.2), (5, .pointer (some ⟨b201, 0, none⟩)), (7, .bool y4.2.2), (28, .bool y4.2.2), (29, .bool (!y4.2.2))]) (by exact ⟨congrArg some hv326, congrArg some hv329, congrArg some hv331, rfl, rfl, rfl, rfl, rfl, rfl, rfl, rfl, rfl, rfl, rfl, rfl, trivial⟩) ?_
     refine Zam (List.sublist_append_left _ _) ?_
     refine Zac ?_
     refine Zb3 (fun p333 env own H' => env = [(4, .int .i64 p333)] ∧ own = [] ∧ Hle H314 H') ?_ ?_
     ·rintro p333 _ _ H334 ⟨rfl, rfl, hle335⟩
      refine Zae <| Zaa <| Zad rfl <| Zah rfl <| Zac ?_
      exact s_r1 4 (.int .i64 p333) Zlk ⟨rfl, rfl⟩
     ·intro J336
      refine Zat ?_
      refine Zag (env' := [(3, .pointer (some ⟨b1, 0, none⟩)), (4, .int .i64 0), (5, .pointer (some ⟨b201, 0, none⟩)), (36, .slice a324 (mgetD (x0.ids.getD []) x1.Id ([] : (List Judge_seen))).length c325), (37, .int .i64 ((mgetD (x0.ids.getD []) x1.Id ([] : (List Judge_seen))).length : Int)), (38, .int .i64 0)]) (by exact ⟨rfl, rfl, rfl, rfl, rfl, rfl, trivial⟩) ?_
      refine Zam (own' := [.blk b1 (Zak (cE x1 a1_0 c1_0) 44), .blk b201 (Zak [.int .i64 y4.1.Switch, .int .i64 y4.1.Port] 81)]) (.cons_cons _ (.cons_cons _ .slnil)) ?_
      refine Za2 (fun q s337 => Zbh k x0 x1 y4 q s337) (fun s337 env own H' => env = [(3, .pointer (some ⟨b1, 0, none⟩)), (4, .int .i64 s337.1), (5, .pointer (some ⟨b201, 0, none⟩)), (36, .slice a324 (mgetD (x0.ids.getD []) x1.Id ([] : (List Judge_seen))).length c325), (37, .int .i64 ((mgetD (x0.ids.getD []) x1.Id ([] : (List Judge_seen))).length : Int)), (38, .int .i64 s337.2)] ∧ own = [.blk b1 (Zak (cE x1 a1_0 c1_0) 44), .blk b201 (Zak [.int .i64 y4.1.Switch, .int .i64 y4.1.Port] 81)] ∧ Hle H314 H') (fun _ => rfl) ?_ k (0, 0) ⟨rfl, rfl, .refl _⟩
      rintro q338 ih339 s337 _ _ H340 ⟨rfl, rfl, hle341⟩
      refine s_eq (by rw [Zbh]) ?_
      have hs342 := RSl.mono hle341 hp328
      refine Zae <| Zaa <| o_lt rfl rfl <| Zac <| Zae ?_
      refine Zao rfl (fun h344 => ?_) (fun h344 => ?_)
      ·refine Zar <| Zae <| Zat <| Zae <| Zaa ?_
       refine o_ix hs342 rfl rfl fun y345 bk347 of348 vs350 h346 hc349 hr351 => ?_
       obtain ⟨a352, c353, rfl, hs354⟩ := hr351
       refine ZaP 0 hc349 rfl rfl rfl ?_
       refine Zbw fun b355 => ?_
       refine o_st 2 rfl rfl rfl rfl rfl rfl ?_
       refine Zac <| Zae <| Zaa <| o_fa rfl <| o_fa rfl <| o_ld 2 rfl rfl rfl <| o_fa rfl <| o_ld 1 rfl rfl rfl <| o_fa rfl <| o_ld 0 rfl rfl rfl ?_
       refine Zdx rfl rfl ?_
       refine s_bg fun y357 h358 => ?_
       refine Zas rfl rfl (ZcV k _ y345.Event.Sent _ _ hs354 (⟨y4.1.Port, x1.H⟩ : Sent) h358) ?_
       refine Zah rfl <| Zac <| Zae <| Zaa ?_
       refine Zfs [(3, .pointer (some ⟨b1, 0, none⟩)), (4, .int .i64 s337.1), (5, .pointer (some ⟨b201, 0, none⟩)), (9, .pointer (some ⟨b355, 0, none⟩)), (36, .slice a324 (mgetD (x0.ids.getD []) x1.Id ([] : (List Judge_seen))).length c325), (37, .int .i64 ((mgetD (x0.ids.getD []) x1.Id ([] : (List Judge_seen))).length : Int)), (38, .int .i64 s337.2), (78, .bool (y357 && ((y345.Event.Switch == y4.1.Switch) && ((y345.Event.Ver == x1.Ver) && ((s337.1 == 0) || decide (y345.depth < (w64 (s337.1 - 1))))))))] [.blk b1 (Zak (cE x1 a1_0 c1_0) 44), .blk b201 (Zak [.int .i64 y4.1.Switch, .int .i64 y4.1.Port] 81), .blk b355 (Zak [.int .i64 y345.Event.Switch, .int .i64 y345.Event.Port, .int .i64 y345.Event.Ver, .int .i64 y345.Event.Id, .int .u8 y345.Event.H.e0, .int .u8 y345.Event.H.e1, .int .u8 y345.Event.H.e2, .slice a352 y345.Event.Sent.length c353, .int .i64 y345.depth] 144)] ?_ ?_
       ·refine Zao rfl (fun h359 => ?_) (fun h359 => ?_)
        ·refine Zaa <| o_fa rfl <| o_ld 2 rfl rfl rfl <| ZbM rfl rfl <| Zah rfl <| Zac <| Zav <| Zaa <| ZbM rfl rfl <| Zad rfl <| Zac ?_
         exact Zag (by exact ⟨rfl, rfl, rfl, rfl, rfl, rfl, trivial⟩) (Zam (by exact (.cons_cons _ (.cons_cons _ (.cons _ .slnil)))) (ih339 (w64 (y345.depth + 1), w64 (s337.2 + 1)) _ _ _ ⟨rfl, rfl, hle341⟩))
        ·refine Zar <| Zav <| Zaa <| ZbM rfl rfl <| Zad rfl <| Zac ?_
         exact Zag (by exact ⟨rfl, rfl, rfl, rfl, rfl, rfl, trivial⟩) (Zam (by exact (.cons_cons _ (.cons_cons _ (.cons _ .slnil)))) (ih339 (s337.1, w64 (s337.2 + 1)) _ _ _ ⟨rfl, rfl, hle341⟩))
       ·intro J360
        refine Zad rfl <| Zad rfl ?_
        refine Zcw y357 (fun h361 => ?_) (fun h361 => ?_)
        ·refine Zaf rfl rfl h361 <| o_fa rfl <| Zaf rfl rfl h361 <| o_fa rfl <| Zaf rfl rfl h361 <| o_ld 2 rfl rfl rfl <| Zaf rfl rfl h361 <| o_fa rfl <| Zaf rfl rfl h361 <| o_ld 1 rfl rfl rfl <| Zaf rfl rfl h361 <| o_eq rfl rfl ?_
         refine Zan rfl h361 rfl <| Zad rfl ?_
         refine Zcw (y345.Event.Switch == y4.1.Switch) (fun h362 => ?_) (fun h362 => ?_)
         ·refine Zaf rfl rfl h362 <| o_fa rfl <| Zaf rfl rfl h362 <| o_fa rfl <| Zaf rfl rfl h362 <| o_ld 2 rfl rfl rfl <| Zaf rfl rfl h362 <| o_fa rfl <| Zaf rfl rfl h362 <| o_ld 0 rfl rfl rfl <| Zaf rfl rfl h362 <| o_eq rfl rfl ?_
          refine Zan rfl h362 rfl <| Zad rfl ?_
          refine Zcw (y345.Event.Ver == x1.Ver) (fun h363 => ?_) (fun h363 => ?_)
          ·refine Zaf rfl rfl h363 <| Zad rfl <| Zaf rfl rfl h363 <| o_eq rfl rfl <| Zaf rfl rfl h363 <| Zad rfl ?_
           refine Zcw (s337.1 == 0) (fun h364 => ?_) (fun h364 => ?_)
           ·refine Zab rfl rfl h364 <| Zab rfl rfl h364 <| Zab rfl rfl h364 <| Zab rfl rfl h364 <| Zab rfl rfl h364 <| Zaf rfl rfl h363 <| Zan rfl h364 rfl <| Zan rfl h363 rfl ?_
            exact Zag (by exact ⟨rfl, rfl, rfl, rfl, rfl, rfl, rfl, lkb rfl (by first | simp only [h361, h362, h363, h364, Bool.true_and, Bool.and_true, Bool.false_and, Bool.and_false, Bool.true_or, Bool.false_or, Bool.or_true, Bool.or_false, Bool.not_true, Bool.not_false] | simp [h361, h362, h363, h364]), trivial⟩) (Zam (by exact (.cons_cons _ (.cons_cons _ (.cons_cons _ .slnil)))) J360)
           ·refine Zaf rfl rfl h364 <| o_fa rfl <| Zaf rfl rfl h364 <| o_ld 2 rfl rfl rfl <| Zaf rfl rfl h364 <| Zad rfl <| Zaf rfl rfl h364 <| ZhF rfl rfl <| Zaf rfl rfl h364 <| o_lt rfl rfl <| Zaf rfl rfl h363 <| Zal rfl h364 rfl ?_
            refine Zan rfl h363 rfl ?_
            exact Zag (by exact ⟨rfl, rfl, rfl, rfl, rfl, rfl, rfl, lkb rfl (by first | simp only [h361, h362, h363, h364, Bool.true_and, Bool.and_true, Bool.false_and, Bool.and_false, Bool.true_or, Bool.false_or, Bool.or_true, Bool.or_false, Bool.not_true, Bool.not_false] | simp [h361, h362, h363, h364]), trivial⟩) (Zam (by exact (.cons_cons _ (.cons_cons _ (.cons_cons _ .slnil)))) J360)
          ·refine Zab rfl rfl h363 <| Zab rfl rfl h363 <| Zab rfl rfl h363 <| ZaA rfl rfl <| ZaA rfl rfl <| ZaA rfl rfl <| ZaA rfl rfl <| ZaA rfl rfl <| Zab rfl rfl h363 <| Zal rfl h363 rfl ?_
           exact Zag (by exact ⟨rfl, rfl, rfl, rfl, rfl, rfl, rfl, lkb rfl (by first | simp only [h361, h362, h363, Bool.true_and, Bool.and_true, Bool.false_and, Bool.and_false, Bool.true_or, Bool.false_or, Bool.or_true, Bool.or_false, Bool.not_true, Bool.not_false] | simp [h361, h362, h363]), trivial⟩) (Zam (by exact (.cons_cons _ (.cons_cons _ (.cons_cons _ .slnil)))) J360)
         ·refine Zab rfl rfl h362 <| Zab rfl rfl h362 <| Zab rfl rfl h362 <| Zab rfl rfl h362 <| Zab rfl rfl h362 <| Zab rfl rfl h362 <| Zal rfl h362 rfl <| Zad rfl <| Zab rfl rfl rfl <| Zab rfl rfl rfl <| Zab rfl rfl rfl <| ZaA rfl rfl ?_
          refine ZaA rfl rfl <| ZaA rfl rfl <| ZaA rfl rfl <| ZaA rfl rfl <| Zab rfl rfl rfl <| Zal rfl rfl rfl ?_
          exact Zag (by exact ⟨rfl, rfl, rfl, rfl, rfl, rfl, rfl, lkb rfl (by first | simp only [h361, h362, Bool.true_and, Bool.and_true, Bool.false_and, Bool.and_false, Bool.true_or, Bool.false_or, Bool.or_true, Bool.or_false, Bool.not_true, Bool.not_false] | simp [h361, h362]), trivial⟩) (Zam (by exact (.cons_cons _ (.cons_cons _ (.cons_cons _ .slnil)))) J360)
        ·refine Zab rfl rfl h361 <| Zab rfl rfl h361 <| Zab rfl rfl h361 <| Zab rfl rfl h361 <| Zab rfl rfl h361 <| Zab rfl rfl h361 <| Zal rfl h361 rfl <| Zad rfl <| Zab rfl rfl rfl <| Zab rfl rfl rfl <| Zab rfl rfl rfl <| Zab rfl rfl rfl ?_
         refine Zab rfl rfl rfl <| Zab rfl rfl rfl <| Zal rfl rfl rfl <| Zad rfl <| Zab rfl rfl rfl <| Zab rfl rfl rfl <| Zab rfl rfl rfl <| ZaA rfl rfl <| ZaA rfl rfl <| ZaA rfl rfl <| ZaA rfl rfl <| ZaA rfl rfl ?_
         refine Zab rfl rfl rfl <| Zal rfl rfl rfl ?_
         exact Zag (by exact ⟨rfl, rfl, rfl, rfl, rfl, rfl, rfl, lkb rfl (by first | simp only [h361, Bool.true_and, Bool.and_true, Bool.false_and, Bool.and_false, Bool.true_or, Bool.false_or, Bool.or_true, Bool.or_false, Bool.not_true, Bool.not_false] | simp [h361]), trivial⟩) (Zam (by exact (.cons_cons _ (.cons_cons _ (.cons_cons _ .slnil)))) J360)
      ·refine Zbf rfl ?_
       exact Zag (by exact ⟨rfl, trivial⟩) (Zam (by exact (.cons _ (.cons _ .slnil))) (J336 s337.1 _ _ _ ⟨rfl, rfl, hle341⟩))
def ZcD (k : Nat) (x1 : (List Version)) : Nat → (List (Int × Int)) × Int → Option (LX (Int) (Unit))
 | 0, _ => none
 | q45 + 1, s41 =>
  if (decide (s41.2 < (x1.length : Int))) = true then
   (rd x1 s41.2).bind fun y51 =>
   ((ZaX k y51.Ver 1 200).bind fun y74 =>
    if (!y74) = true then
     some true
    else
     some (decide ((mgetD s41.1 y51.Ver (0 : Int)) > 0))).bind fun p63 =>
   if (p63) = true then
    some (.ret 2)
   else
    ZcD k x1 q45 ((mput s41.1 y51.Ver 1), w64 (s41.2 + 1))
  else
   some (.out ())
def ZcE (k : Nat) (x1 : (List Version)) : Nat → Int → Option (LX (Int) (Unit))
 | 0, _ => none
 | q19 + 1, s18 =>
  if (decide (s18 < (x1.length : Int))) = true then
   (rd x1 s18).bind fun y25 =>
   (Zdk k y25.Nodes).bind fun y37 =>
   if (y37 != 0) = true then
    some (.ret y37)
   else
    ZcE k x1 q19 (w64 (s18 + 1))
  else
   some (.out ())
def ZdU (k : Nat) (x0 : Graph) (x1 : (List Version)) (x2 : (List Event)) : Option Int :=
 (ZdW k x0).bind fun y3 =>
 if (y3 != 0) = true then
  some y3
 else
  if (((decide ((x1.length : Int) > 200)) || decide ((x2.length : Int) > 2000))) = true then
   some 5
  else
   (ZcD k x1 k (([] : (List (Int × Int))), 0)).bind (LX.go fun p10 =>
   (ZcE k x1 k 0).bind (LX.go fun p14 =>
   some 0))
theorem Zjq : Tryz.prog.funcs[23]? = some Tryz.f23 := by kernel_rfl
theorem ZgM (k : Nat) (H : Heap) (x0 : Graph) (a0_0 : Option Addr) (c0_0 : Nat) (hx0_0 : RSl H a0_0 c0_0 x0.Links) (x1 : (List Version)) (a1_0 : Option Addr) (c1_0 : Nat) (hx1_0 : RSl H a1_0 c1_0 x1) (x2 : (List Event)) (a2_0 : Option Addr) (c2_0 : Nat) (hx2_0 : RSl H a2_0 c2_0 x2) {r : Int} (hr : ZdU k x0 x1 x2 = some r) :
  Fn Tryz.prog 23 [.agg #[.int .i64 x0.Switches, .slice a0_0 x0.Links.length c0_0], .slice a1_0 x1.length c1_0, .slice a2_0 x2.length c2_0] H [] fun H' v out => v = .int .i64 r ∧ out = [] := by
 refine Zaq (args := [.agg #[.int .i64 x0.Switches, .slice a0_0 x0.Links.length c0_0], .slice a1_0 x1.length c1_0, .slice a2_0 x2.length c2_0]) (n := 62) (Φ := fun r H' v out => v = .int .i64 r ∧ out = []) hr Zjq rfl rfl rfl fun w => ?_
 refine s_eq (by rw [ZdU]) ?_
 refine Zae <| Zaa ?_
 refine ZbO rfl fun b1 => ?_
 refine Zah rfl <| Zac <| Zae <| Zae <| Zaa <| o_ld 0 rfl rfl rfl ?_
 refine s_bg fun y3 h4 => ?_
 refine Zas rfl rfl (ZgN k _ x0 _ _ hx0_0 h4) ?_
 refine Zah rfl <| Zac <| Zae <| Zaa <| Zad rfl <| o_ne rfl rfl <| Zac ?_
 refine Zao rfl (fun h5 => ?_) (fun h5 => ?_)
 ·refine Zae <| Zaa <| Zad rfl <| Zah rfl <| Zac ?_
  exact s_r1 6 (.int .i64 y3) Zjq ⟨rfl, rfl⟩
 ·refine Zar <| Zae <| Zae <| Zaa ?_
  refine Zfs [(1, .slice a1_0 x1.length c1_0), (26, .bool ((decide ((x1.length : Int) > 200)) || decide ((x2.length : Int) > 2000)))] [] ?_ ?_
  ·refine Zao rfl (fun h6 => ?_) (fun h6 => ?_)
   ·refine Zae <| Zaa <| Zah rfl <| Zac ?_
    exact s_r1 6 (.int .i64 5) Zjq ⟨rfl, rfl⟩
   ·refine Zar <| Zae <| Zaa ?_
    refine ZfU fun b7 => ?_
    have hR9 : MapR false false H #[] 0 ([] : (List (Int × Int))) := .nil
    refine Zah rfl <| Zac <| Zae <| Zae <| Zaa <| Zad rfl <| ZaG rfl <| Zad rfl <| Zac ?_
    refine ZbR (fun p10 env own H' => env = [(1, .slice a1_0 x1.length c1_0)] ∧ own = [] ∧ Hle H H') ?_ ?_
    ·rintro p10 _ _ H11 ⟨rfl, rfl, hle12⟩
     have hs13 := RSl.mono hle12 hx1_0
     refine Zae <| Zae <| Zaa <| Zad rfl <| ZaG rfl <| Zad rfl <| Zac ?_
     refine ZbR (fun p14 env own H' => env = [] ∧ own = [] ∧ Hle H11 H') ?_ ?_
     ·rintro p14 _ _ H15 ⟨rfl, rfl, hle16⟩
      refine Zae <| Zaa <| Zah rfl <| Zac ?_
      exact s_r1 6 (.int .i64 0) Zjq ⟨rfl, rfl⟩
     ·intro J17
      refine Zat ?_
      refine Zag (env' := [(49, .slice a1_0 x1.length c1_0), (50, .int .i64 (x1.length : Int)), (51, .int .i64 0)]) (by exact ⟨rfl, rfl, rfl, trivial⟩) ?_
      refine Zam (own' := []) .slnil ?_
      refine Za2 (fun q s18 => ZcE k x1 q s18) (fun s18 env own H' => env = [(49, .slice a1_0 x1.length c1_0), (50, .int .i64 (x1.length : Int)), (51, .int .i64 s18)] ∧ own = [] ∧ Hle H11 H') (fun _ => rfl) ?_ k 0 ⟨rfl, rfl, .refl _⟩
      rintro q19 ih20 s18 _ _ H21 ⟨rfl, rfl, hle22⟩
      refine s_eq (by rw [ZcE]) ?_
      have hs23 := RSl.mono hle22 hs13
      refine Zae <| Zaa <| o_lt rfl rfl <| Zac <| Zae ?_
      refine Zao rfl (fun h24 => ?_) (fun h24 => ?_)
      ·refine Zar <| Zae <| Zat <| Zae <| Zaa ?_
       refine o_ix hs23 rfl rfl fun y25 bk27 of28 vs30 h26 hc29 hr31 => ?_
       obtain ⟨a32, c33, rfl, hs34⟩ := hr31
       refine ZaP 0 hc29 rfl rfl rfl ?_
       refine Zbw fun b35 => ?_
       refine o_st 0 rfl rfl rfl rfl rfl rfl ?_
       refine Zac <| Zae <| Zaa <| o_fa rfl <| o_ld 0 rfl rfl rfl ?_
       refine s_bg fun y37 h38 => ?_
       refine Zas rfl rfl (ZeL k _ y25.Nodes _ _ hs34 h38) ?_
       refine Zah rfl <| Zac <| Zae <| Zaa <| Zad rfl <| o_ne rfl rfl <| Zac ?_
       refine Zao rfl (fun h39 => ?_) (fun h39 => ?_)
       ·refine Zae <| Zaa <| Zad rfl <| Zah rfl <| Zac <| ZbQ ?_
        exact s_r1 6 (.int .i64 y37) Zjq ⟨rfl, rfl⟩
       ·refine Zar <| Zav <| Zaa <| ZbM rfl rfl <| Zad rfl <| Zac ?_
        exact Zag (by exact ⟨rfl, rfl, rfl, trivial⟩) (Zam (by exact (.cons _ .slnil)) (ih20 (w64 (s18 + 1)) _ _ _ ⟨rfl, rfl, hle22⟩))
      ·refine Zbf rfl ?_
       exact Zag (by exact trivial) (Zam (by exact .slnil) (J17 () _ _ _ ⟨rfl, rfl, hle22⟩))
    ·intro J40
     refine Zat ?_
     refine Zag (env' := [(1, .slice a1_0 x1.length c1_0), (8, .map (some b7)), (28, .slice a1_0 x1.length c1_0), (29, .int .i64 (x1.length : Int)), (30, .int .i64 0)]) (by exact ⟨rfl, rfl, rfl, rfl, rfl, trivial⟩) ?_
     refine Zam (own' := [.blk b7 (.map #[] 0)]) (.cons_cons _ .slnil) ?_
     refine Za2 (fun q s41 => ZcD k x1 q s41) (fun s41 env own H' => ∃ es42 c43, env = [(1, .slice a1_0 x1.length c1_0), (8, .map (some b7)), (28, .slice a1_0 x1.length c1_0), (29, .int .i64 (x1.length : Int)), (30, .int .i64 s41.2)] ∧ own = [.blk b7 (.map es42 c43)] ∧ Hle H H' ∧ MapR false false H' es42 c43 s41.1) (fun _ => rfl) ?_ k (([] : (List (Int × Int))), 0) ⟨_, _, rfl, rfl, .refl _, hR9⟩
     rintro q45 ih46 s41 _ _ H47 ⟨es42, c43, rfl, rfl, hle48, hR44⟩
     refine s_eq (by rw [ZcD]) ?_
     have hs49 := RSl.mono hle48 hx1_0
     refine Zae <| Zaa <| o_lt rfl rfl <| Zac <| Zae ?_
     refine Zao rfl (fun h50 => ?_) (fun h50 => ?_)
     ·refine Zar <| Zae <| Zat <| Zae <| Zaa ?_
      refine o_ix hs49 rfl rfl fun y51 bk53 of54 vs56 h52 hc55 hr57 => ?_
      obtain ⟨a58, c59, rfl, hs60⟩ := hr57
      refine ZaP 0 hc55 rfl rfl rfl ?_
      refine Zbw fun b61 => ?_
      refine o_st 1 rfl rfl rfl rfl rfl rfl ?_
      refine Zac <| Zae <| Zae <| Zaa ?_
      refine ZeI (fun p63 env own H' => env = [(1, .slice a1_0 x1.length c1_0), (8, .map (some b7)), (10, .pointer (some ⟨b61, 0, none⟩)), (28, .slice a1_0 x1.length c1_0), (29, .int .i64 (x1.length : Int)), (30, .int .i64 s41.2), (44, .bool p63)] ∧ own = [.blk b7 (.map es42 c43), .blk b61 (Zak [.int .i64 y51.Ver, .slice a58 y51.Nodes.length c59] 29)] ∧ Hle H47 H') ?_ ?_
      ·rintro p63 _ _ H64 ⟨rfl, rfl, hle65⟩
       have hR67 := MapR.mono hle65 hR44
       refine Zao rfl (fun h69 => ?_) (fun h69 => ?_)
       ·refine Zae <| Zaa <| Zah rfl <| Zac <| ZbQ ?_
        exact s_r1 6 (.int .i64 2) Zjq ⟨rfl, rfl⟩
       ·refine Zar <| Zaa <| Zad rfl <| o_fa rfl <| o_ld 1 rfl rfl rfl ?_
        refine ZjU (kt := 3) (et := 3) (vs := [.int .i64 1]) 0 rfl rfl hR67 y51.Ver rfl 1 rfl rfl fun es70 c71 hR72 => ?_
        refine Zac <| Zav <| Zaa <| ZbM rfl rfl <| Zad rfl <| Zac ?_
        exact Zag (by exact ⟨rfl, rfl, rfl, rfl, rfl, trivial⟩) (Zam (by exact (.cons_cons _ (.cons _ .slnil))) (ih46 ((mput s41.1 y51.Ver 1), w64 (s41.2 + 1)) _ _ _ ⟨_, _, rfl, rfl, (Hle.trans hle48 hle65), hR72⟩))
      ·intro J73
       refine o_fa rfl <| o_ld 1 rfl rfl rfl ?_
       refine s_bg fun y74 h75 => ?_
       refine Zas rfl rfl (Zbe k _ y51.Ver 1 200 h75) ?_
       refine Zdc rfl <| Zad rfl ?_
       refine Zax (!y74) (fun h76 => ?_) (fun h76 => ?_)
       ·refine Zab rfl rfl h76 <| Zab rfl rfl h76 <| Zab rfl rfl h76 <| Zab rfl rfl h76 <| Zab rfl rfl h76 <| Zan rfl h76 rfl ?_
        exact Zag (by exact ⟨rfl, rfl, rfl, rfl, rfl, rfl, rfl, trivial⟩) (Zam (by exact (.cons_cons _ (.cons_cons _ .slnil))) (J73 true _ _ _ ⟨rfl, rfl, .refl _⟩))
       ·refine Zaf rfl rfl h76 <| Zad rfl <| Zaf rfl rfl h76 <| o_fa rfl <| Zaf rfl rfl h76 <| o_ld 1 rfl rfl rfl <| Zaf rfl rfl h76 ?_
        refine Zia (kt := 3) (et := 3) (z := (0 : Int)) 0 rfl rfl hR44 y51.Ver rfl ?_
        refine Zaf rfl rfl h76 <| o_gt rfl rfl <| Zal rfl h76 rfl ?_
        exact Zag (by exact ⟨rfl, rfl, rfl, rfl, rfl, rfl, rfl, trivial⟩) (Zam (by exact (.cons_cons _ (.cons_cons _ .slnil))) (J73 (decide ((mgetD s41.1 y51.Ver (0 : Int)) > 0)) _ _ _ ⟨rfl, rfl, .refl _⟩))
     ·refine Zbf rfl ?_
      exact Zag (by exact ⟨rfl, trivial⟩) (Zam (by exact (.cons _ .slnil)) (J40 () _ _ _ ⟨rfl, rfl, hle48⟩))
  ·intro J77
   refine Zad rfl <| ZaG rfl <| o_gt rfl rfl <| Zad rfl ?_
   refine Zcw (decide ((x1.length : Int) > 200)) (fun h78 => ?_) (fun h78 => ?_)
   ·refine Zab rfl rfl h78 <| Zab rfl rfl h78 <| Zab rfl rfl h78 <| Zan rfl h78 rfl ?_
    exact Zag (by exact ⟨rfl, lkb rfl (by first | simp only [h78, Bool.true_and, Bool.and_true, Bool.false_and, Bool.and_false, Bool.true_or, Bool.false_or, Bool.or_true, Bool.or_false, Bool.not_true, Bool.not_false] | simp [h78]), trivial⟩) (Zam (by exact (.cons _ .slnil)) J77)
   ·refine Zaf rfl rfl h78 <| Zad rfl <| Zaf rfl rfl h78 <| ZaG rfl <| Zaf rfl rfl h78 <| o_gt rfl rfl <| Zal rfl h78 rfl ?_
    exact Zag (by exact ⟨rfl, lkb rfl (by first | simp only [h78, Bool.true_and, Bool.and_true, Bool.false_and, Bool.and_false, Bool.true_or, Bool.false_or, Bool.or_true, Bool.or_false, Bool.not_true, Bool.not_false] | simp [h78]), trivial⟩) (Zam (by exact (.cons _ .slnil)) J77)
def Zcb (k : Nat) (x0 : Judge_seen) (x1 : Event) : Option Bool :=
 if (x0.Event.Ver != x1.Ver) = true then
  some true
 else
  some (x1.Port == 0)
theorem ZmS : Tryz.prog.funcs[71]? = some Tryz.f71 := by kernel_rfl
theorem Zeo (k : Nat) (H : Heap) (x0 : Judge_seen) (a0_0 : Option Addr) (c0_0 : Nat) (hx0_0 : RSl H a0_0 c0_0 x0.Event.Sent) (x1 : Event) (a1_0 : Option Addr) (c1_0 : Nat) (hx1_0 : RSl H a1_0 c1_0 x1.Sent) (bq1 : Nat) {r : Bool} (hr : Zcb k x0 x1 = some r) :
  Fn Tryz.prog 71 [.agg #[.int .i64 x0.Event.Switch, .int .i64 x0.Event.Port, .int .i64 x0.Event.Ver, .int .i64 x0.Event.Id, .int .u8 x0.Event.H.e0, .int .u8 x0.Event.H.e1, .int .u8 x0.Event.H.e2, .slice a0_0 x0.Event.Sent.length c0_0, .int .i64 x0.depth], .pointer (some ⟨bq1, 0, none⟩)] H [.blk bq1 (Zak (cE x1 a1_0 c1_0) 44)] fun H' v out => v = .bool r ∧ out = [.blk bq1 (Zak (cE x1 a1_0 c1_0) 44)] := by
 refine Zaq (args := [.agg #[.int .i64 x0.Event.Switch, .int .i64 x0.Event.Port, .int .i64 x0.Event.Ver, .int .i64 x0.Event.Id, .int .u8 x0.Event.H.e0, .int .u8 x0.Event.H.e1, .int .u8 x0.Event.H.e2, .slice a0_0 x0.Event.Sent.length c0_0, .int .i64 x0.depth], .pointer (some ⟨bq1, 0, none⟩)]) (n := 15) (Φ := fun r H' v out => v = .bool r ∧ out = [.blk bq1 (Zak (cE x1 a1_0 c1_0) 44)]) hr ZmS rfl rfl rfl fun w => ?_
 refine s_eq (by rw [Zcb]) ?_
 refine Zae <| Zaa ?_
 refine ZbO rfl fun b1 => ?_
 refine Zah rfl <| Zac <| Zae <| Zaa <| o_fa rfl <| o_fa rfl <| o_ld 1 rfl rfl rfl <| o_fa rfl <| o_ld 0 rfl rfl rfl <| o_ne rfl rfl <| Zad rfl ?_
 refine Zax (x0.Event.Ver != x1.Ver) (fun h3 => ?_) (fun h3 => ?_)
 ·refine Zab rfl rfl h3 <| Zab rfl rfl h3 <| Zab rfl rfl h3 <| Zan rfl h3 rfl <| Zah rfl <| Zac ?_
  exact ZaF (xs := [.tmp 3]) (vs := [.bool true]) [.blk bq1 (Zak (cE x1 a1_0 c1_0) 44)] ZmS rfl ⟨Zaz rfl, trivial⟩ (.cons_cons _ (.cons _ .slnil)) ⟨rfl, rfl⟩
 ·refine Zaf rfl rfl h3 <| o_fa rfl <| Zaf rfl rfl h3 <| o_ld 0 rfl rfl rfl <| Zaf rfl rfl h3 <| o_eq rfl rfl <| Zal rfl h3 rfl <| Zah rfl <| Zac ?_
  exact ZaF (xs := [.tmp 3]) (vs := [.bool (x1.Port == 0)]) [.blk bq1 (Zak (cE x1 a1_0 c1_0) 44)] ZmS rfl ⟨Zaz rfl, trivial⟩ (.cons_cons _ (.cons _ .slnil)) ⟨rfl, rfl⟩
def slices_IndexFunc___judge_seen_judge_seen__at71_l0 (k : Nat) (x0 : (List Judge_seen)) (x1g0 : Event) : Nat → Int → Option (LX (Int) (Unit))
 | 0, _ => none
 | q7 + 1, s6 =>
  if (decide (s6 < (x0.length : Int))) = true then
   (rd x0 s6).bind fun y14 =>
   (Zcb k y14 x1g0).bind fun y24 =>
   if (y24) = true then
    some (.ret s6)
   else
    slices_IndexFunc___judge_seen_judge_seen__at71_l0 k x0 x1g0 q7 (w64 (s6 + 1))
  else
   some (.out ())
def ZaK (k : Nat) (x0 : (List Judge_seen)) (x1g0 : Event) : Option Int :=
 (slices_IndexFunc___judge_seen_judge_seen__at71_l0 k x0 x1g0 k 0).bind (LX.go fun p1 =>
 some (-1))
theorem Zkp : Tryz.prog.funcs[128]? = some Tryz.f128 := by kernel_rfl
theorem Zct (k : Nat) (H : Heap) (x0 : (List Judge_seen)) (a0_0 : Option Addr) (c0_0 : Nat) (hx0_0 : RSl H a0_0 c0_0 x0) (x1g0 : Event) (a1g0_0 : Option Addr) (c1g0_0 : Nat) (hx1g0_0 : RSl H a1g0_0 c1g0_0 x1g0.Sent) (bq1g0 : Nat) {r : Int} (hr : ZaK k x0 x1g0 = some r) :
  Fn Tryz.prog 128 [.slice a0_0 x0.length c0_0, .func (.func 71) #[] #[.pointer (some ⟨bq1g0, 0, none⟩)]] H [.blk bq1g0 (Zak (cE x1g0 a1g0_0 c1g0_0) 44)] fun H' v out => v = .int .i64 r ∧ out = [.blk bq1g0 (Zak (cE x1g0 a1g0_0 c1g0_0) 44)] := by
 refine Zaq (args := [.slice a0_0 x0.length c0_0, .func (.func 71) #[] #[.pointer (some ⟨bq1g0, 0, none⟩)]]) (n := 19) (Φ := fun r H' v out => v = .int .i64 r ∧ out = [.blk bq1g0 (Zak (cE x1g0 a1g0_0 c1g0_0) 44)]) hr Zkp rfl rfl rfl fun w => ?_
 refine s_eq (by rw [ZaK]) ?_
 refine Zae <| Zaa <| Zah rfl <| Zac <| Zae <| Zae <| Zaa <| Zad rfl <| ZaG rfl <| Zad rfl <| Zac ?_
 refine ZbR (fun p1 env own H' => env = [] ∧ own = [.blk bq1g0 (Zak (cE x1g0 a1g0_0 c1g0_0) 44)] ∧ Hle H H') ?_ ?_
 ·rintro p1 _ _ H2 ⟨rfl, rfl, hle3⟩
  refine Zae <| Zaa <| Zah rfl <| Zac ?_
  exact ZaF (xs := [.tmp 4]) (vs := [.int .i64 (-1)]) [.blk bq1g0 (Zak (cE x1g0 a1g0_0 c1g0_0) 44)] Zkp rfl ⟨Zaz rfl, trivial⟩ (.cons_cons _ .slnil) ⟨rfl, rfl⟩
 ·intro J5
  refine Zat ?_
  refine Zag (env' := [(0, .slice a0_0 x0.length c0_0), (1, .func (.func 71) #[] #[.pointer (some ⟨bq1g0, 0, none⟩)]), (7, .int .i64 (x0.length : Int)), (8, .int .i64 0)]) (by exact ⟨rfl, rfl, rfl, rfl, trivial⟩) ?_
  refine Zam (own' := [.blk bq1g0 (Zak (cE x1g0 a1g0_0 c1g0_0) 44)]) (.cons_cons _ .slnil) ?_
  refine Za2 (fun q s6 => slices_IndexFunc___judge_seen_judge_seen__at71_l0 k x0 x1g0 q s6) (fun s6 env own H' => env = [(0, .slice a0_0 x0.length c0_0), (1, .func (.func 71) #[] #[.pointer (some ⟨bq1g0, 0, none⟩)]), (7, .int .i64 (x0.length : Int)), (8, .int .i64 s6)] ∧ own = [.blk bq1g0 (Zak (cE x1g0 a1g0_0 c1g0_0) 44)] ∧ Hle H H') (fun _ => rfl) ?_ k 0 ⟨rfl, rfl, .refl _⟩
  rintro q7 ih8 s6 _ _ H9 ⟨rfl, rfl, hle10⟩
  refine s_eq (by rw [slices_IndexFunc___judge_seen_judge_seen__at71_l0]) ?_
  have hs11 := RSl.mono hle10 hx0_0
  have hs12 := RSl.mono hle10 hx1g0_0
  refine Zae <| Zaa <| o_lt rfl rfl <| Zac <| Zae ?_
  refine Zao rfl (fun h13 => ?_) (fun h13 => ?_)
  ·refine Zar <| Zae <| Zat <| Zae <| Zaa <| Zad rfl <| Zah rfl <| Zac <| Zae <| Zaa <| Zad rfl <| Zad rfl ?_
   refine Zad rfl ?_
   refine o_ix hs11 rfl rfl fun y14 bk16 of17 vs19 h15 hc18 hr20 => ?_
   obtain ⟨a21, c22, rfl, hs23⟩ := hr20
   refine ZaP 0 hc18 rfl rfl rfl ?_
   refine s_mv 0 rfl ?_
   refine s_bg fun y24 h25 => ?_
   refine Zbg [Res.blk bq1g0 (Zak (cE x1g0 a1g0_0 c1g0_0) 44)] ([] : List Res) rfl rfl (List.perm_append_comm (l₁ := ([] : List Res)) (l₂ := [Res.blk bq1g0 (Zak (cE x1g0 a1g0_0 c1g0_0) 44)])) (Zeo k _ y14 _ _ hs23 x1g0 _ _ hs12 _ h25) ?_
   rintro _ H26 _ hle27 ⟨rfl, rfl⟩
   refine ZbL (own' := [.blk bq1g0 (Zak (cE x1g0 a1g0_0 c1g0_0) 44)]) rfl ?_
   refine Zac ?_
   refine Zao rfl (fun h32 => ?_) (fun h32 => ?_)
   ·refine Zae <| Zaa <| Zad rfl <| Zah rfl <| Zac <| ZbQ ?_
    exact ZaF (xs := [.tmp 4]) (vs := [.int .i64 s6]) [.blk bq1g0 (Zak (cE x1g0 a1g0_0 c1g0_0) 44)] Zkp rfl ⟨Zaz rfl, trivial⟩ (.cons_cons _ .slnil) ⟨rfl, rfl⟩
   ·refine Zar <| Zav <| Zaa <| ZbM rfl rfl <| Zad rfl <| Zac ?_
    exact Zag (by exact ⟨rfl, rfl, rfl, rfl, trivial⟩) (Zam (by exact (.cons_cons _ .slnil)) (ih8 (w64 (s6 + 1)) _ _ _ ⟨rfl, rfl, (Hle.trans hle10 hle27)⟩))
  ·refine Zbf rfl ?_
   exact Zag (by exact trivial) (Zam (by exact (.cons_cons _ .slnil)) (J5 () _ _ _ ⟨rfl, rfl, hle10⟩))
def Zaw (k : Nat) (x0 : (List Judge_seen)) (x1g0 : Event) : Option Bool :=
 (ZaK k x0 x1g0).bind fun y1 =>
 some (decide (y1 ≥ 0))
theorem Znz : Tryz.prog.funcs[72]? = some Tryz.f72 := by kernel_rfl
theorem Zcj (k : Nat) (H : Heap) (x0 : (List Judge_seen)) (a0_0 : Option Addr) (c0_0 : Nat) (hx0_0 : RSl H a0_0 c0_0 x0) (x1g0 : Event) (a1g0_0 : Option Addr) (c1g0_0 : Nat) (hx1g0_0 : RSl H a1g0_0 c1g0_0 x1g0.Sent) (bq1g0 : Nat) {r : Bool} (hr : Zaw k x0 x1g0 = some r) :
  Fn Tryz.prog 72 [.slice a0_0 x0.length c0_0, .func (.func 71) #[] #[.pointer (some ⟨bq1g0, 0, none⟩)]] H [.blk bq1g0 (Zak (cE x1g0 a1g0_0 c1g0_0) 44)] fun H' v out => v = .bool r ∧ out = [.blk bq1g0 (Zak (cE x1g0 a1g0_0 c1g0_0) 44)] := by
 refine Zaq (args := [.slice a0_0 x0.length c0_0, .func (.func 71) #[] #[.pointer (some ⟨bq1g0, 0, none⟩)]]) (n := 9) (Φ := fun r H' v out => v = .bool r ∧ out = [.blk bq1g0 (Zak (cE x1g0 a1g0_0 c1g0_0) 44)]) hr Znz rfl rfl rfl fun w => ?_
 refine s_eq (by rw [Zaw]) ?_
 refine Zae <| Zaa <| Zah rfl <| Zac <| Zae <| Zaa <| Zad rfl <| Zad rfl ?_
 refine s_mv 0 rfl ?_
 refine s_bg fun y1 h2 => ?_
 refine Zbg [Res.blk bq1g0 (Zak (cE x1g0 a1g0_0 c1g0_0) 44)] ([] : List Res) rfl rfl (List.perm_append_comm (l₁ := ([] : List Res)) (l₂ := [Res.blk bq1g0 (Zak (cE x1g0 a1g0_0 c1g0_0) 44)])) (Zct k _ x0 _ _ hx0_0 x1g0 _ _ hx1g0_0 _ h2) ?_
 rintro _ H3 _ hle4 ⟨rfl, rfl⟩
 refine ZbL (own' := [.blk bq1g0 (Zak (cE x1g0 a1g0_0 c1g0_0) 44)]) rfl ?_
 refine o_ge rfl rfl <| Zah rfl <| Zac ?_
 exact ZaF (xs := [.tmp 4]) (vs := [.bool (decide (y1 ≥ 0))]) [.blk bq1g0 (Zak (cE x1g0 a1g0_0 c1g0_0) 44)] Znz rfl ⟨Zaz rfl, trivial⟩ (.cons_cons _ .slnil) ⟨rfl, rfl⟩
end Go.Cat.G3

