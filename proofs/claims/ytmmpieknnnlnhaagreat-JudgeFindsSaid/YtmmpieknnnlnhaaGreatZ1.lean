/- A text of the proof of the seat's laws: a step logic over the machine, or pure functions that the Go functions come to. No condition. -/
import Derived.Test.YtmmpieknnnlnhaaGreatCore1
import Derived.Test.YtmmpieknnnlnhaaGreatProg
import Derived.KernelRfl
namespace Go.Cat.G3
open Go Go.Cat Go.Proofs
set_option maxRecDepth 100000
set_option maxHeartbeats 4000000
set_option linter.unusedVariables false
set_option linter.unusedSimpArgs false
theorem mixed : Tryz.prog.follows .mixedOrders = true := by kernel_rfl
structure End where
 Switch : Int
 Port : Int
 deriving DecidableEq
theorem ZnW (a b : End) : a = b ↔ a.Switch = b.Switch ∧ a.Port = b.Port := by cases a; cases b; simp
instance iZ1x1 : GoE End := ⟨2, fun x => [.int .i64 x.Switch, .int .i64 x.Port], fun _ => rfl, fun _ => rfl⟩
structure Link where
 A : End
 B : End
 deriving DecidableEq
instance iZ1x2 : GoE Link := ⟨4, fun x => [.int .i64 x.A.Switch, .int .i64 x.A.Port, .int .i64 x.B.Switch, .int .i64 x.B.Port], fun _ => rfl, fun _ => rfl⟩
structure Graph where
 Switches : Int
 Links : (List Link)
instance iZ1x3 : GoT Graph := {
 sz := 2
 rep := fun H vs x => ∃ a0 c0, vs = [.int .i64 x.Switches, .slice a0 x.Links.length c0] ∧ RSl H a0 c0 x.Links
 mono := fun h ⟨a0, c0, e, h0⟩ => ⟨a0, c0, e, h0.mono h⟩
 len := fun ⟨_, _, e, _⟩ => by rw [e]; rfl
 one := fun ⟨_, _, e, _⟩ => by rw [e]; rfl }
structure Graph_side where
 other : End
 link : Int
 deriving DecidableEq
instance iZ1x4 : GoE Graph_side := ⟨3, fun x => [.int .i64 x.other.Switch, .int .i64 x.other.Port, .int .i64 x.link], fun _ => rfl, fun _ => rfl⟩
structure Node where
 Kind : Int
 A : Int
 B : Int
 N : Int
 M : Int
 V : Int
 deriving DecidableEq
abbrev aN (x : Node) : Value := .agg #[.int .i64 x.Kind, .int .i64 x.A, .int .i64 x.B, .int .i64 x.N, .int .i64 x.M, .int .i64 x.V]
abbrev cN (x : Node) : List Value := [.int .i64 x.Kind, .int .i64 x.A, .int .i64 x.B, .int .i64 x.N, .int .i64 x.M, .int .i64 x.V]
theorem Zm4 (a b : Node) : a = b ↔ a.Kind = b.Kind ∧ a.A = b.A ∧ a.B = b.B ∧ a.N = b.N ∧ a.M = b.M ∧ a.V = b.V := by cases a; cases b; simp
instance iZ1x5 : GoE Node := ⟨6, fun x => [.int .i64 x.Kind, .int .i64 x.A, .int .i64 x.B, .int .i64 x.N, .int .i64 x.M, .int .i64 x.V], fun _ => rfl, fun _ => rfl⟩
instance iZ1x6 : TLay Tryz.prog 3 1 false := ⟨fun _ => by kernel_rfl, fun _ => by kernel_rfl, fun h => by first | rfl | cases h⟩
instance iZ1x7 : TLay Tryz.prog 4 1 false := ⟨fun _ => by kernel_rfl, fun _ => by kernel_rfl, fun h => by first | rfl | cases h⟩
instance iZ1x8 : TLay Tryz.prog 22 1 false := ⟨fun _ => by kernel_rfl, fun _ => by kernel_rfl, fun h => by first | rfl | cases h⟩
instance iZ1x9 : TLay Tryz.prog 24 2 true := ⟨fun _ => by kernel_rfl, fun _ => by kernel_rfl, fun h => by first | rfl | cases h⟩
instance iZ1x10 : TLay Tryz.prog 38 6 true := ⟨fun _ => by kernel_rfl, fun _ => by kernel_rfl, fun h => by first | rfl | cases h⟩
instance iZ1x11 : TLay Tryz.prog 81 2 true := ⟨fun _ => by kernel_rfl, fun _ => by kernel_rfl, fun h => by first | rfl | cases h⟩
instance iZ1x12 : TLay Tryz.prog 83 4 true := ⟨fun _ => by kernel_rfl, fun _ => by kernel_rfl, fun h => by first | rfl | cases h⟩
instance iZ1x13 : TLay Tryz.prog 233 3 true := ⟨fun _ => by kernel_rfl, fun _ => by kernel_rfl, fun h => by first | rfl | cases h⟩
instance iZ1x14 : TFld Tryz.prog 24 0 0 1 false := ⟨⟨_, _, Tryz.underlying24, rfl, rfl, fun _ => by kernel_rfl, fun _ => by kernel_rfl, by decide, fun h => by first | rfl | cases h⟩⟩
instance iZ1x15 : TFld Tryz.prog 24 1 1 1 false := ⟨⟨_, _, Tryz.underlying24, rfl, rfl, fun _ => by kernel_rfl, fun _ => by kernel_rfl, by decide, fun h => by first | rfl | cases h⟩⟩
instance iZ1x16 : TFld Tryz.prog 38 0 0 1 false := ⟨⟨_, _, Tryz.underlying38, rfl, rfl, fun _ => by kernel_rfl, fun _ => by kernel_rfl, by decide, fun h => by first | rfl | cases h⟩⟩
instance iZ1x17 : TFld Tryz.prog 38 1 1 1 false := ⟨⟨_, _, Tryz.underlying38, rfl, rfl, fun _ => by kernel_rfl, fun _ => by kernel_rfl, by decide, fun h => by first | rfl | cases h⟩⟩
instance iZ1x18 : TFld Tryz.prog 38 2 2 1 false := ⟨⟨_, _, Tryz.underlying38, rfl, rfl, fun _ => by kernel_rfl, fun _ => by kernel_rfl, by decide, fun h => by first | rfl | cases h⟩⟩
instance iZ1x19 : TFld Tryz.prog 38 3 3 1 false := ⟨⟨_, _, Tryz.underlying38, rfl, rfl, fun _ => by kernel_rfl, fun _ => by kernel_rfl, by decide, fun h => by first | rfl | cases h⟩⟩
instance iZ1x20 : TFld Tryz.prog 38 4 4 1 false := ⟨⟨_, _, Tryz.underlying38, rfl, rfl, fun _ => by kernel_rfl, fun _ => by kernel_rfl, by decide, fun h => by first | rfl | cases h⟩⟩
instance iZ1x21 : TFld Tryz.prog 38 5 5 1 false := ⟨⟨_, _, Tryz.underlying38, rfl, rfl, fun _ => by kernel_rfl, fun _ => by kernel_rfl, by decide, fun h => by first | rfl | cases h⟩⟩
instance iZ1x22 : TFld Tryz.prog 81 0 0 1 false := ⟨⟨_, _, Tryz.underlying81, rfl, rfl, fun _ => by kernel_rfl, fun _ => by kernel_rfl, by decide, fun h => by first | rfl | cases h⟩⟩
instance iZ1x23 : TFld Tryz.prog 81 1 1 1 false := ⟨⟨_, _, Tryz.underlying81, rfl, rfl, fun _ => by kernel_rfl, fun _ => by kernel_rfl, by decide, fun h => by first | rfl | cases h⟩⟩
instance iZ1x24 : TFld Tryz.prog 83 0 0 2 true := ⟨⟨_, _, Tryz.underlying83, rfl, rfl, fun _ => by kernel_rfl, fun _ => by kernel_rfl, by decide, fun h => by first | rfl | cases h⟩⟩
instance iZ1x25 : TFld Tryz.prog 83 1 2 2 true := ⟨⟨_, _, Tryz.underlying83, rfl, rfl, fun _ => by kernel_rfl, fun _ => by kernel_rfl, by decide, fun h => by first | rfl | cases h⟩⟩
instance iZ1x26 : TFld Tryz.prog 233 0 0 2 true := ⟨⟨_, _, Tryz.underlying233, rfl, rfl, fun _ => by kernel_rfl, fun _ => by kernel_rfl, by decide, fun h => by first | rfl | cases h⟩⟩
instance iZ1x27 : TFld Tryz.prog 233 1 2 1 false := ⟨⟨_, _, Tryz.underlying233, rfl, rfl, fun _ => by kernel_rfl, fun _ => by kernel_rfl, by decide, fun h => by first | rfl | cases h⟩⟩
instance iZ1x28 : TZero Tryz.prog 38 (.agg #[.int .i64 0, .int .i64 0, .int .i64 0, .int .i64 0, .int .i64 0, .int .i64 0]) := ⟨fun _ => by kernel_rfl⟩
instance iZ1x29 : TZero Tryz.prog 81 (.agg #[.int .i64 0, .int .i64 0]) := ⟨fun _ => by kernel_rfl⟩
instance iZ1x30 : TZero Tryz.prog 83 (.agg #[.int .i64 0, .int .i64 0, .int .i64 0, .int .i64 0]) := ⟨fun _ => by kernel_rfl⟩
instance iZ1x31 : TZero Tryz.prog 233 (.agg #[.int .i64 0, .int .i64 0, .int .i64 0]) := ⟨fun _ => by kernel_rfl⟩
instance iZ1x32 : TSl Tryz.prog 22 83 4 32 := ⟨by kernel_rfl, fun _ => by kernel_rfl, ⟨Tryz.t83, by kernel_rfl, by kernel_rfl⟩, by decide, by decide, ⟨.agg #[.int .i64 0, .int .i64 0, .int .i64 0, .int .i64 0], fun _ => by kernel_rfl, rfl, rfl⟩⟩
instance iZ1x33 : TSl Tryz.prog 27 38 6 48 := ⟨by kernel_rfl, fun _ => by kernel_rfl, ⟨Tryz.t38, by kernel_rfl, by kernel_rfl⟩, by decide, by decide, ⟨.agg #[.int .i64 0, .int .i64 0, .int .i64 0, .int .i64 0, .int .i64 0, .int .i64 0], fun _ => by kernel_rfl, rfl, rfl⟩⟩
instance iZ1x34 : TSl Tryz.prog 39 3 1 8 := ⟨by kernel_rfl, fun _ => by kernel_rfl, ⟨Tryz.t3, by kernel_rfl, by kernel_rfl⟩, by decide, by decide, ⟨.int .i64 0, fun _ => by kernel_rfl, rfl, rfl⟩⟩
instance iZ1x35 : TSl Tryz.prog 203 4 1 1 := ⟨by kernel_rfl, fun _ => by kernel_rfl, ⟨Tryz.t4, by kernel_rfl, by kernel_rfl⟩, by decide, by decide, ⟨.bool false, fun _ => by kernel_rfl, rfl, rfl⟩⟩
instance iZ1x36 : TSl Tryz.prog 231 81 2 16 := ⟨by kernel_rfl, fun _ => by kernel_rfl, ⟨Tryz.t81, by kernel_rfl, by kernel_rfl⟩, by decide, by decide, ⟨.agg #[.int .i64 0, .int .i64 0], fun _ => by kernel_rfl, rfl, rfl⟩⟩
instance iZ1x37 : TBld Tryz.prog 38 [.int .i64 0, .int .i64 0, .int .i64 0, .int .i64 0, .int .i64 0, .int .i64 0] [(0, 1), (1, 1), (2, 1), (3, 1), (4, 1), (5, 1)] := ⟨fun _ => by kernel_rfl, ⟨_, Tryz.underlying38, fun _ => by kernel_rfl⟩⟩
instance iZ1x38 : TBld Tryz.prog 81 [.int .i64 0, .int .i64 0] [(0, 1), (1, 1)] := ⟨fun _ => by kernel_rfl, ⟨_, Tryz.underlying81, fun _ => by kernel_rfl⟩⟩
instance iZ1x39 : TBld Tryz.prog 233 [.int .i64 0, .int .i64 0, .int .i64 0] [(0, 2), (2, 1)] := ⟨fun _ => by kernel_rfl, ⟨_, Tryz.underlying233, fun _ => by kernel_rfl⟩⟩
instance iZ1x40 : TFun Tryz.prog 73 := ⟨_, (by kernel_rfl : Tryz.prog.funcs[73]? = some Tryz.f73), by decide, rfl⟩
instance iZ1x41 : TFun Tryz.prog 82 := ⟨_, (by kernel_rfl : Tryz.prog.funcs[82]? = some Tryz.f82), by decide, rfl⟩
instance iZ1x42 : TFun Tryz.prog 83 := ⟨_, (by kernel_rfl : Tryz.prog.funcs[83]? = some Tryz.f83), by decide, rfl⟩
instance iZ1x43 : TFun Tryz.prog 84 := ⟨_, (by kernel_rfl : Tryz.prog.funcs[84]? = some Tryz.f84), by decide, rfl⟩
instance iZ1x44 : TFun Tryz.prog 85 := ⟨_, (by kernel_rfl : Tryz.prog.funcs[85]? = some Tryz.f85), by decide, rfl⟩
instance iZ1x45 : TFun Tryz.prog 86 := ⟨_, (by kernel_rfl : Tryz.prog.funcs[86]? = some Tryz.f86), by decide, rfl⟩
instance iZ1x46 : TFun Tryz.prog 87 := ⟨_, (by kernel_rfl : Tryz.prog.funcs[87]? = some Tryz.f87), by decide, rfl⟩
instance iZ1x47 : TFun Tryz.prog 88 := ⟨_, (by kernel_rfl : Tryz.prog.funcs[88]? = some Tryz.f88), by decide, rfl⟩
instance iZ1x48 : TFun Tryz.prog 112 := ⟨_, (by kernel_rfl : Tryz.prog.funcs[112]? = some Tryz.f112), by decide, rfl⟩
instance iZ1x49 : TFun Tryz.prog 129 := ⟨_, (by kernel_rfl : Tryz.prog.funcs[129]? = some Tryz.f129), by decide, rfl⟩
instance iZ1x50 : TFun Tryz.prog 130 := ⟨_, (by kernel_rfl : Tryz.prog.funcs[130]? = some Tryz.f130), by decide, rfl⟩
instance iZ1x51 : TFun Tryz.prog 131 := ⟨_, (by kernel_rfl : Tryz.prog.funcs[131]? = some Tryz.f131), by decide, rfl⟩
instance iZ1x52 : TFun Tryz.prog 132 := ⟨_, (by kernel_rfl : Tryz.prog.funcs[132]? = some Tryz.f132), by decide, rfl⟩
instance iZ1x53 : TFun Tryz.prog 133 := ⟨_, (by kernel_rfl : Tryz.prog.funcs[133]? = some Tryz.f133), by decide, rfl⟩
instance iZ1x54 : TFun Tryz.prog 134 := ⟨_, (by kernel_rfl : Tryz.prog.funcs[134]? = some Tryz.f134), by decide, rfl⟩
instance iZ1x55 : TFun Tryz.prog 138 := ⟨_, (by kernel_rfl : Tryz.prog.funcs[138]? = some Tryz.f138), by decide, rfl⟩
instance iZ1x56 : TFun Tryz.prog 139 := ⟨_, (by kernel_rfl : Tryz.prog.funcs[139]? = some Tryz.f139), by decide, rfl⟩
instance iZ1x57 : TFun Tryz.prog 168 := ⟨_, (by kernel_rfl : Tryz.prog.funcs[168]? = some Tryz.f168), by decide, rfl⟩
instance iZ1x58 : TFun Tryz.prog 169 := ⟨_, (by kernel_rfl : Tryz.prog.funcs[169]? = some Tryz.f169), by decide, rfl⟩
instance iZ1x59 : TEq Tryz.prog 38 Node := ZiA 2 (by omega) (fun a b => Zgn (r := ((a.Kind == b.Kind) && ((a.A == b.A) && ((a.B == b.B) && ((a.N == b.N) && ((a.M == b.M) && ((a.V == b.V) && true))))))) (Zf0 (n := 1) Tryz.underlying38 (by kernel_rfl) (ZdF (n := 1) (sz := 1) (ag := false) (by decide) rfl rfl (Zc6 (K := .i64) Tryz.underlying3) (ZdF (n := 1) (sz := 1) (ag := false) (by decide) rfl rfl (Zc6 (K := .i64) Tryz.underlying3) (ZdF (n := 1) (sz := 1) (ag := false) (by decide) rfl rfl (Zc6 (K := .i64) Tryz.underlying3) (ZdF (n := 1) (sz := 1) (ag := false) (by decide) rfl rfl (Zc6 (K := .i64) Tryz.underlying3) (ZdF (n := 1) (sz := 1) (ag := false) (by decide) rfl rfl (Zc6 (K := .i64) Tryz.underlying3) (ZdF (n := 1) (sz := 1) (ag := false) (by decide) rfl rfl (Zc6 (K := .i64) Tryz.underlying3) (Zij)))))))) (by rw [Bool.eq_iff_iff]; simp [Zm4, Zg6, and_assoc])) (by kernel_rfl)
instance iZ1x60 : TEq Tryz.prog 81 End := ZiA 2 (by omega) (fun a b => Zgn (r := ((a.Switch == b.Switch) && ((a.Port == b.Port) && true))) (Zf0 (n := 1) Tryz.underlying81 (by kernel_rfl) (ZdF (n := 1) (sz := 1) (ag := false) (by decide) rfl rfl (Zc6 (K := .i64) Tryz.underlying3) (ZdF (n := 1) (sz := 1) (ag := false) (by decide) rfl rfl (Zc6 (K := .i64) Tryz.underlying3) (Zij)))) (by rw [Bool.eq_iff_iff]; simp [ZnW, Zg6, and_assoc])) (by kernel_rfl)
instance iZ1x61 : TMap Tryz.prog 182 81 233 := ⟨by kernel_rfl⟩
instance iZ1x62 : TKey Tryz.prog 81 true End := Zgq 2 (by omega) Tryz.underlying81 (fun a => (Zg2 (n := 1) Tryz.underlying81 (Zhq (n := 1) (sz := 1) (ag := false) rfl (by decide) (Zfw Tryz.underlying3) (Zhq (n := 1) (sz := 1) (ag := false) rfl (by decide) (Zfw Tryz.underlying3) (Zl8))))) (fun a => by simp [Instr.sameBits, GoE.enc])
def Zci (k : Nat) (x0 : Graph) (s18 : (List (End × Graph_side)) × Int) (y28 : Link) : Nat → (List (End × Graph_side)) × Int → Option (LX (LX ((Option (List (End × Graph_side))) × Bool) ((List (End × Graph_side)))) ((List (End × Graph_side))))
 | 0, _ => none
 | q51 + 1, s47 =>
  if (decide (s47.2 < (([y28.A, y28.B] : List End).length : Int))) = true then
   (rd ([y28.A, y28.B] : List End) s47.2).bind fun y58 =>
   if (((mhas s47.1 y58) || ((decide (y58.Switch < 1)) || ((decide (y58.Switch > x0.Switches)) || ((decide (y58.Port < 1)) || decide (y58.Port > 4)))))) = true then
    some (.ret (.ret ((none : (Option (List (End × Graph_side)))), false)))
   else
    (if (decide (y58 = y28.A)) = true then
      some (y28.B.Switch, y28.B.Port)
     else
      some (y28.A.Switch, y28.A.Port)).bind fun p72 =>
    Zci k x0 s18 y28 q51 ((mput s47.1 y58 (⟨(⟨p72.1, p72.2⟩ : End), s18.2⟩ : Graph_side)), w64 (s47.2 + 1))
  else
   some (.out s47.1)
def ZcR (k : Nat) (x0 : Graph) : Nat → (List (End × Graph_side)) × Int → Option (LX ((Option (List (End × Graph_side))) × Bool) ((List (End × Graph_side))))
 | 0, _ => none
 | q22 + 1, s18 =>
  if (decide (s18.2 < (x0.Links.length : Int))) = true then
   (rd x0.Links s18.2).bind fun y28 =>
   (Zci k x0 s18 y28 k (s18.1, 0)).bind (LX.go fun p38 =>
   if (y28.A.Switch == y28.B.Switch) = true then
    some (.ret ((none : (Option (List (End × Graph_side)))), false))
   else
    ZcR k x0 q22 (p38, w64 (s18.2 + 1)))
  else
   some (.out s18.1)
def ZdB (k : Nat) (x0 : Graph) : Option ((Option (List (End × Graph_side))) × Bool) :=
 if (((decide (x0.Switches < 1)) || decide (x0.Switches > 6))) = true then
  some ((none : (Option (List (End × Graph_side)))), false)
 else
  (ZcR k x0 k (([] : (List (End × Graph_side))), 0)).bind (LX.go fun p7 =>
  some ((some p7), true))
theorem ZhQ : Tryz.prog.funcs[112]? = some Tryz.f112 := by kernel_rfl
theorem Zfn (k : Nat) (H : Heap) (x0 : Graph) (a0_0 : Option Addr) (c0_0 : Nat) (hx0_0 : RSl H a0_0 c0_0 x0.Links) {r : (Option (List (End × Graph_side))) × Bool} (hr : ZdB k x0 = some r) :
  Fn Tryz.prog 112 [.agg #[.int .i64 x0.Switches, .slice a0_0 x0.Links.length c0_0]] H [] fun H' v out => ∃ mv0_0, v = .tuple #[mv0_0, .bool r.2] ∧ out = [] ∧ MapV true true H' mv0_0 r.1 := by
 refine Zaq (args := [.agg #[.int .i64 x0.Switches, .slice a0_0 x0.Links.length c0_0]]) (n := 91) (Φ := fun r H' v out => ∃ mv0_0, v = .tuple #[mv0_0, .bool r.2] ∧ out = [] ∧ MapV true true H' mv0_0 r.1) hr ZhQ rfl rfl rfl fun w => ?_
 refine s_eq (by rw [ZdB]) ?_
 refine Zae <| Zaa ?_
 refine ZbO rfl fun b1 => ?_
 refine Zah rfl <| Zah rfl <| Zac <| Zae <| Zae <| Zaa ?_
 refine Zfs [(1, .pointer (some ⟨b1, 0, none⟩)), (19, .bool ((decide (x0.Switches < 1)) || decide (x0.Switches > 6)))] [.blk b1 (Zak [.int .i64 x0.Switches, .slice a0_0 x0.Links.length c0_0] 24)] ?_ ?_
 ·refine Zao rfl (fun h3 => ?_) (fun h3 => ?_)
  ·refine Zae <| Zaa <| Zah rfl <| Zah rfl <| Zac ?_
   exact ZaF (xs := [.tmp 2, .tmp 3]) (vs := [.map none, .bool false]) [] ZhQ rfl ⟨Zaz rfl, Zaz rfl, trivial⟩ (.cons _ .slnil) ⟨_, rfl, rfl, Zhh⟩
  ·refine Zar <| Zae <| Zaa ?_
   refine ZfU fun b4 => ?_
   have hR6 : MapR true true H #[] 0 ([] : (List (End × Graph_side))) := .nil
   refine Zah rfl <| Zac <| Zae <| Zae <| Zaa <| o_fa rfl <| o_ld 0 rfl rfl rfl <| ZaG rfl <| Zad rfl <| Zac ?_
   refine ZbR (fun p7 env own H' => ∃ es8 c9, env = [(4, .map (some b4))] ∧ own = [.blk b4 (.map es8 c9)] ∧ Hle H H' ∧ MapR true true H' es8 c9 p7) ?_ ?_
   ·rintro p7 _ _ H11 ⟨es8, c9, rfl, rfl, hle12, hR10⟩
    refine Zae <| Zaa <| Zad rfl <| Zah rfl <| Zah rfl <| Zac ?_
    refine ZlL 0 (fun b => .inl (by simp [ids])) rfl hR10 fun H13 hle14 hs16 => ?_
    exact ZaF (xs := [.tmp 2, .tmp 3]) (vs := [(.map (some b4)), .bool true]) [] ZhQ rfl ⟨Zaz rfl, Zaz rfl, trivial⟩ .slnil ⟨_, rfl, rfl, hs16⟩
   ·intro J17
    refine Zat ?_
    refine Zag (env' := [(1, .pointer (some ⟨b1, 0, none⟩)), (4, .map (some b4)), (22, .slice a0_0 x0.Links.length c0_0), (23, .int .i64 (x0.Links.length : Int)), (24, .int .i64 0)]) (by exact ⟨rfl, rfl, rfl, rfl, rfl, trivial⟩) ?_
    refine Zam (own' := [.blk b1 (Zak [.int .i64 x0.Switches, .slice a0_0 x0.Links.length c0_0] 24), .blk b4 (.map #[] 0)]) (.cons_cons _ (.cons_cons _ .slnil)) ?_
    refine Za2 (fun q s18 => ZcR k x0 q s18) (fun s18 env own H' => ∃ es19 c20, env = [(1, .pointer (some ⟨b1, 0, none⟩)), (4, .map (some b4)), (22, .slice a0_0 x0.Links.length c0_0), (23, .int .i64 (x0.Links.length : Int)), (24, .int .i64 s18.2)] ∧ own = [.blk b1 (Zak [.int .i64 x0.Switches, .slice a0_0 x0.Links.length c0_0] 24), .blk b4 (.map es19 c20)] ∧ Hle H H' ∧ MapR true true H' es19 c20 s18.1) (fun _ => rfl) ?_ k (([] : (List (End × Graph_side))), 0) ⟨_, _, rfl, rfl, .refl _, hR6⟩
    rintro q22 ih23 s18 _ _ H24 ⟨es19, c20, rfl, rfl, hle25, hR21⟩
    refine s_eq (by rw [ZcR]) ?_
    have hs26 := RSl.mono hle25 hx0_0
    refine Zae <| Zaa <| o_lt rfl rfl <| Zac <| Zae ?_
    refine Zao rfl (fun h27 => ?_) (fun h27 => ?_)
    ·refine Zar <| Zae <| Zat <| Zae <| Zaa <| Zad rfl ?_
     refine Zce hs26 rfl rfl fun y28 bk30 of31 h29 hc32 => ?_
     refine ZaP 0 hc32 rfl rfl rfl ?_
     refine Zbw fun b33 => ?_
     refine Zah rfl ?_
     refine o_st 2 rfl rfl rfl rfl rfl rfl ?_
     refine Zac <| Zae <| Zae <| Zaa <| o_fa rfl <| o_ld 2 rfl rfl rfl <| o_fa rfl <| o_ld 2 rfl rfl rfl ?_
     refine Zdw (xs := [.tmp 30, .tmp 32]) rfl rfl (by simp only [List.mem_cons, List.not_mem_nil, or_false, forall_eq_or_imp, forall_eq]; exact ⟨⟨rfl, rfl⟩, ⟨rfl, rfl⟩⟩) rfl rfl fun b35 => ?_
     have hA36 : All2 (GoT.rep H24) [[.int .i64 y28.A.Switch, .int .i64 y28.A.Port], [.int .i64 y28.B.Switch, .int .i64 y28.B.Port]] ([y28.A, y28.B] : List End) := ZaZ (([y28.A, y28.B] : List End))
     refine ZaG rfl <| Zad rfl <| Zac ?_
     refine ZbR (fun p38 env own H' => ∃ es39 c40, env = [(1, .pointer (some ⟨b1, 0, none⟩)), (4, .map (some b4)), (6, .pointer (some ⟨b33, 0, none⟩)), (22, .slice a0_0 x0.Links.length c0_0), (23, .int .i64 (x0.Links.length : Int)), (24, .int .i64 s18.2)] ∧ own = [.blk b1 (Zak [.int .i64 x0.Switches, .slice a0_0 x0.Links.length c0_0] 24), .blk b4 (.map es39 c40), .blk b33 (Zak [.int .i64 y28.A.Switch, .int .i64 y28.A.Port, .int .i64 y28.B.Switch, .int .i64 y28.B.Port] 83)] ∧ Hle H24 H' ∧ MapR true true H' es39 c40 p38) ?_ ?_
     ·rintro p38 _ _ H42 ⟨es39, c40, rfl, rfl, hle43, hR41⟩
      refine Zae <| Zaa <| o_fa rfl <| o_fa rfl <| o_ld 2 rfl rfl rfl <| o_fa rfl <| o_fa rfl <| o_ld 2 rfl rfl rfl <| o_eq rfl rfl <| Zac ?_
      refine Zao rfl (fun h45 => ?_) (fun h45 => ?_)
      ·refine Zae <| Zaa <| Zah rfl <| Zah rfl <| Zac <| ZbQ ?_
       exact ZaF (xs := [.tmp 2, .tmp 3]) (vs := [.map none, .bool false]) [] ZhQ rfl ⟨Zaz rfl, Zaz rfl, trivial⟩ (.cons _ (.cons _ (.cons _ .slnil))) ⟨_, rfl, rfl, Zhh⟩
      ·refine Zar <| Zav <| Zaa <| ZbM rfl rfl <| Zad rfl <| Zac ?_
       exact Zag (by exact ⟨rfl, rfl, rfl, rfl, rfl, trivial⟩) (Zam (by exact (.cons_cons _ (.cons_cons _ (.cons _ .slnil)))) (ih23 (p38, w64 (s18.2 + 1)) _ _ _ ⟨_, _, rfl, rfl, (Hle.trans hle25 hle43), hR41⟩))
     ·intro J46
      refine Zat ?_
      refine Zag (env' := [(1, .pointer (some ⟨b1, 0, none⟩)), (4, .map (some b4)), (5, .int .i64 s18.2), (6, .pointer (some ⟨b33, 0, none⟩)), (22, .slice a0_0 x0.Links.length c0_0), (23, .int .i64 (x0.Links.length : Int)), (24, .int .i64 s18.2), (33, .slice (some ⟨b35, 0, none⟩) ([y28.A, y28.B] : List End).length 2), (34, .int .i64 (([y28.A, y28.B] : List End).length : Int)), (35, .int .i64 0)]) (by exact ⟨rfl, rfl, rfl, rfl, rfl, rfl, rfl, rfl, rfl, rfl, trivial⟩) ?_
      refine Zam (own' := [.blk b1 (Zak [.int .i64 x0.Switches, .slice a0_0 x0.Links.length c0_0] 24), .blk b4 (.map es19 c20), .blk b33 (Zak [.int .i64 y28.A.Switch, .int .i64 y28.A.Port, .int .i64 y28.B.Switch, .int .i64 y28.B.Port] 83), .osl (.slice (some ⟨b35, 0, none⟩) ([y28.A, y28.B] : List End).length 2) 2 81 [[.int .i64 y28.A.Switch, .int .i64 y28.A.Port], [.int .i64 y28.B.Switch, .int .i64 y28.B.Port]]]) (.cons_cons _ (.cons_cons _ (.cons_cons _ (.cons_cons _ .slnil)))) ?_
      refine Za2 (fun q s47 => Zci k x0 s18 y28 q s47) (fun s47 env own H' => ∃ es48 c49, env = [(1, .pointer (some ⟨b1, 0, none⟩)), (4, .map (some b4)), (5, .int .i64 s18.2), (6, .pointer (some ⟨b33, 0, none⟩)), (22, .slice a0_0 x0.Links.length c0_0), (23, .int .i64 (x0.Links.length : Int)), (24, .int .i64 s18.2), (33, .slice (some ⟨b35, 0, none⟩) ([y28.A, y28.B] : List End).length 2), (34, .int .i64 (([y28.A, y28.B] : List End).length : Int)), (35, .int .i64 s47.2)] ∧ own = [.blk b1 (Zak [.int .i64 x0.Switches, .slice a0_0 x0.Links.length c0_0] 24), .blk b4 (.map es48 c49), .blk b33 (Zak [.int .i64 y28.A.Switch, .int .i64 y28.A.Port, .int .i64 y28.B.Switch, .int .i64 y28.B.Port] 83), .osl (.slice (some ⟨b35, 0, none⟩) ([y28.A, y28.B] : List End).length 2) 2 81 [[.int .i64 y28.A.Switch, .int .i64 y28.A.Port], [.int .i64 y28.B.Switch, .int .i64 y28.B.Port]]] ∧ Hle H24 H' ∧ MapR true true H' es48 c49 s47.1) (fun _ => rfl) ?_ k (s18.1, 0) ⟨_, _, rfl, rfl, .refl _, hR21⟩
      rintro q51 ih52 s47 _ _ H53 ⟨es48, c49, rfl, rfl, hle54, hR50⟩
      refine s_eq (by rw [Zci]) ?_
      have hA56 := All2.mono (fun _ _ => GoT.mono hle54) hA36
      refine Zae <| Zaa <| o_lt rfl rfl <| Zac <| Zae ?_
      refine Zao rfl (fun h57 => ?_) (fun h57 => ?_)
      ·refine Zar <| Zae <| Zat <| Zae <| Zaa ?_
       refine Zc2 3 rfl hA56 rfl rfl fun y58 bk60 vs61 h59 ha62 hi63 hr64 => ?_
       subst hr64
       obtain rfl := s_bk ha62
       refine ZdL 3 0 rfl hi63 rfl rfl rfl ?_
       refine Zbw fun b65 => ?_
       refine o_st 4 rfl rfl rfl rfl rfl rfl ?_
       refine Zac <| Zae <| Zaa <| Zad rfl <| o_ld 4 rfl rfl rfl ?_
       refine Zia (kt := 81) (et := 233) (z := ((⟨(⟨0, 0⟩ : End), 0⟩ : Graph_side) : Graph_side)) 1 rfl rfl hR50 y58 rfl ?_
       refine Zad rfl <| ZcI rfl rfl <| ZcI rfl rfl ?_
       refine Zbw fun b67 => ?_
       refine o_st 5 rfl rfl rfl rfl rfl rfl ?_
       refine Zah rfl <| Zac <| Zae <| Zae <| Zaa ?_
       refine Zfs [(1, .pointer (some ⟨b1, 0, none⟩)), (4, .map (some b4)), (5, .int .i64 s18.2), (6, .pointer (some ⟨b33, 0, none⟩)), (8, .pointer (some ⟨b65, 0, none⟩)), (22, .slice a0_0 x0.Links.length c0_0), (23, .int .i64 (x0.Links.length : Int)), (24, .int .i64 s18.2), (33, .slice (some ⟨b35, 0, none⟩) ([y28.A, y28.B] : List End).length 2), (34, .int .i64 (([y28.A, y28.B] : List End).length : Int)), (35, .int .i64 s47.2), (67, .bool ((mhas s47.1 y58) || ((decide (y58.Switch < 1)) || ((decide (y58.Switch > x0.Switches)) || ((decide (y58.Port < 1)) || decide (y58.Port > 4))))))] [.blk b1 (Zak [.int .i64 x0.Switches, .slice a0_0 x0.Links.length c0_0] 24), .blk b4 (.map es48 c49), .blk b33 (Zak [.int .i64 y28.A.Switch, .int .i64 y28.A.Port, .int .i64 y28.B.Switch, .int .i64 y28.B.Port] 83), .osl (.slice (some ⟨b35, 0, none⟩) ([y28.A, y28.B] : List End).length 2) 2 81 [[.int .i64 y28.A.Switch, .int .i64 y28.A.Port], [.int .i64 y28.B.Switch, .int .i64 y28.B.Port]], .blk b65 (Zak [.int .i64 y58.Switch, .int .i64 y58.Port] 81)] ?_ ?_
       ·refine Zao rfl (fun h69 => ?_) (fun h69 => ?_)
        ·refine Zae <| Zaa <| Zah rfl <| Zah rfl <| Zac <| ZbQ <| ZbQ ?_
         exact ZaF (xs := [.tmp 2, .tmp 3]) (vs := [.map none, .bool false]) [] ZhQ rfl ⟨Zaz rfl, Zaz rfl, trivial⟩ (.cons _ (.cons _ (.cons _ (.cons _ (.cons _ .slnil))))) ⟨_, rfl, rfl, Zhh⟩
        ·refine Zar <| Zae <| Zaa <| o_fa rfl <| o_ld 2 rfl rfl rfl ?_
         refine Zbw fun b70 => ?_
         refine o_st 5 rfl rfl rfl rfl rfl rfl ?_
         refine Zac <| Zae <| Zae <| Zaa <| o_ld 4 rfl rfl rfl <| o_fa rfl <| o_ld 2 rfl rfl rfl ?_
         refine ZfV y58 y28.A rfl rfl ?_
         refine Zac ?_
         refine Zb3 (fun p72 env own H' => env = [(1, .pointer (some ⟨b1, 0, none⟩)), (4, .map (some b4)), (5, .int .i64 s18.2), (6, .pointer (some ⟨b33, 0, none⟩)), (8, .pointer (some ⟨b65, 0, none⟩)), (11, .pointer (some ⟨b70, 0, none⟩)), (22, .slice a0_0 x0.Links.length c0_0), (23, .int .i64 (x0.Links.length : Int)), (24, .int .i64 s18.2), (33, .slice (some ⟨b35, 0, none⟩) ([y28.A, y28.B] : List End).length 2), (34, .int .i64 (([y28.A, y28.B] : List End).length : Int)), (35, .int .i64 s47.2)] ∧ own = [.blk b1 (Zak [.int .i64 x0.Switches, .slice a0_0 x0.Links.length c0_0] 24), .blk b4 (.map es48 c49), .blk b33 (Zak [.int .i64 y28.A.Switch, .int .i64 y28.A.Port, .int .i64 y28.B.Switch, .int .i64 y28.B.Port] 83), .osl (.slice (some ⟨b35, 0, none⟩) ([y28.A, y28.B] : List End).length 2) 2 81 [[.int .i64 y28.A.Switch, .int .i64 y28.A.Port], [.int .i64 y28.B.Switch, .int .i64 y28.B.Port]], .blk b65 (Zak [.int .i64 y58.Switch, .int .i64 y58.Port] 81), .blk b70 (Zak [.int .i64 p72.1, .int .i64 p72.2] 81)] ∧ Hle H53 H') ?_ ?_
         ·rintro p72 _ _ H73 ⟨rfl, rfl, hle74⟩
          have hR76 := MapR.mono hle74 hR50
          refine Zaa <| Zad rfl <| o_ld 4 rfl rfl rfl <| o_ld 5 rfl rfl rfl <| Zad rfl ?_
          refine Zdx rfl rfl ?_
          refine ZjU (kt := 81) (et := 233) (vs := [.int .i64 p72.1, .int .i64 p72.2, .int .i64 s18.2]) 1 rfl rfl hR76 y58 rfl (⟨(⟨p72.1, p72.2⟩ : End), s18.2⟩ : Graph_side) rfl rfl fun es78 c79 hR80 => ?_
          refine Zac <| Zav <| Zaa <| ZbM rfl rfl <| Zad rfl <| Zac ?_
          exact Zag (by exact ⟨rfl, rfl, rfl, rfl, rfl, rfl, rfl, rfl, rfl, rfl, trivial⟩) (Zam (by exact (.cons_cons _ (.cons_cons _ (.cons_cons _ (.cons_cons _ (.cons _ (.cons _ .slnil))))))) (ih52 ((mput s47.1 y58 (⟨(⟨p72.1, p72.2⟩ : End), s18.2⟩ : Graph_side)), w64 (s47.2 + 1)) _ _ _ ⟨_, _, rfl, rfl, (Hle.trans hle54 hle74), hR80⟩))
         ·intro J81
          refine Zao rfl (fun h82 => ?_) (fun h82 => ?_)
          ·refine Zaa <| o_fa rfl <| o_ld 2 rfl rfl rfl ?_
           refine o_st 5 rfl rfl rfl rfl rfl rfl ?_
           refine Zac ?_
           exact Zag (by exact ⟨rfl, rfl, rfl, rfl, rfl, rfl, rfl, rfl, rfl, rfl, rfl, rfl, trivial⟩) (Zam (by exact (.cons_cons _ (.cons_cons _ (.cons_cons _ (.cons_cons _ (.cons_cons _ (.cons_cons _ .slnil))))))) (J81 (y28.B.Switch, y28.B.Port) _ _ _ ⟨rfl, rfl, .refl _⟩))
          ·refine Zar ?_
           exact Zag (by exact ⟨rfl, rfl, rfl, rfl, rfl, rfl, rfl, rfl, rfl, rfl, rfl, rfl, trivial⟩) (Zam (by exact (.cons_cons _ (.cons_cons _ (.cons_cons _ (.cons_cons _ (.cons_cons _ (.cons_cons _ .slnil))))))) (J81 (y28.A.Switch, y28.A.Port) _ _ _ ⟨rfl, rfl, .refl _⟩))
       ·intro J83
        refine Zad rfl <| Zad rfl ?_
        refine Zcw (mhas s47.1 y58) (fun h84 => ?_) (fun h84 => ?_)
        ·refine Zab rfl rfl h84 <| Zab rfl rfl h84 <| Zab rfl rfl h84 <| Zan rfl h84 rfl <| Zad rfl <| Zab rfl rfl rfl <| Zab rfl rfl rfl <| Zab rfl rfl rfl <| Zab rfl rfl rfl <| Zab rfl rfl rfl <| Zan rfl rfl rfl <| Zad rfl ?_
         refine Zab rfl rfl rfl <| Zab rfl rfl rfl <| Zab rfl rfl rfl <| Zan rfl rfl rfl <| Zad rfl <| Zab rfl rfl rfl <| Zab rfl rfl rfl <| Zab rfl rfl rfl <| Zan rfl rfl rfl ?_
         exact Zag (by exact ⟨rfl, rfl, rfl, rfl, rfl, rfl, rfl, rfl, rfl, rfl, rfl, lkb rfl (by first | simp only [h84, Bool.true_and, Bool.and_true, Bool.false_and, Bool.and_false, Bool.true_or, Bool.false_or, Bool.or_true, Bool.or_false, Bool.not_true, Bool.not_false] | simp [h84]), trivial⟩) (Zam (by exact (.cons_cons _ (.cons_cons _ (.cons_cons _ (.cons_cons _ (.cons_cons _ (.cons _ .slnil))))))) J83)
        ·refine Zaf rfl rfl h84 <| o_fa rfl <| Zaf rfl rfl h84 <| o_ld 4 rfl rfl rfl <| Zaf rfl rfl h84 <| o_lt rfl rfl <| Zal rfl h84 rfl <| Zad rfl ?_
         refine Zcw (decide (y58.Switch < 1)) (fun h85 => ?_) (fun h85 => ?_)
         ·refine Zab rfl rfl h85 <| Zab rfl rfl h85 <| Zab rfl rfl h85 <| Zab rfl rfl h85 <| Zab rfl rfl h85 <| Zan rfl h85 rfl <| Zad rfl <| Zab rfl rfl rfl <| Zab rfl rfl rfl <| Zab rfl rfl rfl <| Zan rfl rfl rfl <| Zad rfl ?_
          refine Zab rfl rfl rfl <| Zab rfl rfl rfl <| Zab rfl rfl rfl <| Zan rfl rfl rfl ?_
          exact Zag (by exact ⟨rfl, rfl, rfl, rfl, rfl, rfl, rfl, rfl, rfl, rfl, rfl, lkb rfl (by first | simp only [h84, h85, Bool.true_and, Bool.and_true, Bool.false_and, Bool.and_false, Bool.true_or, Bool.false_or, Bool.or_true, Bool.or_false, Bool.not_true, Bool.not_false] | simp [h84, h85]), trivial⟩) (Zam (by exact (.cons_cons _ (.cons_cons _ (.cons_cons _ (.cons_cons _ (.cons_cons _ (.cons _ .slnil))))))) J83)
         ·refine Zaf rfl rfl h85 <| o_fa rfl <| Zaf rfl rfl h85 <| o_ld 4 rfl rfl rfl <| Zaf rfl rfl h85 <| o_fa rfl <| Zaf rfl rfl h85 <| o_ld 0 rfl rfl rfl <| Zaf rfl rfl h85 <| o_gt rfl rfl <| Zal rfl h85 rfl <| Zad rfl ?_
          refine Zcw (decide (y58.Switch > x0.Switches)) (fun h86 => ?_) (fun h86 => ?_)
          ·refine Zab rfl rfl h86 <| Zab rfl rfl h86 <| Zab rfl rfl h86 <| Zan rfl h86 rfl <| Zad rfl <| Zab rfl rfl rfl <| Zab rfl rfl rfl <| Zab rfl rfl rfl <| Zan rfl rfl rfl ?_
           exact Zag (by exact ⟨rfl, rfl, rfl, rfl, rfl, rfl, rfl, rfl, rfl, rfl, rfl, lkb rfl (by first | simp only [h84, h85, h86, Bool.true_and, Bool.and_true, Bool.false_and, Bool.and_false, Bool.true_or, Bool.false_or, Bool.or_true, Bool.or_false, Bool.not_true, Bool.not_false] | simp [h84, h85, h86]), trivial⟩) (Zam (by exact (.cons_cons _ (.cons_cons _ (.cons_cons _ (.cons_cons _ (.cons_cons _ (.cons _ .slnil))))))) J83)
          ·refine Zaf rfl rfl h86 <| o_fa rfl <| Zaf rfl rfl h86 <| o_ld 4 rfl rfl rfl <| Zaf rfl rfl h86 <| o_lt rfl rfl <| Zal rfl h86 rfl <| Zad rfl ?_
           refine Zcw (decide (y58.Port < 1)) (fun h87 => ?_) (fun h87 => ?_)
           ·refine Zab rfl rfl h87 <| Zab rfl rfl h87 <| Zab rfl rfl h87 <| Zan rfl h87 rfl ?_
            exact Zag (by exact ⟨rfl, rfl, rfl, rfl, rfl, rfl, rfl, rfl, rfl, rfl, rfl, lkb rfl (by first | simp only [h84, h85, h86, h87, Bool.true_and, Bool.and_true, Bool.false_and, Bool.and_false, Bool.true_or, Bool.false_or, Bool.or_true, Bool.or_false, Bool.not_true, Bool.not_false] | simp [h84, h85, h86, h87]), trivial⟩) (Zam (by exact (.cons_cons _ (.cons_cons _ (.cons_cons _ (.cons_cons _ (.cons_cons _ (.cons _ .slnil))))))) J83)
           ·refine Zaf rfl rfl h87 <| o_fa rfl <| Zaf rfl rfl h87 <| o_ld 4 rfl rfl rfl <| Zaf rfl rfl h87 <| o_gt rfl rfl <| Zal rfl h87 rfl ?_
            exact Zag (by exact ⟨rfl, rfl, rfl, rfl, rfl, rfl, rfl, rfl, rfl, rfl, rfl, lkb rfl (by first | simp only [h84, h85, h86, h87, Bool.true_and, Bool.and_true, Bool.false_and, Bool.and_false, Bool.true_or, Bool.false_or, Bool.or_true, Bool.or_false, Bool.not_true, Bool.not_false] | simp [h84, h85, h86, h87]), trivial⟩) (Zam (by exact (.cons_cons _ (.cons_cons _ (.cons_cons _ (.cons_cons _ (.cons_cons _ (.cons _ .slnil))))))) J83)
      ·refine Zbf rfl ?_
       exact Zag (by exact ⟨rfl, rfl, rfl, rfl, rfl, rfl, trivial⟩) (Zam (by exact (.cons_cons _ (.cons_cons _ (.cons_cons _ (.cons _ .slnil))))) (J46 s47.1 _ _ _ ⟨_, _, rfl, rfl, hle54, hR50⟩))
    ·refine Zbf rfl ?_
     exact Zag (by exact ⟨rfl, trivial⟩) (Zam (by exact (.cons _ (.cons_cons _ .slnil))) (J17 s18.1 _ _ _ ⟨_, _, rfl, rfl, hle25, hR21⟩))
 ·intro J88
  refine o_fa rfl <| o_ld 0 rfl rfl rfl <| o_lt rfl rfl <| Zad rfl ?_
  refine Zcw (decide (x0.Switches < 1)) (fun h89 => ?_) (fun h89 => ?_)
  ·refine Zab rfl rfl h89 <| Zab rfl rfl h89 <| Zab rfl rfl h89 <| Zan rfl h89 rfl ?_
   exact Zag (by exact ⟨rfl, lkb rfl (by first | simp only [h89, Bool.true_and, Bool.and_true, Bool.false_and, Bool.and_false, Bool.true_or, Bool.false_or, Bool.or_true, Bool.or_false, Bool.not_true, Bool.not_false] | simp [h89]), trivial⟩) (Zam (by exact (.cons_cons _ .slnil)) J88)
  ·refine Zaf rfl rfl h89 <| o_fa rfl <| Zaf rfl rfl h89 <| o_ld 0 rfl rfl rfl <| Zaf rfl rfl h89 <| o_gt rfl rfl <| Zal rfl h89 rfl ?_
   exact Zag (by exact ⟨rfl, lkb rfl (by first | simp only [h89, Bool.true_and, Bool.and_true, Bool.false_and, Bool.and_false, Bool.true_or, Bool.false_or, Bool.or_true, Bool.or_false, Bool.not_true, Bool.not_false] | simp [h89]), trivial⟩) (Zam (by exact (.cons_cons _ .slnil)) J88)
def ZdW (k : Nat) (x0 : Graph) : Option Int :=
 (ZdB k x0).bind fun y3 =>
 if (!y3.2) = true then
  some 2
 else
  some 0
theorem ZmV : Tryz.prog.funcs[63]? = some Tryz.f63 := by kernel_rfl
theorem ZgN (k : Nat) (H : Heap) (x0 : Graph) (a0_0 : Option Addr) (c0_0 : Nat) (hx0_0 : RSl H a0_0 c0_0 x0.Links) {r : Int} (hr : ZdW k x0 = some r) :
  Fn Tryz.prog 63 [.agg #[.int .i64 x0.Switches, .slice a0_0 x0.Links.length c0_0]] H [] fun H' v out => v = .int .i64 r ∧ out = [] := by
 refine Zaq (args := [.agg #[.int .i64 x0.Switches, .slice a0_0 x0.Links.length c0_0]]) (n := 12) (Φ := fun r H' v out => v = .int .i64 r ∧ out = []) hr ZmV rfl rfl rfl fun w => ?_
 refine s_eq (by rw [ZdW]) ?_
 refine Zae <| Zaa ?_
 refine ZbO rfl fun b1 => ?_
 refine Zah rfl <| Zac <| Zae <| Zae <| Zaa <| o_ld 0 rfl rfl rfl ?_
 refine s_bg fun y3 h4 => ?_
 refine Zbg [] _ rfl rfl (.refl _) (Zfn k _ x0 _ _ hx0_0 h4) ?_
 rintro _ H7 _ hle8 ⟨mv5, rfl, rfl, hs6⟩
 refine ZcG <| Zad rfl <| ZcI rfl rfl <| ZcI rfl rfl <| Zah rfl <| Zah rfl <| Zac <| Zae <| Zaa <| Zad rfl <| Zdc rfl <| Zac ?_
 refine Zao rfl (fun h10 => ?_) (fun h10 => ?_)
 ·refine Zae <| Zaa <| Zah rfl <| Zac ?_
  exact s_r1 2 (.int .i64 2) ZmV ⟨rfl, rfl⟩
 ·refine Zar <| Zae <| Zaa <| Zah rfl <| Zac ?_
  exact s_r1 2 (.int .i64 0) ZmV ⟨rfl, rfl⟩
def ZdP (k : Nat) (x0 : Graph) (x1 : End) : Option (End × Int × Bool) :=
 (ZdB k x0).bind fun y7 =>
 some (((mgetD (y7.1.getD []) x1 ((⟨(⟨0, 0⟩ : End), 0⟩ : Graph_side) : Graph_side)).other), (mgetD (y7.1.getD []) x1 ((⟨(⟨0, 0⟩ : End), 0⟩ : Graph_side) : Graph_side)).link, mhas (y7.1.getD []) x1)
theorem Zl2 : Tryz.prog.funcs[127]? = some Tryz.f127 := by kernel_rfl
theorem Zhj (k : Nat) (H : Heap) (x0 : Graph) (a0_0 : Option Addr) (c0_0 : Nat) (hx0_0 : RSl H a0_0 c0_0 x0.Links) (x1 : End) {r : End × Int × Bool} (hr : ZdP k x0 x1 = some r) :
  Fn Tryz.prog 127 [.agg #[.int .i64 x0.Switches, .slice a0_0 x0.Links.length c0_0], .agg #[.int .i64 x1.Switch, .int .i64 x1.Port]] H [] fun H' v out => v = .tuple #[.agg #[.int .i64 r.1.Switch, .int .i64 r.1.Port], .int .i64 r.2.1, .bool r.2.2] ∧ out = [] := by
 refine Zaq (args := [.agg #[.int .i64 x0.Switches, .slice a0_0 x0.Links.length c0_0], .agg #[.int .i64 x1.Switch, .int .i64 x1.Port]]) (n := 26) (Φ := fun r H' v out => v = .tuple #[.agg #[.int .i64 r.1.Switch, .int .i64 r.1.Port], .int .i64 r.2.1, .bool r.2.2] ∧ out = []) hr Zl2 rfl rfl rfl fun w => ?_
 refine s_eq (by rw [ZdP]) ?_
 refine Zae <| Zaa ?_
 refine ZbO rfl fun b1 => ?_
 refine ZbO rfl fun b3 => ?_
 refine Zbw fun b5 => ?_
 refine Zah rfl <| Zah rfl <| Zac <| Zae <| Zaa <| o_ld 0 rfl rfl rfl ?_
 refine s_bg fun y7 h8 => ?_
 refine Zbg [] _ rfl rfl (.refl _) (Zfn k _ x0 _ _ hx0_0 h8) ?_
 rintro _ H11 _ hle12 ⟨mv9, rfl, rfl, hs10⟩
 refine ZcG <| Zad rfl <| ZcI rfl rfl <| ZcI rfl rfl <| Zah rfl <| Zah rfl <| Zac <| Zae <| Zaa <| Zad rfl <| o_ld 1 rfl rfl rfl ?_
 refine ZmA (kt := 81) (et := 233) (z := ((⟨(⟨0, 0⟩ : End), 0⟩ : Graph_side) : Graph_side)) hs10 rfl x1 rfl ?_
 refine Zad rfl <| ZcI rfl rfl <| ZcI rfl rfl ?_
 refine Zbw fun b14 => ?_
 refine o_st 3 rfl rfl rfl rfl rfl rfl ?_
 refine Zah rfl <| Zac <| Zae ?_
 refine Zag (env' := [(0, .agg #[.int .i64 x0.Switches, .slice a0_0 x0.Links.length c0_0]), (1, .agg #[.int .i64 x1.Switch, .int .i64 x1.Port]), (2, .pointer (some ⟨b1, 0, none⟩)), (3, .pointer (some ⟨b3, 0, none⟩)), (4, .pointer (some ⟨b5, 0, none⟩)), (6, .bool (mhas (y7.1.getD []) x1)), (11, .agg #[.int .i64 x0.Switches, .slice a0_0 x0.Links.length c0_0]), (13, mv9), (14, .bool y7.2), (7, mv9), (8, .bool y7.2), (16, mv9), (17, .agg #[.int .i64 x1.Switch, .int .i64 x1.Port]), (19, .agg #[.int .i64 (((mgetD (y7.1.getD []) x1 ((⟨(⟨0, 0⟩ : End), 0⟩ : Graph_side) : Graph_side)).other).Switch), .int .i64 (((mgetD (y7.1.getD []) x1 ((⟨(⟨0, 0⟩ : End), 0⟩ : Graph_side) : Graph_side)).other).Port), .int .i64 ((mgetD (y7.1.getD []) x1 ((⟨(⟨0, 0⟩ : End), 0⟩ : Graph_side) : Graph_side)).link)]), (20, .bool (mhas (y7.1.getD []) x1)), (9, .pointer (some ⟨b14, 0, none⟩))]) (by exact ⟨rfl, rfl, rfl, rfl, rfl, rfl, rfl, rfl, rfl, rfl, rfl, rfl, rfl, rfl, rfl, rfl, trivial⟩) ?_
 refine s_mv 2 rfl ?_
 refine ZbL (own' := [.blk b1 (Zak [.int .i64 x0.Switches, .slice a0_0 x0.Links.length c0_0] 24), .blk b3 (Zak [.int .i64 x1.Switch, .int .i64 x1.Port] 81), .blk b14 (Zak [.int .i64 (((mgetD (y7.1.getD []) x1 ((⟨(⟨0, 0⟩ : End), 0⟩ : Graph_side) : Graph_side)).other).Switch), .int .i64 (((mgetD (y7.1.getD []) x1 ((⟨(⟨0, 0⟩ : End), 0⟩ : Graph_side) : Graph_side)).other).Port), .int .i64 ((mgetD (y7.1.getD []) x1 ((⟨(⟨0, 0⟩ : End), 0⟩ : Graph_side) : Graph_side)).link)] 233)] ++ [.blk b5 (Zak [.int .i64 0, .int .i64 0] 81)]) rfl ?_
 refine Zhb [.blk b5 (Zak [.int .i64 0, .int .i64 0] 81)] [(fV (.pointer (some ⟨b14, 0, none⟩))),
   (fV (.agg #[.int .i64 (((mgetD (y7.1.getD []) x1 ((⟨(⟨0, 0⟩ : End), 0⟩ : Graph_side) : Graph_side)).other).Switch), .int .i64 (((mgetD (y7.1.getD []) x1 ((⟨(⟨0, 0⟩ : End), 0⟩ : Graph_side) : Graph_side)).other).Port)])),
   (fV (.pointer (some ⟨b14, 2, none⟩))),
   (fV (.int .i64 ((mgetD (y7.1.getD []) x1 ((⟨(⟨0, 0⟩ : End), 0⟩ : Graph_side) : Graph_side)).link))),
   (fV (.bool (mhas (y7.1.getD []) x1))),
   (fun H v g => v = undef ∧ g = [.blk b5 (Zak [.int .i64 (((mgetD (y7.1.getD []) x1 ((⟨(⟨0, 0⟩ : End), 0⟩ : Graph_side) : Graph_side)).other).Switch), .int .i64 (((mgetD (y7.1.getD []) x1 ((⟨(⟨0, 0⟩ : End), 0⟩ : Graph_side) : Graph_side)).other).Port)] 81)]),
   (fV (.int .i64 ((mgetD (y7.1.getD []) x1 ((⟨(⟨0, 0⟩ : End), 0⟩ : Graph_side) : Graph_side)).link)))] [[], [], [], [], [], [8], []] mixed ⟨m0, m0, m0, m0, m0, m0, m0, trivial⟩ (by kernel_rfl) (by kernel_rfl) rfl (by kernel_rfl) rfl rfl ?_ ?_
 ·refine Zby ?_ ?_
  ·intro _ G17 H18 fr19 hvg22 hle20 hd21
   refine ⟨_, some (), rfl, fun _ => ?_⟩
   refine Zag (env' := [(9, .pointer (some ⟨b14, 0, none⟩))]) (by exact ⟨rfl, trivial⟩) ?_
   refine o_fa rfl ?_
   exact Zai (.pointer (some ⟨b14, 0, none⟩)) ⟨rfl, rfl⟩
  refine Zby ?_ ?_
  ·intro _ G24 H25 fr26 hvg29 hle27 hd28
   obtain ⟨hv30, hg31⟩ := hd28 0 (by decide)
   refine ⟨_, some (), rfl, fun _ => ?_⟩
   refine Zag (env' := [(21, .pointer (some ⟨b14, 0, none⟩))]) (by exact ⟨congrArg some hv30, trivial⟩) ?_
   refine o_ld 2 rfl rfl rfl ?_
   exact Zai (.agg #[.int .i64 (((mgetD (y7.1.getD []) x1 ((⟨(⟨0, 0⟩ : End), 0⟩ : Graph_side) : Graph_side)).other).Switch), .int .i64 (((mgetD (y7.1.getD []) x1 ((⟨(⟨0, 0⟩ : End), 0⟩ : Graph_side) : Graph_side)).other).Port)]) ⟨rfl, rfl⟩
  refine Zby ?_ ?_
  ·intro _ G33 H34 fr35 hvg38 hle36 hd37
   refine ⟨_, some (), rfl, fun _ => ?_⟩
   refine Zag (env' := [(9, .pointer (some ⟨b14, 0, none⟩))]) (by exact ⟨rfl, trivial⟩) ?_
   refine o_fa rfl ?_
   exact Zai (.pointer (some ⟨b14, 2, none⟩)) ⟨rfl, rfl⟩
  refine Zby ?_ ?_
  ·intro _ G40 H41 fr42 hvg45 hle43 hd44
   obtain ⟨hv46, hg47⟩ := hd44 2 (by decide)
   refine ⟨_, some (), rfl, fun _ => ?_⟩
   refine Zag (env' := [(23, .pointer (some ⟨b14, 2, none⟩))]) (by exact ⟨congrArg some hv46, trivial⟩) ?_
   refine o_ld 2 rfl rfl rfl ?_
   exact Zai (.int .i64 ((mgetD (y7.1.getD []) x1 ((⟨(⟨0, 0⟩ : End), 0⟩ : Graph_side) : Graph_side)).link)) ⟨rfl, rfl⟩
  refine Zby ?_ ?_
  ·intro _ G49 H50 fr51 hvg54 hle52 hd53
   refine ⟨_, some (), rfl, fun _ => ?_⟩
   refine Zag (env' := [(6, .bool (mhas (y7.1.getD []) x1))]) (by exact ⟨rfl, trivial⟩) ?_
   refine Zad rfl ?_
   exact Zai (.bool (mhas (y7.1.getD []) x1)) ⟨rfl, rfl⟩
  refine Zby ?_ ?_
  ·intro _ G56 H57 fr58 hvg61 hle59 hd60
   obtain ⟨hv62, hg63⟩ := hd60 1 (by decide)
   refine ⟨_, some (), rfl, fun _ => ?_⟩
   refine Zag (env' := [(22, .agg #[.int .i64 (((mgetD (y7.1.getD []) x1 ((⟨(⟨0, 0⟩ : End), 0⟩ : Graph_side) : Graph_side)).other).Switch), .int .i64 (((mgetD (y7.1.getD []) x1 ((⟨(⟨0, 0⟩ : End), 0⟩ : Graph_side) : Graph_side)).other).Port)]), (4, .pointer (some ⟨b5, 0, none⟩))]) (by exact ⟨congrArg some hv62, rfl, trivial⟩) ?_
   have hg64 : G56 8 = [.blk b5 (Zak [.int .i64 0, .int .i64 0] 81)] := hvg61 0 _ rfl
   refine ZbL (own' := [.blk b1 (Zak [.int .i64 x0.Switches, .slice a0_0 x0.Links.length c0_0] 24), .blk b3 (Zak [.int .i64 x1.Switch, .int .i64 x1.Port] 81), .blk b14 (Zak [.int .i64 (((mgetD (y7.1.getD []) x1 ((⟨(⟨0, 0⟩ : End), 0⟩ : Graph_side) : Graph_side)).other).Switch), .int .i64 (((mgetD (y7.1.getD []) x1 ((⟨(⟨0, 0⟩ : End), 0⟩ : Graph_side) : Graph_side)).other).Port), .int .i64 ((mgetD (y7.1.getD []) x1 ((⟨(⟨0, 0⟩ : End), 0⟩ : Graph_side) : Graph_side)).link)] 233), .blk b5 (Zak [.int .i64 0, .int .i64 0] 81)] ++ fr58) (by simp only [List.flatMap_cons, List.flatMap_nil, List.append_nil, hg64]; rfl) ?_
   refine o_st 3 rfl rfl rfl rfl rfl rfl ?_
   exact ZbV fun _ _ _ hE hI => ⟨undef, [.blk b5 (Zak [.int .i64 (((mgetD (y7.1.getD []) x1 ((⟨(⟨0, 0⟩ : End), 0⟩ : Graph_side) : Graph_side)).other).Switch), .int .i64 (((mgetD (y7.1.getD []) x1 ((⟨(⟨0, 0⟩ : End), 0⟩ : Graph_side) : Graph_side)).other).Port)] 81)], _, fun _ e => (by cases e), .refl _, by exact hI, ⟨rfl, rfl⟩⟩
  refine Zby ?_ ?_
  ·intro _ G66 H67 fr68 hvg71 hle69 hd70
   obtain ⟨hv72, hg73⟩ := hd70 3 (by decide)
   refine ⟨_, some (), rfl, fun _ => ?_⟩
   refine Zag (env' := [(24, .int .i64 ((mgetD (y7.1.getD []) x1 ((⟨(⟨0, 0⟩ : End), 0⟩ : Graph_side) : Graph_side)).link))]) (by exact ⟨congrArg some hv72, trivial⟩) ?_
   refine Zah rfl ?_
   exact Zai (.int .i64 ((mgetD (y7.1.getD []) x1 ((⟨(⟨0, 0⟩ : End), 0⟩ : Graph_side) : Graph_side)).link)) ⟨rfl, rfl⟩
  exact Zm1
 ·intro V76 G77 H74 hvg79 hle75 hF78
  obtain ⟨hv82, hg83⟩ := hF78 4 (show 4 < 7 by decide)
  obtain ⟨hv84, hg85⟩ := hF78 5 (show 5 < 7 by decide)
  obtain ⟨hv86, hg87⟩ := hF78 6 (show 6 < 7 by decide)
  refine Zag (env' := [(25, .bool (mhas (y7.1.getD []) x1)), (5, .int .i64 ((mgetD (y7.1.getD []) x1 ((⟨(⟨0, 0⟩ : End), 0⟩ : Graph_side) : Graph_side)).link)), (0, .agg #[.int .i64 x0.Switches, .slice a0_0 x0.Links.length c0_0]), (1, .agg #[.int .i64 x1.Switch, .int .i64 x1.Port]), (2, .pointer (some ⟨b1, 0, none⟩)), (3, .pointer (some ⟨b3, 0, none⟩)), (4, .pointer (some ⟨b5, 0, none⟩)), (6, .bool (mhas (y7.1.getD []) x1)), (11, .agg #[.int .i64 x0.Switches, .slice a0_0 x0.Links.length c0_0]), (13, mv9), (14, .bool y7.2), (7, mv9), (8, .bool y7.2), (16, mv9), (17, .agg #[.int .i64 x1.Switch, .int .i64 x1.Port]), (19, .agg #[.int .i64 (((mgetD (y7.1.getD []) x1 ((⟨(⟨0, 0⟩ : End), 0⟩ : Graph_side) : Graph_side)).other).Switch), .int .i64 (((mgetD (y7.1.getD []) x1 ((⟨(⟨0, 0⟩ : End), 0⟩ : Graph_side) : Graph_side)).other).Port), .int .i64 ((mgetD (y7.1.getD []) x1 ((⟨(⟨0, 0⟩ : End), 0⟩ : Graph_side) : Graph_side)).link)]), (20, .bool (mhas (y7.1.getD []) x1)), (9, .pointer (some ⟨b14, 0, none⟩))]) (by exact ⟨congrArg some hv82, congrArg some hv86, rfl, rfl, rfl, rfl, rfl, rfl, rfl, rfl, rfl, rfl, rfl, rfl, rfl, rfl, rfl, rfl, trivial⟩) ?_
  refine Zg8 (js := [5]) rfl ?_
  refine ZbL (own' := [.blk b1 (Zak [.int .i64 x0.Switches, .slice a0_0 x0.Links.length c0_0] 24), .blk b3 (Zak [.int .i64 x1.Switch, .int .i64 x1.Port] 81), .blk b14 (Zak [.int .i64 (((mgetD (y7.1.getD []) x1 ((⟨(⟨0, 0⟩ : End), 0⟩ : Graph_side) : Graph_side)).other).Switch), .int .i64 (((mgetD (y7.1.getD []) x1 ((⟨(⟨0, 0⟩ : End), 0⟩ : Graph_side) : Graph_side)).other).Port), .int .i64 ((mgetD (y7.1.getD []) x1 ((⟨(⟨0, 0⟩ : End), 0⟩ : Graph_side) : Graph_side)).link)] 233), .blk b5 (Zak [.int .i64 (((mgetD (y7.1.getD []) x1 ((⟨(⟨0, 0⟩ : End), 0⟩ : Graph_side) : Graph_side)).other).Switch), .int .i64 (((mgetD (y7.1.getD []) x1 ((⟨(⟨0, 0⟩ : End), 0⟩ : Graph_side) : Graph_side)).other).Port)] 81)]) (by simp only [List.flatMap_cons, List.flatMap_nil, List.append_nil, hg85]; rfl) ?_
  refine Zah rfl <| Zac ?_
  exact ZaF (xs := [.cell 4 81, .tmp 5, .tmp 6]) (vs := [.agg #[.int .i64 (((mgetD (y7.1.getD []) x1 ((⟨(⟨0, 0⟩ : End), 0⟩ : Graph_side) : Graph_side)).other).Switch), .int .i64 (((mgetD (y7.1.getD []) x1 ((⟨(⟨0, 0⟩ : End), 0⟩ : Graph_side) : Graph_side)).other).Port)], .int .i64 ((mgetD (y7.1.getD []) x1 ((⟨(⟨0, 0⟩ : End), 0⟩ : Graph_side) : Graph_side)).link), .bool (mhas (y7.1.getD []) x1)]) [] Zl2 rfl ⟨Zft 3 rfl rfl rfl rfl, Zaz rfl, Zaz rfl, trivial⟩ (.cons _ (.cons _ (.cons _ (.cons _ .slnil)))) ⟨rfl, rfl⟩
def Zck (k : Nat) (x0 : Graph) (x1 : End) : Option Bool :=
 if (decide (x1.Switch ≥ 1)) = true then
  if (decide (x1.Switch ≤ x0.Switches)) = true then
   if (decide (x1.Port ≥ 1)) = true then
    some (decide (x1.Port ≤ 4))
   else
    some false
  else
   some false
 else
  some false
theorem ZhP : Tryz.prog.funcs[129]? = some Tryz.f129 := by kernel_rfl
theorem ZdK (k : Nat) (H : Heap) (x0 : Graph) (a0_0 : Option Addr) (c0_0 : Nat) (hx0_0 : RSl H a0_0 c0_0 x0.Links) (x1 : End) {r : Bool} (hr : Zck k x0 x1 = some r) :
  Fn Tryz.prog 129 [.agg #[.int .i64 x0.Switches, .slice a0_0 x0.Links.length c0_0], .agg #[.int .i64 x1.Switch, .int .i64 x1.Port]] H [] fun H' v out => v = .bool r ∧ out = [] := by
 refine Zaq (args := [.agg #[.int .i64 x0.Switches, .slice a0_0 x0.Links.length c0_0], .agg #[.int .i64 x1.Switch, .int .i64 x1.Port]]) (n := 25) (Φ := fun r H' v out => v = .bool r ∧ out = []) hr ZhP rfl rfl rfl fun w => ?_
 refine s_eq (by rw [Zck]) ?_
 refine Zae <| Zaa ?_
 refine ZbO rfl fun b1 => ?_
 refine ZbO rfl fun b3 => ?_
 refine Zah rfl <| Zac <| Zae <| Zaa <| o_fa rfl <| o_ld 1 rfl rfl rfl <| o_ge rfl rfl <| Zad rfl ?_
 refine Zax (decide (x1.Switch ≥ 1)) (fun h5 => ?_) (fun h5 => ?_)
 ·refine Zaf rfl rfl h5 <| o_fa rfl <| Zaf rfl rfl h5 <| o_ld 1 rfl rfl rfl <| Zaf rfl rfl h5 <| o_fa rfl <| Zaf rfl rfl h5 <| o_ld 0 rfl rfl rfl <| Zaf rfl rfl h5 <| o_le rfl rfl <| Zan rfl h5 rfl <| Zad rfl ?_
  refine Zax (decide (x1.Switch ≤ x0.Switches)) (fun h6 => ?_) (fun h6 => ?_)
  ·refine Zaf rfl rfl h6 <| o_fa rfl <| Zaf rfl rfl h6 <| o_ld 1 rfl rfl rfl <| Zaf rfl rfl h6 <| o_ge rfl rfl <| Zan rfl h6 rfl <| Zad rfl ?_
   refine Zax (decide (x1.Port ≥ 1)) (fun h7 => ?_) (fun h7 => ?_)
   ·refine Zaf rfl rfl h7 <| o_fa rfl <| Zaf rfl rfl h7 <| o_ld 1 rfl rfl rfl <| Zaf rfl rfl h7 <| o_le rfl rfl <| Zan rfl h7 rfl <| Zah rfl <| Zac ?_
    exact s_r1 4 (.bool (decide (x1.Port ≤ 4))) ZhP ⟨rfl, rfl⟩
   ·refine Zab rfl rfl h7 <| Zab rfl rfl h7 <| Zab rfl rfl h7 <| Zal rfl h7 rfl <| Zah rfl <| Zac ?_
    exact s_r1 4 (.bool false) ZhP ⟨rfl, rfl⟩
  ·refine Zab rfl rfl h6 <| Zab rfl rfl h6 <| Zab rfl rfl h6 <| Zal rfl h6 rfl <| Zad rfl <| Zab rfl rfl rfl <| Zab rfl rfl rfl <| Zab rfl rfl rfl <| Zal rfl rfl rfl <| Zah rfl <| Zac ?_
   exact s_r1 4 (.bool false) ZhP ⟨rfl, rfl⟩
 ·refine Zab rfl rfl h5 <| Zab rfl rfl h5 <| Zab rfl rfl h5 <| Zab rfl rfl h5 <| Zab rfl rfl h5 <| Zal rfl h5 rfl <| Zad rfl <| Zab rfl rfl rfl <| Zab rfl rfl rfl <| Zab rfl rfl rfl <| Zal rfl rfl rfl <| Zad rfl ?_
  refine Zab rfl rfl rfl <| Zab rfl rfl rfl <| Zab rfl rfl rfl <| Zal rfl rfl rfl <| Zah rfl <| Zac ?_
  exact s_r1 4 (.bool false) ZhP ⟨rfl, rfl⟩
def ZbT (k : Nat) (x0 : Link) (x1 : Link) : Option Bool :=
 if (decide (x0.A = x1.A)) = true then
  some true
 else
  if (decide (x0.A = x1.B)) = true then
   some true
  else
   if (decide (x0.B = x1.A)) = true then
    some true
   else
    some (decide (x0.B = x1.B))
theorem ZhO : Tryz.prog.funcs[130]? = some Tryz.f130 := by kernel_rfl
theorem Zew (k : Nat) (H : Heap) (x0 : Link) (x1 : Link) {r : Bool} (hr : ZbT k x0 x1 = some r) :
  Fn Tryz.prog 130 [.agg #[.int .i64 x0.A.Switch, .int .i64 x0.A.Port, .int .i64 x0.B.Switch, .int .i64 x0.B.Port], .agg #[.int .i64 x1.A.Switch, .int .i64 x1.A.Port, .int .i64 x1.B.Switch, .int .i64 x1.B.Port]] H [] fun H' v out => v = .bool r ∧ out = [] := by
 refine Zaq (args := [.agg #[.int .i64 x0.A.Switch, .int .i64 x0.A.Port, .int .i64 x0.B.Switch, .int .i64 x0.B.Port], .agg #[.int .i64 x1.A.Switch, .int .i64 x1.A.Port, .int .i64 x1.B.Switch, .int .i64 x1.B.Port]]) (n := 31) (Φ := fun r H' v out => v = .bool r ∧ out = []) hr ZhO rfl rfl rfl fun w => ?_
 refine s_eq (by rw [ZbT]) ?_
 refine Zae <| Zaa ?_
 refine ZbO rfl fun b1 => ?_
 refine ZbO rfl fun b3 => ?_
 refine Zah rfl <| Zac <| Zae <| Zaa <| o_fa rfl <| o_ld 0 rfl rfl rfl <| o_fa rfl <| o_ld 1 rfl rfl rfl ?_
 refine ZfV x0.A x1.A rfl rfl ?_
 refine Zad rfl ?_
 refine Zax (decide (x0.A = x1.A)) (fun h5 => ?_) (fun h5 => ?_)
 ·refine Zab rfl rfl h5 <| Zab rfl rfl h5 <| Zab rfl rfl h5 <| Zab rfl rfl h5 <| Zab rfl rfl h5 <| Zan rfl h5 rfl <| Zad rfl <| Zab rfl rfl rfl <| Zab rfl rfl rfl <| Zab rfl rfl rfl <| Zab rfl rfl rfl <| Zab rfl rfl rfl ?_
  refine Zan rfl rfl rfl <| Zad rfl <| Zab rfl rfl rfl <| Zab rfl rfl rfl <| Zab rfl rfl rfl <| Zab rfl rfl rfl <| Zab rfl rfl rfl <| Zan rfl rfl rfl <| Zah rfl <| Zac ?_
  exact s_r1 4 (.bool true) ZhO ⟨rfl, rfl⟩
 ·refine Zaf rfl rfl h5 <| o_fa rfl <| Zaf rfl rfl h5 <| o_ld 0 rfl rfl rfl <| Zaf rfl rfl h5 <| o_fa rfl <| Zaf rfl rfl h5 <| o_ld 1 rfl rfl rfl <| Zaf rfl rfl h5 ?_
  refine ZfV x0.A x1.B rfl rfl ?_
  refine Zal rfl h5 rfl <| Zad rfl ?_
  refine Zax (decide (x0.A = x1.B)) (fun h6 => ?_) (fun h6 => ?_)
  ·refine Zab rfl rfl h6 <| Zab rfl rfl h6 <| Zab rfl rfl h6 <| Zab rfl rfl h6 <| Zab rfl rfl h6 <| Zan rfl h6 rfl <| Zad rfl <| Zab rfl rfl rfl <| Zab rfl rfl rfl <| Zab rfl rfl rfl <| Zab rfl rfl rfl <| Zab rfl rfl rfl ?_
   refine Zan rfl rfl rfl <| Zah rfl <| Zac ?_
   exact s_r1 4 (.bool true) ZhO ⟨rfl, rfl⟩
  ·refine Zaf rfl rfl h6 <| o_fa rfl <| Zaf rfl rfl h6 <| o_ld 0 rfl rfl rfl <| Zaf rfl rfl h6 <| o_fa rfl <| Zaf rfl rfl h6 <| o_ld 1 rfl rfl rfl <| Zaf rfl rfl h6 ?_
   refine ZfV x0.B x1.A rfl rfl ?_
   refine Zal rfl h6 rfl <| Zad rfl ?_
   refine Zax (decide (x0.B = x1.A)) (fun h7 => ?_) (fun h7 => ?_)
   ·refine Zab rfl rfl h7 <| Zab rfl rfl h7 <| Zab rfl rfl h7 <| Zab rfl rfl h7 <| Zab rfl rfl h7 <| Zan rfl h7 rfl <| Zah rfl <| Zac ?_
    exact s_r1 4 (.bool true) ZhO ⟨rfl, rfl⟩
   ·refine Zaf rfl rfl h7 <| o_fa rfl <| Zaf rfl rfl h7 <| o_ld 0 rfl rfl rfl <| Zaf rfl rfl h7 <| o_fa rfl <| Zaf rfl rfl h7 <| o_ld 1 rfl rfl rfl <| Zaf rfl rfl h7 ?_
    refine ZfV x0.B x1.B rfl rfl ?_
    refine Zal rfl h7 rfl <| Zah rfl <| Zac ?_
    exact s_r1 4 (.bool (decide (x0.B = x1.B))) ZhO ⟨rfl, rfl⟩
def Zbq (k : Nat) (x0 : Graph) (s8 : Int) (y15 : Link) : Nat → Int → Option (LX (LX (Int) (Unit)) (Unit))
 | 0, _ => none
 | q33 + 1, s32 =>
  if (decide (s32 < s8)) = true then
   (rd x0.Links s32).bind fun y39 =>
   (ZbT k y15 y39).bind fun y45 =>
   if (y45) = true then
    some (.ret (.ret 2))
   else
    Zbq k x0 s8 y15 q33 (w64 (s32 + 1))
  else
   some (.out ())
def Zbr (k : Nat) (x0 : Graph) : Nat → Int → Option (LX (Int) (Unit))
 | 0, _ => none
 | q9 + 1, s8 =>
  if (decide (s8 < (x0.Links.length : Int))) = true then
   (rd x0.Links s8).bind fun y15 =>
   ((Zck k x0 y15.A).bind fun y135 =>
    if (!y135) = true then
     some true
    else
     (Zck k x0 y15.B).bind fun y138 =>
     if (!y138) = true then
      some true
     else
      some (y15.A.Switch == y15.B.Switch)).bind fun p22 =>
   if (p22) = true then
    some (.ret 2)
   else
    (Zbq k x0 s8 y15 k 0).bind (LX.go fun p27 =>
    Zbr k x0 q9 (w64 (s8 + 1)))
  else
   some (.out ())
def Zb2 (k : Nat) (x0 : Graph) : Option Int :=
 if (((decide (x0.Switches < 1)) || ((decide (x0.Switches > 6)) || decide ((x0.Links.length : Int) > 12)))) = true then
  some 2
 else
  (Zbr k x0 k 0).bind (LX.go fun p4 =>
  some 0)
theorem Zki : Tryz.prog.funcs[73]? = some Tryz.f73 := by kernel_rfl
theorem Zdu (k : Nat) (H : Heap) (x0 : Graph) (a0_0 : Option Addr) (c0_0 : Nat) (hx0_0 : RSl H a0_0 c0_0 x0.Links) {r : Int} (hr : Zb2 k x0 = some r) :
  Fn Tryz.prog 73 [.agg #[.int .i64 x0.Switches, .slice a0_0 x0.Links.length c0_0]] H [] fun H' v out => v = .int .i64 r ∧ out = [] := by
 refine Zaq (args := [.agg #[.int .i64 x0.Switches, .slice a0_0 x0.Links.length c0_0]]) (n := 65) (Φ := fun r H' v out => v = .int .i64 r ∧ out = []) hr Zki rfl rfl rfl fun w => ?_
 refine s_eq (by rw [Zb2]) ?_
 refine Zae <| Zaa ?_
 refine ZbO rfl fun b1 => ?_
 refine Zah rfl <| Zac <| Zae <| Zae <| Zaa ?_
 refine Zfs [(1, .pointer (some ⟨b1, 0, none⟩)), (19, .bool ((decide (x0.Switches < 1)) || ((decide (x0.Switches > 6)) || decide ((x0.Links.length : Int) > 12))))] [.blk b1 (Zak [.int .i64 x0.Switches, .slice a0_0 x0.Links.length c0_0] 24)] ?_ ?_
 ·refine Zao rfl (fun h3 => ?_) (fun h3 => ?_)
  ·refine Zae <| Zaa <| Zah rfl <| Zac ?_
   exact s_r1 2 (.int .i64 2) Zki ⟨rfl, rfl⟩
  ·refine Zar <| Zae <| Zae <| Zaa <| Zah rfl <| Zac ?_
   refine ZbR (fun p4 env own H' => env = [] ∧ own = [] ∧ Hle H H') ?_ ?_
   ·rintro p4 _ _ H5 ⟨rfl, rfl, hle6⟩
    refine Zae <| Zaa <| Zah rfl <| Zac ?_
    exact s_r1 2 (.int .i64 0) Zki ⟨rfl, rfl⟩
   ·intro J7
    refine Zat ?_
    refine Zag (env' := [(1, .pointer (some ⟨b1, 0, none⟩)), (3, .int .i64 0)]) (by exact ⟨rfl, rfl, trivial⟩) ?_
    refine Zam (own' := [.blk b1 (Zak [.int .i64 x0.Switches, .slice a0_0 x0.Links.length c0_0] 24)]) (.cons_cons _ .slnil) ?_
    refine Za2 (fun q s8 => Zbr k x0 q s8) (fun s8 env own H' => env = [(1, .pointer (some ⟨b1, 0, none⟩)), (3, .int .i64 s8)] ∧ own = [.blk b1 (Zak [.int .i64 x0.Switches, .slice a0_0 x0.Links.length c0_0] 24)] ∧ Hle H H') (fun _ => rfl) ?_ k 0 ⟨rfl, rfl, .refl _⟩
    rintro q9 ih10 s8 _ _ H11 ⟨rfl, rfl, hle12⟩
    refine s_eq (by rw [Zbr]) ?_
    have hs13 := RSl.mono hle12 hx0_0
    refine Zae <| Zae <| Zaa <| Zad rfl <| o_fa rfl <| o_ld 0 rfl rfl rfl <| ZaG rfl <| o_lt rfl rfl <| Zac ?_
    refine Zao rfl (fun h14 => ?_) (fun h14 => ?_)
    ·refine Zar <| Zae <| Zat <| Zae <| Zaa <| o_fa rfl <| o_ld 0 rfl rfl rfl <| Zad rfl ?_
     refine Zce hs13 rfl rfl fun y15 bk17 of18 h16 hc19 => ?_
     refine ZaP 0 hc19 rfl rfl rfl ?_
     refine Zbw fun b20 => ?_
     refine o_st 1 rfl rfl rfl rfl rfl rfl ?_
     refine Zac <| Zae <| Zae <| Zaa ?_
     refine ZeI (fun p22 env own H' => env = [(1, .pointer (some ⟨b1, 0, none⟩)), (3, .int .i64 s8), (4, .pointer (some ⟨b20, 0, none⟩)), (52, .bool p22)] ∧ own = [.blk b1 (Zak [.int .i64 x0.Switches, .slice a0_0 x0.Links.length c0_0] 24), .blk b20 (Zak [.int .i64 y15.A.Switch, .int .i64 y15.A.Port, .int .i64 y15.B.Switch, .int .i64 y15.B.Port] 83)] ∧ Hle H11 H') ?_ ?_
     ·rintro p22 _ _ H23 ⟨rfl, rfl, hle24⟩
      have hs25 := RSl.mono hle24 hs13
      refine Zao rfl (fun h26 => ?_) (fun h26 => ?_)
      ·refine Zae <| Zaa <| Zah rfl <| Zac <| ZbQ ?_
       exact s_r1 2 (.int .i64 2) Zki ⟨rfl, rfl⟩
      ·refine Zar <| Zae <| Zaa <| Zah rfl <| Zac ?_
       refine ZbR (fun p27 env own H' => env = [(1, .pointer (some ⟨b1, 0, none⟩)), (3, .int .i64 s8)] ∧ own = [.blk b1 (Zak [.int .i64 x0.Switches, .slice a0_0 x0.Links.length c0_0] 24)] ∧ Hle H23 H') ?_ ?_
       ·rintro p27 _ _ H28 ⟨rfl, rfl, hle29⟩
        refine Zav <| Zaa <| Zad rfl <| ZbM rfl rfl <| Zah rfl <| Zac ?_
        exact Zag (by exact ⟨rfl, rfl, trivial⟩) (Zam (by exact (.cons_cons _ .slnil)) (ih10 (w64 (s8 + 1)) _ _ _ ⟨rfl, rfl, (Hle.trans (Hle.trans hle12 hle24) hle29)⟩))
       ·intro J31
        refine Zat ?_
        refine Zag (env' := [(1, .pointer (some ⟨b1, 0, none⟩)), (3, .int .i64 s8), (4, .pointer (some ⟨b20, 0, none⟩)), (5, .int .i64 0)]) (by exact ⟨rfl, rfl, rfl, rfl, trivial⟩) ?_
        refine Zam (own' := [.blk b1 (Zak [.int .i64 x0.Switches, .slice a0_0 x0.Links.length c0_0] 24), .blk b20 (Zak [.int .i64 y15.A.Switch, .int .i64 y15.A.Port, .int .i64 y15.B.Switch, .int .i64 y15.B.Port] 83)]) (.cons_cons _ (.cons_cons _ .slnil)) ?_
        refine Za2 (fun q s32 => Zbq k x0 s8 y15 q s32) (fun s32 env own H' => env = [(1, .pointer (some ⟨b1, 0, none⟩)), (3, .int .i64 s8), (4, .pointer (some ⟨b20, 0, none⟩)), (5, .int .i64 s32)] ∧ own = [.blk b1 (Zak [.int .i64 x0.Switches, .slice a0_0 x0.Links.length c0_0] 24), .blk b20 (Zak [.int .i64 y15.A.Switch, .int .i64 y15.A.Port, .int .i64 y15.B.Switch, .int .i64 y15.B.Port] 83)] ∧ Hle H23 H') (fun _ => rfl) ?_ k 0 ⟨rfl, rfl, .refl _⟩
        rintro q33 ih34 s32 _ _ H35 ⟨rfl, rfl, hle36⟩
        refine s_eq (by rw [Zbq]) ?_
        have hs37 := RSl.mono hle36 hs25
        refine Zae <| Zae <| Zaa <| Zad rfl <| Zad rfl <| o_lt rfl rfl <| Zac ?_
        refine Zao rfl (fun h38 => ?_) (fun h38 => ?_)
        ·refine Zar <| Zae <| Zat <| Zae ?_
         refine s_bg fun y39 h44 => ?_
         refine s_bg fun y45 h47 => ?_
         refine Za8 [(fV (.agg #[.int .i64 y15.A.Switch, .int .i64 y15.A.Port, .int .i64 y15.B.Switch, .int .i64 y15.B.Port])),
   (fV (.pointer (some ⟨b1, 1, none⟩))),
   (fun H v g => v = Value.slice a0_0 x0.Links.length c0_0 ∧ g = [] ∧ RSl H a0_0 c0_0 x0.Links),
   (fV (.int .i64 s32)),
   (fun H v g => ∃ bk49 of50, v = Value.pointer (some ⟨bk49, of50, none⟩) ∧ g = [] ∧ Zaj H bk49 of50 [.int .i64 y39.A.Switch, .int .i64 y39.A.Port, .int .i64 y39.B.Switch, .int .i64 y39.B.Port]),
   (fV (.agg #[.int .i64 y39.A.Switch, .int .i64 y39.A.Port, .int .i64 y39.B.Switch, .int .i64 y39.B.Port])),
   (fV (.bool y45))] [[], [], [], [], [], [], []] mixed ⟨m0, m0, fun _ _ _ _ hle ⟨e1, e2, h0_⟩ => ⟨e1, e2, RSl.mono hle h0_⟩, m0, fun _ _ _ _ hle ⟨bk49, of50, e1, e2, h0_⟩ => ⟨_, _, e1, e2, Zaj.mono hle h0_⟩, m0, m0, trivial⟩ (by kernel_rfl) (by kernel_rfl) rfl (by kernel_rfl) rfl rfl ?_ ?_
         ·refine dc (fun _ _ _ _ _ _ _ => ?_) ?_
          ·refine Zag (env' := [(4, .pointer (some ⟨b20, 0, none⟩))]) (by exact ⟨rfl, trivial⟩) ?_
           refine o_ld 1 rfl rfl rfl ?_
           exact Zai (.agg #[.int .i64 y15.A.Switch, .int .i64 y15.A.Port, .int .i64 y15.B.Switch, .int .i64 y15.B.Port]) ⟨rfl, rfl⟩
          refine dc (fun _ _ _ _ _ _ _ => ?_) ?_
          ·refine Zag (env' := [(1, .pointer (some ⟨b1, 0, none⟩))]) (by exact ⟨rfl, trivial⟩) ?_
           refine o_fa rfl ?_
           exact Zai (.pointer (some ⟨b1, 1, none⟩)) ⟨rfl, rfl⟩
          refine dc1 1 (fun _ _ _ _ hle72 _ => ?_) ?_
          ·have hs75 := RSl.mono hle72 hs37
           refine o_ld 0 rfl rfl rfl ?_
           exact Zai (.slice a0_0 x0.Links.length c0_0) ⟨rfl, rfl, hs75⟩
          refine dc (fun _ _ _ _ _ _ _ => ?_) ?_
          ·refine Zag (env' := [(5, .int .i64 s32)]) (by exact ⟨rfl, trivial⟩) ?_
           refine Zad rfl ?_
           exact Zai (.int .i64 s32) ⟨rfl, rfl⟩
          refine Za3 ?_ ?_
          ·intro _ _ H87 fr88 hle89 hd90
           obtain ⟨hv92, hg93, hp94⟩ := hd90 2 (by decide)
           obtain ⟨hv95, hg96⟩ := hd90 3 (by decide)
           refine ⟨_, (rd x0.Links s32).bind some, by rw [h44]; rfl, fun _ => ?_⟩
           refine Zag (env' := [(60, .slice a0_0 x0.Links.length c0_0), (61, .int .i64 s32)]) (by exact ⟨congrArg some hv92, congrArg some hv95, trivial⟩) ?_
           refine Zce hp94 rfl rfl fun y39 bk98 of99 h97 hc100 => ?_
           obtain rfl := Option.some.inj (h44.symm.trans h97)
           exact Zai (.pointer (some ⟨bk98, of99, none⟩)) ⟨bk98, of99, rfl, rfl, hc100⟩
          refine dc (fun _ _ _ _ _ hd106 _ => ?_) ?_
          ·obtain ⟨bk108, of109, hv110, hg111, hp112⟩ := hd106 4 (by decide)
           refine Zag (env' := [(62, .pointer (some ⟨bk108, of109, none⟩))]) (by exact ⟨congrArg some hv110, trivial⟩) ?_
           refine ZaP 0 hp112 rfl rfl rfl ?_
           exact Zai (.agg #[.int .i64 y39.A.Switch, .int .i64 y39.A.Port, .int .i64 y39.B.Switch, .int .i64 y39.B.Port]) ⟨rfl, rfl⟩
          refine Za3 ?_ ?_
          ·intro _ _ H115 fr116 hle117 hd118
           obtain ⟨hv120, hg121⟩ := hd118 0 (by decide)
           obtain ⟨hv122, hg123⟩ := hd118 5 (by decide)
           refine ⟨_, (ZbT k y15 y39).bind some, by rw [h47]; rfl, fun _ => ?_⟩
           refine Zag (env' := [(58, .agg #[.int .i64 y15.A.Switch, .int .i64 y15.A.Port, .int .i64 y15.B.Switch, .int .i64 y15.B.Port]), (63, .agg #[.int .i64 y39.A.Switch, .int .i64 y39.A.Port, .int .i64 y39.B.Switch, .int .i64 y39.B.Port])]) (by exact ⟨congrArg some hv120, congrArg some hv122, trivial⟩) ?_
           refine s_bg fun y45 h124 => ?_
           refine Zas rfl rfl (Zew k _ y15 y39 h124) ?_
           obtain rfl := Option.some.inj (h47.symm.trans h124)
           exact Zai (.bool y45) ⟨rfl, rfl⟩
          exact dnil
         ·intro V127 G128 H125 hle126 hF129
          obtain ⟨hv131, hg132⟩ := hF129 6 (show 6 < 7 by decide)
          refine Zag (env' := [(64, .bool y45), (1, .pointer (some ⟨b1, 0, none⟩)), (3, .int .i64 s8), (4, .pointer (some ⟨b20, 0, none⟩)), (5, .int .i64 s32), (53, .int .i64 s32), (54, .int .i64 s8), (55, .bool (decide (s32 < s8)))]) (by exact ⟨congrArg some hv131, rfl, rfl, rfl, rfl, rfl, rfl, rfl, trivial⟩) ?_
          refine Zam (List.sublist_append_left _ _) ?_
          refine Zac ?_
          refine Zao rfl (fun h133 => ?_) (fun h133 => ?_)
          ·refine Zae <| Zaa <| Zah rfl <| Zac <| ZbQ <| ZbQ ?_
           exact s_r1 2 (.int .i64 2) Zki ⟨rfl, rfl⟩
          ·refine Zar <| Zav <| Zaa <| Zad rfl <| ZbM rfl rfl <| Zah rfl <| Zac ?_
           exact Zag (by exact ⟨rfl, rfl, rfl, rfl, trivial⟩) (Zam (by exact (.cons_cons _ (.cons_cons _ .slnil))) (ih34 (w64 (s32 + 1)) _ _ _ ⟨rfl, rfl, (Hle.trans hle36 hle126)⟩))
        ·refine Zbf rfl ?_
         exact Zag (by exact ⟨rfl, rfl, trivial⟩) (Zam (by exact (.cons_cons _ (.cons _ .slnil))) (J31 () _ _ _ ⟨rfl, rfl, hle36⟩))
     ·intro J134
      refine o_ld 0 rfl rfl rfl <| o_fa rfl <| o_ld 1 rfl rfl rfl ?_
      refine s_bg fun y135 h136 => ?_
      refine Zas rfl rfl (ZdK k _ x0 _ _ hs13 y15.A h136) ?_
      refine Zdc rfl <| Zad rfl ?_
      refine Zax (!y135) (fun h137 => ?_) (fun h137 => ?_)
      ·refine Zab rfl rfl h137 <| Zab rfl rfl h137 <| Zab rfl rfl h137 <| Zab rfl rfl h137 <| Zab rfl rfl h137 <| Zan rfl h137 rfl <| Zad rfl <| Zab rfl rfl rfl <| Zab rfl rfl rfl <| Zab rfl rfl rfl <| Zab rfl rfl rfl <| Zab rfl rfl rfl ?_
       refine Zab rfl rfl rfl <| Zab rfl rfl rfl <| Zan rfl rfl rfl ?_
       exact Zag (by exact ⟨rfl, rfl, rfl, rfl, trivial⟩) (Zam (by exact (.cons_cons _ (.cons_cons _ .slnil))) (J134 true _ _ _ ⟨rfl, rfl, .refl _⟩))
      ·refine Zaf rfl rfl h137 <| o_ld 0 rfl rfl rfl <| Zaf rfl rfl h137 <| o_fa rfl <| Zaf rfl rfl h137 <| o_ld 1 rfl rfl rfl <| Zaf rfl rfl h137 ?_
       refine s_bg fun y138 h139 => ?_
       refine Zas rfl rfl (ZdK k _ x0 _ _ hs13 y15.B h139) ?_
       refine Zaf rfl rfl h137 <| Zdc rfl <| Zal rfl h137 rfl <| Zad rfl ?_
       refine Zax (!y138) (fun h140 => ?_) (fun h140 => ?_)
       ·refine Zab rfl rfl h140 <| Zab rfl rfl h140 <| Zab rfl rfl h140 <| Zab rfl rfl h140 <| Zab rfl rfl h140 <| Zab rfl rfl h140 <| Zab rfl rfl h140 <| Zan rfl h140 rfl ?_
        exact Zag (by exact ⟨rfl, rfl, rfl, rfl, trivial⟩) (Zam (by exact (.cons_cons _ (.cons_cons _ .slnil))) (J134 true _ _ _ ⟨rfl, rfl, .refl _⟩))
       ·refine Zaf rfl rfl h140 <| o_fa rfl <| Zaf rfl rfl h140 <| o_fa rfl <| Zaf rfl rfl h140 <| o_ld 1 rfl rfl rfl <| Zaf rfl rfl h140 <| o_fa rfl <| Zaf rfl rfl h140 <| o_fa rfl <| Zaf rfl rfl h140 <| o_ld 1 rfl rfl rfl ?_
        refine Zaf rfl rfl h140 <| o_eq rfl rfl <| Zal rfl h140 rfl ?_
        exact Zag (by exact ⟨rfl, rfl, rfl, rfl, trivial⟩) (Zam (by exact (.cons_cons _ (.cons_cons _ .slnil))) (J134 (y15.A.Switch == y15.B.Switch) _ _ _ ⟨rfl, rfl, .refl _⟩))
    ·refine Zbf rfl ?_
     exact Zag (by exact trivial) (Zam (by exact (.cons _ .slnil)) (J7 () _ _ _ ⟨rfl, rfl, hle12⟩))
 ·intro J141
  refine o_fa rfl <| o_ld 0 rfl rfl rfl <| o_lt rfl rfl <| Zad rfl ?_
  refine Zcw (decide (x0.Switches < 1)) (fun h142 => ?_) (fun h142 => ?_)
  ·refine Zab rfl rfl h142 <| Zab rfl rfl h142 <| Zab rfl rfl h142 <| Zan rfl h142 rfl <| Zad rfl <| Zab rfl rfl rfl <| Zab rfl rfl rfl <| Zab rfl rfl rfl <| Zab rfl rfl rfl <| Zan rfl rfl rfl ?_
   exact Zag (by exact ⟨rfl, lkb rfl (by first | simp only [h142, Bool.true_and, Bool.and_true, Bool.false_and, Bool.and_false, Bool.true_or, Bool.false_or, Bool.or_true, Bool.or_false, Bool.not_true, Bool.not_false] | simp [h142]), trivial⟩) (Zam (by exact (.cons_cons _ .slnil)) J141)
  ·refine Zaf rfl rfl h142 <| o_fa rfl <| Zaf rfl rfl h142 <| o_ld 0 rfl rfl rfl <| Zaf rfl rfl h142 <| o_gt rfl rfl <| Zal rfl h142 rfl <| Zad rfl ?_
   refine Zcw (decide (x0.Switches > 6)) (fun h143 => ?_) (fun h143 => ?_)
   ·refine Zab rfl rfl h143 <| Zab rfl rfl h143 <| Zab rfl rfl h143 <| Zab rfl rfl h143 <| Zan rfl h143 rfl ?_
    exact Zag (by exact ⟨rfl, lkb rfl (by first | simp only [h142, h143, Bool.true_and, Bool.and_true, Bool.false_and, Bool.and_false, Bool.true_or, Bool.false_or, Bool.or_true, Bool.or_false, Bool.not_true, Bool.not_false] | simp [h142, h143]), trivial⟩) (Zam (by exact (.cons_cons _ .slnil)) J141)
   ·refine Zaf rfl rfl h143 <| o_fa rfl <| Zaf rfl rfl h143 <| o_ld 0 rfl rfl rfl <| Zaf rfl rfl h143 <| ZaG rfl <| Zaf rfl rfl h143 <| o_gt rfl rfl <| Zal rfl h143 rfl ?_
    exact Zag (by exact ⟨rfl, lkb rfl (by first | simp only [h142, h143, Bool.true_and, Bool.and_true, Bool.false_and, Bool.and_false, Bool.true_or, Bool.false_or, Bool.or_true, Bool.or_false, Bool.not_true, Bool.not_false] | simp [h142, h143]), trivial⟩) (Zam (by exact (.cons_cons _ .slnil)) J141)
def ZbE (k : Nat) (x0 : Graph) (x1 : End) : Nat → Int → Option (LX (End × Int × Bool) (Unit))
 | 0, _ => none
 | q15 + 1, s14 =>
  if (decide (s14 < (x0.Links.length : Int))) = true then
   (rd x0.Links s14).bind fun y21 =>
   if (decide (y21.A = x1)) = true then
    (rd x0.Links s14).bind fun y123 =>
    some (.ret (y123.B, s14, true))
   else
    (rd x0.Links s14).bind fun y128 =>
    if (decide (y128.B = x1)) = true then
     (rd x0.Links s14).bind fun y230 =>
     some (.ret (y230.A, s14, true))
    else
     ZbE k x0 x1 q15 (w64 (s14 + 1))
  else
   some (.out ())
def ZcC (k : Nat) (x0 : Graph) (x1 : End) : Option (End × Int × Bool) :=
 (Zb2 k x0).bind fun y7 =>
 if (y7 != 0) = true then
  some ((⟨0, 0⟩ : End), 0, false)
 else
  (ZbE k x0 x1 k 0).bind (LX.go fun p10 =>
  some ((⟨0, 0⟩ : End), 0, false))
theorem Zkh : Tryz.prog.funcs[76]? = some Tryz.f76 := by kernel_rfl
theorem ZeZ (k : Nat) (H : Heap) (x0 : Graph) (a0_0 : Option Addr) (c0_0 : Nat) (hx0_0 : RSl H a0_0 c0_0 x0.Links) (x1 : End) {r : End × Int × Bool} (hr : ZcC k x0 x1 = some r) :
  Fn Tryz.prog 76 [.agg #[.int .i64 x0.Switches, .slice a0_0 x0.Links.length c0_0], .agg #[.int .i64 x1.Switch, .int .i64 x1.Port]] H [] fun H' v out => v = .tuple #[.agg #[.int .i64 r.1.Switch, .int .i64 r.1.Port], .int .i64 r.2.1, .bool r.2.2] ∧ out = [] := by
 refine Zaq (args := [.agg #[.int .i64 x0.Switches, .slice a0_0 x0.Links.length c0_0], .agg #[.int .i64 x1.Switch, .int .i64 x1.Port]]) (n := 50) (Φ := fun r H' v out => v = .tuple #[.agg #[.int .i64 r.1.Switch, .int .i64 r.1.Port], .int .i64 r.2.1, .bool r.2.2] ∧ out = []) hr Zkh rfl rfl rfl fun w => ?_
 refine s_eq (by rw [ZcC]) ?_
 refine Zae <| Zaa ?_
 refine ZbO rfl fun b1 => ?_
 refine ZbO rfl fun b3 => ?_
 refine Zbw fun b5 => ?_
 refine Zah rfl <| Zah rfl <| Zac <| Zae <| Zae <| Zaa <| o_ld 0 rfl rfl rfl ?_
 refine s_bg fun y7 h8 => ?_
 refine Zas rfl rfl (Zdu k _ x0 _ _ hx0_0 h8) ?_
 refine o_ne rfl rfl <| Zac ?_
 refine Zao rfl (fun h9 => ?_) (fun h9 => ?_)
 ·refine Zae <| Zaa ?_
  refine Zdx rfl rfl ?_
  refine o_st 2 rfl rfl rfl rfl rfl rfl ?_
  refine Zah rfl <| Zah rfl <| Zac ?_
  exact ZaF (xs := [.cell 4 81, .tmp 5, .tmp 6]) (vs := [.agg #[.int .i64 0, .int .i64 0], .int .i64 0, .bool false]) [] Zkh rfl ⟨Zft 2 rfl rfl rfl rfl, Zaz rfl, Zaz rfl, trivial⟩ (.cons _ (.cons _ (.cons _ .slnil))) ⟨rfl, rfl⟩
 ·refine Zar <| Zae <| Zae <| Zaa <| Zah rfl <| Zac ?_
  refine ZbR (fun p10 env own H' => env = [(4, .pointer (some ⟨b5, 0, none⟩))] ∧ own = [.blk b5 (Zak [.int .i64 0, .int .i64 0] 81)] ∧ Hle H H') ?_ ?_
  ·rintro p10 _ _ H11 ⟨rfl, rfl, hle12⟩
   refine Zae <| Zaa ?_
   refine Zdx rfl rfl ?_
   refine o_st 0 rfl rfl rfl rfl rfl rfl ?_
   refine Zah rfl <| Zah rfl <| Zac ?_
   exact ZaF (xs := [.cell 4 81, .tmp 5, .tmp 6]) (vs := [.agg #[.int .i64 0, .int .i64 0], .int .i64 0, .bool false]) [] Zkh rfl ⟨Zft 0 rfl rfl rfl rfl, Zaz rfl, Zaz rfl, trivial⟩ (.cons _ .slnil) ⟨rfl, rfl⟩
  ·intro J13
   refine Zat ?_
   refine Zag (env' := [(2, .pointer (some ⟨b1, 0, none⟩)), (3, .pointer (some ⟨b3, 0, none⟩)), (4, .pointer (some ⟨b5, 0, none⟩)), (7, .int .i64 0)]) (by exact ⟨rfl, rfl, rfl, rfl, trivial⟩) ?_
   refine Zam (own' := [.blk b1 (Zak [.int .i64 x0.Switches, .slice a0_0 x0.Links.length c0_0] 24), .blk b3 (Zak [.int .i64 x1.Switch, .int .i64 x1.Port] 81), .blk b5 (Zak [.int .i64 0, .int .i64 0] 81)]) (.cons_cons _ (.cons_cons _ (.cons_cons _ .slnil))) ?_
   refine Za2 (fun q s14 => ZbE k x0 x1 q s14) (fun s14 env own H' => env = [(2, .pointer (some ⟨b1, 0, none⟩)), (3, .pointer (some ⟨b3, 0, none⟩)), (4, .pointer (some ⟨b5, 0, none⟩)), (7, .int .i64 s14)] ∧ own = [.blk b1 (Zak [.int .i64 x0.Switches, .slice a0_0 x0.Links.length c0_0] 24), .blk b3 (Zak [.int .i64 x1.Switch, .int .i64 x1.Port] 81), .blk b5 (Zak [.int .i64 0, .int .i64 0] 81)] ∧ Hle H H') (fun _ => rfl) ?_ k 0 ⟨rfl, rfl, .refl _⟩
   rintro q15 ih16 s14 _ _ H17 ⟨rfl, rfl, hle18⟩
   refine s_eq (by rw [ZbE]) ?_
   have hs19 := RSl.mono hle18 hx0_0
   refine Zae <| Zae <| Zaa <| Zad rfl <| o_fa rfl <| o_ld 0 rfl rfl rfl <| ZaG rfl <| o_lt rfl rfl <| Zac ?_
   refine Zao rfl (fun h20 => ?_) (fun h20 => ?_)
   ·refine Zar <| Zae <| Zat <| Zae <| Zae ?_
    refine s_bg fun y21 h26 => ?_
    refine Za8 [(fV (.pointer (some ⟨b1, 1, none⟩))),
   (fun H v g => v = Value.slice a0_0 x0.Links.length c0_0 ∧ g = [] ∧ RSl H a0_0 c0_0 x0.Links),
   (fV (.int .i64 s14)),
   (fun H v g => ∃ bk28 of29, v = Value.pointer (some ⟨bk28, of29, none⟩) ∧ g = [] ∧ Zaj H bk28 of29 [.int .i64 y21.A.Switch, .int .i64 y21.A.Port, .int .i64 y21.B.Switch, .int .i64 y21.B.Port]),
   (fun H v g => ∃ bk28 of29, v = Value.pointer (some ⟨bk28, of29, none⟩) ∧ g = [] ∧ Zaj H bk28 of29 [.int .i64 y21.A.Switch, .int .i64 y21.A.Port, .int .i64 y21.B.Switch, .int .i64 y21.B.Port]),
   (fV (.agg #[.int .i64 y21.A.Switch, .int .i64 y21.A.Port])),
   (fV (.agg #[.int .i64 x1.Switch, .int .i64 x1.Port])),
   (fV (.bool (decide (y21.A = x1))))] [[], [], [], [], [], [], [], []] mixed ⟨m0, fun _ _ _ _ hle ⟨e1, e2, h0_⟩ => ⟨e1, e2, RSl.mono hle h0_⟩, m0, fun _ _ _ _ hle ⟨bk28, of29, e1, e2, h0_⟩ => ⟨_, _, e1, e2, Zaj.mono hle h0_⟩, fun _ _ _ _ hle ⟨bk28, of29, e1, e2, h0_⟩ => ⟨_, _, e1, e2, Zaj.mono hle h0_⟩, m0, m0, m0, trivial⟩ (by kernel_rfl) (by kernel_rfl) rfl (by kernel_rfl) rfl rfl ?_ ?_
    ·refine dc (fun _ _ _ _ _ _ _ => ?_) ?_
     ·refine Zag (env' := [(2, .pointer (some ⟨b1, 0, none⟩))]) (by exact ⟨rfl, trivial⟩) ?_
      refine o_fa rfl ?_
      exact Zai (.pointer (some ⟨b1, 1, none⟩)) ⟨rfl, rfl⟩
     refine dc1 0 (fun _ _ _ _ hle43 _ => ?_) ?_
     ·have hs46 := RSl.mono hle43 hs19
      refine o_ld 0 rfl rfl rfl ?_
      exact Zai (.slice a0_0 x0.Links.length c0_0) ⟨rfl, rfl, hs46⟩
     refine dc (fun _ _ _ _ _ _ _ => ?_) ?_
     ·refine Zag (env' := [(7, .int .i64 s14)]) (by exact ⟨rfl, trivial⟩) ?_
      refine Zad rfl ?_
      exact Zai (.int .i64 s14) ⟨rfl, rfl⟩
     refine Za3 ?_ ?_
     ·intro _ _ H58 fr59 hle60 hd61
      obtain ⟨hv63, hg64, hp65⟩ := hd61 1 (by decide)
      obtain ⟨hv66, hg67⟩ := hd61 2 (by decide)
      refine ⟨_, (rd x0.Links s14).bind some, by rw [h26]; rfl, fun _ => ?_⟩
      refine Zag (env' := [(20, .slice a0_0 x0.Links.length c0_0), (21, .int .i64 s14)]) (by exact ⟨congrArg some hv63, congrArg some hv66, trivial⟩) ?_
      refine Zce hp65 rfl rfl fun y21 bk69 of70 h68 hc71 => ?_
      obtain rfl := Option.some.inj (h26.symm.trans h68)
      exact Zai (.pointer (some ⟨bk69, of70, none⟩)) ⟨bk69, of70, rfl, rfl, hc71⟩
     refine dc (fun _ _ _ _ _ hd77 _ => ?_) ?_
     ·obtain ⟨bk79, of80, hv81, hg82, hp83⟩ := hd77 3 (by decide)
      refine Zag (env' := [(22, .pointer (some ⟨bk79, of80, none⟩))]) (by exact ⟨congrArg some hv81, trivial⟩) ?_
      refine o_fa rfl ?_
      exact Zai (.pointer (some ⟨bk79, of80, none⟩)) ⟨bk79, of80, rfl, rfl, hp83⟩
     refine dc (fun _ _ _ _ _ hd89 _ => ?_) ?_
     ·obtain ⟨bk91, of92, hv93, hg94, hp95⟩ := hd89 4 (by decide)
      refine Zag (env' := [(23, .pointer (some ⟨bk91, of92, none⟩))]) (by exact ⟨congrArg some hv93, trivial⟩) ?_
      refine ZaP 0 hp95 rfl rfl rfl ?_
      exact Zai (.agg #[.int .i64 y21.A.Switch, .int .i64 y21.A.Port]) ⟨rfl, rfl⟩
     refine dc (fun _ _ _ _ _ _ _ => ?_) ?_
     ·refine Zag (env' := [(3, .pointer (some ⟨b3, 0, none⟩))]) (by exact ⟨rfl, trivial⟩) ?_
      refine o_ld 1 rfl rfl rfl ?_
      exact Zai (.agg #[.int .i64 x1.Switch, .int .i64 x1.Port]) ⟨rfl, rfl⟩
     refine dc2 5 6 (fun _ _ _ _ _ _ => ?_) ?_
     ·refine ZfV y21.A x1 rfl rfl ?_
      exact Zai (.bool (decide (y21.A = x1))) ⟨rfl, rfl⟩
     exact dnil
    ·intro V116 G117 H114 hle115 hF118
     have hs119 := RSl.mono hle115 hs19
     obtain ⟨hv120, hg121⟩ := hF118 7 (show 7 < 8 by decide)
     refine Zag (env' := [(26, .bool (decide (y21.A = x1))), (2, .pointer (some ⟨b1, 0, none⟩)), (3, .pointer (some ⟨b3, 0, none⟩)), (4, .pointer (some ⟨b5, 0, none⟩)), (7, .int .i64 s14), (12, .int .i64 s14), (13, .pointer (some ⟨b1, 1, none⟩)), (14, .slice a0_0 x0.Links.length c0_0), (15, .int .i64 (x0.Links.length : Int)), (16, .bool (decide (s14 < (x0.Links.length : Int))))]) (by exact ⟨congrArg some hv120, rfl, rfl, rfl, rfl, rfl, rfl, rfl, rfl, rfl, trivial⟩) ?_
     refine Zam (List.sublist_append_left _ _) ?_
     refine Zac ?_
     refine Zao rfl (fun h122 => ?_) (fun h122 => ?_)
     ·refine Zae <| Zaa <| o_fa rfl <| o_ld 0 rfl rfl rfl <| Zad rfl ?_
      refine Zce hs119 rfl rfl fun y123 bk125 of126 h124 hc127 => ?_
      refine o_fa rfl ?_
      refine ZaP 2 hc127 rfl rfl rfl ?_
      refine Zad rfl ?_
      refine o_st 2 rfl rfl rfl rfl rfl rfl ?_
      refine Zah rfl <| Zah rfl <| Zac <| ZbQ ?_
      exact ZaF (xs := [.cell 4 81, .tmp 5, .tmp 6]) (vs := [.agg #[.int .i64 y123.B.Switch, .int .i64 y123.B.Port], .int .i64 s14, .bool true]) [] Zkh rfl ⟨Zft 2 rfl rfl rfl rfl, Zaz rfl, Zaz rfl, trivial⟩ (.cons _ (.cons _ (.cons _ .slnil))) ⟨rfl, rfl⟩
     ·refine Zar <| Zae ?_
      refine s_bg fun y128 h133 => ?_
      refine Za8 [(fV (.pointer (some ⟨b1, 1, none⟩))),
   (fun H v g => v = Value.slice a0_0 x0.Links.length c0_0 ∧ g = [] ∧ RSl H a0_0 c0_0 x0.Links),
   (fV (.int .i64 s14)),
   (fun H v g => ∃ bk135 of136, v = Value.pointer (some ⟨bk135, of136, none⟩) ∧ g = [] ∧ Zaj H bk135 of136 [.int .i64 y128.A.Switch, .int .i64 y128.A.Port, .int .i64 y128.B.Switch, .int .i64 y128.B.Port]),
   (fun H v g => ∃ bk135 of136, v = Value.pointer (some ⟨bk135, of136 + 2, none⟩) ∧ g = [] ∧ Zaj H bk135 of136 [.int .i64 y128.A.Switch, .int .i64 y128.A.Port, .int .i64 y128.B.Switch, .int .i64 y128.B.Port]),
   (fV (.agg #[.int .i64 y128.B.Switch, .int .i64 y128.B.Port])),
   (fV (.agg #[.int .i64 x1.Switch, .int .i64 x1.Port])),
   (fV (.bool (decide (y128.B = x1))))] [[], [], [], [], [], [], [], []] mixed ⟨m0, fun _ _ _ _ hle ⟨e1, e2, h0_⟩ => ⟨e1, e2, RSl.mono hle h0_⟩, m0, fun _ _ _ _ hle ⟨bk135, of136, e1, e2, h0_⟩ => ⟨_, _, e1, e2, Zaj.mono hle h0_⟩, fun _ _ _ _ hle ⟨bk135, of136, e1, e2, h0_⟩ => ⟨_, _, e1, e2, Zaj.mono hle h0_⟩, m0, m0, m0, trivial⟩ (by kernel_rfl) (by kernel_rfl) rfl (by kernel_rfl) rfl rfl ?_ ?_
      ·refine dc (fun _ _ _ _ _ _ _ => ?_) ?_
       ·refine Zag (env' := [(2, .pointer (some ⟨b1, 0, none⟩))]) (by exact ⟨rfl, trivial⟩) ?_
        refine o_fa rfl ?_
        exact Zai (.pointer (some ⟨b1, 1, none⟩)) ⟨rfl, rfl⟩
       refine dc1 0 (fun _ _ _ _ hle150 _ => ?_) ?_
       ·have hs153 := RSl.mono hle150 hs119
        refine o_ld 0 rfl rfl rfl ?_
        exact Zai (.slice a0_0 x0.Links.length c0_0) ⟨rfl, rfl, hs153⟩
       refine dc (fun _ _ _ _ _ _ _ => ?_) ?_
       ·refine Zag (env' := [(7, .int .i64 s14)]) (by exact ⟨rfl, trivial⟩) ?_
        refine Zad rfl ?_
        exact Zai (.int .i64 s14) ⟨rfl, rfl⟩
       refine Za3 ?_ ?_
       ·intro _ _ H165 fr166 hle167 hd168
        obtain ⟨hv170, hg171, hp172⟩ := hd168 1 (by decide)
        obtain ⟨hv173, hg174⟩ := hd168 2 (by decide)
        refine ⟨_, (rd x0.Links s14).bind some, by rw [h133]; rfl, fun _ => ?_⟩
        refine Zag (env' := [(35, .slice a0_0 x0.Links.length c0_0), (36, .int .i64 s14)]) (by exact ⟨congrArg some hv170, congrArg some hv173, trivial⟩) ?_
        refine Zce hp172 rfl rfl fun y128 bk176 of177 h175 hc178 => ?_
        obtain rfl := Option.some.inj (h133.symm.trans h175)
        exact Zai (.pointer (some ⟨bk176, of177, none⟩)) ⟨bk176, of177, rfl, rfl, hc178⟩
       refine dc (fun _ _ _ _ _ hd184 _ => ?_) ?_
       ·obtain ⟨bk186, of187, hv188, hg189, hp190⟩ := hd184 3 (by decide)
        refine Zag (env' := [(37, .pointer (some ⟨bk186, of187, none⟩))]) (by exact ⟨congrArg some hv188, trivial⟩) ?_
        refine o_fa rfl ?_
        exact Zai (.pointer (some ⟨bk186, of187 + 2, none⟩)) ⟨bk186, of187, rfl, rfl, hp190⟩
       refine dc (fun _ _ _ _ _ hd196 _ => ?_) ?_
       ·obtain ⟨bk198, of199, hv200, hg201, hp202⟩ := hd196 4 (by decide)
        refine Zag (env' := [(38, .pointer (some ⟨bk198, of199 + 2, none⟩))]) (by exact ⟨congrArg some hv200, trivial⟩) ?_
        refine ZaP 2 hp202 rfl rfl rfl ?_
        exact Zai (.agg #[.int .i64 y128.B.Switch, .int .i64 y128.B.Port]) ⟨rfl, rfl⟩
       refine dc (fun _ _ _ _ _ _ _ => ?_) ?_
       ·refine Zag (env' := [(3, .pointer (some ⟨b3, 0, none⟩))]) (by exact ⟨rfl, trivial⟩) ?_
        refine o_ld 1 rfl rfl rfl ?_
        exact Zai (.agg #[.int .i64 x1.Switch, .int .i64 x1.Port]) ⟨rfl, rfl⟩
       refine dc2 5 6 (fun _ _ _ _ _ _ => ?_) ?_
       ·refine ZfV y128.B x1 rfl rfl ?_
        exact Zai (.bool (decide (y128.B = x1))) ⟨rfl, rfl⟩
       exact dnil
      ·intro V223 G224 H221 hle222 hF225
       have hs226 := RSl.mono hle222 hs119
       obtain ⟨hv227, hg228⟩ := hF225 7 (show 7 < 8 by decide)
       refine Zag (env' := [(41, .bool (decide (y128.B = x1))), (2, .pointer (some ⟨b1, 0, none⟩)), (3, .pointer (some ⟨b3, 0, none⟩)), (4, .pointer (some ⟨b5, 0, none⟩)), (7, .int .i64 s14), (12, .int .i64 s14), (13, .pointer (some ⟨b1, 1, none⟩)), (14, .slice a0_0 x0.Links.length c0_0), (15, .int .i64 (x0.Links.length : Int)), (16, .bool (decide (s14 < (x0.Links.length : Int)))), (26, .bool (decide (y21.A = x1)))]) (by exact ⟨congrArg some hv227, rfl, rfl, rfl, rfl, rfl, rfl, rfl, rfl, rfl, rfl, trivial⟩) ?_
       refine Zam (List.sublist_append_left _ _) ?_
       refine Zac ?_
       refine Zao rfl (fun h229 => ?_) (fun h229 => ?_)
       ·refine Zae <| Zaa <| o_fa rfl <| o_ld 0 rfl rfl rfl <| Zad rfl ?_
        refine Zce hs226 rfl rfl fun y230 bk232 of233 h231 hc234 => ?_
        refine o_fa rfl ?_
        refine ZaP 0 hc234 rfl rfl rfl ?_
        refine Zad rfl ?_
        refine o_st 2 rfl rfl rfl rfl rfl rfl ?_
        refine Zah rfl <| Zah rfl <| Zac <| ZbQ ?_
        exact ZaF (xs := [.cell 4 81, .tmp 5, .tmp 6]) (vs := [.agg #[.int .i64 y230.A.Switch, .int .i64 y230.A.Port], .int .i64 s14, .bool true]) [] Zkh rfl ⟨Zft 2 rfl rfl rfl rfl, Zaz rfl, Zaz rfl, trivial⟩ (.cons _ (.cons _ (.cons _ .slnil))) ⟨rfl, rfl⟩
       ·refine Zar <| Zav <| Zaa <| Zad rfl <| ZbM rfl rfl <| Zah rfl <| Zac ?_
        exact Zag (by exact ⟨rfl, rfl, rfl, rfl, trivial⟩) (Zam (by exact (.cons_cons _ (.cons_cons _ (.cons_cons _ .slnil)))) (ih16 (w64 (s14 + 1)) _ _ _ ⟨rfl, rfl, (Hle.trans (Hle.trans hle18 hle115) hle222)⟩))
   ·refine Zbf rfl ?_
    exact Zag (by exact ⟨rfl, trivial⟩) (Zam (by exact (.cons _ (.cons _ (.cons_cons _ .slnil)))) (J13 () _ _ _ ⟨rfl, rfl, hle18⟩))
def Zbu (k : Nat) (x0 : Int) (x1 : Int) (x2 : Int) : Option Bool :=
 if (decide (x1 ≤ x0)) = true then
  some (decide (x0 ≤ x2))
 else
  some false
theorem ZmP : Tryz.prog.funcs[82]? = some Tryz.f82 := by kernel_rfl
theorem ZbF (k : Nat) (H : Heap) (x0 : Int) (x1 : Int) (x2 : Int) {r : Bool} (hr : Zbu k x0 x1 x2 = some r) :
  Fn Tryz.prog 82 [.int .i64 x0, .int .i64 x1, .int .i64 x2] H [] fun H' v out => v = .bool r ∧ out = [] := by
 refine Zaq (args := [.int .i64 x0, .int .i64 x1, .int .i64 x2]) (n := 15) (Φ := fun r H' v out => v = .bool r ∧ out = []) hr ZmP rfl rfl rfl fun w => ?_
 refine s_eq (by rw [Zbu]) ?_
 refine Zae <| Zaa <| Zah rfl <| Zac <| Zae <| Zaa <| Zad rfl <| Zad rfl <| o_le rfl rfl <| Zad rfl ?_
 refine Zax (decide (x1 ≤ x0)) (fun h1 => ?_) (fun h1 => ?_)
 ·refine Zaf rfl rfl h1 <| Zad rfl <| Zaf rfl rfl h1 <| Zad rfl <| Zaf rfl rfl h1 <| o_le rfl rfl <| Zan rfl h1 rfl <| Zah rfl <| Zac ?_
  exact s_r1 6 (.bool (decide (x0 ≤ x2))) ZmP ⟨rfl, rfl⟩
 ·refine Zab rfl rfl h1 <| Zab rfl rfl h1 <| Zab rfl rfl h1 <| Zal rfl h1 rfl <| Zah rfl <| Zac ?_
  exact s_r1 6 (.bool false) ZmP ⟨rfl, rfl⟩
def ZcW (k : Nat) (x0 : Int) : Option Int :=
 (if (x0 == 8) = true then
   some (x0 == 8)
  else
   some (x0 == 9)).bind fun p1 =>
 if (p1) = true then
  some 2
 else
  if (x0 == 10) = true then
   some 1
  else
   some 0
theorem ZiO : Tryz.prog.funcs[138]? = some Tryz.f138 := by kernel_rfl
theorem Zd5 (k : Nat) (H : Heap) (x0 : Int) {r : Int} (hr : ZcW k x0 = some r) :
  Fn Tryz.prog 138 [.int .i64 x0] H [] fun H' v out => v = .int .i64 r ∧ out = [] := by
 refine Zaq (args := [.int .i64 x0]) (n := 9) (Φ := fun r H' v out => v = .int .i64 r ∧ out = []) hr ZiO rfl rfl rfl fun w => ?_
 refine s_eq (by rw [ZcW]) ?_
 refine Zae <| Zaa <| Zah rfl <| Zac <| Zae <| Zae <| Zaa <| Zad rfl <| Zac <| Zat <| Zae <| Zae ?_
 refine Zaa <| o_eq rfl rfl <| Zah rfl <| Zac ?_
 refine Zb3 (fun p1 env own H' => env = [(3, .int .i64 x0), (4, .bool p1)] ∧ own = [] ∧ Hle H H') ?_ ?_
 ·rintro p1 _ _ H2 ⟨rfl, rfl, hle3⟩
  refine Zao rfl (fun h4 => ?_) (fun h4 => ?_)
  ·refine Zae <| Zaa <| Zah rfl <| Zac ?_
   exact s_r1 2 (.int .i64 2) ZiO ⟨rfl, rfl⟩
  ·refine Zae <| Zaa <| o_eq rfl rfl <| Zah rfl <| Zac ?_
   refine Zao rfl (fun h5 => ?_) (fun h5 => ?_)
   ·refine Zae <| Zaa <| Zah rfl <| Zac ?_
    exact s_r1 2 (.int .i64 1) ZiO ⟨rfl, rfl⟩
   ·refine Zar <| Zav <| Zae <| Zaa <| Zah rfl <| Zac ?_
    exact s_r1 2 (.int .i64 0) ZiO ⟨rfl, rfl⟩
 ·intro J6
  refine Zao rfl (fun h7 => ?_) (fun h7 => ?_)
  ·refine Zar ?_
   exact Zag (by exact ⟨rfl, rfl, trivial⟩) (Zam (by exact .slnil) (J6 (x0 == 8) _ _ _ ⟨rfl, rfl, .refl _⟩))
  ·refine Zaa <| o_eq rfl rfl <| Zah rfl <| Zac ?_
   exact Zag (by exact ⟨rfl, rfl, trivial⟩) (Zam (by exact .slnil) (J6 (x0 == 9) _ _ _ ⟨rfl, rfl, .refl _⟩))
def Zcl (k : Nat) (x0 : Node) : Option (List Int) :=
 (ZcW k x0.Kind).bind fun y6 =>
 (slc ([x0.A, x0.B] : List Int) 0 y6).bind fun y15 =>
 some y15
theorem Zny : Tryz.prog.funcs[86]? = some Tryz.f86 := by kernel_rfl
theorem Zdo (k : Nat) (H : Heap) (x0 : Node) {r : (List Int)} (hr : Zcl k x0 = some r) :
  Fn Tryz.prog 86 [(aN x0)] H [] fun H' v out => ∃ a0_0 c0_0, v = .slice a0_0 r.length c0_0 ∧ out = [] ∧ RSl H' a0_0 c0_0 r := by
 refine Zaq (args := [(aN x0)]) (n := 12) (Φ := fun r H' v out => ∃ a0_0 c0_0, v = .slice a0_0 r.length c0_0 ∧ out = [] ∧ RSl H' a0_0 c0_0 r) hr Zny rfl rfl rfl fun w => ?_
 refine s_eq (by rw [Zcl]) ?_
 refine Zae <| Zaa ?_
 refine ZbO rfl fun b1 => ?_
 refine Zah rfl <| Zac <| Zae ?_
 refine s_bg fun y6 h8 => ?_
 refine s_bg fun y15 h18 => ?_
 refine Za8 [(fV (.pointer (some ⟨b1, 1, none⟩))),
   (fV (.int .i64 x0.A)),
   (fV (.pointer (some ⟨b1, 2, none⟩))),
   (fV (.int .i64 x0.B)),
   (fun H v g => ∃ b19, v = Value.slice (some ⟨b19, 0, none⟩) ([x0.A, x0.B] : List Int).length 2 ∧ g = [] ∧ RSl H (some ⟨b19, 0, none⟩) 2 ([x0.A, x0.B] : List Int)),
   (fV (.pointer (some ⟨b1, 0, none⟩))),
   (fV (.int .i64 x0.Kind)),
   (fV (.int .i64 y6)),
   (fun H v g => ∃ a27 c28, v = Value.slice a27 y15.length c28 ∧ g = [] ∧ RSl H a27 c28 y15)] [[], [], [], [], [], [], [], [], []] mixed ⟨m0, m0, m0, m0, fun _ _ _ _ hle ⟨b19, e1, e2, h0_⟩ => ⟨_, e1, e2, RSl.mono hle h0_⟩, m0, m0, m0, fun _ _ _ _ hle ⟨a27, c28, e1, e2, h0_⟩ => ⟨_, _, e1, e2, RSl.mono hle h0_⟩, trivial⟩ (by kernel_rfl) (by kernel_rfl) rfl (by kernel_rfl) rfl rfl ?_ ?_
 ·refine dc (fun _ _ _ _ _ _ _ => ?_) ?_
  ·refine Zag (env' := [(1, .pointer (some ⟨b1, 0, none⟩))]) (by exact ⟨rfl, trivial⟩) ?_
   refine o_fa rfl ?_
   exact Zai (.pointer (some ⟨b1, 1, none⟩)) ⟨rfl, rfl⟩
  refine dc1 0 (fun _ _ _ _ _ _ => ?_) ?_
  ·refine o_ld 0 rfl rfl rfl ?_
   exact Zai (.int .i64 x0.A) ⟨rfl, rfl⟩
  refine dc (fun _ _ _ _ _ _ _ => ?_) ?_
  ·refine Zag (env' := [(1, .pointer (some ⟨b1, 0, none⟩))]) (by exact ⟨rfl, trivial⟩) ?_
   refine o_fa rfl ?_
   exact Zai (.pointer (some ⟨b1, 2, none⟩)) ⟨rfl, rfl⟩
  refine dc1 2 (fun _ _ _ _ _ _ => ?_) ?_
  ·refine o_ld 0 rfl rfl rfl ?_
   exact Zai (.int .i64 x0.B) ⟨rfl, rfl⟩
  refine Za3 ?_ ?_
  ·intro _ _ H65 fr66 hle67 hd68
   obtain ⟨hv70, hg71⟩ := hd68 1 (by decide)
   obtain ⟨hv72, hg73⟩ := hd68 3 (by decide)
   refine ⟨_, some (), rfl, fun _ => ?_⟩
   refine Zag (env' := [(4, .int .i64 x0.A), (6, .int .i64 x0.B)]) (by exact ⟨congrArg some hv70, congrArg some hv72, trivial⟩) ?_
   refine Zdw (xs := [.tmp 4, .tmp 6]) rfl rfl (by simp only [List.mem_cons, List.not_mem_nil, or_false, forall_eq_or_imp, forall_eq]; exact ⟨⟨rfl, rfl⟩, ⟨rfl, rfl⟩⟩) rfl rfl fun b74 => ?_
   have hA75 : All2 (GoT.rep H65) [[.int .i64 x0.A], [.int .i64 x0.B]] ([x0.A, x0.B] : List Int) := ZaZ (([x0.A, x0.B] : List Int))
   refine ZcP (own' := [.blk b1 (Zak (cN x0) 38), .osl (.slice (some ⟨b74, 0, none⟩) ([x0.A, x0.B] : List Int).length 2) 1 3 [[.int .i64 x0.A], [.int .i64 x0.B]]] ++ fr66) (pm3 (a := [.blk b1 (Zak (cN x0) 38)]) (xs := [.osl (.slice (some ⟨b74, 0, none⟩) ([x0.A, x0.B] : List Int).length 2) 1 3 [[.int .i64 x0.A], [.int .i64 x0.B]]])) ?_
   refine Zg9 1 (fun b => .inl (by simp [ids])) rfl hA75 fun H77 hle78 hn79 hs80 => ?_
   exact ZbV fun _ _ _ hE hI => ⟨(.slice (some ⟨b74, 0, none⟩) ([x0.A, x0.B] : List Int).length 2), [], _, fun _ e => (by cases e; exact hE _ _ rfl), hle78, by exact hI, ⟨b74, rfl, rfl, hs80⟩⟩
  refine dc (fun _ _ _ _ _ _ _ => ?_) ?_
  ·refine Zag (env' := [(1, .pointer (some ⟨b1, 0, none⟩))]) (by exact ⟨rfl, trivial⟩) ?_
   refine o_fa rfl ?_
   exact Zai (.pointer (some ⟨b1, 0, none⟩)) ⟨rfl, rfl⟩
  refine dc1 5 (fun _ _ _ _ _ _ => ?_) ?_
  ·refine o_ld 0 rfl rfl rfl ?_
   exact Zai (.int .i64 x0.Kind) ⟨rfl, rfl⟩
  refine Za3 ?_ ?_
  ·intro _ _ H99 fr100 hle101 hd102
   obtain ⟨hv104, hg105⟩ := hd102 6 (by decide)
   refine ⟨_, (ZcW k x0.Kind).bind some, by rw [h8]; rfl, fun _ => ?_⟩
   refine Zag (env' := [(9, .int .i64 x0.Kind)]) (by exact ⟨congrArg some hv104, trivial⟩) ?_
   refine s_bg fun y6 h106 => ?_
   refine Zas rfl rfl (Zd5 k _ x0.Kind h106) ?_
   obtain rfl := Option.some.inj (h8.symm.trans h106)
   exact Zai (.int .i64 y6) ⟨rfl, rfl⟩
  refine Za3 ?_ ?_
  ·intro _ _ H109 fr110 hle111 hd112
   obtain ⟨b114, hv115, hg116, hp117⟩ := hd112 4 (by decide)
   obtain ⟨hv118, hg119⟩ := hd112 7 (by decide)
   refine ⟨_, (slc ([x0.A, x0.B] : List Int) 0 y6).bind some, by rw [h18]; rfl, fun _ => ?_⟩
   refine Zag (env' := [(7, .slice (some ⟨b114, 0, none⟩) ([x0.A, x0.B] : List Int).length 2), (10, .int .i64 y6)]) (by exact ⟨congrArg some hv115, congrArg some hv118, trivial⟩) ?_
   refine o_sl hp117 rfl rfl ⟨_, rfl⟩ fun a120 c121 y15 h122 hs123 => ?_
   obtain rfl := Option.some.inj (h18.symm.trans h122)
   exact Zai (.slice a120 y15.length c121) ⟨a120, c121, rfl, rfl, hs123⟩
  exact dnil
 ·intro V126 G127 H124 hle125 hF128
  obtain ⟨a129, c130, hv131, hg132, hp133⟩ := hF128 8 (show 8 < 9 by decide)
  refine Zag (env' := [(11, .slice a129 y15.length c130), (0, (aN x0)), (1, .pointer (some ⟨b1, 0, none⟩)), (2, .slice none 0 0)]) (by exact ⟨congrArg some hv131, rfl, rfl, rfl, trivial⟩) ?_
  refine Zam (List.sublist_append_left _ _) ?_
  refine Zah rfl <| Zac ?_
  exact ZaF (xs := [.tmp 2]) (vs := [.slice a129 y15.length c130]) [] Zny rfl ⟨Zaz rfl, trivial⟩ (.cons _ .slnil) ⟨_, _, rfl, rfl, hp133⟩
def Zb9 (k : Nat) (x1 : Int) (y3 : (List Int)) : Nat → Int → Option (LX (Bool) (Unit))
 | 0, _ => none
 | q15 + 1, s14 =>
  if (decide (s14 < (y3.length : Int))) = true then
   (rd y3 s14).bind fun y21 =>
   (Zbu k y21 0 (w64 (x1 - 1))).bind fun y26 =>
   if (!y26) = true then
    some (.ret false)
   else
    Zb9 k x1 y3 q15 (w64 (s14 + 1))
  else
   some (.out ())
def Zc1 (k : Nat) (x0 : Node) (x1 : Int) : Option Bool :=
 (Zcl k x0).bind fun y3 =>
 (Zb9 k x1 y3 k 0).bind (LX.go fun p10 =>
 some true)
theorem ZmO : Tryz.prog.funcs[83]? = some Tryz.f83 := by kernel_rfl
theorem Zex (k : Nat) (H : Heap) (x0 : Node) (x1 : Int) {r : Bool} (hr : Zc1 k x0 x1 = some r) :
  Fn Tryz.prog 83 [(aN x0), .int .i64 x1] H [] fun H' v out => v = .bool r ∧ out = [] := by
 refine Zaq (args := [(aN x0), .int .i64 x1]) (n := 20) (Φ := fun r H' v out => v = .bool r ∧ out = []) hr ZmO rfl rfl rfl fun w => ?_
 refine s_eq (by rw [Zc1]) ?_
 refine Zae <| Zaa ?_
 refine ZbO rfl fun b1 => ?_
 refine Zah rfl <| Zac <| Zae <| Zae <| Zaa <| o_ld 0 rfl rfl rfl ?_
 refine s_bg fun y3 h4 => ?_
 refine Zbg [] _ rfl rfl (.refl _) (Zdo k _ x0 h4) ?_
 rintro _ H8 _ hle9 ⟨a5, c6, rfl, rfl, hs7⟩
 refine ZcG <| ZaG rfl <| Zad rfl <| Zac ?_
 refine ZbR (fun p10 env own H' => env = [] ∧ own = [] ∧ Hle H8 H') ?_ ?_
 ·rintro p10 _ _ H11 ⟨rfl, rfl, hle12⟩
  refine Zae <| Zaa <| Zah rfl <| Zac ?_
  exact s_r1 4 (.bool true) ZmO ⟨rfl, rfl⟩
 ·intro J13
  refine Zat ?_
  refine Zag (env' := [(1, .int .i64 x1), (8, .slice a5 y3.length c6), (9, .int .i64 (y3.length : Int)), (10, .int .i64 0)]) (by exact ⟨rfl, rfl, rfl, rfl, trivial⟩) ?_
  refine Zam (own' := []) (.cons _ .slnil) ?_
  refine Za2 (fun q s14 => Zb9 k x1 y3 q s14) (fun s14 env own H' => env = [(1, .int .i64 x1), (8, .slice a5 y3.length c6), (9, .int .i64 (y3.length : Int)), (10, .int .i64 s14)] ∧ own = [] ∧ Hle H8 H') (fun _ => rfl) ?_ k 0 ⟨rfl, rfl, .refl _⟩
  rintro q15 ih16 s14 _ _ H17 ⟨rfl, rfl, hle18⟩
  refine s_eq (by rw [Zb9]) ?_
  have hs19 := RSl.mono hle18 hs7
  refine Zae <| Zaa <| o_lt rfl rfl <| Zac <| Zae ?_
  refine Zao rfl (fun h20 => ?_) (fun h20 => ?_)
  ·refine Zar <| Zae <| Zat <| Zae <| Zaa ?_
   refine Zce hs19 rfl rfl fun y21 bk23 of24 h22 hc25 => ?_
   refine ZaP 0 hc25 rfl rfl rfl ?_
   refine Zah rfl <| Zac <| Zae <| Zaa <| Zad rfl <| Zad rfl <| ZhF rfl rfl ?_
   refine s_bg fun y26 h27 => ?_
   refine Zas rfl rfl (ZbF k _ y21 0 (w64 (x1 - 1)) h27) ?_
   refine Zdc rfl <| Zac ?_
   refine Zao rfl (fun h28 => ?_) (fun h28 => ?_)
   ·refine Zae <| Zaa <| Zah rfl <| Zac <| ZbQ ?_
    exact s_r1 4 (.bool false) ZmO ⟨rfl, rfl⟩
   ·refine Zar <| Zav <| Zaa <| ZbM rfl rfl <| Zad rfl <| Zac ?_
    exact Zag (by exact ⟨rfl, rfl, rfl, rfl, trivial⟩) (Zam (by exact .slnil) (ih16 (w64 (s14 + 1)) _ _ _ ⟨rfl, rfl, hle18⟩))
  ·refine Zbf rfl ?_
   exact Zag (by exact trivial) (Zam (by exact .slnil) (J13 () _ _ _ ⟨rfl, rfl, hle18⟩))
def Zeb (k : Nat) (x0 : Node) : Option Bool :=
 (ZcW k x0.Kind).bind fun y5 =>
 if (decide (y5 > 0)) = true then
  (if (decide (y5 > 1)) = true then
    some 0
   else
    some x0.B).bind fun p8 =>
  some (decide ((⟨0, 0, p8, x0.N, x0.M, x0.V⟩ : Node) = (⟨0, 0, 0, 0, 0, 0⟩ : Node)))
 else
  (if (x0.Kind == 1) = true then
    some (x0.Kind == 1)
   else
    some (x0.Kind == 2)).bind fun p13 =>
  if (p13) = true then
   if (((decide ((⟨0, x0.A, x0.B, 0, 0, 0⟩ : Node) = (⟨0, 0, 0, 0, 0, 0⟩ : Node))) && x0.M == 0)) = true then
    if (x0.N == 0) = true then
     some (x0.V == 0)
    else
     some false
   else
    some false
  else
   if (x0.Kind == 3) = true then
    if (decide ((⟨0, x0.A, x0.B, 0, 0, 0⟩ : Node) = (⟨0, 0, 0, 0, 0, 0⟩ : Node))) = true then
     (Zbu k x0.N 0 2).bind fun y21 =>
     if (y21) = true then
      (Zbu k x0.M 1 255).bind fun y24 =>
      if (y24) = true then
       (Zbu k x0.V 0 255).bind fun y27 =>
       if (y27) = true then
        some ((ibit .andNot .i64 x0.V x0.M) == 0)
       else
        some false
      else
       some false
     else
      some false
    else
     some false
   else
    if (x0.Kind == 4) = true then
     if (((decide ((⟨0, x0.A, x0.B, 0, 0, 0⟩ : Node) = (⟨0, 0, 0, 0, 0, 0⟩ : Node))) && x0.M == 0)) = true then
      if (x0.V == 0) = true then
       (Zbu k x0.N 1 6).bind fun y33 =>
       some y33
      else
       some false
     else
      some false
    else
     (if (x0.Kind == 5) = true then
       some (x0.Kind == 5)
      else
       some (x0.Kind == 7)).bind fun p35 =>
     if (p35) = true then
      if (((decide ((⟨0, x0.A, x0.B, 0, 0, 0⟩ : Node) = (⟨0, 0, 0, 0, 0, 0⟩ : Node))) && x0.M == 0)) = true then
       if (x0.V == 0) = true then
        (Zbu k x0.N 0 4).bind fun y41 =>
        some y41
       else
        some false
      else
       some false
     else
      if (x0.Kind == 6) = true then
       if (((decide ((⟨0, x0.A, x0.B, 0, 0, 0⟩ : Node) = (⟨0, 0, 0, 0, 0, 0⟩ : Node))) && x0.M == 0)) = true then
        (Zbu k x0.N 0 2).bind fun y45 =>
        if (y45) = true then
         (Zbu k x0.V 0 255).bind fun y48 =>
         some y48
        else
         some false
       else
        some false
      else
       some false
theorem Zef : Tryz.prog.funcs[84]? = some Tryz.f84 := by kernel_rfl
theorem Zhe (k : Nat) (H : Heap) (x0 : Node) {r : Bool} (hr : Zeb k x0 = some r) :
  Fn Tryz.prog 84 [(aN x0)] H [] fun H' v out => v = .bool r ∧ out = [] := by
 refine Zaq (args := [(aN x0)]) (n := 115) (Φ := fun r H' v out => v = .bool r ∧ out = []) hr Zef rfl rfl rfl fun w => ?_
 refine s_eq (by rw [Zeb]) ?_
 refine Zae <| Zaa ?_
 refine ZbO rfl fun b1 => ?_
 refine Zah rfl <| Zac <| Zae <| Zaa <| o_ld 0 rfl rfl rfl ?_
 refine Zbw fun b3 => ?_
 refine o_st 1 rfl rfl rfl rfl rfl rfl ?_
 refine Zac <| Zae <| Zaa <| o_fa rfl ?_
 refine o_st 1 rfl rfl rfl rfl rfl rfl ?_
 refine Zac <| Zae <| Zae <| Zaa <| o_fa rfl <| o_ld 0 rfl rfl rfl ?_
 refine s_bg fun y5 h6 => ?_
 refine Zas rfl rfl (Zd5 k _ x0.Kind h6) ?_
 refine Zah rfl <| Zac <| Zae <| Zaa <| Zad rfl <| o_gt rfl rfl <| Zac ?_
 refine Zao rfl (fun h7 => ?_) (fun h7 => ?_)
 ·refine Zae <| Zae <| Zaa <| o_fa rfl ?_
  refine o_st 1 rfl rfl rfl rfl rfl rfl ?_
  refine Zac <| Zae <| Zaa <| Zad rfl <| o_gt rfl rfl <| Zac ?_
  refine Zb3 (fun p8 env own H' => env = [(3, .pointer (some ⟨b3, 0, none⟩))] ∧ own = [.blk b3 (Zak [.int .i64 0, .int .i64 0, .int .i64 p8, .int .i64 x0.N, .int .i64 x0.M, .int .i64 x0.V] 38)] ∧ Hle H H') ?_ ?_
  ·rintro p8 _ _ H9 ⟨rfl, rfl, hle10⟩
   refine Zae <| Zaa <| o_ld 0 rfl rfl rfl ?_
   refine Zdx rfl rfl ?_
   refine ZfV (⟨0, 0, p8, x0.N, x0.M, x0.V⟩ : Node) (⟨0, 0, 0, 0, 0, 0⟩ : Node) rfl rfl ?_
   refine Zah rfl <| Zac ?_
   exact s_r1 2 (.bool (decide ((⟨0, 0, p8, x0.N, x0.M, x0.V⟩ : Node) = (⟨0, 0, 0, 0, 0, 0⟩ : Node)))) Zef ⟨rfl, rfl⟩
  ·intro J11
   refine Zao rfl (fun h12 => ?_) (fun h12 => ?_)
   ·refine Zaa <| o_fa rfl ?_
    refine o_st 1 rfl rfl rfl rfl rfl rfl ?_
    refine Zac ?_
    exact Zag (by exact ⟨rfl, trivial⟩) (Zam (by exact (.cons _ (.cons_cons _ .slnil))) (J11 0 _ _ _ ⟨rfl, rfl, .refl _⟩))
   ·refine Zar ?_
    exact Zag (by exact ⟨rfl, trivial⟩) (Zam (by exact (.cons _ (.cons_cons _ .slnil))) (J11 x0.B _ _ _ ⟨rfl, rfl, .refl _⟩))
 ·refine Zar <| Zae <| Zaa <| o_fa rfl ?_
  refine o_st 1 rfl rfl rfl rfl rfl rfl ?_
  refine o_fa rfl ?_
  refine o_st 1 rfl rfl rfl rfl rfl rfl ?_
  refine o_fa rfl ?_
  refine o_st 1 rfl rfl rfl rfl rfl rfl ?_
  refine Zac <| Zae <| Zaa ?_
  refine Zfs [(1, .pointer (some ⟨b1, 0, none⟩)), (3, .pointer (some ⟨b3, 0, none⟩)), (5, .bool ((decide ((⟨0, x0.A, x0.B, 0, 0, 0⟩ : Node) = (⟨0, 0, 0, 0, 0, 0⟩ : Node))) && x0.M == 0))] [.blk b1 (Zak (cN x0) 38), .blk b3 (Zak [.int .i64 0, .int .i64 x0.A, .int .i64 x0.B, .int .i64 0, .int .i64 0, .int .i64 0] 38)] ?_ ?_
  ·refine Zae <| Zae <| Zaa <| o_fa rfl <| o_ld 0 rfl rfl rfl <| Zac <| Zat <| Zae <| Zae <| Zaa <| o_eq rfl rfl <| Zah rfl ?_
   refine Zac ?_
   refine Zb3 (fun p13 env own H' => env = [(1, .pointer (some ⟨b1, 0, none⟩)), (3, .pointer (some ⟨b3, 0, none⟩)), (5, .bool ((decide ((⟨0, x0.A, x0.B, 0, 0, 0⟩ : Node) = (⟨0, 0, 0, 0, 0, 0⟩ : Node))) && x0.M == 0)), (32, .int .i64 x0.Kind), (33, .bool p13)] ∧ own = [.blk b1 (Zak (cN x0) 38), .blk b3 (Zak [.int .i64 0, .int .i64 x0.A, .int .i64 x0.B, .int .i64 0, .int .i64 0, .int .i64 0] 38)] ∧ Hle H H') ?_ ?_
   ·rintro p13 _ _ H14 ⟨rfl, rfl, hle15⟩
    refine Zao rfl (fun h16 => ?_) (fun h16 => ?_)
    ·refine Zae <| Zaa <| Zad rfl <| Zad rfl ?_
     refine Zax ((decide ((⟨0, x0.A, x0.B, 0, 0, 0⟩ : Node) = (⟨0, 0, 0, 0, 0, 0⟩ : Node))) && x0.M == 0) (fun h17 => ?_) (fun h17 => ?_)
     ·refine Zaf rfl rfl h17 <| o_fa rfl <| Zaf rfl rfl h17 <| o_ld 0 rfl rfl rfl <| Zaf rfl rfl h17 <| o_eq rfl rfl <| Zan rfl h17 rfl <| Zad rfl ?_
      refine Zax (x0.N == 0) (fun h18 => ?_) (fun h18 => ?_)
      ·refine Zaf rfl rfl h18 <| o_fa rfl <| Zaf rfl rfl h18 <| o_ld 0 rfl rfl rfl <| Zaf rfl rfl h18 <| o_eq rfl rfl <| Zan rfl h18 rfl <| Zah rfl <| Zac ?_
       exact s_r1 2 (.bool (x0.V == 0)) Zef ⟨rfl, rfl⟩
      ·refine Zab rfl rfl h18 <| Zab rfl rfl h18 <| Zab rfl rfl h18 <| Zal rfl h18 rfl <| Zah rfl <| Zac ?_
       exact s_r1 2 (.bool false) Zef ⟨rfl, rfl⟩
     ·refine Zab rfl rfl h17 <| Zab rfl rfl h17 <| Zab rfl rfl h17 <| Zal rfl h17 rfl <| Zad rfl <| Zab rfl rfl rfl <| Zab rfl rfl rfl <| Zab rfl rfl rfl <| Zal rfl rfl rfl <| Zah rfl <| Zac ?_
      exact s_r1 2 (.bool false) Zef ⟨rfl, rfl⟩
    ·refine Zae <| Zaa <| o_eq rfl rfl <| Zah rfl <| Zac ?_
     refine Zao rfl (fun h19 => ?_) (fun h19 => ?_)
     ·refine Zae <| Zaa <| o_ld 1 rfl rfl rfl ?_
      refine Zdx rfl rfl ?_
      refine ZfV (⟨0, x0.A, x0.B, 0, 0, 0⟩ : Node) (⟨0, 0, 0, 0, 0, 0⟩ : Node) rfl rfl ?_
      refine Zad rfl ?_
      refine Zax (decide ((⟨0, x0.A, x0.B, 0, 0, 0⟩ : Node) = (⟨0, 0, 0, 0, 0, 0⟩ : Node))) (fun h20 => ?_) (fun h20 => ?_)
      ·refine Zaf rfl rfl h20 <| o_fa rfl <| Zaf rfl rfl h20 <| o_ld 0 rfl rfl rfl <| Zaf rfl rfl h20 ?_
       refine s_bg fun y21 h22 => ?_
       refine Zas rfl rfl (ZbF k _ x0.N 0 2 h22) ?_
       refine Zan rfl h20 rfl <| Zad rfl ?_
       refine Zax y21 (fun h23 => ?_) (fun h23 => ?_)
       ·refine Zaf rfl rfl h23 <| o_fa rfl <| Zaf rfl rfl h23 <| o_ld 0 rfl rfl rfl <| Zaf rfl rfl h23 ?_
        refine s_bg fun y24 h25 => ?_
        refine Zas rfl rfl (ZbF k _ x0.M 1 255 h25) ?_
        refine Zan rfl h23 rfl <| Zad rfl ?_
        refine Zax y24 (fun h26 => ?_) (fun h26 => ?_)
        ·refine Zaf rfl rfl h26 <| o_fa rfl <| Zaf rfl rfl h26 <| o_ld 0 rfl rfl rfl <| Zaf rfl rfl h26 ?_
         refine s_bg fun y27 h28 => ?_
         refine Zas rfl rfl (ZbF k _ x0.V 0 255 h28) ?_
         refine Zan rfl h26 rfl <| Zad rfl ?_
         refine Zax y27 (fun h29 => ?_) (fun h29 => ?_)
         ·refine Zaf rfl rfl h29 <| o_fa rfl <| Zaf rfl rfl h29 <| o_ld 0 rfl rfl rfl <| Zaf rfl rfl h29 <| o_fa rfl <| Zaf rfl rfl h29 <| o_ld 0 rfl rfl rfl <| Zaf rfl rfl h29 ?_
          refine ZlV rfl rfl ?_
          refine Zaf rfl rfl h29 <| o_eq rfl rfl <| Zan rfl h29 rfl <| Zah rfl <| Zac ?_
          exact s_r1 2 (.bool ((ibit .andNot .i64 x0.V x0.M) == 0)) Zef ⟨rfl, rfl⟩
         ·refine Zab rfl rfl h29 <| Zab rfl rfl h29 <| Zab rfl rfl h29 <| Zab rfl rfl h29 <| Zab rfl rfl h29 <| Zab rfl rfl h29 <| Zal rfl h29 rfl <| Zah rfl <| Zac ?_
          exact s_r1 2 (.bool false) Zef ⟨rfl, rfl⟩
        ·refine Zab rfl rfl h26 <| Zab rfl rfl h26 <| Zab rfl rfl h26 <| Zal rfl h26 rfl <| Zad rfl <| Zab rfl rfl rfl <| Zab rfl rfl rfl <| Zab rfl rfl rfl <| Zab rfl rfl rfl <| Zab rfl rfl rfl <| Zab rfl rfl rfl <| Zal rfl rfl rfl ?_
         refine Zah rfl <| Zac ?_
         exact s_r1 2 (.bool false) Zef ⟨rfl, rfl⟩
       ·refine Zab rfl rfl h23 <| Zab rfl rfl h23 <| Zab rfl rfl h23 <| Zal rfl h23 rfl <| Zad rfl <| Zab rfl rfl rfl <| Zab rfl rfl rfl <| Zab rfl rfl rfl <| Zal rfl rfl rfl <| Zad rfl <| Zab rfl rfl rfl <| Zab rfl rfl rfl ?_
        refine Zab rfl rfl rfl <| Zab rfl rfl rfl <| Zab rfl rfl rfl <| Zab rfl rfl rfl <| Zal rfl rfl rfl <| Zah rfl <| Zac ?_
        exact s_r1 2 (.bool false) Zef ⟨rfl, rfl⟩
      ·refine Zab rfl rfl h20 <| Zab rfl rfl h20 <| Zab rfl rfl h20 <| Zal rfl h20 rfl <| Zad rfl <| Zab rfl rfl rfl <| Zab rfl rfl rfl <| Zab rfl rfl rfl <| Zal rfl rfl rfl <| Zad rfl <| Zab rfl rfl rfl <| Zab rfl rfl rfl ?_
       refine Zab rfl rfl rfl <| Zal rfl rfl rfl <| Zad rfl <| Zab rfl rfl rfl <| Zab rfl rfl rfl <| Zab rfl rfl rfl <| Zab rfl rfl rfl <| Zab rfl rfl rfl <| Zab rfl rfl rfl <| Zal rfl rfl rfl <| Zah rfl <| Zac ?_
       exact s_r1 2 (.bool false) Zef ⟨rfl, rfl⟩
     ·refine Zae <| Zaa <| o_eq rfl rfl <| Zah rfl <| Zac ?_
      refine Zao rfl (fun h30 => ?_) (fun h30 => ?_)
      ·refine Zae <| Zaa <| Zad rfl <| Zad rfl ?_
       refine Zax ((decide ((⟨0, x0.A, x0.B, 0, 0, 0⟩ : Node) = (⟨0, 0, 0, 0, 0, 0⟩ : Node))) && x0.M == 0) (fun h31 => ?_) (fun h31 => ?_)
       ·refine Zaf rfl rfl h31 <| o_fa rfl <| Zaf rfl rfl h31 <| o_ld 0 rfl rfl rfl <| Zaf rfl rfl h31 <| o_eq rfl rfl <| Zan rfl h31 rfl <| Zad rfl ?_
        refine Zax (x0.V == 0) (fun h32 => ?_) (fun h32 => ?_)
        ·refine Zaf rfl rfl h32 <| o_fa rfl <| Zaf rfl rfl h32 <| o_ld 0 rfl rfl rfl <| Zaf rfl rfl h32 ?_
         refine s_bg fun y33 h34 => ?_
         refine Zas rfl rfl (ZbF k _ x0.N 1 6 h34) ?_
         refine Zan rfl h32 rfl <| Zah rfl <| Zac ?_
         exact s_r1 2 (.bool y33) Zef ⟨rfl, rfl⟩
        ·refine Zab rfl rfl h32 <| Zab rfl rfl h32 <| Zab rfl rfl h32 <| Zal rfl h32 rfl <| Zah rfl <| Zac ?_
         exact s_r1 2 (.bool false) Zef ⟨rfl, rfl⟩
       ·refine Zab rfl rfl h31 <| Zab rfl rfl h31 <| Zab rfl rfl h31 <| Zal rfl h31 rfl <| Zad rfl <| Zab rfl rfl rfl <| Zab rfl rfl rfl <| Zab rfl rfl rfl <| Zal rfl rfl rfl <| Zah rfl <| Zac ?_
        exact s_r1 2 (.bool false) Zef ⟨rfl, rfl⟩
      ·refine Zae <| Zae <| Zaa <| o_eq rfl rfl <| Zah rfl <| Zac ?_
       refine Zb3 (fun p35 env own H' => env = [(1, .pointer (some ⟨b1, 0, none⟩)), (5, .bool ((decide ((⟨0, x0.A, x0.B, 0, 0, 0⟩ : Node) = (⟨0, 0, 0, 0, 0, 0⟩ : Node))) && x0.M == 0)), (32, .int .i64 x0.Kind), (88, .bool p35)] ∧ own = [.blk b1 (Zak (cN x0) 38)] ∧ Hle H14 H') ?_ ?_
       ·rintro p35 _ _ H36 ⟨rfl, rfl, hle37⟩
        refine Zao rfl (fun h38 => ?_) (fun h38 => ?_)
        ·refine Zae <| Zaa <| Zad rfl <| Zad rfl ?_
         refine Zax ((decide ((⟨0, x0.A, x0.B, 0, 0, 0⟩ : Node) = (⟨0, 0, 0, 0, 0, 0⟩ : Node))) && x0.M == 0) (fun h39 => ?_) (fun h39 => ?_)
         ·refine Zaf rfl rfl h39 <| o_fa rfl <| Zaf rfl rfl h39 <| o_ld 0 rfl rfl rfl <| Zaf rfl rfl h39 <| o_eq rfl rfl <| Zan rfl h39 rfl <| Zad rfl ?_
          refine Zax (x0.V == 0) (fun h40 => ?_) (fun h40 => ?_)
          ·refine Zaf rfl rfl h40 <| o_fa rfl <| Zaf rfl rfl h40 <| o_ld 0 rfl rfl rfl <| Zaf rfl rfl h40 ?_
           refine s_bg fun y41 h42 => ?_
           refine Zas rfl rfl (ZbF k _ x0.N 0 4 h42) ?_
           refine Zan rfl h40 rfl <| Zah rfl <| Zac ?_
           exact s_r1 2 (.bool y41) Zef ⟨rfl, rfl⟩
          ·refine Zab rfl rfl h40 <| Zab rfl rfl h40 <| Zab rfl rfl h40 <| Zal rfl h40 rfl <| Zah rfl <| Zac ?_
           exact s_r1 2 (.bool false) Zef ⟨rfl, rfl⟩
         ·refine Zab rfl rfl h39 <| Zab rfl rfl h39 <| Zab rfl rfl h39 <| Zal rfl h39 rfl <| Zad rfl <| Zab rfl rfl rfl <| Zab rfl rfl rfl <| Zab rfl rfl rfl <| Zal rfl rfl rfl <| Zah rfl <| Zac ?_
          exact s_r1 2 (.bool false) Zef ⟨rfl, rfl⟩
        ·refine Zae <| Zaa <| o_eq rfl rfl <| Zah rfl <| Zac ?_
         refine Zao rfl (fun h43 => ?_) (fun h43 => ?_)
         ·refine Zae <| Zaa <| Zad rfl <| Zad rfl ?_
          refine Zax ((decide ((⟨0, x0.A, x0.B, 0, 0, 0⟩ : Node) = (⟨0, 0, 0, 0, 0, 0⟩ : Node))) && x0.M == 0) (fun h44 => ?_) (fun h44 => ?_)
          ·refine Zaf rfl rfl h44 <| o_fa rfl <| Zaf rfl rfl h44 <| o_ld 0 rfl rfl rfl <| Zaf rfl rfl h44 ?_
           refine s_bg fun y45 h46 => ?_
           refine Zas rfl rfl (ZbF k _ x0.N 0 2 h46) ?_
           refine Zan rfl h44 rfl <| Zad rfl ?_
           refine Zax y45 (fun h47 => ?_) (fun h47 => ?_)
           ·refine Zaf rfl rfl h47 <| o_fa rfl <| Zaf rfl rfl h47 <| o_ld 0 rfl rfl rfl <| Zaf rfl rfl h47 ?_
            refine s_bg fun y48 h49 => ?_
            refine Zas rfl rfl (ZbF k _ x0.V 0 255 h49) ?_
            refine Zan rfl h47 rfl <| Zah rfl <| Zac ?_
            exact s_r1 2 (.bool y48) Zef ⟨rfl, rfl⟩
           ·refine Zab rfl rfl h47 <| Zab rfl rfl h47 <| Zab rfl rfl h47 <| Zal rfl h47 rfl <| Zah rfl <| Zac ?_
            exact s_r1 2 (.bool false) Zef ⟨rfl, rfl⟩
          ·refine Zab rfl rfl h44 <| Zab rfl rfl h44 <| Zab rfl rfl h44 <| Zal rfl h44 rfl <| Zad rfl <| Zab rfl rfl rfl <| Zab rfl rfl rfl <| Zab rfl rfl rfl <| Zal rfl rfl rfl <| Zah rfl <| Zac ?_
           exact s_r1 2 (.bool false) Zef ⟨rfl, rfl⟩
         ·refine Zar <| Zav <| Zae <| Zaa <| Zah rfl <| Zac ?_
          exact s_r1 2 (.bool false) Zef ⟨rfl, rfl⟩
       ·intro J50
        refine Zao rfl (fun h51 => ?_) (fun h51 => ?_)
        ·refine Zar ?_
         exact Zag (by exact ⟨rfl, rfl, rfl, rfl, trivial⟩) (Zam (by exact (.cons_cons _ (.cons _ .slnil))) (J50 (x0.Kind == 5) _ _ _ ⟨rfl, rfl, .refl _⟩))
        ·refine Zaa <| o_eq rfl rfl <| Zah rfl <| Zac ?_
         exact Zag (by exact ⟨rfl, rfl, rfl, rfl, trivial⟩) (Zam (by exact (.cons_cons _ (.cons _ .slnil))) (J50 (x0.Kind == 7) _ _ _ ⟨rfl, rfl, .refl _⟩))
   ·intro J52
    refine Zao rfl (fun h53 => ?_) (fun h53 => ?_)
    ·refine Zar ?_
     exact Zag (by exact ⟨rfl, rfl, rfl, rfl, rfl, trivial⟩) (Zam (by exact (.cons_cons _ (.cons_cons _ .slnil))) (J52 (x0.Kind == 1) _ _ _ ⟨rfl, rfl, .refl _⟩))
    ·refine Zaa <| o_eq rfl rfl <| Zah rfl <| Zac ?_
     exact Zag (by exact ⟨rfl, rfl, rfl, rfl, rfl, trivial⟩) (Zam (by exact (.cons_cons _ (.cons_cons _ .slnil))) (J52 (x0.Kind == 2) _ _ _ ⟨rfl, rfl, .refl _⟩))
  ·intro J54
   refine o_ld 1 rfl rfl rfl ?_
   refine Zdx rfl rfl ?_
   refine ZfV (⟨0, x0.A, x0.B, 0, 0, 0⟩ : Node) (⟨0, 0, 0, 0, 0, 0⟩ : Node) rfl rfl ?_
   refine Zad rfl ?_
   refine Zcw (decide ((⟨0, x0.A, x0.B, 0, 0, 0⟩ : Node) = (⟨0, 0, 0, 0, 0, 0⟩ : Node))) (fun h55 => ?_) (fun h55 => ?_)
   ·refine Zaf rfl rfl h55 <| o_fa rfl <| Zaf rfl rfl h55 <| o_ld 0 rfl rfl rfl <| Zaf rfl rfl h55 <| o_eq rfl rfl <| Zan rfl h55 rfl <| Zah rfl ?_
    exact Zag (by exact ⟨rfl, rfl, lkb rfl (by first | simp only [h55, Bool.true_and, Bool.and_true, Bool.false_and, Bool.and_false, Bool.true_or, Bool.false_or, Bool.or_true, Bool.or_false, Bool.not_true, Bool.not_false] | simp [h55]), trivial⟩) (Zam (by exact (.cons_cons _ (.cons_cons _ .slnil))) J54)
   ·refine Zab rfl rfl h55 <| Zab rfl rfl h55 <| Zab rfl rfl h55 <| Zal rfl h55 rfl <| Zah rfl ?_
    exact Zag (by exact ⟨rfl, rfl, lkb rfl (by first | simp only [h55, Bool.true_and, Bool.and_true, Bool.false_and, Bool.and_false, Bool.true_or, Bool.false_or, Bool.or_true, Bool.or_false, Bool.not_true, Bool.not_false] | simp [h55]), trivial⟩) (Zam (by exact (.cons_cons _ (.cons_cons _ .slnil))) J54)
def Zb4 (k : Nat) (s26 : (List Bool) × Int) (y60 : (List Int)) : Nat → (List Bool) × Int → Option ((List Bool))
 | 0, _ => none
 | q83 + 1, s78 =>
  if (decide (s78.2 < (y60.length : Int))) = true then
   (rd y60 s78.2).bind fun y90 =>
   (rd s78.1 s26.2).bind fun y95 =>
   if (y95) = true then
    (rd s78.1 y90).bind fun y103 =>
    (rd s78.1 s26.2).bind fun y110 =>
    Zb4 k s26 y60 q83 ((s78.1.set (s26.2 : Int).toNat y103), w64 (s78.2 + 1))
   else
    (rd s78.1 s26.2).bind fun y119 =>
    Zb4 k s26 y60 q83 ((s78.1.set (s26.2 : Int).toNat false), w64 (s78.2 + 1))
  else
   some s78.1
def Zcg (k : Nat) (y8 : (List Node)) : Nat → (List Bool) × Int → Option ((List Bool))
 | 0, _ => none
 | q31 + 1, s26 =>
  if (decide (s26.2 < (y8.length : Int))) = true then
   (rd y8 s26.2).bind fun y37 =>
   ((Zbu k y37.Kind 1 5).bind fun y129 =>
    if (y129) = true then
     (rd s26.1 s26.2).bind fun y132 =>
     some (s26.1.set (s26.2 : Int).toNat true)
    else
     (ZcW k y37.Kind).bind fun y141 =>
     if (decide (y141 > 0)) = true then
      (Zc1 k y37 s26.2).bind fun y144 =>
      (rd s26.1 s26.2).bind fun y146 =>
      some (s26.1.set (s26.2 : Int).toNat y144)
     else
      (rd s26.1 s26.2).bind fun y155 =>
      some (s26.1.set (s26.2 : Int).toNat false)).bind fun p44 =>
   (rd p44 s26.2).bind fun y52 =>
   if (!y52) = true then
    Zcg k y8 q31 (p44, w64 (s26.2 + 1))
   else
    (Zcl k y37).bind fun y60 =>
    (Zb4 k s26 y60 k (p44, 0)).bind fun p69 =>
    Zcg k y8 q31 (p69, w64 (s26.2 + 1))
  else
   some s26.1
def ZdQ (k : Nat) (x0 : (List Node)) (x1 : Int) : Option Bool :=
 if (((decide (x1 < 0)) || decide (x1 ≥ (x0.length : Int)))) = true then
  some false
 else
  (mks (w64 (x1 + 1)) (false : Bool)).bind fun _ =>
  (slc x0 0 (w64 (x1 + 1))).bind fun y8 =>
  (Zcg k y8 k ((List.replicate (w64 (x1 + 1) : Int).toNat (false : Bool)), 0)).bind fun p11 =>
  (rd p11 x1).bind fun y18 =>
  some y18
theorem ZmN : Tryz.prog.funcs[85]? = some Tryz.f85 := by kernel_rfl
theorem ZgJ (k : Nat) (H : Heap) (x0 : (List Node)) (a0_0 : Option Addr) (c0_0 : Nat) (hx0_0 : RSl H a0_0 c0_0 x0) (x1 : Int) {r : Bool} (hr : ZdQ k x0 x1 = some r) :
  Fn Tryz.prog 85 [.slice a0_0 x0.length c0_0, .int .i64 x1] H [] fun H' v out => v = .bool r ∧ out = [] := by
 refine Zaq (args := [.slice a0_0 x0.length c0_0, .int .i64 x1]) (n := 79) (Φ := fun r H' v out => v = .bool r ∧ out = []) hr ZmN rfl rfl rfl fun w => ?_
 refine s_eq (by rw [ZdQ]) ?_
 refine Zae <| Zaa <| Zah rfl <| Zac <| Zae <| Zae <| Zaa ?_
 refine Zfs [(0, .slice a0_0 x0.length c0_0), (1, .int .i64 x1), (17, .bool ((decide (x1 < 0)) || decide (x1 ≥ (x0.length : Int))))] [] ?_ ?_
 ·refine Zao rfl (fun h1 => ?_) (fun h1 => ?_)
  ·refine Zae <| Zaa <| Zah rfl <| Zac ?_
   exact s_r1 4 (.bool false) ZmN ⟨rfl, rfl⟩
  ·refine Zar <| Zae <| Zaa <| Zad rfl <| ZbM rfl rfl ?_
   refine Zk1 (z := (false : Bool)) (zc := [.bool false]) rfl rfl (fun _ => ⟨.bool false, by kernel_rfl, rfl⟩) rfl fun b2 h3 hA4 => ?_
   refine Zah rfl <| Zac <| Zae <| Zae <| Zaa <| Zad rfl <| Zad rfl <| ZbM rfl rfl ?_
   refine o_sl hx0_0 rfl rfl ⟨_, rfl⟩ fun a6 c7 y8 h9 hs10 => ?_
   refine ZaG rfl <| Zad rfl <| Zac ?_
   refine Zb3 (fun p11 env own H' => ∃ a12 c13 ls14, env = [(1, .int .i64 x1), (5, .slice a12 p11.length c13)] ∧ own = [.osl (.slice a12 p11.length c13) 1 4 ls14] ∧ Hle H H' ∧ All2 (GoT.rep H') ls14 p11) ?_ ?_
   ·rintro p11 _ _ H16 ⟨a12, c13, ls14, rfl, rfl, hle17, hA15⟩
    refine Zae <| Zaa <| Zad rfl <| Zad rfl ?_
    refine Zc2 0 rfl hA15 rfl rfl fun y18 bk20 vs21 h19 ha22 hi23 hr24 => ?_
    subst hr24
    subst ha22
    refine ZdL 0 0 rfl hi23 rfl rfl rfl ?_
    refine Zah rfl <| Zac ?_
    exact s_r1 4 (.bool y18) ZmN ⟨rfl, rfl⟩
   ·intro J25
    refine Zat ?_
    refine Zag (env' := [(1, .int .i64 x1), (5, .slice (some ⟨b2, 0, none⟩) (List.replicate (w64 (x1 + 1) : Int).toNat (false : Bool)).length (w64 (x1 + 1) : Int).toNat), (24, .slice a6 y8.length c7), (25, .int .i64 (y8.length : Int)), (26, .int .i64 0)]) (by exact ⟨rfl, rfl, rfl, rfl, rfl, trivial⟩) ?_
    refine Zam (own' := [.osl (.slice (some ⟨b2, 0, none⟩) (List.replicate (w64 (x1 + 1) : Int).toNat (false : Bool)).length (w64 (x1 + 1) : Int).toNat) 1 4 _]) (.cons_cons _ .slnil) ?_
    refine Za2 (fun q s26 => Zcg k y8 q s26) (fun s26 env own H' => ∃ a27 c28 ls29, env = [(1, .int .i64 x1), (5, .slice a27 s26.1.length c28), (24, .slice a6 y8.length c7), (25, .int .i64 (y8.length : Int)), (26, .int .i64 s26.2)] ∧ own = [.osl (.slice a27 s26.1.length c28) 1 4 ls29] ∧ Hle H H' ∧ All2 (GoT.rep H') ls29 s26.1) (fun _ => rfl) ?_ k ((List.replicate (w64 (x1 + 1) : Int).toNat (false : Bool)), 0) ⟨_, _, _, rfl, rfl, .refl _, hA4⟩
    rintro q31 ih32 s26 _ _ H33 ⟨a27, c28, ls29, rfl, rfl, hle34, hA30⟩
    refine s_eq (by rw [Zcg]) ?_
    have hs35 := RSl.mono hle34 hs10
    refine Zae <| Zaa <| o_lt rfl rfl <| Zac <| Zae ?_
    refine Zao rfl (fun h36 => ?_) (fun h36 => ?_)
    ·refine Zar <| Zae <| Zat <| Zae <| Zaa <| Zad rfl ?_
     refine Zce hs35 rfl rfl fun y37 bk39 of40 h38 hc41 => ?_
     refine ZaP 0 hc41 rfl rfl rfl ?_
     refine Zbw fun b42 => ?_
     refine Zah rfl ?_
     refine o_st 1 rfl rfl rfl rfl rfl rfl ?_
     refine Zac <| Zae <| Zaa ?_
     refine ZeI (fun p44 env own H' => ∃ a45 c46 ls47, env = [(1, .int .i64 x1), (5, .slice a45 p44.length c46), (6, .int .i64 s26.2), (7, .pointer (some ⟨b42, 0, none⟩)), (24, .slice a6 y8.length c7), (25, .int .i64 (y8.length : Int)), (26, .int .i64 s26.2)] ∧ own = [.osl (.slice a45 p44.length c46) 1 4 ls47, .blk b42 (Zak (cN y37) 38)] ∧ Hle H33 H' ∧ All2 (GoT.rep H') ls47 p44) ?_ ?_
     ·rintro p44 _ _ H49 ⟨a45, c46, ls47, rfl, rfl, hle50, hA48⟩
      refine Zae <| Zae <| Zaa <| Zad rfl <| Zad rfl ?_
      refine Zc2 0 rfl hA48 rfl rfl fun y52 bk54 vs55 h53 ha56 hi57 hr58 => ?_
      subst hr58
      subst ha56
      refine ZdL 0 0 rfl hi57 rfl rfl rfl ?_
      refine Zdc rfl <| Zac ?_
      refine Zao rfl (fun h59 => ?_) (fun h59 => ?_)
      ·refine Zbf rfl <| Zaa <| ZbM rfl rfl <| Zad rfl <| Zac ?_
       exact Zag (by exact ⟨rfl, rfl, rfl, rfl, rfl, trivial⟩) (Zam (by exact (.cons_cons _ (.cons _ .slnil))) (ih32 (p44, w64 (s26.2 + 1)) _ _ _ ⟨_, _, _, rfl, rfl, (Hle.trans hle34 hle50), hA48⟩))
      ·refine Zar <| Zae <| Zaa <| o_ld 1 rfl rfl rfl ?_
       refine s_bg fun y60 h61 => ?_
       refine Zbg [] _ rfl rfl (.refl _) (Zdo k _ y37 h61) ?_
       rintro _ H65 _ hle66 ⟨a62, c63, rfl, rfl, hs64⟩
       have hA68 := All2.mono (fun _ _ => GoT.mono hle66) hA48
       refine ZcG <| ZaG rfl <| Zad rfl <| Zac ?_
       refine Zb3 (fun p69 env own H' => ∃ a70 c71 ls72, env = [(1, .int .i64 x1), (5, .slice a70 p69.length c71), (24, .slice a6 y8.length c7), (25, .int .i64 (y8.length : Int)), (26, .int .i64 s26.2)] ∧ own = [.osl (.slice a70 p69.length c71) 1 4 ls72] ∧ Hle H65 H' ∧ All2 (GoT.rep H') ls72 p69) ?_ ?_
       ·rintro p69 _ _ H74 ⟨a70, c71, ls72, rfl, rfl, hle75, hA73⟩
        refine Zav <| Zaa <| ZbM rfl rfl <| Zad rfl <| Zac ?_
        exact Zag (by exact ⟨rfl, rfl, rfl, rfl, rfl, trivial⟩) (Zam (by exact (.cons_cons _ .slnil)) (ih32 (p69, w64 (s26.2 + 1)) _ _ _ ⟨_, _, _, rfl, rfl, (Hle.trans (Hle.trans (Hle.trans hle34 hle50) hle66) hle75), hA73⟩))
       ·intro J77
        refine Zat ?_
        refine Zag (env' := [(1, .int .i64 x1), (5, .slice (some ⟨bk54, 0, none⟩) p44.length c46), (6, .int .i64 s26.2), (24, .slice a6 y8.length c7), (25, .int .i64 (y8.length : Int)), (26, .int .i64 s26.2), (54, .slice a62 y60.length c63), (55, .int .i64 (y60.length : Int)), (56, .int .i64 0)]) (by exact ⟨rfl, rfl, rfl, rfl, rfl, rfl, rfl, rfl, rfl, trivial⟩) ?_
        refine Zam (own' := [.osl (.slice (some ⟨bk54, 0, none⟩) p44.length c46) 1 4 ls47]) (.cons_cons _ (.cons _ .slnil)) ?_
        refine Za2 (fun q s78 => Zb4 k s26 y60 q s78) (fun s78 env own H' => ∃ a79 c80 ls81, env = [(1, .int .i64 x1), (5, .slice a79 s78.1.length c80), (6, .int .i64 s26.2), (24, .slice a6 y8.length c7), (25, .int .i64 (y8.length : Int)), (26, .int .i64 s26.2), (54, .slice a62 y60.length c63), (55, .int .i64 (y60.length : Int)), (56, .int .i64 s78.2)] ∧ own = [.osl (.slice a79 s78.1.length c80) 1 4 ls81] ∧ Hle H65 H' ∧ All2 (GoT.rep H') ls81 s78.1) (fun _ => rfl) ?_ k (p44, 0) ⟨_, _, _, rfl, rfl, .refl _, hA68⟩
        rintro q83 ih84 s78 _ _ H85 ⟨a79, c80, ls81, rfl, rfl, hle86, hA82⟩
        refine s_eq (by rw [Zb4]) ?_
        have hs88 := RSl.mono hle86 hs64
        refine Zae <| Zaa <| o_lt rfl rfl <| Zac <| Zae ?_
        refine Zao rfl (fun h89 => ?_) (fun h89 => ?_)
        ·refine Zar <| Zae <| Zat <| Zae <| Zaa ?_
         refine Zce hs88 rfl rfl fun y90 bk92 of93 h91 hc94 => ?_
         refine ZaP 0 hc94 rfl rfl rfl ?_
         refine Zah rfl <| Zac <| Zaa <| Zad rfl <| Zad rfl <| Zad rfl <| Zad rfl ?_
         refine Zc2 0 rfl hA82 rfl rfl fun y95 bk97 vs98 h96 ha99 hi100 hr101 => ?_
         subst hr101
         subst ha99
         refine ZdL 0 0 rfl hi100 rfl rfl rfl ?_
         refine Zad rfl ?_
         refine Zax y95 (fun h102 => ?_) (fun h102 => ?_)
         ·refine Zaf rfl rfl h102 <| Zad rfl <| Zaf rfl rfl h102 <| Zad rfl <| Zaf rfl rfl h102 ?_
          refine Zc2 0 rfl hA82 rfl rfl fun y103 bk105 vs106 h104 ha107 hi108 hr109 => ?_
          subst hr109
          obtain rfl := s_bk ha107
          refine Zaf rfl rfl h102 ?_
          refine ZdL 0 0 rfl hi108 rfl rfl rfl ?_
          refine Zan rfl h102 rfl ?_
          refine Zc2 0 rfl hA82 rfl rfl fun y110 bk112 vs113 h111 ha114 hi115 hr116 => ?_
          subst hr116
          obtain rfl := s_bk ha114
          refine ZgL (l := s78.1) (ci := s26.2) 0 0 rfl hA82 hi115 rfl rfl rfl rfl rfl rfl y103 (rfl) fun ls117 hA118 => ?_
          refine Zag (env' := [(1, .int .i64 x1), (5, .slice (some ⟨bk97, 0, none⟩) (s78.1.set (s26.2 : Int).toNat y103).length c80), (6, .int .i64 s26.2), (24, .slice a6 y8.length c7), (25, .int .i64 (y8.length : Int)), (26, .int .i64 s26.2), (54, .slice a62 y60.length c63), (55, .int .i64 (y60.length : Int)), (56, .int .i64 s78.2), (57, .bool (decide (s78.2 < (y60.length : Int)))), (58, .pointer (some ⟨bk92, of93, none⟩)), (59, .int .i64 y90), (9, .int .i64 y90), (60, .slice (some ⟨bk97, 0, none⟩) (s78.1.set (s26.2 : Int).toNat y103).length c80), (61, .int .i64 s26.2), (62, .slice (some ⟨bk97, 0, none⟩) (s78.1.set (s26.2 : Int).toNat y103).length c80), (63, .int .i64 s26.2), (65, .bool y95), (66, .bool y95), (67, .slice (some ⟨bk97, 0, none⟩) (s78.1.set (s26.2 : Int).toNat y103).length c80), (68, .int .i64 y90), (70, .bool y103), (71, .bool y103)]) (by exact ⟨rfl, (by first | (simp only [List.length_set]; rfl) | rfl), rfl, rfl, rfl, rfl, rfl, rfl, rfl, rfl, rfl, rfl, rfl, (by first | (simp only [List.length_set]; rfl) | rfl), rfl, (by first | (simp only [List.length_set]; rfl) | rfl), rfl, rfl, rfl, (by first | (simp only [List.length_set]; rfl) | rfl), rfl, rfl, rfl, trivial⟩) ?_
          refine ZbL (own' := [.osl (.slice (some ⟨bk97, 0, none⟩) (s78.1.set (s26.2 : Int).toNat y103).length c80) 1 4 ls117]) (by first | (simp only [List.length_set]; done) | (simp only [List.length_set]; rfl) | rfl) ?_
          refine Zac <| Zav <| Zaa <| ZbM rfl rfl <| Zad rfl <| Zac ?_
          exact Zag (by exact ⟨rfl, rfl, rfl, rfl, rfl, rfl, rfl, rfl, rfl, trivial⟩) (Zam (by exact (.cons_cons _ .slnil)) (ih84 ((s78.1.set (s26.2 : Int).toNat y103), w64 (s78.2 + 1)) _ _ _ ⟨_, _, _, rfl, rfl, hle86, hA118⟩))
         ·refine Zab rfl rfl h102 <| Zab rfl rfl h102 <| Zab rfl rfl h102 <| Zab rfl rfl h102 <| Zal rfl h102 rfl ?_
          refine Zc2 0 rfl hA82 rfl rfl fun y119 bk121 vs122 h120 ha123 hi124 hr125 => ?_
          subst hr125
          obtain rfl := s_bk ha123
          refine ZgL (l := s78.1) (ci := s26.2) 0 0 rfl hA82 hi124 rfl rfl rfl rfl rfl rfl false (rfl) fun ls126 hA127 => ?_
          refine Zag (env' := [(1, .int .i64 x1), (5, .slice (some ⟨bk97, 0, none⟩) (s78.1.set (s26.2 : Int).toNat false).length c80), (6, .int .i64 s26.2), (24, .slice a6 y8.length c7), (25, .int .i64 (y8.length : Int)), (26, .int .i64 s26.2), (54, .slice a62 y60.length c63), (55, .int .i64 (y60.length : Int)), (56, .int .i64 s78.2), (57, .bool (decide (s78.2 < (y60.length : Int)))), (58, .pointer (some ⟨bk92, of93, none⟩)), (59, .int .i64 y90), (9, .int .i64 y90), (60, .slice (some ⟨bk97, 0, none⟩) (s78.1.set (s26.2 : Int).toNat false).length c80), (61, .int .i64 s26.2), (62, .slice (some ⟨bk97, 0, none⟩) (s78.1.set (s26.2 : Int).toNat false).length c80), (63, .int .i64 s26.2), (65, .bool y95), (66, .bool y95), (67, undef), (68, undef), (69, undef), (70, undef), (71, .bool false)]) (by exact ⟨rfl, (by first | (simp only [List.length_set]; rfl) | rfl), rfl, rfl, rfl, rfl, rfl, rfl, rfl, rfl, rfl, rfl, rfl, (by first | (simp only [List.length_set]; rfl) | rfl), rfl, (by first | (simp only [List.length_set]; rfl) | rfl), rfl, rfl, rfl, rfl, rfl, rfl, rfl, rfl, trivial⟩) ?_
          refine ZbL (own' := [.osl (.slice (some ⟨bk97, 0, none⟩) (s78.1.set (s26.2 : Int).toNat false).length c80) 1 4 ls126]) (by first | (simp only [List.length_set]; done) | (simp only [List.length_set]; rfl) | rfl) ?_
          refine Zac <| Zav <| Zaa <| ZbM rfl rfl <| Zad rfl <| Zac ?_
          exact Zag (by exact ⟨rfl, rfl, rfl, rfl, rfl, rfl, rfl, rfl, rfl, trivial⟩) (Zam (by exact (.cons_cons _ .slnil)) (ih84 ((s78.1.set (s26.2 : Int).toNat false), w64 (s78.2 + 1)) _ _ _ ⟨_, _, _, rfl, rfl, hle86, hA127⟩))
        ·refine Zbf rfl ?_
         exact Zag (by exact ⟨rfl, rfl, rfl, rfl, rfl, trivial⟩) (Zam (by exact (.cons_cons _ .slnil)) (J77 s78.1 _ _ _ ⟨_, _, _, rfl, rfl, hle86, hA82⟩))
     ·intro J128
      refine Zad rfl <| Zad rfl <| o_fa rfl <| o_ld 1 rfl rfl rfl ?_
      refine s_bg fun y129 h130 => ?_
      refine Zas rfl rfl (ZbF k _ y37.Kind 1 5 h130) ?_
      refine Zad rfl ?_
      refine Zax y129 (fun h131 => ?_) (fun h131 => ?_)
      ·refine Zab rfl rfl h131 <| Zab rfl rfl h131 <| Zab rfl rfl h131 <| Zab rfl rfl h131 <| Zab rfl rfl h131 <| ZaA rfl rfl <| ZaA rfl rfl <| ZaA rfl rfl <| Zab rfl rfl h131 <| Zan rfl h131 rfl ?_
       refine Zc2 0 rfl hA30 rfl rfl fun y132 bk134 vs135 h133 ha136 hi137 hr138 => ?_
       subst hr138
       subst ha136
       refine ZgL (l := s26.1) (ci := s26.2) 0 0 rfl hA30 hi137 rfl rfl rfl rfl rfl rfl true (rfl) fun ls139 hA140 => ?_
       refine Zag (env' := [(1, .int .i64 x1), (5, .slice (some ⟨bk134, 0, none⟩) (s26.1.set (s26.2 : Int).toNat true).length c28), (24, .slice a6 y8.length c7), (25, .int .i64 (y8.length : Int)), (26, .int .i64 s26.2), (27, .bool (decide (s26.2 < (y8.length : Int)))), (28, .int .i64 s26.2), (29, .pointer (some ⟨bk39, of40, none⟩)), (30, (aN y37)), (7, .pointer (some ⟨b42, 0, none⟩)), (6, .int .i64 s26.2), (31, .slice (some ⟨bk134, 0, none⟩) (s26.1.set (s26.2 : Int).toNat true).length c28), (32, .int .i64 s26.2), (33, .pointer (some ⟨b42, 0, none⟩)), (34, .int .i64 y37.Kind), (35, .bool y129), (36, .bool y129), (37, undef), (38, undef), (39, undef), (40, undef), (41, undef), (42, undef), (43, undef), (44, undef), (45, undef), (46, .bool true)]) (by exact ⟨rfl, (by first | (simp only [List.length_set]; rfl) | rfl), rfl, rfl, rfl, rfl, rfl, rfl, rfl, rfl, rfl, (by first | (simp only [List.length_set]; rfl) | rfl), rfl, rfl, rfl, rfl, rfl, rfl, rfl, rfl, rfl, rfl, rfl, rfl, rfl, rfl, rfl, trivial⟩) ?_
       refine ZbL (own' := [.osl (.slice (some ⟨bk134, 0, none⟩) (s26.1.set (s26.2 : Int).toNat true).length c28) 1 4 ls139, .blk b42 (Zak (cN y37) 38)]) (by first | (simp only [List.length_set]; done) | (simp only [List.length_set]; rfl) | rfl) ?_
       exact Zag (by exact ⟨rfl, rfl, rfl, rfl, rfl, rfl, rfl, trivial⟩) (Zam (by exact (.cons_cons _ (.cons_cons _ .slnil))) (J128 (s26.1.set (s26.2 : Int).toNat true) _ _ _ ⟨_, _, _, rfl, rfl, .refl _, hA140⟩))
      ·refine Zaf rfl rfl h131 <| o_fa rfl <| Zaf rfl rfl h131 <| o_ld 1 rfl rfl rfl <| Zaf rfl rfl h131 ?_
       refine s_bg fun y141 h142 => ?_
       refine Zas rfl rfl (Zd5 k _ y37.Kind h142) ?_
       refine Zaf rfl rfl h131 <| o_gt rfl rfl <| Zaf rfl rfl h131 <| Zad rfl ?_
       refine Zax (decide (y141 > 0)) (fun h143 => ?_) (fun h143 => ?_)
       ·refine Zaf rfl rfl h143 <| o_ld 1 rfl rfl rfl <| Zaf rfl rfl h143 <| Zad rfl <| Zaf rfl rfl h143 ?_
        refine s_bg fun y144 h145 => ?_
        refine Zas rfl rfl (Zex k _ y37 s26.2 h145) ?_
        refine Zaf rfl rfl h131 <| Zan rfl h143 rfl <| Zal rfl h131 rfl ?_
        refine Zc2 0 rfl hA30 rfl rfl fun y146 bk148 vs149 h147 ha150 hi151 hr152 => ?_
        subst hr152
        subst ha150
        refine ZgL (l := s26.1) (ci := s26.2) 0 0 rfl hA30 hi151 rfl rfl rfl rfl rfl rfl y144 (rfl) fun ls153 hA154 => ?_
        refine Zag (env' := [(1, .int .i64 x1), (5, .slice (some ⟨bk148, 0, none⟩) (s26.1.set (s26.2 : Int).toNat y144).length c28), (24, .slice a6 y8.length c7), (25, .int .i64 (y8.length : Int)), (26, .int .i64 s26.2), (27, .bool (decide (s26.2 < (y8.length : Int)))), (28, .int .i64 s26.2), (29, .pointer (some ⟨bk39, of40, none⟩)), (30, (aN y37)), (7, .pointer (some ⟨b42, 0, none⟩)), (6, .int .i64 s26.2), (31, .slice (some ⟨bk148, 0, none⟩) (s26.1.set (s26.2 : Int).toNat y144).length c28), (32, .int .i64 s26.2), (33, .pointer (some ⟨b42, 0, none⟩)), (34, .int .i64 y37.Kind), (35, .bool y129), (36, .bool y129), (37, .pointer (some ⟨b42, 0, none⟩)), (38, .int .i64 y37.Kind), (39, .int .i64 y141), (40, .bool (decide (y141 > 0))), (41, .bool (decide (y141 > 0))), (42, (aN y37)), (43, .int .i64 s26.2), (44, .bool y144), (45, .bool y144), (46, .bool y144)]) (by exact ⟨rfl, (by first | (simp only [List.length_set]; rfl) | rfl), rfl, rfl, rfl, rfl, rfl, rfl, rfl, rfl, rfl, (by first | (simp only [List.length_set]; rfl) | rfl), rfl, rfl, rfl, rfl, rfl, rfl, rfl, rfl, rfl, rfl, rfl, rfl, rfl, rfl, rfl, trivial⟩) ?_
        refine ZbL (own' := [.osl (.slice (some ⟨bk148, 0, none⟩) (s26.1.set (s26.2 : Int).toNat y144).length c28) 1 4 ls153, .blk b42 (Zak (cN y37) 38)]) (by first | (simp only [List.length_set]; done) | (simp only [List.length_set]; rfl) | rfl) ?_
        exact Zag (by exact ⟨rfl, rfl, rfl, rfl, rfl, rfl, rfl, trivial⟩) (Zam (by exact (.cons_cons _ (.cons_cons _ .slnil))) (J128 (s26.1.set (s26.2 : Int).toNat y144) _ _ _ ⟨_, _, _, rfl, rfl, .refl _, hA154⟩))
       ·refine Zab rfl rfl h143 <| Zab rfl rfl h143 <| Zab rfl rfl h143 <| Zaf rfl rfl h131 <| Zal rfl h143 rfl <| Zal rfl h131 rfl ?_
        refine Zc2 0 rfl hA30 rfl rfl fun y155 bk157 vs158 h156 ha159 hi160 hr161 => ?_
        subst hr161
        subst ha159
        refine ZgL (l := s26.1) (ci := s26.2) 0 0 rfl hA30 hi160 rfl rfl rfl rfl rfl rfl false (rfl) fun ls162 hA163 => ?_
        refine Zag (env' := [(1, .int .i64 x1), (5, .slice (some ⟨bk157, 0, none⟩) (s26.1.set (s26.2 : Int).toNat false).length c28), (24, .slice a6 y8.length c7), (25, .int .i64 (y8.length : Int)), (26, .int .i64 s26.2), (27, .bool (decide (s26.2 < (y8.length : Int)))), (28, .int .i64 s26.2), (29, .pointer (some ⟨bk39, of40, none⟩)), (30, (aN y37)), (7, .pointer (some ⟨b42, 0, none⟩)), (6, .int .i64 s26.2), (31, .slice (some ⟨bk157, 0, none⟩) (s26.1.set (s26.2 : Int).toNat false).length c28), (32, .int .i64 s26.2), (33, .pointer (some ⟨b42, 0, none⟩)), (34, .int .i64 y37.Kind), (35, .bool y129), (36, .bool y129), (37, .pointer (some ⟨b42, 0, none⟩)), (38, .int .i64 y37.Kind), (39, .int .i64 y141), (40, .bool (decide (y141 > 0))), (41, .bool (decide (y141 > 0))), (42, undef), (43, undef), (44, undef), (45, .bool false), (46, .bool false)]) (by exact ⟨rfl, (by first | (simp only [List.length_set]; rfl) | rfl), rfl, rfl, rfl, rfl, rfl, rfl, rfl, rfl, rfl, (by first | (simp only [List.length_set]; rfl) | rfl), rfl, rfl, rfl, rfl, rfl, rfl, rfl, rfl, rfl, rfl, rfl, rfl, rfl, rfl, rfl, trivial⟩) ?_
        refine ZbL (own' := [.osl (.slice (some ⟨bk157, 0, none⟩) (s26.1.set (s26.2 : Int).toNat false).length c28) 1 4 ls162, .blk b42 (Zak (cN y37) 38)]) (by first | (simp only [List.length_set]; done) | (simp only [List.length_set]; rfl) | rfl) ?_
        exact Zag (by exact ⟨rfl, rfl, rfl, rfl, rfl, rfl, rfl, trivial⟩) (Zam (by exact (.cons_cons _ (.cons_cons _ .slnil))) (J128 (s26.1.set (s26.2 : Int).toNat false) _ _ _ ⟨_, _, _, rfl, rfl, .refl _, hA163⟩))
    ·refine Zbf rfl ?_
     exact Zag (by exact ⟨rfl, rfl, trivial⟩) (Zam (by exact (.cons_cons _ .slnil)) (J25 s26.1 _ _ _ ⟨_, _, _, rfl, rfl, hle34, hA30⟩))
 ·intro J164
  refine Zad rfl <| o_lt rfl rfl <| Zad rfl ?_
  refine Zcw (decide (x1 < 0)) (fun h165 => ?_) (fun h165 => ?_)
  ·refine Zab rfl rfl h165 <| Zab rfl rfl h165 <| Zab rfl rfl h165 <| Zab rfl rfl h165 <| Zan rfl h165 rfl ?_
   exact Zag (by exact ⟨rfl, rfl, lkb rfl (by first | simp only [h165, Bool.true_and, Bool.and_true, Bool.false_and, Bool.and_false, Bool.true_or, Bool.false_or, Bool.or_true, Bool.or_false, Bool.not_true, Bool.not_false] | simp [h165]), trivial⟩) (Zam (by exact .slnil) J164)
  ·refine Zaf rfl rfl h165 <| Zad rfl <| Zaf rfl rfl h165 <| Zad rfl <| Zaf rfl rfl h165 <| ZaG rfl <| Zaf rfl rfl h165 <| o_ge rfl rfl <| Zal rfl h165 rfl ?_
   exact Zag (by exact ⟨rfl, rfl, lkb rfl (by first | simp only [h165, Bool.true_and, Bool.and_true, Bool.false_and, Bool.and_false, Bool.true_or, Bool.false_or, Bool.or_true, Bool.or_false, Bool.not_true, Bool.not_false] | simp [h165]), trivial⟩) (Zam (by exact .slnil) J164)
def ZdE (k : Nat) (x0 : Int) : Option Bool :=
 some (x0 != 1)
theorem Znw : Tryz.prog.funcs[88]? = some Tryz.f88 := by kernel_rfl
theorem ZfT (k : Nat) (H : Heap) (x0 : Int) {r : Bool} (hr : ZdE k x0 = some r) :
  Fn Tryz.prog 88 [.int .i64 x0] H [] fun H' v out => v = .bool r ∧ out = [] := by
 refine Zaq (args := [.int .i64 x0]) (n := 5) (Φ := fun r H' v out => v = .bool r ∧ out = []) hr Znw rfl rfl rfl fun w => ?_
 refine s_eq (by rw [ZdE]) ?_
 refine Zae <| Zaa <| Zah rfl <| Zac <| Zae <| Zaa <| Zad rfl <| o_ne rfl rfl <| Zah rfl <| Zac ?_
 exact s_r1 2 (.bool (x0 != 1)) Znw ⟨rfl, rfl⟩
def slices_IndexFunc___int_int__at88_l0 (k : Nat) (x0 : (List Int)) : Nat → Int → Option (LX (Int) (Unit))
 | 0, _ => none
 | q6 + 1, s5 =>
  if (decide (s5 < (x0.length : Int))) = true then
   (rd x0 s5).bind fun y12 =>
   (ZdE k y12).bind fun y17 =>
   if (y17) = true then
    some (.ret s5)
   else
    slices_IndexFunc___int_int__at88_l0 k x0 q6 (w64 (s5 + 1))
  else
   some (.out ())
def Zbx (k : Nat) (x0 : (List Int)) : Option Int :=
 (slices_IndexFunc___int_int__at88_l0 k x0 k 0).bind (LX.go fun p1 =>
 some (-1))
theorem Zko : Tryz.prog.funcs[139]? = some Tryz.f139 := by kernel_rfl
theorem Zdi (k : Nat) (H : Heap) (x0 : (List Int)) (a0_0 : Option Addr) (c0_0 : Nat) (hx0_0 : RSl H a0_0 c0_0 x0) {r : Int} (hr : Zbx k x0 = some r) :
  Fn Tryz.prog 139 [.slice a0_0 x0.length c0_0, .func (.func 88) #[] #[]] H [] fun H' v out => v = .int .i64 r ∧ out = [] := by
 refine Zaq (args := [.slice a0_0 x0.length c0_0, .func (.func 88) #[] #[]]) (n := 19) (Φ := fun r H' v out => v = .int .i64 r ∧ out = []) hr Zko rfl rfl rfl fun w => ?_
 refine s_eq (by rw [Zbx]) ?_
 refine Zae <| Zaa <| Zah rfl <| Zac <| Zae <| Zae <| Zaa <| Zad rfl <| ZaG rfl <| Zad rfl <| Zac ?_
 refine ZbR (fun p1 env own H' => env = [] ∧ own = [] ∧ Hle H H') ?_ ?_
 ·rintro p1 _ _ H2 ⟨rfl, rfl, hle3⟩
  refine Zae <| Zaa <| Zah rfl <| Zac ?_
  exact s_r1 4 (.int .i64 (-1)) Zko ⟨rfl, rfl⟩
 ·intro J4
  refine Zat ?_
  refine Zag (env' := [(0, .slice a0_0 x0.length c0_0), (1, .func (.func 88) #[] #[]), (7, .int .i64 (x0.length : Int)), (8, .int .i64 0)]) (by exact ⟨rfl, rfl, rfl, rfl, trivial⟩) ?_
  refine Zam (own' := []) .slnil ?_
  refine Za2 (fun q s5 => slices_IndexFunc___int_int__at88_l0 k x0 q s5) (fun s5 env own H' => env = [(0, .slice a0_0 x0.length c0_0), (1, .func (.func 88) #[] #[]), (7, .int .i64 (x0.length : Int)), (8, .int .i64 s5)] ∧ own = [] ∧ Hle H H') (fun _ => rfl) ?_ k 0 ⟨rfl, rfl, .refl _⟩
  rintro q6 ih7 s5 _ _ H8 ⟨rfl, rfl, hle9⟩
  refine s_eq (by rw [slices_IndexFunc___int_int__at88_l0]) ?_
  have hs10 := RSl.mono hle9 hx0_0
  refine Zae <| Zaa <| o_lt rfl rfl <| Zac <| Zae ?_
  refine Zao rfl (fun h11 => ?_) (fun h11 => ?_)
  ·refine Zar <| Zae <| Zat <| Zae <| Zaa <| Zad rfl <| Zah rfl <| Zac <| Zae <| Zaa <| Zad rfl <| Zad rfl ?_
   refine Zad rfl ?_
   refine Zce hs10 rfl rfl fun y12 bk14 of15 h13 hc16 => ?_
   refine ZaP 0 hc16 rfl rfl rfl ?_
   refine s_bg fun y17 h18 => ?_
   refine Zas rfl rfl (ZfT k _ y12 h18) ?_
   refine Zac ?_
   refine Zao rfl (fun h19 => ?_) (fun h19 => ?_)
   ·refine Zae <| Zaa <| Zad rfl <| Zah rfl <| Zac <| ZbQ ?_
    exact s_r1 4 (.int .i64 s5) Zko ⟨rfl, rfl⟩
   ·refine Zar <| Zav <| Zaa <| ZbM rfl rfl <| Zad rfl <| Zac ?_
    exact Zag (by exact ⟨rfl, rfl, rfl, rfl, trivial⟩) (Zam (by exact .slnil) (ih7 (w64 (s5 + 1)) _ _ _ ⟨rfl, rfl, hle9⟩))
  ·refine Zbf rfl ?_
   exact Zag (by exact trivial) (Zam (by exact .slnil) (J4 () _ _ _ ⟨rfl, rfl, hle9⟩))
def ZaT (k : Nat) (x0 : (List Int)) : Option Bool :=
 (Zbx k x0).bind fun y1 =>
 some (decide (y1 ≥ 0))
theorem Znx : Tryz.prog.funcs[87]? = some Tryz.f87 := by kernel_rfl
theorem ZcZ (k : Nat) (H : Heap) (x0 : (List Int)) (a0_0 : Option Addr) (c0_0 : Nat) (hx0_0 : RSl H a0_0 c0_0 x0) {r : Bool} (hr : ZaT k x0 = some r) :
  Fn Tryz.prog 87 [.slice a0_0 x0.length c0_0, .func (.func 88) #[] #[]] H [] fun H' v out => v = .bool r ∧ out = [] := by
 refine Zaq (args := [.slice a0_0 x0.length c0_0, .func (.func 88) #[] #[]]) (n := 9) (Φ := fun r H' v out => v = .bool r ∧ out = []) hr Znx rfl rfl rfl fun w => ?_
 refine s_eq (by rw [ZaT]) ?_
 refine Zae <| Zaa <| Zah rfl <| Zac <| Zae <| Zaa <| Zad rfl <| Zad rfl ?_
 refine s_bg fun y1 h2 => ?_
 refine Zas rfl rfl (Zdi k _ x0 _ _ hx0_0 h2) ?_
 refine o_ge rfl rfl <| Zah rfl <| Zac ?_
 exact s_r1 4 (.bool (decide (y1 ≥ 0))) Znx ⟨rfl, rfl⟩
def Zcm (k : Nat) (s132 : (List Int) × (List Int) × Int × Int) (y161 : (List Int)) : Nat → (List Int) × (List Int) × Int → Option ((List Int) × (List Int))
 | 0, _ => none
 | q216 + 1, s207 =>
  if (decide (s207.2.2 < (y161.length : Int))) = true then
   (rd y161 s207.2.2).bind fun y223 =>
   (rd s207.2.1 y223).bind fun y228 =>
   (rd s207.2.1 y223).bind fun y235 =>
   (rd s207.1 s132.2.2.2).bind fun y244 =>
   (rd s207.1 y223).bind fun y253 =>
   (rd s207.1 s132.2.2.2).bind fun y403 =>
   Zcm k s132 y161 q216 ((s207.1.set (s132.2.2.2 : Int).toNat (imax y244 y253)), (s207.2.1.set (y223 : Int).toNat (w64 (y228 + 1))), w64 (s207.2.2 + 1))
  else
   some (s207.1, s207.2.1)
def Zcn (k : Nat) (x0 : (List Node)) : Nat → (List Int) × (List Int) × Int × Int → Option (LX (Int) ((List Int) × Int))
 | 0, _ => none
 | q141 + 1, s132 =>
  if (decide (s132.2.2.2 < (x0.length : Int))) = true then
   (rd x0 s132.2.2.2).bind fun y147 =>
   ((Zc1 k y147 s132.2.2.2).bind fun y413 =>
    if (!y413) = true then
     some true
    else
     (Zeb k y147).bind fun y416 =>
     if (!y416) = true then
      some true
     else
      if (y147.Kind == 10) = true then
       (ZdQ k x0 y147.A).bind fun y420 =>
       some (!y420)
      else
       some false).bind fun p154 =>
   if (p154) = true then
    some (.ret 2)
   else
    (Zcl k y147).bind fun y161 =>
    (Zcm k s132 y161 k (s132.1, s132.2.1, 0)).bind fun p171 =>
    (rd p171.1 s132.2.2.2).bind fun y183 =>
    (rd p171.1 s132.2.2.2).bind fun y190 =>
    (rd (p171.1.set (s132.2.2.2 : Int).toNat (w64 (y183 + 1))) s132.2.2.2).bind fun y199 =>
    Zcn k x0 q141 ((p171.1.set (s132.2.2.2 : Int).toNat (w64 (y183 + 1))), p171.2, imax s132.2.2.1 y199, w64 (s132.2.2.2 + 1))
  else
   some (.out (s132.2.1, s132.2.2.1))
def Zdk (k : Nat) (x0 : (List Node)) : Option Int :=
 (Zbu k (x0.length : Int) 1 64).bind fun y1 =>
 if (!y1) = true then
  some 2
 else
  (mks (x0.length : Int) (0 : Int)).bind fun _ =>
  (mks (x0.length : Int) (0 : Int)).bind fun _ =>
  (Zcn k x0 k ((List.replicate ((x0.length : Int) : Int).toNat (0 : Int)), (List.replicate ((x0.length : Int) : Int).toNat (0 : Int)), 0, 0)).bind (LX.go fun p109 =>
  (slc p109.1 0 (w64 ((x0.length : Int) - 1))).bind fun y124 =>
  (ZaT k y124).bind fun y127 =>
  if (y127) = true then
   some 2
  else
   if (decide (p109.2 > 16)) = true then
    some 220
   else
    some 0)
theorem Zjo : Tryz.prog.funcs[43]? = some Tryz.f43 := by kernel_rfl
theorem ZeL (k : Nat) (H : Heap) (x0 : (List Node)) (a0_0 : Option Addr) (c0_0 : Nat) (hx0_0 : RSl H a0_0 c0_0 x0) {r : Int} (hr : Zdk k x0 = some r) :
  Fn Tryz.prog 43 [.slice a0_0 x0.length c0_0] H [] fun H' v out => v = .int .i64 r ∧ out = [] := by
 refine Zaq (args := [.slice a0_0 x0.length c0_0]) (n := 95) (Φ := fun r H' v out => v = .int .i64 r ∧ out = []) hr Zjo rfl rfl rfl fun w => ?_
 refine s_eq (by rw [Zdk]) ?_
 refine Zae <| Zaa <| Zah rfl <| Zac <| Zae <| Zae <| Zaa <| Zad rfl <| ZaG rfl ?_
 refine s_bg fun y1 h2 => ?_
 refine Zas rfl rfl (ZbF k _ (x0.length : Int) 1 64 h2) ?_
 refine Zdc rfl <| Zac ?_
 refine Zao rfl (fun h3 => ?_) (fun h3 => ?_)
 ·refine Zae <| Zaa <| Zah rfl <| Zac ?_
  exact s_r1 2 (.int .i64 2) Zjo ⟨rfl, rfl⟩
 ·refine Zar <| Zae ?_
  refine s_bg fun _ h8 => ?_
  refine s_bg fun _ h13 => ?_
  refine Za8 [(fun H v g => v = Value.slice a0_0 x0.length c0_0 ∧ g = [] ∧ RSl H a0_0 c0_0 x0),
   (fV (.int .i64 (x0.length : Int))),
   (fun H v g => ∃ b14, v = Value.slice (some ⟨b14, 0, none⟩) (List.replicate ((x0.length : Int) : Int).toNat (0 : Int)).length ((x0.length : Int) : Int).toNat ∧ g = [.osl (.slice (some ⟨b14, 0, none⟩) (List.replicate ((x0.length : Int) : Int).toNat (0 : Int)).length ((x0.length : Int) : Int).toNat) 1 3 (List.replicate ((x0.length : Int) : Int).toNat [.int .i64 0])] ∧ All2 (GoT.rep H) (List.replicate ((x0.length : Int) : Int).toNat [.int .i64 0]) (List.replicate ((x0.length : Int) : Int).toNat (0 : Int))),
   (fun H v g => v = Value.slice a0_0 x0.length c0_0 ∧ g = [] ∧ RSl H a0_0 c0_0 x0),
   (fV (.int .i64 (x0.length : Int))),
   (fun H v g => ∃ b18, v = Value.slice (some ⟨b18, 0, none⟩) (List.replicate ((x0.length : Int) : Int).toNat (0 : Int)).length ((x0.length : Int) : Int).toNat ∧ g = [.osl (.slice (some ⟨b18, 0, none⟩) (List.replicate ((x0.length : Int) : Int).toNat (0 : Int)).length ((x0.length : Int) : Int).toNat) 1 3 (List.replicate ((x0.length : Int) : Int).toNat [.int .i64 0])] ∧ All2 (GoT.rep H) (List.replicate ((x0.length : Int) : Int).toNat [.int .i64 0]) (List.replicate ((x0.length : Int) : Int).toNat (0 : Int))),
   (fun H v g => ∃ b14, v = Value.slice (some ⟨b14, 0, none⟩) (List.replicate ((x0.length : Int) : Int).toNat (0 : Int)).length ((x0.length : Int) : Int).toNat ∧ g = [.osl (.slice (some ⟨b14, 0, none⟩) (List.replicate ((x0.length : Int) : Int).toNat (0 : Int)).length ((x0.length : Int) : Int).toNat) 1 3 (List.replicate ((x0.length : Int) : Int).toNat [.int .i64 0])] ∧ All2 (GoT.rep H) (List.replicate ((x0.length : Int) : Int).toNat [.int .i64 0]) (List.replicate ((x0.length : Int) : Int).toNat (0 : Int)))] [[], [], [], [], [], [], [2]] mixed ⟨fun _ _ _ _ hle ⟨e1, e2, h0_⟩ => ⟨e1, e2, RSl.mono hle h0_⟩, m0, fun _ _ _ _ hle ⟨b14, e1, e2, h0_⟩ => ⟨_, e1, e2, All2.mono (fun _ _ => GoT.mono hle) h0_⟩, fun _ _ _ _ hle ⟨e1, e2, h0_⟩ => ⟨e1, e2, RSl.mono hle h0_⟩, m0, fun _ _ _ _ hle ⟨b18, e1, e2, h0_⟩ => ⟨_, e1, e2, All2.mono (fun _ _ => GoT.mono hle) h0_⟩, fun _ _ _ _ hle ⟨b14, e1, e2, h0_⟩ => ⟨_, e1, e2, All2.mono (fun _ _ => GoT.mono hle) h0_⟩, trivial⟩ (by kernel_rfl) (by kernel_rfl) rfl (by kernel_rfl) rfl rfl ?_ ?_
  ·refine dc (fun _ _ _ _ hle26 _ _ => ?_) ?_
   ·have hs29 := RSl.mono hle26 hx0_0
    refine Zag (env' := [(0, .slice a0_0 x0.length c0_0)]) (by exact ⟨rfl, trivial⟩) ?_
    refine Zad rfl ?_
    exact Zai (.slice a0_0 x0.length c0_0) ⟨rfl, rfl, hs29⟩
   refine dc (fun _ _ _ _ _ hd35 _ => ?_) ?_
   ·obtain ⟨hv37, hg38, hp39⟩ := hd35 0 (by decide)
    refine Zag (env' := [(14, .slice a0_0 x0.length c0_0)]) (by exact ⟨congrArg some hv37, trivial⟩) ?_
    refine ZaG rfl ?_
    exact Zai (.int .i64 (x0.length : Int)) ⟨rfl, rfl⟩
   refine Za3 ?_ ?_
   ·intro _ _ H42 fr43 hle44 hd45
    obtain ⟨hv47, hg48⟩ := hd45 1 (by decide)
    refine ⟨_, (mks (x0.length : Int) (0 : Int)).bind some, by rw [h8]; rfl, fun _ => ?_⟩
    refine Zag (env' := [(15, .int .i64 (x0.length : Int))]) (by exact ⟨congrArg some hv47, trivial⟩) ?_
    refine Zk1 (z := (0 : Int)) (zc := [.int .i64 0]) rfl rfl (fun _ => ⟨.int .i64 0, by kernel_rfl, rfl⟩) rfl fun b49 h50 hA51 => ?_
    refine ZcP (own' := [.osl (.slice (some ⟨b49, 0, none⟩) (List.replicate ((x0.length : Int) : Int).toNat (0 : Int)).length ((x0.length : Int) : Int).toNat) 1 3 (List.replicate ((x0.length : Int) : Int).toNat [.int .i64 0])] ++ fr43) (pm3 (a := []) (xs := [.osl (.slice (some ⟨b49, 0, none⟩) (List.replicate ((x0.length : Int) : Int).toNat (0 : Int)).length ((x0.length : Int) : Int).toNat) 1 3 (List.replicate ((x0.length : Int) : Int).toNat [.int .i64 0])])) ?_
    exact ZbV fun _ _ _ hE hI => ⟨(.slice (some ⟨b49, 0, none⟩) (List.replicate ((x0.length : Int) : Int).toNat (0 : Int)).length ((x0.length : Int) : Int).toNat), [.osl (.slice (some ⟨b49, 0, none⟩) (List.replicate ((x0.length : Int) : Int).toNat (0 : Int)).length ((x0.length : Int) : Int).toNat) 1 3 (List.replicate ((x0.length : Int) : Int).toNat [.int .i64 0])], _, fun _ e => (by cases e; exact hE _ _ rfl), .refl _, by exact hI, ⟨b49, rfl, rfl, hA51⟩⟩
   refine dc (fun _ _ _ _ hle57 _ _ => ?_) ?_
   ·have hs60 := RSl.mono hle57 hx0_0
    refine Zag (env' := [(0, .slice a0_0 x0.length c0_0)]) (by exact ⟨rfl, trivial⟩) ?_
    refine Zad rfl ?_
    exact Zai (.slice a0_0 x0.length c0_0) ⟨rfl, rfl, hs60⟩
   refine dc (fun _ _ _ _ _ hd66 _ => ?_) ?_
   ·obtain ⟨hv68, hg69, hp70⟩ := hd66 3 (by decide)
    refine Zag (env' := [(17, .slice a0_0 x0.length c0_0)]) (by exact ⟨congrArg some hv68, trivial⟩) ?_
    refine ZaG rfl ?_
    exact Zai (.int .i64 (x0.length : Int)) ⟨rfl, rfl⟩
   refine Za3 ?_ ?_
   ·intro _ _ H73 fr74 hle75 hd76
    obtain ⟨hv78, hg79⟩ := hd76 4 (by decide)
    refine ⟨_, (mks (x0.length : Int) (0 : Int)).bind some, by rw [h13]; rfl, fun _ => ?_⟩
    refine Zag (env' := [(18, .int .i64 (x0.length : Int))]) (by exact ⟨congrArg some hv78, trivial⟩) ?_
    refine Zk1 (z := (0 : Int)) (zc := [.int .i64 0]) rfl rfl (fun _ => ⟨.int .i64 0, by kernel_rfl, rfl⟩) rfl fun b80 h81 hA82 => ?_
    refine ZcP (own' := [.osl (.slice (some ⟨b80, 0, none⟩) (List.replicate ((x0.length : Int) : Int).toNat (0 : Int)).length ((x0.length : Int) : Int).toNat) 1 3 (List.replicate ((x0.length : Int) : Int).toNat [.int .i64 0])] ++ fr74) (pm3 (a := []) (xs := [.osl (.slice (some ⟨b80, 0, none⟩) (List.replicate ((x0.length : Int) : Int).toNat (0 : Int)).length ((x0.length : Int) : Int).toNat) 1 3 (List.replicate ((x0.length : Int) : Int).toNat [.int .i64 0])])) ?_
    exact ZbV fun _ _ _ hE hI => ⟨(.slice (some ⟨b80, 0, none⟩) (List.replicate ((x0.length : Int) : Int).toNat (0 : Int)).length ((x0.length : Int) : Int).toNat), [.osl (.slice (some ⟨b80, 0, none⟩) (List.replicate ((x0.length : Int) : Int).toNat (0 : Int)).length ((x0.length : Int) : Int).toNat) 1 3 (List.replicate ((x0.length : Int) : Int).toNat [.int .i64 0])], _, fun _ e => (by cases e; exact hE _ _ rfl), .refl _, by exact hI, ⟨b80, rfl, rfl, hA82⟩⟩
   refine Za3 ?_ ?_
   ·intro _ _ H86 fr87 hle88 hd89
    obtain ⟨b91, hv92, hg93, hp94⟩ := hd89 2 (by decide)
    refine ⟨_, some (), rfl, fun _ => ?_⟩
    refine Zag (env' := [(16, .slice (some ⟨b91, 0, none⟩) (List.replicate ((x0.length : Int) : Int).toNat (0 : Int)).length ((x0.length : Int) : Int).toNat)]) (by exact ⟨congrArg some hv92, trivial⟩) ?_
    refine ZbL (own' := [.osl (.slice (some ⟨b91, 0, none⟩) (List.replicate ((x0.length : Int) : Int).toNat (0 : Int)).length ((x0.length : Int) : Int).toNat) 1 3 (List.replicate ((x0.length : Int) : Int).toNat [.int .i64 0])] ++ fr87) (by simp only [List.flatMap_cons, List.flatMap_nil, List.append_nil, hg93]; rfl) ?_
    refine Zah rfl ?_
    exact ZbV fun _ _ _ hE hI => ⟨(.slice (some ⟨b91, 0, none⟩) (List.replicate ((x0.length : Int) : Int).toNat (0 : Int)).length ((x0.length : Int) : Int).toNat), [.osl (.slice (some ⟨b91, 0, none⟩) (List.replicate ((x0.length : Int) : Int).toNat (0 : Int)).length ((x0.length : Int) : Int).toNat) 1 3 (List.replicate ((x0.length : Int) : Int).toNat [.int .i64 0])], _, fun _ e => (by cases e; exact hE _ _ rfl), .refl _, by exact hI, ⟨b91, rfl, rfl, hp94⟩⟩
   exact dnil
  ·intro V97 G98 H95 hle96 hF99
   have hs100 := RSl.mono hle96 hx0_0
   obtain ⟨b101, hv102, hg103, hp104⟩ := hF99 5 (show 5 < 7 by decide)
   obtain ⟨b105, hv106, hg107, hp108⟩ := hF99 6 (show 6 < 7 by decide)
   refine Zag (env' := [(19, .slice (some ⟨b101, 0, none⟩) (List.replicate ((x0.length : Int) : Int).toNat (0 : Int)).length ((x0.length : Int) : Int).toNat), (3, .slice (some ⟨b105, 0, none⟩) (List.replicate ((x0.length : Int) : Int).toNat (0 : Int)).length ((x0.length : Int) : Int).toNat), (0, .slice a0_0 x0.length c0_0), (2, .int .i64 0), (10, .slice a0_0 x0.length c0_0), (11, .int .i64 (x0.length : Int)), (12, .bool y1), (13, .bool (!y1))]) (by exact ⟨congrArg some hv102, congrArg some hv106, rfl, rfl, rfl, rfl, rfl, rfl, trivial⟩) ?_
   refine Zg8 (js := [5, 6]) rfl ?_
   refine ZbL (own' := [.osl (.slice (some ⟨b101, 0, none⟩) (List.replicate ((x0.length : Int) : Int).toNat (0 : Int)).length ((x0.length : Int) : Int).toNat) 1 3 (List.replicate ((x0.length : Int) : Int).toNat [.int .i64 0]), .osl (.slice (some ⟨b105, 0, none⟩) (List.replicate ((x0.length : Int) : Int).toNat (0 : Int)).length ((x0.length : Int) : Int).toNat) 1 3 (List.replicate ((x0.length : Int) : Int).toNat [.int .i64 0])]) (by simp only [List.flatMap_cons, List.flatMap_nil, List.append_nil, hg103, hg107]; rfl) ?_
   refine Zah rfl <| Zac <| Zae <| Zaa <| Zah rfl <| Zac <| Zae <| Zae <| Zaa <| Zad rfl <| ZaG rfl <| Zad rfl ?_
   refine Zac ?_
   refine ZbR (fun p109 env own H' => ∃ a110 c111 ls112, env = [(0, .slice a0_0 x0.length c0_0), (3, .slice a110 p109.1.length c111), (5, .int .i64 p109.2)] ∧ own = [.osl (.slice a110 p109.1.length c111) 1 3 ls112] ∧ Hle H95 H' ∧ All2 (GoT.rep H') ls112 p109.1) ?_ ?_
   ·rintro p109 _ _ H114 ⟨a110, c111, ls112, rfl, rfl, hle115, hA113⟩
    refine Zae <| Zae <| Zaa <| Zad rfl <| Zad rfl <| ZaG rfl <| ZhF rfl rfl ?_
    refine Zg9 0 (fun b => .inl (by simp [ids])) rfl hA113 fun H117 hle118 hn119 hs120 => ?_
    refine o_sl hs120 rfl rfl ⟨_, rfl⟩ fun a122 c123 y124 h125 hs126 => ?_
    refine s_bg fun y127 h128 => ?_
    refine Zas rfl rfl (ZcZ k _ y124 _ _ hs126 h128) ?_
    refine Zac ?_
    refine Zao rfl (fun h129 => ?_) (fun h129 => ?_)
    ·refine Zae <| Zaa <| Zah rfl <| Zac ?_
     exact s_r1 2 (.int .i64 2) Zjo ⟨rfl, rfl⟩
    ·refine Zar <| Zae <| Zae <| Zaa <| Zad rfl <| o_gt rfl rfl <| Zac ?_
     refine Zao rfl (fun h130 => ?_) (fun h130 => ?_)
     ·refine Zae <| Zaa <| Zah rfl <| Zac ?_
      exact s_r1 2 (.int .i64 220) Zjo ⟨rfl, rfl⟩
     ·refine Zar <| Zae <| Zaa <| Zah rfl <| Zac ?_
      exact s_r1 2 (.int .i64 0) Zjo ⟨rfl, rfl⟩
   ·intro J131
    refine Zat ?_
    refine Zag (env' := [(0, .slice a0_0 x0.length c0_0), (3, .slice (some ⟨b105, 0, none⟩) (List.replicate ((x0.length : Int) : Int).toNat (0 : Int)).length ((x0.length : Int) : Int).toNat), (4, .slice (some ⟨b101, 0, none⟩) (List.replicate ((x0.length : Int) : Int).toNat (0 : Int)).length ((x0.length : Int) : Int).toNat), (5, .int .i64 0), (20, .slice a0_0 x0.length c0_0), (21, .int .i64 (x0.length : Int)), (22, .int .i64 0)]) (by exact ⟨rfl, rfl, rfl, rfl, rfl, rfl, rfl, trivial⟩) ?_
    refine Zam (own' := [.osl (.slice (some ⟨b101, 0, none⟩) (List.replicate ((x0.length : Int) : Int).toNat (0 : Int)).length ((x0.length : Int) : Int).toNat) 1 3 (List.replicate ((x0.length : Int) : Int).toNat [.int .i64 0]), .osl (.slice (some ⟨b105, 0, none⟩) (List.replicate ((x0.length : Int) : Int).toNat (0 : Int)).length ((x0.length : Int) : Int).toNat) 1 3 (List.replicate ((x0.length : Int) : Int).toNat [.int .i64 0])]) (.cons_cons _ (.cons_cons _ .slnil)) ?_
    refine Za2 (fun q s132 => Zcn k x0 q s132) (fun s132 env own H' => ∃ a133 c134 ls135 a137 c138 ls139, env = [(0, .slice a0_0 x0.length c0_0), (3, .slice a137 s132.2.1.length c138), (4, .slice a133 s132.1.length c134), (5, .int .i64 s132.2.2.1), (20, .slice a0_0 x0.length c0_0), (21, .int .i64 (x0.length : Int)), (22, .int .i64 s132.2.2.2)] ∧ own = [.osl (.slice a133 s132.1.length c134) 1 3 ls135, .osl (.slice a137 s132.2.1.length c138) 1 3 ls139] ∧ Hle H95 H' ∧ All2 (GoT.rep H') ls135 s132.1 ∧ All2 (GoT.rep H') ls139 s132.2.1) (fun _ => rfl) ?_ k ((List.replicate ((x0.length : Int) : Int).toNat (0 : Int)), (List.replicate ((x0.length : Int) : Int).toNat (0 : Int)), 0, 0) ⟨_, _, _, _, _, _, rfl, rfl, .refl _, hp104, hp108⟩
    rintro q141 ih142 s132 _ _ H143 ⟨a133, c134, ls135, a137, c138, ls139, rfl, rfl, hle144, hA136, hA140⟩
    refine s_eq (by rw [Zcn]) ?_
    have hs145 := RSl.mono hle144 hs100
    refine Zae <| Zaa <| o_lt rfl rfl <| Zac <| Zae ?_
    refine Zao rfl (fun h146 => ?_) (fun h146 => ?_)
    ·refine Zar <| Zae <| Zat <| Zae <| Zaa <| Zad rfl ?_
     refine Zce hs145 rfl rfl fun y147 bk149 of150 h148 hc151 => ?_
     refine ZaP 0 hc151 rfl rfl rfl ?_
     refine Zbw fun b152 => ?_
     refine Zah rfl ?_
     refine o_st 2 rfl rfl rfl rfl rfl rfl ?_
     refine Zac <| Zae <| Zae <| Zaa ?_
     refine ZeI (fun p154 env own H' => env = [(0, .slice a0_0 x0.length c0_0), (3, .slice a137 s132.2.1.length c138), (4, .slice a133 s132.1.length c134), (5, .int .i64 s132.2.2.1), (6, .int .i64 s132.2.2.2), (7, .pointer (some ⟨b152, 0, none⟩)), (20, .slice a0_0 x0.length c0_0), (21, .int .i64 (x0.length : Int)), (22, .int .i64 s132.2.2.2), (47, .bool p154)] ∧ own = [.osl (.slice a133 s132.1.length c134) 1 3 ls135, .osl (.slice a137 s132.2.1.length c138) 1 3 ls139, .blk b152 (Zak (cN y147) 38)] ∧ Hle H143 H') ?_ ?_
     ·rintro p154 _ _ H155 ⟨rfl, rfl, hle156⟩
      have hA158 := All2.mono (fun _ _ => GoT.mono hle156) hA136
      have hA159 := All2.mono (fun _ _ => GoT.mono hle156) hA140
      refine Zao rfl (fun h160 => ?_) (fun h160 => ?_)
      ·refine Zae <| Zaa <| Zah rfl <| Zac <| ZbQ ?_
       exact s_r1 2 (.int .i64 2) Zjo ⟨rfl, rfl⟩
      ·refine Zar <| Zae <| Zae <| Zaa <| o_ld 2 rfl rfl rfl ?_
       refine s_bg fun y161 h162 => ?_
       refine Zbg [] _ rfl rfl (.refl _) (Zdo k _ y147 h162) ?_
       rintro _ H166 _ hle167 ⟨a163, c164, rfl, rfl, hs165⟩
       have hA169 := All2.mono (fun _ _ => GoT.mono hle167) hA158
       have hA170 := All2.mono (fun _ _ => GoT.mono hle167) hA159
       refine ZcG <| ZaG rfl <| Zad rfl <| Zac ?_
       refine Zb3 (fun p171 env own H' => ∃ a172 c173 ls174 a176 c177 ls178, env = [(0, .slice a0_0 x0.length c0_0), (3, .slice a176 p171.2.length c177), (4, .slice a172 p171.1.length c173), (5, .int .i64 s132.2.2.1), (6, .int .i64 s132.2.2.2), (20, .slice a0_0 x0.length c0_0), (21, .int .i64 (x0.length : Int)), (22, .int .i64 s132.2.2.2)] ∧ own = [.osl (.slice a172 p171.1.length c173) 1 3 ls174, .osl (.slice a176 p171.2.length c177) 1 3 ls178] ∧ Hle H166 H' ∧ All2 (GoT.rep H') ls174 p171.1 ∧ All2 (GoT.rep H') ls178 p171.2) ?_ ?_
       ·rintro p171 _ _ H180 ⟨a172, c173, ls174, a176, c177, ls178, rfl, rfl, hle181, hA175, hA179⟩
        refine Zae <| Zaa <| Zad rfl <| Zad rfl ?_
        refine Zc2 0 rfl hA175 rfl rfl fun y183 bk185 vs186 h184 ha187 hi188 hr189 => ?_
        subst hr189
        subst ha187
        refine ZdL 0 0 rfl hi188 rfl rfl rfl ?_
        refine ZbM rfl rfl ?_
        refine Zc2 0 rfl hA175 rfl rfl fun y190 bk192 vs193 h191 ha194 hi195 hr196 => ?_
        subst hr196
        obtain rfl := s_bk ha194
        refine ZgL (l := p171.1) (ci := s132.2.2.2) 0 0 rfl hA175 hi195 rfl rfl rfl rfl rfl rfl (w64 (y183 + 1)) (rfl) fun ls197 hA198 => ?_
        refine Zag (env' := [(0, .slice a0_0 x0.length c0_0), (3, .slice a176 p171.2.length c177), (4, .slice (some ⟨bk185, 0, none⟩) (p171.1.set (s132.2.2.2 : Int).toNat (w64 (y183 + 1))).length c173), (5, .int .i64 s132.2.2.1), (6, .int .i64 s132.2.2.2), (20, .slice a0_0 x0.length c0_0), (21, .int .i64 (x0.length : Int)), (22, .int .i64 s132.2.2.2), (74, .slice (some ⟨bk185, 0, none⟩) (p171.1.set (s132.2.2.2 : Int).toNat (w64 (y183 + 1))).length c173), (75, .int .i64 s132.2.2.2), (77, .int .i64 y183), (78, .int .i64 (w64 (y183 + 1)))]) (by exact ⟨rfl, rfl, (by first | (simp only [List.length_set]; rfl) | rfl), rfl, rfl, rfl, rfl, rfl, (by first | (simp only [List.length_set]; rfl) | rfl), rfl, rfl, rfl, trivial⟩) ?_
        refine ZbL (own' := [.osl (.slice (some ⟨bk185, 0, none⟩) (p171.1.set (s132.2.2.2 : Int).toNat (w64 (y183 + 1))).length c173) 1 3 ls197, .osl (.slice a176 p171.2.length c177) 1 3 ls178]) (by first | (simp only [List.length_set]; done) | (simp only [List.length_set]; rfl) | rfl) ?_
        refine Zac <| Zaa <| Zad rfl <| Zad rfl <| Zad rfl ?_
        refine Zc2 0 rfl hA198 rfl rfl fun y199 bk201 vs202 h200 ha203 hi204 hr205 => ?_
        subst hr205
        obtain rfl := s_bk ha203
        refine ZdL 0 0 rfl hi204 rfl rfl rfl ?_
        refine ZjV rfl rfl ?_
        refine Zah rfl <| Zac <| Zav <| Zaa <| ZbM rfl rfl <| Zad rfl <| Zac ?_
        exact Zag (by exact ⟨rfl, rfl, rfl, rfl, rfl, rfl, rfl, trivial⟩) (Zam (by exact (.cons_cons _ (.cons_cons _ .slnil))) (ih142 ((p171.1.set (s132.2.2.2 : Int).toNat (w64 (y183 + 1))), p171.2, imax s132.2.2.1 y199, w64 (s132.2.2.2 + 1)) _ _ _ ⟨_, _, _, _, _, _, rfl, rfl, (Hle.trans (Hle.trans (Hle.trans hle144 hle156) hle167) hle181), hA198, hA179⟩))
       ·intro J206
        refine Zat ?_
        refine Zag (env' := [(0, .slice a0_0 x0.length c0_0), (3, .slice a137 s132.2.1.length c138), (4, .slice a133 s132.1.length c134), (5, .int .i64 s132.2.2.1), (6, .int .i64 s132.2.2.2), (20, .slice a0_0 x0.length c0_0), (21, .int .i64 (x0.length : Int)), (22, .int .i64 s132.2.2.2), (49, .slice a163 y161.length c164), (50, .int .i64 (y161.length : Int)), (51, .int .i64 0)]) (by exact ⟨rfl, rfl, rfl, rfl, rfl, rfl, rfl, rfl, rfl, rfl, rfl, trivial⟩) ?_
        refine Zam (own' := [.osl (.slice a133 s132.1.length c134) 1 3 ls135, .osl (.slice a137 s132.2.1.length c138) 1 3 ls139]) (.cons_cons _ (.cons_cons _ (.cons _ .slnil))) ?_
        refine Za2 (fun q s207 => Zcm k s132 y161 q s207) (fun s207 env own H' => ∃ a208 c209 ls210 a212 c213 ls214, env = [(0, .slice a0_0 x0.length c0_0), (3, .slice a212 s207.2.1.length c213), (4, .slice a208 s207.1.length c209), (5, .int .i64 s132.2.2.1), (6, .int .i64 s132.2.2.2), (20, .slice a0_0 x0.length c0_0), (21, .int .i64 (x0.length : Int)), (22, .int .i64 s132.2.2.2), (49, .slice a163 y161.length c164), (50, .int .i64 (y161.length : Int)), (51, .int .i64 s207.2.2)] ∧ own = [.osl (.slice a208 s207.1.length c209) 1 3 ls210, .osl (.slice a212 s207.2.1.length c213) 1 3 ls214] ∧ Hle H166 H' ∧ All2 (GoT.rep H') ls210 s207.1 ∧ All2 (GoT.rep H') ls214 s207.2.1) (fun _ => rfl) ?_ k (s132.1, s132.2.1, 0) ⟨_, _, _, _, _, _, rfl, rfl, .refl _, hA169, hA170⟩
        rintro q216 ih217 s207 _ _ H218 ⟨a208, c209, ls210, a212, c213, ls214, rfl, rfl, hle219, hA211, hA215⟩
        refine s_eq (by rw [Zcm]) ?_
        have hs221 := RSl.mono hle219 hs165
        refine Zae <| Zaa <| o_lt rfl rfl <| Zac <| Zae ?_
        refine Zao rfl (fun h222 => ?_) (fun h222 => ?_)
        ·refine Zar <| Zae <| Zat <| Zae <| Zaa ?_
         refine Zce hs221 rfl rfl fun y223 bk225 of226 h224 hc227 => ?_
         refine ZaP 0 hc227 rfl rfl rfl ?_
         refine Zah rfl <| Zac <| Zae <| Zaa <| Zad rfl <| Zad rfl ?_
         refine Zc2 1 rfl hA215 rfl rfl fun y228 bk230 vs231 h229 ha232 hi233 hr234 => ?_
         subst hr234
         subst ha232
         refine ZdL 1 0 rfl hi233 rfl rfl rfl ?_
         refine ZbM rfl rfl ?_
         refine Zc2 1 rfl hA215 rfl rfl fun y235 bk237 vs238 h236 ha239 hi240 hr241 => ?_
         subst hr241
         obtain rfl := s_bk ha239
         refine ZgL (l := s207.2.1) (ci := y223) 1 0 rfl hA215 hi240 rfl rfl rfl rfl rfl rfl (w64 (y228 + 1)) (rfl) fun ls242 hA243 => ?_
         refine Zag (env' := [(0, .slice a0_0 x0.length c0_0), (3, .slice (some ⟨bk230, 0, none⟩) (s207.2.1.set (y223 : Int).toNat (w64 (y228 + 1))).length c213), (4, .slice a208 s207.1.length c209), (5, .int .i64 s132.2.2.1), (6, .int .i64 s132.2.2.2), (20, .slice a0_0 x0.length c0_0), (21, .int .i64 (x0.length : Int)), (22, .int .i64 s132.2.2.2), (49, .slice a163 y161.length c164), (50, .int .i64 (y161.length : Int)), (51, .int .i64 s207.2.2), (52, .bool (decide (s207.2.2 < (y161.length : Int)))), (53, .pointer (some ⟨bk225, of226, none⟩)), (54, .int .i64 y223), (9, .int .i64 y223), (55, .slice (some ⟨bk230, 0, none⟩) (s207.2.1.set (y223 : Int).toNat (w64 (y228 + 1))).length c213), (56, .int .i64 y223), (58, .int .i64 y228), (59, .int .i64 (w64 (y228 + 1)))]) (by exact ⟨rfl, (by first | (simp only [List.length_set]; rfl) | rfl), rfl, rfl, rfl, rfl, rfl, rfl, rfl, rfl, rfl, rfl, rfl, rfl, rfl, (by first | (simp only [List.length_set]; rfl) | rfl), rfl, rfl, rfl, trivial⟩) ?_
         refine ZbL (own' := [.osl (.slice a208 s207.1.length c209) 1 3 ls210, .osl (.slice (some ⟨bk230, 0, none⟩) (s207.2.1.set (y223 : Int).toNat (w64 (y228 + 1))).length c213) 1 3 ls242]) (by first | (simp only [List.length_set]; done) | (simp only [List.length_set]; rfl) | rfl) ?_
         refine Zac ?_
         refine s_bg fun y244 h251 => ?_
         refine ZlM 0 rfl hA211 h251 fun bk246 ha252 => ?_
         subst ha252
         refine s_bg fun y253 h260 => ?_
         refine Za8 [(fV (.slice (some ⟨bk246, 0, none⟩) s207.1.length c209)),
   (fV (.int .i64 s132.2.2.2)),
   (fV (.slice (some ⟨bk246, 0, none⟩) s207.1.length c209)),
   (fV (.int .i64 s132.2.2.2)),
   (fun H v g => v = Value.pointer (some ⟨bk246, (s132.2.2.2 : Int).toNat * GoT.sz (Int), none⟩) ∧ g = [] ∧ (ls210)[(s132.2.2.2 : Int).toNat]? = some [.int .i64 y244]),
   (fV (.int .i64 y244)),
   (fV (.slice (some ⟨bk246, 0, none⟩) s207.1.length c209)),
   (fV (.int .i64 y223)),
   (fun H v g => v = Value.pointer (some ⟨bk246, (y223 : Int).toNat * GoT.sz (Int), none⟩) ∧ g = [] ∧ (ls210)[(y223 : Int).toNat]? = some [.int .i64 y253]),
   (fV (.int .i64 y253)),
   (fV (.int .i64 (imax y244 y253)))] [[], [], [], [], [], [], [], [], [], [], []] mixed ⟨m0, m0, m0, m0, m0, m0, m0, m0, m0, m0, m0, trivial⟩ (by kernel_rfl) (by kernel_rfl) rfl (by kernel_rfl) rfl rfl ?_ ?_
         ·refine dc (fun _ _ _ _ _ _ _ => ?_) ?_
          ·refine Zag (env' := [(4, .slice (some ⟨bk246, 0, none⟩) s207.1.length c209)]) (by exact ⟨rfl, trivial⟩) ?_
           refine Zad rfl ?_
           exact Zai (.slice (some ⟨bk246, 0, none⟩) s207.1.length c209) ⟨rfl, rfl⟩
          refine dc (fun _ _ _ _ _ _ _ => ?_) ?_
          ·refine Zag (env' := [(6, .int .i64 s132.2.2.2)]) (by exact ⟨rfl, trivial⟩) ?_
           refine Zad rfl ?_
           exact Zai (.int .i64 s132.2.2.2) ⟨rfl, rfl⟩
          refine dc (fun _ _ _ _ _ _ _ => ?_) ?_
          ·refine Zag (env' := [(4, .slice (some ⟨bk246, 0, none⟩) s207.1.length c209)]) (by exact ⟨rfl, trivial⟩) ?_
           refine Zad rfl ?_
           exact Zai (.slice (some ⟨bk246, 0, none⟩) s207.1.length c209) ⟨rfl, rfl⟩
          refine dc (fun _ _ _ _ _ _ _ => ?_) ?_
          ·refine Zag (env' := [(6, .int .i64 s132.2.2.2)]) (by exact ⟨rfl, trivial⟩) ?_
           refine Zad rfl ?_
           exact Zai (.int .i64 s132.2.2.2) ⟨rfl, rfl⟩
          refine Za3 ?_ ?_
          ·intro _ _ H305 fr306 hle307 hd308
           have hA310 := All2.mono (fun _ _ => GoT.mono hle307) hA211
           obtain ⟨hv311, hg312⟩ := hd308 2 (by decide)
           obtain ⟨hv313, hg314⟩ := hd308 3 (by decide)
           refine ⟨_, (rd s207.1 s132.2.2.2).bind some, by rw [h251]; rfl, fun _ => ?_⟩
           refine Zag (env' := [(63, .slice (some ⟨bk246, 0, none⟩) s207.1.length c209), (64, .int .i64 s132.2.2.2)]) (by exact ⟨congrArg some hv311, congrArg some hv313, trivial⟩) ?_
           refine Zc2 0 rfl hA310 rfl rfl fun y244 bk316 vs317 h315 ha318 hi319 hr320 => ?_
           subst hr320
           obtain rfl := s_bk ha318
           obtain rfl := Option.some.inj (h251.symm.trans h315)
           exact Zai (.pointer (some ⟨bk246, (s132.2.2.2 : Int).toNat * GoT.sz (Int), none⟩)) ⟨rfl, rfl, hi319⟩
          refine dc (fun _ _ _ _ _ hd326 _ => ?_) ?_
          ·obtain ⟨hv329, hg330, hp331⟩ := hd326 4 (by decide)
           refine Zag (env' := [(65, .pointer (some ⟨bk246, (s132.2.2.2 : Int).toNat * GoT.sz (Int), none⟩))]) (by exact ⟨congrArg some hv329, trivial⟩) ?_
           refine ZdL 0 0 rfl hp331 rfl rfl rfl ?_
           exact Zai (.int .i64 y244) ⟨rfl, rfl⟩
          refine dc (fun _ _ _ _ _ _ _ => ?_) ?_
          ·refine Zag (env' := [(4, .slice (some ⟨bk246, 0, none⟩) s207.1.length c209)]) (by exact ⟨rfl, trivial⟩) ?_
           refine Zad rfl ?_
           exact Zai (.slice (some ⟨bk246, 0, none⟩) s207.1.length c209) ⟨rfl, rfl⟩
          refine dc (fun _ _ _ _ _ _ _ => ?_) ?_
          ·refine Zag (env' := [(9, .int .i64 y223)]) (by exact ⟨rfl, trivial⟩) ?_
           refine Zad rfl ?_
           exact Zai (.int .i64 y223) ⟨rfl, rfl⟩
          refine Za3 ?_ ?_
          ·intro _ _ H349 fr350 hle351 hd352
           have hA354 := All2.mono (fun _ _ => GoT.mono hle351) hA211
           obtain ⟨hv355, hg356⟩ := hd352 6 (by decide)
           obtain ⟨hv357, hg358⟩ := hd352 7 (by decide)
           refine ⟨_, (rd s207.1 y223).bind some, by rw [h260]; rfl, fun _ => ?_⟩
           refine Zag (env' := [(67, .slice (some ⟨bk246, 0, none⟩) s207.1.length c209), (68, .int .i64 y223)]) (by exact ⟨congrArg some hv355, congrArg some hv357, trivial⟩) ?_
           refine Zc2 0 rfl hA354 rfl rfl fun y253 bk360 vs361 h359 ha362 hi363 hr364 => ?_
           subst hr364
           obtain rfl := s_bk ha362
           obtain rfl := Option.some.inj (h260.symm.trans h359)
           exact Zai (.pointer (some ⟨bk246, (y223 : Int).toNat * GoT.sz (Int), none⟩)) ⟨rfl, rfl, hi363⟩
          refine dc (fun _ _ _ _ _ hd370 _ => ?_) ?_
          ·obtain ⟨hv373, hg374, hp375⟩ := hd370 8 (by decide)
           refine Zag (env' := [(69, .pointer (some ⟨bk246, (y223 : Int).toNat * GoT.sz (Int), none⟩))]) (by exact ⟨congrArg some hv373, trivial⟩) ?_
           refine ZdL 0 0 rfl hp375 rfl rfl rfl ?_
           exact Zai (.int .i64 y253) ⟨rfl, rfl⟩
          refine dc2 5 9 (fun _ _ _ _ _ _ => ?_) ?_
          ·refine ZjV rfl rfl ?_
           exact Zai (.int .i64 (imax y244 y253)) ⟨rfl, rfl⟩
          exact dnil
         ·intro V389 G390 H387 hle388 hF391
          have hA395 := All2.mono (fun _ _ => GoT.mono hle388) hA211
          have hA396 := All2.mono (fun _ _ => GoT.mono hle388) hA243
          obtain ⟨hv397, hg398⟩ := hF391 0 (show 0 < 11 by decide)
          obtain ⟨hv399, hg400⟩ := hF391 1 (show 1 < 11 by decide)
          obtain ⟨hv401, hg402⟩ := hF391 10 (show 10 < 11 by decide)
          refine Zag (env' := [(61, .slice (some ⟨bk246, 0, none⟩) s207.1.length c209), (62, .int .i64 s132.2.2.2), (71, .int .i64 (imax y244 y253)), (0, .slice a0_0 x0.length c0_0), (3, .slice (some ⟨bk230, 0, none⟩) (s207.2.1.set (y223 : Int).toNat (w64 (y228 + 1))).length c213), (4, .slice (some ⟨bk246, 0, none⟩) s207.1.length c209), (5, .int .i64 s132.2.2.1), (6, .int .i64 s132.2.2.2), (20, .slice a0_0 x0.length c0_0), (21, .int .i64 (x0.length : Int)), (22, .int .i64 s132.2.2.2), (49, .slice a163 y161.length c164), (50, .int .i64 (y161.length : Int)), (51, .int .i64 s207.2.2), (52, .bool (decide (s207.2.2 < (y161.length : Int)))), (53, .pointer (some ⟨bk225, of226, none⟩)), (54, .int .i64 y223), (9, .int .i64 y223), (55, .slice (some ⟨bk230, 0, none⟩) (s207.2.1.set (y223 : Int).toNat (w64 (y228 + 1))).length c213), (56, .int .i64 y223), (58, .int .i64 y228), (59, .int .i64 (w64 (y228 + 1)))]) (by exact ⟨congrArg some hv397, congrArg some hv399, congrArg some hv401, rfl, rfl, rfl, rfl, rfl, rfl, rfl, rfl, rfl, rfl, rfl, rfl, rfl, rfl, rfl, rfl, rfl, rfl, rfl, trivial⟩) ?_
          refine Zam (List.sublist_append_left _ _) ?_
          refine Zc2 0 rfl hA395 rfl rfl fun y403 bk405 vs406 h404 ha407 hi408 hr409 => ?_
          subst hr409
          obtain rfl := s_bk ha407
          refine ZgL (l := s207.1) (ci := s132.2.2.2) 0 0 rfl hA395 hi408 rfl rfl rfl rfl rfl rfl (imax y244 y253) (rfl) fun ls410 hA411 => ?_
          refine Zag (env' := [(0, .slice a0_0 x0.length c0_0), (3, .slice (some ⟨bk230, 0, none⟩) (s207.2.1.set (y223 : Int).toNat (w64 (y228 + 1))).length c213), (4, .slice (some ⟨bk246, 0, none⟩) (s207.1.set (s132.2.2.2 : Int).toNat (imax y244 y253)).length c209), (5, .int .i64 s132.2.2.1), (6, .int .i64 s132.2.2.2), (20, .slice a0_0 x0.length c0_0), (21, .int .i64 (x0.length : Int)), (22, .int .i64 s132.2.2.2), (49, .slice a163 y161.length c164), (50, .int .i64 (y161.length : Int)), (51, .int .i64 s207.2.2), (52, .bool (decide (s207.2.2 < (y161.length : Int)))), (53, .pointer (some ⟨bk225, of226, none⟩)), (54, .int .i64 y223), (9, .int .i64 y223), (55, .slice (some ⟨bk230, 0, none⟩) (s207.2.1.set (y223 : Int).toNat (w64 (y228 + 1))).length c213), (56, .int .i64 y223), (58, .int .i64 y228), (59, .int .i64 (w64 (y228 + 1))), (61, .slice (some ⟨bk246, 0, none⟩) (s207.1.set (s132.2.2.2 : Int).toNat (imax y244 y253)).length c209), (62, .int .i64 s132.2.2.2), (71, .int .i64 (imax y244 y253))]) (by exact ⟨rfl, (by first | (simp only [List.length_set]; rfl) | rfl), (by first | (simp only [List.length_set]; rfl) | rfl), rfl, rfl, rfl, rfl, rfl, rfl, rfl, rfl, rfl, rfl, rfl, rfl, (by first | (simp only [List.length_set]; rfl) | rfl), rfl, rfl, rfl, (by first | (simp only [List.length_set]; rfl) | rfl), rfl, rfl, trivial⟩) ?_
          refine ZbL (own' := [.osl (.slice (some ⟨bk246, 0, none⟩) (s207.1.set (s132.2.2.2 : Int).toNat (imax y244 y253)).length c209) 1 3 ls410, .osl (.slice (some ⟨bk230, 0, none⟩) (s207.2.1.set (y223 : Int).toNat (w64 (y228 + 1))).length c213) 1 3 ls242]) (by first | (simp only [List.length_set]; done) | (simp only [List.length_set]; rfl) | rfl) ?_
          refine Zac <| Zav <| Zaa <| ZbM rfl rfl <| Zad rfl <| Zac ?_
          exact Zag (by exact ⟨rfl, rfl, rfl, rfl, rfl, rfl, rfl, rfl, rfl, rfl, rfl, trivial⟩) (Zam (by exact (.cons_cons _ (.cons_cons _ .slnil))) (ih217 ((s207.1.set (s132.2.2.2 : Int).toNat (imax y244 y253)), (s207.2.1.set (y223 : Int).toNat (w64 (y228 + 1))), w64 (s207.2.2 + 1)) _ _ _ ⟨_, _, _, _, _, _, rfl, rfl, (Hle.trans hle219 hle388), hA411, hA396⟩))
        ·refine Zbf rfl ?_
         exact Zag (by exact ⟨rfl, rfl, rfl, rfl, rfl, rfl, rfl, rfl, trivial⟩) (Zam (by exact (.cons_cons _ (.cons_cons _ .slnil))) (J206 (s207.1, s207.2.1) _ _ _ ⟨_, _, _, _, _, _, rfl, rfl, hle219, hA211, hA215⟩))
     ·intro J412
      refine o_ld 2 rfl rfl rfl <| Zad rfl ?_
      refine s_bg fun y413 h414 => ?_
      refine Zas rfl rfl (Zex k _ y147 s132.2.2.2 h414) ?_
      refine Zdc rfl <| Zad rfl ?_
      refine Zax (!y413) (fun h415 => ?_) (fun h415 => ?_)
      ·refine Zab rfl rfl h415 <| Zab rfl rfl h415 <| Zab rfl rfl h415 <| Zan rfl h415 rfl <| Zad rfl <| Zab rfl rfl rfl <| Zab rfl rfl rfl <| Zab rfl rfl rfl <| Zab rfl rfl rfl <| ZaA rfl rfl <| ZaA rfl rfl <| ZaA rfl rfl ?_
       refine ZaA rfl rfl <| ZaA rfl rfl <| Zab rfl rfl rfl <| Zan rfl rfl rfl ?_
       exact Zag (by exact ⟨rfl, rfl, rfl, rfl, rfl, rfl, rfl, rfl, rfl, rfl, trivial⟩) (Zam (by exact (.cons_cons _ (.cons_cons _ (.cons_cons _ .slnil)))) (J412 true _ _ _ ⟨rfl, rfl, .refl _⟩))
      ·refine Zaf rfl rfl h415 <| o_ld 2 rfl rfl rfl <| Zaf rfl rfl h415 ?_
       refine s_bg fun y416 h417 => ?_
       refine Zas rfl rfl (Zhe k _ y147 h417) ?_
       refine Zaf rfl rfl h415 <| Zdc rfl <| Zal rfl h415 rfl <| Zad rfl ?_
       refine Zax (!y416) (fun h418 => ?_) (fun h418 => ?_)
       ·refine Zab rfl rfl h418 <| Zab rfl rfl h418 <| Zab rfl rfl h418 <| Zab rfl rfl h418 <| ZaA rfl rfl <| ZaA rfl rfl <| ZaA rfl rfl <| ZaA rfl rfl <| ZaA rfl rfl <| Zab rfl rfl h418 <| Zan rfl h418 rfl ?_
        exact Zag (by exact ⟨rfl, rfl, rfl, rfl, rfl, rfl, rfl, rfl, rfl, rfl, trivial⟩) (Zam (by exact (.cons_cons _ (.cons_cons _ (.cons_cons _ .slnil)))) (J412 true _ _ _ ⟨rfl, rfl, .refl _⟩))
       ·refine Zaf rfl rfl h418 <| o_fa rfl <| Zaf rfl rfl h418 <| o_ld 2 rfl rfl rfl <| Zaf rfl rfl h418 <| o_eq rfl rfl <| Zaf rfl rfl h418 <| Zad rfl ?_
        refine Zax (y147.Kind == 10) (fun h419 => ?_) (fun h419 => ?_)
        ·refine Zaf rfl rfl h419 <| Zad rfl <| Zaf rfl rfl h419 <| o_fa rfl <| Zaf rfl rfl h419 <| o_ld 2 rfl rfl rfl <| Zaf rfl rfl h419 ?_
         refine s_bg fun y420 h421 => ?_
         refine Zas rfl rfl (ZgJ k _ x0 _ _ hs145 y147.A h421) ?_
         refine Zaf rfl rfl h419 <| Zdc rfl <| Zaf rfl rfl h418 <| Zan rfl h419 rfl <| Zal rfl h418 rfl ?_
         exact Zag (by exact ⟨rfl, rfl, rfl, rfl, rfl, rfl, rfl, rfl, rfl, rfl, trivial⟩) (Zam (by exact (.cons_cons _ (.cons_cons _ (.cons_cons _ .slnil)))) (J412 (!y420) _ _ _ ⟨rfl, rfl, .refl _⟩))
        ·refine Zab rfl rfl h419 <| Zab rfl rfl h419 <| Zab rfl rfl h419 <| Zab rfl rfl h419 <| Zab rfl rfl h419 <| Zaf rfl rfl h418 <| Zal rfl h419 rfl <| Zal rfl h418 rfl ?_
         exact Zag (by exact ⟨rfl, rfl, rfl, rfl, rfl, rfl, rfl, rfl, rfl, rfl, trivial⟩) (Zam (by exact (.cons_cons _ (.cons_cons _ (.cons_cons _ .slnil)))) (J412 false _ _ _ ⟨rfl, rfl, .refl _⟩))
    ·refine Zbf rfl ?_
     exact Zag (by exact ⟨rfl, rfl, rfl, trivial⟩) (Zam (by exact (.cons _ (.cons_cons _ .slnil))) (J131 (s132.2.1, s132.2.2.1) _ _ _ ⟨_, _, _, rfl, rfl, hle144, hA140⟩))
def ZaE (k : Nat) (x0 : Int) : Option Int :=
 if (x0 == 10) = true then
  some 1
 else
  (if (x0 == 8) = true then
    some (x0 == 8)
   else
    some (x0 == 9)).bind fun p2 =>
  if (p2) = true then
   some 2
  else
   some 0
theorem ZiR : Tryz.prog.funcs[132]? = some Tryz.f132 := by kernel_rfl
theorem ZaI (k : Nat) (H : Heap) (x0 : Int) {r : Int} (hr : ZaE k x0 = some r) :
  Fn Tryz.prog 132 [.int .i64 x0] H [] fun H' v out => v = .int .i64 r ∧ out = [] := by
 refine Zaq (args := [.int .i64 x0]) (n := 9) (Φ := fun r H' v out => v = .int .i64 r ∧ out = []) hr ZiR rfl rfl rfl fun w => ?_
 refine s_eq (by rw [ZaE]) ?_
 refine Zae <| Zaa <| Zah rfl <| Zac <| Zae <| Zae <| Zaa <| Zad rfl <| Zac <| Zat <| Zae <| Zaa ?_
 refine o_eq rfl rfl <| Zah rfl <| Zac ?_
 refine Zao rfl (fun h1 => ?_) (fun h1 => ?_)
 ·refine Zae <| Zaa <| Zah rfl <| Zac ?_
  exact s_r1 2 (.int .i64 1) ZiR ⟨rfl, rfl⟩
 ·refine Zae <| Zae <| Zaa <| o_eq rfl rfl <| Zah rfl <| Zac ?_
  refine Zb3 (fun p2 env own H' => env = [(6, .bool p2)] ∧ own = [] ∧ Hle H H') ?_ ?_
  ·rintro p2 _ _ H3 ⟨rfl, rfl, hle4⟩
   refine Zao rfl (fun h5 => ?_) (fun h5 => ?_)
   ·refine Zae <| Zaa <| Zah rfl <| Zac ?_
    exact s_r1 2 (.int .i64 2) ZiR ⟨rfl, rfl⟩
   ·refine Zar <| Zav <| Zae <| Zaa <| Zah rfl <| Zac ?_
    exact s_r1 2 (.int .i64 0) ZiR ⟨rfl, rfl⟩
  ·intro J6
   refine Zao rfl (fun h7 => ?_) (fun h7 => ?_)
   ·refine Zar ?_
    exact Zag (by exact ⟨rfl, trivial⟩) (Zam (by exact .slnil) (J6 (x0 == 8) _ _ _ ⟨rfl, rfl, .refl _⟩))
   ·refine Zaa <| o_eq rfl rfl <| Zah rfl <| Zac ?_
    exact Zag (by exact ⟨rfl, trivial⟩) (Zam (by exact .slnil) (J6 (x0 == 9) _ _ _ ⟨rfl, rfl, .refl _⟩))
def ZaD (k : Nat) (x0 : Int) (x1 : Int) (x2 : Int) : Option Bool :=
 if (decide (x0 ≥ x1)) = true then
  some (decide (x0 ≤ x2))
 else
  some false
theorem Zkl : Tryz.prog.funcs[169]? = some Tryz.f169 := by kernel_rfl
theorem ZaJ (k : Nat) (H : Heap) (x0 : Int) (x1 : Int) (x2 : Int) {r : Bool} (hr : ZaD k x0 x1 x2 = some r) :
  Fn Tryz.prog 169 [.int .i64 x0, .int .i64 x1, .int .i64 x2] H [] fun H' v out => v = .bool r ∧ out = [] := by
 refine Zaq (args := [.int .i64 x0, .int .i64 x1, .int .i64 x2]) (n := 15) (Φ := fun r H' v out => v = .bool r ∧ out = []) hr Zkl rfl rfl rfl fun w => ?_
 refine s_eq (by rw [ZaD]) ?_
 refine Zae <| Zaa <| Zah rfl <| Zac <| Zae <| Zaa <| Zad rfl <| Zad rfl <| o_ge rfl rfl <| Zad rfl ?_
 refine Zax (decide (x0 ≥ x1)) (fun h1 => ?_) (fun h1 => ?_)
 ·refine Zaf rfl rfl h1 <| Zad rfl <| Zaf rfl rfl h1 <| Zad rfl <| Zaf rfl rfl h1 <| o_le rfl rfl <| Zan rfl h1 rfl <| Zah rfl <| Zac ?_
  exact s_r1 6 (.bool (decide (x0 ≤ x2))) Zkl ⟨rfl, rfl⟩
 ·refine Zab rfl rfl h1 <| Zab rfl rfl h1 <| Zab rfl rfl h1 <| Zal rfl h1 rfl <| Zah rfl <| Zac ?_
  exact s_r1 6 (.bool false) Zkl ⟨rfl, rfl⟩
def Zbo (k : Nat) (x0 : Node) (x1 : Int) : Option Bool :=
 (ZaE k x0.Kind).bind fun y3 =>
 if (decide (y3 < 1)) = true then
  (ZaE k x0.Kind).bind fun y6 =>
  if (decide (y6 < 2)) = true then
   some true
  else
   (ZaD k x0.B 0 (w64 (x1 - 1))).bind fun y9 =>
   some y9
 else
  (ZaD k x0.A 0 (w64 (x1 - 1))).bind fun y11 =>
  if (y11) = true then
   (ZaE k x0.Kind).bind fun y14 =>
   if (decide (y14 < 2)) = true then
    some true
   else
    (ZaD k x0.B 0 (w64 (x1 - 1))).bind fun y17 =>
    some y17
  else
   some false
theorem Zg1 : Tryz.prog.funcs[168]? = some Tryz.f168 := by kernel_rfl
theorem ZcF (k : Nat) (H : Heap) (x0 : Node) (x1 : Int) {r : Bool} (hr : Zbo k x0 x1 = some r) :
  Fn Tryz.prog 168 [(aN x0), .int .i64 x1] H [] fun H' v out => v = .bool r ∧ out = [] := by
 refine Zaq (args := [(aN x0), .int .i64 x1]) (n := 29) (Φ := fun r H' v out => v = .bool r ∧ out = []) hr Zg1 rfl rfl rfl fun w => ?_
 refine s_eq (by rw [Zbo]) ?_
 refine Zae <| Zaa ?_
 refine ZbO rfl fun b1 => ?_
 refine Zah rfl <| Zac <| Zae <| Zaa <| o_fa rfl <| o_ld 0 rfl rfl rfl ?_
 refine s_bg fun y3 h4 => ?_
 refine Zas rfl rfl (ZaI k _ x0.Kind h4) ?_
 refine o_lt rfl rfl <| Zad rfl ?_
 refine Zax (decide (y3 < 1)) (fun h5 => ?_) (fun h5 => ?_)
 ·refine Zab rfl rfl h5 <| Zab rfl rfl h5 <| Zab rfl rfl h5 <| Zab rfl rfl h5 <| Zab rfl rfl h5 <| Zan rfl h5 rfl <| Zad rfl <| Zaf rfl rfl rfl <| o_fa rfl <| Zaf rfl rfl rfl <| o_ld 0 rfl rfl rfl <| Zaf rfl rfl rfl ?_
  refine s_bg fun y6 h7 => ?_
  refine Zas rfl rfl (ZaI k _ x0.Kind h7) ?_
  refine Zaf rfl rfl rfl <| o_lt rfl rfl <| Zaf rfl rfl rfl <| Zad rfl ?_
  refine Zax (decide (y6 < 2)) (fun h8 => ?_) (fun h8 => ?_)
  ·refine Zab rfl rfl h8 <| Zab rfl rfl h8 <| Zab rfl rfl h8 <| Zab rfl rfl h8 <| Zab rfl rfl h8 <| Zaf rfl rfl rfl <| Zan rfl h8 rfl <| Zan rfl rfl rfl <| Zah rfl <| Zac ?_
   exact s_r1 4 (.bool true) Zg1 ⟨rfl, rfl⟩
  ·refine Zaf rfl rfl h8 <| o_fa rfl <| Zaf rfl rfl h8 <| o_ld 0 rfl rfl rfl <| Zaf rfl rfl h8 <| Zad rfl <| Zaf rfl rfl h8 <| ZhF rfl rfl <| Zaf rfl rfl h8 ?_
   refine s_bg fun y9 h10 => ?_
   refine Zas rfl rfl (ZaJ k _ x0.B 0 (w64 (x1 - 1)) h10) ?_
   refine Zaf rfl rfl rfl <| Zal rfl h8 rfl <| Zan rfl rfl rfl <| Zah rfl <| Zac ?_
   exact s_r1 4 (.bool y9) Zg1 ⟨rfl, rfl⟩
 ·refine Zaf rfl rfl h5 <| o_fa rfl <| Zaf rfl rfl h5 <| o_ld 0 rfl rfl rfl <| Zaf rfl rfl h5 <| Zad rfl <| Zaf rfl rfl h5 <| ZhF rfl rfl <| Zaf rfl rfl h5 ?_
  refine s_bg fun y11 h12 => ?_
  refine Zas rfl rfl (ZaJ k _ x0.A 0 (w64 (x1 - 1)) h12) ?_
  refine Zal rfl h5 rfl <| Zad rfl ?_
  refine Zax y11 (fun h13 => ?_) (fun h13 => ?_)
  ·refine Zaf rfl rfl h13 <| o_fa rfl <| Zaf rfl rfl h13 <| o_ld 0 rfl rfl rfl <| Zaf rfl rfl h13 ?_
   refine s_bg fun y14 h15 => ?_
   refine Zas rfl rfl (ZaI k _ x0.Kind h15) ?_
   refine Zaf rfl rfl h13 <| o_lt rfl rfl <| Zaf rfl rfl h13 <| Zad rfl ?_
   refine Zax (decide (y14 < 2)) (fun h16 => ?_) (fun h16 => ?_)
   ·refine Zab rfl rfl h16 <| Zab rfl rfl h16 <| Zab rfl rfl h16 <| Zab rfl rfl h16 <| Zab rfl rfl h16 <| Zaf rfl rfl h13 <| Zan rfl h16 rfl <| Zan rfl h13 rfl <| Zah rfl <| Zac ?_
    exact s_r1 4 (.bool true) Zg1 ⟨rfl, rfl⟩
   ·refine Zaf rfl rfl h16 <| o_fa rfl <| Zaf rfl rfl h16 <| o_ld 0 rfl rfl rfl <| Zaf rfl rfl h16 <| Zad rfl <| Zaf rfl rfl h16 <| ZhF rfl rfl <| Zaf rfl rfl h16 ?_
    refine s_bg fun y17 h18 => ?_
    refine Zas rfl rfl (ZaJ k _ x0.B 0 (w64 (x1 - 1)) h18) ?_
    refine Zaf rfl rfl h13 <| Zal rfl h16 rfl <| Zan rfl h13 rfl <| Zah rfl <| Zac ?_
    exact s_r1 4 (.bool y17) Zg1 ⟨rfl, rfl⟩
  ·refine Zab rfl rfl h13 <| Zab rfl rfl h13 <| Zab rfl rfl h13 <| Zab rfl rfl h13 <| Zab rfl rfl h13 <| ZaA rfl rfl <| ZaA rfl rfl <| ZaA rfl rfl <| ZaA rfl rfl <| ZaA rfl rfl <| Zab rfl rfl h13 <| Zal rfl h13 rfl ?_
   refine Zah rfl <| Zac ?_
   exact s_r1 4 (.bool false) Zg1 ⟨rfl, rfl⟩
def Zcc (k : Nat) (x0 : Node) (x1 : Int) : Option Bool :=
 ((Zbo k x0 x1).bind fun y51 =>
  if (!y51) = true then
   some true
  else
   (ZaE k x0.Kind).bind fun y54 =>
   if (decide (y54 < 1)) = true then
    if (x0.A != 0) = true then
     some true
    else
     (ZaE k x0.Kind).bind fun y58 =>
     if (decide (y58 < 2)) = true then
      some (x0.B != 0)
     else
      some false
   else
    (ZaE k x0.Kind).bind fun y61 =>
    if (decide (y61 < 2)) = true then
     some (x0.B != 0)
    else
     some false).bind fun p3 =>
 if (p3) = true then
  some false
 else
  if (x0.Kind == 3) = true then
   (ZaD k x0.N 0 2).bind fun y8 =>
   if (y8) = true then
    (ZaD k x0.M 1 255).bind fun y11 =>
    if (y11) = true then
     (ZaD k x0.V 0 255).bind fun y14 =>
     if (y14) = true then
      some ((ibit .andNot .i64 x0.V x0.M) == 0)
     else
      some false
    else
     some false
   else
    some false
  else
   if (x0.Kind == 4) = true then
    if (x0.M == 0) = true then
     if (x0.V == 0) = true then
      (ZaD k x0.N 1 6).bind fun y20 =>
      some y20
     else
      some false
    else
     some false
   else
    (if (x0.Kind == 5) = true then
      some (x0.Kind == 5)
     else
      some (x0.Kind == 7)).bind fun p22 =>
    if (p22) = true then
     if (x0.M == 0) = true then
      if (x0.V == 0) = true then
       (ZaD k x0.N 0 4).bind fun y28 =>
       some y28
      else
       some false
     else
      some false
    else
     if (x0.Kind == 6) = true then
      if (x0.M == 0) = true then
       (ZaD k x0.N 0 2).bind fun y32 =>
       if (y32) = true then
        (ZaD k x0.V 0 255).bind fun y35 =>
        some y35
       else
        some false
      else
       some false
     else
      (if (x0.Kind == 1) = true then
        some (x0.Kind == 1)
       else
        if (x0.Kind == 2) = true then
         some (x0.Kind == 2)
        else
         if (x0.Kind == 8) = true then
          some (x0.Kind == 8)
         else
          if (x0.Kind == 9) = true then
           some (x0.Kind == 9)
          else
           some (x0.Kind == 10)).bind fun p37 =>
      if (p37) = true then
       if (x0.N == 0) = true then
        if (x0.M == 0) = true then
         some (x0.V == 0)
        else
         some false
       else
        some false
      else
       some false
theorem Zdr : Tryz.prog.funcs[131]? = some Tryz.f131 := by kernel_rfl
theorem Zev (k : Nat) (H : Heap) (x0 : Node) (x1 : Int) {r : Bool} (hr : Zcc k x0 x1 = some r) :
  Fn Tryz.prog 131 [(aN x0), .int .i64 x1] H [] fun H' v out => v = .bool r ∧ out = [] := by
 refine Zaq (args := [(aN x0), .int .i64 x1]) (n := 121) (Φ := fun r H' v out => v = .bool r ∧ out = []) hr Zdr rfl rfl rfl fun w => ?_
 refine s_eq (by rw [Zcc]) ?_
 refine Zae <| Zaa ?_
 refine ZbO rfl fun b1 => ?_
 refine Zah rfl <| Zac <| Zae <| Zae <| Zaa ?_
 refine ZeI (fun p3 env own H' => env = [(2, .pointer (some ⟨b1, 0, none⟩)), (30, .bool p3)] ∧ own = [.blk b1 (Zak (cN x0) 38)] ∧ Hle H H') ?_ ?_
 ·rintro p3 _ _ H4 ⟨rfl, rfl, hle5⟩
  refine Zao rfl (fun h6 => ?_) (fun h6 => ?_)
  ·refine Zae <| Zaa <| Zah rfl <| Zac ?_
   exact s_r1 4 (.bool false) Zdr ⟨rfl, rfl⟩
  ·refine Zar <| Zae <| Zae <| Zaa <| o_fa rfl <| o_ld 0 rfl rfl rfl <| Zac <| Zat <| Zae <| Zaa <| o_eq rfl rfl <| Zah rfl ?_
   refine Zac ?_
   refine Zao rfl (fun h7 => ?_) (fun h7 => ?_)
   ·refine Zae <| Zaa <| o_fa rfl <| o_ld 0 rfl rfl rfl ?_
    refine s_bg fun y8 h9 => ?_
    refine Zas rfl rfl (ZaJ k _ x0.N 0 2 h9) ?_
    refine Zad rfl ?_
    refine Zax y8 (fun h10 => ?_) (fun h10 => ?_)
    ·refine Zaf rfl rfl h10 <| o_fa rfl <| Zaf rfl rfl h10 <| o_ld 0 rfl rfl rfl <| Zaf rfl rfl h10 ?_
     refine s_bg fun y11 h12 => ?_
     refine Zas rfl rfl (ZaJ k _ x0.M 1 255 h12) ?_
     refine Zan rfl h10 rfl <| Zad rfl ?_
     refine Zax y11 (fun h13 => ?_) (fun h13 => ?_)
     ·refine Zaf rfl rfl h13 <| o_fa rfl <| Zaf rfl rfl h13 <| o_ld 0 rfl rfl rfl <| Zaf rfl rfl h13 ?_
      refine s_bg fun y14 h15 => ?_
      refine Zas rfl rfl (ZaJ k _ x0.V 0 255 h15) ?_
      refine Zan rfl h13 rfl <| Zad rfl ?_
      refine Zax y14 (fun h16 => ?_) (fun h16 => ?_)
      ·refine Zaf rfl rfl h16 <| o_fa rfl <| Zaf rfl rfl h16 <| o_ld 0 rfl rfl rfl <| Zaf rfl rfl h16 <| o_fa rfl <| Zaf rfl rfl h16 <| o_ld 0 rfl rfl rfl <| Zaf rfl rfl h16 ?_
       refine ZlV rfl rfl ?_
       refine Zaf rfl rfl h16 <| o_eq rfl rfl <| Zan rfl h16 rfl <| Zah rfl <| Zac ?_
       exact s_r1 4 (.bool ((ibit .andNot .i64 x0.V x0.M) == 0)) Zdr ⟨rfl, rfl⟩
      ·refine Zab rfl rfl h16 <| Zab rfl rfl h16 <| Zab rfl rfl h16 <| Zab rfl rfl h16 <| Zab rfl rfl h16 <| Zab rfl rfl h16 <| Zal rfl h16 rfl <| Zah rfl <| Zac ?_
       exact s_r1 4 (.bool false) Zdr ⟨rfl, rfl⟩
     ·refine Zab rfl rfl h13 <| Zab rfl rfl h13 <| Zab rfl rfl h13 <| Zal rfl h13 rfl <| Zad rfl <| Zab rfl rfl rfl <| Zab rfl rfl rfl <| Zab rfl rfl rfl <| Zab rfl rfl rfl <| Zab rfl rfl rfl <| Zab rfl rfl rfl <| Zal rfl rfl rfl ?_
      refine Zah rfl <| Zac ?_
      exact s_r1 4 (.bool false) Zdr ⟨rfl, rfl⟩
    ·refine Zab rfl rfl h10 <| Zab rfl rfl h10 <| Zab rfl rfl h10 <| Zal rfl h10 rfl <| Zad rfl <| Zab rfl rfl rfl <| Zab rfl rfl rfl <| Zab rfl rfl rfl <| Zal rfl rfl rfl <| Zad rfl <| Zab rfl rfl rfl <| Zab rfl rfl rfl ?_
     refine Zab rfl rfl rfl <| Zab rfl rfl rfl <| Zab rfl rfl rfl <| Zab rfl rfl rfl <| Zal rfl rfl rfl <| Zah rfl <| Zac ?_
     exact s_r1 4 (.bool false) Zdr ⟨rfl, rfl⟩
   ·refine Zae <| Zaa <| o_eq rfl rfl <| Zah rfl <| Zac ?_
    refine Zao rfl (fun h17 => ?_) (fun h17 => ?_)
    ·refine Zae <| Zaa <| o_fa rfl <| o_ld 0 rfl rfl rfl <| o_eq rfl rfl <| Zad rfl ?_
     refine Zax (x0.M == 0) (fun h18 => ?_) (fun h18 => ?_)
     ·refine Zaf rfl rfl h18 <| o_fa rfl <| Zaf rfl rfl h18 <| o_ld 0 rfl rfl rfl <| Zaf rfl rfl h18 <| o_eq rfl rfl <| Zan rfl h18 rfl <| Zad rfl ?_
      refine Zax (x0.V == 0) (fun h19 => ?_) (fun h19 => ?_)
      ·refine Zaf rfl rfl h19 <| o_fa rfl <| Zaf rfl rfl h19 <| o_ld 0 rfl rfl rfl <| Zaf rfl rfl h19 ?_
       refine s_bg fun y20 h21 => ?_
       refine Zas rfl rfl (ZaJ k _ x0.N 1 6 h21) ?_
       refine Zan rfl h19 rfl <| Zah rfl <| Zac ?_
       exact s_r1 4 (.bool y20) Zdr ⟨rfl, rfl⟩
      ·refine Zab rfl rfl h19 <| Zab rfl rfl h19 <| Zab rfl rfl h19 <| Zal rfl h19 rfl <| Zah rfl <| Zac ?_
       exact s_r1 4 (.bool false) Zdr ⟨rfl, rfl⟩
     ·refine Zab rfl rfl h18 <| Zab rfl rfl h18 <| Zab rfl rfl h18 <| Zal rfl h18 rfl <| Zad rfl <| Zab rfl rfl rfl <| Zab rfl rfl rfl <| Zab rfl rfl rfl <| Zal rfl rfl rfl <| Zah rfl <| Zac ?_
      exact s_r1 4 (.bool false) Zdr ⟨rfl, rfl⟩
    ·refine Zae <| Zae <| Zaa <| o_eq rfl rfl <| Zah rfl <| Zac ?_
     refine Zb3 (fun p22 env own H' => env = [(2, .pointer (some ⟨b1, 0, none⟩)), (32, .int .i64 x0.Kind), (71, .bool p22)] ∧ own = [.blk b1 (Zak (cN x0) 38)] ∧ Hle H4 H') ?_ ?_
     ·rintro p22 _ _ H23 ⟨rfl, rfl, hle24⟩
      refine Zao rfl (fun h25 => ?_) (fun h25 => ?_)
      ·refine Zae <| Zaa <| o_fa rfl <| o_ld 0 rfl rfl rfl <| o_eq rfl rfl <| Zad rfl ?_
       refine Zax (x0.M == 0) (fun h26 => ?_) (fun h26 => ?_)
       ·refine Zaf rfl rfl h26 <| o_fa rfl <| Zaf rfl rfl h26 <| o_ld 0 rfl rfl rfl <| Zaf rfl rfl h26 <| o_eq rfl rfl <| Zan rfl h26 rfl <| Zad rfl ?_
        refine Zax (x0.V == 0) (fun h27 => ?_) (fun h27 => ?_)
        ·refine Zaf rfl rfl h27 <| o_fa rfl <| Zaf rfl rfl h27 <| o_ld 0 rfl rfl rfl <| Zaf rfl rfl h27 ?_
         refine s_bg fun y28 h29 => ?_
         refine Zas rfl rfl (ZaJ k _ x0.N 0 4 h29) ?_
         refine Zan rfl h27 rfl <| Zah rfl <| Zac ?_
         exact s_r1 4 (.bool y28) Zdr ⟨rfl, rfl⟩
        ·refine Zab rfl rfl h27 <| Zab rfl rfl h27 <| Zab rfl rfl h27 <| Zal rfl h27 rfl <| Zah rfl <| Zac ?_
         exact s_r1 4 (.bool false) Zdr ⟨rfl, rfl⟩
       ·refine Zab rfl rfl h26 <| Zab rfl rfl h26 <| Zab rfl rfl h26 <| Zal rfl h26 rfl <| Zad rfl <| Zab rfl rfl rfl <| Zab rfl rfl rfl <| Zab rfl rfl rfl <| Zal rfl rfl rfl <| Zah rfl <| Zac ?_
        exact s_r1 4 (.bool false) Zdr ⟨rfl, rfl⟩
      ·refine Zae <| Zaa <| o_eq rfl rfl <| Zah rfl <| Zac ?_
       refine Zao rfl (fun h30 => ?_) (fun h30 => ?_)
       ·refine Zae <| Zaa <| o_fa rfl <| o_ld 0 rfl rfl rfl <| o_eq rfl rfl <| Zad rfl ?_
        refine Zax (x0.M == 0) (fun h31 => ?_) (fun h31 => ?_)
        ·refine Zaf rfl rfl h31 <| o_fa rfl <| Zaf rfl rfl h31 <| o_ld 0 rfl rfl rfl <| Zaf rfl rfl h31 ?_
         refine s_bg fun y32 h33 => ?_
         refine Zas rfl rfl (ZaJ k _ x0.N 0 2 h33) ?_
         refine Zan rfl h31 rfl <| Zad rfl ?_
         refine Zax y32 (fun h34 => ?_) (fun h34 => ?_)
         ·refine Zaf rfl rfl h34 <| o_fa rfl <| Zaf rfl rfl h34 <| o_ld 0 rfl rfl rfl <| Zaf rfl rfl h34 ?_
          refine s_bg fun y35 h36 => ?_
          refine Zas rfl rfl (ZaJ k _ x0.V 0 255 h36) ?_
          refine Zan rfl h34 rfl <| Zah rfl <| Zac ?_
          exact s_r1 4 (.bool y35) Zdr ⟨rfl, rfl⟩
         ·refine Zab rfl rfl h34 <| Zab rfl rfl h34 <| Zab rfl rfl h34 <| Zal rfl h34 rfl <| Zah rfl <| Zac ?_
          exact s_r1 4 (.bool false) Zdr ⟨rfl, rfl⟩
        ·refine Zab rfl rfl h31 <| Zab rfl rfl h31 <| Zab rfl rfl h31 <| Zal rfl h31 rfl <| Zad rfl <| Zab rfl rfl rfl <| Zab rfl rfl rfl <| Zab rfl rfl rfl <| Zal rfl rfl rfl <| Zah rfl <| Zac ?_
         exact s_r1 4 (.bool false) Zdr ⟨rfl, rfl⟩
       ·refine Zae <| Zae <| Zaa <| o_eq rfl rfl <| Zah rfl <| Zac ?_
        refine Zb3 (fun p37 env own H' => env = [(2, .pointer (some ⟨b1, 0, none⟩)), (102, .bool p37)] ∧ own = [.blk b1 (Zak (cN x0) 38)] ∧ Hle H23 H') ?_ ?_
        ·rintro p37 _ _ H38 ⟨rfl, rfl, hle39⟩
         refine Zao rfl (fun h40 => ?_) (fun h40 => ?_)
         ·refine Zae <| Zaa <| o_fa rfl <| o_ld 0 rfl rfl rfl <| o_eq rfl rfl <| Zad rfl ?_
          refine Zax (x0.N == 0) (fun h41 => ?_) (fun h41 => ?_)
          ·refine Zaf rfl rfl h41 <| o_fa rfl <| Zaf rfl rfl h41 <| o_ld 0 rfl rfl rfl <| Zaf rfl rfl h41 <| o_eq rfl rfl <| Zan rfl h41 rfl <| Zad rfl ?_
           refine Zax (x0.M == 0) (fun h42 => ?_) (fun h42 => ?_)
           ·refine Zaf rfl rfl h42 <| o_fa rfl <| Zaf rfl rfl h42 <| o_ld 0 rfl rfl rfl <| Zaf rfl rfl h42 <| o_eq rfl rfl <| Zan rfl h42 rfl <| Zah rfl <| Zac ?_
            exact s_r1 4 (.bool (x0.V == 0)) Zdr ⟨rfl, rfl⟩
           ·refine Zab rfl rfl h42 <| Zab rfl rfl h42 <| Zab rfl rfl h42 <| Zal rfl h42 rfl <| Zah rfl <| Zac ?_
            exact s_r1 4 (.bool false) Zdr ⟨rfl, rfl⟩
          ·refine Zab rfl rfl h41 <| Zab rfl rfl h41 <| Zab rfl rfl h41 <| Zal rfl h41 rfl <| Zad rfl <| Zab rfl rfl rfl <| Zab rfl rfl rfl <| Zab rfl rfl rfl <| Zal rfl rfl rfl <| Zah rfl <| Zac ?_
           exact s_r1 4 (.bool false) Zdr ⟨rfl, rfl⟩
         ·refine Zar <| Zav <| Zae <| Zaa <| Zah rfl <| Zac ?_
          exact s_r1 4 (.bool false) Zdr ⟨rfl, rfl⟩
        ·intro J43
         refine Zao rfl (fun h44 => ?_) (fun h44 => ?_)
         ·refine Zar ?_
          exact Zag (by exact ⟨rfl, rfl, trivial⟩) (Zam (by exact (.cons_cons _ .slnil)) (J43 (x0.Kind == 1) _ _ _ ⟨rfl, rfl, .refl _⟩))
         ·refine Zae <| Zaa <| o_eq rfl rfl <| Zah rfl <| Zac ?_
          refine Zao rfl (fun h45 => ?_) (fun h45 => ?_)
          ·refine Zar ?_
           exact Zag (by exact ⟨rfl, rfl, trivial⟩) (Zam (by exact (.cons_cons _ .slnil)) (J43 (x0.Kind == 2) _ _ _ ⟨rfl, rfl, .refl _⟩))
          ·refine Zae <| Zaa <| o_eq rfl rfl <| Zah rfl <| Zac ?_
           refine Zao rfl (fun h46 => ?_) (fun h46 => ?_)
           ·refine Zar ?_
            exact Zag (by exact ⟨rfl, rfl, trivial⟩) (Zam (by exact (.cons_cons _ .slnil)) (J43 (x0.Kind == 8) _ _ _ ⟨rfl, rfl, .refl _⟩))
           ·refine Zae <| Zaa <| o_eq rfl rfl <| Zah rfl <| Zac ?_
            refine Zao rfl (fun h47 => ?_) (fun h47 => ?_)
            ·refine Zar ?_
             exact Zag (by exact ⟨rfl, rfl, trivial⟩) (Zam (by exact (.cons_cons _ .slnil)) (J43 (x0.Kind == 9) _ _ _ ⟨rfl, rfl, .refl _⟩))
            ·refine Zaa <| o_eq rfl rfl <| Zah rfl <| Zac ?_
             exact Zag (by exact ⟨rfl, rfl, trivial⟩) (Zam (by exact (.cons_cons _ .slnil)) (J43 (x0.Kind == 10) _ _ _ ⟨rfl, rfl, .refl _⟩))
     ·intro J48
      refine Zao rfl (fun h49 => ?_) (fun h49 => ?_)
      ·refine Zar ?_
       exact Zag (by exact ⟨rfl, rfl, rfl, trivial⟩) (Zam (by exact (.cons_cons _ .slnil)) (J48 (x0.Kind == 5) _ _ _ ⟨rfl, rfl, .refl _⟩))
      ·refine Zaa <| o_eq rfl rfl <| Zah rfl <| Zac ?_
       exact Zag (by exact ⟨rfl, rfl, rfl, trivial⟩) (Zam (by exact (.cons_cons _ .slnil)) (J48 (x0.Kind == 7) _ _ _ ⟨rfl, rfl, .refl _⟩))
 ·intro J50
  refine o_ld 0 rfl rfl rfl <| Zad rfl ?_
  refine s_bg fun y51 h52 => ?_
  refine Zas rfl rfl (ZcF k _ x0 x1 h52) ?_
  refine Zdc rfl <| Zad rfl ?_
  refine Zax (!y51) (fun h53 => ?_) (fun h53 => ?_)
  ·refine Zab rfl rfl h53 <| Zab rfl rfl h53 <| Zab rfl rfl h53 <| Zab rfl rfl h53 <| Zab rfl rfl h53 <| ZaA rfl rfl <| ZaA rfl rfl <| ZaA rfl rfl <| Zab rfl rfl h53 <| Zan rfl h53 rfl <| Zad rfl <| Zab rfl rfl rfl ?_
   refine Zab rfl rfl rfl <| Zab rfl rfl rfl <| Zab rfl rfl rfl <| Zab rfl rfl rfl <| ZaA rfl rfl <| ZaA rfl rfl <| ZaA rfl rfl <| Zab rfl rfl rfl <| Zan rfl rfl rfl ?_
   exact Zag (by exact ⟨rfl, rfl, trivial⟩) (Zam (by exact (.cons_cons _ .slnil)) (J50 true _ _ _ ⟨rfl, rfl, .refl _⟩))
  ·refine Zaf rfl rfl h53 <| o_fa rfl <| Zaf rfl rfl h53 <| o_ld 0 rfl rfl rfl <| Zaf rfl rfl h53 ?_
   refine s_bg fun y54 h55 => ?_
   refine Zas rfl rfl (ZaI k _ x0.Kind h55) ?_
   refine Zaf rfl rfl h53 <| o_lt rfl rfl <| Zaf rfl rfl h53 <| Zad rfl ?_
   refine Zax (decide (y54 < 1)) (fun h56 => ?_) (fun h56 => ?_)
   ·refine Zaf rfl rfl h56 <| o_fa rfl <| Zaf rfl rfl h56 <| o_ld 0 rfl rfl rfl <| Zaf rfl rfl h56 <| o_ne rfl rfl <| Zaf rfl rfl h53 <| Zan rfl h56 rfl <| Zal rfl h53 rfl <| Zad rfl ?_
    refine Zax (x0.A != 0) (fun h57 => ?_) (fun h57 => ?_)
    ·refine Zab rfl rfl h57 <| Zab rfl rfl h57 <| Zab rfl rfl h57 <| Zab rfl rfl h57 <| Zab rfl rfl h57 <| ZaA rfl rfl <| ZaA rfl rfl <| ZaA rfl rfl <| Zab rfl rfl h57 <| Zan rfl h57 rfl ?_
     exact Zag (by exact ⟨rfl, rfl, trivial⟩) (Zam (by exact (.cons_cons _ .slnil)) (J50 true _ _ _ ⟨rfl, rfl, .refl _⟩))
    ·refine Zaf rfl rfl h57 <| o_fa rfl <| Zaf rfl rfl h57 <| o_ld 0 rfl rfl rfl <| Zaf rfl rfl h57 ?_
     refine s_bg fun y58 h59 => ?_
     refine Zas rfl rfl (ZaI k _ x0.Kind h59) ?_
     refine Zaf rfl rfl h57 <| o_lt rfl rfl <| Zaf rfl rfl h57 <| Zad rfl ?_
     refine Zax (decide (y58 < 2)) (fun h60 => ?_) (fun h60 => ?_)
     ·refine Zaf rfl rfl h60 <| o_fa rfl <| Zaf rfl rfl h60 <| o_ld 0 rfl rfl rfl <| Zaf rfl rfl h60 <| o_ne rfl rfl <| Zaf rfl rfl h57 <| Zan rfl h60 rfl <| Zal rfl h57 rfl ?_
      exact Zag (by exact ⟨rfl, rfl, trivial⟩) (Zam (by exact (.cons_cons _ .slnil)) (J50 (x0.B != 0) _ _ _ ⟨rfl, rfl, .refl _⟩))
     ·refine Zab rfl rfl h60 <| Zab rfl rfl h60 <| Zab rfl rfl h60 <| Zaf rfl rfl h57 <| Zal rfl h60 rfl <| Zal rfl h57 rfl ?_
      exact Zag (by exact ⟨rfl, rfl, trivial⟩) (Zam (by exact (.cons_cons _ .slnil)) (J50 false _ _ _ ⟨rfl, rfl, .refl _⟩))
   ·refine Zab rfl rfl h56 <| Zab rfl rfl h56 <| Zab rfl rfl h56 <| Zaf rfl rfl h53 <| Zal rfl h56 rfl <| Zal rfl h53 rfl <| Zad rfl <| Zaf rfl rfl rfl <| o_fa rfl <| Zaf rfl rfl rfl <| o_ld 0 rfl rfl rfl <| Zaf rfl rfl rfl ?_
    refine s_bg fun y61 h62 => ?_
    refine Zas rfl rfl (ZaI k _ x0.Kind h62) ?_
    refine Zaf rfl rfl rfl <| o_lt rfl rfl <| Zaf rfl rfl rfl <| Zad rfl ?_
    refine Zax (decide (y61 < 2)) (fun h63 => ?_) (fun h63 => ?_)
    ·refine Zaf rfl rfl h63 <| o_fa rfl <| Zaf rfl rfl h63 <| o_ld 0 rfl rfl rfl <| Zaf rfl rfl h63 <| o_ne rfl rfl <| Zaf rfl rfl rfl <| Zan rfl h63 rfl <| Zal rfl rfl rfl ?_
     exact Zag (by exact ⟨rfl, rfl, trivial⟩) (Zam (by exact (.cons_cons _ .slnil)) (J50 (x0.B != 0) _ _ _ ⟨rfl, rfl, .refl _⟩))
    ·refine Zab rfl rfl h63 <| Zab rfl rfl h63 <| Zab rfl rfl h63 <| Zaf rfl rfl rfl <| Zal rfl h63 rfl <| Zal rfl rfl rfl ?_
     exact Zag (by exact ⟨rfl, rfl, trivial⟩) (Zam (by exact (.cons_cons _ .slnil)) (J50 false _ _ _ ⟨rfl, rfl, .refl _⟩))
def Za5 (k : Nat) (x0 : (List Node)) : Nat → (List Bool) × Int → Option ((List Bool))
 | 0, _ => none
 | q23 + 1, s18 =>
  if (decide (s18.2 < (x0.length : Int))) = true then
   (rd x0 s18.2).bind fun y29 =>
   ((ZaE k y29.Kind).bind fun y95 =>
    if (decide (y95 > 0)) = true then
     (Zbo k y29 s18.2).bind fun y98 =>
     some y98
    else
     some false).bind fun p36 =>
   (if (p36) = true then
     (rd s18.1 y29.A).bind fun y87 =>
     some (s18.1, y87)
    else
     some (s18.1, ((decide (y29.Kind ≥ 1)) && decide (y29.Kind ≤ 5)))).bind fun p41 =>
   ((ZaE k y29.Kind).bind fun y80 =>
    if (decide (y80 > 1)) = true then
     (Zbo k y29 s18.2).bind fun y83 =>
     some y83
    else
     some false).bind fun p49 =>
   (if (p49) = true then
     if (p41.2) = true then
      (rd p41.1 y29.B).bind fun y72 =>
      some (p41.1, y72)
     else
      some (p41.1, false)
    else
     some (p41.1, p41.2)).bind fun p54 =>
   (app p54.1 ([p54.2] : List Bool)).bind fun _ =>
   Za5 k x0 q23 ((p54.1 ++ ([p54.2] : List Bool)), w64 (s18.2 + 1))
  else
   some s18.1
def Zcr (k : Nat) (x0 : (List Node)) : Option (List Bool) :=
 (Za5 k x0 k (([] : List Bool), 0)).bind fun p1 =>
 some p1
theorem Zl1 : Tryz.prog.funcs[133]? = some Tryz.f133 := by kernel_rfl
theorem ZeD (k : Nat) (H : Heap) (x0 : (List Node)) (a0_0 : Option Addr) (c0_0 : Nat) (hx0_0 : RSl H a0_0 c0_0 x0) {r : (List Bool)} (hr : Zcr k x0 = some r) :
  Fn Tryz.prog 133 [.slice a0_0 x0.length c0_0] H [] fun H' v out => ∃ a0 c0, v = .slice a0 r.length c0 ∧ out = [.osl (.slice a0 r.length c0) 1 4 (r.map GoE.enc)] := by
 refine Zaq (args := [.slice a0_0 x0.length c0_0]) (n := 61) (Φ := fun r H' v out => ∃ a0 c0, v = .slice a0 r.length c0 ∧ out = [.osl (.slice a0 r.length c0) 1 4 (r.map GoE.enc)]) hr Zl1 rfl rfl rfl fun w => ?_
 refine s_eq (by rw [Zcr]) ?_
 refine Zae <| Zaa <| Zah rfl <| Zac <| Zae <| Zaa <| Zah rfl <| Zac <| Zae <| Zae <| Zaa <| Zah rfl ?_
 refine Zac ?_
 refine Zb3 (fun p1 env own H' => ∃ a3 c4 ls5, env = [(3, .slice a3 p1.length c4)] ∧ own = [.osl (.slice a3 p1.length c4) 1 4 ls5] ∧ Hle H H' ∧ All2 (GoT.rep H') ls5 p1) ?_ ?_
 ·rintro p1 _ _ H7 ⟨a3, c4, ls5, rfl, rfl, hle8, hA6⟩
  refine Zae <| Zaa <| Zad rfl <| Zah rfl <| Zac ?_
  exact ZaF (xs := [.tmp 2]) (vs := [.slice a3 p1.length c4]) [.osl (.slice a3 p1.length c4) 1 4 ls5] Zl1 rfl ⟨Zaz rfl, trivial⟩ (.cons_cons _ .slnil) ⟨_, _, rfl, (congrArg (fun z => [Res.osl _ _ _ z]) (Zb7 hA6))⟩
 ·intro J9
  refine Zat ?_
  refine Zc4 (sz := 1) (t := 4) ?_
  have hA11 : All2 (GoT.rep H) [] ([] : List Bool) := Zbv
  refine Zag (env' := [(0, .slice a0_0 x0.length c0_0), (3, .slice none ([] : List Bool).length 0), (4, .int .i64 0)]) (by exact ⟨rfl, rfl, rfl, trivial⟩) ?_
  refine Zam (own' := [.osl (.slice none ([] : List Bool).length 0) 1 4 []]) (.cons_cons _ .slnil) ?_
  refine Za2 (fun q s18 => Za5 k x0 q s18) (fun s18 env own H' => ∃ a19 c20 ls21, env = [(0, .slice a0_0 x0.length c0_0), (3, .slice a19 s18.1.length c20), (4, .int .i64 s18.2)] ∧ own = [.osl (.slice a19 s18.1.length c20) 1 4 ls21] ∧ Hle H H' ∧ All2 (GoT.rep H') ls21 s18.1) (fun _ => rfl) ?_ k (([] : List Bool), 0) ⟨_, _, _, rfl, rfl, .refl _, hA11⟩
  rintro q23 ih24 s18 _ _ H25 ⟨a19, c20, ls21, rfl, rfl, hle26, hA22⟩
  refine s_eq (by rw [Za5]) ?_
  have hs27 := RSl.mono hle26 hx0_0
  refine Zae <| Zae <| Zaa <| Zad rfl <| Zad rfl <| ZaG rfl <| o_lt rfl rfl <| Zac ?_
  refine Zao rfl (fun h28 => ?_) (fun h28 => ?_)
  ·refine Zar <| Zae <| Zat <| Zae <| Zaa <| Zad rfl <| Zad rfl ?_
   refine Zce hs27 rfl rfl fun y29 bk31 of32 h30 hc33 => ?_
   refine ZaP 0 hc33 rfl rfl rfl ?_
   refine Zbw fun b34 => ?_
   refine o_st 1 rfl rfl rfl rfl rfl rfl ?_
   refine Zac <| Zae <| Zaa ?_
   refine Zfs [(0, .slice a0_0 x0.length c0_0), (3, .slice a19 s18.1.length c20), (4, .int .i64 s18.2), (5, .pointer (some ⟨b34, 0, none⟩)), (6, .bool ((decide (y29.Kind ≥ 1)) && decide (y29.Kind ≤ 5)))] [.osl (.slice a19 s18.1.length c20) 1 4 ls21, .blk b34 (Zak (cN y29) 38)] ?_ ?_
   ·refine Zae <| Zae <| Zaa ?_
    refine ZeI (fun p36 env own H' => env = [(0, .slice a0_0 x0.length c0_0), (3, .slice a19 s18.1.length c20), (4, .int .i64 s18.2), (5, .pointer (some ⟨b34, 0, none⟩)), (6, .bool ((decide (y29.Kind ≥ 1)) && decide (y29.Kind ≤ 5))), (33, .bool p36)] ∧ own = [.osl (.slice a19 s18.1.length c20) 1 4 ls21, .blk b34 (Zak (cN y29) 38)] ∧ Hle H25 H') ?_ ?_
    ·rintro p36 _ _ H37 ⟨rfl, rfl, hle38⟩
     have hA40 := All2.mono (fun _ _ => GoT.mono hle38) hA22
     refine Zb3 (fun p41 env own H' => ∃ a42 c43 ls44, env = [(0, .slice a0_0 x0.length c0_0), (3, .slice a42 p41.1.length c43), (4, .int .i64 s18.2), (5, .pointer (some ⟨b34, 0, none⟩)), (6, .bool p41.2)] ∧ own = [.osl (.slice a42 p41.1.length c43) 1 4 ls44, .blk b34 (Zak (cN y29) 38)] ∧ Hle H37 H' ∧ All2 (GoT.rep H') ls44 p41.1) ?_ ?_
     ·rintro p41 _ _ H46 ⟨a42, c43, ls44, rfl, rfl, hle47, hA45⟩
      refine Zae <| Zae <| Zaa ?_
      refine ZeI (fun p49 env own H' => env = [(0, .slice a0_0 x0.length c0_0), (3, .slice a42 p41.1.length c43), (4, .int .i64 s18.2), (5, .pointer (some ⟨b34, 0, none⟩)), (6, .bool p41.2), (47, .bool p49)] ∧ own = [.osl (.slice a42 p41.1.length c43) 1 4 ls44, .blk b34 (Zak (cN y29) 38)] ∧ Hle H46 H') ?_ ?_
      ·rintro p49 _ _ H50 ⟨rfl, rfl, hle51⟩
       have hA53 := All2.mono (fun _ _ => GoT.mono hle51) hA45
       refine Zb3 (fun p54 env own H' => ∃ a55 c56 ls57, env = [(0, .slice a0_0 x0.length c0_0), (3, .slice a55 p54.1.length c56), (4, .int .i64 s18.2), (6, .bool p54.2)] ∧ own = [.osl (.slice a55 p54.1.length c56) 1 4 ls57] ∧ Hle H50 H' ∧ All2 (GoT.rep H') ls57 p54.1) ?_ ?_
       ·rintro p54 _ _ H59 ⟨a55, c56, ls57, rfl, rfl, hle60, hA58⟩
        refine Zaa <| Zad rfl <| Zad rfl ?_
        refine Zdw (xs := [.tmp 57]) rfl rfl (by simp only [List.mem_cons, List.not_mem_nil, or_false, forall_eq_or_imp, forall_eq]; exact ⟨rfl, rfl⟩) rfl rfl fun b62 => ?_
        have hA63 : All2 (GoT.rep H59) [[.bool p54.2]] ([p54.2] : List Bool) := ZaZ (([p54.2] : List Bool))
        refine Zfl 0 1 rfl rfl rfl hA58 rfl hA63 fun a65 c66 h67 hA68 => ?_
        refine Zah rfl <| Zac <| Zav <| Zaa <| Zad rfl <| ZbM rfl rfl <| Zah rfl <| Zac ?_
        exact Zag (by exact ⟨rfl, rfl, rfl, trivial⟩) (Zam (by exact (.cons_cons _ (.cons _ .slnil))) (ih24 ((p54.1 ++ ([p54.2] : List Bool)), w64 (s18.2 + 1)) _ _ _ ⟨_, _, _, rfl, rfl, (Hle.trans (Hle.trans (Hle.trans (Hle.trans hle26 hle38) hle47) hle51) hle60), hA68⟩))
       ·intro J69
        refine Zao rfl (fun h70 => ?_) (fun h70 => ?_)
        ·refine Zaa <| Zad rfl <| Zad rfl ?_
         refine Zax p41.2 (fun h71 => ?_) (fun h71 => ?_)
         ·refine Zaf rfl rfl h71 <| Zad rfl <| Zaf rfl rfl h71 <| o_fa rfl <| Zaf rfl rfl h71 <| o_ld 1 rfl rfl rfl <| Zaf rfl rfl h71 ?_
          refine Zc2 0 rfl hA53 rfl rfl fun y72 bk74 vs75 h73 ha76 hi77 hr78 => ?_
          subst hr78
          subst ha76
          refine Zaf rfl rfl h71 ?_
          refine ZdL 0 0 rfl hi77 rfl rfl rfl ?_
          refine Zan rfl h71 rfl <| Zah rfl <| Zac ?_
          exact Zag (by exact ⟨rfl, rfl, rfl, rfl, trivial⟩) (Zam (by exact (.cons_cons _ (.cons _ .slnil))) (J69 (p41.1, y72) _ _ _ ⟨_, _, _, rfl, rfl, .refl _, hA53⟩))
         ·refine Zab rfl rfl h71 <| Zab rfl rfl h71 <| Zab rfl rfl h71 <| Zab rfl rfl h71 <| Zab rfl rfl h71 <| Zal rfl h71 rfl <| Zah rfl <| Zac ?_
          exact Zag (by exact ⟨rfl, rfl, rfl, rfl, trivial⟩) (Zam (by exact (.cons_cons _ (.cons _ .slnil))) (J69 (p41.1, false) _ _ _ ⟨_, _, _, rfl, rfl, .refl _, hA53⟩))
        ·refine Zar ?_
         exact Zag (by exact ⟨rfl, rfl, rfl, rfl, trivial⟩) (Zam (by exact (.cons_cons _ (.cons _ .slnil))) (J69 (p41.1, p41.2) _ _ _ ⟨_, _, _, rfl, rfl, .refl _, hA53⟩))
      ·intro J79
       refine o_fa rfl <| o_ld 1 rfl rfl rfl ?_
       refine s_bg fun y80 h81 => ?_
       refine Zas rfl rfl (ZaI k _ y29.Kind h81) ?_
       refine o_gt rfl rfl <| Zad rfl ?_
       refine Zax (decide (y80 > 1)) (fun h82 => ?_) (fun h82 => ?_)
       ·refine Zaf rfl rfl h82 <| o_ld 1 rfl rfl rfl <| Zaf rfl rfl h82 <| Zad rfl <| Zaf rfl rfl h82 ?_
        refine s_bg fun y83 h84 => ?_
        refine Zas rfl rfl (ZcF k _ y29 s18.2 h84) ?_
        refine Zan rfl h82 rfl ?_
        exact Zag (by exact ⟨rfl, rfl, rfl, rfl, rfl, rfl, trivial⟩) (Zam (by exact (.cons_cons _ (.cons_cons _ .slnil))) (J79 y83 _ _ _ ⟨rfl, rfl, .refl _⟩))
       ·refine Zab rfl rfl h82 <| Zab rfl rfl h82 <| Zab rfl rfl h82 <| Zal rfl h82 rfl ?_
        exact Zag (by exact ⟨rfl, rfl, rfl, rfl, rfl, rfl, trivial⟩) (Zam (by exact (.cons_cons _ (.cons_cons _ .slnil))) (J79 false _ _ _ ⟨rfl, rfl, .refl _⟩))
     ·intro J85
      refine Zao rfl (fun h86 => ?_) (fun h86 => ?_)
      ·refine Zaa <| Zad rfl <| o_fa rfl <| o_ld 1 rfl rfl rfl ?_
       refine Zc2 0 rfl hA40 rfl rfl fun y87 bk89 vs90 h88 ha91 hi92 hr93 => ?_
       subst hr93
       subst ha91
       refine ZdL 0 0 rfl hi92 rfl rfl rfl ?_
       refine Zah rfl <| Zac ?_
       exact Zag (by exact ⟨rfl, rfl, rfl, rfl, rfl, trivial⟩) (Zam (by exact (.cons_cons _ (.cons_cons _ .slnil))) (J85 (s18.1, y87) _ _ _ ⟨_, _, _, rfl, rfl, .refl _, hA40⟩))
      ·refine Zar ?_
       exact Zag (by exact ⟨rfl, rfl, rfl, rfl, rfl, trivial⟩) (Zam (by exact (.cons_cons _ (.cons_cons _ .slnil))) (J85 (s18.1, ((decide (y29.Kind ≥ 1)) && decide (y29.Kind ≤ 5))) _ _ _ ⟨_, _, _, rfl, rfl, .refl _, hA40⟩))
    ·intro J94
     refine o_fa rfl <| o_ld 1 rfl rfl rfl ?_
     refine s_bg fun y95 h96 => ?_
     refine Zas rfl rfl (ZaI k _ y29.Kind h96) ?_
     refine o_gt rfl rfl <| Zad rfl ?_
     refine Zax (decide (y95 > 0)) (fun h97 => ?_) (fun h97 => ?_)
     ·refine Zaf rfl rfl h97 <| o_ld 1 rfl rfl rfl <| Zaf rfl rfl h97 <| Zad rfl <| Zaf rfl rfl h97 ?_
      refine s_bg fun y98 h99 => ?_
      refine Zas rfl rfl (ZcF k _ y29 s18.2 h99) ?_
      refine Zan rfl h97 rfl ?_
      exact Zag (by exact ⟨rfl, rfl, rfl, rfl, rfl, rfl, trivial⟩) (Zam (by exact (.cons_cons _ (.cons_cons _ .slnil))) (J94 y98 _ _ _ ⟨rfl, rfl, .refl _⟩))
     ·refine Zab rfl rfl h97 <| Zab rfl rfl h97 <| Zab rfl rfl h97 <| Zal rfl h97 rfl ?_
      exact Zag (by exact ⟨rfl, rfl, rfl, rfl, rfl, rfl, trivial⟩) (Zam (by exact (.cons_cons _ (.cons_cons _ .slnil))) (J94 false _ _ _ ⟨rfl, rfl, .refl _⟩))
   ·intro J100
    refine o_fa rfl <| o_ld 1 rfl rfl rfl <| o_ge rfl rfl <| Zad rfl ?_
    refine Zcw (decide (y29.Kind ≥ 1)) (fun h101 => ?_) (fun h101 => ?_)
    ·refine Zaf rfl rfl h101 <| o_fa rfl <| Zaf rfl rfl h101 <| o_ld 1 rfl rfl rfl <| Zaf rfl rfl h101 <| o_le rfl rfl <| Zan rfl h101 rfl <| Zah rfl ?_
     exact Zag (by exact ⟨rfl, rfl, rfl, rfl, lkb rfl (by first | simp only [h101, Bool.true_and, Bool.and_true, Bool.false_and, Bool.and_false, Bool.true_or, Bool.false_or, Bool.or_true, Bool.or_false, Bool.not_true, Bool.not_false] | simp [h101]), trivial⟩) (Zam (by exact (.cons_cons _ (.cons_cons _ .slnil))) J100)
    ·refine Zab rfl rfl h101 <| Zab rfl rfl h101 <| Zab rfl rfl h101 <| Zal rfl h101 rfl <| Zah rfl ?_
     exact Zag (by exact ⟨rfl, rfl, rfl, rfl, lkb rfl (by first | simp only [h101, Bool.true_and, Bool.and_true, Bool.false_and, Bool.and_false, Bool.true_or, Bool.false_or, Bool.or_true, Bool.or_false, Bool.not_true, Bool.not_false] | simp [h101]), trivial⟩) (Zam (by exact (.cons_cons _ (.cons_cons _ .slnil))) J100)
  ·refine Zbf rfl ?_
   exact Zag (by exact ⟨rfl, trivial⟩) (Zam (by exact (.cons_cons _ .slnil)) (J9 s18.1 _ _ _ ⟨_, _, _, rfl, rfl, hle26, hA22⟩))
def Za6 (k : Nat) (x0 : (List Node)) : Nat → (List Int) × Int × Int → Option (Int)
 | 0, _ => none
 | q18 + 1, s13 =>
  if (decide (s13.2.2 < (x0.length : Int))) = true then
   (rd x0 s13.2.2).bind fun y24 =>
   (ZaE k y24.Kind).bind fun y29 =>
   (if (decide (y29 > 0)) = true then
     (rd x0 s13.2.2).bind fun y77 =>
     (rd s13.1 y77.A).bind fun y82 =>
     some (s13.1, imax 1 (w64 (y82 + 1)))
    else
     some (s13.1, 1)).bind fun p31 =>
   (rd x0 s13.2.2).bind fun y39 =>
   (ZaE k y39.Kind).bind fun y44 =>
   (if (decide (y44 > 1)) = true then
     (rd x0 s13.2.2).bind fun y63 =>
     (rd p31.1 y63.B).bind fun y68 =>
     some (p31.1, imax p31.2 (w64 (y68 + 1)))
    else
     some (p31.1, p31.2)).bind fun p46 =>
   (app p46.1 ([p46.2] : List Int)).bind fun _ =>
   Za6 k x0 q18 ((p46.1 ++ ([p46.2] : List Int)), imax s13.2.1 p46.2, w64 (s13.2.2 + 1))
  else
   some s13.2.1
def ZcO (k : Nat) (x0 : (List Node)) : Option Int :=
 (Za6 k x0 k (([] : List Int), 0, 0)).bind fun p1 =>
 some p1
theorem Zl0 : Tryz.prog.funcs[134]? = some Tryz.f134 := by kernel_rfl
theorem ZeE (k : Nat) (H : Heap) (x0 : (List Node)) (a0_0 : Option Addr) (c0_0 : Nat) (hx0_0 : RSl H a0_0 c0_0 x0) {r : Int} (hr : ZcO k x0 = some r) :
  Fn Tryz.prog 134 [.slice a0_0 x0.length c0_0] H [] fun H' v out => v = .int .i64 r ∧ out = [] := by
 refine Zaq (args := [.slice a0_0 x0.length c0_0]) (n := 57) (Φ := fun r H' v out => v = .int .i64 r ∧ out = []) hr Zl0 rfl rfl rfl fun w => ?_
 refine s_eq (by rw [ZcO]) ?_
 refine Zae <| Zaa <| Zah rfl <| Zac <| Zae <| Zaa <| Zah rfl <| Zac <| Zae <| Zaa <| Zah rfl <| Zac ?_
 refine Zae <| Zae <| Zaa <| Zah rfl <| Zac ?_
 refine Zb3 (fun p1 env own H' => env = [(4, .int .i64 p1)] ∧ own = [] ∧ Hle H H') ?_ ?_
 ·rintro p1 _ _ H2 ⟨rfl, rfl, hle3⟩
  refine Zae <| Zaa <| Zad rfl <| Zah rfl <| Zac ?_
  exact s_r1 2 (.int .i64 p1) Zl0 ⟨rfl, rfl⟩
 ·intro J4
  refine Zat ?_
  refine Zc4 (sz := 1) (t := 3) ?_
  have hA6 : All2 (GoT.rep H) [] ([] : List Int) := Zbv
  refine Zag (env' := [(0, .slice a0_0 x0.length c0_0), (3, .slice none ([] : List Int).length 0), (4, .int .i64 0), (5, .int .i64 0)]) (by exact ⟨rfl, rfl, rfl, rfl, trivial⟩) ?_
  refine Zam (own' := [.osl (.slice none ([] : List Int).length 0) 1 3 []]) (.cons_cons _ .slnil) ?_
  refine Za2 (fun q s13 => Za6 k x0 q s13) (fun s13 env own H' => ∃ a14 c15 ls16, env = [(0, .slice a0_0 x0.length c0_0), (3, .slice a14 s13.1.length c15), (4, .int .i64 s13.2.1), (5, .int .i64 s13.2.2)] ∧ own = [.osl (.slice a14 s13.1.length c15) 1 3 ls16] ∧ Hle H H' ∧ All2 (GoT.rep H') ls16 s13.1) (fun _ => rfl) ?_ k (([] : List Int), 0, 0) ⟨_, _, _, rfl, rfl, .refl _, hA6⟩
  rintro q18 ih19 s13 _ _ H20 ⟨a14, c15, ls16, rfl, rfl, hle21, hA17⟩
  refine s_eq (by rw [Za6]) ?_
  have hs22 := RSl.mono hle21 hx0_0
  refine Zae <| Zae <| Zaa <| Zad rfl <| Zad rfl <| ZaG rfl <| o_lt rfl rfl <| Zac ?_
  refine Zao rfl (fun h23 => ?_) (fun h23 => ?_)
  ·refine Zar <| Zae <| Zat <| Zae <| Zaa <| Zah rfl <| Zac <| Zae <| Zae <| Zaa <| Zad rfl <| Zad rfl ?_
   refine Zce hs22 rfl rfl fun y24 bk26 of27 h25 hc28 => ?_
   refine o_fa rfl ?_
   refine ZaP 0 hc28 rfl rfl rfl ?_
   refine s_bg fun y29 h30 => ?_
   refine Zas rfl rfl (ZaI k _ y24.Kind h30) ?_
   refine o_gt rfl rfl <| Zac ?_
   refine Zb3 (fun p31 env own H' => ∃ a32 c33 ls34, env = [(0, .slice a0_0 x0.length c0_0), (3, .slice a32 p31.1.length c33), (4, .int .i64 s13.2.1), (5, .int .i64 s13.2.2), (6, .int .i64 p31.2)] ∧ own = [.osl (.slice a32 p31.1.length c33) 1 3 ls34] ∧ Hle H20 H' ∧ All2 (GoT.rep H') ls34 p31.1) ?_ ?_
   ·rintro p31 _ _ H36 ⟨a32, c33, ls34, rfl, rfl, hle37, hA35⟩
    have hs38 := RSl.mono hle37 hs22
    refine Zae <| Zae <| Zaa <| Zad rfl <| Zad rfl ?_
    refine Zce hs38 rfl rfl fun y39 bk41 of42 h40 hc43 => ?_
    refine o_fa rfl ?_
    refine ZaP 0 hc43 rfl rfl rfl ?_
    refine s_bg fun y44 h45 => ?_
    refine Zas rfl rfl (ZaI k _ y39.Kind h45) ?_
    refine o_gt rfl rfl <| Zac ?_
    refine Zb3 (fun p46 env own H' => ∃ a47 c48 ls49, env = [(0, .slice a0_0 x0.length c0_0), (3, .slice a47 p46.1.length c48), (4, .int .i64 s13.2.1), (5, .int .i64 s13.2.2), (6, .int .i64 p46.2)] ∧ own = [.osl (.slice a47 p46.1.length c48) 1 3 ls49] ∧ Hle H36 H' ∧ All2 (GoT.rep H') ls49 p46.1) ?_ ?_
    ·rintro p46 _ _ H51 ⟨a47, c48, ls49, rfl, rfl, hle52, hA50⟩
     refine Zae <| Zaa <| Zad rfl <| Zad rfl ?_
     refine Zdw (xs := [.tmp 50]) rfl rfl (by simp only [List.mem_cons, List.not_mem_nil, or_false, forall_eq_or_imp, forall_eq]; exact ⟨rfl, rfl⟩) rfl rfl fun b54 => ?_
     have hA55 : All2 (GoT.rep H51) [[.int .i64 p46.2]] ([p46.2] : List Int) := ZaZ (([p46.2] : List Int))
     refine Zfl 0 1 rfl rfl rfl hA50 rfl hA55 fun a57 c58 h59 hA60 => ?_
     refine Zah rfl <| Zac <| Zaa <| Zad rfl <| Zad rfl ?_
     refine ZjV rfl rfl ?_
     refine Zah rfl <| Zac <| Zav <| Zaa <| Zad rfl <| ZbM rfl rfl <| Zah rfl <| Zac ?_
     exact Zag (by exact ⟨rfl, rfl, rfl, rfl, trivial⟩) (Zam (by exact (.cons_cons _ (.cons _ .slnil))) (ih19 ((p46.1 ++ ([p46.2] : List Int)), imax s13.2.1 p46.2, w64 (s13.2.2 + 1)) _ _ _ ⟨_, _, _, rfl, rfl, (Hle.trans (Hle.trans hle21 hle37) hle52), hA60⟩))
    ·intro J61
     refine Zao rfl (fun h62 => ?_) (fun h62 => ?_)
     ·refine Zaa <| Zad rfl <| Zad rfl <| Zad rfl <| Zad rfl ?_
      refine Zce hs38 rfl rfl fun y63 bk65 of66 h64 hc67 => ?_
      refine o_fa rfl ?_
      refine ZaP 2 hc67 rfl rfl rfl ?_
      refine Zc2 0 rfl hA35 rfl rfl fun y68 bk70 vs71 h69 ha72 hi73 hr74 => ?_
      subst hr74
      subst ha72
      refine ZdL 0 0 rfl hi73 rfl rfl rfl ?_
      refine ZbM rfl rfl ?_
      refine ZjV rfl rfl ?_
      refine Zah rfl <| Zac ?_
      exact Zag (by exact ⟨rfl, rfl, rfl, rfl, rfl, trivial⟩) (Zam (by exact (.cons_cons _ .slnil)) (J61 (p31.1, imax p31.2 (w64 (y68 + 1))) _ _ _ ⟨_, _, _, rfl, rfl, .refl _, hA35⟩))
     ·refine Zar ?_
      exact Zag (by exact ⟨rfl, rfl, rfl, rfl, rfl, trivial⟩) (Zam (by exact (.cons_cons _ .slnil)) (J61 (p31.1, p31.2) _ _ _ ⟨_, _, _, rfl, rfl, .refl _, hA35⟩))
   ·intro J75
    refine Zao rfl (fun h76 => ?_) (fun h76 => ?_)
    ·refine Zaa <| Zad rfl <| Zad rfl <| Zad rfl <| Zad rfl ?_
     refine Zce hs22 rfl rfl fun y77 bk79 of80 h78 hc81 => ?_
     refine o_fa rfl ?_
     refine ZaP 1 hc81 rfl rfl rfl ?_
     refine Zc2 0 rfl hA17 rfl rfl fun y82 bk84 vs85 h83 ha86 hi87 hr88 => ?_
     subst hr88
     subst ha86
     refine ZdL 0 0 rfl hi87 rfl rfl rfl ?_
     refine ZbM rfl rfl ?_
     refine ZjV rfl rfl ?_
     refine Zah rfl <| Zac ?_
     exact Zag (by exact ⟨rfl, rfl, rfl, rfl, rfl, trivial⟩) (Zam (by exact (.cons_cons _ .slnil)) (J75 (s13.1, imax 1 (w64 (y82 + 1))) _ _ _ ⟨_, _, _, rfl, rfl, .refl _, hA17⟩))
    ·refine Zar ?_
     exact Zag (by exact ⟨rfl, rfl, rfl, rfl, rfl, trivial⟩) (Zam (by exact (.cons_cons _ .slnil)) (J75 (s13.1, 1) _ _ _ ⟨_, _, _, rfl, rfl, .refl _, hA17⟩))
  ·refine Zbf rfl ?_
   exact Zag (by exact ⟨rfl, trivial⟩) (Zam (by exact (.cons _ .slnil)) (J4 s13.2.1 _ _ _ ⟨rfl, rfl, hle21⟩))
def Za7 (k : Nat) (x0 : (List Node)) : Nat → (List Int) × Int → Option (LX (Int) ((List Int)))
 | 0, _ => none
 | q112 + 1, s107 =>
  if (decide (s107.2 < (x0.length : Int))) = true then
   (rd x0 s107.2).bind fun y118 =>
   (Zcc k y118 s107.2).bind fun y123 =>
   if (!y123) = true then
    some (.ret 2)
   else
    (rd x0 s107.2).bind fun y126 =>
    (ZaE k y126.Kind).bind fun y131 =>
    (if (decide (y131 > 0)) = true then
      (rd x0 s107.2).bind fun y172 =>
      (rd s107.1 y172.A).bind fun y177 =>
      (rd s107.1 y172.A).bind fun y184 =>
      some (s107.1.set (y172.A : Int).toNat (w64 (y177 + 1)))
     else
      some s107.1).bind fun p133 =>
    (rd x0 s107.2).bind fun y141 =>
    (ZaE k y141.Kind).bind fun y146 =>
    if (decide (y146 > 1)) = true then
     (rd x0 s107.2).bind fun y149 =>
     (rd p133 y149.B).bind fun y154 =>
     (rd p133 y149.B).bind fun y161 =>
     Za7 k x0 q112 ((p133.set (y149.B : Int).toNat (w64 (y154 + 1))), w64 (s107.2 + 1))
    else
     Za7 k x0 q112 (p133, w64 (s107.2 + 1))
  else
   some (.out s107.1)
def Zbp (k : Nat) (x0 : (List Node)) : Nat → (List Int) × (List Bool) × Int → Option (LX (Int) (Unit))
 | 0, _ => none
 | q41 + 1, s32 =>
  if (decide (s32.2.2 < (x0.length : Int))) = true then
   (if (decide ((w64 (s32.2.2 + 1)) < (x0.length : Int))) = true then
     (rd s32.1 s32.2.2).bind fun y62 =>
     if (y62 != 1) = true then
      some (s32.1, s32.2.1, true)
     else
      (rd x0 s32.2.2).bind fun y70 =>
      if (y70.Kind == 10) = true then
       (rd x0 s32.2.2).bind fun y76 =>
       (rd s32.2.1 y76.A).bind fun y81 =>
       some (s32.1, s32.2.1, !y81)
      else
       some (s32.1, s32.2.1, false)
    else
     (rd x0 s32.2.2).bind fun y88 =>
     if (y88.Kind == 10) = true then
      (rd x0 s32.2.2).bind fun y94 =>
      (rd s32.2.1 y94.A).bind fun y99 =>
      some (s32.1, s32.2.1, !y99)
     else
      some (s32.1, s32.2.1, false)).bind fun p47 =>
   if (p47.2.2) = true then
    some (.ret 2)
   else
    Zbp k x0 q41 (p47.1, p47.2.1, w64 (s32.2.2 + 1))
  else
   some (.out ())
def Zb1 (k : Nat) (x0 : (List Node)) : Option Int :=
 if (((decide ((x0.length : Int) < 1)) || decide ((x0.length : Int) > 64))) = true then
  some 2
 else
  (mks (x0.length : Int) (0 : Int)).bind fun _ =>
  (Za7 k x0 k ((List.replicate ((x0.length : Int) : Int).toNat (0 : Int)), 0)).bind (LX.go fun p6 =>
  (Zcr k x0).bind fun y14 =>
  (Zbp k x0 k (p6, y14, 0)).bind (LX.go fun p24 =>
  (ZcO k x0).bind fun y28 =>
  if (decide (y28 > 16)) = true then
   some 220
  else
   some 0))
theorem Zjm : Tryz.prog.funcs[75]? = some Tryz.f75 := by kernel_rfl
theorem Zdt (k : Nat) (H : Heap) (x0 : (List Node)) (a0_0 : Option Addr) (c0_0 : Nat) (hx0_0 : RSl H a0_0 c0_0 x0) {r : Int} (hr : Zb1 k x0 = some r) :
  Fn Tryz.prog 75 [.slice a0_0 x0.length c0_0] H [] fun H' v out => v = .int .i64 r ∧ out = [] := by
 refine Zaq (args := [.slice a0_0 x0.length c0_0]) (n := 107) (Φ := fun r H' v out => v = .int .i64 r ∧ out = []) hr Zjm rfl rfl rfl fun w => ?_
 refine s_eq (by rw [Zb1]) ?_
 refine Zae <| Zaa <| Zah rfl <| Zac <| Zae <| Zae <| Zaa ?_
 refine Zfs [(0, .slice a0_0 x0.length c0_0), (14, .bool ((decide ((x0.length : Int) < 1)) || decide ((x0.length : Int) > 64)))] [] ?_ ?_
 ·refine Zao rfl (fun h1 => ?_) (fun h1 => ?_)
  ·refine Zae <| Zaa <| Zah rfl <| Zac ?_
   exact s_r1 2 (.int .i64 2) Zjm ⟨rfl, rfl⟩
  ·refine Zar <| Zae <| Zaa <| Zad rfl <| ZaG rfl ?_
   refine Zk1 (z := (0 : Int)) (zc := [.int .i64 0]) rfl rfl (fun _ => ⟨.int .i64 0, by kernel_rfl, rfl⟩) rfl fun b2 h3 hA4 => ?_
   refine Zah rfl <| Zac <| Zae <| Zae <| Zaa <| Zah rfl <| Zac ?_
   refine ZbR (fun p6 env own H' => ∃ a7 c8 ls9, env = [(0, .slice a0_0 x0.length c0_0), (3, .slice a7 p6.length c8)] ∧ own = [.osl (.slice a7 p6.length c8) 1 3 ls9] ∧ Hle H H' ∧ All2 (GoT.rep H') ls9 p6) ?_ ?_
   ·rintro p6 _ _ H11 ⟨a7, c8, ls9, rfl, rfl, hle12, hA10⟩
    have hs13 := RSl.mono hle12 hx0_0
    refine Zae <| Zaa <| Zad rfl ?_
    refine s_bg fun y14 h15 => ?_
    refine Zbg [] _ rfl rfl (.refl _) (ZeD k _ x0 _ _ hs13 h15) ?_
    rintro _ H19 _ hle20 ⟨a16, c17, rfl, rfl⟩
    have hs21 := RSl.mono hle20 hs13
    have hA22 := All2.mono (fun _ _ => GoT.mono hle20) hA10
    have hA23 : All2 (GoT.rep H19) (y14.map GoE.enc) y14 := ZaZ _
    refine Zah rfl <| Zac <| Zae <| Zae <| Zaa <| Zah rfl <| Zac ?_
    refine ZbR (fun p24 env own H' => env = [(0, .slice a0_0 x0.length c0_0)] ∧ own = [] ∧ Hle H19 H') ?_ ?_
    ·rintro p24 _ _ H25 ⟨rfl, rfl, hle26⟩
     have hs27 := RSl.mono hle26 hs21
     refine Zae <| Zae <| Zaa <| Zad rfl ?_
     refine s_bg fun y28 h29 => ?_
     refine Zas rfl rfl (ZeE k _ x0 _ _ hs27 h29) ?_
     refine o_gt rfl rfl <| Zac ?_
     refine Zao rfl (fun h30 => ?_) (fun h30 => ?_)
     ·refine Zae <| Zaa <| Zah rfl <| Zac ?_
      exact s_r1 2 (.int .i64 220) Zjm ⟨rfl, rfl⟩
     ·refine Zar <| Zae <| Zaa <| Zah rfl <| Zac ?_
      exact s_r1 2 (.int .i64 0) Zjm ⟨rfl, rfl⟩
    ·intro J31
     refine Zat ?_
     refine Zag (env' := [(0, .slice a0_0 x0.length c0_0), (3, .slice a7 p6.length c8), (5, .slice a16 y14.length c17), (6, .int .i64 0)]) (by exact ⟨rfl, rfl, rfl, rfl, trivial⟩) ?_
     refine Zam (own' := [.osl (.slice a7 p6.length c8) 1 3 ls9, .osl (.slice a16 y14.length c17) 1 4 (y14.map GoE.enc)]) (.cons_cons _ (.cons_cons _ .slnil)) ?_
     refine Za2 (fun q s32 => Zbp k x0 q s32) (fun s32 env own H' => ∃ a33 c34 ls35 a37 c38 ls39, env = [(0, .slice a0_0 x0.length c0_0), (3, .slice a33 s32.1.length c34), (5, .slice a37 s32.2.1.length c38), (6, .int .i64 s32.2.2)] ∧ own = [.osl (.slice a33 s32.1.length c34) 1 3 ls35, .osl (.slice a37 s32.2.1.length c38) 1 4 ls39] ∧ Hle H19 H' ∧ All2 (GoT.rep H') ls35 s32.1 ∧ All2 (GoT.rep H') ls39 s32.2.1) (fun _ => rfl) ?_ k (p6, y14, 0) ⟨_, _, _, _, _, _, rfl, rfl, .refl _, hA22, hA23⟩
     rintro q41 ih42 s32 _ _ H43 ⟨a33, c34, ls35, a37, c38, ls39, rfl, rfl, hle44, hA36, hA40⟩
     refine s_eq (by rw [Zbp]) ?_
     have hs45 := RSl.mono hle44 hs21
     refine Zae <| Zae <| Zaa <| Zad rfl <| Zad rfl <| ZaG rfl <| o_lt rfl rfl <| Zac ?_
     refine Zao rfl (fun h46 => ?_) (fun h46 => ?_)
     ·refine Zar <| Zae <| Zat <| Zae <| Zaa ?_
      refine ZeI (fun p47 env own H' => ∃ a48 c49 ls50 a52 c53 ls54, env = [(0, .slice a0_0 x0.length c0_0), (3, .slice a48 p47.1.length c49), (5, .slice a52 p47.2.1.length c53), (6, .int .i64 s32.2.2), (103, .bool p47.2.2)] ∧ own = [.osl (.slice a48 p47.1.length c49) 1 3 ls50, .osl (.slice a52 p47.2.1.length c53) 1 4 ls54] ∧ Hle H43 H' ∧ All2 (GoT.rep H') ls50 p47.1 ∧ All2 (GoT.rep H') ls54 p47.2.1) ?_ ?_
      ·rintro p47 _ _ H56 ⟨a48, c49, ls50, a52, c53, ls54, rfl, rfl, hle57, hA51, hA55⟩
       refine Zao rfl (fun h59 => ?_) (fun h59 => ?_)
       ·refine Zae <| Zaa <| Zah rfl <| Zac <| ZbQ ?_
        exact s_r1 2 (.int .i64 2) Zjm ⟨rfl, rfl⟩
       ·refine Zar <| Zav <| Zaa <| Zad rfl <| ZbM rfl rfl <| Zah rfl <| Zac ?_
        exact Zag (by exact ⟨rfl, rfl, rfl, rfl, trivial⟩) (Zam (by exact (.cons_cons _ (.cons_cons _ .slnil))) (ih42 (p47.1, p47.2.1, w64 (s32.2.2 + 1)) _ _ _ ⟨_, _, _, _, _, _, rfl, rfl, (Hle.trans hle44 hle57), hA51, hA55⟩))
      ·intro J60
       refine Zad rfl <| ZbM rfl rfl <| Zad rfl <| ZaG rfl <| o_lt rfl rfl <| Zad rfl ?_
       refine Zax (decide ((w64 (s32.2.2 + 1)) < (x0.length : Int))) (fun h61 => ?_) (fun h61 => ?_)
       ·refine Zaf rfl rfl h61 <| Zad rfl <| Zaf rfl rfl h61 <| Zad rfl <| Zaf rfl rfl h61 ?_
        refine Zc2 0 rfl hA36 rfl rfl fun y62 bk64 vs65 h63 ha66 hi67 hr68 => ?_
        subst hr68
        subst ha66
        refine Zaf rfl rfl h61 ?_
        refine ZdL 0 0 rfl hi67 rfl rfl rfl ?_
        refine Zaf rfl rfl h61 <| o_ne rfl rfl <| Zan rfl h61 rfl <| Zad rfl ?_
        refine Zax (y62 != 1) (fun h69 => ?_) (fun h69 => ?_)
        ·refine Zab rfl rfl h69 <| Zab rfl rfl h69 <| Zab rfl rfl h69 <| Zab rfl rfl h69 <| Zab rfl rfl h69 <| Zab rfl rfl h69 <| Zab rfl rfl h69 <| ZaA rfl rfl <| ZaA rfl rfl <| ZaA rfl rfl <| ZaA rfl rfl <| ZaA rfl rfl ?_
         refine ZaA rfl rfl <| ZaA rfl rfl <| ZaA rfl rfl <| ZaA rfl rfl <| Zab rfl rfl h69 <| Zan rfl h69 rfl ?_
         exact Zag (by exact ⟨rfl, rfl, rfl, rfl, rfl, trivial⟩) (Zam (by exact (.cons_cons _ (.cons_cons _ .slnil))) (J60 (s32.1, s32.2.1, true) _ _ _ ⟨_, _, _, _, _, _, rfl, rfl, .refl _, hA36, hA40⟩))
        ·refine Zaf rfl rfl h69 <| Zad rfl <| Zaf rfl rfl h69 <| Zad rfl <| Zaf rfl rfl h69 ?_
         refine Zce hs45 rfl rfl fun y70 bk72 of73 h71 hc74 => ?_
         refine Zaf rfl rfl h69 <| o_fa rfl <| Zaf rfl rfl h69 ?_
         refine ZaP 0 hc74 rfl rfl rfl ?_
         refine Zaf rfl rfl h69 <| o_eq rfl rfl <| Zaf rfl rfl h69 <| Zad rfl ?_
         refine Zax (y70.Kind == 10) (fun h75 => ?_) (fun h75 => ?_)
         ·refine Zaf rfl rfl h75 <| Zad rfl <| Zaf rfl rfl h75 <| Zad rfl <| Zaf rfl rfl h75 <| Zad rfl <| Zaf rfl rfl h75 ?_
          refine Zce hs45 rfl rfl fun y76 bk78 of79 h77 hc80 => ?_
          refine Zaf rfl rfl h75 <| o_fa rfl <| Zaf rfl rfl h75 ?_
          refine ZaP 1 hc80 rfl rfl rfl ?_
          refine Zaf rfl rfl h75 ?_
          refine Zc2 1 rfl hA40 rfl rfl fun y81 bk83 vs84 h82 ha85 hi86 hr87 => ?_
          subst hr87
          subst ha85
          refine Zaf rfl rfl h75 ?_
          refine ZdL 1 0 rfl hi86 rfl rfl rfl ?_
          refine Zaf rfl rfl h75 <| Zdc rfl <| Zaf rfl rfl h69 <| Zan rfl h75 rfl <| Zal rfl h69 rfl ?_
          exact Zag (by exact ⟨rfl, rfl, rfl, rfl, rfl, trivial⟩) (Zam (by exact (.cons_cons _ (.cons_cons _ .slnil))) (J60 (s32.1, s32.2.1, !y81) _ _ _ ⟨_, _, _, _, _, _, rfl, rfl, .refl _, hA36, hA40⟩))
         ·refine Zab rfl rfl h75 <| Zab rfl rfl h75 <| Zab rfl rfl h75 <| Zab rfl rfl h75 <| Zab rfl rfl h75 <| Zab rfl rfl h75 <| Zab rfl rfl h75 <| Zab rfl rfl h75 <| Zab rfl rfl h75 <| Zaf rfl rfl h69 <| Zal rfl h75 rfl <| Zal rfl h69 rfl ?_
          exact Zag (by exact ⟨rfl, rfl, rfl, rfl, rfl, trivial⟩) (Zam (by exact (.cons_cons _ (.cons_cons _ .slnil))) (J60 (s32.1, s32.2.1, false) _ _ _ ⟨_, _, _, _, _, _, rfl, rfl, .refl _, hA36, hA40⟩))
       ·refine Zab rfl rfl h61 <| Zab rfl rfl h61 <| Zab rfl rfl h61 <| Zab rfl rfl h61 <| Zab rfl rfl h61 <| Zal rfl h61 rfl <| Zad rfl <| Zaf rfl rfl rfl <| Zad rfl <| Zaf rfl rfl rfl <| Zad rfl <| Zaf rfl rfl rfl ?_
        refine Zce hs45 rfl rfl fun y88 bk90 of91 h89 hc92 => ?_
        refine Zaf rfl rfl rfl <| o_fa rfl <| Zaf rfl rfl rfl ?_
        refine ZaP 0 hc92 rfl rfl rfl ?_
        refine Zaf rfl rfl rfl <| o_eq rfl rfl <| Zaf rfl rfl rfl <| Zad rfl ?_
        refine Zax (y88.Kind == 10) (fun h93 => ?_) (fun h93 => ?_)
        ·refine Zaf rfl rfl h93 <| Zad rfl <| Zaf rfl rfl h93 <| Zad rfl <| Zaf rfl rfl h93 <| Zad rfl <| Zaf rfl rfl h93 ?_
         refine Zce hs45 rfl rfl fun y94 bk96 of97 h95 hc98 => ?_
         refine Zaf rfl rfl h93 <| o_fa rfl <| Zaf rfl rfl h93 ?_
         refine ZaP 1 hc98 rfl rfl rfl ?_
         refine Zaf rfl rfl h93 ?_
         refine Zc2 1 rfl hA40 rfl rfl fun y99 bk101 vs102 h100 ha103 hi104 hr105 => ?_
         subst hr105
         subst ha103
         refine Zaf rfl rfl h93 ?_
         refine ZdL 1 0 rfl hi104 rfl rfl rfl ?_
         refine Zaf rfl rfl h93 <| Zdc rfl <| Zaf rfl rfl rfl <| Zan rfl h93 rfl <| Zal rfl rfl rfl ?_
         exact Zag (by exact ⟨rfl, rfl, rfl, rfl, rfl, trivial⟩) (Zam (by exact (.cons_cons _ (.cons_cons _ .slnil))) (J60 (s32.1, s32.2.1, !y99) _ _ _ ⟨_, _, _, _, _, _, rfl, rfl, .refl _, hA36, hA40⟩))
        ·refine Zab rfl rfl h93 <| Zab rfl rfl h93 <| Zab rfl rfl h93 <| Zab rfl rfl h93 <| Zab rfl rfl h93 <| Zab rfl rfl h93 <| Zab rfl rfl h93 <| Zab rfl rfl h93 <| Zab rfl rfl h93 <| Zaf rfl rfl rfl <| Zal rfl h93 rfl <| Zal rfl rfl rfl ?_
         exact Zag (by exact ⟨rfl, rfl, rfl, rfl, rfl, trivial⟩) (Zam (by exact (.cons_cons _ (.cons_cons _ .slnil))) (J60 (s32.1, s32.2.1, false) _ _ _ ⟨_, _, _, _, _, _, rfl, rfl, .refl _, hA36, hA40⟩))
     ·refine Zbf rfl ?_
      exact Zag (by exact ⟨rfl, trivial⟩) (Zam (by exact (.cons _ (.cons _ .slnil))) (J31 () _ _ _ ⟨rfl, rfl, hle44⟩))
   ·intro J106
    refine Zat ?_
    refine Zag (env' := [(0, .slice a0_0 x0.length c0_0), (3, .slice (some ⟨b2, 0, none⟩) (List.replicate ((x0.length : Int) : Int).toNat (0 : Int)).length ((x0.length : Int) : Int).toNat), (4, .int .i64 0)]) (by exact ⟨rfl, rfl, rfl, trivial⟩) ?_
    refine Zam (own' := [.osl (.slice (some ⟨b2, 0, none⟩) (List.replicate ((x0.length : Int) : Int).toNat (0 : Int)).length ((x0.length : Int) : Int).toNat) 1 3 _]) (.cons_cons _ .slnil) ?_
    refine Za2 (fun q s107 => Za7 k x0 q s107) (fun s107 env own H' => ∃ a108 c109 ls110, env = [(0, .slice a0_0 x0.length c0_0), (3, .slice a108 s107.1.length c109), (4, .int .i64 s107.2)] ∧ own = [.osl (.slice a108 s107.1.length c109) 1 3 ls110] ∧ Hle H H' ∧ All2 (GoT.rep H') ls110 s107.1) (fun _ => rfl) ?_ k ((List.replicate ((x0.length : Int) : Int).toNat (0 : Int)), 0) ⟨_, _, _, rfl, rfl, .refl _, hA4⟩
    rintro q112 ih113 s107 _ _ H114 ⟨a108, c109, ls110, rfl, rfl, hle115, hA111⟩
    refine s_eq (by rw [Za7]) ?_
    have hs116 := RSl.mono hle115 hx0_0
    refine Zae <| Zae <| Zaa <| Zad rfl <| Zad rfl <| ZaG rfl <| o_lt rfl rfl <| Zac ?_
    refine Zao rfl (fun h117 => ?_) (fun h117 => ?_)
    ·refine Zar <| Zae <| Zat <| Zae <| Zae <| Zaa <| Zad rfl <| Zad rfl ?_
     refine Zce hs116 rfl rfl fun y118 bk120 of121 h119 hc122 => ?_
     refine ZaP 0 hc122 rfl rfl rfl ?_
     refine Zad rfl ?_
     refine s_bg fun y123 h124 => ?_
     refine Zas rfl rfl (Zev k _ y118 s107.2 h124) ?_
     refine Zdc rfl <| Zac ?_
     refine Zao rfl (fun h125 => ?_) (fun h125 => ?_)
     ·refine Zae <| Zaa <| Zah rfl <| Zac <| ZbQ ?_
      exact s_r1 2 (.int .i64 2) Zjm ⟨rfl, rfl⟩
     ·refine Zar <| Zae <| Zae <| Zaa <| Zad rfl <| Zad rfl ?_
      refine Zce hs116 rfl rfl fun y126 bk128 of129 h127 hc130 => ?_
      refine o_fa rfl ?_
      refine ZaP 0 hc130 rfl rfl rfl ?_
      refine s_bg fun y131 h132 => ?_
      refine Zas rfl rfl (ZaI k _ y126.Kind h132) ?_
      refine o_gt rfl rfl <| Zac ?_
      refine Zb3 (fun p133 env own H' => ∃ a134 c135 ls136, env = [(0, .slice a0_0 x0.length c0_0), (3, .slice a134 p133.length c135), (4, .int .i64 s107.2)] ∧ own = [.osl (.slice a134 p133.length c135) 1 3 ls136] ∧ Hle H114 H' ∧ All2 (GoT.rep H') ls136 p133) ?_ ?_
      ·rintro p133 _ _ H138 ⟨a134, c135, ls136, rfl, rfl, hle139, hA137⟩
       have hs140 := RSl.mono hle139 hs116
       refine Zae <| Zaa <| Zad rfl <| Zad rfl ?_
       refine Zce hs140 rfl rfl fun y141 bk143 of144 h142 hc145 => ?_
       refine o_fa rfl ?_
       refine ZaP 0 hc145 rfl rfl rfl ?_
       refine s_bg fun y146 h147 => ?_
       refine Zas rfl rfl (ZaI k _ y141.Kind h147) ?_
       refine o_gt rfl rfl <| Zac ?_
       refine Zao rfl (fun h148 => ?_) (fun h148 => ?_)
       ·refine Zaa <| Zad rfl <| Zad rfl <| Zad rfl ?_
        refine Zce hs140 rfl rfl fun y149 bk151 of152 h150 hc153 => ?_
        refine o_fa rfl ?_
        refine ZaP 2 hc153 rfl rfl rfl ?_
        refine Zc2 0 rfl hA137 rfl rfl fun y154 bk156 vs157 h155 ha158 hi159 hr160 => ?_
        subst hr160
        subst ha158
        refine ZdL 0 0 rfl hi159 rfl rfl rfl ?_
        refine ZbM rfl rfl ?_
        refine Zc2 0 rfl hA137 rfl rfl fun y161 bk163 vs164 h162 ha165 hi166 hr167 => ?_
        subst hr167
        obtain rfl := s_bk ha165
        refine ZgL (l := p133) (ci := y149.B) 0 0 rfl hA137 hi166 rfl rfl rfl rfl rfl rfl (w64 (y154 + 1)) (rfl) fun ls168 hA169 => ?_
        refine Zag (env' := [(0, .slice a0_0 x0.length c0_0), (3, .slice (some ⟨bk156, 0, none⟩) (p133.set (y149.B : Int).toNat (w64 (y154 + 1))).length c135), (4, .int .i64 s107.2), (48, .slice a0_0 x0.length c0_0), (49, .int .i64 s107.2), (50, .pointer (some ⟨bk143, of144, none⟩)), (51, .pointer (some ⟨bk143, of144, none⟩)), (52, .int .i64 y141.Kind), (53, .int .i64 y146), (54, .bool (decide (y146 > 1))), (55, .slice (some ⟨bk156, 0, none⟩) (p133.set (y149.B : Int).toNat (w64 (y154 + 1))).length c135), (56, .slice a0_0 x0.length c0_0), (57, .int .i64 s107.2), (58, .pointer (some ⟨bk151, of152, none⟩)), (59, .pointer (some ⟨bk151, of152 + 2, none⟩)), (60, .int .i64 y149.B), (62, .int .i64 y154), (63, .int .i64 (w64 (y154 + 1)))]) (by exact ⟨rfl, (by first | (simp only [List.length_set]; rfl) | rfl), rfl, rfl, rfl, rfl, rfl, rfl, rfl, rfl, (by first | (simp only [List.length_set]; rfl) | rfl), rfl, rfl, rfl, rfl, rfl, rfl, rfl, trivial⟩) ?_
        refine ZbL (own' := [.osl (.slice (some ⟨bk156, 0, none⟩) (p133.set (y149.B : Int).toNat (w64 (y154 + 1))).length c135) 1 3 ls168]) (by first | (simp only [List.length_set]; done) | (simp only [List.length_set]; rfl) | rfl) ?_
        refine Zac <| Zav <| Zaa <| Zad rfl <| ZbM rfl rfl <| Zah rfl <| Zac ?_
        exact Zag (by exact ⟨rfl, rfl, rfl, trivial⟩) (Zam (by exact (.cons_cons _ .slnil)) (ih113 ((p133.set (y149.B : Int).toNat (w64 (y154 + 1))), w64 (s107.2 + 1)) _ _ _ ⟨_, _, _, rfl, rfl, (Hle.trans hle115 hle139), hA169⟩))
       ·refine Zar <| Zav <| Zaa <| Zad rfl <| ZbM rfl rfl <| Zah rfl <| Zac ?_
        exact Zag (by exact ⟨rfl, rfl, rfl, trivial⟩) (Zam (by exact (.cons_cons _ .slnil)) (ih113 (p133, w64 (s107.2 + 1)) _ _ _ ⟨_, _, _, rfl, rfl, (Hle.trans hle115 hle139), hA137⟩))
      ·intro J170
       refine Zao rfl (fun h171 => ?_) (fun h171 => ?_)
       ·refine Zaa <| Zad rfl <| Zad rfl <| Zad rfl ?_
        refine Zce hs116 rfl rfl fun y172 bk174 of175 h173 hc176 => ?_
        refine o_fa rfl ?_
        refine ZaP 1 hc176 rfl rfl rfl ?_
        refine Zc2 0 rfl hA111 rfl rfl fun y177 bk179 vs180 h178 ha181 hi182 hr183 => ?_
        subst hr183
        subst ha181
        refine ZdL 0 0 rfl hi182 rfl rfl rfl ?_
        refine ZbM rfl rfl ?_
        refine Zc2 0 rfl hA111 rfl rfl fun y184 bk186 vs187 h185 ha188 hi189 hr190 => ?_
        subst hr190
        obtain rfl := s_bk ha188
        refine ZgL (l := s107.1) (ci := y172.A) 0 0 rfl hA111 hi189 rfl rfl rfl rfl rfl rfl (w64 (y177 + 1)) (rfl) fun ls191 hA192 => ?_
        refine Zag (env' := [(0, .slice a0_0 x0.length c0_0), (3, .slice (some ⟨bk179, 0, none⟩) (s107.1.set (y172.A : Int).toNat (w64 (y177 + 1))).length c109), (4, .int .i64 s107.2), (18, .int .i64 s107.2), (19, .slice a0_0 x0.length c0_0), (20, .int .i64 (x0.length : Int)), (21, .bool (decide (s107.2 < (x0.length : Int)))), (24, .slice a0_0 x0.length c0_0), (25, .int .i64 s107.2), (26, .pointer (some ⟨bk120, of121, none⟩)), (27, (aN y118)), (28, .int .i64 s107.2), (29, .bool y123), (30, .bool (!y123)), (31, .slice a0_0 x0.length c0_0), (32, .int .i64 s107.2), (33, .pointer (some ⟨bk128, of129, none⟩)), (34, .pointer (some ⟨bk128, of129, none⟩)), (35, .int .i64 y126.Kind), (36, .int .i64 y131), (37, .bool (decide (y131 > 0))), (38, .slice (some ⟨bk179, 0, none⟩) (s107.1.set (y172.A : Int).toNat (w64 (y177 + 1))).length c109), (39, .slice a0_0 x0.length c0_0), (40, .int .i64 s107.2), (41, .pointer (some ⟨bk174, of175, none⟩)), (42, .pointer (some ⟨bk174, of175 + 1, none⟩)), (43, .int .i64 y172.A), (45, .int .i64 y177), (46, .int .i64 (w64 (y177 + 1)))]) (by exact ⟨rfl, (by first | (simp only [List.length_set]; rfl) | rfl), rfl, rfl, rfl, rfl, rfl, rfl, rfl, rfl, rfl, rfl, rfl, rfl, rfl, rfl, rfl, rfl, rfl, rfl, rfl, (by first | (simp only [List.length_set]; rfl) | rfl), rfl, rfl, rfl, rfl, rfl, rfl, rfl, trivial⟩) ?_
        refine ZbL (own' := [.osl (.slice (some ⟨bk179, 0, none⟩) (s107.1.set (y172.A : Int).toNat (w64 (y177 + 1))).length c109) 1 3 ls191]) (by first | (simp only [List.length_set]; done) | (simp only [List.length_set]; rfl) | rfl) ?_
        refine Zac ?_
        exact Zag (by exact ⟨rfl, rfl, rfl, trivial⟩) (Zam (by exact (.cons_cons _ .slnil)) (J170 (s107.1.set (y172.A : Int).toNat (w64 (y177 + 1))) _ _ _ ⟨_, _, _, rfl, rfl, .refl _, hA192⟩))
       ·refine Zar ?_
        exact Zag (by exact ⟨rfl, rfl, rfl, trivial⟩) (Zam (by exact (.cons_cons _ .slnil)) (J170 s107.1 _ _ _ ⟨_, _, _, rfl, rfl, .refl _, hA111⟩))
    ·refine Zbf rfl ?_
     exact Zag (by exact ⟨rfl, rfl, trivial⟩) (Zam (by exact (.cons_cons _ .slnil)) (J106 s107.1 _ _ _ ⟨_, _, _, rfl, rfl, hle115, hA111⟩))
 ·intro J193
  refine Zad rfl <| ZaG rfl <| o_lt rfl rfl <| Zad rfl ?_
  refine Zcw (decide ((x0.length : Int) < 1)) (fun h194 => ?_) (fun h194 => ?_)
  ·refine Zab rfl rfl h194 <| Zab rfl rfl h194 <| Zab rfl rfl h194 <| Zan rfl h194 rfl ?_
   exact Zag (by exact ⟨rfl, lkb rfl (by first | simp only [h194, Bool.true_and, Bool.and_true, Bool.false_and, Bool.and_false, Bool.true_or, Bool.false_or, Bool.or_true, Bool.or_false, Bool.not_true, Bool.not_false] | simp [h194]), trivial⟩) (Zam (by exact .slnil) J193)
  ·refine Zaf rfl rfl h194 <| Zad rfl <| Zaf rfl rfl h194 <| ZaG rfl <| Zaf rfl rfl h194 <| o_gt rfl rfl <| Zal rfl h194 rfl ?_
   exact Zag (by exact ⟨rfl, lkb rfl (by first | simp only [h194, Bool.true_and, Bool.and_true, Bool.false_and, Bool.and_false, Bool.true_or, Bool.false_or, Bool.or_true, Bool.or_false, Bool.not_true, Bool.not_false] | simp [h194]), trivial⟩) (Zam (by exact .slnil) J193)
end Go.Cat.G3

