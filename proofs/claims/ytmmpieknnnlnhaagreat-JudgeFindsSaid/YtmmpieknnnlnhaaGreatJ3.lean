/- A text of the proof of the seat's laws: a step logic over the machine, or pure functions that the Go functions come to. No condition. -/
import Derived.Test.YtmmpieknnnlnhaaGreatJ2
namespace Go.Cat.G3
open Go Go.Cat Go.Proofs
set_option linter.unusedVariables false
set_option linter.unusedSimpArgs false
structure Meaning_place where
 nodes : (List Node)
 sw : Int
 port : Int
instance iJ3x1 : GoT Meaning_place := {
 sz := 3
 rep := fun H vs x => ∃ a0 c0, vs = [.slice a0 x.nodes.length c0, .int .i64 x.sw, .int .i64 x.port] ∧ RSl H a0 c0 x.nodes
 mono := fun h ⟨a0, c0, e, h0⟩ => ⟨a0, c0, e, h0.mono h⟩
 len := fun ⟨_, _, e, _⟩ => by rw [e]; rfl
 one := fun ⟨_, _, e, _⟩ => by rw [e]; rfl }
instance iJ3x2 : TUnd Tryz.prog 3 (.int .i64) := ⟨by kernel_rfl⟩
instance iJ3x3 : TUnd Tryz.prog 5 (.int .u8) := ⟨by kernel_rfl⟩
instance iJ3x4 : TFld Tryz.prog 47 1 1 3 true := ⟨⟨_, _, Tryz.underlying47, rfl, rfl, fun _ => by kernel_rfl, fun _ => by kernel_rfl, by decide, fun h => by first | rfl | cases h⟩⟩
instance iJ3x5 : TFld Tryz.prog 114 1 1 1 false := ⟨⟨_, _, Tryz.underlying114, rfl, rfl, fun _ => by kernel_rfl, fun _ => by kernel_rfl, by decide, fun h => by first | rfl | cases h⟩⟩
instance iJ3x6 : TFld Tryz.prog 114 2 2 1 false := ⟨⟨_, _, Tryz.underlying114, rfl, rfl, fun _ => by kernel_rfl, fun _ => by kernel_rfl, by decide, fun h => by first | rfl | cases h⟩⟩
instance iJ3x7 : TArr Tryz.prog 41 3 5 1 := ⟨by kernel_rfl, fun _ => by kernel_rfl⟩
def GiveOk (pl : Meaning_place) (gv : Int → Sent → Option (List Sent)) : Prop := ∀ (H : Heap) (a : Option Addr) (c : Nat), RSl H a c pl.nodes → ∀ (n : Int) (x : Sent) (r : List Sent), gv n x = some r → ∀ (b : Nat) (es : Array MapEntry) (cl : Nat) (l : List (Sent × S213)), MapR true true H es cl l → (l.map (·.1)).Nodup →
 Fn Tryz.prog 50 [.agg #[.slice a pl.nodes.length c, .int .i64 pl.sw, .int .i64 pl.port], .int .i64 n, .agg #[.int .i64 x.Port, .int .u8 x.H.e0, .int .u8 x.H.e1, .int .u8 x.H.e2], .map (some b)] H [.blk b (.map es cl)]
  fun H' v out => v = .tuple #[] ∧ ∃ (es' : Array MapEntry) (c' : Nat) (l' : List (Sent × S213)), out = [Res.blk b (.map es' c')] ∧ MapR true true H' es' c' l' ∧ (l'.map (·.1)).Nodup ∧ ∀ y, y ∈ l'.map (·.1) ↔ y ∈ l.map (·.1) ∨ y ∈ r
def Za9 (gv : Int → Sent → Option (List Sent)) (x0 : Meaning_place) (x1 : Node) (x2 : Sent) : Option Bool :=
 if (x1.Kind == 3) = true then
  (rd ([x2.H.e0, x2.H.e1, x2.H.e2] : List Int) x1.N).bind fun y8 =>
  some ((ibit .and .i64 (IntKind.i64.wrap y8) x1.M) == x1.V)
 else
  if (x1.Kind == 4) = true then
   some (x0.sw == x1.N)
  else
   if (x1.Kind == 5) = true then
    some (x0.port == x1.N)
   else
    if (x1.Kind == 10) = true then
     (gv x1.A x2).bind fun y133 =>
     some y133.isEmpty
    else
     some (x1.Kind != 1)
set_option maxRecDepth 100000 in
set_option maxHeartbeats 4000000 in
theorem Zfh (gv : Int → Sent → Option (List Sent)) (H : Heap) (x0 : Meaning_place) (hgv : GiveOk x0 gv) (a0_0 : Option Addr) (c0_0 : Nat) (hx0_0 : RSl H a0_0 c0_0 x0.nodes) (x1 : Node) (x2 : Sent) {r : Bool} (hr : Za9 gv x0 x1 x2 = some r) :
  Fn Tryz.prog 96 [.agg #[.slice a0_0 x0.nodes.length c0_0, .int .i64 x0.sw, .int .i64 x0.port], .agg #[.int .i64 x1.Kind, .int .i64 x1.A, .int .i64 x1.B, .int .i64 x1.N, .int .i64 x1.M, .int .i64 x1.V], .agg #[.int .i64 x2.Port, .int .u8 x2.H.e0, .int .u8 x2.H.e1, .int .u8 x2.H.e2]] H [] fun H' v out => v = .bool r ∧ out = [] := by
 refine Zaq (args := [.agg #[.slice a0_0 x0.nodes.length c0_0, .int .i64 x0.sw, .int .i64 x0.port], .agg #[.int .i64 x1.Kind, .int .i64 x1.A, .int .i64 x1.B, .int .i64 x1.N, .int .i64 x1.M, .int .i64 x1.V], .agg #[.int .i64 x2.Port, .int .u8 x2.H.e0, .int .u8 x2.H.e1, .int .u8 x2.H.e2]]) (n := 53) (Φ := fun r H' v out => v = .bool r ∧ out = []) hr Zjl rfl rfl rfl fun w => ?_
 refine s_eq (by rw [Za9]) ?_
 refine Zae <| Zaa ?_
 refine ZbO rfl fun b1 => ?_
 refine ZbO rfl fun b3 => ?_
 refine ZbO rfl fun b5 => ?_
 refine Zah rfl <| Zac <| Zae <| Zae <| Zaa <| o_fa rfl <| o_ld 1 rfl rfl rfl <| Zac <| Zat <| Zae <| Zaa <| o_eq rfl rfl ?_
 refine Zah rfl <| Zac ?_
 refine Zao rfl (fun h7 => ?_) (fun h7 => ?_)
 ·refine Zae ?_
  refine s_bg fun y8 h10 => ?_
  refine Za8 [(fun H v g => v = Value.pointer (some ⟨b3, 3, none⟩) ∧ g = []),
   (fun H v g => v = Value.int .i64 x1.N ∧ g = []),
   (fun H v g => v = Value.pointer (some ⟨b5, 1, none⟩) ∧ g = []),
   (fun H v g => v = Value.pointer (some ⟨b5, 1 + (x1.N : Int).toNat, none⟩) ∧ g = []),
   (fun H v g => v = Value.int .u8 y8 ∧ g = []),
   (fun H v g => v = Value.int .i64 (IntKind.i64.wrap y8) ∧ g = []),
   (fun H v g => v = Value.pointer (some ⟨b3, 4, none⟩) ∧ g = []),
   (fun H v g => v = Value.int .i64 x1.M ∧ g = []),
   (fun H v g => v = Value.int .i64 (ibit .and .i64 (IntKind.i64.wrap y8) x1.M) ∧ g = []),
   (fun H v g => v = Value.pointer (some ⟨b3, 5, none⟩) ∧ g = []),
   (fun H v g => v = Value.int .i64 x1.V ∧ g = []),
   (fun H v g => v = Value.bool ((ibit .and .i64 (IntKind.i64.wrap y8) x1.M) == x1.V) ∧ g = [])] [[], [], [], [], [], [], [], [], [], [], [], []] mixed ⟨m0, m0, m0, m0, m0, m0, m0, m0, m0, m0, m0, m0, trivial⟩ (by kernel_rfl) (by kernel_rfl) rfl (by kernel_rfl) rfl rfl ?_ ?_
  ·refine Za3 ?_ ?_
   ·intro _ _ H14 fr15 hle16 hd17
    refine ⟨_, some (), rfl, fun _ => ?_⟩
    refine Zag (env' := [(4, .pointer (some ⟨b3, 0, none⟩))]) (by exact ⟨rfl, trivial⟩) ?_
    refine o_fa rfl ?_
    exact ZbV fun _ _ _ hE hI => ⟨(.pointer (some ⟨b3, 3, none⟩)), [], _, fun _ e => (by cases e; exact hE _ _ rfl), .refl _, by exact hI, ⟨rfl, rfl⟩⟩
   refine Za3 ?_ ?_
   ·intro _ _ H21 fr22 hle23 hd24
    obtain ⟨hv26, hg27⟩ := hd24 0 (by decide)
    refine ⟨_, some (), rfl, fun _ => ?_⟩
    refine Zag (env' := [(12, .pointer (some ⟨b3, 3, none⟩))]) (by exact ⟨congrArg some hv26, trivial⟩) ?_
    refine o_ld 1 rfl rfl rfl ?_
    exact ZbV fun _ _ _ hE hI => ⟨(.int .i64 x1.N), [], _, fun _ e => (by cases e; exact hE _ _ rfl), .refl _, by exact hI, ⟨rfl, rfl⟩⟩
   refine Za3 ?_ ?_
   ·intro _ _ H30 fr31 hle32 hd33
    refine ⟨_, some (), rfl, fun _ => ?_⟩
    refine Zag (env' := [(5, .pointer (some ⟨b5, 0, none⟩))]) (by exact ⟨rfl, trivial⟩) ?_
    refine o_fa rfl ?_
    exact ZbV fun _ _ _ hE hI => ⟨(.pointer (some ⟨b5, 1, none⟩)), [], _, fun _ e => (by cases e; exact hE _ _ rfl), .refl _, by exact hI, ⟨rfl, rfl⟩⟩
   refine Za3 ?_ ?_
   ·intro _ _ H37 fr38 hle39 hd40
    obtain ⟨hv42, hg43⟩ := hd40 1 (by decide)
    obtain ⟨hv44, hg45⟩ := hd40 2 (by decide)
    refine ⟨_, (rd ([x2.H.e0, x2.H.e1, x2.H.e2] : List Int) x1.N).bind some, by rw [h10]; rfl, fun _ => ?_⟩
    refine Zag (env' := [(13, .int .i64 x1.N), (14, .pointer (some ⟨b5, 1, none⟩))]) (by exact ⟨congrArg some hv42, congrArg some hv44, trivial⟩) ?_
    refine ZhG ([x2.H.e0, x2.H.e1, x2.H.e2] : List Int) rfl rfl rfl fun y8 h46 => ?_
    obtain rfl := Option.some.inj (h10.symm.trans h46)
    exact ZbV fun _ _ _ hE hI => ⟨(.pointer (some ⟨b5, 1 + (x1.N : Int).toNat, none⟩)), [], _, fun _ e => (by cases e; exact hE _ _ rfl), .refl _, by exact hI, ⟨rfl, rfl⟩⟩
   refine Za3 ?_ ?_
   ·intro _ _ H49 fr50 hle51 hd52
    obtain ⟨hv54, hg55⟩ := hd52 3 (by decide)
    refine ⟨_, some (), rfl, fun _ => ?_⟩
    refine Zag (env' := [(15, .pointer (some ⟨b5, 1 + (x1.N : Int).toNat, none⟩))]) (by exact ⟨congrArg some hv54, trivial⟩) ?_
    refine Zjc 2 rfl rfl (getA (off := 1) (len := 3) (g := (Value.int .u8)) rfl h10) ?_
    exact ZbV fun _ _ _ hE hI => ⟨(.int .u8 y8), [], _, fun _ e => (by cases e; exact hE _ _ rfl), .refl _, by exact hI, ⟨rfl, rfl⟩⟩
   refine Za3 ?_ ?_
   ·intro _ _ H58 fr59 hle60 hd61
    obtain ⟨hv63, hg64⟩ := hd61 4 (by decide)
    refine ⟨_, some (), rfl, fun _ => ?_⟩
    refine Zag (env' := [(16, .int .u8 y8)]) (by exact ⟨congrArg some hv63, trivial⟩) ?_
    refine Zjd rfl ?_
    exact ZbV fun _ _ _ hE hI => ⟨(.int .i64 (IntKind.i64.wrap y8)), [], _, fun _ e => (by cases e; exact hE _ _ rfl), .refl _, by exact hI, ⟨rfl, rfl⟩⟩
   refine Za3 ?_ ?_
   ·intro _ _ H67 fr68 hle69 hd70
    refine ⟨_, some (), rfl, fun _ => ?_⟩
    refine Zag (env' := [(4, .pointer (some ⟨b3, 0, none⟩))]) (by exact ⟨rfl, trivial⟩) ?_
    refine o_fa rfl ?_
    exact ZbV fun _ _ _ hE hI => ⟨(.pointer (some ⟨b3, 4, none⟩)), [], _, fun _ e => (by cases e; exact hE _ _ rfl), .refl _, by exact hI, ⟨rfl, rfl⟩⟩
   refine Za3 ?_ ?_
   ·intro _ _ H74 fr75 hle76 hd77
    obtain ⟨hv79, hg80⟩ := hd77 6 (by decide)
    refine ⟨_, some (), rfl, fun _ => ?_⟩
    refine Zag (env' := [(18, .pointer (some ⟨b3, 4, none⟩))]) (by exact ⟨congrArg some hv79, trivial⟩) ?_
    refine o_ld 1 rfl rfl rfl ?_
    exact ZbV fun _ _ _ hE hI => ⟨(.int .i64 x1.M), [], _, fun _ e => (by cases e; exact hE _ _ rfl), .refl _, by exact hI, ⟨rfl, rfl⟩⟩
   refine Za3 ?_ ?_
   ·intro _ _ H83 fr84 hle85 hd86
    obtain ⟨hv88, hg89⟩ := hd86 5 (by decide)
    obtain ⟨hv90, hg91⟩ := hd86 7 (by decide)
    refine ⟨_, some (), rfl, fun _ => ?_⟩
    refine Zag (env' := [(17, .int .i64 (IntKind.i64.wrap y8)), (19, .int .i64 x1.M)]) (by exact ⟨congrArg some hv88, congrArg some hv90, trivial⟩) ?_
    refine Zno rfl rfl ?_
    exact ZbV fun _ _ _ hE hI => ⟨(.int .i64 (ibit .and .i64 (IntKind.i64.wrap y8) x1.M)), [], _, fun _ e => (by cases e; exact hE _ _ rfl), .refl _, by exact hI, ⟨rfl, rfl⟩⟩
   refine Za3 ?_ ?_
   ·intro _ _ H94 fr95 hle96 hd97
    refine ⟨_, some (), rfl, fun _ => ?_⟩
    refine Zag (env' := [(4, .pointer (some ⟨b3, 0, none⟩))]) (by exact ⟨rfl, trivial⟩) ?_
    refine o_fa rfl ?_
    exact ZbV fun _ _ _ hE hI => ⟨(.pointer (some ⟨b3, 5, none⟩)), [], _, fun _ e => (by cases e; exact hE _ _ rfl), .refl _, by exact hI, ⟨rfl, rfl⟩⟩
   refine Za3 ?_ ?_
   ·intro _ _ H101 fr102 hle103 hd104
    obtain ⟨hv106, hg107⟩ := hd104 9 (by decide)
    refine ⟨_, some (), rfl, fun _ => ?_⟩
    refine Zag (env' := [(21, .pointer (some ⟨b3, 5, none⟩))]) (by exact ⟨congrArg some hv106, trivial⟩) ?_
    refine o_ld 1 rfl rfl rfl ?_
    exact ZbV fun _ _ _ hE hI => ⟨(.int .i64 x1.V), [], _, fun _ e => (by cases e; exact hE _ _ rfl), .refl _, by exact hI, ⟨rfl, rfl⟩⟩
   refine Za3 ?_ ?_
   ·intro _ _ H110 fr111 hle112 hd113
    obtain ⟨hv115, hg116⟩ := hd113 8 (by decide)
    obtain ⟨hv117, hg118⟩ := hd113 10 (by decide)
    refine ⟨_, some (), rfl, fun _ => ?_⟩
    refine Zag (env' := [(20, .int .i64 (ibit .and .i64 (IntKind.i64.wrap y8) x1.M)), (22, .int .i64 x1.V)]) (by exact ⟨congrArg some hv115, congrArg some hv117, trivial⟩) ?_
    refine o_eq rfl rfl ?_
    exact ZbV fun _ _ _ hE hI => ⟨(.bool ((ibit .and .i64 (IntKind.i64.wrap y8) x1.M) == x1.V)), [], _, fun _ e => (by cases e; exact hE _ _ rfl), .refl _, by exact hI, ⟨rfl, rfl⟩⟩
   exact dnil
  ·intro V121 G122 H119 hle120 hF123
   obtain ⟨hv125, hg126⟩ := hF123 11 (show 11 < 12 by decide)
   refine Zag (env' := [(23, .bool ((ibit .and .i64 (IntKind.i64.wrap y8) x1.M) == x1.V)), (0, .agg #[.slice a0_0 x0.nodes.length c0_0, .int .i64 x0.sw, .int .i64 x0.port]), (1, .agg #[.int .i64 x1.Kind, .int .i64 x1.A, .int .i64 x1.B, .int .i64 x1.N, .int .i64 x1.M, .int .i64 x1.V]), (2, .agg #[.int .i64 x2.Port, .int .u8 x2.H.e0, .int .u8 x2.H.e1, .int .u8 x2.H.e2]), (3, .pointer (some ⟨b1, 0, none⟩)), (4, .pointer (some ⟨b3, 0, none⟩)), (5, .pointer (some ⟨b5, 0, none⟩)), (6, .bool false), (8, .pointer (some ⟨b3, 0, none⟩)), (9, .int .i64 x1.Kind), (11, .bool (x1.Kind == 3)), (10, .bool (x1.Kind == 3))]) (by exact ⟨congrArg some hv125, rfl, rfl, rfl, rfl, rfl, rfl, rfl, rfl, rfl, rfl, rfl, trivial⟩) ?_
   refine Zam (List.sublist_append_left _ _) ?_
   refine Zah rfl <| Zac ?_
   exact ZaF (xs := [.tmp 6]) (vs := [.bool ((ibit .and .i64 (IntKind.i64.wrap y8) x1.M) == x1.V)]) [] Zjl rfl ⟨Zaz rfl, trivial⟩ (.cons _ (.cons _ (.cons _ .slnil))) ⟨rfl, rfl⟩
 ·refine Zae <| Zaa <| o_eq rfl rfl <| Zah rfl <| Zac ?_
  refine Zao rfl (fun h127 => ?_) (fun h127 => ?_)
  ·refine Zae <| Zaa <| o_fa rfl <| o_ld 0 rfl rfl rfl <| o_fa rfl <| o_ld 1 rfl rfl rfl <| o_eq rfl rfl <| Zah rfl <| Zac ?_
   exact ZaF (xs := [.tmp 6]) (vs := [.bool (x0.sw == x1.N)]) [] Zjl rfl ⟨Zaz rfl, trivial⟩ (.cons _ (.cons _ (.cons _ .slnil))) ⟨rfl, rfl⟩
  ·refine Zae <| Zaa <| o_eq rfl rfl <| Zah rfl <| Zac ?_
   refine Zao rfl (fun h128 => ?_) (fun h128 => ?_)
   ·refine Zae <| Zaa <| o_fa rfl <| o_ld 0 rfl rfl rfl <| o_fa rfl <| o_ld 1 rfl rfl rfl <| o_eq rfl rfl <| Zah rfl <| Zac ?_
    exact ZaF (xs := [.tmp 6]) (vs := [.bool (x0.port == x1.N)]) [] Zjl rfl ⟨Zaz rfl, trivial⟩ (.cons _ (.cons _ (.cons _ .slnil))) ⟨rfl, rfl⟩
   ·refine Zae <| Zaa <| o_eq rfl rfl <| Zah rfl <| Zac ?_
    refine Zao rfl (fun h129 => ?_) (fun h129 => ?_)
    ·refine Zae <| Zaa ?_
     refine ZfU fun b130 => ?_
     have hR132 : MapR true true H #[] 0 ([] : (List (Sent × S213))) := .nil
     refine Zah rfl <| Zac <| Zae <| Zaa <| o_ld 0 rfl rfl rfl <| o_fa rfl <| o_ld 1 rfl rfl rfl <| o_ld 2 rfl rfl rfl <| Zad rfl ?_
     refine s_bg fun y133 h134 => ?_
     refine Zbg [Res.blk b130 (.map #[] 0)] [.blk b1 (Zak [.slice a0_0 x0.nodes.length c0_0, .int .i64 x0.sw, .int .i64 x0.port] 114), .blk b3 (Zak [.int .i64 x1.Kind, .int .i64 x1.A, .int .i64 x1.B, .int .i64 x1.N, .int .i64 x1.M, .int .i64 x1.V] 38), .blk b5 (Zak [.int .i64 x2.Port, .int .u8 x2.H.e0, .int .u8 x2.H.e1, .int .u8 x2.H.e2] 47)] rfl rfl (List.perm_append_comm (l₁ := [Res.blk b1 (Zak [.slice a0_0 x0.nodes.length c0_0, .int .i64 x0.sw, .int .i64 x0.port] 114), .blk b3 (Zak [.int .i64 x1.Kind, .int .i64 x1.A, .int .i64 x1.B, .int .i64 x1.N, .int .i64 x1.M, .int .i64 x1.V] 38), .blk b5 (Zak [.int .i64 x2.Port, .int .u8 x2.H.e0, .int .u8 x2.H.e1, .int .u8 x2.H.e2] 47)])) (hgv _ _ _ hx0_0 x1.A x2 y133 h134 b130 #[] 0 [] hR132 List.nodup_nil) ?_
     rintro _ H135 _ hle136 ⟨rfl, es', c', l', rfl, hR', hn', hm'⟩
     refine Zac <| Zae <| Zaa <| Zad rfl ?_
     refine Znm (kt := 47) (et := 117) 3 rfl rfl hR' ?_
     refine o_eq rfl rfl <| Zah rfl <| Zac ?_
     have hlen : ((l'.length : Int) == 0) = y133.isEmpty := by
      cases l' with
      | nil => cases y133 with
       | nil => rfl
       | cons y ys => have := (hm' y).2 (.inr (by simp)); simp at this
      | cons p l' => cases y133 with
       | nil => have := (hm' p.1).1 (by simp); simp at this
       | cons y ys => simp; omega
     rw [hlen]
     exact ZaF (xs := [.tmp 6]) (vs := [.bool y133.isEmpty]) [] Zjl rfl ⟨Zaz rfl, trivial⟩ (.cons _ (.cons _ (.cons _ (.cons _ .slnil)))) ⟨rfl, rfl⟩
    ·refine Zar <| Zav <| Zae <| Zaa <| o_fa rfl <| o_ld 1 rfl rfl rfl <| o_ne rfl rfl <| Zah rfl <| Zac ?_
     exact ZaF (xs := [.tmp 6]) (vs := [.bool (x1.Kind != 1)]) [] Zjl rfl ⟨Zaz rfl, trivial⟩ (.cons _ (.cons _ (.cons _ .slnil))) ⟨rfl, rfl⟩
end Go.Cat.G3

