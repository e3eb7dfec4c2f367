/- A text of the proof of the seat's laws: a step logic over the machine, or pure functions that the Go functions come to. No condition. -/
import Derived.Test.YtmmpieknnnlnhaaGreatJ10
namespace Go.Cat.G3
open Go Go.Cat Go.Proofs
set_option linter.unusedVariables false
set_option linter.unusedSimpArgs false
instance iJ11x1 : TBld Tryz.prog 47 [.int .i64 0, .int .u8 0, .int .u8 0, .int .u8 0] [(0, 1), (1, 3)] := ⟨fun _ => by kernel_rfl, ⟨_, Tryz.underlying47, fun _ => by kernel_rfl⟩⟩
instance iJ11x2 : TBld Tryz.prog 114 [.slice none 0 0, .int .i64 0, .int .i64 0] [(0, 1), (1, 1), (2, 1)] := ⟨fun _ => by kernel_rfl, ⟨_, Tryz.underlying114, fun _ => by kernel_rfl⟩⟩
instance iJ11x3 : TFun Tryz.prog 43 := ⟨_, (by kernel_rfl : Tryz.prog.funcs[43]? = some Tryz.f43), by decide, rfl⟩
def Zdz (k : Nat) (x0 : (List Node)) (x1 : Int) (x2 : Int) (x3 : Arr3u8) : Option ((List Sent) × Int) :=
 (Zdk k x0).bind fun y3 =>
 if (y3 != 0) = true then
  some ([], y3)
 else
  if (((decide (x1 < 1)) || ((decide (x1 > 6)) || ((decide (x2 < 0)) || decide (x2 > 4))))) = true then
   some ([], 9)
  else
   (gs ⟨x0, x1, x2⟩ k (w64 ((x0.length : Int) - 1)) ⟨-1, x3⟩).bind fun y =>
   if (outS y).length < 1000000000 then some (Zdm (outS y), 0) else none
theorem Zlp : Tryz.prog.funcs[18]? = some Tryz.f18 := by kernel_rfl
set_option maxRecDepth 100000 in
set_option maxHeartbeats 4000000 in
theorem Zhg (k : Nat) (H : Heap) (x0 : (List Node)) (a0_0 : Option Addr) (c0_0 : Nat) (hx0_0 : RSl H a0_0 c0_0 x0) (x1 : Int) (x2 : Int) (x3 : Arr3u8) {r : (List Sent) × Int} (hr : Zdz k x0 x1 x2 x3 = some r) :
  Fn Tryz.prog 18 [.slice a0_0 x0.length c0_0, .int .i64 x1, .int .i64 x2, .agg #[.int .u8 x3.e0, .int .u8 x3.e1, .int .u8 x3.e2]] H [] fun H' v out => ∃ a0_0 c0_0, v = .tuple #[.slice a0_0 r.1.length c0_0, .int .i64 r.2] ∧ out = [.osl (.slice a0_0 r.1.length c0_0) 4 47 (r.1.map GoE.enc)] := by
 refine Zaq (args := [.slice a0_0 x0.length c0_0, .int .i64 x1, .int .i64 x2, .agg #[.int .u8 x3.e0, .int .u8 x3.e1, .int .u8 x3.e2]]) (n := 48) (Φ := fun r H' v out => ∃ a0_0 c0_0, v = .tuple #[.slice a0_0 r.1.length c0_0, .int .i64 r.2] ∧ out = [.osl (.slice a0_0 r.1.length c0_0) 4 47 (r.1.map GoE.enc)]) hr Zlp rfl rfl rfl fun w => ?_
 refine s_eq (by rw [Zdz]) ?_
 refine Zae <| Zaa ?_
 refine ZbO rfl fun b1 => ?_
 refine Zah rfl <| Zah rfl <| Zac <| Zae <| Zae <| Zaa <| Zad rfl ?_
 refine s_bg fun y3 h4 => ?_
 refine Zas rfl rfl (ZeL k _ x0 _ _ hx0_0 h4) ?_
 refine Zah rfl <| Zac <| Zae <| Zaa <| Zad rfl <| o_ne rfl rfl <| Zac ?_
 refine Zao rfl (fun h5 => ?_) (fun h5 => ?_)
 ·refine Zae <| Zaa <| Zad rfl <| Zah rfl <| Zah rfl <| Zac ?_
  refine Zc4 (sz := 4) (t := 47) ?_
  exact ZaF (xs := [.tmp 8, .tmp 9]) (vs := [.slice none 0 0, .int .i64 y3]) [.osl (.slice none ([] : List Sent).length 0) 4 47 []] Zlp rfl ⟨Zaz rfl, Zaz rfl, trivial⟩ (.cons _ (.cons_cons _ .slnil)) ⟨none, 0, rfl, rfl⟩
 ·refine Zar <| Zae <| Zae <| Zaa ?_
  refine Zfs [(0, .slice a0_0 x0.length c0_0), (1, .int .i64 x1), (2, .int .i64 x2), (7, .pointer (some ⟨b1, 0, none⟩)), (30, .bool ((decide (x1 < 1)) || ((decide (x1 > 6)) || ((decide (x2 < 0)) || decide (x2 > 4)))))] [.blk b1 (Zak [.int .u8 x3.e0, .int .u8 x3.e1, .int .u8 x3.e2] 41)] ?_ ?_
  ·refine Zao rfl (fun h6 => ?_) (fun h6 => ?_)
   ·refine Zae <| Zaa <| Zah rfl <| Zah rfl <| Zac ?_
    refine Zc4 (sz := 4) (t := 47) ?_
    exact ZaF (xs := [.tmp 8, .tmp 9]) (vs := [.slice none 0 0, .int .i64 9]) [.osl (.slice none ([] : List Sent).length 0) 4 47 []] Zlp rfl ⟨Zaz rfl, Zaz rfl, trivial⟩ (.cons _ (.cons_cons _ .slnil)) ⟨none, 0, rfl, rfl⟩
   ·refine Zar ?_
    refine s_bg fun y hy => ?_
    refine Zae <| Zaa ?_
    refine ZfU fun bm => ?_
    refine Zah rfl <| Zac <| Zae <| Zaa <| Zad rfl <| Zad rfl <| Zad rfl ?_
    refine Zdx rfl rfl ?_
    refine Zad rfl <| ZaG rfl <| ZhF rfl rfl <| o_ld 0 rfl rfl rfl ?_
    refine Zdx rfl rfl ?_
    refine Zad rfl ?_
    refine Zbg [Res.blk bm (.map #[] 0)] [Res.blk b1 (Zak [.int .u8 x3.e0, .int .u8 x3.e1, .int .u8 x3.e2] 41)] rfl rfl (List.Perm.swap _ _ []) (gs_ok ⟨x0, x1, x2⟩ k H _ _ hx0_0 _ ⟨-1, x3⟩ y hy bm #[] 0 [] .nil List.nodup_nil) ?_
    rintro _ H1 _ hle1 ⟨rfl, es1, c1, l1, rfl, hR1, hn1, hm1⟩
    refine Zac <| Zae <| Zaa <| Zad rfl ?_
    refine Zbg [Res.blk bm (.map es1 c1)] [Res.blk b1 (Zak [.int .u8 x3.e0, .int .u8 x3.e1, .int .u8 x3.e2] 41)] rfl rfl (List.Perm.swap _ _ []) (ZnN H1 bm es1 c1 l1 hR1 hn1) ?_
    rintro _ H2 _ hle2 ⟨rfl, es2, l2, rfl, hR2, hn2, hm2⟩
    refine Zac ?_
    have hmem : ∀ z, z ∈ l2.map (·.1) ↔ z ∈ outS y := by
     intro z
     rw [hm2, hm1]
     simp [outS, ZiL]
    have hlen : l2.length ≤ (outS y).length := by
     have h1 := ((List.perm_ext_iff_of_nodup hn2 ((Ze9 y).filter _)).2 hmem).length_eq
     rw [List.length_map] at h1
     rw [h1]
     exact Nat.le_refl _
    by_cases hbig : (outS y).length < 1000000000
    ·rw [if_pos hbig]
     refine ZlL 1 (fun b => .inl (by simp [ids])) rfl hR2 fun H3 hle3 hV => ?_
     refine Zae <| Zaa <| Zad rfl ?_
     refine Zbg [] _ rfl rfl (.refl _) (keysS H3 (.map (some bm)) rfl) ?_
     rintro _ H4 _ hle4 ⟨bb, rfl, rfl, hcell⟩
     refine ZcG ?_
     refine Zbg [] _ rfl rfl (.refl _) (Zgt (g := 99) (first := []) (cap := [.pointer (some ⟨bb, 0, none⟩)]) H4 (Zns H4 bb (.map (some bm)) (some l2) hcell (MapV.mono hle4 hV)) (fun xs hx => by have := hx.length_eq; simp [ZgI] at this; omega)) ?_
     rintro _ H5 _ hle5 ⟨xs, a, c, hxs, rfl, rfl⟩
     have hs : Zdm xs = Zdm (outS y) := Zh2 (hxs.nodup_iff.2 hn2) ((Ze9 y).filter _) (fun z => hxs.mem_iff.trans (hmem z))
     refine Zah rfl <| Zah rfl <| Zac ?_
     exact ZaF (xs := [.tmp 8, .tmp 9]) (vs := [.slice a (Zdm xs).length c, .int .i64 0]) [.osl (.slice a (Zdm xs).length c) 4 47 ((Zdm xs).map GoE.enc)] Zlp rfl ⟨Zaz rfl, Zaz rfl, trivial⟩ (.cons _ (.cons_cons _ .slnil)) ⟨a, c, by rw [hs]; rfl, by rw [hs]⟩
    ·rw [if_neg hbig]
     exact ZjJ
  ·intro J7
   refine Zad rfl <| o_lt rfl rfl <| Zad rfl ?_
   refine Zcw (decide (x1 < 1)) (fun h8 => ?_) (fun h8 => ?_)
   ·refine Zab rfl rfl h8 <| Zab rfl rfl h8 <| Zan rfl h8 rfl <| Zad rfl <| Zab rfl rfl rfl <| Zab rfl rfl rfl <| Zan rfl rfl rfl <| Zad rfl <| Zab rfl rfl rfl <| Zab rfl rfl rfl <| Zan rfl rfl rfl ?_
    exact Zag (by exact ⟨rfl, rfl, rfl, rfl, lkb rfl (by first | simp only [h8, Bool.true_and, Bool.and_true, Bool.false_and, Bool.and_false, Bool.true_or, Bool.false_or, Bool.or_true, Bool.or_false, Bool.not_true, Bool.not_false] | simp [h8]), trivial⟩) J7
   ·refine Zaf rfl rfl h8 <| Zad rfl <| Zaf rfl rfl h8 <| o_gt rfl rfl <| Zal rfl h8 rfl <| Zad rfl ?_
    refine Zcw (decide (x1 > 6)) (fun h9 => ?_) (fun h9 => ?_)
    ·refine Zab rfl rfl h9 <| Zab rfl rfl h9 <| Zan rfl h9 rfl <| Zad rfl <| Zab rfl rfl rfl <| Zab rfl rfl rfl <| Zan rfl rfl rfl ?_
     exact Zag (by exact ⟨rfl, rfl, rfl, rfl, lkb rfl (by first | simp only [h8, h9, Bool.true_and, Bool.and_true, Bool.false_and, Bool.and_false, Bool.true_or, Bool.false_or, Bool.or_true, Bool.or_false, Bool.not_true, Bool.not_false] | simp [h8, h9]), trivial⟩) J7
    ·refine Zaf rfl rfl h9 <| Zad rfl <| Zaf rfl rfl h9 <| o_lt rfl rfl <| Zal rfl h9 rfl <| Zad rfl ?_
     refine Zcw (decide (x2 < 0)) (fun h10 => ?_) (fun h10 => ?_)
     ·refine Zab rfl rfl h10 <| Zab rfl rfl h10 <| Zan rfl h10 rfl ?_
      exact Zag (by exact ⟨rfl, rfl, rfl, rfl, lkb rfl (by first | simp only [h8, h9, h10, Bool.true_and, Bool.and_true, Bool.false_and, Bool.and_false, Bool.true_or, Bool.false_or, Bool.or_true, Bool.or_false, Bool.not_true, Bool.not_false] | simp [h8, h9, h10]), trivial⟩) J7
     ·refine Zaf rfl rfl h10 <| Zad rfl <| Zaf rfl rfl h10 <| o_gt rfl rfl <| Zal rfl h10 rfl ?_
      exact Zag (by exact ⟨rfl, rfl, rfl, rfl, lkb rfl (by first | simp only [h8, h9, h10, Bool.true_and, Bool.and_true, Bool.false_and, Bool.and_false, Bool.true_or, Bool.false_or, Bool.or_true, Bool.or_false, Bool.not_true, Bool.not_false] | simp [h8, h9, h10]), trivial⟩) J7
end Go.Cat.G3

