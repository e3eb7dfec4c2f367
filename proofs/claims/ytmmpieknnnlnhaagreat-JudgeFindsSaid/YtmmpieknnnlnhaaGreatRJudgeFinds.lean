/- A text of the proof of the seat's laws: a step logic over the machine, or pure functions that the Go functions come to. No condition. -/
import Derived.Test.YtmmpieknnnlnhaaGreatRows
import Derived.Test.YtmmpieknnnlnhaaGreatQL1
import Derived.Test.YtmmpieknnnlnhaaGreatCore1
import Derived.WalkKit
import Derived.ProofKit
import Derived.OpenShut
import Derived.ShutString
import Derived.ChangeOld
import Derived.Below
import Derived.SizedLaws
import Derived.Carry
set_option linter.unusedVariables false
set_option linter.unusedSimpArgs false
set_option linter.unnecessarySimpa false

namespace Go.Cat.G3
open Go Go.Cat Go.Proofs Go.ChangeShapes Go.WideShapes
set_option linter.unusedVariables false
theorem Zj9 {n : Int} (h : ibd .u8 n) : BI n := by
 unfold ibd Lit.wf at h; simp [IntKind.min, IntKind.max, IntKind.bits, IntKind.signed] at h; unfold BI; omega
instance iRJudgeFindsx1 : TOpen Tryz.prog 3 Int := ZjC Tryz.underlying3
instance iRJudgeFindsx2 : GoB End := ⟨fun x => ibd .i64 x.Switch ∧ ibd .i64 x.Port⟩
instance iRJudgeFindsx3 : TOpen Tryz.prog 81 End := {
 op := fun {H enc w base spare held fuel cs x} h => by
  obtain ⟨hl, m, hf⟩ := ZdR 2 Tryz.underlying81 (by kernel_rfl) h
  match cs, hl with
  | [c0, c1], _ =>
   obtain ⟨y0, f0⟩ := hf 0 _ 1 rfl (by kernel_rfl)
   have f0 : DataW.trod enc Tryz.prog w base spare held m 3 [c0] = some y0 := f0
   obtain ⟨a0, e0, b0⟩ := Zdp Tryz.underlying3 f0
   obtain rfl := List.head_eq_of_cons_eq e0
   obtain ⟨y1, f1⟩ := hf 1 _ 1 rfl (by kernel_rfl)
   have f1 : DataW.trod enc Tryz.prog w base spare held m 3 [c1] = some y1 := f1
   obtain ⟨a1, e1, b1⟩ := Zdp Tryz.underlying3 f1
   obtain rfl := List.head_eq_of_cons_eq e1
   exact ⟨⟨a0, a1⟩, rfl, ⟨b0, b1⟩⟩ }
instance iRJudgeFindsx4 : GoB Link := ⟨fun x => GoB.bd x.A ∧ GoB.bd x.B⟩
instance iRJudgeFindsx5 : TOpen Tryz.prog 83 Link := {
 op := fun {H enc w base spare held fuel cs x} h => by
  obtain ⟨hl, m, hf⟩ := ZdR 4 Tryz.underlying83 (by kernel_rfl) h
  match cs, hl with
  | [c0, c1, c2, c3], _ =>
   obtain ⟨y0, f0⟩ := hf 0 _ 2 rfl (by kernel_rfl)
   have f0 : DataW.trod enc Tryz.prog w base spare held m 81 [c0, c1] = some y0 := f0
   obtain ⟨a0, e0, b0⟩ := TOpen.op (P := Tryz.prog) (t := 81) (α := End) f0
   simp only [GoT.rep, GoE.enc, List.cons.injEq, and_true] at e0
   obtain ⟨rfl, rfl⟩ := e0
   obtain ⟨y1, f1⟩ := hf 1 _ 2 rfl (by kernel_rfl)
   have f1 : DataW.trod enc Tryz.prog w base spare held m 81 [c2, c3] = some y1 := f1
   obtain ⟨a1, e1, b1⟩ := TOpen.op (P := Tryz.prog) (t := 81) (α := End) f1
   simp only [GoT.rep, GoE.enc, List.cons.injEq, and_true] at e1
   obtain ⟨rfl, rfl⟩ := e1
   exact ⟨⟨a0, a1⟩, rfl, ⟨b0, b1⟩⟩ }
instance iRJudgeFindsx6 : TOpen Tryz.prog 22 (List Link) := ZfO Tryz.underlying22 (by kernel_rfl) (by decide)
instance iRJudgeFindsx7 : GoB Graph := ⟨fun x => ibd .i64 x.Switches ∧ GoB.bd x.Links⟩
instance iRJudgeFindsx8 : TOpen Tryz.prog 24 Graph := {
 op := fun {H enc w base spare held fuel cs x} h => by
  obtain ⟨hl, m, hf⟩ := ZdR 2 Tryz.underlying24 (by kernel_rfl) h
  match cs, hl with
  | [c0, c1], _ =>
   obtain ⟨y0, f0⟩ := hf 0 _ 1 rfl (by kernel_rfl)
   have f0 : DataW.trod enc Tryz.prog w base spare held m 3 [c0] = some y0 := f0
   obtain ⟨a0, e0, b0⟩ := Zdp Tryz.underlying3 f0
   obtain rfl := List.head_eq_of_cons_eq e0
   obtain ⟨y1, f1⟩ := hf 1 _ 1 rfl (by kernel_rfl)
   have f1 : DataW.trod enc Tryz.prog w base spare held m 22 [c1] = some y1 := f1
   obtain ⟨a1, sa1, sc1, e1, r1, b1⟩ := Ze7 (α := Link) Tryz.underlying22 (by kernel_rfl) (by decide) f1
   obtain rfl := List.head_eq_of_cons_eq e1
   exact ⟨⟨a0, a1⟩, ⟨sa1, sc1, rfl, r1⟩, ⟨b0, b1⟩⟩ }
instance iRJudgeFindsx9 : GoB Node := ⟨fun x => ibd .i64 x.Kind ∧ ibd .i64 x.A ∧ ibd .i64 x.B ∧ ibd .i64 x.N ∧ ibd .i64 x.M ∧ ibd .i64 x.V⟩
instance iRJudgeFindsx10 : TOpen Tryz.prog 38 Node := {
 op := fun {H enc w base spare held fuel cs x} h => by
  obtain ⟨hl, m, hf⟩ := ZdR 6 Tryz.underlying38 (by kernel_rfl) h
  match cs, hl with
  | [c0, c1, c2, c3, c4, c5], _ =>
   obtain ⟨y0, f0⟩ := hf 0 _ 1 rfl (by kernel_rfl)
   have f0 : DataW.trod enc Tryz.prog w base spare held m 3 [c0] = some y0 := f0
   obtain ⟨a0, e0, b0⟩ := Zdp Tryz.underlying3 f0
   obtain rfl := List.head_eq_of_cons_eq e0
   obtain ⟨y1, f1⟩ := hf 1 _ 1 rfl (by kernel_rfl)
   have f1 : DataW.trod enc Tryz.prog w base spare held m 3 [c1] = some y1 := f1
   obtain ⟨a1, e1, b1⟩ := Zdp Tryz.underlying3 f1
   obtain rfl := List.head_eq_of_cons_eq e1
   obtain ⟨y2, f2⟩ := hf 2 _ 1 rfl (by kernel_rfl)
   have f2 : DataW.trod enc Tryz.prog w base spare held m 3 [c2] = some y2 := f2
   obtain ⟨a2, e2, b2⟩ := Zdp Tryz.underlying3 f2
   obtain rfl := List.head_eq_of_cons_eq e2
   obtain ⟨y3, f3⟩ := hf 3 _ 1 rfl (by kernel_rfl)
   have f3 : DataW.trod enc Tryz.prog w base spare held m 3 [c3] = some y3 := f3
   obtain ⟨a3, e3, b3⟩ := Zdp Tryz.underlying3 f3
   obtain rfl := List.head_eq_of_cons_eq e3
   obtain ⟨y4, f4⟩ := hf 4 _ 1 rfl (by kernel_rfl)
   have f4 : DataW.trod enc Tryz.prog w base spare held m 3 [c4] = some y4 := f4
   obtain ⟨a4, e4, b4⟩ := Zdp Tryz.underlying3 f4
   obtain rfl := List.head_eq_of_cons_eq e4
   obtain ⟨y5, f5⟩ := hf 5 _ 1 rfl (by kernel_rfl)
   have f5 : DataW.trod enc Tryz.prog w base spare held m 3 [c5] = some y5 := f5
   obtain ⟨a5, e5, b5⟩ := Zdp Tryz.underlying3 f5
   obtain rfl := List.head_eq_of_cons_eq e5
   exact ⟨⟨a0, a1, a2, a3, a4, a5⟩, rfl, ⟨b0, b1, b2, b3, b4, b5⟩⟩ }
instance iRJudgeFindsx11 : TOpen Tryz.prog 27 (List Node) := ZfO Tryz.underlying27 (by kernel_rfl) (by decide)
instance iRJudgeFindsx12 : GoB Version := ⟨fun x => ibd .i64 x.Ver ∧ GoB.bd x.Nodes⟩
instance iRJudgeFindsx13 : TOpen Tryz.prog 29 Version := {
 op := fun {H enc w base spare held fuel cs x} h => by
  obtain ⟨hl, m, hf⟩ := ZdR 2 Tryz.underlying29 (by kernel_rfl) h
  match cs, hl with
  | [c0, c1], _ =>
   obtain ⟨y0, f0⟩ := hf 0 _ 1 rfl (by kernel_rfl)
   have f0 : DataW.trod enc Tryz.prog w base spare held m 3 [c0] = some y0 := f0
   obtain ⟨a0, e0, b0⟩ := Zdp Tryz.underlying3 f0
   obtain rfl := List.head_eq_of_cons_eq e0
   obtain ⟨y1, f1⟩ := hf 1 _ 1 rfl (by kernel_rfl)
   have f1 : DataW.trod enc Tryz.prog w base spare held m 27 [c1] = some y1 := f1
   obtain ⟨a1, sa1, sc1, e1, r1, b1⟩ := Ze7 (α := Node) Tryz.underlying27 (by kernel_rfl) (by decide) f1
   obtain rfl := List.head_eq_of_cons_eq e1
   exact ⟨⟨a0, a1⟩, ⟨sa1, sc1, rfl, r1⟩, ⟨b0, b1⟩⟩ }
instance iRJudgeFindsx14 : GoB Arr3u8 := ⟨fun x => ibd .u8 x.e0 ∧ ibd .u8 x.e1 ∧ ibd .u8 x.e2⟩
instance iRJudgeFindsx15 : TOpen Tryz.prog 41 Arr3u8 := {
 op := fun {H enc w base spare held fuel cs x} h => by
  obtain ⟨hl, m, hf⟩ := ZkZ 3 1 Tryz.underlying41 (by kernel_rfl) (by kernel_rfl) h
  match cs, hl with
  | [c0, c1, c2], _ =>
   obtain ⟨y0, f0⟩ := hf 0 (by decide)
   have f0 : DataW.trod enc Tryz.prog w base spare held m 5 [c0] = some y0 := f0
   obtain ⟨a0, e0, b0⟩ := Zdp Tryz.underlying5 f0
   obtain rfl := List.head_eq_of_cons_eq e0
   obtain ⟨y1, f1⟩ := hf 1 (by decide)
   have f1 : DataW.trod enc Tryz.prog w base spare held m 5 [c1] = some y1 := f1
   obtain ⟨a1, e1, b1⟩ := Zdp Tryz.underlying5 f1
   obtain rfl := List.head_eq_of_cons_eq e1
   obtain ⟨y2, f2⟩ := hf 2 (by decide)
   have f2 : DataW.trod enc Tryz.prog w base spare held m 5 [c2] = some y2 := f2
   obtain ⟨a2, e2, b2⟩ := Zdp Tryz.underlying5 f2
   obtain rfl := List.head_eq_of_cons_eq e2
   exact ⟨⟨a0, a1, a2⟩, rfl, ⟨b0, b1, b2⟩⟩ }
instance iRJudgeFindsx16 : GoB Sent := ⟨fun x => ibd .i64 x.Port ∧ GoB.bd x.H⟩
instance iRJudgeFindsx17 : TOpen Tryz.prog 47 Sent := {
 op := fun {H enc w base spare held fuel cs x} h => by
  obtain ⟨hl, m, hf⟩ := ZdR 4 Tryz.underlying47 (by kernel_rfl) h
  match cs, hl with
  | [c0, c1, c2, c3], _ =>
   obtain ⟨y0, f0⟩ := hf 0 _ 1 rfl (by kernel_rfl)
   have f0 : DataW.trod enc Tryz.prog w base spare held m 3 [c0] = some y0 := f0
   obtain ⟨a0, e0, b0⟩ := Zdp Tryz.underlying3 f0
   obtain rfl := List.head_eq_of_cons_eq e0
   obtain ⟨y1, f1⟩ := hf 1 _ 3 rfl (by kernel_rfl)
   have f1 : DataW.trod enc Tryz.prog w base spare held m 41 [c1, c2, c3] = some y1 := f1
   obtain ⟨a1, e1, b1⟩ := TOpen.op (P := Tryz.prog) (t := 41) (α := Arr3u8) f1
   simp only [GoT.rep, GoE.enc, List.cons.injEq, and_true] at e1
   obtain ⟨rfl, rfl, rfl⟩ := e1
   exact ⟨⟨a0, a1⟩, rfl, ⟨b0, b1⟩⟩ }
instance iRJudgeFindsx18 : TOpen Tryz.prog 42 (List Sent) := ZfO Tryz.underlying42 (by kernel_rfl) (by decide)
instance iRJudgeFindsx19 : GoB Event := ⟨fun x => ibd .i64 x.Switch ∧ ibd .i64 x.Port ∧ ibd .i64 x.Ver ∧ ibd .i64 x.Id ∧ GoB.bd x.H ∧ GoB.bd x.Sent⟩
instance iRJudgeFindsx20 : TOpen Tryz.prog 44 Event := {
 op := fun {H enc w base spare held fuel cs x} h => by
  obtain ⟨hl, m, hf⟩ := ZdR 8 Tryz.underlying44 (by kernel_rfl) h
  match cs, hl with
  | [c0, c1, c2, c3, c4, c5, c6, c7], _ =>
   obtain ⟨y0, f0⟩ := hf 0 _ 1 rfl (by kernel_rfl)
   have f0 : DataW.trod enc Tryz.prog w base spare held m 3 [c0] = some y0 := f0
   obtain ⟨a0, e0, b0⟩ := Zdp Tryz.underlying3 f0
   obtain rfl := List.head_eq_of_cons_eq e0
   obtain ⟨y1, f1⟩ := hf 1 _ 1 rfl (by kernel_rfl)
   have f1 : DataW.trod enc Tryz.prog w base spare held m 3 [c1] = some y1 := f1
   obtain ⟨a1, e1, b1⟩ := Zdp Tryz.underlying3 f1
   obtain rfl := List.head_eq_of_cons_eq e1
   obtain ⟨y2, f2⟩ := hf 2 _ 1 rfl (by kernel_rfl)
   have f2 : DataW.trod enc Tryz.prog w base spare held m 3 [c2] = some y2 := f2
   obtain ⟨a2, e2, b2⟩ := Zdp Tryz.underlying3 f2
   obtain rfl := List.head_eq_of_cons_eq e2
   obtain ⟨y3, f3⟩ := hf 3 _ 1 rfl (by kernel_rfl)
   have f3 : DataW.trod enc Tryz.prog w base spare held m 3 [c3] = some y3 := f3
   obtain ⟨a3, e3, b3⟩ := Zdp Tryz.underlying3 f3
   obtain rfl := List.head_eq_of_cons_eq e3
   obtain ⟨y4, f4⟩ := hf 4 _ 3 rfl (by kernel_rfl)
   have f4 : DataW.trod enc Tryz.prog w base spare held m 41 [c4, c5, c6] = some y4 := f4
   obtain ⟨a4, e4, b4⟩ := TOpen.op (P := Tryz.prog) (t := 41) (α := Arr3u8) f4
   simp only [GoT.rep, GoE.enc, List.cons.injEq, and_true] at e4
   obtain ⟨rfl, rfl, rfl⟩ := e4
   obtain ⟨y5, f5⟩ := hf 5 _ 1 rfl (by kernel_rfl)
   have f5 : DataW.trod enc Tryz.prog w base spare held m 42 [c7] = some y5 := f5
   obtain ⟨a5, sa5, sc5, e5, r5, b5⟩ := Ze7 (α := Sent) Tryz.underlying42 (by kernel_rfl) (by decide) f5
   obtain rfl := List.head_eq_of_cons_eq e5
   exact ⟨⟨a0, a1, a2, a3, a4, a5⟩, ⟨sa5, sc5, rfl, r5⟩, ⟨b0, b1, b2, b3, b4, b5⟩⟩ }
end Go.Cat.G3
namespace Go.Proofs.YtmmpieknnnlnhaaGreat.judgeFinds
open Go Go.Cat Go.Cat.G3 Go.ChangeShapes Go.WideShapes Go.ChangeAt Go.RowKit
set_option linter.unusedVariables false
theorem own : ownKnob Tryz.prog.godebug = none := by kernel_rfl
theorem Zid : laidOutB Tryz.prog = true := by kernel_rfl
set_option maxRecDepth 100000 in
theorem Znr (os : Os) (started : os.Started) (H : Type) (enc : TypeId × Value → H) :
  ReturnsInHanded {} Tryz.checked os 3 .any (Rows.judgeFindsSpec.pre6 enc Tryz.prog Tryz.f3 Rows.judgeFindsRow.domain false) (Rows.judgeFindsSpec.post enc Tryz.prog Tryz.f3 false true false false) := by
 refine returnsInHanded_of_change_sized (C := Tryz.checked) own started (by kernel_rfl) Tryz.func3
  (ChangeSpec.witness6 (enc := enc) (C := Tryz.checked) false ⟨#[], #[.agg #[.int .i64 0, .slice none 0 0], .slice none 0 0, .slice none 0 0], []⟩ 8 (by kernel_rfl) (by kernel_rfl) (by kernel_rfl) (by kernel_rfl)) ?_
 intro W base args ds gs before hval0 hW hcnd hsz0 _
 have hval : ∀ (j : Nat) t v, Tryz.f3.params[j]? = some t → args[j]? = some v → Value.okWide Tryz.prog W .any base t v := hval0
 have hW' := hW
 obtain ⟨p, q, hA0, hV, rfl, hfz, hnd⟩ := hW
 have hA : DataW.TrodAll enc Tryz.prog W 0 (fun _ => true) true Tryz.f3.params.toList args.toList ds p := hA0
 rw [Tryz.params3] at hA hval
 obtain ⟨v0, vs0, d0, ds0, p0, q0, hargs, rfl, rfl, h0, r0⟩ := trodAll_cons hA
 obtain ⟨v1, vs1, d1, ds1, p1, q1, rfl, rfl, rfl, h1, r1⟩ := trodAll_cons r0
 obtain ⟨v2, vs2, d2, ds2, p2, q2, rfl, rfl, rfl, h2, r2⟩ := trodAll_cons r1
 obtain ⟨rfl, rfl, rfl⟩ := trodAll_nil r2
 obtain rfl : args = #[v0, v1, v2] := by cases args; simp_all
 obtain ⟨rfl, rfl⟩ := trodVars_none hV
 have k0 := h0
 have lt0 : ∀ x ∈ p0, x.block < W.heap.size := by obtain ⟨m, hm⟩ := k0; exact DataW.trod_lt m _ _ _ hm
 obtain ⟨cs0, rfl, _⟩ := okWide_struct Tryz.underlying24 (hval 0 24 v0 rfl rfl)
 obtain ⟨fu0, hf0⟩ := h0
 obtain ⟨x0, e0, bd0⟩ := TOpen.op (P := Tryz.prog) (t := 24) (α := Go.Cat.G3.Graph) hf0
 obtain ⟨a0_0, c0_0, e0, hx0_0⟩ := e0
 have e0 : cs0.toList = [.int .i64 x0.Switches, .slice a0_0 x0.Links.length c0_0] := e0
 obtain rfl : cs0 = #[.int .i64 x0.Switches, .slice a0_0 x0.Links.length c0_0] := by rw [← Array.toArray_toList (xs := cs0), e0]
 have k1 := h1
 have lt1 : ∀ x ∈ p1, x.block < W.heap.size := by obtain ⟨m, hm⟩ := k1; exact DataW.trod_lt m _ _ _ hm
 obtain ⟨sa1, sl1, sc1, rfl⟩ := okWide_slice Tryz.underlying25 (hval 1 25 v1 rfl rfl)
 obtain ⟨fu1, hf1⟩ := h1
 obtain ⟨x1, a1, c1, e1, hx1, bd1⟩ := Ze7 (α := Go.Cat.G3.Version) Tryz.underlying25 (by kernel_rfl) (by decide) hf1
 simp [Value.cells] at e1
 obtain ⟨rfl, rfl, rfl⟩ := e1
 have k2 := h2
 have lt2 : ∀ x ∈ p2, x.block < W.heap.size := by obtain ⟨m, hm⟩ := k2; exact DataW.trod_lt m _ _ _ hm
 obtain ⟨sa2, sl2, sc2, rfl⟩ := okWide_slice Tryz.underlying26 (hval 2 26 v2 rfl rfl)
 obtain ⟨fu2, hf2⟩ := h2
 obtain ⟨x2, a2, c2, e2, hx2, bd2⟩ := Ze7 (α := Go.Cat.G3.Event) Tryz.underlying26 (by kernel_rfl) (by decide) hf2
 simp [Value.cells] at e2
 obtain ⟨rfl, rfl, rfl⟩ := e2
 obtain ⟨k, hk⟩ := JudgeFinds_true x0 x1 x2 (by have h := bd0.2.1; unfold maxLen at h; omega) (fun e he => by have h := bd2.2 e he; have h1 := h.2.2.2.2.2.1; unfold maxLen at h1; exact ⟨by omega, Zj9 h.2.2.2.2.1.1, Zj9 h.2.2.2.2.1.2.1, Zj9 h.2.2.2.2.1.2.2⟩)
 refine (Zj3 ((ZdY k (hp W) x0 _ _ hx0_0 x1 _ _ hx1 x2 _ _ hx2 hk).mono fun _ _ _ _ h => h.1)).mono fun e W' ⟨he, bel⟩ => ?_
 subst he
 exact ⟨_, rfl, _, _, _, [], _, [], hW', trodAll_mk1 (shut_bool Tryz.underlying4 _), (trodAll_cons_mk (Below.trod Zid (by kernel_rfl) (of_decide_eq_true (by kernel_rfl)) k0 bel lt0) (trodAll_cons_mk (Below.trod Zid (by kernel_rfl) (of_decide_eq_true (by kernel_rfl)) k1 bel lt1) (trodAll_cons_mk (Below.trod Zid (by kernel_rfl) (of_decide_eq_true (by kernel_rfl)) k2 bel lt2) trodAll_mk0))), rfl, bel.frame _, fun h => by cases h⟩
theorem over : Rows.judgeFindsRow.holds Tryz.pinned (OpenSpec.ofChange Rows.judgeFindsSpec) :=
 OpenClaim.holds_of_wide 3 Tryz.f3 rfl rfl rfl rfl rfl rfl rfl ⟨rfl, rfl, rfl, rfl, rfl⟩ rfl rfl rfl rfl rfl (by kernel_rfl) Tryz.func3 (by kernel_rfl)
  (of_decide_eq_true (by kernel_rfl)) (by unfold Func.isWrapper; first | (rw [if_pos (by decide +kernel)]; kernel_rfl) | (rw [if_neg (by decide +kernel)]; exact ⟨rfl, rfl⟩))
  (fun os started H enc _ => Znr os started H enc)
theorem proved : Rows.JudgeFindsSaid := over
end Go.Proofs.YtmmpieknnnlnhaaGreat.judgeFinds
namespace Go.Proofs.YtmmpieknnnlnhaaGreat
theorem judgeFinds_holds : Rows.JudgeFindsSaid := judgeFinds.proved
end Go.Proofs.YtmmpieknnnlnhaaGreat

