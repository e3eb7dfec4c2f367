/- A text of the proof of the seat's laws: a step logic over the machine, or pure functions that the Go functions come to. No condition. -/
import Derived.Test.YtmmpieknnnlnhaaRows
import Derived.Test.YtmmpieknnnlnhaaPA2
import Derived.Test.YtmmpieknnnlnhaaCore1
import Derived.WalkKit
import Derived.ProofKit
import Derived.OpenShut
import Derived.ShutString
import Derived.ChangeOld
import Derived.Below
import Derived.SizedLaws
import Derived.Carry
set_option linter.unusedVariables false
set_option linter.unusedSimpArgs false
set_option linter.unnecessarySimpa false
/- The law TreeApart, proved: the contract of the Go function, out of its own text, joined with the law over plain data. No condition. -/
namespace Go.Cat.G3
open Go Go.Cat Go.Proofs Go.ChangeShapes Go.WideShapes
set_option linter.unusedVariables false
instance : TOpen Try.prog 3 Int := topen_int Try.underlying3
instance : GoB End := ⟨fun x => ibd .i64 x.Switch ∧ ibd .i64 x.Port⟩
instance : TOpen Try.prog 26 End := {
  op := fun {H enc w base spare held fuel cs x} h => by
    obtain ⟨hl, m, hf⟩ := op_struct 2 Try.underlying26 (by kernel_rfl) h
    match cs, hl with
    | [c0, c1], _ =>
      obtain ⟨y0, f0⟩ := hf 0 _ 1 rfl (by kernel_rfl)
      have f0 : DataW.trod enc Try.prog w base spare held m 3 [c0] = some y0 := f0
      obtain ⟨a0, e0, b0⟩ := op_int Try.underlying3 f0
      obtain rfl := List.head_eq_of_cons_eq e0
      obtain ⟨y1, f1⟩ := hf 1 _ 1 rfl (by kernel_rfl)
      have f1 : DataW.trod enc Try.prog w base spare held m 3 [c1] = some y1 := f1
      obtain ⟨a1, e1, b1⟩ := op_int Try.underlying3 f1
      obtain rfl := List.head_eq_of_cons_eq e1
      exact ⟨⟨a0, a1⟩, rfl, ⟨b0, b1⟩⟩ }
instance : GoB Link := ⟨fun x => GoB.bd x.A ∧ GoB.bd x.B⟩
instance : TOpen Try.prog 40 Link := {
  op := fun {H enc w base spare held fuel cs x} h => by
    obtain ⟨hl, m, hf⟩ := op_struct 4 Try.underlying40 (by kernel_rfl) h
    match cs, hl with
    | [c0, c1, c2, c3], _ =>
      obtain ⟨y0, f0⟩ := hf 0 _ 2 rfl (by kernel_rfl)
      have f0 : DataW.trod enc Try.prog w base spare held m 26 [c0, c1] = some y0 := f0
      obtain ⟨a0, e0, b0⟩ := TOpen.op (P := Try.prog) (t := 26) (α := End) f0
      simp only [GoT.rep, GoE.enc, List.cons.injEq, and_true] at e0
      obtain ⟨rfl, rfl⟩ := e0
      obtain ⟨y1, f1⟩ := hf 1 _ 2 rfl (by kernel_rfl)
      have f1 : DataW.trod enc Try.prog w base spare held m 26 [c2, c3] = some y1 := f1
      obtain ⟨a1, e1, b1⟩ := TOpen.op (P := Try.prog) (t := 26) (α := End) f1
      simp only [GoT.rep, GoE.enc, List.cons.injEq, and_true] at e1
      obtain ⟨rfl, rfl⟩ := e1
      exact ⟨⟨a0, a1⟩, rfl, ⟨b0, b1⟩⟩ }
end Go.Cat.G3
namespace Go.Proofs.Ytmmpieknnnlnhaa.treeApart
open Go Go.Cat Go.Cat.G3 Go.ChangeShapes Go.WideShapes Go.ChangeAt Go.RowKit
set_option linter.unusedVariables false
theorem own : ownKnob Try.prog.godebug = none := by kernel_rfl
theorem laidOut : laidOutB Try.prog = true := by kernel_rfl
set_option maxRecDepth 100000 in
theorem lifted (os : Os) (started : os.Started) (H : Type) (enc : TypeId × Value → H) :
    ReturnsInHanded {} Try.checked os 11 .any (Rows.treeApartSpec.pre6 enc Try.prog Try.f11 Rows.treeApartRow.domain false) (Rows.treeApartSpec.post enc Try.prog Try.f11 false true false false) := by
  refine returnsInHanded_of_change_sized (C := Try.checked) own started (by kernel_rfl) Try.func11
    (ChangeSpec.witness6 (enc := enc) (C := Try.checked) false ⟨#[], #[.slice none 0 0, .int .i64 0], []⟩ 8 (by kernel_rfl) (by kernel_rfl) (by kernel_rfl) (by kernel_rfl)) ?_
  intro W base args ds gs before hval0 hW hcnd hsz0 _
  have hval : ∀ (j : Nat) t v, Try.f11.params[j]? = some t → args[j]? = some v → Value.okWide Try.prog W .any base t v := hval0
  have hW' := hW
  obtain ⟨p, q, hA0, hV, rfl, hfz, hnd⟩ := hW
  have hA : DataW.TrodAll enc Try.prog W 0 (fun _ => true) true Try.f11.params.toList args.toList ds p := hA0
  rw [Try.params11] at hA hval
  obtain ⟨v0, vs0, d0, ds0, p0, q0, hargs, rfl, rfl, h0, r0⟩ := trodAll_cons hA
  obtain ⟨v1, vs1, d1, ds1, p1, q1, rfl, rfl, rfl, h1, r1⟩ := trodAll_cons r0
  obtain ⟨rfl, rfl, rfl⟩ := trodAll_nil r1
  obtain rfl : args = #[v0, v1] := by cases args; simp_all
  obtain ⟨rfl, rfl⟩ := trodVars_none hV
  have k0 := h0
  have lt0 : ∀ x ∈ p0, x.block < W.heap.size := by obtain ⟨m, hm⟩ := k0; exact DataW.trod_lt m _ _ _ hm
  obtain ⟨sa0, sl0, sc0, rfl⟩ := okWide_slice Try.underlying22 (hval 0 22 v0 rfl rfl)
  obtain ⟨fu0, hf0⟩ := h0
  obtain ⟨x0, a0, c0, e0, hx0, bd0⟩ := op_slice (α := Go.Cat.G3.Link) Try.underlying22 (by kernel_rfl) (by decide) hf0
  simp [Value.cells] at e0
  obtain ⟨rfl, rfl, rfl⟩ := e0
  have k1 := h1
  have lt1 : ∀ x ∈ p1, x.block < W.heap.size := by obtain ⟨m, hm⟩ := k1; exact DataW.trod_lt m _ _ _ hm
  obtain ⟨x1, rfl, rfl, rfl, bd1⟩ := open_int Try.underlying3 (hval 1 3 v1 rfl rfl) h1
  obtain ⟨k, hk⟩ := TreeApart_true x0 x1 
  refine (law_calls ((catenarylaw20_TreeApart_ok k (hp W) x0 _ _ hx0 x1 hk).mono fun _ _ _ _ h => h.1)).mono fun e W' ⟨he, bel⟩ => ?_
  subst he
  exact ⟨_, rfl, _, _, _, [], _, [], hW', trodAll_mk1 (shut_bool Try.underlying4 _), (trodAll_cons_mk (Below.trod laidOut (by kernel_rfl) (of_decide_eq_true (by kernel_rfl)) k0 bel lt0) (trodAll_cons_mk (Below.trod laidOut (by kernel_rfl) (of_decide_eq_true (by kernel_rfl)) k1 bel lt1) trodAll_mk0)), rfl, bel.frame _, fun h => by cases h⟩
theorem over : Rows.treeApartRow.holds Try.pinned (OpenSpec.ofChange Rows.treeApartSpec) :=
  OpenClaim.holds_of_wide 11 Try.f11 rfl rfl rfl rfl rfl rfl rfl ⟨rfl, rfl, rfl, rfl, rfl⟩ rfl rfl rfl rfl rfl (by kernel_rfl) Try.func11 (by kernel_rfl)
    (of_decide_eq_true (by kernel_rfl)) (by unfold Func.isWrapper; first | (rw [if_pos (by decide +kernel)]; kernel_rfl) | (rw [if_neg (by decide +kernel)]; exact ⟨rfl, rfl⟩))
    (fun os started H enc _ => lifted os started H enc)
theorem proved : Rows.TreeApartSaid := over
end Go.Proofs.Ytmmpieknnnlnhaa.treeApart
namespace Go.Proofs.Ytmmpieknnnlnhaa
theorem treeApart_holds : Rows.TreeApartSaid := treeApart.proved
end Go.Proofs.Ytmmpieknnnlnhaa
