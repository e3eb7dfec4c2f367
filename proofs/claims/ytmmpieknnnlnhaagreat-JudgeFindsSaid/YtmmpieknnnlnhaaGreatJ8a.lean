/- A text of the proof of the seat's laws: a step logic over the machine, or pure functions that the Go functions come to. No condition. -/
import Derived.Test.YtmmpieknnnlnhaaGreatJ7
set_option linter.unusedVariables false
set_option linter.unusedSimpArgs false
set_option linter.unnecessarySimpa false
namespace Go.Cat.G3
open Go Go.Cat Go.Proofs
set_option linter.unusedVariables false
def cmpI (a b : Int) : Int := if a < b then -1 else if b < a then 1 else 0
def cmpS (x y : Sent) : Int :=
 if cmpI x.Port y.Port ≠ 0 then cmpI x.Port y.Port else if cmpI x.H.e0 y.H.e0 ≠ 0 then cmpI x.H.e0 y.H.e0 else if cmpI x.H.e1 y.H.e1 ≠ 0 then cmpI x.H.e1 y.H.e1 else cmpI x.H.e2 y.H.e2
def ltS (x y : Sent) : Prop := x.Port < y.Port ∨ x.Port = y.Port ∧ (x.H.e0 < y.H.e0 ∨ x.H.e0 = y.H.e0 ∧ (x.H.e1 < y.H.e1 ∨ x.H.e1 = y.H.e1 ∧ x.H.e2 < y.H.e2))
instance iJ8ax1 : DecidableRel ltS := fun x y => by unfold ltS; infer_instance
theorem Zgo (x y : Sent) : cmpS x y < 0 ↔ ltS x y := by
 unfold cmpS cmpI ltS
 by_cases h1 : x.Port < y.Port
 ·simp [h1]
 ·by_cases h2 : y.Port < x.Port
  ·simp [h1, h2]; omega
  ·have h3 : x.Port = y.Port := by omega
   by_cases h4 : x.H.e0 < y.H.e0
   ·simp [h3, h4]
   ·by_cases h5 : y.H.e0 < x.H.e0
    ·simp [h3, h4, h5]; omega
    ·have h6 : x.H.e0 = y.H.e0 := by omega
     by_cases h7 : x.H.e1 < y.H.e1
     ·simp [h3, h6, h7]
     ·by_cases h8 : y.H.e1 < x.H.e1
      ·simp [h3, h6, h7, h8]; omega
      ·have h9 : x.H.e1 = y.H.e1 := by omega
       by_cases h10 : x.H.e2 < y.H.e2
       ·simp [h3, h6, h9, h10]
       ·by_cases h11 : y.H.e2 < x.H.e2 <;> simp [h3, h6, h9, h10, h11]
theorem ZeQ {x y z : Sent} (h1 : ltS x y) (h2 : ltS y z) : ltS x z := by unfold ltS at *; omega
theorem Zfa (x : Sent) : ¬ ltS x x := by unfold ltS; omega
theorem Zic (x y : Sent) : ltS x y ∨ x = y ∨ ltS y x := by
 rw [Zhs, ZfN]; unfold ltS; omega
instance iJ8ax2 : Inhabited Sent := ⟨⟨0, ⟨0, 0, 0⟩⟩⟩
def Ziw : Prop := ∀ (H : Heap) (x y : Sent), Fn Tryz.prog 55 [.agg (GoE.enc x).toArray, .agg (GoE.enc y).toArray] H [] fun _ v out => v = .int .i64 (cmpS x y) ∧ out = []
def insS (x : Sent) : List Sent → List Sent
 | [] => [x]
 | y :: ys => if ltS y x then y :: insS x ys else x :: y :: ys
def Zdm (l : List Sent) : List Sent := l.foldr insS []
theorem ZhK (x : Sent) (l : List Sent) : (insS x l).Perm (x :: l) := by
 induction l with
 | nil => exact .refl _
 | cons y l ih =>
  unfold insS
  split
  ·exact (ih.cons y).trans (List.Perm.swap x y l)
  ·exact .refl _
theorem Zd9 (l : List Sent) : (Zdm l).Perm l := by
 induction l with
 | nil => exact .refl _
 | cons x l ih => exact (ZhK x _).trans (ih.cons x)
abbrev Zd7 (l : List Sent) : Prop := l.Pairwise fun x y => ¬ ltS y x
theorem Zig (x : Sent) (l : List Sent) (h : Zd7 l) : Zd7 (insS x l) := by
 induction l with
 | nil => simp [insS, Zd7]
 | cons y l ih =>
  unfold Zd7 at *
  rw [List.pairwise_cons] at h
  unfold insS
  split
  ·rename_i hlt
   rw [List.pairwise_cons]
   refine ⟨fun z hz => ?_, ih h.2⟩
   rcases List.mem_cons.1 ((ZhK x l).mem_iff.1 hz) with rfl | hz
   ·exact fun h' => Zfa _ (ZeQ h' hlt)
   ·exact h.1 z hz
  ·rename_i hlt
   rw [List.pairwise_cons]
   refine ⟨fun z hz => ?_, List.pairwise_cons.2 h⟩
   rcases List.mem_cons.1 hz with rfl | hz2
   ·exact hlt
   ·intro h'
    rcases Zic x y with h2 | h2 | h2
    ·exact h.1 z hz2 (ZeQ h' h2)
    ·exact h.1 z hz2 (h2 ▸ h')
    ·exact hlt h2
theorem ZeG (l : List Sent) : Zd7 (Zdm l) := by
 induction l with
 | nil => exact .nil
 | cons x l ih => exact Zig x _ ih
theorem Zgs : ∀ (l l' : List Sent), Zd7 l → Zd7 l' → l.Perm l' → l = l' := by
 intro l
 induction l with
 | nil => intro l' _ _ h; exact (List.nil_perm.1 h).symm
 | cons x l ih =>
  intro l' h1 h2 hp
  cases l' with
  | nil => exact absurd hp.length_eq (by simp)
  | cons y l' =>
   unfold Zd7 at *
   rw [List.pairwise_cons] at h1 h2
   have hxy : x = y := by
    rcases List.mem_cons.1 (hp.mem_iff.1 (List.mem_cons_self ..)) with h | h
    ·exact h
    ·rcases List.mem_cons.1 (hp.mem_iff.2 (List.mem_cons_self ..)) with h' | h'
     ·exact h'.symm
     ·rcases Zic x y with h3 | h3 | h3
      ·exact absurd h3 (h2.1 x h)
      ·exact h3
      ·exact absurd h3 (h1.1 y h')
   subst hxy
   rw [ih l' h1.2 h2.2 ((List.perm_cons x).1 hp)]
theorem Zgj {l l' : List Sent} (h : Zd7 l') (hp : l'.Perm l) : l' = Zdm l := Zgs _ _ h (ZeG l) (hp.trans (Zd9 l).symm)
end Go.Cat.G3

