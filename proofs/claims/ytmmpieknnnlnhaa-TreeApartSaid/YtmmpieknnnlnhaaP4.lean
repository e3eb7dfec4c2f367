/- A text of the proof of the seat's laws: a step logic over the machine, or pure functions that the Go functions come to. No condition. -/
import Derived.Test.YtmmpieknnnlnhaaP3
set_option linter.unusedVariables false
set_option linter.unusedSimpArgs false
set_option linter.unnecessarySimpa false
namespace Go.Cat.G3
open Go Go.Cat Go.Proofs
set_option linter.unusedVariables false
theorem sidesL_len {n : Int} : ∀ (ls : List Link) (i : Nat) (m m' : Sides), sidesL n ls i m = some m' → m'.length = m.length + 2 * ls.length := by
  intro ls
  induction ls with
  | nil => intro i m m' e; cases e; simp
  | cons l ls ih =>
    intro i m m' e
    simp only [sidesL] at e
    cases ha : addLink n m i l with
    | none => rw [ha] at e; cases e
    | some m1 =>
      rw [ha] at e
      have := ih (i + 1) m1 m' e
      have hm : m1.length = m.length + 2 := by
        unfold addLink at ha
        split at ha
        · cases ha
        · split at ha
          · cases ha
          · split at ha
            · cases ha
            · cases ha; simp
      simp only [List.length_cons]; omega
theorem sidesP_len {g : Graph} : ((sidesP g).getD []).length ≤ 2 * g.Links.length := by
  cases h : sidesP g with
  | none => simp
  | some m =>
    unfold sidesP at h
    split at h
    · cases h
    · have := sidesL_len _ _ _ _ h; simp at this ⊢; omega
theorem sidesP_getD (g : Graph) : SidesOk g.Switches ((sidesP g).getD []) := by
  cases h : sidesP g with
  | none => exact ⟨by simp, by simp⟩
  | some m => exact (sidesP_ok h).1
def graph_Ports (k : Nat) (x0 : Graph) (x1 : Int) : Option (List Int) := if x0.Links.length < 400 then some (portsOf ((sidesP x0).getD []) x1) else none
theorem graph_Ports_ok (k : Nat) (H : Heap) (x0 : Graph) (a0_0 : Option Addr) (c0_0 : Nat) (hx0_0 : RSl H a0_0 c0_0 x0.Links) (x1 : Int) {r : List Int} (hr : graph_Ports k x0 x1 = some r) :
    Fn Try.prog 16 [.agg #[.int .i64 x0.Switches, .slice a0_0 x0.Links.length c0_0], .int .i64 x1] H [] fun H' v out => ∃ a0 c0, v = .slice a0 r.length c0 ∧ out = [.osl (.slice a0 r.length c0) 1 3 (r.map GoE.enc)] := by
  unfold graph_Ports at hr
  split at hr
  · rename_i hl
    cases hr
    have hok := sidesP_getD x0
    have hlen := sidesP_len (g := x0)
    refine (ports 1000 H x0 a0_0 c0_0 hx0_0 x1 _ _ (sides_eq 1000 x0 (by omega) (by omega) (by omega)) (fun e he => ?_) (by omega)).mono ?_
    · obtain ⟨p, hp, rfl⟩ := List.mem_map.1 he
      have := hok.ok p hp; omega
    · rintro H' v out _ ⟨r, a, c, hR, rfl, rfl⟩
      cases portsR_eq hok hR
      exact ⟨a, c, rfl, rfl⟩
  · cases hr
def graph_Reach (k : Nat) (x0 : Graph) (x1 : List Bool) (x2 : Int) : Option (List Int) :=
  if x0.Links.length < 400 then some (if (!(sidesP x0).isSome || (decide (x2 < 1) || decide (x2 > x0.Switches))) = true then [] else reachOf ((sidesP x0).getD []) x1 x2) else none
theorem graph_Reach_ok (k : Nat) (H : Heap) (x0 : Graph) (a0_0 : Option Addr) (c0_0 : Nat) (hx0_0 : RSl H a0_0 c0_0 x0.Links) (x1 : List Bool) (a1_0 : Option Addr) (c1_0 : Nat) (hx1_0 : RSl H a1_0 c1_0 x1) (x2 : Int) {r : List Int} (hr : graph_Reach k x0 x1 x2 = some r) :
    Fn Try.prog 24 [.agg #[.int .i64 x0.Switches, .slice a0_0 x0.Links.length c0_0], .slice a1_0 x1.length c1_0, .int .i64 x2] H [] fun H' v out => ∃ a0 c0, v = .slice a0 r.length c0 ∧ out = [.osl (.slice a0 r.length c0) 1 3 (r.map GoE.enc)] := by
  unfold graph_Reach at hr
  split at hr
  · rename_i hl
    cases hr
    have hok := sidesP_getD x0
    have hlen := sidesP_len (g := x0)
    refine (reach sortInts 1000 H x0 a0_0 c0_0 hx0_0 a1_0 x1 c1_0 hx1_0 x2 _ _ (sides_eq 1000 x0 (by omega) (by omega) (by omega)) (fun p hp => (hok.ok p hp).2.2.2.2) (by omega)).mono ?_
    rintro H' v out _ ⟨r, a, c, hR, rfl, rfl⟩
    cases reachR_eq hR
    exact ⟨a, c, rfl, rfl⟩
  · cases hr
end Go.Cat.G3
