/- A text of the proof of the seat's laws: a step logic over the machine, or pure functions that the Go functions come to. No condition. -/
import Derived.Test.YtmmpieknnnlnhaaGreatQC3
namespace Go.Cat.G3
open Go Go.Cat Go.Proofs
set_option linter.unusedVariables false
set_option linter.unusedSimpArgs false
def okP (ns : List Node) : Bool := decide (1 ≤ ns.length) && decide (ns.length ≤ 64) && allI (okN ns) 0 ns && (cntU ns.length ns).dropLast.all (fun c => decide (c = 1))
def chkP (ns : List Node) : Int := if okP ns = true then (if Zf1 ns > 16 then 220 else 0) else 2
theorem Znt (k : Nat) (l : List Int) (hb : l.length < 1000000) : ∀ (q j : Nat), j ≤ l.length → l.length - j < q →
  ∃ r, slices_IndexFunc___int_int__at88_l0 k l q (j : Int) = some r ∧ (if (l.drop j).all (fun c => decide (c = 1)) = true then r = .out () else ∃ z : Int, 0 ≤ z ∧ r = .ret z) := by
 intro q
 induction q with
 | zero => intro j _ h; omega
 | succ q ih =>
  intro j hj hq
  rw [slices_IndexFunc___int_int__at88_l0]
  by_cases hlt : j < l.length
  ·rw [if_pos (by simp; omega), ZbX hlt, ZgH hlt]
   simp only [Option.bind_some, ZdE]
   by_cases hc : l[j] = 1
   ·obtain ⟨r, h1, h2⟩ := ih (j + 1) (by omega) (by omega)
    refine ⟨r, ?_, by simpa [hc] using h2⟩
    rw [hc, Zb6 (by omega), h1]; simp
   ·refine ⟨_, by rw [if_pos (by simpa using hc)], ?_⟩
    rw [if_neg (by simp [hc])]
    exact ⟨j, by omega, rfl⟩
  ·refine ⟨_, by rw [if_neg (by simp; omega)], ?_⟩
   rw [ZbU hlt]; simp
theorem Zkv (k : Nat) (l : List Int) (hb : l.length < 1000000) (hk : l.length < k) : ZaT k l = some (!l.all fun c => decide (c = 1)) := by
 unfold ZaT Zbx
 obtain ⟨r, h1, h2⟩ := Znt k l hb k 0 (by omega) (by omega)
 have h1' : slices_IndexFunc___int_int__at88_l0 k l k 0 = _ := h1
 rw [h1']
 rw [List.drop_zero] at h2
 cases ha : l.all fun c => decide (c = 1) with
 | true => rw [ha, if_pos rfl] at h2; subst h2; simp [LX.go]
 | false => rw [ha, if_neg (by simp)] at h2; obtain ⟨z, hz, rfl⟩ := h2; simp [LX.go]; exact hz
theorem ZfE (k : Nat) (ns : List Node) (hk : 100 ≤ k) : Zdk k ns = some (chkP ns) := by
 unfold Zdk chkP okP
 rw [Ze6]
 unfold wi
 by_cases h1 : 1 ≤ ns.length
 ·by_cases h64 : ns.length ≤ 64
  ·have e1 : decide ((1 : Int) ≤ (ns.length : Int)) = true := decide_eq_true (by omega)
   have e2 : decide ((ns.length : Int) ≤ 64) = true := decide_eq_true (by omega)
   have hl := ZnS k ns (by omega) (by omega) k 0 (by omega) (by omega) (by intro h hh; simp [hts] at hh)
   rw [List.take_zero, List.drop_zero] at hl
   have hl' : Zcn k ns k (List.replicate ns.length 0, List.replicate ns.length 0, 0, 0) = _ := hl
   have hmk : mks (ns.length : Int) (0 : Int) = some (List.replicate ns.length 0) := by unfold mks; rw [if_pos (by unfold LIM; omega)]; simp
   simp only [e1, e2, Bool.and_self, Option.bind_some, Bool.not_true, Bool.false_eq_true, if_false, hmk, Int.toNat_natCast, hl', decide_eq_true h1, decide_eq_true h64, Bool.true_and]
   cases ha : allI (okN ns) 0 ns with
   | false => simp [LX.go]
   | true =>
    have hcl := ZgF ns.length ns
    simp only [if_true, LX.go, Option.bind_some, Bool.true_and]
    rw [ZdJ (by omega) (by omega)]
    have hs : slc (cntU ns.length ns) 0 ((ns.length : Int) - 1) = some (cntU ns.length ns).dropLast := by
     unfold slc
     rw [if_pos (by omega)]
     simp only [Int.toNat_zero, List.drop_zero, Nat.sub_zero]
     rw [List.dropLast_eq_take, hcl]
     rw [show ((ns.length : Int) - 1).toNat = ns.length - 1 by omega]
    rw [hs]
    simp only [Option.bind_some]
    rw [Zkv k _ (by simp; omega) (by simp; omega)]
    cases (cntU ns.length ns).dropLast.all fun c => decide (c = 1) with
    | false => simp
    | true => by_cases hd : Zf1 ns > 16 <;> simp [hd]
  ·have e2 : decide ((ns.length : Int) ≤ 64) = false := decide_eq_false (by omega)
   have e4 : decide (ns.length ≤ 64) = false := decide_eq_false h64
   simp only [e2, e4, Bool.and_false, Bool.false_and, Bool.or_true, Bool.not_false, if_true, Option.bind_some, Bool.false_eq_true, if_false]
 ·have e1 : decide ((1 : Int) ≤ (ns.length : Int)) = false := decide_eq_false (by omega)
  rw [e1]; simp [h1]
theorem Zjt {p q : Nat → Node → Bool} : ∀ (l : List Node) (i : Nat), (∀ j nd, i ≤ j → j < i + l.length → l[j - i]? = some nd → p j nd = q j nd) → allI p i l = allI q i l := by
 intro l
 induction l with
 | nil => intro i _; rfl
 | cons nd l ih =>
  intro i h
  have h0 := h i nd (by omega) (by simp) (by simp)
  have := ih (i + 1) fun j x h1 h2 h3 => h j x (by omega) (by simp; omega) (by rw [show j - i = (j - (i + 1)) + 1 by omega]; simpa using h3)
  simp only [allI, h0, this]
theorem ZiU {p : Nat → Node → Bool} : ∀ (l : List Node) (i : Nat), allI p i l = true → ∀ j nd, i ≤ j → l[j - i]? = some nd → p j nd = true := by
 intro l
 induction l with
 | nil => intro i _ j nd _ h; simp at h
 | cons x l ih =>
  intro i h j nd hj hn
  simp only [allI, Bool.and_eq_true] at h
  rcases Nat.eq_or_lt_of_le hj with rfl | hlt
  ·simp at hn; subst hn; exact h.1
  ·exact ih (i + 1) h.2 j nd (by omega) (by rw [show j - i = (j - (i + 1)) + 1 by omega] at hn; simpa using hn)
theorem ZlC {p q : Nat → Node → Bool} (hpq : ∀ i nd, p i nd = true → q i nd = true) : ∀ (l : List Node) (i : Nat), allI p i l = true → allI q i l = true := by
 intro l
 induction l with
 | nil => intro i _; rfl
 | cons x l ih =>
  intro i h
  simp only [allI, Bool.and_eq_true] at h ⊢
  exact ⟨hpq _ _ h.1, ih _ h.2⟩
theorem ZlD (u : List Int) (n : Nat) (hu : u.length = n) : ∀ (l : List Node) (i : Nat), i + l.length = n → allI (fun i _ => !decide (i + 1 < n) || decide (u.getD i 0 = 1)) i l = (u.dropLast.drop i).all fun c => decide (c = 1) := by
 intro l
 induction l with
 | nil =>
  intro i h
  have : u.dropLast.drop i = [] := List.drop_eq_nil_of_le (by simp at h ⊢; omega)
  rw [this]; rfl
 | cons nd l ih =>
  intro i h
  simp only [List.length_cons] at h
  simp only [allI, ih (i + 1) (by omega)]
  by_cases hlt : i + 1 < n
  ·have h2 : i < u.dropLast.length := by simp; omega
   rw [ZgH h2, decide_eq_true hlt, List.getElem_dropLast]
   rw [List.getD_eq_getElem?_getD, List.getElem?_eq_getElem (by omega)]
   simp
  ·have : u.dropLast.drop i = [] := List.drop_eq_nil_of_le (by simp; omega)
   have h3 : u.dropLast.drop (i + 1) = [] := List.drop_eq_nil_of_le (by simp; omega)
   rw [this, h3, decide_eq_false hlt]; simp
theorem Zel (k : Nat) (ns : List Node) (hk : 100 ≤ k) : Zb1 k ns = some (chkP ns) := by
 unfold Zb1 chkP okP
 by_cases h1 : 1 ≤ ns.length
 ·by_cases h64 : ns.length ≤ 64
  ·have e1 : decide ((ns.length : Int) < 1) = false := decide_eq_false (by omega)
   have e2 : decide ((ns.length : Int) > 64) = false := decide_eq_false (by omega)
   have hl := Zi5 k ns (by omega) k 0 (by omega) (by omega)
   rw [List.take_zero, List.drop_zero] at hl
   have hl' : Za7 k ns k (List.replicate ns.length 0, 0) = _ := hl
   have hmk : mks (ns.length : Int) (0 : Int) = some (List.replicate ns.length 0) := by unfold mks; rw [if_pos (by unfold LIM; omega)]; simp
   simp only [e1, e2, Bool.or_self, Option.bind_some, Bool.false_eq_true, if_false, hmk, Int.toNat_natCast, hl', decide_eq_true h1, decide_eq_true h64, Bool.true_and]
   have hsplit : allI (okN ns) 0 ns = (allI (fun i nd => Zbd nd i && mayB nd) 0 ns && allI (fun _ nd => !(nd.Kind == 10) || Zgr ns nd.A) 0 ns) := by
    rw [← ZiV]; rfl
   rw [hsplit]
   cases ha : allI (fun i nd => Zbd nd i && mayB nd) 0 ns with
   | false => simp [LX.go]
   | true =>
    have hl2 := Zi6 k ns (by omega) k 0 (by omega) (by omega) (by rw [List.drop_zero]; exact ha)
    rw [List.drop_zero] at hl2
    have hl2' : Zbp k ns k (cntU ns.length ns, tst ns, 0) = _ := hl2
    have hd := ZhC k ns (by omega) k 0 (by omega) (by omega) (by intro h hh; simp [hts] at hh) (by rw [List.drop_zero]; exact ZlC (fun i nd h => by simp only [Bool.and_eq_true] at h; exact h.1) ns 0 ha)
    rw [List.take_zero] at hd
    have hd' : Za6 k ns k ([], 0, 0) = _ := hd
    simp only [if_true, LX.go, Option.bind_some, ZjP k ns (by omega) (by omega), hl2', ZcO, hd', Bool.true_and]
    have hc : allI (okC ns) 0 ns = ((cntU ns.length ns).dropLast.all (fun c => decide (c = 1)) && allI (fun _ nd => !(nd.Kind == 10) || Zgr ns nd.A) 0 ns) := by
     have e3 := ZlD (cntU ns.length ns) ns.length (ZgF _ _) ns 0 (by omega)
     rw [List.drop_zero] at e3
     rw [← e3, ← ZiV]
     refine Zjt ns 0 fun j nd _ hj hn => ?_
     have hpm := ZiU ns 0 ha j nd (by omega) hn
     simp only [Bool.and_eq_true] at hpm
     unfold okC
     by_cases h10 : nd.Kind = 10
     ·have hch : chl nd = [nd.A] := by unfold chl; rw [if_neg (by omega), if_pos h10]
      have hp := hpm.1
      unfold Zbd at hp; rw [hch] at hp
      simp only [List.all_cons, List.all_nil, Bool.and_true] at hp
      unfold inB at hp; simp at hp
      have hE : (tst ns).getD nd.A.toNat false = Zgr ns nd.A := by unfold Zgr; rw [if_neg (by omega)]
      rw [hE]
     ·have : (nd.Kind == 10) = false := by simpa using h10
      rw [this]; rfl
    rw [hc]
    cases (cntU ns.length ns).dropLast.all (fun c => decide (c = 1)) <;> cases allI (fun _ nd => !(nd.Kind == 10) || Zgr ns nd.A) 0 ns <;> by_cases hd : Zf1 ns > 16 <;> simp [hd, LX.go]
  ·have e2 : decide ((ns.length : Int) > 64) = true := decide_eq_true (by omega)
   have e4 : decide (ns.length ≤ 64) = false := decide_eq_false h64
   simp only [e2, e4, Bool.and_false, Bool.false_and, Bool.or_true, Bool.not_false, if_true, Option.bind_some, Bool.false_eq_true, if_false]
 ·have e1 : decide ((ns.length : Int) < 1) = true := decide_eq_true (by omega)
  rw [e1]; simp [h1]
end Go.Cat.G3

