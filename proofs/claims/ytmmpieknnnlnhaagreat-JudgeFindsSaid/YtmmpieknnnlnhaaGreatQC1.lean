/- A text of the proof of the seat's laws: a step logic over the machine, or pure functions that the Go functions come to. No condition. -/
import Derived.Test.YtmmpieknnnlnhaaGreatQG
namespace Go.Cat.G3
open Go Go.Cat Go.Proofs
set_option linter.unusedVariables false
set_option linter.unusedSimpArgs false
theorem rdD {α : Type} {l : List α} {c : Int} (h0 : 0 ≤ c) (h1 : c < (l.length : Int)) (d : α) : rd l c = some (l.getD c.toNat d) := by
 unfold rd
 rw [if_pos h0, List.getD_eq_getElem?_getD, List.getElem?_eq_getElem (by omega)]; simp
theorem ZgH {α : Type} {l : List α} {i : Nat} {p : α → Bool} (h : i < l.length) : (l.drop i).all p = (p l[i] && (l.drop (i + 1)).all p) := by
 rw [List.drop_eq_getElem_cons h]; rfl
theorem ZbU {α : Type} {l : List α} {i : Nat} (h : ¬ i < l.length) : l.drop i = [] := List.drop_eq_nil_of_le (by omega)
def wi (x lo hi : Int) : Bool := decide (lo ≤ x) && decide (x ≤ hi)
theorem Ze6 (k : Nat) (x lo hi : Int) : Zbu k x lo hi = some (wi x lo hi) := by
 unfold Zbu wi; by_cases h : lo ≤ x <;> simp [h]
theorem ZgW (k : Nat) (x lo hi : Int) : ZaD k x lo hi = some (wi x lo hi) := by
 unfold ZaD wi; by_cases h : lo ≤ x <;> simp [h]
def Zdl (kd : Int) : Int := if kd = 8 ∨ kd = 9 then 2 else if kd = 10 then 1 else 0
def chl (nd : Node) : List Int := if nd.Kind = 8 ∨ nd.Kind = 9 then [nd.A, nd.B] else if nd.Kind = 10 then [nd.A] else []
theorem Zhf (k : Nat) (kd : Int) : ZcW k kd = some (Zdl kd) := by
 unfold ZcW Zdl
 by_cases h8 : kd = 8
 ·simp [h8]
 ·by_cases h9 : kd = 9
  ·simp [h9]
  ·by_cases h10 : kd = 10 <;> simp [h8, h9, h10]
theorem ZfD (k : Nat) (kd : Int) : ZaE k kd = some (Zdl kd) := by
 unfold ZaE Zdl
 by_cases h8 : kd = 8
 ·simp [h8]
 ·by_cases h9 : kd = 9
  ·simp [h9]
  ·by_cases h10 : kd = 10 <;> simp [h8, h9, h10]
theorem ZeM (k : Nat) (nd : Node) : Zcl k nd = some (chl nd) := by
 unfold Zcl chl
 rw [Zhf]
 unfold Zdl
 by_cases h8 : nd.Kind = 8 ∨ nd.Kind = 9
 ·simp [h8, slc]
 ·by_cases h10 : nd.Kind = 10 <;> simp [h8, h10, slc]
def inB (i : Nat) (c : Int) : Bool := decide (0 ≤ c) && decide (c < (i : Int))
def Zbd (nd : Node) (i : Nat) : Bool := (chl nd).all (inB i)
theorem Zm7 {i : Nat} (hi : i < 4611686018427387904) (c : Int) : wi c 0 (w64 ((i : Int) - 1)) = inB i c := by
 unfold wi inB
 rw [ZdJ (by omega) (by omega), show decide (c ≤ (i : Int) - 1) = decide (c < (i : Int)) from decide_eq_decide.2 (by omega)]
theorem ZjT (k : Nat) (i : Nat) (hi : i < 4611686018427387904) (l : List Int) (hl : l.length < 4611686018427387904) : ∀ (q j : Nat), j ≤ l.length → l.length - j < q →
  Zb9 k (i : Int) l q (j : Int) = some (if (l.drop j).all (inB i) = true then .out () else .ret false) := by
 intro q
 induction q with
 | zero => intro j _ h; omega
 | succ q ih =>
  intro j hj hq
  rw [Zb9]
  by_cases hlt : j < l.length
  ·rw [if_pos (by simp; omega), ZbX hlt, ZgH hlt]
   simp only [Option.bind_some, Ze6, Zm7 hi]
   cases hb : inB i l[j] with
   | false => simp
   | true => rw [if_neg (by simp), Zb6 (by omega), ih (j + 1) (by omega) (by omega)]; simp
  ·rw [if_neg (by simp; omega), ZbU hlt]; simp
theorem ZeW (nd : Node) : (chl nd).length ≤ 2 := by unfold chl; split <;> (try split) <;> simp
theorem ZgX (k : Nat) (hk : 3 ≤ k) (nd : Node) (i : Nat) (hi : i < 4611686018427387904) : Zc1 k nd (i : Int) = some (Zbd nd i) := by
 unfold Zc1 Zbd
 rw [ZeM]
 have := ZjT k i hi (chl nd) (by have := ZeW nd; omega) k 0 (by omega) (by have := ZeW nd; omega)
 have h' : Zb9 k (i : Int) (chl nd) k 0 = _ := this
 simp only [Option.bind_some, h', List.drop_zero]
 cases (chl nd).all (inB i) <;> simp [LX.go]
theorem Zf5 (k : Nat) (nd : Node) (i : Nat) (hi : i < 4611686018427387904) : Zbo k nd (i : Int) = some (Zbd nd i) := by
 unfold Zbo Zbd chl
 simp only [ZfD, ZgW, Zm7 hi, Option.bind_some]
 unfold Zdl
 by_cases h8 : nd.Kind = 8 ∨ nd.Kind = 9
 ·simp only [h8, if_true]
  cases hA : inB i nd.A <;> cases hB : inB i nd.B <;> simp [hA, hB]
 ·by_cases h10 : nd.Kind = 10
  ·simp only [h8, h10, if_true, if_false]
   cases hA : inB i nd.A <;> simp [hA]
  ·simp [h8, h10]
def zB (x : Int) : Bool := decide (x = 0)
def mayB (nd : Node) : Bool :=
 if nd.Kind = 8 ∨ nd.Kind = 9 then zB nd.N && zB nd.M && zB nd.V
 else if nd.Kind = 10 then zB nd.B && zB nd.N && zB nd.M && zB nd.V
 else if nd.Kind = 1 ∨ nd.Kind = 2 then zB nd.A && zB nd.B && zB nd.N && zB nd.M && zB nd.V
 else if nd.Kind = 3 then zB nd.A && zB nd.B && wi nd.N 0 2 && wi nd.M 1 255 && wi nd.V 0 255 && zB (ibit .andNot .i64 nd.V nd.M)
 else if nd.Kind = 4 then zB nd.A && zB nd.B && zB nd.M && zB nd.V && wi nd.N 1 6
 else if nd.Kind = 5 ∨ nd.Kind = 7 then zB nd.A && zB nd.B && zB nd.M && zB nd.V && wi nd.N 0 4
 else if nd.Kind = 6 then zB nd.A && zB nd.B && zB nd.M && wi nd.N 0 2 && wi nd.V 0 255
 else false
theorem ZlJ (x : Int) : (x == 0) = zB x := rfl
theorem nodeZ (a b n m v : Int) : decide ((⟨0, a, b, n, m, v⟩ : Node) = ⟨0, 0, 0, 0, 0, 0⟩) = (zB a && zB b && zB n && zB m && zB v) := by
 unfold zB
 rw [Bool.eq_iff_iff]; simp only [decide_eq_true_eq, Bool.and_eq_true, Node.mk.injEq, true_and]
 simp only [and_assoc]
theorem zB0 : zB 0 = true := rfl
theorem Zj7 (b : Bool) (x : Bool) : (if b = true then some x else some false) = some (b && x) := by cases b <;> rfl
theorem Zmn (k : Nat) (nd : Node) : Zeb k nd = some (mayB nd) := by
 unfold Zeb
 simp only [Zhf, Ze6, Option.bind_some, nodeZ, ZlJ, zB0, Bool.true_and, Bool.and_true, Zj7]
 unfold mayB Zdl
 by_cases h8 : nd.Kind = 8 ∨ nd.Kind = 9
 ·simp [h8, zB0]
 ·by_cases h10 : nd.Kind = 10
  ·simp [h8, h10, zB0]
  ·simp only [h8, h10, if_false]
   obtain ⟨h8, h9⟩ := not_or.1 h8
   by_cases h1 : nd.Kind = 1
   ·simp [h1]; grind
   ·by_cases h2 : nd.Kind = 2
    ·simp [h2]; grind
    ·by_cases h3 : nd.Kind = 3
     ·simp [h3]; grind
     ·by_cases h4 : nd.Kind = 4
      ·simp [h4]; grind
      ·by_cases h5 : nd.Kind = 5
       ·simp [h5]; grind
       ·by_cases h7 : nd.Kind = 7
        ·simp [h7]; grind
        ·by_cases h6 : nd.Kind = 6
         ·simp [h6]; grind
         ·simp [h1, h2, h3, h4, h5, h6, h7, zB]
theorem Zi4 (k : Nat) (nd : Node) (i : Nat) (hi : i < 4611686018427387904) : Zcc k nd (i : Int) = some (Zbd nd i && mayB nd) := by
 unfold Zcc
 simp only [Zf5 k nd i hi, ZfD, ZgW, Option.bind_some, ZlJ, Zj7]
 cases hp : Zbd nd i with
 | false => simp
 | true =>
  unfold mayB Zdl
  by_cases h8 : nd.Kind = 8
  ·simp [h8]; grind
  ·by_cases h9 : nd.Kind = 9
   ·simp [h9]; grind
   ·by_cases h10 : nd.Kind = 10
    ·by_cases hb : nd.B = 0
     ·simp [h10, hb, zB0]; grind
     ·have : zB nd.B = false := by simp [zB, hb]
      simp [h10, hb, this]
    ·by_cases ha : nd.A = 0
     ·by_cases hb : nd.B = 0
      ·by_cases h1 : nd.Kind = 1
       ·simp [h1, ha, hb, zB0]; grind
       ·by_cases h2 : nd.Kind = 2
        ·simp [h2, ha, hb, zB0]; grind
        ·by_cases h3 : nd.Kind = 3
         ·simp [h3, ha, hb, zB0]; grind
         ·by_cases h4 : nd.Kind = 4
          ·simp [h4, ha, hb, zB0]; grind
          ·by_cases h5 : nd.Kind = 5
           ·simp [h5, ha, hb, zB0]; grind
           ·by_cases h7 : nd.Kind = 7
            ·simp [h7, ha, hb, zB0]; grind
            ·by_cases h6 : nd.Kind = 6
             ·simp [h6, ha, hb, zB0]; grind
             ·simp [h1, h2, h3, h4, h5, h6, h7, h8, h9, h10, ha, hb]
      ·have : zB nd.B = false := by simp [zB, hb]
       simp [h8, h9, h10, ha, hb, this]
     ·have : zB nd.A = false := by simp [zB, ha]
      simp [h8, h9, h10, ha, this]
end Go.Cat.G3

