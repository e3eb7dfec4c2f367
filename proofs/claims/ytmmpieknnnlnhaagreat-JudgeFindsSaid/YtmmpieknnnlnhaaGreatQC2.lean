/- A text of the proof of the seat's laws: a step logic over the machine, or pure functions that the Go functions come to. No condition. -/
import Derived.Test.YtmmpieknnnlnhaaGreatQC1
namespace Go.Cat.G3
open Go Go.Cat Go.Proofs
set_option linter.unusedVariables false
set_option linter.unusedSimpArgs false
def andC (ts : List Bool) (b : Bool) (c : Int) : Bool := if b = true then ts.getD c.toNat false else false
def Zei (ts : List Bool) (nd : Node) : Bool :=
 if wi nd.Kind 1 5 = true then true else if Zdl nd.Kind > 0 then (if Zbd nd ts.length = true then (chl nd).foldl (andC ts) true else false) else false
def tst (ns : List Node) : List Bool := ns.foldl (fun ts nd => ts ++ [Zei ts nd]) []
theorem ZfB (ns : List Node) (nd : Node) : tst (ns ++ [nd]) = tst ns ++ [Zei (tst ns) nd] := by simp [tst]
theorem Zhc {α : Type} {P : List α → Prop} (h0 : P []) (h1 : ∀ l x, P l → P (l ++ [x])) (l : List α) : P l := by
 rw [← List.reverse_reverse l]
 induction l.reverse with
 | nil => exact h0
 | cons x l ih => rw [List.reverse_cons]; exact h1 _ _ ih
theorem Zfo (ns : List Node) : (tst ns).length = ns.length := by
 induction ns using Zhc with
 | h0 => rfl
 | h1 ns nd ih => rw [ZfB]; simp [ih]
theorem ZkH (ns : List Node) (i : Nat) : tst (ns.take i) = (tst ns).take i := by
 induction ns using Zhc with
 | h0 => simp [tst]
 | h1 ns nd ih =>
  rw [ZfB]
  by_cases h : i ≤ ns.length
  ·rw [List.take_append_of_le_length h, List.take_append_of_le_length (by rw [Zfo]; exact h), ih]
  ·rw [List.take_of_length_le (by simp; omega), List.take_of_length_le (by simp [Zfo]; omega), ZfB]
theorem kids5 (nd : Node) (h : wi nd.Kind 1 5 = true) : chl nd = [] := by
 unfold wi at h; simp at h; unfold chl; rw [if_neg (by omega), if_neg (by omega)]
theorem ZhA (k : Nat) (ns : List Node) (hb : ns.length < 4611686018427387904) (hL : ns.length < LIM) : ∀ (q i : Nat), i ≤ ns.length → ns.length - i < q →
  Za5 k ns q (tst (ns.take i), (i : Int)) = some (tst ns) := by
 intro q
 induction q with
 | zero => intro i _ h; omega
 | succ q ih =>
  intro i hi hq
  rw [Za5]
  by_cases hlt : i < ns.length
  ·have hlen : (tst (ns.take i)).length = i := by rw [Zfo, List.length_take]; omega
   have hs : tst (ns.take (i + 1)) = tst (ns.take i) ++ [Zei (tst (ns.take i)) ns[i]] := by rw [← List.take_append_getElem hlt, ZfB]
   rw [if_pos (by simp; omega), ZbX hlt]
   simp only [Option.bind_some, ZfD, Zf5 k _ i (by omega)]
   have key : ∀ nd : Node, Zei (tst (ns.take i)) nd = Zei (tst (ns.take i)) nd := fun _ => rfl
   have fin : ∀ b : Bool, b = Zei (tst (ns.take i)) ns[i] →
     ((app (tst (ns.take i)) [b]).bind fun _ => Za5 k ns q (tst (ns.take i) ++ [b], w64 ((i : Int) + 1))) = some (tst ns) := by
    intro b hb'
    subst hb'
    rw [app, if_pos (by rw [hlen]; simp; omega), ← hs, Zb6 (by omega)]
    exact ih (i + 1) (by omega) (by omega)
   generalize ns[i] = nd at fin ⊢
   generalize hts : tst (ns.take i) = ts at fin hlen ⊢
   unfold Zei at fin
   rw [hlen] at fin
   by_cases h8 : nd.Kind = 8 ∨ nd.Kind = 9
   ·have hk2 : Zdl nd.Kind = 2 := by unfold Zdl; rw [if_pos h8]
    have hc : chl nd = [nd.A, nd.B] := by unfold chl; rw [if_pos h8]
    have hw : wi nd.Kind 1 5 = false := by unfold wi; simp; omega
    have hw2 : (decide (nd.Kind ≥ 1) && decide (nd.Kind ≤ 5)) = false := by simp; omega
    rw [hk2, hc, hw] at fin
    rw [hk2, hw2]
    cases hp : Zbd nd i with
    | false => rw [hp] at fin; exact fin _ rfl
    | true =>
     rw [hp] at fin
     have hin : inB i nd.A = true ∧ inB i nd.B = true := by unfold Zbd at hp; rw [hc] at hp; simpa using hp
     unfold inB at hin; simp at hin
     simp only [List.foldl_cons, List.foldl_nil, andC] at fin
     have hA := rdD (l := ts) (c := nd.A) hin.1.1 (by omega) false
     have hB := rdD (l := ts) (c := nd.B) hin.2.1 (by omega) false
     simp only [hA, hB, Option.bind_some, show decide ((2 : Int) > 0) = true from rfl, show decide ((2 : Int) > 1) = true from rfl, if_true]
     cases h1 : ts.getD nd.A.toNat false with
     | false => rw [h1] at fin; exact fin _ rfl
     | true => rw [h1] at fin; exact fin _ rfl
   ·by_cases h10 : nd.Kind = 10
    ·have hk2 : Zdl nd.Kind = 1 := by unfold Zdl; rw [if_neg h8, if_pos h10]
     have hc : chl nd = [nd.A] := by unfold chl; rw [if_neg h8, if_pos h10]
     have hw : wi nd.Kind 1 5 = false := by unfold wi; simp; omega
     have hw2 : (decide (nd.Kind ≥ 1) && decide (nd.Kind ≤ 5)) = false := by simp; omega
     rw [hk2, hc, hw] at fin
     rw [hk2, hw2]
     cases hp : Zbd nd i with
     | false => rw [hp] at fin; exact fin _ rfl
     | true =>
      rw [hp] at fin
      have hin : inB i nd.A = true := by unfold Zbd at hp; rw [hc] at hp; simpa using hp
      unfold inB at hin; simp at hin
      simp only [List.foldl_cons, List.foldl_nil, andC] at fin
      have hA := rdD (l := ts) (c := nd.A) hin.1 (by omega) false
      simp only [hA, Option.bind_some, show decide ((1 : Int) > 0) = true from rfl, show decide ((1 : Int) > 1) = false from rfl, if_true]
      exact fin _ rfl
    ·have hk2 : Zdl nd.Kind = 0 := by unfold Zdl; rw [if_neg h8, if_neg h10]
     rw [hk2] at fin
     rw [hk2]
     simp only [show decide ((0 : Int) > 0) = false from rfl, show decide ((0 : Int) > 1) = false from rfl]
     refine fin _ ?_
     unfold wi
     cases h1 : decide (nd.Kind ≥ 1) <;> cases h5 : decide (nd.Kind ≤ 5) <;> simp at h1 h5 <;> simp <;> omega
  ·rw [if_neg (by simp; omega), List.take_of_length_le (by omega)]
theorem ZjP (k : Nat) (ns : List Node) (hb : ns.length < 1000000) (hk : ns.length < k) : Zcr k ns = some (tst ns) := by
 unfold Zcr
 have := ZhA k ns (by omega) (by unfold LIM; omega) k 0 (by omega) (by omega)
 have h' : Za5 k ns k ([], 0) = _ := this
 rw [h']; rfl
theorem Zfv (k : Nat) (ts : List Bool) (m : Nat) (s : List Bool × Int) (i : Nat) (hs : s.2 = (i : Int)) (hi : ts.length = i) (hib : i < 4611686018427387904) (l : List Int) (hl : l.length ≤ 2) (hin : l.all (inB i) = true) :
  ∀ (q j : Nat) (b : Bool), j ≤ l.length → l.length - j < q →
  Zb4 k s l q ((ts ++ [b]) ++ List.replicate m false, (j : Int)) = some ((ts ++ [(l.drop j).foldl (andC ts) b]) ++ List.replicate m false) := by
 intro q
 induction q with
 | zero => intro j _ _ h; omega
 | succ q ih =>
  intro j b hj hq
  rw [Zb4]
  by_cases hlt : j < l.length
  ·have hc : inB i l[j] = true := by rw [List.all_eq_true] at hin; exact hin _ (List.getElem_mem _)
   unfold inB at hc; simp at hc
   have hlen : ((ts ++ [b]) ++ List.replicate m false).length = i + 1 + m := by simp [hi]; omega
   have hset : ∀ x : Bool, ((ts ++ [b]) ++ List.replicate m false).set (s.2).toNat x = (ts ++ [x]) ++ List.replicate m false := by
    intro x; rw [hs]; subst hi; simp
   have hcur : rd ((ts ++ [b]) ++ List.replicate m false) s.2 = some b := by
    rw [hs, ZbX (by rw [hlen]; omega)]; subst hi; simp
   have hch : rd ((ts ++ [b]) ++ List.replicate m false) l[j] = some (ts.getD l[j].toNat false) := by
    rw [rdD hc.1 (by rw [hlen]; omega) false, List.append_assoc, List.getD_eq_getElem?_getD, List.getElem?_append_left (by omega), ← List.getD_eq_getElem?_getD]
   rw [if_pos (by simp; omega), ZbX hlt, List.drop_eq_getElem_cons hlt]
   simp only [Option.bind_some, hcur, hch, hset, List.foldl_cons]
   cases b with
   | false => rw [if_neg (by simp), Zb6 (by omega), ih (j + 1) _ (by omega) (by omega)]; rfl
   | true => rw [if_pos rfl, Zb6 (by omega), ih (j + 1) _ (by omega) (by omega)]; rfl
  ·rw [if_neg (by simp; omega), ZbU hlt]; rfl
theorem Zh7 (k : Nat) (hk : 3 ≤ k) (ns : List Node) (hb : ns.length < 1000000) : ∀ (q i : Nat), i ≤ ns.length → ns.length - i < q →
  Zcg k ns q (tst (ns.take i) ++ List.replicate (ns.length - i) false, (i : Int)) = some (tst ns) := by
 intro q
 induction q with
 | zero => intro i _ h; omega
 | succ q ih =>
  intro i hi hq
  rw [Zcg]
  by_cases hlt : i < ns.length
  ·have hlen : (tst (ns.take i)).length = i := by rw [Zfo, List.length_take]; omega
   have hs : tst (ns.take (i + 1)) = tst (ns.take i) ++ [Zei (tst (ns.take i)) ns[i]] := by rw [← List.take_append_getElem hlt, ZfB]
   obtain ⟨m, hm⟩ : ∃ m, ns.length - i = m + 1 := ⟨ns.length - i - 1, by omega⟩
   have ih' := ih (i + 1) (by omega) (by omega)
   rw [hs, show ns.length - (i + 1) = m by omega] at ih'
   rw [if_pos (by simp; omega), ZbX hlt, hm]
   generalize ns[i] = nd at ih' ⊢
   generalize tst (ns.take i) = ts at ih' hlen ⊢
   have hr0 : rd (ts ++ List.replicate (m + 1) false) (i : Int) = some false := by
    rw [ZbX (by simp; omega)]; subst hlen; simp
   have hset : ∀ x : Bool, (ts ++ List.replicate (m + 1) false).set ((i : Int)).toNat x = (ts ++ [x]) ++ List.replicate m false := by
    intro x; subst hlen; simp [List.replicate_succ]
   have hr1 : ∀ x : Bool, rd ((ts ++ [x]) ++ List.replicate m false) (i : Int) = some x := by
    intro x; rw [ZbX (by simp; omega)]; subst hlen; simp
   simp only [Option.bind_some, Ze6, Zhf, ZgX k hk _ i (by omega), hr0, hset, ZeM]
   unfold Zei at ih'
   rw [hlen] at ih'
   have l1 := fun (b : Bool) (hp : Zbd nd i = true) => Zfv k ts m ((ts ++ [b]) ++ List.replicate m false, (i : Int)) i rfl hlen (by omega) (chl nd) (ZeW nd) hp
   cases hw : wi nd.Kind 1 5 with
   | true =>
    rw [hw] at ih'
    simp only [Option.bind_some, if_true, hr1]
    have hn := kids5 nd hw
    have hl := Zfv k ts m ((ts ++ List.replicate (m + 1) false), (i : Int)) i rfl hlen (by omega) (chl nd) (ZeW nd) (by rw [hn]; rfl) k 0 true (by omega) (by rw [hn]; simp; omega)
    rw [hn] at hl ⊢
    have hl' : Zb4 k (ts ++ List.replicate (m + 1) false, (i : Int)) [] k (ts ++ [true] ++ List.replicate m false, 0) = _ := hl
    rw [hl']
    simp only [Bool.not_true, Bool.false_eq_true, if_false, Option.bind_some, List.drop_nil, List.foldl_nil]
    rw [Zb6 (by omega)]
    exact ih'
   | false =>
    rw [hw] at ih'
    by_cases hk0 : Zdl nd.Kind > 0
    ·have hk1 : decide (Zdl nd.Kind > 0) = true := by simpa using hk0
     simp only [Bool.false_eq_true, if_false, if_pos hk0, hk1, if_true] at ih' ⊢
     cases hp : Zbd nd i with
     | false =>
      rw [hp] at ih'
      simp only [Bool.false_eq_true, if_false, Option.bind_some, hr1, Bool.not_false, if_true]
      rw [Zb6 (by omega)]
      exact ih'
     | true =>
      rw [hp] at ih'
      simp only [if_true] at ih'
      have hl := Zfv k ts m ((ts ++ List.replicate (m + 1) false), (i : Int)) i rfl hlen (by omega) (chl nd) (ZeW nd) hp k 0 true (by omega) (by have := ZeW nd; omega)
      have hl' : Zb4 k (ts ++ List.replicate (m + 1) false, (i : Int)) (chl nd) k (ts ++ [true] ++ List.replicate m false, 0) = _ := hl
      simp only [Bool.false_eq_true, if_false, Option.bind_some, hr1, Bool.not_true, hl', List.drop_zero]
      rw [Zb6 (by omega)]
      exact ih'
    ·have hk1 : decide (Zdl nd.Kind > 0) = false := by simpa using hk0
     simp only [Bool.false_eq_true, if_false, if_neg hk0, hk1] at ih' ⊢
     simp only [Bool.false_eq_true, if_false, Option.bind_some, hr1, Bool.not_false, if_true]
     rw [Zb6 (by omega)]
     exact ih'
  ·rw [if_neg (by simp; omega), List.take_of_length_le (by omega), show ns.length - i = 0 by omega]; simp
def Zgr (ns : List Node) (p : Int) : Bool := if p < 0 ∨ p ≥ ns.length then false else (tst ns).getD p.toNat false
theorem ZkW (k : Nat) (hk : 3 ≤ k) (ns : List Node) (hb : ns.length < 1000000) (hk2 : ns.length + 2 < k) (p : Int) : ZdQ k ns p = some (Zgr ns p) := by
 unfold ZdQ Zgr
 by_cases h : p < 0 ∨ p ≥ ns.length
 ·rw [if_pos (by simpa using h), if_pos h]
 ·rw [if_neg (by simpa using h), if_neg h]
  obtain ⟨i, rfl⟩ : ∃ i : Nat, p = (i : Int) := ⟨p.toNat, by omega⟩
  have hi : i < ns.length := by omega
  rw [Zb6 (by omega)]
  have hl : (ns.take (i + 1)).length = i + 1 := by rw [List.length_take]; omega
  have := Zh7 k hk (ns.take (i + 1)) (by omega) k 0 (by omega) (by omega)
  rw [hl, List.take_zero, ZkH] at this
  have h' : Zcg k (ns.take (i + 1)) k (List.replicate (i + 1) false, 0) = _ := this
  rw [mks, if_pos (by unfold LIM; omega), slc, if_pos (by omega)]
  simp only [Option.bind_some, Int.toNat_zero, List.drop_zero, Nat.sub_zero, Int.toNat_natCast, h']
  rw [ZbX (by rw [List.length_take, Zfo]; omega)]
  simp [List.getD_eq_getElem?_getD, List.getElem?_eq_getElem (show i < (tst ns).length by rw [Zfo]; exact hi)]
end Go.Cat.G3

