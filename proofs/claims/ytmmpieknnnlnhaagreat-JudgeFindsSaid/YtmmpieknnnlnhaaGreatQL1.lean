/- A text of the proof of the seat's laws: a step logic over the machine, or pure functions that the Go functions come to. No condition. -/
import Derived.Test.YtmmpieknnnlnhaaGreatQF3
namespace Go.Cat.G3
open Go Go.Cat Go.Proofs
set_option linter.unusedVariables false
set_option linter.unusedSimpArgs false
def gTwo : Graph := ⟨2, [⟨⟨1, 1⟩, ⟨2, 1⟩⟩]⟩
def Zm9 : List Version := [⟨1, [⟨7, 0, 0, 1, 0, 0⟩]⟩]
def ZgE : Event := ⟨1, 0, 1, 1, ⟨5, 6, 7⟩, [⟨1, ⟨5, 6, 7⟩⟩]⟩
theorem ZdC (a b : Int) (ev : List Event) (hb : ev.length < 1000000) (he : ∀ e ∈ ev, EvB e) (hv : ZkA gTwo Zm9 ev = (a, b, 0)) : ∃ K, ∀ k, K ≤ k → ZaU k a b ev = some true := by
 obtain ⟨K, hK⟩ := ZhT gTwo Zm9 ev (by decide) (by decide) hb he
 refine ⟨K, fun k hk => ?_⟩
 unfold ZaU Zc3 ZcU
 simp only [Option.bind_some]
 have h1 : ZdA k (⟨2, ([(⟨(⟨1, 1⟩ : End), (⟨2, 1⟩ : End)⟩ : Link)] : List Link)⟩ : Graph) ([(⟨1, ([(⟨7, 0, 0, 1, 0, 0⟩ : Node)] : List Node)⟩ : Version)] : List Version) ev = some (a, b, 0) := by
  rw [← hv]; exact (hK k hk).1
 rw [h1]; simp
theorem ZfZ (p s v : Int) (h : Arr3u8) (i : Int) (l : List Sent) (hl : l.length < 1000) (h0 : BI h.e0) (h1 : BI h.e1) (h2 : BI h.e2) : EvB ⟨p, s, v, i, h, l⟩ := ⟨by show l.length < _; omega, h0, h1, h2⟩
theorem bi {n : Int} (h : decide (0 ≤ n) && decide (n ≤ 255) = true := by rfl) : BI n := by
 simp at h; exact h
set_option maxRecDepth 100000 in
theorem Zl9 : ∃ K, ∀ k, K ≤ k → Zcs k = some true := by
 have ev1 : EvB ZgE := ZfZ _ _ _ _ _ _ (by decide) bi bi bi
 have one : ∀ {e : Event}, EvB e → ∀ x ∈ [e], EvB x := fun h x hx => by simp at hx; subst hx; exact h
 have two : ∀ {e f : Event}, EvB e → EvB f → ∀ x ∈ [e, f], EvB x := fun h h' x hx => by simp at hx; rcases hx with rfl | rfl <;> assumption
 obtain ⟨K1, k1⟩ := ZdC 0 0 [ZgE] (by decide) (one ev1) (by decide +kernel)
 obtain ⟨K2, k2⟩ := ZdC 0 0 [ZgE, ⟨2, 1, 1, 1, ⟨5, 6, 7⟩, []⟩] (by decide) (two ev1 (ZfZ _ _ _ _ _ _ (by decide) bi bi bi)) (by decide +kernel)
 obtain ⟨K3, k3⟩ := ZdC 2 0 [⟨1, 0, 2, 1, ⟨5, 6, 7⟩, [⟨1, ⟨5, 6, 7⟩⟩]⟩] (by decide) (one (ZfZ _ _ _ _ _ _ (by decide) bi bi bi)) (by decide +kernel)
 obtain ⟨K4, k4⟩ := ZdC 2 0 [⟨1, 0, 1, 1, ⟨5, 6, 7⟩, [⟨2, ⟨5, 6, 7⟩⟩]⟩] (by decide) (one (ZfZ _ _ _ _ _ _ (by decide) bi bi bi)) (by decide +kernel)
 obtain ⟨K5, k5⟩ := ZdC 3 1 [ZgE, ZgE] (by decide) (two ev1 ev1) (by decide +kernel)
 obtain ⟨K6, k6⟩ := ZdC 4 1 [ZgE, ⟨2, 1, 1, 1, ⟨5, 6, 8⟩, []⟩] (by decide) (two ev1 (ZfZ _ _ _ _ _ _ (by decide) bi bi bi)) (by decide +kernel)
 obtain ⟨K7, k7⟩ := ZdC 1 0 [⟨3, 0, 1, 1, ⟨5, 6, 7⟩, [⟨1, ⟨5, 6, 7⟩⟩]⟩] (by decide) (one (ZfZ _ _ _ _ _ _ (by decide) bi bi bi)) (by decide +kernel)
 refine ⟨K1 + K2 + K3 + K4 + K5 + K6 + K7, fun k hk => ?_⟩
 have e1 := k1 k (by omega)
 have e2 := k2 k (by omega)
 have e3 := k3 k (by omega)
 have e4 := k4 k (by omega)
 have e5 := k5 k (by omega)
 have e6 := k6 k (by omega)
 have e7 := k7 k (by omega)
 unfold ZgE at e1 e2 e5 e6
 unfold Zcs Zbc
 simp only [Option.bind_some, e1, e2, e3, e4, e5, e6, e7, if_true]
def cutV (v : Version) : Version := ⟨v.Ver, v.Nodes.take 70⟩
theorem ZnO (k : Nat) (l : List Version) (hb : l.length < 1000000) : ∀ (q i : Nat) (acc : List Version), i ≤ l.length → l.length - i < q → acc.length ≤ i →
  ZaV k l q (acc, (i : Int)) = some (acc ++ (l.drop i).map cutV) := by
 have hLIM : LIM = 68719476736 := rfl
 intro q
 induction q with
 | zero => intro i _ _ h; omega
 | succ q ih =>
  intro i acc hi hq ha
  rw [ZaV]
  by_cases hlt : i < l.length
  ·have hs := slcN 70 l[i].Nodes
   have hs' : slc l[i].Nodes 0 (imin (l[i].Nodes.length : Int) 70) = _ := hs
   have happ : app acc [(⟨l[i].Ver, l[i].Nodes.take 70⟩ : Version)] = some (acc ++ [(⟨l[i].Ver, l[i].Nodes.take 70⟩ : Version)]) := by rw [app, if_pos (by simp; omega)]
   rw [if_pos (by simp; omega), ZbX hlt, List.drop_eq_getElem_cons hlt]
   simp only [Option.bind_some, hs', happ, List.map_cons]
   rw [w64n (by omega), ih (i + 1) _ (by omega) (by omega) (by simp; omega)]
   simp [cutV]
  ·rw [if_neg (by simp; omega), ZbU hlt]; simp
theorem JudgeFinds_true (x0 : Graph) (x1 : List Version) (x2 : List Event) (h0 : x0.Links.length < 9223372036854775808) (h2 : ∀ e ∈ x2, EvB e) : ∃ k, catenarylaw28_JudgeFinds k x0 x1 x2 = some true := by
 obtain ⟨K1, k1⟩ := Zl9
 have hl1 : (x1.take 12).length ≤ 12 := by rw [List.length_take]; omega
 have hl2 : (x2.take 120).length ≤ 120 := by rw [List.length_take]; omega
 obtain ⟨K2, k2⟩ := ZhT x0 ((x1.take 12).map cutV) (x2.take 120) h0 (by rw [List.length_map]; omega) (by omega) (fun e he => h2 e (List.mem_of_mem_take he))
 refine ⟨K1 + K2 + 100, ?_⟩
 have e1 := k1 (K1 + K2 + 100) (by omega)
 obtain ⟨e2, e3⟩ := k2 (K1 + K2 + 100) (by omega)
 have s1 : slc x1 0 (imin (x1.length : Int) 12) = some (x1.take 12) := slcN 12 x1
 have s2 : slc x2 0 (imin (x2.length : Int) 120) = some (x2.take 120) := slcN 120 x2
 have c := ZnO (K1 + K2 + 100) (x1.take 12) (by omega) (K1 + K2 + 100) 0 [] (by omega) (by omega) (by simp)
 rw [List.drop_zero, List.nil_append] at c
 have c' : ZaV (K1 + K2 + 100) (x1.take 12) (K1 + K2 + 100) ([], 0) = _ := c
 unfold catenarylaw28_JudgeFinds
 rw [s1, s2]
 simp only [Option.bind_some, c', e2, e3, e1, beq_self_eq_true, if_true]
end Go.Cat.G3

