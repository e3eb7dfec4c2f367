/- A text of the proof of the seat's laws: a step logic over the machine, or pure functions that the Go functions come to. No condition. -/
import Derived.Test.YtmmpieknnnlnhaaP6
import Derived.Test.YtmmpieknnnlnhaaG8
set_option linter.unusedVariables false
set_option linter.unusedSimpArgs false
set_option linter.unnecessarySimpa false
namespace Go.Cat.G3
open Go Go.Cat Go.Proofs
set_option linter.unusedVariables false
set_option linter.unusedSimpArgs false
theorem bind_s {α β : Type} (a : α) (f : α → Option β) : (some a).bind f = f a := by cases h : f a <;> simp [h]
theorem set_len {α : Type} (l : List α) (i : Nat) (x : α) : (l.set i x).length = l.length := List.length_set
theorem grows_l3 (up : List Bool) : ∀ (q i : Nat) (l : List Bool), l.length ≤ 30 → i ≤ l.length → l.length - i < q → ∃ l', catenarylaw12_GraphGrows_l3 1000 up q (l, (i : Int)) = some l' ∧ l'.length = l.length := by
  intro q
  induction q with
  | zero => intro i l _ _ h; omega
  | succ q ih =>
    intro i l hl hi hq
    rw [catenarylaw12_GraphGrows_l3]
    by_cases hlt : i < l.length
    · rw [if_pos (by simp; omega)]
      by_cases hu : (i : Int) ≥ (up.length : Int)
      · rw [if_pos (by simpa using hu), rd_at hlt]
        simp only [Option.bind_some]
        rw [w64_nat (by omega)]
        obtain ⟨l', h1, h2⟩ := ih (i + 1) (l.set (i : Int).toNat true) (by simpa using hl) (by simp; omega) (by simp; omega)
        exact ⟨l', h1, by simpa using h2⟩
      · rw [if_neg (by simpa using hu), rd_at hlt, rd_at (l := up) (i := i) (by omega)]
        simp only [Option.bind_some]
        rw [w64_nat (by omega)]
        obtain ⟨l', h1, h2⟩ := ih (i + 1) (l.set (i : Int).toNat up[i]) (by simpa using hl) (by simp; omega) (by simp; omega)
        exact ⟨l', h1, by simpa using h2⟩
    · rw [if_neg (by simp; omega)]
      exact ⟨l, rfl, rfl⟩
/-- Whatever is up in the one is up in the other. -/
def Ups (few more : List Bool) : Prop := more.length = few.length ∧ ∀ i : Nat, few[i]? = some true → more[i]? = some true
theorem sideOn_ups {few more : List Bool} (h : Ups few more) {s : Int} {p : End × Graph_side} (hs : sideOn few s p = true) : sideOn more s p = true := by
  simp only [sideOn, Bool.and_eq_true, Bool.or_eq_true, decide_eq_true_eq] at hs ⊢
  refine ⟨hs.1, ?_⟩
  rcases hs.2 with h1 | h1
  · left; rw [h.1]; exact h1
  · right
    cases hf : few[p.2.link.toNat]? with
    | none => rw [hf] at h1; simp at h1
    | some b =>
      rw [hf] at h1; simp at h1; subst h1
      rw [h.2 _ hf]; rfl
theorem come_ups {few more : List Bool} (h : Ups few more) {m : Sides} {s x : Int} (hc : Come m few s x) : Come m more s x := by
  induction hc with
  | here => exact .here
  | step _ hh ih => obtain ⟨p, hp, hs, he⟩ := hh; exact .step ih ⟨p, hp, sideOn_ups h hs, he⟩
theorem grows_l2 (a b : List Int) (ha : a.length ≤ 61) (hb : b.length ≤ 61) (h : ∀ x ∈ a, x ∈ b) : ∀ (q i : Nat), i ≤ a.length → a.length - i < q → catenarylaw12_GraphGrows_l2 1000 a b q (i : Int) = some (.out ()) := by
  intro q
  induction q with
  | zero => intro i _ h; omega
  | succ q ih =>
    intro i hi hq
    rw [catenarylaw12_GraphGrows_l2]
    by_cases hlt : i < a.length
    · rw [if_pos (by simp; omega), rd_at hlt]
      simp only [Option.bind_some]
      rw [in_eq _ _ _ (by omega) (by omega)]
      simp only [Option.bind_some]
      rw [if_neg (by simp; exact h _ (List.getElem_mem hlt)), w64_nat (by omega), ih (i + 1) (by omega) (by omega)]
    · rw [if_neg (by simp; omega)]
theorem grows_l1 {g : Graph} (h : Good g) (few more : List Bool) (hu : Ups few more) : ∀ (q : Nat) (s : Int), 1 ≤ s → s ≤ 7 → (7 - s).toNat < q → catenarylaw12_GraphGrows_l1 1000 g few more q s = some (.out ()) := by
  have hsw := h.sw
  intro q
  induction q with
  | zero => intro s _ _ h; omega
  | succ q ih =>
    intro s h1 h7 hq
    rw [catenarylaw12_GraphGrows_l1]
    by_cases hs : s ≤ g.Switches
    · rw [if_pos (by simpa using hs), List.nil_append, reach_eq _ h few ⟨h1, hs⟩, reach_eq _ h more ⟨h1, hs⟩]
      simp only [Option.bind_some]
      have := grows_l2 (reachOf (entries 0 g.Links) few s) (reachOf (entries 0 g.Links) more s) (reach_short h ..) (reach_short h ..) (fun x hx => reach_mem.2 (come_ups hu (reach_mem.1 hx))) 1000 0 (by omega) (by have := reach_short h few s; omega)
      have h' : catenarylaw12_GraphGrows_l2 1000 (reachOf (entries 0 g.Links) few s) (reachOf (entries 0 g.Links) more s) 1000 0 = _ := this
      rw [h']
      simp only [Option.bind_some, LX.go]
      rw [w64_id (by omega) (by omega)]
      exact ih (s + 1) (by omega) (by omega) (by omega)
    · rw [if_neg (by simpa using hs)]
theorem grows_l0 {g : Graph} (h : Good g) (up few more : List Bool) (hm : more.length = g.Links.length) : ∀ (q i : Nat), i ≤ more.length → more.length - i < q → catenarylaw12_GraphGrows_l0 1000 up g few more q (more, (i : Int)) = some (.out ()) := by
  have hsw := h.sw
  intro q
  induction q with
  | zero => intro i _ h; omega
  | succ q ih =>
    intro i hi hq
    rw [catenarylaw12_GraphGrows_l0]
    by_cases hlt : i < more.length
    · rw [if_pos (by simp; omega), rd_at hlt]
      simp only [Option.bind_some]
      by_cases hup : more[i] = true
      · have hlink : i < g.Links.length := by omega
        rw [if_pos hup, rd_at hlink]
        simp only [Option.bind_some]
        have hmem : (g.Links[i].A, (⟨g.Links[i].B, (i : Int)⟩ : Graph_side)) ∈ entries 0 g.Links := mem_entries.2 ⟨i, hlink, by simp, .inl ⟨rfl, rfl⟩⟩
        have hok := h.sok.ok _ hmem
        simp only at hok
        rw [reach_eq _ h more ⟨by omega, by omega⟩]
        simp only [Option.bind_some]
        have hshort := reach_short h more g.Links[i].A.Switch
        rw [in_eq _ _ _ (by omega) (by omega)]
        simp only [Option.bind_some]
        have hin : g.Links[i].B.Switch ∈ reachOf (entries 0 g.Links) more g.Links[i].A.Switch := by
          refine reach_mem.2 (.step .here ⟨_, hmem, ?_, rfl⟩)
          simp only [sideOn, Bool.and_eq_true, Bool.or_eq_true]
          refine ⟨by simp, .inr ?_⟩
          simp [List.getElem?_eq_getElem hlt, hup]
        simp only [hin, decide_true, Bool.not_true, Bool.false_eq_true, if_false]
        rw [w64_nat (by omega), ih (i + 1) (by omega) (by omega)]
      · rw [if_neg hup]
        simp only [Option.bind_some, Bool.false_eq_true, if_false]
        rw [w64_nat (by omega), ih (i + 1) (by omega) (by omega)]
    · rw [if_neg (by simp; omega)]
theorem GraphGrows_true (g : Graph) (up : List Bool) (n : Int) : ∃ k, catenarylaw12_GraphGrows k g up n = some true := by
  refine ⟨1000, ?_⟩
  unfold catenarylaw12_GraphGrows
  obtain ⟨g', hg, h⟩ := made_some g
  have hsw := h.sw
  rw [hg]
  simp only [bind_s]
  unfold mks
  rw [if_pos ⟨by omega, by unfold LIM; omega⟩]
  simp only [bind_s]
  obtain ⟨few, hf, hfl⟩ := grows_l3 up 1000 0 (List.replicate ((g'.Links.length : Int)).toNat false) (by simp; omega) (by omega) (by simp; omega)
  have hf' : catenarylaw12_GraphGrows_l3 1000 up 1000 (List.replicate ((g'.Links.length : Int)).toNat false, 0) = some few := hf
  simp only [List.length_replicate, Int.toNat_natCast] at hfl
  rw [hf']
  simp only [bind_s]
  unfold app
  rw [if_pos (by simp [LIM]; omega)]
  simp only [bind_s]
  have hmore : ∃ more, (if (decide ((few.length : Int) > 0)) = true then (catenaryref00_Bring 1000 n (few.length : Int)).bind fun y => (rd few y).bind fun _ => some (few.set (y : Int).toNat true) else some few) = some more ∧ Ups few more := by
    by_cases h0 : (few.length : Int) > 0
    · rw [if_pos (by simpa using h0)]
      obtain ⟨r, hr, h1, h2⟩ := bring_some 1000 n (few.length : Int) (by omega) (by omega)
      rw [hr]
      simp only [bind_s]
      have hrd : rd few r = some (few[r.toNat]'(by omega)) := by unfold rd; rw [if_pos h1]; exact List.getElem?_eq_getElem (by omega)
      rw [hrd]
      refine ⟨_, rfl, by simp, fun i hi => ?_⟩
      rw [List.getElem?_set]
      split
      · rename_i he
        have : i < few.length := (List.getElem?_eq_some_iff.1 hi).1
        simp [he, this]
      · exact hi
    · rw [if_neg (by simpa using h0)]
      exact ⟨few, rfl, rfl, fun _ h => h⟩
  obtain ⟨more, hmo, hups⟩ := hmore
  rw [hmo]
  simp only [bind_s]
  rw [grows_l1 h few more hups 1000 1 (by omega) (by omega) (by omega)]
  simp only [bind_s, LX.go]
  have h0 := grows_l0 h up few more (by rw [hups.1, hfl]) 1000 0 (by omega) (by rw [hups.1, hfl]; omega)
  have h0' : catenarylaw12_GraphGrows_l0 1000 up g' few more 1000 (more, 0) = _ := h0
  rw [h0']
  simp only [bind_s, LX.go, List.nil_append]
  unfold graph_Whole
  rw [reach_eq _ h few ⟨by omega, by omega⟩]
  simp only [bind_s]
  by_cases hw : ((reachOf (entries 0 g'.Links) few 1).length : Int) = g'.Switches
  · have : g'.Switches > 0 := by omega
    simp [hw, this, works_true]
  · simp [hw, works_true]
end Go.Cat.G3
