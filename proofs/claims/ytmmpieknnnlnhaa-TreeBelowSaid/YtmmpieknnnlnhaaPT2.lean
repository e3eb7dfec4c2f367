/- A text of the proof of the seat's laws: a step logic over the machine, or pure functions that the Go functions come to. No condition. -/
import Derived.Test.YtmmpieknnnlnhaaPT1
namespace Go.Cat.G3
open Go Go.Cat Go.Proofs
set_option linter.unusedVariables false
set_option linter.unusedSimpArgs false
/-! ### The document's Below: rounds over seven marks -/
abbrev B7 := Bool × Bool × Bool × Bool × Bool × Bool × Bool
def L7 (v : B7) : List Bool := [v.1, v.2.1, v.2.2.1, v.2.2.2.1, v.2.2.2.2.1, v.2.2.2.2.2.1, v.2.2.2.2.2.2]
def T7 (l : List Bool) : B7 := (l.getD 0 false, l.getD 1 false, l.getD 2 false, l.getD 3 false, l.getD 4 false, l.getD 5 false, l.getD 6 false)
theorem L7_T7 {l : List Bool} (h : l.length = 7) : L7 (T7 l) = l := by
  match l, h with
  | [a, b, c, d, e, f, g], _ => rfl
theorem T7_L7 (v : B7) : T7 (L7 v) = v := rfl
/-- One mark more, if the one it hangs on is marked. -/
def stp (ps : List End) (l : List Bool) (t : Nat) : List Bool :=
  match ps[t]? with
  | none => l
  | some e => if (decide (e.Switch ≥ 1) && (decide (e.Switch ≤ 6) && (l[e.Switch.toNat]?).getD false)) = true then l.set t true else l
theorem stp_len (ps : List End) (l : List Bool) (t : Nat) : (stp ps l t).length = l.length := by
  unfold stp; split
  · rfl
  · split <;> simp
def rnd (ps : List End) (l : List Bool) (t : Nat) : List Bool := (List.range' t (min ps.length 7 - t)).foldl (stp ps) l
theorem fold_len (ps : List End) (xs : List Nat) : ∀ l, (xs.foldl (stp ps) l).length = l.length := by
  induction xs with
  | nil => intro l; rfl
  | cons x xs ih => intro l; rw [List.foldl_cons, ih, stp_len]
theorem below_l2 (ps : List End) (hps : ps.length ≤ 12) : ∀ (q t : Nat) (v : B7), t ≤ min ps.length 7 → min ps.length 7 - t < q →
    catenaryref20_Below_l2 1000 ps q (v.1, v.2.1, v.2.2.1, v.2.2.2.1, v.2.2.2.2.1, v.2.2.2.2.2.1, v.2.2.2.2.2.2, (t : Int)) = some (T7 (rnd ps (L7 v) t)) := by
  intro q
  induction q with
  | zero => intro t v _ h; omega
  | succ q ih =>
    intro t v ht hq
    rw [catenaryref20_Below_l2]
    simp only []
    by_cases hlt : t < min ps.length 7
    · have htp : t < ps.length := by omega
      have hr : List.range' t (min ps.length 7 - t) = t :: List.range' (t + 1) (min ps.length 7 - (t + 1)) := by
        rw [show min ps.length 7 - t = (min ps.length 7 - (t + 1)) + 1 by omega, List.range'_succ]
      rw [if_pos (by simp; omega), rd_at htp]
      simp only [bind_t]
      have hstp : rnd ps (L7 v) t = rnd ps (stp ps (L7 v) t) (t + 1) := by unfold rnd; rw [hr, List.foldl_cons]
      have hin : (if (decide (ps[t].Switch ≥ 1)) = true then if (decide (ps[t].Switch ≤ 6)) = true then (rd ([v.1, v.2.1, v.2.2.1, v.2.2.2.1, v.2.2.2.2.1, v.2.2.2.2.2.1, v.2.2.2.2.2.2] : List Bool) ps[t].Switch).bind fun y85 => some y85 else some false else some false)
          = some (decide (ps[t].Switch ≥ 1) && (decide (ps[t].Switch ≤ 6) && ((L7 v)[ps[t].Switch.toNat]?).getD false)) := by
        by_cases h1 : ps[t].Switch ≥ 1
        · by_cases h2 : ps[t].Switch ≤ 6
          · have hx : ps[t].Switch.toNat < (L7 v).length := by show _ < 7; omega
            have : rd (L7 v) ps[t].Switch = some ((L7 v)[ps[t].Switch.toNat]'hx) := by unfold rd; rw [if_pos (by omega)]; exact List.getElem?_eq_getElem hx
            have h' : rd ([v.1, v.2.1, v.2.2.1, v.2.2.2.1, v.2.2.2.2.1, v.2.2.2.2.2.1, v.2.2.2.2.2.2] : List Bool) ps[t].Switch = _ := this
            rw [h', List.getElem?_eq_getElem hx]
            simp [h1, h2]
          · simp [h1, h2]
        · simp [h1]
      rw [hin]
      simp only [bind_t]
      rw [hstp, w64_nat (by omega)]
      have hps : ps[t]? = some ps[t] := List.getElem?_eq_getElem htp
      by_cases hc : (decide (ps[t].Switch ≥ 1) && (decide (ps[t].Switch ≤ 6) && ((L7 v)[ps[t].Switch.toNat]?).getD false)) = true
      · rw [if_pos hc]
        have hx : t < (L7 v).length := by show _ < 7; omega
        have h' : rd ([v.1, v.2.1, v.2.2.1, v.2.2.2.1, v.2.2.2.2.1, v.2.2.2.2.2.1, v.2.2.2.2.2.2] : List Bool) (t : Int) = some ((L7 v)[t]'hx) := rd_at (l := L7 v) hx
        rw [h']
        simp only [bind_t]
        have hs : stp ps (L7 v) t = (L7 v).set t true := by unfold stp; rw [hps]; simp only []; rw [if_pos hc]
        have h7 : t = 0 ∨ t = 1 ∨ t = 2 ∨ t = 3 ∨ t = 4 ∨ t = 5 ∨ t = 6 := by omega
        have key : ((if (t : Int) = 0 then true else v.1), (if (t : Int) = 1 then true else v.2.1), (if (t : Int) = 2 then true else v.2.2.1), (if (t : Int) = 3 then true else v.2.2.2.1), (if (t : Int) = 4 then true else v.2.2.2.2.1), (if (t : Int) = 5 then true else v.2.2.2.2.2.1), (if (t : Int) = 6 then true else v.2.2.2.2.2.2)) = T7 ((L7 v).set t true) := by
          rcases h7 with rfl | rfl | rfl | rfl | rfl | rfl | rfl <;> rfl
        have := ih (t + 1) (T7 ((L7 v).set t true)) (by omega) (by omega)
        rw [L7_T7 (by rw [List.length_set]; rfl), ← key] at this
        rw [hs]
        exact this
      · rw [if_neg hc]
        have hs : stp ps (L7 v) t = L7 v := by unfold stp; rw [hps]; simp only []; rw [if_neg hc]
        rw [hs]
        exact ih (t + 1) v (by omega) (by omega)
    · rw [if_neg (by simp; omega)]
      have : rnd ps (L7 v) t = L7 v := by unfold rnd; rw [show min ps.length 7 - t = 0 by omega]; rfl
      rw [this]; rfl
def rnds (ps : List End) : Nat → List Bool → List Bool
  | 0, l => l
  | n + 1, l => rnds ps n (rnd ps l 1)
theorem rnds_len (ps : List End) : ∀ n l, (rnds ps n l).length = l.length := by
  intro n
  induction n with
  | zero => intro l; rfl
  | succ n ih => intro l; rw [rnds, ih]; exact fold_len ..
theorem below_l2' (ps : List End) (hps : ps.length ≤ 12) (v : B7) : catenaryref20_Below_l2 1000 ps 1000 (v.1, v.2.1, v.2.2.1, v.2.2.2.1, v.2.2.2.2.1, v.2.2.2.2.2.1, v.2.2.2.2.2.2, 1) = some (T7 (rnd ps (L7 v) 1)) := by
  by_cases h1 : 1 ≤ min ps.length 7
  · exact below_l2 ps hps 1000 1 v h1 (by omega)
  · have hp0 : ps = [] := List.eq_nil_of_length_eq_zero (by omega)
    subst hp0
    rw [catenaryref20_Below_l2, if_neg (by simp)]
    rfl
theorem below_l1r (ps : List End) (hps : ps.length ≤ 12) : ∀ (q i : Nat) (v : B7), i ≤ 6 → 6 - i < q →
    catenaryref20_Below_l1 1000 ps q (v.1, v.2.1, v.2.2.1, v.2.2.2.1, v.2.2.2.2.1, v.2.2.2.2.2.1, v.2.2.2.2.2.2, (i : Int)) = some (T7 (rnds ps (6 - i) (L7 v))) := by
  intro q
  induction q with
  | zero => intro i v _ h; omega
  | succ q ih =>
    intro i v hi hq
    rw [catenaryref20_Below_l1]
    simp only []
    by_cases hlt : i < 6
    · rw [if_pos (by simp; omega), below_l2' ps hps v]
      simp only [bind_t]
      rw [w64_nat (by omega)]
      have := ih (i + 1) (T7 (rnd ps (L7 v) 1)) (by omega) (by omega)
      rw [L7_T7 (by unfold rnd; rw [fold_len]; rfl)] at this
      rw [show 6 - i = (6 - (i + 1)) + 1 by omega, rnds]
      exact this
    · rw [if_neg (by simp; omega)]
      rw [show 6 - i = 0 by omega]; rfl
/-! ### What is marked in the end -/
def Le (a b : List Bool) : Prop := a.length = b.length ∧ ∀ i : Nat, a[i]? = some true → b[i]? = some true
theorem Le.refl (a : List Bool) : Le a a := ⟨rfl, fun _ h => h⟩
theorem Le.trans {a b c : List Bool} (h : Le a b) (k : Le b c) : Le a c := ⟨h.1.trans k.1, fun i hi => k.2 i (h.2 i hi)⟩
def cnt (l : List Bool) : Nat := (l.filter id).length
theorem Le.tail {a b : Bool} {x y : List Bool} (h : Le (a :: x) (b :: y)) : Le x y := ⟨by simpa using h.1, fun i hi => by simpa using h.2 (i + 1) (by simpa using hi)⟩
theorem le_cnt : ∀ {a b : List Bool}, Le a b → cnt a ≤ cnt b ∧ (cnt a = cnt b → a = b) := by
  intro a
  induction a with
  | nil => intro b h; have := h.1; simp at this; have := List.eq_nil_of_length_eq_zero this.symm; subst this; exact ⟨Nat.le_refl _, fun _ => rfl⟩
  | cons x a ih =>
    intro b h
    cases b with
    | nil => have := h.1; simp at this
    | cons y b =>
      obtain ⟨h1, h2⟩ := ih h.tail
      have h0 := h.2 0
      simp at h0
      unfold cnt at *
      cases x <;> cases y
      · simp at *; exact ⟨h1, h2⟩
      · simp at *; exact ⟨by omega, fun e => by omega⟩
      · simp at h0
      · simp at *; exact ⟨h1, h2⟩
theorem stp_le (ps : List End) (l : List Bool) (t : Nat) : Le l (stp ps l t) := by
  unfold stp
  split
  · exact .refl _
  · split
    · refine ⟨by simp, fun i hi => ?_⟩
      rw [List.getElem?_set]
      split
      · have := (List.getElem?_eq_some_iff.1 hi).1
        rename_i he; subst he; simp [this]
      · exact hi
    · exact .refl _
theorem fold_le (ps : List End) (xs : List Nat) : ∀ l, Le l (xs.foldl (stp ps) l) := by
  induction xs with
  | nil => intro l; exact .refl _
  | cons x xs ih => intro l; exact (stp_le ps l x).trans (ih _)
theorem Le.antisymm {a b : List Bool} (h : Le a b) (k : Le b a) : a = b := (le_cnt h).2 (Nat.le_antisymm (le_cnt h).1 (le_cnt k).1)
theorem fold_fix (ps : List End) : ∀ (xs : List Nat) (l : List Bool), xs.foldl (stp ps) l = l → ∀ t ∈ xs, stp ps l t = l := by
  intro xs
  induction xs with
  | nil => intro l _ t h; simp at h
  | cons x xs ih =>
    intro l h t ht
    rw [List.foldl_cons] at h
    have h1 : stp ps l x = l := ((stp_le ps l x).antisymm (by have := fold_le ps xs (stp ps l x); rw [h] at this; exact this)).symm
    rcases List.mem_cons.1 ht with rfl | ht
    · exact h1
    · rw [h1] at h; exact ih l h t ht
theorem rnds_fix {ps : List End} {l : List Bool} (h : rnd ps l 1 = l) : ∀ n, rnds ps n l = l := by
  intro n
  induction n with
  | zero => rfl
  | succ n ih => rw [rnds, h, ih]
theorem rnds_le (ps : List End) : ∀ n l, Le l (rnds ps n l) := by
  intro n
  induction n with
  | zero => intro l; exact .refl _
  | succ n ih => intro l; exact (fold_le ps _ l).trans (ih _)
/-- After so many rounds nothing is new, or many are marked. -/
theorem rnds_many (ps : List End) : ∀ n l, rnd ps (rnds ps n l) 1 = rnds ps n l ∨ cnt l + n ≤ cnt (rnds ps n l) := by
  intro n
  induction n with
  | zero => intro l; right; simp [rnds]
  | succ n ih =>
    intro l
    by_cases h : rnd ps l 1 = l
    · left; rw [rnds_fix h (n + 1), h]
    · rcases ih (rnd ps l 1) with h1 | h1
      · left; rw [rnds]; exact h1
      · right
        have hle : Le l (rnd ps l 1) := fold_le ps _ l
        have := le_cnt hle
        have hlt : cnt l < cnt (rnd ps l 1) := by
          rcases Nat.lt_or_ge (cnt l) (cnt (rnd ps l 1)) with h2 | h2
          · exact h2
          · exact absurd ((this.2 (by omega)).symm) h
        rw [rnds]; omega
end Go.Cat.G3
