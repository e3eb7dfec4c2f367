/- A text of the proof of the seat's laws: a step logic over the machine, or pure functions that the Go functions come to. No condition. -/
import Derived.Test.YtmmpieknnnlnhaaPT2
namespace Go.Cat.G3
open Go Go.Cat Go.Proofs
set_option linter.unusedVariables false
set_option linter.unusedSimpArgs false
def marks0 (s : Int) : List Bool := (List.replicate 7 false).set s.toNat true
def marked (ps : List End) (s : Int) : List Bool := rnds ps 6 (marks0 s)
theorem marked_len (ps : List End) (s : Int) : (marked ps s).length = 7 := by unfold marked; rw [rnds_len]; simp [marks0]
theorem stp_zero (ps : List End) (l : List Bool) (t : Nat) (ht : 1 ≤ t) : (stp ps l t)[0]? = l[0]? := by
  unfold stp
  split
  · rfl
  · split
    · rw [List.getElem?_set_ne (by omega)]
    · rfl
theorem fold_zero (ps : List End) : ∀ (xs : List Nat) (l : List Bool), (∀ t ∈ xs, 1 ≤ t) → (xs.foldl (stp ps) l)[0]? = l[0]? := by
  intro xs
  induction xs with
  | nil => intro l _; rfl
  | cons x xs ih => intro l h; rw [List.foldl_cons, ih _ (fun t ht => h t (by simp [ht])), stp_zero ps l x (h x (by simp))]
theorem rnds_zero (ps : List End) : ∀ n l, (rnds ps n l)[0]? = l[0]? := by
  intro n
  induction n with
  | zero => intro l; rfl
  | succ n ih => intro l; rw [rnds, ih]; exact fold_zero ps _ l (fun t ht => by simp only [List.mem_range'_1] at ht; omega)
theorem cnt_le (l : List Bool) : cnt l ≤ l.length := List.length_filter_le _ _
theorem marked_fix (ps : List End) {s : Int} (hs : 1 ≤ s ∧ s ≤ 6) : rnd ps (marked ps s) 1 = marked ps s := by
  rcases rnds_many ps 6 (marks0 s) with h | h
  · exact h
  · exfalso
    have h0 : (marked ps s)[0]? = some false := by
      unfold marked; rw [rnds_zero]; unfold marks0
      rw [List.getElem?_set_ne (by omega)]; rfl
    have hl := marked_len ps s
    change cnt (marks0 s) + 6 ≤ cnt (marked ps s) at h
    generalize marked ps s = m at h h0 hl
    cases m with
    | nil => simp at hl
    | cons a m =>
      simp at h0 hl
      subst h0
      have h1 : cnt (false :: m) = cnt m := by simp [cnt]
      have h2 := cnt_le m
      have h3 : 1 ≤ cnt (marks0 s) := by
        have : s = 1 ∨ s = 2 ∨ s = 3 ∨ s = 4 ∨ s = 5 ∨ s = 6 := by omega
        rcases this with h | h | h | h | h | h <;> subst h <;> decide
      omega
/-- Only whoever is come to is marked. -/
def Sound (ps : List End) (s : Int) (l : List Bool) : Prop := ∀ t : Nat, l[t]? = some true → Cm (fun x => kidsFrom ps x 1) s (t : Int)
theorem stp_sound {ps : List End} {s : Int} {l : List Bool} {t : Nat} (h : Sound ps s l) (ht : 1 ≤ t ∧ t < min ps.length 7) : Sound ps s (stp ps l t) := by
  intro u hu
  unfold stp at hu
  have htp : t < ps.length := by omega
  rw [List.getElem?_eq_getElem htp] at hu
  simp only [] at hu
  split at hu
  · rename_i hc
    simp only [Bool.and_eq_true, decide_eq_true_eq] at hc
    obtain ⟨h1, h2, h3⟩ := hc
    rw [List.getElem?_set] at hu
    split at hu
    · rename_i he
      subst he
      have hm : l[(ps[t].Switch).toNat]? = some true := by
        cases hx : l[(ps[t].Switch).toNat]? with
        | none => rw [hx] at h3; simp at h3
        | some b => rw [hx] at h3; simp at h3; rw [h3]
      have := h _ hm
      rw [show (((ps[t].Switch).toNat : Nat) : Int) = ps[t].Switch by omega] at this
      exact .step this (kids_mem.2 ⟨t, ht.1, by omega, rfl, htp, rfl⟩)
    · exact h u hu
  · exact h u hu
theorem fold_sound {ps : List End} {s : Int} : ∀ (xs : List Nat) (l : List Bool), (∀ t ∈ xs, 1 ≤ t ∧ t < min ps.length 7) → Sound ps s l → Sound ps s (xs.foldl (stp ps) l) := by
  intro xs
  induction xs with
  | nil => intro l _ h; exact h
  | cons x xs ih => intro l hx h; exact ih _ (fun t ht => hx t (by simp [ht])) (stp_sound h (hx x (by simp)))
theorem rnds_sound {ps : List End} {s : Int} : ∀ n l, Sound ps s l → Sound ps s (rnds ps n l) := by
  intro n
  induction n with
  | zero => intro l h; exact h
  | succ n ih => intro l h; exact ih _ (fold_sound _ l (fun t ht => by simp only [List.mem_range'_1] at ht; omega) h)
theorem marked_iff (ps : List End) {s : Int} (hs : 1 ≤ s ∧ s ≤ 6) (t : Nat) : (marked ps s)[t]? = some true ↔ Cm (fun x => kidsFrom ps x 1) s (t : Int) := by
  constructor
  · refine rnds_sound 6 (marks0 s) (fun u hu => ?_) t
    unfold marks0 at hu
    rw [List.getElem?_set] at hu
    split at hu
    · rename_i he
      have : (u : Int) = s := by omega
      rw [this]; exact .here
    · rw [List.getElem?_replicate] at hu
      split at hu <;> cases hu
  · intro hc
    have key : ∀ x, Cm (fun x => kidsFrom ps x 1) s x → 1 ≤ x ∧ (marked ps s)[x.toNat]? = some true := by
      intro x hc
      induction hc with
      | here =>
        refine ⟨hs.1, (rnds_le ps 6 (marks0 s)).2 _ ?_⟩
        unfold marks0
        rw [List.getElem?_set, if_pos rfl, if_pos (by simp; omega)]
      | step _ hh ih =>
        obtain ⟨u, h1, h7, rfl, hu, he⟩ := kids_mem.1 hh
        refine ⟨by omega, ?_⟩
        have hfix := fold_fix ps _ _ (marked_fix ps hs) u (by simp only [List.mem_range'_1]; omega)
        obtain ⟨ha, hm⟩ := ih
        have hb : (marked ps s)[ps[u].Switch.toNat]? = some true := by rw [he]; exact hm
        have hlt := (List.getElem?_eq_some_iff.1 hb).1
        rw [marked_len] at hlt
        unfold stp at hfix
        rw [List.getElem?_eq_getElem hu] at hfix
        simp only [] at hfix
        rw [if_pos (by rw [hb, he]; simp; rw [he] at hlt; omega)] at hfix
        rw [← hfix, Int.toNat_natCast, List.getElem?_set, if_pos rfl, if_pos (by rw [marked_len]; omega)]
    have := (key _ hc).2
    simpa using this
theorem below_out (k : Nat) (ps : List End) (p9 : B7) (m : List Bool) (hm : m.length = 7) (hp : p9 = T7 m) : catenaryref20_Below_l0 k ps p9 1000 ([], 1) = some (([1, 2, 3, 4, 5, 6] : List Int).filter fun t => (m[t.toNat]?).getD false) := by
  have step : ∀ (q t : Nat) (l : List Int), t ≤ 6 → l.length ≤ 6 → catenaryref20_Below_l0 k ps p9 (q + 1) (l, (t : Int)) = catenaryref20_Below_l0 k ps p9 q ((if (m[t]?).getD false = true then l ++ [(t : Int)] else l), ((t + 1 : Nat) : Int)) := by
    intro q t l ht hl
    rw [catenaryref20_Below_l0, if_pos (by simp; omega)]
    have hx : t < m.length := by omega
    have h' : rd ([p9.1, p9.2.1, p9.2.2.1, p9.2.2.2.1, p9.2.2.2.2.1, p9.2.2.2.2.2.1, p9.2.2.2.2.2.2] : List Bool) (t : Int) = some m[t] := by
      have : rd (L7 p9) (t : Int) = some m[t] := by rw [hp, L7_T7 hm]; exact rd_at hx
      exact this
    rw [h']
    simp only [bind_t]
    rw [w64_nat (by omega), List.getElem?_eq_getElem hx]
    simp only [Option.getD_some]
    cases m[t] with
    | true => simp only [if_true]; rw [app_t (by simp; omega)]; simp only [bind_t]
    | false => simp only [Bool.false_eq_true, if_false]
  have len : ∀ (l : List Int) (t : Int) (b : Bool), (if b = true then l ++ [t] else l).length ≤ l.length + 1 := by intro l t b; cases b <;> simp
  have e1 := step 999 1 [] (by omega) (by simp)
  have h1' : catenaryref20_Below_l0 k ps p9 1000 ([], 1) = _ := e1
  rw [h1']
  rw [step 998 2 _ (by omega) (by split <;> simp)]
  rw [step 997 3 _ (by omega) (by split <;> split <;> simp)]
  rw [step 996 4 _ (by omega) (by split <;> split <;> split <;> simp)]
  rw [step 995 5 _ (by omega) (by split <;> split <;> split <;> split <;> simp)]
  rw [step 994 6 _ (by omega) (by split <;> split <;> split <;> split <;> split <;> simp)]
  rw [catenaryref20_Below_l0, if_neg (by simp)]
  simp only [List.filter_cons, List.filter_nil, show (1 : Int).toNat = 1 from rfl, show (2 : Int).toNat = 2 from rfl, show (3 : Int).toNat = 3 from rfl, show (4 : Int).toNat = 4 from rfl, show (5 : Int).toNat = 5 from rfl, show (6 : Int).toNat = 6 from rfl]
  cases (m[1]?).getD false <;> cases (m[2]?).getD false <;> cases (m[3]?).getD false <;> cases (m[4]?).getD false <;> cases (m[5]?).getD false <;> cases (m[6]?).getD false <;> rfl
theorem ref_below (ps : List End) (hps : ps.length ≤ 12) (s : Int) : ∃ r, catenaryref20_Below 1000 ps s = some r ∧ r.Pairwise (· < ·) ∧ (∀ x, x ∈ r ↔ (1 ≤ s ∧ s ≤ 6) ∧ Cm (fun x => kidsFrom ps x 1) s x) := by
  unfold catenaryref20_Below
  by_cases hs : 1 ≤ s ∧ s ≤ 6
  · rw [if_neg (by simp; omega)]
    have hrd : rd ([false, false, false, false, false, false, false] : List Bool) s = some false := by
      have : s = 1 ∨ s = 2 ∨ s = 3 ∨ s = 4 ∨ s = 5 ∨ s = 6 := by omega
      rcases this with h | h | h | h | h | h <;> subst h <;> rfl
    rw [hrd]
    simp only [bind_t]
    have hv : ((if s = 0 then true else false), (if s = 1 then true else false), (if s = 2 then true else false), (if s = 3 then true else false), (if s = 4 then true else false), (if s = 5 then true else false), (if s = 6 then true else false)) = T7 (marks0 s) := by
      have : s = 1 ∨ s = 2 ∨ s = 3 ∨ s = 4 ∨ s = 5 ∨ s = 6 := by omega
      rcases this with h | h | h | h | h | h <;> subst h <;> rfl
    have := below_l1r ps hps 1000 0 (T7 (marks0 s)) (by omega) (by omega)
    rw [L7_T7 (by simp [marks0]), ← hv] at this
    have h' : catenaryref20_Below_l1 1000 ps 1000 ((if s = 0 then true else false), (if s = 1 then true else false), (if s = 2 then true else false), (if s = 3 then true else false), (if s = 4 then true else false), (if s = 5 then true else false), (if s = 6 then true else false), 0) = some (T7 (marked ps s)) := this
    rw [h']
    simp only [bind_t]
    rw [below_out 1000 ps (T7 (marked ps s)) (marked ps s) (marked_len ps s) rfl]
    simp only [bind_t]
    refine ⟨_, rfl, List.Pairwise.filter _ (by decide), fun x => ?_⟩
    simp only [List.mem_filter]
    constructor
    · rintro ⟨hx, hm⟩
      have hx' : 1 ≤ x ∧ x ≤ 6 := by simp at hx; omega
      refine ⟨hs, ?_⟩
      have : (marked ps s)[x.toNat]? = some true := by
        cases hq : (marked ps s)[x.toNat]? with
        | none => rw [hq] at hm; simp at hm
        | some b => rw [hq] at hm; simp at hm; rw [hm]
      have := (marked_iff ps hs _).1 this
      rw [show ((x.toNat : Nat) : Int) = x by omega] at this
      exact this
    · rintro ⟨_, hc⟩
      have hx : 1 ≤ x ∧ x ≤ 6 := by
        cases hc with
        | here => exact hs
        | step _ hh => obtain ⟨u, h1, h2, rfl, _⟩ := kids_mem.1 hh; omega
      have : (marked ps s)[x.toNat]? = some true := (marked_iff ps hs _).2 (by rw [show ((x.toNat : Nat) : Int) = x by omega]; exact hc)
      rw [this]
      exact ⟨by simp; omega, rfl⟩
  · rw [if_pos (by simp; omega)]
    exact ⟨[], rfl, .nil, fun x => by simp; intro h1 h2; omega⟩
theorem tree_works : catenarylaw20_works 1000 = some true := by decide +kernel
theorem slc12 {α : Type} (l : List α) : slc l 0 (imin (l.length : Int) 12) = some (l.take 12) := by
  unfold slc imin
  split
  · rename_i h
    rw [if_pos (by omega)]; simp
  · rename_i h
    rw [if_pos (by omega)]
    simp only [Int.toNat_zero, List.drop_zero, Int.toNat_natCast, Nat.sub_zero]
    rw [List.take_of_length_le (by omega), List.take_of_length_le (by omega)]
theorem TreeBelow_true (l : List End) (s : Int) : ∃ k, catenarylaw20_TreeBelow k l s = some true := by
  refine ⟨1000, ?_⟩
  unfold catenarylaw20_TreeBelow
  rw [slc12]
  simp only [bind_t]
  have hl : (l.take 12).length ≤ 12 := by simp; omega
  generalize l.take 12 = ps at hl
  obtain ⟨a, ha, ha1, ha2, ha3⟩ := tree_below ps hl s
  obtain ⟨b, hb, hb1, hb3⟩ := ref_below ps hl s
  have hab : a = b := sorted_ext ha1 hb1 fun x => (ha3 x).trans (hb3 x).symm
  subst hab
  rw [ha, hb]
  simp only [bind_t]
  rw [eqints_self _ _ (by omega) (by omega)]
  simp only [bind_t, if_true]
  rw [tree_works]; rfl
end Go.Cat.G3
