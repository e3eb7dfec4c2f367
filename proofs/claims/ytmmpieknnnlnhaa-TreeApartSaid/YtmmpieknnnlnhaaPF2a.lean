/- A text of the proof of the seat's laws: a step logic over the machine, or pure functions that the Go functions come to. No condition. -/
import Derived.Test.YtmmpieknnnlnhaaPF1
namespace Go.Cat.G3
open Go Go.Cat Go.Proofs
set_option linter.unusedVariables false
set_option linter.unusedSimpArgs false
/-! ### The reference's tree -/
theorem putAll_len (m : Founds) : (putAll m).length = 7 := by simp [putAll]
theorem putAll_at (m : Founds) {s : Int} (hs : 0 ≤ s ∧ s < 7) : rd (putAll m) s = some (mgetD m s ⟨0, 0⟩) := by
  unfold rd putAll
  rw [if_pos hs.1]
  have h7 : s.toNat < 7 := by omega
  simp [h7]
  rw [Int.max_eq_left hs.1]
theorem mget_snoc (m : Founds) (k : Int) (v : End) (j : Int) (h : mhas m k = false) : mget? (m ++ [(k, v)]) j = if j = k then some v else mget? m j := by
  induction m with
  | nil => simp [mget?]
  | cons p m ih =>
    have hp : k ≠ p.1 := by
      rintro rfl
      simp [mhas, mget?] at h
    have hm : mhas m k = false := by
      unfold mhas at h ⊢
      simp only [mget?] at h
      rwa [if_neg hp] at h
    simp only [List.cons_append, mget?]
    rw [ih hm]
    by_cases hj : j = p.1
    · rw [if_pos hj, if_pos hj, if_neg (by rw [hj]; exact fun h => hp h.symm)]
    · rw [if_neg hj, if_neg hj]
theorem putAll_set (m : Founds) {s : Int} (v : End) (hs : 0 ≤ s ∧ s < 7) (h : mhas m s = false) : (putAll m).set s.toNat v = putAll (m ++ [(s, v)]) := by
  apply List.ext_getElem?
  intro i
  by_cases hi : i < 7
  · by_cases he : s.toNat = i
    · subst he
      rw [List.getElem?_set_self (by rw [putAll_len]; exact hi)]
      simp only [putAll, List.getElem?_map]
      rw [List.getElem?_range hi]
      simp only [Option.map_some, mgetD]
      rw [mget_snoc m s v _ h, if_pos (by omega)]; rfl
    · rw [List.getElem?_set_ne he]
      simp only [putAll, List.getElem?_map]
      rw [List.getElem?_range hi]
      simp only [Option.map_some, mgetD]
      rw [mget_snoc m s v _ h, if_neg (by omega)]
  · rw [List.getElem?_eq_none (by rw [List.length_set, putAll_len]; omega), List.getElem?_eq_none (by rw [putAll_len]; omega)]
theorem mget_in {m : Founds} {k : Int} {v : End} (h : mget? m k = some v) : (k, v) ∈ m := by
  induction m with
  | nil => cases h
  | cons p m ih =>
    simp only [mget?] at h
    split at h
    · rename_i hk; cases h; subst hk; simp
    · exact List.mem_cons_of_mem _ (ih h)
theorem TInv.has1 {m : Founds} (h : TInv m) : mhas m 1 = true := by
  rw [founds_has]
  have := List.mem_of_getElem? h.one
  exact List.mem_map.2 ⟨_, this, rfl⟩
theorem TInv.zero {m : Founds} (h : TInv m) {s : Int} (h1 : s ≠ 1) : ((mgetD m s ⟨0, 0⟩).Port == 0) = !(mhas m s) := by
  unfold mgetD mhas
  cases hg : mget? m s with
  | none => rfl
  | some v =>
    have := h.port _ (mget_in hg) h1
    simp only [Option.getD_some, Option.isSome_some, Bool.not_true]
    simp only [beq_eq_false_iff_ne, ne_eq]
    simp only at this
    omega
/-! ### Ways to the root -/
inductive Way (m : Founds) : Int → List End → Prop
  | root : Way m 1 []
  | step {s : Int} {e : End} {w : List End} : mget? m s = some e → s ≠ 1 → Way m e.Switch w → Way m s (e :: w)
theorem mget_nodup {m : Founds} (hn : (m.map (·.1)).Nodup) {x : Int × End} (h : x ∈ m) : mget? m x.1 = some x.2 := by
  induction m with
  | nil => cases h
  | cons p m ih =>
    simp only [List.map_cons, List.nodup_cons] at hn
    simp only [mget?]
    rcases List.mem_cons.1 h with rfl | h
    · rw [if_pos rfl]
    · rw [if_neg (fun he => hn.1 (List.mem_map.2 ⟨x, h, he⟩)), ih hn.2 h]
theorem TInv.way {m : Founds} (h : TInv m) : ∀ (j : Nat) (x : Int × End), m[j]? = some x → ∃ w, Way m x.1 w ∧ w.length ≤ j := by
  intro j
  induction j using Nat.strongRecOn with
  | ind j ih =>
    intro x hx
    by_cases hj : j = 0
    · subst hj
      rw [h.one] at hx
      cases hx
      exact ⟨[], .root, by simp⟩
    · obtain ⟨j', h1, y, h2, h3⟩ := h.par j x (by omega) hx
      obtain ⟨w, hw, hl⟩ := ih j' h1 y h2
      have hx1 : x.1 ≠ 1 := by
        intro he
        have h0 := h.one
        have hl0 := (List.getElem?_eq_some_iff.1 h0)
        have hlj := (List.getElem?_eq_some_iff.1 hx)
        have e1 : (m.map (·.1))[0]'(by simpa using hl0.1) = 1 := by simp [hl0.2]
        have e2 : (m.map (·.1))[j]'(by simpa using hlj.1) = 1 := by simp [hlj.2, he]
        exact List.pairwise_iff_getElem.1 h.nd 0 j (by simpa using hl0.1) (by simpa using hlj.1) (by omega) (e1.trans e2.symm)
      refine ⟨x.2 :: w, .step (mget_nodup h.nd (List.mem_of_getElem? hx)) hx1 (h3 ▸ hw), by simp; omega⟩
theorem TInv.has_way {m : Founds} (h : TInv m) {s : Int} (hs : mhas m s = true) : ∃ w, Way m s w ∧ w.length ≤ 6 := by
  rw [founds_has] at hs
  obtain ⟨x, hx, rfl⟩ := List.mem_map.1 hs
  obtain ⟨j, hj⟩ := List.getElem?_of_mem hx
  have := (List.getElem?_eq_some_iff.1 hj).1
  have hf := h.few
  obtain ⟨w, hw, hl⟩ := h.way j x hj
  exact ⟨w, hw, by omega⟩
theorem first_way {m : Founds} (h1 : mhas m 1 = true) {y : Bool} {s : Int} {w : List End} (hw : Way m s w) : ∀ (q : Nat) (acc : List End), w.length < q → acc.length + w.length < 100 →
    tree_First_l0 1000 (some m, y) q (acc, (mgetD m s ⟨0, 0⟩).Switch, (mgetD m s ⟨0, 0⟩).Port, (mhas m s && s != 1)) = some (acc ++ w) := by
  induction hw with
  | root =>
    intro q acc hq _
    obtain ⟨q, rfl⟩ : ∃ q', q = q' + 1 := ⟨q - 1, by simp at hq; omega⟩
    rw [tree_First_l0, if_neg (by simp)]; simp
  | @step s e w hm hs hw ih =>
    intro q acc hq ha
    simp at hq ha
    obtain ⟨q, rfl⟩ : ∃ q', q = q' + 1 := ⟨q - 1, by omega⟩
    have hh : mhas m s = true := by unfold mhas; rw [hm]; rfl
    have hg : mgetD m s ⟨0, 0⟩ = e := by unfold mgetD; rw [hm]; rfl
    rw [tree_First_l0, hg, if_pos (by simp [hh, hs]), app_u (by simp; omega)]
    simp only [bind_u]
    have hp : tree_found__parent 1000 (some m) e.Switch = some (mgetD m e.Switch ⟨0, 0⟩, (mhas m e.Switch && e.Switch != 1)) := by
      unfold tree_found__parent
      simp only [Option.getD_some]
      cases mhas m e.Switch <;> simp
    rw [hp]
    simp only [bind_u]
    have hz := ih q (acc ++ [⟨e.Switch, e.Port⟩]) (by omega) (by simp; omega)
    rw [List.append_assoc] at hz
    exact hz
end Go.Cat.G3
