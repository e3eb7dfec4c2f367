/- A text of the proof of the seat's laws: a step logic over the machine, or pure functions that the Go functions come to. No condition. -/
import Derived.Test.YtmmpieknnnlnhaaPS3
import Derived.Test.YtmmpieknnnlnhaaPT1
import Derived.Test.YtmmpieknnnlnhaaT6
namespace Go.Cat.G3
open Go Go.Cat Go.Proofs
set_option linter.unusedVariables false
set_option linter.unusedSimpArgs false
/-! ### The same are reached -/
theorem walk_come {ls : List Link} (hok : okG (gr ls) = true) {x : Int} : Come (entries 0 ls) [] 1 x ↔ ∃ n, Walk (entries 0 ls) n x := by
  constructor
  · intro h
    induction h with
    | here => exact ⟨0, .root⟩
    | step _ hh ih =>
      obtain ⟨n, hn⟩ := ih
      obtain ⟨p, hp, hs, rfl⟩ := hh
      simp only [sideOn, Bool.and_eq_true, beq_iff_eq] at hs
      rw [← hs.1] at hn
      exact ⟨n + 1, .step hn hp⟩
  · rintro ⟨n, h⟩
    induction h with
    | root => exact .here
    | @step n e v _ hv ih =>
      refine .step ih ⟨(e, v), hv, ?_, rfl⟩
      have := (ok_good hok).sok.ok _ hv
      simp only at this
      simp only [sideOn, Bool.and_eq_true, beq_iff_eq, Bool.or_eq_true, decide_eq_true_eq]
      exact ⟨trivial, .inl (by simp; omega)⟩
theorem putAll_get (m : Founds) (u : Nat) (h : u < (putAll m).length) : (putAll m)[u] = mgetD m (u : Int) ⟨0, 0⟩ := by simp [putAll]
theorem walk_hang {m : Founds} (hT : TInv m) {x : Int} : Cm (fun x => kidsFrom (putAll m) x 1) 1 x ↔ mhas m x = true := by
  constructor
  · intro h
    induction h with
    | here => exact hT.has1
    | @step a b _ hh ih =>
      obtain ⟨u, h1, h2, rfl, h3, h4⟩ := kids_mem.1 hh
      rw [putAll_get] at h4
      obtain ⟨y, hy, hy2⟩ := List.mem_map.1 (founds_has.1 ih)
      have hk := hT.key y hy
      cases hu : mhas m (u : Int) with
      | true => rfl
      | false =>
        have : mget? m (u : Int) = none := by unfold mhas at hu; cases hg : mget? m (u : Int) with
          | none => rfl
          | some _ => rw [hg] at hu; cases hu
        unfold mgetD at h4
        rw [this] at h4
        simp only [Option.getD_none] at h4
        omega
  · intro h
    obtain ⟨w, hw⟩ : ∃ w, Way m x w := let ⟨w, hw, _⟩ := hT.has_way h; ⟨w, hw⟩
    clear h
    induction hw with
    | root => exact .here
    | @step s e w hm hs hw ih =>
      have hk := hT.key _ (mget_in hm)
      simp only at hk
      refine .step ih (kids_mem.2 ⟨s.toNat, by omega, by omega, by omega, by rw [putAll_len]; omega, ?_⟩)
      rw [putAll_get, show ((s.toNat : Nat) : Int) = s by omega]
      unfold mgetD; rw [hm]; rfl
theorem tree_works' : catenarylaw20_works 1000 = some true := by decide +kernel
theorem way_inv {m : Founds} {s : Int} {w : List End} (h : Way m s w) (hs : s ≠ 1) : ∃ e w', w = e :: w' ∧ mget? m s = some e := by
  cases h with
  | root => exact absurd rfl hs
  | step hm _ _ => exact ⟨_, _, rfl, hm⟩
theorem short_l0 {ls : List Link} (hok : okG (gr ls) = true) : ∀ (q i : Nat), 1 ≤ i → i ≤ 7 → 7 - i < q → catenarylaw20_TreeShort_l0 1000 ls q (putAll (found ls), (i : Int)) = some (.out ()) := by
  have hf := ok_few hok
  have hT := found_inv hok (by omega)
  intro q
  induction q with
  | zero => intro i _ _ h; omega
  | succ q ih =>
    intro i hi1 hi hq
    rw [catenarylaw20_TreeShort_l0]
    by_cases hlt : i < 7
    · rw [if_pos (by simp; omega)]
      rcases first_full hok (i : Int) with ⟨h, w, h1, h2, h3, h4, h5, h6, h7⟩ | ⟨h, h1, h2, h3⟩
      · rw [h2]
        simp only [bind_u]
        rw [if_neg (by simp), h6]
        simp only [bind_u]
        rw [if_neg (by simp), h7]
        simp only [bind_u]
        rw [if_neg (by simp)]
        by_cases hone : (i : Int) > 1
        · rw [if_pos (by simpa using hone), putAll_at _ (by omega)]
          simp only [bind_u]
          obtain ⟨e, w, rfl, hm⟩ := way_inv h1 (by omega)
          have hg : mgetD (found ls) (i : Int) ⟨0, 0⟩ = e := by unfold mgetD; rw [hm]; rfl
          have hr : rd (e :: w).reverse (w64 (((e :: w).length : Nat) - 1 : Int)) = some e := by
            rw [w64_id (by simp only [List.length_cons] at h3 ⊢; omega) (by simp only [List.length_cons] at h3 ⊢; omega)]
            rw [show (((e :: w).length : Nat) - 1 : Int) = ((w.length : Nat) : Int) by simp only [List.length_cons]; omega]
            rw [rd_at (by simp)]
            simp
          rw [hr, hg]
          simp only [bind_u]
          rw [if_neg (by simp), w64_nat (by omega)]
          exact ih (i + 1) (by omega) (by omega) (by omega)
        · rw [if_neg (by simpa using hone)]
          simp only [bind_u]
          rw [if_neg (by simp), w64_nat (by omega)]
          exact ih (i + 1) (by omega) (by omega) (by omega)
      · rw [h1]
        simp only [bind_u]
        obtain ⟨x, g1, g2⟩ := h3 (by omega)
        rw [if_pos (by simp), g1]
        simp only [bind_u]
        rw [if_neg (by simp; omega)]
        simp only [bind_u]
        rw [if_neg (by simp), w64_nat (by omega)]
        exact ih (i + 1) (by omega) (by omega) (by omega)
    · rw [if_neg (by simp; omega)]
theorem TreeShort_true (l : List Link) : ∃ k, catenarylaw20_TreeShort k l = some true := by
  refine ⟨1000, ?_⟩
  unfold catenarylaw20_TreeShort
  rw [tree_works']
  simp only [bind_u]
  rw [if_neg (by decide)]
  obtain ⟨ls, hm, hok⟩ := tmade_some l
  have hf := ok_few hok
  have hT := found_inv hok (by omega)
  rw [hm]
  simp only [bind_u]
  rw [tree_Tree_eq ls (by omega), if_pos hok]
  simp only [bind_u]
  rw [if_neg (by simp [putAll_len])]
  rw [reach_eq 1000 (g := ⟨6, ls⟩) (ok_good hok) [] (s := 1) (by simp)]
  simp only [bind_u]
  obtain ⟨a, ha, ha1, ha2, ha3⟩ := tree_below (putAll (found ls)) (by rw [putAll_len]; omega) 1
  rw [ha]
  simp only [bind_u]
  have hab : reachOf (entries 0 ls) [] 1 = a := by
    refine sorted_ext (reach_sorted _ _ _) ha1 fun x => ?_
    rw [reach_mem, ha3, walk_hang hT, first_has hok, walk_come hok]
    exact ⟨fun h => ⟨by omega, h⟩, fun h => h.2⟩
  rw [hab, eqints_self _ _ (by omega) (by omega)]
  simp only [bind_u]
  rw [if_neg (by decide)]
  have h := short_l0 hok 1000 1 (by omega) (by omega) (by omega)
  have h' : catenarylaw20_TreeShort_l0 1000 ls 1000 (putAll (found ls), 1) = _ := h
  rw [h']; rfl
end Go.Cat.G3
