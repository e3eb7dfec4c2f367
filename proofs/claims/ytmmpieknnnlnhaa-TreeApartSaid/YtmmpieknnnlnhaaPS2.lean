/- A text of the proof of the seat's laws: a step logic over the machine, or pure functions that the Go functions come to. No condition. -/
import Derived.Test.YtmmpieknnnlnhaaPS1
import Derived.Test.YtmmpieknnnlnhaaT5
namespace Go.Cat.G3
open Go Go.Cat Go.Proofs
set_option linter.unusedVariables false
set_option linter.unusedSimpArgs false
/-! ### How far a switch lies -/
theorem bring_id (k : Nat) (i n : Int) (h0 : 0 ≤ i) (h1 : i < n) (h2 : n < 4611686018427387904) : catenaryref00_Bring k i n = some i := by
  unfold catenaryref00_Bring grem
  rw [if_neg (by omega)]
  simp only [bind_u]
  rw [Int.tmod_eq_of_lt h0 h1, if_neg (by simp; omega)]
def gd (D : List Int) (v : Int) : Int := D[v.toNat]?.getD (-1)
theorem rd_gd {D : List Int} (hD : D.length = 7) {v : Int} (hv : 0 ≤ v ∧ v < 7) : rd D v = some (gd D v) := by
  unfold rd gd
  rw [if_pos hv.1, List.getElem?_eq_getElem (by omega)]; rfl
theorem gd_set {D : List Int} (hD : D.length = 7) {v u : Int} {x : Int} (hv : 0 ≤ v ∧ v < 7) (hu : 0 ≤ u ∧ u < 7) : gd (D.set u.toNat x) v = if v = u then x else gd D v := by
  unfold gd
  by_cases h : v = u
  · subst h
    rw [if_pos rfl, List.getElem?_set_self (by omega)]; rfl
  · rw [if_neg h, List.getElem?_set_ne (by omega)]
def rel (D : List Int) (a b : Int) : Bool := decide (0 ≤ gd D a ∧ (gd D b < 0 ∨ gd D b > gd D a + 1))
def relax (D : List Int) (a b : Int) : List Int := if rel D a b = true then D.set b.toNat (gd D a + 1) else D
structure FInv (m : Sides) (D : List Int) (c : Int) : Prop where
  len : D.length = 7
  low : ∀ v, 0 ≤ v ∧ v < 7 → -1 ≤ gd D v ∧ gd D v ≤ c
  walk : ∀ v, 0 ≤ v ∧ v < 7 → 0 ≤ gd D v → Walk m (gd D v).toNat v
def Less (D D' : List Int) : Prop := ∀ v, 0 ≤ v ∧ v < 7 → 0 ≤ gd D v → 0 ≤ gd D' v ∧ gd D' v ≤ gd D v
theorem Less.refl (D : List Int) : Less D D := fun v _ h => ⟨h, by omega⟩
theorem Less.trans {D D' D'' : List Int} (h : Less D D') (h' : Less D' D'') : Less D D'' := fun v hv h0 => by
  have h1 := h v hv h0
  have h2 := h' v hv h1.1
  omega
def Edge (m : Sides) (a b : Int) : Prop := ∃ e v, (e, v) ∈ m ∧ e.Switch = a ∧ v.other.Switch = b
theorem relax_ok {m : Sides} {D : List Int} {c : Int} (h : FInv m D c) (hc : 0 ≤ c) {a b : Int} (ha : 0 ≤ a ∧ a < 7) (hb : 0 ≤ b ∧ b < 7) (he : Edge m a b) :
    FInv m (relax D a b) (c + 1) ∧ Less D (relax D a b) ∧ (0 ≤ gd D a → 0 ≤ gd (relax D a b) b ∧ gd (relax D a b) b ≤ gd D a + 1) := by
  have la := h.low a ha
  have lb := h.low b hb
  unfold relax
  cases hr : rel D a b with
  | true =>
    unfold rel at hr
    simp only [decide_eq_true_eq] at hr
    rw [if_pos rfl]
    refine ⟨⟨by rw [List.length_set]; exact h.len, fun v hv => ?_, fun v hv => ?_⟩, fun v hv h0 => ?_, fun _ => ?_⟩
    · rw [gd_set h.len hv hb]
      have := h.low v hv
      split <;> omega
    · rw [gd_set h.len hv hb]
      split
      · rename_i hvb
        subst hvb
        intro _
        obtain ⟨e, s, h1, h2, rfl⟩ := he
        have hw := h.walk a ha hr.1
        rw [← h2] at hw
        have := Walk.step hw h1
        rw [h2] at this
        rw [show (gd D a + 1).toNat = (gd D a).toNat + 1 by omega]; exact this
      · exact h.walk v hv
    · rw [gd_set h.len hv hb]
      split
      · rename_i hvb; subst hvb; omega
      · omega
    · rw [gd_set h.len hb hb, if_pos rfl]; omega
  | false =>
    unfold rel at hr
    simp only [decide_eq_false_iff_not] at hr
    rw [if_neg (by simp)]
    refine ⟨⟨h.len, fun v hv => ?_, h.walk⟩, Less.refl D, fun h0 => ?_⟩
    · have := h.low v hv; omega
    · omega
theorem halfc {D : List Int} (hD : D.length = 7) {a b : Int} (ha : 0 ≤ a ∧ a < 7) (hb : 0 ≤ b ∧ b < 7) (hl : -1 ≤ gd D a ∧ gd D a ≤ 100000) :
    ((rd D a).bind fun y1 => if (decide (y1 ≥ 0)) = true then (rd D b).bind fun y2 => if (decide (y2 < 0)) = true then some (D, true) else (rd D b).bind fun y3 => (rd D a).bind fun y4 => some (D, decide (y3 > (w64 (y4 + 1)))) else some (D, false)) = some (D, rel D a b) := by
  rw [rd_gd hD ha, rd_gd hD hb]
  simp only [bind_u]
  rw [w64_id (by omega) (by omega)]
  unfold rel
  by_cases h1 : gd D a ≥ 0
  · rw [if_pos (by simpa using h1)]
    by_cases h2 : gd D b < 0
    · rw [if_pos (by simpa using h2)]
      simp; omega
    · rw [if_neg (by simpa using h2)]
      have : decide (gd D b > gd D a + 1) = decide (0 ≤ gd D a ∧ (gd D b < 0 ∨ gd D b > gd D a + 1)) := by rw [decide_eq_decide]; omega
      rw [this]
  · rw [if_neg (by simpa using h1)]
    simp; omega
theorem far_l1 {ls : List Link} {m : Sides} (hls : ls.length ≤ 30) (hsw : ∀ l ∈ ls, (1 ≤ l.A.Switch ∧ l.A.Switch ≤ 6) ∧ (1 ≤ l.B.Switch ∧ l.B.Switch ≤ 6) ∧ Edge m l.A.Switch l.B.Switch ∧ Edge m l.B.Switch l.A.Switch) :
    ∀ (q i : Nat) (D : List Int) (c : Int), i ≤ ls.length → ls.length - i < q → 0 ≤ c → c + 2 * ((ls.length : Int) - i) ≤ 10000 → FInv m D c →
      ∃ D', catenarylaw20_far_l1 1000 ls q (D, (i : Int)) = some D' ∧ FInv m D' (c + 2 * ((ls.length : Int) - i)) ∧ Less D D' ∧
        ∀ l ∈ ls.drop i, (0 ≤ gd D l.A.Switch → 0 ≤ gd D' l.B.Switch ∧ gd D' l.B.Switch ≤ gd D l.A.Switch + 1) ∧ (0 ≤ gd D l.B.Switch → 0 ≤ gd D' l.A.Switch ∧ gd D' l.A.Switch ≤ gd D l.B.Switch + 1) := by
  intro q
  induction q with
  | zero => intro i _ _ _ h; omega
  | succ q ih =>
    intro i D c hi hq hc hc2 hF
    rw [catenarylaw20_far_l1]
    by_cases hlt : i < ls.length
    · have hd : ls.drop i = ls[i] :: ls.drop (i + 1) := List.drop_eq_getElem_cons hlt
      obtain ⟨ha, hb, hab, hba⟩ := hsw ls[i] (List.getElem_mem hlt)
      rw [if_pos (by simp; omega), rd_at (l := ls) (i := i) hlt]
      simp only [bind_u]
      rw [bring_id _ _ _ (by omega) (by omega) (by omega), bring_id _ _ _ (by omega) (by omega) (by omega)]
      simp only [bind_u]
      generalize hA : ls[i].A.Switch = a at *
      generalize hB : ls[i].B.Switch = b at *
      have ha' : 0 ≤ a ∧ a < 7 := by omega
      have hb' : 0 ≤ b ∧ b < 7 := by omega
      rw [halfc hF.len ha' hb' (by have := hF.low a ha'; omega)]
      simp only [bind_u]
      obtain ⟨hF1, hL1, hR1⟩ := relax_ok hF hc ha' hb' hab
      have e1 : (if rel D a b = true then (rd D a).bind fun y1 => (rd D b).bind fun y2 => some (D.set b.toNat (w64 (y1 + 1))) else some D) = some (relax D a b) := by
        have := hF.low a ha'
        rw [rd_gd hF.len ha', rd_gd hF.len hb']
        simp only [bind_u]
        rw [w64_id (by omega) (by omega)]
        unfold relax
        split <;> rfl
      rw [e1]
      simp only [bind_u]
      rw [halfc hF1.len hb' ha' (by have := hF1.low b hb'; omega)]
      simp only [bind_u]
      obtain ⟨hF2, hL2, hR2⟩ := relax_ok hF1 (by omega) hb' ha' hba
      have e2 : (if rel (relax D a b) b a = true then (rd (relax D a b) b).bind fun y1 => (rd (relax D a b) a).bind fun y2 => catenarylaw20_far_l1 1000 ls q ((relax D a b).set a.toNat (w64 (y1 + 1)), w64 ((i : Int) + 1)) else catenarylaw20_far_l1 1000 ls q (relax D a b, w64 ((i : Int) + 1))) = catenarylaw20_far_l1 1000 ls q (relax (relax D a b) b a, w64 ((i : Int) + 1)) := by
        have := hF1.low b hb'
        rw [rd_gd hF1.len ha', rd_gd hF1.len hb']
        simp only [bind_u]
        rw [w64_id (n := gd (relax D a b) b + 1) (by omega) (by omega)]
        conv => rhs; rw [relax]
        split <;> rfl
      rw [e2, w64_nat (by omega)]
      obtain ⟨D', h1, h2, h3, h4⟩ := ih (i + 1) (relax (relax D a b) b a) (c + 1 + 1) (by omega) (by omega) (by omega) (by omega) hF2
      refine ⟨D', h1, ⟨h2.len, fun v hv => ?_, h2.walk⟩, (hL1.trans hL2).trans h3, ?_⟩
      · have := h2.low v hv; omega
      · rw [hd]
        intro l hl
        rcases List.mem_cons.1 hl with rfl | hl
        · rw [hA, hB]
          refine ⟨fun h0 => ?_, fun h0 => ?_⟩
          · have g1 := hR1 h0
            have g2 := (hL2.trans h3) b hb' g1.1
            omega
          · have g0 := hL1 b hb' h0
            have g1 := hR2 g0.1
            have g2 := h3 a ha' g1.1
            omega
        · obtain ⟨k1, k2⟩ := h4 l hl
          have hl2 := hsw l (List.mem_of_mem_drop hl)
          refine ⟨fun h0 => ?_, fun h0 => ?_⟩
          · have g0 := (hL1.trans hL2) _ ⟨by omega, by omega⟩ h0
            have g1 := k1 g0.1
            omega
          · have g0 := (hL1.trans hL2) _ ⟨by omega, by omega⟩ h0
            have g1 := k2 g0.1
            omega
    · rw [if_neg (by simp; omega)]
      have : i = ls.length := by omega
      subst this
      refine ⟨D, rfl, ⟨hF.len, fun v hv => ?_, hF.walk⟩, Less.refl D, ?_⟩
      · have := hF.low v hv; omega
      · rw [List.drop_length]; intro l hl; cases hl
def Cov (m : Sides) (r : Nat) (D : List Int) : Prop := ∀ n v, Walk m n v → n ≤ r → 0 ≤ gd D v ∧ gd D v ≤ n
/-- Of the sides it needs that they are those of links on switches 1 to 6. -/
structure OfLinks (m : Sides) (ls : List Link) : Prop where
  sw : ∀ l ∈ ls, (1 ≤ l.A.Switch ∧ l.A.Switch ≤ 6) ∧ (1 ≤ l.B.Switch ∧ l.B.Switch ≤ 6) ∧ Edge m l.A.Switch l.B.Switch ∧ Edge m l.B.Switch l.A.Switch
  of : ∀ e v, (e, v) ∈ m → ∃ l ∈ ls, (l.A = e ∧ l.B = v.other) ∨ (l.B = e ∧ l.A = v.other)
theorem of_links {ls : List Link} (hsw : ∀ l ∈ ls, (1 ≤ l.A.Switch ∧ l.A.Switch ≤ 6) ∧ (1 ≤ l.B.Switch ∧ l.B.Switch ≤ 6)) : OfLinks (entries 0 ls) ls := by
  refine ⟨fun l hl => ?_, fun e v h => ?_⟩
  · obtain ⟨n, hn, rfl⟩ := List.getElem_of_mem hl
    have h1 := hsw _ hl
    refine ⟨h1.1, h1.2, ⟨ls[n].A, ⟨ls[n].B, ((0 + n : Nat) : Int)⟩, mem_entries.2 ⟨n, hn, rfl, .inl ⟨rfl, rfl⟩⟩, rfl, rfl⟩, ⟨ls[n].B, ⟨ls[n].A, ((0 + n : Nat) : Int)⟩, mem_entries.2 ⟨n, hn, rfl, .inr ⟨rfl, rfl⟩⟩, rfl, rfl⟩⟩
  · obtain ⟨n, hn, _, h⟩ := mem_entries.1 h
    refine ⟨ls[n], List.getElem_mem hn, ?_⟩
    rcases h with ⟨h1, h2⟩ | ⟨h1, h2⟩
    · exact .inl ⟨h1, h2.symm⟩
    · exact .inr ⟨h1, h2.symm⟩
theorem walk_in {m : Sides} {ls : List Link} (hO : OfLinks m ls) {n : Nat} {v : Int} (h : Walk m n v) : 1 ≤ v ∧ v ≤ 6 := by
  cases h with
  | root => omega
  | step _ hv =>
    obtain ⟨l, hl, h⟩ := hO.of _ _ hv
    have := hO.sw l hl
    rcases h with ⟨_, h⟩ | ⟨_, h⟩ <;> rw [← h] <;> omega
theorem far_l0 {ls : List Link} {m : Sides} (hls : ls.length ≤ 30) (hO : OfLinks m ls) : ∀ (q r : Nat) (D : List Int), r ≤ 6 → 6 - r < q → FInv m D (60 * (r : Int)) → Cov m r D →
    ∃ D', catenarylaw20_far_l0 1000 ls q (D, (r : Int)) = some D' ∧ FInv m D' 360 ∧ Cov m 6 D' := by
  intro q
  induction q with
  | zero => intro r _ _ h; omega
  | succ q ih =>
    intro r D hr hq hF hC
    rw [catenarylaw20_far_l0]
    by_cases hlt : r < 6
    · rw [if_pos (by simp; omega)]
      obtain ⟨D', h1, h2, h3, h4⟩ := far_l1 hls hO.sw 1000 0 D (60 * (r : Int)) (by omega) (by omega) (by omega) (by omega) hF
      have h1' : catenarylaw20_far_l1 1000 ls 1000 (D, 0) = _ := h1
      rw [h1']
      simp only [bind_u]
      rw [w64_nat (by omega)]
      refine ih (r + 1) D' (by omega) (by omega) ⟨h2.len, fun v hv => ?_, h2.walk⟩ ?_
      · have := h2.low v hv; omega
      · intro n v hw hn
        by_cases hnr : n ≤ r
        · have g := hC n v hw hnr
          have hv := walk_in hO hw
          have g2 := h3 v ⟨by omega, by omega⟩ g.1
          omega
        · cases hw with
          | root => omega
          | @step n e s hw hs =>
            have g := hC n _ hw (by omega)
            obtain ⟨l, hl, h⟩ := hO.of _ _ hs
            have h4' := h4 l (by rw [List.drop_zero]; exact hl)
            rcases h with ⟨k1, k2⟩ | ⟨k1, k2⟩
            · rw [k1, k2] at h4'
              have := h4'.1 g.1
              omega
            · rw [k1, k2] at h4'
              have := h4'.2 g.1
              omega
    · rw [if_neg (by simp; omega)]
      have : r = 6 := by omega
      subst this
      exact ⟨D, rfl, hF, hC⟩
theorem far_start (m : Sides) : FInv m [-1, 0, -1, -1, -1, -1, -1] 0 ∧ Cov m 0 [-1, 0, -1, -1, -1, -1, -1] := by
  have hg : ∀ v : Int, 0 ≤ v ∧ v < 7 → gd [-1, 0, -1, -1, -1, -1, -1] v = if v = 1 then 0 else -1 := by
    intro v hv
    have : v = 0 ∨ v = 1 ∨ v = 2 ∨ v = 3 ∨ v = 4 ∨ v = 5 ∨ v = 6 := by omega
    rcases this with h | h | h | h | h | h | h <;> subst h <;> rfl
  refine ⟨⟨rfl, fun v hv => ?_, fun v hv h0 => ?_⟩, fun n v hw hn => ?_⟩
  · rw [hg v hv]; split <;> omega
  · rw [hg v hv] at h0 ⊢
    by_cases h1 : v = 1
    · rw [if_pos h1, h1]; exact .root
    · rw [if_neg h1] at h0; omega
  · cases hw with
    | root => rw [hg 1 (by omega)]; simp
    | step => omega
/-- The measure of distance, told by walks. -/
theorem far_is {ls : List Link} {m : Sides} (hls : ls.length ≤ 30) (hO : OfLinks m ls) {s : Int} (hs : 1 ≤ s ∧ s ≤ 6) :
    ∃ x, catenarylaw20_far 1000 ls s = some x ∧ (0 ≤ x → Walk m x.toNat s) ∧ (∀ n, Walk m n s → n ≤ 6 → 0 ≤ x ∧ x ≤ n) := by
  obtain ⟨h0, h0'⟩ := far_start m
  obtain ⟨D, h1, h2, h3⟩ := far_l0 hls hO 1000 0 _ (by omega) (by omega) h0 h0'
  refine ⟨gd D s, ?_, h2.walk s ⟨by omega, by omega⟩, fun n hw hn => h3 n s hw hn⟩
  unfold catenarylaw20_far
  have h1' : catenarylaw20_far_l0 1000 ls 1000 ([-1, 0, -1, -1, -1, -1, -1], 0) = _ := h1
  rw [h1']
  simp only [bind_u]
  rw [bring_id _ _ _ (by omega) (by omega) (by omega)]
  simp only [bind_u]
  rw [rd_gd h2.len (by omega)]
  rfl
end Go.Cat.G3
