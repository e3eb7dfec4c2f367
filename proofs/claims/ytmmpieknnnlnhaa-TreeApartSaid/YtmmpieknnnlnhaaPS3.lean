/- A text of the proof of the seat's laws: a step logic over the machine, or pure functions that the Go functions come to. No condition. -/
import Derived.Test.YtmmpieknnnlnhaaPS2
namespace Go.Cat.G3
open Go Go.Cat Go.Proofs
set_option linter.unusedVariables false
set_option linter.unusedSimpArgs false
/-! ### Links that may be -/
theorem tmade_l0 (l0 : List Link) : ∀ (q i : Nat) (ls : List Link), i ≤ 30 → 30 - i < q → ls.length ≤ i → okG (gr ls) = true → ∃ ls', catenarylaw20_made_l0 1000 l0 q (ls, (i : Int)) = some ls' ∧ okG (gr ls') = true := by
  intro q
  induction q with
  | zero => intro i _ _ h; omega
  | succ q ih =>
    intro i ls hi hq hl hok
    rw [catenarylaw20_made_l0]
    by_cases hc : i < l0.length ∧ i < 30
    · obtain ⟨h1, h2⟩ := hc
      rw [if_pos (by simp; omega), rd_at h1]
      simp only [bind_u]
      obtain ⟨a, ha, _, _⟩ := bring_some 1000 l0[i].A.Switch 6 (by omega) (by omega)
      obtain ⟨b, hb, _, _⟩ := bring_some 1000 l0[i].A.Port 4 (by omega) (by omega)
      obtain ⟨c, hc, _, _⟩ := bring_some 1000 l0[i].B.Switch 6 (by omega) (by omega)
      obtain ⟨d, hd, _, _⟩ := bring_some 1000 l0[i].B.Port 4 (by omega) (by omega)
      rw [ha, hb, hc, hd]
      unfold catenarylaw20_at
      simp only [bind_u, List.nil_append]
      generalize (⟨⟨w64 (1 + a), w64 (1 + b)⟩, ⟨w64 (1 + c), w64 (1 + d)⟩⟩ : Link) = l
      rw [app_u (by simp; omega)]
      simp only [bind_u, List.nil_append]
      rw [app_u (by simp; omega)]
      simp only [bind_u]
      rw [check_eq _ _ (by simp only [List.length_append, List.length_cons, List.length_nil]; omega) (by omega) (by simp only [List.length_append, List.length_cons, List.length_nil]; omega)]
      simp only [bind_u]
      rw [w64_nat (by omega)]
      by_cases hk : okG ⟨6, ls ++ [l]⟩ = true
      · rw [if_pos hk, if_pos (by decide)]
        exact ih (i + 1) (ls ++ [l]) (by omega) (by omega) (by simp; omega) hk
      · rw [if_neg hk, if_neg (by decide)]
        exact ih (i + 1) ls (by omega) (by omega) (by omega) hok
    · rw [if_neg (by simp; omega)]
      exact ⟨ls, rfl, hok⟩
theorem tmade_some (l0 : List Link) : ∃ ls, catenarylaw20_made 1000 l0 = some ls ∧ okG (gr ls) = true := by
  unfold catenarylaw20_made
  obtain ⟨ls, hl, hok⟩ := tmade_l0 l0 1000 0 [] (by omega) (by omega) (by simp) (okG_nil (by omega) (by omega))
  have hl' : catenarylaw20_made_l0 1000 l0 1000 ([], 0) = _ := hl
  rw [hl']
  exact ⟨_, rfl, hok⟩
theorem ok_few {ls : List Link} (h : okG (gr ls) = true) : ls.length ≤ 12 := by unfold okG at h; simp at h; omega
theorem ok_good {ls : List Link} (h : okG (gr ls) = true) : Good (gr ls) := ⟨h, by have := ok_few h; simp only; omega⟩
theorem ok_sw {ls : List Link} (h : okG (gr ls) = true) : ∀ l ∈ ls, (1 ≤ l.A.Switch ∧ l.A.Switch ≤ 6) ∧ (1 ≤ l.B.Switch ∧ l.B.Switch ≤ 6) := by
  intro l hl
  obtain ⟨n, hn, rfl⟩ := List.getElem_of_mem hl
  have h1 := (ok_good h).sok.ok (ls[n].A, ⟨ls[n].B, ((0 + n : Nat) : Int)⟩) (mem_entries.2 ⟨n, hn, rfl, .inl ⟨rfl, rfl⟩⟩)
  have h2 := (ok_good h).sok.ok (ls[n].B, ⟨ls[n].A, ((0 + n : Nat) : Int)⟩) (mem_entries.2 ⟨n, hn, rfl, .inr ⟨rfl, rfl⟩⟩)
  simp only at h1 h2
  omega
theorem first_has {ls : List Link} (hok : okG (gr ls) = true) (x : Int) : mhas (found ls) x = true ↔ ∃ n, Walk (entries 0 ls) n x := by
  have hf := ok_few hok
  rcases first_is hok (by omega) x with ⟨h, w, _, _, _, hw, _⟩ | ⟨h, _, hn⟩
  · exact ⟨fun _ => ⟨_, hw⟩, fun _ => h⟩
  · exact ⟨fun h' => absurd (h.symm.trans h') (by decide), fun ⟨n, k⟩ => absurd k (hn n)⟩
/-! ### Where a way goes -/
theorem goes_l0 {ls : List Link} (hok : okG (gr ls) = true) {m : Founds} (hl : ∀ s e, mget? m s = some e → s ≠ 1 → ∃ o n, findE 0 ls e = some (o, n) ∧ o.Switch = s) {s : Int} {w : List End} (hw : Way m s w) :
    ∀ (q : Nat) (t : List End), w.length + t.length < 1000 → catenarylaw20_goes_l0 1000 ls (w.reverse ++ t) (q + w.length) (1, 0) = catenarylaw20_goes_l0 1000 ls (w.reverse ++ t) q (s, (w.length : Int)) := by
  have hf := ok_few hok
  induction hw with
  | root => intro q t _; rfl
  | @step s e w hm hs hw ih =>
    intro q t hb
    simp only [List.length_cons] at hb
    have h1 := ih (q + 1) (e :: t) (by simp only [List.length_cons]; omega)
    have hL : (e :: w).reverse ++ t = w.reverse ++ (e :: t) := by simp
    rw [hL, List.length_cons, show q + (w.length + 1) = q + 1 + w.length by omega, h1, catenarylaw20_goes_l0]
    obtain ⟨o, n, h2, h3⟩ := hl s e hm hs
    have hr : rd (w.reverse ++ (e :: t)) ((w.length : Nat) : Int) = some e := by
      rw [rd_at (by simp)]
      simp
    rw [if_pos (by simp; omega), hr]
    simp only [bind_u]
    rw [peer_eq _ _ _ (by simp only; omega) (by omega) (by simp only; omega)]
    have hp : peerOf (gr ls) e = (o, n, true) := by unfold peerOf; rw [if_pos hok, h2]
    rw [hp]
    simp only [bind_u]
    rw [if_neg (by simp)]
    simp only [bind_u]
    rw [if_neg (by simp), w64_nat (by omega), h3]
theorem goes_is {ls : List Link} (hok : okG (gr ls) = true) {m : Founds} (hl : ∀ s e, mget? m s = some e → s ≠ 1 → ∃ o n, findE 0 ls e = some (o, n) ∧ o.Switch = s) {s : Int} {w : List End} (hw : Way m s w) (hlen : w.length ≤ 30) :
    catenarylaw20_goes 1000 ls w.reverse s = some (w.length : Int) := by
  unfold catenarylaw20_goes
  have h := goes_l0 hok hl hw (1000 - w.length) [] (by simp; omega)
  rw [List.append_nil, show 1000 - w.length + w.length = 1000 by omega] at h
  rw [h]
  obtain ⟨q, hq⟩ : ∃ q, 1000 - w.length = q + 1 := ⟨1000 - w.length - 1, by omega⟩
  rw [hq, catenarylaw20_goes_l0, if_neg (by simp)]
  simp only [bind_u, LX.go]
  rw [if_neg (by simp)]
  simp
/-- What is told of a first way: it goes where it should, as far as it need be. -/
theorem first_full {ls : List Link} (hok : okG (gr ls) = true) (s : Int) :
    (mhas (found ls) s = true ∧ ∃ w, Way (found ls) s w ∧ tree_First 1000 ls s = some (w.reverse, true) ∧ w.length ≤ 5 ∧ Walk (entries 0 ls) w.length s ∧ (∀ n, Walk (entries 0 ls) n s → w.length ≤ n) ∧ catenarylaw20_goes 1000 ls w.reverse s = some (w.length : Int) ∧ catenarylaw20_far 1000 ls s = some (w.length : Int))
    ∨ (mhas (found ls) s = false ∧ tree_First 1000 ls s = some ([], false) ∧ (∀ n, ¬ Walk (entries 0 ls) n s) ∧ (1 ≤ s ∧ s ≤ 6 → ∃ x, catenarylaw20_far 1000 ls s = some x ∧ x < 0)) := by
  have hf := ok_few hok
  have hT := found_inv hok (by omega)
  obtain ⟨d, hB⟩ := found_binv hok
  have hO := of_links (ok_sw hok)
  rcases first_is hok (by omega) s with ⟨h, w, h1, h2, h3, h4, h5⟩ | ⟨h, h1, h2⟩
  · left
    refine ⟨h, w, h1, h2, h3, h4, h5, goes_is hok (fun s e hm hs => way_link hT hB hm hs) h1 (by omega), ?_⟩
    have hs := walk_in hO h4
    obtain ⟨x, g1, g2, g3⟩ := far_is (by omega) hO hs
    have g4 := g3 _ h4 (by omega)
    have g5 := h5 _ (g2 g4.1)
    rw [g1]; congr 1; omega
  · right
    refine ⟨h, h1, h2, fun hs => ?_⟩
    obtain ⟨x, g1, g2, g3⟩ := far_is (by omega) hO hs
    refine ⟨x, g1, ?_⟩
    apply Classical.byContradiction
    intro hn
    exact h2 _ (g2 (by omega))
end Go.Cat.G3
