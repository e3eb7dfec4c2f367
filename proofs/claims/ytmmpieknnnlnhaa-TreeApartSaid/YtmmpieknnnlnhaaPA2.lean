/- A text of the proof of the seat's laws: a step logic over the machine, or pure functions that the Go functions come to. No condition. -/
import Derived.Test.YtmmpieknnnlnhaaPA1
namespace Go.Cat.G3
open Go Go.Cat Go.Proofs
set_option linter.unusedVariables false
set_option linter.unusedSimpArgs false
/-! ### The loops over both ways -/
def Clear (ls : List Link) (w1 : List End) (y : List End × Bool) : Prop := y.2 = true → ∀ e1 ∈ w1, ∀ e2 ∈ y.1, e1 ≠ e2 ∧ (peerOf (gr ls) e1).1 ≠ e2
theorem apart_l2 {ls : List Link} (hls : ls.length ≤ 30) {w1 : List End} {y : List End × Bool} (hy : y.1.length ≤ 30) (hc : Clear ls w1 y) (s294 : List End × List End × Int) {i : Nat} (hi : i < w1.length) (h294 : s294.2.2 = (i : Int)) :
    ∀ (q j : Nat), j ≤ y.1.length → y.1.length - j < q → catenarylaw20_TreeApart_l2 1000 ls y s294 q (w1, y.1, (j : Int)) = some (.out (w1, y.1)) := by
  intro q
  induction q with
  | zero => intro j _ h; omega
  | succ q ih =>
    intro j hj hq
    rw [catenarylaw20_TreeApart_l2]
    by_cases h : j < y.1.length ∧ y.2 = true
    · obtain ⟨hlt, hy2⟩ := h
      obtain ⟨hne, hnp⟩ := hc hy2 w1[i] (List.getElem_mem hi) y.1[j] (List.getElem_mem hlt)
      rw [if_pos (by simp [hy2]; omega), h294, rd_at (l := w1) (i := i) hi, rd_at (l := y.1) (i := j) hlt]
      simp only [bind_u]
      rw [peer_eq _ _ _ (by simp only; omega) (by omega) (by simp only; omega)]
      simp only [bind_u]
      rw [if_neg (by simpa using hne)]
      simp only [bind_u]
      rw [if_neg (by simpa using hnp), w64_nat (by omega)]
      exact ih (j + 1) (by omega) (by omega)
    · rw [if_neg (by simp only [Bool.and_eq_true, decide_eq_true_eq]; intro h'; exact h ⟨by omega, h'.2⟩)]
theorem apart_l1 {ls : List Link} (hls : ls.length ≤ 30) {w1 : List End} (hw : w1.length ≤ 30) {y : List End × Bool} (hy : y.1.length ≤ 30) (hc : Clear ls w1 y) :
    ∀ (q i : Nat), i ≤ w1.length → w1.length - i < q → catenarylaw20_TreeApart_l1 1000 ls y q (w1, y.1, (i : Int)) = some (.out w1) := by
  intro q
  induction q with
  | zero => intro j _ h; omega
  | succ q ih =>
    intro i hi hq
    rw [catenarylaw20_TreeApart_l1]
    by_cases hlt : i < w1.length
    · have h := apart_l2 hls hy hc (w1, y.1, (i : Int)) hlt rfl 1000 0 (by omega) (by omega)
      have h' : catenarylaw20_TreeApart_l2 1000 ls y (w1, y.1, (i : Int)) 1000 (w1, y.1, 0) = _ := h
      rw [if_pos (by simp; omega), h']
      simp only [bind_u, LX.go]
      rw [w64_nat (by omega)]
      exact ih (i + 1) (by omega) (by omega)
    · rw [if_neg (by simp; omega)]
theorem hangs_l0 {ls : List Link} (hls : ls.length ≤ 30) (e : End) : ∀ (q i : Nat) (acc : List Link), i ≤ ls.length → ls.length - i < q → acc.length ≤ i →
    catenarylaw20_hangs_l0 1000 ls e q (acc, (i : Int)) = some (acc ++ offW [e] (ls.drop i)) := by
  intro q
  induction q with
  | zero => intro i _ _ h; omega
  | succ q ih =>
    intro i acc hi hq ha
    rw [catenarylaw20_hangs_l0]
    by_cases hlt : i < ls.length
    · have hd : ls.drop i = ls[i] :: ls.drop (i + 1) := List.drop_eq_getElem_cons hlt
      rw [if_pos (by simp; omega), rd_at hlt]
      simp only [bind_u]
      have hp : (if (!(decide (ls[i].A = e))) = true then some (!(decide (ls[i].B = e))) else some false) = some (!(onW [e] ls[i])) := by
        unfold onW
        simp only [List.mem_singleton]
        cases decide (ls[i].A = e) <;> simp
      rw [hp]
      simp only [bind_u]
      rw [w64_nat (by omega), hd]
      cases ho : onW [e] ls[i] with
      | true =>
        rw [if_neg (by simp), ih (i + 1) acc (by omega) (by omega) (by omega), offW_on ho]
      | false =>
        rw [if_pos (by simp), app_u (by simp; omega)]
        simp only [bind_u]
        rw [ih (i + 1) _ (by omega) (by omega) (by simp; omega), offW_off ho]
        simp only [List.append_assoc, List.singleton_append]
    · rw [if_neg (by simp; omega)]
      have : ls.drop i = [] := List.drop_eq_nil_of_le (by omega)
      rw [this]; simp [offW]
/-! ### Both ways -/
/-- What the law asks of both ways to a switch, and of the way when a link is lost. -/
structure Both (ls L2 : List Link) (s : Int) : Prop where
  ex : ∃ w1 ok1 w2 ok2 w3 ok3, tree_First 1000 ls s = some (w1, ok1) ∧ tree_Second 1000 ls s = some (w2, ok2) ∧ tree_First 1000 L2 s = some (w3, ok3) ∧ w1.length ≤ 6 ∧ w2.length ≤ 6
    ∧ (ok2 = true → ok1 = true ∧ ok3 = true ∧ ∃ g1 g2, catenarylaw20_goes 1000 ls w1 s = some g1 ∧ catenarylaw20_goes 1000 ls w2 s = some g2 ∧ 0 ≤ g1 ∧ g1 ≤ g2)
    ∧ Clear ls w1 (w2, ok2)
    ∧ (ok2 = false → ok1 = true → w1.length = 1 → ∃ e, w1 = [e] ∧ catenarylaw20_hangs 1000 ls e s = some true)
theorem both {ls L2 : List Link} (hok : okG (gr ls) = true) (hsub : L2.Sublist ls) (x : Link) (hx : x ∈ ls) (hL2 : ∀ l ∈ ls, l ≠ x → l ∈ L2) {s : Int} (hs : 1 ≤ s ∧ s ≤ 6) : Both ls L2 s := by
  have hf := ok_few hok
  have hok2 := okG_sub hsub hok
  have hf2 := ok_few hok2
  have h3 : ∃ w3 ok3, tree_First 1000 L2 s = some (w3, ok3) := by
    rcases first_is hok2 (by omega) s with ⟨_, w, _, h2, _⟩ | ⟨_, h2, _⟩
    · exact ⟨_, _, h2⟩
    · exact ⟨_, _, h2⟩
  obtain ⟨w3, ok3, h3⟩ := h3
  rcases first_full hok s with ⟨a, w, a1, a2, a3, a4, a5, a6, a7⟩ | ⟨a, a1, a2, a3⟩
  · have hokK := okG_sub (off_sub w.reverse ls) hok
    have hfK := ok_few hokK
    have hin : ∀ l ∈ offW w.reverse ls, l ∈ ls := fun l hl => (off_mem.1 hl).1
    have hsec := second_is (s := s) (by omega) (by simp; omega) a2
    rcases first_full hokK s with ⟨b, v, b1, b2, b3, b4, b5, b6, b7⟩ | ⟨b, b1, b2, b3⟩
    · rw [b2] at hsec
      have hl : ∀ s e, mget? (found (offW w.reverse ls)) s = some e → s ≠ 1 → ∃ o n, findE 0 ls e = some (o, n) ∧ o.Switch = s := fun s e hm hs => by
        obtain ⟨o, ho, ho2⟩ := way_joins hokK hm hs
        obtain ⟨n, hn⟩ := (joins_find hok).1 (ho.sub hin)
        exact ⟨o, n, hn, ho2⟩
      have hg2 := goes_is hok hl b1 (by omega)
      have hmin := a5 _ (walk_sub hin b4)
      have hw3 : ∃ n, Walk (entries 0 L2) n s := by
        by_cases hxw : x.A ∈ w.reverse ∨ x.B ∈ w.reverse
        · refine ⟨_, walk_sub (fun l hl => ?_) b4⟩
          obtain ⟨h1, h2, h3⟩ := off_mem.1 hl
          refine hL2 l h1 ?_
          rintro rfl
          exact hxw.elim h2 h3
        · refine ⟨_, way_kept hok a1 fun e he o ho => ?_⟩
          obtain ⟨l, hl, h⟩ := ho
          refine ⟨l, hL2 l hl ?_, h⟩
          rintro rfl
          apply hxw
          rcases h with ⟨rfl, _⟩ | ⟨rfl, _⟩
          · exact .inl (by simpa using he)
          · exact .inr (by simpa using he)
      obtain ⟨n, hn⟩ := hw3
      obtain ⟨w4, hw4⟩ := first_ok hok2 hn
      rw [h3] at hw4
      cases hw4
      refine ⟨w.reverse, true, v.reverse, true, w3, true, a2, hsec, h3, by simp; omega, by simp; omega, fun _ => ⟨rfl, rfl, _, _, a6, hg2, by omega, by omega⟩, ?_, fun h => absurd h (by decide)⟩
      intro _ e1 he1 e2 he2
      obtain ⟨o2, ho2⟩ := way_mem hokK b1 e2 (by simpa using he2)
      obtain ⟨c1, c2⟩ := off_clear hok ho2 he1
      refine ⟨c1, ?_⟩
      obtain ⟨o1, ho1⟩ := way_mem hok a1 e1 (by simpa using he1)
      obtain ⟨n1, hn1⟩ := (joins_find hok).1 ho1
      have hp : peerOf (gr ls) e1 = (o1, n1, true) := by unfold peerOf; rw [if_pos hok, show (gr ls).Links = ls from rfl, hn1]
      rw [hp]
      exact c2 o1 ho1
    · rw [b1] at hsec
      refine ⟨w.reverse, true, [], false, w3, ok3, a2, hsec, h3, by simp; omega, by simp, fun h => absurd h (by decide), fun h => absurd h (by decide), fun _ _ hl => ?_⟩
      obtain ⟨e, he⟩ := List.length_eq_one_iff.1 hl
      refine ⟨e, he, ?_⟩
      unfold catenarylaw20_hangs
      have hh := hangs_l0 (ls := ls) (by omega) e 1000 0 [] (by omega) (by omega) (by simp)
      have hh' : catenarylaw20_hangs_l0 1000 ls e 1000 ([], 0) = _ := hh
      rw [hh', List.drop_zero, List.nil_append, ← he]
      simp only [bind_u]
      obtain ⟨x, g1, g2⟩ := b3 hs
      rw [g1]
      simp only [bind_u]
      rw [decide_eq_true g2]
  · exact ⟨[], false, [], false, w3, ok3, a1, second_none a1, h3, by simp, by simp, fun h => absurd h (by decide), (fun h => absurd h (by decide)), fun _ h => absurd h (by decide)⟩
/-! ### The law -/
theorem apart_l0 {ls y19 y31 : List Link} (hls : ls.length ≤ 30) (hB : ∀ s, 1 ≤ s ∧ s ≤ 6 → Both ls (([] ++ y19) ++ y31) s) : ∀ (q i : Nat), 1 ≤ i → i ≤ 7 → 7 - i < q → catenarylaw20_TreeApart_l0 1000 ls y19 y31 q (i : Int) = some (.out ()) := by
  intro q
  induction q with
  | zero => intro i _ _ h; omega
  | succ q ih =>
    intro i hi1 hi hq
    rw [catenarylaw20_TreeApart_l0]
    by_cases hlt : i < 7
    · rw [if_pos (by simp; omega)]
      obtain ⟨w1, ok1, w2, ok2, w3, ok3, h1, h2, h3, h4, h5, h6, h7, h8⟩ := (hB (i : Int) (by omega)).ex
      rw [h1, h2, h3]
      simp only [bind_u]
      have hl := apart_l1 hls (w1 := w1) (by omega) (y := (w2, ok2)) (by simp only; omega) h7 1000 0 (by omega) (by omega)
      have hl' : catenarylaw20_TreeApart_l1 1000 ls (w2, ok2) 1000 (w1, w2, 0) = _ := hl
      have hnext : w64 ((i : Int) + 1) = ((i + 1 : Nat) : Int) := w64_nat (by omega)
      cases ok2 with
      | true =>
        obtain ⟨k1, k3, g1, g2, e1, e2, e3, e4⟩ := h6 rfl
        subst k1 k3
        rw [if_pos rfl, if_neg (by simp), e1, e2]
        simp only [bind_u]
        rw [if_neg (by simp; omega)]
        simp only [bind_u]
        rw [if_neg (by simp; omega), hl']
        simp only [bind_u, LX.go]
        rw [if_pos trivial, if_neg (by simp), if_pos trivial]
        have hp : (if decide ((i : Int) > 1) = true then if ((w1.length : Int) == 1) = true then if (!true) = true then (rd w1 0).bind fun y271 => (catenarylaw20_hangs 1000 ls y271 (i : Int)).bind fun y278 => some (y278 != (!true)) else some false else some false else some false) = some false := by
          split
          · split
            · rw [if_neg (by simp)]
            · rfl
          · rfl
        rw [hp]
        simp only [bind_u]
        rw [if_neg (by simp), hnext]
        exact ih (i + 1) (by omega) (by omega) (by omega)
      | false =>
        rw [if_neg (by simp)]
        simp only [bind_u]
        rw [if_neg (by simp), hl']
        simp only [bind_u, LX.go]
        rw [if_neg (by simp)]
        have hp : (if ok1 = true then if decide ((i : Int) > 1) = true then if ((w1.length : Int) == 1) = true then if (!false) = true then (rd w1 0).bind fun y284 => (catenarylaw20_hangs 1000 ls y284 (i : Int)).bind fun y291 => some (y291 != (!false)) else some false else some false else some false else some false) = some false := by
          split
          · rename_i ho
            split
            · split
              · rename_i hlen
                obtain ⟨e, rfl, he⟩ := h8 rfl ho (by simp only [beq_iff_eq] at hlen; omega)
                rw [if_pos (by simp)]
                have : rd [e] 0 = some e := rfl
                rw [this]
                simp only [bind_u]
                rw [he]; rfl
              · rfl
            · rfl
          · rfl
        rw [hp]
        simp only [bind_u]
        rw [if_neg (by simp), hnext]
        exact ih (i + 1) (by omega) (by omega) (by omega)
    · rw [if_neg (by simp; omega)]
theorem apart_works : catenarylaw20_works 1000 = some true := by decide +kernel
theorem TreeApart_true (l : List Link) (c : Int) : ∃ k, catenarylaw20_TreeApart k l c = some true := by
  refine ⟨1000, ?_⟩
  unfold catenarylaw20_TreeApart
  obtain ⟨ls, hm, hok⟩ := tmade_some l
  have hf := ok_few hok
  rw [hm]
  simp only [bind_u]
  by_cases h0 : ls.length = 0
  · rw [if_pos (by simp [h0]), apart_works]; rfl
  · rw [if_neg (by simp; intro h; exact h0 (by simp [h]))]
    obtain ⟨c', hc, hc0, hc1⟩ := bring_some 1000 c (ls.length : Int) (by omega) (by omega)
    rw [hc]
    simp only [bind_u]
    obtain ⟨n, rfl⟩ : ∃ n : Nat, c' = (n : Int) := ⟨c'.toNat, by omega⟩
    have hn : n < ls.length := by omega
    rw [slc_all (by omega)]
    simp only [bind_u]
    rw [app_u (by simp; omega)]
    simp only [bind_u]
    rw [w64_nat (by omega)]
    have hs : slc ls ((n + 1 : Nat) : Int) (ls.length : Int) = some (ls.drop (n + 1)) := by
      unfold slc
      rw [if_pos (by omega)]
      simp only [Int.toNat_natCast]
      rw [List.take_of_length_le (by simp)]
    rw [hs]
    simp only [bind_u]
    rw [app_u (by simp; omega)]
    simp only [bind_u]
    have hsplit : ls = ls.take n ++ ls[n] :: ls.drop (n + 1) := by rw [← List.drop_eq_getElem_cons hn, List.take_append_drop]
    have hB : ∀ s, 1 ≤ s ∧ s ≤ 6 → Both ls (([] ++ ls.take n) ++ ls.drop (n + 1)) s := by
      intro s hs
      refine both hok ?_ ls[n] (List.getElem_mem hn) ?_ hs
      · rw [List.nil_append]
        conv => rhs; rw [hsplit]
        exact List.Sublist.append_left (List.sublist_cons_self _ _) _
      · intro l hl hne
        rw [List.nil_append]
        rw [hsplit] at hl
        rcases List.mem_append.1 hl with h | h
        · exact List.mem_append_left _ h
        · rcases List.mem_cons.1 h with h | h
          · exact absurd h hne
          · exact List.mem_append_right _ h
    have h := apart_l0 (by omega) hB 1000 1 (by omega) (by omega) (by omega)
    have h' : catenarylaw20_TreeApart_l0 1000 ls (ls.take n) (ls.drop (n + 1)) 1000 1 = _ := h
    rw [h']
    simp only [bind_u, LX.go]
    rw [apart_works]; rfl
end Go.Cat.G3
