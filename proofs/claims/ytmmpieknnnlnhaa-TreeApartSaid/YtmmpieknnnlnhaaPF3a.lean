/- A text of the proof of the seat's laws: a step logic over the machine, or pure functions that the Go functions come to. No condition. -/
import Derived.Test.YtmmpieknnnlnhaaPF2a
namespace Go.Cat.G3
open Go Go.Cat Go.Proofs
set_option linter.unusedVariables false
set_option linter.unusedSimpArgs false
/-! ### The links beside a way -/
theorem indexE_l0 (k : Nat) (l : List End) (x : End) (hb : l.length < 4611686018427387904) : ∀ (q s : Nat), s ≤ l.length → l.length - s < q →
    (x ∈ l.drop s → ∃ i : Nat, slices_Index___api_End_api_End__l0 k l x q s = some (.ret i)) ∧ (x ∉ l.drop s → slices_Index___api_End_api_End__l0 k l x q s = some (.out ())) := by
  intro q
  induction q with
  | zero => intro s _ h; omega
  | succ q ih =>
    intro s hs hq
    rw [slices_Index___api_End_api_End__l0]
    by_cases hlt : s < l.length
    · rw [if_pos (by simp; omega), rd_at hlt]
      simp only [bind_u]
      rw [w64_nat (by omega)]
      have hdrop : l.drop s = l[s] :: l.drop (s + 1) := List.drop_eq_getElem_cons hlt
      obtain ⟨ih1, ih2⟩ := ih (s + 1) (by omega) (by omega)
      rw [hdrop]
      by_cases he : x = l[s]
      · rw [if_pos (by simp [he])]
        exact ⟨fun _ => ⟨s, rfl⟩, fun h => absurd (List.mem_cons.2 (.inl he)) h⟩
      · rw [if_neg (by simp [he])]
        refine ⟨fun h => ih1 ?_, fun h => ih2 fun h' => h (List.mem_cons.2 (.inr h'))⟩
        rcases List.mem_cons.1 h with h | h
        · exact absurd h he
        · exact h
    · rw [if_neg (by simp; omega)]
      have : l.drop s = [] := List.drop_eq_nil_of_le (by omega)
      rw [this]
      exact ⟨fun h => by simp at h, fun _ => rfl⟩
theorem containsE_eq (k : Nat) (l : List End) (x : End) (hb : l.length < 4611686018427387904) (hk : l.length < k) : slices_Contains___api_End_api_End_ k l x = some (decide (x ∈ l)) := by
  obtain ⟨h1, h2⟩ := indexE_l0 k l x hb k 0 (by omega) (by omega)
  unfold slices_Contains___api_End_api_End_ slices_Index___api_End_api_End_
  simp only [List.drop_zero, Int.ofNat_zero] at h1 h2
  by_cases h : x ∈ l
  · obtain ⟨i, hi⟩ := h1 h
    have hi' : slices_Index___api_End_api_End__l0 k l x k 0 = _ := hi
    rw [hi']; simp [LX.go, h]
  · have := h2 h
    have hi' : slices_Index___api_End_api_End__l0 k l x k 0 = _ := this
    rw [hi']; simp [LX.go, h]
def onW (w : List End) (l : Link) : Bool := decide (l.A ∈ w) || decide (l.B ∈ w)
theorem second1_eq (w : List End) (hw : w.length ≤ 6) (l : Link) : tree_Second_1 1000 l w = some (onW w l) := by
  unfold tree_Second_1 onW
  rw [containsE_eq _ _ _ (by omega) (by omega), containsE_eq _ _ _ (by omega) (by omega)]
  simp only [bind_u]
  cases decide (l.A ∈ w) <;> simp
/-- The links with no end on the way. -/
def offW (w : List End) (ls : List Link) : List Link := ls.filter fun l => !onW w l
theorem offW_on {w : List End} {l : Link} {ls : List Link} (h : onW w l = true) : offW w (l :: ls) = offW w ls := by unfold offW; rw [List.filter_cons, if_neg (by simp [h])]
theorem offW_off {w : List End} {l : Link} {ls : List Link} (h : onW w l = false) : offW w (l :: ls) = l :: offW w ls := by unfold offW; rw [List.filter_cons, if_pos (by simp [h])]
theorem indexF_l0 {w : List End} (hw : w.length ≤ 6) {ls : List Link} (hls : ls.length ≤ 30) : ∀ (q i : Nat), i ≤ ls.length → ls.length - i < q →
    (slices_IndexFunc___api_Link_api_Link__at77_l0 1000 ls w q (i : Int) = some (.out ()) ∧ offW w (ls.drop i) = ls.drop i)
    ∨ ∃ n : Nat, i ≤ n ∧ n < ls.length ∧ slices_IndexFunc___api_Link_api_Link__at77_l0 1000 ls w q (i : Int) = some (.ret (n : Int)) ∧ offW w (ls.drop i) = (ls.drop i).take (n - i) ++ offW w (ls.drop (n + 1)) := by
  intro q
  induction q with
  | zero => intro i _ h; omega
  | succ q ih =>
    intro i hi hq
    rw [slices_IndexFunc___api_Link_api_Link__at77_l0]
    by_cases hlt : i < ls.length
    · have hd : ls.drop i = ls[i] :: ls.drop (i + 1) := List.drop_eq_getElem_cons hlt
      rw [if_pos (by simp; omega), rd_at hlt]
      simp only [bind_u]
      rw [second1_eq w hw]
      simp only [bind_u]
      rw [w64_nat (by omega)]
      cases ho : onW w ls[i] with
      | true =>
        rw [if_pos rfl]
        right
        refine ⟨i, by omega, hlt, rfl, ?_⟩
        rw [hd, offW_on ho, Nat.sub_self]; rfl
      | false =>
        rw [if_neg (by simp)]
        rcases ih (i + 1) (by omega) (by omega) with ⟨h1, h2⟩ | ⟨n, h1, h2, h3, h4⟩
        · left
          refine ⟨h1, ?_⟩
          rw [hd]
          unfold offW at h2 ⊢
          rw [List.filter_cons, if_pos (by simp [ho]), h2]
        · right
          refine ⟨n, by omega, h2, h3, ?_⟩
          rw [hd]
          unfold offW at h4 ⊢
          rw [List.filter_cons, if_pos (by simp [ho]), h4, show n - i = (n - (i + 1)) + 1 by omega, List.take_succ_cons]
          rfl
    · rw [if_neg (by simp; omega)]
      left
      refine ⟨rfl, ?_⟩
      have : ls.drop i = [] := List.drop_eq_nil_of_le (by omega)
      rw [this]; rfl
theorem delF_l0 {w : List End} (hw : w.length ≤ 6) {ls : List Link} (hls : ls.length ≤ 30) : ∀ (q i j : Nat) (cur : List Link), cur.length = ls.length → i < j → j ≤ ls.length → ls.length - j < q → cur.drop j = ls.drop j →
    ∃ cur' : List Link, ∃ i' : Nat, slices_DeleteFunc___api_Link_api_Link__at77_l0 1000 w q (cur, (i : Int), (j : Int)) = some (cur', (i' : Int)) ∧ cur'.length = ls.length ∧ i' ≤ ls.length ∧ cur'.take i' = cur.take i ++ offW w (ls.drop j) := by
  intro q
  induction q with
  | zero => intro i j _ _ _ _ h; omega
  | succ q ih =>
    intro i j cur hc hij hj hq hcd
    rw [slices_DeleteFunc___api_Link_api_Link__at77_l0]
    by_cases hlt : j < ls.length
    · have hd : ls.drop j = ls[j] :: ls.drop (j + 1) := List.drop_eq_getElem_cons hlt
      have hd2 : cur.drop j = cur[j] :: cur.drop (j + 1) := List.drop_eq_getElem_cons (by omega)
      have he : cur[j] = ls[j] := by rw [hd, hd2] at hcd; exact (List.cons.inj hcd).1
      have he2 : cur.drop (j + 1) = ls.drop (j + 1) := by rw [hd, hd2] at hcd; exact (List.cons.inj hcd).2
      rw [if_pos (by simp; omega), rd_at (l := cur) (i := j) (by omega), he]
      simp only [bind_u]
      rw [second1_eq w hw]
      simp only [bind_u]
      rw [w64_nat (by omega), w64_nat (by omega), hd]
      cases ho : onW w ls[j] with
      | true =>
        rw [if_neg (by simp)]
        obtain ⟨cur', i', h1, h2, h3, h4⟩ := ih i (j + 1) cur hc (by omega) (by omega) (by omega) he2
        exact ⟨cur', i', h1, h2, h3, by rw [h4, offW_on ho]⟩
      | false =>
        rw [if_pos (by simp), rd_at (l := cur) (i := i) (by omega)]
        simp only [bind_u]
        obtain ⟨cur', i', h1, h2, h3, h4⟩ := ih (i + 1) (j + 1) (cur.set i ls[j]) (by simpa using hc) (by omega) (by omega) (by omega) (by rw [List.drop_set_of_lt (by omega)]; exact he2)
        refine ⟨cur', i', h1, h2, h3, ?_⟩
        rw [h4]
        have : (cur.set i ls[j]).take (i + 1) = cur.take i ++ [ls[j]] := by
          rw [List.take_add_one, List.take_set_of_le (by omega), List.getElem?_set_self (by omega)]
          rfl
        rw [this, offW_off ho]
        simp only [List.append_assoc, List.singleton_append]
    · rw [if_neg (by simp; omega)]
      have : ls.drop j = [] := List.drop_eq_nil_of_le (by omega)
      rw [this]
      exact ⟨cur, i, rfl, hc, by omega, by simp [offW]⟩
theorem slc_all {α : Type} {l : List α} {i : Nat} (h : i ≤ l.length) : slc l 0 (i : Int) = some (l.take i) := by
  unfold slc
  rw [if_pos (by omega)]
  simp
theorem delF_eq {w : List End} (hw : w.length ≤ 6) {ls : List Link} (hls : ls.length ≤ 30) : slices_DeleteFunc___api_Link_api_Link__at77 1000 ls w = some (offW w ls) := by
  unfold slices_DeleteFunc___api_Link_api_Link__at77 slices_IndexFunc___api_Link_api_Link__at77
  rcases indexF_l0 hw hls 1000 0 (by omega) (by omega) with ⟨h1, h2⟩ | ⟨n, h1, h2, h3, h4⟩
  · have h1' : slices_IndexFunc___api_Link_api_Link__at77_l0 1000 ls w 1000 0 = _ := h1
    rw [h1']
    simp only [bind_u, LX.go]
    rw [if_pos (by decide)]
    rw [List.drop_zero] at h2
    rw [h2]
  · have h3' : slices_IndexFunc___api_Link_api_Link__at77_l0 1000 ls w 1000 0 = _ := h3
    rw [h3']
    simp only [bind_u, LX.go]
    rw [if_neg (by simp only [beq_iff_eq]; omega), w64_nat (by omega)]
    obtain ⟨cur, i', g1, g2, g3, g4⟩ := delF_l0 hw hls 1000 n (n + 1) ls rfl (by omega) (by omega) (by omega) rfl
    rw [g1]
    simp only [bind_u]
    have hs : slc cur (i' : Int) (cur.length : Int) = some ((cur.drop i').take (cur.length - i')) := by
      unfold slc; rw [if_pos (by omega)]; simp
    rw [hs]
    simp only [bind_u, Int.toNat_natCast]
    rw [slc_all (by simp; omega)]
    simp only [bind_u]
    have : (cur.take i' ++ List.replicate (cur.length - i') (⟨⟨0, 0⟩, ⟨0, 0⟩⟩ : Link)).take i' = cur.take i' := by
      rw [List.take_append_of_le_length (by simp; omega), List.take_take]; simp
    rw [this, g4]
    rw [List.drop_zero, Nat.sub_zero] at h4
    rw [h4]
theorem offW_len (w : List End) (ls : List Link) : (offW w ls).length ≤ ls.length := List.length_filter_le ..
end Go.Cat.G3
