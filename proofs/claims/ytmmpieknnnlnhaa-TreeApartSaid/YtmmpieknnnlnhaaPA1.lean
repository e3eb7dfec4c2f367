/- A text of the proof of the seat's laws: a step logic over the machine, or pure functions that the Go functions come to. No condition. -/
import Derived.Test.YtmmpieknnnlnhaaPS3
import Derived.Test.YtmmpieknnnlnhaaPF3a
import Derived.Test.YtmmpieknnnlnhaaT7
namespace Go.Cat.G3
open Go Go.Cat Go.Proofs
set_option linter.unusedVariables false
set_option linter.unusedSimpArgs false
/-! ### Fewer links -/
theorem wf_sub {n : Int} {K ls : List Link} (h : K.Sublist ls) : ∀ {seen seen' : List Link}, (∀ l ∈ seen', l ∈ seen) → wf n seen ls = true → wf n seen' K = true := by
  induction h with
  | slnil => intro _ _ _ _; rfl
  | @cons K ls l _ ih =>
    intro seen seen' hs hw
    rw [wf_cons, Bool.and_eq_true] at hw
    exact ih (fun x hx => List.mem_append_left _ (hs x hx)) hw.2
  | @cons_cons K ls l _ ih =>
    intro seen seen' hs hw
    rw [wf_cons, Bool.and_eq_true] at hw ⊢
    refine ⟨?_, ih (fun x hx => ?_) hw.2⟩
    · have h1 := hw.1
      unfold okLink at h1 ⊢
      simp only [Bool.and_eq_true, Bool.not_eq_true', List.any_eq_false] at h1 ⊢
      exact ⟨h1.1, h1.2.1, h1.2.2.1, fun x hx => h1.2.2.2 x (hs x hx)⟩
    · rcases List.mem_append.1 hx with hx | hx
      · exact List.mem_append_left _ (hs x hx)
      · exact List.mem_append_right _ hx
theorem okG_sub {K ls : List Link} (h : K.Sublist ls) (hok : okG (gr ls) = true) : okG (gr K) = true := by
  have hl := h.length_le
  unfold okG at hok ⊢
  simp only [Bool.and_eq_true, Bool.not_eq_true', Bool.or_eq_false_iff, decide_eq_false_iff_not] at hok ⊢
  exact ⟨⟨hok.1.1, hok.1.2.1, by have := hok.1.2.2; omega⟩, wf_sub h (fun _ h => h) hok.2⟩
/-! ### What a link joins -/
def Joins (ls : List Link) (e o : End) : Prop := ∃ l ∈ ls, (l.A = e ∧ l.B = o) ∨ (l.B = e ∧ l.A = o)
theorem joins_entry {ls : List Link} {e o : End} : Joins ls e o ↔ ∃ k, (e, (⟨o, k⟩ : Graph_side)) ∈ entries 0 ls := by
  constructor
  · rintro ⟨l, hl, h⟩
    obtain ⟨n, hn, rfl⟩ := List.getElem_of_mem hl
    refine ⟨((0 + n : Nat) : Int), mem_entries.2 ⟨n, hn, rfl, ?_⟩⟩
    rcases h with ⟨h1, h2⟩ | ⟨h1, h2⟩
    · exact .inl ⟨h1, h2.symm⟩
    · exact .inr ⟨h1, h2.symm⟩
  · rintro ⟨k, h⟩
    obtain ⟨n, hn, _, h⟩ := mem_entries.1 h
    refine ⟨ls[n], List.getElem_mem hn, ?_⟩
    rcases h with ⟨h1, h2⟩ | ⟨h1, h2⟩
    · exact .inl ⟨h1, h2.symm⟩
    · exact .inr ⟨h1, h2.symm⟩
theorem joins_find {ls : List Link} (hok : okG (gr ls) = true) {e o : End} : Joins ls e o ↔ ∃ n, findE 0 ls e = some (o, n) := by
  have hnd := (ok_good hok).sok.nd
  rw [joins_entry]
  constructor
  · rintro ⟨k, h⟩
    have h1 := (mget_mem hnd).2 h
    rw [mget_entries] at h1
    cases hf : findE 0 ls e with
    | none => rw [show (gr ls).Links = ls from rfl, hf] at h1; cases h1
    | some x => rw [show (gr ls).Links = ls from rfl, hf] at h1; cases h1; exact ⟨x.2, rfl⟩
  · rintro ⟨n, h⟩
    exact ⟨n, (mget_mem hnd).1 (by rw [mget_entries, show (gr ls).Links = ls from rfl, h]; rfl)⟩
theorem joins_fun {ls : List Link} (hok : okG (gr ls) = true) {e o o' : End} (h : Joins ls e o) (h' : Joins ls e o') : o = o' := by
  obtain ⟨n, hn⟩ := (joins_find hok).1 h
  obtain ⟨n', hn'⟩ := (joins_find hok).1 h'
  rw [hn] at hn'; cases hn'; rfl
theorem Joins.symm {ls : List Link} {e o : End} (h : Joins ls e o) : Joins ls o e := by
  obtain ⟨l, hl, h⟩ := h
  rcases h with ⟨h1, h2⟩ | ⟨h1, h2⟩
  · exact ⟨l, hl, .inr ⟨h2, h1⟩⟩
  · exact ⟨l, hl, .inl ⟨h2, h1⟩⟩
theorem Joins.sub {ls K : List Link} (hs : ∀ l ∈ K, l ∈ ls) {e o : End} (h : Joins K e o) : Joins ls e o := by
  obtain ⟨l, hl, h⟩ := h
  exact ⟨l, hs l hl, h⟩
theorem walk_joins {ls : List Link} {n : Nat} {e o : End} (hw : Walk (entries 0 ls) n e.Switch) (h : Joins ls e o) : Walk (entries 0 ls) (n + 1) o.Switch := by
  obtain ⟨k, h⟩ := joins_entry.1 h
  exact .step hw h
theorem walk_sub {ls K : List Link} (hs : ∀ l ∈ K, l ∈ ls) {n : Nat} {s : Int} (h : Walk (entries 0 K) n s) : Walk (entries 0 ls) n s := by
  induction h with
  | root => exact .root
  | @step n e v _ hv ih => exact walk_joins ih ((joins_entry.2 ⟨v.link, hv⟩).sub hs)
/-- Ends of a way are joined to the next switch. -/
theorem way_joins {ls : List Link} (hok : okG (gr ls) = true) {s : Int} {e : End} (hm : mget? (found ls) s = some e) (hs : s ≠ 1) : ∃ o, Joins ls e o ∧ o.Switch = s := by
  have hf := ok_few hok
  obtain ⟨d, hB⟩ := found_binv hok
  obtain ⟨o, n, h1, h2⟩ := way_link (found_inv hok (by omega)) hB hm hs
  exact ⟨o, (joins_find hok).2 ⟨n, h1⟩, h2⟩
theorem way_mem {ls : List Link} (hok : okG (gr ls) = true) {s : Int} {w : List End} (hw : Way (found ls) s w) : ∀ e ∈ w, ∃ o, Joins ls e o := by
  induction hw with
  | root => intro e h; cases h
  | @step s e w hm hs _ ih =>
    intro x hx
    rcases List.mem_cons.1 hx with rfl | hx
    · obtain ⟨o, h, _⟩ := way_joins hok hm hs; exact ⟨o, h⟩
    · exact ih x hx
/-- A way whose links are kept is a way still. -/
theorem way_kept {ls K : List Link} (hok : okG (gr ls) = true) {s : Int} {w : List End} (hw : Way (found ls) s w) (hk : ∀ e ∈ w, ∀ o, Joins ls e o → Joins K e o) : Walk (entries 0 K) w.length s := by
  induction hw with
  | root => exact .root
  | @step s e w hm hs hw ih =>
    obtain ⟨o, h, rfl⟩ := way_joins hok hm hs
    exact walk_joins (ih fun x hx => hk x (List.mem_cons_of_mem _ hx)) (hk e (by simp) o h)
/-! ### The second way -/
theorem off_sub (w : List End) (ls : List Link) : (offW w ls).Sublist ls := List.filter_sublist ..
theorem off_mem {w : List End} {ls : List Link} {l : Link} : l ∈ offW w ls ↔ l ∈ ls ∧ l.A ∉ w ∧ l.B ∉ w := by
  unfold offW onW
  simp
theorem off_clear {ls : List Link} (hok : okG (gr ls) = true) {w : List End} {e2 o2 : End} (h : Joins (offW w ls) e2 o2) {e1 : End} (h1 : e1 ∈ w) : e1 ≠ e2 ∧ ∀ o, Joins ls e1 o → o ≠ e2 := by
  obtain ⟨l, hl, hl2⟩ := h
  obtain ⟨hm, ha, hb⟩ := off_mem.1 hl
  constructor
  · rintro rfl
    rcases hl2 with ⟨rfl, _⟩ | ⟨rfl, _⟩
    · exact ha h1
    · exact hb h1
  · rintro o ho rfl
    have := joins_fun hok ho.symm ⟨l, hm, hl2⟩
    subst this
    rcases hl2 with ⟨_, rfl⟩ | ⟨_, rfl⟩
    · exact hb h1
    · exact ha h1
theorem second_is {ls : List Link} (hls : ls.length ≤ 30) {s : Int} {w : List End} (hw : w.length ≤ 6) (h : tree_First 1000 ls s = some (w, true)) : tree_Second 1000 ls s = tree_First 1000 (offW w ls) s := by
  unfold tree_Second
  rw [h]
  simp only [bind_u]
  rw [if_neg (by simp)]
  unfold slices_Clone___api_Link_api_Link_
  rw [app_u (by simp; omega)]
  simp only [bind_u]
  rw [delF_eq hw hls]
  simp only [bind_u]
  cases tree_First 1000 (offW w ls) s <;> rfl
theorem second_none {ls : List Link} {s : Int} (h : tree_First 1000 ls s = some ([], false)) : tree_Second 1000 ls s = some ([], false) := by
  unfold tree_Second
  rw [h]
  simp only [bind_u]
  rw [if_pos (by simp)]
theorem first_ok {ls : List Link} (hok : okG (gr ls) = true) {s : Int} {n : Nat} (h : Walk (entries 0 ls) n s) : ∃ w, tree_First 1000 ls s = some (w, true) := by
  have hf := ok_few hok
  rcases first_is hok (by omega) s with ⟨_, w, _, h2, _⟩ | ⟨_, _, h2⟩
  · exact ⟨_, h2⟩
  · exact absurd h (h2 n)
end Go.Cat.G3
