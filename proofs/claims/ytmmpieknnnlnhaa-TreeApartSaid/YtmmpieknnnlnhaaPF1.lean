/- A text of the proof of the seat's laws: a step logic over the machine, or pure functions that the Go functions come to. No condition. -/
import Derived.Test.YtmmpieknnnlnhaaT2b
namespace Go.Cat.G3
open Go Go.Cat Go.Proofs
set_option linter.unusedVariables false
set_option linter.unusedSimpArgs false
theorem bind_u {α β : Type} (a : α) (f : α → Option β) : (some a).bind f = f a := by cases h : f a <;> simp [h]
theorem app_u {α : Type} {l l' : List α} (h : l.length + l'.length < 1000000) : app l l' = some (l ++ l') := by unfold app; rw [if_pos (by unfold LIM; omega)]
/-! ### Switches found one behind another -/
abbrev gr (ls : List Link) : Graph := ⟨6, ls⟩
/-- The ends of a switch, with those on the other side. -/
def nbs (ls : List Link) (s : Int) (ps : List Int) : List (Int × End) := ps.filterMap fun p => (findE 0 ls ⟨s, p⟩).map fun x => (p, x.1)
def tstep (s : Int) (m : Founds) (x : Int × End) : Founds := if mhas m x.2.Switch = true then m else m ++ [(x.2.Switch, ⟨s, x.1⟩)]
def tscan (ls : List Link) (s : Int) (m : Founds) (ps : List Int) : Founds := (nbs ls s ps).foldl (tstep s) m
def tb (ls : List Link) : Nat → Nat → Founds → Founds
  | 0, _, m => m
  | f + 1, i, m => match m[i]? with
    | none => m
    | some x => tb ls f (i + 1) (tscan ls x.1 m [1, 2, 3, 4])
def tstart : Founds := [(1, ⟨0, 0⟩)]
def found (ls : List Link) : Founds := tb ls 7 0 tstart
/-- What the switches that are found keep. -/
structure TInv (m : Founds) : Prop where
  nd : (m.map (·.1)).Nodup
  key : ∀ x ∈ m, 1 ≤ x.1 ∧ x.1 ≤ 6
  one : m[0]? = some (1, ⟨0, 0⟩)
  port : ∀ x ∈ m, x.1 ≠ 1 → 1 ≤ x.2.Port
  par : ∀ j x, 1 ≤ j → m[j]? = some x → ∃ j', j' < j ∧ ∃ y, m[j']? = some y ∧ y.1 = x.2.Switch
theorem tinv_start : TInv tstart := by
  refine ⟨by simp [tstart], by simp [tstart], rfl, by simp [tstart], fun j x hj h => ?_⟩
  have := (List.getElem?_eq_some_iff.1 h).1
  simp [tstart] at this; omega
theorem founds_has {m : Founds} {k : Int} : mhas m k = true ↔ k ∈ m.map (·.1) := mhas_mem
theorem TInv.add {m : Founds} (h : TInv m) {s p : Int} {o : End} {i : Nat} {e : End} (hi : m[i]? = some (s, e)) (hp : 1 ≤ p) (ho : 1 ≤ o.Switch ∧ o.Switch ≤ 6) (hn : mhas m o.Switch = false) : TInv (m ++ [(o.Switch, ⟨s, p⟩)]) := by
  have hlt : i < m.length := (List.getElem?_eq_some_iff.1 hi).1
  have hnm : o.Switch ∉ m.map (·.1) := fun hm => by rw [founds_has.2 hm] at hn; cases hn
  refine ⟨?_, ?_, ?_, ?_, ?_⟩
  · rw [List.map_append, List.nodup_append]
    refine ⟨h.nd, by simp, ?_⟩
    rintro a ha b hb rfl
    simp at hb; subst hb; exact hnm ha
  · intro x hx
    rcases List.mem_append.1 hx with hx | hx
    · exact h.key x hx
    · simp at hx; subst hx; exact ho
  · rw [List.getElem?_append_left (by omega)]; exact h.one
  · intro x hx h1
    rcases List.mem_append.1 hx with hx | hx
    · exact h.port x hx h1
    · simp at hx; subst hx; exact hp
  · intro j x hj hx
    by_cases hjl : j < m.length
    · rw [List.getElem?_append_left hjl] at hx
      obtain ⟨j', h1, y, h2, h3⟩ := h.par j x hj hx
      exact ⟨j', h1, y, by rw [List.getElem?_append_left (by omega)]; exact h2, h3⟩
    · have hjl2 := (List.getElem?_eq_some_iff.1 hx).1
      simp at hjl2
      have : j = m.length := by omega
      subst this
      rw [List.getElem?_append_right (by omega)] at hx
      simp at hx; subst hx
      exact ⟨i, hlt, (s, e), by rw [List.getElem?_append_left hlt]; exact hi, rfl⟩
theorem TInv.few {m : Founds} (h : TInv m) : m.length ≤ 6 := by
  have := nodup_sub_lenG (l := m.map (·.1)) (m := ([1, 2, 3, 4, 5, 6] : List Int)) h.nd (fun x hx => by
    obtain ⟨y, hy, rfl⟩ := List.mem_map.1 hx
    have := h.key y hy
    have : y.1 = 1 ∨ y.1 = 2 ∨ y.1 = 3 ∨ y.1 = 4 ∨ y.1 = 5 ∨ y.1 = 6 := by omega
    rcases this with h | h | h | h | h | h <;> rw [h] <;> simp)
  simpa using this
theorem TInv.full {m : Founds} (h : TInv m) (hl : m.length = 6) {s : Int} (hs : 1 ≤ s ∧ s ≤ 6) : mhas m s = true := by
  rw [founds_has]
  apply Classical.byContradiction
  intro hn
  have := nodup_sub_lenG (l := s :: m.map (·.1)) (m := ([1, 2, 3, 4, 5, 6] : List Int)) (List.nodup_cons.2 ⟨hn, h.nd⟩) (fun x hx => by
    have hx' : 1 ≤ x ∧ x ≤ 6 := by
      rcases List.mem_cons.1 hx with rfl | hx
      · exact hs
      · obtain ⟨y, hy, rfl⟩ := List.mem_map.1 hx; exact h.key y hy
    have : x = 1 ∨ x = 2 ∨ x = 3 ∨ x = 4 ∨ x = 5 ∨ x = 6 := by omega
    rcases this with h | h | h | h | h | h <;> rw [h] <;> simp)
  simp [hl] at this
/-- Others on the other side are switches. -/
def Ends (ls : List Link) : Prop := ∀ e x, findE 0 ls e = some x → 1 ≤ x.1.Switch ∧ x.1.Switch ≤ 6 ∧ 1 ≤ e.Port
theorem ends_ok {ls : List Link} (h : okG (gr ls) = true) : Ends ls := by
  intro e x hx
  have hs : sidesP (gr ls) = some (entries 0 ls) := by rw [sidesP_eq, if_pos h]
  have hok := (sidesP_ok hs).1
  have hm : (e, (⟨x.1, x.2⟩ : Graph_side)) ∈ entries 0 ls := (mget_mem hok.nd).1 (by rw [mget_entries, hx]; rfl)
  have h1 := hok.ok _ hm
  have h2 := hok.ok _ (side_back hm)
  simp only [gr] at h1 h2
  omega
theorem nbs_mem {ls : List Link} {s : Int} {ps : List Int} {x : Int × End} (h : x ∈ nbs ls s ps) : ∃ i, findE 0 ls ⟨s, x.1⟩ = some (x.2, i) := by
  unfold nbs at h
  rw [List.mem_filterMap] at h
  obtain ⟨p, _, h⟩ := h
  cases hf : findE 0 ls ⟨s, p⟩ with
  | none => rw [hf] at h; cases h
  | some y => rw [hf] at h; cases h; exact ⟨y.2, hf⟩
theorem fold_tinv {ls : List Link} (hE : Ends ls) {s : Int} {i : Nat} {e : End} : ∀ (xs : List (Int × End)) (m : Founds), (∀ x ∈ xs, ∃ i, findE 0 ls ⟨s, x.1⟩ = some (x.2, i)) → TInv m → m[i]? = some (s, e) → TInv (xs.foldl (tstep s) m) ∧ (xs.foldl (tstep s) m)[i]? = some (s, e) ∧ m <+: xs.foldl (tstep s) m := by
  intro xs
  induction xs with
  | nil => intro m _ h hi; exact ⟨h, hi, List.prefix_refl _⟩
  | cons x xs ih =>
    intro m hx h hi
    rw [List.foldl_cons]
    obtain ⟨n, hn⟩ := hx x (by simp)
    have hlt : i < m.length := (List.getElem?_eq_some_iff.1 hi).1
    have h1 := hE _ _ hn
    simp only at h1
    unfold tstep
    by_cases hh : mhas m x.2.Switch = true
    · rw [if_pos hh]
      exact ih m (fun y hy => hx y (by simp [hy])) h hi
    · rw [if_neg hh]
      obtain ⟨a, b, c⟩ := ih (m ++ [(x.2.Switch, ⟨s, x.1⟩)]) (fun y hy => hx y (by simp [hy])) (h.add hi h1.2.2 ⟨h1.1, h1.2.1⟩ (by simpa using hh)) (by rw [List.getElem?_append_left hlt]; exact hi)
      exact ⟨a, b, (List.prefix_append _ _).trans c⟩
theorem fold_full {ls : List Link} (hE : Ends ls) {s : Int} {m : Founds} (h : TInv m) (hl : m.length = 6) : ∀ (xs : List (Int × End)), (∀ x ∈ xs, ∃ i, findE 0 ls ⟨s, x.1⟩ = some (x.2, i)) → xs.foldl (tstep s) m = m := by
  intro xs
  induction xs with
  | nil => intro _; rfl
  | cons x xs ih =>
    intro hx
    obtain ⟨n, hn⟩ := hx x (by simp)
    have h1 := hE _ _ hn
    rw [List.foldl_cons]
    have : tstep s m x = m := by unfold tstep; rw [if_pos (h.full hl ⟨h1.1, h1.2.1⟩)]
    rw [this]
    exact ih fun y hy => hx y (by simp [hy])
theorem tb_full {ls : List Link} (hE : Ends ls) {m : Founds} (h : TInv m) (hl : m.length = 6) : ∀ f i, tb ls f i m = m := by
  intro f
  induction f with
  | zero => intro i; rfl
  | succ f ih =>
    intro i
    rw [tb]
    cases hi : m[i]? with
    | none => rfl
    | some x =>
      simp only []
      have : tscan ls x.1 m [1, 2, 3, 4] = m := fold_full hE h hl _ fun y hy => nbs_mem hy
      rw [this]; exact ih _
/-! ### The program's find -/
theorem ports_nbs {ls : List Link} (h : okG (gr ls) = true) (s : Int) : portsOf ((sidesP (gr ls)).getD []) s = (nbs ls s [1, 2, 3, 4]).map (·.1) := by
  have hs : sidesP (gr ls) = some (entries 0 ls) := by rw [sidesP_eq, if_pos h]
  unfold portsOf nbs
  rw [hs]
  simp only [Option.getD_some]
  generalize ([1, 2, 3, 4] : List Int) = ps
  induction ps with
  | nil => rfl
  | cons p ps ih =>
    have hm : mhas (entries 0 ls) ⟨s, p⟩ = (findE 0 ls ⟨s, p⟩).isSome := by unfold mhas; rw [mget_entries]; cases findE 0 ls ⟨s, p⟩ <;> rfl
    rw [List.filter_cons, List.filterMap_cons, hm, ih]
    cases findE 0 ls ⟨s, p⟩ <;> rfl
theorem mput_new {m : Founds} {k : Int} {v : End} (h : mhas m k = false) : mput m k v = m ++ [(k, v)] := by
  have : midx m k = none := by
    cases hm : midx m k with
    | none => rfl
    | some i => obtain ⟨v, _, hg⟩ := midx_some hm; simp [mhas, hg] at h
  exact mput_none this
theorem find_l1 {ls : List Link} (hok : okG (gr ls) = true) (hls : ls.length ≤ 30) (s26 : Founds × List Int × Int) (i : Nat) (s : Int) (e : End) (xs : List (Int × End)) (hxs : ∀ x ∈ xs, ∃ n, findE 0 ls ⟨s, x.1⟩ = some (x.2, n)) (hx4 : xs.length ≤ 4) (hi26 : s26.2.2 = (i : Int)) :
    ∀ (q n : Nat) (m : Founds), n ≤ xs.length → xs.length - n < q → TInv m → m[i]? = some (s, e) →
      tree_find_l1 1000 ls s26 (xs.map (·.1)) q (m, m.map (·.1), (n : Int)) = some (.out ((xs.drop n).foldl (tstep s) m, ((xs.drop n).foldl (tstep s) m).map (·.1)))
      ∨ (tree_find_l1 1000 ls s26 (xs.map (·.1)) q (m, m.map (·.1), (n : Int)) = some (.ret (.ret (some ((xs.drop n).foldl (tstep s) m), true))) ∧ ((xs.drop n).foldl (tstep s) m).length = 6) := by
  have hE := ends_ok hok
  intro q
  induction q with
  | zero => intro n m _ h; omega
  | succ q ih =>
    intro n m hn hq hm hi
    have hlt0 : i < m.length := (List.getElem?_eq_some_iff.1 hi).1
    have hfew := hm.few
    rw [tree_find_l1]
    by_cases hlt : n < xs.length
    · have hd : xs.drop n = xs[n] :: xs.drop (n + 1) := List.drop_eq_getElem_cons hlt
      obtain ⟨ni, hni⟩ := hxs xs[n] (List.getElem_mem hlt)
      have h1 := hE _ _ hni
      simp only at h1
      have hrow : rd (m.map (·.1)) (i : Int) = some s := by
        rw [rd_at (by simpa using hlt0)]
        have := (List.getElem?_eq_some_iff.1 hi).2
        simp [this]
      have hpo : peerOf (gr ls) ⟨s, xs[n].1⟩ = (xs[n].2, ni, true) := by unfold peerOf; rw [if_pos hok, hni]
      rw [if_pos (by simp; omega), rd_at (by simpa using hlt), hi26]
      simp only [bind_u, List.getElem_map, hrow]
      rw [peer_eq _ _ _ (by simp only; omega) (by omega) (by simp only; omega), hpo]
      simp only [bind_u]
      rw [hd, List.foldl_cons, w64_nat (by omega)]
      by_cases hh : mhas m xs[n].2.Switch = true
      · have : tstep s m xs[n] = m := by unfold tstep; rw [if_pos hh]
        rw [if_pos (by simp [hh]), this]
        exact ih (n + 1) m (by omega) (by omega) hm hi
      · have hst : tstep s m xs[n] = m ++ [(xs[n].2.Switch, ⟨s, xs[n].1⟩)] := by unfold tstep; rw [if_neg hh]
        have hh' : mhas m xs[n].2.Switch = false := by simpa using hh
        have hm2 := hm.add hi h1.2.2 ⟨h1.1, h1.2.1⟩ hh'
        rw [if_neg (by simp [hh']), hst, app_u (by simp; omega)]
        simp only [bind_u]
        rw [mput_new hh']
        have hrow2 : m.map (·.1) ++ [xs[n].2.Switch] = (m ++ [(xs[n].2.Switch, (⟨s, xs[n].1⟩ : End))]).map (·.1) := by simp
        rw [hrow2]
        by_cases h6 : (m ++ [(xs[n].2.Switch, (⟨s, xs[n].1⟩ : End))]).length = 6
        · have hff := fold_full hE hm2 h6 (s := s) (xs.drop (n + 1)) fun y hy => hxs y (List.mem_of_mem_drop hy)
          rw [if_pos (by rw [List.length_map, h6]; rfl)]
          right
          rw [hff]
          exact ⟨rfl, h6⟩
        · rw [if_neg (by rw [List.length_map]; simp only [beq_iff_eq]; omega)]
          exact ih (n + 1) _ (by omega) (by omega) hm2 (by rw [List.getElem?_append_left hlt0]; exact hi)
    · rw [if_neg (by simp; omega)]
      have : xs.drop n = [] := List.drop_eq_nil_of_le (by omega)
      rw [this]; left; rfl
theorem nbs_len (ls : List Link) (s : Int) : (nbs ls s [1, 2, 3, 4]).length ≤ 4 := List.length_filterMap_le _ _
theorem find_l0 {ls : List Link} (hok : okG (gr ls) = true) (hls : ls.length ≤ 30) : ∀ (f q i : Nat) (m : Founds), i ≤ 6 → 6 - i < f → 6 - i < q → TInv m → i ≤ m.length →
    (tree_find_l0 1000 ls q (m, m.map (·.1), (i : Int)) = some (.out (tb ls f i m)) ∨ tree_find_l0 1000 ls q (m, m.map (·.1), (i : Int)) = some (.ret (some (tb ls f i m), true))) ∧ TInv (tb ls f i m) := by
  have hE := ends_ok hok
  intro f
  induction f with
  | zero => intro q i m _ h; omega
  | succ f ih =>
    intro q i m hi6 hf hq hm hil
    obtain ⟨q, rfl⟩ : ∃ q', q = q' + 1 := ⟨q - 1, by omega⟩
    have hfew := hm.few
    rw [tree_find_l0, tb]
    by_cases hlt : i < m.length
    · have hmi : m[i]? = some (m[i].1, m[i].2) := List.getElem?_eq_getElem hlt
      rw [if_pos (by simp; omega), rd_at (by simpa using hlt), hmi]
      simp only [bind_u, List.getElem_map]
      unfold graph_Ports
      rw [if_pos (by simp only; omega)]
      simp only [bind_u]
      rw [ports_nbs hok]
      obtain ⟨ht, _, hpre⟩ := fold_tinv hE (nbs ls m[i].1 [1, 2, 3, 4]) m (fun y hy => nbs_mem hy) hm hmi
      have hlen := hpre.length_le
      rcases find_l1 hok hls (m, m.map (·.1), (i : Int)) i m[i].1 m[i].2 (nbs ls m[i].1 [1, 2, 3, 4]) (fun y hy => nbs_mem hy) (nbs_len ..) rfl 1000 0 m (by omega) (by have := nbs_len ls m[i].1; omega) hm hmi with h1 | ⟨h1, h6⟩
      · rw [List.drop_zero] at h1
        have h1' : tree_find_l1 1000 ls (m, m.map (·.1), (i : Int)) ((nbs ls m[i].1 [1, 2, 3, 4]).map (·.1)) 1000 (m, m.map (·.1), 0) = _ := h1
        rw [h1']
        simp only [bind_u, LX.go]
        rw [w64_nat (by omega)]
        exact ih q (i + 1) _ (by omega) (by omega) (by omega) ht (by omega)
      · rw [List.drop_zero] at h1 h6
        have h1' : tree_find_l1 1000 ls (m, m.map (·.1), (i : Int)) ((nbs ls m[i].1 [1, 2, 3, 4]).map (·.1)) 1000 (m, m.map (·.1), 0) = _ := h1
        rw [h1']
        simp only [bind_u, LX.go]
        have : tb ls f (i + 1) (tscan ls m[i].1 m [1, 2, 3, 4]) = tscan ls m[i].1 m [1, 2, 3, 4] := tb_full hE ht h6 _ _
        rw [this]
        exact ⟨.inr rfl, ht⟩
    · rw [if_neg (by simp; omega)]
      have : m[i]? = none := List.getElem?_eq_none (by omega)
      rw [this]
      exact ⟨.inl rfl, hm⟩
theorem found_inv {ls : List Link} (hok : okG (gr ls) = true) (hls : ls.length ≤ 30) : TInv (found ls) := (find_l0 hok hls 7 1000 0 tstart (by omega) (by omega) (by omega) tinv_start (by simp)).2
theorem tree_find_eq (ls : List Link) (hls : ls.length ≤ 30) : tree_find 1000 ls = some (if okG (gr ls) = true then (some (found ls), true) else (none, false)) := by
  unfold tree_find
  rw [check_eq _ _ (by simp only; omega) (by omega) (by simp only; omega)]
  simp only [bind_u]
  cases hok : okG (gr ls) with
  | false => simp
  | true =>
    rw [if_pos rfl, if_neg (by decide), if_pos rfl]
    have hp : mput ([] : Founds) 1 (⟨0, 0⟩ : End) = tstart := rfl
    rw [hp]
    rcases (find_l0 hok hls 7 1000 0 tstart (by omega) (by omega) (by omega) tinv_start (by simp)).1 with h | h
    · have h' : tree_find_l0 1000 ls 1000 (tstart, [1], 0) = _ := h
      rw [h']; rfl
    · have h' : tree_find_l0 1000 ls 1000 (tstart, [1], 0) = _ := h
      rw [h']; rfl
theorem found_tidy {ls : List Link} (hok : okG (gr ls) = true) (hls : ls.length ≤ 30) : tidy (found ls) = true := by
  have h := found_inv hok hls
  unfold tidy
  simp only [Bool.and_eq_true, List.all_eq_true, decide_eq_true_eq]
  exact ⟨fun x hx => by have := h.key x hx; omega, h.nd⟩
theorem tree_Tree_eq (ls : List Link) (hls : ls.length ≤ 30) : tree_Tree 1000 ls = some (if okG (gr ls) = true then (putAll (found ls), 0) else ([], 2)) := by
  unfold tree_Tree
  rw [tree_find_eq ls hls]
  simp only [bind_u]
  cases hok : okG (gr ls) with
  | false => simp
  | true => simp [found_tidy hok hls]
end Go.Cat.G3
