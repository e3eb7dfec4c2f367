/- A text of the proof of the seat's laws: a step logic over the machine, or pure functions that the Go functions come to. No condition. -/
import Derived.Test.YtmmpieknnnlnhaaPF1
namespace Go.Cat.G3
open Go Go.Cat Go.Proofs
set_option linter.unusedVariables false
set_option linter.unusedSimpArgs false
/-! ### The reference's tree -/
theorem putAll_len (m : Founds) : (putAll m).length = 7 := by simp [putAll]
theorem putAll_at (m : Founds) {s : Int} (hs : 0 ≤ s ∧ s < 7) : rd (putAll m) s = some (mgetD m s ⟨0, 0⟩) := by
  unfold rd putAll
  rw [if_pos hs.1]
  have h7 : s.toNat < 7 := by omega
  simp [h7]
  rw [Int.max_eq_left hs.1]
theorem mget_snoc (m : Founds) (k : Int) (v : End) (j : Int) (h : mhas m k = false) : mget? (m ++ [(k, v)]) j = if j = k then some v else mget? m j := by
  induction m with
  | nil => simp [mget?]
  | cons p m ih =>
    have hp : k ≠ p.1 := by
      rintro rfl
      simp [mhas, mget?] at h
    have hm : mhas m k = false := by
      unfold mhas at h ⊢
      simp only [mget?] at h
      rwa [if_neg hp] at h
    simp only [List.cons_append, mget?]
    rw [ih hm]
    by_cases hj : j = p.1
    · rw [if_pos hj, if_pos hj, if_neg (by rw [hj]; exact fun h => hp h.symm)]
    · rw [if_neg hj, if_neg hj]
theorem putAll_set (m : Founds) {s : Int} (v : End) (hs : 0 ≤ s ∧ s < 7) (h : mhas m s = false) : (putAll m).set s.toNat v = putAll (m ++ [(s, v)]) := by
  apply List.ext_getElem?
  intro i
  by_cases hi : i < 7
  · by_cases he : s.toNat = i
    · subst he
      rw [List.getElem?_set_self (by rw [putAll_len]; exact hi)]
      simp only [putAll, List.getElem?_map]
      rw [List.getElem?_range hi]
      simp only [Option.map_some, mgetD]
      rw [mget_snoc m s v _ h, if_pos (by omega)]; rfl
    · rw [List.getElem?_set_ne he]
      simp only [putAll, List.getElem?_map]
      rw [List.getElem?_range hi]
      simp only [Option.map_some, mgetD]
      rw [mget_snoc m s v _ h, if_neg (by omega)]
  · rw [List.getElem?_eq_none (by rw [List.length_set, putAll_len]; omega), List.getElem?_eq_none (by rw [putAll_len]; omega)]
theorem mget_in {m : Founds} {k : Int} {v : End} (h : mget? m k = some v) : (k, v) ∈ m := by
  induction m with
  | nil => cases h
  | cons p m ih =>
    simp only [mget?] at h
    split at h
    · rename_i hk; cases h; subst hk; simp
    · exact List.mem_cons_of_mem _ (ih h)
theorem TInv.has1 {m : Founds} (h : TInv m) : mhas m 1 = true := by
  rw [founds_has]
  have := List.mem_of_getElem? h.one
  exact List.mem_map.2 ⟨_, this, rfl⟩
theorem TInv.zero {m : Founds} (h : TInv m) {s : Int} (h1 : s ≠ 1) : ((mgetD m s ⟨0, 0⟩).Port == 0) = !(mhas m s) := by
  unfold mgetD mhas
  cases hg : mget? m s with
  | none => rfl
  | some v =>
    have := h.port _ (mget_in hg) h1
    simp only [Option.getD_some, Option.isSome_some, Bool.not_true]
    simp only [beq_eq_false_iff_ne, ne_eq]
    simp only at this
    omega
theorem ref_tree_l1 {ls : List Link} (hok : okG (gr ls) = true) (hls : ls.length ≤ 30) (s31 : List End × List Int × Int) (i : Nat) (s : Int) (e : End) (hi31 : s31.2.2 = (i : Int)) :
    ∀ (q p : Nat) (m : Founds), p ≤ 4 → 4 - p < q → TInv m → m[i]? = some (s, e) →
      catenaryref20_Tree_l1 1000 (gr ls) s31 q (putAll m, m.map (·.1), ((p + 1 : Nat) : Int)) = some (putAll (tscan ls s m (([1, 2, 3, 4] : List Int).drop p)), (tscan ls s m (([1, 2, 3, 4] : List Int).drop p)).map (·.1)) := by
  have hE := ends_ok hok
  intro q
  induction q with
  | zero => intro p m _ h; omega
  | succ q ih =>
    intro p m hp hq hm hi
    have hlt0 : i < m.length := (List.getElem?_eq_some_iff.1 hi).1
    have hfew := hm.few
    rw [catenaryref20_Tree_l1]
    by_cases hlt : p < 4
    · have hd : ([1, 2, 3, 4] : List Int).drop p = ((p + 1 : Nat) : Int) :: ([1, 2, 3, 4] : List Int).drop (p + 1) := by
        have : p = 0 ∨ p = 1 ∨ p = 2 ∨ p = 3 := by omega
        rcases this with h | h | h | h <;> subst h <;> rfl
      have hrow : rd (m.map (·.1)) (i : Int) = some s := by
        rw [rd_at (by simpa using hlt0)]
        have := (List.getElem?_eq_some_iff.1 hi).2
        simp [this]
      rw [if_pos (by simp; omega), hi31, hrow]
      simp only [bind_u]
      rw [ref_peer _ _ _ (by simp only; omega) (by simp only; omega)]
      simp only [bind_u]
      rw [w64_nat (by omega)]
      unfold tscan nbs
      rw [hd, List.filterMap_cons]
      cases hf : findE 0 ls ⟨s, ((p + 1 : Nat) : Int)⟩ with
      | none =>
        have hpo : peerOf (gr ls) ⟨s, ((p + 1 : Nat) : Int)⟩ = (⟨0, 0⟩, 0, false) := by unfold peerOf; rw [if_pos hok, hf]
        rw [hpo, if_neg (by decide)]
        simp only [bind_u]
        rw [if_neg (by decide)]
        simp only [Option.map_none]
        exact ih (p + 1) m (by omega) (by omega) hm hi
      | some x =>
        have hpo : peerOf (gr ls) ⟨s, ((p + 1 : Nat) : Int)⟩ = (x.1, x.2, true) := by unfold peerOf; rw [if_pos hok, hf]
        have h1 := hE _ _ hf
        simp only at h1
        rw [hpo, if_pos rfl]
        simp only [Option.map_some, List.foldl_cons]
        by_cases hone : x.1.Switch = 1
        · rw [if_neg (by simp [hone])]
          simp only [bind_u]
          rw [if_neg (by simp)]
          have : tstep s m (((p + 1 : Nat) : Int), x.1) = m := by unfold tstep; rw [if_pos (by simp only [hone]; exact hm.has1)]
          rw [this]
          exact ih (p + 1) m (by omega) (by omega) hm hi
        · rw [if_pos (by simpa using hone), putAll_at m (by omega)]
          simp only [bind_u]
          rw [hm.zero hone]
          cases hh : mhas m x.1.Switch with
          | true =>
            rw [if_neg (by simp)]
            have : tstep s m (((p + 1 : Nat) : Int), x.1) = m := by unfold tstep; rw [if_pos hh]
            rw [this]
            exact ih (p + 1) m (by omega) (by omega) hm hi
          | false =>
            have hst : tstep s m (((p + 1 : Nat) : Int), x.1) = m ++ [(x.1.Switch, ⟨s, ((p + 1 : Nat) : Int)⟩)] := by unfold tstep; rw [if_neg (by simp [hh])]
            have hm2 := hm.add hi (p := ((p + 1 : Nat) : Int)) h1.2.2 ⟨h1.1, h1.2.1⟩ hh
            rw [if_pos (by simp), putAll_at m (by omega)]
            simp only [bind_u]
            rw [app_u (by simp; omega)]
            simp only [bind_u]
            rw [putAll_set m _ (by omega) hh]
            have hrow2 : m.map (·.1) ++ [x.1.Switch] = (m ++ [(x.1.Switch, (⟨s, ((p + 1 : Nat) : Int)⟩ : End))]).map (·.1) := by simp
            rw [hrow2, hst]
            exact ih (p + 1) _ (by omega) (by omega) hm2 (by rw [List.getElem?_append_left hlt0]; exact hi)
    · rw [if_neg (by simp; omega)]
      have : p = 4 := by omega
      subst this
      rfl
theorem ref_tree_l0 {ls : List Link} (hok : okG (gr ls) = true) (hls : ls.length ≤ 30) : ∀ (f q i : Nat) (m : Founds), i ≤ 6 → 6 - i < f → 6 - i < q → TInv m → i ≤ m.length →
    catenaryref20_Tree_l0 1000 (gr ls) q (putAll m, m.map (·.1), (i : Int)) = some (putAll (tb ls f i m)) := by
  have hE := ends_ok hok
  intro f
  induction f with
  | zero => intro q i m _ h; omega
  | succ f ih =>
    intro q i m hi6 hf hq hm hil
    obtain ⟨q, rfl⟩ : ∃ q', q = q' + 1 := ⟨q - 1, by omega⟩
    have hfew := hm.few
    rw [catenaryref20_Tree_l0, tb]
    by_cases hlt : i < m.length
    · have hmi : m[i]? = some (m[i].1, m[i].2) := List.getElem?_eq_getElem hlt
      obtain ⟨ht, _, hpre⟩ := fold_tinv hE (nbs ls m[i].1 [1, 2, 3, 4]) m (fun y hy => nbs_mem hy) hm hmi
      have hlen := hpre.length_le
      rw [if_pos (by simp; omega), hmi]
      have h1 := ref_tree_l1 hok hls (putAll m, m.map (·.1), (i : Int)) i m[i].1 m[i].2 rfl 1000 0 m (by omega) (by omega) hm hmi
      have h1' : catenaryref20_Tree_l1 1000 (gr ls) (putAll m, m.map (·.1), (i : Int)) 1000 (putAll m, m.map (·.1), 1) = _ := h1
      rw [h1']
      simp only [bind_u]
      rw [w64_nat (by omega)]
      exact ih q (i + 1) _ (by omega) (by omega) (by omega) ht (by simp only [List.drop_zero]; have : m.length ≤ (tscan ls m[i].1 m [1, 2, 3, 4]).length := hlen; omega)
    · rw [if_neg (by simp; omega)]
      have : m[i]? = none := List.getElem?_eq_none (by omega)
      rw [this]
theorem ref_Tree_eq (ls : List Link) (hls : ls.length ≤ 30) : catenaryref20_Tree 1000 ls = some (if okG (gr ls) = true then (putAll (found ls), 0) else ([], 2)) := by
  unfold catenaryref20_Tree catenaryref20_graph
  simp only [bind_u]
  rw [ref_check _ _ (by simp only; omega) (by simp only; omega)]
  simp only [bind_u]
  cases hok : okG (gr ls) with
  | false => simp
  | true =>
    rw [if_pos rfl, if_neg (by decide), if_pos rfl]
    have hm : mks 7 (⟨0, 0⟩ : End) = some (List.replicate 7 ⟨0, 0⟩) := by unfold mks; rw [if_pos (by unfold LIM; omega)]; rfl
    rw [hm]
    simp only [bind_u]
    have h := ref_tree_l0 hok hls 7 1000 0 tstart (by omega) (by omega) (by omega) tinv_start (by simp)
    have h' : catenaryref20_Tree_l0 1000 (gr ls) 1000 (List.replicate (7 : Int).toNat ⟨0, 0⟩, [1], 0) = _ := h
    rw [h']; rfl
/-! ### Ways to the root -/
inductive Way (m : Founds) : Int → List End → Prop
  | root : Way m 1 []
  | step {s : Int} {e : End} {w : List End} : mget? m s = some e → s ≠ 1 → Way m e.Switch w → Way m s (e :: w)
theorem mget_nodup {m : Founds} (hn : (m.map (·.1)).Nodup) {x : Int × End} (h : x ∈ m) : mget? m x.1 = some x.2 := by
  induction m with
  | nil => cases h
  | cons p m ih =>
    simp only [List.map_cons, List.nodup_cons] at hn
    simp only [mget?]
    rcases List.mem_cons.1 h with rfl | h
    · rw [if_pos rfl]
    · rw [if_neg (fun he => hn.1 (List.mem_map.2 ⟨x, h, he⟩)), ih hn.2 h]
theorem TInv.way {m : Founds} (h : TInv m) : ∀ (j : Nat) (x : Int × End), m[j]? = some x → ∃ w, Way m x.1 w ∧ w.length ≤ j := by
  intro j
  induction j using Nat.strongRecOn with
  | ind j ih =>
    intro x hx
    by_cases hj : j = 0
    · subst hj
      rw [h.one] at hx
      cases hx
      exact ⟨[], .root, by simp⟩
    · obtain ⟨j', h1, y, h2, h3⟩ := h.par j x (by omega) hx
      obtain ⟨w, hw, hl⟩ := ih j' h1 y h2
      have hx1 : x.1 ≠ 1 := by
        intro he
        have h0 := h.one
        have hl0 := (List.getElem?_eq_some_iff.1 h0)
        have hlj := (List.getElem?_eq_some_iff.1 hx)
        have e1 : (m.map (·.1))[0]'(by simpa using hl0.1) = 1 := by simp [hl0.2]
        have e2 : (m.map (·.1))[j]'(by simpa using hlj.1) = 1 := by simp [hlj.2, he]
        exact List.pairwise_iff_getElem.1 h.nd 0 j (by simpa using hl0.1) (by simpa using hlj.1) (by omega) (e1.trans e2.symm)
      refine ⟨x.2 :: w, .step (mget_nodup h.nd (List.mem_of_getElem? hx)) hx1 (h3 ▸ hw), by simp; omega⟩
theorem TInv.has_way {m : Founds} (h : TInv m) {s : Int} (hs : mhas m s = true) : ∃ w, Way m s w ∧ w.length ≤ 6 := by
  rw [founds_has] at hs
  obtain ⟨x, hx, rfl⟩ := List.mem_map.1 hs
  obtain ⟨j, hj⟩ := List.getElem?_of_mem hx
  have := (List.getElem?_eq_some_iff.1 hj).1
  have hf := h.few
  obtain ⟨w, hw, hl⟩ := h.way j x hj
  exact ⟨w, hw, by omega⟩
theorem first_way {m : Founds} (h1 : mhas m 1 = true) {y : Bool} {s : Int} {w : List End} (hw : Way m s w) : ∀ (q : Nat) (acc : List End), w.length < q → acc.length + w.length < 100 →
    tree_First_l0 1000 (some m, y) q (acc, (mgetD m s ⟨0, 0⟩).Switch, (mgetD m s ⟨0, 0⟩).Port, (mhas m s && s != 1)) = some (acc ++ w) := by
  induction hw with
  | root =>
    intro q acc hq _
    obtain ⟨q, rfl⟩ : ∃ q', q = q' + 1 := ⟨q - 1, by simp at hq; omega⟩
    rw [tree_First_l0, if_neg (by simp)]; simp
  | @step s e w hm hs hw ih =>
    intro q acc hq ha
    simp at hq ha
    obtain ⟨q, rfl⟩ : ∃ q', q = q' + 1 := ⟨q - 1, by omega⟩
    have hh : mhas m s = true := by unfold mhas; rw [hm]; rfl
    have hg : mgetD m s ⟨0, 0⟩ = e := by unfold mgetD; rw [hm]; rfl
    rw [tree_First_l0, hg, if_pos (by simp [hh, hs]), app_u (by simp; omega)]
    simp only [bind_u]
    have hp : tree_found__parent 1000 (some m) e.Switch = some (mgetD m e.Switch ⟨0, 0⟩, (mhas m e.Switch && e.Switch != 1)) := by
      unfold tree_found__parent
      simp only [Option.getD_some]
      cases mhas m e.Switch <;> simp
    rw [hp]
    simp only [bind_u]
    have hz := ih q (acc ++ [⟨e.Switch, e.Port⟩]) (by omega) (by simp; omega)
    rw [List.append_assoc] at hz
    exact hz
theorem ref_way {m : Founds} (h : TInv m) {s : Int} {w : List End} (hw : Way m s w) : ∀ (q : Nat) (acc : List End), w.length < q → acc.length + w.length < 100 →
    catenaryref20_First_l0 1000 q (putAll m, acc, s) = some (.out (w.reverse ++ acc)) := by
  induction hw with
  | root =>
    intro q acc hq _
    obtain ⟨q, rfl⟩ : ∃ q', q = q' + 1 := ⟨q - 1, by simp at hq; omega⟩
    rw [catenaryref20_First_l0, if_neg (by simp)]; simp
  | @step s e w hm hs hw ih =>
    intro q acc hq ha
    simp at hq ha
    obtain ⟨q, rfl⟩ : ∃ q', q = q' + 1 := ⟨q - 1, by omega⟩
    have hh : mhas m s = true := by unfold mhas; rw [hm]; rfl
    have hg : mgetD m s ⟨0, 0⟩ = e := by unfold mgetD; rw [hm]; rfl
    have hk := h.key _ (mget_in hm)
    simp only at hk
    rw [catenaryref20_First_l0, if_pos (by simpa using hs), putAll_at m (s := s) (by omega)]
    simp only [bind_u]
    rw [h.zero hs, hh, if_neg (by simp), app_u (by simp; omega), hg]
    simp only [bind_u]
    rw [ih q ([e] ++ acc) (by omega) (by simp; omega)]
    simp
theorem first_same (ls : List Link) (hls : ls.length ≤ 30) (s : Int) : ∃ r, tree_First 1000 ls s = some r ∧ catenaryref20_First 1000 ls s = some r ∧ r.1.length ≤ 6 := by
  unfold tree_First catenaryref20_First
  rw [tree_find_eq ls hls, ref_Tree_eq ls hls]
  simp only [bind_u]
  cases hok : okG (gr ls) with
  | false => exact ⟨([], false), by simp, by simp, by simp⟩
  | true =>
    have hT := found_inv hok hls
    rw [if_pos rfl, if_pos rfl]
    generalize found ls = m at hT
    simp only [Option.getD_some, Bool.not_true, Bool.false_or]
    cases hh : mhas m s with
    | false =>
      refine ⟨([], false), by simp, ?_, by simp⟩
      by_cases hb : 1 ≤ s ∧ s ≤ 6
      · have h1 : s ≠ 1 := by rintro rfl; rw [hT.has1] at hh; cases hh
        rw [if_neg (by simp; omega), catenaryref20_First_l0, if_pos (by simpa using h1), putAll_at m (s := s) (by omega)]
        simp only [bind_u]
        rw [hT.zero h1, hh, if_pos (by simp)]
        rfl
      · rw [if_pos (by simp; omega)]
    | true =>
      obtain ⟨w, hw, hl⟩ := hT.has_way hh
      refine ⟨(w.reverse, true), ?_, ?_, by simpa using hl⟩
      · rw [if_neg (by simp)]
        have hp : tree_found__parent 1000 (some m) s = some (mgetD m s ⟨0, 0⟩, (mhas m s && s != 1)) := by
          unfold tree_found__parent
          simp only [Option.getD_some]
          rw [hh]; simp
        rw [hp]
        simp only [bind_u]
        rw [first_way hT.has1 hw 1000 [] (by omega) (by simp; omega)]
        simp only [bind_u, List.nil_append]
        unfold slices_Reverse_End
        rw [if_pos (by omega)]
        rfl
      · have hk : 1 ≤ s ∧ s ≤ 6 := by
          rw [founds_has] at hh
          obtain ⟨x, hx, rfl⟩ := List.mem_map.1 hh
          exact hT.key x hx
        rw [if_neg (by simp; omega), ref_way hT hw 1000 [] (by omega) (by simp; omega)]
        simp [LX.go]
end Go.Cat.G3
