/- A text of the proof of the seat's laws: a step logic over the machine, or pure functions that the Go functions come to. No condition. -/
import Derived.Test.YtmmpieknnnlnhaaP5
namespace Go.Cat.G3
open Go Go.Cat Go.Proofs
set_option linter.unusedVariables false
set_option linter.unusedSimpArgs false
/-! ### A number brought to be in a range -/
theorem bring_some (k : Nat) (i n : Int) (h0 : 0 < n) (h1 : n < 4611686018427387904) : ∃ r, catenaryref00_Bring k i n = some r ∧ 0 ≤ r ∧ r < n := by
  unfold catenaryref00_Bring grem
  rw [if_neg (by omega)]
  simp only [Option.bind_some]
  have hlt := Int.tmod_lt_of_pos i h0
  have hgt := Int.lt_tmod_of_pos i h0
  by_cases h : i.tmod n < 0
  · rw [if_pos (by simpa using h)]
    exact ⟨_, rfl, by rw [w64_id (by omega) (by omega)]; omega, by rw [w64_id (by omega) (by omega)]; omega⟩
  · rw [if_neg (by simpa using h)]
    exact ⟨_, rfl, by omega, hlt⟩
/-! ### A graph that may be, out of any -/
structure Good (g : Graph) : Prop where
  ok : okG g = true
  few : g.Links.length ≤ 30
theorem okG_nil {n : Int} (h0 : 1 ≤ n) (h1 : n ≤ 6) : okG ⟨n, []⟩ = true := by
  unfold okG; simp [wf]; omega
theorem Good.sw {g : Graph} (h : Good g) : 1 ≤ g.Switches ∧ g.Switches ≤ 6 ∧ g.Links.length ≤ 12 := by
  have := h.ok; unfold okG at this; simp at this; omega
theorem Good.sides {g : Graph} (h : Good g) : sidesP g = some (entries 0 g.Links) := by rw [sidesP_eq, if_pos h.ok]
theorem Good.sok {g : Graph} (h : Good g) : SidesOk g.Switches (entries 0 g.Links) := (sidesP_ok h.sides).1
/-! ### What stands in a list -/
theorem in_l0 (k : Nat) (l : List Int) (x : Int) (hb : l.length < 4611686018427387904) : ∀ (q i : Nat), i ≤ l.length → l.length - i < q → catenarylaw12_in_l0 k l x q (i : Int) = some (if x ∈ l.drop i then .ret true else .out ()) := by
  intro q
  induction q with
  | zero => intro i _ h; omega
  | succ q ih =>
    intro i hi hq
    rw [catenarylaw12_in_l0]
    by_cases hlt : i < l.length
    · have hd : l.drop i = l[i] :: l.drop (i + 1) := List.drop_eq_getElem_cons hlt
      rw [if_pos (by simp; omega), rd_at hlt, hd]
      simp only [Option.bind_some, List.mem_cons]
      by_cases he : x = l[i]
      · rw [if_pos (by simp [he]), if_pos (.inl he)]
      · rw [if_neg (by simp; exact fun h => he h.symm), w64_nat (by omega), ih (i + 1) (by omega) (by omega)]
        simp [he]
    · rw [if_neg (by simp; omega)]
      have : l.drop i = [] := List.drop_eq_nil_of_le (by omega)
      simp [this]
theorem in_eq (k : Nat) (l : List Int) (x : Int) (hb : l.length < 4611686018427387904) (hk : l.length < k) : catenarylaw12_in k l x = some (decide (x ∈ l)) := by
  unfold catenarylaw12_in
  have := in_l0 k l x hb k 0 (by omega) (by omega)
  rw [List.drop_zero] at this
  have h' : catenarylaw12_in_l0 k l x k 0 = _ := this
  rw [h']
  by_cases h : x ∈ l <;> simp [h, LX.go]
/-! ### The sides of a graph that may be -/
theorem mem_entries {e : End} {v : Graph_side} : ∀ {ls : List Link} {j : Nat}, (e, v) ∈ entries j ls ↔ ∃ n, ∃ h : n < ls.length, v.link = ((j + n : Nat) : Int) ∧ ((ls[n].A = e ∧ v.other = ls[n].B) ∨ (ls[n].B = e ∧ v.other = ls[n].A)) := by
  intro ls
  induction ls with
  | nil => intro j; simp [entries]
  | cons l ls ih =>
    intro j
    simp only [entries, List.mem_cons, ih, Prod.mk.injEq]
    constructor
    · rintro (⟨rfl, rfl⟩ | ⟨rfl, rfl⟩ | ⟨n, h, h1, h2⟩)
      · exact ⟨0, by simp, by simp, .inl ⟨rfl, rfl⟩⟩
      · exact ⟨0, by simp, by simp, .inr ⟨rfl, rfl⟩⟩
      · exact ⟨n + 1, by simp; omega, by rw [h1]; congr 1; omega, by simpa using h2⟩
    · rintro ⟨n, h, h1, h2⟩
      cases n with
      | zero =>
        simp only [List.getElem_cons_zero, Nat.add_zero] at h1 h2
        obtain ⟨o, li⟩ := v
        simp only at h1 h2
        subst h1
        rcases h2 with ⟨rfl, rfl⟩ | ⟨rfl, rfl⟩
        · exact .inl ⟨rfl, rfl⟩
        · exact .inr (.inl ⟨rfl, rfl⟩)
      | succ n =>
        refine .inr (.inr ⟨n, by simp at h; omega, by rw [h1]; congr 1; omega, by simpa using h2⟩)
theorem mget_mem {m : Sides} (hn : (m.map (·.1)).Nodup) {e : End} {v : Graph_side} : mget? m e = some v ↔ (e, v) ∈ m := by
  induction m with
  | nil => simp [mget?]
  | cons p m ih =>
    obtain ⟨p1, p2⟩ := p
    simp only [List.map_cons, List.nodup_cons] at hn
    simp only [mget?, List.mem_cons, Prod.mk.injEq]
    by_cases h : e = p1
    · subst h
      rw [if_pos rfl]
      constructor
      · intro h; cases h; exact .inl ⟨rfl, rfl⟩
      · rintro (⟨_, rfl⟩ | h)
        · rfl
        · exact absurd (List.mem_map.2 ⟨_, h, rfl⟩) hn.1
    · rw [if_neg h, ih hn.2]; simp [h]
theorem side_back {ls : List Link} {e : End} {v : Graph_side} (h : (e, v) ∈ entries 0 ls) : (v.other, (⟨e, v.link⟩ : Graph_side)) ∈ entries 0 ls := by
  rw [mem_entries] at h ⊢
  obtain ⟨n, h, h1, h2⟩ := h
  refine ⟨n, h, h1, ?_⟩
  rcases h2 with ⟨h2, h3⟩ | ⟨h2, h3⟩
  · exact .inr ⟨h3.symm, h2.symm⟩
  · exact .inl ⟨h3.symm, h2.symm⟩
theorem peerOf_get {g : Graph} (h : Good g) (e : End) : peerOf g e = match mget? (entries 0 g.Links) e with | some v => (v.other, v.link, true) | none => (⟨0, 0⟩, 0, false) := by
  unfold peerOf
  rw [if_pos h.ok, mget_entries]
  cases findE 0 g.Links e <;> rfl
/-! ### Where one comes to -/
theorem reach_mem {m : Sides} {up : List Bool} {s x : Int} : x ∈ reachOf m up s ↔ Come m up s x := by
  obtain ⟨l, h1, h2⟩ := reachOf_spec m up s
  rw [h2, (isort_perm l).mem_iff, h1.done x]
theorem reach_sorted (m : Sides) (up : List Bool) (s : Int) : (reachOf m up s).Pairwise (· < ·) := by
  obtain ⟨l, h1, h2⟩ := reachOf_spec m up s
  rw [h2]
  exact strict_of (isort_sorted l) ((isort_perm l).nodup_iff.2 h1.nd)
theorem reach_len (m : Sides) (up : List Bool) (s : Int) : (reachOf m up s).length ≤ m.length + 1 := by
  obtain ⟨l, h1, h2⟩ := reachOf_spec m up s
  rw [h2, (isort_perm l).length_eq]
  exact h1.len
theorem hop_back {ls : List Link} {up : List Bool} {a b : Int} (h : Hop (entries 0 ls) up a b) : Hop (entries 0 ls) up b a := by
  obtain ⟨p, hp, hs, rfl⟩ := h
  refine ⟨_, side_back hp, ?_, ?_⟩
  · simp only [sideOn, Bool.and_eq_true] at hs ⊢
    exact ⟨by simp, hs.2⟩
  · simp only [sideOn, Bool.and_eq_true, beq_iff_eq] at hs
    exact hs.1.symm
theorem come_trans {m : Sides} {up : List Bool} {a b c : Int} (h : Come m up a b) (k : Come m up b c) : Come m up a c := by
  induction k with
  | here => exact h
  | step _ hh ih => exact .step ih hh
theorem come_back {ls : List Link} {up : List Bool} {a b : Int} (h : Come (entries 0 ls) up a b) : Come (entries 0 ls) up b a := by
  induction h with
  | here => exact .here
  | step _ hh ih => exact come_trans (.step .here (hop_back hh)) ih
theorem come_in {g : Graph} (h : Good g) {up : List Bool} {a b : Int} (ha : 1 ≤ a ∧ a ≤ g.Switches) (hc : Come (entries 0 g.Links) up a b) : 1 ≤ b ∧ b ≤ g.Switches := by
  cases hc with
  | here => exact ha
  | step _ hh =>
    obtain ⟨p, hp, _, rfl⟩ := hh
    have := h.sok.ok _ (side_back hp)
    simp only at this; omega
theorem reach_same {ls : List Link} {up : List Bool} {s t : Int} (h : t ∈ reachOf (entries 0 ls) up s) : reachOf (entries 0 ls) up t = reachOf (entries 0 ls) up s := by
  have ht := reach_mem.1 h
  exact sorted_ext (reach_sorted ..) (reach_sorted ..) fun x => by
    rw [reach_mem, reach_mem]
    exact ⟨fun h => come_trans ht h, fun h => come_trans (come_back ht) h⟩
theorem reach_eq (k : Nat) {g : Graph} (h : Good g) (up : List Bool) {s : Int} (hs : 1 ≤ s ∧ s ≤ g.Switches) : graph_Reach k g up s = some (reachOf (entries 0 g.Links) up s) := by
  unfold graph_Reach
  rw [if_pos (by have := h.few; omega), h.sides, if_neg (by simp; omega)]
  rfl
theorem entries_len : ∀ (ls : List Link) (i : Nat), (entries i ls).length = 2 * ls.length := by
  intro ls
  induction ls with
  | nil => intro i; rfl
  | cons l ls ih => intro i; simp only [entries, List.length_cons, ih]; omega
theorem reach_short {g : Graph} (h : Good g) (up : List Bool) (s : Int) : (reachOf (entries 0 g.Links) up s).length ≤ 61 := by
  have := reach_len (entries 0 g.Links) up s
  rw [entries_len] at this
  have := h.few; omega
end Go.Cat.G3
