/- A text of the proof of the seat's laws: a step logic over the machine, or pure functions that the Go functions come to. No condition. -/
import Derived.Test.YtmmpieknnnlnhaaH8
set_option linter.unusedVariables false
set_option linter.unusedSimpArgs false
set_option linter.unnecessarySimpa false
namespace Go.Cat.G3
open Go Go.Cat Go.Proofs
set_option linter.unusedVariables false
abbrev Sides := List (End × Graph_side)
def badE (n : Int) (m : Sides) (e : End) : Bool := mhas m e || (decide (e.Switch < 1) || (decide (e.Switch > n) || (decide (e.Port < 1) || decide (e.Port > 4))))
def addLink (n : Int) (m : Sides) (i : Int) (l : Link) : Option Sides :=
  if badE n m l.A = true then none else
  if badE n (m ++ [(l.A, ⟨l.B, i⟩)]) l.B = true then none else
  if (l.A.Switch == l.B.Switch) = true then none else some (m ++ [(l.A, ⟨l.B, i⟩)] ++ [(l.B, ⟨l.A, i⟩)])
def sidesL (n : Int) : List Link → Nat → Sides → Option Sides
  | [], _, m => some m
  | l :: ls, i, m => (addLink n m i l).bind (sidesL n ls (i + 1))
theorem mhas_none {l : Sides} {q : End} (h : mhas l q = false) : midx l q = none := by
  cases hm : midx l q with
  | none => rfl
  | some i => obtain ⟨v, _, hg⟩ := midx_some hm; simp [mhas, hg] at h
theorem mput_app {m : Sides} {q : End} {v : Graph_side} (h : mhas m q = false) : mput m q v = m ++ [(q, v)] := mput_none (mhas_none h)
theorem mget_app {α β : Type} [DecidableEq α] {l : List (α × β)} {q k : α} {v : β} : mget? (l ++ [(q, v)]) k = (mget? l k).orElse fun _ => if k = q then some v else none := by
  induction l with
  | nil => simp [mget?]
  | cons p l ih => simp only [List.cons_append, mget?]; split <;> simp_all
theorem mhas_app {α β : Type} [DecidableEq α] {l : List (α × β)} {q k : α} {v : β} : mhas (l ++ [(q, v)]) k = (mhas l k || decide (k = q)) := by
  unfold mhas; rw [mget_app]; cases mget? l k <;> by_cases h : k = q <;> simp [h]
theorem badE_has {n : Int} {m : Sides} {e : End} (h : badE n m e = false) : mhas m e = false := by
  unfold badE at h; simp at h; exact h.1
theorem sides_l1 (k : Nat) (g : Graph) (s18 : Sides × Int) (l : Link) (m : Sides) (q : Nat) :
    graph_sides_l1 k g s18 l (q + 3) (m, 0) = some (if badE g.Switches m l.A = true then .ret (.ret (none, false)) else if badE g.Switches (m ++ [(l.A, ⟨l.B, s18.2⟩)]) l.B = true then .ret (.ret (none, false)) else .out (m ++ [(l.A, ⟨l.B, s18.2⟩)] ++ [(l.B, ⟨l.A, s18.2⟩)])) := by
  rw [graph_sides_l1]
  rw [if_pos (by simp)]
  have hr0 : rd ([l.A, l.B] : List End) 0 = some l.A := rfl
  rw [hr0]
  simp only [Option.bind_some]
  by_cases h1 : badE g.Switches m l.A = true
  · have h1' := h1
    unfold badE at h1'
    rw [if_pos h1', if_pos h1]
  · have h1' := h1
    unfold badE at h1'
    rw [if_neg h1', if_neg h1]
    have hh := badE_has (by simpa using h1)
    rw [if_pos (by simp)]
    simp only [Option.bind_some]
    rw [mput_app hh]
    have hw : w64 ((0 : Int) + 1) = 1 := by decide
    rw [hw, graph_sides_l1]
    rw [if_pos (by simp)]
    have hr1 : rd ([l.A, l.B] : List End) 1 = some l.B := rfl
    rw [hr1]
    simp only [Option.bind_some]
    by_cases h2 : badE g.Switches (m ++ [(l.A, ⟨l.B, s18.2⟩)]) l.B = true
    · have h2' := h2
      unfold badE at h2'
      rw [if_pos h2', if_pos h2]
    · have h2' := h2
      unfold badE at h2'
      rw [if_neg h2', if_neg h2]
      have hh2 := badE_has (by simpa using h2)
      have hne : ¬ l.B = l.A := fun e => by rw [mhas_app] at hh2; simp [e] at hh2
      rw [if_neg (by simp [hne])]
      simp only [Option.bind_some]
      rw [mput_app hh2]
      have hw2 : w64 ((1 : Int) + 1) = 2 := by decide
      rw [hw2, graph_sides_l1]
      rw [if_neg (by simp)]
theorem sides_l0 (k : Nat) (hk : 3 ≤ k) (g : Graph) (hb : g.Links.length < 4611686018427387904) : ∀ (q i : Nat) (m : Sides), i ≤ g.Links.length → g.Links.length - i < q →
    graph_sides_l0 k g q (m, (i : Int)) = some (match sidesL g.Switches (g.Links.drop i) i m with | none => .ret (none, false) | some m' => .out m') := by
  intro q
  induction q with
  | zero => intro i m _ h; omega
  | succ q ih =>
    intro i m hi hq
    rw [graph_sides_l0]
    by_cases hlt : i < g.Links.length
    · rw [if_pos (by simp; omega)]
      have hrd : rd g.Links (i : Int) = some g.Links[i] := by unfold rd; rw [if_pos (by omega)]; simp [hlt]
      have hdrop : g.Links.drop i = g.Links[i] :: g.Links.drop (i + 1) := List.drop_eq_getElem_cons hlt
      have hw : w64 ((i : Int) + 1) = ((i + 1 : Nat) : Int) := by rw [w64_id (by omega) (by omega)]; omega
      simp only [hrd, Option.bind_some, hdrop, sidesL]
      obtain ⟨k', rfl⟩ : ∃ k', k = k' + 3 := ⟨k - 3, by omega⟩
      rw [sides_l1]
      generalize g.Links[i] = l
      unfold addLink
      by_cases h1 : badE g.Switches m l.A = true
      · simp [h1, LX.go]
      · by_cases h2 : badE g.Switches (m ++ [(l.A, ⟨l.B, (i : Int)⟩)]) l.B = true
        · simp [h1, h2, LX.go]
        · simp only [h1, h2, if_false, Option.bind_some, LX.go]
          by_cases h3 : (l.A.Switch == l.B.Switch) = true
          · simp [h3]
          · simp only [h3, if_false, Option.bind_some]
            rw [hw]
            exact ih (i + 1) _ (by omega) (by omega)
    · rw [if_neg (by simp; omega)]
      have : g.Links.drop i = [] := List.drop_eq_nil_of_le (by omega)
      rw [this]; rfl
/-- The sides of all ends; none: the graph may not be. -/
def sidesP (g : Graph) : Option Sides := if (decide (g.Switches < 1) || decide (g.Switches > 6)) = true then none else sidesL g.Switches g.Links 0 []
theorem sides_eq (k : Nat) (g : Graph) (hb : g.Links.length < 4611686018427387904) (hk : 3 ≤ k) (hk2 : g.Links.length < k) : graph_sides k g = some (sidesP g, (sidesP g).isSome) := by
  unfold graph_sides sidesP
  by_cases h : (decide (g.Switches < 1) || decide (g.Switches > 6)) = true
  · rw [if_pos h, if_pos h]; rfl
  · rw [if_neg h, if_neg h]
    have := sides_l0 k hk g hb k 0 [] (by omega) (by omega)
    rw [List.drop_zero] at this
    rw [show ((([] : List (End × Graph_side))), (0 : Int)) = (([] : Sides), ((0 : Nat) : Int)) from rfl, this]
    cases sidesL g.Switches g.Links 0 [] <;> rfl
/-- What the sides of a graph that may be are. -/
structure SidesOk (n : Int) (m : Sides) : Prop where
  nd : (m.map (·.1)).Nodup
  ok : ∀ p ∈ m, 1 ≤ p.1.Switch ∧ p.1.Switch ≤ n ∧ 1 ≤ p.1.Port ∧ p.1.Port ≤ 4 ∧ 0 ≤ p.2.link
theorem mhas_mem {α β : Type} [DecidableEq α] {l : List (α × β)} {k : α} : mhas l k = true ↔ k ∈ l.map (·.1) := by
  induction l with
  | nil => simp [mhas, mget?]
  | cons p l ih =>
    unfold mhas at *
    simp only [mget?, List.map_cons, List.mem_cons]
    by_cases h : k = p.1
    · simp [h]
    · simp only [h, if_false, false_or]; exact ih
theorem SidesOk.app {n : Int} {m : Sides} {e : End} {v : Graph_side} (h : SidesOk n m) (hb : badE n m e = false) (hv : 0 ≤ v.link) : SidesOk n (m ++ [(e, v)]) := by
  have hh := badE_has hb
  unfold badE at hb
  simp at hb
  refine ⟨?_, ?_⟩
  · rw [List.map_append, List.nodup_append]
    refine ⟨h.nd, by simp, ?_⟩
    rintro a ha b hb' rfl
    simp at hb'; subst hb'
    rw [← mhas_mem, hh] at ha; cases ha
  · intro p hp
    rcases List.mem_append.1 hp with hp | hp
    · exact h.ok p hp
    · simp at hp; subst hp; simp only; omega
theorem sidesL_ok {n : Int} : ∀ (ls : List Link) (i : Nat) (m m' : Sides), SidesOk n m → sidesL n ls i m = some m' → SidesOk n m' := by
  intro ls
  induction ls with
  | nil => intro i m m' h e; cases e; exact h
  | cons l ls ih =>
    intro i m m' h e
    simp only [sidesL] at e
    cases ha : addLink n m i l with
    | none => rw [ha] at e; cases e
    | some m1 =>
      rw [ha] at e
      refine ih (i + 1) m1 m' ?_ e
      unfold addLink at ha
      split at ha
      · cases ha
      · rename_i h1
        split at ha
        · cases ha
        · rename_i h2
          split at ha
          · cases ha
          · cases ha
            exact (h.app (by simpa using h1) (by simp)).app (by simpa using h2) (by simp)
theorem sidesP_ok {g : Graph} {m : Sides} (h : sidesP g = some m) : SidesOk g.Switches m ∧ 1 ≤ g.Switches ∧ g.Switches ≤ 6 := by
  unfold sidesP at h
  split at h
  · cases h
  · rename_i hn
    simp at hn
    exact ⟨sidesL_ok _ _ _ _ ⟨by simp, by simp⟩ h, by omega, by omega⟩
end Go.Cat.G3
