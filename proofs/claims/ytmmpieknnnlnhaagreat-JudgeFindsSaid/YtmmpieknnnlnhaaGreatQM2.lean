/- A text of the proof of the seat's laws: a step logic over the machine, or pure functions that the Go functions come to. No condition. -/
import Derived.Test.YtmmpieknnnlnhaaGreatQM1
namespace Go.Cat.G3
open Go Go.Cat Go.Proofs
set_option linter.unusedVariables false
set_option linter.unusedSimpArgs false
def ZnU (h : Arr3u8) (n : Int) : Int := if n = 0 then h.e0 else if n = 1 then h.e1 else h.e2
def setH (h : Arr3u8) (n v : Int) : Arr3u8 := ⟨if n = 0 then IntKind.u8.wrap v else h.e0, if n = 1 then IntKind.u8.wrap v else h.e1, if n = 2 then IntKind.u8.wrap v else h.e2⟩
def ZlW : Node := ⟨0, 0, 0, 0, 0, 0⟩
def Gs (ns : List Node) (sw port : Int) : Nat → Nat → Sent → List Sent
 | 0, _, _ => []
 | f + 1, i, x =>
  let nd := ns.getD i ZlW
  if nd.Kind = 2 then [x]
  else if nd.Kind = 3 then (if (ibit .and .i64 (IntKind.i64.wrap (ZnU x.H nd.N)) nd.M == nd.V) = true then [x] else [])
  else if nd.Kind = 4 then (if (sw == nd.N) = true then [x] else [])
  else if nd.Kind = 5 then (if (port == nd.N) = true then [x] else [])
  else if nd.Kind = 6 then [⟨x.Port, setH x.H nd.N nd.V⟩]
  else if nd.Kind = 7 then [⟨nd.N, x.H⟩]
  else if nd.Kind = 10 then (if (Gs ns sw port f nd.A.toNat x).isEmpty = true then [x] else [])
  else if nd.Kind = 8 then Gs ns sw port f nd.A.toNat x ++ Gs ns sw port f nd.B.toNat x
  else if nd.Kind = 9 then (Gs ns sw port f nd.A.toNat x).flatMap (Gs ns sw port f nd.B.toNat)
  else []
theorem rd3 {h : Arr3u8} {n : Int} (h0 : 0 ≤ n) (h2 : n ≤ 2) : rd ([h.e0, h.e1, h.e2] : List Int) n = some (ZnU h n) := by
 have : n = 0 ∨ n = 1 ∨ n = 2 := by omega
 rcases this with rfl | rfl | rfl <;> rfl
theorem Zm3 {g : Sent → Option (List Sent)} {G : Sent → List Sent} : ∀ (l : List Sent), (∀ y ∈ l, g y = some (G y)) → allG g l = some (l.flatMap G) := by
 intro l
 induction l with
 | nil => intro _; rfl
 | cons y l ih => intro h; rw [allG, h y (by simp), ih (fun z hz => h z (by simp [hz]))]; simp
structure POk (ns : List Node) : Prop where
 pl : ∀ (i : Nat) (nd : Node), ns[i]? = some nd → Zbd nd i = true
 my : ∀ (i : Nat) (nd : Node), ns[i]? = some nd → mayB nd = true
theorem Zmr {ns : List Node} (h : okP ns = true) : POk ns := by
 unfold okP at h
 simp only [Bool.and_eq_true] at h
 have h2 := h.1.2
 have hm : ∀ (i : Nat) (nd : Node), ns[i]? = some nd → okN ns i nd = true := fun i nd hn => ZiU ns 0 h2 i nd (by omega) hn
 exact ⟨fun i nd hn => by have := hm i nd hn; unfold okN at this; simp only [Bool.and_eq_true] at this; exact this.1.1,
  fun i nd hn => by have := hm i nd hn; unfold okN at this; simp only [Bool.and_eq_true] at this; exact this.1.2⟩
theorem POk.A {ns : List Node} (h : POk ns) {i : Nat} {nd : Node} (hn : ns[i]? = some nd) (hk : nd.Kind = 8 ∨ nd.Kind = 9 ∨ nd.Kind = 10) : ∃ j : Nat, nd.A = (j : Int) ∧ j < i := by
 have hp := h.pl i nd hn
 unfold Zbd chl at hp
 rcases hk with hk | hk | hk <;> simp [hk, inB] at hp <;> exact ⟨nd.A.toNat, by omega, by omega⟩
theorem POk.B {ns : List Node} (h : POk ns) {i : Nat} {nd : Node} (hn : ns[i]? = some nd) (hk : nd.Kind = 8 ∨ nd.Kind = 9) : ∃ j : Nat, nd.B = (j : Int) ∧ j < i := by
 have hp := h.pl i nd hn
 unfold Zbd chl at hp
 rcases hk with hk | hk <;> simp [hk, inB] at hp <;> exact ⟨nd.B.toNat, by omega, by omega⟩
theorem POk.kind {ns : List Node} (h : POk ns) {i : Nat} {nd : Node} (hn : ns[i]? = some nd) : 1 ≤ nd.Kind ∧ nd.Kind ≤ 10 := by
 have hm := h.my i nd hn
 unfold mayB at hm
 by_cases h1 : nd.Kind = 8 ∨ nd.Kind = 9
 ·omega
 ·by_cases h2 : nd.Kind = 10
  ·omega
  ·by_cases h3 : nd.Kind = 1 ∨ nd.Kind = 2
   ·omega
   ·by_cases h4 : nd.Kind = 3
    ·omega
    ·by_cases h5 : nd.Kind = 4
     ·omega
     ·by_cases h6 : nd.Kind = 5 ∨ nd.Kind = 7
      ·omega
      ·by_cases h7 : nd.Kind = 6
       ·omega
       ·rw [if_neg h1, if_neg h2, if_neg h3, if_neg h4, if_neg h5, if_neg h6, if_neg h7] at hm; cases hm
theorem POk.N3 {ns : List Node} (h : POk ns) {i : Nat} {nd : Node} (hn : ns[i]? = some nd) (hk : nd.Kind = 3 ∨ nd.Kind = 6) : 0 ≤ nd.N ∧ nd.N ≤ 2 := by
 have hm := h.my i nd hn
 unfold mayB at hm
 rcases hk with hk | hk <;> simp [hk, wi] at hm <;> omega
theorem POk.N7 {ns : List Node} (h : POk ns) {i : Nat} {nd : Node} (hn : ns[i]? = some nd) (hk : nd.Kind = 7) : 0 ≤ nd.N ∧ nd.N ≤ 4 := by
 have hm := h.my i nd hn
 unfold mayB at hm
 simp [hk, wi] at hm; omega
theorem getD_some {ns : List Node} {i : Nat} {nd : Node} (hn : ns[i]? = some nd) : ns.getD i ZlW = nd := by
 rw [List.getD_eq_getElem?_getD, hn]; rfl
theorem ZiD {ns : List Node} {i : Nat} {nd : Node} (hn : ns[i]? = some nd) : rd ns (i : Int) = some nd := by
 unfold rd; rw [if_pos (by omega)]; simpa using hn
theorem gs_eq {ns : List Node} (h : POk ns) (sw port : Int) : ∀ (f i : Nat) (x : Sent), i < f → i < ns.length → gs ⟨ns, sw, port⟩ f (i : Int) x = some (Gs ns sw port f i x) := by
 intro f
 induction f with
 | zero => intro i x h0; omega
 | succ f ih =>
  intro i x hi hl
  have hn : ns[i]? = some ns[i] := List.getElem?_eq_getElem hl
  generalize ns[i] = nd at hn
  have hk := h.kind hn
  show ZfI (gs ⟨ns, sw, port⟩ f) ⟨ns, sw, port⟩ (i : Int) x = _
  unfold ZfI
  rw [Gs, getD_some hn, ZiD hn]
  simp only [Option.bind_some]
  have hA := fun hk => h.A hn hk
  have hB := fun hk => h.B hn hk
  by_cases h8 : nd.Kind = 8
  ·obtain ⟨a, ha, hai⟩ := hA (.inl h8)
   obtain ⟨b, hb, hbi⟩ := hB (.inl h8)
   simp [h8, ha, hb, ih a x (by omega) (by omega), ih b x (by omega) (by omega)]
  ·by_cases h9 : nd.Kind = 9
   ·obtain ⟨a, ha, hai⟩ := hA (.inr (.inl h9))
    obtain ⟨b, hb, hbi⟩ := hB (.inr h9)
    have := Zm3 (g := gs ⟨ns, sw, port⟩ f (b : Int)) (G := Gs ns sw port f b) (Gs ns sw port f a x) (fun y _ => ih b y (by omega) (by omega))
    simp [h9, ha, hb, ih a x (by omega) (by omega), this]
   ·by_cases h10 : nd.Kind = 10
    ·obtain ⟨a, ha, hai⟩ := hA (.inr (.inr h10))
     simp [h10, ha, Za9, ih a x (by omega) (by omega)]
     cases Gs ns sw port f a x <;> simp
    ·by_cases h6 : nd.Kind = 6
     ·have := h.N3 hn (.inr h6)
      simp [h6, Za9, rd3 this.1 this.2, setH]
     ·by_cases h7 : nd.Kind = 7
      ·simp [h7, Za9]
      ·by_cases h3 : nd.Kind = 3
       ·have := h.N3 hn (.inl h3)
        simp [h3, Za9, rd3 this.1 this.2]
        split <;> rfl
       ·by_cases h4 : nd.Kind = 4
        ·simp [h4, Za9]
         split <;> rfl
        ·by_cases h5 : nd.Kind = 5
         ·simp [h5, Za9]
          split <;> rfl
         ·by_cases h2 : nd.Kind = 2
          ·simp [h2, Za9]
          ·have h1 : nd.Kind = 1 := by omega
           simp [h1, Za9]
theorem u8w (v : Int) : BI (IntKind.u8.wrap v) := by
 unfold BI IntKind.wrap; simp [IntKind.bits, IntKind.signed]; omega
theorem ZfM {ns : List Node} (h : POk ns) (sw port : Int) : ∀ (f i : Nat) (x : Sent), VS x → i < ns.length → ∀ s ∈ Gs ns sw port f i x, VS s := by
 intro f
 induction f with
 | zero => intro i x _ _ s hs; cases hs
 | succ f ih =>
  intro i x hx hl s hs
  have hn : ns[i]? = some ns[i] := List.getElem?_eq_getElem hl
  generalize ns[i] = nd at hn
  rw [Gs, getD_some hn] at hs
  have one : ∀ b : Bool, s ∈ (if b = true then [x] else []) → VS s := by
   intro b hb; cases b <;> simp at hb; subst hb; exact hx
  by_cases h2 : nd.Kind = 2
  ·rw [if_pos h2] at hs; simp at hs; subst hs; exact hx
  rw [if_neg h2] at hs
  by_cases h3 : nd.Kind = 3
  ·rw [if_pos h3] at hs; exact one _ hs
  rw [if_neg h3] at hs
  by_cases h4 : nd.Kind = 4
  ·rw [if_pos h4] at hs; exact one _ hs
  rw [if_neg h4] at hs
  by_cases h5 : nd.Kind = 5
  ·rw [if_pos h5] at hs; exact one _ hs
  rw [if_neg h5] at hs
  by_cases h6 : nd.Kind = 6
  ·rw [if_pos h6] at hs; simp at hs; subst hs
   obtain ⟨g1, g2, g3, g4, g5⟩ := hx
   refine ⟨g1, g2, ?_, ?_, ?_⟩ <;> (unfold setH; dsimp only; split; exact u8w _; assumption)
  rw [if_neg h6] at hs
  by_cases h7 : nd.Kind = 7
  ·rw [if_pos h7] at hs; simp at hs; subst hs
   have := h.N7 hn h7
   exact ⟨by dsimp only; omega, by dsimp only; omega, hx.2.2⟩
  rw [if_neg h7] at hs
  by_cases h10 : nd.Kind = 10
  ·rw [if_pos h10] at hs; exact one _ hs
  rw [if_neg h10] at hs
  by_cases h8 : nd.Kind = 8
  ·rw [if_pos h8] at hs
   obtain ⟨a, ha, hai⟩ := h.A hn (.inl h8)
   obtain ⟨b, hb, hbi⟩ := h.B hn (.inl h8)
   rw [ha, hb] at hs
   rcases List.mem_append.1 hs with hs | hs
   ·exact ih a x hx (by omega) s hs
   ·exact ih b x hx (by omega) s hs
  rw [if_neg h8] at hs
  by_cases h9 : nd.Kind = 9
  ·rw [if_pos h9] at hs
   obtain ⟨a, ha, hai⟩ := h.A hn (.inr (.inl h9))
   obtain ⟨b, hb, hbi⟩ := h.B hn (.inr h9)
   rw [ha, hb] at hs
   obtain ⟨y, hy, hs⟩ := List.mem_flatMap.1 hs
   exact ih b y (ih a x hx (by omega) y hy) (by omega) s hs
  rw [if_neg h9] at hs; cases hs
end Go.Cat.G3

