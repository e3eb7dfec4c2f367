/- A text of the proof of the seat's laws: a step logic over the machine, or pure functions that the Go functions come to. No condition. -/
import Derived.Test.YtmmpieknnnlnhaaGreatQM2
namespace Go.Cat.G3
open Go Go.Cat Go.Proofs
set_option linter.unusedVariables false
set_option linter.unusedSimpArgs false
theorem Zlg (gf : Nat → Catenaryref23_place → Int → Sent → Option (List Sent)) (k : Nat) (hk : 5 ≤ k) (l : List Sent) (hb : l.length < 4611686018427387904) : ∀ (q i : Nat) (acc : List Sent), i ≤ l.length → l.length - i < q → acc.length + l.length + 5 < LIM + i → acc.length + l.length < k + i →
  ZaN gf k q (acc, l, (i : Int)) = some (ZeP acc (l.drop i)) := by
 have hLIM : LIM = 68719476736 := rfl
 intro q
 induction q with
 | zero => intro i _ _ h; omega
 | succ q ih =>
  intro i acc hi hq h1 h2
  rw [ZaN]
  by_cases hlt : i < l.length
  ·have := Zhd l[i] acc
   rw [if_pos (by simp; omega), ZbX hlt, List.drop_eq_getElem_cons hlt]
   simp only [Option.bind_some]
   rw [ZjS k hk acc _ (by omega) (by omega), Zb6 (by omega)]
   simp only [Option.bind_some]
   rw [ih (i + 1) _ (by omega) (by omega) (by omega) (by omega)]; rfl
  ·rw [if_neg (by simp; omega), ZbU hlt]; rfl
theorem Zli (gf : Nat → Catenaryref23_place → Int → Sent → Option (List Sent)) (k : Nat) (hk : 5 ≤ k) (l : List Sent) (hb : l.length < 4611686018427387904) : ∀ (q i : Nat) (acc : List Sent), i ≤ l.length → l.length - i < q → acc.length + l.length + 5 < LIM + i → acc.length + l.length < k + i →
  ZaO gf k q (acc, l, (i : Int)) = some (ZeP acc (l.drop i)) := by
 have hLIM : LIM = 68719476736 := rfl
 intro q
 induction q with
 | zero => intro i _ _ h; omega
 | succ q ih =>
  intro i acc hi hq h1 h2
  rw [ZaO]
  by_cases hlt : i < l.length
  ·have := Zhd l[i] acc
   rw [if_pos (by simp; omega), ZbX hlt, List.drop_eq_getElem_cons hlt]
   simp only [Option.bind_some]
   rw [ZjS k hk acc _ (by omega) (by omega), Zb6 (by omega)]
   simp only [Option.bind_some]
   rw [ih (i + 1) _ (by omega) (by omega) (by omega) (by omega)]; rfl
  ·rw [if_neg (by simp; omega), ZbU hlt]; rfl
def Giv (ns : List Node) (sw port : Int) (i : Nat) (x : Sent) : Prop :=
 ∃ l : List Sent, SS l ∧ (∀ f, i < f → ∀ s, s ∈ l ↔ s ∈ Gs ns sw port f i x) ∧ ∃ K, ∀ k, K ≤ k → ∀ f, i < f → rgs f k ⟨ns, sw, port⟩ (i : Int) x = some l
theorem Zlh {ns : List Node} (h : POk ns) (sw port : Int) (nd : Node) (b : Nat) (hb : nd.B = (b : Int)) (hbl : b < ns.length) (hG : ∀ x, VS x → Giv ns sw port b x) (hbig : ∀ l : List Sent, SS l → (∀ s ∈ l, VS s) → l.length ≤ 100663296) :
  ∀ (rs pre acc : List Sent), (∀ y ∈ rs, VS y) → SS acc → (∀ s ∈ acc, VS s) → pre.length + rs.length < 1000000000 → ∃ r : List Sent, SS r ∧ (∀ f, b < f → ∀ s, s ∈ r ↔ s ∈ acc ∨ ∃ y ∈ rs, s ∈ Gs ns sw port f b y) ∧
   ∃ K, ∀ k, K ≤ k → ∀ f, b < f → ∀ q, rs.length < q → ZaH (rgs f) k ⟨ns, sw, port⟩ nd q (pre ++ rs, acc, (pre.length : Int)) = some r := by
 have hLIM : LIM = 68719476736 := rfl
 intro rs
 induction rs with
 | nil =>
  intro pre acc _ ha _ _
  refine ⟨acc, ha, fun f _ s => by simp, 0, fun k _ f _ q hq => ?_⟩
  obtain ⟨q, rfl⟩ : ∃ p, q = p + 1 := ⟨q - 1, by simp at hq; omega⟩
  rw [ZaH, if_neg (by simp)]
 | cons y rs ih =>
  intro pre acc hv ha hav hlen
  obtain ⟨ly, hy1, hy2, K1, hy3⟩ := hG y (hv y (by simp))
  have hlv : ∀ s ∈ ly, VS s := fun s hs => ZfM h sw port (b + 1) b y (hv y (by simp)) hbl s ((hy2 (b + 1) (by omega) s).1 hs)
  have hm : ∀ s ∈ ZeP acc ly, VS s := fun s hs => by
   rcases Zed.1 hs with hs | hs
   ·exact hav s hs
   ·exact hlv s hs
  obtain ⟨r, hr1, hr2, K2, hr3⟩ := ih (pre ++ [y]) (ZeP acc ly) (fun z hz => hv z (by simp [hz])) (Zgz ha) hm (by simp at hlen ⊢; omega)
  refine ⟨r, hr1, fun f hf s => ?_, K1 + K2 + 1000000000, fun k hk f hf q hq => ?_⟩
  ·rw [hr2 f hf, Zed, hy2 f hf]
   simp only [List.mem_cons, exists_eq_or_imp, or_assoc]
  ·obtain ⟨q, rfl⟩ : ∃ p, q = p + 1 := ⟨q - 1, by simp at hq; omega⟩
   rw [ZaH]
   have hlt : pre.length < (pre ++ y :: rs).length := by simp
   have l1 := hbig acc ha hav
   have l2 := hbig ly hy1 hlv
   rw [if_pos (by simp; omega), ZbX hlt]
   have hget : (pre ++ y :: rs)[pre.length]'hlt = y := by simp
   rw [hget]
   simp only [Option.bind_some, hb]
   rw [hy3 k (by omega) f hf]
   simp only [Option.bind_some]
   have hl2 := Zlg (rgs f) k (by omega) ly (by omega) k 0 acc (by omega) (by omega) (by omega) (by omega)
   rw [List.drop_zero] at hl2
   have hl2' : ZaN (rgs f) k k (acc, ly, 0) = _ := hl2
   rw [hl2']
   simp only [Option.bind_some]
   simp only [List.length_cons] at hlen
   rw [Zb6 (by omega)]
   have := hr3 k (by omega) f hf q (by simp at hq; omega)
   simpa using this
theorem Zfq (k : Nat) (b : Bool) (x : Sent) : ZaM k b x = some (if b = true then [x] else []) := by
 unfold ZaM; cases b <;> rfl
theorem Zkz (x : Sent) : SS [x] := by simp [SS]
theorem ZlI (b : Bool) (x : Sent) : SS (if b = true then [x] else []) := by cases b <;> simp [SS]
theorem ZnV (l : List Sent) : ((l.length : Int) == 0) = l.isEmpty := by cases l <;> simp; omega
theorem ZkR {ns : List Node} (h : POk ns) (sw port : Int) (hln : ns.length < 1000000) : ∀ (n i : Nat) (x : Sent), i < n → i < ns.length → VS x → Giv ns sw port i x := by
 have hLIM : LIM = 68719476736 := rfl
 have hbig : ∀ l : List Sent, SS l → (∀ s ∈ l, VS s) → l.length ≤ 100663296 := fun l h1 h2 => many h1.nodup h2
 intro n
 induction n with
 | zero => intro i x hi; omega
 | succ n ih =>
  intro i x hi hl hx
  have hn : ns[i]? = some ns[i] := List.getElem?_eq_getElem hl
  generalize ns[i] = nd at hn
  have hk := h.kind hn
  have leaf : ∀ l : List Sent, SS l → (∀ f, Gs ns sw port (f + 1) i x = l) → (∀ k f, 5 ≤ k → Zau (rgs f) k ⟨ns, sw, port⟩ (i : Int) x = some l) → Giv ns sw port i x := by
   intro l h1 h2 h3
   refine ⟨l, h1, fun f hf s => ?_, 5, fun k hk f hf => ?_⟩
   ·obtain ⟨f, rfl⟩ : ∃ g, f = g + 1 := ⟨f - 1, by omega⟩
    rw [h2]
   ·obtain ⟨f, rfl⟩ : ∃ g, f = g + 1 := ⟨f - 1, by omega⟩
    exact h3 k f hk
  have hrd := ZiD hn
  have hgd := getD_some hn
  by_cases h2 : nd.Kind = 2
  ·exact leaf [x] (Zkz x) (fun f => by simp only [Gs, hgd]; rw [if_pos h2]) (fun k f _ => by simp [Zau, hrd, h2, Zfq])
  by_cases h3 : nd.Kind = 3
  ·have hN := h.N3 hn (.inl h3)
   exact leaf _ (ZlI _ x) (fun f => by simp only [Gs, hgd]; rw [if_neg h2, if_pos h3]) (fun k f _ => by simp [Zau, hrd, h3, Zfq, rd3 hN.1 hN.2])
  by_cases h4 : nd.Kind = 4
  ·exact leaf _ (ZlI _ x) (fun f => by simp only [Gs, hgd]; rw [if_neg h2, if_neg h3, if_pos h4]) (fun k f _ => by simp [Zau, hrd, h4, Zfq])
  by_cases h5 : nd.Kind = 5
  ·exact leaf _ (ZlI _ x) (fun f => by simp only [Gs, hgd]; rw [if_neg h2, if_neg h3, if_neg h4, if_pos h5]) (fun k f _ => by simp [Zau, hrd, h5, Zfq])
  by_cases h6 : nd.Kind = 6
  ·have hN := h.N3 hn (.inr h6)
   exact leaf _ (Zkz _) (fun f => by simp only [Gs, hgd]; rw [if_neg h2, if_neg h3, if_neg h4, if_neg h5, if_pos h6]) (fun k f _ => by simp [Zau, hrd, h6, Zfq, rd3 hN.1 hN.2, setH])
  by_cases h7 : nd.Kind = 7
  ·exact leaf _ (Zkz _) (fun f => by simp only [Gs, hgd]; rw [if_neg h2, if_neg h3, if_neg h4, if_neg h5, if_neg h6, if_pos h7]) (fun k f _ => by simp [Zau, hrd, h7, Zfq])
  by_cases h10 : nd.Kind = 10
  ·obtain ⟨a, ha, hai⟩ := h.A hn (.inr (.inr h10))
   obtain ⟨la, a1, a2, K, a3⟩ := ih a x (by omega) (by omega) hx
   refine ⟨if la.isEmpty = true then [x] else [], ZlI _ x, fun f hf s => ?_, K, fun k hk f hf => ?_⟩
   ·obtain ⟨f, rfl⟩ : ∃ g, f = g + 1 := ⟨f - 1, by omega⟩
    simp only [Gs, hgd]
    rw [if_neg h2, if_neg h3, if_neg h4, if_neg h5, if_neg h6, if_neg h7, if_pos h10, ha]
    have : la.isEmpty = (Gs ns sw port f a x).isEmpty := by
     have hm := a2 f (by omega)
     rw [Bool.eq_iff_iff]; simp only [List.isEmpty_iff, List.eq_nil_iff_forall_not_mem, hm]
    rw [this]; simp
   ·obtain ⟨f, rfl⟩ : ∃ g, f = g + 1 := ⟨f - 1, by omega⟩
    have := a3 k hk f (by omega)
    show Zau (rgs f) k _ _ _ = _
    simp [Zau, hrd, h10, ha, this, Zfq, ZnV]
  by_cases h8 : nd.Kind = 8
  ·obtain ⟨a, ha, hai⟩ := h.A hn (.inl h8)
   obtain ⟨b, hb, hbi⟩ := h.B hn (.inl h8)
   obtain ⟨la, a1, a2, K, a3⟩ := ih a x (by omega) (by omega) hx
   obtain ⟨lb, b1, b2, K', b3⟩ := ih b x (by omega) (by omega) hx
   have l1 := hbig la a1 (fun s hs => ZfM h sw port (a + 1) a x hx (by omega) s ((a2 (a + 1) (by omega) s).1 hs))
   have l2 := hbig lb b1 (fun s hs => ZfM h sw port (b + 1) b x hx (by omega) s ((b2 (b + 1) (by omega) s).1 hs))
   refine ⟨ZeP la lb, Zgz a1, fun f hf s => ?_, K + K' + 1000000000, fun k hk f hf => ?_⟩
   ·obtain ⟨f, rfl⟩ : ∃ g, f = g + 1 := ⟨f - 1, by omega⟩
    simp only [Gs, hgd]
    rw [if_neg h2, if_neg h3, if_neg h4, if_neg h5, if_neg h6, if_neg h7, if_neg h10, if_pos h8, ha, hb, Zed, List.mem_append, a2 f (by omega), b2 f (by omega)]
    simp
   ·obtain ⟨f, rfl⟩ : ∃ g, f = g + 1 := ⟨f - 1, by omega⟩
    have e1 := a3 k (by omega) f (by omega)
    have e2 := b3 k (by omega) f (by omega)
    have hl0 := Zli (rgs f) k (by omega) lb (by omega) k 0 la (by omega) (by omega) (by omega) (by omega)
    rw [List.drop_zero] at hl0
    have hl0' : ZaO (rgs f) k k (la, lb, 0) = _ := hl0
    show Zau (rgs f) k _ _ _ = _
    simp [Zau, hrd, h8, ha, hb, e1, e2, hl0']
  have h9 : nd.Kind = 9 ∨ nd.Kind = 1 := by omega
  rcases h9 with h9 | h1
  ·obtain ⟨a, ha, hai⟩ := h.A hn (.inr (.inl h9))
   obtain ⟨b, hb, hbi⟩ := h.B hn (.inr h9)
   obtain ⟨la, a1, a2, K, a3⟩ := ih a x (by omega) (by omega) hx
   have hav := fun s (hs : s ∈ la) => ZfM h sw port (a + 1) a x hx (by omega) s ((a2 (a + 1) (by omega) s).1 hs)
   have l1 := hbig la a1 hav
   obtain ⟨r, r1, r2, K', r3⟩ := Zlh h sw port nd b hb (by omega) (fun y hy => ih b y (by omega) (by omega) hy) hbig la [] [] hav .nil (by simp) (by simp; omega)
   refine ⟨r, r1, fun f hf s => ?_, K + K' + 1000000000, fun k hk f hf => ?_⟩
   ·obtain ⟨f, rfl⟩ : ∃ g, f = g + 1 := ⟨f - 1, by omega⟩
    simp only [Gs, hgd]
    rw [if_neg h2, if_neg h3, if_neg h4, if_neg h5, if_neg h6, if_neg h7, if_neg h10, if_neg h8, if_pos h9, ha, hb, r2 f (by omega), List.mem_flatMap]
    simp only [List.not_mem_nil, false_or, a2 f (by omega)]
    simp
   ·obtain ⟨f, rfl⟩ : ∃ g, f = g + 1 := ⟨f - 1, by omega⟩
    have e1 := a3 k (by omega) f (by omega)
    have e2 := r3 k (by omega) f (by omega) k (by omega)
    have e2' : ZaH (rgs f) k ⟨ns, sw, port⟩ nd k (la, [], 0) = _ := e2
    show Zau (rgs f) k _ _ _ = _
    simp [Zau, hrd, h9, ha, e1, e2']
  ·refine leaf [] .nil (fun f => by simp only [Gs, hgd]; simp [h1]) (fun k f _ => by simp [Zau, hrd, h1])
end Go.Cat.G3

