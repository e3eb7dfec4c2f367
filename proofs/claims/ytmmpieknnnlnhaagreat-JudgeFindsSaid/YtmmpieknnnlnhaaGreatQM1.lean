/- A text of the proof of the seat's laws: a step logic over the machine, or pure functions that the Go functions come to. No condition. -/
import Derived.Test.YtmmpieknnnlnhaaGreatQC4
import Derived.Test.YtmmpieknnnlnhaaGreatZ6
namespace Go.Cat.G3
open Go Go.Cat Go.Proofs
set_option linter.unusedVariables false
set_option linter.unusedSimpArgs false
abbrev SS (l : List Sent) : Prop := l.Pairwise ltS
theorem SS.nodup {l : List Sent} (h : SS l) : l.Nodup := h.imp fun {a b} hab he => by subst he; exact Zfa _ hab
theorem SS.sorted {l : List Sent} (h : SS l) : Zd7 l := h.imp fun {a b} hab hba => Zfa _ (ZeQ hab hba)
theorem SS.ext {l l' : List Sent} (h : SS l) (h' : SS l') (hm : ∀ y, y ∈ l ↔ y ∈ l') : l = l' :=
 Zgs l l' h.sorted h'.sorted ((List.perm_ext_iff_of_nodup h.nodup h'.nodup).2 hm)
def putS : List Sent → Sent → List Sent
 | [], x => [x]
 | y :: l, x => if ltS y x then y :: putS l x else if y = x then x :: l else x :: y :: l
theorem ZiK {x z : Sent} : ∀ {l : List Sent}, z ∈ putS l x ↔ z ∈ l ∨ z = x := by
 intro l
 induction l with
 | nil => simp [putS]
 | cons y l ih =>
  unfold putS
  split
  ·simp only [List.mem_cons, ih]; grind
  ·split
   ·rename_i h; subst h; simp only [List.mem_cons]; grind
   ·simp only [List.mem_cons]; grind
theorem Zmm {x : Sent} : ∀ {l : List Sent}, SS l → SS (putS l x) := by
 intro l
 induction l with
 | nil => intro _; simp [putS, SS]
 | cons y l ih =>
  intro h
  have h1 := List.pairwise_cons.1 h
  unfold putS
  split
  ·rename_i hlt
   refine List.pairwise_cons.2 ⟨fun z hz => ?_, ih h1.2⟩
   rcases ZiK.1 hz with hz | rfl
   ·exact h1.1 z hz
   ·exact hlt
  ·rename_i hlt
   split
   ·rename_i he; subst he; exact h
   ·rename_i hne
    have hxy : ltS x y := by
     rcases Zic x y with h | h | h
     ·exact h
     ·exact absurd h.symm hne
     ·exact absurd h hlt
    refine List.pairwise_cons.2 ⟨fun z hz => ?_, h⟩
    rcases List.mem_cons.1 hz with rfl | hz
    ·exact hxy
    ·exact ZeQ hxy (h1.1 z hz)
theorem Zhd (x : Sent) : ∀ (l : List Sent), (putS l x).length ≤ l.length + 1 := by
 intro l
 induction l with
 | nil => simp [putS]
 | cons y l ih => unfold putS; split <;> (try split) <;> simp <;> omega
theorem ZlG (k : Nat) (hk : 5 ≤ k) (x y : Sent) : Zb0 k x y = some (decide (ltS x y)) := by
 unfold Zb0
 by_cases hp : x.Port = y.Port
 ·rw [if_neg (by simp [hp])]
  obtain ⟨q, rfl⟩ : ∃ q, k = q + 4 := ⟨k - 4, by omega⟩
  have e0 : ∀ q, catenaryref23_ahead_l0 (q + 4) x y (q + 4) 0 = if x.H.e0 ≠ y.H.e0 then some (.ret (decide (x.H.e0 < y.H.e0))) else catenaryref23_ahead_l0 (q + 4) x y (q + 3) 1 := by
   intro q; rw [catenaryref23_ahead_l0, if_pos (by decide)]
   have : ∀ a b c : Int, rd [a, b, c] 0 = some a := fun _ _ _ => rfl
   simp only [this, Option.bind_some]
   by_cases h : x.H.e0 = y.H.e0 <;> simp [h]; rfl
  have e1 : ∀ q, catenaryref23_ahead_l0 (q + 4) x y (q + 3) 1 = if x.H.e1 ≠ y.H.e1 then some (.ret (decide (x.H.e1 < y.H.e1))) else catenaryref23_ahead_l0 (q + 4) x y (q + 2) 2 := by
   intro q; rw [catenaryref23_ahead_l0, if_pos (by decide)]
   have : ∀ a b c : Int, rd [a, b, c] 1 = some b := fun _ _ _ => rfl
   simp only [this, Option.bind_some]
   by_cases h : x.H.e1 = y.H.e1 <;> simp [h]; rfl
  have e2 : ∀ q, catenaryref23_ahead_l0 (q + 4) x y (q + 2) 2 = if x.H.e2 ≠ y.H.e2 then some (.ret (decide (x.H.e2 < y.H.e2))) else some (.out ()) := by
   intro q; rw [catenaryref23_ahead_l0, if_pos (by decide)]
   have : ∀ a b c : Int, rd [a, b, c] 2 = some c := fun _ _ _ => rfl
   simp only [this, Option.bind_some]
   by_cases h : x.H.e2 = y.H.e2
   ·simp only [h, bne_self_eq_false, Bool.false_eq_true, if_false, ne_eq, not_true_eq_false]
    rw [show w64 (2 + 1) = 3 from rfl, catenaryref23_ahead_l0.eq_def]
    cases q <;> simp
   ·simp [h]
  rw [e0, e1, e2]
  by_cases h0 : x.H.e0 = y.H.e0
  ·by_cases h1 : x.H.e1 = y.H.e1
   ·by_cases h2 : x.H.e2 = y.H.e2
    ·simp [h0, h1, h2, LX.go, ltS, hp]
    ·simp [h0, h1, h2, LX.go, ltS, hp]
   ·simp [h0, h1, LX.go, ltS, hp]
  ·simp [h0, LX.go, ltS, hp]
 ·rw [if_pos (by simp [hp])]
  simp [ltS, hp]
def lead (x : Sent) : List Sent → List Sent
 | [] => []
 | y :: l => if ltS y x then y :: lead x l else []
def rest (x : Sent) : List Sent → List Sent
 | [] => []
 | y :: l => if ltS y x then rest x l else if y = x then l else y :: l
theorem Zjb (x : Sent) : ∀ l : List Sent, putS l x = lead x l ++ [x] ++ rest x l := by
 intro l
 induction l with
 | nil => rfl
 | cons y l ih =>
  unfold putS lead rest
  split
  ·simp [ih]
  ·split
   ·rename_i h; subst h; simp
   ·simp
theorem Zlb (x : Sent) (l : List Sent) : (lead x l).length ≤ l.length := by
 induction l with
 | nil => simp [lead]
 | cons y l ih => unfold lead; split <;> simp; omega
theorem Znf (k : Nat) (hk : 5 ≤ k) (l : List Sent) (x : Sent) (hb : l.length + 5 < LIM) : ∀ (q i : Nat) (acc : List Sent), acc.length = i → i ≤ l.length → l.length - i < q →
  ZbI k l x q (acc, (i : Int)) = some (acc ++ lead x (l.drop i), ((i + (lead x (l.drop i)).length : Nat) : Int)) := by
 have hLIM : LIM = 68719476736 := rfl
 intro q
 induction q with
 | zero => intro i _ _ _ h; omega
 | succ q ih =>
  intro i acc ha hi hq
  rw [ZbI]
  by_cases hlt : i < l.length
  ·rw [if_pos (by simp; omega), ZbX hlt, List.drop_eq_getElem_cons hlt]
   simp only [Option.bind_some, ZlG k hk]
   unfold lead
   by_cases h : ltS l[i] x
   ·rw [if_pos (by simpa using h), if_pos h, app, if_pos (by simp; omega), Zb6 (by omega)]
    simp only [Option.bind_some]
    rw [ih (i + 1) _ (by simp [ha]) (by omega) (by omega)]
    simp only [List.append_assoc, List.cons_append, List.nil_append, List.length_cons]
    rw [show i + 1 + (lead x (l.drop (i + 1))).length = i + ((lead x (l.drop (i + 1))).length + 1) by omega]
   ·rw [if_neg (by simpa using h), if_neg h]; simp
  ·rw [if_neg (by simp; omega), ZbU hlt]; simp [lead]
theorem ZjO (x : Sent) : ∀ l : List Sent, rest x l = if h : (lead x l).length < l.length then (if l[(lead x l).length] = x then l.drop ((lead x l).length + 1) else l.drop (lead x l).length) else [] := by
 intro l
 induction l with
 | nil => rfl
 | cons y l ih =>
  unfold rest lead
  by_cases h : ltS y x
  ·simp only [if_pos h, List.length_cons, Nat.add_lt_add_iff_right, List.getElem_cons_succ, List.drop_succ_cons]; exact ih
  ·simp [if_neg h]
theorem ZjS (k : Nat) (hk : 5 ≤ k) (l : List Sent) (x : Sent) (hb : l.length + 5 < LIM) (hkl : l.length < k) : ZbZ k l x = some (putS l x) := by
 have hLIM : LIM = 68719476736 := rfl
 unfold ZbZ
 have h0 := Znf k hk l x hb k 0 [] rfl (by omega) (by omega)
 rw [List.drop_zero] at h0
 have h0' : ZbI k l x k ([], 0) = _ := h0
 have hll := Zlb x l
 rw [h0', Zjb, ZjO]
 simp only [Option.bind_some, List.nil_append, Nat.zero_add]
 rw [app, if_pos (by simp; omega)]
 simp only [Option.bind_some]
 by_cases hlt : (lead x l).length < l.length
 ·rw [if_pos (by simp; omega), ZbX hlt, dif_pos hlt]
  simp only [Option.bind_some]
  by_cases he : l[(lead x l).length] = x
  ·rw [if_pos (by simpa using he), if_pos he, Zb6 (by omega)]
   simp only [Option.bind_some]
   rw [slc, if_pos (by omega)]
   simp only [Option.bind_some, Int.toNat_natCast]
   rw [List.take_of_length_le (by simp), app, if_pos (by simp; omega)]; simp
  ·rw [if_neg (by simpa using he), if_neg he]
   simp only [Option.bind_some]
   rw [slc, if_pos (by omega)]
   simp only [Option.bind_some, Int.toNat_natCast]
   rw [List.take_of_length_le (by simp), app, if_pos (by simp; omega)]; simp
 ·rw [if_neg (by simp; omega), dif_neg hlt]
  simp only [Option.bind_some, Bool.false_eq_true, if_false]
  rw [slc, if_pos (by omega)]
  simp only [Option.bind_some, Int.toNat_natCast]
  rw [List.drop_eq_nil_of_le (by omega)]
  rw [List.take_nil, app, if_pos (by simp; omega)]; simp
def ZeP (a l : List Sent) : List Sent := l.foldl putS a
theorem Zed {z : Sent} : ∀ {l a : List Sent}, z ∈ ZeP a l ↔ z ∈ a ∨ z ∈ l := by
 intro l
 induction l with
 | nil => intro a; simp [ZeP]
 | cons x l ih =>
  intro a
  show z ∈ ZeP (putS a x) l ↔ _
  rw [ih, ZiK, List.mem_cons]; grind
theorem Zgz : ∀ {l a : List Sent}, SS a → SS (ZeP a l) := by
 intro l
 induction l with
 | nil => intro a h; exact h
 | cons x l ih => intro a h; exact ih (Zmm h)
def BI (x : Int) : Prop := 0 ≤ x ∧ x ≤ 255
def VS (s : Sent) : Prop := -1 ≤ s.Port ∧ s.Port ≤ 4 ∧ BI s.H.e0 ∧ BI s.H.e1 ∧ BI s.H.e2
def Zjr (s : Sent) : Nat := (((s.Port + 1) * 256 + s.H.e0) * 256 + s.H.e1).toNat * 256 + s.H.e2.toNat
theorem Zly {s : Sent} (h : VS s) : Zjr s < 100663296 := by
 obtain ⟨h1, h2, h3, h4, h5⟩ := h
 unfold BI at h3 h4 h5; unfold Zjr; omega
theorem Zkw {s t : Sent} (h : VS s) (h' : VS t) (he : Zjr s = Zjr t) : s = t := by
 obtain ⟨h1, h2, h3, h4, h5⟩ := h
 obtain ⟨g1, g2, g3, g4, g5⟩ := h'
 unfold BI at h3 h4 h5 g3 g4 g5; unfold Zjr at he
 rw [Zhs, ZfN]; omega
theorem many {l : List Sent} (hn : l.Nodup) (hv : ∀ s ∈ l, VS s) : l.length ≤ 100663296 := by
 have h1 : (l.map Zjr).Nodup := by
  rw [List.Nodup, List.pairwise_map]
  exact hn.imp_of_mem fun {a b} ha hb hab he => hab (Zkw (hv a ha) (hv b hb) he)
 have := Zfm (m := List.range 100663296) h1 (fun x hx => by
  obtain ⟨s, hs, rfl⟩ := List.mem_map.1 hx
  exact List.mem_range.2 (Zly (hv s hs)))
 rwa [List.length_map, List.length_range] at this
end Go.Cat.G3

