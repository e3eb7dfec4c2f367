/- A text of the proof of the seat's laws: a step logic over the machine, or pure functions that the Go functions come to. No condition. -/
import Derived.Test.YtmmpieknnnlnhaaGreatZ1
import Derived.Test.YtmmpieknnnlnhaaGreatHG
namespace Go.Cat.G3
open Go Go.Cat Go.Proofs
set_option linter.unusedVariables false
set_option linter.unusedSimpArgs false
theorem w64n {i : Nat} (h : i < 9223372036854775807) : w64 ((i : Int) + 1) = ((i + 1 : Nat) : Int) := by
 rw [ZdJ (by omega) (by omega)]; omega
abbrev Zeh := List (End × Graph_side)
def badE (n : Int) (m : Zeh) (e : End) : Bool := mhas m e || (decide (e.Switch < 1) || (decide (e.Switch > n) || (decide (e.Port < 1) || decide (e.Port > 4))))
def Ze3 (n : Int) (m : Zeh) (i : Int) (l : Link) : Option Zeh :=
 if badE n m l.A = true then none else
 if badE n (m ++ [(l.A, ⟨l.B, i⟩)]) l.B = true then none else
 if (l.A.Switch == l.B.Switch) = true then none else some (m ++ [(l.A, ⟨l.B, i⟩)] ++ [(l.B, ⟨l.A, i⟩)])
def Zea (n : Int) : List Link → Nat → Zeh → Option Zeh
 | [], _, m => some m
 | l :: ls, i, m => (Ze3 n m i l).bind (Zea n ls (i + 1))
theorem ZjZ {l : Zeh} {q : End} (h : mhas l q = false) : midx l q = none := by
 cases hm : midx l q with
 | none => rfl
 | some i => obtain ⟨v, _, hg⟩ := ZdS hm; simp [mhas, hg] at h
theorem ZiH {m : Zeh} {q : End} {v : Graph_side} (h : mhas m q = false) : mput m q v = m ++ [(q, v)] := ZeO (ZjZ h)
theorem Zk8 {α β : Type} [DecidableEq α] {l : List (α × β)} {q k : α} {v : β} : mget? (l ++ [(q, v)]) k = (mget? l k).orElse fun _ => if k = q then some v else none := by
 induction l with
 | nil => simp [mget?]
 | cons p l ih => simp only [List.cons_append, mget?]; split <;> simp_all
theorem ZiJ {α β : Type} [DecidableEq α] {l : List (α × β)} {q k : α} {v : β} : mhas (l ++ [(q, v)]) k = (mhas l k || decide (k = q)) := by
 unfold mhas; rw [Zk8]; cases mget? l k <;> by_cases h : k = q <;> simp [h]
theorem Zhr {n : Int} {m : Zeh} {e : End} (h : badE n m e = false) : mhas m e = false := by
 unfold badE at h; simp at h; exact h.1
theorem ZkO (k : Nat) (g : Graph) (s18 : Zeh × Int) (l : Link) (m : Zeh) (q : Nat) :
  Zci k g s18 l (q + 3) (m, 0) = some (if badE g.Switches m l.A = true then .ret (.ret (none, false)) else if badE g.Switches (m ++ [(l.A, ⟨l.B, s18.2⟩)]) l.B = true then .ret (.ret (none, false)) else .out (m ++ [(l.A, ⟨l.B, s18.2⟩)] ++ [(l.B, ⟨l.A, s18.2⟩)])) := by
 rw [Zci]
 rw [if_pos (by simp)]
 have hr0 : rd ([l.A, l.B] : List End) 0 = some l.A := rfl
 rw [hr0]
 simp only [Option.bind_some]
 by_cases h1 : badE g.Switches m l.A = true
 ·have h1' := h1
  unfold badE at h1'
  rw [if_pos h1', if_pos h1]
 ·have h1' := h1
  unfold badE at h1'
  rw [if_neg h1', if_neg h1]
  have hh := Zhr (by simpa using h1)
  rw [if_pos (by simp)]
  simp only [Option.bind_some]
  rw [ZiH hh]
  have hw : w64 ((0 : Int) + 1) = 1 := by decide
  rw [hw, Zci]
  rw [if_pos (by simp)]
  have hr1 : rd ([l.A, l.B] : List End) 1 = some l.B := rfl
  rw [hr1]
  simp only [Option.bind_some]
  by_cases h2 : badE g.Switches (m ++ [(l.A, ⟨l.B, s18.2⟩)]) l.B = true
  ·have h2' := h2
   unfold badE at h2'
   rw [if_pos h2', if_pos h2]
  ·have h2' := h2
   unfold badE at h2'
   rw [if_neg h2', if_neg h2]
   have hh2 := Zhr (by simpa using h2)
   have hne : ¬ l.B = l.A := fun e => by rw [ZiJ] at hh2; simp [e] at hh2
   rw [if_neg (by simp [hne])]
   simp only [Option.bind_some]
   rw [ZiH hh2]
   have hw2 : w64 ((1 : Int) + 1) = 2 := by decide
   rw [hw2, Zci]
   rw [if_neg (by simp)]
theorem ZkP (k : Nat) (hk : 3 ≤ k) (g : Graph) (hb : g.Links.length < 9223372036854775808) : ∀ (q i : Nat) (m : Zeh), i ≤ g.Links.length → g.Links.length - i < q →
  ZcR k g q (m, (i : Int)) = some (match Zea g.Switches (g.Links.drop i) i m with | none => .ret (none, false) | some m' => .out m') := by
 intro q
 induction q with
 | zero => intro i m _ h; omega
 | succ q ih =>
  intro i m hi hq
  rw [ZcR]
  by_cases hlt : i < g.Links.length
  ·rw [if_pos (by simp; omega)]
   have hrd : rd g.Links (i : Int) = some g.Links[i] := by unfold rd; rw [if_pos (by omega)]; simp [hlt]
   have hdrop : g.Links.drop i = g.Links[i] :: g.Links.drop (i + 1) := List.drop_eq_getElem_cons hlt
   have hw : w64 ((i : Int) + 1) = ((i + 1 : Nat) : Int) := by rw [ZdJ (by omega) (by omega)]; omega
   simp only [hrd, Option.bind_some, hdrop, Zea]
   obtain ⟨k', rfl⟩ : ∃ k', k = k' + 3 := ⟨k - 3, by omega⟩
   rw [ZkO]
   generalize g.Links[i] = l
   unfold Ze3
   by_cases h1 : badE g.Switches m l.A = true
   ·simp [h1, LX.go]
   ·by_cases h2 : badE g.Switches (m ++ [(l.A, ⟨l.B, (i : Int)⟩)]) l.B = true
    ·simp [h1, h2, LX.go]
    ·simp only [h1, h2, if_false, Option.bind_some, LX.go]
     by_cases h3 : (l.A.Switch == l.B.Switch) = true
     ·simp [h3]
     ·simp only [h3, if_false, Option.bind_some]
      rw [hw]
      exact ih (i + 1) _ (by omega) (by omega)
  ·rw [if_neg (by simp; omega)]
   have : g.Links.drop i = [] := List.drop_eq_nil_of_le (by omega)
   rw [this]; rfl
def Zhw (g : Graph) : Option Zeh := if (decide (g.Switches < 1) || decide (g.Switches > 6)) = true then none else Zea g.Switches g.Links 0 []
theorem ZiB (k : Nat) (g : Graph) (hb : g.Links.length < 9223372036854775808) (hk : 3 ≤ k) (hk2 : g.Links.length < k) : ZdB k g = some (Zhw g, (Zhw g).isSome) := by
 unfold ZdB Zhw
 by_cases h : (decide (g.Switches < 1) || decide (g.Switches > 6)) = true
 ·rw [if_pos h, if_pos h]; rfl
 ·rw [if_neg h, if_neg h]
  have := ZkP k hk g hb k 0 [] (by omega) (by omega)
  rw [List.drop_zero] at this
  rw [show ((([] : List (End × Graph_side))), (0 : Int)) = (([] : Zeh), ((0 : Nat) : Int)) from rfl, this]
  cases Zea g.Switches g.Links 0 [] <;> rfl
structure SidesOk (n : Int) (m : Zeh) : Prop where
 nd : (m.map (·.1)).Nodup
 ok : ∀ p ∈ m, 1 ≤ p.1.Switch ∧ p.1.Switch ≤ n ∧ 1 ≤ p.1.Port ∧ p.1.Port ≤ 4 ∧ 0 ≤ p.2.link
theorem SidesOk.app {n : Int} {m : Zeh} {e : End} {v : Graph_side} (h : SidesOk n m) (hb : badE n m e = false) (hv : 0 ≤ v.link) : SidesOk n (m ++ [(e, v)]) := by
 have hh := Zhr hb
 unfold badE at hb
 simp at hb
 refine ⟨?_, ?_⟩
 ·rw [List.map_append, List.nodup_append]
  refine ⟨h.nd, by simp, ?_⟩
  rintro a ha b hb' rfl
  simp at hb'; subst hb'
  rw [← ZiI, hh] at ha; cases ha
 ·intro p hp
  rcases List.mem_append.1 hp with hp | hp
  ·exact h.ok p hp
  ·simp at hp; subst hp; simp only; omega
theorem ZjF {n : Int} : ∀ (ls : List Link) (i : Nat) (m m' : Zeh), SidesOk n m → Zea n ls i m = some m' → SidesOk n m' := by
 intro ls
 induction ls with
 | nil => intro i m m' h e; cases e; exact h
 | cons l ls ih =>
  intro i m m' h e
  simp only [Zea] at e
  cases ha : Ze3 n m i l with
  | none => rw [ha] at e; cases e
  | some m1 =>
   rw [ha] at e
   refine ih (i + 1) m1 m' ?_ e
   unfold Ze3 at ha
   split at ha
   ·cases ha
   ·rename_i h1
    split at ha
    ·cases ha
    ·rename_i h2
     split at ha
     ·cases ha
     ·cases ha
      exact (h.app (by simpa using h1) (by simp)).app (by simpa using h2) (by simp)
theorem ZiZ {n : Int} : ∀ (ls : List Link) (i : Nat) (m m' : Zeh), Zea n ls i m = some m' → m'.length = m.length + 2 * ls.length := by
 intro ls
 induction ls with
 | nil => intro i m m' e; cases e; simp
 | cons l ls ih =>
  intro i m m' e
  simp only [Zea] at e
  cases ha : Ze3 n m i l with
  | none => rw [ha] at e; cases e
  | some m1 =>
   rw [ha] at e
   have := ih (i + 1) m1 m' e
   have hm : m1.length = m.length + 2 := by
    unfold Ze3 at ha
    split at ha
    ·cases ha
    ·split at ha
     ·cases ha
     ·split at ha
      ·cases ha
      ·cases ha; simp
   simp only [List.length_cons]; omega
def ZgK (n : Int) (e : End) : Bool := decide (e.Switch ≥ 1) && (decide (e.Switch ≤ n) && (decide (e.Port ≥ 1) && decide (e.Port ≤ 4)))
theorem Zmi (k : Nat) (g : Graph) (e : End) : Zck k g e = some (ZgK g.Switches e) := by
 unfold Zck ZgK
 by_cases h1 : e.Switch ≥ 1 <;> by_cases h2 : e.Switch ≤ g.Switches <;> by_cases h3 : e.Port ≥ 1 <;> simp [h1, h2, h3]
def Zf4 (a b : Link) : Bool := decide (a.A = b.A) || (decide (a.A = b.B) || (decide (a.B = b.A) || decide (a.B = b.B)))
theorem Zi3 (k : Nat) (a b : Link) : ZbT k a b = some (Zf4 a b) := by
 unfold ZbT Zf4
 by_cases h1 : a.A = b.A
 ·simp [h1]
 ·by_cases h2 : a.A = b.B
  ·simp [h1, h2]
  ·by_cases h3 : a.B = b.A
   ·rw [if_neg (by simpa using h1), if_neg (by simpa using h2), if_pos (by simpa using h3)]; simp [h3]
   ·rw [if_neg (by simpa using h1), if_neg (by simpa using h2), if_neg (by simpa using h3)]; simp [h1, h2, h3]
def ZgY (n : Int) (seen : List Link) (l : Link) : Bool := ZgK n l.A && (ZgK n l.B && (!(l.A.Switch == l.B.Switch) && !(seen.any (Zf4 l))))
def wf (n : Int) : List Link → List Link → Bool
 | _, [] => true
 | seen, l :: ls => ZgY n seen l && wf n (seen ++ [l]) ls
theorem Zjx (n : Int) (seen : List Link) (l : Link) (ls : List Link) : wf n seen (l :: ls) = (ZgY n seen l && wf n (seen ++ [l]) ls) := rfl
theorem Znd (k : Nat) (g : Graph) (i : Nat) (l : Link) (hi : i ≤ g.Links.length) (hb : g.Links.length < 9223372036854775808) : ∀ (q j : Nat), j ≤ i → i - j < q →
  Zbq k g (i : Int) l q (j : Int) = some (if ((g.Links.take i).drop j).any (Zf4 l) = true then .ret (.ret 2) else .out ()) := by
 intro q
 induction q with
 | zero => intro j _ h; omega
 | succ q ih =>
  intro j hj hq
  rw [Zbq]
  by_cases hlt : j < i
  ·have hd : (g.Links.take i).drop j = g.Links[j] :: (g.Links.take i).drop (j + 1) := by
    rw [List.drop_eq_getElem_cons (by simp; omega)]; simp
   rw [if_pos (by simp; omega), ZbX (by omega), hd]
   simp only [Option.bind_some, Zi3, List.any_cons]
   by_cases hs : Zf4 l g.Links[j] = true
   ·simp [hs]
   ·rw [if_neg hs, w64n (by omega), ih (j + 1) (by omega) (by omega)]
    simp [hs]
  ·rw [if_neg (by simp; omega)]
   have : (g.Links.take i).drop j = [] := List.drop_eq_nil_of_le (by simp; omega)
   simp [this]
theorem Zne (k : Nat) (g : Graph) (hb : g.Links.length < 9223372036854775808) (hk : g.Links.length < k) : ∀ (q i : Nat), i ≤ g.Links.length → g.Links.length - i < q →
  Zbr k g q (i : Int) = some (if wf g.Switches (g.Links.take i) (g.Links.drop i) = true then .out () else .ret 2) := by
 intro q
 induction q with
 | zero => intro i _ h; omega
 | succ q ih =>
  intro i hi hq
  rw [Zbr]
  by_cases hlt : i < g.Links.length
  ·have hd : g.Links.drop i = g.Links[i] :: g.Links.drop (i + 1) := List.drop_eq_getElem_cons hlt
   have ht : g.Links.take i ++ [g.Links[i]] = g.Links.take (i + 1) := by rw [List.take_succ_eq_append_getElem hlt]
   rw [if_pos (by simp; omega), ZbX hlt, hd]
   rw [Zjx]
   unfold ZgY
   simp only [Option.bind_some, Zmi]
   have h1 := Znd k g i g.Links[i] hi hb k 0 (by omega) (by omega)
   rw [List.drop_zero] at h1
   have h1' : Zbq k g (i : Int) g.Links[i] k 0 = _ := h1
   have ih' := ih (i + 1) (by omega) (by omega)
   rw [← ht] at ih'
   rw [h1', w64n (by omega), ih']
   cases ZgK g.Switches g.Links[i].A <;> cases ZgK g.Switches g.Links[i].B <;> cases (g.Links[i].A.Switch == g.Links[i].B.Switch) <;> cases (g.Links.take i).any (Zf4 g.Links[i]) <;> simp [LX.go]
  ·rw [if_neg (by simp; omega)]
   have : g.Links.drop i = [] := List.drop_eq_nil_of_le (by omega)
   simp [this, wf]
def okG (g : Graph) : Bool := !(decide (g.Switches < 1) || (decide (g.Switches > 6) || decide ((g.Links.length : Int) > 12))) && wf g.Switches [] g.Links
theorem ZhD (k : Nat) (g : Graph) (hb : g.Links.length < 9223372036854775808) (hk : g.Links.length < k) : Zb2 k g = some (if okG g = true then 0 else 2) := by
 unfold Zb2 okG
 cases hc : (decide (g.Switches < 1) || (decide (g.Switches > 6) || decide ((g.Links.length : Int) > 12))) with
 | true => simp
 | false =>
  have := Zne k g hb hk k 0 (by omega) (by omega)
  rw [List.drop_zero, List.take_zero] at this
  have h' : Zbr k g k 0 = _ := this
  rw [h']
  cases wf g.Switches [] g.Links <;> simp [LX.go]
def entries : Nat → List Link → Zeh
 | _, [] => []
 | i, l :: ls => (l.A, ⟨l.B, i⟩) :: (l.B, ⟨l.A, i⟩) :: entries (i + 1) ls
theorem Zin (ls : List Link) (l : Link) : ∀ i, entries i (ls ++ [l]) = entries i ls ++ [(l.A, ⟨l.B, ((i + ls.length : Nat) : Int)⟩)] ++ [(l.B, ⟨l.A, ((i + ls.length : Nat) : Int)⟩)] := by
 induction ls with
 | nil => intro i; simp [entries]
 | cons x ls ih =>
  intro i
  simp only [List.cons_append, entries, ih, List.length_cons]
  rw [show i + 1 + ls.length = i + (ls.length + 1) by omega]
theorem Zf7 (ls : List Link) (e : End) : ∀ i, mhas (entries i ls) e = ls.any fun l => decide (e = l.A) || decide (e = l.B) := by
 induction ls with
 | nil => intro i; rfl
 | cons x ls ih =>
  intro i
  have := ih (i + 1)
  unfold mhas at *
  simp only [entries, mget?, List.any_cons]
  by_cases h1 : e = x.A
  ·simp [h1]
  ·by_cases h2 : e = x.B
   ·rw [if_neg h1, if_pos h2]; simp [h2]
   ·rw [if_neg h1, if_neg h2, this]; simp [h1, h2]
theorem Zh3 (seen : List Link) (l : Link) : seen.any (Zf4 l) = ((seen.any fun x => decide (l.A = x.A) || decide (l.A = x.B)) || (seen.any fun x => decide (l.B = x.A) || decide (l.B = x.B))) := by
 induction seen with
 | nil => rfl
 | cons x seen ih =>
  simp only [List.any_cons, ih, Zf4]
  cases decide (l.A = x.A) <;> cases decide (l.A = x.B) <;> cases decide (l.B = x.A) <;> cases decide (l.B = x.B) <;> simp
theorem Zg3 (n : Int) (m : Zeh) (e : End) : badE n m e = (mhas m e || !ZgK n e) := by
 unfold badE ZgK
 congr 1
 rw [Bool.eq_iff_iff]; simp <;> omega
theorem Zju (n : Int) (seen : List Link) (l : Link) : Ze3 n (entries 0 seen) (seen.length : Int) l = if ZgY n seen l = true then some (entries 0 (seen ++ [l])) else none := by
 unfold Ze3 ZgY
 rw [Zg3, Zg3, ZiJ, Zf7, Zf7, Zh3, Zin]
 simp only [Nat.zero_add]
 by_cases he : l.B = l.A
 ·simp [he]
 ·cases ZgK n l.A <;> cases ZgK n l.B <;> cases (l.A.Switch == l.B.Switch) <;> cases (seen.any fun x => decide (l.A = x.A) || decide (l.A = x.B)) <;> cases (seen.any fun x => decide (l.B = x.A) || decide (l.B = x.B)) <;> simp [he]
theorem ZjG (n : Int) : ∀ (ls seen : List Link), Zea n ls seen.length (entries 0 seen) = if wf n seen ls = true then some (entries 0 (seen ++ ls)) else none := by
 intro ls
 induction ls with
 | nil => intro seen; simp [Zea, wf]
 | cons l ls ih =>
  intro seen
  rw [Zjx]
  simp only [Zea, Zju]
  cases ZgY n seen l with
  | false => simp
  | true =>
   have := ih (seen ++ [l])
   simp only [List.length_append, List.length_cons, List.length_nil, Nat.zero_add, List.append_assoc, List.cons_append, List.nil_append] at this
   simp [this]
theorem Zfm {α : Type} [DecidableEq α] : ∀ {l m : List α}, l.Nodup → (∀ x ∈ l, x ∈ m) → l.length ≤ m.length := by
 intro l
 induction l with
 | nil => intro m _ _; simp
 | cons a l ih =>
  intro m hn hs
  have ha : a ∈ m := hs a (by simp)
  have hn' := List.nodup_cons.1 hn
  have := ih (m := m.erase a) hn'.2 (fun x hx => (List.mem_erase_of_ne (fun e : x = a => hn'.1 (by rw [← e]; exact hx))).2 (hs x (by simp [hx])))
  rw [List.length_erase_of_mem ha] at this
  have : 0 < m.length := List.length_pos_of_mem ha
  simp only [List.length_cons]; omega
def Ziv : List End := ([1, 2, 3, 4, 5, 6] : List Int).flatMap fun s => ([1, 2, 3, 4] : List Int).map fun p => ⟨s, p⟩
theorem ZjE {n : Int} {m : Zeh} (h : SidesOk n m) (hn : n ≤ 6) : m.length ≤ 24 := by
 have := Zfm (α := End) (l := m.map (·.1)) (m := Ziv) h.nd (fun e he => by
  obtain ⟨p, hp, rfl⟩ := List.mem_map.1 he
  have := h.ok p hp
  simp only [Ziv, List.mem_flatMap, List.mem_map]
  refine ⟨p.1.Switch, ?_, p.1.Port, ?_, rfl⟩
  ·have : p.1.Switch = 1 ∨ p.1.Switch = 2 ∨ p.1.Switch = 3 ∨ p.1.Switch = 4 ∨ p.1.Switch = 5 ∨ p.1.Switch = 6 := by omega
   rcases this with h | h | h | h | h | h <;> rw [h] <;> simp
  ·have : p.1.Port = 1 ∨ p.1.Port = 2 ∨ p.1.Port = 3 ∨ p.1.Port = 4 := by omega
   rcases this with h | h | h | h <;> rw [h] <;> simp)
 simpa [Ziv] using this
theorem Zhv (g : Graph) : Zhw g = if okG g = true then some (entries 0 g.Links) else none := by
 unfold Zhw okG
 by_cases hn : (decide (g.Switches < 1) || decide (g.Switches > 6)) = true
 ·rw [if_pos hn, if_neg]
  simp at hn ⊢; omega
 ·rw [if_neg hn]
  have hs := ZjG g.Switches g.Links []
  simp only [List.length_nil, List.nil_append] at hs
  have hs' : Zea g.Switches g.Links 0 [] = _ := hs
  rw [hs']
  cases hw : wf g.Switches [] g.Links with
  | false => simp
  | true =>
   rw [hw, if_pos rfl] at hs'
   have hok := ZjF _ _ _ _ ⟨by simp, by simp⟩ hs'
   simp at hn
   have h24 := ZjE hok (by omega)
   have hlen := ZiZ _ _ _ _ hs'
   simp only [List.length_nil, Nat.zero_add] at hlen
   rw [if_pos rfl, if_pos]
   simp; omega
def Zhm : Nat → List Link → End → Option (End × Int)
 | _, [], _ => none
 | i, l :: ls, e => if l.A = e then some (l.B, i) else if l.B = e then some (l.A, i) else Zhm (i + 1) ls e
theorem ZhH (e : End) : ∀ (ls : List Link) (i : Nat), mget? (entries i ls) e = (Zhm i ls e).map fun x => (⟨x.1, x.2⟩ : Graph_side) := by
 intro ls
 induction ls with
 | nil => intro i; rfl
 | cons l ls ih =>
  intro i
  simp only [entries, mget?, Zhm]
  by_cases h1 : l.A = e
  ·rw [if_pos h1.symm, if_pos h1]; rfl
  ·rw [if_neg (fun h => h1 h.symm), if_neg h1]
   by_cases h2 : l.B = e
   ·rw [if_pos h2.symm, if_pos h2]; rfl
   ·rw [if_neg (fun h => h2 h.symm), if_neg h2, ih]
theorem Zh5 (k : Nat) (g : Graph) (e : End) (hb : g.Links.length < 9223372036854775808) : ∀ (q i : Nat), i ≤ g.Links.length → g.Links.length - i < q →
  ZbE k g e q (i : Int) = some (match Zhm i (g.Links.drop i) e with | some x => .ret (x.1, x.2, true) | none => .out ()) := by
 intro q
 induction q with
 | zero => intro i _ h; omega
 | succ q ih =>
  intro i hi hq
  rw [ZbE]
  by_cases hlt : i < g.Links.length
  ·have hd : g.Links.drop i = g.Links[i] :: g.Links.drop (i + 1) := List.drop_eq_getElem_cons hlt
   rw [if_pos (by simp; omega), ZbX hlt, hd]
   simp only [Option.bind_some, Zhm]
   by_cases h1 : g.Links[i].A = e
   ·rw [if_pos (by simpa using h1), if_pos h1]
   ·rw [if_neg (by simpa using h1), if_neg h1]
    by_cases h2 : g.Links[i].B = e
    ·rw [if_pos (by simpa using h2), if_pos h2]
    ·rw [if_neg (by simpa using h2), if_neg h2, w64n (by omega), ih (i + 1) (by omega) (by omega)]
  ·rw [if_neg (by simp; omega)]
   have : g.Links.drop i = [] := List.drop_eq_nil_of_le (by omega)
   simp [this, Zhm]
def Zec (g : Graph) (e : End) : End × Int × Bool :=
 match if okG g = true then Zhm 0 g.Links e else none with
 | some x => (x.1, x.2, true)
 | none => (⟨0, 0⟩, 0, false)
theorem ZkS (k : Nat) (g : Graph) (e : End) (hb : g.Links.length < 9223372036854775808) (hk : g.Links.length < k) : ZcC k g e = some (Zec g e) := by
 unfold ZcC Zec
 rw [ZhD k g hb hk]
 simp only [Option.bind_some]
 cases okG g with
 | false => simp
 | true =>
  have := Zh5 k g e hb k 0 (by omega) (by omega)
  rw [List.drop_zero] at this
  have h' : ZbE k g e k 0 = _ := this
  rw [if_pos rfl, if_neg (by decide), h', if_pos rfl]
  cases Zhm 0 g.Links e <;> simp [LX.go]
theorem Zmp (k : Nat) (g : Graph) (e : End) (hb : g.Links.length < 9223372036854775808) (hk : 3 ≤ k) (hk2 : g.Links.length < k) : ZdP k g e = some (Zec g e) := by
 unfold ZdP Zec
 rw [ZiB k g hb hk hk2, Zhv]
 simp only [Option.bind_some]
 cases okG g with
 | false => simp [mgetD, mhas, mget?]
 | true =>
  simp only [if_true, Option.getD_some, mgetD, mhas, ZhH]
  cases Zhm 0 g.Links e <;> simp
theorem ZlA (k : Nat) (g : Graph) (hb : g.Links.length < 9223372036854775808) (hk : 3 ≤ k) (hk2 : g.Links.length < k) : ZdW k g = some (if okG g = true then 0 else 2) := by
 unfold ZdW
 rw [ZiB k g hb hk hk2, Zhv]
 simp only [Option.bind_some]
 cases okG g <;> simp
theorem slcN {α : Type} (n : Nat) (l : List α) : slc l 0 (imin (l.length : Int) (n : Int)) = some (l.take n) := by
 unfold slc imin
 split
 ·rename_i h
  rw [if_pos (by omega)]; simp
 ·rename_i h
  rw [if_pos (by omega)]
  simp only [Int.toNat_zero, List.drop_zero, Int.toNat_natCast, Nat.sub_zero]
  rw [List.take_of_length_le (by omega), List.take_of_length_le (by omega)]
end Go.Cat.G3

