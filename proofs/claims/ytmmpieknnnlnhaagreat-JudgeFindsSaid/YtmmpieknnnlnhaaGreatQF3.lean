/- A text of the proof of the seat's laws: a step logic over the machine, or pure functions that the Go functions come to. No condition. -/
import Derived.Test.YtmmpieknnnlnhaaGreatQF2
import Derived.Test.YtmmpieknnnlnhaaGreatZ7
namespace Go.Cat.G3
open Go Go.Cat Go.Proofs
set_option linter.unusedVariables false
set_option linter.unusedSimpArgs false
theorem ZnL {α : Type} {P : α → Nat → Prop} : ∀ (l : List α), (∀ x ∈ l, ∃ K, ∀ k, K ≤ k → P x k) → ∃ K, ∀ k, K ≤ k → ∀ x ∈ l, P x k := by
 intro l
 induction l with
 | nil => intro _; exact ⟨0, fun k _ x h => by cases h⟩
 | cons a l ih =>
  intro h
  obtain ⟨K1, h1⟩ := h a (by simp)
  obtain ⟨K2, h2⟩ := ih fun x hx => h x (by simp [hx])
  refine ⟨K1 + K2, fun k hk x hx => ?_⟩
  rcases List.mem_cons.1 hx with rfl | hx
  ·exact h1 k (by omega)
  ·exact h2 k (by omega) x hx
structure EvK (k : Nat) (vs : List Version) (e : Event) : Prop where
 len : e.Sent.length < 9223372036854775808
 len2 : e.Sent.length < k
 pr : ∀ v, verP vs e.Ver = some v → Zb5 k v.Nodes e.Switch e.Port e.H e.Sent = some (Zga v.Nodes e.Switch e.Port e.H e.Sent)
 rf : ZbY k vs e = some (Zf8 vs e)
def EvB (e : Event) : Prop := e.Sent.length < 9223372036854775808 ∧ BI e.H.e0 ∧ BI e.H.e1 ∧ BI e.H.e2
theorem evK (vs : List Version) (hb : vs.length < 1000000) (e : Event) (h : EvB e) : ∃ K, ∀ k, K ≤ k → EvK k vs e := by
 obtain ⟨h0, h1, h2, h3⟩ := h
 obtain ⟨K1, k1⟩ := Zmj vs hb e h1 h2 h3
 have hH : ∃ K, ∀ k, K ≤ k → ∀ v, verP vs e.Ver = some v → Zb5 k v.Nodes e.Switch e.Port e.H e.Sent = some (Zga v.Nodes e.Switch e.Port e.H e.Sent) := by
  cases hv : verP vs e.Ver with
  | none => exact ⟨0, fun k _ v h => by cases h⟩
  | some v =>
   obtain ⟨K, hK⟩ := ZgZ v.Nodes e.Switch e.Port e.H e.Sent h1 h2 h3
   exact ⟨K, fun k hk w h => by cases h; exact (hK k hk).1⟩
 obtain ⟨K2, k2⟩ := hH
 exact ⟨K1 + K2 + e.Sent.length + 1, fun k hk => ⟨h0, by omega, k2 k (by omega), k1 k (by omega)⟩⟩
theorem Zib (m : List (Int × List Judge_seen)) (a b : Int) (v : List Judge_seen) : mgetD (mput m a v) b [] = if b = a then v else mgetD m b [] := by
 induction m with
 | nil => simp [mput, mgetD, mget?]; split <;> simp_all
 | cons p m ih =>
  unfold mput
  split
  ·rename_i h
   subst h
   simp only [mgetD, mget?]
   split <;> simp_all
  ·rename_i h
   simp only [mgetD, mget?] at *
   split
   ·rename_i h2; subst h2
    rw [if_neg (fun hh => h hh.symm)]
   ·exact ih
theorem Zle (k : Nat) (g : Graph) (vs : List Version) (m : List (Int × List Judge_seen)) (sn : List Judge_seen) (e : Event) (hm : MOk m sn) (hs : SnOk k sn) (hb : sn.length < 1000000) (hk : 1000000 ≤ k)
  (hg : g.Links.length < 9223372036854775808) (hg2 : g.Links.length < k) (hvb : vs.length < 1000000) (hn : (vs.map (·.Ver)).Nodup) (he : EvK k vs e) :
  Zcy k ⟨g, Zfg vs, some m⟩ e = some (Ze1 g vs sn e, if Ze1 g vs sn e = 0 then mput m e.Id (mgetD m e.Id [] ++ [⟨e, Zdf g sn e⟩]) else m) := by
 have hLIM : LIM = 68719476736 := rfl
 unfold Zcy Ze1
 rw [Zlc k _ e he.len he.len2]
 simp only [Option.bind_some]
 cases hsh : Zfr g e with
 | false => simp
 | true =>
  have hsl : (Zfg vs).length = vs.length := (ZfP vs).length_eq
  rw [j_of k ⟨g, Zfg vs, some m⟩ (Zf3 vs) (by show (Zfg vs).length < _; omega) (by show (Zfg vs).length < _; omega) e.Ver]
  rw [show verP (Zfg vs) e.Ver = verP vs e.Ver from (Zjz (ZfP vs).symm hn e.Ver).symm]
  rw [ZmD k g (Zfg vs) m sn e hm hs hb hk hg hg2]
  simp only [Bool.not_true, Bool.false_eq_true, if_false, if_true, Option.bind_some]
  have hmean : ((if (!(Zh9 (verP vs e.Ver)).2) = true then some (!(Zh9 (verP vs e.Ver)).2)
    else if (decide ((e.Sent.length : Int) > 0)) = true then (Zb5 k (Zh9 (verP vs e.Ver)).1 e.Switch e.Port e.H e.Sent).bind fun y193 => some (!y193)
    else some false) : Option Bool) = some (!Zf8 vs e) := by
   unfold Zf8
   cases hv : verP vs e.Ver with
   | none => simp [Zh9]
   | some v =>
    have := he.pr v hv
    simp only [Zh9, Bool.not_true, Bool.false_eq_true, if_false]
    cases hS : e.Sent with
    | nil => simp
    | cons a l =>
     rw [hS] at this
     rw [this]
     simp
  rw [hmean]
  simp only [Option.bind_some]
  cases hme : Zf8 vs e with
  | false => simp
  | true =>
   have h1 := j_one k m sn e hm hb hk
   have h1' : Zaw k (mgetD ((some m).getD []) e.Id ([] : (List Judge_seen))) e = _ := h1
   simp only [Bool.not_true, Bool.false_eq_true, if_false, h1', Option.bind_some]
   cases ho : oneP sn e with
   | false => simp
   | true =>
    simp only [Bool.not_true, Bool.false_eq_true, if_false, if_true]
    by_cases hd : Zdf g sn e = 0
    ·rw [if_pos (by simpa using hd), if_pos hd]; simp
    ·rw [if_neg (by simpa using hd), if_neg hd]
     by_cases hd12 : Zdf g sn e > 12
     ·rw [if_pos (by simpa using hd12), if_pos hd12]; simp
     ·rw [if_neg (by simpa using hd12), if_neg hd12]
      have hl : (mgetD m e.Id []).length ≤ sn.length := by rw [hm e.Id]; exact List.length_filter_le _ _
      have hmm : mgetD ((some m).getD []) e.Id ([] : List Judge_seen) = mgetD m e.Id [] := rfl
      rw [hmm, app, if_pos (by simp; omega)]
      simp
theorem ZhV (g : Graph) (k : Nat) (sn : List Judge_seen) (hs : SnOk k sn) (e : Event) : 0 ≤ Zdf g sn e := by
 unfold Zdf
 split
 ·omega
 ·split
  ·have key : ∀ (l : List Judge_seen) (d : Int), (∀ s ∈ l, 1 ≤ s.depth ∧ s.depth ≤ 12) → 0 ≤ d ∧ d ≤ 13 → 0 ≤ l.foldl (Zfp e (Zec g ⟨e.Switch, e.Port⟩).1) d := by
    intro l
    induction l with
    | nil => intro d _ h; exact h.1
    | cons s l ih => intro d h hd; rw [List.foldl_cons]; exact ih _ (fun t ht => h t (by simp [ht])) (Zg5 hd (h s (by simp)))
   exact key sn 0 (fun s h => ⟨(hs s h).1, (hs s h).2.1⟩) (by omega)
  ·omega
theorem Zis {g : Graph} {vs : List Version} {sn : List Judge_seen} {e : Event} (h : Ze1 g vs sn e = 0) : Zdf g sn e ≠ 0 ∧ Zdf g sn e ≤ 12 := by
 unfold Ze1 at h
 split at h
 ·split at h
  ·split at h
   ·split at h
    ·cases h
    ·split at h
     ·cases h
     ·constructor <;> omega
   ·cases h
  ·cases h
 ·cases h
theorem SnOk.snoc {k : Nat} {sn : List Judge_seen} (hs : SnOk k sn) {g : Graph} {vs : List Version} {e : Event} (h : Ze1 g vs sn e = 0) (he : EvK k vs e) : SnOk k (sn ++ [⟨e, Zdf g sn e⟩]) := by
 intro s h2
 rcases List.mem_append.1 h2 with h2 | h2
 ·exact hs s h2
 ·simp at h2; subst h2
  have := Zis h
  have := ZhV g k sn hs e
  exact ⟨by dsimp only; omega, by dsimp only; omega, he.len, he.len2⟩
theorem MOk.snoc {m : List (Int × List Judge_seen)} {sn : List Judge_seen} (hm : MOk m sn) (s : Judge_seen) : MOk (mput m s.Event.Id (mgetD m s.Event.Id [] ++ [s])) (sn ++ [s]) := by
 intro id
 rw [Zib, List.filter_append]
 by_cases h : id = s.Event.Id
 ·subst h; rw [if_pos rfl, hm]; simp
 ·rw [if_neg h, hm]; simp; exact fun h2 => h h2.symm
theorem Zj4 (k : Nat) (g : Graph) (vs : List Version) (ev : List Event) (hb : ev.length < 1000000) (hk : 1000000 ≤ k)
  (hg : g.Links.length < 9223372036854775808) (hg2 : g.Links.length < k) (hvb : vs.length < 1000000) (hn : (vs.map (·.Ver)).Nodup) (he : ∀ e ∈ ev, EvK k vs e) :
  ∀ (q i : Nat) (m : List (Int × List Judge_seen)) (sn : List Judge_seen), i ≤ ev.length → ev.length - i < q → sn.length = i → MOk m sn → SnOk k sn →
  ZcN k g (Zfg vs) ev q ((i : Int), m) = some (Zgh g vs (ev.drop i) sn (i : Int)) := by
 intro q
 induction q with
 | zero => intro i _ _ _ h; omega
 | succ q ih =>
  intro i m sn hi hq hl hm hs
  rw [ZcN]
  by_cases hlt : i < ev.length
  ·have hek := he _ (List.getElem_mem hlt)
   rw [if_pos (by simp; omega), ZbX hlt, List.drop_eq_getElem_cons hlt, Zgh]
   simp only [Option.bind_some]
   rw [Zle k g vs m sn ev[i] hm hs (by omega) hk hg hg2 hvb hn hek]
   simp only [Option.bind_some]
   by_cases hc : Ze1 g vs sn ev[i] = 0
   ·rw [if_neg (by simp [hc]), if_pos hc, if_pos hc, w64n (by omega)]
    exact ih (i + 1) _ _ (by omega) (by omega) (by simp [hl]) (hm.snoc ⟨ev[i], Zdf g sn ev[i]⟩) (hs.snoc hc hek)
   ·rw [if_pos (by simpa using hc), if_neg hc]
  ·rw [if_neg (by simp; omega), ZbU hlt]; rfl
theorem ZjR (k : Nat) (g : Graph) (vs : List Version) (ev : List Event) (hb : ev.length < 1000000) (hk : 1000000 ≤ k)
  (hg : g.Links.length < 9223372036854775808) (hg2 : g.Links.length < k) (hvb : vs.length < 1000000) (he : ∀ e ∈ ev, EvK k vs e) :
  ∀ (q i : Nat) (sn : List Judge_seen), i ≤ ev.length → ev.length - i < q → sn.map (·.Event) = ev.take i → SnOk k sn →
  ZbA k g vs ev q (sn.map (·.depth), (i : Int)) = some (Zgh g vs (ev.drop i) sn (i : Int)) := by
 have hLIM : LIM = 68719476736 := rfl
 intro q
 induction q with
 | zero => intro i _ _ h; omega
 | succ q ih =>
  intro i sn hi hq hsn hs
  have hlen : sn.length = i := by have := congrArg List.length hsn; simp at this; omega
  rw [ZbA]
  by_cases hlt : i < ev.length
  ·have hek := he _ (List.getElem_mem hlt)
   rw [if_pos (by simp; omega), ZbX hlt, List.drop_eq_getElem_cons hlt, Zgh]
   simp only [Option.bind_some]
   simp only [ZkU k g _ hek.len hek.len2, Zmk k g ev sn i hlt hsn hs hb hk hg hg2, hek.rf, r_one k ev sn i hlt hsn hb hk, Option.bind_some]
   have happ : app (sn.map (·.depth)) [Zdf g sn ev[i]] = some (sn.map (·.depth) ++ [Zdf g sn ev[i]]) := by rw [app, if_pos (by simp; omega)]
   have hw : w64 ((i : Int) + 1) = ((i + 1 : Nat) : Int) := w64n (by omega)
   simp only [happ, hw, Option.bind_some]
   have ih' := fun (hc : Ze1 g vs sn ev[i] = 0) => ih (i + 1) (sn ++ [⟨ev[i], Zdf g sn ev[i]⟩]) (by omega) (by omega) (by rw [List.map_append, hsn, ← List.take_append_getElem hlt]; rfl) (hs.snoc hc hek)
   simp only [List.map_append, List.map_cons, List.map_nil] at ih'
   unfold Ze1 at ih' ⊢
   cases h1 : Zfr g ev[i] with
   | false => simp
   | true =>
    cases h2 : Zf8 vs ev[i] with
    | false => simp
    | true =>
     cases h3 : oneP sn ev[i] with
     | false => simp
     | true =>
      by_cases h4 : Zdf g sn ev[i] = 0
      ·simp [h4]
      ·by_cases h5 : Zdf g sn ev[i] > 12
       ·simp [h4, h5]
       ·rw [h1, h2, h3] at ih'
        simp only [if_true, if_neg h4, if_neg h5] at ih'
        have := ih' trivial
        simp only [Bool.not_true, Bool.false_eq_true, if_false, if_true, if_neg h4, if_neg h5]
        rw [if_neg (by simpa using h4), if_neg (by simpa using h5)]
        exact this
  ·rw [if_neg (by simp; omega), ZbU hlt]; rfl
theorem ZhT (g : Graph) (vs : List Version) (ev : List Event) (hg : g.Links.length < 9223372036854775808) (hvb : vs.length < 1000000) (hb : ev.length < 1000000) (he : ∀ e ∈ ev, EvB e) :
  ∃ K, ∀ k, K ≤ k → ZdA k g vs ev = some (ZkA g vs ev) ∧ ZcA k g vs ev = some (ZkA g vs ev) := by
 obtain ⟨K, hK⟩ := ZnL ev fun e h => evK vs hvb e (he e h)
 refine ⟨K + g.Links.length + 1000001, fun k hk => ⟨?_, ?_⟩⟩
 ·unfold ZdA ZkA
  rw [ZmE k g vs ev (by omega) (by omega) hg hvb]
  simp only [Option.bind_some]
  by_cases ha : ZfL g vs ev.length = 0
  ·rw [if_neg (by simp [ha]), if_pos ha]
   have hn : (vs.map (·.Ver)).Nodup := by
    unfold ZfL at ha
    split at ha
    ·split at ha
     ·cases ha
     ·split at ha
      ·rename_i h; simpa using ZjB vs [] h .nil
      ·cases ha
    ·cases ha
   rw [if_pos ⟨hvb, hn⟩]
   have := Zj4 k g vs ev hb (by omega) hg (by omega) hvb hn (hK k (by omega)) k 0 [] [] (by omega) (by omega) rfl (fun id => rfl) (fun s h => by cases h)
   rw [List.drop_zero] at this
   have h' : ZcN k g (Zfg vs) ev k (0, []) = _ := this
   rw [h']
   have : Zgh g vs ev [] ((0 : Nat) : Int) = Zgh g vs ev [] 0 := rfl
   rw [this]
   cases Zgh g vs ev [] 0 <;> rfl
  ·rw [if_pos (by simpa using ha), if_neg ha]
 ·unfold ZcA ZkA
  rw [Zml k g vs ev (by omega) (by omega) hg hvb]
  simp only [Option.bind_some]
  by_cases ha : ZfL g vs ev.length = 0
  ·rw [if_neg (by simp [ha]), if_pos ha]
   have := ZjR k g vs ev hb (by omega) hg (by omega) hvb (hK k (by omega)) k 0 [] (by omega) (by omega) rfl (fun s h => by cases h)
   rw [List.drop_zero] at this
   have h' : ZbA k g vs ev k ([], 0) = _ := this
   rw [h']
   have : Zgh g vs ev [] ((0 : Nat) : Int) = Zgh g vs ev [] 0 := rfl
   rw [this]
   cases Zgh g vs ev [] 0 <;> rfl
  ·rw [if_pos (by simpa using ha), if_neg ha]
end Go.Cat.G3

