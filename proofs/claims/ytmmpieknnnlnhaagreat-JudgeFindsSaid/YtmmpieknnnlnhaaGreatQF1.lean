/- A text of the proof of the seat's laws: a step logic over the machine, or pure functions that the Go functions come to. No condition. -/
import Derived.Test.YtmmpieknnnlnhaaGreatQM4
namespace Go.Cat.G3
open Go Go.Cat Go.Proofs
set_option linter.unusedVariables false
set_option linter.unusedSimpArgs false
theorem Zhi (k : Nat) (x lo hi : Int) : ZaX k x lo hi = some (wi x lo hi) := by
 unfold ZaX wi; by_cases h : lo ≤ x <;> simp [h]
theorem ZfS (k : Nat) (x lo hi : Int) : ZaY k x lo hi = some (wi x lo hi) := by
 unfold ZaY wi; by_cases h : lo ≤ x <;> simp [h]
def ZeH (s : Sent) : Bool := wi s.Port 0 4
def Zfr (g : Graph) (e : Event) : Bool :=
 e.Sent.all ZeH && (wi e.Switch 1 g.Switches && (wi e.Port 0 4 && (wi e.Ver 1 200 && wi e.Id 1 4294967295)))
theorem Zie (k : Nat) (l : List Sent) (hb : l.length < 9223372036854775808) : ∀ (q i : Nat), i ≤ l.length → l.length - i < q →
  ∃ r, slices_IndexFunc___api_Sent_api_Sent__at124_l0 k l q (i : Int) = some r ∧ (if (l.drop i).all ZeH = true then r = .out () else ∃ z : Int, 0 ≤ z ∧ r = .ret z) := by
 intro q
 induction q with
 | zero => intro i _ h; omega
 | succ q ih =>
  intro i hi hq
  rw [slices_IndexFunc___api_Sent_api_Sent__at124_l0]
  by_cases hlt : i < l.length
  ·rw [if_pos (by simp; omega), ZbX hlt, ZgH hlt]
   simp only [Option.bind_some, ZcJ, Zhi]
   by_cases hc : ZeH l[i] = true
   ·obtain ⟨r, h1, h2⟩ := ih (i + 1) (by omega) (by omega)
    refine ⟨r, ?_, by rw [hc, Bool.true_and]; exact h2⟩
    unfold ZeH at hc
    rw [hc, w64n (by omega), h1]; simp
   ·have hc' : ZeH l[i] = false := by simpa using hc
    refine ⟨.ret i, ?_, ?_⟩
    ·unfold ZeH at hc'; rw [hc']; rfl
    ·rw [hc', Bool.false_and, if_neg (by simp)]; exact ⟨i, by omega, rfl⟩
  ·refine ⟨_, by rw [if_neg (by simp; omega)], ?_⟩
   rw [ZbU hlt]; simp
theorem Zlc (k : Nat) (lk : Judge_look) (e : Event) (hb : e.Sent.length < 9223372036854775808) (hk : e.Sent.length < k) : Zcx k lk e = some (Zfr lk.g e) := by
 unfold Zcx ZaL ZaQ Zfr
 obtain ⟨r, h1, h2⟩ := Zie k e.Sent hb k 0 (by omega) (by omega)
 have h1' : slices_IndexFunc___api_Sent_api_Sent__at124_l0 k e.Sent k 0 = _ := h1
 rw [h1']
 rw [List.drop_zero] at h2
 simp only [Zhi, Option.bind_some]
 cases ha : e.Sent.all ZeH with
 | true =>
  rw [ha, if_pos rfl] at h2; subst h2
  cases wi e.Switch 1 lk.g.Switches <;> cases wi e.Port 0 4 <;> cases wi e.Ver 1 200 <;> simp [LX.go]
 | false =>
  rw [ha, if_neg (by simp)] at h2; obtain ⟨z, hz, rfl⟩ := h2
  have : decide (z ≥ 0) = true := decide_eq_true hz
  simp [LX.go, this]
theorem Zh6 (k : Nat) (e : Event) (hb : e.Sent.length < 9223372036854775808) : ∀ (q i : Nat), i ≤ e.Sent.length → e.Sent.length - i < q →
  Zba k e q (i : Int) = some (if (e.Sent.drop i).all ZeH = true then .out () else .ret false) := by
 intro q
 induction q with
 | zero => intro i _ h; omega
 | succ q ih =>
  intro i hi hq
  rw [Zba]
  by_cases hlt : i < e.Sent.length
  ·rw [if_pos (by simp; omega), ZbX hlt, ZgH hlt]
   simp only [Option.bind_some, ZfS]
   rw [show wi e.Sent[i].Port 0 4 = ZeH e.Sent[i] from rfl]
   cases hc : ZeH e.Sent[i] with
   | true => rw [w64n (by omega), ih (i + 1) (by omega) (by omega)]; simp
   | false => simp
  ·rw [if_neg (by simp; omega), ZbU hlt]; simp
theorem ZkU (k : Nat) (g : Graph) (e : Event) (hb : e.Sent.length < 9223372036854775808) (hk : e.Sent.length < k) : ZbS k g e = some (Zfr g e) := by
 unfold ZbS Zfr
 have h1 := Zh6 k e hb k 0 (by omega) (by omega)
 have h1' : Zba k e k 0 = _ := h1
 rw [h1', List.drop_zero]
 simp only [ZfS, Option.bind_some]
 cases e.Sent.all ZeH <;> cases wi e.Switch 1 g.Switches <;> cases wi e.Port 0 4 <;> cases wi e.Ver 1 200 <;> simp [LX.go]
theorem half (lo hi : Nat) (h : lo + hi < 1000000000) : gshr .u64 (IntKind.u64.wrap (w64 ((lo : Int) + (hi : Int)))) 1 = some (((lo + hi) / 2 : Nat) : Int) := by
 rw [ZdJ (by omega) (by omega)]
 have : IntKind.u64.wrap ((lo : Int) + (hi : Int)) = (lo : Int) + (hi : Int) := by
  unfold IntKind.wrap; simp [IntKind.bits, IntKind.signed]; omega
 rw [this]
 unfold gshr
 rw [if_neg (by omega)]
 have e1 : (2 : Int) ^ (min (Int.toNat 1) IntKind.u64.bits) = 2 := rfl
 rw [e1, Int.fdiv_eq_ediv_of_nonneg _ (by omega)]
 congr 1
theorem ZmF {n : Nat} (h : n < 1000000000) : IntKind.i64.wrap (n : Int) = (n : Int) := ZdJ (by omega) (by omega)
theorem ZlQ (k : Nat) (v : Version) (x : Int) : Zcv k v x = some (cmpI v.Ver x) := by
 unfold Zcv ZbN ZcS cmpI
 simp only [Option.bind_some, bne_self_eq_false, Bool.false_eq_true, if_false]
 by_cases h1 : v.Ver < x
 ·simp [h1]
 ·by_cases h2 : x < v.Ver <;> simp [h1, h2]
theorem bs_l0 (k : Nat) (l : List Version) (hs : Zd0 l) (hb : l.length < 1000000) (x : Int) : ∀ (q lo hi : Nat), lo ≤ hi → hi ≤ l.length → hi - lo < q →
  (∀ i (h : i < l.length), i < lo → l[i].Ver < x) → (∀ i (h : i < l.length), hi ≤ i → x ≤ l[i].Ver) →
  ∃ p : Nat, Zap k l x q ((lo : Int), (hi : Int)) = some (p : Int) ∧ p ≤ l.length ∧ (∀ i (h : i < l.length), i < p → l[i].Ver < x) ∧ (∀ i (h : i < l.length), p ≤ i → x ≤ l[i].Ver) := by
 have hle : ∀ i j (hi : i < l.length) (hj : j < l.length), i < j → l[i].Ver ≤ l[j].Ver := fun i j hi hj hij => by
  have := (List.pairwise_iff_getElem.1 hs) i j hi hj hij; omega
 intro q
 induction q with
 | zero => intro lo hi _ _ h; omega
 | succ q ih =>
  intro lo hi h1 h2 hq hlo hhi
  rw [Zap]
  by_cases hlt : lo < hi
  ·have hm : (lo + hi) / 2 < l.length := by omega
   rw [if_pos (by simp; omega)]
   simp only []
   rw [half lo hi (by omega)]
   simp only [Option.bind_some, ZmF (show (lo + hi) / 2 < 1000000000 by omega), ZbX hm, ZlQ]
   by_cases hc : l[(lo + hi) / 2].Ver < x
   ·rw [if_pos (by simp [Zff, hc]), w64n (by omega)]
    exact ih _ _ (by omega) h2 (by omega) (fun i h hi' => by
     by_cases he : i = (lo + hi) / 2
     ·subst he; exact hc
     ·have := hle i _ h hm (by omega); omega) hhi
   ·rw [if_neg (by simp [Zff]; omega)]
    exact ih _ _ (by omega) (by omega) (by omega) hlo (fun i h hi' => by
     by_cases he : i = (lo + hi) / 2
     ·subst he; omega
     ·have := hle _ i hm h (by omega); omega)
  ·refine ⟨lo, by rw [if_neg (by simp; omega)], by omega, hlo, fun i h hi' => hhi i h (by omega)⟩
def verP (l : List Version) (x : Int) : Option Version := l.find? fun v => v.Ver == x
def Zh9 : Option Version → List Node × Bool
 | some v => (v.Nodes, true)
 | none => ([], false)
theorem j_of (k : Nat) (lk : Judge_look) (hs : Zd0 lk.versions) (hb : lk.versions.length < 1000000) (hk : lk.versions.length < k) (x : Int) :
  Zdd k lk x = some (Zh9 (verP lk.versions x)) := by
 unfold Zdd ZaB verP
 obtain ⟨p, h1, h2, h3, h4⟩ := bs_l0 k lk.versions hs hb x k 0 lk.versions.length (by omega) (by omega) (by omega) (fun i h hi => by omega) (fun i h hi => by omega)
 have h1' : Zap k lk.versions x k (0, (lk.versions.length : Int)) = _ := h1
 rw [h1']
 simp only [Option.bind_some]
 by_cases hlt : p < lk.versions.length
 ·rw [if_pos (by simp; omega), ZbX hlt]
  simp only [Option.bind_some, ZlQ]
  by_cases he : lk.versions[p].Ver = x
  ·have hf : lk.versions.find? (fun v => v.Ver == x) = some lk.versions[p] := by
    rw [List.find?_eq_some_iff_getElem]
    refine ⟨by simpa using he, p, hlt, rfl, fun j hj => ?_⟩
    have := h3 j (by omega) hj
    simp; omega
   rw [hf, he]
   simp [cmpI, ZbX hlt, Zh9]
  ·have hf : lk.versions.find? (fun v => v.Ver == x) = none := by
    rw [List.find?_eq_none]
    intro v hv
    obtain ⟨i, hi, rfl⟩ := List.mem_iff_getElem.1 hv
    have hle : ∀ i j (hi : i < lk.versions.length) (hj : j < lk.versions.length), i < j → lk.versions[i].Ver ≤ lk.versions[j].Ver := fun i j hi hj hij => by
     have := (List.pairwise_iff_getElem.1 hs) i j hi hj hij; omega
    have hp := h4 p hlt (by omega)
    rcases Nat.lt_trichotomy i p with h | h | h
    ·have := h3 i hi h; simp; omega
    ·subst h; simpa using he
    ·have := hle p i hlt hi h; simp; omega
   rw [hf]
   have hp := h4 p hlt (by omega)
   have : (cmpI lk.versions[p].Ver x == 0) = false := by
    unfold cmpI; rw [if_neg (by omega), if_pos (by omega)]; rfl
   rw [this]; rfl
 ·have hf : lk.versions.find? (fun v => v.Ver == x) = none := by
   rw [List.find?_eq_none]
   intro v hv
   obtain ⟨i, hi, rfl⟩ := List.mem_iff_getElem.1 hv
   have := h3 i hi (by omega); simp; omega
  rw [if_neg (by simp; omega), hf]; rfl
theorem Zjz {l m : List Version} (hp : l.Perm m) (hn : (l.map (·.Ver)).Nodup) (x : Int) : verP l x = verP m x := by
 unfold verP
 have key : ∀ {l m : List Version}, l.Perm m → (l.map (·.Ver)).Nodup → ∀ v, l.find? (fun v => v.Ver == x) = some v → m.find? (fun v => v.Ver == x) = some v := by
  intro l m hp hn v hv
  have h1 := List.find?_some hv
  have h2 := List.mem_of_find?_eq_some hv
  cases hm : m.find? (fun v => v.Ver == x) with
  | none => rw [List.find?_eq_none] at hm; exact absurd h1 (hm v (hp.mem_iff.1 h2))
  | some w =>
   have g1 := List.find?_some hm
   have g2 := hp.mem_iff.2 (List.mem_of_find?_eq_some hm)
   simp only [beq_iff_eq] at h1 g1
   congr 1
   obtain ⟨i, hi, rfl⟩ := List.mem_iff_getElem.1 h2
   obtain ⟨j, hj, rfl⟩ := List.mem_iff_getElem.1 g2
   have : i = j := by
    have h := (List.getElem_inj (h₀ := by simpa using hi) (h₁ := by simpa using hj) hn).1 (by simp only [List.getElem_map]; omega)
    exact h
   subst this; rfl
 cases hl : l.find? (fun v => v.Ver == x) with
 | some v => exact (key hp hn v hl).symm
 | none =>
  cases hm : m.find? (fun v => v.Ver == x) with
  | none => rfl
  | some w =>
   have := key hp.symm ((hp.map _).nodup_iff.1 hn) w hm
   rw [this] at hl; cases hl
def Zf8 (vs : List Version) (e : Event) : Bool :=
 match verP vs e.Ver with
 | none => false
 | some v => e.Sent.isEmpty || Zga v.Nodes e.Switch e.Port e.H e.Sent
theorem len0 {α : Type} (l : List α) : ((l.length : Int) == 0) = l.isEmpty := by cases l <;> simp; omega
theorem Zmj (vs : List Version) (hb : vs.length < 1000000) (e : Event) (h0 : BI e.H.e0) (h1 : BI e.H.e1) (h2 : BI e.H.e2) :
  ∃ K, ∀ k, K ≤ k → ZbY k vs e = some (Zf8 vs e) := by
 have hH : ∃ K, ∀ k, K ≤ k → ∀ v, verP vs e.Ver = some v → Zbb k v.Nodes e.Switch e.Port e.H e.Sent = some (Zga v.Nodes e.Switch e.Port e.H e.Sent) := by
  cases hv : verP vs e.Ver with
  | none => exact ⟨0, fun k _ v h => by cases h⟩
  | some v =>
   obtain ⟨K, hK⟩ := ZgZ v.Nodes e.Switch e.Port e.H e.Sent h0 h1 h2
   exact ⟨K, fun k hk w h => by cases h; exact (hK k hk).2⟩
 obtain ⟨K, hK⟩ := hH
 refine ⟨K + vs.length + 1, fun k hk => ?_⟩
 have hK := hK k (by omega)
 unfold ZbY
 have loop : ∀ (q i : Nat), i ≤ vs.length → vs.length - i < q → verP vs e.Ver = (vs.drop i).find? (fun v => v.Ver == e.Ver) →
   Zbi k vs e q (i : Int) = some (match verP vs e.Ver with | none => .out () | some v => .ret (e.Sent.isEmpty || Zga v.Nodes e.Switch e.Port e.H e.Sent)) := by
  intro q
  induction q with
  | zero => intro i _ h; omega
  | succ q ih =>
   intro i hi hq hf
   rw [Zbi]
   by_cases hlt : i < vs.length
   ·rw [List.drop_eq_getElem_cons hlt, List.find?_cons] at hf
    rw [if_pos (by simp; omega), ZbX hlt]
    simp only [Option.bind_some]
    cases hc : (vs[i].Ver == e.Ver) with
    | true =>
     rw [hc] at hf
     simp only at hf
     rw [if_pos rfl, len0, hf]
     cases he : e.Sent.isEmpty with
     | true => simp
     | false => rw [if_neg (by simp), hK _ hf]; simp
    | false =>
     rw [hc] at hf
     rw [if_neg (by simp), w64n (by omega), ih (i + 1) (by omega) (by omega) hf]
   ·rw [if_neg (by simp; omega), hf, ZbU hlt]; rfl
 have := loop k 0 (by omega) (by omega) (by rw [List.drop_zero]; rfl)
 have h' : Zbi k vs e k 0 = _ := this
 rw [h']
 unfold Zf8
 cases verP vs e.Ver <;> rfl
def vOk : List Int → List Version → Bool
 | _, [] => true
 | seen, v :: l => (wi v.Ver 1 200 && !(seen.contains v.Ver)) && vOk (seen ++ [v.Ver]) l
def chkL : List Version → Int
 | [] => 0
 | v :: l => if chkP v.Nodes = 0 then chkL l else chkP v.Nodes
def ZfL (g : Graph) (vs : List Version) (n : Nat) : Int :=
 if okG g = true then (if vs.length > 200 ∨ n > 2000 then 5 else if vOk [] vs = true then chkL vs else 2) else 2
theorem Ziz (seen : List Int) (v : Version) (l : List Version) : vOk seen (v :: l) = ((wi v.Ver 1 200 && !(seen.contains v.Ver)) && vOk (seen ++ [v.Ver]) l) := rfl
theorem ZjB : ∀ (l : List Version) (seen : List Int), vOk seen l = true → seen.Nodup → (seen ++ l.map (·.Ver)).Nodup := by
 intro l
 induction l with
 | nil => intro seen _ h; simpa using h
 | cons v l ih =>
  intro seen h hn
  simp only [vOk, Bool.and_eq_true, Bool.not_eq_true', List.contains_eq_mem, decide_eq_false_iff_not] at h
  have := ih (seen ++ [v.Ver]) h.2 (by
   rw [List.nodup_append]
   exact ⟨hn, by simp, by intro a ha b hb; simp at hb; subst hb; rintro rfl; exact h.1.2 ha⟩)
  simpa using this
theorem Zjg (m : List (Int × Int)) (a b v : Int) : mgetD (mput m a v) b 0 = if b = a then v else mgetD m b 0 := by
 induction m with
 | nil => simp [mput, mgetD, mget?]; split <;> simp_all
 | cons p m ih =>
  unfold mput
  split
  ·rename_i h
   subst h
   simp only [mgetD, mget?]
   split <;> simp_all
  ·rename_i h
   simp only [mgetD, mget?] at *
   split
   ·rename_i h2; subst h2
    rw [if_neg (fun hh => h hh.symm)]
   ·exact ih
theorem Zji (k : Nat) (vs : List Version) (hb : vs.length < 1000000) : ∀ (q i : Nat) (m : List (Int × Int)), i ≤ vs.length → vs.length - i < q →
  (∀ x, mgetD m x 0 = if ((vs.take i).map (·.Ver)).contains x = true then 1 else 0) →
  ZcD k vs q (m, (i : Int)) = some (if vOk ((vs.take i).map (·.Ver)) (vs.drop i) = true then .out () else .ret 2) := by
 intro q
 induction q with
 | zero => intro i _ _ h; omega
 | succ q ih =>
  intro i m hi hq hm
  rw [ZcD]
  by_cases hlt : i < vs.length
  ·rw [if_pos (by simp; omega), ZbX hlt, List.drop_eq_getElem_cons hlt]
   have ht : (vs.take (i + 1)).map (·.Ver) = (vs.take i).map (·.Ver) ++ [vs[i].Ver] := by rw [← List.take_append_getElem hlt, List.map_append]; rfl
   have ih' := ih (i + 1) (mput m vs[i].Ver 1) (by omega) (by omega) (fun x => by
    rw [Zjg, ht, hm]
    by_cases hx : x = vs[i].Ver
    ·simp [hx]
    ·simp [hx])
   rw [ht] at ih'
   rw [Ziz]
   simp only [Option.bind_some, Zhi, hm]
   by_cases hw : wi vs[i].Ver 1 200 = true
   ·by_cases hc : ((vs.take i).map (·.Ver)).contains vs[i].Ver = true
    ·rw [hw, hc]; simp
    ·have hc' : ((vs.take i).map (·.Ver)).contains vs[i].Ver = false := by simpa using hc
     rw [hw, hc', w64n (by omega)]; simp only [Bool.not_true, Bool.false_eq_true, if_false, Option.bind_some, Bool.true_and, Bool.not_false]; exact ih'
   ·have hw' : wi vs[i].Ver 1 200 = false := by simpa using hw
    rw [hw']; simp
  ·rw [if_neg (by simp; omega), ZbU hlt]; rfl
theorem ZhY (v : Version) (l : List Version) : chkL (v :: l) = if chkP v.Nodes = 0 then chkL l else chkP v.Nodes := rfl
theorem Zjj (k : Nat) (hk : 100 ≤ k) (vs : List Version) (hb : vs.length < 1000000) : ∀ (q i : Nat), i ≤ vs.length → vs.length - i < q →
  ZcE k vs q (i : Int) = some (if chkL (vs.drop i) = 0 then .out () else .ret (chkL (vs.drop i))) := by
 intro q
 induction q with
 | zero => intro i _ h; omega
 | succ q ih =>
  intro i hi hq
  rw [ZcE]
  by_cases hlt : i < vs.length
  ·rw [if_pos (by simp; omega), ZbX hlt, List.drop_eq_getElem_cons hlt, ZhY]
   simp only [Option.bind_some, ZfE k _ hk]
   by_cases hc : chkP vs[i].Nodes = 0
   ·rw [if_neg (by simp [hc]), w64n (by omega), ih (i + 1) (by omega) (by omega), if_pos hc]
   ·rw [if_pos (by simp [hc]), if_neg hc, if_neg hc]
  ·rw [if_neg (by simp; omega), ZbU hlt]; rfl
theorem ZmE (k : Nat) (g : Graph) (vs : List Version) (ev : List Event) (hk : 1000000 ≤ k) (hk2 : g.Links.length < k) (hg : g.Links.length < 9223372036854775808) (hb : vs.length < 1000000) :
  ZdU k g vs ev = some (ZfL g vs ev.length) := by
 unfold ZdU ZfL
 rw [ZlA k g hg (by omega) hk2]
 simp only [Option.bind_some]
 cases okG g with
 | false => simp
 | true =>
  rw [if_pos rfl, if_neg (by decide), if_pos rfl]
  by_cases h5 : vs.length > 200 ∨ ev.length > 2000
  ·rw [if_pos h5, if_pos (by simp; omega)]
  ·rw [if_neg h5, if_neg (by simp; omega)]
   have h1 := Zji k vs hb k 0 [] (by omega) (by omega) (fun x => by simp [mgetD, mget?])
   rw [List.take_zero, List.drop_zero] at h1
   have h1' : ZcD k vs k ([], 0) = _ := h1
   have h2 := Zjj k (by omega) vs hb k 0 (by omega) (by omega)
   rw [List.drop_zero] at h2
   have h2' : ZcE k vs k 0 = _ := h2
   rw [h1']
   simp only [List.map_nil]
   cases vOk [] vs with
   | false => rfl
   | true =>
    simp only [if_true, Option.bind_some, LX.go, h2']
    by_cases hc : chkL vs = 0 <;> simp [hc, LX.go]
theorem Zi8 (k : Nat) (vs : List Version) (hb : vs.length < 1000000) (i : Nat) (hi : i < vs.length) : ∀ (q j : Nat), j ≤ i → i - j < q →
  Zbk k vs (i : Int) q (j : Int) = some (if (((vs.take i).drop j).map (·.Ver)).contains vs[i].Ver = true then .ret (.ret 2) else .out ()) := by
 intro q
 induction q with
 | zero => intro j _ h; omega
 | succ q ih =>
  intro j hj hq
  rw [Zbk]
  by_cases hlt : j < i
  ·have hd : (vs.take i).drop j = vs[j] :: (vs.take i).drop (j + 1) := by
    rw [List.drop_eq_getElem_cons (by simp; omega)]; simp
   rw [if_pos (by simp; omega), ZbX (by omega), ZbX hi, hd]
   simp only [Option.bind_some, List.map_cons, List.contains_cons]
   by_cases he : vs[j].Ver = vs[i].Ver
   ·simp [he]
   ·have he2 : (vs[i].Ver == vs[j].Ver) = false := by simp; omega
    rw [if_neg (by simpa using he), w64n (by omega), ih (j + 1) (by omega) (by omega), he2, Bool.false_or]
  ·rw [if_neg (by simp; omega)]
   have : (vs.take i).drop j = [] := List.drop_eq_nil_of_le (by simp; omega)
   simp [this]
theorem Zi9 (k : Nat) (vs : List Version) (hb : vs.length < 1000000) (hk : vs.length < k) : ∀ (q i : Nat), i ≤ vs.length → vs.length - i < q →
  Zbl k vs q (i : Int) = some (if vOk ((vs.take i).map (·.Ver)) (vs.drop i) = true then .out () else .ret 2) := by
 intro q
 induction q with
 | zero => intro i _ h; omega
 | succ q ih =>
  intro i hi hq
  rw [Zbl]
  by_cases hlt : i < vs.length
  ·rw [if_pos (by simp; omega), ZbX hlt, List.drop_eq_getElem_cons hlt]
   have ht : (vs.take (i + 1)).map (·.Ver) = (vs.take i).map (·.Ver) ++ [vs[i].Ver] := by rw [← List.take_append_getElem hlt, List.map_append]; rfl
   have ih' := ih (i + 1) (by omega) (by omega)
   rw [ht] at ih'
   have h2 := Zi8 k vs hb i hlt k 0 (by omega) (by omega)
   rw [List.drop_zero] at h2
   have h2' : Zbk k vs (i : Int) k 0 = _ := h2
   rw [Ziz]
   simp only [Option.bind_some, ZfS, h2']
   by_cases hw : wi vs[i].Ver 1 200 = true
   ·by_cases hc : ((vs.take i).map (·.Ver)).contains vs[i].Ver = true
    ·rw [hw, hc]; simp [LX.go]
    ·have hc' : ((vs.take i).map (·.Ver)).contains vs[i].Ver = false := by simpa using hc
     rw [hw, hc', w64n (by omega)]; simp only [Bool.not_true, Bool.false_eq_true, if_false, Option.bind_some, Bool.true_and, Bool.not_false, LX.go]; exact ih'
   ·have hw' : wi vs[i].Ver 1 200 = false := by simpa using hw
    rw [hw']; simp
  ·rw [if_neg (by simp; omega), ZbU hlt]; rfl
theorem Zja (k : Nat) (hk : 100 ≤ k) (vs : List Version) (hb : vs.length < 1000000) : ∀ (q i : Nat), i ≤ vs.length → vs.length - i < q →
  Zbm k vs q (i : Int) = some (if chkL (vs.drop i) = 0 then .out () else .ret (chkL (vs.drop i))) := by
 intro q
 induction q with
 | zero => intro i _ h; omega
 | succ q ih =>
  intro i hi hq
  rw [Zbm]
  by_cases hlt : i < vs.length
  ·rw [if_pos (by simp; omega), ZbX hlt, List.drop_eq_getElem_cons hlt, ZhY]
   simp only [Option.bind_some, Zel k _ hk]
   by_cases hc : chkP vs[i].Nodes = 0
   ·rw [if_neg (by simp [hc]), w64n (by omega), ih (i + 1) (by omega) (by omega), if_pos hc]
   ·rw [if_pos (by simp [hc]), if_neg hc, if_neg hc]
  ·rw [if_neg (by simp; omega), ZbU hlt]; rfl
theorem Zml (k : Nat) (g : Graph) (vs : List Version) (ev : List Event) (hk : 1000000 ≤ k) (hk2 : g.Links.length < k) (hg : g.Links.length < 9223372036854775808) (hb : vs.length < 1000000) :
  Zcq k g vs ev = some (ZfL g vs ev.length) := by
 unfold Zcq ZfL
 rw [ZhD k g hg hk2]
 simp only [Option.bind_some]
 cases okG g with
 | false => simp
 | true =>
  rw [if_pos rfl, if_neg (by decide), if_pos rfl]
  by_cases h5 : vs.length > 200 ∨ ev.length > 2000
  ·rw [if_pos h5, if_pos (by simp; omega)]
  ·rw [if_neg h5, if_neg (by simp; omega)]
   have h1 := Zi9 k vs hb (by omega) k 0 (by omega) (by omega)
   rw [List.take_zero, List.drop_zero] at h1
   have h1' : Zbl k vs k 0 = _ := h1
   have h2 := Zja k (by omega) vs hb k 0 (by omega) (by omega)
   rw [List.drop_zero] at h2
   have h2' : Zbm k vs k 0 = _ := h2
   rw [h1']
   simp only [List.map_nil]
   cases vOk [] vs with
   | false => rfl
   | true =>
    simp only [if_true, Option.bind_some, LX.go, h2']
    by_cases hc : chkL vs = 0 <;> simp [hc, LX.go]
end Go.Cat.G3

