/- A text of the proof of the seat's laws: a step logic over the machine, or pure functions that the Go functions come to. No condition. -/
import Derived.Test.YtmmpieknnnlnhaaGreatQF1
namespace Go.Cat.G3
open Go Go.Cat Go.Proofs
set_option linter.unusedVariables false
set_option linter.unusedSimpArgs false
def Zgb (e s : Event) (pe : End) : Bool := s.Sent.contains (⟨pe.Port, e.H⟩ : Sent) && ((s.Switch == pe.Switch) && ((s.Ver == e.Ver) && (s.Id == e.Id)))
def Zfp (e : Event) (pe : End) (d : Int) (s : Judge_seen) : Int := if (Zgb e s.Event pe && (d == 0 || decide (s.depth + 1 < d))) = true then s.depth + 1 else d
def Zdf (g : Graph) (sn : List Judge_seen) (e : Event) : Int :=
 if e.Port = 0 then 1 else if (Zec g ⟨e.Switch, e.Port⟩).2.2 = true then sn.foldl (Zfp e (Zec g ⟨e.Switch, e.Port⟩).1) 0 else 0
def oneP (sn : List Judge_seen) (e : Event) : Bool := !(sn.any fun s => s.Event.Id == e.Id && (s.Event.Ver != e.Ver || e.Port == 0))
def Ze1 (g : Graph) (vs : List Version) (sn : List Judge_seen) (e : Event) : Int :=
 if Zfr g e = true then (if Zf8 vs e = true then (if oneP sn e = true then (if Zdf g sn e = 0 then 4 else if Zdf g sn e > 12 then 5 else 0) else 3) else 2) else 1
def Zgh (g : Graph) (vs : List Version) : List Event → List Judge_seen → Int → LX (Int × Int × Int) Unit
 | [], _, _ => .out ()
 | e :: es, sn, i => if Ze1 g vs sn e = 0 then Zgh g vs es (sn ++ [⟨e, Zdf g sn e⟩]) (i + 1) else .ret (Ze1 g vs sn e, i, 0)
def lxv : LX (Int × Int × Int) Unit → Int × Int × Int
 | .ret r => r
 | .out _ => (0, 0, 0)
def ZkA (g : Graph) (vs : List Version) (ev : List Event) : Int × Int × Int :=
 if ZfL g vs ev.length = 0 then lxv (Zgh g vs ev [] 0) else (0, 0, ZfL g vs ev.length)
def SnOk (k : Nat) (sn : List Judge_seen) : Prop := ∀ s ∈ sn, 1 ≤ s.depth ∧ s.depth ≤ 12 ∧ s.Event.Sent.length < 9223372036854775808 ∧ s.Event.Sent.length < k
theorem Zj6 (k : Nat) (l : List Sent) (x : Sent) (hb : l.length < 9223372036854775808) : ∀ (q i : Nat), i ≤ l.length → l.length - i < q →
  ∃ r, slices_Index___api_Sent_api_Sent__l0 k l x q (i : Int) = some r ∧ (if (l.drop i).contains x = true then (∃ z : Int, 0 ≤ z ∧ r = .ret z) else r = .out ()) := by
 intro q
 induction q with
 | zero => intro i _ h; omega
 | succ q ih =>
  intro i hi hq
  rw [slices_Index___api_Sent_api_Sent__l0]
  by_cases hlt : i < l.length
  ·rw [if_pos (by simp; omega), ZbX hlt, List.drop_eq_getElem_cons hlt, List.contains_cons]
   simp only [Option.bind_some]
   by_cases hc : x = l[i]
   ·refine ⟨.ret i, by rw [if_pos (by simpa using hc)], ?_⟩
    rw [if_pos (by simp [hc])]; exact ⟨i, by omega, rfl⟩
   ·obtain ⟨r, h1, h2⟩ := ih (i + 1) (by omega) (by omega)
    refine ⟨r, by rw [if_neg (by simpa using hc), w64n (by omega), h1], ?_⟩
    rw [show (x == l[i]) = false by simpa using hc, Bool.false_or]; exact h2
  ·refine ⟨_, by rw [if_neg (by simp; omega)], ?_⟩
   rw [ZbU hlt]; simp
theorem Zku (k : Nat) (l : List Sent) (x : Sent) (hb : l.length < 9223372036854775808) (hk : l.length < k) : ZaR k l x = some (l.contains x) := by
 unfold ZaR Zbt
 obtain ⟨r, h1, h2⟩ := Zj6 k l x hb k 0 (by omega) (by omega)
 have h1' : slices_Index___api_Sent_api_Sent__l0 k l x k 0 = _ := h1
 rw [h1']
 rw [List.drop_zero] at h2
 cases hc : l.contains x with
 | true => rw [hc, if_pos rfl] at h2; obtain ⟨z, hz, rfl⟩ := h2; simp [LX.go, hz]
 | false => rw [hc, if_neg (by simp)] at h2; subst h2; simp [LX.go]
theorem Zg5 {e : Event} {pe : End} {d : Int} {s : Judge_seen} (hd : 0 ≤ d ∧ d ≤ 13) (hs : 1 ≤ s.depth ∧ s.depth ≤ 12) : 0 ≤ Zfp e pe d s ∧ Zfp e pe d s ≤ 13 := by
 unfold Zfp; split <;> omega
theorem Zjh (k : Nat) (lk : Judge_look) (e : Event) (y : End × Int × Bool) (hs : SnOk k (mgetD (lk.ids.getD []) e.Id [])) (hid : ∀ s ∈ mgetD (lk.ids.getD []) e.Id [], s.Event.Id = e.Id) (hb : (mgetD (lk.ids.getD []) e.Id []).length < 1000000) :
  ∀ (q i : Nat) (d : Int), i ≤ (mgetD (lk.ids.getD []) e.Id []).length → (mgetD (lk.ids.getD []) e.Id []).length - i < q → 0 ≤ d ∧ d ≤ 13 →
  Zbh k lk e y q (d, (i : Int)) = some (((mgetD (lk.ids.getD []) e.Id []).drop i).foldl (Zfp e y.1) d) := by
 intro q
 induction q with
 | zero => intro i _ _ h; omega
 | succ q ih =>
  intro i d hi hq hd
  rw [Zbh]
  generalize mgetD (lk.ids.getD []) e.Id [] = ss at *
  by_cases hlt : i < ss.length
  ·have hm : ss[i] ∈ ss := List.getElem_mem _
   obtain ⟨h1, h2, h3, h4⟩ := hs _ hm
   have h5 := hid _ hm
   rw [if_pos (by simp; omega), ZbX hlt, List.drop_eq_getElem_cons hlt, List.foldl_cons]
   simp only [Option.bind_some]
   rw [Zku k _ _ h3 h4]
   simp only [Option.bind_some]
   have hbd := Zg5 (e := e) (pe := y.1) hd ⟨h1, h2⟩
   have ih' := ih (i + 1) (Zfp e y.1 d ss[i]) (by omega) (by omega) hbd
   rw [ZdJ (n := d - 1) (by omega) (by omega), ZdJ (n := ss[i].depth + 1) (by omega) (by omega), w64n (by omega)]
   have hcond : (ss[i].Event.Sent.contains (⟨y.1.Port, e.H⟩ : Sent) && ((ss[i].Event.Switch == y.1.Switch) && ((ss[i].Event.Ver == e.Ver) && ((d == 0) || decide (ss[i].depth < d - 1))))) = (Zgb e ss[i].Event y.1 && (d == 0 || decide (ss[i].depth + 1 < d))) := by
    unfold Zgb
    rw [h5, show decide (ss[i].depth < d - 1) = decide (ss[i].depth + 1 < d) from decide_eq_decide.2 (by omega)]
    simp [Bool.and_assoc]
   rw [hcond]
   unfold Zfp at ih' ⊢
   by_cases hc : (Zgb e ss[i].Event y.1 && (d == 0 || decide (ss[i].depth + 1 < d))) = true
   ·rw [if_pos hc] at ih' ⊢; rw [if_pos hc]; exact ih'
   ·rw [if_neg hc] at ih' ⊢; rw [if_neg hc]; exact ih'
  ·rw [if_neg (by simp; omega), ZbU hlt]; rfl
theorem ZkK {e : Event} {pe : End} {d : Int} {s : Judge_seen} (h : ¬ s.Event.Id = e.Id) : Zfp e pe d s = d := by
 unfold Zfp Zgb
 rw [show (s.Event.Id == e.Id) = false by simpa using h]; simp
theorem Zik (e : Event) (pe : End) : ∀ (sn : List Judge_seen) (d : Int), (sn.filter fun s => s.Event.Id == e.Id).foldl (Zfp e pe) d = sn.foldl (Zfp e pe) d := by
 intro sn
 induction sn with
 | nil => intro d; rfl
 | cons s sn ih =>
  intro d
  rw [List.filter_cons]
  by_cases h : s.Event.Id = e.Id
  ·rw [if_pos (by simpa using h), List.foldl_cons, List.foldl_cons, ih]
  ·rw [if_neg (by simpa using h), List.foldl_cons, ZkK h, ih]
def MOk (m : List (Int × List Judge_seen)) (sn : List Judge_seen) : Prop := ∀ id, mgetD m id [] = sn.filter fun s => s.Event.Id == id
theorem ZmD (k : Nat) (g : Graph) (vs : List Version) (m : List (Int × List Judge_seen)) (sn : List Judge_seen) (e : Event) (hm : MOk m sn) (hs : SnOk k sn) (hb : sn.length < 1000000) (hk : 1000000 ≤ k)
  (hg : g.Links.length < 9223372036854775808) (hg2 : g.Links.length < k) : ZcK k ⟨g, vs, some m⟩ e = some (Zdf g sn e) := by
 unfold ZcK Zdf
 by_cases h0 : e.Port = 0
 ·rw [if_pos (by simpa using h0), if_pos h0]
 ·rw [if_neg (by simpa using h0), if_neg h0]
  rw [Zmp k g _ hg (by omega) hg2]
  simp only [Option.bind_some]
  cases hp : (Zec g ⟨e.Switch, e.Port⟩).2.2 with
  | false => simp
  | true =>
   have hmm : mgetD ((some m).getD []) e.Id [] = sn.filter fun s => s.Event.Id == e.Id := hm e.Id
   have hlen : (sn.filter fun s => s.Event.Id == e.Id).length ≤ sn.length := List.length_filter_le _ _
   have := Zjh k ⟨g, vs, some m⟩ e (Zec g ⟨e.Switch, e.Port⟩) (by rw [hmm]; intro s h; exact hs s (List.mem_filter.1 h).1) (by rw [hmm]; intro s h; simpa using (List.mem_filter.1 h).2) (by rw [hmm]; omega) k 0 0 (by omega) (by rw [hmm]; omega) (by omega)
   have h' : Zbh k ⟨g, vs, some m⟩ e (Zec g ⟨e.Switch, e.Port⟩) k (0, 0) = _ := this
   simp only [Bool.not_true, Bool.false_eq_true, if_false, if_true, h', Option.bind_some, List.drop_zero]
   rw [hmm, Zik]
theorem Zlv (k : Nat) (e s : Event) (pe : End) (hb : s.Sent.length < 9223372036854775808) : ∀ (q i : Nat), i ≤ s.Sent.length → s.Sent.length - i < q →
  Zbj k e s pe q (i : Int) = some (if (s.Sent.drop i).contains (⟨pe.Port, e.H⟩ : Sent) = true then .ret true else .out ()) := by
 intro q
 induction q with
 | zero => intro i _ h; omega
 | succ q ih =>
  intro i hi hq
  rw [Zbj]
  by_cases hlt : i < s.Sent.length
  ·rw [if_pos (by simp; omega), ZbX hlt, List.drop_eq_getElem_cons hlt, List.contains_cons]
   simp only [Option.bind_some]
   have ih' := ih (i + 1) (by omega) (by omega)
   rw [w64n (by omega), ih']
   have hbeq : ((⟨pe.Port, e.H⟩ : Sent) == s.Sent[i]) = ((s.Sent[i].Port == pe.Port) && decide (s.Sent[i].H = e.H)) := by
    rw [Bool.eq_iff_iff]
    simp only [beq_iff_eq, Bool.and_eq_true, decide_eq_true_eq, Zhs]
    constructor
    ·rintro ⟨a, b⟩; exact ⟨a.symm, b.symm⟩
    ·rintro ⟨a, b⟩; exact ⟨a.symm, b.symm⟩
   rw [hbeq]
   cases (s.Sent[i].Port == pe.Port) <;> cases decide (s.Sent[i].H = e.H) <;> simp
  ·rw [if_neg (by simp; omega), ZbU hlt]; simp
theorem Zlw (k : Nat) (e s : Event) (pe : End) (hb : s.Sent.length < 9223372036854775808) (hk : s.Sent.length < k) : Zbz k e s pe = some (Zgb e s pe) := by
 unfold Zbz Zgb
 have := Zlv k e s pe hb k 0 (by omega) (by omega)
 have h' : Zbj k e s pe k 0 = _ := this
 rw [h', List.drop_zero]
 generalize s.Sent.contains (⟨pe.Port, e.H⟩ : Sent) = c
 by_cases h1 : s.Switch = pe.Switch <;> by_cases h2 : s.Id = e.Id <;> by_cases h3 : s.Ver = e.Ver <;> cases c <;> simp [LX.go, h1, h2, h3]
theorem Zi7 (k : Nat) (ev : List Event) (sn : List Judge_seen) (n : Nat) (hn : n ≤ ev.length) (hsn : sn.map (·.Event) = ev.take n) (hs : SnOk k sn) (e : Event) (y : End × Int × Bool) (hy : y.2.2 = true) (hb : ev.length < 1000000) :
  ∀ (q i : Nat) (d : Int), i ≤ n → n - i < q → 0 ≤ d ∧ d ≤ 13 →
  ZaW k ev (n : Int) (sn.map (·.depth)) e y q (d, (i : Int)) = some ((sn.drop i).foldl (Zfp e y.1) d) := by
 have hlen : sn.length = n := by have := congrArg List.length hsn; simp at this; omega
 intro q
 induction q with
 | zero => intro i _ _ h; omega
 | succ q ih =>
  intro i d hi hq hd
  rw [ZaW]
  by_cases hlt : i < n
  ·have hls : i < sn.length := by omega
   have hm : sn[i] ∈ sn := List.getElem_mem _
   obtain ⟨h1, h2, h3, h4⟩ := hs _ hm
   have he : rd ev (i : Int) = some sn[i].Event := by
    rw [ZbX (by omega)]
    have : (sn.map (·.Event))[i]? = (ev.take n)[i]? := by rw [hsn]
    rw [List.getElem?_map, List.getElem?_eq_getElem hls, List.getElem?_take, if_pos hlt, List.getElem?_eq_getElem (by omega)] at this
    simpa using this.symm
   have hdd : rd (sn.map (·.depth)) (i : Int) = some sn[i].depth := by rw [ZbX (by simpa using hls)]; simp
   have hbd := Zg5 (e := e) (pe := y.1) hd ⟨h1, h2⟩
   have ih' := ih (i + 1) (Zfp e y.1 d sn[i]) (by omega) (by omega) hbd
   rw [if_pos (by simp [hy]; omega), List.drop_eq_getElem_cons hls, List.foldl_cons]
   simp only []
   rw [he, hdd]
   simp only [Option.bind_some, Zlw k e _ _ h3 h4]
   rw [ZdJ (n := sn[i].depth + 1) (by omega) (by omega), w64n (by omega)]
   unfold Zfp at ih' ⊢
   cases hc : Zgb e sn[i].Event y.1 with
   | false => rw [hc] at ih'; simpa using ih'
   | true =>
    rw [hc] at ih'
    by_cases hd0 : d = 0
    ·subst hd0; simpa using ih'
    ·have : (d == 0) = false := by simpa using hd0
     rw [this] at ih' ⊢
     by_cases hl : sn[i].depth + 1 < d
     ·rw [decide_eq_true hl] at ih' ⊢; simpa using ih'
     ·rw [decide_eq_false hl] at ih' ⊢; simpa using ih'
  ·rw [if_neg (by simp; omega), List.drop_eq_nil_of_le (by omega)]; rfl
theorem Zmk (k : Nat) (g : Graph) (ev : List Event) (sn : List Judge_seen) (n : Nat) (hn : n < ev.length) (hsn : sn.map (·.Event) = ev.take n) (hs : SnOk k sn) (hb : ev.length < 1000000) (hk : 1000000 ≤ k)
  (hg : g.Links.length < 9223372036854775808) (hg2 : g.Links.length < k) : Zcp k g ev (n : Int) (sn.map (·.depth)) = some (Zdf g sn ev[n]) := by
 unfold Zcp Zdf
 rw [ZbX hn]
 simp only [Option.bind_some]
 by_cases h0 : ev[n].Port = 0
 ·rw [if_pos (by simpa using h0), if_pos h0]
 ·rw [if_neg (by simpa using h0), if_neg h0]
  rw [ZkS k g _ hg hg2]
  simp only [Option.bind_some]
  by_cases hp : (Zec g ⟨ev[n].Switch, ev[n].Port⟩).2.2 = true
  ·have := Zi7 k ev sn n (by omega) hsn hs ev[n] (Zec g ⟨ev[n].Switch, ev[n].Port⟩) hp hb k 0 0 (by omega) (by omega) (by omega)
   have h' : ZaW k ev (n : Int) (sn.map (·.depth)) ev[n] (Zec g ⟨ev[n].Switch, ev[n].Port⟩) k (0, 0) = _ := this
   rw [h', if_pos hp]; rfl
  ·rw [if_neg hp]
   obtain ⟨q, rfl⟩ : ∃ q, k = q + 1 := ⟨k - 1, by omega⟩
   rw [ZaW, if_neg (by simp [hp])]; rfl
theorem Zld (k : Nat) (ss : List Judge_seen) (e : Event) (hb : ss.length < 1000000) : ∀ (q i : Nat), i ≤ ss.length → ss.length - i < q →
  ∃ r, slices_IndexFunc___judge_seen_judge_seen__at71_l0 k ss e q (i : Int) = some r ∧ (if ((ss.drop i).any fun s => s.Event.Ver != e.Ver || e.Port == 0) = true then (∃ z : Int, 0 ≤ z ∧ r = .ret z) else r = .out ()) := by
 intro q
 induction q with
 | zero => intro i _ h; omega
 | succ q ih =>
  intro i hi hq
  rw [slices_IndexFunc___judge_seen_judge_seen__at71_l0]
  by_cases hlt : i < ss.length
  ·have h1 : Zcb k ss[i] e = some (ss[i].Event.Ver != e.Ver || e.Port == 0) := by
    unfold Zcb
    cases (ss[i].Event.Ver != e.Ver) <;> simp
   rw [if_pos (by simp; omega), ZbX hlt, List.drop_eq_getElem_cons hlt, List.any_cons]
   simp only [Option.bind_some, h1]
   by_cases hc : (ss[i].Event.Ver != e.Ver || e.Port == 0) = true
   ·refine ⟨.ret i, by rw [if_pos hc], ?_⟩
    rw [hc, Bool.true_or, if_pos rfl]; exact ⟨i, by omega, rfl⟩
   ·obtain ⟨r, g1, g2⟩ := ih (i + 1) (by omega) (by omega)
    refine ⟨r, by rw [if_neg hc, w64n (by omega), g1], ?_⟩
    rw [show (ss[i].Event.Ver != e.Ver || e.Port == 0) = false by simpa using hc, Bool.false_or]; exact g2
  ·refine ⟨_, by rw [if_neg (by simp; omega)], ?_⟩
   rw [ZbU hlt]; simp
theorem Ziu (sn : List Judge_seen) (e : Event) : ((sn.filter fun s => s.Event.Id == e.Id).any fun s => s.Event.Ver != e.Ver || e.Port == 0) = sn.any fun s => s.Event.Id == e.Id && (s.Event.Ver != e.Ver || e.Port == 0) := by
 rw [List.any_filter]
theorem j_one (k : Nat) (m : List (Int × List Judge_seen)) (sn : List Judge_seen) (e : Event) (hm : MOk m sn) (hb : sn.length < 1000000) (hk : 1000000 ≤ k) :
  Zaw k (mgetD m e.Id []) e = some (!oneP sn e) := by
 unfold Zaw ZaK oneP
 have hlen : (sn.filter fun s => s.Event.Id == e.Id).length ≤ sn.length := List.length_filter_le _ _
 rw [hm e.Id]
 obtain ⟨r, h1, h2⟩ := Zld k (sn.filter fun s => s.Event.Id == e.Id) e (by omega) k 0 (by omega) (by omega)
 have h1' : slices_IndexFunc___judge_seen_judge_seen__at71_l0 k (sn.filter fun s => s.Event.Id == e.Id) e k 0 = _ := h1
 rw [h1']
 rw [List.drop_zero, Ziu] at h2
 rw [Bool.not_not]
 cases hc : (sn.any fun s => s.Event.Id == e.Id && (s.Event.Ver != e.Ver || e.Port == 0)) with
 | true => rw [hc, if_pos rfl] at h2; obtain ⟨z, hz, rfl⟩ := h2; simp [LX.go, hz]
 | false => rw [hc, if_neg (by simp)] at h2; subst h2; simp [LX.go]
theorem ZkV (k : Nat) (ev : List Event) (sn : List Judge_seen) (n : Nat) (hn : n < ev.length) (hsn : sn.map (·.Event) = ev.take n) (hb : ev.length < 1000000) : ∀ (q i : Nat), i ≤ n → n - i < q →
  ZbH k ev (n : Int) q (i : Int) = some (if ((sn.drop i).any fun s => s.Event.Id == ev[n].Id && (s.Event.Ver != ev[n].Ver || ev[n].Port == 0)) = true then .ret false else .out ()) := by
 have hlen : sn.length = n := by have := congrArg List.length hsn; simp at this; omega
 intro q
 induction q with
 | zero => intro i _ h; omega
 | succ q ih =>
  intro i hi hq
  rw [ZbH]
  by_cases hlt : i < n
  ·have hls : i < sn.length := by omega
   have he : rd ev (i : Int) = some sn[i].Event := by
    rw [ZbX (by omega)]
    have : (sn.map (·.Event))[i]? = (ev.take n)[i]? := by rw [hsn]
    rw [List.getElem?_map, List.getElem?_eq_getElem hls, List.getElem?_take, if_pos hlt, List.getElem?_eq_getElem (by omega)] at this
    simpa using this.symm
   rw [if_pos (by simp; omega), List.drop_eq_getElem_cons hls, List.any_cons, he, ZbX hn]
   simp only [Option.bind_some]
   rw [w64n (by omega), ih (i + 1) (by omega) (by omega)]
   cases (sn[i].Event.Id == ev[n].Id) <;> cases (sn[i].Event.Ver != ev[n].Ver) <;> cases (ev[n].Port == 0) <;> simp
  ·rw [if_neg (by simp; omega), List.drop_eq_nil_of_le (by omega)]; simp
theorem r_one (k : Nat) (ev : List Event) (sn : List Judge_seen) (n : Nat) (hn : n < ev.length) (hsn : sn.map (·.Event) = ev.take n) (hb : ev.length < 1000000) (hk : 1000000 ≤ k) : ZcL k ev (n : Int) = some (oneP sn ev[n]) := by
 unfold ZcL oneP
 have := ZkV k ev sn n hn hsn hb k 0 (by omega) (by omega)
 have h' : ZbH k ev (n : Int) k 0 = _ := this
 rw [h', List.drop_zero]
 cases (sn.any fun s => s.Event.Id == ev[n].Id && (s.Event.Ver != ev[n].Ver || ev[n].Port == 0)) <;> simp [LX.go]
end Go.Cat.G3

