/- A text of the proof of the seat's laws: a step logic over the machine, or pure functions that the Go functions come to. No condition. -/
import Derived.Test.YtmmpieknnnlnhaaGreatQM3
namespace Go.Cat.G3
open Go Go.Cat Go.Proofs
set_option linter.unusedVariables false
set_option linter.unusedSimpArgs false
theorem ZjQ (k : Nat) (l : List Sent) (hb : l.length < 1000000000) : ∀ (q i : Nat) (acc : List Sent), i ≤ l.length → l.length - i < q → acc.length ≤ i →
  ZbD k q (l, acc, (i : Int)) = some (acc ++ (l.drop i).filter fun s => decide (s.Port ≥ 0)) := by
 have hLIM : LIM = 68719476736 := rfl
 intro q
 induction q with
 | zero => intro i _ _ h; omega
 | succ q ih =>
  intro i acc hi hq ha
  rw [ZbD]
  by_cases hlt : i < l.length
  ·rw [if_pos (by simp; omega), ZbX hlt, List.drop_eq_getElem_cons hlt]
   simp only [Option.bind_some]
   rw [Zb6 (by omega)]
   by_cases hp : l[i].Port ≥ 0
   ·rw [if_pos (by simpa using hp), app, if_pos (by simp; omega)]
    simp only [Option.bind_some]
    rw [ih (i + 1) _ (by omega) (by omega) (by simp; omega), List.filter_cons, if_pos (by simpa using hp)]; simp
   ·rw [if_neg (by simpa using hp), ih (i + 1) _ (by omega) (by omega) (by omega), List.filter_cons, if_neg (by simpa using hp)]
  ·rw [if_neg (by simp; omega), ZbU hlt]; simp
def ofP (ns : List Node) (sw port : Int) (hd : Arr3u8) : List Sent × Int :=
 if chkP ns = 0 then (if (((decide (sw < 1)) || ((decide (sw > 6)) || ((decide (port < 0)) || decide (port > 4))))) = true then ([], 9) else (Zdm (outS (Gs ns sw port ns.length (ns.length - 1) ⟨-1, hd⟩)), 0)) else ([], chkP ns)
theorem Zmt (ns : List Node) (sw port : Int) (hd : Arr3u8) (h0 : BI hd.e0) (h1 : BI hd.e1) (h2 : BI hd.e2) :
  SS (ofP ns sw port hd).1 ∧ (ofP ns sw port hd).1.length ≤ 100663296 ∧ ∃ K, ∀ k, K ≤ k → Zdz k ns sw port hd = some (ofP ns sw port hd) ∧ Zca k ns sw port hd = some (ofP ns sw port hd) := by
 unfold ofP
 by_cases hc : chkP ns = 0
 ·have hok : okP ns = true := by
   unfold chkP at hc; split at hc
   ·assumption
   ·cases hc
  by_cases hb : (((decide (sw < 1)) || ((decide (sw > 6)) || ((decide (port < 0)) || decide (port > 4))))) = true
  ·rw [if_pos hc, if_pos hb]
   refine ⟨.nil, by simp, 100, fun k hk => ⟨?_, ?_⟩⟩
   ·unfold Zdz; rw [ZfE k ns hk, hc]; simp only [Option.bind_some]; rw [if_neg (by decide), if_pos hb]
   ·unfold Zca; rw [Zel k ns hk, hc]; simp only [Option.bind_some]; rw [if_neg (by decide), if_pos hb]
  ·have hp := Zmr hok
   have hlen : 1 ≤ ns.length ∧ ns.length ≤ 64 := by
    unfold okP at hok; simp only [Bool.and_eq_true, decide_eq_true_eq] at hok; exact hok.1.1
   have hx : VS ⟨-1, hd⟩ := ⟨by dsimp only; omega, by dsimp only; omega, h0, h1, h2⟩
   obtain ⟨l, l1, l2, K, l3⟩ := ZkR hp sw port (by omega) ns.length (ns.length - 1) ⟨-1, hd⟩ (by omega) (by omega) hx
   have hv : ∀ s ∈ l, VS s := fun s hs => ZfM hp sw port (ns.length) (ns.length - 1) _ hx (by omega) s ((l2 _ (by omega) s).1 hs)
   have hbig := many l1.nodup hv
   have hfs : SS (l.filter fun s => decide (s.Port ≥ 0)) := l1.filter _
   have hfl : (l.filter fun s => decide (s.Port ≥ 0)).length ≤ l.length := List.length_filter_le _ _
   have hmem0 : ∀ k, ns.length - 1 < k → ∀ s, s ∈ outS (Gs ns sw port k (ns.length - 1) ⟨-1, hd⟩) ↔ s ∈ l.filter fun s => decide (s.Port ≥ 0) := by
    intro k hk s
    simp only [outS, List.mem_filter, ZiL, ← l2 k (by omega) s, bne_iff_ne, ne_eq, decide_eq_true_eq]
    constructor
    ·rintro ⟨ha, hb⟩; have := (hv s ha).1; exact ⟨ha, by omega⟩
    ·rintro ⟨ha, hb⟩; exact ⟨ha, by omega⟩
   have hE : Zdm (outS (Gs ns sw port ns.length (ns.length - 1) ⟨-1, hd⟩)) = l.filter fun s => decide (s.Port ≥ 0) :=
    (Zgj hfs.sorted ((List.perm_ext_iff_of_nodup ((Ze9 _).filter _) hfs.nodup).2 (hmem0 _ (by omega))).symm).symm
   rw [if_pos hc, if_neg hb, hE]
   refine ⟨hfs, by simp only; omega, K + 1000000000, fun k hk => ⟨?_, ?_⟩⟩
   ·unfold Zdz
    rw [ZfE k ns (by omega), hc]
    simp only [Option.bind_some]
    rw [if_neg (by decide), if_neg hb, ZdJ (by omega) (by omega), show (ns.length : Int) - 1 = ((ns.length - 1 : Nat) : Int) by omega, gs_eq hp sw port k _ _ (by omega) (by omega)]
    simp only [Option.bind_some]
    have hmem := hmem0 k (by omega)
    have hnd : (outS (Gs ns sw port k (ns.length - 1) ⟨-1, hd⟩)).Nodup := (Ze9 _).filter _
    have hpm := (List.perm_ext_iff_of_nodup hnd hfs.nodup).2 hmem
    rw [if_pos (by rw [hpm.length_eq]; omega)]
    rw [Zgj hfs.sorted hpm.symm]
   ·unfold Zca
    rw [Zel k ns (by omega), hc]
    simp only [Option.bind_some]
    rw [if_neg (by decide), if_neg hb, ZdJ (by omega) (by omega), show (ns.length : Int) - 1 = ((ns.length - 1 : Nat) : Int) by omega]
    have e1 : rgsK k ⟨ns, sw, port⟩ ((ns.length - 1 : Nat) : Int) ⟨-1, hd⟩ = some l := l3 k (by omega) k (by omega)
    have e2 := ZjQ k l (by omega) k 0 [] (by omega) (by omega) (by simp)
    rw [List.drop_zero] at e2
    have e2' : ZbD k k (l, [], 0) = _ := e2
    rw [e1]
    simp only [Option.bind_some]
    rw [e2']; rfl
 ·rw [if_neg hc]
  refine ⟨.nil, by simp, 100, fun k hk => ⟨?_, ?_⟩⟩
  ·unfold Zdz; rw [ZfE k ns hk]; simp only [Option.bind_some]; rw [if_pos (by simpa using hc)]
  ·unfold Zca; rw [Zel k ns hk]; simp only [Option.bind_some]; rw [if_pos (by simpa using hc)]
theorem Zls (k : Nat) (l m : List Sent) (he : l.length = m.length) (hb : l.length < 4611686018427387904) : ∀ (q i : Nat), i ≤ l.length → l.length - i < q →
  ZaC k l m q (i : Int) = some (if l.drop i = m.drop i then .out () else .ret false) := by
 intro q
 induction q with
 | zero => intro i _ h; omega
 | succ q ih =>
  intro i hi hq
  rw [ZaC]
  by_cases hlt : i < l.length
  ·rw [if_pos (by simp; omega), ZbX hlt, ZbX (by omega), List.drop_eq_getElem_cons hlt, List.drop_eq_getElem_cons (show i < m.length by omega)]
   simp only [Option.bind_some, List.cons.injEq]
   by_cases hx : l[i] = m[i]
   ·rw [if_neg (by simp [hx]), Zb6 (by omega), ih (i + 1) (by omega) (by omega)]; simp [hx]
   ·rw [if_pos (by simp [hx]), if_neg (by simp [hx])]
  ·rw [if_neg (by simp; omega), ZbU hlt, List.drop_eq_nil_of_le (by omega), if_pos rfl]
theorem Zlt (k : Nat) (l m : List Sent) (hb : l.length < 4611686018427387904) (hk : l.length < k) : Za1 k l m = some (decide (l = m)) := by
 unfold Za1
 by_cases he : l.length = m.length
 ·rw [if_neg (by simp [he])]
  have := Zls k l m he hb k 0 (by omega) (by omega)
  rw [List.drop_zero, List.drop_zero] at this
  have h' : ZaC k l m k 0 = _ := this
  rw [h']
  by_cases hlm : l = m <;> simp [hlm, LX.go]
 ·rw [if_pos (by simp; omega), decide_eq_false (fun h => he (by rw [h]))]
theorem Zmd (k : Nat) (l m : List Sent) (he : l.length = m.length) (hb : l.length < 4611686018427387904) : ∀ (q i : Nat), i ≤ l.length → l.length - i < q →
  ZbC k l m q (i : Int) = some (if l.drop i = m.drop i then .out () else .ret false) := by
 intro q
 induction q with
 | zero => intro i _ h; omega
 | succ q ih =>
  intro i hi hq
  rw [ZbC]
  by_cases hlt : i < l.length
  ·rw [if_pos (by simp; omega), ZbX hlt, ZbX (by omega), List.drop_eq_getElem_cons hlt, List.drop_eq_getElem_cons (show i < m.length by omega)]
   simp only [Option.bind_some, List.cons.injEq]
   by_cases hx : l[i] = m[i]
   ·rw [if_neg (by simp [hx]), Zb6 (by omega), ih (i + 1) (by omega) (by omega)]; simp [hx]
   ·rw [if_pos (by simp [hx]), if_neg (by simp [hx])]
  ·rw [if_neg (by simp; omega), ZbU hlt, List.drop_eq_nil_of_le (by omega), if_pos rfl]
theorem Zme (k : Nat) (l m : List Sent) (hb : l.length < 4611686018427387904) (hk : l.length < k) : ZcB k l m = some (decide (l = m)) := by
 unfold ZcB
 by_cases he : l.length = m.length
 ·rw [if_neg (by simp [he])]
  have := Zmd k l m he hb k 0 (by omega) (by omega)
  rw [List.drop_zero, List.drop_zero] at this
  have h' : ZbC k l m k 0 = _ := this
  rw [h']
  by_cases hlm : l = m <;> simp [hlm, LX.go]
 ·rw [if_pos (by simp; omega), decide_eq_false (fun h => he (by rw [h]))]
theorem ZhB (k : Nat) (hk : 5 ≤ k) (l : List Sent) (hb : l.length < 4611686018427387904) : ∀ (q i : Nat) (acc : List Sent), i ≤ l.length → l.length - i < q → acc.length + l.length + 5 < LIM + i → acc.length + l.length < k + i →
  Zbn k l q (acc, (i : Int)) = some (ZeP acc (l.drop i)) := by
 have hLIM : LIM = 68719476736 := rfl
 intro q
 induction q with
 | zero => intro i _ _ h; omega
 | succ q ih =>
  intro i acc hi hq h1 h2
  rw [Zbn]
  by_cases hlt : i < l.length
  ·have := Zhd l[i] acc
   rw [if_pos (by simp; omega), ZbX hlt, List.drop_eq_getElem_cons hlt]
   simp only [Option.bind_some]
   rw [ZjS k hk acc _ (by omega) (by omega), Zb6 (by omega)]
   simp only [Option.bind_some]
   rw [ih (i + 1) _ (by omega) (by omega) (by omega) (by omega)]; rfl
  ·rw [if_neg (by simp; omega), ZbU hlt]; rfl
theorem Zje {α : Type} [DecidableEq α] : ∀ {l m : List α}, l.Nodup → (∀ x ∈ l, x ∈ m) → m.length ≤ l.length → l.Perm m := by
 intro l
 induction l with
 | nil => intro m _ _ h; rw [List.eq_nil_of_length_eq_zero (Nat.le_zero.1 h)]
 | cons a l ih =>
  intro m hn hs hl
  have ha : a ∈ m := hs a (by simp)
  have hn' := List.nodup_cons.1 hn
  have hp := List.perm_cons_erase ha
  refine (List.Perm.cons a (ih (m := m.erase a) hn'.2 (fun x hx => (List.mem_erase_of_ne (fun e : x = a => hn'.1 (by rw [← e]; exact hx))).2 (hs x (by simp [hx]))) ?_)).trans hp.symm
  rw [List.length_erase_of_mem ha]; simp only [List.length_cons] at hl; omega
theorem ZkQ {l x : List Sent} (hl : SS l) (hlen : l.length = x.length) : l = Zdm x ↔ l = ZeP [] x := by
 constructor
 ·intro h
  refine hl.ext (Zgz .nil) fun y => ?_
  rw [Zed, h, (Zd9 x).mem_iff]; simp
 ·intro h
  have hp : l.Perm x := Zje hl.nodup (fun y hy => by rw [h, Zed] at hy; simpa using hy) (by omega)
  exact Zgj hl.sorted hp
def Zga (ns : List Node) (sw port : Int) (hd : Arr3u8) (x : List Sent) : Bool :=
 (ofP ns sw port hd).2 == 0 && (decide ((ofP ns sw port hd).1.length = x.length) && decide ((ofP ns sw port hd).1 = Zdm x))
theorem ZgZ (ns : List Node) (sw port : Int) (hd : Arr3u8) (x : List Sent) (h0 : BI hd.e0) (h1 : BI hd.e1) (h2 : BI hd.e2) :
  ∃ K : Nat, ∀ k, K ≤ k → Zb5 k ns sw port hd x = some (Zga ns sw port hd x) ∧ Zbb k ns sw port hd x = some (Zga ns sw port hd x) := by
 have hLIM : LIM = 68719476736 := rfl
 obtain ⟨r1, r2, K, r3⟩ := Zmt ns sw port hd h0 h1 h2
 unfold Zga
 generalize ofP ns sw port hd = r at r1 r2 r3 ⊢
 by_cases hz : r.2 = 0
 ·by_cases hlen : r.1.length = x.length
  ·rw [show (r.2 == 0) = true by simpa using hz, decide_eq_true hlen, Bool.true_and, Bool.true_and]
   refine ⟨K + 1000000000, fun k hk => ⟨?_, ?_⟩⟩
   ·unfold Zb5
    rw [(r3 k (by omega)).1]
    simp only [Option.bind_some]
    rw [if_pos (by simpa using hz), if_pos (by simp [hlen]), Zgi, if_pos (by omega)]
    simp only [Option.bind_some]
    rw [Zlt k _ _ (by omega) (by omega)]; rfl
   ·unfold Zbb
    rw [(r3 k (by omega)).2]
    simp only [Option.bind_some]
    have e := ZhB k (by omega) x (by omega) k 0 [] (by omega) (by omega) (by simp; omega) (by simp; omega)
    rw [List.drop_zero] at e
    have e' : Zbn k x k ([], 0) = _ := e
    rw [if_neg (by simp [hz, hlen]), e']
    simp only [Option.bind_some]
    rw [Zme k _ _ (by omega) (by omega)]
    simp only [Option.bind_some]
    rw [decide_eq_decide.2 (ZkQ r1 hlen)]
  ·rw [decide_eq_false hlen, Bool.false_and, Bool.and_false]
   refine ⟨K, fun k hk => ⟨?_, ?_⟩⟩
   ·unfold Zb5
    rw [(r3 k (by omega)).1]
    simp only [Option.bind_some]
    rw [if_pos (by simpa using hz), if_neg (by simp; omega)]
   ·unfold Zbb
    rw [(r3 k (by omega)).2]
    simp only [Option.bind_some]
    rw [if_pos (by simp; right; omega)]
 ·rw [show (r.2 == 0) = false by simpa using hz, Bool.false_and]
  refine ⟨K, fun k hk => ⟨?_, ?_⟩⟩
  ·unfold Zb5
   rw [(r3 k (by omega)).1]
   simp only [Option.bind_some]
   rw [if_neg (by simpa using hz)]
  ·unfold Zbb
   rw [(r3 k (by omega)).2]
   simp only [Option.bind_some]
   rw [if_pos (by simp; left; exact hz)]
end Go.Cat.G3

