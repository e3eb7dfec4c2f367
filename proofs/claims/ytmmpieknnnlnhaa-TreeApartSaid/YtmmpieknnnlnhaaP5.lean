/- A text of the proof of the seat's laws: a step logic over the machine, or pure functions that the Go functions come to. No condition. -/
import Derived.Test.YtmmpieknnnlnhaaG4
namespace Go.Cat.G3
open Go Go.Cat Go.Proofs
set_option linter.unusedVariables false
set_option linter.unusedSimpArgs false
theorem rd_at {α : Type} {l : List α} {i : Nat} (h : i < l.length) : rd l (i : Int) = some l[i] := by
  unfold rd; rw [if_pos (by omega)]; simp [h]
theorem w64_nat {i : Nat} (h : i < 4611686018427387904) : w64 ((i : Int) + 1) = ((i + 1 : Nat) : Int) := by
  rw [w64_id (by omega) (by omega)]; omega
/-! ### The document's Check -/
def okEnd (n : Int) (e : End) : Bool := decide (e.Switch ≥ 1) && (decide (e.Switch ≤ n) && (decide (e.Port ≥ 1) && decide (e.Port ≤ 4)))
theorem ref_end (k : Nat) (g : Graph) (e : End) : catenaryref12_end k g e = some (okEnd g.Switches e) := by
  unfold catenaryref12_end okEnd
  by_cases h1 : e.Switch ≥ 1 <;> by_cases h2 : e.Switch ≤ g.Switches <;> by_cases h3 : e.Port ≥ 1 <;> simp [h1, h2, h3]
def shareB (a b : Link) : Bool := decide (a.A = b.A) || (decide (a.A = b.B) || (decide (a.B = b.A) || decide (a.B = b.B)))
theorem ref_shares (k : Nat) (a b : Link) : catenaryref12_shares k a b = some (shareB a b) := by
  unfold catenaryref12_shares shareB
  by_cases h1 : a.A = b.A
  · simp [h1]
  · by_cases h2 : a.A = b.B
    · simp [h1, h2]
    · by_cases h3 : a.B = b.A
      · rw [if_neg (by simpa using h1), if_neg (by simpa using h2), if_pos (by simpa using h3)]; simp [h3]
      · rw [if_neg (by simpa using h1), if_neg (by simpa using h2), if_neg (by simpa using h3)]; simp [h1, h2, h3]
def okLink (n : Int) (seen : List Link) (l : Link) : Bool := okEnd n l.A && (okEnd n l.B && (!(l.A.Switch == l.B.Switch) && !(seen.any (shareB l))))
def wf (n : Int) : List Link → List Link → Bool
  | _, [] => true
  | seen, l :: ls => okLink n seen l && wf n (seen ++ [l]) ls
theorem wf_cons (n : Int) (seen : List Link) (l : Link) (ls : List Link) : wf n seen (l :: ls) = (okLink n seen l && wf n (seen ++ [l]) ls) := rfl
theorem ref_l1 (k : Nat) (g : Graph) (i : Nat) (l : Link) (hi : i ≤ g.Links.length) (hb : g.Links.length < 4611686018427387904) : ∀ (q j : Nat), j ≤ i → i - j < q →
    catenaryref12_Check_l1 k g (i : Int) l q (j : Int) = some (if ((g.Links.take i).drop j).any (shareB l) = true then .ret (.ret 2) else .out ()) := by
  intro q
  induction q with
  | zero => intro j _ h; omega
  | succ q ih =>
    intro j hj hq
    rw [catenaryref12_Check_l1]
    by_cases hlt : j < i
    · have hd : (g.Links.take i).drop j = g.Links[j] :: (g.Links.take i).drop (j + 1) := by
        rw [List.drop_eq_getElem_cons (by simp; omega)]; simp
      rw [if_pos (by simp; omega), rd_at (by omega), hd]
      simp only [Option.bind_some, ref_shares, List.any_cons]
      by_cases hs : shareB l g.Links[j] = true
      · simp [hs]
      · rw [if_neg hs, w64_nat (by omega), ih (j + 1) (by omega) (by omega)]
        simp [hs]
    · rw [if_neg (by simp; omega)]
      have : (g.Links.take i).drop j = [] := List.drop_eq_nil_of_le (by simp; omega)
      simp [this]
theorem ref_l0 (k : Nat) (g : Graph) (hb : g.Links.length < 4611686018427387904) (hk : g.Links.length < k) : ∀ (q i : Nat), i ≤ g.Links.length → g.Links.length - i < q →
    catenaryref12_Check_l0 k g q (i : Int) = some (if wf g.Switches (g.Links.take i) (g.Links.drop i) = true then .out () else .ret 2) := by
  intro q
  induction q with
  | zero => intro i _ h; omega
  | succ q ih =>
    intro i hi hq
    rw [catenaryref12_Check_l0]
    by_cases hlt : i < g.Links.length
    · have hd : g.Links.drop i = g.Links[i] :: g.Links.drop (i + 1) := List.drop_eq_getElem_cons hlt
      have ht : g.Links.take i ++ [g.Links[i]] = g.Links.take (i + 1) := by rw [List.take_succ_eq_append_getElem hlt]
      rw [if_pos (by simp; omega), rd_at hlt, hd]
      rw [wf_cons]
      unfold okLink
      simp only [Option.bind_some, ref_end]
      have h1 := ref_l1 k g i g.Links[i] hi hb k 0 (by omega) (by omega)
      rw [List.drop_zero] at h1
      have h1' : catenaryref12_Check_l1 k g (i : Int) g.Links[i] k 0 = _ := h1
      have ih' := ih (i + 1) (by omega) (by omega)
      rw [← ht] at ih'
      rw [h1', w64_nat (by omega), ih']
      cases okEnd g.Switches g.Links[i].A <;> cases okEnd g.Switches g.Links[i].B <;> cases (g.Links[i].A.Switch == g.Links[i].B.Switch) <;> cases (g.Links.take i).any (shareB g.Links[i]) <;> simp [LX.go]
    · rw [if_neg (by simp; omega)]
      have : g.Links.drop i = [] := List.drop_eq_nil_of_le (by omega)
      simp [this, wf]
def okG (g : Graph) : Bool := !(decide (g.Switches < 1) || (decide (g.Switches > 6) || decide ((g.Links.length : Int) > 12))) && wf g.Switches [] g.Links
theorem ref_check (k : Nat) (g : Graph) (hb : g.Links.length < 4611686018427387904) (hk : g.Links.length < k) : catenaryref12_Check k g = some (if okG g = true then 0 else 2) := by
  unfold catenaryref12_Check okG
  cases hc : (decide (g.Switches < 1) || (decide (g.Switches > 6) || decide ((g.Links.length : Int) > 12))) with
  | true => simp
  | false =>
    have := ref_l0 k g hb hk k 0 (by omega) (by omega)
    rw [List.drop_zero, List.take_zero] at this
    have h' : catenaryref12_Check_l0 k g k 0 = _ := this
    rw [h']
    cases wf g.Switches [] g.Links <;> simp [LX.go]
/-! ### The program's sides -/
def entries : Nat → List Link → Sides
  | _, [] => []
  | i, l :: ls => (l.A, ⟨l.B, i⟩) :: (l.B, ⟨l.A, i⟩) :: entries (i + 1) ls
theorem entries_app (ls : List Link) (l : Link) : ∀ i, entries i (ls ++ [l]) = entries i ls ++ [(l.A, ⟨l.B, ((i + ls.length : Nat) : Int)⟩)] ++ [(l.B, ⟨l.A, ((i + ls.length : Nat) : Int)⟩)] := by
  induction ls with
  | nil => intro i; simp [entries]
  | cons x ls ih =>
    intro i
    simp only [List.cons_append, entries, ih, List.length_cons]
    rw [show i + 1 + ls.length = i + (ls.length + 1) by omega]
theorem mhas_entries (ls : List Link) (e : End) : ∀ i, mhas (entries i ls) e = ls.any fun l => decide (e = l.A) || decide (e = l.B) := by
  induction ls with
  | nil => intro i; rfl
  | cons x ls ih =>
    intro i
    have := ih (i + 1)
    unfold mhas at *
    simp only [entries, mget?, List.any_cons]
    by_cases h1 : e = x.A
    · simp [h1]
    · by_cases h2 : e = x.B
      · rw [if_neg h1, if_pos h2]; simp [h2]
      · rw [if_neg h1, if_neg h2, this]; simp [h1, h2]
theorem share_split (seen : List Link) (l : Link) : seen.any (shareB l) = ((seen.any fun x => decide (l.A = x.A) || decide (l.A = x.B)) || (seen.any fun x => decide (l.B = x.A) || decide (l.B = x.B))) := by
  induction seen with
  | nil => rfl
  | cons x seen ih =>
    simp only [List.any_cons, ih, shareB]
    cases decide (l.A = x.A) <;> cases decide (l.A = x.B) <;> cases decide (l.B = x.A) <;> cases decide (l.B = x.B) <;> simp
theorem badE_okEnd (n : Int) (m : Sides) (e : End) : badE n m e = (mhas m e || !okEnd n e) := by
  unfold badE okEnd
  congr 1
  rw [Bool.eq_iff_iff]; simp <;> omega
theorem addLink_eq (n : Int) (seen : List Link) (l : Link) : addLink n (entries 0 seen) (seen.length : Int) l = if okLink n seen l = true then some (entries 0 (seen ++ [l])) else none := by
  unfold addLink okLink
  rw [badE_okEnd, badE_okEnd, mhas_app, mhas_entries, mhas_entries, share_split, entries_app]
  simp only [Nat.zero_add]
  by_cases he : l.B = l.A
  · simp [he]
  · cases okEnd n l.A <;> cases okEnd n l.B <;> cases (l.A.Switch == l.B.Switch) <;> cases (seen.any fun x => decide (l.A = x.A) || decide (l.A = x.B)) <;> cases (seen.any fun x => decide (l.B = x.A) || decide (l.B = x.B)) <;> simp [he]
theorem sidesL_eq (n : Int) : ∀ (ls seen : List Link), sidesL n ls seen.length (entries 0 seen) = if wf n seen ls = true then some (entries 0 (seen ++ ls)) else none := by
  intro ls
  induction ls with
  | nil => intro seen; simp [sidesL, wf]
  | cons l ls ih =>
    intro seen
    rw [wf_cons]
    simp only [sidesL, addLink_eq]
    cases okLink n seen l with
    | false => simp
    | true =>
      have := ih (seen ++ [l])
      simp only [List.length_append, List.length_cons, List.length_nil, Nat.zero_add, List.append_assoc, List.cons_append, List.nil_append] at this
      simp [this]
theorem nodup_sub_lenG {α : Type} [DecidableEq α] : ∀ {l m : List α}, l.Nodup → (∀ x ∈ l, x ∈ m) → l.length ≤ m.length := by
  intro l
  induction l with
  | nil => intro m _ _; simp
  | cons a l ih =>
    intro m hn hs
    have ha : a ∈ m := hs a (by simp)
    have hn' := List.nodup_cons.1 hn
    have := ih (m := m.erase a) hn'.2 (fun x hx => (List.mem_erase_of_ne (fun e : x = a => hn'.1 (by rw [← e]; exact hx))).2 (hs x (by simp [hx])))
    rw [List.length_erase_of_mem ha] at this
    have : 0 < m.length := List.length_pos_of_mem ha
    simp only [List.length_cons]; omega
def allEnds : List End := ([1, 2, 3, 4, 5, 6] : List Int).flatMap fun s => ([1, 2, 3, 4] : List Int).map fun p => ⟨s, p⟩
theorem sides_few {n : Int} {m : Sides} (h : SidesOk n m) (hn : n ≤ 6) : m.length ≤ 24 := by
  have := nodup_sub_lenG (α := End) (l := m.map (·.1)) (m := allEnds) h.nd (fun e he => by
    obtain ⟨p, hp, rfl⟩ := List.mem_map.1 he
    have := h.ok p hp
    simp only [allEnds, List.mem_flatMap, List.mem_map]
    refine ⟨p.1.Switch, ?_, p.1.Port, ?_, rfl⟩
    · have : p.1.Switch = 1 ∨ p.1.Switch = 2 ∨ p.1.Switch = 3 ∨ p.1.Switch = 4 ∨ p.1.Switch = 5 ∨ p.1.Switch = 6 := by omega
      rcases this with h | h | h | h | h | h <;> rw [h] <;> simp
    · have : p.1.Port = 1 ∨ p.1.Port = 2 ∨ p.1.Port = 3 ∨ p.1.Port = 4 := by omega
      rcases this with h | h | h | h <;> rw [h] <;> simp)
  simpa [allEnds] using this
theorem sidesP_eq (g : Graph) : sidesP g = if okG g = true then some (entries 0 g.Links) else none := by
  unfold sidesP okG
  by_cases hn : (decide (g.Switches < 1) || decide (g.Switches > 6)) = true
  · rw [if_pos hn, if_neg]
    simp at hn ⊢; omega
  · rw [if_neg hn]
    have hs := sidesL_eq g.Switches g.Links []
    simp only [List.length_nil, List.nil_append] at hs
    have hs' : sidesL g.Switches g.Links 0 [] = _ := hs
    rw [hs']
    cases hw : wf g.Switches [] g.Links with
    | false => simp
    | true =>
      rw [hw, if_pos rfl] at hs'
      have hok := sidesL_ok _ _ _ _ ⟨by simp, by simp⟩ hs'
      simp at hn
      have h24 := sides_few hok (by omega)
      have hlen := sidesL_len _ _ _ _ hs'
      simp only [List.length_nil, Nat.zero_add] at hlen
      rw [if_pos rfl, if_pos]
      simp; omega
/-! ### Peer -/
def findE : Nat → List Link → End → Option (End × Int)
  | _, [], _ => none
  | i, l :: ls, e => if l.A = e then some (l.B, i) else if l.B = e then some (l.A, i) else findE (i + 1) ls e
theorem mget_entries (e : End) : ∀ (ls : List Link) (i : Nat), mget? (entries i ls) e = (findE i ls e).map fun x => (⟨x.1, x.2⟩ : Graph_side) := by
  intro ls
  induction ls with
  | nil => intro i; rfl
  | cons l ls ih =>
    intro i
    simp only [entries, mget?, findE]
    by_cases h1 : l.A = e
    · rw [if_pos h1.symm, if_pos h1]; rfl
    · rw [if_neg (fun h => h1 h.symm), if_neg h1]
      by_cases h2 : l.B = e
      · rw [if_pos h2.symm, if_pos h2]; rfl
      · rw [if_neg (fun h => h2 h.symm), if_neg h2, ih]
theorem ref_peer_l0 (k : Nat) (g : Graph) (e : End) (hb : g.Links.length < 4611686018427387904) : ∀ (q i : Nat), i ≤ g.Links.length → g.Links.length - i < q →
    catenaryref12_Peer_l0 k g e q (i : Int) = some (match findE i (g.Links.drop i) e with | some x => .ret (x.1, x.2, true) | none => .out ()) := by
  intro q
  induction q with
  | zero => intro i _ h; omega
  | succ q ih =>
    intro i hi hq
    rw [catenaryref12_Peer_l0]
    by_cases hlt : i < g.Links.length
    · have hd : g.Links.drop i = g.Links[i] :: g.Links.drop (i + 1) := List.drop_eq_getElem_cons hlt
      rw [if_pos (by simp; omega), rd_at hlt, hd]
      simp only [Option.bind_some, findE]
      by_cases h1 : g.Links[i].A = e
      · rw [if_pos (by simpa using h1), if_pos h1]
      · rw [if_neg (by simpa using h1), if_neg h1]
        by_cases h2 : g.Links[i].B = e
        · rw [if_pos (by simpa using h2), if_pos h2]
        · rw [if_neg (by simpa using h2), if_neg h2, w64_nat (by omega), ih (i + 1) (by omega) (by omega)]
    · rw [if_neg (by simp; omega)]
      have : g.Links.drop i = [] := List.drop_eq_nil_of_le (by omega)
      simp [this, findE]
def peerOf (g : Graph) (e : End) : End × Int × Bool :=
  match if okG g = true then findE 0 g.Links e else none with
  | some x => (x.1, x.2, true)
  | none => (⟨0, 0⟩, 0, false)
theorem ref_peer (k : Nat) (g : Graph) (e : End) (hb : g.Links.length < 4611686018427387904) (hk : g.Links.length < k) : catenaryref12_Peer k g e = some (peerOf g e) := by
  unfold catenaryref12_Peer peerOf
  rw [ref_check k g hb hk]
  simp only [Option.bind_some]
  cases okG g with
  | false => simp
  | true =>
    have := ref_peer_l0 k g e hb k 0 (by omega) (by omega)
    rw [List.drop_zero] at this
    have h' : catenaryref12_Peer_l0 k g e k 0 = _ := this
    rw [if_pos rfl, if_neg (by decide), h', if_pos rfl]
    cases findE 0 g.Links e <;> simp [LX.go]
theorem peer_eq (k : Nat) (g : Graph) (e : End) (hb : g.Links.length < 4611686018427387904) (hk : 3 ≤ k) (hk2 : g.Links.length < k) : graph_Peer k g e = some (peerOf g e) := by
  unfold graph_Peer peerOf
  rw [sides_eq k g hb hk hk2, sidesP_eq]
  simp only [Option.bind_some]
  cases okG g with
  | false => simp [mgetD, mhas, mget?]
  | true =>
    simp only [if_true, Option.getD_some, mgetD, mhas, mget_entries]
    cases findE 0 g.Links e <;> simp
theorem check_eq (k : Nat) (g : Graph) (hb : g.Links.length < 4611686018427387904) (hk : 3 ≤ k) (hk2 : g.Links.length < k) : graph_Check k g = some (if okG g = true then 0 else 2) := by
  unfold graph_Check
  rw [sides_eq k g hb hk hk2, sidesP_eq]
  simp only [Option.bind_some]
  cases okG g <;> simp
theorem peer_has (g : Graph) (e : End) : (peerOf g e).2.2 = mhas ((sidesP g).getD []) e := by
  rw [sidesP_eq]
  unfold peerOf
  cases okG g with
  | false => rfl
  | true =>
    simp only [if_true, Option.getD_some, mhas, mget_entries]
    cases findE 0 g.Links e <;> simp
theorem ref_ports (k : Nat) (g : Graph) (s : Int) (hb : g.Links.length < 4611686018427387904) (hk : 6 ≤ k) (hk2 : g.Links.length < k) : catenaryref12_Ports k g s = some (portsOf ((sidesP g).getD []) s) := by
  unfold catenaryref12_Ports
  obtain ⟨k', rfl⟩ : ∃ k', k = k' + 5 := ⟨k - 5, by omega⟩
  have step : ∀ (q : Nat) (l : List Int) (p : Int), p ≤ 4 → 1 ≤ p → l.length ≤ 4 → catenaryref12_Ports_l0 (k' + 5) g s (q + 1) (l, p) = catenaryref12_Ports_l0 (k' + 5) g s q ((if mhas ((sidesP g).getD []) ⟨s, p⟩ = true then l ++ [p] else l), p + 1) := by
    intro q l p hp hp1 hl
    rw [catenaryref12_Ports_l0, if_pos (by simpa using hp), ref_peer _ _ _ hb hk2]
    simp only [Option.bind_some]
    rw [peer_has, w64_id (by omega) (by omega)]
    by_cases hm : mhas ((sidesP g).getD []) ⟨s, p⟩ = true
    · rw [if_pos hm, if_pos hm]
      unfold app
      rw [if_pos (by simp [LIM]; omega)]
      rfl
    · rw [if_neg hm, if_neg hm]
  have len : ∀ (l : List Int) (p : Int) (b : Bool), (if b = true then l ++ [p] else l).length ≤ l.length + 1 := by intro l p b; cases b <;> simp
  rw [step _ _ _ (by omega) (by omega) (by simp)]
  rw [step _ _ _ (by omega) (by omega) (by have := len [] 1 (mhas ((sidesP g).getD []) ⟨s, 1⟩); simp at this ⊢; omega)]
  rw [step _ _ _ (by omega) (by omega) (by split <;> split <;> simp)]
  rw [step _ _ _ (by omega) (by omega) (by split <;> split <;> split <;> simp)]
  rw [catenaryref12_Ports_l0]
  unfold portsOf
  cases h1 : mhas ((sidesP g).getD []) ⟨s, 1⟩ <;> cases h2 : mhas ((sidesP g).getD []) ⟨s, 2⟩ <;> cases h3 : mhas ((sidesP g).getD []) ⟨s, 3⟩ <;> cases h4 : mhas ((sidesP g).getD []) ⟨s, 4⟩ <;> simp [h1, h2, h3, h4]
theorem eqints_l0 (k : Nat) (l : List Int) (hb : l.length < 4611686018427387904) : ∀ (q i : Nat), i ≤ l.length → l.length - i < q → catenaryref00_EqInts_l0 k l l q (i : Int) = some (.out ()) := by
  intro q
  induction q with
  | zero => intro i _ h; omega
  | succ q ih =>
    intro i hi hq
    rw [catenaryref00_EqInts_l0]
    by_cases hlt : i < l.length
    · rw [if_pos (by simp; omega), rd_at hlt]
      simp only [Option.bind_some]
      rw [if_neg (by simp), w64_nat (by omega), ih (i + 1) (by omega) (by omega)]
    · rw [if_neg (by simp; omega)]
theorem eqints_self (k : Nat) (l : List Int) (hb : l.length < 4611686018427387904) (hk : l.length < k) : catenaryref00_EqInts k l l = some true := by
  unfold catenaryref00_EqInts
  rw [if_neg (by simp)]
  have := eqints_l0 k l hb k 0 (by omega) (by omega)
  have h' : catenaryref00_EqInts_l0 k l l k 0 = _ := this
  rw [h']; rfl
theorem works_true : catenarylaw12_works 1000 = some true := by decide +kernel
theorem slc30 {α : Type} (l : List α) : slc l 0 (imin (l.length : Int) 30) = some (l.take 30) := by
  unfold slc imin
  split
  · rename_i h
    rw [if_pos (by omega)]; simp
  · rename_i h
    rw [if_pos (by omega)]
    simp only [Int.toNat_zero, List.drop_zero, Int.toNat_natCast, Nat.sub_zero]
    rw [List.take_of_length_le (by omega), List.take_of_length_le (by omega)]
end Go.Cat.G3
