/- A text of the proof of the seat's laws: a step logic over the machine, or pure functions that the Go functions come to. No condition. -/
import Derived.Test.YtmmpieknnnlnhaaP6
import Derived.Test.YtmmpieknnnlnhaaG7
namespace Go.Cat.G3
open Go Go.Cat Go.Proofs
set_option linter.unusedVariables false
set_option linter.unusedSimpArgs false
theorem peers_l2 {g : Graph} (h : Good g) (s : Int) : ∀ (q : Nat) (p : Int), 1 ≤ p → p ≤ 5 → (5 - p).toNat < q → catenarylaw12_GraphPeers_l2 1000 g s q p = some (.out ()) := by
  have hsw := h.sw
  have hb : g.Links.length < 4611686018427387904 := by omega
  have hk : g.Links.length < 1000 := by omega
  intro q
  induction q with
  | zero => intro p _ _ h; omega
  | succ q ih =>
    intro p h1 h5 hq
    rw [catenarylaw12_GraphPeers_l2]
    by_cases hp : p ≤ 4
    · rw [if_pos (by simpa using hp), peer_eq _ _ _ hb (by omega) hk]
      simp only [Option.bind_some]
      unfold graph_Ports
      rw [if_pos (by omega)]
      simp only [Option.bind_some]
      have hpl : (portsOf ((sidesP g).getD []) s).length ≤ 4 := by
        have := List.length_filter_le (fun p => mhas ((sidesP g).getD []) ⟨s, p⟩) ([1, 2, 3, 4] : List Int); unfold portsOf; simp at this ⊢; omega
      rw [in_eq _ _ _ (by omega) (by omega)]
      simp only [Option.bind_some]
      have hmem : decide (p ∈ portsOf ((sidesP g).getD []) s) = (peerOf g ⟨s, p⟩).2.2 := by
        rw [peer_has]
        unfold portsOf
        rw [Bool.eq_iff_iff]
        simp only [List.mem_filter, decide_eq_true_eq]
        constructor
        · exact fun h => h.2
        · exact fun h => ⟨by simp; omega, h⟩
      rw [hmem, if_neg (by simp)]
      have hnext : catenarylaw12_GraphPeers_l2 1000 g s q (w64 (p + 1)) = some (.out ()) := by
        rw [w64_id (by omega) (by omega)]
        exact ih (p + 1) (by omega) (by omega) (by omega)
      rw [hnext, peerOf_get h]
      cases hg : mget? (entries 0 g.Links) ⟨s, p⟩ with
      | none => simp
      | some v =>
        simp only [Bool.not_true, Bool.false_eq_true, if_false]
        rw [peer_eq _ _ _ hb (by omega) hk, peerOf_get h]
        have hm := (mget_mem h.sok.nd).1 hg
        have hback := (mget_mem h.sok.nd).2 (side_back hm)
        rw [hback]
        obtain ⟨n, hn, hl, he⟩ := mem_entries.1 hm
        rw [Nat.zero_add] at hl
        have hrd : rd g.Links v.link = some g.Links[n] := by rw [hl]; exact rd_at hn
        have h0 : ¬ v.link < 0 := by omega
        have h2 : ¬ v.link ≥ (g.Links.length : Int) := by omega
        simp only [Option.bind_some, Bool.not_true, Bool.false_eq_true, if_false, decide_true, bne_self_eq_false, h0, h2, decide_false, hrd]
        rcases he with ⟨he, _⟩ | ⟨he, _⟩
        · simp [he]
        · by_cases ha : g.Links[n].A = ⟨s, p⟩
          · simp [ha]
          · simp [ha, he]
    · rw [if_neg (by simpa using hp)]
theorem peers_l1 {g : Graph} (h : Good g) (up : List Bool) (s : Int) (hs : 1 ≤ s ∧ s ≤ g.Switches) : ∀ (q i : Nat), i ≤ (reachOf (entries 0 g.Links) up s).length → (reachOf (entries 0 g.Links) up s).length - i < q →
    catenarylaw12_GraphPeers_l1 1000 up g s q (reachOf (entries 0 g.Links) up s, (i : Int)) = some (.out ()) := by
  have hlen := reach_short h up s
  intro q
  induction q with
  | zero => intro i _ h; omega
  | succ q ih =>
    intro i hi hq
    rw [catenarylaw12_GraphPeers_l1]
    by_cases hlt : i < (reachOf (entries 0 g.Links) up s).length
    · rw [if_pos (by simp; omega), rd_at hlt]
      simp only [Option.bind_some]
      have hmem : (reachOf (entries 0 g.Links) up s)[i] ∈ reachOf (entries 0 g.Links) up s := List.getElem_mem hlt
      rw [reach_eq _ h up (come_in h hs (reach_mem.1 hmem)), reach_same hmem]
      simp only [Option.bind_some]
      rw [eqints_self _ _ (by omega) (by omega)]
      simp only [Option.bind_some]
      rw [if_neg (by simp), w64_nat (by omega), ih (i + 1) (by omega) (by omega)]
    · rw [if_neg (by simp; omega)]
theorem peers_l0 {g : Graph} (h : Good g) (up : List Bool) : ∀ (q : Nat) (s : Int), 1 ≤ s → s ≤ 7 → (7 - s).toNat < q → catenarylaw12_GraphPeers_l0 1000 up g q s = some (.out ()) := by
  have hsw := h.sw
  intro q
  induction q with
  | zero => intro s _ _ h; omega
  | succ q ih =>
    intro s h1 h7 hq
    rw [catenarylaw12_GraphPeers_l0]
    by_cases hs : s ≤ g.Switches
    · have hlen := reach_short h up s
      rw [if_pos (by simpa using hs), peers_l2 h s 1000 1 (by omega) (by omega) (by omega)]
      simp only [Option.bind_some, LX.go]
      rw [reach_eq _ h up ⟨h1, hs⟩]
      simp only [Option.bind_some]
      rw [in_eq _ _ _ (by omega) (by omega)]
      simp only [Option.bind_some]
      rw [if_neg (by simp; exact reach_mem.2 .here)]
      have := peers_l1 h up s ⟨h1, hs⟩ 1000 0 (by omega) (by omega)
      have h' : catenarylaw12_GraphPeers_l1 1000 up g s 1000 (reachOf (entries 0 g.Links) up s, 0) = _ := this
      rw [h']
      simp only [Option.bind_some, LX.go]
      rw [w64_id (by omega) (by omega)]
      exact ih (s + 1) (by omega) (by omega) (by omega)
    · rw [if_neg (by simpa using hs)]
theorem GraphPeers_true (g : Graph) (up : List Bool) : ∃ k, catenarylaw12_GraphPeers k g up = some true := by
  refine ⟨1000, ?_⟩
  unfold catenarylaw12_GraphPeers
  rw [works_true]
  simp only [Option.bind_some, Bool.not_true, Bool.false_eq_true, if_false]
  obtain ⟨g', hg, hgood⟩ := made_some g
  rw [hg]
  simp only [Option.bind_some]
  rw [peers_l0 hgood up 1000 1 (by omega) (by omega) (by omega)]
  rfl
end Go.Cat.G3
