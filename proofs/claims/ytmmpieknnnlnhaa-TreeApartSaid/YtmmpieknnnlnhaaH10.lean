/- A text of the proof of the seat's laws: a step logic over the machine, or pure functions that the Go functions come to. No condition. -/
import Derived.Test.YtmmpieknnnlnhaaT1
namespace Go.Cat.G3
open Go Go.Cat Go.Proofs
set_option linter.unusedVariables false
set_option linter.unusedSimpArgs false
abbrev Founds := List (Int × End)
def sets (o : List End) (xs : Founds) : List End := xs.foldl (fun o p => o.set p.1.toNat p.2) o
theorem sets_snoc (o : List End) (xs : Founds) (p : Int × End) : sets o (xs ++ [p]) = (sets o xs).set p.1.toNat p.2 := by simp [sets]
theorem sets_len (xs : Founds) : ∀ o : List End, (sets o xs).length = o.length := by
  induction xs with
  | nil => intro o; rfl
  | cons p xs ih => intro o; have := ih (o.set p.1.toNat p.2); simp only [sets, List.foldl_cons] at *; rw [this, List.length_set]
def tidy (m : Founds) : Bool := m.all (fun p => decide (0 ≤ p.1) && decide (p.1 < 7)) && decide ((m.map (·.1)).Nodup)
def putAll (m : Founds) : List End := (List.range 7).map fun i => mgetD m ((i : Nat) : Int) ⟨0, 0⟩
theorem mget_none {m : Founds} {k : Int} (h : k ∉ m.map (·.1)) : mget? m k = none := by
  induction m with
  | nil => rfl
  | cons p m ih =>
    simp only [List.map_cons, List.mem_cons, not_or] at h
    simp only [mget?]
    rw [if_neg h.1, ih h.2]
theorem sets_get (xs : Founds) : ∀ (o : List End) (i : Nat), i < o.length → (∀ p ∈ xs, 0 ≤ p.1) → (xs.map (·.1)).Nodup → (sets o xs)[i]? = some ((mget? xs (i : Int)).getD (o[i]?.getD ⟨0, 0⟩)) := by
  induction xs with
  | nil => intro o i hi _ _; simp [sets, mget?, hi]
  | cons p xs ih =>
    intro o i hi h0 hn
    simp only [List.map_cons, List.nodup_cons] at hn
    have := ih (o.set p.1.toNat p.2) i (by simpa using hi) (fun q hq => h0 q (by simp [hq])) hn.2
    simp only [sets, List.foldl_cons] at this ⊢
    rw [this]
    have hp := h0 p (by simp)
    simp only [mget?]
    by_cases he : (i : Int) = p.1
    · rw [if_pos he]
      have hnone : mget? xs (i : Int) = none := mget_none (by rw [he]; exact hn.1)
      rw [hnone]
      have : p.1.toNat = i := by omega
      rw [this]
      simp [hi]
    · rw [if_neg he]
      have : p.1.toNat ≠ i := by omega
      rw [List.getElem?_set_ne this]
theorem mget_perm {a b : Founds} (h : a.Perm b) (hn : (b.map (·.1)).Nodup) (k : Int) : mget? a k = mget? b k := by
  have hna : (a.map (·.1)).Nodup := (h.map (·.1)).nodup_iff.2 hn
  have key : ∀ {m : Founds}, (m.map (·.1)).Nodup → ∀ v, mget? m k = some v ↔ (k, v) ∈ m := by
    intro m
    induction m with
    | nil => intro _ v; simp [mget?]
    | cons p m ih =>
      intro hn v
      obtain ⟨p1, p2⟩ := p
      simp only [List.map_cons, List.nodup_cons] at hn
      simp only [mget?, List.mem_cons, Prod.mk.injEq]
      by_cases hk : k = p1
      · subst hk
        rw [if_pos rfl]
        constructor
        · intro h; cases h; exact .inl ⟨rfl, rfl⟩
        · rintro (⟨_, rfl⟩ | h)
          · rfl
          · exact absurd (List.mem_map.2 ⟨_, h, rfl⟩) hn.1
      · rw [if_neg hk, ih hn.2]; simp [hk]
  cases ha : mget? a k with
  | some v => exact ((key hn v).2 (h.mem_iff.1 ((key hna v).1 ha))).symm
  | none =>
    cases hb : mget? b k with
    | none => rfl
    | some v => rw [(key hna v).2 (h.mem_iff.2 ((key hn v).1 hb))] at ha; cases ha
theorem putAll_eq {m xs : Founds} (ht : tidy m = true) (h : xs.Perm m) : sets (List.replicate 7 ⟨0, 0⟩) xs = putAll m := by
  unfold tidy at ht
  simp only [Bool.and_eq_true, List.all_eq_true, decide_eq_true_eq] at ht
  have hn : (xs.map (·.1)).Nodup := (h.map (·.1)).nodup_iff.2 ht.2
  apply List.ext_getElem?
  intro i
  by_cases hi : i < 7
  · rw [sets_get xs _ i (by simpa using hi) (fun p hp => (ht.1 p (h.mem_iff.1 hp)).1) hn, mget_perm h ht.2]
    have hz : (List.replicate 7 (⟨0, 0⟩ : End))[i]? = some ⟨0, 0⟩ := by rw [List.getElem?_replicate, if_pos hi]
    rw [hz]
    simp [putAll, hi, mgetD]
  · rw [List.getElem?_eq_none (by rw [sets_len]; simp; omega), List.getElem?_eq_none (by simp [putAll]; omega)]
def tree_Tree (k : Nat) (x0 : List Link) : Option (List End × Int) :=
  (tree_find k x0).bind fun y => if (!y.2) = true then some ([], 2) else if tidy (y.1.getD []) = true then some (putAll (y.1.getD []), 0) else none
theorem fn_36 : Try.prog.funcs[36]? = some Try.f36 := by kernel_rfl
instance : TFun Try.prog 36 := ⟨_, (by kernel_rfl : Try.prog.funcs[36]? = some Try.f36), by decide, rfl⟩
set_option maxRecDepth 100000 in
set_option maxHeartbeats 4000000 in
theorem tree_Tree_ok (k : Nat) (H : Heap) (x0 : List Link) (a0_0 : Option Addr) (c0_0 : Nat) (hx0_0 : RSl H a0_0 c0_0 x0) {r : List End × Int} (hr : tree_Tree k x0 = some r) :
    Fn Try.prog 36 [.slice a0_0 x0.length c0_0] H [] fun H' v out => ∃ a0 c0, v = .tuple #[.slice a0 r.1.length c0, .int .i64 r.2] ∧ out = [.osl (.slice a0 r.1.length c0) 2 26 (r.1.map GoE.enc)] := by
  refine fn_of_sim (args := [.slice a0_0 x0.length c0_0]) (n := 29) (Φ := fun r H' v out => ∃ a0 c0, v = .tuple #[.slice a0 r.1.length c0, .int .i64 r.2] ∧ out = [.osl (.slice a0 r.1.length c0) 2 26 (r.1.map GoE.enc)]) hr fn_36 rfl rfl rfl fun w => ?_
  refine s_eq (by rw [tree_Tree]) ?_
  refine s_seq ?_
  refine s_region ?_
  refine o_asg rfl ?_
  refine o_asg rfl ?_
  refine s_done ?_
  refine s_seq ?_
  refine s_region ?_
  refine o_mov rfl ?_
  refine s_bg fun y1 h2 => ?_
  refine s_call [] _ rfl rfl (.refl _) (tree_find_ok k _ x0 _ _ hx0_0 h2) ?_
  rintro _ H5 _ hle6 ⟨mv3, rfl, rfl, hs4⟩
  refine s_ownN ?_
  refine o_mov rfl ?_
  refine o_ext rfl rfl ?_
  refine o_ext rfl rfl ?_
  refine o_asg rfl ?_
  refine o_asg rfl ?_
  refine s_done ?_
  refine s_seq ?_
  refine s_seq ?_
  refine s_region ?_
  refine o_mov rfl ?_
  refine o_not rfl ?_
  refine s_done ?_
  refine s_cond rfl (fun h10 => ?_) (fun h10 => ?_)
  · refine s_seq ?_
    refine s_region ?_
    refine o_asg rfl ?_
    refine o_asg rfl ?_
    refine s_done ?_
    refine s_nilOc (sz := 2) (t := 26) ?_
    exact s_retv (xs := [.tmp 2, .tmp 3]) (vs := [.slice none ([] : List End).length 0, .int .i64 2]) [.osl (.slice none ([] : List End).length 0) 2 26 []] fn_36 rfl ⟨rv_tmp rfl, rv_tmp rfl, trivial⟩ (.cons_cons _ .slnil) ⟨_, _, rfl, rfl⟩
  · obtain ⟨y11, y12⟩ := y1
    simp only [] at hs4 ⊢
    refine s_ite (c := tidy (y11.getD [])) (fun ht => ?_) (fun _ => s_none)
    refine s_skip ?_
    refine s_seq ?_
    refine s_region ?_
    refine s_eq (m' := (mks 7 (⟨0, 0⟩ : End)).bind fun _ => some (putAll (y11.getD []), 0)) rfl ?_
    refine o_mks (z := (⟨0, 0⟩ : End)) (zc := [.int .i64 0, .int .i64 0]) rfl rfl (fun _ => ⟨.agg #[.int .i64 0, .int .i64 0], by kernel_rfl, rfl⟩) rfl fun b6 hmk hA6 => ?_
    refine o_asg rfl ?_
    refine s_done ?_
    refine s_env (env' := [(4, mv3), (6, .slice (some ⟨b6, 0, none⟩) 7 7)]) (by exact ⟨rfl, rfl, trivial⟩) ?_
    refine s_ownE (own' := [.osl (.slice (some ⟨b6, 0, none⟩) 7 7) 2 26 (List.replicate 7 [.int .i64 0, .int .i64 0])]) rfl ?_
    have hA6 : All2 (GoT.rep H5) (List.replicate 7 [.int .i64 0, .int .i64 0]) (List.replicate 7 (⟨0, 0⟩ : End)) := hA6
    have hfin : ∀ (xs : Founds) (env : Env) (own : List Res) (Hx : Heap) (lsx : List (List Value)), xs.Perm (y11.getD []) → subEnv env [(6, .slice (some ⟨b6, 0, none⟩) 7 7)] → [Res.osl (.slice (some ⟨b6, 0, none⟩) 7 7) 2 26 lsx].Sublist own → All2 (GoT.rep Hx) lsx (sets (List.replicate 7 ⟨0, 0⟩) xs) →
        ∀ (q1 q2 q3 : String) (e1 e2 e3 : Array Edge), Sim (fnCtx Try.prog 36 29 w (fun b => b ∈ ids []) H fun r H' v out => ∃ a0 c0, v = .tuple #[.slice a0 r.1.length c0, .int .i64 r.2] ∧ out = [.osl (.slice a0 r.1.length c0) 2 26 (r.1.map GoE.enc)]) (some (putAll (y11.getD []), 0)) some env own Hx []
          (.code (.code (.seq (.region 9 [⟨some 28, .move (.tmp 6), 64, q1, e1, none⟩, ⟨some 2, .assign (.tmp 28), 64, q2, e2, none⟩, ⟨some 3, .assign (.const (.int .i64 0)), 31, q3, e3, none⟩].toArray false) .ret) :: [])) := by
      intro xs env own Hx lsx hp he ho hA q1 q2 q3 e1 e2 e3
      refine s_env he (s_own ho ?_)
      refine s_seq ?_
      refine s_region ?_
      refine o_mov rfl ?_
      refine o_asg rfl ?_
      refine o_asg rfl ?_
      refine s_done ?_
      rw [putAll_eq ht hp] at hA
      have hl : (putAll (y11.getD [])).length = 7 := by simp [putAll]
      refine s_env (env' := [(2, .slice (some ⟨b6, 0, none⟩) (putAll (y11.getD [])).length 7), (3, .int .i64 0)]) (by exact ⟨by rw [hl]; rfl, rfl, trivial⟩) ?_
      refine s_ownE (own' := [.osl (.slice (some ⟨b6, 0, none⟩) (putAll (y11.getD [])).length 7) 2 26 lsx]) (by rw [hl]) ?_
      exact s_retv (xs := [.tmp 2, .tmp 3]) (vs := [.slice (some ⟨b6, 0, none⟩) (putAll (y11.getD [])).length 7, .int .i64 0]) [.osl (.slice (some ⟨b6, 0, none⟩) (putAll (y11.getD [])).length 7) 2 26 lsx] fn_36 rfl ⟨rv_tmp rfl, rv_tmp rfl, trivial⟩ (.cons_cons _ .slnil) ⟨_, _, rfl, (congrArg (fun z => [Res.osl _ _ _ z]) (all2_flat hA))⟩
    refine s_seq ?_
    refine s_seq ?_
    refine s_region ?_
    refine o_mov rfl ?_
    cases y11 with
    | none =>
      cases hs4
      refine o_rangeN (kt := 3) (et := 26) rfl fun r => ?_
      refine s_done ?_
      refine s_block ?_
      refine s_loop ?_
      refine s_seq ?_
      refine s_region ?_
      refine o_nextN 1 rfl rfl ?_
      refine o_ext rfl rfl ?_
      refine s_done ?_
      refine s_seq ?_
      refine s_condF rfl rfl ?_
      refine s_exit rfl ?_
      exact hfin [] _ _ _ _ .nil ⟨rfl, trivial⟩ (.cons_cons _ (.cons _ .slnil)) hA6 _ _ _ _ _ _
    | some l' =>
      obtain ⟨b, es, c, rfl, hb, hR⟩ := hs4
      refine o_range (kt := 3) (et := 26) rfl hb fun r => ?_
      refine s_done ?_
      refine s_env (env' := [(6, .slice (some ⟨b6, 0, none⟩) 7 7), (18, .pointer (some ⟨r, 0, none⟩))]) (by exact ⟨rfl, rfl, trivial⟩) ?_
      refine s_block ?_
      refine s_loopM (σ := List Nat) (fun ix env own H' => ∃ ls, env = [(6, .slice (some ⟨b6, 0, none⟩) 7 7), (18, .pointer (some ⟨r, 0, none⟩))] ∧ own = [.osl (.slice (some ⟨b6, 0, none⟩) 7 7) 2 26 ls, .blk r (itObj b c es ix)] ∧ Hle H5 H' ∧ Came l'.length ix ∧ All2 (GoT.rep H') ls (sets (List.replicate 7 ⟨0, 0⟩) (vis l' ix)))
        (fun ix => l'.length - ix.length) ?_ [] ⟨_, rfl, rfl, .refl _, .nil, hA6⟩
      rintro ix _ _ H2 ⟨ls, rfl, rfl, hle2, hC, hA⟩ ih
      have hb2 := hle2 _ _ hb
      have hR2 := hR.mono hle2
      refine s_seq ?_
      refine s_region ?_
      refine o_next 1 rfl rfl hb2 hR2 hC (fun hf => ?_) (fun i p v hi hlt hp hv => ?_)
      · refine o_ext rfl rfl ?_
        refine s_done ?_
        refine s_seq ?_
        refine s_condF rfl rfl ?_
        refine s_exit rfl ?_
        exact hfin _ _ _ _ _ (vis_perm hC hf) ⟨rfl, trivial⟩ (.cons_cons _ (.cons _ .slnil)) hA _ _ _ _ _ _
      · refine o_ext rfl rfl ?_
        refine s_done ?_
        refine s_seq ?_
        refine s_condT rfl rfl ?_
        refine s_skip ?_
        refine s_block ?_
        refine s_seq ?_
        refine s_region ?_
        refine o_entry 1 rfl rfl hb2 hR2 hp fun v2 vs2 hv2 hrep2 => ?_
        cases hv2
        cases hrep2
        refine o_ext rfl rfl ?_
        refine o_ext rfl rfl ?_
        refine o_alloc fun b8 => ?_
        refine o_asg rfl ?_
        refine o_st 2 rfl rfl rfl rfl rfl rfl ?_
        refine s_done ?_
        refine s_region ?_
        refine o_mov rfl ?_
        refine o_mov rfl ?_
        refine o_ld 2 rfl rfl rfl ?_
        have hpm : p ∈ l' := List.mem_of_getElem? hp
        have hkey : 0 ≤ p.1 ∧ p.1 < 7 := by
          unfold tidy at ht
          simp only [Bool.and_eq_true, List.all_eq_true, decide_eq_true_eq, Option.getD_some] at ht
          exact ht.1 p hpm
        have hol : (sets (List.replicate 7 ⟨0, 0⟩) (vis l' ix)).length = 7 := by rw [sets_len]; simp
        have hrd : rd (sets (List.replicate 7 ⟨0, 0⟩) (vis l' ix)) p.1 = some ((sets (List.replicate 7 ⟨0, 0⟩) (vis l' ix))[p.1.toNat]'(by omega)) := by unfold rd; rw [if_pos hkey.1]; exact List.getElem?_eq_getElem (by omega)
        refine s_eq (m' := (rd (sets (List.replicate 7 ⟨0, 0⟩) (vis l' ix)) p.1).bind fun _ => some (putAll ((some l').getD []), 0)) (by rw [hrd]; rfl) ?_
        refine o_ixO 0 rfl hA rfl rfl fun y bk vs h1 ha hi2 hrep => ?_
        subst hrep
        obtain rfl := s_bk ha
        refine o_stV (l := sets (List.replicate 7 ⟨0, 0⟩) (vis l' ix)) (ci := p.1) 0 0 rfl hA hi2 rfl rfl rfl rfl rfl rfl p.2 rfl fun ls' hA' => ?_
        refine s_done ?_
        refine s_inBlock ?_
        refine s_env (env' := [(6, .slice (some ⟨b6, 0, none⟩) 7 7), (18, .pointer (some ⟨r, 0, none⟩))]) (by exact ⟨rfl, rfl, trivial⟩) ?_
        refine s_own (own' := [.osl (.slice (some ⟨b6, 0, none⟩) 7 7) 2 26 ls', .blk r (itObj b c es (ix ++ [i]))]) (.cons_cons _ (.cons_cons _ (.cons _ .slnil))) ?_
        refine ih (ix ++ [i]) _ _ _ ?_ ⟨ls', rfl, rfl, hle2, hC.snoc hlt hi, by rw [vis_snoc hp, sets_snoc]; exact hA'⟩
        have := (hC.snoc hlt hi).le
        simp at this ⊢; omega
end Go.Cat.G3
