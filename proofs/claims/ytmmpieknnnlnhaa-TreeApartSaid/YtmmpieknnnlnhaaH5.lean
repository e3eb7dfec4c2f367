/- A text of the proof of the seat's laws: a step logic over the machine, or pure functions that the Go functions come to. No condition. -/
import Derived.Test.YtmmpieknnnlnhaaH4
set_option linter.unusedVariables false
set_option linter.unusedSimpArgs false
set_option linter.unnecessarySimpa false
namespace Go.Cat.G3
open Go Go.Cat Go.Proofs
set_option linter.unusedVariables false
instance : TFun Try.prog 58 := ⟨_, (by kernel_rfl : Try.prog.funcs[58]? = some Try.f58), by decide, rfl⟩
instance : TZero Try.prog 29 (.slice none 0 0) := ⟨fun _ => by kernel_rfl⟩
/-- What the sort of numbers does (its contract is laid elsewhere). -/
def SortInts : Prop := ∀ (H : Heap) (a : Option Addr) (c : Nat) (l : List Int), l.length < 1000000 → Fn Try.prog 59 [.slice a l.length c] H [.osl (.slice a l.length c) 1 3 (l.map GoE.enc)] fun H' v out => ∃ l' : List Int, l' = l.mergeSort (fun x y => decide (x ≤ y)) ∧ out = [.osl (.slice a l'.length c) 1 3 (l'.map GoE.enc)]
/-- What Reach hands back. -/
def ReachR (o : Option (List (End × Graph_side))) (may : Bool) (n : Int) (up : List Bool) (s0 : Int) (r : List Int) : Prop :=
  if (may = false ∨ s0 < 1 ∨ s0 > n) then r = [] else ∃ l, RLoop (o.getD []) up s0 l l.length ∧ r = l.mergeSort (fun x y => decide (x ≤ y))
set_option maxRecDepth 100000 in
set_option maxHeartbeats 4000000 in
theorem reach (hSort : SortInts) (k : Nat) (H : Heap) (g : Graph) (ag : Option Addr) (cg : Nat) (hg : RSl H ag cg g.Links) (a : Option Addr) (up : List Bool) (c : Nat) (hU : RSl H a c up) (s0 : Int)
    (o : Option (List (End × Graph_side))) (may : Bool) (hs : graph_sides k g = some (o, may)) (hlk : ∀ p ∈ o.getD [], 0 ≤ p.2.link) (hN : (o.getD []).length < 1000) :
    Fn Try.prog 24 [.agg #[.int .i64 g.Switches, .slice ag g.Links.length cg], .slice a up.length c, .int .i64 s0] H [] fun H' v out => ∃ r a' c', ReachR o may g.Switches up s0 r ∧ v = .slice a' r.length c' ∧ out = [.osl (.slice a' r.length c') 1 3 (r.map GoE.enc)] := by
  refine fn_of_sim (ρ := Unit) (args := [.agg #[.int .i64 g.Switches, .slice ag g.Links.length cg], .slice a up.length c, .int .i64 s0]) (n := 56) (Φ := fun _ H' v out => ∃ r a' c', ReachR o may g.Switches up s0 r ∧ v = .slice a' r.length c' ∧ out = [.osl (.slice a' r.length c') 1 3 (r.map GoE.enc)]) (m := some ()) (r := ()) rfl fn_24 rfl rfl rfl fun w => ?_
  refine s_seq ?_
  refine s_region ?_
  refine o_box rfl fun b3 => ?_
  refine o_asg rfl ?_
  refine s_done ?_
  refine s_seq ?_
  refine s_region ?_
  refine o_ld 0 rfl rfl rfl ?_
  refine s_call [] _ rfl rfl (.refl _) (graph_sides_ok k _ g _ _ hg hs) ?_
  rintro _ H1 _ hle1 ⟨mv, rfl, rfl, hV⟩
  have hU := RSl.mono hle1 hU
  refine o_mov rfl ?_
  refine o_ext rfl rfl ?_
  refine o_ext rfl rfl ?_
  refine o_asg rfl ?_
  refine o_asg rfl ?_
  refine s_done ?_
  refine s_seq ?_
  refine s_seq ?_
  refine s_env (env' := [(1, .slice a up.length c), (2, .int .i64 s0), (3, .pointer (some ⟨b3, 0, none⟩)), (7, mv), (8, .bool may)]) (by exact ⟨rfl, rfl, rfl, rfl, rfl, trivial⟩) ?_
  refine s_ownE (own' := [.blk b3 (rowObj [.int .i64 g.Switches, .slice ag g.Links.length cg] 24)]) rfl ?_
  refine s_region ?_
  refine s_mid [(1, .slice a up.length c), (2, .int .i64 s0), (7, mv), (28, .bool (!may || (decide (s0 < 1) || decide (s0 > g.Switches))))] [] ?_ ?_
  · refine s_case (!may || (decide (s0 < 1) || decide (s0 > g.Switches))) (fun hB => ?_) (fun hB => ?_)
    · refine s_condT rfl hB ?_
      refine s_seq ?_
      refine s_region ?_
      refine o_asg rfl ?_
      refine s_done ?_
      refine s_nilOc (sz := 1) (t := 3) ?_
      refine s_retv (xs := [.tmp 6]) (vs := [.slice none 0 0]) [.osl (.slice none 0 0) 1 3 []] fn_24 rfl ⟨rv_tmp rfl, trivial⟩ (.cons_cons _ .slnil) ⟨[], none, 0, ?_, rfl, rfl⟩
      unfold ReachR
      rw [if_pos]
      simpa [or_assoc] using hB
    · refine s_condF rfl hB ?_
      refine s_skip ?_
      have hB' : ¬ (may = false ∨ s0 < 1 ∨ s0 > g.Switches) := by
        intro h
        have : (!may || (decide (s0 < 1) || decide (s0 > g.Switches))) = true := by simpa [or_assoc] using h
        rw [this] at hB; cases hB
      refine s_seq ?_
      refine s_region ?_
      refine o_mov rfl ?_
      refine o_bsl (xs := [.tmp 29]) rfl rfl (by simp only [List.mem_cons, List.not_mem_nil, or_false, forall_eq]; exact ⟨rfl, rfl⟩) rfl rfl fun bs => ?_
      refine o_alloc fun b9 => ?_
      refine o_st 1 rfl rfl rfl rfl rfl rfl ?_
      refine s_done ?_
      refine s_seq ?_
      refine s_seq ?_
      refine s_region ?_
      refine o_asg rfl ?_
      refine s_done ?_
      refine s_env (env' := [(1, .slice a up.length c), (7, mv), (9, .pointer (some ⟨b9, 0, none⟩)), (10, .int .i64 0)]) (by exact ⟨rfl, rfl, rfl, rfl, trivial⟩) ?_
      refine s_perm (own' := [.blk b9 (rowObj [.slice (some ⟨bs, 0, none⟩) 1 1] 29), .osl (.slice (some ⟨bs, 0, none⟩) 1 1) 1 3 [[.int .i64 s0]]]) (List.Perm.swap ..) ?_
      refine s_block ?_
      refine s_loopMD (σ := List Int × Nat) (fun t env own H' D => env = [(1, .slice a up.length c), (7, mv), (9, .pointer (some ⟨b9, 0, none⟩)), (10, .int .i64 (t.2 : Int))] ∧ RLoop (o.getD []) up s0 t.1 t.2 ∧ Hle H1 H' ∧ ∃ a' c' qs, own = [.blk b9 (rowObj [.slice a' t.1.length c'] 29), .osl (.slice a' t.1.length c') 1 3 (t.1.map GoE.enc)] ++ dblks qs ∧ D = marks qs)
        (fun t => 2000 - t.2) ?_ ([s0], 0) ⟨rfl, ⟨by simp, by simp, fun x hx => by simp at hx; subst hx; exact .here, by omega, by simp⟩, .refl _, _, _, [], rfl, rfl⟩
      rintro ⟨l, i⟩ _ _ H2 _ ⟨rfl, hL, hle2, a', c', qs, rfl, rfl⟩ ih
      have hlen := hL.len
      have hle := hL.le
      simp only at hL hlen hle ih
      have hU2 := RSl.mono hle2 hU
      have hV2 := MapV.mono hle2 hV
      have hAl : All2 (GoT.rep H2) (l.map GoE.enc) l := all2_enc l
      refine s_seq ?_
      refine s_seq ?_
      refine s_region ?_
      refine o_mov rfl ?_
      refine o_ld 0 rfl rfl rfl ?_
      refine o_lenS rfl ?_
      refine o_lt rfl rfl ?_
      refine s_done ?_
      refine s_case (decide ((i : Int) < (l.length : Int))) (fun hi => ?_) (fun hi => ?_)
      · refine s_condT rfl hi ?_
        refine s_skip ?_
        have hil : i < l.length := by simp at hi; omega
        refine s_seq ?_
        refine s_block ?_
        refine s_seq ?_
        refine s_region ?_
        refine o_mov rfl ?_
        refine o_mov rfl ?_
        refine o_ld 0 rfl rfl rfl ?_
        refine o_mov rfl ?_
        obtain ⟨s, hs'⟩ : ∃ s, l[i]? = some s := ⟨_, List.getElem?_eq_getElem hil⟩
        have hrd : rd l (i : Int) = some s := by unfold rd; rw [if_pos (by omega)]; simpa using hs'
        refine s_eq (m' := (rd l (i : Int)).bind fun _ => some ()) (by rw [hrd]; rfl) ?_
        refine o_ixO 1 rfl hAl rfl rfl fun y bk vs hy ha hi2 hr => ?_
        obtain rfl := Option.some.inj (hrd.symm.trans hy)
        subst hr
        subst ha
        refine o_ldO 1 0 rfl hi2 rfl rfl rfl ?_
        refine s_call [] _ rfl rfl (.refl _) (beside H2 mv (mapv_cells hV2) a up c s) ?_
        rintro _ H3 _ hle3 ⟨b1, b2, b4, rfl, rfl, hc1, hc2, hc3⟩
        refine s_ownN ?_
        refine s_done ?_
        refine s_block ?_
        have hV3 := MapV.mono hle3 hV2
        have hU3 := RSl.mono hle3 hU2
        refine s_rangeFn (enc := fun e : Int => Value.int .i64 e) (S := besideS o up s) (g := 85) (first := []) (cap := [.pointer (some ⟨b1, 0, none⟩), .pointer (some ⟨b2, 0, none⟩), .pointer (some ⟨b4, 0, none⟩)])
          [.blk b9 (rowObj [.slice (some ⟨bk, 0, none⟩) l.length c'] 29), .osl (.slice (some ⟨bk, 0, none⟩) l.length c') 1 3 (l.map GoE.enc)] (dblks qs)
          (fun xs H o => ∃ a2 c2, o = [.blk b9 (rowObj [.slice a2 (addAll l xs).length c2] 29), .osl (.slice a2 (addAll l xs).length c2) 1 3 ((addAll l xs).map GoE.enc)]) rfl rfl rfl (.refl _)
          (beside1 H3 b1 b2 b4 mv o a up c s hc1 hc2 hc3 hV3 hU3 hlk) ⟨_, _, rfl⟩ rfl ?_ ?_
        · rintro lb q tmps xs x ys H4 _ w' hle4 hx ⟨a2, c2, rfl⟩
          have hxl := besideS_len hx
          have hLl := addAll_len l xs
          simp at hxl
          have hsn := addAll_snoc l xs x
          generalize hLd : addAll l xs = L at hLl hsn
          have hcon := contains_eq (L.length + 1) L x (by omega) (by omega)
          have hAL : All2 (GoT.rep H4) (L.map GoE.enc) L := all2_enc L
          by_cases hm : x ∈ L
          · refine ⟨_, some (), rfl, ?_⟩
            refine s_region ?_
            refine o_asg rfl ?_
            refine s_done ?_
            refine s_beginRound 2 rfl ?_
            refine s_block ?_
            refine s_seq ?_
            refine s_region ?_
            refine o_ld 0 rfl rfl rfl ?_
            refine o_mov rfl ?_
            refine s_callL (Φ := fun v out => v = _ ∧ out = []) [] _ rfl rfl (.refl _) (fun H' hle hl => slices_Contains___int_int__ok _ _ L _ _ (lent_rsl (hl _ (List.mem_of_getElem? (i := 1) rfl)) hAL hle).2 x hcon) ?_
            rintro _ _ ⟨rfl, rfl⟩
            refine s_ownN ?_
            refine o_not rfl ?_
            refine s_done ?_
            refine s_condF rfl (by simp [hm]) ?_
            refine s_skip ?_
            refine s_inBlock ?_
            refine s_roundEnd 2 _ rfl (List.Sublist.refl _) ⟨[.blk b9 (rowObj [.slice a2 L.length c2] 29), .osl (.slice a2 L.length c2) 1 3 (L.map GoE.enc)], rfl, a2, c2, ?_⟩
            rw [hsn, addS, if_pos hm]
          · have hap : app L [x] = some (L ++ [x]) := by unfold app; rw [if_pos (by unfold LIM; simp; omega)]
            refine ⟨_, (app L [x]).bind some, by rw [hap]; rfl, ?_⟩
            refine s_region ?_
            refine o_asg rfl ?_
            refine s_done ?_
            refine s_beginRound 2 rfl ?_
            refine s_block ?_
            refine s_seq ?_
            refine s_region ?_
            refine o_ld 0 rfl rfl rfl ?_
            refine o_mov rfl ?_
            refine s_callL (Φ := fun v out => v = _ ∧ out = []) [] _ rfl rfl (.refl _) (fun H' hle hl => slices_Contains___int_int__ok _ _ L _ _ (lent_rsl (hl _ (List.mem_of_getElem? (i := 1) rfl)) hAL hle).2 x hcon) ?_
            rintro _ _ ⟨rfl, rfl⟩
            refine s_ownN ?_
            refine o_not rfl ?_
            refine s_done ?_
            refine s_condT rfl (by simp [hm]) ?_
            refine s_region ?_
            refine o_ld 0 rfl rfl rfl ?_
            refine o_mov rfl ?_
            refine o_bsl (xs := [.tmp 50]) rfl rfl (by simp only [List.mem_cons, List.not_mem_nil, or_false, forall_eq]; exact ⟨rfl, rfl⟩) rfl rfl fun b6 => ?_
            have hA2 : All2 (GoT.rep H4) [GoE.enc x] [x] := all2_enc [x]
            refine o_appO 1 3 rfl rfl rfl hAL rfl hA2 fun a3 c3 _ hA3 => ?_
            refine o_st 0 rfl rfl rfl rfl rfl rfl ?_
            refine s_done ?_
            refine s_inBlock ?_
            refine s_roundEnd 2 _ rfl (.cons_cons _ (.cons_cons _ (.cons_cons _ (.cons _ .slnil)))) ⟨[.blk b9 (rowObj [.slice a3 (L ++ [x]).length c3] 29), .osl (.slice a3 (L ++ [x]).length c3) 1 3 (L.map GoE.enc ++ [GoE.enc x])], rfl, a3, c3, ?_⟩
            rw [hsn, addS, if_neg hm, List.map_append]; rfl
        · rintro q xs H4 _ hle4 hxs ⟨a2, c2, rfl⟩
          refine s_perm (own' := [.blk b9 (rowObj [.slice a2 (addAll l xs).length c2] 29), .osl (.slice a2 (addAll l xs).length c2) 1 3 ((addAll l xs).map GoE.enc)] ++ dblks (q :: qs)) ?_ ?_
          · refine List.perm_append_comm.trans ((List.perm_append_left_iff _).2 ?_)
            exact List.perm_append_comm
          refine s_inBlock ?_
          refine s_inBlock ?_
          refine s_region ?_
          refine o_mov rfl ?_
          refine o_add rfl rfl ?_
          refine o_asg rfl ?_
          refine s_done ?_
          have hw : w64 ((i : Int) + 1) = ((i + 1 : Nat) : Int) := by rw [w64_id (by omega) (by omega)]; omega
          refine s_env (env' := [(1, .slice a up.length c), (7, mv), (9, .pointer (some ⟨b9, 0, none⟩)), (10, .int .i64 (w64 ((i : Int) + 1)))]) (by exact ⟨rfl, rfl, rfl, rfl, trivial⟩) ?_
          rw [hw]
          exact ih (addAll l xs, i + 1) _ _ _ _ (by simp only; omega) ⟨rfl, hL.next rfl hs' hxs, hle2.trans (hle3.trans hle4), a2, c2, q :: qs, rfl, rfl⟩
      · refine s_condF rfl hi ?_
        refine s_exit rfl ?_
        have hil : i = l.length := by simp at hi; omega
        subst hil
        refine s_seq ?_
        refine s_region ?_
        refine o_ld 0 rfl rfl rfl ?_
        refine s_call [Res.osl (.slice a' l.length c') 1 3 (l.map GoE.enc)] (Res.blk b9 (rowObj [.slice a' l.length c'] 29) :: dblks qs) rfl rfl (by exact List.Perm.swap _ _ _) (hSort H2 a' c' l (by omega)) ?_
        rintro _ H3 _ hle3 ⟨l2, hl2, rfl⟩
        have hlen2 : l2.length = l.length := by rw [hl2]; simp
        refine s_done ?_
        refine s_seq ?_
        refine s_region ?_
        refine s_perm (own' := [Res.blk b9 (rowObj [.slice a' l.length c'] 29), Res.osl (.slice a' l2.length c') 1 3 (l2.map GoE.enc)] ++ dblks qs) (by exact pm3 (a := [Res.blk b9 (rowObj [.slice a' l.length c'] 29)]) (fr := dblks qs) (xs := [Res.osl (.slice a' l2.length c') 1 3 (l2.map GoE.enc)])) ?_
        refine o_ld 0 rfl rfl rfl ?_
        refine o_asg rfl ?_
        refine s_done ?_
        refine s_retMs (xs := [.tmp 6]) (vs := [.slice a' l.length c']) qs [.osl (.slice a' l2.length c') 1 3 (l2.map GoE.enc)] fn_24 rfl ⟨rv_tmp rfl, trivial⟩ (.cons _ (.cons_cons _ .slnil)) ⟨l2, a', c', ?_, by rw [hlen2]; rfl, rfl⟩
        unfold ReachR
        rw [if_neg hB']
        exact ⟨l, hL, hl2⟩
  · intro J
    refine o_mov rfl ?_
    refine o_not rfl ?_
    refine o_mov rfl ?_
    refine s_case (!may) (fun h1 => ?_) (fun h1 => ?_)
    · refine s_unwant rfl rfl h1 ?_
      refine s_unwant rfl rfl h1 ?_
      refine o_pickT rfl h1 rfl ?_
      refine o_mov rfl ?_
      refine s_unwant rfl rfl rfl ?_
      refine s_unwant rfl rfl rfl ?_
      refine s_unwant rfl rfl rfl ?_
      refine s_unwant rfl rfl rfl ?_
      refine o_pickT rfl rfl rfl ?_
      exact s_env (by exact ⟨rfl, rfl, rfl, lkb rfl (by simp [h1]), trivial⟩) (s_own (by exact (.cons _ .slnil)) J)
    · refine s_want rfl rfl h1 ?_
      refine o_mov rfl ?_
      refine s_want rfl rfl h1 ?_
      refine o_lt rfl rfl ?_
      refine o_pickF rfl h1 rfl ?_
      refine o_mov rfl ?_
      refine s_case (decide (s0 < 1)) (fun h2 => ?_) (fun h2 => ?_)
      · refine s_unwant rfl rfl h2 ?_
        refine s_unwant rfl rfl h2 ?_
        refine s_unwant rfl rfl h2 ?_
        refine s_unwant rfl rfl h2 ?_
        refine o_pickT rfl h2 rfl ?_
        exact s_env (by exact ⟨rfl, rfl, rfl, lkb rfl (by simp only [h1, h2, Bool.false_or, Bool.true_or]), trivial⟩) (s_own (by exact (.cons _ .slnil)) J)
      · refine s_want rfl rfl h2 ?_
        refine o_mov rfl ?_
        refine s_want rfl rfl h2 ?_
        refine o_fa rfl ?_
        refine s_want rfl rfl h2 ?_
        refine o_ld 0 rfl rfl rfl ?_
        refine s_want rfl rfl h2 ?_
        refine o_gt rfl rfl ?_
        refine o_pickF rfl h2 rfl ?_
        exact s_env (by exact ⟨rfl, rfl, rfl, lkb rfl (by simp only [h1, h2, Bool.false_or, Bool.true_or]), trivial⟩) (s_own (by exact (.cons _ .slnil)) J)
end Go.Cat.G3
