/- A text of the proof of the seat's laws: a step logic over the machine, or pure functions that the Go functions come to. No condition. -/
import Derived.Test.YtmmpieknnnlnhaaG3
set_option linter.unusedVariables false
set_option linter.unusedSimpArgs false
set_option linter.unnecessarySimpa false
namespace Go.Cat.G3
open Go Go.Cat Go.Proofs
set_option linter.unusedVariables false
abbrev KeysOf (o : Option (List (End × Graph_side))) : List End := (o.getD []).map (·.1)
set_option maxRecDepth 100000 in
set_option maxHeartbeats 4000000 in
theorem keys1 (H : Heap) (bb : Nat) (mv : Value) (o : Option (List (End × Graph_side))) (hbb : CellsAt H bb 0 [mv]) (hV : MapV true true H mv o) :
    SeqFn Try.prog 84 [] [.pointer (some ⟨bb, 0, none⟩)] H (fun e : End => [.agg (GoE.enc e).toArray]) (fun xs => xs.Perm (KeysOf o)) := by
  intro l J H1 inn hle h0 hY
  have hbb := CellsAt.mono hle hbb
  have hV := MapV.mono hle hV
  refine fn_of_sim (ρ := Unit) (args := [.func (.yield l) #[] #[], .pointer (some ⟨bb, 0, none⟩)]) (n := 14) (Φ := fun _ H' _ out => ∃ xs, xs.Perm (KeysOf o) ∧ J xs H' out) (m := some ()) (r := ()) rfl fn_84 rfl rfl rfl fun w => ?_
  refine s_seq ?_
  refine s_region ?_
  refine o_ldH 0 hbb rfl rfl rfl ?_
  cases o with
  | none =>
    cases hV
    refine o_rangeN (kt := 26) (et := 84) rfl fun r => ?_
    refine s_done ?_
    refine s_perm (own' := [.blk r (.mapIter none 0 #[] 0)] ++ inn) List.perm_append_comm ?_
    refine s_block ?_
    refine s_loop ?_
    refine s_seq ?_
    refine s_region ?_
    refine o_nextN 0 rfl rfl ?_
    refine o_ext rfl rfl ?_
    refine s_done ?_
    refine s_seq ?_
    refine s_condF rfl rfl ?_
    refine s_exit rfl ?_
    exact s_endv (xs := []) (vs := []) inn fn_84 rfl trivial (List.sublist_append_right _ _) ⟨[], .nil, h0⟩
  | some l' =>
    obtain ⟨b, es, c, rfl, hb, hR⟩ := hV
    refine o_range (kt := 26) (et := 84) rfl hb fun r => ?_
    refine s_done ?_
    refine s_perm (own' := [.blk r (itObj b c es [])] ++ inn) List.perm_append_comm ?_
    refine s_env (env' := [(0, .func (.yield l) #[] #[]), (5, .pointer (some ⟨r, 0, none⟩))]) (by exact ⟨rfl, rfl, trivial⟩) ?_
    refine s_block ?_
    refine s_loopM (σ := List Nat) (fun ix env own H' => env = [(0, .func (.yield l) #[] #[]), (5, .pointer (some ⟨r, 0, none⟩))] ∧ Came l'.length ix ∧ Hle H1 H' ∧ ∃ o', own = [.blk r (itObj b c es ix)] ++ o' ∧ J ((vis l' ix).map (·.1)) H' o')
      (fun ix => l'.length - ix.length) ?_ [] ⟨rfl, .nil, .refl _, inn, rfl, h0⟩
    rintro ix _ _ H2 ⟨rfl, hC, hle2, o', rfl, hJ⟩ ih
    have hb2 := hle2 _ _ hb
    have hR2 := hR.mono hle2
    refine s_seq ?_
    refine s_region ?_
    refine o_next 0 rfl rfl hb2 hR2 hC (fun hf => ?_) (fun i p v hi hlt hp hv => ?_)
    · refine o_ext rfl rfl ?_
      refine s_done ?_
      refine s_seq ?_
      refine s_condF rfl rfl ?_
      refine s_exit rfl ?_
      exact s_endv (xs := []) (vs := []) o' fn_84 rfl trivial (List.sublist_append_right _ _) ⟨_, (vis_perm hC hf).map _, hJ⟩
    · refine o_ext rfl rfl ?_
      refine s_done ?_
      refine s_seq ?_
      refine s_condT rfl rfl ?_
      refine s_skip ?_
      refine s_block ?_
      refine s_seq ?_
      refine s_region ?_
      refine o_entry 0 rfl rfl hb2 hR2 hp fun v2 vs2 hv2 hrep2 => ?_
      refine o_ext rfl rfl ?_
      refine o_alloc fun b3 => ?_
      refine s_perm (own' := [.blk r (itObj b c es (ix ++ [i])), .blk b3 (rowObj [.int .i64 0, .int .i64 0] 26)] ++ o') (pm3 (a := [.blk r (itObj b c es (ix ++ [i]))]) (xs := [.blk b3 (rowObj [.int .i64 0, .int .i64 0] 26)])) ?_
      refine o_st 1 rfl rfl rfl rfl rfl rfl ?_
      refine s_done ?_
      refine s_seq ?_
      refine s_region ?_
      refine o_mov rfl ?_
      refine o_ld 1 rfl rfl rfl ?_
      have hfst : (vis l' (ix ++ [i])).map (·.1) = (vis l' ix).map (·.1) ++ [p.1] := by rw [vis_snoc hp]; simp
      obtain ⟨ys, hys⟩ := vis_sublist_perm (hC.snoc hlt hi)
      have hpre : ((vis l' ix).map (·.1) ++ p.1 :: ys.map (·.1)).Perm (KeysOf (some l')) := by
        have := hys.map (·.1)
        rw [List.map_append, hfst] at this
        simpa [KeysOf] using this
      refine s_ownE (own' := [.blk r (itObj b c es (ix ++ [i])), .blk b3 (rowObj (GoE.enc p.1) 26)] ++ o') rfl ?_
      refine s_yield o' [.blk r (itObj b c es (ix ++ [i])), .blk b3 (rowObj (GoE.enc p.1) 26)] rfl rfl List.perm_append_comm (hY _ p.1 _ H2 o' hle2 hpre hJ) ?_
      rintro _ H3 out hle3 ⟨rfl, hJ3⟩
      refine o_not rfl ?_
      refine s_done ?_
      refine s_condF rfl rfl ?_
      refine s_skip ?_
      refine s_inBlock ?_
      refine s_env (env' := [(0, .func (.yield l) #[] #[]), (5, .pointer (some ⟨r, 0, none⟩))]) (by exact ⟨rfl, rfl, trivial⟩) ?_
      refine s_own (own' := [.blk r (itObj b c es (ix ++ [i]))] ++ out) (.cons_cons _ (.cons _ (List.Sublist.refl _))) ?_
      refine ih (ix ++ [i]) _ _ _ ?_ ⟨rfl, hC.snoc hlt hi, hle2.trans hle3, out, rfl, by rw [hfst]; exact hJ3⟩
      have := (hC.snoc hlt hi).le
      simp at this ⊢; omega
end Go.Cat.G3
