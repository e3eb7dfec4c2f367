/- A text of the proof of the seat's laws: a step logic over the machine, or pure functions that the Go functions come to. No condition. -/
import Derived.Test.YtmmpieknnnlnhaaH2
set_option linter.unusedVariables false
set_option linter.unusedSimpArgs false
set_option linter.unnecessarySimpa false
namespace Go.Cat.G3
open Go Go.Cat Go.Proofs
set_option linter.unusedVariables false
abbrev sideOn (up : List Bool) (s : Int) (p : End × Graph_side) : Bool := p.1.Switch == s && (decide (p.2.link ≥ (up.length : Int)) || (up[p.2.link.toNat]?).getD false)
abbrev besideS (o : Option (List (End × Graph_side))) (up : List Bool) (s : Int) (xs : List Int) : Prop := ∃ l' : List (End × Graph_side), l'.Perm (o.getD []) ∧ xs = (l'.filter (sideOn up s)).map (·.2.other.Switch)
set_option maxRecDepth 100000 in
theorem beside (H : Heap) (mv : Value) (hmv : mv.cells.toList = [mv]) (a : Option Addr) (up : List Bool) (c : Nat) (s : Int) :
    Fn Try.prog 57 [mv, .slice a up.length c, .int .i64 s] H [] fun H' v out => ∃ b1 b2 b3, v = .func (.func 85) #[] #[.pointer (some ⟨b1, 0, none⟩), .pointer (some ⟨b2, 0, none⟩), .pointer (some ⟨b3, 0, none⟩)] ∧ out = [] ∧
      CellsAt H' b1 0 [mv] ∧ CellsAt H' b2 0 [.int .i64 s] ∧ CellsAt H' b3 0 [.slice a up.length c] := by
  refine fn_of_sim (ρ := Unit) (args := [mv, .slice a up.length c, .int .i64 s]) (n := 8) (Φ := fun _ H' v out => ∃ b1 b2 b3, v = .func (.func 85) #[] #[.pointer (some ⟨b1, 0, none⟩), .pointer (some ⟨b2, 0, none⟩), .pointer (some ⟨b3, 0, none⟩)] ∧ out = [] ∧
      CellsAt H' b1 0 [mv] ∧ CellsAt H' b2 0 [.int .i64 s] ∧ CellsAt H' b3 0 [.slice a up.length c]) (m := some ()) (r := ()) rfl fn_57 rfl rfl rfl fun w => ?_
  refine s_seq ?_
  refine s_region ?_
  refine o_box (v := mv) rfl fun b1 => ?_
  refine o_box rfl fun b3 => ?_
  refine o_box rfl fun b2 => ?_
  refine o_asg rfl ?_
  refine s_done ?_
  refine s_seq ?_
  refine s_region ?_
  refine o_mkf rfl rfl ?_
  refine o_asg rfl ?_
  refine s_done ?_
  refine s_frzB 0 (fun b => .inl (by simp [ids])) rfl fun H1 hle1 hb1 => ?_
  refine s_frzB 0 (fun b => .inl (by simp [ids])) rfl fun H2 hle2 hb3 => ?_
  refine s_frzB 0 (fun b => .inl (by simp [ids])) rfl fun H3 hle3 hb2 => ?_
  rw [hmv] at hb1
  exact s_retv (xs := [.tmp 6]) (vs := [.func (.func 85) #[] #[.pointer (some ⟨b1, 0, none⟩), .pointer (some ⟨b2, 0, none⟩), .pointer (some ⟨b3, 0, none⟩)]]) [] fn_57 rfl ⟨rv_tmp rfl, trivial⟩ .slnil
    ⟨b1, b2, b3, rfl, rfl, cells_of_blk (hle3 _ _ (hle2 _ _ hb1)), cells_of_blk hb2, cells_of_blk (hle3 _ _ hb3)⟩

set_option maxRecDepth 100000 in
set_option maxHeartbeats 4000000 in
theorem beside1 (H : Heap) (b1 b2 b3 : Nat) (mv : Value) (o : Option (List (End × Graph_side))) (a : Option Addr) (up : List Bool) (cp : Nat) (s : Int) (h1 : CellsAt H b1 0 [mv]) (h2 : CellsAt H b2 0 [.int .i64 s]) (h3 : CellsAt H b3 0 [.slice a up.length cp])
    (hV : MapV true true H mv o) (hU : RSl H a cp up) (hlk : ∀ p ∈ o.getD [], 0 ≤ p.2.link) :
    SeqFn Try.prog 85 [] [.pointer (some ⟨b1, 0, none⟩), .pointer (some ⟨b2, 0, none⟩), .pointer (some ⟨b3, 0, none⟩)] H (fun e : Int => [.int .i64 e]) (besideS o up s) := by
  intro l J H1 inn hle h0 hY
  have h1 := CellsAt.mono hle h1
  have h2 := CellsAt.mono hle h2
  have h3 := CellsAt.mono hle h3
  have hV := MapV.mono hle hV
  have hU := RSl.mono hle hU
  refine fn_of_sim (ρ := Unit) (args := [.func (.yield l) #[] #[], .pointer (some ⟨b1, 0, none⟩), .pointer (some ⟨b2, 0, none⟩), .pointer (some ⟨b3, 0, none⟩)]) (n := 40) (Φ := fun _ H' _ out => ∃ xs, besideS o up s xs ∧ J xs H' out) (m := some ()) (r := ()) rfl fn_85 rfl rfl rfl fun w => ?_
  refine s_seq ?_
  refine s_region ?_
  refine o_ldH 0 h1 rfl rfl rfl ?_
  cases o with
  | none =>
    cases hV
    refine o_rangeN (kt := 26) (et := 84) rfl fun r => ?_
    refine s_done ?_
    refine s_perm (own' := [.blk r (.mapIter none 0 #[] 0)] ++ inn) List.perm_append_comm ?_
    refine s_block ?_
    refine s_loop ?_
    refine s_seq ?_
    refine s_region ?_
    refine o_nextN 0 rfl rfl ?_
    refine o_ext rfl rfl ?_
    refine s_done ?_
    refine s_seq ?_
    refine s_condF rfl rfl ?_
    refine s_exit rfl ?_
    exact s_endv (xs := []) (vs := []) inn fn_85 rfl trivial (List.sublist_append_right _ _) ⟨[], ⟨[], .nil, rfl⟩, h0⟩
  | some l' =>
    obtain ⟨b, es, c, rfl, hb, hR⟩ := hV
    refine o_range (kt := 26) (et := 84) rfl hb fun r => ?_
    refine s_done ?_
    refine s_perm (own' := [.blk r (itObj b c es [])] ++ inn) List.perm_append_comm ?_
    refine s_env (env' := [(0, .func (.yield l) #[] #[]), (2, .pointer (some ⟨b2, 0, none⟩)), (3, .pointer (some ⟨b3, 0, none⟩)), (8, .pointer (some ⟨r, 0, none⟩))]) (by exact ⟨rfl, rfl, rfl, rfl, trivial⟩) ?_
    refine s_block ?_
    refine s_loopM (σ := List Nat) (fun ix env own H' => env = [(0, .func (.yield l) #[] #[]), (2, .pointer (some ⟨b2, 0, none⟩)), (3, .pointer (some ⟨b3, 0, none⟩)), (8, .pointer (some ⟨r, 0, none⟩))] ∧ Came l'.length ix ∧ Hle H1 H' ∧ ∃ o', own = [.blk r (itObj b c es ix)] ++ o' ∧ J (((vis l' ix).filter (sideOn up s)).map (·.2.other.Switch)) H' o')
      (fun ix => l'.length - ix.length) ?_ [] ⟨rfl, .nil, .refl _, inn, rfl, h0⟩
    rintro ix _ _ H2 ⟨rfl, hC, hle2, o', rfl, hJ⟩ ih
    have hb2 := hle2 _ _ hb
    have hR2 := hR.mono hle2
    have h2 := CellsAt.mono hle2 h2
    have h3 := CellsAt.mono hle2 h3
    have hU := RSl.mono hle2 hU
    refine s_seq ?_
    refine s_region ?_
    refine o_next 0 rfl rfl hb2 hR2 hC (fun hf => ?_) (fun i p v hi hlt hp hv => ?_)
    · refine o_ext rfl rfl ?_
      refine s_done ?_
      refine s_seq ?_
      refine s_condF rfl rfl ?_
      refine s_exit rfl ?_
      exact s_endv (xs := []) (vs := []) o' fn_85 rfl trivial (List.sublist_append_right _ _) ⟨_, ⟨_, vis_perm hC hf, rfl⟩, hJ⟩
    · refine o_ext rfl rfl ?_
      refine s_done ?_
      refine s_seq ?_
      refine s_condT rfl rfl ?_
      refine s_skip ?_
      refine s_block ?_
      refine s_seq ?_
      refine s_region ?_
      refine o_entry 0 rfl rfl hb2 hR2 hp fun v2 vs2 hv2 hrep2 => ?_
      cases hv2
      cases hrep2
      refine o_ext rfl rfl ?_
      refine o_ext rfl rfl ?_
      refine o_alloc fun b5 => ?_
      refine s_perm (own' := [.blk r (itObj b c es (ix ++ [i])), .blk b5 (rowObj [.int .i64 0, .int .i64 0] 26)] ++ o') (pm3 (a := [.blk r (itObj b c es (ix ++ [i]))]) (xs := [.blk b5 (rowObj [.int .i64 0, .int .i64 0] 26)])) ?_
      refine o_alloc fun b6 => ?_
      refine s_perm (own' := [.blk r (itObj b c es (ix ++ [i])), .blk b5 (rowObj [.int .i64 0, .int .i64 0] 26), .blk b6 (rowObj [.int .i64 0, .int .i64 0, .int .i64 0] 84)] ++ o') (pm3 (a := [.blk r (itObj b c es (ix ++ [i])), .blk b5 (rowObj [.int .i64 0, .int .i64 0] 26)]) (xs := [.blk b6 (rowObj [.int .i64 0, .int .i64 0, .int .i64 0] 84)])) ?_
      refine o_st 1 rfl rfl rfl rfl rfl rfl ?_
      refine o_st 2 rfl rfl rfl rfl rfl rfl ?_
      refine s_done ?_
      refine s_ownE (own' := [.blk r (itObj b c es (ix ++ [i])), .blk b5 (rowObj [.int .i64 p.1.Switch, .int .i64 p.1.Port] 26), .blk b6 (rowObj [.int .i64 p.2.other.Switch, .int .i64 p.2.other.Port, .int .i64 p.2.link] 84)] ++ o') rfl ?_
      refine s_env (env' := [(0, .func (.yield l) #[] #[]), (2, .pointer (some ⟨b2, 0, none⟩)), (3, .pointer (some ⟨b3, 0, none⟩)), (8, .pointer (some ⟨r, 0, none⟩)), (5, .pointer (some ⟨b5, 0, none⟩)), (6, .pointer (some ⟨b6, 0, none⟩))]) (by exact ⟨rfl, rfl, rfl, rfl, rfl, rfl, trivial⟩) ?_
      obtain ⟨ys, hys⟩ := vis_sublist_perm (hC.snoc hlt hi)
      have hvis := vis_snoc hp (ix := ix)
      have hmeas : l'.length - (ix ++ [i]).length < l'.length - ix.length := by
        have := (hC.snoc hlt hi).le
        simp at this ⊢; omega
      have hlink : 0 ≤ p.2.link := hlk p (List.mem_of_getElem? hp)
      have hfilF : sideOn up s p = false → J (((vis l' (ix ++ [i])).filter (sideOn up s)).map (·.2.other.Switch)) H2 o' := fun hs => by
        rw [hvis, List.filter_append]
        simpa [List.filter_cons, hs] using hJ
      have hfilT : sideOn up s p = true → ((vis l' (ix ++ [i])).filter (sideOn up s)).map (·.2.other.Switch) = ((vis l' ix).filter (sideOn up s)).map (·.2.other.Switch) ++ [p.2.other.Switch] := fun hs => by
        rw [hvis, List.filter_append]
        simp [List.filter_cons, hs]
      have hpre : sideOn up s p = true → besideS (some l') up s (((vis l' ix).filter (sideOn up s)).map (·.2.other.Switch) ++ p.2.other.Switch :: (ys.filter (sideOn up s)).map (·.2.other.Switch)) := fun hs => by
        refine ⟨vis l' (ix ++ [i]) ++ ys, hys, ?_⟩
        rw [List.filter_append, List.map_append, hfilT hs]
        simp
      refine s_seq ?_
      refine s_region ?_
      refine o_fa rfl ?_
      refine o_ld 1 rfl rfl rfl ?_
      refine o_ldH 0 h2 rfl rfl rfl ?_
      refine o_eq rfl rfl ?_
      refine o_mov rfl ?_
      refine s_case (p.1.Switch == s) (fun hc => ?_) (fun hc => ?_)
      · refine s_want rfl rfl hc ?_
        refine o_fa rfl ?_
        refine s_want rfl rfl hc ?_
        refine o_ld 2 rfl rfl rfl ?_
        refine s_want rfl rfl hc ?_
        refine o_ldH 0 h3 rfl rfl rfl ?_
        refine s_want rfl rfl hc ?_
        refine o_lenS rfl ?_
        refine s_want rfl rfl hc ?_
        refine o_ge rfl rfl ?_
        refine s_want rfl rfl hc ?_
        refine o_mov rfl ?_
        refine s_case (decide (p.2.link ≥ (up.length : Int))) (fun hd => ?_) (fun hd => ?_)
        · have hside : sideOn up s p = true := by simp only [sideOn, hc, hd, Bool.true_and, Bool.true_or]
          refine s_unwant rfl rfl hd ?_
          refine s_unwant rfl rfl hd ?_
          refine s_unwant rfl rfl hd ?_
          refine s_unwant rfl rfl hd ?_
          refine s_unwant rfl rfl hd ?_
          refine s_want rfl rfl hc ?_
          refine o_pickT rfl hd rfl ?_
          refine o_pickT rfl hc rfl ?_
          refine o_mov rfl ?_
          refine s_want rfl rfl rfl ?_
          refine o_mov rfl ?_
          refine s_want rfl rfl rfl ?_
          refine o_fa rfl ?_
          refine s_want rfl rfl rfl ?_
          refine o_fa rfl ?_
          refine s_want rfl rfl rfl ?_
          refine o_ld 2 rfl rfl rfl ?_
          refine s_want rfl rfl rfl ?_
          refine s_yield o' [.blk r (itObj b c es (ix ++ [i])), .blk b5 (rowObj [.int .i64 p.1.Switch, .int .i64 p.1.Port] 26), .blk b6 (rowObj [.int .i64 p.2.other.Switch, .int .i64 p.2.other.Port, .int .i64 p.2.link] 84)] rfl rfl List.perm_append_comm (hY _ p.2.other.Switch _ H2 o' hle2 (hpre hside) hJ) ?_
          rintro _ H3 out hle3 ⟨rfl, hJ3⟩
          refine s_want rfl rfl rfl ?_
          refine o_not rfl ?_
          refine o_pickT rfl rfl rfl ?_
          refine s_done ?_
          refine s_condF rfl rfl ?_
          refine s_skip ?_
          refine s_inBlock ?_
          refine s_env (env' := [(0, .func (.yield l) #[] #[]), (2, .pointer (some ⟨b2, 0, none⟩)), (3, .pointer (some ⟨b3, 0, none⟩)), (8, .pointer (some ⟨r, 0, none⟩))]) (by exact ⟨rfl, rfl, rfl, rfl, trivial⟩) ?_
          refine s_own (own' := [.blk r (itObj b c es (ix ++ [i]))] ++ out) (.cons_cons _ (.cons _ (.cons _ (List.Sublist.refl _)))) ?_
          exact ih (ix ++ [i]) _ _ _ hmeas ⟨rfl, hC.snoc hlt hi, hle2.trans hle3, out, rfl, by rw [hfilT hside]; exact hJ3⟩
        · have hlt2 : p.2.link.toNat < up.length := by simp at hd; omega
          have hrd : rd up p.2.link = some (up[p.2.link.toNat]) := by unfold rd; rw [if_pos hlink]; exact List.getElem?_eq_getElem hlt2
          have hget : (up[p.2.link.toNat]?).getD false = up[p.2.link.toNat] := by rw [List.getElem?_eq_getElem hlt2]; rfl
          generalize up[p.2.link.toNat] = y at hrd hget
          refine s_want rfl rfl hd ?_
          refine o_ldH 0 h3 rfl rfl rfl ?_
          refine s_want rfl rfl hd ?_
          refine o_fa rfl ?_
          refine s_want rfl rfl hd ?_
          refine o_ld 2 rfl rfl rfl ?_
          refine s_want rfl rfl hd ?_
          refine s_eq (m' := (rd up p.2.link).bind fun _ => some ()) (by rw [hrd]; rfl) ?_
          refine o_ixf hU rfl rfl fun y2 bk of hy2 hcell => ?_
          obtain rfl := Option.some.inj (hrd.symm.trans hy2)
          refine s_want rfl rfl hd ?_
          refine o_ldH 0 hcell rfl rfl rfl ?_
          refine s_want rfl rfl hc ?_
          refine o_pickF rfl hd rfl ?_
          refine o_pickT rfl hc rfl ?_
          refine o_mov rfl ?_
          have hsy : sideOn up s p = y := by simp only [sideOn, hc, hd, hget, Bool.true_and, Bool.false_or]
          refine s_case y (fun hy => ?_) (fun hy => ?_)
          · have hside : sideOn up s p = true := hsy.trans hy
            refine s_want rfl rfl hy ?_
            refine o_mov rfl ?_
            refine s_want rfl rfl hy ?_
            refine o_fa rfl ?_
            refine s_want rfl rfl hy ?_
            refine o_fa rfl ?_
            refine s_want rfl rfl hy ?_
            refine o_ld 2 rfl rfl rfl ?_
            refine s_want rfl rfl hy ?_
            refine s_yield o' [.blk r (itObj b c es (ix ++ [i])), .blk b5 (rowObj [.int .i64 p.1.Switch, .int .i64 p.1.Port] 26), .blk b6 (rowObj [.int .i64 p.2.other.Switch, .int .i64 p.2.other.Port, .int .i64 p.2.link] 84)] rfl rfl List.perm_append_comm (hY _ p.2.other.Switch _ H2 o' hle2 (hpre hside) hJ) ?_
            rintro _ H3 out hle3 ⟨rfl, hJ3⟩
            refine s_want rfl rfl hy ?_
            refine o_not rfl ?_
            refine o_pickT rfl hy rfl ?_
            refine s_done ?_
            refine s_condF rfl rfl ?_
            refine s_skip ?_
            refine s_inBlock ?_
            refine s_env (env' := [(0, .func (.yield l) #[] #[]), (2, .pointer (some ⟨b2, 0, none⟩)), (3, .pointer (some ⟨b3, 0, none⟩)), (8, .pointer (some ⟨r, 0, none⟩))]) (by exact ⟨rfl, rfl, rfl, rfl, trivial⟩) ?_
            refine s_own (own' := [.blk r (itObj b c es (ix ++ [i]))] ++ out) (.cons_cons _ (.cons _ (.cons _ (List.Sublist.refl _)))) ?_
            exact ih (ix ++ [i]) _ _ _ hmeas ⟨rfl, hC.snoc hlt hi, hle2.trans hle3, out, rfl, by rw [hfilT hside]; exact hJ3⟩
          · have hside : sideOn up s p = false := hsy.trans hy
            refine s_unwant rfl rfl hy ?_
            refine s_unwant rfl rfl hy ?_
            refine s_unwant rfl rfl hy ?_
            refine s_unwant rfl rfl hy ?_
            refine s_unwant rfl rfl hy ?_
            refine s_unwant rfl rfl hy ?_
            refine o_pickF rfl hy rfl ?_
            refine s_done ?_
            refine s_condF rfl rfl ?_
            refine s_skip ?_
            refine s_inBlock ?_
            refine s_env (env' := [(0, .func (.yield l) #[] #[]), (2, .pointer (some ⟨b2, 0, none⟩)), (3, .pointer (some ⟨b3, 0, none⟩)), (8, .pointer (some ⟨r, 0, none⟩))]) (by exact ⟨rfl, rfl, rfl, rfl, trivial⟩) ?_
            refine s_own (own' := [.blk r (itObj b c es (ix ++ [i]))] ++ o') (.cons_cons _ (.cons _ (.cons _ (List.Sublist.refl _)))) ?_
            exact ih (ix ++ [i]) _ _ _ hmeas ⟨rfl, hC.snoc hlt hi, hle2, o', rfl, hfilF hside⟩
      · have hside : sideOn up s p = false := by simp only [sideOn, hc, Bool.false_and]
        refine s_unwant rfl rfl hc ?_
        refine s_unwant rfl rfl hc ?_
        refine s_unwant rfl rfl hc ?_
        refine s_unwant rfl rfl hc ?_
        refine s_unwant rfl rfl hc ?_
        refine s_unwant rfl rfl hc ?_
        refine s_unwantU rfl rfl ?_
        refine s_unwantU rfl rfl ?_
        refine s_unwantU rfl rfl ?_
        refine s_unwantU rfl rfl ?_
        refine s_unwantU rfl rfl ?_
        refine s_unwant rfl rfl hc ?_
        refine o_pickF rfl hc rfl ?_
        refine o_mov rfl ?_
        refine s_unwant rfl rfl rfl ?_
        refine s_unwant rfl rfl rfl ?_
        refine s_unwant rfl rfl rfl ?_
        refine s_unwant rfl rfl rfl ?_
        refine s_unwant rfl rfl rfl ?_
        refine s_unwant rfl rfl rfl ?_
        refine o_pickF rfl rfl rfl ?_
        refine s_done ?_
        refine s_condF rfl rfl ?_
        refine s_skip ?_
        refine s_inBlock ?_
        refine s_env (env' := [(0, .func (.yield l) #[] #[]), (2, .pointer (some ⟨b2, 0, none⟩)), (3, .pointer (some ⟨b3, 0, none⟩)), (8, .pointer (some ⟨r, 0, none⟩))]) (by exact ⟨rfl, rfl, rfl, rfl, trivial⟩) ?_
        refine s_own (own' := [.blk r (itObj b c es (ix ++ [i]))] ++ o') (.cons_cons _ (.cons _ (.cons _ (List.Sublist.refl _)))) ?_
        exact ih (ix ++ [i]) _ _ _ hmeas ⟨rfl, hC.snoc hlt hi, hle2, o', rfl, hfilF hside⟩
end Go.Cat.G3
