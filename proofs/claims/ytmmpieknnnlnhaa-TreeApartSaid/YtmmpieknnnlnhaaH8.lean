/- A text of the proof of the seat's laws: a step logic over the machine, or pure functions that the Go functions come to. No condition. -/
import Derived.Test.YtmmpieknnnlnhaaH7
set_option linter.unusedVariables false
set_option linter.unusedSimpArgs false
set_option linter.unnecessarySimpa false
namespace Go.Cat.G3
open Go Go.Cat Go.Proofs
set_option linter.unusedVariables false
set_option maxRecDepth 100000 in
set_option maxHeartbeats 1000000 in
theorem sortedFunc (H : Heap) {g : FuncId} [TFun Try.prog g] {first cap : List Value} {S : List End → Prop} (hS : SeqFn Try.prog g first cap H (fun e : End => [.agg (GoE.enc e).toArray]) S) (hN : ∀ xs, S xs → xs.length < 1000000) (hP : ∀ xs, S xs → ∀ e ∈ xs, 1 ≤ e.Port ∧ e.Port ≤ 4) :
    Fn Try.prog 52 [.func (.func g) first.toArray cap.toArray, .func (.func 54) #[] #[]] H [] fun H' v out => ∃ (xs l : List End) (a : Option Addr) (c : Nat), S xs ∧ l.Perm xs ∧ l.Pairwise (fun x y : End => x.Port ≤ y.Port) ∧ v = .slice a l.length c ∧ out = [.osl (.slice a l.length c) 2 26 (l.map GoE.enc)] := by
  refine fn_of_sim (ρ := Unit) (args := [.func (.func g) first.toArray cap.toArray, .func (.func 54) #[] #[]]) (n := 12) (Φ := fun _ H' v out => ∃ (xs l : List End) (a : Option Addr) (c : Nat), S xs ∧ l.Perm xs ∧ l.Pairwise (fun x y : End => x.Port ≤ y.Port) ∧ v = .slice a l.length c ∧ out = [.osl (.slice a l.length c) 2 26 (l.map GoE.enc)]) (m := some ()) (r := ()) rfl fn_52 rfl rfl rfl fun w => ?_
  refine s_seq ?_
  refine s_region ?_
  refine o_asg rfl ?_
  refine s_done ?_
  refine s_seq ?_
  refine s_region ?_
  refine o_mov rfl ?_
  refine s_call [] _ rfl rfl (.refl _) (collect H hS (fun xs hx => by have := hN xs hx; unfold LIM; omega)) ?_
  rintro _ H2 _ hle ⟨xs, a, c, hxs, rfl, rfl⟩
  refine o_asg rfl ?_
  refine s_done ?_
  refine s_seq ?_
  refine s_region ?_
  refine o_mov rfl ?_
  refine o_mov rfl ?_
  refine s_call [Res.osl (.slice a xs.length c) 2 26 (xs.map GoE.enc)] [] rfl rfl (.refl _) (sortEnds H2 a c xs (hP xs hxs) (hN xs hxs)) ?_
  rintro _ H3 _ hle3 ⟨l, hl, hs, rfl⟩
  have hlen := hl.length_eq
  refine s_done ?_
  refine s_seq ?_
  refine s_region ?_
  refine o_mov rfl ?_
  refine o_asg rfl ?_
  refine s_done ?_
  exact s_retv (xs := [.tmp 4]) (vs := [.slice a xs.length c]) [.osl (.slice a l.length c) 2 26 (l.map GoE.enc)] fn_52 rfl ⟨rv_tmp rfl, trivial⟩ (.cons_cons _ .slnil) ⟨xs, l, a, c, hxs, hl, hs, by rw [hlen]; rfl, rfl⟩

/-- What Ports hands back. -/
def PortsR (o : Option (List (End × Graph_side))) (s : Int) (r : List Int) : Prop :=
  ∃ l : List End, l.Perm (KeysOf o) ∧ l.Pairwise (fun x y : End => x.Port ≤ y.Port) ∧ r = (l.filter (fun e => e.Switch == s)).map (·.Port)
set_option maxRecDepth 100000 in
set_option maxHeartbeats 4000000 in
theorem ports (k : Nat) (H : Heap) (g : Graph) (ag : Option Addr) (cg : Nat) (hg : RSl H ag cg g.Links) (s : Int)
    (o : Option (List (End × Graph_side))) (may : Bool) (hs : graph_sides k g = some (o, may)) (hpt : ∀ e ∈ KeysOf o, 1 ≤ e.Port ∧ e.Port ≤ 4) (hN : (o.getD []).length < 1000) :
    Fn Try.prog 16 [.agg #[.int .i64 g.Switches, .slice ag g.Links.length cg], .int .i64 s] H [] fun H' v out => ∃ r a' c', PortsR o s r ∧ v = .slice a' r.length c' ∧ out = [.osl (.slice a' r.length c') 1 3 (r.map GoE.enc)] := by
  refine fn_of_sim (ρ := Unit) (args := [.agg #[.int .i64 g.Switches, .slice ag g.Links.length cg], .int .i64 s]) (n := 33) (Φ := fun _ H' v out => ∃ r a' c', PortsR o s r ∧ v = .slice a' r.length c' ∧ out = [.osl (.slice a' r.length c') 1 3 (r.map GoE.enc)]) (m := some ()) (r := ()) rfl fn_16 rfl rfl rfl fun w => ?_
  refine s_seq ?_
  refine s_region ?_
  refine o_box rfl fun b2 => ?_
  refine o_asg rfl ?_
  refine s_done ?_
  refine s_seq ?_
  refine s_region ?_
  refine o_ld 0 rfl rfl rfl ?_
  refine s_call [] _ rfl rfl (.refl _) (graph_sides_ok k _ g _ _ hg hs) ?_
  rintro _ H1 _ hle1 ⟨mv, rfl, rfl, hV⟩
  refine s_ownN ?_
  refine o_mov rfl ?_
  refine o_ext rfl rfl ?_
  refine o_ext rfl rfl ?_
  refine o_asg rfl ?_
  refine o_asg rfl ?_
  refine s_done ?_
  refine s_seq ?_
  refine s_seq ?_
  refine s_region ?_
  refine o_mov rfl ?_
  refine s_call [] _ rfl rfl (.refl _) (keys H1 mv (mapv_cells hV)) ?_
  rintro _ H2 _ hle2 ⟨bb, rfl, rfl, hcell⟩
  refine s_ownN ?_
  have hV2 := MapV.mono hle2 hV
  refine s_call [] _ rfl rfl (.refl _) (sortedFunc (g := 84) (first := []) (cap := [.pointer (some ⟨bb, 0, none⟩)]) H2 (keys1 H2 bb mv o hcell hV2) (fun xs hx => by have := hx.length_eq; simp [KeysOf] at this; omega) (fun xs hx e he => hpt e (hx.mem_iff.1 he))) ?_
  rintro _ H3 _ hle3 ⟨xs, l, a, c, hxs, hl, hsort, rfl, rfl⟩
  have hlp := hl.trans hxs
  have hlen : l.length < 1000 := by have := hlp.length_eq; simp [KeysOf] at this; omega
  refine o_lenS rfl ?_
  refine o_mov rfl ?_
  refine s_done ?_
  refine s_env (env' := [(1, .int .i64 s), (4, .slice none 0 0), (16, .slice a l.length c), (17, .int .i64 (l.length : Int)), (18, .int .i64 0)]) (by exact ⟨rfl, rfl, rfl, rfl, rfl, trivial⟩) ?_
  refine s_own (own' := [Res.osl (.slice a l.length c) 2 26 (l.map GoE.enc)]) (by exact .cons _ (.cons_cons _ .slnil)) ?_
  refine s_nilOc (sz := 1) (t := 3) ?_
  have hA : All2 (GoT.rep H3) (l.map GoE.enc) l := all2_enc l
  refine s_block ?_
  refine s_loopM (σ := Nat) (fun i env own H' => H' = H3 ∧ i ≤ l.length ∧ ∃ a4 c4, env = [(1, .int .i64 s), (4, .slice a4 (((l.take i).filter (fun e => e.Switch == s)).map (·.Port)).length c4), (16, .slice a l.length c), (17, .int .i64 (l.length : Int)), (18, .int .i64 (i : Int))] ∧
      own = [.osl (.slice a l.length c) 2 26 (l.map GoE.enc), .osl (.slice a4 (((l.take i).filter (fun e => e.Switch == s)).map (·.Port)).length c4) 1 3 ((((l.take i).filter (fun e => e.Switch == s)).map (·.Port)).map GoE.enc)]) (fun i => 2000 - i) ?_ 0 ⟨rfl, Nat.zero_le _, none, 0, rfl, rfl⟩
  rintro i _ _ _ ⟨rfl, hi, a4, c4, rfl, rfl⟩ ih
  refine s_seq ?_
  refine s_region ?_
  refine o_lt rfl rfl ?_
  refine s_done ?_
  refine s_seq ?_
  refine s_case (decide ((i : Int) < (l.length : Int))) (fun hlt => ?_) (fun hlt => ?_)
  · refine s_condT rfl hlt ?_
    refine s_skip ?_
    have hil : i < l.length := by simp at hlt; omega
    obtain ⟨e, he⟩ : ∃ e, l[i]? = some e := ⟨_, List.getElem?_eq_getElem hil⟩
    have htake : l.take (i + 1) = l.take i ++ [e] := by rw [List.take_add_one, he]; rfl
    have hrd : rd l (i : Int) = some e := by unfold rd; rw [if_pos (by omega)]; simpa using he
    have hw : w64 ((i : Int) + 1) = ((i + 1 : Nat) : Int) := by rw [w64_id (by omega) (by omega)]; omega
    have hrl : (((l.take i).filter (fun e => e.Switch == s)).map (·.Port)).length ≤ i := by
      rw [List.length_map]
      exact Nat.le_trans (List.length_filter_le _ _) (by simp; omega)
    have hnext : (((l.take (i + 1)).filter (fun e => e.Switch == s)).map (·.Port)) = if (e.Switch == s) = true then ((l.take i).filter (fun e => e.Switch == s)).map (·.Port) ++ [e.Port] else ((l.take i).filter (fun e => e.Switch == s)).map (·.Port) := by
      rw [htake, List.filter_append, List.map_append]
      cases hc : e.Switch == s <;> simp [List.filter_cons, hc]
    generalize ((l.take i).filter (fun e => e.Switch == s)).map (·.Port) = r at hrl hnext
    refine s_seq ?_
    refine s_block ?_
    refine s_seq ?_
    refine s_region ?_
    refine s_eq (m' := (rd l (i : Int)).bind fun _ => some ()) (by rw [hrd]; rfl) ?_
    refine o_ixO 0 rfl hA rfl rfl fun y bk vs hy ha hi2 hr => ?_
    obtain rfl := Option.some.inj (hrd.symm.trans hy)
    subst hr
    subst ha
    refine o_ldO 0 0 rfl hi2 rfl rfl rfl ?_
    refine o_alloc fun b8 => ?_
    refine o_st 2 rfl rfl rfl rfl rfl rfl ?_
    refine s_done ?_
    refine s_seq ?_
    refine s_region ?_
    refine o_fa rfl ?_
    refine o_ld 2 rfl rfl rfl ?_
    refine o_mov rfl ?_
    refine o_eq rfl rfl ?_
    refine s_done ?_
    refine s_case (e.Switch == s) (fun hc => ?_) (fun hc => ?_)
    · refine s_condT rfl hc ?_
      have hap : app r [e.Port] = some (r ++ [e.Port]) := by unfold app; rw [if_pos (by unfold LIM; simp; omega)]
      refine s_eq (m' := (app r [e.Port]).bind fun _ => some ()) (by rw [hap]; rfl) ?_
      refine s_region ?_
      refine o_mov rfl ?_
      refine o_fa rfl ?_
      refine o_ld 2 rfl rfl rfl ?_
      refine o_bsl (xs := [.tmp 28]) rfl rfl (by simp only [List.mem_cons, List.not_mem_nil, or_false, forall_eq]; exact ⟨rfl, rfl⟩) rfl rfl fun b6 => ?_
      refine o_appO 1 3 rfl rfl rfl (all2_enc r) rfl (all2_enc [e.Port]) fun a5 c5 _ hA3 => ?_
      refine o_asg rfl ?_
      refine s_done ?_
      refine s_inBlock ?_
      refine s_region ?_
      refine o_add rfl rfl ?_
      refine o_mov rfl ?_
      refine s_done ?_
      rw [if_pos hc] at hnext
      refine s_env (env' := [(1, .int .i64 s), (4, .slice a5 (r ++ [e.Port]).length c5), (16, .slice (some ⟨bk, 0, none⟩) l.length c), (17, .int .i64 (l.length : Int)), (18, .int .i64 (w64 ((i : Int) + 1)))]) (by exact ⟨rfl, rfl, rfl, rfl, rfl, trivial⟩) ?_
      rw [hw]
      refine s_own (own' := [.osl (.slice (some ⟨bk, 0, none⟩) l.length c) 2 26 (l.map GoE.enc), .osl (.slice a5 (r ++ [e.Port]).length c5) 1 3 (r.map GoE.enc ++ [GoE.enc e.Port])]) (by exact .cons_cons _ (.cons_cons _ (.cons _ (.cons _ .slnil)))) ?_
      exact ih (i + 1) _ _ _ (by omega) ⟨rfl, by omega, a5, c5, by rw [hnext], by rw [hnext, List.map_append]; rfl⟩
    · refine s_condF rfl hc ?_
      refine s_skip ?_
      refine s_inBlock ?_
      refine s_region ?_
      refine o_add rfl rfl ?_
      refine o_mov rfl ?_
      refine s_done ?_
      rw [if_neg (by rw [hc]; simp)] at hnext
      refine s_env (env' := [(1, .int .i64 s), (4, .slice a4 r.length c4), (16, .slice (some ⟨bk, 0, none⟩) l.length c), (17, .int .i64 (l.length : Int)), (18, .int .i64 (w64 ((i : Int) + 1)))]) (by exact ⟨rfl, rfl, rfl, rfl, rfl, trivial⟩) ?_
      rw [hw]
      refine s_own (own' := [.osl (.slice (some ⟨bk, 0, none⟩) l.length c) 2 26 (l.map GoE.enc), .osl (.slice a4 r.length c4) 1 3 (r.map GoE.enc)]) (by exact .cons_cons _ (.cons_cons _ (.cons _ .slnil))) ?_
      exact ih (i + 1) _ _ _ (by omega) ⟨rfl, by omega, a4, c4, by rw [hnext], by rw [hnext]⟩
  · refine s_condF rfl hlt ?_
    refine s_exit rfl ?_
    have hil : i = l.length := by simp at hlt; omega
    subst hil
    rw [List.take_length]
    refine s_seq ?_
    refine s_region ?_
    refine o_mov rfl ?_
    refine o_asg rfl ?_
    refine s_done ?_
    exact s_retv (xs := [.tmp 4]) (vs := [.slice a4 ((l.filter (fun e => e.Switch == s)).map (·.Port)).length c4]) [.osl (.slice a4 ((l.filter (fun e => e.Switch == s)).map (·.Port)).length c4) 1 3 (((l.filter (fun e => e.Switch == s)).map (·.Port)).map GoE.enc)] fn_16 rfl ⟨rv_tmp rfl, trivial⟩ (.cons _ (.cons_cons _ .slnil)) ⟨_, a4, c4, ⟨l, hlp, hsort, rfl⟩, rfl, rfl⟩
end Go.Cat.G3
