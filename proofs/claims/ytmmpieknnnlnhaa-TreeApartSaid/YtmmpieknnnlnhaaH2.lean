/- A text of the proof of the seat's laws: a step logic over the machine, or pure functions that the Go functions come to. No condition. -/
import Derived.Test.YtmmpieknnnlnhaaH1
set_option linter.unusedVariables false
set_option linter.unusedSimpArgs false
set_option linter.unnecessarySimpa false
namespace Go.Cat.G3
open Go Go.Cat Go.Proofs
set_option linter.unusedVariables false
theorem cells_of_blk {H : Heap} {b : Nat} {cs : List Value} {T : TypeId} (h : H b = some (rowObj cs T)) : CellsAt H b 0 cs :=
  ⟨cs.toArray, T, (0, 0), h, by simp [subc], by simp⟩
theorem mapv_cells {α β : Type} [GoE α] [GoT β] {ka va : Bool} {H : Heap} {v : Value} {o : Option (List (α × β))} (h : MapV ka va H v o) : v.cells.toList = [v] := by
  cases o with
  | none => cases h; rfl
  | some l => obtain ⟨b, es, c, rfl, _⟩ := h; rfl
set_option maxRecDepth 100000 in
theorem keys (H : Heap) (mv : Value) (hmv : mv.cells.toList = [mv]) : Fn Try.prog 53 [mv] H [] fun H' v out => ∃ bb, v = .func (.func 84) #[] #[.pointer (some ⟨bb, 0, none⟩)] ∧ out = [] ∧ CellsAt H' bb 0 [mv] := by
  refine fn_of_sim (ρ := Unit) (args := [mv]) (n := 4) (Φ := fun _ H' v out => ∃ bb, v = .func (.func 84) #[] #[.pointer (some ⟨bb, 0, none⟩)] ∧ out = [] ∧ CellsAt H' bb 0 [mv]) (m := some ()) (r := ()) rfl fn_53 rfl rfl rfl fun w => ?_
  refine s_seq ?_
  refine s_region ?_
  refine o_box (v := mv) rfl fun b => ?_
  refine o_asg rfl ?_
  refine s_done ?_
  refine s_seq ?_
  refine s_region ?_
  refine o_mkf rfl rfl ?_
  refine o_asg rfl ?_
  refine s_done ?_
  refine s_frzB 0 (fun b => .inl (by simp [ids])) rfl fun H' hle hb => ?_
  rw [hmv] at hb
  exact s_retv (xs := [.tmp 2]) (vs := [.func (.func 84) #[] #[.pointer (some ⟨b, 0, none⟩)]]) [] fn_53 rfl ⟨rv_tmp rfl, trivial⟩ .slnil ⟨b, rfl, rfl, cells_of_blk hb⟩

set_option maxRecDepth 100000 in
set_option maxHeartbeats 1000000 in
theorem appendSeq (H : Heap) {g : FuncId} [TFun Try.prog g] {first cap : List Value} {S : List End → Prop} (hS : SeqFn Try.prog g first cap H (fun e : End => [.agg (GoE.enc e).toArray]) S) (hN : ∀ xs, S xs → xs.length < LIM) :
    Fn Try.prog 101 [.slice none 0 0, .func (.func g) first.toArray cap.toArray] H [] fun H' v out => ∃ xs a c, S xs ∧ v = .slice a xs.length c ∧ out = [.osl (.slice a xs.length c) 2 26 (xs.map GoE.enc)] := by
  refine fn_of_sim (ρ := Unit) (args := [.slice none 0 0, .func (.func g) first.toArray cap.toArray]) (n := 13) (Φ := fun _ H' v out => ∃ xs a c, S xs ∧ v = .slice a xs.length c ∧ out = [.osl (.slice a xs.length c) 2 26 (xs.map GoE.enc)]) (m := some ()) (r := ()) rfl fn_101 rfl rfl rfl fun w => ?_
  refine s_seq ?_
  refine s_region ?_
  refine o_box (v := .slice none 0 0) rfl fun b => ?_
  refine o_asg rfl ?_
  refine s_done ?_
  refine s_seq ?_
  refine s_seq ?_
  refine s_region ?_
  refine o_mov rfl ?_
  refine s_done ?_
  refine s_nilOc (sz := 2) (t := 26) ?_
  refine s_block ?_
  refine s_rangeFn (enc := fun e : End => Value.agg (GoE.enc e).toArray) (S := S) [.blk b (rowObj [.slice none 0 0] 64), .osl (.slice none 0 0) 2 26 []] []
    (fun xs H o => ∃ a c, o = [.blk b (rowObj [.slice a xs.length c] 64), .osl (.slice a xs.length c) 2 26 (xs.map GoE.enc)]) rfl rfl rfl (.refl _) hS ⟨none, 0, rfl⟩ rfl ?_ ?_
  · rintro l q tmps xs x ys H2 _ w hle hx ⟨a, c, rfl⟩
    have hlen : xs.length + 1 < LIM := by
      have := hN _ hx
      simp at this; omega
    refine ⟨_, (app xs [x]).bind some, by simp [app, hlen], ?_⟩
    refine s_region ?_
    refine o_alloc fun b5 => ?_
    refine o_st 3 rfl rfl rfl rfl rfl rfl ?_
    refine s_done ?_
    refine s_beginRound 2 rfl ?_
    refine s_block ?_
    refine s_region ?_
    refine o_ld 0 rfl rfl rfl ?_
    refine o_ld 3 rfl rfl rfl ?_
    refine o_bsl (xs := [.tmp 9]) rfl rfl (by simp only [List.mem_cons, List.not_mem_nil, or_false, forall_eq]; exact ⟨rfl, rfl⟩) rfl rfl fun b6 => ?_
    have hA : All2 (GoT.rep H2) (xs.map GoE.enc) xs := all2_enc xs
    have hA2 : All2 (GoT.rep H2) [GoE.enc x] [x] := all2_enc [x]
    refine o_appO 1 4 rfl rfl rfl hA rfl hA2 fun a' c' _ hA' => ?_
    refine o_st 0 rfl rfl rfl rfl rfl rfl ?_
    refine s_done ?_
    refine s_inBlock ?_
    refine s_roundEnd 2 _ rfl (.cons_cons _ (.cons_cons _ (.cons_cons _ (.cons _ (.cons _ .slnil))))) ⟨[.blk b (rowObj [.slice a' (xs ++ [x]).length c'] 64), .osl (.slice a' (xs ++ [x]).length c') 2 26 (xs.map GoE.enc ++ [GoE.enc x])], rfl, a', c', by rw [List.map_append]; rfl⟩
  · rintro q xs H' _ hle hxs ⟨a, c, rfl⟩
    refine s_inBlock ?_
    refine s_seq ?_
    refine s_region ?_
    refine o_ld 1 rfl rfl rfl ?_
    refine o_asg rfl ?_
    refine s_done ?_
    exact s_retM (xs := [.tmp 4]) (vs := [.slice a xs.length c]) 0 q [.osl (.slice a xs.length c) 2 26 (xs.map GoE.enc)] fn_101 rfl rfl ⟨rv_tmp rfl, trivial⟩ (.cons _ (.cons _ (.cons_cons _ .slnil))) ⟨xs, a, c, hxs, rfl, rfl⟩
set_option maxRecDepth 100000 in
set_option maxHeartbeats 1000000 in
theorem collect (H : Heap) {g : FuncId} [TFun Try.prog g] {first cap : List Value} {S : List End → Prop} (hS : SeqFn Try.prog g first cap H (fun e : End => [.agg (GoE.enc e).toArray]) S) (hN : ∀ xs, S xs → xs.length < LIM) :
    Fn Try.prog 82 [.func (.func g) first.toArray cap.toArray] H [] fun H' v out => ∃ xs a c, S xs ∧ v = .slice a xs.length c ∧ out = [.osl (.slice a xs.length c) 2 26 (xs.map GoE.enc)] := by
  refine fn_of_sim (ρ := Unit) (args := [.func (.func g) first.toArray cap.toArray]) (n := 5) (Φ := fun _ H' v out => ∃ xs a c, S xs ∧ v = .slice a xs.length c ∧ out = [.osl (.slice a xs.length c) 2 26 (xs.map GoE.enc)]) (m := some ()) (r := ()) rfl fn_82 rfl rfl rfl fun w => ?_
  refine s_seq ?_
  refine s_region ?_
  refine o_asg rfl ?_
  refine s_done ?_
  refine s_seq ?_
  refine s_region ?_
  refine o_mov rfl ?_
  refine s_call [] _ rfl rfl (.refl _) (appendSeq H hS hN) ?_
  rintro _ H2 _ hle ⟨xs, a, c, hxs, rfl, rfl⟩
  refine o_asg rfl ?_
  refine s_done ?_
  exact s_retv (xs := [.tmp 2]) (vs := [.slice a xs.length c]) [.osl (.slice a xs.length c) 2 26 (xs.map GoE.enc)] fn_82 rfl ⟨rv_tmp rfl, trivial⟩ (.cons_cons _ .slnil) ⟨xs, a, c, hxs, rfl, rfl⟩
end Go.Cat.G3
