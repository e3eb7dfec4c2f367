/- A text of the proof of the seat's laws: a step logic over the machine, or pure functions that the Go functions come to. No condition. -/
import Derived.Test.YtmmpieknnnlnhaaCore1
import Derived.Test.YtmmpieknnnlnhaaProg
import Derived.KernelRfl
set_option linter.unusedVariables false
set_option linter.unusedSimpArgs false
set_option linter.unnecessarySimpa false

namespace Go.Cat.G3
open Go Go.Cat Go.Proofs
set_option linter.unusedVariables false
theorem mixed : Try.prog.follows .mixedOrders = true := by kernel_rfl

structure End where
  Switch : Int
  Port : Int
  deriving DecidableEq
theorem End_eq (a b : End) : a = b ↔ a.Switch = b.Switch ∧ a.Port = b.Port := by cases a; cases b; simp
instance : GoE End := ⟨2, fun x => [.int .i64 x.Switch, .int .i64 x.Port], fun _ => rfl, fun _ => rfl⟩
structure Link where
  A : End
  B : End
  deriving DecidableEq
theorem Link_eq (a b : Link) : a = b ↔ a.A = b.A ∧ a.B = b.B := by cases a; cases b; simp
instance : GoE Link := ⟨4, fun x => [.int .i64 x.A.Switch, .int .i64 x.A.Port, .int .i64 x.B.Switch, .int .i64 x.B.Port], fun _ => rfl, fun _ => rfl⟩
structure Graph where
  Switches : Int
  Links : (List Link)
instance : GoT Graph := {
  sz := 2
  rep := fun H vs x => ∃ a0 c0, vs = [.int .i64 x.Switches, .slice a0 x.Links.length c0] ∧ RSl H a0 c0 x.Links
  mono := fun h ⟨a0, c0, e, h0⟩ => ⟨a0, c0, e, h0.mono h⟩
  len := fun ⟨_, _, e, _⟩ => by rw [e]; rfl
  one := fun ⟨_, _, e, _⟩ => by rw [e]; rfl }
structure Graph_side where
  other : End
  link : Int
  deriving DecidableEq
theorem Graph_side_eq (a b : Graph_side) : a = b ↔ a.other = b.other ∧ a.link = b.link := by cases a; cases b; simp
instance : GoE Graph_side := ⟨3, fun x => [.int .i64 x.other.Switch, .int .i64 x.other.Port, .int .i64 x.link], fun _ => rfl, fun _ => rfl⟩
instance : TUnd Try.prog 4 .bool := ⟨by kernel_rfl⟩
instance : TLay Try.prog 3 1 false := ⟨fun _ => by kernel_rfl, fun _ => by kernel_rfl, fun h => by first | rfl | cases h⟩
instance : TLay Try.prog 4 1 false := ⟨fun _ => by kernel_rfl, fun _ => by kernel_rfl, fun h => by first | rfl | cases h⟩
instance : TLay Try.prog 22 1 false := ⟨fun _ => by kernel_rfl, fun _ => by kernel_rfl, fun h => by first | rfl | cases h⟩
instance : TLay Try.prog 24 2 true := ⟨fun _ => by kernel_rfl, fun _ => by kernel_rfl, fun h => by first | rfl | cases h⟩
instance : TLay Try.prog 26 2 true := ⟨fun _ => by kernel_rfl, fun _ => by kernel_rfl, fun h => by first | rfl | cases h⟩
instance : TLay Try.prog 29 1 false := ⟨fun _ => by kernel_rfl, fun _ => by kernel_rfl, fun h => by first | rfl | cases h⟩
instance : TLay Try.prog 36 1 false := ⟨fun _ => by kernel_rfl, fun _ => by kernel_rfl, fun h => by first | rfl | cases h⟩
instance : TLay Try.prog 40 4 true := ⟨fun _ => by kernel_rfl, fun _ => by kernel_rfl, fun h => by first | rfl | cases h⟩
instance : TLay Try.prog 64 1 false := ⟨fun _ => by kernel_rfl, fun _ => by kernel_rfl, fun h => by first | rfl | cases h⟩
instance : TLay Try.prog 80 1 false := ⟨fun _ => by kernel_rfl, fun _ => by kernel_rfl, fun h => by first | rfl | cases h⟩
instance : TLay Try.prog 84 3 true := ⟨fun _ => by kernel_rfl, fun _ => by kernel_rfl, fun h => by first | rfl | cases h⟩
instance : TFld Try.prog 24 0 0 1 false := ⟨⟨_, _, Try.underlying24, rfl, rfl, fun _ => by kernel_rfl, fun _ => by kernel_rfl, by decide, fun h => by first | rfl | cases h⟩⟩
instance : TFld Try.prog 24 1 1 1 false := ⟨⟨_, _, Try.underlying24, rfl, rfl, fun _ => by kernel_rfl, fun _ => by kernel_rfl, by decide, fun h => by first | rfl | cases h⟩⟩
instance : TFld Try.prog 26 0 0 1 false := ⟨⟨_, _, Try.underlying26, rfl, rfl, fun _ => by kernel_rfl, fun _ => by kernel_rfl, by decide, fun h => by first | rfl | cases h⟩⟩
instance : TFld Try.prog 26 1 1 1 false := ⟨⟨_, _, Try.underlying26, rfl, rfl, fun _ => by kernel_rfl, fun _ => by kernel_rfl, by decide, fun h => by first | rfl | cases h⟩⟩
instance : TFld Try.prog 40 0 0 2 true := ⟨⟨_, _, Try.underlying40, rfl, rfl, fun _ => by kernel_rfl, fun _ => by kernel_rfl, by decide, fun h => by first | rfl | cases h⟩⟩
instance : TFld Try.prog 40 1 2 2 true := ⟨⟨_, _, Try.underlying40, rfl, rfl, fun _ => by kernel_rfl, fun _ => by kernel_rfl, by decide, fun h => by first | rfl | cases h⟩⟩
instance : TFld Try.prog 84 0 0 2 true := ⟨⟨_, _, Try.underlying84, rfl, rfl, fun _ => by kernel_rfl, fun _ => by kernel_rfl, by decide, fun h => by first | rfl | cases h⟩⟩
instance : TFld Try.prog 84 1 2 1 false := ⟨⟨_, _, Try.underlying84, rfl, rfl, fun _ => by kernel_rfl, fun _ => by kernel_rfl, by decide, fun h => by first | rfl | cases h⟩⟩
instance : TZero Try.prog 26 (.agg #[.int .i64 0, .int .i64 0]) := ⟨fun _ => by kernel_rfl⟩
instance : TZero Try.prog 40 (.agg #[.int .i64 0, .int .i64 0, .int .i64 0, .int .i64 0]) := ⟨fun _ => by kernel_rfl⟩
instance : TZero Try.prog 84 (.agg #[.int .i64 0, .int .i64 0, .int .i64 0]) := ⟨fun _ => by kernel_rfl⟩
instance : TSl Try.prog 22 40 4 32 := ⟨by kernel_rfl, fun _ => by kernel_rfl, ⟨Try.t40, by kernel_rfl, by kernel_rfl⟩, by decide, by decide, ⟨.agg #[.int .i64 0, .int .i64 0, .int .i64 0, .int .i64 0], fun _ => by kernel_rfl, rfl, rfl⟩⟩
instance : TSl Try.prog 29 3 1 8 := ⟨by kernel_rfl, fun _ => by kernel_rfl, ⟨Try.t3, by kernel_rfl, by kernel_rfl⟩, by decide, by decide, ⟨.int .i64 0, fun _ => by kernel_rfl, rfl, rfl⟩⟩
instance : TSl Try.prog 36 4 1 1 := ⟨by kernel_rfl, fun _ => by kernel_rfl, ⟨Try.t4, by kernel_rfl, by kernel_rfl⟩, by decide, by decide, ⟨.bool false, fun _ => by kernel_rfl, rfl, rfl⟩⟩
instance : TSl Try.prog 64 26 2 16 := ⟨by kernel_rfl, fun _ => by kernel_rfl, ⟨Try.t26, by kernel_rfl, by kernel_rfl⟩, by decide, by decide, ⟨.agg #[.int .i64 0, .int .i64 0], fun _ => by kernel_rfl, rfl, rfl⟩⟩
instance : TBld Try.prog 84 [.int .i64 0, .int .i64 0, .int .i64 0] [(0, 2), (2, 1)] := ⟨fun _ => by kernel_rfl, ⟨_, Try.underlying84, fun _ => by kernel_rfl⟩⟩
instance : TFun Try.prog 16 := ⟨_, (by kernel_rfl : Try.prog.funcs[16]? = some Try.f16), by decide, rfl⟩
instance : TFun Try.prog 24 := ⟨_, (by kernel_rfl : Try.prog.funcs[24]? = some Try.f24), by decide, rfl⟩
instance : TFun Try.prog 51 := ⟨_, (by kernel_rfl : Try.prog.funcs[51]? = some Try.f51), by decide, rfl⟩
instance : TFun Try.prog 52 := ⟨_, (by kernel_rfl : Try.prog.funcs[52]? = some Try.f52), by decide, rfl⟩
instance : TFun Try.prog 53 := ⟨_, (by kernel_rfl : Try.prog.funcs[53]? = some Try.f53), by decide, rfl⟩
instance : TFun Try.prog 54 := ⟨_, (by kernel_rfl : Try.prog.funcs[54]? = some Try.f54), by decide, rfl⟩
instance : TFun Try.prog 57 := ⟨_, (by kernel_rfl : Try.prog.funcs[57]? = some Try.f57), by decide, rfl⟩
instance : TFun Try.prog 59 := ⟨_, (by kernel_rfl : Try.prog.funcs[59]? = some Try.f59), by decide, rfl⟩
instance : TFun Try.prog 82 := ⟨_, (by kernel_rfl : Try.prog.funcs[82]? = some Try.f82), by decide, rfl⟩
instance : TFun Try.prog 83 := ⟨_, (by kernel_rfl : Try.prog.funcs[83]? = some Try.f83), by decide, rfl⟩
instance : TFun Try.prog 84 := ⟨_, (by kernel_rfl : Try.prog.funcs[84]? = some Try.f84), by decide, rfl⟩
instance : TFun Try.prog 85 := ⟨_, (by kernel_rfl : Try.prog.funcs[85]? = some Try.f85), by decide, rfl⟩
instance : TFun Try.prog 86 := ⟨_, (by kernel_rfl : Try.prog.funcs[86]? = some Try.f86), by decide, rfl⟩
instance : TFun Try.prog 101 := ⟨_, (by kernel_rfl : Try.prog.funcs[101]? = some Try.f101), by decide, rfl⟩
instance : TEq Try.prog 26 End := teq_of 2 (by omega) (fun a b => eqn_cast (r := ((a.Switch == b.Switch) && ((a.Port == b.Port) && true))) (eqn_struct (n := 1) Try.underlying26 (by kernel_rfl) (fsn_cons (n := 1) (sz := 1) (ag := false) (by decide) rfl rfl (eqn_int (K := .i64) Try.underlying3) (fsn_cons (n := 1) (sz := 1) (ag := false) (by decide) rfl rfl (eqn_int (K := .i64) Try.underlying3) (fsn_nil)))) (by rw [Bool.eq_iff_iff]; simp [End_eq, seq_iff, and_assoc])) (by kernel_rfl)
instance : TMap Try.prog 80 26 84 := ⟨by kernel_rfl⟩
instance : TKey Try.prog 26 true End := tkey_struct 2 (by omega) Try.underlying26 (fun a => (chk_struct (n := 1) Try.underlying26 (cf_cons (n := 1) (sz := 1) (ag := false) rfl (by decide) (chk_int Try.underlying3) (cf_cons (n := 1) (sz := 1) (ag := false) rfl (by decide) (chk_int Try.underlying3) (cf_nil))))) (fun a => by simp [Instr.sameBits, GoE.enc])

/-! catenary/graph.sides -/
def graph_sides_l1 (k : Nat) (x0 : Graph) (s18 : (List (End × Graph_side)) × Int) (y28 : Link) : Nat → (List (End × Graph_side)) × Int → Option (LX (LX ((Option (List (End × Graph_side))) × Bool) ((List (End × Graph_side)))) ((List (End × Graph_side))))
  | 0, _ => none
  | q51 + 1, s47 =>
    if (decide (s47.2 < (([y28.A, y28.B] : List End).length : Int))) = true then
      (rd ([y28.A, y28.B] : List End) s47.2).bind fun y58 =>
      if (((mhas s47.1 y58) || ((decide (y58.Switch < 1)) || ((decide (y58.Switch > x0.Switches)) || ((decide (y58.Port < 1)) || decide (y58.Port > 4)))))) = true then
        some (.ret (.ret ((none : (Option (List (End × Graph_side)))), false)))
      else
        (if (decide (y58 = y28.A)) = true then
            some (y28.B.Switch, y28.B.Port)
          else
            some (y28.A.Switch, y28.A.Port)).bind fun p72 =>
        graph_sides_l1 k x0 s18 y28 q51 ((mput s47.1 y58 (⟨(⟨p72.1, p72.2⟩ : End), s18.2⟩ : Graph_side)), w64 (s47.2 + 1))
    else
      some (.out s47.1)
def graph_sides_l0 (k : Nat) (x0 : Graph) : Nat → (List (End × Graph_side)) × Int → Option (LX ((Option (List (End × Graph_side))) × Bool) ((List (End × Graph_side))))
  | 0, _ => none
  | q22 + 1, s18 =>
    if (decide (s18.2 < (x0.Links.length : Int))) = true then
      (rd x0.Links s18.2).bind fun y28 =>
      (graph_sides_l1 k x0 s18 y28 k (s18.1, 0)).bind (LX.go fun p38 =>
      if (y28.A.Switch == y28.B.Switch) = true then
        some (.ret ((none : (Option (List (End × Graph_side)))), false))
      else
        graph_sides_l0 k x0 q22 (p38, w64 (s18.2 + 1)))
    else
      some (.out s18.1)
def graph_sides (k : Nat) (x0 : Graph) : Option ((Option (List (End × Graph_side))) × Bool) :=
  if (((decide (x0.Switches < 1)) || decide (x0.Switches > 6))) = true then
    some ((none : (Option (List (End × Graph_side)))), false)
  else
    (graph_sides_l0 k x0 k (([] : (List (End × Graph_side))), 0)).bind (LX.go fun p7 =>
    some ((some p7), true))
theorem fn_51 : Try.prog.funcs[51]? = some Try.f51 := by kernel_rfl
set_option maxRecDepth 100000 in
set_option maxHeartbeats 4000000 in
theorem graph_sides_ok (k : Nat) (H : Heap) (x0 : Graph) (a0_0 : Option Addr) (c0_0 : Nat) (hx0_0 : RSl H a0_0 c0_0 x0.Links) {r : (Option (List (End × Graph_side))) × Bool} (hr : graph_sides k x0 = some r) :
    Fn Try.prog 51 [.agg #[.int .i64 x0.Switches, .slice a0_0 x0.Links.length c0_0]] H [] fun H' v out => ∃ mv0_0, v = .tuple #[mv0_0, .bool r.2] ∧ out = [] ∧ MapV true true H' mv0_0 r.1 := by
  refine fn_of_sim (args := [.agg #[.int .i64 x0.Switches, .slice a0_0 x0.Links.length c0_0]]) (n := 91) (Φ := fun r H' v out => ∃ mv0_0, v = .tuple #[mv0_0, .bool r.2] ∧ out = [] ∧ MapV true true H' mv0_0 r.1) hr fn_51 rfl rfl rfl fun w => ?_
  refine s_eq (by rw [graph_sides]) ?_
  refine s_seq ?_
  refine s_region ?_
  refine o_box rfl fun b1 => ?_
  refine o_asg rfl ?_
  refine o_asg rfl ?_
  refine s_done ?_
  refine s_seq ?_
  refine s_seq ?_
  refine s_region ?_
  refine s_mid [(1, .pointer (some ⟨b1, 0, none⟩)), (19, .bool ((decide (x0.Switches < 1)) || decide (x0.Switches > 6)))] [.blk b1 (rowObj [.int .i64 x0.Switches, .slice a0_0 x0.Links.length c0_0] 24)] ?_ ?_
  · refine s_cond rfl (fun h3 => ?_) (fun h3 => ?_)
    · refine s_seq ?_
      refine s_region ?_
      refine o_asg rfl ?_
      refine o_asg rfl ?_
      refine s_done ?_
      exact s_retv (xs := [.tmp 2, .tmp 3]) (vs := [.map none, .bool false]) [] fn_51 rfl ⟨rv_tmp rfl, rv_tmp rfl, trivial⟩ (.cons _ .slnil) ⟨_, rfl, rfl, mapv_nil⟩
    · refine s_skip ?_
      refine s_seq ?_
      refine s_region ?_
      refine o_mkmap fun b4 => ?_
      have hR6 : MapR true true H #[] 0 ([] : (List (End × Graph_side))) := .nil
      refine o_asg rfl ?_
      refine s_done ?_
      refine s_seq ?_
      refine s_seq ?_
      refine s_region ?_
      refine o_fa rfl ?_
      refine o_ld 0 rfl rfl rfl ?_
      refine o_lenS rfl ?_
      refine o_mov rfl ?_
      refine s_done ?_
      refine s_joinL (fun p7 env own H' => ∃ es8 c9, env = [(4, .map (some b4))] ∧ own = [.blk b4 (.map es8 c9)] ∧ Hle H H' ∧ MapR true true H' es8 c9 p7) ?_ ?_
      · rintro p7 _ _ H11 ⟨es8, c9, rfl, rfl, hle12, hR10⟩
        refine s_seq ?_
        refine s_region ?_
        refine o_mov rfl ?_
        refine o_asg rfl ?_
        refine o_asg rfl ?_
        refine s_done ?_
        refine s_frzM 0 (fun b => .inl (by simp [ids])) rfl hR10 fun H13 hle14 hs16 => ?_
        exact s_retv (xs := [.tmp 2, .tmp 3]) (vs := [(.map (some b4)), .bool true]) [] fn_51 rfl ⟨rv_tmp rfl, rv_tmp rfl, trivial⟩ .slnil ⟨_, rfl, rfl, hs16⟩
      · intro J17
        refine s_block ?_
        refine s_env (env' := [(1, .pointer (some ⟨b1, 0, none⟩)), (4, .map (some b4)), (22, .slice a0_0 x0.Links.length c0_0), (23, .int .i64 (x0.Links.length : Int)), (24, .int .i64 0)]) (by exact ⟨rfl, rfl, rfl, rfl, rfl, trivial⟩) ?_
        refine s_own (own' := [.blk b1 (rowObj [.int .i64 x0.Switches, .slice a0_0 x0.Links.length c0_0] 24), .blk b4 (.map #[] 0)]) (.cons_cons _ (.cons_cons _ .slnil)) ?_
        refine s_loopn (fun q s18 => graph_sides_l0 k x0 q s18) (fun s18 env own H' => ∃ es19 c20, env = [(1, .pointer (some ⟨b1, 0, none⟩)), (4, .map (some b4)), (22, .slice a0_0 x0.Links.length c0_0), (23, .int .i64 (x0.Links.length : Int)), (24, .int .i64 s18.2)] ∧ own = [.blk b1 (rowObj [.int .i64 x0.Switches, .slice a0_0 x0.Links.length c0_0] 24), .blk b4 (.map es19 c20)] ∧ Hle H H' ∧ MapR true true H' es19 c20 s18.1) (fun _ => rfl) ?_ k (([] : (List (End × Graph_side))), 0) ⟨_, _, rfl, rfl, .refl _, hR6⟩
        rintro q22 ih23 s18 _ _ H24 ⟨es19, c20, rfl, rfl, hle25, hR21⟩
        refine s_eq (by rw [graph_sides_l0]) ?_
        have hs26 := RSl.mono hle25 hx0_0
        refine s_seq ?_
        refine s_region ?_
        refine o_lt rfl rfl ?_
        refine s_done ?_
        refine s_seq ?_
        refine s_cond rfl (fun h27 => ?_) (fun h27 => ?_)
        · refine s_skip ?_
          refine s_seq ?_
          refine s_block ?_
          refine s_seq ?_
          refine s_region ?_
          refine o_mov rfl ?_
          refine o_ixf hs26 rfl rfl fun y28 bk30 of31 h29 hc32 => ?_
          refine o_ldH 0 hc32 rfl rfl rfl ?_
          refine o_alloc fun b33 => ?_
          refine o_asg rfl ?_
          refine o_st 2 rfl rfl rfl rfl rfl rfl ?_
          refine s_done ?_
          refine s_seq ?_
          refine s_seq ?_
          refine s_region ?_
          refine o_fa rfl ?_
          refine o_ld 2 rfl rfl rfl ?_
          refine o_fa rfl ?_
          refine o_ld 2 rfl rfl rfl ?_
          refine o_bsl (xs := [.tmp 30, .tmp 32]) rfl rfl (by simp only [List.mem_cons, List.not_mem_nil, or_false, forall_eq_or_imp, forall_eq]; exact ⟨⟨rfl, rfl⟩, ⟨rfl, rfl⟩⟩) rfl rfl fun b35 => ?_
          have hA36 : All2 (GoT.rep H24) [[.int .i64 y28.A.Switch, .int .i64 y28.A.Port], [.int .i64 y28.B.Switch, .int .i64 y28.B.Port]] ([y28.A, y28.B] : List End) := all2_enc (([y28.A, y28.B] : List End))
          refine o_lenS rfl ?_
          refine o_mov rfl ?_
          refine s_done ?_
          refine s_joinL (fun p38 env own H' => ∃ es39 c40, env = [(1, .pointer (some ⟨b1, 0, none⟩)), (4, .map (some b4)), (6, .pointer (some ⟨b33, 0, none⟩)), (22, .slice a0_0 x0.Links.length c0_0), (23, .int .i64 (x0.Links.length : Int)), (24, .int .i64 s18.2)] ∧ own = [.blk b1 (rowObj [.int .i64 x0.Switches, .slice a0_0 x0.Links.length c0_0] 24), .blk b4 (.map es39 c40), .blk b33 (rowObj [.int .i64 y28.A.Switch, .int .i64 y28.A.Port, .int .i64 y28.B.Switch, .int .i64 y28.B.Port] 40)] ∧ Hle H24 H' ∧ MapR true true H' es39 c40 p38) ?_ ?_
          · rintro p38 _ _ H42 ⟨es39, c40, rfl, rfl, hle43, hR41⟩
            have hs44 := RSl.mono hle43 hs26
            refine s_seq ?_
            refine s_region ?_
            refine o_fa rfl ?_
            refine o_fa rfl ?_
            refine o_ld 2 rfl rfl rfl ?_
            refine o_fa rfl ?_
            refine o_fa rfl ?_
            refine o_ld 2 rfl rfl rfl ?_
            refine o_eq rfl rfl ?_
            refine s_done ?_
            refine s_cond rfl (fun h45 => ?_) (fun h45 => ?_)
            · refine s_seq ?_
              refine s_region ?_
              refine o_asg rfl ?_
              refine o_asg rfl ?_
              refine s_done ?_
              refine s_lret ?_
              exact s_retv (xs := [.tmp 2, .tmp 3]) (vs := [.map none, .bool false]) [] fn_51 rfl ⟨rv_tmp rfl, rv_tmp rfl, trivial⟩ (.cons _ (.cons _ (.cons _ .slnil))) ⟨_, rfl, rfl, mapv_nil⟩
            · refine s_skip ?_
              refine s_inBlock ?_
              refine s_region ?_
              refine o_add rfl rfl ?_
              refine o_mov rfl ?_
              refine s_done ?_
              exact s_env (by exact ⟨rfl, rfl, rfl, rfl, rfl, trivial⟩) (s_own (by exact (.cons_cons _ (.cons_cons _ (.cons _ .slnil)))) (ih23 (p38, w64 (s18.2 + 1)) _ _ _ ⟨_, _, rfl, rfl, (Hle.trans hle25 hle43), hR41⟩))
          · intro J46
            refine s_block ?_
            refine s_env (env' := [(1, .pointer (some ⟨b1, 0, none⟩)), (4, .map (some b4)), (5, .int .i64 s18.2), (6, .pointer (some ⟨b33, 0, none⟩)), (22, .slice a0_0 x0.Links.length c0_0), (23, .int .i64 (x0.Links.length : Int)), (24, .int .i64 s18.2), (33, .slice (some ⟨b35, 0, none⟩) ([y28.A, y28.B] : List End).length 2), (34, .int .i64 (([y28.A, y28.B] : List End).length : Int)), (35, .int .i64 0)]) (by exact ⟨rfl, rfl, rfl, rfl, rfl, rfl, rfl, rfl, rfl, rfl, trivial⟩) ?_
            refine s_own (own' := [.blk b1 (rowObj [.int .i64 x0.Switches, .slice a0_0 x0.Links.length c0_0] 24), .blk b4 (.map es19 c20), .blk b33 (rowObj [.int .i64 y28.A.Switch, .int .i64 y28.A.Port, .int .i64 y28.B.Switch, .int .i64 y28.B.Port] 40), .osl (.slice (some ⟨b35, 0, none⟩) ([y28.A, y28.B] : List End).length 2) 2 26 [[.int .i64 y28.A.Switch, .int .i64 y28.A.Port], [.int .i64 y28.B.Switch, .int .i64 y28.B.Port]]]) (.cons_cons _ (.cons_cons _ (.cons_cons _ (.cons_cons _ .slnil)))) ?_
            refine s_loopn (fun q s47 => graph_sides_l1 k x0 s18 y28 q s47) (fun s47 env own H' => ∃ es48 c49, env = [(1, .pointer (some ⟨b1, 0, none⟩)), (4, .map (some b4)), (5, .int .i64 s18.2), (6, .pointer (some ⟨b33, 0, none⟩)), (22, .slice a0_0 x0.Links.length c0_0), (23, .int .i64 (x0.Links.length : Int)), (24, .int .i64 s18.2), (33, .slice (some ⟨b35, 0, none⟩) ([y28.A, y28.B] : List End).length 2), (34, .int .i64 (([y28.A, y28.B] : List End).length : Int)), (35, .int .i64 s47.2)] ∧ own = [.blk b1 (rowObj [.int .i64 x0.Switches, .slice a0_0 x0.Links.length c0_0] 24), .blk b4 (.map es48 c49), .blk b33 (rowObj [.int .i64 y28.A.Switch, .int .i64 y28.A.Port, .int .i64 y28.B.Switch, .int .i64 y28.B.Port] 40), .osl (.slice (some ⟨b35, 0, none⟩) ([y28.A, y28.B] : List End).length 2) 2 26 [[.int .i64 y28.A.Switch, .int .i64 y28.A.Port], [.int .i64 y28.B.Switch, .int .i64 y28.B.Port]]] ∧ Hle H24 H' ∧ MapR true true H' es48 c49 s47.1) (fun _ => rfl) ?_ k (s18.1, 0) ⟨_, _, rfl, rfl, .refl _, hR21⟩
            rintro q51 ih52 s47 _ _ H53 ⟨es48, c49, rfl, rfl, hle54, hR50⟩
            refine s_eq (by rw [graph_sides_l1]) ?_
            have hs55 := RSl.mono hle54 hs26
            have hA56 := All2.mono (fun _ _ => GoT.mono hle54) hA36
            refine s_seq ?_
            refine s_region ?_
            refine o_lt rfl rfl ?_
            refine s_done ?_
            refine s_seq ?_
            refine s_cond rfl (fun h57 => ?_) (fun h57 => ?_)
            · refine s_skip ?_
              refine s_seq ?_
              refine s_block ?_
              refine s_seq ?_
              refine s_region ?_
              refine o_ixO 3 rfl hA56 rfl rfl fun y58 bk60 vs61 h59 ha62 hi63 hr64 => ?_
              subst hr64
              obtain rfl := s_bk ha62
              refine o_ldO 3 0 rfl hi63 rfl rfl rfl ?_
              refine o_alloc fun b65 => ?_
              refine o_st 4 rfl rfl rfl rfl rfl rfl ?_
              refine s_done ?_
              refine s_seq ?_
              refine s_region ?_
              refine o_mov rfl ?_
              refine o_ld 4 rfl rfl rfl ?_
              refine o_lkpOf (kt := 26) (et := 84) (z := ((⟨(⟨0, 0⟩ : End), 0⟩ : Graph_side) : Graph_side)) 1 rfl rfl hR50 y58 rfl ?_
              refine o_mov rfl ?_
              refine o_ext rfl rfl ?_
              refine o_ext rfl rfl ?_
              refine o_alloc fun b67 => ?_
              refine o_st 5 rfl rfl rfl rfl rfl rfl ?_
              refine o_asg rfl ?_
              refine s_done ?_
              refine s_seq ?_
              refine s_seq ?_
              refine s_region ?_
              refine s_mid [(1, .pointer (some ⟨b1, 0, none⟩)), (4, .map (some b4)), (5, .int .i64 s18.2), (6, .pointer (some ⟨b33, 0, none⟩)), (8, .pointer (some ⟨b65, 0, none⟩)), (22, .slice a0_0 x0.Links.length c0_0), (23, .int .i64 (x0.Links.length : Int)), (24, .int .i64 s18.2), (33, .slice (some ⟨b35, 0, none⟩) ([y28.A, y28.B] : List End).length 2), (34, .int .i64 (([y28.A, y28.B] : List End).length : Int)), (35, .int .i64 s47.2), (67, .bool ((mhas s47.1 y58) || ((decide (y58.Switch < 1)) || ((decide (y58.Switch > x0.Switches)) || ((decide (y58.Port < 1)) || decide (y58.Port > 4))))))] [.blk b1 (rowObj [.int .i64 x0.Switches, .slice a0_0 x0.Links.length c0_0] 24), .blk b4 (.map es48 c49), .blk b33 (rowObj [.int .i64 y28.A.Switch, .int .i64 y28.A.Port, .int .i64 y28.B.Switch, .int .i64 y28.B.Port] 40), .osl (.slice (some ⟨b35, 0, none⟩) ([y28.A, y28.B] : List End).length 2) 2 26 [[.int .i64 y28.A.Switch, .int .i64 y28.A.Port], [.int .i64 y28.B.Switch, .int .i64 y28.B.Port]], .blk b65 (rowObj [.int .i64 y58.Switch, .int .i64 y58.Port] 26)] ?_ ?_
              · refine s_cond rfl (fun h69 => ?_) (fun h69 => ?_)
                · refine s_seq ?_
                  refine s_region ?_
                  refine o_asg rfl ?_
                  refine o_asg rfl ?_
                  refine s_done ?_
                  refine s_lret ?_
                  refine s_lret ?_
                  exact s_retv (xs := [.tmp 2, .tmp 3]) (vs := [.map none, .bool false]) [] fn_51 rfl ⟨rv_tmp rfl, rv_tmp rfl, trivial⟩ (.cons _ (.cons _ (.cons _ (.cons _ (.cons _ .slnil))))) ⟨_, rfl, rfl, mapv_nil⟩
                · refine s_skip ?_
                  refine s_seq ?_
                  refine s_region ?_
                  refine o_fa rfl ?_
                  refine o_ld 2 rfl rfl rfl ?_
                  refine o_alloc fun b70 => ?_
                  refine o_st 5 rfl rfl rfl rfl rfl rfl ?_
                  refine s_done ?_
                  refine s_seq ?_
                  refine s_seq ?_
                  refine s_region ?_
                  refine o_ld 4 rfl rfl rfl ?_
                  refine o_fa rfl ?_
                  refine o_ld 2 rfl rfl rfl ?_
                  refine o_eqS y58 y28.A rfl rfl ?_
                  refine s_done ?_
                  refine s_join (fun p72 env own H' => env = [(1, .pointer (some ⟨b1, 0, none⟩)), (4, .map (some b4)), (5, .int .i64 s18.2), (6, .pointer (some ⟨b33, 0, none⟩)), (8, .pointer (some ⟨b65, 0, none⟩)), (11, .pointer (some ⟨b70, 0, none⟩)), (22, .slice a0_0 x0.Links.length c0_0), (23, .int .i64 (x0.Links.length : Int)), (24, .int .i64 s18.2), (33, .slice (some ⟨b35, 0, none⟩) ([y28.A, y28.B] : List End).length 2), (34, .int .i64 (([y28.A, y28.B] : List End).length : Int)), (35, .int .i64 s47.2)] ∧ own = [.blk b1 (rowObj [.int .i64 x0.Switches, .slice a0_0 x0.Links.length c0_0] 24), .blk b4 (.map es48 c49), .blk b33 (rowObj [.int .i64 y28.A.Switch, .int .i64 y28.A.Port, .int .i64 y28.B.Switch, .int .i64 y28.B.Port] 40), .osl (.slice (some ⟨b35, 0, none⟩) ([y28.A, y28.B] : List End).length 2) 2 26 [[.int .i64 y28.A.Switch, .int .i64 y28.A.Port], [.int .i64 y28.B.Switch, .int .i64 y28.B.Port]], .blk b65 (rowObj [.int .i64 y58.Switch, .int .i64 y58.Port] 26), .blk b70 (rowObj [.int .i64 p72.1, .int .i64 p72.2] 26)] ∧ Hle H53 H') ?_ ?_
                  · rintro p72 _ _ H73 ⟨rfl, rfl, hle74⟩
                    have hs75 := RSl.mono hle74 hs55
                    have hR76 := MapR.mono hle74 hR50
                    have hA77 := All2.mono (fun _ _ => GoT.mono hle74) hA56
                    refine s_region ?_
                    refine o_mov rfl ?_
                    refine o_ld 4 rfl rfl rfl ?_
                    refine o_ld 5 rfl rfl rfl ?_
                    refine o_mov rfl ?_
                    refine o_bld rfl rfl ?_
                    refine o_mup (kt := 26) (et := 84) (vs := [.int .i64 p72.1, .int .i64 p72.2, .int .i64 s18.2]) 1 rfl rfl hR76 y58 rfl (⟨(⟨p72.1, p72.2⟩ : End), s18.2⟩ : Graph_side) rfl rfl fun es78 c79 hR80 => ?_
                    refine s_done ?_
                    refine s_inBlock ?_
                    refine s_region ?_
                    refine o_add rfl rfl ?_
                    refine o_mov rfl ?_
                    refine s_done ?_
                    exact s_env (by exact ⟨rfl, rfl, rfl, rfl, rfl, rfl, rfl, rfl, rfl, rfl, trivial⟩) (s_own (by exact (.cons_cons _ (.cons_cons _ (.cons_cons _ (.cons_cons _ (.cons _ (.cons _ .slnil))))))) (ih52 ((mput s47.1 y58 (⟨(⟨p72.1, p72.2⟩ : End), s18.2⟩ : Graph_side)), w64 (s47.2 + 1)) _ _ _ ⟨_, _, rfl, rfl, (Hle.trans hle54 hle74), hR80⟩))
                  · intro J81
                    refine s_cond rfl (fun h82 => ?_) (fun h82 => ?_)
                    · refine s_region ?_
                      refine o_fa rfl ?_
                      refine o_ld 2 rfl rfl rfl ?_
                      refine o_st 5 rfl rfl rfl rfl rfl rfl ?_
                      refine s_done ?_
                      exact s_env (by exact ⟨rfl, rfl, rfl, rfl, rfl, rfl, rfl, rfl, rfl, rfl, rfl, rfl, trivial⟩) (s_own (by exact (.cons_cons _ (.cons_cons _ (.cons_cons _ (.cons_cons _ (.cons_cons _ (.cons_cons _ .slnil))))))) (J81 (y28.B.Switch, y28.B.Port) _ _ _ ⟨rfl, rfl, .refl _⟩))
                    · refine s_skip ?_
                      exact s_env (by exact ⟨rfl, rfl, rfl, rfl, rfl, rfl, rfl, rfl, rfl, rfl, rfl, rfl, trivial⟩) (s_own (by exact (.cons_cons _ (.cons_cons _ (.cons_cons _ (.cons_cons _ (.cons_cons _ (.cons_cons _ .slnil))))))) (J81 (y28.A.Switch, y28.A.Port) _ _ _ ⟨rfl, rfl, .refl _⟩))
              · intro J83
                refine o_mov rfl ?_
                refine o_mov rfl ?_
                refine s_case (mhas s47.1 y58) (fun h84 => ?_) (fun h84 => ?_)
                · refine s_unwant rfl rfl h84 ?_
                  refine s_unwant rfl rfl h84 ?_
                  refine s_unwant rfl rfl h84 ?_
                  refine o_pickT rfl h84 rfl ?_
                  refine o_mov rfl ?_
                  refine s_unwant rfl rfl rfl ?_
                  refine s_unwant rfl rfl rfl ?_
                  refine s_unwant rfl rfl rfl ?_
                  refine s_unwant rfl rfl rfl ?_
                  refine s_unwant rfl rfl rfl ?_
                  refine o_pickT rfl rfl rfl ?_
                  refine o_mov rfl ?_
                  refine s_unwant rfl rfl rfl ?_
                  refine s_unwant rfl rfl rfl ?_
                  refine s_unwant rfl rfl rfl ?_
                  refine o_pickT rfl rfl rfl ?_
                  refine o_mov rfl ?_
                  refine s_unwant rfl rfl rfl ?_
                  refine s_unwant rfl rfl rfl ?_
                  refine s_unwant rfl rfl rfl ?_
                  refine o_pickT rfl rfl rfl ?_
                  exact s_env (by exact ⟨rfl, rfl, rfl, rfl, rfl, rfl, rfl, rfl, rfl, rfl, rfl, lkb rfl (by first | simp only [h84, Bool.true_and, Bool.and_true, Bool.false_and, Bool.and_false, Bool.true_or, Bool.false_or, Bool.or_true, Bool.or_false, Bool.not_true, Bool.not_false] | simp [h84]), trivial⟩) (s_own (by exact (.cons_cons _ (.cons_cons _ (.cons_cons _ (.cons_cons _ (.cons_cons _ (.cons _ .slnil))))))) J83)
                · refine s_want rfl rfl h84 ?_
                  refine o_fa rfl ?_
                  refine s_want rfl rfl h84 ?_
                  refine o_ld 4 rfl rfl rfl ?_
                  refine s_want rfl rfl h84 ?_
                  refine o_lt rfl rfl ?_
                  refine o_pickF rfl h84 rfl ?_
                  refine o_mov rfl ?_
                  refine s_case (decide (y58.Switch < 1)) (fun h85 => ?_) (fun h85 => ?_)
                  · refine s_unwant rfl rfl h85 ?_
                    refine s_unwant rfl rfl h85 ?_
                    refine s_unwant rfl rfl h85 ?_
                    refine s_unwant rfl rfl h85 ?_
                    refine s_unwant rfl rfl h85 ?_
                    refine o_pickT rfl h85 rfl ?_
                    refine o_mov rfl ?_
                    refine s_unwant rfl rfl rfl ?_
                    refine s_unwant rfl rfl rfl ?_
                    refine s_unwant rfl rfl rfl ?_
                    refine o_pickT rfl rfl rfl ?_
                    refine o_mov rfl ?_
                    refine s_unwant rfl rfl rfl ?_
                    refine s_unwant rfl rfl rfl ?_
                    refine s_unwant rfl rfl rfl ?_
                    refine o_pickT rfl rfl rfl ?_
                    exact s_env (by exact ⟨rfl, rfl, rfl, rfl, rfl, rfl, rfl, rfl, rfl, rfl, rfl, lkb rfl (by first | simp only [h84, h85, Bool.true_and, Bool.and_true, Bool.false_and, Bool.and_false, Bool.true_or, Bool.false_or, Bool.or_true, Bool.or_false, Bool.not_true, Bool.not_false] | simp [h84, h85]), trivial⟩) (s_own (by exact (.cons_cons _ (.cons_cons _ (.cons_cons _ (.cons_cons _ (.cons_cons _ (.cons _ .slnil))))))) J83)
                  · refine s_want rfl rfl h85 ?_
                    refine o_fa rfl ?_
                    refine s_want rfl rfl h85 ?_
                    refine o_ld 4 rfl rfl rfl ?_
                    refine s_want rfl rfl h85 ?_
                    refine o_fa rfl ?_
                    refine s_want rfl rfl h85 ?_
                    refine o_ld 0 rfl rfl rfl ?_
                    refine s_want rfl rfl h85 ?_
                    refine o_gt rfl rfl ?_
                    refine o_pickF rfl h85 rfl ?_
                    refine o_mov rfl ?_
                    refine s_case (decide (y58.Switch > x0.Switches)) (fun h86 => ?_) (fun h86 => ?_)
                    · refine s_unwant rfl rfl h86 ?_
                      refine s_unwant rfl rfl h86 ?_
                      refine s_unwant rfl rfl h86 ?_
                      refine o_pickT rfl h86 rfl ?_
                      refine o_mov rfl ?_
                      refine s_unwant rfl rfl rfl ?_
                      refine s_unwant rfl rfl rfl ?_
                      refine s_unwant rfl rfl rfl ?_
                      refine o_pickT rfl rfl rfl ?_
                      exact s_env (by exact ⟨rfl, rfl, rfl, rfl, rfl, rfl, rfl, rfl, rfl, rfl, rfl, lkb rfl (by first | simp only [h84, h85, h86, Bool.true_and, Bool.and_true, Bool.false_and, Bool.and_false, Bool.true_or, Bool.false_or, Bool.or_true, Bool.or_false, Bool.not_true, Bool.not_false] | simp [h84, h85, h86]), trivial⟩) (s_own (by exact (.cons_cons _ (.cons_cons _ (.cons_cons _ (.cons_cons _ (.cons_cons _ (.cons _ .slnil))))))) J83)
                    · refine s_want rfl rfl h86 ?_
                      refine o_fa rfl ?_
                      refine s_want rfl rfl h86 ?_
                      refine o_ld 4 rfl rfl rfl ?_
                      refine s_want rfl rfl h86 ?_
                      refine o_lt rfl rfl ?_
                      refine o_pickF rfl h86 rfl ?_
                      refine o_mov rfl ?_
                      refine s_case (decide (y58.Port < 1)) (fun h87 => ?_) (fun h87 => ?_)
                      · refine s_unwant rfl rfl h87 ?_
                        refine s_unwant rfl rfl h87 ?_
                        refine s_unwant rfl rfl h87 ?_
                        refine o_pickT rfl h87 rfl ?_
                        exact s_env (by exact ⟨rfl, rfl, rfl, rfl, rfl, rfl, rfl, rfl, rfl, rfl, rfl, lkb rfl (by first | simp only [h84, h85, h86, h87, Bool.true_and, Bool.and_true, Bool.false_and, Bool.and_false, Bool.true_or, Bool.false_or, Bool.or_true, Bool.or_false, Bool.not_true, Bool.not_false] | simp [h84, h85, h86, h87]), trivial⟩) (s_own (by exact (.cons_cons _ (.cons_cons _ (.cons_cons _ (.cons_cons _ (.cons_cons _ (.cons _ .slnil))))))) J83)
                      · refine s_want rfl rfl h87 ?_
                        refine o_fa rfl ?_
                        refine s_want rfl rfl h87 ?_
                        refine o_ld 4 rfl rfl rfl ?_
                        refine s_want rfl rfl h87 ?_
                        refine o_gt rfl rfl ?_
                        refine o_pickF rfl h87 rfl ?_
                        exact s_env (by exact ⟨rfl, rfl, rfl, rfl, rfl, rfl, rfl, rfl, rfl, rfl, rfl, lkb rfl (by first | simp only [h84, h85, h86, h87, Bool.true_and, Bool.and_true, Bool.false_and, Bool.and_false, Bool.true_or, Bool.false_or, Bool.or_true, Bool.or_false, Bool.not_true, Bool.not_false] | simp [h84, h85, h86, h87]), trivial⟩) (s_own (by exact (.cons_cons _ (.cons_cons _ (.cons_cons _ (.cons_cons _ (.cons_cons _ (.cons _ .slnil))))))) J83)
            · refine s_exit rfl ?_
              exact s_env (by exact ⟨rfl, rfl, rfl, rfl, rfl, rfl, trivial⟩) (s_own (by exact (.cons_cons _ (.cons_cons _ (.cons_cons _ (.cons _ .slnil))))) (J46 s47.1 _ _ _ ⟨_, _, rfl, rfl, hle54, hR50⟩))
        · refine s_exit rfl ?_
          exact s_env (by exact ⟨rfl, trivial⟩) (s_own (by exact (.cons _ (.cons_cons _ .slnil))) (J17 s18.1 _ _ _ ⟨_, _, rfl, rfl, hle25, hR21⟩))
  · intro J88
    refine o_fa rfl ?_
    refine o_ld 0 rfl rfl rfl ?_
    refine o_lt rfl rfl ?_
    refine o_mov rfl ?_
    refine s_case (decide (x0.Switches < 1)) (fun h89 => ?_) (fun h89 => ?_)
    · refine s_unwant rfl rfl h89 ?_
      refine s_unwant rfl rfl h89 ?_
      refine s_unwant rfl rfl h89 ?_
      refine o_pickT rfl h89 rfl ?_
      exact s_env (by exact ⟨rfl, lkb rfl (by first | simp only [h89, Bool.true_and, Bool.and_true, Bool.false_and, Bool.and_false, Bool.true_or, Bool.false_or, Bool.or_true, Bool.or_false, Bool.not_true, Bool.not_false] | simp [h89]), trivial⟩) (s_own (by exact (.cons_cons _ .slnil)) J88)
    · refine s_want rfl rfl h89 ?_
      refine o_fa rfl ?_
      refine s_want rfl rfl h89 ?_
      refine o_ld 0 rfl rfl rfl ?_
      refine s_want rfl rfl h89 ?_
      refine o_gt rfl rfl ?_
      refine o_pickF rfl h89 rfl ?_
      exact s_env (by exact ⟨rfl, lkb rfl (by first | simp only [h89, Bool.true_and, Bool.and_true, Bool.false_and, Bool.and_false, Bool.true_or, Bool.false_or, Bool.or_true, Bool.or_false, Bool.not_true, Bool.not_false] | simp [h89]), trivial⟩) (s_own (by exact (.cons_cons _ .slnil)) J88)

/-! catenary/graph.Check -/
def graph_Check (k : Nat) (x0 : Graph) : Option Int :=
  (graph_sides k x0).bind fun y3 =>
  if (!y3.2) = true then
    some 2
  else
    some 0
theorem fn_17 : Try.prog.funcs[17]? = some Try.f17 := by kernel_rfl
set_option maxRecDepth 100000 in
set_option maxHeartbeats 4000000 in
theorem graph_Check_ok (k : Nat) (H : Heap) (x0 : Graph) (a0_0 : Option Addr) (c0_0 : Nat) (hx0_0 : RSl H a0_0 c0_0 x0.Links) {r : Int} (hr : graph_Check k x0 = some r) :
    Fn Try.prog 17 [.agg #[.int .i64 x0.Switches, .slice a0_0 x0.Links.length c0_0]] H [] fun H' v out => v = .int .i64 r ∧ out = [] := by
  refine fn_of_sim (args := [.agg #[.int .i64 x0.Switches, .slice a0_0 x0.Links.length c0_0]]) (n := 12) (Φ := fun r H' v out => v = .int .i64 r ∧ out = []) hr fn_17 rfl rfl rfl fun w => ?_
  refine s_eq (by rw [graph_Check]) ?_
  refine s_seq ?_
  refine s_region ?_
  refine o_box rfl fun b1 => ?_
  refine o_asg rfl ?_
  refine s_done ?_
  refine s_seq ?_
  refine s_seq ?_
  refine s_region ?_
  refine o_ld 0 rfl rfl rfl ?_
  refine s_bg fun y3 h4 => ?_
  refine s_call [] _ rfl rfl (.refl _) (graph_sides_ok k _ x0 _ _ hx0_0 h4) ?_
  rintro _ H7 _ hle8 ⟨mv5, rfl, rfl, hs6⟩
  have hs9 := RSl.mono hle8 hx0_0
  refine s_ownN ?_
  refine o_mov rfl ?_
  refine o_ext rfl rfl ?_
  refine o_ext rfl rfl ?_
  refine o_asg rfl ?_
  refine o_asg rfl ?_
  refine s_done ?_
  refine s_seq ?_
  refine s_region ?_
  refine o_mov rfl ?_
  refine o_not rfl ?_
  refine s_done ?_
  refine s_cond rfl (fun h10 => ?_) (fun h10 => ?_)
  · refine s_seq ?_
    refine s_region ?_
    refine o_asg rfl ?_
    refine s_done ?_
    exact s_retv (xs := [.tmp 2]) (vs := [.int .i64 2]) [] fn_17 rfl ⟨rv_tmp rfl, trivial⟩ (.cons _ .slnil) ⟨rfl, rfl⟩
  · refine s_skip ?_
    refine s_seq ?_
    refine s_region ?_
    refine o_asg rfl ?_
    refine s_done ?_
    exact s_retv (xs := [.tmp 2]) (vs := [.int .i64 0]) [] fn_17 rfl ⟨rv_tmp rfl, trivial⟩ (.cons _ .slnil) ⟨rfl, rfl⟩

/-! catenary/graph.Peer -/
def graph_Peer (k : Nat) (x0 : Graph) (x1 : End) : Option (End × Int × Bool) :=
  (graph_sides k x0).bind fun y7 =>
  some (((mgetD (y7.1.getD []) x1 ((⟨(⟨0, 0⟩ : End), 0⟩ : Graph_side) : Graph_side)).other), (mgetD (y7.1.getD []) x1 ((⟨(⟨0, 0⟩ : End), 0⟩ : Graph_side) : Graph_side)).link, mhas (y7.1.getD []) x1)
theorem fn_14 : Try.prog.funcs[14]? = some Try.f14 := by kernel_rfl
set_option maxRecDepth 100000 in
set_option maxHeartbeats 4000000 in
theorem graph_Peer_ok (k : Nat) (H : Heap) (x0 : Graph) (a0_0 : Option Addr) (c0_0 : Nat) (hx0_0 : RSl H a0_0 c0_0 x0.Links) (x1 : End) {r : End × Int × Bool} (hr : graph_Peer k x0 x1 = some r) :
    Fn Try.prog 14 [.agg #[.int .i64 x0.Switches, .slice a0_0 x0.Links.length c0_0], .agg #[.int .i64 x1.Switch, .int .i64 x1.Port]] H [] fun H' v out => v = .tuple #[.agg #[.int .i64 r.1.Switch, .int .i64 r.1.Port], .int .i64 r.2.1, .bool r.2.2] ∧ out = [] := by
  refine fn_of_sim (args := [.agg #[.int .i64 x0.Switches, .slice a0_0 x0.Links.length c0_0], .agg #[.int .i64 x1.Switch, .int .i64 x1.Port]]) (n := 26) (Φ := fun r H' v out => v = .tuple #[.agg #[.int .i64 r.1.Switch, .int .i64 r.1.Port], .int .i64 r.2.1, .bool r.2.2] ∧ out = []) hr fn_14 rfl rfl rfl fun w => ?_
  refine s_eq (by rw [graph_Peer]) ?_
  refine s_seq ?_
  refine s_region ?_
  refine o_box rfl fun b1 => ?_
  refine o_box rfl fun b3 => ?_
  refine o_alloc fun b5 => ?_
  refine o_asg rfl ?_
  refine o_asg rfl ?_
  refine s_done ?_
  refine s_seq ?_
  refine s_region ?_
  refine o_ld 0 rfl rfl rfl ?_
  refine s_bg fun y7 h8 => ?_
  refine s_call [] _ rfl rfl (.refl _) (graph_sides_ok k _ x0 _ _ hx0_0 h8) ?_
  rintro _ H11 _ hle12 ⟨mv9, rfl, rfl, hs10⟩
  have hs13 := RSl.mono hle12 hx0_0
  refine s_ownN ?_
  refine o_mov rfl ?_
  refine o_ext rfl rfl ?_
  refine o_ext rfl rfl ?_
  refine o_asg rfl ?_
  refine o_asg rfl ?_
  refine s_done ?_
  refine s_seq ?_
  refine s_region ?_
  refine o_mov rfl ?_
  refine o_ld 1 rfl rfl rfl ?_
  refine o_lkpVf (kt := 26) (et := 84) (z := ((⟨(⟨0, 0⟩ : End), 0⟩ : Graph_side) : Graph_side)) hs10 rfl x1 rfl ?_
  refine o_mov rfl ?_
  refine o_ext rfl rfl ?_
  refine o_ext rfl rfl ?_
  refine o_alloc fun b14 => ?_
  refine o_st 3 rfl rfl rfl rfl rfl rfl ?_
  refine o_asg rfl ?_
  refine s_done ?_
  refine s_seq ?_
  refine s_env (env' := [(0, .agg #[.int .i64 x0.Switches, .slice a0_0 x0.Links.length c0_0]), (1, .agg #[.int .i64 x1.Switch, .int .i64 x1.Port]), (2, .pointer (some ⟨b1, 0, none⟩)), (3, .pointer (some ⟨b3, 0, none⟩)), (4, .pointer (some ⟨b5, 0, none⟩)), (6, .bool (mhas (y7.1.getD []) x1)), (11, .agg #[.int .i64 x0.Switches, .slice a0_0 x0.Links.length c0_0]), (13, mv9), (14, .bool y7.2), (7, mv9), (8, .bool y7.2), (16, mv9), (17, .agg #[.int .i64 x1.Switch, .int .i64 x1.Port]), (19, .agg #[.int .i64 (((mgetD (y7.1.getD []) x1 ((⟨(⟨0, 0⟩ : End), 0⟩ : Graph_side) : Graph_side)).other).Switch), .int .i64 (((mgetD (y7.1.getD []) x1 ((⟨(⟨0, 0⟩ : End), 0⟩ : Graph_side) : Graph_side)).other).Port), .int .i64 ((mgetD (y7.1.getD []) x1 ((⟨(⟨0, 0⟩ : End), 0⟩ : Graph_side) : Graph_side)).link)]), (20, .bool (mhas (y7.1.getD []) x1)), (9, .pointer (some ⟨b14, 0, none⟩))]) (by exact ⟨rfl, rfl, rfl, rfl, rfl, rfl, rfl, rfl, rfl, rfl, rfl, rfl, rfl, rfl, rfl, rfl, trivial⟩) ?_
  refine s_mv 2 rfl ?_
  refine s_ownE (own' := [.blk b1 (rowObj [.int .i64 x0.Switches, .slice a0_0 x0.Links.length c0_0] 24), .blk b3 (rowObj [.int .i64 x1.Switch, .int .i64 x1.Port] 26), .blk b14 (rowObj [.int .i64 (((mgetD (y7.1.getD []) x1 ((⟨(⟨0, 0⟩ : End), 0⟩ : Graph_side) : Graph_side)).other).Switch), .int .i64 (((mgetD (y7.1.getD []) x1 ((⟨(⟨0, 0⟩ : End), 0⟩ : Graph_side) : Graph_side)).other).Port), .int .i64 ((mgetD (y7.1.getD []) x1 ((⟨(⟨0, 0⟩ : End), 0⟩ : Graph_side) : Graph_side)).link)] 84)] ++ [.blk b5 (rowObj [.int .i64 0, .int .i64 0] 26)]) rfl ?_
  refine s_drawLG [.blk b5 (rowObj [.int .i64 0, .int .i64 0] 26)] [(fun H v g => v = .pointer (some ⟨b14, 0, none⟩) ∧ g = []),
      (fun H v g => v = .agg #[.int .i64 (((mgetD (y7.1.getD []) x1 ((⟨(⟨0, 0⟩ : End), 0⟩ : Graph_side) : Graph_side)).other).Switch), .int .i64 (((mgetD (y7.1.getD []) x1 ((⟨(⟨0, 0⟩ : End), 0⟩ : Graph_side) : Graph_side)).other).Port)] ∧ g = []),
      (fun H v g => v = .pointer (some ⟨b14, 2, none⟩) ∧ g = []),
      (fun H v g => v = .int .i64 ((mgetD (y7.1.getD []) x1 ((⟨(⟨0, 0⟩ : End), 0⟩ : Graph_side) : Graph_side)).link) ∧ g = []),
      (fun H v g => v = .bool (mhas (y7.1.getD []) x1) ∧ g = []),
      (fun H v g => v = undef ∧ g = [.blk b5 (rowObj [.int .i64 (((mgetD (y7.1.getD []) x1 ((⟨(⟨0, 0⟩ : End), 0⟩ : Graph_side) : Graph_side)).other).Switch), .int .i64 (((mgetD (y7.1.getD []) x1 ((⟨(⟨0, 0⟩ : End), 0⟩ : Graph_side) : Graph_side)).other).Port)] 26)]),
      (fun H v g => v = .int .i64 ((mgetD (y7.1.getD []) x1 ((⟨(⟨0, 0⟩ : End), 0⟩ : Graph_side) : Graph_side)).link) ∧ g = [])] [[], [], [], [], [], [8], []] mixed ⟨fun _ _ _ _ _ h => h, fun _ _ _ _ _ h => h, fun _ _ _ _ _ h => h, fun _ _ _ _ _ h => h, fun _ _ _ _ _ h => h, fun _ _ _ _ _ h => h, fun _ _ _ _ _ h => h, trivial⟩ (by kernel_rfl) (by kernel_rfl) rfl (by kernel_rfl) rfl rfl ?_ ?_
  · refine dconsG ?_ ?_
    · intro V16 G17 H18 fr19 hvg22 hle20 hd21
      refine ⟨_, some (), rfl, fun _ => ?_⟩
      refine s_env (env' := [(9, .pointer (some ⟨b14, 0, none⟩))]) (by exact ⟨rfl, trivial⟩) ?_
      refine o_fa rfl ?_
      exact s_pred fun tm w ht hE hI => ⟨(.pointer (some ⟨b14, 0, none⟩)), [], _, fun d hd => (by cases hd; exact hE _ _ rfl), .refl _, by exact hI, ⟨rfl, rfl⟩⟩
    refine dconsG ?_ ?_
    · intro V23 G24 H25 fr26 hvg29 hle27 hd28
      obtain ⟨hv30, hg31⟩ := hd28 0 (by decide)
      refine ⟨_, some (), rfl, fun _ => ?_⟩
      refine s_env (env' := [(21, .pointer (some ⟨b14, 0, none⟩))]) (by exact ⟨congrArg some hv30, trivial⟩) ?_
      refine o_ld 2 rfl rfl rfl ?_
      exact s_pred fun tm w ht hE hI => ⟨(.agg #[.int .i64 (((mgetD (y7.1.getD []) x1 ((⟨(⟨0, 0⟩ : End), 0⟩ : Graph_side) : Graph_side)).other).Switch), .int .i64 (((mgetD (y7.1.getD []) x1 ((⟨(⟨0, 0⟩ : End), 0⟩ : Graph_side) : Graph_side)).other).Port)]), [], _, fun d hd => (by cases hd; exact hE _ _ rfl), .refl _, by exact hI, ⟨rfl, rfl⟩⟩
    refine dconsG ?_ ?_
    · intro V32 G33 H34 fr35 hvg38 hle36 hd37
      refine ⟨_, some (), rfl, fun _ => ?_⟩
      refine s_env (env' := [(9, .pointer (some ⟨b14, 0, none⟩))]) (by exact ⟨rfl, trivial⟩) ?_
      refine o_fa rfl ?_
      exact s_pred fun tm w ht hE hI => ⟨(.pointer (some ⟨b14, 2, none⟩)), [], _, fun d hd => (by cases hd; exact hE _ _ rfl), .refl _, by exact hI, ⟨rfl, rfl⟩⟩
    refine dconsG ?_ ?_
    · intro V39 G40 H41 fr42 hvg45 hle43 hd44
      obtain ⟨hv46, hg47⟩ := hd44 2 (by decide)
      refine ⟨_, some (), rfl, fun _ => ?_⟩
      refine s_env (env' := [(23, .pointer (some ⟨b14, 2, none⟩))]) (by exact ⟨congrArg some hv46, trivial⟩) ?_
      refine o_ld 2 rfl rfl rfl ?_
      exact s_pred fun tm w ht hE hI => ⟨(.int .i64 ((mgetD (y7.1.getD []) x1 ((⟨(⟨0, 0⟩ : End), 0⟩ : Graph_side) : Graph_side)).link)), [], _, fun d hd => (by cases hd; exact hE _ _ rfl), .refl _, by exact hI, ⟨rfl, rfl⟩⟩
    refine dconsG ?_ ?_
    · intro V48 G49 H50 fr51 hvg54 hle52 hd53
      refine ⟨_, some (), rfl, fun _ => ?_⟩
      refine s_env (env' := [(6, .bool (mhas (y7.1.getD []) x1))]) (by exact ⟨rfl, trivial⟩) ?_
      refine o_mov rfl ?_
      exact s_pred fun tm w ht hE hI => ⟨(.bool (mhas (y7.1.getD []) x1)), [], _, fun d hd => (by cases hd; exact hE _ _ rfl), .refl _, by exact hI, ⟨rfl, rfl⟩⟩
    refine dconsG ?_ ?_
    · intro V55 G56 H57 fr58 hvg61 hle59 hd60
      obtain ⟨hv62, hg63⟩ := hd60 1 (by decide)
      refine ⟨_, some (), rfl, fun _ => ?_⟩
      refine s_env (env' := [(22, .agg #[.int .i64 (((mgetD (y7.1.getD []) x1 ((⟨(⟨0, 0⟩ : End), 0⟩ : Graph_side) : Graph_side)).other).Switch), .int .i64 (((mgetD (y7.1.getD []) x1 ((⟨(⟨0, 0⟩ : End), 0⟩ : Graph_side) : Graph_side)).other).Port)]), (4, .pointer (some ⟨b5, 0, none⟩))]) (by exact ⟨congrArg some hv62, rfl, trivial⟩) ?_
      have hg64 : G56 8 = [.blk b5 (rowObj [.int .i64 0, .int .i64 0] 26)] := hvg61 0 _ rfl
      refine s_ownE (own' := [.blk b1 (rowObj [.int .i64 x0.Switches, .slice a0_0 x0.Links.length c0_0] 24), .blk b3 (rowObj [.int .i64 x1.Switch, .int .i64 x1.Port] 26), .blk b14 (rowObj [.int .i64 (((mgetD (y7.1.getD []) x1 ((⟨(⟨0, 0⟩ : End), 0⟩ : Graph_side) : Graph_side)).other).Switch), .int .i64 (((mgetD (y7.1.getD []) x1 ((⟨(⟨0, 0⟩ : End), 0⟩ : Graph_side) : Graph_side)).other).Port), .int .i64 ((mgetD (y7.1.getD []) x1 ((⟨(⟨0, 0⟩ : End), 0⟩ : Graph_side) : Graph_side)).link)] 84), .blk b5 (rowObj [.int .i64 0, .int .i64 0] 26)] ++ fr58) (by simp only [List.flatMap_cons, List.flatMap_nil, List.append_nil, hg64]; rfl) ?_
      refine o_st 3 rfl rfl rfl rfl rfl rfl ?_
      exact s_pred fun tm w ht hE hI => ⟨undef, [.blk b5 (rowObj [.int .i64 (((mgetD (y7.1.getD []) x1 ((⟨(⟨0, 0⟩ : End), 0⟩ : Graph_side) : Graph_side)).other).Switch), .int .i64 (((mgetD (y7.1.getD []) x1 ((⟨(⟨0, 0⟩ : End), 0⟩ : Graph_side) : Graph_side)).other).Port)] 26)], _, fun d hd => (by cases hd), .refl _, by exact hI, ⟨rfl, rfl⟩⟩
    refine dconsG ?_ ?_
    · intro V65 G66 H67 fr68 hvg71 hle69 hd70
      obtain ⟨hv72, hg73⟩ := hd70 3 (by decide)
      refine ⟨_, some (), rfl, fun _ => ?_⟩
      refine s_env (env' := [(24, .int .i64 ((mgetD (y7.1.getD []) x1 ((⟨(⟨0, 0⟩ : End), 0⟩ : Graph_side) : Graph_side)).link))]) (by exact ⟨congrArg some hv72, trivial⟩) ?_
      refine o_asg rfl ?_
      exact s_pred fun tm w ht hE hI => ⟨(.int .i64 ((mgetD (y7.1.getD []) x1 ((⟨(⟨0, 0⟩ : End), 0⟩ : Graph_side) : Graph_side)).link)), [], _, fun d hd => (by cases hd; exact hE _ _ rfl), .refl _, by exact hI, ⟨rfl, rfl⟩⟩
    exact dnilG
  · intro V76 G77 H74 hvg79 hle75 hF78
    have hs80 := RSl.mono hle75 hs13
    have hs81 := MapV.mono hle75 hs10
    obtain ⟨hv82, hg83⟩ := hF78 4 (show 4 < 7 by decide)
    obtain ⟨hv84, hg85⟩ := hF78 5 (show 5 < 7 by decide)
    obtain ⟨hv86, hg87⟩ := hF78 6 (show 6 < 7 by decide)
    refine s_env (env' := [(25, .bool (mhas (y7.1.getD []) x1)), (5, .int .i64 ((mgetD (y7.1.getD []) x1 ((⟨(⟨0, 0⟩ : End), 0⟩ : Graph_side) : Graph_side)).link)), (0, .agg #[.int .i64 x0.Switches, .slice a0_0 x0.Links.length c0_0]), (1, .agg #[.int .i64 x1.Switch, .int .i64 x1.Port]), (2, .pointer (some ⟨b1, 0, none⟩)), (3, .pointer (some ⟨b3, 0, none⟩)), (4, .pointer (some ⟨b5, 0, none⟩)), (6, .bool (mhas (y7.1.getD []) x1)), (11, .agg #[.int .i64 x0.Switches, .slice a0_0 x0.Links.length c0_0]), (13, mv9), (14, .bool y7.2), (7, mv9), (8, .bool y7.2), (16, mv9), (17, .agg #[.int .i64 x1.Switch, .int .i64 x1.Port]), (19, .agg #[.int .i64 (((mgetD (y7.1.getD []) x1 ((⟨(⟨0, 0⟩ : End), 0⟩ : Graph_side) : Graph_side)).other).Switch), .int .i64 (((mgetD (y7.1.getD []) x1 ((⟨(⟨0, 0⟩ : End), 0⟩ : Graph_side) : Graph_side)).other).Port), .int .i64 ((mgetD (y7.1.getD []) x1 ((⟨(⟨0, 0⟩ : End), 0⟩ : Graph_side) : Graph_side)).link)]), (20, .bool (mhas (y7.1.getD []) x1)), (9, .pointer (some ⟨b14, 0, none⟩))]) (by exact ⟨congrArg some hv82, congrArg some hv86, rfl, rfl, rfl, rfl, rfl, rfl, rfl, rfl, rfl, rfl, rfl, rfl, rfl, rfl, rfl, rfl, trivial⟩) ?_
    refine s_liv (js := [5]) rfl ?_
    refine s_ownE (own' := [.blk b1 (rowObj [.int .i64 x0.Switches, .slice a0_0 x0.Links.length c0_0] 24), .blk b3 (rowObj [.int .i64 x1.Switch, .int .i64 x1.Port] 26), .blk b14 (rowObj [.int .i64 (((mgetD (y7.1.getD []) x1 ((⟨(⟨0, 0⟩ : End), 0⟩ : Graph_side) : Graph_side)).other).Switch), .int .i64 (((mgetD (y7.1.getD []) x1 ((⟨(⟨0, 0⟩ : End), 0⟩ : Graph_side) : Graph_side)).other).Port), .int .i64 ((mgetD (y7.1.getD []) x1 ((⟨(⟨0, 0⟩ : End), 0⟩ : Graph_side) : Graph_side)).link)] 84), .blk b5 (rowObj [.int .i64 (((mgetD (y7.1.getD []) x1 ((⟨(⟨0, 0⟩ : End), 0⟩ : Graph_side) : Graph_side)).other).Switch), .int .i64 (((mgetD (y7.1.getD []) x1 ((⟨(⟨0, 0⟩ : End), 0⟩ : Graph_side) : Graph_side)).other).Port)] 26)]) (by simp only [List.flatMap_cons, List.flatMap_nil, List.append_nil, hg85]; rfl) ?_
    refine o_asg rfl ?_
    refine s_done ?_
    exact s_retv (xs := [.cell 4 26, .tmp 5, .tmp 6]) (vs := [.agg #[.int .i64 (((mgetD (y7.1.getD []) x1 ((⟨(⟨0, 0⟩ : End), 0⟩ : Graph_side) : Graph_side)).other).Switch), .int .i64 (((mgetD (y7.1.getD []) x1 ((⟨(⟨0, 0⟩ : End), 0⟩ : Graph_side) : Graph_side)).other).Port)], .int .i64 ((mgetD (y7.1.getD []) x1 ((⟨(⟨0, 0⟩ : End), 0⟩ : Graph_side) : Graph_side)).link), .bool (mhas (y7.1.getD []) x1)]) [] fn_14 rfl ⟨rv_cell 3 rfl rfl rfl rfl, rv_tmp rfl, rv_tmp rfl, trivial⟩ (.cons _ (.cons _ (.cons _ (.cons _ .slnil)))) ⟨rfl, rfl⟩

/-! slices.Index[[]int,int] -/
def slices_Index___int_int__l0 (k : Nat) (x0 : (List Int)) (x1 : Int) : Nat → Int → Option (LX (Int) (Unit))
  | 0, _ => none
  | q6 + 1, s5 =>
    if (decide (s5 < (x0.length : Int))) = true then
      (rd x0 s5).bind fun y12 =>
      if (x1 == y12) = true then
        some (.ret s5)
      else
        slices_Index___int_int__l0 k x0 x1 q6 (w64 (s5 + 1))
    else
      some (.out ())
def slices_Index___int_int_ (k : Nat) (x0 : (List Int)) (x1 : Int) : Option Int :=
  (slices_Index___int_int__l0 k x0 x1 k 0).bind (LX.go fun p1 =>
  some (-1))
theorem fn_86 : Try.prog.funcs[86]? = some Try.f86 := by kernel_rfl
set_option maxRecDepth 100000 in
set_option maxHeartbeats 4000000 in
theorem slices_Index___int_int__ok (k : Nat) (H : Heap) (x0 : (List Int)) (a0_0 : Option Addr) (c0_0 : Nat) (hx0_0 : RSl H a0_0 c0_0 x0) (x1 : Int) {r : Int} (hr : slices_Index___int_int_ k x0 x1 = some r) :
    Fn Try.prog 86 [.slice a0_0 x0.length c0_0, .int .i64 x1] H [] fun H' v out => v = .int .i64 r ∧ out = [] := by
  refine fn_of_sim (args := [.slice a0_0 x0.length c0_0, .int .i64 x1]) (n := 19) (Φ := fun r H' v out => v = .int .i64 r ∧ out = []) hr fn_86 rfl rfl rfl fun w => ?_
  refine s_eq (by rw [slices_Index___int_int_]) ?_
  refine s_seq ?_
  refine s_region ?_
  refine o_asg rfl ?_
  refine s_done ?_
  refine s_seq ?_
  refine s_seq ?_
  refine s_region ?_
  refine o_mov rfl ?_
  refine o_lenS rfl ?_
  refine o_mov rfl ?_
  refine s_done ?_
  refine s_joinL (fun p1 env own H' => env = [] ∧ own = [] ∧ Hle H H') ?_ ?_
  · rintro p1 _ _ H2 ⟨rfl, rfl, hle3⟩
    refine s_seq ?_
    refine s_region ?_
    refine o_asg rfl ?_
    refine s_done ?_
    exact s_retv (xs := [.tmp 4]) (vs := [.int .i64 (-1)]) [] fn_86 rfl ⟨rv_tmp rfl, trivial⟩ .slnil ⟨rfl, rfl⟩
  · intro J4
    refine s_block ?_
    refine s_env (env' := [(0, .slice a0_0 x0.length c0_0), (1, .int .i64 x1), (7, .int .i64 (x0.length : Int)), (8, .int .i64 0)]) (by exact ⟨rfl, rfl, rfl, rfl, trivial⟩) ?_
    refine s_own (own' := []) .slnil ?_
    refine s_loopn (fun q s5 => slices_Index___int_int__l0 k x0 x1 q s5) (fun s5 env own H' => env = [(0, .slice a0_0 x0.length c0_0), (1, .int .i64 x1), (7, .int .i64 (x0.length : Int)), (8, .int .i64 s5)] ∧ own = [] ∧ Hle H H') (fun _ => rfl) ?_ k 0 ⟨rfl, rfl, .refl _⟩
    rintro q6 ih7 s5 _ _ H8 ⟨rfl, rfl, hle9⟩
    refine s_eq (by rw [slices_Index___int_int__l0]) ?_
    have hs10 := RSl.mono hle9 hx0_0
    refine s_seq ?_
    refine s_region ?_
    refine o_lt rfl rfl ?_
    refine s_done ?_
    refine s_seq ?_
    refine s_cond rfl (fun h11 => ?_) (fun h11 => ?_)
    · refine s_skip ?_
      refine s_seq ?_
      refine s_block ?_
      refine s_seq ?_
      refine s_region ?_
      refine o_mov rfl ?_
      refine o_asg rfl ?_
      refine s_done ?_
      refine s_seq ?_
      refine s_region ?_
      refine o_mov rfl ?_
      refine o_mov rfl ?_
      refine o_mov rfl ?_
      refine o_ixf hs10 rfl rfl fun y12 bk14 of15 h13 hc16 => ?_
      refine o_ldH 0 hc16 rfl rfl rfl ?_
      refine o_eq rfl rfl ?_
      refine s_done ?_
      refine s_cond rfl (fun h17 => ?_) (fun h17 => ?_)
      · refine s_seq ?_
        refine s_region ?_
        refine o_mov rfl ?_
        refine o_asg rfl ?_
        refine s_done ?_
        refine s_lret ?_
        exact s_retv (xs := [.tmp 4]) (vs := [.int .i64 s5]) [] fn_86 rfl ⟨rv_tmp rfl, trivial⟩ .slnil ⟨rfl, rfl⟩
      · refine s_skip ?_
        refine s_inBlock ?_
        refine s_region ?_
        refine o_add rfl rfl ?_
        refine o_mov rfl ?_
        refine s_done ?_
        exact s_env (by exact ⟨rfl, rfl, rfl, rfl, trivial⟩) (s_own (by exact .slnil) (ih7 (w64 (s5 + 1)) _ _ _ ⟨rfl, rfl, hle9⟩))
    · refine s_exit rfl ?_
      exact s_env (by exact trivial) (s_own (by exact .slnil) (J4 () _ _ _ ⟨rfl, rfl, hle9⟩))

/-! slices.Contains[[]int,int] -/
def slices_Contains___int_int_ (k : Nat) (x0 : (List Int)) (x1 : Int) : Option Bool :=
  (slices_Index___int_int_ k x0 x1).bind fun y1 =>
  some (decide (y1 ≥ 0))
theorem fn_58 : Try.prog.funcs[58]? = some Try.f58 := by kernel_rfl
set_option maxRecDepth 100000 in
set_option maxHeartbeats 4000000 in
theorem slices_Contains___int_int__ok (k : Nat) (H : Heap) (x0 : (List Int)) (a0_0 : Option Addr) (c0_0 : Nat) (hx0_0 : RSl H a0_0 c0_0 x0) (x1 : Int) {r : Bool} (hr : slices_Contains___int_int_ k x0 x1 = some r) :
    Fn Try.prog 58 [.slice a0_0 x0.length c0_0, .int .i64 x1] H [] fun H' v out => v = .bool r ∧ out = [] := by
  refine fn_of_sim (args := [.slice a0_0 x0.length c0_0, .int .i64 x1]) (n := 9) (Φ := fun r H' v out => v = .bool r ∧ out = []) hr fn_58 rfl rfl rfl fun w => ?_
  refine s_eq (by rw [slices_Contains___int_int_]) ?_
  refine s_seq ?_
  refine s_region ?_
  refine o_asg rfl ?_
  refine s_done ?_
  refine s_seq ?_
  refine s_region ?_
  refine o_mov rfl ?_
  refine o_mov rfl ?_
  refine s_bg fun y1 h2 => ?_
  refine s_callF rfl rfl (slices_Index___int_int__ok k _ x0 _ _ hx0_0 x1 h2) ?_
  refine o_ge rfl rfl ?_
  refine o_asg rfl ?_
  refine s_done ?_
  exact s_retv (xs := [.tmp 4]) (vs := [.bool (decide (y1 ≥ 0))]) [] fn_58 rfl ⟨rv_tmp rfl, trivial⟩ .slnil ⟨rfl, rfl⟩

/-! @TFun:84 -/
theorem fn_84 : Try.prog.funcs[84]? = some Try.f84 := by kernel_rfl

/-! @TFun:53 -/
theorem fn_53 : Try.prog.funcs[53]? = some Try.f53 := by kernel_rfl

/-! @TFun:82 -/
theorem fn_82 : Try.prog.funcs[82]? = some Try.f82 := by kernel_rfl

/-! @TFun:101 -/
theorem fn_101 : Try.prog.funcs[101]? = some Try.f101 := by kernel_rfl

/-! @TFun:83 -/
theorem fn_83 : Try.prog.funcs[83]? = some Try.f83 := by kernel_rfl

/-! @TFun:52 -/
theorem fn_52 : Try.prog.funcs[52]? = some Try.f52 := by kernel_rfl

/-! @TFun:16 -/
theorem fn_16 : Try.prog.funcs[16]? = some Try.f16 := by kernel_rfl

/-! @TFun:57 -/
theorem fn_57 : Try.prog.funcs[57]? = some Try.f57 := by kernel_rfl

/-! @TFun:85 -/
theorem fn_85 : Try.prog.funcs[85]? = some Try.f85 := by kernel_rfl

/-! @TFun:24 -/
theorem fn_24 : Try.prog.funcs[24]? = some Try.f24 := by kernel_rfl

/-! @TFun:59 -/
theorem fn_59 : Try.prog.funcs[59]? = some Try.f59 := by kernel_rfl

/-! @TFun:54 -/
theorem fn_54 : Try.prog.funcs[54]? = some Try.f54 := by kernel_rfl
end Go.Cat.G3
