/- A text of the proof of the seat's laws: a step logic over the machine, or pure functions that the Go functions come to. No condition. -/
import Derived.Test.YtmmpieknnnlnhaaGreatJ3
import Derived.Test.YtmmpieknnnlnhaaGreatCore1
namespace Go.Cat.G3
open Go Go.Cat Go.Proofs
set_option linter.unusedVariables false
set_option linter.unusedSimpArgs false
instance iJ4x1 : TZero Tryz.prog 47 (.agg #[.int .i64 0, .int .u8 0, .int .u8 0, .int .u8 0]) := ⟨fun _ => by kernel_rfl⟩
instance iJ4x2 : TUnd Tryz.prog 3 (.int .i64) := ⟨by kernel_rfl⟩
instance iJ4x3 : TUnd Tryz.prog 5 (.int .u8) := ⟨by kernel_rfl⟩
instance iJ4x4 : TLay Tryz.prog 27 1 false := ⟨fun _ => by kernel_rfl, fun _ => by kernel_rfl, fun h => by first | rfl | cases h⟩
instance iJ4x5 : TFld Tryz.prog 47 0 0 1 false := ⟨⟨_, _, Tryz.underlying47, rfl, rfl, fun _ => by kernel_rfl, fun _ => by kernel_rfl, by decide, fun h => by first | rfl | cases h⟩⟩
instance iJ4x6 : TFld Tryz.prog 47 1 1 3 true := ⟨⟨_, _, Tryz.underlying47, rfl, rfl, fun _ => by kernel_rfl, fun _ => by kernel_rfl, by decide, fun h => by first | rfl | cases h⟩⟩
instance iJ4x7 : TFld Tryz.prog 114 0 0 1 false := ⟨⟨_, _, Tryz.underlying114, rfl, rfl, fun _ => by kernel_rfl, fun _ => by kernel_rfl, by decide, fun h => by first | rfl | cases h⟩⟩
instance iJ4x8 : TArr Tryz.prog 41 3 5 1 := ⟨by kernel_rfl, fun _ => by kernel_rfl⟩
instance iJ4x9 : TBld Tryz.prog 117 [] [] := ⟨fun _ => by kernel_rfl, ⟨_, Tryz.underlying117, fun _ => by kernel_rfl⟩⟩
def allG (g : Sent → Option (List Sent)) : List Sent → Option (List Sent)
 | [] => some []
 | x :: xs => (g x).bind fun a => (allG g xs).bind fun b => some (a ++ b)
theorem ZlE {g : Sent → Option (List Sent)} : ∀ {xs r : List Sent}, allG g xs = some r → (∀ x ∈ xs, ∃ rr, g x = some rr) ∧ ∀ y, y ∈ r ↔ ∃ x ∈ xs, ∃ rr, g x = some rr ∧ y ∈ rr := by
 intro xs
 induction xs with
 | nil => intro r h; cases h; simp
 | cons x xs ih =>
  intro r h
  rw [allG] at h
  cases hg : g x with
  | none => rw [hg] at h; cases h
  | some a =>
   rw [hg] at h
   simp only [Option.bind_some] at h
   cases hb : allG g xs with
   | none => rw [hb] at h; cases h
   | some b =>
    rw [hb] at h
    cases h
    obtain ⟨h1, h2⟩ := ih hb
    refine ⟨fun y hy => ?_, fun y => ?_⟩
    ·rcases List.mem_cons.1 hy with rfl | hy
     ·exact ⟨_, hg⟩
     ·exact h1 y hy
    ·rw [List.mem_append, h2 y]
     constructor
     ·rintro (h | ⟨x', h1, h2⟩)
      ·exact ⟨x, by simp, a, hg, h⟩
      ·exact ⟨x', by simp [h1], h2⟩
     ·rintro ⟨x', hx', rr, h1, h2⟩
      rcases List.mem_cons.1 hx' with rfl | hx'
      ·rw [hg] at h1; cases h1; exact .inl h2
      ·exact .inr ⟨x', hx', rr, h1, h2⟩
theorem Zgy {l : List (Sent × S213)} {q : Sent} {v : S213} (hn : (l.map (·.1)).Nodup) : ((mput l q v).map (·.1)).Nodup ∧ ∀ y, y ∈ (mput l q v).map (·.1) ↔ y ∈ l.map (·.1) ∨ y ∈ [q] := by
 induction l with
 | nil => simp [mput]
 | cons p l ih =>
  simp only [List.map_cons, List.nodup_cons] at hn
  obtain ⟨h1, h2⟩ := ih hn.2
  simp only [mput]
  split
  ·rename_i h
   subst h
   refine ⟨by simp only [List.map_cons, List.nodup_cons]; exact hn, fun y => by simp; intro h; exact .inl h⟩
  ·rename_i h
   refine ⟨?_, fun y => ?_⟩
   ·simp only [List.map_cons, List.nodup_cons]
    refine ⟨fun hm => ?_, h1⟩
    rcases (h2 p.1).1 hm with hm | hm
    ·exact hn.1 hm
    ·simp at hm; exact h hm.symm
   ·simp only [List.map_cons, List.mem_cons, h2 y]
    simp [or_assoc]
theorem ZkX {x r1 r3 r10 q m : Res} : ([m, r1, r3, r10] ++ [q] ++ [x]).Perm [x, r1, r3, r10, q, m] := by
 have h1 : ([m, r1, r3, r10] ++ [q] ++ [x]).Perm ([x] ++ ([m, r1, r3, r10] ++ [q])) := List.perm_append_comm
 refine h1.trans (List.Perm.cons _ ?_)
 exact (List.perm_append_comm (l₁ := [m]) (l₂ := [r1, r3, r10, q]))
theorem Zmo {x r1 r3 r10 q m b : Res} : [x, r1, r3, r10, q, m, b].Perm [x, r1, r3, r10, q, b, m] := List.Perm.append_left [x, r1, r3, r10, q] (List.Perm.swap _ _ [])
def ZfI (gv : Int → Sent → Option (List Sent)) (x0 : Meaning_place) (x1 : Int) (x2 : Sent) : Option (List Sent) :=
 (rd x0.nodes x1).bind fun y5 =>
 if (y5.Kind == 8) = true then
  (gv y5.A x2).bind fun y13 =>
  (gv y5.B x2).bind fun y15 =>
  some (y13 ++ y15)
 else
  if (y5.Kind == 9) = true then
   (gv y5.A x2).bind fun y21 =>
   (allG (gv y5.B) y21).bind fun y22 =>
   some y22
  else
   (if (y5.Kind == 6) = true then
     (rd ([x2.H.e0, x2.H.e1, x2.H.e2] : List Int) y5.N).bind fun y36 =>
     some (x2.Port, (if y5.N = 0 then IntKind.u8.wrap y5.V else x2.H.e0), (if y5.N = 1 then IntKind.u8.wrap y5.V else x2.H.e1), (if y5.N = 2 then IntKind.u8.wrap y5.V else x2.H.e2))
    else
     if (y5.Kind == 7) = true then
      some (y5.N, x2.H.e0, x2.H.e1, x2.H.e2)
     else
      some (x2.Port, x2.H.e0, x2.H.e1, x2.H.e2)).bind fun p23 =>
   (Za9 gv x0 y5 (⟨p23.1, (⟨p23.2.1, p23.2.2.1, p23.2.2.2⟩ : Arr3u8)⟩ : Sent)).bind fun y28 =>
   if (y28) = true then
    some [(⟨p23.1, (⟨p23.2.1, p23.2.2.1, p23.2.2.2⟩ : Arr3u8)⟩ : Sent)]
   else
    some []
set_option maxRecDepth 100000 in
set_option maxHeartbeats 4000000 in
theorem Zii (gv : Int → Sent → Option (List Sent)) (H : Heap) (x0 : Meaning_place) (hgv : GiveOk x0 gv) (a0_0 : Option Addr) (c0_0 : Nat) (hx0_0 : RSl H a0_0 c0_0 x0.nodes) (x1 : Int) (x2 : Sent) (x3 : List (Sent × S213)) (b : Nat) (es : Array MapEntry) (cl : Nat) (hR : MapR true true H es cl x3) (hn : (x3.map (·.1)).Nodup) {r : List Sent} (hr : ZfI gv x0 x1 x2 = some r) :
  Fn Tryz.prog 50 [.agg #[.slice a0_0 x0.nodes.length c0_0, .int .i64 x0.sw, .int .i64 x0.port], .int .i64 x1, .agg #[.int .i64 x2.Port, .int .u8 x2.H.e0, .int .u8 x2.H.e1, .int .u8 x2.H.e2], .map (some b)] H [.blk b (.map es cl)] fun H' v out => v = .tuple #[] ∧ ∃ (es' : Array MapEntry) (c' : Nat) (l' : List (Sent × S213)), out = [Res.blk b (.map es' c')] ∧ MapR true true H' es' c' l' ∧ (l'.map (·.1)).Nodup ∧ ∀ y, y ∈ l'.map (·.1) ↔ y ∈ x3.map (·.1) ∨ y ∈ r := by
 refine Zaq (args := [.agg #[.slice a0_0 x0.nodes.length c0_0, .int .i64 x0.sw, .int .i64 x0.port], .int .i64 x1, .agg #[.int .i64 x2.Port, .int .u8 x2.H.e0, .int .u8 x2.H.e1, .int .u8 x2.H.e2], .map (some b)]) (n := 74) (Φ := fun r H' v out => v = .tuple #[] ∧ ∃ (es' : Array MapEntry) (c' : Nat) (l' : List (Sent × S213)), out = [Res.blk b (.map es' c')] ∧ MapR true true H' es' c' l' ∧ (l'.map (·.1)).Nodup ∧ ∀ y, y ∈ l'.map (·.1) ↔ y ∈ x3.map (·.1) ∨ y ∈ r) hr Zkj rfl rfl rfl fun w => ?_
 refine s_eq (by rw [ZfI]) ?_
 refine Zae <| Zaa ?_
 refine ZbO rfl fun b1 => ?_
 refine ZbO rfl fun b3 => ?_
 refine Zac <| Zae <| Zaa <| o_fa rfl <| o_ld 1 rfl rfl rfl <| Zad rfl ?_
 refine Zce hx0_0 rfl rfl fun y5 bk7 of8 h6 hc9 => ?_
 refine ZaP 0 hc9 rfl rfl rfl ?_
 refine Zbw fun b10 => ?_
 refine o_st 3 rfl rfl rfl rfl rfl rfl ?_
 refine Zac <| Zae <| Zae <| Zaa <| o_fa rfl <| o_ld 3 rfl rfl rfl <| Zac <| Zat <| Zae <| Zaa <| o_eq rfl rfl <| Zah rfl ?_
 refine Zac ?_
 refine Zao rfl (fun h12 => ?_) (fun h12 => ?_)
 ·refine Zae <| Zaa <| o_ld 1 rfl rfl rfl <| o_fa rfl <| o_ld 3 rfl rfl rfl <| o_ld 2 rfl rfl rfl <| Zad rfl ?_
  refine s_bg fun y13 h14 => ?_
  refine Zbg [Res.blk b (.map es cl)] [Res.blk b1 (Zak [.slice a0_0 x0.nodes.length c0_0, .int .i64 x0.sw, .int .i64 x0.port] 114), Res.blk b3 (Zak [.int .i64 x2.Port, .int .u8 x2.H.e0, .int .u8 x2.H.e1, .int .u8 x2.H.e2] 47), Res.blk b10 (Zak [.int .i64 y5.Kind, .int .i64 y5.A, .int .i64 y5.B, .int .i64 y5.N, .int .i64 y5.M, .int .i64 y5.V] 38)] rfl rfl (.refl _) (hgv _ _ _ hx0_0 y5.A x2 y13 h14 b es cl x3 hR hn) ?_
  rintro _ H1 _ hle1 ⟨rfl, es1, c1, l1, rfl, hR1, hn1, hm1⟩
  refine ZcP (own' := [Res.blk b (.map es1 c1)] ++ [Res.blk b1 (Zak [.slice a0_0 x0.nodes.length c0_0, .int .i64 x0.sw, .int .i64 x0.port] 114), Res.blk b3 (Zak [.int .i64 x2.Port, .int .u8 x2.H.e0, .int .u8 x2.H.e1, .int .u8 x2.H.e2] 47), Res.blk b10 (Zak [.int .i64 y5.Kind, .int .i64 y5.A, .int .i64 y5.B, .int .i64 y5.N, .int .i64 y5.M, .int .i64 y5.V] 38)]) List.perm_append_comm ?_
  refine Zac <| Zae <| Zaa <| o_ld 1 rfl rfl rfl <| o_fa rfl <| o_ld 3 rfl rfl rfl <| o_ld 2 rfl rfl rfl <| Zad rfl ?_
  refine s_bg fun y15 h16 => ?_
  refine Zbg [Res.blk b (.map es1 c1)] [Res.blk b1 (Zak [.slice a0_0 x0.nodes.length c0_0, .int .i64 x0.sw, .int .i64 x0.port] 114), Res.blk b3 (Zak [.int .i64 x2.Port, .int .u8 x2.H.e0, .int .u8 x2.H.e1, .int .u8 x2.H.e2] 47), Res.blk b10 (Zak [.int .i64 y5.Kind, .int .i64 y5.A, .int .i64 y5.B, .int .i64 y5.N, .int .i64 y5.M, .int .i64 y5.V] 38)] rfl rfl (.refl _) (hgv _ _ _ (RSl.mono hle1 hx0_0) y5.B x2 y15 h16 b es1 c1 l1 hR1 hn1) ?_
  rintro _ H2 _ hle2 ⟨rfl, es2, c2, l2, rfl, hR2, hn2, hm2⟩
  refine Zac ?_
  exact ZaF (xs := []) (vs := []) [Res.blk b (.map es2 c2)] Zkj rfl trivial (.cons _ (.cons _ (.cons _ (.cons_cons _ .slnil)))) ⟨rfl, es2, c2, l2, rfl, hR2, hn2, fun y => by rw [hm2, hm1, List.mem_append, or_assoc]⟩
 ·refine Zae <| Zaa <| o_eq rfl rfl <| Zah rfl <| Zac ?_
  refine Zao rfl (fun h17 => ?_) (fun h17 => ?_)
  ·refine Zae <| Zaa ?_
   refine ZfU fun b18 => ?_
   have hR20 : MapR true true H #[] 0 ([] : (List (Sent × S213))) := .nil
   refine Zah rfl <| Zac <| Zae <| Zaa <| o_ld 1 rfl rfl rfl <| o_fa rfl <| o_ld 3 rfl rfl rfl <| o_ld 2 rfl rfl rfl <| Zad rfl ?_
   refine s_bg fun y21 h22 => ?_
   refine Zbg [Res.blk b18 (.map #[] 0)] [Res.blk b (.map es cl), Res.blk b1 (Zak [.slice a0_0 x0.nodes.length c0_0, .int .i64 x0.sw, .int .i64 x0.port] 114), Res.blk b3 (Zak [.int .i64 x2.Port, .int .u8 x2.H.e0, .int .u8 x2.H.e1, .int .u8 x2.H.e2] 47), Res.blk b10 (Zak [.int .i64 y5.Kind, .int .i64 y5.A, .int .i64 y5.B, .int .i64 y5.N, .int .i64 y5.M, .int .i64 y5.V] 38)] rfl rfl (List.perm_append_comm (l₁ := [Res.blk b (.map es cl), Res.blk b1 (Zak [.slice a0_0 x0.nodes.length c0_0, .int .i64 x0.sw, .int .i64 x0.port] 114), Res.blk b3 (Zak [.int .i64 x2.Port, .int .u8 x2.H.e0, .int .u8 x2.H.e1, .int .u8 x2.H.e2] 47), Res.blk b10 (Zak [.int .i64 y5.Kind, .int .i64 y5.A, .int .i64 y5.B, .int .i64 y5.N, .int .i64 y5.M, .int .i64 y5.V] 38)])) (hgv _ _ _ hx0_0 y5.A x2 y21 h22 b18 #[] 0 [] hR20 List.nodup_nil) ?_
   rintro _ H1 _ hle1 ⟨rfl, es1, c1, l1, rfl, hR1, hn1, hm1⟩
   refine Zac ?_
   refine s_bg fun y22 h23 => ?_
   obtain ⟨hall, hmem⟩ := ZlE h23
   refine Zae <| Zae <| Zaa <| Zad rfl ?_
   refine ZiE (kt := 47) (et := 117) rfl 4 rfl fun r => ?_
   refine Zac ?_
   refine ZcP (own' := [Res.blk r (Zde b18 c1 es1 []), Res.blk b1 (Zak [.slice a0_0 x0.nodes.length c0_0, .int .i64 x0.sw, .int .i64 x0.port] 114), Res.blk b3 (Zak [.int .i64 x2.Port, .int .u8 x2.H.e0, .int .u8 x2.H.e1, .int .u8 x2.H.e2] 47), Res.blk b10 (Zak [.int .i64 y5.Kind, .int .i64 y5.A, .int .i64 y5.B, .int .i64 y5.N, .int .i64 y5.M, .int .i64 y5.V] 38), Res.blk b18 (.map es1 c1), Res.blk b (.map es cl)]) (by exact ZkX) ?_
   refine Zag (env' := [(3, .map (some b)), (4, .pointer (some ⟨b1, 0, none⟩)), (8, .pointer (some ⟨b10, 0, none⟩)), (42, .pointer (some ⟨r, 0, none⟩))]) (by exact ⟨rfl, rfl, rfl, rfl, trivial⟩) ?_
   refine Zat ?_
   refine Zg7 (σ := List Nat) (fun ix env own H' => env = [(3, .map (some b)), (4, .pointer (some ⟨b1, 0, none⟩)), (8, .pointer (some ⟨b10, 0, none⟩)), (42, .pointer (some ⟨r, 0, none⟩))] ∧ Came l1.length ix ∧ Hle H1 H' ∧ ∃ (es' : Array MapEntry) (c' : Nat) (l' : List (Sent × S213)), own = [Res.blk r (Zde b18 c1 es1 ix), Res.blk b1 (Zak [.slice a0_0 x0.nodes.length c0_0, .int .i64 x0.sw, .int .i64 x0.port] 114), Res.blk b3 (Zak [.int .i64 x2.Port, .int .u8 x2.H.e0, .int .u8 x2.H.e1, .int .u8 x2.H.e2] 47), Res.blk b10 (Zak [.int .i64 y5.Kind, .int .i64 y5.A, .int .i64 y5.B, .int .i64 y5.N, .int .i64 y5.M, .int .i64 y5.V] 38), Res.blk b18 (.map es1 c1), Res.blk b (.map es' c')] ∧ MapR true true H' es' c' l' ∧ (l'.map (·.1)).Nodup ∧ ∀ y, y ∈ l'.map (·.1) ↔ y ∈ x3.map (·.1) ∨ ∃ p ∈ vis l1 ix, ∃ rr, gv y5.B p.1 = some rr ∧ y ∈ rr)
    (fun ix => l1.length - ix.length) ?_ [] ⟨rfl, .nil, .refl _, es, cl, x3, rfl, hR.mono hle1, hn, fun y => by simp [vis]⟩
   rintro ix _ _ H2 ⟨rfl, hC, hle2, es', c', l', rfl, hR', hn', hm'⟩ ih
   have hR2 := hR1.mono hle2
   have hx2 := RSl.mono (hle1.trans hle2) hx0_0
   refine Zae <| Zaa ?_
   refine Zmv 0 rfl rfl 4 rfl hR2 hC (fun hf => ?_) (fun i p v hi hlt hp hv => ?_)
   ·refine ZcI rfl rfl <| Zac <| Zae ?_
    refine Zek rfl rfl ?_
    refine Zbf rfl ?_
    exact ZaF (xs := []) (vs := []) [Res.blk b (.map es' c')] Zkj rfl trivial (.cons _ (.cons _ (.cons _ (.cons _ (.cons _ (.cons_cons _ .slnil)))))) ⟨rfl, es', c', l', rfl, hR', hn', fun y => by
     rw [hm' y, hmem y]
     have hpm := Ziy hC hf
     constructor
     ·rintro (h | ⟨p, hp, rr, h1, h2⟩)
      ·exact .inl h
      ·exact .inr ⟨p.1, by have := (hm1 p.1).1 (List.mem_map.2 ⟨p, hpm.mem_iff.1 hp, rfl⟩); simpa using this, rr, h1, h2⟩
     ·rintro (h | ⟨x, hx, rr, h1, h2⟩)
      ·exact .inl h
      ·obtain ⟨p, hp, rfl⟩ := List.mem_map.1 ((hm1 x).2 (.inr hx))
       exact .inr ⟨p, hpm.mem_iff.2 hp, rr, h1, h2⟩⟩
   ·refine ZcI rfl rfl <| Zac <| Zae ?_
    refine ZfQ rfl rfl ?_
    refine Zar <| Zat <| Zae <| Zaa ?_
    refine ZbL (own' := [Res.blk r (Zde b18 c1 es1 (ix ++ [i])), Res.blk b1 (Zak [.slice a0_0 x0.nodes.length c0_0, .int .i64 x0.sw, .int .i64 x0.port] 114), Res.blk b3 (Zak [.int .i64 x2.Port, .int .u8 x2.H.e0, .int .u8 x2.H.e1, .int .u8 x2.H.e2] 47), Res.blk b10 (Zak [.int .i64 y5.Kind, .int .i64 y5.A, .int .i64 y5.B, .int .i64 y5.N, .int .i64 y5.M, .int .i64 y5.V] 38), Res.blk b18 (.map es1 c1), Res.blk b (.map es' c')]) rfl ?_
    refine Zk2 0 rfl rfl 4 rfl hR2 hp fun v2 vs2 hv2 hrep2 => ?_
    refine ZcI rfl rfl ?_
    refine Zbw fun b50 => ?_
    refine o_st 6 rfl rfl rfl rfl rfl rfl ?_
    refine Zac ?_
    refine ZcP (own' := [Res.blk r (Zde b18 c1 es1 (ix ++ [i])), Res.blk b1 (Zak [.slice a0_0 x0.nodes.length c0_0, .int .i64 x0.sw, .int .i64 x0.port] 114), Res.blk b3 (Zak [.int .i64 x2.Port, .int .u8 x2.H.e0, .int .u8 x2.H.e1, .int .u8 x2.H.e2] 47), Res.blk b10 (Zak [.int .i64 y5.Kind, .int .i64 y5.A, .int .i64 y5.B, .int .i64 y5.N, .int .i64 y5.M, .int .i64 y5.V] 38), Res.blk b18 (.map es1 c1), Res.blk b50 (Zak [.int .i64 p.1.Port, .int .u8 p.1.H.e0, .int .u8 p.1.H.e1, .int .u8 p.1.H.e2] 47), Res.blk b (.map es' c')]) (by exact Zmo) ?_
    have hk : p.1 ∈ y21 := by have := (hm1 p.1).1 (List.mem_map.2 ⟨p, List.mem_of_getElem? hp, rfl⟩); simpa using this
    obtain ⟨rr, hrr⟩ := hall p.1 hk
    refine Zaa <| o_ld 1 rfl rfl rfl <| o_fa rfl <| o_ld 3 rfl rfl rfl <| o_ld 5 rfl rfl rfl <| Zad rfl ?_
    refine Zbg [Res.blk b (.map es' c')] [Res.blk r (Zde b18 c1 es1 (ix ++ [i])), Res.blk b1 (Zak [.slice a0_0 x0.nodes.length c0_0, .int .i64 x0.sw, .int .i64 x0.port] 114), Res.blk b3 (Zak [.int .i64 x2.Port, .int .u8 x2.H.e0, .int .u8 x2.H.e1, .int .u8 x2.H.e2] 47), Res.blk b10 (Zak [.int .i64 y5.Kind, .int .i64 y5.A, .int .i64 y5.B, .int .i64 y5.N, .int .i64 y5.M, .int .i64 y5.V] 38), Res.blk b18 (.map es1 c1), Res.blk b50 (Zak [.int .i64 p.1.Port, .int .u8 p.1.H.e0, .int .u8 p.1.H.e1, .int .u8 p.1.H.e2] 47)] rfl rfl (List.perm_append_comm (l₁ := [Res.blk r (Zde b18 c1 es1 (ix ++ [i])), Res.blk b1 (Zak [.slice a0_0 x0.nodes.length c0_0, .int .i64 x0.sw, .int .i64 x0.port] 114), Res.blk b3 (Zak [.int .i64 x2.Port, .int .u8 x2.H.e0, .int .u8 x2.H.e1, .int .u8 x2.H.e2] 47), Res.blk b10 (Zak [.int .i64 y5.Kind, .int .i64 y5.A, .int .i64 y5.B, .int .i64 y5.N, .int .i64 y5.M, .int .i64 y5.V] 38), Res.blk b18 (.map es1 c1), Res.blk b50 (Zak [.int .i64 p.1.Port, .int .u8 p.1.H.e0, .int .u8 p.1.H.e1, .int .u8 p.1.H.e2] 47)])) (hgv _ _ _ hx2 y5.B p.1 rr hrr b es' c' l' hR' hn') ?_
    rintro _ H3 _ hle3 ⟨rfl, es2, c2, l2, rfl, hR3, hn3, hm3⟩
    refine Zac ?_
    have hmeas : l1.length - (ix ++ [i]).length < l1.length - ix.length := by
     have := (hC.snoc hlt hi).le
     simp at this ⊢; omega
    refine Zav ?_
    refine Zag (env' := [(3, .map (some b)), (4, .pointer (some ⟨b1, 0, none⟩)), (8, .pointer (some ⟨b10, 0, none⟩)), (42, .pointer (some ⟨r, 0, none⟩))]) (by exact ⟨rfl, rfl, rfl, rfl, trivial⟩) ?_
    refine Zam (own' := [Res.blk r (Zde b18 c1 es1 (ix ++ [i])), Res.blk b1 (Zak [.slice a0_0 x0.nodes.length c0_0, .int .i64 x0.sw, .int .i64 x0.port] 114), Res.blk b3 (Zak [.int .i64 x2.Port, .int .u8 x2.H.e0, .int .u8 x2.H.e1, .int .u8 x2.H.e2] 47), Res.blk b10 (Zak [.int .i64 y5.Kind, .int .i64 y5.A, .int .i64 y5.B, .int .i64 y5.N, .int .i64 y5.M, .int .i64 y5.V] 38), Res.blk b18 (.map es1 c1), Res.blk b (.map es2 c2)]) (.cons_cons _ (.cons_cons _ (.cons_cons _ (.cons_cons _ (.cons_cons _ (.cons _ (.cons_cons _ .slnil))))))) ?_
    exact ih (ix ++ [i]) _ _ _ hmeas ⟨rfl, hC.snoc hlt hi, hle2.trans hle3, es2, c2, l2, rfl, hR3, hn3, fun y => by
     rw [hm3 y, hm' y, Zix hp, or_assoc]
     simp only [List.mem_append, List.mem_singleton]
     constructor
     ·rintro (h | ⟨q, h1, h2⟩ | h)
      ·exact .inl h
      ·exact .inr ⟨q, .inl h1, h2⟩
      ·exact .inr ⟨p, .inr rfl, rr, hrr, h⟩
     ·rintro (h | ⟨q, (h1 | rfl), rr', h2, h3⟩)
      ·exact .inl h
      ·exact .inr (.inl ⟨q, h1, rr', h2, h3⟩)
      ·rw [hrr] at h2; cases h2; exact .inr (.inr h3)⟩
  ·refine Zae <| Zaa <| o_eq rfl rfl <| Zah rfl <| Zac ?_
   refine Zb3 (fun p23 env own H' => env = [(3, .map (some b)), (4, .pointer (some ⟨b1, 0, none⟩)), (6, .pointer (some ⟨b3, 0, none⟩)), (8, .pointer (some ⟨b10, 0, none⟩))] ∧ own = [.blk b (.map es cl), .blk b1 (Zak [.slice a0_0 x0.nodes.length c0_0, .int .i64 x0.sw, .int .i64 x0.port] 114), .blk b3 (Zak [.int .i64 p23.1, .int .u8 p23.2.1, .int .u8 p23.2.2.1, .int .u8 p23.2.2.2] 47), .blk b10 (Zak [.int .i64 y5.Kind, .int .i64 y5.A, .int .i64 y5.B, .int .i64 y5.N, .int .i64 y5.M, .int .i64 y5.V] 38)] ∧ Hle H H') ?_ ?_
   ·rintro p23 _ _ H24 ⟨rfl, rfl, hle25⟩
    have hR26 := MapR.mono hle25 hR
    have hs27 := RSl.mono hle25 hx0_0
    refine Zav <| Zae <| Zaa <| o_ld 1 rfl rfl rfl <| o_ld 3 rfl rfl rfl <| o_ld 2 rfl rfl rfl ?_
    refine s_bg fun y28 h29 => ?_
    refine Zas rfl rfl (Zfh gv _ x0 hgv _ _ hs27 y5 (⟨p23.1, (⟨p23.2.1, p23.2.2.1, p23.2.2.2⟩ : Arr3u8)⟩ : Sent) h29) ?_
    refine Zac ?_
    refine Zao rfl (fun h30 => ?_) (fun h30 => ?_)
    ·refine Zaa <| Zad rfl <| o_ld 2 rfl rfl rfl ?_
     refine Zdx rfl rfl ?_
     refine ZjU (kt := 47) (et := 117) (vs := []) 0 rfl rfl hR26 (⟨p23.1, (⟨p23.2.1, p23.2.2.1, p23.2.2.2⟩ : Arr3u8)⟩ : Sent) rfl (⟨⟩ : S213) rfl rfl fun es31 c32 hR33 => ?_
     refine Zac ?_
     exact ZgT (xs := []) (vs := []) [Res.blk b (.map es31 c32)] Zkj rfl trivial (.cons_cons _ (.cons _ (.cons _ (.cons _ .slnil)))) ⟨rfl, es31, c32, _, rfl, hR33, (Zgy hn).1, (Zgy hn).2⟩
    ·refine Zar ?_
     exact ZgT (xs := []) (vs := []) [Res.blk b (.map es cl)] Zkj rfl trivial (.cons_cons _ (.cons _ (.cons _ (.cons _ .slnil)))) ⟨rfl, es, cl, x3, rfl, hR26, hn, fun y => by simp⟩
   ·intro J34
    refine Zao rfl (fun h35 => ?_) (fun h35 => ?_)
    ·refine Zaa <| o_fa rfl <| o_ld 3 rfl rfl rfl <| o_fa rfl <| o_ld 3 rfl rfl rfl ?_
     refine Zjd rfl ?_
     refine o_fa rfl ?_
     refine ZbL (own' := [Res.blk b (.map es cl), Res.blk b1 (Zak [.slice a0_0 x0.nodes.length c0_0, .int .i64 x0.sw, .int .i64 x0.port] 114), Res.blk b3 (Zak [.int .i64 x2.Port, .int .u8 x2.H.e0, .int .u8 x2.H.e1, .int .u8 x2.H.e2] 47), Res.blk b10 (Zak [.int .i64 y5.Kind, .int .i64 y5.A, .int .i64 y5.B, .int .i64 y5.N, .int .i64 y5.M, .int .i64 y5.V] 38)]) rfl ?_
     refine ZhG ([x2.H.e0, x2.H.e1, x2.H.e2] : List Int) rfl rfl rfl fun y36 h37 => ?_
     refine o_st 2 rfl rfl rfl rfl rfl (Zkg (off := 1) (len := 3) (g := (Value.int .u8)) rfl h37) ?_
     refine ZbL (own' := [.blk b (.map es cl), .blk b1 (Zak [.slice a0_0 x0.nodes.length c0_0, .int .i64 x0.sw, .int .i64 x0.port] 114), .blk b3 (Zak [.int .i64 x2.Port, .int .u8 (if y5.N = 0 then IntKind.u8.wrap y5.V else x2.H.e0), .int .u8 (if y5.N = 1 then IntKind.u8.wrap y5.V else x2.H.e1), .int .u8 (if y5.N = 2 then IntKind.u8.wrap y5.V else x2.H.e2)] 47), .blk b10 (Zak [.int .i64 y5.Kind, .int .i64 y5.A, .int .i64 y5.B, .int .i64 y5.N, .int .i64 y5.M, .int .i64 y5.V] 38)]) (by rcases ZlO h37 with h38 | h38 | h38 <;> (rw [h38]; rfl)) ?_
     refine Zac ?_
     exact Zag (by exact ⟨rfl, rfl, rfl, rfl, trivial⟩) (Zam (by exact (.cons_cons _ (.cons_cons _ (.cons_cons _ (.cons_cons _ .slnil))))) (J34 (x2.Port, (if y5.N = 0 then IntKind.u8.wrap y5.V else x2.H.e0), (if y5.N = 1 then IntKind.u8.wrap y5.V else x2.H.e1), (if y5.N = 2 then IntKind.u8.wrap y5.V else x2.H.e2)) _ _ _ ⟨rfl, rfl, .refl _⟩))
    ·refine Zae <| Zaa <| o_eq rfl rfl <| Zah rfl <| Zac ?_
     refine Zao rfl (fun h39 => ?_) (fun h39 => ?_)
     ·refine Zaa <| o_fa rfl <| o_ld 3 rfl rfl rfl <| o_fa rfl ?_
      refine o_st 2 rfl rfl rfl rfl rfl rfl ?_
      refine Zac ?_
      exact Zag (by exact ⟨rfl, rfl, rfl, rfl, trivial⟩) (Zam (by exact (.cons_cons _ (.cons_cons _ (.cons_cons _ (.cons_cons _ .slnil))))) (J34 (y5.N, x2.H.e0, x2.H.e1, x2.H.e2) _ _ _ ⟨rfl, rfl, .refl _⟩))
     ·refine Zar ?_
      exact Zag (by exact ⟨rfl, rfl, rfl, rfl, trivial⟩) (Zam (by exact (.cons_cons _ (.cons_cons _ (.cons_cons _ (.cons_cons _ .slnil))))) (J34 (x2.Port, x2.H.e0, x2.H.e1, x2.H.e2) _ _ _ ⟨rfl, rfl, .refl _⟩))
def gs (x0 : Meaning_place) : Nat → Int → Sent → Option (List Sent)
 | 0 => fun _ _ => none
 | f + 1 => ZfI (gs x0 f) x0
theorem gs_ok (x0 : Meaning_place) : ∀ f, GiveOk x0 (gs x0 f) := by
 intro f
 induction f with
 | zero => intro H a c _ n x r h; cases h
 | succ f ih => intro H a c hx n x r h b es cl l hR hn; exact Zii (gs x0 f) H x0 ih a c hx n x l b es cl hR hn h
end Go.Cat.G3

