/- A text of the proof of the seat's laws: a step logic over the machine, or pure functions that the Go functions come to. No condition. -/
import Derived.Test.YtmmpieknnnlnhaaGreatJ6
import Derived.Test.YtmmpieknnnlnhaaGreatHG
namespace Go.Cat.G3
open Go Go.Cat Go.Proofs
set_option linter.unusedVariables false
set_option linter.unusedSimpArgs false
instance iJ7x1 : TLay Tryz.prog 112 1 false := ⟨fun _ => by kernel_rfl, fun _ => by kernel_rfl, fun h => by first | rfl | cases h⟩
instance iJ7x2 : TLay Tryz.prog 42 1 false := ⟨fun _ => by kernel_rfl, fun _ => by kernel_rfl, fun h => by first | rfl | cases h⟩
instance iJ7x3 : TSl Tryz.prog 42 47 4 16 := ⟨by kernel_rfl, fun _ => by kernel_rfl, ⟨Tryz.t47, by kernel_rfl, by kernel_rfl⟩, by decide, by decide, ⟨.agg #[.int .i64 0, .int .u8 0, .int .u8 0, .int .u8 0], fun _ => by kernel_rfl, rfl, rfl⟩⟩
instance iJ7x4 : TFun Tryz.prog 54 := ⟨_, (by kernel_rfl : Tryz.prog.funcs[54]? = some Tryz.f54), by decide, rfl⟩
instance iJ7x5 : TFun Tryz.prog 97 := ⟨_, (by kernel_rfl : Tryz.prog.funcs[97]? = some Tryz.f97), by decide, rfl⟩
instance iJ7x6 : TFun Tryz.prog 99 := ⟨_, (by kernel_rfl : Tryz.prog.funcs[99]? = some Tryz.f99), by decide, rfl⟩
instance iJ7x7 : TFun Tryz.prog 151 := ⟨_, (by kernel_rfl : Tryz.prog.funcs[151]? = some Tryz.f151), by decide, rfl⟩
theorem ZmM : Tryz.prog.funcs[99]? = some Tryz.f99 := by kernel_rfl
theorem ZnD : Tryz.prog.funcs[54]? = some Tryz.f54 := by kernel_rfl
theorem Znv : Tryz.prog.funcs[97]? = some Tryz.f97 := by kernel_rfl
theorem ZlY : Tryz.prog.funcs[151]? = some Tryz.f151 := by kernel_rfl
abbrev ZgI (o : Option (List (Sent × S213))) : List Sent := (o.getD []).map (·.1)
set_option maxRecDepth 100000 in
set_option maxHeartbeats 4000000 in
theorem Zns (H : Heap) (bb : Nat) (mv : Value) (o : Option (List (Sent × S213))) (hbb : Zaj H bb 0 [mv]) (hV : MapV true true H mv o) :
  Zjv Tryz.prog 99 [] [.pointer (some ⟨bb, 0, none⟩)] H (fun e : Sent => [.agg (GoE.enc e).toArray]) (fun xs => xs.Perm (ZgI o)) := by
 intro l J H1 inn hle h0 hY
 have hbb := Zaj.mono hle hbb
 have hV := MapV.mono hle hV
 refine Zaq (ρ := Unit) (args := [.func (.yield l) #[] #[], .pointer (some ⟨bb, 0, none⟩)]) (n := 14) (Φ := fun _ H' _ out => ∃ xs, xs.Perm (ZgI o) ∧ J xs H' out) (m := some ()) (r := ()) rfl ZmM rfl rfl rfl fun w => ?_
 refine Zae <| Zaa ?_
 refine ZaP 0 hbb rfl rfl rfl ?_
 cases o with
 | none =>
  cases hV
  refine Zk0 (kt := 47) (et := 117) rfl fun r => ?_
  refine Zac ?_
  refine ZcP (own' := [.blk r (.mapIter none 0 #[] 0)] ++ inn) List.perm_append_comm ?_
  refine Zat ?_
  refine ZjK ?_
  refine Zae <| Zaa ?_
  refine Zmw 0 rfl rfl ?_
  refine ZcI rfl rfl <| Zac <| Zae ?_
  refine Zek rfl rfl ?_
  refine Zbf rfl ?_
  exact ZgT (xs := []) (vs := []) inn ZmM rfl trivial (List.sublist_append_right _ _) ⟨[], .nil, h0⟩
 | some l' =>
  obtain ⟨b, es, c, rfl, hb, hR⟩ := hV
  refine Zmu (kt := 47) (et := 117) rfl hb fun r => ?_
  refine Zac ?_
  refine ZcP (own' := [.blk r (Zde b c es [])] ++ inn) List.perm_append_comm ?_
  refine Zag (env' := [(0, .func (.yield l) #[] #[]), (5, .pointer (some ⟨r, 0, none⟩))]) (by exact ⟨rfl, rfl, trivial⟩) ?_
  refine Zat ?_
  refine Zg7 (σ := List Nat) (fun ix env own H' => env = [(0, .func (.yield l) #[] #[]), (5, .pointer (some ⟨r, 0, none⟩))] ∧ Came l'.length ix ∧ Hle H1 H' ∧ ∃ o', own = [.blk r (Zde b c es ix)] ++ o' ∧ J ((vis l' ix).map (·.1)) H' o')
   (fun ix => l'.length - ix.length) ?_ [] ⟨rfl, .nil, .refl _, inn, rfl, h0⟩
  rintro ix _ _ H2 ⟨rfl, hC, hle2, o', rfl, hJ⟩ ih
  have hb2 := hle2 _ _ hb
  have hR2 := hR.mono hle2
  refine Zae <| Zaa ?_
  refine Znk 0 rfl rfl hb2 hR2 hC (fun hf => ?_) (fun i p v hi hlt hp hv => ?_)
  ·refine ZcI rfl rfl <| Zac <| Zae ?_
   refine Zek rfl rfl ?_
   refine Zbf rfl ?_
   exact ZgT (xs := []) (vs := []) o' ZmM rfl trivial (List.sublist_append_right _ _) ⟨_, (Ziy hC hf).map _, hJ⟩
  ·refine ZcI rfl rfl <| Zac <| Zae ?_
   refine ZfQ rfl rfl ?_
   refine Zar <| Zat <| Zae <| Zaa ?_
   refine ZmC 0 rfl rfl hb2 hR2 hp fun v2 vs2 hv2 hrep2 => ?_
   refine ZcI rfl rfl ?_
   refine Zbw fun b3 => ?_
   refine ZcP (own' := [.blk r (Zde b c es (ix ++ [i])), .blk b3 (Zak [.int .i64 0, .int .u8 0, .int .u8 0, .int .u8 0] 47)] ++ o') (pm3 (a := [.blk r (Zde b c es (ix ++ [i]))]) (xs := [.blk b3 (Zak [.int .i64 0, .int .u8 0, .int .u8 0, .int .u8 0] 47)])) ?_
   refine o_st 1 rfl rfl rfl rfl rfl rfl ?_
   refine Zac <| Zae <| Zaa <| Zad rfl <| o_ld 1 rfl rfl rfl ?_
   have hfst : (vis l' (ix ++ [i])).map (·.1) = (vis l' ix).map (·.1) ++ [p.1] := by rw [Zix hp]; simp
   obtain ⟨ys, hys⟩ := Zgd (hC.snoc hlt hi)
   have hpre : ((vis l' ix).map (·.1) ++ p.1 :: ys.map (·.1)).Perm (ZgI (some l')) := by
    have := hys.map (·.1)
    rw [List.map_append, hfst] at this
    simpa [ZgI] using this
   refine ZbL (own' := [.blk r (Zde b c es (ix ++ [i])), .blk b3 (Zak (GoE.enc p.1) 47)] ++ o') rfl ?_
   refine ZjH o' [.blk r (Zde b c es (ix ++ [i])), .blk b3 (Zak (GoE.enc p.1) 47)] rfl rfl List.perm_append_comm (hY _ p.1 _ H2 o' hle2 hpre hJ) ?_
   rintro _ H3 out hle3 ⟨rfl, hJ3⟩
   refine Zdc rfl <| Zac ?_
   refine Zek rfl rfl ?_
   refine Zar <| Zav ?_
   refine Zag (env' := [(0, .func (.yield l) #[] #[]), (5, .pointer (some ⟨r, 0, none⟩))]) (by exact ⟨rfl, rfl, trivial⟩) ?_
   refine Zam (own' := [.blk r (Zde b c es (ix ++ [i]))] ++ out) (.cons_cons _ (.cons _ (List.Sublist.refl _))) ?_
   refine ih (ix ++ [i]) _ _ _ ?_ ⟨rfl, hC.snoc hlt hi, hle2.trans hle3, out, rfl, by rw [hfst]; exact hJ3⟩
   have := (hC.snoc hlt hi).le
   simp at this ⊢; omega
set_option maxRecDepth 100000 in
theorem keysS (H : Heap) (mv : Value) (hmv : mv.cells.toList = [mv]) : Fn Tryz.prog 54 [mv] H [] fun H' v out => ∃ bb, v = .func (.func 99) #[] #[.pointer (some ⟨bb, 0, none⟩)] ∧ out = [] ∧ Zaj H' bb 0 [mv] := by
 refine Zaq (ρ := Unit) (args := [mv]) (n := 4) (Φ := fun _ H' v out => ∃ bb, v = .func (.func 99) #[] #[.pointer (some ⟨bb, 0, none⟩)] ∧ out = [] ∧ Zaj H' bb 0 [mv]) (m := some ()) (r := ()) rfl ZnD rfl rfl rfl fun w => ?_
 refine Zae <| Zaa ?_
 refine ZbO (v := mv) rfl fun b => ?_
 refine Zah rfl <| Zac <| Zae <| Zaa ?_
 refine Zmy rfl rfl ?_
 refine Zah rfl <| Zac ?_
 refine ZgS 0 (fun b => .inl (by simp [ids])) rfl fun H' hle hb => ?_
 rw [hmv] at hb
 exact ZaF (xs := [.tmp 2]) (vs := [.func (.func 99) #[] #[.pointer (some ⟨b, 0, none⟩)]]) [] ZnD rfl ⟨Zaz rfl, trivial⟩ .slnil ⟨b, rfl, rfl, Zgc hb⟩
set_option maxRecDepth 100000 in
set_option maxHeartbeats 1000000 in
theorem Zjs (H : Heap) {g : FuncId} [TFun Tryz.prog g] {first cap : List Value} {S : List Sent → Prop} (hS : Zjv Tryz.prog g first cap H (fun e : Sent => [.agg (GoE.enc e).toArray]) S) (hN : ∀ xs, S xs → xs.length < LIM) :
  Fn Tryz.prog 151 [.slice none 0 0, .func (.func g) first.toArray cap.toArray] H [] fun H' v out => ∃ xs a c, S xs ∧ v = .slice a xs.length c ∧ out = [.osl (.slice a xs.length c) 4 47 (xs.map GoE.enc)] := by
 refine Zaq (ρ := Unit) (args := [.slice none 0 0, .func (.func g) first.toArray cap.toArray]) (n := 13) (Φ := fun _ H' v out => ∃ xs a c, S xs ∧ v = .slice a xs.length c ∧ out = [.osl (.slice a xs.length c) 4 47 (xs.map GoE.enc)]) (m := some ()) (r := ()) rfl ZlY rfl rfl rfl fun w => ?_
 refine Zae <| Zaa ?_
 refine ZbO (v := .slice none 0 0) rfl fun b => ?_
 refine Zah rfl <| Zac <| Zae <| Zae <| Zaa <| Zad rfl <| Zac ?_
 refine Zc4 (sz := 4) (t := 47) ?_
 refine Zat ?_
 refine ZjI (enc := fun e : Sent => Value.agg (GoE.enc e).toArray) (S := S) [.blk b (Zak [.slice none 0 0] 42), .osl (.slice none 0 0) 4 47 []] []
  (fun xs H o => ∃ a c, o = [.blk b (Zak [.slice a xs.length c] 42), .osl (.slice a xs.length c) 4 47 (xs.map GoE.enc)]) rfl rfl rfl (.refl _) hS ⟨none, 0, rfl⟩ rfl ?_ ?_
 ·rintro l q tmps xs x ys H2 _ w hle hx ⟨a, c, rfl⟩
  have hlen : xs.length + 1 < LIM := by
   have := hN _ hx
   simp at this; omega
  refine ⟨_, (app xs [x]).bind some, by simp [app, hlen], ?_⟩
  refine Zaa ?_
  refine Zbw fun b5 => ?_
  refine o_st 3 rfl rfl rfl rfl rfl rfl ?_
  refine Zac ?_
  refine Zhy 2 rfl ?_
  refine Zat <| Zaa <| o_ld 0 rfl rfl rfl <| o_ld 3 rfl rfl rfl ?_
  refine Zdw (xs := [.tmp 9]) rfl rfl (by simp only [List.mem_cons, List.not_mem_nil, or_false, forall_eq]; exact ⟨rfl, rfl⟩) rfl rfl fun b6 => ?_
  have hA : All2 (GoT.rep H2) (xs.map GoE.enc) xs := ZaZ xs
  have hA2 : All2 (GoT.rep H2) [GoE.enc x] [x] := ZaZ [x]
  refine Zfl 1 4 rfl rfl rfl hA rfl hA2 fun a' c' _ hA' => ?_
  refine o_st 0 rfl rfl rfl rfl rfl rfl ?_
  refine Zac <| Zav ?_
  refine Zi1 2 _ rfl (.cons_cons _ (.cons_cons _ (.cons_cons _ (.cons _ (.cons _ .slnil))))) ⟨[.blk b (Zak [.slice a' (xs ++ [x]).length c'] 42), .osl (.slice a' (xs ++ [x]).length c') 4 47 (xs.map GoE.enc ++ [GoE.enc x])], rfl, a', c', by rw [List.map_append]; rfl⟩
 ·rintro q xs H' _ hle hxs ⟨a, c, rfl⟩
  refine Zav <| Zae <| Zaa <| o_ld 1 rfl rfl rfl <| Zah rfl <| Zac ?_
  exact Zna (xs := [.tmp 4]) (vs := [.slice a xs.length c]) 0 q [.osl (.slice a xs.length c) 4 47 (xs.map GoE.enc)] ZlY rfl rfl ⟨Zaz rfl, trivial⟩ (.cons _ (.cons _ (.cons_cons _ .slnil))) ⟨xs, a, c, hxs, rfl, rfl⟩
set_option maxRecDepth 100000 in
set_option maxHeartbeats 1000000 in
theorem Zlx (H : Heap) {g : FuncId} [TFun Tryz.prog g] {first cap : List Value} {S : List Sent → Prop} (hS : Zjv Tryz.prog g first cap H (fun e : Sent => [.agg (GoE.enc e).toArray]) S) (hN : ∀ xs, S xs → xs.length < LIM) :
  Fn Tryz.prog 97 [.func (.func g) first.toArray cap.toArray] H [] fun H' v out => ∃ xs a c, S xs ∧ v = .slice a xs.length c ∧ out = [.osl (.slice a xs.length c) 4 47 (xs.map GoE.enc)] := by
 refine Zaq (ρ := Unit) (args := [.func (.func g) first.toArray cap.toArray]) (n := 5) (Φ := fun _ H' v out => ∃ xs a c, S xs ∧ v = .slice a xs.length c ∧ out = [.osl (.slice a xs.length c) 4 47 (xs.map GoE.enc)]) (m := some ()) (r := ()) rfl Znv rfl rfl rfl fun w => ?_
 refine Zae <| Zaa <| Zah rfl <| Zac <| Zae <| Zaa <| Zad rfl ?_
 refine Zbg [] _ rfl rfl (.refl _) (Zjs H hS hN) ?_
 rintro _ H2 _ hle ⟨xs, a, c, hxs, rfl, rfl⟩
 refine Zah rfl <| Zac ?_
 exact ZaF (xs := [.tmp 2]) (vs := [.slice a xs.length c]) [.osl (.slice a xs.length c) 4 47 (xs.map GoE.enc)] Znv rfl ⟨Zaz rfl, trivial⟩ (.cons_cons _ .slnil) ⟨xs, a, c, hxs, rfl, rfl⟩
end Go.Cat.G3

