/- A text of the proof of the seat's laws: a step logic over the machine, or pure functions that the Go functions come to. No condition. -/
import Derived.Test.YtmmpieknnnlnhaaGreatJ9
namespace Go.Cat.G3
open Go Go.Cat Go.Proofs
set_option linter.unusedVariables false
set_option linter.unusedSimpArgs false
instance inJ10_60 : TFun Tryz.prog 60 := ⟨_, (by kernel_rfl : Tryz.prog.funcs[60]? = some Tryz.f60), by decide, rfl⟩
instance inJ10_107 : TFun Tryz.prog 107 := ⟨_, (by kernel_rfl : Tryz.prog.funcs[107]? = some Tryz.f107), by decide, rfl⟩
instance inJ10_53 : TFun Tryz.prog 53 := ⟨_, (by kernel_rfl : Tryz.prog.funcs[53]? = some Tryz.f53), by decide, rfl⟩
instance inJ10_98 : TFun Tryz.prog 98 := ⟨_, (by kernel_rfl : Tryz.prog.funcs[98]? = some Tryz.f98), by decide, rfl⟩
instance inJ10_97 : TFun Tryz.prog 97 := ⟨_, (by kernel_rfl : Tryz.prog.funcs[97]? = some Tryz.f97), by decide, rfl⟩
instance inJ10_99 : TFun Tryz.prog 99 := ⟨_, (by kernel_rfl : Tryz.prog.funcs[99]? = some Tryz.f99), by decide, rfl⟩
instance inJ10_51 : TFun Tryz.prog 51 := ⟨_, (by kernel_rfl : Tryz.prog.funcs[51]? = some Tryz.f51), by decide, rfl⟩
instance inJ10_54 : TFun Tryz.prog 54 := ⟨_, (by kernel_rfl : Tryz.prog.funcs[54]? = some Tryz.f54), by decide, rfl⟩
theorem ZnB : Tryz.prog.funcs[60]? = some Tryz.f60 := by kernel_rfl
theorem Zl7 : Tryz.prog.funcs[107]? = some Tryz.f107 := by kernel_rfl
theorem ZnE : Tryz.prog.funcs[53]? = some Tryz.f53 := by kernel_rfl
set_option maxRecDepth 100000 in
set_option maxHeartbeats 1000000 in
theorem ZkG (H : Heap) (bb : Nat) (a : Option Addr) (c : Nat) (l : List Sent) (hbb : Zaj H bb 0 [.slice a l.length c]) (hl : RSl H a c l) (hlen : l.length < 4611686018427387904) :
  Zjv Tryz.prog 107 [] [.pointer (some ⟨bb, 0, none⟩)] H (fun e : Sent => [.agg (GoE.enc e).toArray]) (fun xs => xs = l) := by
 intro yl J H1 inn hle h0 hY
 have hbb := Zaj.mono hle hbb
 have hl := RSl.mono hle hl
 refine Zaq (ρ := Unit) (args := [.func (.yield yl) #[] #[], .pointer (some ⟨bb, 0, none⟩)]) (n := 16) (Φ := fun _ H' _ out => ∃ xs, xs = l ∧ J xs H' out) (m := some ()) (r := ()) rfl Zl7 rfl rfl rfl fun w => ?_
 refine Zae <| Zaa ?_
 refine ZaP 0 hbb rfl rfl rfl ?_
 refine ZaG rfl <| Zad rfl <| Zac ?_
 refine Zag (env' := [(0, .func (.yield yl) #[] #[]), (5, .slice a l.length c), (6, .int .i64 (l.length : Int)), (7, .int .i64 0)]) (by exact ⟨rfl, rfl, rfl, rfl, trivial⟩) ?_
 refine Zat ?_
 refine Zg7 (σ := Nat) (fun i env own H' => i ≤ l.length ∧ env = [(0, .func (.yield yl) #[] #[]), (5, .slice a l.length c), (6, .int .i64 (l.length : Int)), (7, .int .i64 (i : Int))] ∧ Hle H1 H' ∧ J (l.take i) H' own) (fun i => l.length - i) ?_ 0 ⟨Nat.zero_le _, rfl, .refl _, h0⟩
 rintro i _ o' H2 ⟨hi, rfl, hle2, hJ⟩ ih
 have hl2 := RSl.mono hle2 hl
 refine Zae <| Zaa <| o_lt rfl rfl <| Zac <| Zae ?_
 refine Zcw (decide ((i : Int) < (l.length : Int))) (fun hlt => ?_) (fun hlt => ?_)
 ·refine ZfQ rfl hlt ?_
  refine Zar ?_
  have hil : i < l.length := by simp at hlt; omega
  have hrd : rd l (i : Int) = some l[i] := ZbX hil
  have hw : w64 ((i : Int) + 1) = ((i + 1 : Nat) : Int) := Zb6 (by omega)
  refine Zae <| Zat <| Zae <| Zaa ?_
  refine s_eq (m' := (rd l (i : Int)).bind fun _ => some ()) (by rw [hrd]; rfl) ?_
  refine Zce hl2 rfl rfl fun y bk of hy hc => ?_
  obtain rfl := Option.some.inj (hrd.symm.trans hy)
  refine ZaP 0 hc rfl rfl rfl ?_
  refine Zbw fun b4 => ?_
  refine ZcP (own' := [.blk b4 (Zak [.int .i64 0, .int .u8 0, .int .u8 0, .int .u8 0] 47)] ++ o') List.perm_append_comm ?_
  refine o_st 0 rfl rfl rfl rfl rfl rfl ?_
  refine Zac <| Zae <| Zaa <| Zad rfl <| o_ld 0 rfl rfl rfl ?_
  have hpre : (fun xs => xs = l) (l.take i ++ l[i] :: l.drop (i + 1)) := by simp
  refine ZbL (own' := [.blk b4 (Zak (GoE.enc l[i]) 47)] ++ o') rfl ?_
  refine ZjH o' [.blk b4 (Zak (GoE.enc l[i]) 47)] rfl rfl List.perm_append_comm (hY _ l[i] _ H2 o' hle2 hpre hJ) ?_
  rintro _ H3 out hle3 ⟨rfl, hJ3⟩
  refine Zdc rfl <| Zac ?_
  refine Zek rfl rfl ?_
  refine Zar <| Zav <| Zaa <| ZbM rfl rfl <| Zad rfl <| Zac ?_
  refine Zag (env' := [(0, .func (.yield yl) #[] #[]), (5, .slice a l.length c), (6, .int .i64 (l.length : Int)), (7, .int .i64 (w64 ((i : Int) + 1)))]) (by exact ⟨rfl, rfl, rfl, rfl, trivial⟩) ?_
  rw [hw]
  refine Zam (own' := out) (.cons _ (List.Sublist.refl _)) ?_
  have ht : l.take (i + 1) = l.take i ++ [l[i]] := List.take_succ_eq_append_getElem hil
  exact ih (i + 1) _ _ _ (by omega) ⟨by omega, rfl, hle2.trans hle3, by rw [ht]; exact hJ3⟩
 ·refine Zek rfl hlt ?_
  refine Zbf rfl ?_
  have hil : i = l.length := by simp at hlt; omega
  subst hil
  rw [List.take_length] at hJ
  exact ZgT (xs := []) (vs := []) o' Zl7 rfl trivial (List.Sublist.refl _) ⟨l, rfl, hJ⟩
set_option maxRecDepth 100000 in
theorem Zma (H : Heap) (a : Option Addr) (c : Nat) (l : List Sent) (hl : RSl H a c l) : Fn Tryz.prog 60 [.slice a l.length c] H [] fun H' v out => ∃ bb, v = .func (.func 107) #[] #[.pointer (some ⟨bb, 0, none⟩)] ∧ out = [] ∧ Zaj H' bb 0 [.slice a l.length c] := by
 refine Zaq (ρ := Unit) (args := [.slice a l.length c]) (n := 4) (Φ := fun _ H' v out => ∃ bb, v = .func (.func 107) #[] #[.pointer (some ⟨bb, 0, none⟩)] ∧ out = [] ∧ Zaj H' bb 0 [.slice a l.length c]) (m := some ()) (r := ()) rfl ZnB rfl rfl rfl fun w => ?_
 refine Zae <| Zaa ?_
 refine ZbO (v := .slice a l.length c) rfl fun b => ?_
 refine Zah rfl <| Zac <| Zae <| Zaa ?_
 refine Zmy rfl rfl ?_
 refine Zah rfl <| Zac ?_
 refine ZgS 0 (fun b => .inl (by simp [ids])) rfl fun H' hle hb => ?_
 exact ZaF (xs := [.tmp 2]) (vs := [.func (.func 107) #[] #[.pointer (some ⟨b, 0, none⟩)]]) [] ZnB rfl ⟨Zaz rfl, trivial⟩ .slnil ⟨b, rfl, rfl, Zgc hb⟩
set_option maxRecDepth 100000 in
set_option maxHeartbeats 1000000 in
theorem Zgt (H : Heap) {g : FuncId} [TFun Tryz.prog g] {first cap : List Value} {S : List Sent → Prop} (hS : Zjv Tryz.prog g first cap H (fun e : Sent => [.agg (GoE.enc e).toArray]) S) (hN : ∀ xs, S xs → xs.length < 1000000000) :
  Fn Tryz.prog 53 [.func (.func g) first.toArray cap.toArray, .func (.func 55) #[] #[]] H [] fun H' v out => ∃ (xs : List Sent) (a : Option Addr) (c : Nat), S xs ∧ v = .slice a (Zdm xs).length c ∧ out = [.osl (.slice a (Zdm xs).length c) 4 47 ((Zdm xs).map GoE.enc)] := by
 refine Zaq (ρ := Unit) (args := [.func (.func g) first.toArray cap.toArray, .func (.func 55) #[] #[]]) (n := 12) (Φ := fun _ H' v out => ∃ (xs : List Sent) (a : Option Addr) (c : Nat), S xs ∧ v = .slice a (Zdm xs).length c ∧ out = [.osl (.slice a (Zdm xs).length c) 4 47 ((Zdm xs).map GoE.enc)]) (m := some ()) (r := ()) rfl ZnE rfl rfl rfl fun w => ?_
 refine Zae <| Zaa <| Zah rfl <| Zac <| Zae <| Zaa <| Zad rfl ?_
 refine Zbg [] _ rfl rfl (.refl _) (Zlx H hS (fun xs hx => by have := hN xs hx; unfold LIM; omega)) ?_
 rintro _ H2 _ hle ⟨xs, a, c, hxs, rfl, rfl⟩
 refine Zah rfl <| Zac <| Zae <| Zaa <| Zad rfl <| Zad rfl ?_
 refine Zbg [Res.osl (.slice a xs.length c) 4 47 (xs.map GoE.enc)] [] rfl rfl (.refl _) (ZiY Zmq H2 a c xs (hN xs hxs)) ?_
 rintro _ H3 _ hle3 rfl
 have hlen : (Zdm xs).length = xs.length := (Zd9 xs).length_eq
 refine Zac <| Zae <| Zaa <| Zad rfl <| Zah rfl <| Zac ?_
 exact ZaF (xs := [.tmp 4]) (vs := [.slice a xs.length c]) [.osl (.slice a (Zdm xs).length c) 4 47 ((Zdm xs).map GoE.enc)] ZnE rfl ⟨Zaz rfl, trivial⟩ (.cons_cons _ .slnil) ⟨xs, a, c, hxs, by rw [hlen]; rfl, rfl⟩
def nubS : List Sent → List Sent
 | [] => []
 | x :: l => if x ∈ nubS l then nubS l else x :: nubS l
theorem ZiL {y : Sent} : ∀ {l : List Sent}, y ∈ nubS l ↔ y ∈ l := by
 intro l
 induction l with
 | nil => simp [nubS]
 | cons x l ih =>
  unfold nubS
  split
  ·rename_i h
   rw [ih, List.mem_cons]
   constructor
   ·exact .inr
   ·rintro (rfl | h')
    ·exact ih.1 h
    ·exact h'
  ·simp [ih]
theorem Ze9 : ∀ (l : List Sent), (nubS l).Nodup := by
 intro l
 induction l with
 | nil => exact List.nodup_nil
 | cons x l ih =>
  unfold nubS
  split
  ·exact ih
  ·rename_i h; exact List.nodup_cons.2 ⟨h, ih⟩
theorem Zh2 {l l' : List Sent} (h : l.Nodup) (h' : l'.Nodup) (hm : ∀ y, y ∈ l ↔ y ∈ l') : Zdm l = Zdm l' :=
 Zgs _ _ (ZeG l) (ZeG l') ((Zd9 l).trans (((List.perm_ext_iff_of_nodup h h').2 hm).trans (Zd9 l').symm))
def outS (r : List Sent) : List Sent := (nubS r).filter fun y => y.Port != -1
end Go.Cat.G3

