/- A text of the proof of the seat's laws: a step logic over the machine, or pure functions that the Go functions come to. No condition. -/
import Derived.Test.YtmmpieknnnlnhaaGreatCore1
import Derived.Test.YtmmpieknnnlnhaaGreatJ13
namespace Go.Cat.G3
open Go Go.Cat Go.Proofs
set_option maxRecDepth 100000
set_option maxHeartbeats 4000000
set_option linter.unusedVariables false
set_option linter.unusedSimpArgs false
instance inJ14_0 : TUnd Tryz.prog 30 (.int .i64) := ⟨by kernel_rfl⟩
instance inJ14_1 : TLay Tryz.prog 44 8 true := ⟨fun _ => by kernel_rfl, fun _ => by kernel_rfl, fun h => by first | rfl | cases h⟩
instance inJ14_2 : TLay Tryz.prog 71 4 true := ⟨fun _ => by kernel_rfl, fun _ => by kernel_rfl, fun h => by first | rfl | cases h⟩
instance inJ14_3 : TZero Tryz.prog 44 (.agg #[.int .i64 0, .int .i64 0, .int .i64 0, .int .i64 0, .int .u8 0, .int .u8 0, .int .u8 0, .slice none 0 0]) := ⟨fun _ => by kernel_rfl⟩
instance inJ14_4 : TBld Tryz.prog 71 [.int .i64 0, .slice none 0 0, .slice none 0 0, .map none] [(0, 2), (2, 1), (3, 1)] := ⟨fun _ => by kernel_rfl, ⟨_, Tryz.underlying71, fun _ => by kernel_rfl⟩⟩
instance inJ14_5 : TFun Tryz.prog 23 := ⟨_, (by kernel_rfl : Tryz.prog.funcs[23]? = some Tryz.f23), by decide, rfl⟩
instance inJ14_6 : TFun Tryz.prog 24 := ⟨_, (by kernel_rfl : Tryz.prog.funcs[24]? = some Tryz.f24), by decide, rfl⟩
instance inJ14_7 : TFun Tryz.prog 25 := ⟨_, (by kernel_rfl : Tryz.prog.funcs[25]? = some Tryz.f25), by decide, rfl⟩
instance inJ14_8 : TFun Tryz.prog 26 := ⟨_, (by kernel_rfl : Tryz.prog.funcs[26]? = some Tryz.f26), by decide, rfl⟩
instance inJ14_9 : TFun Tryz.prog 28 := ⟨_, (by kernel_rfl : Tryz.prog.funcs[28]? = some Tryz.f28), by decide, rfl⟩
theorem ZmY : Tryz.prog.funcs[24]? = some Tryz.f24 := by kernel_rfl
theorem ZnH : Tryz.prog.funcs[26]? = some Tryz.f26 := by kernel_rfl
theorem fn_7 : Tryz.prog.funcs[7]? = some Tryz.f7 := by kernel_rfl
theorem Zm8 (H : Heap) (v1 v2 : Int) (s1 s2 : Value) : Fn Tryz.prog 26 [.agg #[.int .i64 v1, s1], .agg #[.int .i64 v2, s2]] H [] fun H' v out => v = .int .i64 (cmpI v1 v2) ∧ out = [] := by
 refine Zaq (args := [.agg #[.int .i64 v1, s1], .agg #[.int .i64 v2, s2]]) (n := 10) (Φ := fun r H' v out => v = .int .i64 r ∧ out = []) (m := (ZbN 0 v1 v2).bind fun y => some y) (r := cmpI v1 v2) (by rw [ZhX]; rfl) ZnH rfl rfl rfl fun w => ?_
 refine Zae <| Zaa ?_
 refine ZbO rfl fun b1 => ?_
 refine ZbO rfl fun b3 => ?_
 refine Zah rfl <| Zac <| Zae <| Zaa <| o_fa rfl <| o_ld 0 rfl rfl rfl <| o_fa rfl <| o_ld 1 rfl rfl rfl ?_
 refine s_bg fun y5 h6 => ?_
 refine Zas rfl rfl (Zdj 0 _ v1 v2 h6) ?_
 refine Zah rfl <| Zac ?_
 exact s_r1 4 (.int .i64 y5) ZnH ⟨rfl, rfl⟩
theorem Zkx (k : Nat) (H : Heap) (x0 : List Version) (a0_0 : Option Addr) (c0_0 : Nat) (hx0_0 : RSl H a0_0 c0_0 x0) (hlen : x0.length < LIM) :
  Fn Tryz.prog 24 [.slice a0_0 x0.length c0_0] H [] fun H' v out => ∃ a c ls, v = .slice a x0.length c ∧ out = [.osl (.slice a x0.length c) 2 29 ls] ∧ All2 (GoT.rep H') ls x0 := by
 have happ : app ([] : List Version) x0 = some x0 := by unfold app; rw [if_pos (by simpa using hlen)]; rfl
 refine Zaq (ρ := Unit) (args := [.slice a0_0 x0.length c0_0]) (n := 8) (Φ := fun r H' v out => ∃ a c ls, v = .slice a x0.length c ∧ out = [.osl (.slice a x0.length c) 2 29 ls] ∧ All2 (GoT.rep H') ls x0) (m := (app ([] : List Version) x0).bind fun _ => some ()) (r := ()) (by rw [happ]; rfl) ZmY rfl rfl rfl fun w => ?_
 refine Zae <| Zaa <| Zah rfl <| Zac <| Zae <| Zae <| Zaa <| Zad rfl ?_
 refine ZmB rfl rfl ?_
 refine Zac ?_
 cases a0_0 with
 | none =>
  have hnil : x0 = [] := by rcases hx0_0.2 with h | ⟨_, _, _, _, _, h, _⟩ <;> first | exact h | cases h
  subst hnil
  refine ZfQ rfl rfl ?_
  refine Zae <| Zaa <| Zah rfl <| Zac ?_
  refine s_eq (m' := some ()) rfl ?_
  refine Zc4 (sz := 2) (t := 29) ?_
  exact ZaF (xs := [.tmp 2]) (vs := [.slice none ([] : List Version).length 0]) [.osl (.slice none ([] : List Version).length 0) 2 29 []] ZmY rfl ⟨Zaz rfl, trivial⟩ (.cons_cons _ .slnil) ⟨none, 0, [], rfl, rfl, Zbv⟩
 | some a =>
  refine Zek rfl rfl ?_
  refine Zar <| Zae <| Zaa ?_
  refine Zdw (xs := []) rfl rfl (by simp) rfl rfl fun b => ?_
  have hA : All2 (GoT.rep H) [] ([] : List Version) := Zbv
  refine Zad rfl ?_
  refine ZlU 0 rfl rfl rfl hA hx0_0 fun a1 c1 ls1 h1 hA1 => ?_
  refine Zah rfl <| Zac ?_
  exact ZaF (xs := [.tmp 2]) (vs := [.slice a1 (([] : List Version) ++ x0).length c1]) [.osl (.slice a1 (([] : List Version) ++ x0).length c1) 2 29 ls1] ZmY rfl ⟨Zaz rfl, trivial⟩ (.cons_cons _ .slnil) ⟨a1, c1, ls1, rfl, rfl, hA1⟩
section
open Go.Shelf Go.Sort Go.RowKit Go.Lib
abbrev LVer (H : Heap) := { p : List Value × Version // GoT.rep H p.1 p.2 }
instance iJ14x1 (H : Heap) : Inhabited (LVer H) := ⟨⟨([.int .i64 0, .slice none 0 0], ⟨0, []⟩), none, 0, rfl, ZeK⟩⟩
def cmpV {H : Heap} (x y : LVer H) : Int := cmpI x.1.2.Ver y.1.2.Ver
theorem Zff (a b : Int) : cmpI a b < 0 ↔ a < b := by
 unfold cmpI
 by_cases h1 : a < b
 ·simp [h1]
 ·by_cases h2 : b < a <;> simp [h1, h2]
theorem vswo (H : Heap) : SWO (ltOf (cmpV (H := H))) := {
 irrefl := fun x => by simp [ltOf, cmpV, Zff]
 trans := fun x y z h1 h2 => by simp only [ltOf, cmpV, Zff, decide_eq_true_eq] at *; omega
 ntrans := fun x y z h1 h2 => by simp only [ltOf, cmpV, Zff, decide_eq_false_iff_not] at *; omega }
theorem Zj1 {H : Heap} : ∀ (ls : List (List Value)) (l : List Version), All2 (GoT.rep H) ls l → ∃ lp : List (LVer H), lp.map (·.1.1) = ls ∧ lp.map (·.1.2) = l := by
 intro ls
 induction ls with
 | nil => intro l h; have := h.1; cases l with
  | nil => exact ⟨[], rfl, rfl⟩
  | cons => simp at this
 | cons v ls ih =>
  intro l h
  cases l with
  | nil => have := h.1; simp at this
  | cons x l =>
   obtain ⟨lp, h1, h2⟩ := ih l ⟨by have := h.1; simpa using this, fun i hi1 hi2 => by have := h.2 (i + 1) (by simpa using hi1) (by simpa using hi2); simpa using this⟩
   exact ⟨⟨(v, x), h.2 0 (by simp) (by simp)⟩ :: lp, by simp [h1], by simp [h2]⟩
theorem Zh0 {H : Heap} (lp : List (LVer H)) : All2 (GoT.rep H) (lp.map (·.1.1)) (lp.map (·.1.2)) :=
 ⟨by simp, fun i h1 h2 => by simp only [List.getElem_map]; exact (lp[i]'(by simpa using h1)).2⟩
theorem ZjA : ∀ args w, (callFunc 26 args).run Tryz.prog w = .ok (.enter 26 args) w := enters_of Tryz.func26 (by kernel_rfl) rfl
theorem ZkL (H : Heap) (a : Option Addr) (c : Nat) (l : List Version) (ls : List (List Value)) (hA : All2 (GoT.rep H) ls l) (hl : l.length < 1000000) :
  Fn Tryz.prog 25 [.slice a l.length c, .func (.func 26) #[] #[]] H [.osl (.slice a l.length c) 2 29 ls] fun H' v out => ∃ (l' : List Version) (ls' : List (List Value)), l'.Perm l ∧ l'.Pairwise (fun x y => ¬ y.Ver < x.Ver) ∧ out = [.osl (.slice a l'.length c) 2 29 ls'] ∧ All2 (GoT.rep H') ls' l' := by
 intro w hw
 obtain ⟨lp, hls, hlv⟩ := Zj1 ls l hA
 have hlen : l.length = lp.length := by rw [← hlv]; simp
 have hok := hw.ok _ (List.mem_singleton.2 rfl)
 change OSl w (.slice a l.length c) 2 29 ls at hok
 rcases hok with ⟨h1, h2⟩ | ⟨b, cap, arr, rest, h1, hb, hsz, hle, harr, hall⟩
 ·simp only [Value.slice.injEq] at h1
  obtain ⟨rfl, h1, rfl⟩ := h1
  have : l = [] := List.eq_nil_of_length_eq_zero (by simpa using h1)
  subst this
  have hc := AnyF.slices_SortFunc_none Tryz.sortVer none 0 (.func (.func 26) #[] #[]) w
  change Calls Tryz.prog 25 _ _ _ at hc
  refine hc.mono ?_
  rintro e w' ⟨rfl, rfl⟩
  exact ⟨_, rfl, H, _, hw, [], ls, .nil, .nil, rfl, hA⟩
 ·simp only [Value.slice.injEq] at h1
  obtain ⟨rfl, _, rfl⟩ := h1
  have hfl : (flatK (fun x : LVer H => x.1.1) 2 lp.toArray).toList = ls.flatten := by rw [Zgm (fun x : LVer H => x.1.1) 2 (fun x => GoT.len x.2) (by omega) lp, hls]
  have hblk : b < w.heap.size := (Array.getElem?_eq_some_iff.1 hb).1
  have hlsl : ls.length = lp.length := by rw [← hls]; simp
  have hH : HoldsK (fun x : LVer H => x.1.1) 2 w b 0 lp.toArray := fun j hj => by
   have hjl : j < (flatK (fun x : LVer H => x.1.1) 2 lp.toArray).toList.length := by simpa using hj
   have hget : arr[j]? = some (flatK (fun x : LVer H => x.1.1) 2 lp.toArray)[j]! := by
    rw [← Array.getElem?_toList, harr, ← hfl, List.getElem?_append_left hjl, List.getElem?_eq_getElem hjl]
    rw [getElem!_pos _ j (by simpa using hj)]; simp
   refine ⟨?_, ?_⟩
   ·simp [World.cell?, hb, hget]
   ·simp [World.frozen?, hb]
  have hcmp : CmpLays Tryz.prog 26 #[] (fun x : LVer H => x.1.1) 2 cmpV b 0 lp.toArray.size w := fun m os dk _ x y => by
   obtain ⟨⟨vs, x⟩, xa, xc, hx1, hx2⟩ := x
   obtain ⟨⟨us, y⟩, ya, yc, hy1, hy2⟩ := y
   simp only at hx1 hy1
   subst hx1; subst hy1
   refine (Zm8 (hp _) x.Ver y.Ver _ _ _ (ZgB _)).mono ?_
   rintro e w' ⟨v, rfl, H', out, hI, rfl, rfl⟩
   exact ⟨rfl, ZiM hI⟩
  have hc := AnyQ.slices_SortFunc Tryz.sortVer 2 (fun _ => by kernel_rfl) (fun _ => by kernel_rfl) (fun x : LVer H => x.1.1) (fun x => GoT.len x.2) (fun x v hv => by
   obtain ⟨⟨vs, x⟩, xa, xc, hx1, hx2⟩ := x
   simp only at hx1 hv
   subst hx1
   simp at hv; rcases hv with rfl | rfl <;> rfl) cmpV (vswo H) 26 #[] b 0 c lp.toArray w ZjA hcmp hH hblk (by simp; omega)
  rw [show lp.toArray.size = l.length by simp [hlen]] at hc
  change Calls Tryz.prog 25 _ _ _ at hc
  refine hc.mono ?_
  rintro e w' ⟨rfl, d', n, os, hp, hs, rfl⟩
  have hsz' : d'.size = l.length := by have := hp.1; simpa [hlen] using this
  have hwh : ∀ (x : Array (LVer H)), x.size = l.length → x.extract 0 l.length = x := fun x hx => by rw [← hx]; simp
  have hperm : d'.toList.Perm lp := by
   have := hp.2.2
   rw [hwh d' hsz', hwh lp.toArray (by simp [hlen])] at this
   simpa using this
  have hpw : (d'.toList.map (·.1.2)).Pairwise (fun x y : Version => ¬ y.Ver < x.Ver) := by
   rw [List.pairwise_map, List.pairwise_iff_getElem]
   intro i j hi hj hij
   have hi' : i < d'.size := by simpa using hi
   have hj' : j < d'.size := by simpa using hj
   have := hs i j (Nat.zero_le _) hij (by rw [← hsz']; exact hj')
   rw [getElem!_pos d' j hj', getElem!_pos d' i hi'] at this
   simp only [ltOf, cmpV, Zff, decide_eq_false_iff_not] at this
   simpa using this
  have hfl' : (flatK (fun x : LVer H => x.1.1) 2 d').toList = (d'.toList.map (·.1.1)).flatten := by
   have := Zgm (fun x : LVer H => x.1.1) 2 (fun x => GoT.len x.2) (by omega) d'.toList
   simpa using this
  have hle' : l.length ≤ c := by rw [hlen, ← hlsl]; exact hle
  have hfs : (flatK (fun x : LVer H => x.1.1) 2 d').size = l.length * 2 := by rw [size_flatK, hsz']
  obtain ⟨f1, f2, f3⟩ := Zf6 id w n b (flatK (fun x : LVer H => x.1.1) 2 d') os hb (by rw [hfs, hsz]; omega)
  have f4 : (sortWorldK (fun x : LVer H => x.1.1) 2 w b 0 n d' os).os = w.os ∧ (sortWorldK (fun x : LVer H => x.1.1) 2 w b 0 n d' os).tape = w.tape ∧ (sortWorldK (fun x : LVer H => x.1.1) 2 w b 0 n d' os).output = w.output ∧ w.drawn ≤ (sortWorldK (fun x : LVer H => x.1.1) 2 w b 0 n d' os).drawn := ⟨rfl, rfl, rfl, by first | exact Nat.le_refl _ | exact Nat.le_add_right _ _⟩
  change (sortWorldK (fun x : LVer H => x.1.1) 2 w b 0 n d' os).heap[b]? = _ at f1
  change ∀ k, k < w.heap.size → k ≠ b → (sortWorldK (fun x : LVer H => x.1.1) 2 w b 0 n d' os).heap[k]? = _ at f2
  change _ ≤ (sortWorldK (fun x : LVer H => x.1.1) 2 w b 0 n d' os).heap.size at f3
  generalize sortWorldK (fun x : LVer H => x.1.1) 2 w b 0 n d' os = W at f1 f2 f3 f4
  rw [List.map_id, hfl', hfs] at f1
  generalize hl2 : d'.toList = l2 at hpw f1 hperm
  have hpl : (l2.map (·.1.2)).Perm l := by rw [← hlv]; exact hperm.map _
  have hlen2 : l2.length = l.length := by have := hpl.length_eq; simpa using this
  refine ⟨_, rfl, H, [.osl (.slice (some ⟨b, 0, none⟩) (l2.map (·.1.2)).length c) 2 29 (l2.map (·.1.1))], ?_, l2.map (·.1.2), l2.map (·.1.1), hpl, hpw, rfl, Zh0 l2⟩
  have hrow : (l2.map (·.1.1)).flatten.length = l.length * 2 := by rw [Zch (sz := 2) (fun x hx => by obtain ⟨y, _, rfl⟩ := List.mem_map.1 hx; exact GoT.len y.2)]; simp [hlen2]
  have hI := hw.write (w' := { w with heap := w.heap.setIfInBounds b (.cells ((l2.map (·.1.1)).flatten ++ List.drop (l.length * 2) arr.toList).toArray 29 (0, 0)) }) (i := 0) (b := b) (r' := .osl (.slice (some ⟨b, 0, none⟩) (l2.map (·.1.2)).length c) 2 29 (l2.map (·.1.1))) rfl (by simp [Res.ids]) rfl
   (fun k hk => by simp [Ne.symm hk]) (by simp) rfl rfl rfl (.inr ⟨b, c, ((l2.map (·.1.1)).flatten ++ List.drop (l.length * 2) arr.toList).toArray, List.drop (l.length * 2) arr.toList, by simp, by simp [hblk], by
    rw [List.size_toArray, List.length_append, hrow, List.length_drop]; have h3 : arr.toList.length = c * 2 := by simpa using hsz
    rw [h3]; omega, by simpa [hlen2] using hle', rfl, by intro x hx; obtain ⟨y, _, rfl⟩ := List.mem_map.1 hx; exact ⟨GoT.len y.2, GoT.one y.2⟩⟩)
  refine hI.extend (fun k hk => ?_) (by simpa using f3) f4.1 f4.2.1 f4.2.2.1 (hdr := f4.2.2.2)
  have hk' : k < w.heap.size := by simpa using hk
  by_cases hkb : k = b
  ·subst hkb; rw [f1]; simp [hblk]
  ·rw [f2 k hk' hkb]; simp [Ne.symm hkb]
end
def insV (x : Version) : List Version → List Version
 | [] => [x]
 | y :: ys => if y.Ver < x.Ver then y :: insV x ys else x :: y :: ys
def Zfg (l : List Version) : List Version := l.foldr insV []
theorem ZhJ (x : Version) (l : List Version) : (insV x l).Perm (x :: l) := by
 induction l with
 | nil => exact .refl _
 | cons y l ih =>
  unfold insV
  split
  ·exact (ih.cons y).trans (List.Perm.swap x y l)
  ·exact .refl _
theorem ZfP (l : List Version) : (Zfg l).Perm l := by
 induction l with
 | nil => exact .refl _
 | cons x l ih => exact (ZhJ x _).trans (ih.cons x)
abbrev Zd0 (l : List Version) : Prop := l.Pairwise fun x y => ¬ y.Ver < x.Ver
theorem Zif (x : Version) (l : List Version) (h : Zd0 l) : Zd0 (insV x l) := by
 induction l with
 | nil => simp [insV, Zd0]
 | cons y l ih =>
  unfold Zd0 at *
  rw [List.pairwise_cons] at h
  unfold insV
  split
  ·rename_i hlt
   rw [List.pairwise_cons]
   refine ⟨fun z hz => ?_, ih h.2⟩
   rcases List.mem_cons.1 ((ZhJ x l).mem_iff.1 hz) with hz2 | hz2
   ·subst hz2; omega
   ·exact h.1 z hz2
  ·rename_i hlt
   rw [List.pairwise_cons]
   refine ⟨fun z hz => ?_, List.pairwise_cons.2 h⟩
   rcases List.mem_cons.1 hz with hz2 | hz2
   ·subst hz2; exact hlt
   ·have := h.1 z hz2; omega
theorem Zf3 (l : List Version) : Zd0 (Zfg l) := by
 induction l with
 | nil => exact .nil
 | cons x l ih => exact Zif x _ ih
theorem ZiX : ∀ (l l' : List Version), Zd0 l → Zd0 l' → l.Perm l' → (l.map (·.Ver)).Nodup → l = l' := by
 intro l
 induction l with
 | nil => intro l' _ _ h _; exact (List.nil_perm.1 h).symm
 | cons x l ih =>
  intro l' h1 h2 hp hn
  cases l' with
  | nil => exact absurd hp.length_eq (by simp)
  | cons y l' =>
   unfold Zd0 at *
   rw [List.pairwise_cons] at h1 h2
   rw [List.map_cons, List.nodup_cons] at hn
   have hxy : x = y := by
    rcases List.mem_cons.1 (hp.mem_iff.1 (List.mem_cons_self ..)) with h | h
    ·exact h
    ·rcases List.mem_cons.1 (hp.mem_iff.2 (List.mem_cons_self ..)) with h' | h'
     ·exact h'.symm
     ·have h3 := h2.1 x h
      have h4 := h1.1 y h'
      have : y.Ver = x.Ver := by omega
      exact absurd (List.mem_map.2 ⟨y, h', this⟩) hn.1
   subst hxy
   rw [ih l' h1.2 h2.2 ((List.perm_cons x).1 hp) hn.2]
theorem ZkM {l l' : List Version} (h : Zd0 l') (hp : l'.Perm l) (hn : (l.map (·.Ver)).Nodup) : l' = Zfg l :=
 ZiX _ _ h (Zf3 l) (hp.trans (ZfP l).symm) ((hp.map _).nodup_iff.2 hn)
def ZcN (k : Nat) (g : Graph) (vs : List Version) (ev : List Event) : Nat → Int × List (Int × List Judge_seen) → Option (LX (Int × Int × Int) Unit)
 | 0, _ => none
 | q + 1, s =>
  if (decide (s.1 < (ev.length : Int))) = true then
   (rd ev s.1).bind fun x =>
   (Zcy k ⟨g, vs, some s.2⟩ x).bind fun y =>
   if (y.1 != 0) = true then
    some (.ret (y.1, s.1, 0))
   else
    ZcN k g vs ev q (w64 (s.1 + 1), y.2)
  else
   some (.out ())
def ZdA (k : Nat) (g : Graph) (l : List Version) (ev : List Event) : Option (Int × Int × Int) :=
 (ZdU k g l ev).bind fun e =>
 if (e != 0) = true then
  some (0, 0, e)
 else
  if l.length < 1000000 ∧ (l.map (·.Ver)).Nodup then
   (ZcN k g (Zfg l) ev k (0, [])).bind (LX.go fun _ => some (0, 0, 0))
  else none
theorem ZfG (k : Nat) (H : Heap) (x0 : Graph) (a0_0 : Option Addr) (c0_0 : Nat) (hx0_0 : RSl H a0_0 c0_0 x0.Links) (x1 : List Version) (a1_0 : Option Addr) (c1_0 : Nat) (hx1_0 : RSl H a1_0 c1_0 x1) (x2 : List Event) (a2_0 : Option Addr) (c2_0 : Nat) (hx2_0 : RSl H a2_0 c2_0 x2) {r : Int × Int × Int} (hr : ZdA k x0 x1 x2 = some r) :
  Fn Tryz.prog 7 [.agg #[.int .i64 x0.Switches, .slice a0_0 x0.Links.length c0_0], .slice a1_0 x1.length c1_0, .slice a2_0 x2.length c2_0] H [] fun H' v out => v = .tuple #[.int .i64 r.1, .int .i64 r.2.1, .int .i64 r.2.2] ∧ out = [] := by
 refine Zaq (args := [.agg #[.int .i64 x0.Switches, .slice a0_0 x0.Links.length c0_0], .slice a1_0 x1.length c1_0, .slice a2_0 x2.length c2_0]) (n := 46) (Φ := fun r H' v out => v = .tuple #[.int .i64 r.1, .int .i64 r.2.1, .int .i64 r.2.2] ∧ out = []) hr fn_7 rfl rfl rfl fun w => ?_
 refine s_eq (by rw [ZdA]) ?_
 refine Zae <| Zaa ?_
 refine ZbO rfl fun b3 => ?_
 refine Zah rfl <| Zah rfl <| Zah rfl <| Zac <| Zae <| Zae <| Zaa <| o_ld 0 rfl rfl rfl <| Zad rfl <| Zad rfl ?_
 refine s_bg fun y h => ?_
 refine Zas rfl rfl (ZgM k _ x0 _ _ hx0_0 x1 _ _ hx1_0 x2 _ _ hx2_0 h) ?_
 refine Zah rfl <| Zac <| Zae <| Zaa <| Zad rfl <| o_ne rfl rfl <| Zac ?_
 refine Zao rfl (fun h1 => ?_) (fun h1 => ?_)
 ·refine Zae <| Zaa <| Zad rfl <| Zah rfl <| Zah rfl <| Zah rfl <| Zac ?_
  exact ZaF (xs := [.tmp 6, .tmp 7, .tmp 8]) (vs := [.int .i64 0, .int .i64 0, .int .i64 y]) [] fn_7 rfl ⟨Zaz rfl, Zaz rfl, Zaz rfl, trivial⟩ (.cons _ .slnil) ⟨rfl, rfl⟩
 ·refine Zar ?_
  by_cases hg : x1.length < 1000000 ∧ (x1.map (·.Ver)).Nodup
  ·rw [if_pos hg]
   refine Zae ?_
   refine Zag (env' := [(1, .slice a1_0 x1.length c1_0), (2, .slice a2_0 x2.length c2_0), (3, .pointer (some ⟨b3, 0, none⟩)), (6, .int .i64 0), (7, .int .i64 0), (8, .int .i64 0)]) (by exact ⟨rfl, rfl, rfl, rfl, rfl, rfl, trivial⟩) ?_
   refine ZbL (own' := [.blk b3 (Zak [.int .i64 x0.Switches, .slice a0_0 x0.Links.length c0_0] 24)] ++ []) rfl ?_
   refine Zha [] [] [(fun V H v g => v = Value.agg #[.int .i64 x0.Switches, .slice a0_0 x0.Links.length c0_0] ∧ g = []),
    (fun V H v g => v = Value.slice a1_0 x1.length c1_0 ∧ g = []),
    (fun V H v g => ∃ a c ls, v = Value.slice a x1.length c ∧ g = [.osl (.slice a x1.length c) 2 29 ls] ∧ All2 (GoT.rep H) ls x1),
    (fun V H v g => ∃ b, v = Value.map (some b) ∧ g = [.blk b (.map #[] 0)]),
    (fun V H v g => v = Value.agg #[.int .i64 x0.Switches, .slice a0_0 x0.Links.length c0_0, V 2, V 3] ∧ g = [] ∧ ∃ a c b, V 2 = Value.slice a x1.length c ∧ V 3 = Value.map (some b)),
    (fun V H v g => ∃ b a c mb, V 4 = Value.agg #[.int .i64 x0.Switches, .slice a0_0 x0.Links.length c0_0, .slice a x1.length c, .map (some mb)] ∧ v = Value.pointer (some ⟨b, 0, none⟩) ∧ g = [.blk b (Zak [.int .i64 x0.Switches, .slice a0_0 x0.Links.length c0_0, .slice a x1.length c, .map (some mb)] 71)])]
    [[], [], [], [], [], []] mixed ⟨m0V, m0V, (fun V H H' v g hle ⟨a, c, ls, e1, e2, h0⟩ => ⟨a, c, ls, e1, e2, All2.mono (fun _ _ => GoT.mono hle) h0⟩), m0V, m0V, m0V, trivial⟩
    ⟨l0V, l0V, l0V, l0V, (fun V V' hV H v g ⟨e1, e2, a, c, b, e3, e4⟩ => ⟨by rw [e1, hV 2 (by decide), hV 3 (by decide)], e2, a, c, b, by rw [← hV 2 (by decide)]; exact e3, by rw [← hV 3 (by decide)]; exact e4⟩), (fun V V' hV H v g ⟨b, a, c, mb, e1, e2, e3⟩ => ⟨b, a, c, mb, by rw [← hV 4 (by decide)]; exact e1, e2, e3⟩), trivial⟩
    (by kernel_rfl) (by kernel_rfl) rfl (by kernel_rfl) rfl rfl rfl (by exact ⟨rfl, rfl, rfl, rfl, rfl, rfl, trivial⟩) trivial ?_ ?_
   ·refine Zb8 ?_ ?_
    ·intro _ _ H1 fr _ hle hd
     refine ⟨_, some (), rfl, fun _ => ?_⟩
     refine Zag (env' := [(3, .pointer (some ⟨b3, 0, none⟩))]) (by exact ⟨rfl, trivial⟩) ?_
     refine o_ld 0 rfl rfl rfl ?_
     exact Zai (.agg #[.int .i64 x0.Switches, .slice a0_0 x0.Links.length c0_0]) ⟨rfl, rfl⟩
    refine Zb8 ?_ ?_
    ·intro _ _ H1 fr _ hle hd
     refine ⟨_, some (), rfl, fun _ => ?_⟩
     refine Zag (env' := [(1, .slice a1_0 x1.length c1_0)]) (by exact ⟨rfl, trivial⟩) ?_
     refine Zad rfl ?_
     exact Zai (.slice a1_0 x1.length c1_0) ⟨rfl, rfl⟩
    refine Zb8 ?_ ?_
    ·intro _ _ H1 fr _ hle hd
     obtain ⟨hv, hgn⟩ := hd 1 (by decide)
     refine ⟨_, some (), rfl, fun _ => ?_⟩
     refine Zag (env' := [(21, .slice a1_0 x1.length c1_0)]) (by exact ⟨congrArg some hv, trivial⟩) ?_
     refine Zbg [] _ rfl rfl (.refl _) (Zkx k H1 x1 _ _ (RSl.mono hle hx1_0) (by have := hg.1; unfold LIM; omega)) ?_
     rintro _ H2 _ hle2 ⟨a, c, ls, rfl, rfl, hA⟩
     exact ZbV fun _ _ _ hE hI => ⟨(.slice a x1.length c), [.osl (.slice a x1.length c) 2 29 ls], _, fun _ e => (by cases e; exact hE _ _ rfl), hle2, by exact hI.perm (pm3 (a := [Res.blk b3 (Zak [.int .i64 x0.Switches, .slice a0_0 x0.Links.length c0_0] 24)]) (fr := fr) (xs := [Res.osl (.slice a x1.length c) 2 29 ls])), ⟨a, c, ls, rfl, rfl, hA⟩⟩
    refine Zb8 ?_ ?_
    ·intro _ _ H1 fr _ hle hd
     refine ⟨_, some (), rfl, fun _ => ?_⟩
     refine ZfU fun mb => ?_
     exact ZbV fun _ _ _ hE hI => ⟨(.map (some mb)), [.blk mb (.map #[] 0)], _, fun _ e => (by cases e; exact hE _ _ rfl), .refl _, by exact hI.perm (pm3 (a := [Res.blk b3 (Zak [.int .i64 x0.Switches, .slice a0_0 x0.Links.length c0_0] 24)]) (fr := fr) (xs := [Res.blk mb (.map #[] 0)])), ⟨mb, rfl, rfl⟩⟩
    refine Zb8 ?_ ?_
    ·intro V _ H1 fr _ hle hd
     obtain ⟨hv0, _⟩ := hd 0 (by decide)
     obtain ⟨a, c, ls, hv2, _, _⟩ := hd 2 (by decide)
     obtain ⟨mb, hv3, _⟩ := hd 3 (by decide)
     refine ⟨_, some (), rfl, fun _ => ?_⟩
     refine Zag (env' := [(20, .agg #[.int .i64 x0.Switches, .slice a0_0 x0.Links.length c0_0]), (22, .slice a x1.length c), (23, .map (some mb))]) (by exact ⟨congrArg some hv0, congrArg some hv2, congrArg some hv3, trivial⟩) ?_
     refine Zdx rfl rfl ?_
     exact Zai (.agg #[.int .i64 x0.Switches, .slice a0_0 x0.Links.length c0_0, .slice a x1.length c, .map (some mb)]) ⟨by rw [hv2, hv3], rfl, a, c, mb, hv2, hv3⟩
    refine Zb8 ?_ ?_
    ·intro V _ H1 fr _ hle hd
     obtain ⟨hv4, _, a, c, mb, e2, e3⟩ := hd 4 (by decide)
     rw [e2, e3] at hv4
     refine ⟨_, some (), rfl, fun _ => ?_⟩
     refine Zag (env' := [(24, .agg #[.int .i64 x0.Switches, .slice a0_0 x0.Links.length c0_0, .slice a x1.length c, .map (some mb)])]) (by exact ⟨congrArg some hv4, trivial⟩) ?_
     refine ZbO rfl fun b => ?_
     exact ZbV fun _ _ _ hE hI => ⟨(.pointer (some ⟨b, 0, none⟩)), [.blk b (Zak [.int .i64 x0.Switches, .slice a0_0 x0.Links.length c0_0, .slice a x1.length c, .map (some mb)] 71)], _, fun _ e => (by cases e; exact hE _ _ rfl), .refl _, by exact hI.perm (pm3 (a := [Res.blk b3 (Zak [.int .i64 x0.Switches, .slice a0_0 x0.Links.length c0_0] 24)]) (fr := fr) (xs := [Res.blk b (Zak [.int .i64 x0.Switches, .slice a0_0 x0.Links.length c0_0, .slice a x1.length c, .map (some mb)] 71)])), ⟨b, a, c, mb, hv4, rfl, rfl⟩⟩
    exact Zm0
   ·intro V G H1 _ hle hF
    obtain ⟨a, c, ls, hv2, hg2, hA⟩ := hF 2 (show 2 < 6 by decide)
    obtain ⟨mb, hv3, hg3⟩ := hF 3 (show 3 < 6 by decide)
    obtain ⟨hv4, _, _⟩ := hF 4 (show 4 < 6 by decide)
    obtain ⟨bk, a', c', mb', hv4', hv5, hg5⟩ := hF 5 (show 5 < 6 by decide)
    have hv4 : V 4 = _ := hv4
    rw [hv2, hv3] at hv4
    rw [hv4] at hv4'
    simp only [Value.agg.injEq, Array.mk.injEq, List.cons.injEq, Value.slice.injEq, Value.map.injEq, Option.some.injEq, true_and, and_true] at hv4'
    obtain ⟨⟨rfl, rfl⟩, rfl⟩ := hv4'
    refine Zag (env' := [(25, .pointer (some ⟨bk, 0, none⟩)), (2, .slice a2_0 x2.length c2_0), (6, .int .i64 0), (7, .int .i64 0), (8, .int .i64 0)]) (by exact ⟨congrArg some hv5, rfl, rfl, rfl, rfl, trivial⟩) ?_
    refine ZbL (own' := [.blk b3 (Zak [.int .i64 x0.Switches, .slice a0_0 x0.Links.length c0_0] 24), .osl (.slice a x1.length c) 2 29 ls, .blk mb (.map #[] 0), .blk bk (Zak [.int .i64 x0.Switches, .slice a0_0 x0.Links.length c0_0, .slice a x1.length c, .map (some mb)] 71)]) (by
     show [_] ++ (G 0 ++ (G 1 ++ (G 2 ++ (G 3 ++ (G 4 ++ (G 5 ++ [])))))) = _
     rw [(hF 0 (show 0 < 6 by decide)).2, (hF 1 (show 1 < 6 by decide)).2, hg2, hg3, (hF 4 (show 4 < 6 by decide)).2.1, hg5]; rfl) ?_
    refine Zah rfl <| Zac <| Zae <| Zaa <| Zad rfl ?_
    refine Zd3 rfl ?_
    refine o_fa rfl <| o_ld 3 rfl rfl rfl ?_
    refine s_mv 1 rfl ?_
    refine Zbg [Res.osl (.slice a x1.length c) 2 29 ls] [Res.blk b3 (Zak [.int .i64 x0.Switches, .slice a0_0 x0.Links.length c0_0] 24), .blk mb (.map #[] 0), .blk bk (Zak [.int .i64 x0.Switches, .slice a0_0 x0.Links.length c0_0, .slice a x1.length c, .map (some mb)] 71)] rfl rfl (List.perm_append_comm (l₁ := [_, _, _]) (l₂ := [_])) (ZkL H1 a c x1 ls hA hg.1) ?_
    rintro _ H2 _ hle2 ⟨l', ls', hp', hs', rfl, hA'⟩
    refine Zac ?_
    have hlen := hp'.length_eq
    have hsv := ZkM hs' hp' hg.2
    subst hsv
    refine Zg9 3 (fun b => .inl (by simp [ids])) rfl hA' fun H3 hle3 _ hV3 => ?_
    rw [← hlen]
    refine ZgS 2 (fun b => .inl (by simp [ids])) rfl fun H4 hle4 hb4 => ?_
    have hc4 : Zaj H4 bk 0 [.int .i64 x0.Switches, .slice a0_0 x0.Links.length c0_0, .slice a (Zfg x1).length c, .map (some mb)] := ZgG hb4
    have hV4 := RSl.mono hle4 hV3
    have hle14 : Hle H H4 := hle.trans (hle2.trans (hle3.trans hle4))
    have hL4 := RSl.mono hle14 hx0_0
    have hE4 := RSl.mono hle14 hx2_0
    refine Zae <| Zae <| Zaa <| Zad rfl <| ZaG rfl <| Zad rfl <| Zac ?_
    refine Zag (env' := [(10, .pointer (some ⟨bk, 0, none⟩)), (31, .slice a2_0 x2.length c2_0), (32, .int .i64 (x2.length : Int)), (33, .int .i64 0)]) (by exact ⟨rfl, rfl, rfl, rfl, trivial⟩) ?_
    refine Zam (own' := [.blk mb (.map #[] 0)]) (by exact .cons _ (.cons_cons _ .slnil)) ?_
    refine ZbR (fun (p : Unit) env own H' => True) ?_ ?_
    ·rintro p env own H5 _
     refine Zae <| Zaa <| Zah rfl <| Zah rfl <| Zah rfl <| Zac ?_
     exact ZaF (xs := [.tmp 6, .tmp 7, .tmp 8]) (vs := [.int .i64 0, .int .i64 0, .int .i64 0]) [] fn_7 rfl ⟨Zaz rfl, Zaz rfl, Zaz rfl, trivial⟩ (List.nil_sublist _) ⟨rfl, rfl⟩
    ·intro J
     refine Zat ?_
     refine Za2 (fun q s => ZcN k x0 (Zfg x1) x2 q s) (fun s env own H' => env = [(10, .pointer (some ⟨bk, 0, none⟩)), (31, .slice a2_0 x2.length c2_0), (32, .int .i64 (x2.length : Int)), (33, .int .i64 s.1)] ∧ Hle H4 H' ∧ ∃ es c lr rs, own = .blk mb (.map es c) :: rs ∧ MapR false false H' es c lr ∧ ORel H' 144 lr rs s.2) (fun _ => rfl) ?_ k (0, []) ⟨rfl, .refl _, #[], 0, [], [], rfl, .nil, .nil⟩
     rintro q ih s _ _ H5 ⟨rfl, hle5, es, cc, lr, rs, rfl, hR, hO⟩
     refine s_eq (by rw [ZcN]) ?_
     have hE5 := RSl.mono hle5 hE4
     refine Zae <| Zaa <| o_lt rfl rfl <| Zac <| Zae ?_
     refine Zao rfl (fun hlt => ?_) (fun hlt => ?_)
     ·refine Zar <| Zae <| Zat <| Zae <| Zaa <| Zad rfl ?_
      refine o_ix hE5 rfl rfl fun x bk5 of5 vs5 hx hc5 hr5 => ?_
      obtain ⟨ax, cx, rfl, hsx⟩ := hr5
      refine ZaP 0 hc5 rfl rfl rfl ?_
      refine Zbw fun b12 => ?_
      refine Zah rfl ?_
      refine ZcP (own' := [.blk b12 (Zak [.int .i64 0, .int .i64 0, .int .i64 0, .int .i64 0, .int .u8 0, .int .u8 0, .int .u8 0, .slice none 0 0] 44)] ++ (.blk mb (.map es cc) :: rs)) List.perm_append_comm ?_
      refine o_st 0 rfl rfl rfl rfl rfl rfl ?_
      refine Zac <| Zae <| Zaa <| Zad rfl <| o_ld 0 rfl rfl rfl ?_
      refine s_bg fun y hy => ?_
      refine Zbg (.blk mb (.map es cc) :: rs) [Res.blk b12 (Zak (cE x ax cx) 44)] rfl rfl (List.perm_append_comm (l₁ := [_])) (ZeS k H5 ⟨x0, Zfg x1, some s.2⟩ bk 0 _ _ (RSl.mono hle5 hL4) _ _ (RSl.mono hle5 hV4) mb es cc lr rs s.2 rfl hR hO (Zaj.mono hle5 hc4) x _ _ hsx hy) ?_
      rintro _ H6 _ hle6 ⟨rfl, es', cc', lr', rs', rfl, hR', hO'⟩
      refine Zah rfl <| Zac <| Zae <| Zaa <| Zad rfl <| o_ne rfl rfl <| Zac ?_
      refine Zao rfl (fun hn => ?_) (fun hn => ?_)
      ·refine Zae <| Zaa <| Zad rfl <| Zad rfl <| Zah rfl <| Zah rfl <| Zah rfl <| Zac <| ZbQ ?_
       exact ZaF (xs := [.tmp 6, .tmp 7, .tmp 8]) (vs := [.int .i64 y.1, .int .i64 s.1, .int .i64 0]) [] fn_7 rfl ⟨Zaz rfl, Zaz rfl, Zaz rfl, trivial⟩ (List.nil_sublist _) ⟨rfl, rfl⟩
      ·refine Zar <| Zav <| Zaa <| ZbM rfl rfl <| Zad rfl <| Zac ?_
       exact Zag (by exact ⟨rfl, rfl, rfl, rfl, trivial⟩) (Zam (List.sublist_append_right _ _) (ih (w64 (s.1 + 1), y.2) _ _ _ ⟨rfl, hle5.trans hle6, es', cc', lr', rs', rfl, hR', hO'⟩))
     ·refine Zbf rfl ?_
      exact J () _ _ _ trivial
  ·rw [if_neg hg]
   exact ZjJ
end Go.Cat.G3

