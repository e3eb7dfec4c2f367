/- A text of the proof of the seat's laws: a step logic over the machine, or pure functions that the Go functions come to. No condition. -/
import Derived.Test.YtmmpieknnnlnhaaH6
import Derived.Shelf.SlSortCmp.WholeK
import Derived.Shelf.SlSortCmp.NoneTotal
import Derived.Ground.SlsfProg
import Derived.WalkKit
set_option linter.unusedVariables false
set_option linter.unusedSimpArgs false
set_option linter.unnecessarySimpa false
namespace Go.Cat.G3
open Go Go.Cat Go.Proofs Go.Shelf Go.Sort Go.RowKit Go.Lib
set_option linter.unusedVariables false
/-- Ends with a port that may be. -/
abbrev PEnd := { e : End // 1 ≤ e.Port ∧ e.Port ≤ 4 }
instance : Inhabited PEnd := ⟨⟨⟨0, 1⟩, by decide, by decide⟩⟩
abbrev pcf (x y : PEnd) : Int := x.1.Port - y.1.Port
theorem pswo : SWO (ltOf pcf) := {
  irrefl := fun x => by simp [ltOf, pcf]
  trans := fun x y z h1 h2 => by simp [ltOf, pcf] at *; omega
  ntrans := fun x y z h1 h2 => by simp [ltOf, pcf] at *; omega }
set_option maxHeartbeats 1000000 in
theorem closure54 (a b c d : Int) (h : IntKind.i64.wrap (b - d) = b - d) (W : World) : Calls Try.prog 54 #[.agg #[.int .i64 a, .int .i64 b], .agg #[.int .i64 c, .int .i64 d]] W fun e w' => e = .returned (.int .i64 (b - d)) ∧ ∃ q os', w' = grow (W.drewN q) os' := by
  go_enter Try.func54, Try.ntmps54
  go_wp2
  go_ret
  exact ⟨rfl, 0, _, by rw [alloc_eq_grow, alloc_eq_grow, grow_grow]; rfl⟩
theorem flatK_eq {α : Type} [Inhabited α] (enc : α → List Value) (k : Nat) (hk : ∀ x, (enc x).length = k) (h0 : 0 < k) (d : List α) : (flatK enc k d.toArray).toList = (d.map enc).flatten := by
  apply List.ext_getElem
  · rw [Array.length_toList, size_flatK, length_flatten (sz := k) (fun x hx => by obtain ⟨y, _, rfl⟩ := List.mem_map.1 hx; exact hk y)]; simp
  · intro t h1 h2
    have ht : t < d.length * k := by simpa using h1
    have hq : t / k < d.length := by rw [Nat.div_lt_iff_lt_mul h0]; exact ht
    have hr : t % k < (enc d[t / k]).length := by rw [hk]; exact Nat.mod_lt _ h0
    have hl : (flatK enc k d.toArray).toList[t] = (enc d[t / k])[t % k] := by
      simp [flatK, hq, getElem!_pos, hr]
    rw [hl]
    have key : ∀ (d : List α) (t : Nat) (h : t / k < d.length) (h2 : t < ((d.map enc).flatten).length) (hr : t % k < (enc d[t / k]).length), ((d.map enc).flatten)[t] = (enc d[t / k])[t % k] := by
      intro d
      induction d with
      | nil => intro t h; simp at h
      | cons a d ih =>
        intro t h h2 hr
        simp only [List.map_cons, List.flatten_cons]
        by_cases hlt : t < k
        · rw [List.getElem_append_left (by rw [hk]; exact hlt)]
          simp only [Nat.div_eq_of_lt hlt, Nat.mod_eq_of_lt hlt, List.getElem_cons_zero]
        · have hge : k ≤ t := by omega
          have e1 : t / k = (t - k) / k + 1 := by rw [Nat.div_eq t k, if_pos ⟨h0, hge⟩]
          have e2 : t % k = (t - k) % k := by rw [Nat.mod_eq_sub_mod hge]
          rw [List.getElem_append_right (by rw [hk]; exact hge)]
          simp only [hk, e1, e2, List.getElem_cons_succ]
          have h' : (t - k) / k < d.length := by rw [e1] at h; simpa using h
          exact ih (t - k) h' (by simp [hk] at h2 ⊢; omega) (by rw [hk]; exact Nat.mod_lt _ h0)
    exact (key d t hq h2 hr).symm
theorem lift_ports : ∀ (l : List End), (∀ e ∈ l, 1 ≤ e.Port ∧ e.Port ≤ 4) → ∃ lp : List PEnd, lp.map (·.1) = l := by
  intro l
  induction l with
  | nil => intro _; exact ⟨[], rfl⟩
  | cons e l ih =>
    intro h
    obtain ⟨lp, hlp⟩ := ih fun x hx => h x (by simp [hx])
    exact ⟨⟨e, h e (by simp)⟩ :: lp, by simp [hlp]⟩
set_option maxRecDepth 100000 in
theorem sortEnds (H : Heap) (a : Option Addr) (c : Nat) (l : List End) (hP : ∀ e ∈ l, 1 ≤ e.Port ∧ e.Port ≤ 4) (hl : l.length < 1000000) :
    Fn Try.prog 83 [.slice a l.length c, .func (.func 54) #[] #[]] H [.osl (.slice a l.length c) 2 26 (l.map GoE.enc)] fun H' v out => ∃ l' : List End, l'.Perm l ∧ l'.Pairwise (fun x y => x.Port ≤ y.Port) ∧ out = [.osl (.slice a l'.length c) 2 26 (l'.map GoE.enc)] := by
  intro w hw
  obtain ⟨lp, rfl⟩ := lift_ports l hP
  have hok := hw.ok _ (List.mem_singleton.2 rfl)
  change OSl w (.slice a (lp.map (·.1)).length c) 2 26 ((lp.map (·.1)).map GoE.enc) at hok
  rcases hok with ⟨h1, h2⟩ | ⟨b, cap, arr, rest, h1, hb, hsz, hle, harr, hall⟩
  · simp only [Value.slice.injEq] at h1
    obtain ⟨rfl, h1, rfl⟩ := h1
    have : lp = [] := List.eq_nil_of_length_eq_zero (by simpa using h1)
    subst this
    have hc := AnyF.slices_SortFunc_none Try.sortEnd none 0 (.func (.func 54) #[] #[]) w
    change Calls Try.prog 83 _ _ _ at hc
    refine hc.mono ?_
    rintro e w' ⟨rfl, rfl⟩
    exact ⟨_, rfl, H, _, hw, [], .nil, .nil, rfl⟩
  · simp only [Value.slice.injEq] at h1
    obtain ⟨rfl, _, rfl⟩ := h1
    have henc : (lp.map (·.1)).map GoE.enc = lp.map fun x : PEnd => GoE.enc x.1 := by simp
    have hfl : (flatK (fun x : PEnd => GoE.enc x.1) 2 lp.toArray).toList = ((lp.map (·.1)).map GoE.enc).flatten := by rw [henc]; exact flatK_eq _ 2 (fun _ => rfl) (by omega) lp
    have hblk : b < w.heap.size := (Array.getElem?_eq_some_iff.1 hb).1
    have hH : HoldsK (fun x : PEnd => GoE.enc x.1) 2 w b 0 lp.toArray := fun j hj => by
      have hjl : j < (flatK (fun x : PEnd => GoE.enc x.1) 2 lp.toArray).toList.length := by simpa using hj
      have hget : arr[j]? = some (flatK (fun x : PEnd => GoE.enc x.1) 2 lp.toArray)[j]! := by
        rw [← Array.getElem?_toList, harr, ← hfl, List.getElem?_append_left hjl, List.getElem?_eq_getElem hjl]
        rw [getElem!_pos _ j (by simpa using hj)]; simp
      refine ⟨?_, ?_⟩
      · simp [World.cell?, hb, hget]
      · simp [World.frozen?, hb]
    have eg : ∀ args w, (callFunc 54 args).run Try.prog w = .ok (.enter 54 args) w := enters_of Try.func54 (by kernel_rfl) rfl
    have hcmp : CmpLays Try.prog 54 #[] (fun x : PEnd => GoE.enc x.1) 2 pcf b 0 lp.toArray.size w := fun m os dk _ x y => by
      have := closure54 x.1.Switch x.1.Port y.1.Switch y.1.Port (by have h1 := x.2; have h2 := y.2; exact w64_id (n := x.1.Port - y.1.Port) (by omega) (by omega)) (sortWorldK (fun x : PEnd => GoE.enc x.1) 2 w b 0 m dk os)
      exact this
    have hc := AnyQ.slices_SortFunc Try.sortEnd 2 (fun _ => by kernel_rfl) (fun _ => by kernel_rfl) (fun x : PEnd => GoE.enc x.1) (fun _ => rfl) (fun x v hv => by simp [GoE.enc] at hv; rcases hv with rfl | rfl <;> rfl) pcf pswo 54 #[] b 0 c lp.toArray w eg hcmp hH hblk (by simp at hl ⊢; omega)
    rw [show lp.toArray.size = (lp.map (·.1)).length by simp] at hc
    change Calls Try.prog 83 _ _ _ at hc
    refine hc.mono ?_
    rintro e w' ⟨rfl, d', n, os, hp, hs, rfl⟩
    have hsz' : d'.size = lp.length := by have := hp.1; simpa using this
    have hwh : ∀ (x : Array PEnd), x.size = lp.length → x.extract 0 (lp.map (·.1)).length = x := fun x hx => by
      rw [List.length_map, ← hx]; simp
    have hperm : d'.toList.Perm lp := by
      have := hp.2.2
      rw [hwh d' hsz', hwh lp.toArray (by simp)] at this
      simpa using this
    have hpw : (d'.toList.map (·.1)).Pairwise (fun x y : End => x.Port ≤ y.Port) := by
      rw [List.pairwise_map, List.pairwise_iff_getElem]
      intro i j hi hj hij
      have hi' : i < d'.size := by simpa using hi
      have hj' : j < d'.size := by simpa using hj
      have := hs i j (Nat.zero_le _) hij (by rw [List.length_map, ← hsz']; exact hj')
      rw [getElem!_pos d' j hj', getElem!_pos d' i hi'] at this
      simp [ltOf, pcf] at this
      simp only [Array.getElem_toList]
      omega
    have hfl' : (flatK (fun x : PEnd => GoE.enc x.1) 2 d').toList = ((d'.toList.map (·.1)).map GoE.enc).flatten := by
      have := flatK_eq (fun x : PEnd => GoE.enc x.1) 2 (fun _ => rfl) (by omega) d'.toList
      simpa using this
    have hle' : lp.length ≤ c := by simpa using hle
    have hfs : (flatK (fun x : PEnd => GoE.enc x.1) 2 d').size = lp.length * 2 := by rw [size_flatK, hsz']
    obtain ⟨f1, f2, f3⟩ := putRow_facts id w n b (flatK (fun x : PEnd => GoE.enc x.1) 2 d') os hb (by rw [hfs, hsz]; omega)
    have f4 : (sortWorldK (fun x : PEnd => GoE.enc x.1) 2 w b 0 n d' os).os = w.os ∧ (sortWorldK (fun x : PEnd => GoE.enc x.1) 2 w b 0 n d' os).tape = w.tape ∧ (sortWorldK (fun x : PEnd => GoE.enc x.1) 2 w b 0 n d' os).output = w.output := ⟨rfl, rfl, rfl⟩
    change (sortWorldK (fun x : PEnd => GoE.enc x.1) 2 w b 0 n d' os).heap[b]? = _ at f1
    change ∀ k, k < w.heap.size → k ≠ b → (sortWorldK (fun x : PEnd => GoE.enc x.1) 2 w b 0 n d' os).heap[k]? = _ at f2
    change _ ≤ (sortWorldK (fun x : PEnd => GoE.enc x.1) 2 w b 0 n d' os).heap.size at f3
    generalize sortWorldK (fun x : PEnd => GoE.enc x.1) 2 w b 0 n d' os = W at f1 f2 f3 f4
    rw [List.map_id, hfl', hfs] at f1
    generalize hl2 : d'.toList.map (·.1) = l2 at hpw f1
    have hpl2 : l2.Perm (lp.map (·.1)) := by rw [← hl2]; exact hperm.map _
    have hlen2 : l2.length = lp.length := by have := hpl2.length_eq; simpa using this
    refine ⟨_, rfl, H, [.osl (.slice (some ⟨b, 0, none⟩) l2.length c) 2 26 (l2.map GoE.enc)], ?_, l2, hpl2, hpw, rfl⟩
    have hI := hw.write (w' := { w with heap := w.heap.setIfInBounds b (.cells ((l2.map GoE.enc).flatten ++ List.drop (lp.length * 2) arr.toList).toArray 26 (0, 0)) }) (i := 0) (b := b) (r' := .osl (.slice (some ⟨b, 0, none⟩) l2.length c) 2 26 (l2.map GoE.enc)) rfl (by simp [Res.ids]) rfl
      (fun k hk => by simp [Ne.symm hk]) (by simp) rfl rfl rfl (.inr ⟨b, c, ((l2.map GoE.enc).flatten ++ List.drop (lp.length * 2) arr.toList).toArray, List.drop (lp.length * 2) arr.toList, by simp, by simp [hblk], by
        rw [List.size_toArray, List.length_append, length_flatten (sz := 2) (fun x hx => by obtain ⟨y, _, rfl⟩ := List.mem_map.1 hx; rfl), List.length_map, hlen2, List.length_drop]; have h3 : arr.toList.length = c * 2 := by simpa using hsz
        rw [h3]; omega, by rw [List.length_map, hlen2]; exact hle', rfl, by intro x hx; obtain ⟨y, _, rfl⟩ := List.mem_map.1 hx; exact ⟨rfl, rfl⟩⟩)
    refine hI.extend (fun k hk => ?_) (by simpa using f3) f4.1 f4.2.1 f4.2.2
    have hk' : k < w.heap.size := by simpa using hk
    by_cases hkb : k = b
    · subst hkb; rw [f1]; simp [hblk]
    · rw [f2 k hk' hkb]; simp [Ne.symm hkb]
end Go.Cat.G3
