/- A text of the proof of the seat's laws: a step logic over the machine, or pure functions that the Go functions come to. No condition. -/
import Derived.Test.YtmmpieknnnlnhaaGreatJ8a
import Derived.Shelf.SlSortCmp.WholeK
import Derived.Shelf.SlSortCmp.NoneTotal
import Derived.Ground.SlsfProg
import Derived.WalkKit
import Derived.Test.YtmmpieknnnlnhaaGreatCore1
import Derived.Test.YtmmpieknnnlnhaaGreatSorts3
set_option linter.unusedVariables false
set_option linter.unusedSimpArgs false
set_option linter.unnecessarySimpa false
namespace Go.Cat.G3
open Go Go.Cat Go.Proofs Go.Shelf Go.Sort Go.RowKit Go.Lib
set_option linter.unusedVariables false
section
open Go.Shelf Go.Sort
theorem Zgm {α : Type} [Inhabited α] (enc : α → List Value) (k : Nat) (hk : ∀ x, (enc x).length = k) (h0 : 0 < k) (d : List α) : (flatK enc k d.toArray).toList = (d.map enc).flatten := by
 apply List.ext_getElem
 ·rw [Array.length_toList, size_flatK, Zch (sz := k) (fun x hx => by obtain ⟨y, _, rfl⟩ := List.mem_map.1 hx; exact hk y)]; simp
 ·intro t h1 h2
  have ht : t < d.length * k := by simpa using h1
  have hq : t / k < d.length := by rw [Nat.div_lt_iff_lt_mul h0]; exact ht
  have hr : t % k < (enc d[t / k]).length := by rw [hk]; exact Nat.mod_lt _ h0
  have hl : (flatK enc k d.toArray).toList[t] = (enc d[t / k])[t % k] := by
   simp [flatK, hq, getElem!_pos, hr]
  rw [hl]
  have key : ∀ (d : List α) (t : Nat) (h : t / k < d.length) (h2 : t < ((d.map enc).flatten).length) (hr : t % k < (enc d[t / k]).length), ((d.map enc).flatten)[t] = (enc d[t / k])[t % k] := by
   intro d
   induction d with
   | nil => intro t h; simp at h
   | cons a d ih =>
    intro t h h2 hr
    simp only [List.map_cons, List.flatten_cons]
    by_cases hlt : t < k
    ·rw [List.getElem_append_left (by rw [hk]; exact hlt)]
     simp only [Nat.div_eq_of_lt hlt, Nat.mod_eq_of_lt hlt, List.getElem_cons_zero]
    ·have hge : k ≤ t := by omega
     have e1 : t / k = (t - k) / k + 1 := by rw [Nat.div_eq t k, if_pos ⟨h0, hge⟩]
     have e2 : t % k = (t - k) % k := by rw [Nat.mod_eq_sub_mod hge]
     rw [List.getElem_append_right (by rw [hk]; exact hge)]
     simp only [hk, e1, e2, List.getElem_cons_succ]
     have h' : (t - k) / k < d.length := by rw [e1] at h; simpa using h
     exact ih (t - k) h' (by simp [hk] at h2 ⊢; omega) (by rw [hk]; exact Nat.mod_lt _ h0)
  exact (key d t hq h2 hr).symm
end
theorem sswo : SWO (ltOf cmpS) := {
 irrefl := fun x => by simp only [ltOf, Zgo, decide_eq_false_iff_not] <;> exact Zfa x
 trans := fun x y z h1 h2 => by simp only [ltOf, Zgo, decide_eq_true_eq] at * <;> exact ZeQ h1 h2
 ntrans := fun x y z h1 h2 => by simp only [ltOf, Zgo, decide_eq_true_eq, decide_eq_false_iff_not] at * <;> (unfold ltS at *; omega) }
theorem Zi0 : ∀ args w, (callFunc 55 args).run Tryz.prog w = .ok (.enter 55 args) w := enters_of Tryz.func55 (by kernel_rfl) rfl
set_option maxRecDepth 100000 in
theorem ZjD (hO : Ziw) (H : Heap) (a : Option Addr) (c : Nat) (l : List Sent) (hl : l.length < 1000000000) :
  Fn Tryz.prog 98 [.slice a l.length c, .func (.func 55) #[] #[]] H [.osl (.slice a l.length c) 4 47 (l.map GoE.enc)] fun H' v out => ∃ l' : List Sent, l'.Perm l ∧ l'.Pairwise (fun x y => ¬ ltS y x) ∧ out = [.osl (.slice a l'.length c) 4 47 (l'.map GoE.enc)] := by
 intro w hw
 have hok := hw.ok _ (List.mem_singleton.2 rfl)
 change OSl w (.slice a l.length c) 4 47 (l.map GoE.enc) at hok
 rcases hok with ⟨h1, h2⟩ | ⟨b, cap, arr, rest, h1, hb, hsz, hle, harr, hall⟩
 ·simp only [Value.slice.injEq] at h1
  obtain ⟨rfl, h1, rfl⟩ := h1
  have : l = [] := List.eq_nil_of_length_eq_zero (by simpa using h1)
  subst this
  have hc := AnyF.slices_SortFunc_none Tryz.sortSent none 0 (.func (.func 55) #[] #[]) w
  change Calls Tryz.prog 98 _ _ _ at hc
  refine hc.mono ?_
  rintro e w' ⟨rfl, rfl⟩
  exact ⟨_, rfl, H, _, hw, [], .nil, .nil, rfl⟩
 ·simp only [Value.slice.injEq] at h1
  obtain ⟨rfl, _, rfl⟩ := h1
  have hfl : (flatK (fun x : Sent => GoE.enc x) 4 l.toArray).toList = (l.map GoE.enc).flatten := Zgm _ 4 (fun _ => rfl) (by omega) l
  have hblk : b < w.heap.size := (Array.getElem?_eq_some_iff.1 hb).1
  have hH : HoldsK (fun x : Sent => GoE.enc x) 4 w b 0 l.toArray := fun j hj => by
   have hjl : j < (flatK (fun x : Sent => GoE.enc x) 4 l.toArray).toList.length := by simpa using hj
   have hget : arr[j]? = some (flatK (fun x : Sent => GoE.enc x) 4 l.toArray)[j]! := by
    rw [← Array.getElem?_toList, harr, ← hfl, List.getElem?_append_left hjl, List.getElem?_eq_getElem hjl]
    rw [getElem!_pos _ j (by simpa using hj)]; simp
   refine ⟨?_, ?_⟩
   ·simp [World.cell?, hb, hget]
   ·simp [World.frozen?, hb]
  have hcmp : CmpLays Tryz.prog 55 #[] (fun x : Sent => GoE.enc x) 4 cmpS b 0 l.toArray.size w := fun m os dk _ x y => by
   refine (hO (hp _) x y _ (ZgB _)).mono ?_
   rintro e w' ⟨v, rfl, H', out, hI, rfl, rfl⟩
   exact ⟨rfl, ZiM hI⟩
  have hc := AnyQ.slices_SortFunc Tryz.sortSent 4 (fun _ => by kernel_rfl) (fun _ => by kernel_rfl) (fun x : Sent => GoE.enc x) (fun _ => rfl) (fun x v hv => by simp [GoE.enc] at hv; rcases hv with rfl | rfl | rfl | rfl <;> rfl) cmpS sswo 55 #[] b 0 c l.toArray w Zi0 hcmp hH hblk (by simp at hl ⊢; omega)
  rw [show l.toArray.size = l.length by simp] at hc
  change Calls Tryz.prog 98 _ _ _ at hc
  refine hc.mono ?_
  rintro e w' ⟨rfl, d', n, os, hp, hs, rfl⟩
  have hsz' : d'.size = l.length := by have := hp.1; simpa using this
  have hwh : ∀ (x : Array Sent), x.size = l.length → x.extract 0 l.length = x := fun x hx => by
   rw [← hx]; simp
  have hperm : d'.toList.Perm l := by
   have := hp.2.2
   rw [hwh d' hsz', hwh l.toArray (by simp)] at this
   simpa using this
  have hpw : d'.toList.Pairwise (fun x y : Sent => ¬ ltS y x) := by
   rw [List.pairwise_iff_getElem]
   intro i j hi hj hij
   have hi' : i < d'.size := by simpa using hi
   have hj' : j < d'.size := by simpa using hj
   have := hs i j (Nat.zero_le _) hij (by rw [← hsz']; exact hj')
   rw [getElem!_pos d' j hj', getElem!_pos d' i hi'] at this
   simp only [ltOf, Zgo, decide_eq_false_iff_not] at this
   simpa using this
  have hfl' : (flatK (fun x : Sent => GoE.enc x) 4 d').toList = (d'.toList.map GoE.enc).flatten := by
   have := Zgm (fun x : Sent => GoE.enc x) 4 (fun _ => rfl) (by omega) d'.toList
   simpa using this
  have hle' : l.length ≤ c := by simpa using hle
  have hfs : (flatK (fun x : Sent => GoE.enc x) 4 d').size = l.length * 4 := by rw [size_flatK, hsz']
  obtain ⟨f1, f2, f3⟩ := Zf6 id w n b (flatK (fun x : Sent => GoE.enc x) 4 d') os hb (by rw [hfs, hsz]; omega)
  have f4 : (sortWorldK (fun x : Sent => GoE.enc x) 4 w b 0 n d' os).os = w.os ∧ (sortWorldK (fun x : Sent => GoE.enc x) 4 w b 0 n d' os).tape = w.tape ∧ (sortWorldK (fun x : Sent => GoE.enc x) 4 w b 0 n d' os).output = w.output ∧ w.drawn ≤ (sortWorldK (fun x : Sent => GoE.enc x) 4 w b 0 n d' os).drawn := ⟨rfl, rfl, rfl, by first | exact Nat.le_refl _ | exact Nat.le_add_right _ _⟩
  change (sortWorldK (fun x : Sent => GoE.enc x) 4 w b 0 n d' os).heap[b]? = _ at f1
  change ∀ k, k < w.heap.size → k ≠ b → (sortWorldK (fun x : Sent => GoE.enc x) 4 w b 0 n d' os).heap[k]? = _ at f2
  change _ ≤ (sortWorldK (fun x : Sent => GoE.enc x) 4 w b 0 n d' os).heap.size at f3
  generalize sortWorldK (fun x : Sent => GoE.enc x) 4 w b 0 n d' os = W at f1 f2 f3 f4
  rw [List.map_id, hfl', hfs] at f1
  generalize hl2 : d'.toList = l2 at hpw f1 hperm
  have hlen2 : l2.length = l.length := hperm.length_eq
  refine ⟨_, rfl, H, [.osl (.slice (some ⟨b, 0, none⟩) l2.length c) 4 47 (l2.map GoE.enc)], ?_, l2, hperm, hpw, rfl⟩
  have hI := hw.write (w' := { w with heap := w.heap.setIfInBounds b (.cells ((l2.map GoE.enc).flatten ++ List.drop (l.length * 4) arr.toList).toArray 47 (0, 0)) }) (i := 0) (b := b) (r' := .osl (.slice (some ⟨b, 0, none⟩) l2.length c) 4 47 (l2.map GoE.enc)) rfl (by simp [Res.ids]) rfl
   (fun k hk => by simp [Ne.symm hk]) (by simp) rfl rfl rfl (.inr ⟨b, c, ((l2.map GoE.enc).flatten ++ List.drop (l.length * 4) arr.toList).toArray, List.drop (l.length * 4) arr.toList, by simp, by simp [hblk], by
    rw [List.size_toArray, List.length_append, Zch (sz := 4) (fun x hx => by obtain ⟨y, _, rfl⟩ := List.mem_map.1 hx; rfl), List.length_map, hlen2, List.length_drop]; have h3 : arr.toList.length = c * 4 := by simpa using hsz
    rw [h3]; omega, by rw [List.length_map, hlen2]; exact hle', rfl, by intro x hx; obtain ⟨y, _, rfl⟩ := List.mem_map.1 hx; exact ⟨rfl, rfl⟩⟩)
  refine hI.extend (fun k hk => ?_) (by simpa using f3) f4.1 f4.2.1 f4.2.2.1 (hdr := f4.2.2.2)
  have hk' : k < w.heap.size := by simpa using hk
  by_cases hkb : k = b
  ·subst hkb; rw [f1]; simp [hblk]
  ·rw [f2 k hk' hkb]; simp [Ne.symm hkb]
theorem ZiY (hO : Ziw) (H : Heap) (a : Option Addr) (c : Nat) (l : List Sent) (hl : l.length < 1000000000) :
  Fn Tryz.prog 98 [.slice a l.length c, .func (.func 55) #[] #[]] H [.osl (.slice a l.length c) 4 47 (l.map GoE.enc)] fun H' v out => out = [.osl (.slice a (Zdm l).length c) 4 47 ((Zdm l).map GoE.enc)] :=
 (ZjD hO H a c l hl).mono fun H' v out _ ⟨l', hp, hs, ho⟩ => by rw [← Zgj hs hp]; exact ho
end Go.Cat.G3

