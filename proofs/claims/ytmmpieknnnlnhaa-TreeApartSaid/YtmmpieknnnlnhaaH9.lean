/- A text of the proof of the seat's laws: a step logic over the machine, or pure functions that the Go functions come to. No condition. -/
import Derived.Test.YtmmpieknnnlnhaaP3
import Derived.Test.YtmmpieknnnlnhaaH7
import Derived.Test.YtmmpieknnnlnhaaSorts2
import Derived.Test.YtmmpieknnnlnhaaCore1
namespace Go.Cat.G3
open Go Go.Cat Go.Proofs Go.Shelf Go.Sort Go.RowKit Go.Lib
set_option linter.unusedVariables false
set_option linter.unusedSimpArgs false
def slices_Sort (k : Nat) (x0 : List Int) : Option (List Int) := if x0.length < 1000000 then some (isort x0) else none
theorem merge_isort (l : List Int) : l.mergeSort (fun x y => decide (x ≤ y)) = isort l := by
  have hp := (List.mergeSort_perm l (fun x y => decide (x ≤ y))).trans (isort_perm l).symm
  have hs := List.pairwise_mergeSort (le := fun x y : Int => decide (x ≤ y)) (by intro a b c; simp; omega) (by intro a b; simp; omega) l
  exact List.Perm.eq_of_pairwise (le := fun x y : Int => x ≤ y) (by intro a b _ _ h1 h2; omega) (hs.imp (by simp)) (isort_sorted l) hp
theorem slices_Sort_ok (k : Nat) (H : Heap) (x0 : List Int) (a0 : Option Addr) (c0 : Nat) {r : List Int} (hr : slices_Sort k x0 = some r) :
    Fn Try.prog 59 [.slice a0 x0.length c0] H [.osl (.slice a0 x0.length c0) 1 3 (x0.map GoE.enc)] fun H' v out => v = .tuple #[] ∧ out = [.osl (.slice a0 r.length c0) 1 3 (r.map GoE.enc)] ∧ r.length = x0.length := by
  unfold slices_Sort at hr
  split at hr
  · rename_i hl
    cases hr
    have hlen : (isort x0).length = x0.length := (isort_perm x0).length_eq
    intro w hw
    refine (sortIntsV H a0 c0 x0 hl w hw).mono ?_
    rintro e w' ⟨v, he, H', out, hI, hv, l', hl', ho⟩
    rw [merge_isort] at hl'
    subst hl'
    exact ⟨v, he, H', out, hI, hv, ho, hlen⟩
  · cases hr
instance : Inhabited End := ⟨⟨0, 0⟩⟩
def slices_Reverse_End (k : Nat) (x0 : List End) : Option (List End) := if x0.length < 1000000 then some x0.reverse else none
set_option maxRecDepth 100000 in
theorem slices_Reverse_End_ok (k : Nat) (H : Heap) (x0 : List End) (a0 : Option Addr) (c0 : Nat) {r : List End} (hr : slices_Reverse_End k x0 = some r) :
    Fn Try.prog 74 [.slice a0 x0.length c0] H [.osl (.slice a0 x0.length c0) 2 26 (x0.map GoE.enc)] fun H' v out => v = .tuple #[] ∧ out = [.osl (.slice a0 r.length c0) 2 26 (r.map GoE.enc)] ∧ r.length = x0.length := by
  unfold slices_Reverse_End at hr
  split at hr
  rotate_left
  · cases hr
  rename_i hl
  cases hr
  intro w hw
  have hok := hw.ok _ (List.mem_singleton.2 rfl)
  change OSl w (.slice a0 x0.length c0) 2 26 (x0.map GoE.enc) at hok
  rcases hok with ⟨h1, h2⟩ | ⟨b, cap, arr, rest, h1, hb, hsz, hle, harr, hall⟩
  · simp only [Value.slice.injEq] at h1
    obtain ⟨rfl, h1, rfl⟩ := h1
    have : x0 = [] := List.eq_nil_of_length_eq_zero h1
    subst this
    have hc := AnyQ.slices_Reverse_empty Try.revEnd none 0 w
    change Calls Try.prog 74 _ _ _ at hc
    refine hc.mono ?_
    rintro e w' ⟨rfl, rfl⟩
    exact ⟨_, rfl, H, _, hw, rfl, rfl, rfl⟩
  · simp only [Value.slice.injEq] at h1
    obtain ⟨rfl, _, rfl⟩ := h1
    have hfl : (flatK (GoE.enc : End → List Value) 2 x0.toArray).toList = (x0.map GoE.enc).flatten := flatK_eq _ 2 (fun _ => rfl) (by omega) x0
    have hblk : b < w.heap.size := (Array.getElem?_eq_some_iff.1 hb).1
    have hH : HoldsK (GoE.enc : End → List Value) 2 w b 0 x0.toArray := fun j hj => by
      have hjl : j < (flatK (GoE.enc : End → List Value) 2 x0.toArray).toList.length := by simpa using hj
      have hget : arr[j]? = some (flatK (GoE.enc : End → List Value) 2 x0.toArray)[j]! := by
        rw [← Array.getElem?_toList, harr, ← hfl, List.getElem?_append_left hjl, List.getElem?_eq_getElem hjl]
        rw [getElem!_pos _ j (by simpa using hj)]; simp
      refine ⟨?_, ?_⟩
      · simp [World.cell?, hb, hget]
      · simp [World.frozen?, hb]
    have hc := AnyQ.slices_Reverse Try.revEnd 2 (fun _ => by kernel_rfl) (fun _ => by kernel_rfl) (GoE.enc : End → List Value) (fun _ => rfl) (fun x v hv => by simp [GoE.enc] at hv; rcases hv with rfl | rfl <;> rfl) b 0 c0 x0.toArray w hH (by simp; omega)
    rw [show x0.toArray.size = x0.length by simp] at hc
    change Calls Try.prog 74 _ _ _ at hc
    refine hc.mono ?_
    rintro e w' ⟨rfl, n, rfl⟩
    have hsz' : x0.toArray.reverse.size = x0.length := by simp
    have hfl' : (flatK (GoE.enc : End → List Value) 2 x0.toArray.reverse).toList = (x0.reverse.map GoE.enc).flatten := by
      have := flatK_eq (GoE.enc : End → List Value) 2 (fun _ => rfl) (by omega) x0.reverse
      simpa using this
    have hle' : x0.length ≤ c0 := by simpa using hle
    have hfs : (flatK (GoE.enc : End → List Value) 2 x0.toArray.reverse).size = x0.length * 2 := by rw [size_flatK, hsz']
    obtain ⟨f1, f2, f3⟩ := putRow_facts id w n b (flatK (GoE.enc : End → List Value) 2 x0.toArray.reverse) #[] hb (by rw [hfs, hsz]; omega)
    rw [grow_empty] at f1 f2 f3
    have f4 : (putRowK (GoE.enc : End → List Value) 2 (Sort.ahead w n) b 0 x0.toArray.reverse).os = w.os ∧ (putRowK (GoE.enc : End → List Value) 2 (Sort.ahead w n) b 0 x0.toArray.reverse).tape = w.tape ∧ (putRowK (GoE.enc : End → List Value) 2 (Sort.ahead w n) b 0 x0.toArray.reverse).output = w.output := ⟨rfl, rfl, rfl⟩
    change (putRowK (GoE.enc : End → List Value) 2 (Sort.ahead w n) b 0 x0.toArray.reverse).heap[b]? = _ at f1
    change ∀ k, k < w.heap.size → k ≠ b → (putRowK (GoE.enc : End → List Value) 2 (Sort.ahead w n) b 0 x0.toArray.reverse).heap[k]? = _ at f2
    change _ ≤ (putRowK (GoE.enc : End → List Value) 2 (Sort.ahead w n) b 0 x0.toArray.reverse).heap.size at f3
    generalize putRowK (GoE.enc : End → List Value) 2 (Sort.ahead w n) b 0 x0.toArray.reverse = W at f1 f2 f3 f4
    rw [List.map_id, hfl', hfs] at f1
    have hlen2 : x0.reverse.length = x0.length := by simp
    refine ⟨_, rfl, H, [.osl (.slice (some ⟨b, 0, none⟩) x0.reverse.length c0) 2 26 (x0.reverse.map GoE.enc)], ?_, rfl, rfl, hlen2⟩
    generalize x0.reverse = l2 at f1 hlen2
    have hI := hw.write (w' := { w with heap := w.heap.setIfInBounds b (.cells ((l2.map GoE.enc).flatten ++ List.drop (x0.length * 2) arr.toList).toArray 26 (0, 0)) }) (i := 0) (b := b) (r' := .osl (.slice (some ⟨b, 0, none⟩) l2.length c0) 2 26 (l2.map GoE.enc)) rfl (by simp [Res.ids]) rfl
      (fun k hk => by simp [Ne.symm hk]) (by simp) rfl rfl rfl (.inr ⟨b, c0, ((l2.map GoE.enc).flatten ++ List.drop (x0.length * 2) arr.toList).toArray, List.drop (x0.length * 2) arr.toList, by simp, by simp [hblk], by
        rw [List.size_toArray, List.length_append, length_flatten (sz := 2) (fun x hx => by obtain ⟨y, _, rfl⟩ := List.mem_map.1 hx; rfl), List.length_map, hlen2, List.length_drop]; have h3 : arr.toList.length = c0 * 2 := by simpa using hsz
        rw [h3]; omega, by rw [List.length_map, hlen2]; exact hle', rfl, by intro x hx; obtain ⟨y, _, rfl⟩ := List.mem_map.1 hx; exact ⟨rfl, rfl⟩⟩)
    refine hI.extend (fun k hk => ?_) (by simpa using f3) f4.1 f4.2.1 f4.2.2
    have hk' : k < w.heap.size := by simpa using hk
    by_cases hkb : k = b
    · subst hkb; rw [f1]; simp [hblk]
    · rw [f2 k hk' hkb]; simp [Ne.symm hkb]
end Go.Cat.G3
