/- A text of the proof of the seat's laws: a step logic over the machine, or pure functions that the Go functions come to. No condition. -/
import Derived.Test.YtmmpieknnnlnhaaH5
import Derived.Test.YtmmpieknnnlnhaaCore1
import Derived.Test.YtmmpieknnnlnhaaSorts
import Derived.Shelf.SortG.Plain
import Derived.Shelf.SortG.SortNone
import Derived.Ground.SlgnProg
set_option linter.unusedVariables false
set_option linter.unusedSimpArgs false
set_option linter.unnecessarySimpa false
namespace Go.Cat.G3
open Go Go.Cat Go.Proofs Go.Shelf Go.Sort
set_option linter.unusedVariables false
theorem flat_ints (l : List Int) : (l.map GoE.enc).flatten = l.map (Value.int .i64) := by
  induction l with
  | nil => rfl
  | cons x l ih => rw [List.map_cons, List.flatten_cons, ih]; rfl
set_option maxRecDepth 100000 in
theorem sortIntsV (H : Heap) (a : Option Addr) (c : Nat) (l : List Int) (hl : l.length < 1000000) : Fn Try.prog 59 [.slice a l.length c] H [.osl (.slice a l.length c) 1 3 (l.map GoE.enc)] fun H' v out => v = .tuple #[] ∧ ∃ l' : List Int, l' = l.mergeSort (fun x y => decide (x ≤ y)) ∧ out = [.osl (.slice a l'.length c) 1 3 (l'.map GoE.enc)] := by
  intro w hw
  have hok : OSl w (.slice a l.length c) 1 3 (l.map GoE.enc) := hw.ok (.osl (.slice a l.length c) 1 3 (l.map GoE.enc)) (by simp)
  rcases hok with ⟨h1, h2⟩ | ⟨b, cap, arr, rest, h1, hb, hsz, hle, harr, hall⟩
  · simp only [Value.slice.injEq] at h1
    obtain ⟨rfl, h1, rfl⟩ := h1
    have : l = [] := List.eq_nil_of_length_eq_zero h1
    subst this
    have hc := AnyG.slices_Sort_int_none Try.sortInt none 0 w
    change Calls Try.prog 59 _ _ _ at hc
    refine hc.mono ?_
    rintro e w' ⟨rfl, rfl⟩
    exact ⟨_, rfl, H, _, hw, rfl, [], by simp, rfl⟩
  · simp only [Value.slice.injEq] at h1
    obtain ⟨rfl, _, rfl⟩ := h1
    rw [flat_ints] at harr
    have hblk : b < w.heap.size := (Array.getElem?_eq_some_iff.1 hb).1
    have hlen : l.length ≤ arr.size := by
      have := congrArg List.length harr
      simp at this; omega
    have hH : Holds (Value.int .i64) w b 0 l.toArray := fun j hj => by
      have hj' : j < l.length := by simpa using hj
      have hget : arr[j]? = some (Value.int .i64 l[j]) := by
        rw [← Array.getElem?_toList, harr, List.getElem?_append_left (by simpa using hj')]
        simp [hj']
      refine ⟨?_, ?_⟩
      · simp [World.cell?, hb, hget, getElem!_pos, hj']
      · simp [World.frozen?, hb]
    have hc := AnyG.slices_Sort_int Try.sortInt b 0 c l w hH hblk (by omega)
    change Calls Try.prog 59 _ _ _ at hc
    refine hc.mono ?_
    rintro e w' ⟨rfl, n, os, rfl⟩
    generalize hl2 : l.mergeSort (fun x y => decide (x ≤ y)) = l2
    have hlen2 : l2.length = l.length := by rw [← hl2]; simp
    obtain ⟨f1, f2, f3⟩ := putRow_facts (Value.int .i64) w n b l2.toArray os hb (by simp; omega)
    have f4 : (grow (putRow (Value.int .i64) (Go.Sort.ahead w n) b 0 l2.toArray) os).os = w.os ∧ (grow (putRow (Value.int .i64) (Go.Sort.ahead w n) b 0 l2.toArray) os).tape = w.tape ∧ (grow (putRow (Value.int .i64) (Go.Sort.ahead w n) b 0 l2.toArray) os).output = w.output := ⟨rfl, rfl, rfl⟩
    refine ⟨_, rfl, H, [.osl (.slice (some ⟨b, 0, none⟩) l2.length c) 1 3 (l2.map GoE.enc)], ?_, rfl, l2, rfl, rfl⟩
    generalize grow (putRow (Value.int .i64) (Go.Sort.ahead w n) b 0 l2.toArray) os = W at f1 f2 f3 f4
    have hI := hw.write (w' := { w with heap := w.heap.setIfInBounds b (.cells (List.map (Value.int .i64) l2.toArray.toList ++ List.drop l2.toArray.size arr.toList).toArray 3 (0, 0)) }) (i := 0) (b := b) (r := .osl (.slice (some ⟨b, 0, none⟩) l.length c) 1 3 (l.map GoE.enc)) (r' := .osl (.slice (some ⟨b, 0, none⟩) l2.length c) 1 3 (l2.map GoE.enc)) rfl (by simp [Res.ids]) rfl
      (fun k hk => by simp [Ne.symm hk]) (by simp) rfl rfl rfl (.inr ⟨b, c, (List.map (Value.int .i64) l2 ++ List.drop l2.length arr.toList).toArray, List.drop l2.length arr.toList, by simp, by simp [hblk], by simp at hsz hle ⊢; omega, by simp at hle ⊢; omega, by rw [flat_ints], by intro x hx; obtain ⟨y, _, rfl⟩ := List.mem_map.1 hx; exact ⟨rfl, rfl⟩⟩)
    refine hI.extend (fun k hk => ?_) (by simpa using f3) f4.1 f4.2.1 f4.2.2
    have hk' : k < w.heap.size := by simpa using hk
    by_cases hkb : k = b
    · subst hkb; rw [f1]; simp [hblk]
    · rw [f2 k hk' hkb]; simp [Ne.symm hkb]
theorem sortInts : SortInts := fun H a c l hl => (sortIntsV H a c l hl).mono fun _ _ _ _ h => h.2
end Go.Cat.G3
