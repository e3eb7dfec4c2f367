/- A text of the proof of the seat's laws: a step logic over the machine, or pure functions that the Go functions come to. No condition. -/
import Derived.Test.YtmmpieknnnlnhaaGreatJ5
namespace Go.Cat.G3
open Go Go.Cat Go.Proofs
set_option linter.unusedVariables false
set_option linter.unusedSimpArgs false
instance inJ6_161 : TFun Tryz.prog 52 := ⟨_, (by kernel_rfl : Tryz.prog.funcs[52]? = some Tryz.f52), by decide, rfl⟩
def mu (es : Array MapEntry) (seen : Array Nat) : Nat := (es.toList.filter fun e => !seen.contains e.born).length
theorem Zks {γ : Type} {p q : γ → Bool} : ∀ {L : List γ}, (∀ x ∈ L, p x = true → q x = true) → (∃ x ∈ L, q x = true ∧ p x = false) → (L.filter p).length < (L.filter q).length := by
 intro L
 induction L with
 | nil => rintro _ ⟨x, h, _⟩; cases h
 | cons a L ih =>
  intro h1 h2
  have hle : ∀ {L : List γ}, (∀ x ∈ L, p x = true → q x = true) → (L.filter p).length ≤ (L.filter q).length := by
   intro L
   induction L with
   | nil => intro _; simp
   | cons b L ih2 =>
    intro h
    have := ih2 fun x hx => h x (by simp [hx])
    have hb := h b (by simp)
    rw [List.filter_cons, List.filter_cons]
    cases hp : p b <;> cases hq : q b <;> simp_all <;> omega
  have hL := hle (L := L) fun x hx => h1 x (by simp [hx])
  obtain ⟨x, hx, hq, hp⟩ := h2
  rw [List.filter_cons, List.filter_cons]
  rcases List.mem_cons.1 hx with rfl | hx
  ·simp [hq, hp]; omega
  ·have := ih (fun y hy => h1 y (by simp [hy])) ⟨x, hx, hq, hp⟩
   have ha := h1 a (by simp)
   cases hpa : p a <;> cases hqa : q a <;> simp_all <;> omega
theorem ZjX {es : Array MapEntry} {seen : Array Nat} {i : Nat} {e : MapEntry} (hi : es[i]? = some e) (hs : seen.contains e.born = false) : mu es (seen.push e.born) < mu es seen := by
 refine Zks (fun x _ h => ?_) ⟨e, Array.mem_toList_iff.2 (Array.mem_of_getElem? hi), by simpa using hs, by simp⟩
 simp at h ⊢; exact h.1
theorem Zk6 (es : Array MapEntry) (seen : Array Nat) (i : Nat) : mu (es.eraseIdxIfInBounds i) seen ≤ mu es seen := by
 unfold mu
 have h : (es.eraseIdxIfInBounds i).toList = es.toList.eraseIdx i := by simp
 rw [h]
 exact ((List.eraseIdx_sublist _ _).filter _).length_le
theorem ZiT {H : Heap} {es : Array MapEntry} {c : Nat} {l : List (Sent × S213)} (hR : MapR true true H es c l) {i j : Nat} {e e' : MapEntry} (hi : es[i]? = some e) (hj : es[j]? = some e') (h : e.born = e'.born) : i = j := by
 rcases Nat.lt_trichotomy i j with k | k | k
 ·have := hR.inc i j e e' k hi hj; omega
 ·exact k
 ·have := hR.inc j i e' e k hj hi; omega
structure DInv (l0 : List (Sent × S213)) (seen : Array Nat) (es : Array MapEntry) (l : List (Sent × S213)) : Prop where
 nd : (l.map (·.1)).Nodup
 sub : ∀ y, y ∈ l.map (·.1) → y ∈ l0.map (·.1)
 keep : ∀ y, y ∈ l0.map (·.1) → y.Port ≠ -1 → y ∈ l.map (·.1)
 seen : ∀ (i : Nat) (e : MapEntry) (p : Sent × S213), es[i]? = some e → l[i]? = some p → seen.contains e.born = true → p.1.Port ≠ -1
theorem DInv.stay {H : Heap} {l0 l : List (Sent × S213)} {seen : Array Nat} {es : Array MapEntry} {c : Nat} (h : DInv l0 seen es l) (hR : MapR true true H es c l) {i : Nat} {e : MapEntry} {p : Sent × S213} (hi : es[i]? = some e) (hp : l[i]? = some p) (hf : p.1.Port ≠ -1) : DInv l0 (seen.push e.born) es l := by
 refine ⟨h.nd, h.sub, h.keep, fun j e' p' he hp' hs => ?_⟩
 simp at hs
 rcases hs with hs | hs
 ·exact h.seen j e' p' he hp' (by simpa using hs)
 ·have := ZiT hR he hi hs
  subst this
  rw [hp] at hp'; cases hp'; exact hf
theorem DInv.drop {H : Heap} {l0 l : List (Sent × S213)} {seen : Array Nat} {es : Array MapEntry} {c : Nat} (h : DInv l0 seen es l) (hR : MapR true true H es c l) {i : Nat} {e : MapEntry} {p : Sent × S213} (hi : es[i]? = some e) (hp : l[i]? = some p) (hf : p.1.Port = -1) : DInv l0 (seen.push e.born) (es.eraseIdxIfInBounds i) (l.eraseIdx i) := by
 have hlt := (List.getElem?_eq_some_iff.1 hp).1
 have hsplit : l = l.take i ++ p :: l.drop (i + 1) := by
  have h1 : l.drop i = p :: l.drop (i + 1) := by rw [List.drop_eq_getElem_cons hlt, (List.getElem?_eq_some_iff.1 hp).2]
  rw [← h1, List.take_append_drop]
 have her : l.eraseIdx i = l.take i ++ l.drop (i + 1) := List.eraseIdx_eq_take_drop_succ ..
 have hnd := h.nd
 rw [hsplit] at hnd
 simp only [List.map_append, List.map_cons, List.nodup_append, List.nodup_cons, List.mem_cons] at hnd
 have hmem : ∀ y, y ∈ l.map (·.1) ↔ y = p.1 ∨ y ∈ (l.eraseIdx i).map (·.1) := fun y => by
  rw [her]
  conv => lhs; rw [hsplit]
  simp only [List.map_append, List.map_cons, List.mem_append, List.mem_cons]
  constructor
  ·rintro (h | h | h)
   ·exact .inr (.inl h)
   ·exact .inl h
   ·exact .inr (.inr h)
  ·rintro (h | h | h)
   ·exact .inr (.inl h)
   ·exact .inl h
   ·exact .inr (.inr h)
 have hnot : p.1 ∉ (l.eraseIdx i).map (·.1) := by
  rw [her]
  simp only [List.map_append, List.mem_append]
  rintro (k | k)
  ·exact hnd.2.2 _ k _ (.inl rfl) rfl
  ·exact hnd.2.1.1 k
 refine ⟨?_, fun y hy => h.sub y ((hmem y).2 (.inr hy)), fun y hy hf' => ?_, fun j e' p' he hp' hs => ?_⟩
 ·rw [her]
  simp only [List.map_append, List.nodup_append]
  exact ⟨hnd.1, hnd.2.1.2, fun a ha b hb => hnd.2.2 a ha b (.inr hb)⟩
 ·rcases (hmem y).1 (h.keep y hy hf') with rfl | k
  ·exact absurd hf hf'
  ·exact k
 ·have hp'm : p'.1 ∈ (l.eraseIdx i).map (·.1) := List.mem_map.2 ⟨p', List.mem_of_getElem? hp', rfl⟩
  rw [ZfJ] at he
  rw [List.getElem?_eraseIdx] at hp'
  simp at hs
  have key : ∀ k : Nat, es[k]? = some e' → l[k]? = some p' → p'.1.Port ≠ -1 := fun k hk hkp => by
   rcases hs with hs | hs
   ·exact h.seen k e' p' hk hkp (by simpa using hs)
   ·have := ZiT hR hk hi hs
    subst this
    rw [hp] at hkp; cases hkp
    exact absurd hp'm hnot
  split at he
  ·rename_i hji
   rw [if_pos hji] at hp'
   exact key j he hp'
  ·rename_i hji
   rw [if_neg hji] at hp'
   exact key (j + 1) he hp'
theorem ZjY {l : List (Sent × S213)} (hn : (l.map (·.1)).Nodup) {i : Nat} {p : Sent × S213} (hp : l[i]? = some p) : midx l p.1 = some i := by
 cases hm : midx l p.1 with
 | none =>
  have : mhas l p.1 = true := ZiI.2 (List.mem_map.2 ⟨p, List.mem_of_getElem? hp, rfl⟩)
  have h2 : mput l p.1 p.2 = l ++ [(p.1, p.2)] := ZeO hm
  exfalso
  have h3 := (Zgy (q := p.1) (v := p.2) hn).1
  rw [h2] at h3
  simp only [List.map_append, List.map_cons, List.map_nil, List.nodup_append] at h3
  exact h3.2.2 p.1 (List.mem_map.2 ⟨p, List.mem_of_getElem? hp, rfl⟩) p.1 (by simp) rfl
 | some j =>
  obtain ⟨v, hj, _⟩ := ZdS hm
  have hil := (List.getElem?_eq_some_iff.1 hp)
  have hjl := (List.getElem?_eq_some_iff.1 hj)
  have e1 : (l.map (·.1))[i]'(by simpa using hil.1) = p.1 := by simp [hil.2]
  have e2 : (l.map (·.1))[j]'(by simpa using hjl.1) = p.1 := by simp [hjl.2]
  rcases Nat.lt_trichotomy i j with k | k | k
  ·exact absurd (e1.trans e2.symm) (List.pairwise_iff_getElem.1 hn i j _ _ k)
  ·rw [k]
  ·exact absurd (e2.trans e1.symm) (List.pairwise_iff_getElem.1 hn j i _ _ k)
set_option maxRecDepth 100000 in
set_option maxHeartbeats 4000000 in
theorem ZnN (H : Heap) (b : Nat) (es : Array MapEntry) (c : Nat) (l : List (Sent × S213)) (hR : MapR true true H es c l) (hn : (l.map (·.1)).Nodup) :
  Fn Tryz.prog 51 [.map (some b), .func (.func 52) #[] #[]] H [.blk b (.map es c)] fun H' v out => v = .tuple #[] ∧ ∃ (es' : Array MapEntry) (l' : List (Sent × S213)), out = [Res.blk b (.map es' c)] ∧ MapR true true H' es' c l' ∧ (l'.map (·.1)).Nodup ∧ ∀ y, y ∈ l'.map (·.1) ↔ y ∈ l.map (·.1) ∧ y.Port ≠ -1 := by
 refine Zaq (ρ := Unit) (args := [.map (some b), .func (.func 52) #[] #[]]) (n := 19) (Φ := fun _ H' v out => v = .tuple #[] ∧ ∃ (es' : Array MapEntry) (l' : List (Sent × S213)), out = [Res.blk b (.map es' c)] ∧ MapR true true H' es' c l' ∧ (l'.map (·.1)).Nodup ∧ ∀ y, y ∈ l'.map (·.1) ↔ y ∈ l.map (·.1) ∧ y.Port ≠ -1) (m := some ()) (r := ()) rfl ZnG rfl rfl rfl fun w => ?_
 refine Zae <| Zaa <| Zad rfl ?_
 refine ZiE (kt := 47) (et := 117) rfl 0 rfl fun r => ?_
 refine Zac ?_
 refine Zag (env' := [(0, .map (some b)), (1, .func (.func 52) #[] #[]), (7, .pointer (some ⟨r, 0, none⟩))]) (by exact ⟨rfl, rfl, rfl, trivial⟩) ?_
 refine Zat ?_
 refine Zg7 (σ := Array Nat × Array MapEntry × List (Sent × S213)) (fun s env own H' => env = [(0, .map (some b)), (1, .func (.func 52) #[] #[]), (7, .pointer (some ⟨r, 0, none⟩))] ∧ own = [Res.blk b (.map s.2.1 c), Res.blk r (.mapIter (some b) c s.1 c)] ∧ Hle H H' ∧ MapR true true H' s.2.1 c s.2.2 ∧ DInv l s.1 s.2.1 s.2.2)
  (fun s => mu s.2.1 s.1) ?_ (#[], es, l) ⟨rfl, rfl, .refl _, hR, ⟨hn, fun _ h => h, fun _ h _ => h, fun _ _ _ _ _ h => by simp at h⟩⟩
 rintro ⟨seen, es', l'⟩ _ _ H2 ⟨rfl, rfl, hle2, hR', hD⟩ ih
 refine Zae <| Zaa ?_
 refine Zmx 1 rfl rfl 0 rfl hR' (fun hall => ?_) (fun i e p v hi hs hp hv => ?_)
 ·refine ZcI rfl rfl <| Zac <| Zae ?_
  refine Zek rfl rfl ?_
  refine Zbf rfl ?_
  exact ZgT (xs := []) (vs := []) [Res.blk b (.map es' c)] ZnG rfl trivial (.cons_cons _ (.cons _ .slnil)) ⟨rfl, es', l', rfl, hR', hD.nd, fun y => by
   constructor
   ·intro hy
    refine ⟨hD.sub y hy, ?_⟩
    obtain ⟨p, hp, rfl⟩ := List.mem_map.1 hy
    obtain ⟨i, hi⟩ := List.getElem?_of_mem hp
    have hil : i < es'.size := by rw [hR'.len]; exact (List.getElem?_eq_some_iff.1 hi).1
    have hes : es'[i]? = some es'[i] := Array.getElem?_eq_getElem hil
    exact hD.seen i _ p hes hi (hall i _ hes)
   ·rintro ⟨hy, hf⟩
    exact hD.keep y hy hf⟩
 ·refine ZcI rfl rfl <| Zac <| Zae ?_
  refine ZfQ rfl rfl ?_
  refine Zar <| Zat <| Zae <| Zaa ?_
  refine ZbL (own' := [Res.blk b (.map es' c), Res.blk r (.mapIter (some b) c (seen.push e.born) c)]) rfl ?_
  refine Zk3 1 rfl rfl 0 rfl hR' hi hp fun v2 vs2 hv2 hrep2 => ?_
  cases hv2
  cases hrep2
  refine ZcI rfl rfl <| ZcI rfl rfl ?_
  refine Zbw fun b4 => ?_
  refine Zbw fun b5 => ?_
  refine o_st 2 rfl rfl rfl rfl rfl rfl ?_
  refine o_st 3 rfl rfl rfl rfl rfl rfl ?_
  refine Zac ?_
  refine ZbL (own' := [Res.blk b (.map es' c), Res.blk r (.mapIter (some b) c (seen.push e.born) c), Res.blk b4 (Zak [.int .i64 p.1.Port, .int .u8 p.1.H.e0, .int .u8 p.1.H.e1, .int .u8 p.1.H.e2] 47), Res.blk b5 (Zak [] 117)]) rfl ?_
  refine Zae <| Zaa <| Zad rfl <| o_ld 2 rfl rfl rfl <| o_ld 3 rfl rfl rfl ?_
  refine Zas rfl rfl (ZgA 0 _ p.1 p.2 rfl) ?_
  refine Zac ?_
  refine Zcw (p.1.Port == (-1)) (fun hc => ?_) (fun hc => ?_)
  ·have hf : p.1.Port = -1 := by simpa using hc
   refine ZfQ rfl hc ?_
   refine Zaa <| Zad rfl <| o_ld 2 rfl rfl rfl ?_
   refine Znn (kt := 47) (et := 117) 0 rfl rfl hR' p.1 rfl (fun hm => by rw [ZjY hD.nd hp] at hm; cases hm) (fun i' hm => ?_)
   obtain rfl : i = i' := by rw [ZjY hD.nd hp] at hm; exact Option.some.inj hm
   refine Zac <| Zav ?_
   refine Zag (env' := [(0, .map (some b)), (1, .func (.func 52) #[] #[]), (7, .pointer (some ⟨r, 0, none⟩))]) (by exact ⟨rfl, rfl, rfl, trivial⟩) ?_
   refine Zam (own' := [Res.blk b (.map (es'.eraseIdxIfInBounds i) c), Res.blk r (.mapIter (some b) c (seen.push e.born) c)]) (.cons_cons _ (.cons_cons _ (.cons _ (.cons _ .slnil)))) ?_
   exact ih (seen.push e.born, es'.eraseIdxIfInBounds i, l'.eraseIdx i) _ _ _ (Nat.lt_of_le_of_lt (Zk6 es' _ i) (ZjX hi hs)) ⟨rfl, rfl, hle2, hR'.erase i, hD.drop hR' hi hp hf⟩
  ·have hf : p.1.Port ≠ -1 := by simpa using hc
   refine Zek rfl hc ?_
   refine Zar <| Zav ?_
   refine Zag (env' := [(0, .map (some b)), (1, .func (.func 52) #[] #[]), (7, .pointer (some ⟨r, 0, none⟩))]) (by exact ⟨rfl, rfl, rfl, trivial⟩) ?_
   refine Zam (own' := [Res.blk b (.map es' c), Res.blk r (.mapIter (some b) c (seen.push e.born) c)]) (.cons_cons _ (.cons_cons _ (.cons _ (.cons _ .slnil)))) ?_
   exact ih (seen.push e.born, es', l') _ _ _ (ZjX hi hs) ⟨rfl, rfl, hle2, hR', hD.stay hR' hi hp hf⟩
end Go.Cat.G3

