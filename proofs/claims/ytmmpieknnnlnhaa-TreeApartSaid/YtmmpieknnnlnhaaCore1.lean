/- A text of the proof of the seat's laws: a step logic over the machine, or pure functions that the Go functions come to. No condition. -/
import Derived.Test.YtmmpieknnnlnhaaCore0
import Derived.MapKept
import Derived.RangeFuncIn
import Derived.RangeFuncRecord
import Derived.Maps.RangeRun
import Derived.Sort.Row
import Derived.Sort.Grow
import Derived.Deep.Slices
import Derived.ChangeArms
import Derived.OpenShut
import Derived.WalkKit
import Derived.ProofKit
import Derived.ShutString
import Derived.ChangeOld
import Derived.Carry
import Derived.SizedLaws
set_option linter.unusedVariables false
set_option linter.unusedSimpArgs false
set_option linter.unnecessarySimpa false
namespace Go.Cat

/-! ### Maps: rows of pairs -/
def midx {α β : Type} [DecidableEq α] : List (α × β) → α → Option Nat
  | [], _ => none
  | p :: l, k => if k = p.1 then some 0 else (midx l k).map (· + 1)
def mget? {α β : Type} [DecidableEq α] : List (α × β) → α → Option β
  | [], _ => none
  | p :: l, k => if k = p.1 then some p.2 else mget? l k
def mhas {α β : Type} [DecidableEq α] (l : List (α × β)) (k : α) : Bool := (mget? l k).isSome
def mput {α β : Type} [DecidableEq α] : List (α × β) → α → β → List (α × β)
  | [], k, v => [(k, v)]
  | p :: l, k, v => if k = p.1 then (k, v) :: l else p :: mput l k v
def mkE {α : Type} [GoE α] (ag : Bool) (x : α) : Value := mkv ag (GoE.enc x)

structure MapR {α β : Type} [GoE α] [GoT β] (ka va : Bool) (H : Heap) (es : Array MapEntry) (c : Nat) (l : List (α × β)) : Prop where
  len : es.size = l.length
  ent : ∀ (i : Nat) (e : MapEntry) (p : α × β), es[i]? = some e → l[i]? = some p → e.key = mkE ka p.1 ∧ ∃ vs, e.val = mkv va vs ∧ GoT.rep H vs p.2
  born : ∀ (i : Nat) (e : MapEntry), es[i]? = some e → e.born < c
  inc : ∀ (i j : Nat) (e e' : MapEntry), i < j → es[i]? = some e → es[j]? = some e' → e.born < e'.born

class TMap (P : Program) (t kt et : TypeId) : Prop where
  und : P.underlying t = some (.map kt et)
class TKey (P : Program) (kt : TypeId) (ka : Bool) (α : Type) [DecidableEq α] [GoE α] : Prop where
  eq : ∀ (a b : α) w, (Op.equal kt (mkE ka a) (mkE ka b)).run P w = .ok (decide (a = b)) w
  chk : ∀ e (a : α) w, (Instr.checkKey e 10000 kt (mkE ka a)).run P w = .ok () w
  now : ∃ d, P.underlying kt = some d ∧ ((∀ a b : α, Instr.sameNow d (mkE ka a) (mkE ka b) = none) ∨ (∀ a b : α, Instr.sameNow d (mkE ka a) (mkE ka b) = some (decide (a = b))))
  bits : ∀ a : α, Instr.sameBits 10000 (mkE ka a) (mkE ka a) = true

set_option linter.unusedSectionVars false
section find
variable {P : Program} {kt : TypeId} {ka va : Bool} {α β : Type} [DecidableEq α] [GoE α] [GoT β] [K : TKey P kt ka α] {H : Heap}
theorem midx_some {l : List (α × β)} {k : α} {i : Nat} (h : midx l k = some i) : ∃ v, l[i]? = some (k, v) ∧ mget? l k = some v := by
  induction l generalizing i with
  | nil => cases h
  | cons p l ih =>
    simp only [midx] at h
    simp only [mget?]
    split at h
    · rename_i e; cases h; rw [if_pos e]; exact ⟨p.2, by rw [e]; rfl, rfl⟩
    · rename_i e
      rw [if_neg e]
      cases hm : midx l k with
      | none => rw [hm] at h; cases h
      | some j => rw [hm] at h; cases h; obtain ⟨v, h1, h2⟩ := ih hm; exact ⟨v, by simpa using h1, h2⟩
theorem midx_none {l : List (α × β)} {k : α} (h : midx l k = none) : mget? l k = none := by
  induction l with
  | nil => rfl
  | cons p l ih =>
    simp only [midx] at h
    simp only [mget?]
    split at h
    · cases h
    · rename_i e
      rw [if_neg e]
      cases hm : midx l k with
      | none => exact ih hm
      | some j => rw [hm] at h; cases h
theorem run_asking (k : α) : ∀ (es : List MapEntry) (l : List (α × β)) (n : Nat) (w : World), es.length = l.length → (∀ (i : Nat) (e : MapEntry) (p : α × β), es[i]? = some e → l[i]? = some p → e.key = mkE ka p.1) →
    ∃ r, (Instr.findAsking kt (mkE ka k) es n).run P w = .ok r w ∧ ((midx l k = none ∧ r = none) ∨ ∃ i e, midx l k = some i ∧ es[i]? = some e ∧ r = some (n + i, e.val)) := by
  intro es
  induction es with
  | nil => intro l n w hl _; cases l with
    | nil => exact ⟨none, by simp [Instr.findAsking], .inl ⟨rfl, rfl⟩⟩
    | cons => simp at hl
  | cons e es ih =>
    intro l n w hl he
    cases l with
    | nil => simp at hl
    | cons p l =>
      have hk := he 0 e p rfl rfl
      obtain ⟨r, hr, hres⟩ := ih l (n + 1) w (by simpa using hl) (fun i e p h1 h2 => he (i + 1) e p (by simpa using h1) (by simpa using h2))
      rw [Instr.findAsking]
      simp only [hk, Sem.run_bind, K.eq, Result.andThen_ok, midx]
      by_cases hc : k = p.1
      · simp only [hc, decide_true, if_true]
        exact ⟨_, Sem.run_pure .., .inr ⟨0, e, rfl, rfl, rfl⟩⟩
      · simp only [hc, decide_false, Bool.false_eq_true, if_false]
        refine ⟨r, hr, ?_⟩
        rcases hres with ⟨h1, h2⟩ | ⟨i, e', h1, h2, h3⟩
        · exact .inl ⟨by rw [h1]; rfl, h2⟩
        · exact .inr ⟨i + 1, e', by rw [h1]; rfl, by simpa using h2, by rw [h3]; simp; omega⟩
theorem now_none {d : TypeDesc} (hd : ∀ a b : α, Instr.sameNow d (mkE ka a) (mkE ka b) = none) (k : α) (e : MapEntry) (es : List MapEntry) (p : α) (he : e.key = mkE ka p) (n : Nat) : Instr.findNow d (mkE ka k) (e :: es) n = none := by
  rw [Instr.findNow]; simp [he, hd]
theorem now_some {d : TypeDesc} (hd : ∀ a b : α, Instr.sameNow d (mkE ka a) (mkE ka b) = some (decide (a = b))) (k : α) : ∀ (es : List MapEntry) (l : List (α × β)) (n : Nat), es.length = l.length → (∀ (i : Nat) (e : MapEntry) (p : α × β), es[i]? = some e → l[i]? = some p → e.key = mkE ka p.1) →
    ∃ r, Instr.findNow d (mkE ka k) es n = some r ∧ ((midx l k = none ∧ r = none) ∨ ∃ i e, midx l k = some i ∧ es[i]? = some e ∧ r = some (n + i, e.val)) := by
  intro es
  induction es with
  | nil => intro l n hl _; cases l with
    | nil => exact ⟨none, by simp [Instr.findNow], .inl ⟨rfl, rfl⟩⟩
    | cons => simp at hl
  | cons e es ih =>
    intro l n hl he
    cases l with
    | nil => simp at hl
    | cons p l =>
      have hk := he 0 e p rfl rfl
      obtain ⟨r, hr, hres⟩ := ih l (n + 1) (by simpa using hl) (fun i e p h1 h2 => he (i + 1) e p (by simpa using h1) (by simpa using h2))
      rw [Instr.findNow]
      simp only [hk, hd, midx]
      by_cases hc : k = p.1
      · simp only [hc, decide_true, if_true]
        exact ⟨_, rfl, .inr ⟨0, e, rfl, rfl, rfl⟩⟩
      · simp only [hc, decide_false, if_false]
        refine ⟨r, hr, ?_⟩
        rcases hres with ⟨h1, h2⟩ | ⟨i, e', h1, h2, h3⟩
        · exact .inl ⟨by rw [h1]; rfl, h2⟩
        · exact .inr ⟨i + 1, e', by rw [h1]; rfl, by simpa using h2, by rw [h3]; simp; omega⟩
theorem run_find (k : α) {es : Array MapEntry} {c : Nat} {l : List (α × β)} (h : MapR ka va H es c l) (w : World) :
    ∃ r, (Instr.findKey kt (mkE ka k) es.toList).run P w = .ok r w ∧ ((midx l k = none ∧ r = none) ∨ ∃ i e, midx l k = some i ∧ es[i]? = some e ∧ r = some (i, e.val)) := by
  obtain ⟨d, hd, hn⟩ := K.now
  have hl : es.toList.length = l.length := by simpa using h.len
  have he : ∀ (i : Nat) (e : MapEntry) (p : α × β), es.toList[i]? = some e → l[i]? = some p → e.key = mkE ka p.1 := fun i e p h1 h2 => (h.ent i e p (by simpa using h1) h2).1
  have hsome : ∀ r : Option (Nat × Value), ((midx l k = none ∧ r = none) ∨ ∃ i e, midx l k = some i ∧ es.toList[i]? = some e ∧ r = some (0 + i, e.val)) → ((midx l k = none ∧ r = none) ∨ ∃ i e, midx l k = some i ∧ es[i]? = some e ∧ r = some (i, e.val)) := by
    rintro r (h | ⟨i, e, h1, h2, h3⟩)
    · exact .inl h
    · exact .inr ⟨i, e, h1, by simpa using h2, by simpa using h3⟩
  rcases hn with hn | hn
  · unfold Instr.findKey
    rw [Sem.run_bind, run_underlying hd]
    simp only [Result.andThen_ok]
    cases hes : es.toList with
    | nil =>
      have : l = [] := by rw [hes] at hl; exact List.eq_nil_of_length_eq_zero (by simpa using hl.symm)
      subst this
      exact ⟨none, by simp [Instr.findNow], .inl ⟨rfl, rfl⟩⟩
    | cons e0 es0 =>
      have hp : ∃ p, l[0]? = some p := by
        rw [hes] at hl; cases l with
        | nil => simp at hl
        | cons p l => exact ⟨p, rfl⟩
      obtain ⟨p, hp⟩ := hp
      have hk := he 0 e0 p (by rw [hes]; rfl) hp
      rw [now_none hn k e0 es0 p.1 hk]
      simp only []
      rw [← hes]
      obtain ⟨r, h1, h2⟩ := run_asking (P := P) (kt := kt) (ka := ka) k es.toList l 0 w hl he
      exact ⟨r, h1, hsome r h2⟩
  · obtain ⟨r, h1, h2⟩ := now_some (ka := ka) hn k es.toList l 0 hl he
    exact ⟨r, MapKept.run_findKey hd h1, hsome r h2⟩
end find

theorem MapR.nil {α β : Type} [GoE α] [GoT β] {ka va : Bool} {H : Heap} : MapR ka va H #[] 0 ([] : List (α × β)) :=
  ⟨rfl, by simp, by simp, by simp⟩
theorem MapR.mono {α β : Type} [GoE α] [GoT β] {ka va : Bool} {H H' : Heap} {es : Array MapEntry} {c : Nat} {l : List (α × β)} (hle : Hle H H') (h : MapR ka va H es c l) : MapR ka va H' es c l :=
  ⟨h.len, fun i e p h1 h2 => by obtain ⟨a, vs, b, c⟩ := h.ent i e p h1 h2; exact ⟨a, vs, b, GoT.mono hle c⟩, h.born, h.inc⟩

section rules
variable {P : Program} {ρ ρ' τ σ α β : Type} {C : Ctx P ρ} {m m1 m2 : Option τ} {κ : τ → Option ρ} {env : Env} {own : List Res} {H : Heap} {D : List Deferred} {k : Kont} {p : Pos}
variable {ds : List (Option Tmp)} {rem : List Oper} {d : Tmp} {ty : TypeId} {pos : String} {af : Array Edge}
theorem o_mkmap {t : TypeId} (h : ∀ b, Sim C m κ ((d, .map (some b)) :: env) (own ++ [.blk b (.map #[] 0)]) H D (.ops ds rem k)) (hd : Nat.blt d C.n = true := by rfl) :
    Sim C m κ env own H D (.ops ds (⟨some d, .makeMap t none, ty, pos, af, none⟩ :: rem) k) :=
  s_op (fun _ h => by cases h) (fun tm w hE hI => ⟨_, _, _, _, by simp [execOp, Instr.makeMap]; rfl, hI.push _ (.blk w.heap.size (.map #[] 0)) rfl (by exact (MapKept.heap_alloc w _).1), h w.heap.size⟩) hd

theorem o_lkp [DecidableEq α] [GoE α] [GoT β] (j : Nat) {x y : Operand} {t kt et : TypeId} {ka va : Bool} {b c : Nat} {es : Array MapEntry} {l : List (α × β)} {zv : Value} {ok : Bool} [T : TMap P t kt et] [K : TKey P kt ka α] [Z : TZero P et zv]
    (hx : ev env x = some (.map (some b))) (ho : own[j]? = some (.blk b (.map es c))) (hR : MapR ka va H es c l) (q : α) (hy : ev env y = some (mkE ka q))
    (h : ∀ v, (mget? l q = none ∧ v = zv ∨ ∃ r vs, mget? l q = some r ∧ v = mkv va vs ∧ GoT.rep H vs r) → Sim C m κ ((d, bif ok then .tuple #[v, .bool (mhas l q)] else v) :: env) own H D (.ops ds rem k)) (hd : Nat.blt d C.n = true := by rfl) :
    Sim C m κ env own H D (.ops ds (⟨some d, .lookup t x y ok, ty, pos, af, none⟩ :: rem) k) :=
  s_op (fun _ h => by cases h) (fun tm w hE hI => by
    have hb : w.heap[b]? = some (.map es c) := own_ok hI ho
    obtain ⟨r, hr, hres⟩ := run_find (P := P) (kt := kt) q hR w
    rcases hres with ⟨h1, rfl⟩ | ⟨i, e, h1, h2, rfl⟩
    · have hg := midx_none h1
      refine ⟨_, w, own, H, ?_, hI, h zv (.inl ⟨hg, rfl⟩)⟩
      simp only [execOp, Instr.lookup, ev_eval hE hx, ev_eval hE hy, Sem.run_bind, run_underlying T.und, Result.andThen_ok, MapKept.run_getObj_map hb, Sem.run_pure, K.chk, hr, Z.zero]
      cases ok <;> simp [mhas, hg]
    · obtain ⟨v, hlv, hg⟩ := midx_some h1
      obtain ⟨_, vs, hv, hrep⟩ := hR.ent i e _ h2 hlv
      refine ⟨_, w, own, H, ?_, hI, h (mkv va vs) (.inr ⟨v, vs, hg, rfl, hrep⟩)⟩
      simp only [execOp, Instr.lookup, ev_eval hE hx, ev_eval hE hy, Sem.run_bind, run_underlying T.und, Result.andThen_ok, MapKept.run_getObj_map hb, Sem.run_pure, K.chk, hr]
      cases ok <;> simp [mhas, hg, hv]) hd
theorem o_lkpN [DecidableEq α] [GoE α] {x y : Operand} {t kt et : TypeId} {ka : Bool} {zv : Value} {ok : Bool} [T : TMap P t kt et] [K : TKey P kt ka α] [Z : TZero P et zv]
    (hx : ev env x = some (.map none)) (q : α) (hy : ev env y = some (mkE ka q))
    (h : Sim C m κ ((d, bif ok then .tuple #[zv, .bool false] else zv) :: env) own H D (.ops ds rem k)) (hd : Nat.blt d C.n = true := by rfl) :
    Sim C m κ env own H D (.ops ds (⟨some d, .lookup t x y ok, ty, pos, af, none⟩ :: rem) k) :=
  s_op (fun _ h => by cases h) (fun tm w hE hI => by
    obtain ⟨r, hr, hres⟩ := run_find (P := P) (kt := kt) (ka := ka) (va := false) (β := Int) (H := H) q MapR.nil w
    have hr0 : r = none := by
      rcases hres with ⟨_, h⟩ | ⟨i, e, h1, _⟩
      · exact h
      · simp [midx] at h1
    subst hr0
    refine ⟨_, w, own, H, ?_, hI, h⟩
    simp only [execOp, Instr.lookup, ev_eval hE hx, ev_eval hE hy, Sem.run_bind, run_underlying T.und, Result.andThen_ok, Sem.run_pure, K.chk, hr, Z.zero]
    cases ok <;> simp) hd
theorem o_lkpH [DecidableEq α] [GoE α] [GoT β] {x y : Operand} {t kt et : TypeId} {ka va : Bool} {b c : Nat} {es : Array MapEntry} {l : List (α × β)} {zv : Value} {ok : Bool} [T : TMap P t kt et] [K : TKey P kt ka α] [Z : TZero P et zv]
    (hx : ev env x = some (.map (some b))) (ho : H b = some (.map es c)) (hR : MapR ka va H es c l) (q : α) (hy : ev env y = some (mkE ka q))
    (h : ∀ v, (mget? l q = none ∧ v = zv ∨ ∃ r vs, mget? l q = some r ∧ v = mkv va vs ∧ GoT.rep H vs r) → Sim C m κ ((d, bif ok then .tuple #[v, .bool (mhas l q)] else v) :: env) own H D (.ops ds rem k)) (hd : Nat.blt d C.n = true := by rfl) :
    Sim C m κ env own H D (.ops ds (⟨some d, .lookup t x y ok, ty, pos, af, none⟩ :: rem) k) :=
  s_op (fun _ h => by cases h) (fun tm w hE hI => by
    have hb : w.heap[b]? = some (.map es c) := hI.sub _ _ ho
    obtain ⟨r, hr, hres⟩ := run_find (P := P) (kt := kt) q hR w
    rcases hres with ⟨h1, rfl⟩ | ⟨i, e, h1, h2, rfl⟩
    · have hg := midx_none h1
      refine ⟨_, w, own, H, ?_, hI, h zv (.inl ⟨hg, rfl⟩)⟩
      simp only [execOp, Instr.lookup, ev_eval hE hx, ev_eval hE hy, Sem.run_bind, run_underlying T.und, Result.andThen_ok, MapKept.run_getObj_map hb, Sem.run_pure, K.chk, hr, Z.zero]
      cases ok <;> simp [mhas, hg]
    · obtain ⟨v, hlv, hg⟩ := midx_some h1
      obtain ⟨_, vs, hv, hrep⟩ := hR.ent i e _ h2 hlv
      refine ⟨_, w, own, H, ?_, hI, h (mkv va vs) (.inr ⟨v, vs, hg, rfl, hrep⟩)⟩
      simp only [execOp, Instr.lookup, ev_eval hE hx, ev_eval hE hy, Sem.run_bind, run_underlying T.und, Result.andThen_ok, MapKept.run_getObj_map hb, Sem.run_pure, K.chk, hr]
      cases ok <;> simp [mhas, hg, hv]) hd
theorem mput_none {l : List (α × β)} [DecidableEq α] {q : α} {v : β} (h : midx l q = none) : mput l q v = l ++ [(q, v)] := by
  induction l with
  | nil => rfl
  | cons p l ih =>
    simp only [midx] at h
    simp only [mput]
    split at h
    · cases h
    · rename_i e
      rw [if_neg e]
      cases hm : midx l q with
      | none => rw [ih hm]; rfl
      | some j => rw [hm] at h; cases h
theorem mput_some {l : List (α × β)} [DecidableEq α] {q : α} {v : β} {i : Nat} (h : midx l q = some i) : mput l q v = l.set i (q, v) := by
  induction l generalizing i with
  | nil => cases h
  | cons p l ih =>
    simp only [midx] at h
    simp only [mput]
    split at h
    · rename_i e; cases h; rw [if_pos e]; rfl
    · rename_i e
      rw [if_neg e]
      cases hm : midx l q with
      | none => rw [hm] at h; cases h
      | some j => rw [hm] at h; cases h; rw [ih hm]; rfl
theorem MapR.push [GoE α] [GoT β] {ka va : Bool} {c : Nat} {es : Array MapEntry} {l : List (α × β)} (hR : MapR ka va H es c l) (q : α) {vs : List Value} {v : β} (hrep : GoT.rep H vs v) : MapR ka va H (es.push ⟨mkE ka q, mkv va vs, c⟩) (c + 1) (l ++ [(q, v)]) := by
  refine ⟨by simp [hR.len], ?_, ?_, ?_⟩
  · intro i e p h1 h2
    rw [Array.getElem?_push] at h1
    split at h1
    · rename_i hi
      cases h1
      rw [hi, hR.len, List.getElem?_append_right (Nat.le_refl _)] at h2
      simp at h2; subst h2
      exact ⟨rfl, vs, rfl, hrep⟩
    · rename_i hi
      have : i < l.length := by
        have := (Array.getElem?_eq_some_iff.1 h1).1
        rw [← hR.len]; exact this
      rw [List.getElem?_append_left this] at h2
      exact hR.ent i e p h1 h2
  · intro i e h1
    rw [Array.getElem?_push] at h1
    split at h1
    · cases h1; simp
    · have := hR.born i e h1; omega
  · intro i j e e' hij h1 h2
    rw [Array.getElem?_push] at h1 h2
    split at h2
    · cases h2
      split at h1
      · omega
      · exact hR.born i e h1
    · split at h1
      · have := (Array.getElem?_eq_some_iff.1 h2).1; omega
      · exact hR.inc i j e e' hij h1 h2
theorem MapR.set [GoE α] [GoT β] {ka va : Bool} {c : Nat} {es : Array MapEntry} {l : List (α × β)} (hR : MapR ka va H es c l) (i : Nat) (q : α) {vs : List Value} {v : β} (hrep : GoT.rep H vs v) : MapR ka va H (es.modify i fun e => { e with key := mkE ka q, val := mkv va vs }) c (l.set i (q, v)) := by
  have hget : ∀ (j : Nat) e, (es.modify i fun e => { e with key := mkE ka q, val := mkv va vs })[j]? = some e → ∃ e0, es[j]? = some e0 ∧ e.born = e0.born ∧ ((i = j ∧ e.key = mkE ka q ∧ e.val = mkv va vs) ∨ (i ≠ j ∧ e = e0)) := by
    intro j e h
    rw [Array.getElem?_modify] at h
    split at h
    · rename_i hij
      cases h0 : es[j]? with
      | none => rw [h0] at h; cases h
      | some e0 => rw [h0] at h; cases h; exact ⟨e0, rfl, rfl, .inl ⟨hij, rfl, rfl⟩⟩
    · rename_i hij; exact ⟨e, h, rfl, .inr ⟨hij, rfl⟩⟩
  refine ⟨by simp [hR.len], ?_, ?_, ?_⟩
  · intro j e p h1 h2
    obtain ⟨e0, h0, hb, hc⟩ := hget j e h1
    rw [List.getElem?_set] at h2
    rcases hc with ⟨rfl, hk, hv⟩ | ⟨hne, rfl⟩
    · rw [if_pos rfl] at h2
      split at h2
      · cases h2; exact ⟨hk, vs, hv, hrep⟩
      · cases h2
    · rw [if_neg hne] at h2; exact hR.ent j e p h0 h2
  · intro j e h1
    obtain ⟨e0, h0, hb, _⟩ := hget j e h1
    rw [hb]; exact hR.born j e0 h0
  · intro j k e e' hjk h1 h2
    obtain ⟨e0, h0, hb, _⟩ := hget j e h1
    obtain ⟨e0', h0', hb', _⟩ := hget k e' h2
    rw [hb, hb']; exact hR.inc j k e0 e0' hjk h0 h0'
/-- A store into a map of the call's own. -/
theorem o_mup [DecidableEq α] [GoE α] [GoT β] (j : Nat) {x y z : Operand} {t kt et : TypeId} {ka va : Bool} {b c : Nat} {es : Array MapEntry} {l : List (α × β)} [T : TMap P t kt et] [K : TKey P kt ka α]
    (hx : ev env x = some (.map (some b))) (ho : own[j]? = some (.blk b (.map es c))) (hR : MapR ka va H es c l) (q : α) (hy : ev env y = some (mkE ka q)) {vs : List Value} (v : β) (hz : ev env z = some (mkv va vs)) (hrep : GoT.rep H vs v)
    (h : ∀ es' c', MapR ka va H es' c' (mput l q v) → Sim C m κ env (own.set j (.blk b (.map es' c'))) H D (.ops ds rem k)) :
    Sim C m κ env own H D (.ops ds (⟨none, .mapUpdate t x y z, ty, pos, af, none⟩ :: rem) k) := by
  intro r hr w hw tm ht hE
  have hb : w.heap[b]? = some (.map es c) := own_ok hw ho
  obtain ⟨r', hr', hres⟩ := run_find (P := P) (kt := kt) q hR w
  have key : ∃ es' c', MapR ka va H es' c' (mput l q v) ∧ (execOp (evalT tm) ⟨none, .mapUpdate t x y z, ty, pos, af, none⟩).run P w = .ok .skip { w with heap := w.heap.setIfInBounds b (.map es' c') } := by
    rcases hres with ⟨h1, rfl⟩ | ⟨i, e, h1, h2, rfl⟩
    · refine ⟨_, _, by rw [mput_none h1]; exact hR.push q hrep, ?_⟩
      simp only [execOp, Instr.mapUpdate, ev_eval hE hx, ev_eval hE hy, ev_eval hE hz, Sem.run_bind, run_underlying T.und, Result.andThen_ok, MapKept.run_getObj_map hb, K.chk, hr', MapKept.run_setObj_map _ hb, Sem.run_pure]
    · refine ⟨_, _, by rw [mput_some h1]; exact hR.set i q hrep, ?_⟩
      obtain ⟨v0, hlv, _⟩ := midx_some h1
      have hk := (hR.ent i e _ h2 hlv).1
      simp only [execOp, Instr.mapUpdate, ev_eval hE hx, ev_eval hE hy, ev_eval hE hz, Sem.run_bind, run_underlying T.und, Result.andThen_ok, MapKept.run_getObj_map hb, K.chk, hr', Instr.keyThatStays, h2, Option.map_some, Option.getD_some, hk, K.bits, if_true, MapKept.run_setObj_map _ hb, Sem.run_pure]
  obtain ⟨es', c', hR', hrun⟩ := key
  have hI := hw.write (w' := { w with heap := w.heap.setIfInBounds b (.map es' c') }) ho (b := b) (r' := .blk b (.map es' c')) (by simp [Res.ids]) rfl
    (fun k hk => by simp [Ne.symm hk]) (by simp) rfl rfl rfl (by
      have : b < w.heap.size := (Array.getElem?_eq_some_iff.1 hb).1
      simp [Res.ok, this])
  have := h _ _ hR' r hr _ hI tm ht hE
  simp only [Pos.go, ROps] at *
  rw [if_pos (show wantedD ds tm none = true from rfl)]
  refine ⟨.inr (fun _ h => by cases h), ?_⟩
  rw [hrun]
  exact this

/-! #### maps that are only read -/
def mgetD [DecidableEq α] (l : List (α × β)) (q : α) (z : β) : β := (mget? l q).getD z
def MapV [GoE α] [GoT β] (ka va : Bool) (H : Heap) (v : Value) : Option (List (α × β)) → Prop
  | none => v = .map none
  | some l => ∃ b es c, v = .map (some b) ∧ H b = some (.map es c) ∧ MapR ka va H es c l
theorem MapV.mono [GoE α] [GoT β] {ka va : Bool} {H H' : Heap} {v : Value} {o : Option (List (α × β))} (hle : Hle H H') (h : MapV ka va H v o) : MapV ka va H' v o := by
  cases o with
  | none => exact h
  | some l => obtain ⟨b, es, c, h1, h2, h3⟩ := h; exact ⟨b, es, c, h1, hle _ _ h2, h3.mono hle⟩
theorem mapv_nil [GoE α] [GoT β] {ka va : Bool} {H : Heap} : MapV ka va H (.map none) (none : Option (List (α × β))) := rfl
theorem s_frzB (j : Nat) {b : Nat} {o : Obj} (hM : ∀ b, ¬ C.M b ∨ C.H0 b = none ∧ C.w0.heap.size ≤ b) (hj : own[j]? = some (.blk b o)) (h : ∀ H', Hle H H' → H' b = some o → Sim C m κ env (own.eraseIdx j) H' D p) : Sim C m κ env own H D p := by
  intro r hr w hw tm ht hE
  have hrm := List.mem_of_getElem? hj
  have hle : Hle H (withIds H w (Res.blk b o).ids) := withIds_le fun b' hb => (hw.away b' (mem_ids hrm hb)).1
  refine h _ hle ?_ r hr w (hw.freeze hj hM) tm ht hE
  have : w.heap[b]? = some o := own_ok hw hj
  simp [withIds, Res.ids, this]
theorem s_frzM [GoE α] [GoT β] (j : Nat) {ka va : Bool} {b c : Nat} {es : Array MapEntry} {l : List (α × β)} (hM : ∀ b, ¬ C.M b ∨ C.H0 b = none ∧ C.w0.heap.size ≤ b) (hj : own[j]? = some (.blk b (.map es c))) (hR : MapR ka va H es c l)
    (h : ∀ H', Hle H H' → MapV ka va H' (.map (some b)) (some l) → Sim C m κ env (own.eraseIdx j) H' D p) : Sim C m κ env own H D p :=
  s_frzB j hM hj fun H' hle hb => h H' hle ⟨b, es, c, rfl, hb, hR.mono hle⟩
/-- What a lookup finds, flat elements. -/
theorem found_flat [DecidableEq α] [GoE β] {l : List (α × β)} {q : α} {va : Bool} {z : β} {v : Value} {H : Heap} (h : mget? l q = none ∧ v = mkE va z ∨ ∃ r vs, mget? l q = some r ∧ v = mkv va vs ∧ GoT.rep H vs r) : v = mkE va (mgetD l q z) := by
  rcases h with ⟨h1, rfl⟩ | ⟨r, vs, h1, rfl, hr⟩
  · simp [mgetD, h1]
  · simp only [mgetD, h1, Option.getD_some]
    cases hr; rfl
theorem o_lkpOf [DecidableEq α] [GoE α] [GoE β] (j : Nat) {x y : Operand} {t kt et : TypeId} {ka va : Bool} {b c : Nat} {es : Array MapEntry} {l : List (α × β)} {z : β} {ok : Bool} [T : TMap P t kt et] [K : TKey P kt ka α] [Z : TZero P et (mkE va z)]
    (hx : ev env x = some (.map (some b))) (ho : own[j]? = some (.blk b (.map es c))) (hR : MapR ka va H es c l) (q : α) (hy : ev env y = some (mkE ka q))
    (h : Sim C m κ ((d, bif ok then .tuple #[mkE va (mgetD l q z), .bool (mhas l q)] else mkE va (mgetD l q z)) :: env) own H D (.ops ds rem k)) (hd : Nat.blt d C.n = true := by rfl) :
    Sim C m κ env own H D (.ops ds (⟨some d, .lookup t x y ok, ty, pos, af, none⟩ :: rem) k) :=
  o_lkp (kt := kt) (et := et) j hx ho hR q hy (fun v hv => by cases found_flat hv; exact h) hd
theorem o_lkpVf [DecidableEq α] [GoE α] [GoE β] {x y : Operand} {t kt et : TypeId} {ka va : Bool} {mv : Value} {o : Option (List (α × β))} {z : β} {ok : Bool} [T : TMap P t kt et] [K : TKey P kt ka α] [Z : TZero P et (mkE va z)]
    (hV : MapV ka va H mv o) (hx : ev env x = some mv) (q : α) (hy : ev env y = some (mkE ka q))
    (h : Sim C m κ ((d, bif ok then .tuple #[mkE va (mgetD (o.getD []) q z), .bool (mhas (o.getD []) q)] else mkE va (mgetD (o.getD []) q z)) :: env) own H D (.ops ds rem k)) (hd : Nat.blt d C.n = true := by rfl) :
    Sim C m κ env own H D (.ops ds (⟨some d, .lookup t x y ok, ty, pos, af, none⟩ :: rem) k) := by
  cases o with
  | none => cases hV; exact o_lkpN (kt := kt) (et := et) (zv := mkE va z) hx q hy h hd
  | some l =>
    obtain ⟨b, es, c, rfl, hb, hR⟩ := hV
    exact o_lkpH (kt := kt) (et := et) hx hb hR q hy (fun v hv => by cases found_flat hv; exact h) hd
end rules

/-! ### Keys -/
def ChkN (P : Program) (n : Nat) (t : TypeId) (v : Value) : Prop := ∀ d w e, (Instr.checkKey e (d + n) t v).run P w = .ok () w
section keys
variable {P : Program}
theorem chk_int {t : TypeId} {K : IntKind} {v : Value} (U : P.underlying t = some (.int K)) : ChkN P 1 t v := fun d w e => by
  rw [Instr.checkKey, Sem.run_bind, run_underlying U]
  rfl
theorem chk_up {t : TypeId} {n : Nat} {v : Value} (k : Nat) (h : ChkN P n t v) : ChkN P (n + k) t v := fun d w e => by
  have := h (d + k) w e
  rw [show d + k + n = d + (n + k) by omega] at this
  exact this
def CfN (P : Program) (n : Nat) (xs : List Value) (fs : List Field) : Prop := ∀ d w e, (forIn (m := Sem) fs PUnit.unit fun f _ => (do
  if f.name ≠ "_" then Instr.checkKey e (d + n) f.type (← part f.type xs.toArray f.offset)
  pure (ForInStep.yield PUnit.unit) : Sem (ForInStep PUnit))).run P w = .ok PUnit.unit w
theorem cf_nil {n : Nat} {xs : List Value} : CfN P n xs [] := fun d w e => by simp
theorem cf_cons {n sz : Nat} {ag : Bool} {xs : List Value} {f : Field} {fs : List Field} [L : TLay P f.type sz ag] (h1 : Nat.ble (f.offset + sz) xs.length = true) (hn : (f.name == "_") = false) (he : ChkN P n f.type (mkv ag (subc xs f.offset sz))) (hr : CfN P n xs fs) : CfN P n xs (f :: fs) := fun d w e => by
  have hn' : f.name ≠ "_" := by simpa using hn
  have p1 := run_part (P := P) (w := w) L.size L.agg L.one (cs := xs.toArray) (off := f.offset) (by simpa using Nat.le_of_ble_eq_true h1)
  simp only [] at p1
  rw [List.forIn_cons]
  simp only [if_pos hn', Sem.run_bind, p1, Result.andThen_ok, he d w, Sem.run_pure]
  exact hr d w e
theorem chk_struct {n : Nat} {t : TypeId} {fs : Array Field} {xs : List Value} (hu : P.underlying t = some (.struct fs)) (h : CfN P n xs fs.toList) : ChkN P (n + 1) t (.agg xs.toArray) := fun d w e => by
  rw [show d + (n + 1) = d + n + 1 by omega, Instr.checkKey, Sem.run_bind, run_underlying hu]
  simp only [Result.andThen_ok, Sem.run_bind]
  have h1 := h d w e
  have h2 := h1
  rw [← Array.forIn_toList]
  simp only [bind_pure_comp] at *
  rw [h1]; rfl
theorem tkey_struct {α : Type} [DecidableEq α] [GoE α] {kt : TypeId} {fs : Array Field} [E : TEq P kt α] (n : Nat) (hn : n ≤ 10000) (hu : P.underlying kt = some (.struct fs)) (hc : ∀ a : α, ChkN P n kt (.agg (GoE.enc a).toArray)) (hb : ∀ a : α, Instr.sameBits 10000 (.agg (GoE.enc a).toArray) (.agg (GoE.enc a).toArray) = true) : TKey P kt true α := {
  eq := fun a b w => E.eq a b w
  chk := fun e a w => by
    have := hc a (10000 - n) w e
    rw [show 10000 - n + n = 10000 by omega] at this
    exact this
  now := ⟨_, hu, .inl fun _ _ => rfl⟩
  bits := hb }
theorem tkey_int {kt : TypeId} (hu : P.underlying kt = some (.int .i64)) : TKey P kt false Int := {
  eq := fun a b w => by
    have := eqn_int (P := P) (K := .i64) (K' := .i64) (a := a) (b := b) hu 9999 w
    exact this
  chk := fun e a w => chk_int (v := mkE false a) hu 9999 w e
  now := ⟨_, hu, .inr fun a b => by show (if (IntKind.i64 = IntKind.i64) then some (a == b) else none) = _; simp; rfl⟩
  bits := fun a => by show (IntKind.i64 == IntKind.i64 && a == a) = true; simp }
end keys
end Go.Cat
namespace Go.Cat
def conOkG (l : List Oper) (mq nv : Nat) (con : Nat → List Nat) : Bool :=
  (List.range mq).all fun i => (con i).all (fun j => ((l[i]?).map fun o => (depsOf o).contains j).getD false || (Nat.ble l.length j && Nat.blt j (l.length + nv))) && decide ((con i).Nodup) &&
    (List.range mq).all fun q => Nat.beq i q || (con i).all fun j => !(con q).contains j
def liveG (n mq nv : Nat) (con : Nat → List Nat) : List Nat := (List.range mq ++ List.range' n nv).filter fun i => (List.range mq).all fun q => !(con q).contains i
def vg (n : Nat) (giv : List Res) (G : Nat → List Res) : Prop := ∀ i r, giv[i]? = some r → G (n + i) = [r]
theorem vg_flat {n : Nat} {giv : List Res} {G : Nat → List Res} (h : vg n giv G) : (List.range' n giv.length).flatMap G = giv := by
  induction giv generalizing n with
  | nil => rfl
  | cons r g ih =>
    rw [List.length_cons, List.range'_succ, List.flatMap_cons]
    have h0 := h 0 r rfl
    rw [Nat.add_zero] at h0
    rw [h0, ih (n := n + 1) (fun i q hq => by have := h (i + 1) q (by simpa using hq); rw [show n + (i + 1) = n + 1 + i by omega] at this; exact this)]
    rfl

section draw
variable {P : Program} {ρ τ : Type} {C : Ctx P ρ} {m : Option τ} {κ : τ → Option ρ} {env : Env} {own : List Res} {H : Heap} {D : List Deferred} {k : List Item}

theorem s_drawG {i : Nat} {l : List Oper} (giv : List Res) (mq : Nat) (F : Nat → Heap → Value → List Res → Prop) (con : Nat → List Nat)
    (hm : P.follows .mixedOrders = true) (hmono : ∀ i H H' v g, Hle H H' → F i H v g → F i H' v g)
    (hac : edgesOk l.toArray = true) (htail : tailOk l mq = true) (hds : dsOk env C.n (l.take mq) = true) (hcon : conOkG l mq giv.length con = true) (hmq : Nat.ble mq l.length = true)
    (hstep : ∀ i o, i < mq → l[i]? = some o → ∀ (V : Nat → Value) (G : Nat → List Res) H' fr, vg l.length giv G → Hle H H' → (∀ j ∈ depsOf o, F j H' (V j) (G j)) →
      ∃ (τ' : Type) (mi : Option τ'), mi.isSome = true ∧ ∀ r : ρ, Sim C mi (fun _ => some r) (depEnv l V (depsOf o) ++ env) (own ++ (con i).flatMap G ++ fr) H' D
        (.ops (l.map (·.dst)) [o] (.pred fun tm' w' => ∃ v g H'', (∀ d, o.dst = some d → tm'[d]? = some v) ∧ Hle H' H'' ∧ Inv C.w0 C.M C.H0 (own ++ g ++ fr) H'' w' ∧ F i H'' v g)))
    (hfin : ∀ (V : Nat → Value) (G : Nat → List Res) H', vg l.length giv G → Hle H H' → (∀ i, i < mq → F i H' (V i) (G i)) →
      Sim C m κ (depEnv l V (List.range mq) ++ env) (own ++ (liveG l.length mq giv.length con).flatMap G) H' D (.ops (l.map (·.dst)) (l.drop mq) (.items k))) :
    Sim C m κ env (own ++ giv) H D (.code (.code (.region i l.toArray true) :: k)) := by
  intro r hr w hw tm ht hE
  refine go_region_draw fun t => ?_
  have hT := topo_schedule (ops := l.toArray) hm hac t
  generalize Region.schedule (P.follows .mixedOrders) l.toArray t = sch at hT
  have hw1 : Inv C.w0 C.M C.H0 (own ++ giv) H { w with drawn := w.drawn + 1 } := hw.quiet rfl rfl rfl rfl
  generalize ({ w with drawn := w.drawn + 1 } : World) = w1 at hw1
  have hmq' : mq ≤ l.length := Nat.le_of_ble_eq_true hmq
  have hget : ∀ i : Nat, (l.toArray[i]?) = l[i]? := fun i => by simp
  have hdst : ∀ i o d, i < mq → l[i]? = some o → o.dst = some d → d < C.n ∧ lk env d = none ∧ ∀ j p, j < mq → i ≠ j → l[j]? = some p → p.dst ≠ some d := by
    intro i o d hi ho hd
    obtain ⟨h1, h2, h3⟩ := dsOk_get hds i o d (by rw [List.getElem?_take_of_lt hi]; exact ho) hd
    exact ⟨h1, h2, fun j p hj hij hp => h3 j p hij (by rw [List.getElem?_take_of_lt hj]; exact hp)⟩
  have hconI : ∀ i, i < mq → (∀ j ∈ con i, (∃ o, l[i]? = some o ∧ j ∈ depsOf o) ∨ (l.length ≤ j ∧ j < l.length + giv.length)) ∧ (con i).Nodup ∧ ∀ q, q < mq → i ≠ q → ∀ j ∈ con i, j ∉ con q := by
    intro i hi
    have := List.all_eq_true.1 hcon i (List.mem_range.2 hi)
    rw [Bool.and_eq_true, Bool.and_eq_true, decide_eq_true_eq] at this
    refine ⟨fun j hj => ?_, this.1.2, fun q hq hiq j hj hjq => ?_⟩
    · have h1 := List.all_eq_true.1 this.1.1 j hj
      rw [Bool.or_eq_true] at h1
      rcases h1 with h1 | h1
      · left
        cases ho : l[i]? with
        | none => rw [ho] at h1; simp at h1
        | some o => rw [ho] at h1; exact ⟨o, rfl, by simpa using h1⟩
      · right
        rw [Bool.and_eq_true] at h1
        exact ⟨Nat.le_of_ble_eq_true h1.1, blt_lt h1.2⟩
    · have h2 := List.all_eq_true.1 this.2 q (List.mem_range.2 hq)
      rw [Bool.or_eq_true] at h2
      rcases h2 with h2 | h2
      · exact hiq (Nat.eq_of_beq_eq_true h2)
      · have := List.all_eq_true.1 h2 j hj
        simp [hjq] at this
  have hdep : ∀ pre i post, sch = pre ++ i :: post → ∀ o, l[i]? = some o → ∀ j ∈ depsOf o, j ∈ pre := by
    intro pre i post hq o ho j hj
    simp only [depsOf, List.mem_map, List.mem_filter] at hj
    obtain ⟨e, ⟨he, hb⟩, rfl⟩ := hj
    exact hT.dep pre i post hq o (by rw [hget]; exact ho) e (by simpa using he) hb
  have hvg0 : vg l.length giv (fun x => (giv[x - l.length]?).toList) := fun a q hq => by simp [hq]
  have hnodup : ∀ q, q ≤ l.length → (List.range q ++ List.range' l.length giv.length).Nodup := fun q hq => by
    rw [List.nodup_append]
    refine ⟨List.nodup_range, List.nodup_range', ?_⟩
    rintro a ha b hb rfl
    simp only [List.mem_range, List.mem_range'_1] at ha hb
    omega
  -- the state when 'pre' has been carried out
  have main : ∀ (rest pre : List Nat) (tm : Array Value) (w : World), sch = pre ++ rest → (∀ x ∈ pre, x < mq) → (∀ q ∈ pre, ∀ j ∈ con q, j ∈ pre ∨ l.length ≤ j) →
      (∃ (V : Nat → Value) (G : Nat → List Res) (H' : Heap) (L : List Nat), vg l.length giv G ∧ Hle H H' ∧ (∀ i ∈ pre, F i H' (V i) (G i)) ∧ tm.size = C.n ∧ EnvOk env tm ∧
        (∀ i ∈ pre, ∀ o d, l[i]? = some o → o.dst = some d → tm[d]? = some (V i)) ∧ L.Nodup ∧ (∀ x, x ∈ L ↔ (x ∈ pre ∨ (l.length ≤ x ∧ x < l.length + giv.length)) ∧ ∀ q ∈ pre, x ∉ con q) ∧ Inv C.w0 C.M C.H0 (own ++ L.flatMap G) H' w) →
      Go (C.T r) C.b tm D (.inRegion l.toArray rest :: k) w := by
    intro rest
    induction rest with
    | nil =>
      rintro pre tm w hsch hlt hcp ⟨V, G, H', L, hvg, hle, hF, htm, hE, htmp, hLn, hLm, hI⟩
      rw [List.append_nil] at hsch
      have hall : ∀ j, j < l.length → j ∈ pre := fun j hj => by rw [← hsch]; exact hT.all j (by simpa using hj)
      have hmql : mq = l.length := by
        apply Classical.byContradiction
        intro hne
        have := hlt _ (hall mq (by omega))
        omega
      have hLp : L.Perm (liveG l.length mq giv.length con) := by
        unfold liveG
        rw [List.perm_ext_iff_of_nodup hLn ((hnodup mq hmq').filter _)]
        intro a
        rw [hLm]
        simp only [List.mem_filter, List.mem_append, List.mem_range, List.mem_range'_1, List.all_eq_true, Bool.not_eq_true', List.contains_eq_mem, decide_eq_false_iff_not]
        constructor
        · rintro ⟨h1, h2⟩; exact ⟨h1.imp (hlt a) id, fun q hq => h2 q (hall q (by omega))⟩
        · rintro ⟨h1, h2⟩; exact ⟨h1.imp (fun h => hall a (by omega)) id, fun q hq => h2 q (hlt q hq)⟩
      have hfin' := hfin V G H' hvg hle (fun i hi => hF i (hall i (by omega))) r hr w (hI.perm ((List.perm_append_left_iff _).2 (hLp.flatMap_right G))) tm htm (by
        intro t v hl'
        rcases lk_depEnv _ t v hl' with ⟨j, hj, hd, rfl⟩ | h
        · have hjm := List.mem_range.1 hj
          cases ho : l[j]? with
          | none => rw [ho] at hd; cases hd
          | some o => rw [ho] at hd; exact htmp j (hall j (by omega)) o t ho hd
        · exact hE t v h)
      rw [hmql, List.drop_length] at hfin'
      exact go_region_end hfin'
    | cons i rest ih =>
      rintro pre tm w hsch hlt hcp ⟨V, G, H', L, hvg, hle, hF, htm, hE, htmp, hLn, hLm, hI⟩
      have hil : i < l.length := by have := hT.lt i (by rw [hsch]; simp); simpa using this
      have ho : l[i]? = some l[i] := List.getElem?_eq_getElem hil
      have hinp : i ∉ pre := by
        have := hT.nd
        rw [hsch, List.nodup_append] at this
        intro hx
        exact this.2.2 i hx i (by simp) rfl
      have hdeps := hdep pre i rest hsch _ ho
      by_cases hiq : i < mq
      · -- a quiet one
        have hconi := hconI i hiq
        have hcpre : ∀ j ∈ con i, j ∈ pre ∨ (l.length ≤ j ∧ j < l.length + giv.length) := fun j hj => by
          rcases hconi.1 j hj with ⟨o, ho', hj'⟩ | h
          · rw [ho] at ho'; cases ho'
            exact .inl (hdeps j hj')
          · exact .inr h
        have hcL : ∀ j ∈ con i, j ∈ L := fun j hj => (hLm j).2 ⟨hcpre j hj, fun q hq => (hconi.2.2 q (hlt q hq) (fun e => hinp (e ▸ hq)) j hj)⟩
        have hLp : L.Perm (con i ++ L.filter fun x => !(con i).contains x) := by
          rw [List.perm_ext_iff_of_nodup hLn (by
            rw [List.nodup_append]
            refine ⟨hconi.2.1, hLn.filter _, ?_⟩
            rintro a ha b hb rfl
            simp only [List.mem_filter, Bool.not_eq_true', List.contains_eq_mem, decide_eq_false_iff_not] at hb
            exact hb.2 ha)]
          intro a
          simp only [List.mem_append, List.mem_filter, Bool.not_eq_true', List.contains_eq_mem, decide_eq_false_iff_not]
          constructor
          · intro h; by_cases ha : a ∈ con i
            · exact .inl ha
            · exact .inr ⟨h, ha⟩
          · rintro (h | h)
            · exact hcL a h
            · exact h.1
        have hI1 : Inv C.w0 C.M C.H0 (own ++ (con i).flatMap G ++ (L.filter fun x => !(con i).contains x).flatMap G) H' w :=
          hI.perm (by
            rw [List.append_assoc]
            refine (List.perm_append_left_iff _).2 ?_
            have := hLp.flatMap_right G
            rw [List.flatMap_append] at this
            exact this)
        obtain ⟨τ', mi, hmi, hS⟩ := hstep i _ hiq ho V G H' ((L.filter fun x => !(con i).contains x).flatMap G) hvg hle (fun j hj => hF j (hdeps j hj))
        have hrun := hS r r (by cases mi with
          | none => simp at hmi
          | some x => rfl) w hI1 tm htm (by
          intro t v hl'
          rcases lk_depEnv _ t v hl' with ⟨j, hj, hd, rfl⟩ | h
          · cases hoj : l[j]? with
            | none => rw [hoj] at hd; cases hd
            | some o => rw [hoj] at hd; exact htmp j (hdeps j hj) o t hoj hd
          · exact hE t v h)
        have hsch' : sch = (pre ++ [i]) ++ rest := by rw [hsch]; simp
        have hnext : ∀ (v : Value) (w' : World), (∃ v' g H'', (∀ d, (l[i]).dst = some d → (putT tm (l[i]).dst v)[d]? = some v') ∧ Hle H' H'' ∧ Inv C.w0 C.M C.H0 (own ++ g ++ (L.filter fun x => !(con i).contains x).flatMap G) H'' w' ∧ F i H'' v' g) →
            Go (C.T r) C.b (putT tm (l[i]).dst v) D (.inRegion l.toArray rest :: k) w' := by
          rintro v w' ⟨v', g, H'', hd, hle', hI', hFi⟩
          refine ih (pre ++ [i]) _ w' hsch' (by
            intro x hx
            rcases List.mem_append.1 hx with hx | hx
            · exact hlt x hx
            · simp at hx; subst hx; exact hiq) (by
            intro q hq j hj
            rcases List.mem_append.1 hq with hq | hq
            · exact (hcp q hq j hj).imp (fun h => List.mem_append.2 (.inl h)) id
            · simp at hq; subst hq; exact (hcpre j hj).imp (fun h => List.mem_append.2 (.inl h)) And.left) ?_
          refine ⟨fun j => if j = i then v' else V j, fun j => if j = i then g else G j, H'', i :: L.filter (fun x => !(con i).contains x), ?_, hle.trans hle', ?_, ?_, ?_, ?_, ?_, ?_, ?_⟩
          · intro a q hq
            have h0 := hvg a q hq
            have hne : l.length + a ≠ i := by omega
            simp only [hne, if_false]
            exact h0
          · intro j hj
            rcases List.mem_append.1 hj with hj | hj
            · have hne : j ≠ i := fun e => hinp (e ▸ hj)
              simp only [hne, if_false]
              exact hmono j H' H'' _ _ hle' (hF j hj)
            · simp at hj; subst hj; simp only [if_true]; exact hFi
          · cases (l[i]).dst <;> simp [putT, htm]
          · intro t u hu
            have h0 := hE t u hu
            cases hdd : (l[i]).dst with
            | none => simpa [putT] using h0
            | some d =>
              have hne : d ≠ t := fun e => by
                have := (hdst i _ d hiq ho hdd).2.1
                rw [e, hu] at this; cases this
              simp only [putT]
              rw [Array.getElem?_setIfInBounds_ne hne]
              exact h0
          · intro j hj o d hoj hdj
            rcases List.mem_append.1 hj with hj | hj
            · have hne : j ≠ i := fun e => hinp (e ▸ hj)
              simp only [hne, if_false]
              have h0 := htmp j hj o d hoj hdj
              cases hdd : (l[i]).dst with
              | none => simpa [putT] using h0
              | some d' =>
                have hne' : d' ≠ d := fun e => (hdst i _ d' hiq ho hdd).2.2 j o (hlt j hj) (fun e => hne e.symm) hoj (e ▸ hdj)
                simp only [putT]
                rw [Array.getElem?_setIfInBounds_ne hne']
                exact h0
            · simp at hj; subst hj
              simp only [if_true]
              rw [ho] at hoj; cases hoj
              exact hd d hdj
          · simp only [List.nodup_cons]
            refine ⟨fun hx => ?_, hLn.filter _⟩
            have := ((hLm i).1 (List.mem_filter.1 hx).1).1
            rcases this with h | h
            · exact hinp h
            · omega
          · intro x
            simp only [List.mem_cons, List.mem_filter, hLm, Bool.not_eq_true', List.contains_eq_mem, decide_eq_false_iff_not, List.mem_append, List.not_mem_nil, or_false]
            constructor
            · rintro (rfl | ⟨⟨h1, h2⟩, h3⟩)
              · refine ⟨.inl (.inr rfl), ?_⟩
                rintro q (hq | rfl) hx
                · rcases hcp q hq _ hx with h | h
                  · exact hinp h
                  · omega
                · rcases hcpre _ hx with h | h
                  · exact hinp h
                  · omega
              · refine ⟨h1.imp .inl id, ?_⟩
                rintro q (hq | rfl) hx
                · exact h2 q hq hx
                · exact h3 hx
            · rintro ⟨(h1 | rfl) | h1, h2⟩
              · right; exact ⟨⟨.inl h1, fun q hq => h2 q (.inl hq)⟩, h2 i (.inr rfl)⟩
              · left; rfl
              · right; exact ⟨⟨.inr h1, fun q hq => h2 q (.inl hq)⟩, h2 i (.inr rfl)⟩
          · have hfe : (L.filter fun x => !(con i).contains x).flatMap (fun j => if j = i then g else G j) = (L.filter fun x => !(con i).contains x).flatMap G := by
              have hcongr : ∀ (L' : List Nat) (f f' : Nat → List Res), (∀ x ∈ L', f x = f' x) → L'.flatMap f = L'.flatMap f' := by
                intro L' f f' hff
                induction L' with
                | nil => rfl
                | cons y L' ihL => simp [hff y (by simp), ihL fun x hx => hff x (by simp [hx])]
              apply hcongr
              intro x hx
              have hne : x ≠ i := fun e => by
                rcases ((hLm x).1 (List.mem_filter.1 hx).1).1 with h | h
                · exact hinp (e ▸ h)
                · omega
              simp [hne]
            simp only [List.flatMap_cons, if_true, hfe]
            rw [← List.append_assoc]
            exact hI'
        simp only [Pos.go, ROps, Kont.fin] at hrun
        by_cases hwd : Region.wanted (l[i]) (yielded l.toArray tm) = true
        · have := wantedD_eq l.toArray tm (l[i])
          simp only at this
          rw [this, if_pos hwd] at hrun
          obtain ⟨hp, hrun⟩ := hrun
          have ho' : l.toArray[i]? = some l[i] := by rw [hget]; exact ho
          split at hrun
          · exact go_op_value ho' hwd hp (by assumption) (hnext _ _ hrun)
          · exact go_op_skipped ho' hwd hp (by assumption) (hnext _ _ hrun)
          · obtain ⟨R, hc, hk⟩ := hrun
            exact go_op_call ho' hwd hp (by assumption) hc fun v w'' hR => hnext v w'' (hk v w'' hR)
          · obtain ⟨R, hc, hk⟩ := hrun
            exact go_op_round ho' hwd hp (by assumption) hc fun v w'' hR => hnext v w'' (hk v w'' hR)
          · exact hrun.elim
        · have := wantedD_eq l.toArray tm (l[i])
          simp only at this
          rw [this, if_neg hwd] at hrun
          have ho' : l.toArray[i]? = some l[i] := by rw [hget]; exact ho
          exact go_op_skip ho' (by simpa using hwd) (hnext _ _ hrun)
      · -- the tail begins
        have hge : mq ≤ i := Nat.le_of_not_lt hiq
        have htl : ∀ j, mq ≤ j → ∀ o, l[j]? = some o → ∀ x, x < j → x ∈ depsOf o := by
          intro j hj o hoj x hx
          have hjl : j < l.length := (List.getElem?_eq_some_iff.1 hoj).1
          have := List.all_eq_true.1 htail j (List.mem_range.2 hjl)
          rw [Bool.or_eq_true] at this
          rcases this with h | h
          · exact absurd (blt_lt h) (by omega)
          · rw [hoj] at h
            have := List.all_eq_true.1 h x (List.mem_range.2 hx)
            simpa using this
        have hall : ∀ j, j < mq → j ∈ pre := fun j hj => hdeps j (htl i hge _ ho j (by omega))
        have hieq : i = mq := by
          apply Classical.byContradiction
          intro hne
          have := hlt mq (hdeps mq (htl i hge _ ho mq (by omega)))
          omega
        have hrange : ∀ (rest' pre' : List Nat) (c : Nat), sch = pre' ++ rest' → (∀ x, x ∈ pre' ↔ x < c) → mq ≤ c → c ≤ l.length → rest' = List.range' c (l.length - c) := by
          intro rest'
          induction rest' with
          | nil =>
            intro pre' c hs hp hc hcl
            rw [List.append_nil] at hs
            have : l.length = c := by
              apply Classical.byContradiction
              intro hne
              have : c ∈ pre' := by rw [← hs]; exact hT.all c (by simp; omega)
              rw [hp] at this; omega
            simp [this]
          | cons q rest' ihr =>
            intro pre' c hs hp hc hcl
            have hq : q < l.length := by have := hT.lt q (by rw [hs]; simp); simpa using this
            have hqp : q ∉ pre' := by
              have := hT.nd
              rw [hs, List.nodup_append] at this
              intro hx; exact this.2.2 q hx q (by simp) rfl
            have hqc : ¬ q < c := fun h => hqp ((hp q).2 h)
            have : q = c := by
              apply Classical.byContradiction
              intro hne
              have := hdep pre' q rest' hs _ (List.getElem?_eq_getElem hq) c (htl q (by omega) _ (List.getElem?_eq_getElem hq) c (by omega))
              rw [hp] at this; omega
            subst this
            rw [show l.length - q = (l.length - (q + 1)) + 1 by omega, List.range'_succ]
            congr 1
            exact ihr (pre' ++ [q]) (q + 1) (by rw [hs]; simp) (by intro x; simp [hp]; omega) (by omega) (by omega)
        have hrest : i :: rest = List.range' mq (l.length - mq) := hrange (i :: rest) pre mq hsch (fun x => ⟨hlt x, hall x⟩) (Nat.le_refl _) hmq'
        have hLp : L.Perm (liveG l.length mq giv.length con) := by
          unfold liveG
          rw [List.perm_ext_iff_of_nodup hLn ((hnodup mq hmq').filter _)]
          intro a
          rw [hLm]
          simp only [List.mem_filter, List.mem_append, List.mem_range, List.mem_range'_1, List.all_eq_true, Bool.not_eq_true', List.contains_eq_mem, decide_eq_false_iff_not]
          constructor
          · rintro ⟨h1, h2⟩; exact ⟨h1.imp (hlt a) id, fun q hq => h2 q (hall q hq)⟩
          · rintro ⟨h1, h2⟩; exact ⟨h1.imp (hall a) id, fun q hq => h2 q (hlt q hq)⟩
        have hfin' := hfin V G H' hvg hle (fun i hi => hF i (hall i hi)) r hr w (hI.perm ((List.perm_append_left_iff _).2 (hLp.flatMap_right G))) tm htm (by
          intro t v hl'
          rcases lk_depEnv _ t v hl' with ⟨j, hj, hd, rfl⟩ | h
          · have hjm := List.mem_range.1 hj
            cases hoj : l[j]? with
            | none => rw [hoj] at hd; cases hd
            | some o => rw [hoj] at hd; exact htmp j (hall j hjm) o t hoj hd
          · exact hE t v h)
        have := go_of_rops (ops := l.toArray) (l.drop mq) (l.take mq) tm w (by simp) hfin'
        rw [hrest]
        simpa [List.length_take, Nat.min_eq_left hmq'] using this
  exact main sch [] tm w1 (by simp) (by simp) (by simp) ⟨fun _ => undef, fun x => (giv[x - l.length]?).toList, H, List.range' l.length giv.length, hvg0, .refl _, by simp, ht, hE, by simp, List.nodup_range', by simp [List.mem_range'_1], by rw [vg_flat hvg0]; exact hw1⟩
end draw
end Go.Cat
namespace Go.Cat
section drawL
variable {P : Program} {ρ τ : Type} {C : Ctx P ρ} {m : Option τ} {κ : τ → Option ρ} {env : Env} {own : List Res} {H : Heap} {D : List Deferred} {k : List Item} {p : Pos}
def DStepG (C : Ctx P ρ) (env : Env) (own : List Res) (H : Heap) (D : List Deferred) (l : List Oper) (giv : List Res) (Fs : List FT) (o : Oper) (con : List Nat) (F : FT) : Prop :=
  ∀ (V : Nat → Value) (G : Nat → List Res) H' fr, vg l.length giv G → Hle H H' → (∀ j ∈ depsOf o, (Fs.getD j FT0) H' (V j) (G j)) →
      ∃ (τ' : Type) (mi : Option τ'), mi.isSome = true ∧ ∀ r : ρ, Sim C mi (fun _ => some r) (depEnv l V (depsOf o) ++ env) (own ++ con.flatMap G ++ fr) H' D
        (.ops (l.map (·.dst)) [o] (.pred fun tm' w' => ∃ v g H'', (∀ d, o.dst = some d → tm'[d]? = some v) ∧ Hle H' H'' ∧ Inv C.w0 C.M C.H0 (own ++ g ++ fr) H'' w' ∧ F H'' v g))
def DStepsG (C : Ctx P ρ) (env : Env) (own : List Res) (H : Heap) (D : List Deferred) (l : List Oper) (giv : List Res) (Fs : List FT) : List Oper → List (List Nat) → List FT → Prop
  | o :: os, c :: cs, F :: Gs => DStepG C env own H D l giv Fs o c F ∧ DStepsG C env own H D l giv Fs os cs Gs
  | _, [], [] => True
  | _, _, _ => False
theorem DStepsG.get {l : List Oper} {giv : List Res} {Fs : List FT} : ∀ {os : List Oper} {cs : List (List Nat)} {Gs : List FT}, DStepsG C env own H D l giv Fs os cs Gs → cs.length = Gs.length → ∀ (i : Nat) (o : Oper), i < Gs.length → os[i]? = some o → DStepG C env own H D l giv Fs o (cs.getD i []) (Gs.getD i FT0) := by
  intro os
  induction os with
  | nil => intro cs Gs _ _ i o _ ho; simp at ho
  | cons x os ih =>
    intro cs Gs h hl i o hi ho
    cases cs with
    | nil => cases Gs with
      | nil => simp at hi
      | cons => simp at hl
    | cons c cs => cases Gs with
      | nil => simp at hl
      | cons F Gs =>
        cases i with
        | zero => simp only [List.getElem?_cons_zero, Option.some.injEq] at ho; subst ho; simpa using h.1
        | succ i =>
          have := ih h.2 (by simpa using hl) i o (by simpa using hi) (by simpa using ho)
          simpa using this
theorem s_drawLG {i : Nat} {l : List Oper} (giv : List Res) (Fs : List FT) (cs : List (List Nat)) (hm : P.follows .mixedOrders = true) (hmono : FMonos Fs)
    (hac : edgesOk l.toArray = true) (htail : tailOk l Fs.length = true) (hds : dsOk env C.n (l.take Fs.length) = true) (hcon : conOkG l Fs.length giv.length (fun i => cs.getD i []) = true) (hmq : Nat.ble Fs.length l.length = true) (hcs : Nat.beq cs.length Fs.length = true)
    (hstep : DStepsG C env own H D l giv Fs l cs Fs)
    (hfin : ∀ (V : Nat → Value) (G : Nat → List Res) H', vg l.length giv G → Hle H H' → (∀ i, i < Fs.length → (Fs.getD i FT0) H' (V i) (G i)) →
      Sim C m κ (depEnv l V (List.range Fs.length) ++ env) (own ++ (liveG l.length Fs.length giv.length (fun i => cs.getD i [])).flatMap G) H' D (.ops (l.map (·.dst)) (l.drop Fs.length) (.items k))) :
    Sim C m κ env (own ++ giv) H D (.code (.code (.region i l.toArray true) :: k)) :=
  s_drawG giv Fs.length (fun i => Fs.getD i FT0) (fun i => cs.getD i []) hm (fun i H H' v g hle hF => (hmono.get i) H H' v g hle hF) hac htail hds hcon hmq
    (fun i o hi ho V G H' fr hg hle hd => hstep.get (Nat.eq_of_beq_eq_true hcs) i o hi ho V G H' fr hg hle hd) hfin
theorem dconsG {l os : List Oper} {giv : List Res} {Fs Fs' : List FT} {o : Oper} {c : List Nat} {cs : List (List Nat)} {F : FT} (h : DStepG C env own H D l giv Fs o c F) (h' : DStepsG C env own H D l giv Fs os cs Fs') : DStepsG C env own H D l giv Fs (o :: os) (c :: cs) (F :: Fs') := ⟨h, h'⟩
theorem dnilG {l os : List Oper} {giv : List Res} {Fs : List FT} : DStepsG C env own H D l giv Fs os [] [] := by cases os <;> trivial
theorem s_mv (j : Nat) {r : Res} (h : own[j]? = some r) (hs : Sim C m κ env (own.eraseIdx j ++ [r]) H D p) : Sim C m κ env own H D p := by
  refine s_perm ?_ hs
  have h1 : own = own.take j ++ r :: own.drop (j + 1) := by
    obtain ⟨hlt, rfl⟩ := List.getElem?_eq_some_iff.1 h
    simp
  have h2 : own.eraseIdx j = own.take j ++ own.drop (j + 1) := List.eraseIdx_eq_take_drop_succ ..
  rw [h2]
  conv => lhs; rw [h1]
  rw [List.append_assoc]
  refine (List.perm_append_left_iff _).2 ?_
  exact (List.perm_append_singleton r _).symm
end drawL
end Go.Cat
namespace Go.Cat

def tgtR (P : Program) (R : Value → World → Prop) : Tgt P := {
  K := fun cs m => ∀ c rest, cs = c :: rest → ∃ v w', R v w' ∧ Steps P m (lone (c.finish v) rest w')
  back := fun h k c rest e => by
    obtain ⟨v, w', hR, hs⟩ := k c rest e
    exact ⟨v, w', hR, h.trans hs⟩ }
def baseR (l f : Nat) : Frame := { (default : Frame) with fn := f, kind := .normal, roundOf := some l }
theorem rounds_of_go {P : Program} {l f : Nat} {tmps : Array Value} {assign body : Code} {w : World} {R : Value → World → Prop}
    (h : Go (tgtR P R) (baseR l f) tmps [] [.code assign, .beginRound, .code body] w) : Rounds P l f tmps assign body w R := by
  intro c cs
  have := h (c :: cs) c cs rfl
  exact this
section moves
variable {P : Program} {T : Tgt P} {b : Frame} {tm : Array Value} {D : List Deferred} {k : List Item} {w w' : World}
theorem go_round_end {l f : Nat} {R : Value → World → Prop} {v : Value} (he : (Instr.endRound l none).run P w = .ok v w') (hR : R v w') : Go (tgtR P R) (baseR l f) tm D [] w := by
  intro cs c rest e
  subst e
  refine ⟨v, w', hR, Steps.one (step_lone_go ?_)⟩
  simp [stepG, stepG.exec, fra, baseR, he, doReturn]
theorem go_beginRound {l f : Nat} {T : Tgt P} (hb : (Instr.beginRound l).run P w = .ok () w') (g : Go T (baseR l f) tm D k w') : Go T (baseR l f) tm D (.beginRound :: k) w :=
  .one (fun _ => step_lone_go (by simp [stepG, stepG.exec, stepG.apply, fra, baseR, hb, Frame.finish])) g
theorem go_rangeFunc {f : Operand} {params : Array Tmp} {assign body : Code} {l : Nat} {mark : List Deferred} {w1 : World} {g : FuncId} {args : Array Value} {R : Value → World → Prop}
    (he : (Instr.enterLoop b.fn tm params assign body b.roundOf).run P w = .ok (l, mark) w1)
    (hi : (do let d ← resolve (evalT tm) { callee := .value f, args := #[.const (.func (.yield l) #[] #[])], argTypes := #[] } 0; invoke d.target d.args : Sem Next).run P w1 = .ok (.enter g args) w1)
    (hc : Calls P g args w1 fun e w' => ∃ v, e = .returned v ∧ R v w')
    (hend : ∀ v w', R v w' → ∃ w'', (Instr.endLoop l).run P w' = .ok none w'' ∧ Go T b tm (mark ++ D) k w'') :
    Go T b tm D (.code (.rangeFunc f params assign body) :: k) w := by
  intro cs
  obtain ⟨e, w2, fr, ⟨v, rfl, hR⟩, hsteps, _, hleave⟩ := hc (fra b tm (mark ++ D) (.inRangeFunc l :: k) :: cs)
  obtain ⟨w3, hl, hg⟩ := hend v w2 hR
  have hev := fra_eval b tm D (.code (.rangeFunc f params assign body) :: k)
  simp only [fra] at hev
  have h1 : step P (lone (fra b tm D (.code (.rangeFunc f params assign body) :: k)) cs w) = .next (lone (Frame.enter P g args .normal) (fra b tm (mark ++ D) (.inRangeFunc l :: k) :: cs) w1) :=
    step_lone_go (by
      have hev2 := fra_eval b tm (mark ++ D) (.inRangeFunc l :: k)
      simp only [fra] at hev2
      simp only [stepG, stepG.exec, fra, stepG.apply]
      simp [he, hev2]
      simp at hi
      simp [hi])
  have h2 : step P (lone ((fra b tm (mark ++ D) (.inRangeFunc l :: k)).finish v) cs w2) = .next (lone (fra b tm (mark ++ D) k) cs w3) :=
    step_lone_go (by simp [stepG, stepG.exec, fra, Frame.finish, hl])
  refine T.back (.head h1 (hsteps.trans (.head (step_leave_returned hleave) (.one h2)))) ?_
  exact hg cs
theorem go_ret_mark {f : FuncId} {fn : Func} {d : Deferred} {q : Nat} {R : Ending → World → Prop} {v : Value} (hd : d.target = .collected q)
    (hf : P.funcs[f]? = some fn) (ht : (Instr.takeDeferred q).run P w = .ok [] w') (hr : (results fn tm).run P w' = .ok v w') (hR : R (.returned v) w') :
    Go (tgtN P f R) (baseN f) tm [d] (.code .ret :: k) w := by
  intro cs
  refine ⟨.returned v, w', { fra (baseN f) tm [] (.code .ret :: k) with mode := .returning }, hR, ?_, rfl, ?_⟩
  · refine Steps.head (m₁ := lone { fra (baseN f) tm [d] (.code .ret :: k) with mode := .returning } cs w) (step_lone_go ?_) (Steps.one (step_lone_go ?_))
    · simp [stepG, stepG.exec, fra, baseN]
    · obtain ⟨tg, da⟩ := d
      simp only at hd; subst hd
      simp [stepG, unwind, fra, baseN, ht]
  · exact ⟨rfl, rfl, rfl, fn, hf, hr⟩
end moves
end Go.Cat
namespace Go.Cat

/-- A call of a loop's body ('yield'). -/
def YFn (P : Program) (l : Nat) (args : List Value) (H : Heap) (inn : List Res) (Φ : Heap → Value → List Res → Prop) : Prop :=
  ∀ w, Inv w (· ∈ ids inn) H inn H w → ∃ f tmps as bd, (Instr.yield l args.toArray).run P w = .ok (.round l f tmps as bd) w ∧
    Rounds P l f tmps as bd w fun v w' => ∃ H' out, Inv w (· ∈ ids inn) H out H' w' ∧ Φ H' v out

/-- An iterator: it gives the elements of some list that S knows, one by one, to whatever loop. -/
def SeqFn {α : Type} (P : Program) (g : FuncId) (first cap : List Value) (H : Heap) (enc : α → List Value) (S : List α → Prop) : Prop :=
  ∀ (l : Nat) (J : List α → Heap → List Res → Prop) (H1 : Heap) (inn : List Res), Hle H H1 → J [] H1 inn →
    (∀ xs x ys H2 inn2, Hle H1 H2 → S (xs ++ x :: ys) → J xs H2 inn2 → YFn P l (enc x) H2 inn2 fun H' v out => v = .bool true ∧ J (xs ++ [x]) H' out) →
    Fn P g (first ++ [.func (.yield l) #[] #[]] ++ cap) H1 inn fun H' _ out => ∃ xs, S xs ∧ J xs H' out

def lpRec (fn : FuncId) (tmps : Array Value) (params : Array Tmp) (assign body : Code) (q : Nat) (s : LoopState) : Obj :=
  .loop { state := s, pending := none, fn, tmps, params, assign, body, defers := q }
def rCtx (P : Program) (f n l : Nat) (w : World) (M : Nat → Prop) (H : Heap) (Φ : Heap → List Res → Prop) : Ctx P Unit :=
  { T := fun _ => tgtR P fun v w' => ∃ H' out, Inv w M H out H' w' ∧ v = .bool true ∧ Φ H' out, b := baseR l f, n := n, w0 := w, M := M, H0 := H }

section rules
variable {P : Program} {ρ τ σ α : Type} {C : Ctx P ρ} {m : Option τ} {κ : τ → Option ρ} {env : Env} {own : List Res} {H : Heap} {D : List Deferred} {k : List Item} {kk : Kont}
variable {ds : List (Option Tmp)} {rem : List Oper} {d : Tmp} {ty : TypeId} {pos : String} {af : Array Edge}

theorem s_yield {l : Nat} {vs : List Value} {cargs : List Operand} {fo : Operand} {ats : Array TypeId} {Φ : Heap → Value → List Res → Prop} (inn rest : List Res)
    (hf : ev env fo = some (.func (.yield l) #[] #[])) (ha : evs env cargs = some vs) (hp : own.Perm (inn ++ rest)) (hF : YFn P l vs H inn Φ)
    (h : ∀ v H' out, Hle H H' → Φ H' v out → Sim C m κ ((d, v) :: env) (rest ++ out) H' D (.ops ds rem kk)) (hd : Nat.blt d C.n = true := by rfl) :
    Sim C m κ env own H D (.ops ds (⟨some d, .call ⟨.value fo, cargs.toArray, ats⟩, ty, pos, af, none⟩ :: rem) kk) := by
  intro r hr w hw tm ht hE
  have hdn : d < tm.size := by rw [ht]; exact blt_lt hd
  have hw' := hw.perm hp
  obtain ⟨f, tmps, as, bd, hy, hR⟩ := hF w hw'.enter
  simp only [Pos.go, ROps] at *
  rw [if_pos (show wantedD ds tm none = true from rfl)]
  refine ⟨.inr (fun _ h => by cases h), ?_⟩
  have ha' := evs_eval hE ha
  have hrun : (execOp (evalT tm) ⟨some d, .call ⟨.value fo, cargs.toArray, ats⟩, ty, pos, af, none⟩).run P w = .ok (.round l f tmps as bd) w := by
    simp [execOp, resolve, ev_eval hE hf, Deferred.ofValue, invoke, ha', hy]
  rw [hrun]
  refine ⟨_, hR, ?_⟩
  rintro v w'' ⟨H', out, hI, hΦ⟩
  exact h v H' out hI.h0 hΦ r hr w'' (hw'.call hI) (tm.setIfInBounds d v) (by simpa using ht) (hE.put hdn)

/-! #### in a round's frame -/
theorem Inv.setBlk {w0 w : World} {M : Nat → Prop} {H0 : Heap} (h : Inv w0 M H0 own H w) {j b : Nat} {o o' : Obj} (hj : own[j]? = some (.blk b o)) : Inv w0 M H0 (own.set j (.blk b o')) H { w with heap := w.heap.setIfInBounds b o' } := by
  have hb : w.heap[b]? = some o := h.ok _ (List.mem_of_getElem? hj)
  refine h.write hj (b := b) (r' := .blk b o') (by simp [Res.ids]) rfl (fun k hk => by simp [Ne.symm hk]) (by simp) rfl rfl rfl ?_
  have : b < w.heap.size := (Array.getElem?_eq_some_iff.1 hb).1
  simp [Res.ok, this]
theorem s_beginRound {l f n q : Nat} {w : World} {M : Nat → Prop} {H0 : Heap} {Φ : Heap → List Res → Prop} {m : Option τ} {κ : τ → Option Unit} {fn : FuncId} {tmps : Array Value} {ps : Array Tmp} {as bd : Code} (j : Nat)
    (hj : own[j]? = some (.blk l (lpRec fn tmps ps as bd q .ready))) (h : Sim (rCtx P f n l w M H0 Φ) m κ env (own.set j (.blk l (lpRec fn tmps ps as bd q .busy))) H D (.code k)) :
    Sim (rCtx P f n l w M H0 Φ) m κ env own H D (.code (.beginRound :: k)) := by
  intro r hr w1 hw tm ht hE
  have hb : w1.heap[l]? = some (lpRec fn tmps ps as bd q .ready) := hw.ok _ (List.mem_of_getElem? hj)
  refine go_beginRound (w' := { w1 with heap := w1.heap.setIfInBounds l (lpRec fn tmps ps as bd q .busy) }) ?_ (h r hr _ (hw.setBlk hj) tm ht hE)
  simp [Instr.beginRound, Instr.getLoop, run_getObj_loop hb, lpRec]
  rw [run_setObj_loop _ hb]
  simp [World.putObj, lpRec]
theorem s_roundEnd {l f n q : Nat} {w : World} {M : Nat → Prop} {H0 : Heap} {Φ : Heap → List Res → Prop} {m : Option τ} {κ : τ → Option Unit} {fn : FuncId} {tmps : Array Value} {ps : Array Tmp} {as bd : Code} (j : Nat) (out : List Res)
    (hj : own[j]? = some (.blk l (lpRec fn tmps ps as bd q .busy))) (ho : out.Sublist (own.set j (.blk l (lpRec fn tmps ps as bd q .ready)))) (hΦ : Φ H out) :
    Sim (rCtx P f n l w M H0 Φ) m κ env own H D (.code []) := by
  intro r hr w1 hw tm ht hE
  have hb : w1.heap[l]? = some (lpRec fn tmps ps as bd q .busy) := hw.ok _ (List.mem_of_getElem? hj)
  refine go_round_end (v := .bool true) (w' := { w1 with heap := w1.heap.setIfInBounds l (lpRec fn tmps ps as bd q .ready) }) ?_ ⟨H, out, (hw.setBlk hj).sublist ho, rfl, hΦ⟩
  simp [Instr.endRound, Instr.getLoop, run_getObj_loop hb, lpRec]
  rw [run_setObj_loop _ hb]
  simp [World.putObj, lpRec]

/-! #### the loop -/
def rEnv (env : Env) (p : Tmp) (v : Value) : Env := (p, v) :: env
theorem s_rangeFn {α : Type} {g : FuncId} {first cap : List Value} {f : Operand} {p : Tmp} {assign body : Code} {enc : α → Value} {S : List α → Prop} [F : TFun P g]
    (inn rest : List Res) (JB : List α → Heap → List Res → Prop) (hC : C.b.roundOf = none) (hCf : C.b.fn = C.b.fn)
    (hf : ev env f = some (.func (.func g) first.toArray cap.toArray)) (hp : own.Perm (inn ++ rest)) (hS : SeqFn P g first cap H (fun x => [enc x]) S) (h0 : JB [] H inn)
    (hpn : Nat.blt p C.n = true)
    (hbody : ∀ (l q : Nat) (tmps : Array Value) (xs : List α) (x : α) (ys : List α) (H2 : Heap) (o : List Res) (w : World), Hle H H2 → S (xs ++ x :: ys) → JB xs H2 o →
      ∃ (τ' : Type) (mi : Option τ'), mi.isSome = true ∧ Sim (rCtx P C.b.fn C.n l w (· ∈ ids (o ++ [.blk l (lpRec C.b.fn tmps #[p] assign body q .ready)])) H2 fun H' out => ∃ o', out = o' ++ [.blk l (lpRec C.b.fn tmps #[p] assign body q .ready)] ∧ JB (xs ++ [x]) H' o')
        mi (fun _ => some ()) (rEnv env p (enc x)) (o ++ [.blk l (lpRec C.b.fn tmps #[p] assign body q .ready)]) H2 [] (.code [.code assign, .beginRound, .code body]))
    (hnext : ∀ (q : Nat) (xs : List α) (H' : Heap) (o : List Res), Hle H H' → S xs → JB xs H' o → Sim C m κ env (rest ++ [.blk q (.deferred (some []))] ++ o) H' ({ target := .collected q, args := #[] } :: D) (.code k)) :
    Sim C m κ env own H D (.code (.code (.rangeFunc f #[p] assign body) :: k)) := by
  intro r hr w hw tm ht hE
  have hw' := hw.perm hp
  -- the two blocks
  have hw1 := hw'.push (.deferred (some [])) (.blk w.heap.size (.deferred (some []))) rfl (by exact (MapKept.heap_alloc w _).1)
  have hw2 := hw1.push (lpRec C.b.fn tm #[p] assign body w.heap.size .ready) (.blk (w.alloc (.deferred (some []))).heap.size (lpRec C.b.fn tm #[p] assign body w.heap.size .ready)) rfl (by exact (MapKept.heap_alloc _ _).1)
  generalize hq : w.heap.size = q at hw1 hw2
  have hsz : (w.alloc (.deferred (some []))).heap.size = q + 1 := by simp [hq]
  rw [hsz] at hw2
  generalize hlp : lpRec C.b.fn tm #[p] assign body q = lp at hw2
  have henter : (Instr.enterLoop C.b.fn tm #[p] assign body C.b.roundOf).run P w = .ok (q + 1, [{ target := .collected q, args := #[] }]) ((w.alloc (.deferred (some []))).alloc (lp .ready)) := by
    subst hlp hq
    simp [Instr.enterLoop, hC, lpRec]
  generalize (w.alloc (.deferred (some []))).alloc (lp .ready) = w2 at hw2 henter
  obtain ⟨fn, hF1, hF2, hF3⟩ := F.of
  let J : List α → Heap → List Res → Prop := fun xs H' out => ∃ o, out = o ++ [.blk (q + 1) (lp .ready)] ∧ JB xs H' o
  have hfn := hS (q + 1) J H (inn ++ [.blk (q + 1) (lp .ready)]) (.refl _) ⟨inn, rfl, h0⟩ ?_
  · have hperm : ((inn ++ rest ++ [Res.blk q (.deferred (some []))]) ++ [Res.blk (q + 1) (lp .ready)]).Perm ((inn ++ [Res.blk (q + 1) (lp .ready)]) ++ (rest ++ [Res.blk q (.deferred (some []))])) := by
      simp only [List.append_assoc]
      refine (List.perm_append_left_iff _).2 ?_
      rw [← List.append_assoc]
      exact List.perm_append_comm
    have hw3 := hw2.perm hperm
    have hcall := hfn _ hw3.enter
    let R : Value → World → Prop := fun v w' => ∃ H' out, Inv w2 (· ∈ ids (inn ++ [.blk (q + 1) (lp .ready)])) H out H' w' ∧ ∃ xs, S xs ∧ J xs H' out
    have hcall2 : Calls P g (first ++ [Value.func (.yield (q + 1)) #[] #[]] ++ cap).toArray w2 fun e w' => ∃ v, e = .returned v ∧ R v w' := hcall
    refine go_rangeFunc (g := g) henter ?_ hcall2 ?_
    · simp only [resolve, ev_eval hE hf, Deferred.ofValue, pure_bind, invoke, callFunc, Sem.run_bind, run_program, Result.andThen_ok, hF1]
      simp only [hF2, Bool.false_eq_true, if_false, hF3]
      simp [evalT]
    · rintro v w' ⟨H', out, hI, xs, hxs, o, rfl, hJ⟩
      have hI2 := Inv.call (C := C) hw3 hI
      have hI3 : Inv C.w0 C.M C.H0 ((rest ++ [.blk q (.deferred (some []))] ++ o) ++ [.blk (q + 1) (lp .ready)]) H' w' := by
        rw [List.append_assoc]; exact hI2
      have hj : ((rest ++ [.blk q (.deferred (some []))] ++ o) ++ [Res.blk (q + 1) (lp .ready)])[(rest ++ [Res.blk q (.deferred (some []))] ++ o).length]? = some (.blk (q + 1) (lp .ready)) := by simp
      have hb : w'.heap[q + 1]? = some (lp .ready) := hI3.ok _ (List.mem_of_getElem? hj)
      refine ⟨{ w' with heap := w'.heap.setIfInBounds (q + 1) (lp .exhausted) }, ?_, ?_⟩
      · subst hlp
        simp [Instr.endLoop, Instr.getLoop, run_getObj_loop hb, lpRec]
        rw [run_setObj_loop _ hb]
        simp [World.putObj, lpRec]
      · have hI4 := (hI3.setBlk (o' := lp .exhausted) hj).sublist (own' := rest ++ [.blk q (.deferred (some []))] ++ o) (by
          rw [List.set_append_right _ _ (Nat.le_refl _)]
          exact List.sublist_append_left _ _)
        exact hnext q xs H' o hI.h0 hxs hJ r hr _ hI4 tm ht hE
  · -- a round
    rintro xs x ys H2 inn2 hle hSx ⟨o, rfl, hJ⟩ w1 hw1
    obtain ⟨τ', mi, hmi, hsim⟩ := hbody (q + 1) q tm xs x ys H2 o w1 hle hSx hJ
    have hb : w1.heap[q + 1]? = some (lp .ready) := hw1.ok (.blk (q + 1) (lp .ready)) (by simp)
    refine ⟨C.b.fn, tm.setIfInBounds p (enc x), assign, body, ?_, ?_⟩
    · subst hlp
      simp [Instr.yield, Instr.getLoop, run_getObj_loop hb, lpRec]
    · refine rounds_of_go ?_
      subst hlp
      have := hsim () (by cases mi with
        | none => simp at hmi
        | some a => rfl) w1 hw1 (tm.setIfInBounds p (enc x)) (by simpa [rCtx] using ht) (hE.put (by rw [ht]; exact blt_lt hpn))
      exact this
end rules
end Go.Cat
namespace Go.Cat
open Go.ChangeMaps Go.MapKept Go.WideShapes
def borns (es : Array MapEntry) (ix : List Nat) : Array Nat := (ix.map fun i => ((es[i]?).map (·.born)).getD 0).toArray
def itObj (b c : Nat) (es : Array MapEntry) (ix : List Nat) : Obj := .mapIter (some b) c (borns es ix) c
/-- Which entries have come. -/
structure Came (n : Nat) (ix : List Nat) : Prop where
  nd : ix.Nodup
  lt : ∀ i ∈ ix, i < n
theorem Came.nil {n : Nat} : Came n [] := ⟨List.nodup_nil, by simp⟩
theorem Came.snoc {n i : Nat} {ix : List Nat} (h : Came n ix) (hi : i < n) (hn : i ∉ ix) : Came n (ix ++ [i]) := by
  refine ⟨?_, ?_⟩
  · rw [List.nodup_append]; exact ⟨h.nd, by simp, by rintro a ha b hb rfl; simp at hb; subst hb; exact hn ha⟩
  · intro j hj; rcases List.mem_append.1 hj with hj | hj
    · exact h.lt j hj
    · simp at hj; subst hj; exact hi
theorem Came.split {n : Nat} {ix : List Nat} (h : Came n ix) : (List.range n).Perm (ix ++ (List.range n).filter fun i => !ix.contains i) := by
  rw [List.perm_ext_iff_of_nodup List.nodup_range (by
    rw [List.nodup_append]
    refine ⟨h.nd, List.nodup_range.filter _, ?_⟩
    rintro a ha b hb rfl
    simp only [List.mem_filter, Bool.not_eq_true', List.contains_eq_mem, decide_eq_false_iff_not] at hb
    exact hb.2 ha)]
  intro a
  simp only [List.mem_append, List.mem_filter, List.mem_range, Bool.not_eq_true', List.contains_eq_mem, decide_eq_false_iff_not]
  constructor
  · intro ha; by_cases hx : a ∈ ix
    · exact .inl hx
    · exact .inr ⟨ha, hx⟩
  · rintro (ha | ha)
    · exact h.lt a ha
    · exact ha.1
theorem Came.le {n : Nat} {ix : List Nat} (h : Came n ix) : ix.length ≤ n := by
  have := h.split.length_eq
  simp at this; omega
theorem Came.perm {n : Nat} {ix : List Nat} (h : Came n ix) (hf : n ≤ ix.length) : ix.Perm (List.range n) := by
  have hs := h.split
  have hl := hs.length_eq
  rw [List.length_append, List.length_range] at hl
  have : ((List.range n).filter fun i => !ix.contains i) = [] := List.eq_nil_of_length_eq_zero (by omega)
  rw [this, List.append_nil] at hs
  exact hs.symm
def vis {γ : Type} (l : List γ) (ix : List Nat) : List γ := ix.filterMap fun i => l[i]?
theorem vis_snoc {γ : Type} {l : List γ} {ix : List Nat} {i : Nat} {p : γ} (h : l[i]? = some p) : vis l (ix ++ [i]) = vis l ix ++ [p] := by simp [vis, h]
theorem vis_range {γ : Type} (l : List γ) : vis l (List.range l.length) = l := by
  unfold vis
  have h : ∀ (l pre : List γ), (List.range' pre.length l.length).filterMap (fun i => (pre ++ l)[i]?) = l := by
    intro l
    induction l with
    | nil => intro pre; rfl
    | cons a l ih =>
      intro pre
      rw [List.length_cons, List.range'_succ, List.filterMap_cons]
      have h1 : (pre ++ a :: l)[pre.length]? = some a := by simp
      rw [h1]
      have := ih (pre ++ [a])
      simp only [List.length_append, List.length_singleton, List.append_assoc, List.singleton_append] at this
      rw [this]
  have := h l []
  simpa [List.range_eq_range'] using this
theorem vis_perm {γ : Type} {l : List γ} {ix : List Nat} (h : Came l.length ix) (hf : l.length ≤ ix.length) : (vis l ix).Perm l := by
  have := (h.perm hf).filterMap fun i => l[i]?
  have h2 := vis_range l
  unfold vis at *
  rw [h2] at this
  exact this
theorem vis_sublist_perm {γ : Type} {l : List γ} {ix : List Nat} (h : Came l.length ix) : ∃ ys, (vis l ix ++ ys).Perm l := by
  refine ⟨vis l ((List.range l.length).filter fun i => !ix.contains i), ?_⟩
  have h2 := vis_range l
  have h3 := h.split.symm.filterMap fun i => l[i]?
  unfold vis at *
  rw [List.filterMap_append, h2] at h3
  exact h3

section rules
variable {P : Program} {ρ τ α β : Type} {C : Ctx P ρ} {m : Option τ} {κ : τ → Option ρ} {env : Env} {own : List Res} {H : Heap} {D : List Deferred} {k : Kont} {K : List Item}
variable {ds : List (Option Tmp)} {rem : List Oper} {d : Tmp} {ty : TypeId} {pos : String} {af : Array Edge}
/-- A loop with an invariant and a measure. -/
theorem s_loopM {σ : Type} {x : Code} (I : σ → Env → List Res → Heap → Prop) (meas : σ → Nat)
    (hb : ∀ s env own H, I s env own H → (∀ s' env' own' H', meas s' < meas s → I s' env' own' H' → Sim C m κ env' own' H' D (.code (.inLoop x :: K))) → Sim C m κ env own H D (.code (.code x :: .inLoop x :: K)))
    (s : σ) (h0 : I s env own H) : Sim C m κ env own H D (.code (.code (.loop x) :: K)) := by
  have key : ∀ n s env own H, meas s < n → I s env own H → Sim C m κ env own H D (.code (.code x :: .inLoop x :: K)) := by
    intro n
    induction n with
    | zero => intro s env own H h; omega
    | succ n ih =>
      intro s env own H hn hI
      exact hb s env own H hI fun s' env' own' H' hlt hI' => s_inLoop (ih s' env' own' H' (by omega) hI')
  exact s_loop (key (meas s + 1) s env own H (Nat.lt_succ_self _) h0)

theorem o_range {t kt et : TypeId} {x : Operand} {b c : Nat} {es : Array MapEntry} [T : TMap P t kt et] (hx : ev env x = some (.map (some b))) (hb : H b = some (.map es c))
    (h : ∀ r, Sim C m κ ((d, .pointer (some ⟨r, 0, none⟩)) :: env) (own ++ [.blk r (itObj b c es [])]) H D (.ops ds rem k)) (hd : Nat.blt d C.n = true := by rfl) :
    Sim C m κ env own H D (.ops ds (⟨some d, .range t x, ty, pos, af, none⟩ :: rem) k) :=
  s_op (fun _ h => by cases h) (fun tm w hE hI => by
    have hb' : w.heap[b]? = some (.map es c) := hI.sub _ _ hb
    refine ⟨_, w.alloc (itObj b c es []), _, _, ?_, hI.push _ (.blk w.heap.size (itObj b c es [])) rfl (by exact (MapKept.heap_alloc w _).1), h w.heap.size⟩
    simp only [execOp, ev_eval hE hx, Sem.run_bind, run_range_map w t kt et b es c T.und hb', Result.andThen_ok, Sem.run_pure]
    rfl) hd
theorem o_rangeN {t kt et : TypeId} {x : Operand} [T : TMap P t kt et] (hx : ev env x = some (.map none))
    (h : ∀ r, Sim C m κ ((d, .pointer (some ⟨r, 0, none⟩)) :: env) (own ++ [.blk r (.mapIter none 0 #[] 0)]) H D (.ops ds rem k)) (hd : Nat.blt d C.n = true := by rfl) :
    Sim C m κ env own H D (.ops ds (⟨some d, .range t x, ty, pos, af, none⟩ :: rem) k) :=
  s_op (fun _ h => by cases h) (fun tm w hE hI => by
    refine ⟨_, w.alloc (.mapIter none 0 #[] 0), _, _, ?_, hI.push _ (.blk w.heap.size (.mapIter none 0 #[] 0)) rfl (by exact (MapKept.heap_alloc w _).1), h w.heap.size⟩
    simp only [execOp, ev_eval hE hx, Sem.run_bind, run_range_nilMap w t kt et T.und, Result.andThen_ok, Sem.run_pure]) hd
theorem o_nextN (j : Nat) {x : Operand} {r : Nat} (hx : ev env x = some (.pointer (some ⟨r, 0, none⟩))) (hj : own[j]? = some (.blk r (.mapIter none 0 #[] 0)))
    (h : Sim C m κ ((d, .tuple #[.bool false]) :: env) own H D (.ops ds rem k)) (hd : Nat.blt d C.n = true := by rfl) :
    Sim C m κ env own H D (.ops ds (⟨some d, .next x false, ty, pos, af, none⟩ :: rem) k) :=
  s_op (fun _ h => by cases h) (fun tm w hE hI => by
    have hb' : w.heap[r]? = some (.mapIter none 0 #[] 0) := own_ok hI hj
    refine ⟨_, w, own, H, ?_, hI, h⟩
    have hg : (getObj r).run P w = .ok (.mapIter none 0 #[] 0) w := by simp [getObj, Sem.run, hb']
    simp only [execOp, ev_eval hE hx, Instr.next, Sem.run_bind, hg, Result.andThen_ok, Sem.run_pure]) hd
theorem borns_mem {es : Array MapEntry} {c : Nat} {l : List (α × β)} [GoE α] [GoT β] {ka va : Bool} (hR : MapR ka va H es c l) {ix : List Nat} (hC : Came l.length ix) {i : Nat} {e : MapEntry} (he : es[i]? = some e) : (borns es ix).contains e.born = true ↔ i ∈ ix := by
  unfold borns
  simp only [List.contains_toArray, List.contains_eq_mem, List.mem_map, decide_eq_true_eq]
  constructor
  · rintro ⟨j, hj, hjb⟩
    have hjl : j < es.size := by rw [hR.len]; exact hC.lt j hj
    have hjs : es[j]? = some es[j] := Array.getElem?_eq_getElem hjl
    rw [hjs] at hjb
    simp only [Option.map_some, Option.getD_some] at hjb
    rcases Nat.lt_trichotomy i j with h | h | h
    · have := hR.inc i j e es[j] h he hjs; omega
    · exact h ▸ hj
    · have := hR.inc j i es[j] e h hjs he; omega
  · intro hi
    exact ⟨i, hi, by rw [he]; rfl⟩
theorem o_next [GoE α] [GoT β] (j : Nat) {ka va : Bool} {x : Operand} {r b c : Nat} {es : Array MapEntry} {l : List (α × β)} {ix : List Nat} (hx : ev env x = some (.pointer (some ⟨r, 0, none⟩))) (hj : own[j]? = some (.blk r (itObj b c es ix)))
    (hb : H b = some (.map es c)) (hR : MapR ka va H es c l) (hC : Came l.length ix)
    (h0 : l.length ≤ ix.length → Sim C m κ ((d, .tuple #[.bool false]) :: env) own H D (.ops ds rem k))
    (h1 : ∀ i p v, i ∉ ix → i < l.length → l[i]? = some p → (∃ vs, v = mkv va vs ∧ GoT.rep H vs p.2) → Sim C m κ ((d, .tuple #[.bool true, mkE ka p.1, v]) :: env) (own.set j (.blk r (itObj b c es (ix ++ [i])))) H D (.ops ds rem k)) (hd : Nat.blt d C.n = true := by rfl) :
    Sim C m κ env own H D (.ops ds (⟨some d, .next x false, ty, pos, af, none⟩ :: rem) k) :=
  s_op (fun _ h => by cases h) (fun tm w hE hI => by
    have hr' : w.heap[r]? = some (.mapIter (some b) c (borns es ix) c) := own_ok hI hj
    have hb' : w.heap[b]? = some (.map es c) := hI.sub _ _ hb
    have hold : ∀ y ∈ es.toList, y.born < c := fun y hy => by
      obtain ⟨i, hi, rfl⟩ := List.mem_iff_getElem.1 hy
      exact hR.born i _ (by simp at hi; simp [hi])
    rcases run_next_at (P := P) w ty r b c c (borns es ix) es c hr' hb' hold (Nat.le_refl _) with ⟨hz, hrun⟩ | ⟨e, he, w1, hw1, hrun⟩
    · refine ⟨_, w, own, H, ?_, hI, h0 ?_⟩
      · simp only [execOp, ev_eval hE hx, Sem.run_bind, hrun, Result.andThen_ok, Sem.run_pure]
      · -- all have come
        apply Classical.byContradiction
        intro hlt
        have hlt : ix.length < l.length := by omega
        have hs := hC.split.length_eq
        rw [List.length_append, List.length_range] at hs
        have hne : ((List.range l.length).filter fun i => !ix.contains i) ≠ [] := fun h => by rw [h] at hs; simp at hs; omega
        obtain ⟨i, hi⟩ := List.exists_mem_of_ne_nil _ hne
        simp only [List.mem_filter, List.mem_range, Bool.not_eq_true', List.contains_eq_mem, decide_eq_false_iff_not] at hi
        have hil : i < es.size := by rw [hR.len]; exact hi.1
        have hes : es[i]? = some es[i] := Array.getElem?_eq_getElem hil
        have hnc : (borns es ix).contains es[i].born = false := by
          cases hc : (borns es ix).contains es[i].born with
          | false => rfl
          | true => exact absurd ((borns_mem hR hC hes).1 hc) hi.2
        have : es[i] ∈ leftOf es (borns es ix) := by
          unfold leftOf
          rw [Array.mem_filter]
          exact ⟨Array.getElem_mem hil, by simp only [hnc]; rfl⟩
        have hpos := Array.size_pos_of_mem this
        omega
    · obtain ⟨hmem, hns⟩ := mem_left he
      obtain ⟨i, hi, hie⟩ := List.mem_iff_getElem.1 hmem
      have hil : i < es.size := by simpa using hi
      have hes : es[i]? = some e := by rw [Array.getElem?_eq_getElem hil, ← hie]; simp
      have hlp : i < l.length := by rw [← hR.len]; exact hil
      have hp : l[i]? = some l[i] := List.getElem?_eq_getElem hlp
      obtain ⟨hk, vs, hv, hrep⟩ := hR.ent i e _ hes hp
      have hix : i ∉ ix := fun hx => by rw [(borns_mem hR hC hes).2 hx] at hns; cases hns
      have hpush : (borns es ix).push e.born = borns es (ix ++ [i]) := by simp [borns, hes]
      have hw1' : w1.heap = w.heap ∧ w1.os = w.os ∧ w1.tape = w.tape ∧ w1.output = w.output := by rcases hw1 with rfl | rfl <;> exact ⟨rfl, rfl, rfl, rfl⟩
      have hI1 := hI.quiet (w' := w1) hw1'.1 hw1'.2.1 hw1'.2.2.1 hw1'.2.2.2
      refine ⟨_, _, _, H, ?_, hI1.setBlk (o' := itObj b c es (ix ++ [i])) hj, h1 i _ e.val hix hlp hp ⟨vs, hv, hrep⟩⟩
      simp only [execOp, ev_eval hE hx, Sem.run_bind, hrun, Result.andThen_ok, Sem.run_pure, hk]
      rw [hpush]
      rfl) hd
theorem o_entry [GoE α] [GoT β] (j : Nat) {ka va : Bool} {x : Operand} {r b c i : Nat} {es : Array MapEntry} {l : List (α × β)} {ix : List Nat} {p : α × β} (hx : ev env x = some (.pointer (some ⟨r, 0, none⟩))) (hj : own[j]? = some (.blk r (itObj b c es (ix ++ [i]))))
    (hb : H b = some (.map es c)) (hR : MapR ka va H es c l) (hp : l[i]? = some p)
    (h : ∀ v vs, v = mkv va vs → GoT.rep H vs p.2 → Sim C m κ ((d, .tuple #[mkE ka p.1, v]) :: env) own H D (.ops ds rem k)) (hd : Nat.blt d C.n = true := by rfl) :
    Sim C m κ env own H D (.ops ds (⟨some d, .entry x, ty, pos, af, none⟩ :: rem) k) :=
  s_op (fun _ h => by cases h) (fun tm w hE hI => by
    have hlt : i < es.size := by rw [hR.len]; exact (List.getElem?_eq_some_iff.1 hp).1
    have hes : es[i]? = some es[i] := Array.getElem?_eq_getElem hlt
    have hr' : w.heap[r]? = some (.mapIter (some b) c ((borns es ix).push es[i].born) c) := by
      have : w.heap[r]? = some (itObj b c es (ix ++ [i])) := own_ok hI hj
      rw [this]; simp [itObj, borns, hes]
    have hb' : w.heap[b]? = some (.map es c) := hI.sub _ _ hb
    obtain ⟨hk, vs, hv, hrep⟩ := hR.ent i _ _ hes hp
    refine ⟨_, w, own, H, ?_, hI, h _ vs hv hrep⟩
    have hnd : (es.toList.map (·.born)).Nodup := by
      rw [List.nodup_iff_pairwise_ne, List.pairwise_map, List.pairwise_iff_getElem]
      intro a b' ha hb'' hab
      have h1 : es[a]? = some es.toList[a] := by simp at ha; simp [ha]
      have h2 : es[b']? = some es.toList[b'] := by simp at hb''; simp [hb'']
      have := hR.inc a b' _ _ hab h1 h2
      omega
    simp only [execOp, ev_eval hE hx, Sem.run_bind, run_entry_at (P := P) w r b c (borns es ix) es c es[i] hr' hb' (by simp) hnd, Result.andThen_ok, Sem.run_pure, hk]) hd
end rules
section ends
variable {P : Program} {ρ : Type} {f : FuncId} {n : Nat} {w0 : World} {M : Nat → Prop} {H0 : Heap} {Φ : ρ → Heap → Value → List Res → Prop} {r : ρ} {env : Env} {own : List Res} {H : Heap} {k : List Item} {fn : Func}
/-- A return out of a function that held a loop over a function. -/
theorem s_retM {xs : List ResultVar} {vs : List Value} (j q : Nat) (own' : List Res) (hf : P.funcs[f]? = some fn) (hr : fn.results.toList = xs) (hq : own[j]? = some (.blk q (.deferred (some [])))) (hv : RVs (fnCtx P f n w0 M H0 Φ) env (own.set j (.blk q (.deferred none))) H xs vs) (hs : own'.Sublist (own.set j (.blk q (.deferred none)))) (hΦ : Φ r H (resv vs) own') :
    Sim (fnCtx P f n w0 M H0 Φ) (some r) some env own H [{ target := .collected q, args := #[] }] (.code (.code .ret :: k)) := by
  intro r' hr' w hw tm ht hE
  simp at hr'; subst hr'
  have hb : w.heap[q]? = some (.deferred (some [])) := own_ok hw hq
  have hI := hw.setBlk (o' := .deferred none) hq
  refine go_ret_mark rfl hf ?_ (v := resv vs) (results_run hr hv hE hI) ⟨_, rfl, H, own', hI.sublist hs, hΦ⟩
  simp [Instr.takeDeferred, getObj, setObj, Sem.run, hb]
end ends
end Go.Cat
namespace Go.Cat
def marks (qs : List Nat) : List Deferred := qs.map fun q => { target := .collected q, args := #[] }
def dblks (qs : List Nat) : List Res := qs.map fun q => .blk q (.deferred (some []))
section rules
variable {P : Program} {ρ τ : Type} {C : Ctx P ρ} {m : Option τ} {κ : τ → Option ρ} {env : Env} {own : List Res} {H : Heap} {D : List Deferred} {K : List Item}
/-- A loop with an invariant and a measure, in which marks may gather. -/
theorem s_loopMD {σ : Type} {x : Code} (I : σ → Env → List Res → Heap → List Deferred → Prop) (meas : σ → Nat)
    (hb : ∀ s env own H D, I s env own H D → (∀ s' env' own' H' D', meas s' < meas s → I s' env' own' H' D' → Sim C m κ env' own' H' D' (.code (.inLoop x :: K))) → Sim C m κ env own H D (.code (.code x :: .inLoop x :: K)))
    (s : σ) (h0 : I s env own H D) : Sim C m κ env own H D (.code (.code (.loop x) :: K)) := by
  have key : ∀ n s env own H D, meas s < n → I s env own H D → Sim C m κ env own H D (.code (.code x :: .inLoop x :: K)) := by
    intro n
    induction n with
    | zero => intro s env own H D h; omega
    | succ n ih =>
      intro s env own H D hn hI
      exact hb s env own H D hI fun s' env' own' H' D' hlt hI' => s_inLoop (ih s' env' own' H' D' (by omega) hI')
  exact s_loop (key (meas s + 1) s env own H D (Nat.lt_succ_self _) h0)
end rules
theorem unwind_marks {P : Program} {w0 : World} {M : Nat → Prop} {H0 H : Heap} {X : List Res} : ∀ (qs : List Nat) (w : World), Inv w0 M H0 (X ++ dblks qs) H w →
    ∃ w', Inv w0 M H0 X H w' ∧ ∀ (fr : Frame) (cs : List Frame), fr.mode = .returning → Steps P (lone { fr with defers := marks qs } cs w) (lone { fr with defers := [] } cs w') := by
  intro qs
  induction qs with
  | nil => intro w h; exact ⟨w, by simpa [dblks] using h, fun fr cs _ => .refl _ _⟩
  | cons q qs ih =>
    intro w h
    have hj : (X ++ dblks (q :: qs))[X.length]? = some (.blk q (.deferred (some []))) := by simp [dblks]
    have hb : w.heap[q]? = some (.deferred (some [])) := h.ok _ (List.mem_of_getElem? hj)
    have h1 := (h.setBlk (o' := .deferred none) hj).sublist (own' := X ++ dblks qs) (by
      rw [List.set_append_right _ _ (Nat.le_refl _)]
      simp only [dblks, List.map_cons, Nat.sub_self, List.set_cons_zero]
      exact (List.Sublist.refl X).append (.cons _ (.refl _)))
    obtain ⟨w', hI, hst⟩ := ih _ h1
    refine ⟨w', hI, fun fr cs hm => .head (step_lone_go ?_) (hst fr cs hm)⟩
    have ht : (Instr.takeDeferred q).run P w = .ok [] { w with heap := w.heap.setIfInBounds q (.deferred none) } := by
      simp [Instr.takeDeferred, getObj, setObj, Sem.run, hb]
    obtain ⟨fn, tmps, todo, defers, mode, kind, ro⟩ := fr
    simp only at hm; subst hm
    simp [stepG, unwind, marks, ht]
section ends
variable {P : Program} {ρ : Type} {f : FuncId} {n : Nat} {w0 : World} {M : Nat → Prop} {H0 : Heap} {Φ : ρ → Heap → Value → List Res → Prop} {r : ρ} {env : Env} {X : List Res} {H : Heap} {k : List Item} {fn : Func}
/-- A return out of a function that held loops over functions. -/
theorem s_retMs {xs : List ResultVar} {vs : List Value} (qs : List Nat) (own' : List Res) (hf : P.funcs[f]? = some fn) (hr : fn.results.toList = xs) (hv : RVs (fnCtx P f n w0 M H0 Φ) env X H xs vs) (hs : own'.Sublist X) (hΦ : Φ r H (resv vs) own') :
    Sim (fnCtx P f n w0 M H0 Φ) (some r) some env (X ++ dblks qs) H (marks qs) (.code (.code .ret :: k)) := by
  intro r' hr' w hw tm ht hE
  simp at hr'; subst hr'
  obtain ⟨w', hI, hst⟩ := unwind_marks (P := P) qs w hw
  intro cs
  refine ⟨.returned (resv vs), w', { fra (baseN f) tm [] (.code .ret :: k) with mode := .returning }, ⟨_, rfl, H, own', hI.sublist hs, hΦ⟩, ?_, rfl, ?_⟩
  · refine Steps.head (m₁ := lone { fra (baseN f) tm (marks qs) (.code .ret :: k) with mode := .returning } cs w) (step_lone_go ?_) (hst { fra (baseN f) tm [] (.code .ret :: k) with mode := .returning } cs rfl)
    simp [stepG, stepG.exec, fra, baseN]
  · exact ⟨rfl, rfl, rfl, fn, hf, results_run hr hv hE hI⟩
end ends
end Go.Cat
namespace Go.Cat
/-! ### Arrays: built, indexed by what is reckoned -/
class TBldA (P : Program) (t : TypeId) (zero : outParam (List Value)) (len : outParam Nat) (sz : outParam Nat) : Prop where
  zero : ∀ w, (zeroValue t).run P w = .ok (.agg zero.toArray) w
  und : ∃ e, P.underlying t = some (.array len e) ∧ ∀ w, (sizeOf e).run P w = .ok sz w
theorem fill_eqP {place : Nat → Option (Nat × Nat)} (offs : List (Nat × Nat)) (hp : ∀ (i : Nat) q, offs[i]? = some q → place i = some q) : ∀ (parts : List (Nat × Value)) (cs cs' : List Value), fillL offs cs parts = some cs' → Instr.fill place cs.toArray parts = some cs'.toArray := by
  intro parts
  induction parts with
  | nil => intro cs cs' h; simp [fillL] at h; simp [Instr.fill, h]
  | cons p parts ih =>
    obtain ⟨i, v⟩ := p
    intro cs cs' h
    simp only [fillL] at h
    cases ho : offs[i]? with
    | none => rw [ho] at h; cases h
    | some q =>
      obtain ⟨off, size⟩ := q
      rw [ho] at h
      simp only [Instr.fill, hp i _ ho]
      cases hb : (Nat.beq v.cells.toList.length size && Nat.ble (off + v.cells.toList.length) cs.length) with
      | false => simp only [hb, cond_false] at h; cases h
      | true =>
        simp only [hb, cond_true] at h
        rw [Bool.and_eq_true] at hb
        have h1 := Nat.eq_of_beq_eq_true hb.1
        have h2 := Nat.le_of_ble_eq_true hb.2
        have h1' : v.cells.size = size := by simpa using h1
        have h2' : off + v.cells.size ≤ cs.length := by simpa using h2
        have hc : (decide (v.cells.size ≠ size) || decide (off + v.cells.size > cs.toArray.size)) = false := by simp [h1']; omega
        simp only [hc, Bool.false_eq_true, if_false]
        have := ih _ _ h
        have e : v.cells.zipIdx.foldl (fun (cs : Array Value) (x : Value × Nat) => cs.setIfInBounds (off + x.2) x.1) cs.toArray = (spl cs off v.cells.toList).toArray := by
          rw [← Array.foldl_toList, Array.toList_zipIdx]
          exact foldl_spl v.cells.toList cs off 0
        exact (congrArg (fun z => Instr.fill _ z parts) e).trans this
def offsA (len sz : Nat) : List (Nat × Nat) := (List.range len).map fun i => (i * sz, sz)
/-- What stands at a reckoned place. -/
theorem getA {α : Type} {cs : List Value} {off len : Nat} {l : List α} {g : α → Value} {i : Int} {y : α} (hs : subc cs off len = l.map g) (h : rd l i = some y) : cs[off + i.toNat]? = some (g y) := by
  obtain ⟨h0, hi, rfl⟩ := rd_some h
  have h1 : (subc cs off len)[i.toNat]? = some (g l[i.toNat]) := by rw [hs]; simp [hi]
  have h2 : i.toNat < (subc cs off len).length := (List.getElem?_eq_some_iff.1 h1).1
  simp only [subc, List.length_take, List.length_drop] at h2
  simp only [subc] at h1
  rw [List.getElem?_take_of_lt (by omega), List.getElem?_drop] at h1
  exact h1
theorem getA_lt {α : Type} {cs : List Value} {off len : Nat} {l : List α} {g : α → Value} {i : Int} {y : α} (hs : subc cs off len = l.map g) (h : rd l i = some y) : Nat.ble (off + i.toNat + 1) cs.length = true := by
  have := (List.getElem?_eq_some_iff.1 (getA hs h)).1
  exact Nat.ble_eq_true_of_le this
theorem rd_cases {α : Type} {l : List α} {i : Int} {y : α} (h : rd l i = some y) : ∃ n : Nat, n < l.length ∧ i = n := by
  obtain ⟨h0, hi, _⟩ := rd_some h
  exact ⟨i.toNat, hi, by omega⟩
theorem rd_in3 {α : Type} {a b c : α} {i : Int} {y : α} (h : rd [a, b, c] i = some y) : i = 0 ∨ i = 1 ∨ i = 2 := by
  obtain ⟨n, h2, h3⟩ := rd_cases h; simp only [List.length_cons, List.length_nil] at h2; omega
theorem rd_in7 {α : Type} {a b c d e f g : α} {i : Int} {y : α} (h : rd [a, b, c, d, e, f, g] i = some y) : i = 0 ∨ i = 1 ∨ i = 2 ∨ i = 3 ∨ i = 4 ∨ i = 5 ∨ i = 6 := by
  obtain ⟨n, h2, h3⟩ := rd_cases h; simp only [List.length_cons, List.length_nil] at h2; omega
section rules
variable {P : Program} {ρ ρ' τ σ α : Type} {C : Ctx P ρ} {m m1 m2 : Option τ} {κ : τ → Option ρ} {env : Env} {own : List Res} {H : Heap} {D : List Deferred} {k : Kont}
variable {ds : List (Option Tmp)} {rem : List Oper} {d : Tmp} {ty : TypeId} {pos : String} {af : Array Edge}
theorem o_bldA {t : TypeId} {ps : List (Nat × Operand)} {vs cs zero : List Value} {len sz : Nat} [B : TBldA P t zero len sz] (hx : evs env (ps.map (·.2)) = some vs) (hf : fillL (offsA len sz) zero ((ps.map (·.1)).zip vs) = some cs)
    (h : Sim C m κ ((d, .agg cs.toArray) :: env) own H D (.ops ds rem k)) (hd : Nat.blt d C.n = true := by rfl) :
    Sim C m κ env own H D (.ops ds (⟨some d, .build t ps.toArray, ty, pos, af, none⟩ :: rem) k) :=
  s_pure (fun _ h => by cases h) (fun tm w hE => by
    obtain ⟨e, h1, h2⟩ := B.und
    have hz : (ps.toArray.map fun x => (x.1, evalT tm x.2)).toList = (ps.map (·.1)).zip vs := by
      rw [← evs_eval hE hx]
      simp only [List.map_toArray, List.map_map]
      rw [List.zip_map']
      rfl
    have hz' : (Array.map (fun (x : Nat × Operand) => match x with | (i, x) => (i, evalT tm x)) ps.toArray).toList = (ps.map (·.1)).zip vs := hz
    have hfill := fill_eqP (place := fun i => some (i * sz, sz)) (offsA len sz) (fun i q hi => by
      simp only [offsA, List.getElem?_map] at hi
      cases hr : (List.range len)[i]? with
      | none => rw [hr] at hi; cases hi
      | some j =>
        rw [hr] at hi
        have := List.getElem?_range (n := len) (i := i) (by have := (List.getElem?_eq_some_iff.1 hr).1; simpa using this)
        rw [this] at hr; cases hr
        simpa using hi) _ _ _ hf
    simp only [execOp, Sem.run_bind, Instr.build, B.zero, Result.andThen_ok, run_underlying h1, h2, hz', Value.cells, hfill, Sem.run_pure]) h hd
/-- A reckoned index into an array whose place is known. -/
theorem o_ixD {f : α → Option τ} {x ix : Operand} {t e : TypeId} {len b off : Nat} {K : IntKind} {i : Int} [A : TArr P t len e 1] (l : List α) (hlen : l.length = len) (hx : ev env x = some (.pointer (some ⟨b, off, none⟩))) (hi : ev env ix = some (.int K i))
    (h : ∀ y, rd l i = some y → Sim C (f y) κ ((d, .pointer (some ⟨b, off + i.toNat, none⟩)) :: env) own H D (.ops ds rem k)) (hd : Nat.blt d C.n = true := by rfl) :
    Sim C ((rd l i).bind f) κ env own H D (.ops ds (⟨some d, .indexAddr t x ix, ty, pos, af, none⟩ :: rem) k) := by
  refine s_bind (s_get fun r hr => ?_)
  obtain ⟨h0, h1, _⟩ := rd_some hr
  exact s_pure (fun _ h => by cases h) (fun tm w hE => by
    have h2 : i < (len : Int) := by omega
    simp [execOp, ev_eval hE hx, ev_eval hE hi, Instr.indexAt, Instr.sureAddr, asIntOf, run_underlying A.und, A.size, add_none, h0, h2]) (fun r2 hr2 w hw tm ht hE => h _ hr r2 (by simpa using hr2) w hw tm ht hE) hd
/-- A load of one cell that stands somewhere in a block of the call's own. -/
theorem o_ldD (j : Nat) {t T : TypeId} {x : Operand} {b o : Nat} {cs : List Value} {v : Value} [L : TLay P t 1 false] (hx : ev env x = some (.pointer (some ⟨b, o, none⟩))) (ho : own[j]? = some (.blk b (rowObj cs T)))
    (hv : cs[o]? = some v) (h : Sim C m κ ((d, v) :: env) own H D (.ops ds rem k)) (hd : Nat.blt d C.n = true := by rfl) :
    Sim C m κ env own H D (.ops ds (⟨some d, .load t x, ty, pos, af, none⟩ :: rem) k) :=
  s_op (fun _ h => by cases h) (fun tm w hE hI => ⟨_, _, _, _, by
    have hb : w.heap[b]? = some (.cells cs.toArray T (0, 0)) := own_ok hI ho
    have hlt := (List.getElem?_eq_some_iff.1 hv).1
    have hm : mkv false (subc cs o 1) = v := by
      simp only [mkv, subc]
      rw [List.drop_eq_getElem_cons hlt]
      simp [(List.getElem?_eq_some_iff.1 hv).2]
    have := run_loadAt_row (P := P) (n := 1) (ag := false) (ty := t) hb (off := o) (by simp only [List.size_toArray]; omega)
    simp only [hm] at this
    simp only [execOp, ev_eval hE hx, Sem.run_bind, this, Result.andThen_ok, Sem.run_pure], hI, h⟩) hd
/-- .. in a block that is only read. -/
theorem o_ldHD {t : TypeId} {x : Operand} {bk of off o : Nat} {vs : List Value} {v : Value} [L : TLay P t 1 false] (hc : CellsAt H bk of vs) (hx : ev env x = some (.pointer (some ⟨bk, of + off + o, none⟩)))
    (hv : vs[off + o]? = some v) (h : Sim C m κ ((d, v) :: env) own H D (.ops ds rem k)) (hd : Nat.blt d C.n = true := by rfl) :
    Sim C m κ env own H D (.ops ds (⟨some d, .load t x, ty, pos, af, none⟩ :: rem) k) :=
  s_op (fun _ h => by cases h) (fun tm w hE hI => ⟨_, _, _, _, by
    obtain ⟨cs, T, fz, h1, h2, h3⟩ := hc
    have hb : w.heap[bk]? = some (.cells cs T fz) := hI.sub _ _ h1
    have hlt := (List.getElem?_eq_some_iff.1 hv).1
    have hm : mkv false (subc cs.toList (of + off + o) 1) = v := by
      have hg : cs.toList[of + off + o]? = some v := by
        rw [← h2] at hv
        simp only [subc] at hv
        rw [List.getElem?_take_of_lt hlt, List.getElem?_drop, ← Nat.add_assoc] at hv
        exact hv
      have hl2 := (List.getElem?_eq_some_iff.1 hg).1
      simp only [mkv, subc]
      rw [List.drop_eq_getElem_cons hl2]
      simp [(List.getElem?_eq_some_iff.1 hg).2]
    have := run_loadAt_row (P := P) (n := 1) (ag := false) (ty := t) hb (off := of + off + o) (by omega)
    simp only [hm] at this
    simp only [execOp, ev_eval hE hx, Sem.run_bind, this, Result.andThen_ok, Sem.run_pure], hI, h⟩) hd
/-- An element of an array that is a value. -/
theorem o_ixV {f : α → Option τ} {x ix : Operand} {t e : TypeId} {len : Nat} {K : IntKind} {i : Int} [A : TArr P t len e 1] [L : TLay P e 1 false] (l : List α) (g : α → Value) (hlen : l.length = len) (hx : ev env x = some (.agg (l.map g).toArray)) (hi : ev env ix = some (.int K i))
    (h : ∀ y, rd l i = some y → Sim C (f y) κ ((d, g y) :: env) own H D (.ops ds rem k)) (hd : Nat.blt d C.n = true := by rfl) :
    Sim C ((rd l i).bind f) κ env own H D (.ops ds (⟨some d, .index t x ix, ty, pos, af, none⟩ :: rem) k) := by
  refine s_bind (s_get fun y hr => ?_)
  obtain ⟨h0, h1, he⟩ := rd_some hr
  exact s_pure (fun _ h => by cases h) (fun tm w hE => by
    have h2 : i < (len : Int) := by omega
    have hp := run_part (P := P) (cs := (l.map g).toArray) (off := i.toNat) (w := w) L.size L.agg L.one (by simp; omega)
    have hm : mkv false (subc (l.map g) i.toNat 1) = g y := by
      simp only [mkv, subc]
      rw [List.drop_eq_getElem_cons (by simpa using h1)]
      simp [he]
    simp only [hm] at hp
    simp [execOp, ev_eval hE hx, ev_eval hE hi, Instr.index, asIntOf, run_underlying A.und, A.size, h0, h2, hp]) (fun r2 hr2 w hw tm ht hE => h _ hr r2 (by simpa using hr2) w hw tm ht hE) hd
/-- .. at a place that stands in the text. -/
theorem o_ixC (i : Nat) {x ix : Operand} {t e : TypeId} {len sz : Nat} {ag : Bool} {K : IntKind} {cs : List Value} [A : TArr P t len e sz] [L : TLay P e sz ag] (hx : ev env x = some (.agg cs.toArray)) (hi : ev env ix = some (.int K i)) (hlt : Nat.blt i len = true) (hn : Nat.ble (i * sz + sz) cs.length = true)
    (h : Sim C m κ ((d, mkv ag (subc cs (i * sz) sz)) :: env) own H D (.ops ds rem k)) (hd : Nat.blt d C.n = true := by rfl) :
    Sim C m κ env own H D (.ops ds (⟨some d, .index t x ix, ty, pos, af, none⟩ :: rem) k) :=
  s_pure (fun _ h => by cases h) (fun tm w hE => by
    have h1 := blt_lt hlt
    have h2 : (i : Int) < (len : Int) := by omega
    have hp := run_part (P := P) (cs := cs.toArray) (off := i * sz) (w := w) L.size L.agg L.one (by simpa using Nat.le_of_ble_eq_true hn)
    simp only [] at hp
    simp [execOp, ev_eval hE hx, ev_eval hE hi, Instr.index, asIntOf, run_underlying A.und, A.size, hp]
    intro hge; omega) h hd
/-- A pair of a map that is written out. -/
theorem o_ins {β : Type} [DecidableEq α] [GoE α] [GoT β] (j : Nat) {x y z : Operand} {t kt et : TypeId} {ka va : Bool} {b c : Nat} {es : Array MapEntry} {l : List (α × β)} [T : TMap P t kt et] [K : TKey P kt ka α]
    (hx : ev env x = some (.map (some b))) (ho : own[j]? = some (.blk b (.map es c))) (hR : MapR ka va H es c l) (q : α) (hy : ev env y = some (mkE ka q)) {vs : List Value} (v : β) (hz : ev env z = some (mkv va vs)) (hrep : GoT.rep H vs v)
    (h : ∀ es' c', MapR ka va H es' c' (mput l q v) → Sim C m κ env (own.set j (.blk b (.map es' c'))) H D (.ops ds rem k)) :
    Sim C m κ env own H D (.ops ds (⟨none, .insert t x y z, ty, pos, af, none⟩ :: rem) k) := by
  intro r hr w hw tm ht hE
  have := o_mup (kt := kt) (et := et) (t := t) (ty := ty) (pos := pos) (af := af) (ds := ds) (rem := rem) (C := C) (m := m) (κ := κ) (D := D) (k := k) j hx ho hR q hy v hz hrep h r hr w hw tm ht hE
  simp only [Pos.go, ROps] at *
  rw [if_pos (show wantedD ds tm none = true from rfl)] at *
  exact ⟨.inr (fun _ h => by cases h), this.2⟩
/-- Shifts by what is there. -/
def gshl (K : IntKind) (x n : Int) : Option Int := if n < 0 then none else some (K.wrap (x * 2 ^ (min n.toNat K.bits)))
def gshr (K : IntKind) (x n : Int) : Option Int := if n < 0 then none else some (x.fdiv (2 ^ (min n.toNat K.bits)))
end rules
end Go.Cat
namespace Go.Cat
/-! ### A slice of the call's own cut short, its tail cleared; a slice held against nil -/
theorem Inv.turn {w0 w : World} {M : Nat → Prop} {H0 H : Heap} {own : List Res} {j : Nat} {r r' : Res} (h : Inv w0 M H0 own H w) (hj : own[j]? = some r) (hids : r'.ids = r.ids) (hok : r'.ok w) : Inv w0 M H0 (own.set j r') H w := by
  have hsplit := ids_split hj
  have hlt : j < own.length := (List.getElem?_eq_some_iff.1 hj).1
  have hset : own.set j r' = own.take j ++ r' :: own.drop (j + 1) := by rw [List.set_eq_take_append_cons_drop, if_pos hlt]
  have hidseq : ids (own.set j r') = ids own := by
    rw [hset]; conv => rhs; rw [hsplit]
    simp [ids, hids]
  refine ⟨h.os, h.tape, h.output, h.size, h.same, h.sub, h.h0, h.new, fun q hq => ?_, by rw [hidseq]; exact h.nd, by rw [hidseq]; exact h.away⟩
  rw [hset] at hq
  rcases List.mem_append.1 hq with hq | hq
  · exact h.ok q (List.mem_of_mem_take hq)
  · rcases List.mem_cons.1 hq with rfl | hq
    · exact hok
    · exact h.ok q (List.mem_of_mem_drop hq)
theorem flatten_take_drop {ls : List (List Value)} (n : Nat) : ls.flatten = (ls.take n).flatten ++ (ls.drop n).flatten := by
  rw [← List.flatten_append, List.take_append_drop]
theorem OSl.cut {w : World} {a : Option Addr} {n cap sz : Nat} {t : TypeId} {ls : List (List Value)} (h : OSl w (.slice a n cap) sz t ls) (m : Nat) (hm : m ≤ ls.length) : OSl w (.slice a m cap) sz t (ls.take m) := by
  rcases h with ⟨h1, h2⟩ | ⟨b, cap', arr, rest, h1, hb, hs, hle, ha, hall⟩
  · simp only [Value.slice.injEq] at h1
    subst h2
    simp at hm
    exact .inl ⟨by rw [h1.1, h1.2.2, hm], by simp⟩
  · simp only [Value.slice.injEq] at h1
    refine .inr ⟨b, cap', arr, (ls.drop m).flatten ++ rest, ?_, hb, hs, ?_, ?_, fun x hx => hall x (List.mem_of_mem_take hx)⟩
    · rw [h1.1, h1.2.2]; simp; omega
    · simp; omega
    · rw [ha, ← List.append_assoc, ← flatten_take_drop]
section rules
variable {P : Program} {ρ ρ' τ σ α : Type} {C : Ctx P ρ} {m m1 m2 : Option τ} {κ : τ → Option ρ} {env : Env} {own : List Res} {H : Heap} {D : List Deferred} {k : Kont}
variable {ds : List (Option Tmp)} {rem : List Oper} {d : Tmp} {ty ty' : TypeId} {pos pos' : String} {af af' : Array Edge}
/-- 's[:n]' of a slice of the call's own: the rest of it is room. -/
theorem o_slP (j : Nat) {f : List α → Option τ} [GoT α] {x hi : Operand} {t : TypeId} {e by_ : Nat} {a : Option Addr} {cap : Nat} {l : List α} {ls : List (List Value)} {et : TypeId} {hv : Int} {K : IntKind} [S : TSl P t e (GoT.sz α) by_]
    (hx : ev env x = some (.slice a l.length cap)) (hh : ev env hi = some (.int K hv)) (ho : own[j]? = some (.osl (.slice a l.length cap) (GoT.sz α) et ls)) (hA : All2 (GoT.rep H) ls l)
    (h : ∀ r, slc l 0 hv = some r → All2 (GoT.rep H) (ls.take hv.toNat) r → Sim C (f r) κ ((d, .slice a r.length cap) :: env) (own.set j (.osl (.slice a r.length cap) (GoT.sz α) et (ls.take hv.toNat))) H D (.ops ds rem k)) (hd : Nat.blt d C.n = true := by rfl) :
    Sim C ((slc l 0 hv).bind f) κ env own H D (.ops ds (⟨some d, .slice t x none (some hi) none, ty, pos, af, none⟩ :: rem) k) := by
  refine s_bind (s_get fun r hr => ?_)
  obtain ⟨h0, h1, h2, rfl⟩ := slc_some hr
  have hn : ((l.drop (0 : Int).toNat).take (hv.toNat - (0 : Int).toNat)).length = hv.toNat := by simp; omega
  have hA' : All2 (GoT.rep H) (ls.take hv.toNat) ((l.drop (0 : Int).toNat).take (hv.toNat - (0 : Int).toNat)) := by
    refine ⟨by simp [hA.1], fun i h1 h2 => ?_⟩
    simp only [Int.toNat_zero, List.drop_zero, Nat.sub_zero] at h2 ⊢
    rw [List.getElem_take, List.getElem_take]
    exact hA.2 i _ _
  have hs := h _ hr hA'
  rw [hn] at hs
  refine s_op (fun _ h => by cases h) (fun tm w hE hI => ?_) hd
  have hok : OSl w (.slice a l.length cap) (GoT.sz α) et ls := hI.ok _ (List.mem_of_getElem? ho)
  have hcap : l.length ≤ cap := by
    rcases hok with ⟨h1, h2⟩ | ⟨b, cap', arr, rest, h1, _, _, hle, _⟩
    · simp only [Value.slice.injEq] at h1; omega
    · simp only [Value.slice.injEq] at h1; have := hA.1; omega
  have hI' : Inv C.w0 C.M C.H0 (own.set j (.osl (.slice a hv.toNat cap) (GoT.sz α) et (ls.take hv.toNat))) H w := hI.turn ho (by cases a <;> rfl) (hok.cut _ (by rw [hA.1]; omega))
  refine ⟨_, w, _, H, ?_, hI', fun r2 hr2 w hw tm ht hE => hs r2 (by simpa using hr2) w hw tm ht hE⟩
  have hrun := run_sliceAt (P := P) (S := S) (w := w) (a := a) h0 h1 h2 hcap (lo := none) (hi := some (.int K hv)) (.inl ⟨rfl, rfl⟩) (.inr ⟨K, rfl⟩)
  have ha : (if cap = (0 : Int).toNat then a else a.map (·.add ((0 : Int).toNat * GoT.sz α))) = a := by
    simp only [Int.toNat_zero, Nat.zero_mul]
    split
    · rfl
    · cases a <;> simp [Addr.add]
  rw [ha] at hrun
  simp only [Int.toNat_zero, Nat.sub_zero] at hrun
  simp only [execOp, ev_eval hE hx, Option.map_none, Option.map_some, ev_eval hE hh, Sem.run_bind, hrun, Result.andThen_ok, Sem.run_pure]
/-- 'clear(s[n:])' of a slice of the call's own. -/
theorem o_clrS (j : Nat) [GoT α] {x lo : Operand} {t : TypeId} {e by_ : Nat} {a : Option Addr} {cap : Nat} {l : List α} {ls : List (List Value)} {lv : Int} {K : IntKind} {z : α} {zc : List Value} [S : TSl P t e (GoT.sz α) by_]
    (hx : ev env x = some (.slice a l.length cap)) (hl : ev env lo = some (.int K lv)) (ho : own[j]? = some (.osl (.slice a l.length cap) (GoT.sz α) e ls)) (hA : All2 (GoT.rep H) ls l)
    (hz : ∀ w : World, ∃ zv, (zeroValue e).run P w = .ok zv w ∧ zv.cells.toList = zc) (hrep : GoT.rep H zc z)
    (h : ∀ v r, slc l lv l.length = some r → All2 (GoT.rep H) (ls.take lv.toNat ++ List.replicate (l.length - lv.toNat) zc) (l.take lv.toNat ++ List.replicate (l.length - lv.toNat) z) →
      Sim C m2 κ ((d, v) :: env) (own.set j (.osl (.slice a l.length cap) (GoT.sz α) e (ls.take lv.toNat ++ List.replicate (l.length - lv.toNat) zc))) H D (.ops ds rem k)) (hd : Nat.blt d C.n = true := by rfl) :
    Sim C ((slc l lv l.length).bind fun _ => m2) κ env own H D
      (.ops ds (⟨some d, .slice t x (some lo) none none, ty, pos, af, none⟩ :: ⟨none, .call ⟨.builtin .clear, #[.tmp d], #[t]⟩, ty', pos', af', none⟩ :: rem) k) := by
  refine s_bind (s_get fun r hr => ?_)
  obtain ⟨h0, h1, h2, rfl⟩ := slc_some hr
  have hlen := hA.1
  have hzl := GoT.len hrep
  have hz1 := GoT.one hrep
  have hA' : All2 (GoT.rep H) (ls.take lv.toNat ++ List.replicate (l.length - lv.toNat) zc) (l.take lv.toNat ++ List.replicate (l.length - lv.toNat) z) := by
    refine All2.append ⟨by simp [hlen], fun i h1 h2 => ?_⟩ ⟨by simp, fun i h1 h2 => by simpa using hrep⟩
    rw [List.getElem_take, List.getElem_take]
    exact hA.2 i _ _
  intro r2 hr2 w hw tm ht hE
  have hdn : d < tm.size := by rw [ht]; exact blt_lt hd
  have hok : OSl w (.slice a l.length cap) (GoT.sz α) e ls := hw.ok _ (List.mem_of_getElem? ho)
  have hcap : l.length ≤ cap := by
    rcases hok with ⟨h1, h2⟩ | ⟨b, cap', arr, rest, h1, _, _, hle, _⟩
    · simp only [Value.slice.injEq] at h1; omega
    · simp only [Value.slice.injEq] at h1; omega
  have hrun := run_sliceAt (P := P) (S := S) (w := w) (a := a) h0 h1 h2 hcap (lo := some (.int K lv)) (hi := none) (.inr ⟨K, rfl⟩) (.inl ⟨rfl, rfl⟩)
  simp only [Int.toNat_natCast] at hrun
  generalize hv : (Value.slice (if cap = lv.toNat then a else a.map (·.add (lv.toNat * GoT.sz α))) (l.length - lv.toNat) (cap - lv.toNat)) = v at hrun
  have hrun1 : (execOp (evalT tm) ⟨some d, .slice t x (some lo) none none, ty, pos, af, none⟩).run P w = .ok (.value v) w := by
    simp only [execOp, ev_eval hE hx, Option.map_none, Option.map_some, ev_eval hE hl, Sem.run_bind, hrun, Result.andThen_ok, Sem.run_pure]
  have hev : evalT (tm.setIfInBounds d v) (.tmp d) = v := by simp [evalT, hdn]
  have key : ∃ w', (Builtin.clear_ #[t] ty' #[v]).run P w = .ok (.tuple #[]) w' ∧ Inv C.w0 C.M C.H0 (own.set j (.osl (.slice a l.length cap) (GoT.sz α) e (ls.take lv.toNat ++ List.replicate (l.length - lv.toNat) zc))) H w' := by
    by_cases hn : l.length - lv.toNat = 0
    · refine ⟨w, ?_, ?_⟩
      · subst hv
        rw [hn]
        unfold Builtin.clear_
        simp only [List.getElem?_toArray, List.getElem?_cons_zero, Sem.run_bind, run_underlying S.und, Result.andThen_ok]
        cases (if cap = lv.toNat then a else a.map (·.add (lv.toNat * GoT.sz α))) <;> rfl
      · have he : ls.take lv.toNat ++ List.replicate (l.length - lv.toNat) zc = ls := by
          rw [hn, List.replicate_zero, List.append_nil]; exact List.take_of_length_le (by omega)
        rw [he]
        have : own.set j (.osl (.slice a l.length cap) (GoT.sz α) e ls) = own := by
          obtain ⟨hlt, heq⟩ := List.getElem?_eq_some_iff.1 ho
          rw [← heq]; exact List.set_getElem_self hlt
        rw [this]; exact hw
    · rcases hok with ⟨h1', h2'⟩ | ⟨b, cap', arr, rest, h1', hb, hs, hle, harr, hall⟩
      · subst h2'; simp at hlen; omega
      · simp only [Value.slice.injEq] at h1'
        obtain ⟨rfl, hll, rfl⟩ := h1'
        obtain ⟨zv, hzw, hzc⟩ := hz w
        have hcne : ¬ cap = lv.toNat := by omega
        have hv' : v = .slice (some ⟨b, 0 + lv.toNat * GoT.sz α, none⟩) (l.length - lv.toNat) (cap - lv.toNat) := by
          rw [← hv, if_neg hcne]; simp [add_none]
        have hzs : zv.cells.size = GoT.sz α := by rw [← hzl, ← hzc]; simp
        have hp := S.pos
        have hcells : (Builtin.zeroCells zv.cells (l.length - lv.toNat)).toList = (List.replicate (l.length - lv.toNat) zc).flatten := by
          unfold Builtin.zeroCells
          apply List.ext_getElem
          · simp [hzs, hzl]
          · intro i h1 h2
            simp only [Array.toList_map, List.length_map, Array.length_toList, Array.size_range] at h1
            have hlt : i % GoT.sz α < GoT.sz α := Nat.mod_lt _ hp
            have hfl := cells_flatten (List.replicate (l.length - lv.toNat) zc) (GoT.sz α) (fun x hx => by rw [List.eq_of_mem_replicate hx]; exact hzl) (i / GoT.sz α) (by
              rw [List.length_replicate]; exact Nat.div_lt_of_lt_mul (by rw [Nat.mul_comm]; rw [hzs] at h1; exact h1)) []
            simp only [List.append_nil, List.getElem_replicate] at hfl
            have hidx : i = i / GoT.sz α * GoT.sz α + i % GoT.sz α := by rw [Nat.mul_comm]; exact (Nat.div_add_mod i _).symm
            have e : (List.replicate (l.length - lv.toNat) zc).flatten[i]? = zc[i % GoT.sz α]? := by
              have e1 : (List.replicate (l.length - lv.toNat) zc).flatten[i / GoT.sz α * GoT.sz α + i % GoT.sz α]? = ((List.replicate (l.length - lv.toNat) zc).flatten.drop (i / GoT.sz α * GoT.sz α))[i % GoT.sz α]? := by rw [List.getElem?_drop]
              have e2 : ((List.replicate (l.length - lv.toNat) zc).flatten.drop (i / GoT.sz α * GoT.sz α))[i % GoT.sz α]? = (((List.replicate (l.length - lv.toNat) zc).flatten.drop (i / GoT.sz α * GoT.sz α)).take (GoT.sz α))[i % GoT.sz α]? := by rw [List.getElem?_take_of_lt hlt]
              rw [← hidx] at e1
              rw [e1, e2, hfl]
            rw [List.getElem?_eq_getElem h2, List.getElem?_eq_getElem (l := zc) (by rw [hzl]; exact hlt)] at e
            simp only [Option.some.injEq] at e
            rw [e]
            simp only [Array.getElem_toList, Array.getElem_map, Array.getElem_range, hzs]
            rw [getElem!_pos zv.cells (i % GoT.sz α) (by rw [hzs]; exact hlt)]
            simp [← hzc]
        have hf1 := length_flatten (fun x hx => (hall x hx).1)
        have hft : (ls.take lv.toNat).flatten.length = lv.toNat * GoT.sz α := by
          rw [length_flatten (sz := GoT.sz α) (fun x hx => (hall x (List.mem_of_mem_take hx)).1)]; rw [List.length_take]; congr 1; omega
        have hfr : (List.replicate (l.length - lv.toNat) zc).flatten.length = (l.length - lv.toNat) * GoT.sz α := by
          rw [length_flatten (sz := GoT.sz α) (fun x hx => by rw [List.eq_of_mem_replicate hx]; exact hzl)]; simp
        have hfd : (ls.drop lv.toNat).flatten.length = (l.length - lv.toNat) * GoT.sz α := by
          rw [length_flatten (sz := GoT.sz α) (fun x hx => (hall x (List.mem_of_mem_drop hx)).1)]; rw [List.length_drop]; congr 1; omega
        have harr2 : arr.toList = (ls.take lv.toNat).flatten ++ ((ls.drop lv.toNat).flatten ++ rest) := by rw [harr, ← List.append_assoc, ← flatten_take_drop]
        obtain ⟨w', hst, hb', hoth, hsz, h5, h6, h7⟩ := run_storeCells_row (P := P) (List.replicate (l.length - lv.toNat) zc).flatten w b (0 + lv.toNat * GoT.sz α) 0 arr.toList e (by rw [hb]) (by
          rw [harr2]; simp only [List.length_append, hft, hfr, hfd]; omega) (one1_flatten (fun x hx => by rw [List.eq_of_mem_replicate hx]; exact hz1))
        refine ⟨w', ?_, ?_⟩
        · rw [hv']
          unfold Builtin.clear_
          simp only [List.getElem?_toArray, List.getElem?_cons_zero, Sem.run_bind, run_underlying S.und, Result.andThen_ok]
          have hne : ∃ q, l.length - lv.toNat = q + 1 := ⟨l.length - lv.toNat - 1, by omega⟩
          obtain ⟨q, hq⟩ := hne
          rw [hq] at hcells hst ⊢
          simp only [hzw, Sem.run_bind, Result.andThen_ok, hcells, hst, Sem.run_pure]
        · refine hw.write ho (b := b) (r' := .osl (.slice (some ⟨b, 0, none⟩) l.length cap) (GoT.sz α) e (ls.take lv.toNat ++ List.replicate (l.length - lv.toNat) zc)) (by simp [Res.ids]) rfl hoth hsz h5 h6 h7 ?_
          refine .inr ⟨b, cap, _, rest, by simp; omega, hb', ?_, by simp; omega, ?_, ?_⟩
          · simp [length_spl, hs]
          · have := spl_append (List.replicate (l.length - lv.toNat) zc).flatten (ls.take lv.toNat).flatten ((ls.drop lv.toNat).flatten ++ rest) (by rw [hfr]; simp only [List.length_append, hfd]; omega)
            rw [hft] at this
            simp only [Nat.zero_add, Nat.add_zero] at this ⊢
            rw [harr2, this, List.flatten_append]
            rw [hfr, ← hfd, List.drop_left]
          · intro x hx
            rcases List.mem_append.1 hx with hx | hx
            · exact hall x (List.mem_of_mem_take hx)
            · rw [List.eq_of_mem_replicate hx]; exact ⟨hzl, hz1⟩
  obtain ⟨w', hclr, hI'⟩ := key
  have := h v _ hr hA' r2 (by simpa using hr2) w' hI' (tm.setIfInBounds d v) (by simpa using ht) (hE.put hdn)
  simp only [Pos.go, ROps] at *
  rw [if_pos (show wantedD ds tm none = true from rfl)]
  refine ⟨.inr (fun _ h => by cases h), ?_⟩
  rw [hrun1]
  simp only []
  rw [if_pos (show wantedD ds (putT tm (some d) v) none = true from rfl)]
  refine ⟨.inr (fun _ h => by cases h), ?_⟩
  have hrun2 : (execOp (evalT (tm.setIfInBounds d v)) ⟨none, .call ⟨.builtin .clear, #[.tmp d], #[t]⟩, ty', pos', af', none⟩).run P w = .ok (.value (.tuple #[])) w' := by
    simp [execOp, resolve, hev, invoke, builtin, hclr]
  simp only [putT]
  rw [hrun2]
  exact this
/-- A slice held against nil. -/
theorem o_eqNil {x y : Operand} {xt yt e : TypeId} {sz by_ n cap n2 c2 : Nat} {a : Option Addr} [S : TSl P xt e sz by_] (hx : ev env x = some (.slice a n cap)) (hy : ev env y = some (.slice none n2 c2))
    (h : Sim C m κ ((d, .bool a.isNone) :: env) own H D (.ops ds rem k)) (hd : Nat.blt d C.n = true := by rfl) :
    Sim C m κ env own H D (.ops ds (⟨some d, .binOp .eql xt x y yt, ty, pos, af, none⟩ :: rem) k) :=
  o_bin_of hx hy (fun w => by cases a <;> simp [eqGuard]) (fun w => by
    have key : ∀ d, (Op.equalIn (d + 1) xt (.slice a n cap) (.slice none n2 c2)).run P w = .ok a.isNone w := fun d => by
      unfold Op.equalIn
      rw [Sem.run_bind, run_underlying S.und]
      cases a <;> rfl
    have E : (Op.equal xt (.slice a n cap) (.slice none n2 c2)).run P w = .ok a.isNone w := key 9999
    simp [binOp, E]) h hd
end rules
end Go.Cat
namespace Go.Cat
section flat
variable {P : Program} {ρ τ α : Type} {C : Ctx P ρ} {m : Option τ} {κ : τ → Option ρ} {env : Env} {own : List Res} {H : Heap} {D : List Deferred} {p : Pos}
/-- The cells of a slice of plain elements are told by the elements. -/
theorem s_flat [E : GoE α] (j : Nat) {v : Value} {sz : Nat} {et : TypeId} {ls : List (List Value)} {l : List α} (ho : own[j]? = some (.osl v sz et ls)) (hA : All2 (GoT.rep H) ls l)
    (h : Sim C m κ env (own.set j (.osl v sz et (l.map E.enc))) H D p) : Sim C m κ env own H D p := by
  have := all2_flat hA
  subst this
  obtain ⟨hlt, he⟩ := List.getElem?_eq_some_iff.1 ho
  rw [← he, List.set_getElem_self hlt] at h
  exact h
end flat
end Go.Cat
namespace Go.Cat
open Go.Sort
/-- More blocks behind, that nobody owns. -/
theorem Inv.extend {w0 w w' : World} {M : Nat → Prop} {H0 H : Heap} {own : List Res} (h : Inv w0 M H0 own H w) (hk : ∀ k, k < w.heap.size → w'.heap[k]? = w.heap[k]?) (hs : w.heap.size ≤ w'.heap.size)
    (ho : w'.os = w.os) (ht : w'.tape = w.tape) (hu : w'.output = w.output) : Inv w0 M H0 own H w' := by
  refine ⟨ho.trans h.os, ht.trans h.tape, hu.trans h.output, Nat.le_trans h.size hs, fun k hk' hm => (hk k (Nat.lt_of_lt_of_le hk' h.size)).trans (h.same k hk' hm), ?_, h.h0, h.new, ?_, h.nd, ?_⟩
  · intro b o hb
    have h1 := h.sub b o hb
    have hlt : b < w.heap.size := (Array.getElem?_eq_some_iff.1 h1).1
    exact (hk b hlt).trans h1
  · intro r hr
    refine Res.ok_of_same (fun b hb => ?_) (h.ok r hr)
    exact hk b (h.away b (mem_ids hr hb)).2.1
  · intro b hb
    obtain ⟨h1, h2, h3⟩ := h.away b hb
    exact ⟨h1, Nat.lt_of_lt_of_le h2 hs, h3⟩
theorem putRow_facts {α : Type} [Inhabited α] (enc : α → Value) (w : World) (n b : Nat) (d : Array α) (os : Array Obj) {arr : Array Value} {t : TypeId} (hb : w.heap[b]? = some (.cells arr t (0, 0))) (hd : d.size ≤ arr.size) :
    (grow (putRow enc (Go.Sort.ahead w n) b 0 d) os).heap[b]? = some (.cells (d.toList.map enc ++ arr.toList.drop d.size).toArray t (0, 0)) ∧
    (∀ k, k < w.heap.size → k ≠ b → (grow (putRow enc (Go.Sort.ahead w n) b 0 d) os).heap[k]? = w.heap[k]?) ∧ w.heap.size ≤ (grow (putRow enc (Go.Sort.ahead w n) b 0 d) os).heap.size := by
  have hlt : b < w.heap.size := (Array.getElem?_eq_some_iff.1 hb).1
  have hsz : (putRow enc (Go.Sort.ahead w n) b 0 d).heap.size = w.heap.size := by rw [size_putRow]; rfl
  have hget : ∀ k, k < w.heap.size → (grow (putRow enc (Go.Sort.ahead w n) b 0 d) os).heap[k]? = (putRow enc (Go.Sort.ahead w n) b 0 d).heap[k]? := fun k hk => by
    show ((putRow enc (Go.Sort.ahead w n) b 0 d).heap ++ os)[k]? = _
    rw [Array.getElem?_append_left (by rw [hsz]; exact hk)]
  refine ⟨?_, fun k hk hne => ?_, by rw [size_grow, hsz]; omega⟩
  · rw [hget b hlt]
    show (w.heap.modify b (onCells (putCells enc 0 d)))[b]? = _
    rw [Array.getElem?_modify, if_pos rfl, hb]
    simp only [Option.map_some, onCells]
    congr 2
    apply Array.ext
    · simp [putCells]; omega
    · intro i h1 h2
      simp only [putCells, Array.getElem_mapIdx, Nat.zero_le, true_and, Nat.zero_add, Nat.sub_zero]
      by_cases hi : i < d.size
      · rw [if_pos hi]
        simp [List.getElem_append, hi, getElem!_pos d i hi]
      · rw [if_neg hi]
        simp [List.getElem_append, hi]
        congr 1
        omega
  · rw [hget k hk]
    show (w.heap.modify b (onCells (putCells enc 0 d)))[k]? = _
    rw [Array.getElem?_modify, if_neg (fun e => hne e.symm)]
end Go.Cat
namespace Go.Cat
open Go.ChangeShapes Go.WideShapes

/-! ### What a law is given, read as plain data -/
/-- How large what is given may be. -/
class GoB (α : Type) where
  bd : α → Prop
def ibd (k : IntKind) (n : Int) : Prop := (Lit.int k n).wf = true
instance : GoB Int := ⟨ibd .i64⟩
instance : GoB Bool := ⟨fun _ => True⟩
instance : GoB ByteArray := ⟨fun s => s.size ≤ maxLen⟩
instance {α : Type} [GoB α] : GoB (List α) := ⟨fun l => l.length ≤ maxLen ∧ ∀ x ∈ l, GoB.bd x⟩
class TOpen (P : Program) (t : TypeId) (α : Type) [GoT α] [GoB α] : Prop where
  op : ∀ {H : Type} {enc : TypeId × Value → H} {w : World} {base : Nat} {spare : Nat → Bool} {held : Bool} {fuel : Nat} {cs : List Value} {x : DataW H × List MemPlace},
    DataW.trod enc P w base spare held fuel t cs = some x → ∃ a : α, GoT.rep (hp w) cs a ∧ GoB.bd a
section
variable {P : Program} {t : TypeId} {H : Type} {enc : TypeId × Value → H} {w : World} {base : Nat} {spare : Nat → Bool} {held : Bool} {fuel : Nat} {cs : List Value} {x : DataW H × List MemPlace}
theorem op_int {k : IntKind} (ht : P.underlying t = some (.int k)) (h : DataW.trod enc P w base spare held fuel t cs = some x) : ∃ n : Int, cs = [.int k n] ∧ ibd k n := by
  cases fuel with
  | zero => simp [DataW.trod] at h
  | succ n =>
    unfold DataW.trod at h
    rw [ht] at h
    split at h <;> simp_all
    unfold ibd
    have := h.1.1; subst this
    exact h.1.2
theorem op_bool (ht : P.underlying t = some .bool) (h : DataW.trod enc P w base spare held fuel t cs = some x) : ∃ n : Bool, cs = [.bool n] := by
  cases fuel with
  | zero => simp [DataW.trod] at h
  | succ n =>
    unfold DataW.trod at h
    rw [ht] at h
    split at h <;> simp_all
theorem op_str (ht : P.underlying t = some .string) (h : DataW.trod enc P w base spare held fuel t cs = some x) : ∃ s : ByteArray, cs = [.string s] ∧ s.size ≤ maxLen := by
  cases fuel with
  | zero => simp [DataW.trod] at h
  | succ n =>
    unfold DataW.trod at h
    rw [ht] at h
    split at h <;> simp_all
theorem topen_int (ht : P.underlying t = some (.int .i64)) : TOpen P t Int := {
  op := fun h => by obtain ⟨n, rfl, hb⟩ := op_int ht h; exact ⟨n, rfl, hb⟩ }
theorem topen_bool (ht : P.underlying t = some .bool) : TOpen P t Bool := {
  op := fun h => by obtain ⟨n, rfl⟩ := op_bool ht h; exact ⟨n, rfl, trivial⟩ }
theorem topen_str (ht : P.underlying t = some .string) : TOpen P t ByteArray := {
  op := fun h => by obtain ⟨n, rfl, hb⟩ := op_str ht h; exact ⟨n, rfl, hb⟩ }
/-- The parts of a struct that is given. -/
theorem op_struct {fs : Array Field} (N : Nat) (ht : P.underlying t = some (.struct fs)) (hN : P.cellsOf t = N) (h : DataW.trod enc P w base spare held fuel t cs = some x) :
    cs.length = N ∧ ∃ m, ∀ (i : Nat) (f : Field) (n : Nat), fs[i]? = some f → P.cellsOf f.type = n → ∃ y, DataW.trod enc P w base spare held m f.type ((cs.drop f.offset).take n) = some y := by
  obtain ⟨xs, m, _, _, hl, hlen, hf⟩ := DataW.trod_struct ht h
  refine ⟨hl.trans hN, m, fun i f n hi hn => ?_⟩
  have := hf i f hi
  have hlt : i < xs.length := by rw [hlen]; exact (Array.getElem?_eq_some_iff.1 hi).1
  rw [hn] at this
  exact ⟨xs[i], this.trans (List.getElem?_eq_getElem hlt)⟩
theorem op_array {len : Nat} {e : TypeId} (N n : Nat) (ht : P.underlying t = some (.array len e)) (hN : P.cellsOf t = N) (hn : P.cellsOf e = n) (h : DataW.trod enc P w base spare held fuel t cs = some x) :
    cs.length = N ∧ ∃ m, ∀ i, i < len → ∃ y, DataW.trod enc P w base spare held m e ((cs.drop (i * n)).take n) = some y := by
  obtain ⟨xs, m, _, _, hl, hlen, hf⟩ := DataW.trod_array ht h
  refine ⟨hl.trans hN, m, fun i hi => ?_⟩
  have := hf i hi
  rw [hn] at this
  exact ⟨xs[i]'(by rw [hlen]; exact hi), this.trans (List.getElem?_eq_getElem (by rw [hlen]; exact hi))⟩
theorem cells_in {a : Addr} {n : Nat} {l : List Value} (h0 : 0 < n) (h : w.cells? base a n = some l) : ∃ arr t fz, a.spot = none ∧ w.heap[a.block]? = some (.cells arr t fz) ∧ subc arr.toList a.off n = l := by
  obtain ⟨_, hlen, hc⟩ := World.cells?_some h
  have h1 := hc 0 h0
  have hadd : ∀ i, (a.add i).block = a.block ∧ (a.add i).off = a.off + i ∧ (a.spot = none → (a.add i).spot = none) := fun i => by
    unfold Addr.add; split
    · subst_vars; simp
    · simp
  have hz : a.add 0 = a := by simp [Addr.add]
  rw [hz] at h1
  have hne : ¬ l[0]? = none := by rw [List.getElem?_eq_getElem (by omega)]; simp
  unfold World.cell? at h1
  cases ho : w.heap[a.block]? with
  | none => rw [ho] at h1; exact absurd h1.symm hne
  | some o =>
    rw [ho] at h1
    cases o with
    | cells arr t fz =>
      simp only [] at h1
      cases hs : a.spot with
      | some s => rw [hs] at h1; exact absurd h1.symm hne
      | none =>
        refine ⟨arr, t, fz, rfl, rfl, ?_⟩
        apply List.ext_getElem?
        intro i
        by_cases hi : i < n
        · have := hc i hi
          unfold World.cell? at this
          rw [(hadd i).1, ho] at this
          simp only [(hadd i).2.2 hs, (hadd i).2.1] at this
          simp only [subc, List.getElem?_take, hi, if_true, List.getElem?_drop, Array.getElem?_toList]
          simpa using this
        · simp only [subc, List.getElem?_take, hi, if_false]
          rw [List.getElem?_eq_none (by omega)]
    | _ => exact absurd h1.symm hne
theorem choose_list {α : Type} {n : Nat} {p : Nat → α → Prop} (h : ∀ i, i < n → ∃ x, p i x) : ∃ l : List α, l.length = n ∧ ∀ i (hi : i < l.length), p i l[i] := by
  induction n with
  | zero => exact ⟨[], rfl, fun i hi => by simp at hi⟩
  | succ n ih =>
    obtain ⟨l, hl, hp⟩ := ih fun i hi => h i (by omega)
    obtain ⟨x, hx⟩ := h n (by omega)
    refine ⟨l ++ [x], by simp [hl], fun i hi => ?_⟩
    by_cases e : i < l.length
    · rw [List.getElem_append_left e]; exact hp i e
    · simp at hi
      have : i = n := by omega
      subst this
      rw [List.getElem_append_right (by omega)]
      simpa using hx
theorem op_slice {α : Type} [GoT α] [GoB α] {e : TypeId} [E : TOpen P e α] (ht : P.underlying t = some (.slice e)) (hc : P.cellsOf e = GoT.sz α) (h0 : 0 < GoT.sz α) (h : DataW.trod enc P w base spare held fuel t cs = some x) :
    ∃ (l : List α) (a : Option Addr) (cap : Nat), cs = [.slice a l.length cap] ∧ RSl (hp w) a cap l ∧ GoB.bd l := by
  rcases Go.Deep.open_slice ht h with ⟨rfl, _⟩ | ⟨a, len, cap, m, n, D, Pl, rfl, _, hl, hm, hmm, rfl, hx⟩
  · exact ⟨[], none, 0, rfl, rsl_nil, by simp [GoB.bd]⟩
  · have hlm : len ≤ m := by rw [hmm]; split <;> omega
    have hall : ∀ i, i < len → ∃ (b : α), (∃ arr t fz, (a.add (i * GoT.sz α)).spot = none ∧ w.heap[a.block]? = some (.cells arr t fz) ∧ GoT.rep (hp w) (subc arr.toList (a.off + i * GoT.sz α) (GoT.sz α)) b) ∧ GoB.bd b := by
      intro i hi
      obtain ⟨cs', h1, h2⟩ := hx i (by omega)
      rw [hc] at h1
      obtain ⟨arr, t, fz, hs, hb, hsub⟩ := cells_in h0 h1
      have hadd : ∀ i, (a.add i).block = a.block ∧ (a.add i).off = a.off + i := fun i => by
        unfold Addr.add; split
        · subst_vars; simp
        · simp
      rw [(hadd _).1] at hb
      rw [(hadd _).2] at hsub
      obtain ⟨b, hr, hbd⟩ := E.op h2
      exact ⟨b, ⟨arr, t, fz, hs, hb, by rw [hsub]; exact hr⟩, hbd⟩
    obtain ⟨l, hlen, hp⟩ := choose_list hall
    subst hlen
    refine ⟨l, some a, cap, rfl, ⟨hl, ?_⟩, ⟨by omega, fun x hx => ?_⟩⟩
    · cases l with
      | nil => exact .inl rfl
      | cons b l' =>
        obtain ⟨⟨arr, t, fz, hs, hb, _⟩, _⟩ := hp 0 (by simp)
        refine .inr ⟨a.block, a.off, arr, t, fz, by cases a; simp [Addr.add] at hs; subst hs; rfl, hb, fun i hi => ?_⟩
        obtain ⟨⟨arr', t', fz', hs', hb', hr⟩, _⟩ := hp i hi
        rw [hb] at hb'
        cases hb'
        exact hr
    · obtain ⟨i, hi, rfl⟩ := List.mem_iff_getElem.1 hx
      exact (hp i hi).2
end
theorem topen_list {P : Program} {t e : TypeId} {α : Type} [GoT α] [GoB α] [E : TOpen P e α] (ht : P.underlying t = some (.slice e)) (hc : P.cellsOf e = GoT.sz α) (h0 : 0 < GoT.sz α) : TOpen P t (List α) := {
  op := fun h => by obtain ⟨l, a, cap, e, hr, hb⟩ := op_slice ht hc h0 h; exact ⟨l, ⟨a, cap, e, hr⟩, hb⟩ }

/-! ### A contract told as the row asks -/
theorem inv_start (w : World) : Inv w (· ∈ ids []) (hp w) [] (hp w) w := {
  os := rfl, tape := rfl, output := rfl, size := Nat.le_refl _, same := fun _ _ _ => rfl, sub := Hle.refl _, h0 := Hle.refl _, new := fun b h => .inl h,
  ok := fun r hr => by simp at hr, nd := by simp [ids], away := fun b hb => by simp [ids] at hb }
theorem inv_below {w w' : World} {H0 H : Heap} {own : List Res} (h : Inv w (· ∈ ids []) H0 own H w') : Go.RowKit.Below w.heap.size w w' :=
  ⟨h.os, h.tape, h.output, h.size, fun k hk => h.same k hk (by simp [ids])⟩
theorem law_calls {P : Program} {f : FuncId} {args : List Value} {w : World} (h : Fn P f args (hp w) [] fun _ v _ => v = .bool true) : Calls P f args.toArray w fun e w' => e = .returned (.bool true) ∧ Go.RowKit.Below w.heap.size w w' :=
  (h w (inv_start w)).mono fun _ _ ⟨v, e, _, _, hI, hv⟩ => ⟨by rw [e, hv], inv_below hI⟩
end Go.Cat
