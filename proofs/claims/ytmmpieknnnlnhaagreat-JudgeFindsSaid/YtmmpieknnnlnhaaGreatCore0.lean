/- A text of the proof of the seat's laws: a step logic over the machine, or pure functions that the Go functions come to. No condition. -/
import Derived.Calls
import Derived.Below
import Derived.Laws.World
import Derived.Laws.Cells
import Derived.ChangeKeysEq
import Derived.Laws.Entries
import Derived.Orders
import Derived.Laws.StructEq
import Derived.MapKept
import Derived.RangeFuncIn
set_option linter.unusedVariables false
set_option linter.unusedSimpArgs false
set_option linter.unnecessarySimpa false
namespace Go.Cat
structure Tgt (P : Program) where
 K : List Frame → Machine → Prop
 back : ∀ {cs m m'}, Steps P m m' → K cs m' → K cs m
def fra (b : Frame) (tmps : Array Value) (D : List Deferred) (todo : List Item) : Frame :=
 { fn := b.fn, tmps, todo, defers := D, mode := .run, kind := b.kind, roundOf := b.roundOf }
def Go {P : Program} (T : Tgt P) (b : Frame) (tmps : Array Value) (D : List Deferred) (todo : List Item) (w : World) : Prop :=
 ∀ cs, T.K cs (lone (fra b tmps D todo) cs w)
def ZcX (tmps : Array Value) : Operand → Value
 | .tmp t => tmps.getD t undef
 | .const v => v
 | .global g => .pointer (some ⟨g, 0, none⟩)
 | .func f => .func (.func f) #[] #[]
theorem Zgl (b : Frame) (tmps : Array Value) (D : List Deferred) (todo : List Item) : (fra b tmps D todo).eval = ZcX tmps := by
 funext x; cases x <;> rfl
section moves
variable {P : Program} {T : Tgt P} {b : Frame} {tm : Array Value} {D : List Deferred} {k : List Item} {w : World}
theorem Go.one {tm' : Array Value} {D' : List Deferred} {k' : List Item} {w' : World}
  (h : ∀ cs, step P (lone (fra b tm D k) cs w) = .next (lone (fra b tm' D' k') cs w')) (g : Go T b tm' D' k' w') : Go T b tm D k w :=
 fun cs => T.back (.one (h cs)) (g cs)
theorem ZmJ (g : Go T b tm D k w) : Go T b tm D (.code .skip :: k) w :=
 .one (fun _ => step_lone_go (by simp [stepG, stepG.exec, fra])) g
theorem Zjk {i : Nat} (g : Go T b tm D k w) : Go T b tm D (.inBlock i :: k) w :=
 .one (fun _ => step_lone_go (by simp [stepG, stepG.exec, fra])) g
theorem Znu {x y : Code} (g : Go T b tm D (.code x :: .code y :: k) w) : Go T b tm D (.code (.seq x y) :: k) w :=
 .one (fun _ => step_lone_go (by simp [stepG, stepG.exec, fra])) g
theorem Zlf {i : Nat} {c : Code} (g : Go T b tm D (.code c :: .inBlock i :: k) w) : Go T b tm D (.code (.block i c) :: k) w :=
 .one (fun _ => step_lone_go (by simp [stepG, stepG.exec, fra])) g
theorem ZmK {c : Code} (g : Go T b tm D (.code c :: .inLoop c :: k) w) : Go T b tm D (.code (.loop c) :: k) w :=
 .one (fun _ => step_lone_go (by simp [stepG, stepG.exec, fra])) g
theorem Zke {c : Code} (g : Go T b tm D (.code c :: .inLoop c :: k) w) : Go T b tm D (.inLoop c :: k) w :=
 .one (fun _ => step_lone_go (by simp [stepG, stepG.exec, fra])) g
theorem Zhk {c : Operand} {x y : Code} {t : Bool} (h : ZcX tm c = .bool t) (g : Go T b tm D (.code (if t then x else y) :: k) w) :
  Go T b tm D (.code (.cond c x y) :: k) w :=
 .one (fun _ => step_lone_go (by
  have := congrFun (Zgl b tm D (.code (.cond c x y) :: k)) c
  simp only [fra] at this
  simp [stepG, stepG.exec, fra, this, h])) g
theorem ZmL {i : Nat} {k' : List Item} (h : exitTo i k = some k') (g : Go T b tm D k' w) : Go T b tm D (.code (.exit i) :: k) w :=
 .one (fun _ => step_lone_go (by simp [stepG, stepG.exec, fra, h])) g
theorem Zkd {i : Nat} {ops : Array Oper} (g : Go T b tm D (.inRegion ops (List.range ops.size) :: k) w) :
  Go T b tm D (.code (.region i ops false) :: k) w :=
 .one (fun _ => step_lone_go (by simp [stepG, stepG.exec, fra])) g
theorem Zd6 {i : Nat} {ops : Array Oper}
  (g : ∀ t, Go T b tm D (.inRegion ops (Region.schedule (P.follows .mixedOrders) ops t) :: k) { w with drawn := w.drawn + 1 }) :
  Go T b tm D (.code (.region i ops true) :: k) w :=
 .one (fun _ => step_lone_go (by simp [stepG, stepG.exec, fra, choose, Sem.run, Question.forced, Question.cut])) (g (w.tape w.drawn (.order b.fn i)))
theorem ZdN {ops : Array Oper} (g : Go T b tm D k w) : Go T b tm D (.inRegion ops [] :: k) w :=
 .one (fun _ => step_lone_go (by simp [stepG, stepG.exec, fra])) g
def putT (tm : Array Value) (dst : Option Tmp) (v : Value) : Array Value :=
 match dst with
 | some d => tm.setIfInBounds d v
 | none => tm
theorem Zee (ops : Array Oper) (i : Nat) (rest : List Nat) (v : Value) :
  (fra b tm D (.inRegion ops (i :: rest) :: k)).finish v = fra b (putT tm ((ops[i]?).bind (·.dst)) v) D (.inRegion ops rest :: k) := by
 cases h : (ops[i]?).bind (·.dst) <;> simp [Frame.finish, fra, putT, h]
theorem Zfb {ops : Array Oper} {i : Nat} {rest : List Nat} {o : Oper} (ho : ops[i]? = some o) (h : Region.wanted o (yielded ops tm) = false)
  (g : Go T b (putT tm o.dst undef) D (.inRegion ops rest :: k) w) :
  Go T b tm D (.inRegion ops (i :: rest) :: k) w :=
 .one (fun cs => by
  have : putT tm o.dst undef = putT tm ((ops[i]?).bind (·.dst)) undef := by rw [ho]; rfl
  rw [this, ← Zee]
  exact step_lone_go (by
   simp only [fra] at *
   simp [stepG, stepG.exec, ho, h])) g
def ZeN (b : Frame) (o : Oper) : Prop := b.roundOf = none ∨ ∀ c, o.op ≠ .defer c
theorem Zd8 {ops : Array Oper} {i : Nat} {rest : List Nat} {o : Oper} {cs : List Frame} (ho : ops[i]? = some o) (hw : Region.wanted o (yielded ops tm) = true) (hp : ZeN b o) :
  stepG P true { frame := fra b tm D (.inRegion ops (i :: rest) :: k), callers := cs, status := .running, dying := none } w =
   stepG.apply P true (fra b tm D (.inRegion ops (i :: rest) :: k)) cs none (execOp (ZcX tm) o) w := by
 have he := Zgl b tm D (.inRegion ops (i :: rest) :: k)
 simp only [fra] at he
 rcases hp with hp | hp
 ·simp [stepG, stepG.exec, stepG.oper, Frame.oper?, fra, ho, hw, hp] at *
  simp [he]
 ·simp [stepG, stepG.exec, stepG.oper, Frame.oper?, fra, ho, hw]
  rw [he]
  cases b.roundOf <;> cases h : o.op <;> simp_all
theorem Zep {ops : Array Oper} {i : Nat} {rest : List Nat} {o : Oper} {v : Value} {w' : World} (ho : ops[i]? = some o)
  (hw : Region.wanted o (yielded ops tm) = true) (hp : ZeN b o) (hr : (execOp (ZcX tm) o).run P w = .ok (.value v) w')
  (g : Go T b (putT tm o.dst v) D (.inRegion ops rest :: k) w') : Go T b tm D (.inRegion ops (i :: rest) :: k) w :=
 .one (fun cs => by
  have : putT tm o.dst v = putT tm ((ops[i]?).bind (·.dst)) v := by rw [ho]; rfl
  rw [this, ← Zee]
  exact step_lone_go (by rw [Zd8 ho hw hp]; simp [stepG.apply, hr])) g
theorem ZdO {ops : Array Oper} {i : Nat} {rest : List Nat} {o : Oper} {w' : World} (ho : ops[i]? = some o)
  (hw : Region.wanted o (yielded ops tm) = true) (hp : ZeN b o) (hr : (execOp (ZcX tm) o).run P w = .ok .skip w')
  (g : Go T b (putT tm o.dst undef) D (.inRegion ops rest :: k) w') : Go T b tm D (.inRegion ops (i :: rest) :: k) w :=
 .one (fun cs => by
  have : putT tm o.dst undef = putT tm ((ops[i]?).bind (·.dst)) undef := by rw [ho]; rfl
  rw [this, ← Zee]
  exact step_lone_go (by rw [Zd8 ho hw hp]; simp [stepG.apply, hr])) g
theorem Zfc {ops : Array Oper} {i : Nat} {rest : List Nat} {o : Oper} {f : FuncId} {args : Array Value} {w' : World} {R : Value → World → Prop} (ho : ops[i]? = some o)
  (hw : Region.wanted o (yielded ops tm) = true) (hp : ZeN b o) (hr : (execOp (ZcX tm) o).run P w = .ok (.enter f args) w')
  (hc : Calls P f args w' fun e w'' => ∃ v, e = .returned v ∧ R v w'')
  (g : ∀ v w'', R v w'' → Go T b (putT tm o.dst v) D (.inRegion ops rest :: k) w'') : Go T b tm D (.inRegion ops (i :: rest) :: k) w := by
 intro cs
 obtain ⟨e, w'', fr, ⟨v, rfl, hR⟩, hsteps, _, hleave⟩ := hc (fra b tm D (.inRegion ops (i :: rest) :: k) :: cs)
 have henter : step P (lone (fra b tm D (.inRegion ops (i :: rest) :: k)) cs w) =
   .next (lone (Frame.enter P f args .normal) (fra b tm D (.inRegion ops (i :: rest) :: k) :: cs) w') :=
  step_lone_go (by rw [Zd8 ho hw hp]; simp [stepG.apply, hr, fra])
 refine T.back (.head henter (hsteps.trans (.one (step_leave_returned hleave)))) ?_
 have : putT tm o.dst v = putT tm ((ops[i]?).bind (·.dst)) v := by rw [ho]; rfl
 rw [Zee, ← this]
 exact g v w'' hR cs
def panK {P : Program} (T : Tgt P) (b : Frame) (D : List Deferred) (ch : List PanicEntry) (w : World) : Prop :=
 ∀ (cs : List Frame) (tm : Array Value) (todo : List Item), T.K cs (lone { fra b tm D todo with mode := .panicking ch } cs w)
theorem Zes {ops : Array Oper} {i : Nat} {rest : List Nat} {o : Oper} {f : FuncId} {args : Array Value} {w' : World} {RP : List PanicEntry → World → Prop} (ho : ops[i]? = some o)
  (hw : Region.wanted o (yielded ops tm) = true) (hp : ZeN b o) (hr : (execOp (ZcX tm) o).run P w = .ok (.enter f args) w')
  (hc : Calls P f args w' fun e w'' => ∃ ch, e = .panicked ch ∧ RP ch w'')
  (g : ∀ ch w'', RP ch w'' → panK T b D ch w'') : Go T b tm D (.inRegion ops (i :: rest) :: k) w := by
 intro cs
 obtain ⟨e, w'', fr, ⟨ch, rfl, hR⟩, hsteps, _, hleave⟩ := hc (fra b tm D (.inRegion ops (i :: rest) :: k) :: cs)
 have henter : step P (lone (fra b tm D (.inRegion ops (i :: rest) :: k)) cs w) =
   .next (lone (Frame.enter P f args .normal) (fra b tm D (.inRegion ops (i :: rest) :: k) :: cs) w') :=
  step_lone_go (by rw [Zd8 ho hw hp]; simp [stepG.apply, hr, fra])
 refine T.back (.head henter (hsteps.trans (.one (step_leave_panicked hleave)))) ?_
 exact g ch w'' hR cs tm _
theorem Zer {ops : Array Oper} {i : Nat} {rest : List Nat} {o : Oper} {v : Value} {w' : World} (ho : ops[i]? = some o)
  (hw : Region.wanted o (yielded ops tm) = true) (hp : ZeN b o) (hr : (execOp (ZcX tm) o).run P w = .halt (.panic v) w')
  (g : panK T b D [{ v, recovered := false }] w') : Go T b tm D (.inRegion ops (i :: rest) :: k) w := by
 intro cs
 have hst : step P (lone (fra b tm D (.inRegion ops (i :: rest) :: k)) cs w) =
   .next (lone { fra b tm D (.inRegion ops (i :: rest) :: k) with mode := .panicking [{ v, recovered := false }] } cs w') :=
  step_lone_go (by rw [Zd8 ho hw hp]; simp [stepG.apply, hr, fra, Frame.raise])
 exact T.back (.one hst) (g cs tm _)
def ZiW (P : Program) (l f : Nat) (tmps : Array Value) (assign body : Code) (w : World) (R : Value → World → Prop) : Prop :=
 ∀ (c : Frame) (cs : List Frame), ∃ v w', R v w' ∧ Steps P (lone (Frame.round l f tmps assign body .normal) (c :: cs) w) (lone (c.finish v) cs w')
theorem Zeq {ops : Array Oper} {i : Nat} {rest : List Nat} {o : Oper} {l f : Nat} {tmps : Array Value} {assign body : Code} {w' : World} {R : Value → World → Prop} (ho : ops[i]? = some o)
  (hw : Region.wanted o (yielded ops tm) = true) (hp : ZeN b o) (hr : (execOp (ZcX tm) o).run P w = .ok (.round l f tmps assign body) w')
  (hc : ZiW P l f tmps assign body w' R)
  (g : ∀ v w'', R v w'' → Go T b (putT tm o.dst v) D (.inRegion ops rest :: k) w'') : Go T b tm D (.inRegion ops (i :: rest) :: k) w := by
 intro cs
 obtain ⟨v, w'', hR, hsteps⟩ := hc (fra b tm D (.inRegion ops (i :: rest) :: k)) cs
 have henter : step P (lone (fra b tm D (.inRegion ops (i :: rest) :: k)) cs w) =
   .next (lone (Frame.round l f tmps assign body .normal) (fra b tm D (.inRegion ops (i :: rest) :: k) :: cs) w') :=
  step_lone_go (by rw [Zd8 ho hw hp]; simp [stepG.apply, hr, fra])
 refine T.back (.head henter hsteps) ?_
 have : putT tm o.dst v = putT tm ((ops[i]?).bind (·.dst)) v := by rw [ho]; rfl
 rw [Zee, ← this]
 exact g v w'' hR cs
end moves
def tgtN (P : Program) (f : FuncId) (R : Ending → World → Prop) : Tgt P := {
 K := fun cs m => ∃ e w' fr, R e w' ∧ Comes P m (lone fr cs w') e ∧ fr.fn = f ∧ fr.leaving P w' e
 back := fun h ⟨e, w', fr, hR, hc, hf, hl⟩ => ⟨e, w', fr, hR, .of_steps h hc, hf, hl⟩ }
def Zfy (f : FuncId) : Frame := { (default : Frame) with fn := f, kind := .normal, roundOf := none }
theorem Ziq {P : Program} {f : FuncId} {fn : Func} {c : Code} {args : Array Value} {w : World} {R : Ending → World → Prop}
  (hf : P.funcs[f]? = some fn) (hb : fn.body = some c)
  (h : Go (tgtN P f R) (Zfy f) (args ++ Array.replicate (fn.ntmps - args.size) undef) [] [.code c] w) : Calls P f args w R := by
 intro cs
 have := h cs
 have henter : Frame.enter P f args .normal = fra (Zfy f) (args ++ Array.replicate (fn.ntmps - args.size) undef) [] [.code c] := by
  simp [Frame.enter, fra, Zfy, hf, hb]
 rw [henter]
 exact this
theorem Zkc {P : Program} {f : FuncId} {fn : Func} {tm : Array Value} {k : List Item} {w : World} {R : Ending → World → Prop} {v : Value}
  (hf : P.funcs[f]? = some fn) (hr : (results fn tm).run P w = .ok v w) (hR : R (.returned v) w) :
  Go (tgtN P f R) (Zfy f) tm [] (.code .ret :: k) w := by
 intro cs
 refine ⟨.returned v, w, { fra (Zfy f) tm [] (.code .ret :: k) with mode := .returning }, hR, ?_, rfl, ?_⟩
 ·refine Steps.one (step_lone_go ?_)
  simp [stepG, stepG.exec, fra, Zfy]
 ·exact ⟨rfl, rfl, rfl, fn, hf, hr⟩
theorem Zkf {P : Program} {f : FuncId} {fn : Func} {tm : Array Value} {w : World} {R : Ending → World → Prop} {v : Value}
  (hf : P.funcs[f]? = some fn) (hr : (results fn tm).run P w = .ok v w) (hR : R (.returned v) w) :
  Go (tgtN P f R) (Zfy f) tm [] [] w := by
 intro cs
 refine ⟨.returned v, w, { fra (Zfy f) tm [] [] with mode := .returning }, hR, ?_, rfl, ?_⟩
 ·refine Steps.one (step_lone_go ?_)
  simp [stepG, stepG.exec, fra, Zfy]
 ·exact ⟨rfl, rfl, rfl, fn, hf, hr⟩
end Go.Cat
namespace Go.Cat
abbrev Heap := Nat → Option Obj
def hp (w : World) : Heap := fun b => w.heap[b]?
def Hle (h h' : Heap) : Prop := ∀ b o, h b = some o → h' b = some o
theorem Hle.refl (h : Heap) : Hle h h := fun _ _ x => x
theorem Hle.trans {a b c : Heap} (h : Hle a b) (k : Hle b c) : Hle a c := fun _ _ x => k _ _ (h _ _ x)
def one1 : List Value → Bool
 | [] => true
 | v :: vs => v.oneCell' && one1 vs
inductive Res where
 | blk (b : Nat) (o : Obj)
 | osl (v : Value) (sz : Nat) (t : TypeId) (ls : List (List Value))
def Res.ids : Res → List Nat
 | .blk b _ => [b]
 | .osl (.slice (some a) _ _) _ _ _ => [a.block]
 | .osl _ _ _ _ => []
def OSl (w : World) (v : Value) (sz : Nat) (t : TypeId) (ls : List (List Value)) : Prop :=
 (v = .slice none 0 0 ∧ ls = []) ∨
 ∃ b cap arr rest, v = .slice (some ⟨b, 0, none⟩) ls.length cap ∧ w.heap[b]? = some (.cells arr t (0, 0)) ∧ arr.size = cap * sz ∧ ls.length ≤ cap ∧
  arr.toList = ls.flatten ++ rest ∧ ∀ x ∈ ls, x.length = sz ∧ one1 x = true
def Res.ok (w : World) : Res → Prop
 | .blk b o => w.heap[b]? = some o
 | .osl v sz t ls => OSl w v sz t ls
def ids (own : List Res) : List Nat := own.flatMap Res.ids
structure Inv (w0 : World) (M : Nat → Prop) (H0 : Heap) (own : List Res) (H : Heap) (w : World) : Prop where
 os : w.os = w0.os
 tape : w.tape = w0.tape
 output : w.output = w0.output
 size : w0.heap.size ≤ w.heap.size
 same : ∀ k, k < w0.heap.size → ¬ M k → w.heap[k]? = w0.heap[k]?
 sub : Hle H (hp w)
 h0 : Hle H0 H
 new : ∀ b, H b ≠ none → H0 b ≠ none ∨ w0.heap.size ≤ b
 ok : ∀ r ∈ own, r.ok w
 nd : (ids own).Nodup
 away : ∀ b ∈ ids own, H b = none ∧ b < w.heap.size ∧ (b < w0.heap.size → M b)
 drawn : w0.drawn ≤ w.drawn
theorem Res.ok_of_same {w w' : World} {r : Res} (h : ∀ b ∈ r.ids, w'.heap[b]? = w.heap[b]?) (k : r.ok w) : r.ok w' := by
 cases r with
 | blk b o => simp only [Res.ok] at *; rw [h b (by simp [Res.ids])]; exact k
 | osl v sz t ls =>
  rcases k with k | ⟨b, cap, arr, rest, rfl, hb, hk⟩
  ·exact .inl k
  ·exact .inr ⟨b, cap, arr, rest, rfl, by rw [h b (by simp [Res.ids])]; exact hb, hk⟩
theorem Zdy {own : List Res} {r : Res} {b : Nat} (hr : r ∈ own) (hb : b ∈ r.ids) : b ∈ ids own := by
 simp only [ids, List.mem_flatMap]; exact ⟨r, hr, hb⟩
theorem sublist_ids {a b : List Res} (p : a.Sublist b) : (ids a).Sublist (ids b) := by
 induction p with
 | slnil => exact List.Sublist.refl _
 | cons x _ ih => simp only [ids, List.flatMap_cons] at *; exact ih.trans (List.sublist_append_right _ _)
 | cons_cons x _ ih => simp only [ids, List.flatMap_cons] at *; exact List.Sublist.append (List.Sublist.refl _) ih
section inv
variable {w0 w w' : World} {M : Nat → Prop} {H0 H : Heap} {own own' : List Res}
theorem Inv.perm (h : Inv w0 M H0 own H w) (p : own.Perm own') : Inv w0 M H0 own' H w :=
 ⟨h.os, h.tape, h.output, h.size, h.same, h.sub, h.h0, h.new, fun r hr => h.ok r (p.mem_iff.2 hr), (List.Perm.nodup_iff (p.flatMap_right _)).1 h.nd,
 fun b hb => h.away b (by
  obtain ⟨r, hr, hb⟩ := List.mem_flatMap.1 hb
  exact Zdy (p.mem_iff.2 hr) hb), h.drawn⟩
theorem Inv.sublist (h : Inv w0 M H0 own H w) (p : own'.Sublist own) : Inv w0 M H0 own' H w :=
 ⟨h.os, h.tape, h.output, h.size, h.same, h.sub, h.h0, h.new, fun r hr => h.ok r (p.subset hr), (sublist_ids p).nodup h.nd,
 fun b hb => h.away b (by
  obtain ⟨r, hr, hb⟩ := List.mem_flatMap.1 hb
  exact Zdy (p.subset hr) hb), h.drawn⟩
theorem Inv.quiet (h : Inv w0 M H0 own H w) (hh : w'.heap = w.heap) (ho : w'.os = w.os) (ht : w'.tape = w.tape) (hu : w'.output = w.output) (hdr : w.drawn ≤ w'.drawn := by first | exact Nat.le_refl _ | exact Nat.le_succ _) : Inv w0 M H0 own H w' :=
 ⟨ho.trans h.os, ht.trans h.tape, hu.trans h.output, by rw [hh]; exact h.size, by rw [hh]; exact h.same, by
  intro b o hb; have := h.sub b o hb; unfold hp at *; rw [hh]; exact this, h.h0, h.new,
 fun r hr => Res.ok_of_same (fun b _ => by rw [hh]) (h.ok r hr), h.nd, by rw [hh]; exact h.away, Nat.le_trans h.drawn hdr⟩
theorem Inv.push (h : Inv w0 M H0 own H w) (o : Obj) (r : Res) (hids : r.ids = [w.heap.size]) (hok : r.ok (w.alloc o)) : Inv w0 M H0 (own ++ [r]) H (w.alloc o) := by
 have hsz : (w.alloc o).heap.size = w.heap.size + 1 := by simp
 have hget : ∀ k, k < w.heap.size → (w.alloc o).heap[k]? = w.heap[k]? := fun k hk => Go.RowKit.Below.heap_alloc w o k hk
 refine ⟨h.os, h.tape, h.output, by rw [hsz]; have := h.size; omega, fun k hk hm => (hget k (by have := h.size; omega)).trans (h.same k hk hm), ?_, h.h0, h.new, ?_, ?_, ?_, h.drawn⟩
 ·intro b o' hb
  have := h.sub b o' hb
  unfold hp at *
  rw [hget b (by exact (Array.getElem?_eq_some_iff.1 this).1)]
  exact this
 ·intro r' hr'
  rcases List.mem_append.1 hr' with hr' | hr'
  ·exact Res.ok_of_same (fun b hb => hget b (h.away b (Zdy hr' hb)).2.1) (h.ok r' hr')
  ·simp at hr'; subst hr'; exact hok
 ·simp only [ids, List.flatMap_append, List.flatMap_cons, List.flatMap_nil, List.append_nil, hids]
  rw [List.nodup_append]
  refine ⟨h.nd, by simp, ?_⟩
  intro a ha b hb e
  simp at hb
  have := (h.away a ha).2.1
  omega
 ·intro b hb
  simp only [ids, List.flatMap_append, List.flatMap_cons, List.flatMap_nil, List.append_nil, hids, List.mem_append, List.mem_singleton] at hb
  rcases hb with hb | hb
  ·have := h.away b hb
   exact ⟨this.1, by rw [hsz]; omega, this.2.2⟩
  ·subst hb
   refine ⟨?_, by rw [hsz]; omega, fun hlt => absurd hlt (by have := h.size; omega)⟩
   cases e : H w.heap.size with
   | none => rfl
   | some o' => have := h.sub _ _ e; unfold hp at this; simp at this
theorem ZfH {own : List Res} {i : Nat} {r : Res} (h : own[i]? = some r) : own = own.take i ++ r :: own.drop (i + 1) := by
 obtain ⟨hi, rfl⟩ := List.getElem?_eq_some_iff.1 h
 simp
theorem Inv.write (h : Inv w0 M H0 own H w) {i b : Nat} {r r' : Res} (hi : own[i]? = some r) (hb : b ∈ r.ids) (hids : r'.ids = r.ids)
  (hother : ∀ k, k ≠ b → w'.heap[k]? = w.heap[k]?) (hsz : w'.heap.size = w.heap.size) (ho : w'.os = w.os) (ht : w'.tape = w.tape) (hu : w'.output = w.output)
  (hok : r'.ok w') (hdr : w.drawn ≤ w'.drawn := by first | exact Nat.le_refl _ | exact Nat.le_succ _) : Inv w0 M H0 (own.set i r') H w' := by
 have hsplit := ZfH hi
 have hset : own.set i r' = own.take i ++ r' :: own.drop (i + 1) := by
  have hlt : i < own.length := (List.getElem?_eq_some_iff.1 hi).1
  rw [List.set_eq_take_append_cons_drop, if_pos hlt]
 have hidseq : ids (own.set i r') = ids own := by
  rw [hset]; conv => rhs; rw [hsplit]
  simp [ids, hids]
 have hrmem : r ∈ own := by rw [hsplit]; simp
 have haw := h.away b (Zdy hrmem hb)
 refine ⟨ho.trans h.os, ht.trans h.tape, hu.trans h.output, by rw [hsz]; exact h.size, ?_, ?_, h.h0, h.new, ?_, by rw [hidseq]; exact h.nd, by rw [hidseq, hsz]; exact h.away, Nat.le_trans h.drawn hdr⟩
 ·intro k hk hm
  rw [hother k (fun e => hm (e ▸ haw.2.2 (e ▸ hk)))]
  exact h.same k hk hm
 ·intro k o hk
  have := h.sub k o hk
  unfold hp at *
  rw [hother k (fun e => by rw [e, haw.1] at hk; cases hk)]
  exact this
 ·intro q hq
  rw [hset] at hq
  have hnd := h.nd
  rw [hsplit] at hnd
  simp only [ids, List.flatMap_append, List.flatMap_cons] at hnd
  rw [List.nodup_append, List.nodup_append] at hnd
  rcases List.mem_append.1 hq with hq | hq
  ·have hqm : q ∈ own := List.mem_of_mem_take hq
   refine Res.ok_of_same (fun k hk => hother k ?_) (h.ok q hqm)
   rintro rfl
   exact hnd.2.2 k (List.mem_flatMap.2 ⟨q, hq, hk⟩) k (List.mem_append.2 (.inl hb)) rfl
  ·rcases List.mem_cons.1 hq with rfl | hq
   ·exact hok
   ·have hqm : q ∈ own := List.mem_of_mem_drop hq
    refine Res.ok_of_same (fun k hk => hother k ?_) (h.ok q hqm)
    rintro rfl
    exact hnd.2.1.2.2 k hb k (List.mem_flatMap.2 ⟨q, hq, hk⟩) rfl
theorem Inv.move (h : Inv w0 M H0 own H w) {i : Nat} {r r' : Res} (hi : own[i]? = some r) (o : Obj) (hids : r'.ids = [w.heap.size]) (hok : r'.ok (w.alloc o)) :
  Inv w0 M H0 (own.set i r') H (w.alloc o) := by
 have hp := h.push o r' hids hok
 have hsplit := ZfH hi
 have hlt : i < own.length := (List.getElem?_eq_some_iff.1 hi).1
 have hset : own.set i r' = own.take i ++ r' :: own.drop (i + 1) := by rw [List.set_eq_take_append_cons_drop, if_pos hlt]
 have hsub : (own.take i ++ (own.drop (i + 1) ++ [r'])).Sublist (own ++ [r']) := by
  rw [← List.append_assoc]
  refine List.Sublist.append ?_ (List.Sublist.refl _)
  conv => rhs; rw [hsplit]
  exact List.Sublist.append (List.Sublist.refl _) (List.sublist_cons_self _ _)
 refine (hp.sublist hsub).perm ?_
 rw [hset]
 refine List.Perm.append_left _ ?_
 exact List.perm_append_comm
end inv
end Go.Cat
namespace Go.Cat
abbrev Env := List (Nat × Value)
def lk : Env → Nat → Option Value
 | [], _ => none
 | (t, v) :: e, x => bif Nat.beq x t then some v else lk e x
def EnvOk (e : Env) (tm : Array Value) : Prop := ∀ t v, lk e t = some v → tm[t]? = some v
def ev (e : Env) : Operand → Option Value
 | .tmp t => lk e t
 | .const v => some v
 | .global g => some (.pointer (some ⟨g, 0, none⟩))
 | .func f => some (.func (.func f) #[] #[])
theorem Zay {e : Env} {tm : Array Value} {x : Operand} {v : Value} (h : EnvOk e tm) (hx : ev e x = some v) : ZcX tm x = v := by
 cases x with
 | tmp t => simp only [ev] at hx; have := h t v hx; simp only [ZcX]; rw [Array.getD_eq_getD_getElem?, this]; rfl
 | const c => simp only [ev, Option.some.injEq] at hx; exact hx
 | global g => simp only [ev, Option.some.injEq] at hx; exact hx
 | func f => simp only [ev, Option.some.injEq] at hx; exact hx
theorem EnvOk.put {e : Env} {tm : Array Value} {d : Nat} {v : Value} (h : EnvOk e tm) (hd : d < tm.size) : EnvOk ((d, v) :: e) (tm.setIfInBounds d v) := by
 intro t u hu
 simp only [lk] at hu
 cases hb : Nat.beq t d with
 | true =>
  have : t = d := Nat.eq_of_beq_eq_true hb
  subst this
  simp only [hb, cond_true, Option.some.injEq] at hu
  subst hu
  rw [Array.getElem?_setIfInBounds_self_of_lt hd]
 | false =>
  have : d ≠ t := fun e => by subst e; simp at hb
  simp only [hb, cond_false] at hu
  rw [Array.getElem?_setIfInBounds_ne this]
  exact h t u hu
def Zf2 (e : Env) : Env → Prop
 | [] => True
 | (t, v) :: e' => lk e t = some v ∧ Zf2 e e'
theorem EnvOk.sub {e e' : Env} {tm : Array Value} (h : EnvOk e tm) (hs : Zf2 e e') : EnvOk e' tm := by
 induction e' with
 | nil => intro t v ht; simp [lk] at ht
 | cons p e' ih =>
  obtain ⟨p1, p2⟩ := p
  intro t v ht
  simp only [lk] at ht
  cases hb : Nat.beq t p1 with
  | true =>
   have : t = p1 := Nat.eq_of_beq_eq_true hb
   simp only [hb, cond_true, Option.some.injEq] at ht
   subst ht; subst this
   exact h _ _ hs.1
  | false => simp only [hb, cond_false] at ht; exact ih hs.2 t v ht
def ZgP (ds : List (Option Tmp)) (tm : Array Value) (j : Nat) : Option Bool :=
 match ((ds[j]?).join).bind (tm[·]?) with
 | some (.bool b) => some b
 | _ => none
def ZcM (ds : List (Option Tmp)) (tm : Array Value) : Option (Nat × Bool) → Bool
 | none => true
 | some (j, want) => ZgP ds tm j == some want
section rops
variable (P : Program) (b : Frame) (pan : List PanicEntry → World → Prop) (fin : Array Value → World → Prop) (ds : List (Option Tmp))
def ROps : List Oper → Array Value → World → Prop
 | [], tm, w => fin tm w
 | o :: rem, tm, w =>
  if ZcM ds tm o.guard then
   ZeN b o ∧
   match (execOp (ZcX tm) o).run P w with
   | .ok (.value v) w' => ROps rem (putT tm o.dst v) w'
   | .ok .skip w' => ROps rem (putT tm o.dst undef) w'
   | .ok (.enter f args) w' => (∃ R : Value → World → Prop, Calls P f args w' (fun e w'' => ∃ v, e = .returned v ∧ R v w'') ∧ ∀ v w'', R v w'' → ROps rem (putT tm o.dst v) w'') ∨
     ∃ RP : List PanicEntry → World → Prop, Calls P f args w' (fun e w'' => ∃ ch, e = .panicked ch ∧ RP ch w'') ∧ ∀ ch w'', RP ch w'' → pan ch w''
   | .halt (.panic v) w' => pan [{ v, recovered := false }] w'
   | .ok (.round l f tmps as bd) w' => ∃ R : Value → World → Prop, ZiW P l f tmps as bd w' R ∧ ∀ v w'', R v w'' → ROps rem (putT tm o.dst v) w''
   | _ => False
  else ROps rem (putT tm o.dst undef) w
end rops
theorem Zjw (ops : Array Oper) (tm : Array Value) (j : Nat) : ZgP (ops.toList.map (·.dst)) tm j = yielded ops tm j := by
 unfold ZgP yielded
 have : ((ops.toList.map (·.dst))[j]?).join = (ops[j]?).bind (·.dst) := by
  simp only [List.getElem?_map, Array.getElem?_toList]
  cases ops[j]? <;> rfl
 rw [this]; rfl
theorem Zdv (ops : Array Oper) (tm : Array Value) (o : Oper) : ZcM (ops.toList.map (·.dst)) tm o.guard = Region.wanted o (yielded ops tm) := by
 unfold ZcM Region.wanted
 cases o.guard with
 | none => rfl
 | some p => obtain ⟨j, want⟩ := p; simp only [Zjw]
theorem Zfd {P : Program} {T : Tgt P} {b : Frame} {D : List Deferred} {k : List Item} {ops : Array Oper} (rem : List Oper) :
  ∀ (pre : List Oper) (tm : Array Value) (w : World), ops.toList = pre ++ rem → ROps P b (panK T b D) (fun tm w => Go T b tm D k w) (ops.toList.map (·.dst)) rem tm w →
   Go T b tm D (.inRegion ops (List.range' pre.length rem.length) :: k) w := by
 induction rem with
 | nil => intro pre tm w he h; exact ZdN h
 | cons o rem ih =>
  intro pre tm w he h
  have ho : ops[pre.length]? = some o := by
   rw [← Array.getElem?_toList, he]; simp
  have hr : List.range' pre.length (o :: rem).length = pre.length :: List.range' (pre ++ [o]).length rem.length := by
   simp [List.range'_succ]
  have he' : ops.toList = (pre ++ [o]) ++ rem := by rw [he]; simp
  rw [hr]
  simp only [ROps, Zdv] at h
  by_cases hw : Region.wanted o (yielded ops tm) = true
  ·rw [if_pos hw] at h
   obtain ⟨hp, h⟩ := h
   split at h
   ·exact Zep ho hw hp (by assumption) (ih _ _ _ he' h)
   ·exact ZdO ho hw hp (by assumption) (ih _ _ _ he' h)
   ·rcases h with ⟨R, hc, hk⟩ | ⟨RP, hc, hk⟩
    ·exact Zfc ho hw hp (by assumption) hc fun v w'' hR => ih _ _ _ he' (hk v w'' hR)
    ·exact Zes ho hw hp (by assumption) hc hk
   ·exact Zer ho hw hp (by assumption) h
   ·obtain ⟨R, hc, hk⟩ := h
    exact Zeq ho hw hp (by assumption) hc fun v w'' hR => ih _ _ _ he' (hk v w'' hR)
   ·exact h.elim
  ·rw [if_neg hw] at h
   exact Zfb ho (by simpa using hw) (ih _ _ _ he' h)
theorem ZdZ {a b : Nat} (h : Nat.blt a b = true) : a < b := by simpa [Nat.blt_eq] using h
structure Ctx (P : Program) (ρ : Type) where
 T : ρ → Tgt P
 b : Frame
 n : Nat
 w0 : World
 M : Nat → Prop
 H0 : Heap
inductive Kont where
 | items (k : List Item)
 | pred (K : Array Value → World → Prop)
inductive Pos where
 | code (todo : List Item)
 | ops (ds : List (Option Tmp)) (rem : List Oper) (k : Kont)
def Kont.fin {P : Program} (T : Tgt P) (b : Frame) (D : List Deferred) : Kont → Array Value → World → Prop
 | .items k => fun tm w => Go T b tm D k w
 | .pred K => K
def Pos.go {P : Program} (T : Tgt P) (b : Frame) (D : List Deferred) (tm : Array Value) (w : World) : Pos → Prop
 | .code todo => Go T b tm D todo w
 | .ops ds rem k => ROps P b (panK T b D) (k.fin T b D) ds rem tm w
def Sim {P : Program} {ρ τ : Type} (C : Ctx P ρ) (m : Option τ) (κ : τ → Option ρ) (env : Env) (own : List Res) (H : Heap) (D : List Deferred) (p : Pos) : Prop :=
 ∀ r, m.bind κ = some r → ∀ w, Inv C.w0 C.M C.H0 own H w → ∀ tm, tm.size = C.n → EnvOk env tm → p.go (C.T r) C.b D tm w
section rules
variable {P : Program} {ρ τ σ : Type} {C : Ctx P ρ} {m m1 m2 : Option τ} {κ : τ → Option ρ} {env : Env} {own : List Res} {H : Heap} {D : List Deferred} {p : Pos} {k : List Item} {kk : Kont}
theorem ZjJ : Sim C none κ env own H D p := fun r h => by simp at h
theorem ZlK {x : τ} (h : Sim C (κ x) some env own H D p) : Sim C (some x) κ env own H D p :=
 fun r hr w hw tm ht he => h r (by simpa using hr) w hw tm ht he
theorem ZeJ {m : Option σ} {f : σ → Option τ} (h : Sim C m (fun x => (f x).bind κ) env own H D p) : Sim C (m.bind f) κ env own H D p :=
 fun r hr w hw tm ht he => h r (by rw [Option.bind_assoc] at hr; exact hr) w hw tm ht he
theorem Zhx (h : ∀ x, m = some x → Sim C (κ x) some env own H D p) : Sim C m κ env own H D p := by
 intro r hr w hw tm ht he
 cases hm : m with
 | none => rw [hm] at hr; simp at hr
 | some x => rw [hm] at hr; exact h x hm r (by simpa using hr) w hw tm ht he
theorem s_ite {c : Bool} (h1 : c = true → Sim C m1 κ env own H D p) (h2 : c = false → Sim C m2 κ env own H D p) : Sim C (if c = true then m1 else m2) κ env own H D p := by
 cases c with
 | true => exact h1 rfl
 | false => exact h2 rfl
theorem Zag {env' : Env} (hs : Zf2 env env') (h : Sim C m κ env' own H D p) : Sim C m κ env own H D p :=
 fun r hr w hw tm ht he => h r hr w hw tm ht (he.sub hs)
theorem Zam {own' : List Res} (hs : own'.Sublist own) (h : Sim C m κ env own' H D p) : Sim C m κ env own H D p :=
 fun r hr w hw tm ht he => h r hr w (hw.sublist hs) tm ht he
theorem ZcP {own' : List Res} (hs : own.Perm own') (h : Sim C m κ env own' H D p) : Sim C m κ env own H D p :=
 fun r hr w hw tm ht he => h r hr w (hw.perm hs) tm ht he
theorem Zae {x y : Code} (h : Sim C m κ env own H D (.code (.code x :: .code y :: k))) : Sim C m κ env own H D (.code (.code (.seq x y) :: k)) :=
 fun r hr w hw tm ht he => Znu (h r hr w hw tm ht he)
theorem Zar (h : Sim C m κ env own H D (.code k)) : Sim C m κ env own H D (.code (.code .skip :: k)) :=
 fun r hr w hw tm ht he => ZmJ (h r hr w hw tm ht he)
theorem Zav {i : Nat} (h : Sim C m κ env own H D (.code k)) : Sim C m κ env own H D (.code (.inBlock i :: k)) :=
 fun r hr w hw tm ht he => Zjk (h r hr w hw tm ht he)
theorem Zat {i : Nat} {x : Code} (h : Sim C m κ env own H D (.code (.code x :: .inBlock i :: k))) : Sim C m κ env own H D (.code (.code (.block i x) :: k)) :=
 fun r hr w hw tm ht he => Zlf (h r hr w hw tm ht he)
theorem ZjK {x : Code} (h : Sim C m κ env own H D (.code (.code x :: .inLoop x :: k))) : Sim C m κ env own H D (.code (.code (.loop x) :: k)) :=
 fun r hr w hw tm ht he => ZmK (h r hr w hw tm ht he)
theorem ZiC {x : Code} (h : Sim C m κ env own H D (.code (.code x :: .inLoop x :: k))) : Sim C m κ env own H D (.code (.inLoop x :: k)) :=
 fun r hr w hw tm ht he => Zke (h r hr w hw tm ht he)
theorem Zbf {i : Nat} {k' : List Item} (hx : exitTo i k = some k') (h : Sim C m κ env own H D (.code k')) : Sim C m κ env own H D (.code (.code (.exit i) :: k)) :=
 fun r hr w hw tm ht he => ZmL hx (h r hr w hw tm ht he)
theorem Zao {c : Operand} {x y : Code} {e : Bool} (hc : ev env c = some (.bool e)) (h1 : e = true → Sim C m1 κ env own H D (.code (.code x :: k)))
  (h2 : e = false → Sim C m2 κ env own H D (.code (.code y :: k))) : Sim C (if e = true then m1 else m2) κ env own H D (.code (.code (.cond c x y) :: k)) := by
 cases e with
 | true => exact fun r hr w hw tm ht he => Zhk (t := true) (Zay he hc) (h1 rfl r hr w hw tm ht he)
 | false => exact fun r hr w hw tm ht he => Zhk (t := false) (Zay he hc) (h2 rfl r hr w hw tm ht he)
theorem ZfQ {c : Operand} {x y : Code} {e : Bool} (hc : ev env c = some (.bool e)) (hb : e = true) (h1 : Sim C m κ env own H D (.code (.code x :: k))) :
  Sim C m κ env own H D (.code (.code (.cond c x y) :: k)) := by
 subst hb
 exact fun r hr w hw tm ht he => Zhk (t := true) (Zay he hc) (h1 r hr w hw tm ht he)
theorem Zek {c : Operand} {x y : Code} {e : Bool} (hc : ev env c = some (.bool e)) (hb : e = false) (h1 : Sim C m κ env own H D (.code (.code y :: k))) :
  Sim C m κ env own H D (.code (.code (.cond c x y) :: k)) := by
 subst hb
 exact fun r hr w hw tm ht he => Zhk (t := false) (Zay he hc) (h1 r hr w hw tm ht he)
theorem Zaa {i : Nat} {l : List Oper} (h : Sim C m κ env own H D (.ops (l.map (·.dst)) l (.items k))) : Sim C m κ env own H D (.code (.code (.region i l.toArray false) :: k)) :=
 fun r hr w hw tm ht he => Zkd (by
  have := Zfd (ops := l.toArray) l [] tm w (by simp) (h r hr w hw tm ht he)
  simpa [List.range_eq_range'] using this)
theorem Zac {ds : List (Option Tmp)} (h : Sim C m κ env own H D (.code k)) : Sim C m κ env own H D (.ops ds [] (.items k)) :=
 fun r hr w hw tm ht he => h r hr w hw tm ht he
theorem ZbV {ds : List (Option Tmp)} {K : Array Value → World → Prop} (h : ∀ tm w, tm.size = C.n → EnvOk env tm → Inv C.w0 C.M C.H0 own H w → K tm w) : Sim C m κ env own H D (.ops ds [] (.pred K)) :=
 fun r hr w hw tm ht he => h tm w ht he hw
theorem Zaf {ds : List (Option Tmp)} {rem : List Oper} {dst : Option Tmp} {op : Op} {ty : TypeId} {pos : String} {af : Array Edge} {j t : Nat} {e want : Bool}
  (hj : ds[j]? = some (some t)) (hl : lk env t = some (.bool e)) (he : e = want)
  (h : Sim C m κ env own H D (.ops ds (⟨dst, op, ty, pos, af, none⟩ :: rem) kk)) : Sim C m κ env own H D (.ops ds (⟨dst, op, ty, pos, af, some (j, want)⟩ :: rem) kk) := by
 intro r hr w hw tm ht hE
 have := h r hr w hw tm ht hE
 simp only [Pos.go, ROps] at *
 have hwd : ZcM ds tm (some (j, want)) = true := by
  simp [ZcM, ZgP, hj, hE t _ hl, he]
 rw [if_pos hwd]
 rw [if_pos (show ZcM ds tm none = true from rfl)] at this
 exact ⟨this.1, this.2⟩
theorem Zab {ds : List (Option Tmp)} {rem : List Oper} {d : Tmp} {op : Op} {ty : TypeId} {pos : String} {af : Array Edge} {j t : Nat} {e want : Bool}
  (hj : ds[j]? = some (some t)) (hl : lk env t = some (.bool e)) (he : e = !want)
  (h : Sim C m κ ((d, undef) :: env) own H D (.ops ds rem kk)) (hd : Nat.blt d C.n = true := by rfl) : Sim C m κ env own H D (.ops ds (⟨some d, op, ty, pos, af, some (j, want)⟩ :: rem) kk) := by
 intro r hr w hw tm ht hE
 have hdn : d < tm.size := by rw [ht]; exact ZdZ hd
 have := h r hr w hw (tm.setIfInBounds d undef) (by simpa using ht) (hE.put hdn)
 simp only [Pos.go, ROps] at *
 have hwd : ZcM ds tm (some (j, want)) = false := by
  simp [ZcM, ZgP, hj, hE t _ hl, he]
 rw [if_neg (by simp [hwd])]
 exact this
theorem s_op {ds : List (Option Tmp)} {rem : List Oper} {d : Tmp} {op : Op} {ty : TypeId} {pos : String} {af : Array Edge} (hnd : ∀ c, op ≠ .defer c)
  (hrun : ∀ tm w, EnvOk env tm → Inv C.w0 C.M C.H0 own H w → ∃ v w' own' H', (execOp (ZcX tm) ⟨some d, op, ty, pos, af, none⟩).run P w = .ok (.value v) w' ∧
   Inv C.w0 C.M C.H0 own' H' w' ∧ Sim C m κ ((d, v) :: env) own' H' D (.ops ds rem kk)) (hd : Nat.blt d C.n = true) :
  Sim C m κ env own H D (.ops ds (⟨some d, op, ty, pos, af, none⟩ :: rem) kk) := by
 intro r hr w hw tm ht hE
 have hdn : d < tm.size := by rw [ht]; exact ZdZ hd
 obtain ⟨v, w', own', H', hv, hI, hS⟩ := hrun tm w hE hw
 have := hS r hr w' hI (tm.setIfInBounds d v) (by simpa using ht) (hE.put hdn)
 simp only [Pos.go, ROps] at *
 rw [if_pos (show ZcM ds tm none = true from rfl)]
 refine ⟨.inr hnd, ?_⟩
 rw [hv]
 exact this
theorem Zda {ds : List (Option Tmp)} {rem : List Oper} {d : Tmp} {op : Op} {ty : TypeId} {pos : String} {af : Array Edge} {v : Value} (hnd : ∀ c, op ≠ .defer c)
  (hrun : ∀ tm w, EnvOk env tm → (execOp (ZcX tm) ⟨some d, op, ty, pos, af, none⟩).run P w = .ok (.value v) w)
  (h : Sim C m κ ((d, v) :: env) own H D (.ops ds rem kk)) (hd : Nat.blt d C.n = true) :
  Sim C m κ env own H D (.ops ds (⟨some d, op, ty, pos, af, none⟩ :: rem) kk) :=
 s_op hnd (fun tm w hE hI => ⟨v, w, own, H, hrun tm w hE, hI, h⟩) hd
end rules
end Go.Cat
namespace Go.Cat
class TLay (P : Program) (t : TypeId) (n : outParam Nat) (ag : outParam Bool) : Prop where
 agg : ∀ w, (isAgg t).run P w = .ok ag w
 size : ∀ w, (sizeOf t).run P w = .ok n w
 one : ag = false → n = 1
class TFld (P : Program) (s : TypeId) (f : Nat) (off : outParam Nat) (n : outParam Nat) (ag : outParam Bool) : Prop where
 of : ∃ fields fl, P.underlying s = some (.struct fields) ∧ fields[f]? = some fl ∧ fl.offset = off ∧ (∀ w, (sizeOf fl.type).run P w = .ok n w) ∧ (∀ w, (isAgg fl.type).run P w = .ok ag w) ∧ n ≠ 0 ∧ (ag = false → n = 1)
class TSl (P : Program) (t : TypeId) (e : outParam TypeId) (sz : outParam Nat) (by_ : outParam Nat) : Prop where
 und : P.underlying t = some (.slice e)
 size : ∀ w, (sizeOf e).run P w = .ok sz w
 bytes : ∃ i, P.info? e = some i ∧ i.bytes = by_
 pos : 0 < sz
 few : 0 < by_ ∧ by_ ≤ 1024
 zero : ∃ z, (∀ w, (zeroValue e).run P w = .ok z w) ∧ z.cells.toList.length = sz ∧ one1 z.cells.toList = true
class TArr (P : Program) (t : TypeId) (len : outParam Nat) (e : outParam TypeId) (sz : outParam Nat) : Prop where
 und : P.underlying t = some (.array len e)
 size : ∀ w, (sizeOf e).run P w = .ok sz w
class TZero (P : Program) (t : TypeId) (v : outParam Value) : Prop where
 zero : ∀ w, (zeroValue t).run P w = .ok v w
class TUnd (P : Program) (t : TypeId) (d : outParam TypeDesc) : Prop where
 und : P.underlying t = some d
def subc (cs : List Value) (off n : Nat) : List Value := (cs.drop off).take n
def mkv (ag : Bool) (cs : List Value) : Value := match ag with | true => .agg cs.toArray | false => cs.headD undef
def spl (cs : List Value) (at_ : Nat) : List Value → List Value
 | [] => cs
 | v :: vs => spl (cs.set at_ v) (at_ + 1) vs
theorem ZfW (vs : List Value) : ∀ (cs : List Value) (a : Nat), (spl cs a vs).length = cs.length := by
 induction vs with
 | nil => intro cs a; rfl
 | cons v vs ih => intro cs a; simp [spl, ih]
section cells
variable {P : Program}
def Zak (cs : List Value) (t : TypeId) : Obj := .cells cs.toArray t (0, 0)
theorem Zip {w : World} {b off : Nat} {arr : Array Value} {t : TypeId} {fz : Nat × Nat} (h : w.heap[b]? = some (.cells arr t fz)) : w.cell? ⟨b, off, none⟩ = arr[off]? := by
 simp [World.cell?, h]
theorem Zdh (b off i : Nat) : (⟨b, off, none⟩ : Addr).add i = ⟨b, off + i, none⟩ := by
 unfold Addr.add; split
 ·subst_vars; rfl
 ·rfl
theorem Zc0 {w : World} {b off n : Nat} {arr : Array Value} {t : TypeId} {fz : Nat × Nat} (h : w.heap[b]? = some (.cells arr t fz)) (hn : off + n ≤ arr.size) :
  (loadCells ⟨b, off, none⟩ n).run P w = .ok (subc arr.toList off n).toArray w := by
 have hl : (subc arr.toList off n).length = n := by simp [subc]; omega
 have := run_loadCells_list (P := P) w ⟨b, off, none⟩ (subc arr.toList off n) (fun j v hj => by
  rw [Zdh, Zip h]
  have hj' : j < n := by rw [← hl]; exact (List.getElem?_eq_some_iff.1 hj).1
  simp only [subc, List.getElem?_take, hj', if_true, List.getElem?_drop, Array.getElem?_toList] at hj
  exact hj)
 rw [hl] at this
 exact this
theorem Zdb {w : World} {b off n : Nat} {ag : Bool} {arr : Array Value} {t ty : TypeId} {fz : Nat × Nat} [L : TLay P ty n ag] (h : w.heap[b]? = some (.cells arr t fz)) (hn : off + n ≤ arr.size) :
  (Instr.loadAt ty (.pointer (some ⟨b, off, none⟩))).run P w = .ok (mkv ag (subc arr.toList off n)) w := by
 unfold Instr.loadAt Instr.sureAddr
 simp only [pure_bind]
 unfold loadVar
 rw [Sem.run_bind, L.agg]
 cases ag with
 | true => simp only [Result.andThen_ok, if_true, Sem.run_bind, L.size, Zc0 h hn, Sem.run_pure]; rfl
 | false =>
  have h1 := L.one rfl
  subst h1
  have : arr[off]? = some arr[off] := Array.getElem?_eq_getElem (by omega)
  simp only [Result.andThen_ok, Bool.false_eq_true, if_false, run_load, Zip h, this]
  congr 1
  simp only [mkv, subc]
  rw [List.drop_eq_getElem_cons (by simpa using (by omega : off < arr.size))]
  simp
theorem Zdn (vs : List Value) : ∀ (w : World) (b off i : Nat) (cs : List Value) (t : TypeId), w.heap[b]? = some (.cells cs.toArray t (0, 0)) → off + i + vs.length ≤ cs.length → one1 vs = true →
  ∃ w', (storeCells ⟨b, off, none⟩ vs i).run P w = .ok () w' ∧ w'.heap[b]? = some (.cells (spl cs (off + i) vs).toArray t (0, 0)) ∧ (∀ k, k ≠ b → w'.heap[k]? = w.heap[k]?) ∧ w'.heap.size = w.heap.size ∧ w'.os = w.os ∧ w'.tape = w.tape ∧ w'.output = w.output ∧ w'.drawn = w.drawn := by
 induction vs with
 | nil => intro w b off i cs t h hn h1; exact ⟨w, rfl, h, fun _ _ => rfl, rfl, rfl, rfl, rfl, rfl⟩
 | cons v vs ih =>
  intro w b off i cs t h hn h1
  simp only [one1, Bool.and_eq_true] at h1
  simp only [List.length_cons] at hn
  have hc : w.cell? ((⟨b, off, none⟩ : Addr).add i) = some (cs[off + i]'(by omega)) := by
   rw [Zdh, Zip h]; simp
  have hf : w.frozen? ((⟨b, off, none⟩ : Addr).add i) = false := by
   rw [Zdh]; simp [World.frozen?, h]
  have hset : (w.setCell ((⟨b, off, none⟩ : Addr).add i) v).heap[b]? = some (.cells (cs.set (off + i) v).toArray t (0, 0)) := by
   rw [Zdh]
   simp [World.setCell, Array.getElem?_modify, h]
  obtain ⟨w', hr, hb, ho, hs, h5, h6, h7, h8⟩ := ih (w.setCell ((⟨b, off, none⟩ : Addr).add i) v) b off (i + 1) (cs.set (off + i) v) t hset (by simp; omega) h1.2
  refine ⟨w', ?_, hb, fun k hk => ?_, by simpa using hs, h5, h6, h7, h8⟩
  ·unfold storeCells
   rw [Sem.run_bind, run_store _ _ _ _ _ h1.1, hc]
   simp only [hf, Bool.false_eq_true, if_false, Result.andThen_ok]
   exact hr
  ·rw [ho k hk, Zdh]
   exact Go.RowKit.Below.heap_setCell _ _ _ _ hk
end cells
abbrev w64 (x : Int) : Int := IntKind.i64.wrap x
def ibit (op : BinOp) (k : IntKind) (x y : Int) : Int :=
 match op with
 | .and => k.wrap (BitVec.ofInt k.bits x &&& BitVec.ofInt k.bits y).toNat
 | .or => k.wrap (BitVec.ofInt k.bits x ||| BitVec.ofInt k.bits y).toNat
 | .xor => k.wrap (BitVec.ofInt k.bits x ^^^ BitVec.ofInt k.bits y).toNat
 | _ => k.wrap (BitVec.ofInt k.bits x &&& ~~~(BitVec.ofInt k.bits y)).toNat
def iar (op : BinOp) (k : IntKind) (x y : Int) : Int :=
 match op with
 | .add => k.wrap (x + y)
 | .sub => k.wrap (x - y)
 | _ => k.wrap (x * y)
def icmp (op : BinOp) (x y : Int) : Bool :=
 match op with
 | .eql => x == y
 | .neq => x != y
 | .lss => x < y
 | .leq => x ≤ y
 | .gtr => x > y
 | _ => x ≥ y
def seq (x y : ByteArray) : Bool := x.toList == y.toList
section rules
variable {P : Program} {ρ τ σ : Type} {C : Ctx P ρ} {m m1 m2 : Option τ} {κ : τ → Option ρ} {env : Env} {own : List Res} {H : Heap} {D : List Deferred} {k : Kont}
variable {ds : List (Option Tmp)} {rem : List Oper} {d : Tmp} {ty : TypeId} {pos : String} {af : Array Edge}
theorem Zad {x : Operand} {v : Value} (hx : ev env x = some v) (h : Sim C m κ ((d, v) :: env) own H D (.ops ds rem k)) (hd : Nat.blt d C.n = true := by rfl) :
  Sim C m κ env own H D (.ops ds (⟨some d, .move x, ty, pos, af, none⟩ :: rem) k) :=
 Zda (fun _ h => by cases h) (fun tm w hE => by simp [execOp, Zay hE hx]) h hd
theorem Zah {x : Operand} {v : Value} (hx : ev env x = some v) (h : Sim C m κ ((d, v) :: env) own H D (.ops ds rem k)) (hd : Nat.blt d C.n = true := by rfl) :
  Sim C m κ env own H D (.ops ds (⟨some d, .assign x, ty, pos, af, none⟩ :: rem) k) :=
 Zda (fun _ h => by cases h) (fun tm w hE => by simp [execOp, Zay hE hx]) h hd
theorem Zan {c x y : Operand} {e : Bool} {v : Value} (hc : ev env c = some (.bool e)) (he : e = true) (hx : ev env x = some v) (h : Sim C m κ ((d, v) :: env) own H D (.ops ds rem k)) (hd : Nat.blt d C.n = true := by rfl) :
  Sim C m κ env own H D (.ops ds (⟨some d, .pick c x y, ty, pos, af, none⟩ :: rem) k) :=
 Zda (fun _ h => by cases h) (fun tm w hE => by simp [execOp, Zay hE hx, Zay hE hc, he, asBool]) h hd
theorem Zal {c x y : Operand} {e : Bool} {v : Value} (hc : ev env c = some (.bool e)) (he : e = false) (hx : ev env y = some v) (h : Sim C m κ ((d, v) :: env) own H D (.ops ds rem k)) (hd : Nat.blt d C.n = true := by rfl) :
  Sim C m κ env own H D (.ops ds (⟨some d, .pick c x y, ty, pos, af, none⟩ :: rem) k) :=
 Zda (fun _ h => by cases h) (fun tm w hE => by simp [execOp, Zay hE hx, Zay hE hc, he, asBool]) h hd
theorem ZcI {x : Operand} {i : Nat} {vs : Array Value} {v : Value} (hx : ev env x = some (.tuple vs)) (hv : vs[i]? = some v) (h : Sim C m κ ((d, v) :: env) own H D (.ops ds rem k)) (hd : Nat.blt d C.n = true := by rfl) :
  Sim C m κ env own H D (.ops ds (⟨some d, .extract x i, ty, pos, af, none⟩ :: rem) k) :=
 Zda (fun _ h => by cases h) (fun tm w hE => by simp [execOp, Zay hE hx, Instr.extract, hv]) h hd
theorem Zem {op : BinOp} {x y : Operand} {xt yt : TypeId} {a b v : Value} (hx : ev env x = some a) (hy : ev env y = some b)
  (hg : ∀ w, (eqGuard op xt x y a b).run P w = .ok () w) (hr : ∀ w, (binOp op xt a b).run P w = .ok v w)
  (h : Sim C m κ ((d, v) :: env) own H D (.ops ds rem k)) (hd : Nat.blt d C.n = true) :
  Sim C m κ env own H D (.ops ds (⟨some d, .binOp op xt x y yt, ty, pos, af, none⟩ :: rem) k) :=
 Zda (fun _ h => by cases h) (fun tm w hE => by simp [execOp, Zay hE hx, Zay hE hy, hg, hr]) h hd
theorem o_ar {op : BinOp} {x y : Operand} {xt yt : TypeId} {K : IntKind} {a b : Int} (hop : op = .add ∨ op = .sub ∨ op = .mul) (hx : ev env x = some (.int K a)) (hy : ev env y = some (.int K b))
  (h : Sim C m κ ((d, .int K (iar op K a b)) :: env) own H D (.ops ds rem k)) (hd : Nat.blt d C.n = true) :
  Sim C m κ env own H D (.ops ds (⟨some d, .binOp op xt x y yt, ty, pos, af, none⟩ :: rem) k) :=
 Zem hx hy (fun w => by rcases hop with rfl | rfl | rfl <;> simp [eqGuard]) (fun w => by rcases hop with rfl | rfl | rfl <;> simp [binOp, Op.intArith, iar]) h hd
theorem ZbM {x y : Operand} {xt yt : TypeId} {K : IntKind} {a b : Int} (hx : ev env x = some (.int K a)) (hy : ev env y = some (.int K b))
  (h : Sim C m κ ((d, .int K (K.wrap (a + b))) :: env) own H D (.ops ds rem k)) (hd : Nat.blt d C.n = true := by rfl) :
  Sim C m κ env own H D (.ops ds (⟨some d, .binOp .add xt x y yt, ty, pos, af, none⟩ :: rem) k) := o_ar (.inl rfl) hx hy h hd
theorem ZhF {x y : Operand} {xt yt : TypeId} {K : IntKind} {a b : Int} (hx : ev env x = some (.int K a)) (hy : ev env y = some (.int K b))
  (h : Sim C m κ ((d, .int K (K.wrap (a - b))) :: env) own H D (.ops ds rem k)) (hd : Nat.blt d C.n = true := by rfl) :
  Sim C m κ env own H D (.ops ds (⟨some d, .binOp .sub xt x y yt, ty, pos, af, none⟩ :: rem) k) := o_ar (.inr (.inl rfl)) hx hy h hd
theorem ZiG {op : BinOp} {x y : Operand} {xt yt : TypeId} {K : IntKind} {a b : Int} (hop : op = .and ∨ op = .or ∨ op = .xor ∨ op = .andNot) (hx : ev env x = some (.int K a)) (hy : ev env y = some (.int K b))
  (h : Sim C m κ ((d, .int K (ibit op K a b)) :: env) own H D (.ops ds rem k)) (hd : Nat.blt d C.n = true) :
  Sim C m κ env own H D (.ops ds (⟨some d, .binOp op xt x y yt, ty, pos, af, none⟩ :: rem) k) :=
 Zem hx hy (fun w => by rcases hop with rfl | rfl | rfl | rfl <;> simp [eqGuard]) (fun w => by rcases hop with rfl | rfl | rfl | rfl <;> simp [binOp, Op.intBits, ibit]) h hd
theorem Zno {x y : Operand} {xt yt : TypeId} {K : IntKind} {a b : Int} (hx : ev env x = some (.int K a)) (hy : ev env y = some (.int K b))
  (h : Sim C m κ ((d, .int K (ibit .and K a b)) :: env) own H D (.ops ds rem k)) (hd : Nat.blt d C.n = true := by rfl) :
  Sim C m κ env own H D (.ops ds (⟨some d, .binOp .and xt x y yt, ty, pos, af, none⟩ :: rem) k) := ZiG (.inl rfl) hx hy h hd
theorem ZlV {x y : Operand} {xt yt : TypeId} {K : IntKind} {a b : Int} (hx : ev env x = some (.int K a)) (hy : ev env y = some (.int K b))
  (h : Sim C m κ ((d, .int K (ibit .andNot K a b)) :: env) own H D (.ops ds rem k)) (hd : Nat.blt d C.n = true := by rfl) :
  Sim C m κ env own H D (.ops ds (⟨some d, .binOp .andNot xt x y yt, ty, pos, af, none⟩ :: rem) k) := ZiG (.inr (.inr (.inr rfl))) hx hy h hd
theorem Ze8 {op : BinOp} {x y : Operand} {xt yt : TypeId} {K : IntKind} {a b : Int} (hop : op = .eql ∨ op = .neq ∨ op = .lss ∨ op = .leq ∨ op = .gtr ∨ op = .geq) (hx : ev env x = some (.int K a)) (hy : ev env y = some (.int K b))
  (h : Sim C m κ ((d, .bool (icmp op a b)) :: env) own H D (.ops ds rem k)) (hd : Nat.blt d C.n = true) :
  Sim C m κ env own H D (.ops ds (⟨some d, .binOp op xt x y yt, ty, pos, af, none⟩ :: rem) k) :=
 Zem hx hy (fun w => by rcases hop with rfl | rfl | rfl | rfl | rfl | rfl <;> simp [eqGuard]) (fun w => by rcases hop with rfl | rfl | rfl | rfl | rfl | rfl <;> simp [binOp, Op.intCmp, icmp]) h hd
theorem o_eq {x y : Operand} {xt yt : TypeId} {K : IntKind} {a b : Int} (hx : ev env x = some (.int K a)) (hy : ev env y = some (.int K b))
  (h : Sim C m κ ((d, .bool (a == b)) :: env) own H D (.ops ds rem k)) (hd : Nat.blt d C.n = true := by rfl) :
  Sim C m κ env own H D (.ops ds (⟨some d, .binOp .eql xt x y yt, ty, pos, af, none⟩ :: rem) k) := Ze8 (by simp) hx hy h hd
theorem o_ne {x y : Operand} {xt yt : TypeId} {K : IntKind} {a b : Int} (hx : ev env x = some (.int K a)) (hy : ev env y = some (.int K b))
  (h : Sim C m κ ((d, .bool (a != b)) :: env) own H D (.ops ds rem k)) (hd : Nat.blt d C.n = true := by rfl) :
  Sim C m κ env own H D (.ops ds (⟨some d, .binOp .neq xt x y yt, ty, pos, af, none⟩ :: rem) k) := Ze8 (by simp) hx hy h hd
theorem o_lt {x y : Operand} {xt yt : TypeId} {K : IntKind} {a b : Int} (hx : ev env x = some (.int K a)) (hy : ev env y = some (.int K b))
  (h : Sim C m κ ((d, .bool (decide (a < b))) :: env) own H D (.ops ds rem k)) (hd : Nat.blt d C.n = true := by rfl) :
  Sim C m κ env own H D (.ops ds (⟨some d, .binOp .lss xt x y yt, ty, pos, af, none⟩ :: rem) k) := Ze8 (by simp) hx hy h hd
theorem o_le {x y : Operand} {xt yt : TypeId} {K : IntKind} {a b : Int} (hx : ev env x = some (.int K a)) (hy : ev env y = some (.int K b))
  (h : Sim C m κ ((d, .bool (decide (a ≤ b))) :: env) own H D (.ops ds rem k)) (hd : Nat.blt d C.n = true := by rfl) :
  Sim C m κ env own H D (.ops ds (⟨some d, .binOp .leq xt x y yt, ty, pos, af, none⟩ :: rem) k) := Ze8 (by simp) hx hy h hd
theorem o_gt {x y : Operand} {xt yt : TypeId} {K : IntKind} {a b : Int} (hx : ev env x = some (.int K a)) (hy : ev env y = some (.int K b))
  (h : Sim C m κ ((d, .bool (decide (a > b))) :: env) own H D (.ops ds rem k)) (hd : Nat.blt d C.n = true := by rfl) :
  Sim C m κ env own H D (.ops ds (⟨some d, .binOp .gtr xt x y yt, ty, pos, af, none⟩ :: rem) k) := Ze8 (by simp) hx hy h hd
theorem o_ge {x y : Operand} {xt yt : TypeId} {K : IntKind} {a b : Int} (hx : ev env x = some (.int K a)) (hy : ev env y = some (.int K b))
  (h : Sim C m κ ((d, .bool (decide (a ≥ b))) :: env) own H D (.ops ds rem k)) (hd : Nat.blt d C.n = true := by rfl) :
  Sim C m κ env own H D (.ops ds (⟨some d, .binOp .geq xt x y yt, ty, pos, af, none⟩ :: rem) k) := Ze8 (by simp) hx hy h hd
theorem Zdc {x : Operand} {xt : TypeId} {a : Bool} (hx : ev env x = some (.bool a))
  (h : Sim C m κ ((d, .bool (!a)) :: env) own H D (.ops ds rem k)) (hd : Nat.blt d C.n = true := by rfl) :
  Sim C m κ env own H D (.ops ds (⟨some d, .unOp .not xt x, ty, pos, af, none⟩ :: rem) k) :=
 Zda (fun _ h => by cases h) (fun tm w hE => by simp [execOp, Zay hE hx, Op.unary]) h hd
theorem Zjd {x : Operand} {s t : TypeId} {K K' : IntKind} {a : Int} [U : TUnd P s (.int K)] [V : TUnd P t (.int K')] (hx : ev env x = some (.int K a))
  (h : Sim C m κ ((d, .int K' (K'.wrap a)) :: env) own H D (.ops ds rem k)) (hd : Nat.blt d C.n = true := by rfl) :
  Sim C m κ env own H D (.ops ds (⟨some d, .convert s t x, ty, pos, af, none⟩ :: rem) k) :=
 Zda (fun _ h => by cases h) (fun tm w hE => by simp [execOp, Zay hE hx, convert, run_underlying U.und, run_underlying V.und, Conv.intToInt]) h hd
theorem Zgw {w : World} {cs : List Value} {t : TypeId} (hI : Inv C.w0 C.M C.H0 own H w) :
  Inv C.w0 C.M C.H0 (own ++ [.blk w.heap.size (Zak cs t)]) H { w with heap := w.heap.push (.cells cs.toArray t) } :=
 hI.push _ (.blk w.heap.size (Zak cs t)) rfl (by show (w.heap.push _)[w.heap.size]? = some _; simp [Zak])
theorem Zbw {t : TypeId} {z : Value} [Z : TZero P t z] (h : ∀ b, Sim C m κ ((d, .pointer (some ⟨b, 0, none⟩)) :: env) (own ++ [.blk b (Zak z.cells.toList t)]) H D (.ops ds rem k)) (hd : Nat.blt d C.n = true := by rfl) :
  Sim C m κ env own H D (.ops ds (⟨some d, .alloc t, ty, pos, af, none⟩ :: rem) k) :=
 s_op (fun _ h => by cases h) (fun tm w hE hI => ⟨_, _, _, _, by simp [execOp, Instr.alloc, Z.zero, newVar, newRow]; rfl, by
  have := Zgw (cs := z.cells.toList) (t := t) hI; simpa using this, h w.heap.size⟩) hd
theorem ZbO {t : TypeId} {x : Operand} {v : Value} (hx : ev env x = some v) (h : ∀ b, Sim C m κ ((d, .pointer (some ⟨b, 0, none⟩)) :: env) (own ++ [.blk b (Zak v.cells.toList t)]) H D (.ops ds rem k)) (hd : Nat.blt d C.n = true := by rfl) :
  Sim C m κ env own H D (.ops ds (⟨some d, .box t x, ty, pos, af, none⟩ :: rem) k) :=
 s_op (fun _ h => by cases h) (fun tm w hE hI => ⟨_, _, _, _, by simp [execOp, Instr.box, Zay hE hx, newVar, newRow]; rfl, by
  have := Zgw (cs := v.cells.toList) (t := t) hI; simpa using this, h w.heap.size⟩) hd
theorem Zco {w : World} {i : Nat} {r : Res} (hI : Inv C.w0 C.M C.H0 own H w) (hi : own[i]? = some r) : r.ok w := hI.ok r (List.mem_of_getElem? hi)
theorem o_ld (i : Nat) {t T : TypeId} {x : Operand} {b off n : Nat} {ag : Bool} {cs : List Value} [L : TLay P t n ag] (hx : ev env x = some (.pointer (some ⟨b, off, none⟩))) (ho : own[i]? = some (.blk b (Zak cs T)))
  (hn : Nat.ble (off + n) cs.length = true) (h : Sim C m κ ((d, mkv ag (subc cs off n)) :: env) own H D (.ops ds rem k)) (hd : Nat.blt d C.n = true := by rfl) :
  Sim C m κ env own H D (.ops ds (⟨some d, .load t x, ty, pos, af, none⟩ :: rem) k) :=
 s_op (fun _ h => by cases h) (fun tm w hE hI => ⟨_, _, _, _, by
  have hb : w.heap[b]? = some (.cells cs.toArray T (0, 0)) := Zco hI ho
  simp only [execOp, Zay hE hx, Sem.run_bind, Zdb (n := n) (ag := ag) (ty := t) hb (by simpa using Nat.le_of_ble_eq_true hn), Result.andThen_ok, Sem.run_pure], hI, h⟩) hd
theorem o_fa {s : TypeId} {f : Nat} {x : Operand} {b off o n : Nat} {ag : Bool} [F : TFld P s f o n ag] (hx : ev env x = some (.pointer (some ⟨b, off, none⟩)))
  (h : Sim C m κ ((d, .pointer (some ⟨b, off + o, none⟩)) :: env) own H D (.ops ds rem k)) (hd : Nat.blt d C.n = true := by rfl) :
  Sim C m κ env own H D (.ops ds (⟨some d, .fieldAddr s x f, ty, pos, af, none⟩ :: rem) k) :=
 Zda (fun _ h => by cases h) (fun tm w hE => by
  obtain ⟨fields, fl, h1, h2, h3, h4, _, h5, _⟩ := F.of
  simp [execOp, Zay hE hx, Instr.fieldAt, run_underlying h1, h2, Instr.sureAddr, fieldPlace, h4, h5, h3, Zdh]) h hd
theorem Ze5 {cs : Array Value} {off n : Nat} {ag : Bool} {t : TypeId} {w : World} (hs : ∀ w, (sizeOf t).run P w = .ok n w) (ha : ∀ w, (isAgg t).run P w = .ok ag w) (h1 : ag = false → n = 1) (hn : off + n ≤ cs.size) :
  (part t cs off).run P w = .ok (mkv ag (subc cs.toList off n)) w := by
 unfold part
 rw [Sem.run_bind, ha]
 cases ag with
 | true =>
  simp only [Result.andThen_ok, if_true, Sem.run_bind, hs, Sem.run_pure, mkv, subc]
  congr 2
  apply Array.ext'
  simp
 | false =>
  have h1 := h1 rfl
  subst h1
  have : cs[off]? = some cs[off] := Array.getElem?_eq_getElem (by omega)
  simp only [Result.andThen_ok, Bool.false_eq_true, if_false, this, Sem.run_pure, mkv, subc]
  rw [List.drop_eq_getElem_cons (by simpa using (by omega : off < cs.size))]
  simp
theorem o_st (i : Nat) {t T : TypeId} {x y : Operand} {b off n : Nat} {ag : Bool} {cs : List Value} {v : Value} [L : TLay P t n ag] (hx : ev env x = some (.pointer (some ⟨b, off, none⟩))) (hy : ev env y = some v)
  (ho : own[i]? = some (.blk b (Zak cs T))) (hv : v.cells.toList.length = n) (h1 : one1 v.cells.toList = true) (hn : Nat.ble (off + n) cs.length = true)
  (h : Sim C m κ env (own.set i (.blk b (Zak (spl cs off v.cells.toList) T))) H D (.ops ds rem k)) :
  Sim C m κ env own H D (.ops ds (⟨none, .store t x y, ty, pos, af, none⟩ :: rem) k) := by
 intro r hr w hw tm ht hE
 have hb : w.heap[b]? = some (.cells cs.toArray T (0, 0)) := Zco hw ho
 have hle := Nat.le_of_ble_eq_true hn
 obtain ⟨w', hrun, hb', hoth, hs, h5, h6, h7, hdw⟩ := Zdn (P := P) v.cells.toList w b off 0 cs T hb (by omega) h1
 have hI := hw.write (w' := w') ho (b := b) (r' := .blk b (Zak (spl cs off v.cells.toList) T)) (by simp [Res.ids]) rfl hoth hs h5 h6 h7 (by simpa [Res.ok, Zak] using hb') (hdr := Nat.le_of_eq hdw.symm)
 have := h r hr w' hI tm ht hE
 simp only [Pos.go, ROps] at *
 rw [if_pos (show ZcM ds tm none = true from rfl)]
 refine ⟨.inr (fun _ h => by cases h), ?_⟩
 have hsz : v.cells.size = n := by simpa using hv
 have hx' : (execOp (ZcX tm) ⟨none, .store t x y, ty, pos, af, none⟩).run P w = .ok .skip w' := by
  simp [execOp, Zay hE hx, Zay hE hy, Instr.storeAt, Instr.sureAddr, storeVar, L.size, hsz, hrun]
 rw [hx']
 exact this
end rules
end Go.Cat
namespace Go.Cat
class GoT (α : Type) where
 sz : Nat
 rep : Heap → List Value → α → Prop
 mono : ∀ {H H' : Heap} {vs : List Value} {a : α}, Hle H H' → rep H vs a → rep H' vs a
 len : ∀ {H : Heap} {vs : List Value} {a : α}, rep H vs a → vs.length = sz
 one : ∀ {H : Heap} {vs : List Value} {a : α}, rep H vs a → one1 vs = true
class GoE (α : Type) where
 sz : Nat
 enc : α → List Value
 len : ∀ a, (enc a).length = sz
 one : ∀ a, one1 (enc a) = true
instance (priority := low) goTE {α : Type} [E : GoE α] : GoT α := {
 sz := E.sz
 rep := fun _ vs a => vs = E.enc a
 mono := fun _ h => h
 len := fun h => by rw [h, E.len]
 one := fun h => by rw [h, E.one] }
instance : GoE Int := ⟨1, fun n => [.int .i64 n], fun _ => rfl, fun _ => rfl⟩
instance : GoE Bool := ⟨1, fun n => [.bool n], fun _ => rfl, fun _ => rfl⟩
instance : GoE ByteArray := ⟨1, fun n => [.string n], fun _ => rfl, fun _ => rfl⟩
instance : GoE UInt8 := ⟨1, fun n => [.int .u8 n.toNat], fun _ => rfl, fun _ => rfl⟩
variable {α β : Type}
def RSl [GoT α] (H : Heap) (a : Option Addr) (cap : Nat) (l : List α) : Prop :=
 l.length ≤ cap ∧ (l = [] ∨ ∃ bk of cs t fz, a = some ⟨bk, of, none⟩ ∧ H bk = some (.cells cs t fz) ∧ ∀ i (h : i < l.length), GoT.rep H (subc cs.toList (of + i * GoT.sz α) (GoT.sz α)) l[i])
theorem RSl.mono [GoT α] {H H' : Heap} {a : Option Addr} {cap : Nat} {l : List α} (h : Hle H H') (r : RSl H a cap l) : RSl H' a cap l := by
 refine ⟨r.1, ?_⟩
 rcases r.2 with r | ⟨bk, of, cs, t, fz, ha, hb, hc⟩
 ·exact .inl r
 ·exact .inr ⟨bk, of, cs, t, fz, ha, h _ _ hb, fun i hi => GoT.mono h (hc i hi)⟩
theorem ZeK [GoT α] {H : Heap} : RSl H none 0 ([] : List α) := ⟨Nat.le_refl _, .inl rfl⟩
def Zaj (H : Heap) (bk of : Nat) (vs : List Value) : Prop := ∃ cs t fz, H bk = some (.cells cs t fz) ∧ subc cs.toList of vs.length = vs ∧ of + vs.length ≤ cs.size
theorem Zaj.mono {H H' : Heap} {bk of : Nat} {vs : List Value} (h : Hle H H') (r : Zaj H bk of vs) : Zaj H' bk of vs :=
 let ⟨cs, t, fz, h1, h2⟩ := r; ⟨cs, t, fz, h _ _ h1, h2⟩
def All2 (R : List Value → α → Prop) (ls : List (List Value)) (l : List α) : Prop := ls.length = l.length ∧ ∀ (i : Nat) (h1 : i < ls.length) (h2 : i < l.length), R ls[i] l[i]
theorem Zbv {R : List Value → α → Prop} : All2 R [] [] := ⟨rfl, fun i h _ => by simp at h⟩
theorem All2.mono {R R' : List Value → α → Prop} {ls : List (List Value)} {l : List α} (h : ∀ vs a, R vs a → R' vs a) (k : All2 R ls l) : All2 R' ls l := ⟨k.1, fun i h1 h2 => h _ _ (k.2 i h1 h2)⟩
theorem ZaZ [E : GoE α] {H : Heap} (l : List α) : All2 (GoT.rep H) (l.map E.enc) l := ⟨by simp, fun i h1 h2 => by simp; rfl⟩
theorem All2.append {R : List Value → α → Prop} {ls ls' : List (List Value)} {l l' : List α} (h : All2 R ls l) (h' : All2 R ls' l') : All2 R (ls ++ ls') (l ++ l') := by
 refine ⟨by simp [h.1, h'.1], fun i h1 h2 => ?_⟩
 rcases Nat.lt_or_ge i ls.length with hi | hi
 ·rw [List.getElem_append_left hi, List.getElem_append_left (by rw [← h.1]; exact hi)]; exact h.2 i hi _
 ·rw [List.getElem_append_right hi, List.getElem_append_right (by rw [← h.1]; exact hi)]
  have := h'.2 (i - ls.length) (by simp at h1; omega) (by simp at h2; have := h.1; omega)
  simpa [h.1] using this
theorem ZlF {R : List Value → α → Prop} {vs : List Value} {a : α} (h : R vs a) : All2 R [vs] [a] :=
 ⟨rfl, fun i h1 h2 => by simp at h1; subst h1; exact h⟩
def rd (l : List α) (i : Int) : Option α := if 0 ≤ i then l[i.toNat]? else none
theorem ZfR {l : List α} {i : Int} {x : α} (h : rd l i = some x) : 0 ≤ i ∧ ∃ hi : i.toNat < l.length, l[i.toNat] = x := by
 unfold rd at h
 split at h
 ·rename_i h0; exact ⟨h0, List.getElem?_eq_some_iff.1 h⟩
 ·cases h
def LIM : Nat := 68719476736
def app (l l' : List α) : Option (List α) := if l.length + l'.length < LIM then some (l ++ l') else none
def slc (l : List α) (lo hi : Int) : Option (List α) := if 0 ≤ lo ∧ lo ≤ hi ∧ hi ≤ l.length then some ((l.drop lo.toNat).take (hi.toNat - lo.toNat)) else none
def mks (n : Int) (z : α) : Option (List α) := if 0 ≤ n ∧ n < LIM then some (List.replicate n.toNat z) else none
inductive LX (ρ τ : Type) where
 | ret (r : ρ)
 | out (t : τ)
def LX.go {ρ τ : Type} (f : τ → Option ρ) : LX ρ τ → Option ρ
 | .ret r => some r
 | .out t => f t
def Fn (P : Program) (f : FuncId) (args : List Value) (H : Heap) (inn : List Res) (Φ : Heap → Value → List Res → Prop) : Prop :=
 ∀ w, Inv w (· ∈ ids inn) H inn H w → Calls P f args.toArray w fun e w' => ∃ v, e = .returned v ∧ ∃ H' out, Inv w (· ∈ ids inn) H out H' w' ∧ Φ H' v out
theorem Fn.mono {P : Program} {f : FuncId} {args : List Value} {H : Heap} {inn : List Res} {Φ Ψ : Heap → Value → List Res → Prop} (h : Fn P f args H inn Φ) (k : ∀ H' v out, Hle H H' → Φ H' v out → Ψ H' v out) : Fn P f args H inn Ψ :=
 fun w hw => (h w hw).mono fun _ _ ⟨v, e, H', out, hI, hΦ⟩ => ⟨v, e, H', out, hI, k _ _ _ hI.h0 hΦ⟩
abbrev ZhS (P : Program) {ρ : Type} (f : FuncId) (n : Nat) (w : World) (M : Nat → Prop) (H : Heap) (Φ : ρ → Heap → Value → List Res → Prop) : Ctx P ρ :=
 { T := fun r => tgtN P f fun e w' => ∃ v, e = .returned v ∧ ∃ H' out, Inv w M H out H' w' ∧ Φ r H' v out, b := Zfy f, n := n, w0 := w, M := M, H0 := H }
def ZhZ : Nat → List Value → Env
 | _, [] => []
 | i, v :: vs => (i, v) :: ZhZ (i + 1) vs
theorem Zj0 (vs : List Value) : ∀ (i t : Nat) (v : Value), lk (ZhZ i vs) t = some v → i ≤ t ∧ vs[t - i]? = some v := by
 induction vs with
 | nil => intro i t v h; simp [ZhZ, lk] at h
 | cons u vs ih =>
  intro i t v h
  simp only [ZhZ, lk] at h
  cases hb : Nat.beq t i with
  | true => have := Nat.eq_of_beq_eq_true hb; subst this; simpa [hb] using h
  | false =>
   have hne : t ≠ i := fun e => by subst e; simp at hb
   simp only [hb, cond_false] at h
   obtain ⟨h1, h2⟩ := ih (i + 1) t v h
   refine ⟨by omega, ?_⟩
   rw [show t - i = (t - (i + 1)) + 1 by omega]
   simpa using h2
theorem Zaq {P : Program} {ρ : Type} {f : FuncId} {fn : Func} {c : Code} {n : Nat} {args : List Value} {H : Heap} {inn : List Res} {Φ : ρ → Heap → Value → List Res → Prop} {m : Option ρ} {r : ρ}
  (hm : m = some r) (hf : P.funcs[f]? = some fn) (hb : fn.body = some c) (hn : fn.ntmps = n) (ha : Nat.ble args.length n = true)
  (h : ∀ w, Sim (ZhS P f n w (· ∈ ids inn) H Φ) m some (ZhZ 0 args) inn H [] (.code [.code c])) : Fn P f args H inn (Φ r) := by
 intro w hw
 refine Ziq hf hb ?_
 have hle := Nat.le_of_ble_eq_true ha
 refine h w r (by simp [hm]) w hw _ (by simp [hn]; omega) ?_
 intro t v ht
 obtain ⟨_, h2⟩ := Zj0 args 0 t v ht
 have hlt : t < args.length := by have := (List.getElem?_eq_some_iff.1 h2).1; simpa using this
 rw [Array.getElem?_append_left (by simpa using hlt)]
 simpa using h2
class TFun (P : Program) (f : FuncId) : Prop where
 of : ∃ fn, P.funcs[f]? = some fn ∧ (fn.name == "runtime.NumGoroutine") = false ∧ fn.body.isNone = false
def evs (e : Env) : List Operand → Option (List Value)
 | [] => some []
 | x :: xs => match ev e x, evs e xs with
  | some v, some vs => some (v :: vs)
  | _, _ => none
theorem Zd4 {e : Env} {tm : Array Value} {xs : List Operand} : ∀ {vs : List Value}, EnvOk e tm → evs e xs = some vs → xs.map (ZcX tm) = vs := by
 induction xs with
 | nil => intro vs _ h; simp [evs] at h; simp [h]
 | cons x xs ih =>
  intro vs hE h
  simp only [evs] at h
  split at h
  ·rename_i v vs' h1 h2
   simp only [Option.some.injEq] at h
   subst h
   simp [Zay hE h1, ih hE h2]
  ·cases h
section rules
variable {P : Program} {ρ τ σ : Type} {C : Ctx P ρ} {m m1 m2 : Option τ} {κ : τ → Option ρ} {env : Env} {own : List Res} {H : Heap} {D : List Deferred} {k : Kont}
variable {ds : List (Option Tmp)} {rem : List Oper} {d : Tmp} {ty : TypeId} {pos : String} {af : Array Edge}
theorem ZaS (a b : List Res) : ids (a ++ b) = ids a ++ ids b := by simp [ids]
theorem Inv.call {w w' : World} {inn rest out : List Res} {H' : Heap} (h : Inv C.w0 C.M C.H0 (inn ++ rest) H w) (h' : Inv w (· ∈ ids inn) H out H' w') : Inv C.w0 C.M C.H0 (rest ++ out) H' w' := by
 have hnd := h.nd
 rw [ZaS, List.nodup_append] at hnd
 have hrest : ∀ b ∈ ids rest, b < w.heap.size ∧ b ∉ ids inn ∧ H b = none := fun b hb =>
  ⟨(h.away b (by rw [ZaS]; exact List.mem_append.2 (.inr hb))).2.1, fun hi => hnd.2.2 b hi b hb rfl, (h.away b (by rw [ZaS]; exact List.mem_append.2 (.inr hb))).1⟩
 refine ⟨h'.os.trans h.os, h'.tape.trans h.tape, h'.output.trans h.output, Nat.le_trans h.size h'.size, ?_, h'.sub, h.h0.trans h'.h0, ?_, ?_, ?_, ?_, Nat.le_trans h.drawn h'.drawn⟩
 ·intro b hb hM
  rw [h'.same b (by have := h.size; omega) (fun hi => hM ((h.away b (by rw [ZaS]; exact List.mem_append.2 (.inl hi))).2.2 hb))]
  exact h.same b hb hM
 ·intro b hb
  rcases h'.new b hb with hb | hb
  ·exact h.new b hb
  ·exact .inr (Nat.le_trans h.size hb)
 ·intro r hr
  rcases List.mem_append.1 hr with hr | hr
  ·refine Res.ok_of_same (fun b hb => ?_) (h.ok r (List.mem_append.2 (.inr hr)))
   obtain ⟨h1, h2, _⟩ := hrest b (Zdy hr hb)
   exact h'.same b h1 h2
  ·exact h'.ok r hr
 ·rw [ZaS, List.nodup_append]
  refine ⟨hnd.2.1, h'.nd, ?_⟩
  rintro a ha b hb rfl
  obtain ⟨h1, h2, _⟩ := hrest a ha
  exact h2 ((h'.away a hb).2.2 h1)
 ·intro b hb
  rw [ZaS] at hb
  rcases List.mem_append.1 hb with hb | hb
  ·obtain ⟨h1, h2, h3⟩ := hrest b hb
   refine ⟨?_, Nat.lt_of_lt_of_le h1 h'.size, (h.away b (by rw [ZaS]; exact List.mem_append.2 (.inr hb))).2.2⟩
   cases e : H' b with
   | none => rfl
   | some o =>
    rcases h'.new b (by rw [e]; simp) with hx | hx
    ·exact absurd h3 hx
    ·omega
  ·obtain ⟨h1, h2, h3⟩ := h'.away b hb
   refine ⟨h1, h2, fun hlt => ?_⟩
   have hi := h3 (Nat.lt_of_lt_of_le hlt h.size)
   exact (h.away b (by rw [ZaS]; exact List.mem_append.2 (.inl hi))).2.2 hlt
theorem Inv.enter {w : World} {inn rest : List Res} (h : Inv C.w0 C.M C.H0 (inn ++ rest) H w) : Inv w (· ∈ ids inn) H inn H w := by
 have hnd := h.nd
 rw [ZaS, List.nodup_append] at hnd
 exact ⟨rfl, rfl, rfl, Nat.le_refl _, fun _ _ _ => rfl, h.sub, .refl _, fun b hb => .inl hb, fun r hr => h.ok r (List.mem_append.2 (.inl hr)), hnd.1,
  fun b hb => ⟨(h.away b (by rw [ZaS]; exact List.mem_append.2 (.inl hb))).1, (h.away b (by rw [ZaS]; exact List.mem_append.2 (.inl hb))).2.1, fun _ => hb⟩, Nat.le_refl _⟩
theorem Inv.lower {w0 w : World} {M : Nat → Prop} {H0 H H' : Heap} {own : List Res} (h : Inv w0 M H0 own H' w) (h0 : Hle H0 H) (hs : Hle H H') : Inv w0 M H0 own H w :=
 ⟨h.os, h.tape, h.output, h.size, h.same, hs.trans h.sub, h0, fun b hb => h.new b (by
  cases e : H b with
  | none => exact absurd e hb
  | some o => rw [hs b o e]; simp), h.ok, h.nd, fun b hb => ⟨by
  cases e : H b with
  | none => rfl
  | some o => exact absurd ((hs b o e).symm.trans (h.away b hb).1) (by simp), (h.away b hb).2⟩, h.drawn⟩
theorem Zgv {f : FuncId} {first cap vs : List Value} {cargs : List Operand} {fo : Operand} {ats : Array TypeId} {tm : Array Value} {w : World} {dst : Option Tmp} [F : TFun P f] (hE : EnvOk env tm) (hf : ev env fo = some (.func (.func f) first.toArray cap.toArray))
  (ha : evs env cargs = some vs) : (execOp (ZcX tm) ⟨dst, .call ⟨.value fo, cargs.toArray, ats⟩, ty, pos, af, none⟩).run P w = .ok (.enter f (first ++ vs ++ cap).toArray) w := by
 obtain ⟨fn, h1, h2, h3⟩ := F.of
 have ha' := Zd4 hE ha
 simp only [execOp, resolve, Zay hE hf, Deferred.ofValue, pure_bind, invoke, callFunc, Sem.run_bind, run_program, Result.andThen_ok, h1]
 simp only [h2, Bool.false_eq_true, if_false, h3]
 simp [ha']
theorem Zbg {f : FuncId} {first cap vs : List Value} {cargs : List Operand} {fo : Operand} {ats : Array TypeId} {Φ : Heap → Value → List Res → Prop} [F : TFun P f] (inn rest : List Res)
  (hf : ev env fo = some (.func (.func f) first.toArray cap.toArray)) (ha : evs env cargs = some vs) (hp : own.Perm (inn ++ rest)) (hF : Fn P f (first ++ vs ++ cap) H inn Φ)
  (h : ∀ v H' out, Hle H H' → Φ H' v out → Sim C m κ ((d, v) :: env) (rest ++ out) H' D (.ops ds rem k)) (hd : Nat.blt d C.n = true := by rfl) :
  Sim C m κ env own H D (.ops ds (⟨some d, .call ⟨.value fo, cargs.toArray, ats⟩, ty, pos, af, none⟩ :: rem) k) := by
 intro r hr w hw tm ht hE
 have hdn : d < tm.size := by rw [ht]; exact ZdZ hd
 have hw' := hw.perm hp
 simp only [Pos.go, ROps] at *
 rw [if_pos (show ZcM ds tm none = true from rfl)]
 refine ⟨.inr (fun _ h => by cases h), ?_⟩
 rw [Zgv (first := first) (cap := cap) hE hf ha]
 refine .inl ⟨fun v w'' => ∃ H' out, Inv w (· ∈ ids inn) H out H' w'' ∧ Φ H' v out, (hF w hw'.enter).mono fun e w'' h => h, ?_⟩
 rintro v w'' ⟨H', out, hI, hΦ⟩
 exact h v H' out hI.h0 hΦ r hr w'' (hw'.call hI) (tm.setIfInBounds d v) (by simpa using ht) (hE.put hdn)
theorem Zas {f : FuncId} {first cap vs : List Value} {cargs : List Operand} {fo : Operand} {ats : Array TypeId} {v : Value} [F : TFun P f]
  (hf : ev env fo = some (.func (.func f) first.toArray cap.toArray)) (ha : evs env cargs = some vs) (hF : Fn P f (first ++ vs ++ cap) H [] fun _ u out => u = v ∧ out = [])
  (h : Sim C m κ ((d, v) :: env) own H D (.ops ds rem k)) (hd : Nat.blt d C.n = true := by rfl) :
  Sim C m κ env own H D (.ops ds (⟨some d, .call ⟨.value fo, cargs.toArray, ats⟩, ty, pos, af, none⟩ :: rem) k) :=
 by
 intro r hr w hw tm ht hE
 have hdn : d < tm.size := by rw [ht]; exact ZdZ hd
 simp only [Pos.go, ROps] at *
 rw [if_pos (show ZcM ds tm none = true from rfl)]
 refine ⟨.inr (fun _ h => by cases h), ?_⟩
 rw [Zgv (first := first) (cap := cap) hE hf ha]
 refine .inl ⟨fun u w'' => ∃ H' out, Inv w (· ∈ ids []) H out H' w'' ∧ u = v ∧ out = [], (hF w (Inv.enter (inn := []) (rest := own) hw)).mono fun e w'' h => h, ?_⟩
 rintro u w'' ⟨H', out, hI, e1, e2⟩
 subst e1; subst e2
 have hI' := (Inv.call (inn := []) (rest := own) hw hI).lower hw.h0 hI.h0
 exact h r hr w'' (by simpa using hI') (tm.setIfInBounds d u) (by simpa using ht) (hE.put hdn)
end rules
end Go.Cat
namespace Go.Cat
def Zhn (offs : List (Nat × Nat)) (cs : List Value) : List (Nat × Value) → Option (List Value)
 | [] => some cs
 | (i, v) :: rest =>
  match offs[i]? with
  | none => none
  | some (off, size) => bif Nat.beq v.cells.toList.length size && Nat.ble (off + v.cells.toList.length) cs.length then Zhn offs (spl cs off v.cells.toList) rest else none
theorem ZgC (vs : List Value) : ∀ (cs : List Value) (off j : Nat), (vs.zipIdx j).foldl (fun (cs : Array Value) (x : Value × Nat) => cs.setIfInBounds (off + x.2) x.1) cs.toArray = (spl cs (off + j) vs).toArray := by
 induction vs with
 | nil => intro cs off j; rfl
 | cons v vs ih =>
  intro cs off j
  simp only [List.zipIdx_cons, List.foldl_cons, spl]
  rw [show cs.toArray.setIfInBounds (off + j) v = (cs.set (off + j) v).toArray by simp]
  rw [ih]
  rfl
theorem ZmZ (offs : List (Nat × Nat)) : ∀ (parts : List (Nat × Value)) (cs cs' : List Value), Zhn offs cs parts = some cs' → Instr.fill (fun i => offs.toArray[i]?) cs.toArray parts = some cs'.toArray := by
 intro parts
 induction parts with
 | nil => intro cs cs' h; simp [Zhn] at h; simp [Instr.fill, h]
 | cons p parts ih =>
  obtain ⟨i, v⟩ := p
  intro cs cs' h
  simp only [Zhn] at h
  have hg : offs.toArray[i]? = offs[i]? := by simp
  simp only [Instr.fill, hg]
  cases ho : offs[i]? with
  | none => rw [ho] at h; cases h
  | some q =>
   obtain ⟨off, size⟩ := q
   rw [ho] at h
   cases hb : (Nat.beq v.cells.toList.length size && Nat.ble (off + v.cells.toList.length) cs.length) with
   | false => simp only [hb, cond_false] at h; cases h
   | true =>
    simp only [hb, cond_true] at h
    rw [Bool.and_eq_true] at hb
    have h1 := Nat.eq_of_beq_eq_true hb.1
    have h2 := Nat.le_of_ble_eq_true hb.2
    have h1' : v.cells.size = size := by simpa using h1
    have h2' : off + v.cells.size ≤ cs.length := by simpa using h2
    have hc : (decide (v.cells.size ≠ size) || decide (off + v.cells.size > cs.toArray.size)) = false := by simp [h1']; omega
    simp only [hc, Bool.false_eq_true, if_false]
    have := ih _ _ h
    have e : v.cells.zipIdx.foldl (fun (cs : Array Value) (x : Value × Nat) => cs.setIfInBounds (off + x.2) x.1) cs.toArray = (spl cs off v.cells.toList).toArray := by
     rw [← Array.foldl_toList, Array.toList_zipIdx]
     exact ZgC v.cells.toList cs off 0
    exact (congrArg (fun z => Instr.fill _ z parts) e).trans this
class TBld (P : Program) (t : TypeId) (zero : outParam (List Value)) (offs : outParam (List (Nat × Nat))) : Prop where
 zero : ∀ w, (zeroValue t).run P w = .ok (.agg zero.toArray) w
 und : ∃ fields, P.underlying t = some (.struct fields) ∧ ∀ w, (fields.mapM fun f => (do pure (f.offset, ← sizeOf f.type) : Sem (Nat × Nat))).run P w = .ok offs.toArray w
class TEq (P : Program) (t : TypeId) (α : Type) [DecidableEq α] [GoE α] : Prop where
 eq : ∀ (a b : α) w, (Op.equal t (.agg (GoE.enc a).toArray) (.agg (GoE.enc b).toArray)).run P w = .ok (decide (a = b)) w
 guard : P.eqGuardType P.depth t = false
section rules
variable {P : Program} {ρ ρ' τ σ α : Type} {C : Ctx P ρ} {m m1 m2 : Option τ} {κ : τ → Option ρ} {env : Env} {own : List Res} {H : Heap} {D : List Deferred} {k : Kont}
variable {ds : List (Option Tmp)} {rem : List Oper} {d : Tmp} {ty : TypeId} {pos : String} {af : Array Edge}
theorem Zdx {t : TypeId} {ps : List (Nat × Operand)} {vs cs zero : List Value} {offs : List (Nat × Nat)} [B : TBld P t zero offs] (hx : evs env (ps.map (·.2)) = some vs) (hf : Zhn offs zero ((ps.map (·.1)).zip vs) = some cs)
  (h : Sim C m κ ((d, .agg cs.toArray) :: env) own H D (.ops ds rem k)) (hd : Nat.blt d C.n = true := by rfl) :
  Sim C m κ env own H D (.ops ds (⟨some d, .build t ps.toArray, ty, pos, af, none⟩ :: rem) k) :=
 Zda (fun _ h => by cases h) (fun tm w hE => by
  obtain ⟨fields, h1, h2⟩ := B.und
  have hz : (ps.toArray.map fun x => (x.1, ZcX tm x.2)).toList = (ps.map (·.1)).zip vs := by
   rw [← Zd4 hE hx]
   simp only [List.map_toArray, List.map_map]
   rw [List.zip_map']
   rfl
  have hz' : (Array.map (fun (x : Nat × Operand) => match x with | (i, x) => (i, ZcX tm x)) ps.toArray).toList = (ps.map (·.1)).zip vs := hz
  simp only [execOp, Sem.run_bind, Instr.build, B.zero, Result.andThen_ok, run_underlying h1, h2, hz', Value.cells, ZmZ offs _ _ _ hf, Sem.run_pure]) h hd
theorem ZfV {x y : Operand} {xt yt : TypeId} [DecidableEq α] [GoE α] [E : TEq P xt α] (a b : α) (hx : ev env x = some (.agg (GoE.enc a).toArray)) (hy : ev env y = some (.agg (GoE.enc b).toArray))
  (h : Sim C m κ ((d, .bool (decide (a = b))) :: env) own H D (.ops ds rem k)) (hd : Nat.blt d C.n = true := by rfl) :
  Sim C m κ env own H D (.ops ds (⟨some d, .binOp .eql xt x y yt, ty, pos, af, none⟩ :: rem) k) :=
 Zem hx hy (fun w => by simp [eqGuard, E.guard]) (fun w => by simp [binOp, E.eq]) h hd
theorem Znl {x y : Operand} {xt yt : TypeId} [DecidableEq α] [GoE α] [E : TEq P xt α] (a b : α) (hx : ev env x = some (.agg (GoE.enc a).toArray)) (hy : ev env y = some (.agg (GoE.enc b).toArray))
  (h : Sim C m κ ((d, .bool (!(decide (a = b)))) :: env) own H D (.ops ds rem k)) (hd : Nat.blt d C.n = true := by rfl) :
  Sim C m κ env own H D (.ops ds (⟨some d, .binOp .neq xt x y yt, ty, pos, af, none⟩ :: rem) k) :=
 Zem hx hy (fun w => by simp [eqGuard, E.guard]) (fun w => by simp [binOp, E.eq]) h hd
theorem ZaG {x : Operand} {t : TypeId} {a : Option Addr} {n cap : Nat} {e sz b : Nat} [S : TSl P t e sz b] (hx : ev env x = some (.slice a n cap)) (h : Sim C m κ ((d, .int .i64 (n : Int)) :: env) own H D (.ops ds rem k)) (hd : Nat.blt d C.n = true := by rfl) :
  Sim C m κ env own H D (.ops ds (⟨some d, .call ⟨.builtin .len, #[x], #[t]⟩, ty, pos, af, none⟩ :: rem) k) :=
 Zda (fun _ h => by cases h) (fun tm w hE => by
  simp [execOp, resolve, Zay hE hx, invoke, builtin, Builtin.len_, run_underlying S.und, goInt]) h hd
theorem Zgu {t : TypeId} {e sz by_ : Nat} {a : Addr} {n cap : Nat} {K : IntKind} {i : Int} {w : World} [S : TSl P t e sz by_] (h0 : 0 ≤ i) (hi : i.toNat < n) :
  (Instr.indexAt t (.slice (some a) n cap) (.int K i)).run P w = .ok (.pointer (some (a.add (i.toNat * sz)))) w := by
 have hlt : i < (n : Int) := by omega
 simp [Instr.indexAt, asIntOf, run_underlying S.und, S.size, h0, hlt]
theorem o_ix {f : α → Option τ} [GoT α] {x ix : Operand} {t : TypeId} {e by_ : Nat} {a : Option Addr} {cap : Nat} {l : List α} {K : IntKind} {i : Int} [S : TSl P t e (GoT.sz α) by_] (hs : RSl H a cap l)
  (hx : ev env x = some (.slice a l.length cap)) (hi : ev env ix = some (.int K i))
  (h : ∀ y bk of vs, rd l i = some y → Zaj H bk of vs → GoT.rep H vs y → Sim C (f y) κ ((d, .pointer (some ⟨bk, of, none⟩)) :: env) own H D (.ops ds rem k)) (hd : Nat.blt d C.n = true := by rfl) :
  Sim C ((rd l i).bind f) κ env own H D (.ops ds (⟨some d, .indexAddr t x ix, ty, pos, af, none⟩ :: rem) k) := by
 refine ZeJ (Zhx fun y hy => ?_)
 obtain ⟨h0, hlt, hy'⟩ := ZfR hy
 rcases hs.2 with rfl | ⟨bk, of, cs, t', fz, rfl, hb, hc⟩
 ·simp at hlt
 ·have hr := hc i.toNat hlt
  rw [hy'] at hr
  have hl := GoT.len hr
  have hcell : Zaj H bk (of + i.toNat * GoT.sz α) (subc cs.toList (of + i.toNat * GoT.sz α) (GoT.sz α)) := by
   refine ⟨cs, t', fz, hb, by rw [hl], ?_⟩
   have hp := S.pos
   simp only [subc, List.length_take, List.length_drop, Array.length_toList] at hl ⊢
   omega
  exact Zda (fun _ h => by cases h) (fun tm w hE => by
   simp [execOp, Zay hE hx, Zay hE hi, Zgu (sz := GoT.sz α) (e := e) (by_ := by_) h0 hlt, Zdh])
   (fun r hr2 w hw tm ht hE => h y bk _ _ hy hcell hr r (by simpa using hr2) w hw tm ht hE) hd
theorem Zce {f : α → Option τ} [GoE α] {x ix : Operand} {t : TypeId} {e by_ : Nat} {a : Option Addr} {cap : Nat} {l : List α} {K : IntKind} {i : Int} [S : TSl P t e (GoE.sz α) by_] (hs : RSl H a cap l)
  (hx : ev env x = some (.slice a l.length cap)) (hi : ev env ix = some (.int K i))
  (h : ∀ y bk of, rd l i = some y → Zaj H bk of (GoE.enc y) → Sim C (f y) κ ((d, .pointer (some ⟨bk, of, none⟩)) :: env) own H D (.ops ds rem k)) (hd : Nat.blt d C.n = true := by rfl) :
  Sim C ((rd l i).bind f) κ env own H D (.ops ds (⟨some d, .indexAddr t x ix, ty, pos, af, none⟩ :: rem) k) :=
 haveI : TSl P t e (GoT.sz α) by_ := S
 o_ix hs hx hi (fun y bk of vs hy hc hr => by cases hr; exact h y bk of hy hc) hd
theorem ZaP {t : TypeId} {x : Operand} {bk of q n : Nat} {ag : Bool} {vs : List Value} (o : Nat) [L : TLay P t n ag] (hc : Zaj H bk of vs) (hx : ev env x = some (.pointer (some ⟨bk, q, none⟩))) (hq : q = of + o)
  (hn : Nat.ble (o + n) vs.length = true) (h : Sim C m κ ((d, mkv ag (subc vs o n)) :: env) own H D (.ops ds rem k)) (hd : Nat.blt d C.n = true := by rfl) :
  Sim C m κ env own H D (.ops ds (⟨some d, .load t x, ty, pos, af, none⟩ :: rem) k) :=
 s_op (fun _ h => by cases h) (fun tm w hE hI => ⟨_, _, _, _, by
  obtain ⟨cs, t', fz, hb, hs, hle⟩ := hc
  have hb' : w.heap[bk]? = some (.cells cs t' fz) := hI.sub _ _ hb
  have hn' := Nat.le_of_ble_eq_true hn
  have hsub : subc cs.toList q n = subc vs o n := by
   rw [← hs, hq]
   simp only [subc, List.drop_take, List.drop_drop, List.take_take]
   congr 1
   omega
  simp only [execOp, Zay hE hx, Sem.run_bind, Zdb (off := q) (n := n) (ag := ag) (ty := t) hb' (by omega), Result.andThen_ok, Sem.run_pure]
  rw [hsub], hI, h⟩) hd
theorem Zet {α : Type} (ls : List (List α)) (sz : Nat) (h : ∀ x ∈ ls, x.length = sz) : ∀ (i : Nat) (hi : i < ls.length) (rest : List α), ((ls.flatten ++ rest).drop (i * sz)).take sz = ls[i] := by
 induction ls with
 | nil => intro i hi; simp at hi
 | cons x ls ih =>
  intro i hi rest
  have hx : x.length = sz := h x (by simp)
  cases i with
  | zero => simp [← hx]
  | succ i =>
   have := ih (fun y hy => h y (by simp [hy])) i (by simpa using hi) rest
   simp only [List.flatten_cons, List.getElem_cons_succ, List.append_assoc]
   rw [← this, show (i + 1) * sz = x.length + i * sz by rw [Nat.succ_mul, hx]; omega]
   rw [← List.drop_drop, List.drop_left]
theorem Zc2 (j : Nat) {f : α → Option τ} [GoT α] {x ix : Operand} {t et : TypeId} {e by_ : Nat} {a : Option Addr} {n cap : Nat} {l : List α} {ls : List (List Value)} {K : IntKind} {i : Int} [S : TSl P t e (GoT.sz α) by_]
  (ho : own[j]? = some (.osl (.slice a n cap) (GoT.sz α) et ls)) (hA : All2 (GoT.rep H) ls l)
  (hx : ev env x = some (.slice a n cap)) (hi : ev env ix = some (.int K i))
  (h : ∀ y bk vs, rd l i = some y → a = some ⟨bk, 0, none⟩ → ls[i.toNat]? = some vs → GoT.rep H vs y → Sim C (f y) κ ((d, .pointer (some ⟨bk, i.toNat * GoT.sz α, none⟩)) :: env) own H D (.ops ds rem k)) (hd : Nat.blt d C.n = true := by rfl) :
  Sim C ((rd l i).bind f) κ env own H D (.ops ds (⟨some d, .indexAddr t x ix, ty, pos, af, none⟩ :: rem) k) := by
 refine ZeJ (Zhx fun y hy => ?_)
 obtain ⟨h0, hlt, hy'⟩ := ZfR hy
 intro r hr w hw tm ht hE
 rcases Zco hw ho with ⟨hv, he⟩ | ⟨b, cap', arr, rest, hv, hb, hsz, hle, harr, hlen⟩
 ·have := hA.1; subst he; simp at this; omega
 ·simp only [Value.slice.injEq] at hv
  obtain ⟨rfl, rfl, rfl⟩ := hv
  have hlt' : i.toNat < ls.length := by rw [hA.1]; exact hlt
  have hrep := hA.2 i.toNat hlt' hlt
  rw [hy'] at hrep
  exact Zda (fun _ h => by cases h) (fun tm w hE => by
   simp [execOp, Zay hE hx, Zay hE hi, Zgu (sz := GoT.sz α) (e := e) (by_ := by_) h0 hlt', Zdh])
   (fun r hr2 w hw tm ht hE => h y b _ hy rfl (List.getElem?_eq_getElem hlt') hrep r (by simpa using hr2) w hw tm ht hE) hd r (by simpa using hr) w hw tm ht hE
theorem ZdL (j : Nat) {ty' et : TypeId} {x : Operand} {bk q i n n' cap sz : Nat} {ag : Bool} {ls : List (List Value)} {vs : List Value} (o : Nat) [L : TLay P ty' n ag] (ho : own[j]? = some (.osl (.slice (some ⟨bk, 0, none⟩) n' cap) sz et ls))
  (hi : ls[i]? = some vs) (hx : ev env x = some (.pointer (some ⟨bk, q, none⟩))) (hq : q = i * sz + o) (hn : Nat.ble (o + n) sz = true) (h : Sim C m κ ((d, mkv ag (subc vs o n)) :: env) own H D (.ops ds rem k)) (hd : Nat.blt d C.n = true := by rfl) :
  Sim C m κ env own H D (.ops ds (⟨some d, .load ty' x, ty, pos, af, none⟩ :: rem) k) :=
 s_op (fun _ h => by cases h) (fun tm w hE hI => ⟨_, _, _, _, by
  rcases Zco hI ho with ⟨hv, he⟩ | ⟨b, cap', arr, rest, hv, hb, hsz, hle, harr, hlen⟩
  ·cases hv
  ·simp only [Value.slice.injEq, Option.some.injEq, Addr.mk.injEq, and_true] at hv
   obtain ⟨rfl, rfl, rfl⟩ := hv
   obtain ⟨hlt, hvs⟩ := List.getElem?_eq_some_iff.1 hi
   have hn' := Nat.le_of_ble_eq_true hn
   have hbnd : (i + 1) * sz ≤ arr.size := by rw [hsz]; exact Nat.mul_le_mul_right _ (by omega)
   rw [Nat.succ_mul] at hbnd
   have hsub : subc arr.toList q n = subc vs o n := by
    have := Zet ls sz (fun x hx => (hlen x hx).1) i hlt rest
    rw [hvs] at this
    rw [← this, harr, hq]
    simp only [subc, List.drop_take, List.drop_drop, List.take_take]
    congr 1
    omega
   simp only [execOp, Zay hE hx, Sem.run_bind, Zdb (off := q) (n := n) (ag := ag) (ty := ty') hb (by omega), Result.andThen_ok, Sem.run_pure]
   rw [hsub], hI, h⟩) hd
theorem Znb {sz : Nat} {t : TypeId} (h : Sim C m κ env (own ++ [.osl (.slice none 0 0) sz t []]) H D (.ops ds rem k)) : Sim C m κ env own H D (.ops ds rem k) := by
 intro r hr w hw tm ht hE
 refine h r hr w ⟨hw.os, hw.tape, hw.output, hw.size, hw.same, hw.sub, hw.h0, hw.new, ?_, by rw [ZaS]; simpa [ids, Res.ids] using hw.nd, by rw [ZaS]; simpa [ids, Res.ids] using hw.away, hw.drawn⟩ tm ht hE
 intro q hq
 rcases List.mem_append.1 hq with hq | hq
 ·exact hw.ok q hq
 ·simp at hq; subst hq; exact .inl ⟨rfl, rfl⟩
theorem Zc4 {sz : Nat} {t : TypeId} {kl : List Item} (h : Sim C m κ env (own ++ [.osl (.slice none 0 0) sz t []]) H D (.code kl)) : Sim C m κ env own H D (.code kl) := by
 intro r hr w hw tm ht hE
 refine h r hr w ⟨hw.os, hw.tape, hw.output, hw.size, hw.same, hw.sub, hw.h0, hw.new, ?_, by rw [ZaS]; simpa [ids, Res.ids] using hw.nd, by rw [ZaS]; simpa [ids, Res.ids] using hw.away, hw.drawn⟩ tm ht hE
 intro q hq
 rcases List.mem_append.1 hq with hq | hq
 ·exact hw.ok q hq
 ·simp at hq; subst hq; exact .inl ⟨rfl, rfl⟩
theorem Za2 {x : Code} {K : List Item} (G : Nat → σ → Option τ) (I : σ → Env → List Res → Heap → Prop) (h0 : ∀ s, G 0 s = none)
  (hs : ∀ n, (∀ s env own H, I s env own H → Sim C (G n s) κ env own H D (.code (.inLoop x :: K))) → ∀ s env own H, I s env own H → Sim C (G (n + 1) s) κ env own H D (.code (.code x :: .inLoop x :: K)))
  (n : Nat) (s : σ) (hI : I s env own H) : Sim C (G n s) κ env own H D (.code (.code (.loop x) :: K)) := by
 refine ZjK ?_
 induction n generalizing s env own H with
 | zero => rw [h0]; exact ZjJ
 | succ n ih => exact hs n (fun s env own H hI => ZiC (ih s hI)) s env own H hI
theorem Zb3 {f : σ → Option τ} {m : Option σ} {c : Item} {K : List Item} (I : σ → Env → List Res → Heap → Prop)
  (hJ : ∀ s env own H, I s env own H → Sim C (f s) κ env own H D (.code K))
  (hM : (∀ s env own H, I s env own H → Sim C (some s) (fun s => (f s).bind κ) env own H D (.code K)) → Sim C m (fun s => (f s).bind κ) env own H D (.code (c :: K))) :
  Sim C (m.bind f) κ env own H D (.code (c :: K)) :=
 ZeJ (hM fun s env own H hI => ZlK (fun r hr w hw tm ht hE => hJ s env own H hI r (by simpa using hr) w hw tm ht hE))
theorem ZeI {f : σ → Option τ} {m : Option σ} {K : List Item} (I : σ → Env → List Res → Heap → Prop)
  (hJ : ∀ s env own H, I s env own H → Sim C (f s) κ env own H D (.code K))
  (hM : (∀ s env own H, I s env own H → Sim C (some s) (fun s => (f s).bind κ) env own H D (.ops ds [] (.items K))) → Sim C m (fun s => (f s).bind κ) env own H D (.ops ds rem (.items K))) :
  Sim C (m.bind f) κ env own H D (.ops ds rem (.items K)) :=
 ZeJ (hM fun s env own H hI => Zac (ZlK (fun r hr w hw tm ht hE => hJ s env own H hI r (by simpa using hr) w hw tm ht hE)))
theorem s_out {f : σ → Option τ} {t : σ} {p : Pos} (h : Sim C (f t) κ env own H D p) : Sim C (some (LX.out t)) (fun y => (LX.go f y).bind κ) env own H D p :=
 fun r hr w hw tm ht hE => h r (by simpa [LX.go] using hr) w hw tm ht hE
theorem ZbQ {f : σ → Option τ} {t : τ} {p : Pos} (h : Sim C (some t) κ env own H D p) : Sim C (some (LX.ret t)) (fun y => (LX.go f y).bind κ) env own H D p :=
 fun r hr w hw tm ht hE => h r (by simpa [LX.go] using hr) w hw tm ht hE
end rules
section ends
variable {P : Program} {ρ : Type} {f : FuncId} {n : Nat} {w0 : World} {M : Nat → Prop} {H0 : Heap} {Φ : ρ → Heap → Value → List Res → Prop} {r : ρ} {env : Env} {own : List Res} {H : Heap} {k : List Item} {fn : Func}
end ends
end Go.Cat
namespace Go.Cat
theorem Zh8 (a b : List Value) : one1 (a ++ b) = (one1 a && one1 b) := by
 induction a with
 | nil => simp [one1]
 | cons v a ih => simp [one1, ih, Bool.and_assoc]
theorem ZhE {ls : List (List Value)} (h : ∀ x ∈ ls, one1 x = true) : one1 ls.flatten = true := by
 induction ls with
 | nil => rfl
 | cons x ls ih => simp [Zh8, h x (by simp), ih fun y hy => h y (by simp [hy])]
theorem Zch {ls : List (List Value)} {sz : Nat} (h : ∀ x ∈ ls, x.length = sz) : ls.flatten.length = ls.length * sz := by
 induction ls with
 | nil => simp
 | cons x ls ih => simp [h x (by simp), ih fun y hy => h y (by simp [hy]), Nat.succ_mul]; omega
theorem ZgR (vs : List Value) : ∀ (a b : List Value), vs.length ≤ b.length → spl (a ++ b) a.length vs = a ++ vs ++ b.drop vs.length := by
 induction vs with
 | nil => intro a b _; simp [spl]
 | cons v vs ih =>
  intro a b h
  cases b with
  | nil => simp at h
  | cons x b =>
   simp only [spl]
   have : (a ++ x :: b).set a.length v = (a ++ [v]) ++ b := by simp
   rw [this]
   have := ih (a ++ [v]) b (by simpa using h)
   simp only [List.length_append, List.length_cons, List.length_nil, Nat.zero_add] at this
   rw [this]
   simp
section rules
variable {P : Program} {ρ ρ' τ σ α : Type} {C : Ctx P ρ} {m m1 m2 : Option τ} {κ : τ → Option ρ} {env : Env} {own : List Res} {H : Heap} {D : List Deferred} {k : Kont}
variable {ds : List (Option Tmp)} {rem : List Oper} {d : Tmp} {ty : TypeId} {pos : String} {af : Array Edge}
theorem Zkb (n : Nat) : ∀ (r c : Nat), c ≤ 2 * n + 192 → Builtin.growBy n r c ≤ 2 * n + 192 := by
 intro r
 induction r with
 | zero => intro c h; exact h
 | succ r ih =>
  intro c h
  unfold Builtin.growBy
  split
  ·exact h
  ·exact ih _ (by omega)
theorem Zjf (n c : Nat) (h : c < n) : Builtin.nextslicecap n c ≤ 2 * n + 192 := by
 unfold Builtin.nextslicecap
 split
 ·omega
 ·split
  ·omega
  ·exact Zkb n _ _ (by omega)
def Src (C : Ctx P ρ) (own : List Res) (H : Heap) (sz : Nat) (x : Value) (ls : List (List Value)) : Prop :=
 (∃ a cap, x = .slice a ls.length cap) ∧ (∀ y ∈ ls, y.length = sz ∧ one1 y = true) ∧ ∀ w, Inv C.w0 C.M C.H0 own H w → (Builtin.firstCells sz ls.length x).run P w = .ok ls.flatten.toArray w
theorem Zmb {j : Nat} {v : Value} {sz : Nat} {et : TypeId} {ls : List (List Value)} (ho : own[j]? = some (.osl v sz et ls)) (hv : ∃ a n cap, v = .slice a n cap) (hw : ∃ w, Inv C.w0 C.M C.H0 own H w) : Src C own H sz v ls := by
 obtain ⟨w0, hw0⟩ := hw
 refine ⟨?_, ?_, ?_⟩
 ·rcases Zco hw0 ho with ⟨rfl, rfl⟩ | ⟨b, cap', arr, rest, rfl, _⟩
  ·exact ⟨_, _, rfl⟩
  ·exact ⟨_, _, rfl⟩
 ·rcases Zco hw0 ho with ⟨rfl, rfl⟩ | ⟨b, cap', arr, rest, rfl, hb, hsz, hle, harr, hlen⟩
  ·intro y hy; simp at hy
  ·exact hlen
 ·intro w hw
  rcases Zco hw ho with ⟨rfl, rfl⟩ | ⟨b, cap', arr, rest, rfl, hb, hsz, hle, harr, hlen⟩
  ·simp [Builtin.firstCells]
  ·have hf := Zch (fun x hx => (hlen x hx).1)
   simp only [Builtin.firstCells]
   rw [Zc0 hb (by rw [Nat.zero_add, hsz]; exact Nat.mul_le_mul_right _ hle)]
   simp only [subc, List.drop_zero, harr, ← hf, List.take_left]
theorem Zmc [GoT α] {a : Option Addr} {cap : Nat} {l : List α} (h : RSl H a cap l) : ∃ ls, All2 (GoT.rep H) ls l ∧ Src C own H (GoT.sz α) (.slice a l.length cap) ls := by
 rcases h.2 with rfl | ⟨bk, of, cs, t, fz, rfl, hb, hc⟩
 ·refine ⟨[], Zbv, ⟨a, cap, rfl⟩, by simp, fun w _ => ?_⟩
  cases a with
  | none => simp [Builtin.firstCells]
  | some a => simp [Builtin.firstCells, loadCells, loadCellsFrom]
 ·have hrep : ∀ i (hi : i < l.length), (subc cs.toList (of + i * GoT.sz α) (GoT.sz α)).length = GoT.sz α := fun i hi => GoT.len (hc i hi)
  refine ⟨(List.range l.length).map fun i => subc cs.toList (of + i * GoT.sz α) (GoT.sz α), ⟨by simp, fun i h1 h2 => by simpa using hc i h2⟩, ⟨_, _, by simp; exact ⟨rfl, rfl⟩⟩, ?_, ?_⟩
  ·intro y hy
   obtain ⟨i, hi, rfl⟩ := List.mem_map.1 hy
   exact ⟨hrep i (List.mem_range.1 hi), GoT.one (hc i (List.mem_range.1 hi))⟩
  ·intro w hw
   have hb' : w.heap[bk]? = some (.cells cs t fz) := hw.sub _ _ hb
   have key : ∀ n, n ≤ l.length → (((List.range n).map fun i => subc cs.toList (of + i * GoT.sz α) (GoT.sz α)).flatten = subc cs.toList of (n * GoT.sz α) ∧ (n * GoT.sz α = 0 ∨ of + n * GoT.sz α ≤ cs.size)) := by
    intro n
    induction n with
    | zero => intro _; simp [subc]
    | succ n ih =>
     intro hn
     obtain ⟨h1, _⟩ := ih (by omega)
     have h2 := hrep n (by omega)
     simp only [subc, List.length_take, List.length_drop, Array.length_toList] at h2
     rw [List.range_succ, List.map_append, List.flatten_append, h1]
     simp only [List.map_cons, List.map_nil, List.flatten_cons, List.flatten_nil, List.append_nil, subc]
     rw [Nat.succ_mul]
     refine ⟨?_, ?_⟩
     ·rw [List.take_add, List.drop_drop]
     ·by_cases h0 : GoT.sz α = 0
      ·left; simp [h0]
      ·right; omega
   obtain ⟨h1, h2⟩ := key l.length (Nat.le_refl _)
   simp only [Builtin.firstCells, List.length_map, List.length_range]
   rw [h1]
   rcases h2 with h2 | h2
   ·rw [h2]; simp [loadCells, loadCellsFrom, subc]
   ·rw [Zc0 hb' h2]
theorem ZgU {j : Nat} {t xt : TypeId} {e sz by_ n' cap' : Nat} {a' : Option Addr} {ls ls2 : List (List Value)} {x : Value} {w : World} {rt : TypeId} [S : TSl P t e sz by_] {xe xsz xby : Nat} [X : TSl P xt xe xsz xby]
  (hI : Inv C.w0 C.M C.H0 own H w) (ho : own[j]? = some (.osl (.slice a' n' cap') sz e ls)) (hs : Src C own H sz x ls2) (hlim : ls.length + ls2.length < LIM) :
  ∃ a cap w', (Builtin.append_ #[t, xt] rt #[.slice a' n' cap', x]).run P w = .ok (.slice a (ls ++ ls2).length cap) w' ∧
   Inv C.w0 C.M C.H0 (own.set j (.osl (.slice a (ls ++ ls2).length cap) sz e (ls ++ ls2))) H w' := by
 obtain ⟨⟨xa, xcap, rfl⟩, hlen2, hrun2⟩ := hs
 obtain ⟨i0, hi0, hby⟩ := S.bytes
 obtain ⟨z, hz, hzl, hz1⟩ := S.zero
 have hby1 := S.few.1
 have hby2 := S.few.2
 have hf2 := Zch (fun x hx => (hlen2 x hx).1)
 have h12 := ZhE (fun x hx => (hlen2 x hx).2)
 have hxi : ∀ w, (do pure ((← underlying xt) matches .int _) : Sem Bool).run P w = .ok false w := fun w => by simp [run_underlying X.und]
 have hjl : j < own.length := (List.getElem?_eq_some_iff.1 ho).1
 unfold LIM at hlim
 have hgrow : ∀ c : Nat, c < ls.length + ls2.length → ¬ (Builtin.nextslicecap (ls.length + ls2.length) c * by_ > 2 ^ 48) := fun c hc => by
  have := Zjf (ls.length + ls2.length) c hc
  have : Builtin.nextslicecap (ls.length + ls2.length) c * by_ ≤ (2 * (ls.length + ls2.length) + 192) * 1024 := Nat.mul_le_mul this hby2
  omega
 have hinfo : ∀ w, (typeInfo e).run P w = .ok i0 w := fun w => run_typeInfo w hi0
 rcases Zco hI ho with ⟨hv, rfl⟩ | ⟨b, cap, arr, rest, hv, hb, hsz, hle, harr, hlen⟩
 ·simp only [Value.slice.injEq] at hv
  obtain ⟨rfl, rfl, rfl⟩ := hv
  simp only [List.length_nil, Nat.zero_add, List.nil_append] at *
  by_cases h0 : ls2.length = 0
  ·have : ls2 = [] := List.eq_nil_of_length_eq_zero h0
   subst this
   refine ⟨none, 0, w, ?_, ?_⟩
   ·have hr := hrun2 w hI
    simp only [List.length_nil] at hr
    simp [Builtin.append_, run_underlying S.und, S.size, run_underlying X.und, Builtin.lenOf, hr]
   ·have : own.set j (.osl (.slice none 0 0) sz e []) = own := by
     obtain ⟨hl, he⟩ := List.getElem?_eq_some_iff.1 ho
     rw [← he]; exact List.set_getElem_self hl
    rw [List.length_nil, this]; exact hI
  ·let nc := (Question.appendCap ls2.length 0 e).cut (w.tape w.drawn (.appendCap ls2.length 0 e))
   have hnc : ls2.length ≤ nc := by show _ ≤ ls2.length + _; omega
   let newarr : Array Value := #[] ++ ls2.flatten.toArray ++ Builtin.zeroCells z.cells (nc - ls2.length)
   have hw1 : Inv C.w0 C.M C.H0 own H { w with drawn := w.drawn + 1 } := hI.quiet rfl rfl rfl rfl
   have hr2 := hrun2 _ hw1
   refine ⟨some ⟨w.heap.size, 0, none⟩, nc, World.alloc { w with drawn := w.drawn + 1 } (.cells newarr e), ?_, ?_⟩
   ·have hg := hgrow 0 (by omega)
    simp only [Builtin.append_, List.getElem?_toArray, List.getElem?_cons_zero, List.getElem?_cons_succ]
    simp only [Sem.run_bind, run_underlying S.und, S.size, run_underlying X.und, Result.andThen_ok, Sem.run_pure, Bool.false_eq_true, if_false, Builtin.lenOf, hinfo, hby, Nat.zero_add]
    simp only [show ¬ (ls2.length ≤ 0) by omega, if_false, hg, Sem.run_bind, hinfo, Result.andThen_ok, hby, Sem.run_pure, run_choose, run_askRoom]
    have ho1 : ∀ w, (Builtin.firstCells sz 0 (.slice none 0 0)).run P w = .ok #[] w := fun _ => rfl
    have hc1 : ¬ ((ls2.length : Int) > IntKind.i64.max ∧ (False ∨ by_ = 0)) := by rintro ⟨_, h | h⟩ <;> omega
    simp only [Bool.false_eq_true, hc1, if_false, hg, Sem.run_bind, Question.forced, run_choose, Result.andThen_ok, hinfo, run_askRoom, ho1, Sem.run_pure, Bool.not_false, if_true, hr2, hz, newRow, run_newObj, hby, Sem.run_ite, List.length_append]
    rfl
   ·have hfl : newarr.size = nc * sz := by
     simp only [newarr, Array.size_append, List.size_toArray, hf2, Builtin.zeroCells, Array.size_map, Array.size_range, List.length_nil, Nat.zero_add]
     rw [show z.cells.size = sz by simpa using hzl, ← Nat.add_mul]; congr 1; omega
    exact hw1.move ho (.cells newarr e) rfl (.inr ⟨w.heap.size, nc, newarr, (Builtin.zeroCells z.cells (nc - ls2.length)).toList, rfl, by
     show (w.heap.push _)[w.heap.size]? = some _; simp, hfl, hnc, by simp [newarr], hlen2⟩)
 ·simp only [Value.slice.injEq] at hv
  obtain ⟨rfl, rfl, rfl⟩ := hv
  have hf1 := Zch (fun x hx => (hlen x hx).1)
  by_cases hfit : ls.length + ls2.length ≤ cap'
  ·have hcs : arr = arr.toList.toArray := by simp
   have hbnd : (ls.length + ls2.length) * sz ≤ cap' * sz := Nat.mul_le_mul_right _ hfit
   rw [Nat.add_mul] at hbnd
   obtain ⟨w', hrun, hb', hoth, hs', h5, h6, h7, hdw⟩ := Zdn (P := P) ls2.flatten w b (ls.length * sz) 0 arr.toList e (by rw [hb]) (by simp only [Array.length_toList, Nat.add_zero]; rw [hf2, hsz]; omega) h12
   have hr2 := hrun2 w hI
   refine ⟨some ⟨b, 0, none⟩, cap', w', ?_, ?_⟩
   ·simp only [Builtin.append_, List.getElem?_toArray, List.getElem?_cons_zero, List.getElem?_cons_succ]
    simp only [Sem.run_bind, run_underlying S.und, S.size, run_underlying X.und, Result.andThen_ok, Sem.run_pure, Bool.false_eq_true, if_false, Builtin.lenOf, hfit, if_true, Bool.not_false, hr2, Zdh, Nat.zero_add, hrun, List.length_append]
   ·refine hI.write ho (b := b) (r' := .osl (.slice (some ⟨b, 0, none⟩) (ls ++ ls2).length cap') sz e (ls ++ ls2)) (by simp [Res.ids]) rfl hoth hs' h5 h6 h7 ?_ (hdr := Nat.le_of_eq hdw.symm)
    refine .inr ⟨b, cap', _, rest.drop ls2.flatten.length, rfl, hb', ?_, by simpa using hfit, ?_, ?_⟩
    ·simp [ZfW, hsz]
    ·have hrl : ls2.flatten.length ≤ rest.length := by
      have : arr.toList.length = ls.flatten.length + rest.length := by rw [harr]; simp
      rw [Array.length_toList, hsz, hf1] at this
      rw [hf2]; omega
     have := ZgR ls2.flatten ls.flatten rest hrl
     rw [hf1] at this
     simp only [Nat.add_zero, harr, this, List.flatten_append]
    ·intro y hy
     rcases List.mem_append.1 hy with hy | hy
     ·exact hlen y hy
     ·exact hlen2 y hy
  ·let nc := (Question.appendCap (ls.length + ls2.length) cap' e).cut (w.tape w.drawn (.appendCap (ls.length + ls2.length) cap' e))
   have hnc : ls.length + ls2.length ≤ nc := by show _ ≤ ls.length + ls2.length + _; omega
   let newarr : Array Value := ls.flatten.toArray ++ ls2.flatten.toArray ++ Builtin.zeroCells z.cells (nc - (ls.length + ls2.length))
   have hw1 : Inv C.w0 C.M C.H0 own H { w with drawn := w.drawn + 1 } := hI.quiet rfl rfl rfl rfl
   have hr2 := hrun2 _ hw1
   have hr1 : (loadCells ⟨b, 0, none⟩ (ls.length * sz)).run P { w with drawn := w.drawn + 1 } = .ok ls.flatten.toArray { w with drawn := w.drawn + 1 } := by
    have hb1 : ({ w with drawn := w.drawn + 1 } : World).heap[b]? = some (.cells arr e (0, 0)) := hb
    rw [Zc0 hb1 (by rw [Nat.zero_add, hsz]; exact Nat.mul_le_mul_right _ hle)]
    simp only [subc, List.drop_zero, harr, ← hf1, List.take_left]
   refine ⟨some ⟨w.heap.size, 0, none⟩, nc, World.alloc { w with drawn := w.drawn + 1 } (.cells newarr e), ?_, ?_⟩
   ·have hg := hgrow cap' (by omega)
    simp only [Builtin.append_, List.getElem?_toArray, List.getElem?_cons_zero, List.getElem?_cons_succ]
    simp only [Sem.run_bind, run_underlying S.und, S.size, run_underlying X.und, Result.andThen_ok, Sem.run_pure, Bool.false_eq_true, if_false, Builtin.lenOf, hinfo, hby]
    have ho1 : (Builtin.firstCells sz ls.length (.slice (some ⟨b, 0, none⟩) ls.length cap')).run P { w with drawn := w.drawn + 1 } = .ok ls.flatten.toArray { w with drawn := w.drawn + 1 } := hr1
    have hc1 : ¬ (((ls.length + ls2.length : Nat) : Int) > IntKind.i64.max ∧ (False ∨ by_ = 0)) := by rintro ⟨_, h | h⟩ <;> omega
    simp only [hfit, if_false, Sem.run_bind, hinfo, Result.andThen_ok, hby, Bool.false_eq_true, hc1, hg, Question.forced, run_choose, run_askRoom, ho1, Sem.run_pure, Bool.not_false, if_true, hr2, hz, newRow, run_newObj, hby, Sem.run_ite, List.length_append]
    rfl
   ·have hfl : newarr.size = nc * sz := by
     simp only [newarr, Array.size_append, List.size_toArray, hf1, hf2, Builtin.zeroCells, Array.size_map, Array.size_range]
     rw [show z.cells.size = sz by simpa using hzl, ← Nat.add_mul, ← Nat.add_mul]; congr 1; omega
    exact hw1.move ho (.cells newarr e) rfl (.inr ⟨w.heap.size, nc, newarr, (Builtin.zeroCells z.cells (nc - (ls.length + ls2.length))).toList, rfl, by
     show (w.heap.push _)[w.heap.size]? = some _; simp, hfl, by simpa using hnc, by simp [newarr], fun y hy => by
      rcases List.mem_append.1 hy with hy | hy
      ·exact hlen y hy
      ·exact hlen2 y hy⟩)
end rules
end Go.Cat
namespace Go.Cat
theorem ZkF {n : Int} (h1 : -9223372036854775808 ≤ n) (h2 : n ≤ 9223372036854775807) : IntKind.i64.wrap n = n := by
 simp only [IntKind.wrap, IntKind.signed, IntKind.bits, Bool.true_and]
 split <;> rename_i h <;> simp at h <;> omega
section rules
variable {P : Program} {ρ ρ' τ σ α : Type} {C : Ctx P ρ} {m m1 m2 : Option τ} {κ : τ → Option ρ} {env : Env} {own : List Res} {H : Heap} {D : List Deferred} {k : Kont}
variable {ds : List (Option Tmp)} {rem : List Oper} {d : Tmp} {ty : TypeId} {pos : String} {af : Array Edge}
theorem Zgp {l l' r : List α} (h : app l l' = some r) : l.length + l'.length < LIM ∧ r = l ++ l' := by
 unfold app at h
 split at h
 ·exact ⟨by assumption, by simpa using h.symm⟩
 ·cases h
theorem Zfl (j j2 : Nat) {f : List α → Option τ} [GoT α] {x y : Operand} {t xt rt : TypeId} {e by_ xe xsz xby : Nat} {a a2 : Option Addr} {n cap n2 cap2 : Nat} {l l2 : List α} {ls ls2 : List (List Value)} {et : TypeId} [S : TSl P t e (GoT.sz α) by_] [X : TSl P xt xe xsz xby]
  (hx : ev env x = some (.slice a n cap)) (hy : ev env y = some (.slice a2 n2 cap2)) (ho : own[j]? = some (.osl (.slice a n cap) (GoT.sz α) e ls)) (hA : All2 (GoT.rep H) ls l)
  (ho2 : own[j2]? = some (.osl (.slice a2 n2 cap2) (GoT.sz α) et ls2)) (hA2 : All2 (GoT.rep H) ls2 l2)
  (h : ∀ a' cap', app l l2 = some (l ++ l2) → All2 (GoT.rep H) (ls ++ ls2) (l ++ l2) → Sim C (f (l ++ l2)) κ ((d, .slice a' (l ++ l2).length cap') :: env) (own.set j (.osl (.slice a' (l ++ l2).length cap') (GoT.sz α) e (ls ++ ls2))) H D (.ops ds rem k)) (hd : Nat.blt d C.n = true := by rfl) :
  Sim C ((app l l2).bind f) κ env own H D (.ops ds (⟨some d, .call ⟨.builtin .append, #[x, y], #[t, xt]⟩, rt, pos, af, none⟩ :: rem) k) := by
 refine ZeJ (Zhx fun r hr => ?_)
 obtain ⟨hlim, rfl⟩ := Zgp hr
 refine s_op (fun _ h => by cases h) (fun tm w hE hI => ?_) hd
 have hs : Src C own H (GoT.sz α) (.slice a2 n2 cap2) ls2 := Zmb ho2 ⟨_, _, _, rfl⟩ ⟨w, hI⟩
 obtain ⟨a', cap', w', hrun, hI'⟩ := ZgU (rt := rt) (P := P) (t := t) (xt := xt) hI ho hs (by rw [hA.1, hA2.1]; exact hlim)
 have hl : (ls ++ ls2).length = (l ++ l2).length := (hA.append hA2).1
 rw [hl] at hrun hI'
 refine ⟨_, w', _, H, ?_, hI', fun r2 hr2 w hw tm ht hE => h a' cap' hr (hA.append hA2) r2 (by simpa using hr2) w hw tm ht hE⟩
 simp [execOp, resolve, Zay hE hx, Zay hE hy, invoke, builtin, hrun]
theorem ZlU (j : Nat) {f : List α → Option τ} [GoT α] {x y : Operand} {t xt rt : TypeId} {e by_ xe xsz xby : Nat} {a a2 : Option Addr} {n cap cap2 : Nat} {l l2 : List α} {ls : List (List Value)} [S : TSl P t e (GoT.sz α) by_] [X : TSl P xt xe xsz xby]
  (hx : ev env x = some (.slice a n cap)) (hy : ev env y = some (.slice a2 l2.length cap2)) (ho : own[j]? = some (.osl (.slice a n cap) (GoT.sz α) e ls)) (hA : All2 (GoT.rep H) ls l)
  (hS : RSl H a2 cap2 l2)
  (h : ∀ a' cap' ls', app l l2 = some (l ++ l2) → All2 (GoT.rep H) ls' (l ++ l2) → Sim C (f (l ++ l2)) κ ((d, .slice a' (l ++ l2).length cap') :: env) (own.set j (.osl (.slice a' (l ++ l2).length cap') (GoT.sz α) e ls')) H D (.ops ds rem k)) (hd : Nat.blt d C.n = true := by rfl) :
  Sim C ((app l l2).bind f) κ env own H D (.ops ds (⟨some d, .call ⟨.builtin .append, #[x, y], #[t, xt]⟩, rt, pos, af, none⟩ :: rem) k) := by
 refine ZeJ (Zhx fun r hr => ?_)
 obtain ⟨hlim, rfl⟩ := Zgp hr
 refine s_op (fun _ h => by cases h) (fun tm w hE hI => ?_) hd
 obtain ⟨ls2, hA2, hs⟩ := Zmc (C := C) (own := own) hS
 obtain ⟨a', cap', w', hrun, hI'⟩ := ZgU (rt := rt) (P := P) (t := t) (xt := xt) hI ho hs (by rw [hA.1, hA2.1]; exact hlim)
 have hl : (ls ++ ls2).length = (l ++ l2).length := (hA.append hA2).1
 rw [hl] at hrun hI'
 refine ⟨_, w', _, H, ?_, hI', fun r2 hr2 w hw tm ht hE => h a' cap' _ hr (hA.append hA2) r2 (by simpa using hr2) w hw tm ht hE⟩
 simp [execOp, resolve, Zay hE hx, Zay hE hy, invoke, builtin, hrun]
theorem Zlr (sz : Nat) : ∀ (vs : List Value) (j : Nat) (a b : List Value), a.length = j * sz → b.length = vs.length * sz → (∀ v ∈ vs, v.cells.toList.length = sz) →
  Instr.fill (fun i => some (i * sz, sz)) (a ++ b).toArray ((vs.zipIdx j).map fun x => (x.2, x.1)) = some (a ++ (vs.map fun v => v.cells.toList).flatten).toArray := by
 intro vs
 induction vs with
 | nil => intro j a b ha hb _; simp at hb; subst hb; simp [Instr.fill]
 | cons v vs ih =>
  intro j a b ha hb hv
  have hvz : v.cells.toList.length = sz := hv v (by simp)
  have hvz' : v.cells.size = sz := by simpa using hvz
  simp only [List.length_cons, Nat.succ_mul] at hb
  simp only [List.zipIdx_cons, List.map_cons, Instr.fill]
  have hc : (decide (v.cells.size ≠ sz) || decide (j * sz + v.cells.size > (a ++ b).toArray.size)) = false := by simp [hvz', ha, hb] <;> omega
  simp only [hc, Bool.false_eq_true, if_false]
  have e : v.cells.zipIdx.foldl (fun (cs : Array Value) (x : Value × Nat) => cs.setIfInBounds (j * sz + x.2) x.1) (a ++ b).toArray = ((a ++ v.cells.toList) ++ b.drop sz).toArray := by
   rw [← Array.foldl_toList, Array.toList_zipIdx]
   have := ZgC v.cells.toList (a ++ b) (j * sz) 0
   rw [Nat.add_zero, ← ha, ZgR _ _ _ (by rw [hvz, hb]; omega), hvz] at this
   rw [← ha]
   exact this
  refine (congrArg (fun z => Instr.fill _ z _) e).trans ?_
  rw [ih (j + 1) (a ++ v.cells.toList) (b.drop sz) (by simp [ha, hvz', Nat.succ_mul]) (by simp [hb]) (fun u hu => hv u (by simp [hu]))]
  simp
theorem Zdw {t : TypeId} {e sz by_ n : Nat} {xs : List Operand} {vs : List Value} [S : TSl P t e sz by_] (hx : evs env xs = some vs) (hn : xs.length = n) (hlen : ∀ v ∈ vs, v.cells.toList.length = sz ∧ one1 v.cells.toList = true) (hbig : Nat.ble (n * sz) 16777216 = true)
  {ps : Array (Nat × Operand)} (hps : ps = ((xs.zipIdx).map fun x => (x.2, x.1)).toArray)
  (h : ∀ b, Sim C m κ ((d, .slice (some ⟨b, 0, none⟩) n n) :: env) (own ++ [.osl (.slice (some ⟨b, 0, none⟩) n n) sz e (vs.map fun v => v.cells.toList)]) H D (.ops ds rem k)) (hd : Nat.blt d C.n = true := by rfl) :
  Sim C m κ env own H D (.ops ds (⟨some d, .buildSlice t n ps, ty, pos, af, none⟩ :: rem) k) := by
 refine s_op (fun _ h => by cases h) (fun tm w hE hI => ?_) hd
 obtain ⟨z, hz, hzl, hz1⟩ := S.zero
 have hp := S.pos
 subst hps
 have hvl : vs.length = n := by
  have := Zd4 hE hx
  rw [← this]; simpa using hn
 have hbig' := Nat.le_of_ble_eq_true hbig
 have hrun : (execOp (ZcX tm) ⟨some d, .buildSlice t n (List.map (fun x => (x.2, x.1)) xs.zipIdx).toArray, ty, pos, af, none⟩).run P w = .ok (.value (.slice (some ⟨w.heap.size, 0, none⟩) n n)) (w.alloc (.cells (vs.map fun v => v.cells.toList).flatten.toArray e)) := by
  have hmap : ((List.map (fun x => (x.2, x.1)) xs.zipIdx).toArray.map fun x => (x.1, ZcX tm x.2)).toList = (vs.zipIdx 0).map fun x => (x.2, x.1) := by
   rw [← Zd4 hE hx]
   simp only [List.map_toArray, List.map_map, List.zipIdx_map]
   rfl
  have hmap' : (Array.map (fun (x : Nat × Operand) => match x with | (i, x) => (i, ZcX tm x)) (List.map (fun x => (x.2, x.1)) xs.zipIdx).toArray).toList = (vs.zipIdx 0).map fun x => (x.2, x.1) := hmap
  have key : ∀ c : Array Value, c.size = n * sz → Instr.fill (fun i => some (i * sz, sz)) c ((vs.zipIdx 0).map fun x => (x.2, x.1)) = some (vs.map fun v => v.cells.toList).flatten.toArray := by
   intro c hc
   have := Zlr sz vs 0 [] c.toList (by simp) (by simpa [hvl] using hc) (fun v hv => (hlen v hv).1)
   simpa using this
  simp only [execOp, Instr.buildSlice, Sem.run_bind, run_underlying S.und, Result.andThen_ok, S.size, hmap']
  rw [if_neg (by omega)]
  by_cases h0 : n * sz = 0
  ·simp only [h0, if_true, Sem.run_pure, Result.andThen_ok, Sem.run_bind]
   rw [key _ (by simp [h0])]
   simp [newRow]
  ·simp only [h0, if_false, Sem.run_bind, hz, Sem.run_pure, Result.andThen_ok]
   rw [key _ (by simp)]
   simp [newRow]
 refine ⟨_, _, _, H, hrun, ?_, h w.heap.size⟩
 refine hI.push _ _ rfl (.inr ⟨w.heap.size, n, (vs.map fun v => v.cells.toList).flatten.toArray, [], by simp [hvl], by show (w.heap.push _)[w.heap.size]? = some _; simp, ?_, by simp [hvl], by simp, ?_⟩)
 ·have := Zch (ls := vs.map fun v => v.cells.toList) (sz := sz) (by
   intro x hx; obtain ⟨v, hv, rfl⟩ := List.mem_map.1 hx; exact (hlen v hv).1)
  simpa [hvl] using this
 ·intro x hx; obtain ⟨v, hv, rfl⟩ := List.mem_map.1 hx; exact hlen v hv
theorem Zk7 {n : Int} {z : α} {r : List α} (h : mks n z = some r) : 0 ≤ n ∧ n < LIM ∧ r = List.replicate n.toNat z := by
 unfold mks at h
 split at h
 ·rename_i h'; exact ⟨h'.1, h'.2, by simpa using h.symm⟩
 ·cases h
theorem Zk1 {f : List α → Option τ} [GoT α] {x y : Operand} {t : TypeId} {e by_ : Nat} {n : Int} {z : α} {zc : List Value} [S : TSl P t e (GoT.sz α) by_] (hx : ev env x = some (.int .i64 n)) (hy : ev env y = some (.int .i64 n))
  (hz : ∀ w : World, ∃ zv, (zeroValue e).run P w = .ok zv w ∧ zv.cells.toList = zc) (hrep : GoT.rep H zc z)
  (h : ∀ b, mks n z = some (List.replicate n.toNat z) → All2 (GoT.rep H) (List.replicate n.toNat zc) (List.replicate n.toNat z) → Sim C (f (List.replicate n.toNat z)) κ ((d, .slice (some ⟨b, 0, none⟩) (List.replicate n.toNat z).length n.toNat) :: env) (own ++ [.osl (.slice (some ⟨b, 0, none⟩) (List.replicate n.toNat z).length n.toNat) (GoT.sz α) e (List.replicate n.toNat zc)]) H D (.ops ds rem k)) (hd : Nat.blt d C.n = true := by rfl) :
  Sim C ((mks n z).bind f) κ env own H D (.ops ds (⟨some d, .makeSlice t x y, ty, pos, af, none⟩ :: rem) k) := by
 refine ZeJ (Zhx fun r hr => ?_)
 obtain ⟨h0, hlim, rfl⟩ := Zk7 hr
 refine s_op (fun _ h => by cases h) (fun tm w hE hI => ?_) hd
 have hzl := GoT.len hrep
 have hz1 := GoT.one hrep
 have hp := S.pos
 obtain ⟨i0, hi0, hby⟩ := S.bytes
 have hby1 := S.few.1
 have hby2 := S.few.2
 obtain ⟨zv, hzw, hzc⟩ := hz w
 have hinfo : ∀ w, (typeInfo e).run P w = .ok i0 w := fun w => run_typeInfo w hi0
 unfold LIM at hlim
 have hw64 : IntKind.i64.wrap n = n := ZkF (by omega) (by omega)
 have hcells : ((Array.range (n.toNat * GoT.sz α)).map fun i => zv.cells[i % zv.cells.size]!) = (List.replicate n.toNat zc).flatten.toArray := by
  have hs : zv.cells.size = GoT.sz α := by rw [← hzl, ← hzc]; simp
  apply Array.ext
  ·simp [hzl]
  ·intro i h1 h2
   simp only [Array.size_map, Array.size_range] at h1
   have hlt : i % GoT.sz α < GoT.sz α := Nat.mod_lt _ hp
   have hfl := Zet (List.replicate n.toNat zc) (GoT.sz α) (fun x hx => by rw [List.eq_of_mem_replicate hx]; exact hzl) (i / GoT.sz α) (by
    rw [List.length_replicate]; exact Nat.div_lt_of_lt_mul (by rw [Nat.mul_comm]; exact h1)) []
   simp only [List.append_nil, List.getElem_replicate] at hfl
   have hidx : i = i / GoT.sz α * GoT.sz α + i % GoT.sz α := by rw [Nat.mul_comm]; exact (Nat.div_add_mod i _).symm
   have : (List.replicate n.toNat zc).flatten[i]? = zc[i % GoT.sz α]? := by
    have e1 : (List.replicate n.toNat zc).flatten[i / GoT.sz α * GoT.sz α + i % GoT.sz α]? = ((List.replicate n.toNat zc).flatten.drop (i / GoT.sz α * GoT.sz α))[i % GoT.sz α]? := by rw [List.getElem?_drop]
    have e2 : ((List.replicate n.toNat zc).flatten.drop (i / GoT.sz α * GoT.sz α))[i % GoT.sz α]? = (((List.replicate n.toNat zc).flatten.drop (i / GoT.sz α * GoT.sz α)).take (GoT.sz α))[i % GoT.sz α]? := by rw [List.getElem?_take_of_lt hlt]
    rw [← hidx] at e1
    rw [e1, e2, hfl]
   simp only [Array.getElem_map, Array.getElem_range, hs, List.getElem_toArray]
   rw [List.getElem?_eq_getElem (l := (List.replicate n.toNat zc).flatten) (i := i) (by simpa using h2), List.getElem?_eq_getElem (l := zc) (i := i % GoT.sz α) (by rw [hzl]; exact hlt)] at this
   simp only [Option.some.injEq] at this
   rw [this]
   have hlt2 : i % GoT.sz α < zv.cells.size := by rw [hs]; exact hlt
   rw [getElem!_pos zv.cells (i % GoT.sz α) hlt2]
   simp [← hzc]
 have hrun : (execOp (ZcX tm) ⟨some d, .makeSlice t x y, ty, pos, af, none⟩).run P w = .ok (.value (.slice (some ⟨w.heap.size, 0, none⟩) n.toNat n.toNat)) (w.alloc (.cells (List.replicate n.toNat zc).flatten.toArray e)) := by
  have hb : ¬ ((i0.bytes : Int) * n > 2 ^ 48) := by
   rw [hby]
   have : (by_ : Int) * n ≤ 1024 * 68719476736 := Int.mul_le_mul (by omega) (by omega) h0 (by omega)
   omega
  have hneg : ¬ (n < 0) := by omega
  simp only [execOp, Zay hE hx, Zay hE hy, Instr.makeSlice, Sem.run_bind, run_underlying S.und, Result.andThen_ok, asInt, asIntOf, Sem.run_pure, hinfo, hw64]
  simp only [hneg, hb, decide_false, Bool.or_false, gt_iff_lt, Int.lt_irrefl, Bool.false_eq_true, if_false, Sem.run_bind, run_askRoom, Result.andThen_ok, S.size]
  by_cases hz0 : n.toNat * GoT.sz α = 0
  ·simp only [hz0, if_true, Sem.run_pure, Result.andThen_ok]
   have : n.toNat = 0 := by rcases Nat.mul_eq_zero.1 hz0 with h | h <;> omega
   have e0 : (Array.range 0).map (fun i => (#[] : Array Value)[i % (#[] : Array Value).size]!) = #[] := by simp
   simp only [newRow, run_newObj, Sem.run_bind, Sem.run_pure, Result.andThen_ok, this, List.replicate_zero, List.flatten_nil]
   rw [e0]
   rfl
  ·simp only [hz0, if_false, Sem.run_bind, hzw, Sem.run_pure, Result.andThen_ok, hcells]
   simp [newRow]
 have hrl : (List.replicate n.toNat z).length = n.toNat := by simp
 refine ⟨_, _, own ++ [.osl (.slice (some ⟨w.heap.size, 0, none⟩) n.toNat n.toNat) (GoT.sz α) e (List.replicate n.toNat zc)], H, hrun, ?_, ?_⟩
 ·refine hI.push _ _ rfl (.inr ⟨w.heap.size, n.toNat, (List.replicate n.toNat zc).flatten.toArray, [], by simp, by show (w.heap.push _)[w.heap.size]? = some _; simp, by simp [hzl], by simp, by simp, fun x hx => by rw [List.eq_of_mem_replicate hx]; exact ⟨hzl, hz1⟩⟩)
 ·have hA : All2 (GoT.rep H) (List.replicate n.toNat zc) (List.replicate n.toNat z) := ⟨by simp, fun i h1 h2 => by simpa using hrep⟩
  have := h w.heap.size hr hA
  rw [hrl] at this
  exact fun r2 hr2 w hw tm ht hE => this r2 (by simpa using hr2) w hw tm ht hE
end rules
end Go.Cat
namespace Go.Cat
def imin (a b : Int) : Int := if b < a then b else a
def imax (a b : Int) : Int := if b > a then b else a
def bnd (e : Env) (x : Option Operand) (v : Int) (dflt : Int) : Prop := match x with
  | none => v = dflt
  | some x => ∃ K, ev e x = some (.int K v)
section rules
variable {P : Program} {ρ ρ' τ σ α : Type} {C : Ctx P ρ} {m m1 m2 : Option τ} {κ : τ → Option ρ} {env : Env} {own : List Res} {H : Heap} {D : List Deferred} {k : Kont}
variable {ds : List (Option Tmp)} {rem : List Oper} {d : Tmp} {ty : TypeId} {pos : String} {af : Array Edge}
theorem ZkN {l r : List α} {lo hi : Int} (h : slc l lo hi = some r) : 0 ≤ lo ∧ lo ≤ hi ∧ hi ≤ l.length ∧ r = (l.drop lo.toNat).take (hi.toNat - lo.toNat) := by
  unfold slc at h
  split at h
  · rename_i h'; exact ⟨h'.1, h'.2.1, h'.2.2, by simpa using h.symm⟩
  · cases h
theorem Zh4 {t : TypeId} {e sz by_ n cap : Nat} {a : Option Addr} {lo hi : Option Value} {l h : Int} {w : World} [S : TSl P t e sz by_] (h0 : 0 ≤ l) (h1 : l ≤ h) (h2 : h ≤ n) (h3 : n ≤ cap)
    (hlo : (lo = none ∧ l = 0) ∨ ∃ K, lo = some (.int K l)) (hhi : (hi = none ∧ h = n) ∨ ∃ K, hi = some (.int K h)) :
    (Instr.sliceAt t (.slice a n cap) lo hi none).run P w = .ok (.slice (if cap = l.toNat then a else a.map (·.add (l.toNat * sz))) (h.toNat - l.toNat) (cap - l.toNat)) w := by
  have e1 : 0 ≤ h ∧ h ≤ (cap : Int) := by omega
  have hh : h = (h.toNat : Int) := by omega
  have e2 : 0 ≤ l ∧ l ≤ (h.toNat : Int) := by omega
  have key : (Instr.sliceBounds true n cap lo hi none).run P w = .ok (l.toNat, h.toNat, cap) w := by
    rcases hhi with ⟨rfl, rfl⟩ | ⟨K, rfl⟩
    · rcases hlo with ⟨rfl, rfl⟩ | ⟨K', rfl⟩
      · simp [Instr.sliceBounds]
      · simp only [Int.toNat_natCast] at e2
        simp [Instr.sliceBounds, Instr.sliceBound, asIntOf, e2]
    · rcases hlo with ⟨rfl, rfl⟩ | ⟨K', rfl⟩
      · simp [Instr.sliceBounds, Instr.sliceBound, asIntOf, e1]
      · simp [Instr.sliceBounds, Instr.sliceBound, asIntOf, e1, e2]
        intro hx; omega
  unfold Instr.sliceAt
  rw [Sem.run_bind, run_underlying S.und]
  simp only [Result.andThen_ok]
  unfold Instr.slice
  rw [Sem.run_bind, run_underlying S.und]
  simp only [Result.andThen_ok, Sem.run_bind, key, S.size, Sem.run_pure]
theorem ZjM [GoT α] {a : Option Addr} {cap : Nat} {l : List α} {lo hi : Int} (h : RSl H a cap l) (h0 : 0 ≤ lo) (h1 : lo ≤ hi) (h2 : hi ≤ l.length) :
    RSl H (if cap = lo.toNat then a else a.map (·.add (lo.toNat * GoT.sz α))) (cap - lo.toNat) ((l.drop lo.toNat).take (hi.toNat - lo.toNat)) := by
  have hc := h.1
  refine ⟨by simp; omega, ?_⟩
  rcases h.2 with rfl | ⟨bk, of, cs, t, fz, rfl, hb, hcell⟩
  · left; simp
  · by_cases he : lo = hi
    · left; subst he; simp
    · right
      have hne : cap ≠ lo.toNat := by omega
      rw [if_neg hne]
      refine ⟨bk, of + lo.toNat * GoT.sz α, cs, t, fz, by simp [Zdh], hb, ?_⟩
      intro i hi'
      simp only [List.length_take, List.length_drop] at hi'
      have := hcell (lo.toNat + i) (by omega)
      rw [Nat.add_mul] at this
      simp only [List.getElem_take, List.getElem_drop]
      rw [Nat.add_assoc]
      exact this
theorem o_sl {f : List α → Option τ} [GoT α] {x : Operand} {xlo xhi : Option Operand} {t : TypeId} {e by_ : Nat} {a : Option Addr} {cap : Nat} {l : List α} {lo hi : Int} [S : TSl P t e (GoT.sz α) by_]
    (hs : RSl H a cap l) (hx : ev env x = some (.slice a l.length cap)) (hlo : bnd env xlo lo 0) (hhi : bnd env xhi hi l.length)
    (h : ∀ a' cap' r, slc l lo hi = some r → RSl H a' cap' r → Sim C (f r) κ ((d, .slice a' r.length cap') :: env) own H D (.ops ds rem k)) (hd : Nat.blt d C.n = true := by rfl) :
    Sim C ((slc l lo hi).bind f) κ env own H D (.ops ds (⟨some d, .slice t x xlo xhi none, ty, pos, af, none⟩ :: rem) k) := by
  refine ZeJ (Zhx fun r hr => ?_)
  obtain ⟨h0, h1, h2, rfl⟩ := ZkN hr
  have hR := ZjM hs h0 h1 h2
  have hn : ((l.drop lo.toNat).take (hi.toNat - lo.toNat)).length = hi.toNat - lo.toNat := by simp; omega
  have := h _ _ _ hr hR
  rw [hn] at this
  refine Zda (fun _ h => by cases h) (fun tm w hE => ?_) (fun r2 hr2 w hw tm ht hE => this r2 (by simpa using hr2) w hw tm ht hE) hd
  have hlo' : (xlo.map (ZcX tm) = none ∧ lo = 0) ∨ ∃ K, xlo.map (ZcX tm) = some (.int K lo) := by
    cases xlo with
    | none => exact .inl ⟨rfl, hlo⟩
    | some y => obtain ⟨K, hK⟩ := hlo; exact .inr ⟨K, by simp [Zay hE hK]⟩
  have hhi' : (xhi.map (ZcX tm) = none ∧ hi = l.length) ∨ ∃ K, xhi.map (ZcX tm) = some (.int K hi) := by
    cases xhi with
    | none => exact .inl ⟨rfl, hhi⟩
    | some y => obtain ⟨K, hK⟩ := hhi; exact .inr ⟨K, by simp [Zay hE hK]⟩
  simp only [execOp, Zay hE hx, Option.map_none, Sem.run_bind, Zh4 (P := P) (S := S) h0 h1 h2 hs.1 hlo' hhi', Result.andThen_ok, Sem.run_pure]
theorem Zmz {x y : Operand} {K : IntKind} {a b : Int} {ats : Array TypeId} (hx : ev env x = some (.int K a)) (hy : ev env y = some (.int K b))
    (h : Sim C m κ ((d, .int K (imin a b)) :: env) own H D (.ops ds rem k)) (hd : Nat.blt d C.n = true := by rfl) :
    Sim C m κ env own H D (.ops ds (⟨some d, .call ⟨.builtin .min, #[x, y], ats⟩, ty, pos, af, none⟩ :: rem) k) :=
  Zda (fun _ h => by cases h) (fun tm w hE => by
    simp [execOp, resolve, Zay hE hx, Zay hE hy, invoke, builtin, Builtin.min_, Builtin.min2, imin]) h hd
theorem ZjV {x y : Operand} {K : IntKind} {a b : Int} {ats : Array TypeId} (hx : ev env x = some (.int K a)) (hy : ev env y = some (.int K b))
    (h : Sim C m κ ((d, .int K (imax a b)) :: env) own H D (.ops ds rem k)) (hd : Nat.blt d C.n = true := by rfl) :
    Sim C m κ env own H D (.ops ds (⟨some d, .call ⟨.builtin .max, #[x, y], ats⟩, ty, pos, af, none⟩ :: rem) k) :=
  Zda (fun _ h => by cases h) (fun tm w hE => by
    simp [execOp, resolve, Zay hE hx, Zay hE hy, invoke, builtin, Builtin.max_, Builtin.max2, imax]) h hd
theorem Zmy {fn : Go.Fn} {first cap : List Operand} {vs cs : List Value} (hf : evs env first = some vs) (hc : evs env cap = some cs)
    (h : Sim C m κ ((d, .func fn vs.toArray cs.toArray) :: env) own H D (.ops ds rem k)) (hd : Nat.blt d C.n = true := by rfl) :
    Sim C m κ env own H D (.ops ds (⟨some d, .makeFunc fn first.toArray cap.toArray, ty, pos, af, none⟩ :: rem) k) :=
  Zda (fun _ h => by cases h) (fun tm w hE => by
    simp [execOp, Instr.makeFunc, Zd4 hE hf, Zd4 hE hc]) h hd
theorem Zd3 {x : Operand} {a : Addr} (hx : ev env x = some (.pointer (some a)))
    (h : Sim C m κ ((d, .pointer (some a)) :: env) own H D (.ops ds rem k)) (hd : Nat.blt d C.n = true := by rfl) :
    Sim C m κ env own H D (.ops ds (⟨some d, .nilCheck x, ty, pos, af, none⟩ :: rem) k) :=
  Zda (fun _ h => by cases h) (fun tm w hE => by simp [execOp, Zay hE hx]) h hd
theorem o_stO (j : Nat) {ty' et : TypeId} {x y : Operand} {bk q i n n' cap sz : Nat} {ag : Bool} {ls : List (List Value)} {vs : List Value} {v : Value} (o : Nat) [L : TLay P ty' n ag] (ho : own[j]? = some (.osl (.slice (some ⟨bk, 0, none⟩) n' cap) sz et ls))
    (hi : ls[i]? = some vs) (hx : ev env x = some (.pointer (some ⟨bk, q, none⟩))) (hy : ev env y = some v) (hq : q = i * sz + o) (hn : Nat.ble (o + n) sz = true) (hv : v.cells.toList.length = n) (h1 : one1 v.cells.toList = true)
    (h : Sim C m κ env (own.set j (.osl (.slice (some ⟨bk, 0, none⟩) n' cap) sz et (ls.set i (spl vs o v.cells.toList)))) H D (.ops ds rem k)) :
    Sim C m κ env own H D (.ops ds (⟨none, .store ty' x y, ty, pos, af, none⟩ :: rem) k) := by
  intro r hr w hw tm ht hE
  rcases Zco hw ho with ⟨hv', he⟩ | ⟨b, cap', arr, rest, hv', hb, hsz, hle, harr, hlen⟩
  · cases hv'
  · simp only [Value.slice.injEq, Option.some.injEq, Addr.mk.injEq, and_true] at hv'
    obtain ⟨rfl, rfl, rfl⟩ := hv'
    obtain ⟨hlt, hvs⟩ := List.getElem?_eq_some_iff.1 hi
    have hn' := Nat.le_of_ble_eq_true hn
    have hbnd : (i + 1) * sz ≤ cap * sz := Nat.mul_le_mul_right _ (by omega)
    rw [Nat.succ_mul, ← hsz] at hbnd
    obtain ⟨w', hrun, hb', hoth, hs, h5, h6, h7, hdw⟩ := Zdn (P := P) v.cells.toList w bk q 0 arr.toList et (by rw [hb]) (by rw [hv, Array.length_toList]; omega) h1
    have hls : ls = ls.take i ++ vs :: ls.drop (i + 1) := by rw [← hvs]; simp
    have hvl : vs.length = sz := (hlen vs (by rw [← hvs]; exact List.getElem_mem hlt)).1
    have htl : (ls.take i).flatten.length = i * sz := by
      rw [Zch (sz := sz) (fun x hx => (hlen x (List.mem_of_mem_take hx)).1), List.length_take, Nat.min_eq_left (by omega)]
    have hspl : ∀ (us a : List Value) (q o : Nat) (z : List Value), q = a.length + o → o + us.length ≤ z.length → ∀ rest, spl (a ++ (z ++ rest)) q us = a ++ (spl z o us ++ rest) := by
      intro us
      induction us with
      | nil => intro a q o z _ _ rest; rfl
      | cons u us ih =>
        intro a q o z hq hz rest
        simp only [spl]
        simp only [List.length_cons] at hz
        have : (a ++ (z ++ rest)).set q u = a ++ (z.set o u ++ rest) := by
          rw [hq, List.set_append_right _ _ (by omega), Nat.add_sub_cancel_left, List.set_append_left _ _ (by omega)]
        rw [this]
        exact ih a (q + 1) (o + 1) (z.set o u) (by omega) (by simp; omega) rest
    have hset : ls.set i (spl vs o v.cells.toList) = ls.take i ++ spl vs o v.cells.toList :: ls.drop (i + 1) := by
      rw [List.set_eq_take_append_cons_drop, if_pos hlt]
    have hI := hw.write (w' := w') ho (b := bk) (r' := .osl (.slice (some ⟨bk, 0, none⟩) ls.length cap) sz et (ls.set i (spl vs o v.cells.toList))) (by simp [Res.ids]) rfl hoth hs h5 h6 h7 (hdr := Nat.le_of_eq hdw.symm)
      (.inr ⟨bk, cap, _, rest, by simp, hb', by simp [ZfW, hsz], by simpa using hle, by
        rw [hset]
        simp only [Nat.add_zero, harr]
        conv => lhs; rw [hls]
        simp only [List.flatten_append, List.flatten_cons, List.append_assoc]
        exact hspl _ _ _ o _ (by rw [htl, hq]) (by rw [hvl, hv]; exact hn') _, by
        intro x hx
        rw [hset] at hx
        rcases List.mem_append.1 hx with hx | hx
        · exact hlen x (List.mem_of_mem_take hx)
        · rcases List.mem_cons.1 hx with rfl | hx
          · refine ⟨by rw [ZfW, hvl], ?_⟩
            have hvo := (hlen vs (by rw [← hvs]; exact List.getElem_mem hlt)).2
            have : ∀ (us z : List Value) (o : Nat), one1 us = true → one1 z = true → one1 (spl z o us) = true := by
              intro us
              induction us with
              | nil => intro z o _ h; exact h
              | cons u us ih =>
                intro z o hu hz
                simp only [one1, Bool.and_eq_true] at hu
                refine ih _ _ hu.2 ?_
                clear ih
                induction z generalizing o with
                | nil => rfl
                | cons a z ih2 =>
                  simp only [one1, Bool.and_eq_true] at hz
                  cases o with
                  | zero => simp [one1, hu.1, hz.2]
                  | succ o => simp [one1, hz.1, ih2 o hz.2]
            exact this _ _ _ h1 hvo
          · exact hlen x (List.mem_of_mem_drop hx)⟩)
    have := h r hr w' hI tm ht hE
    simp only [Pos.go, ROps] at *
    rw [if_pos (show ZcM ds tm none = true from rfl)]
    refine ⟨.inr (fun _ h => by cases h), ?_⟩
    have hsz' : v.cells.size = n := by simpa using hv
    have hx' : (execOp (ZcX tm) ⟨none, .store ty' x y, ty, pos, af, none⟩).run P w = .ok .skip w' := by
      simp [execOp, Zay hE hx, Zay hE hy, Instr.storeAt, Instr.sureAddr, storeVar, L.size, hsz', hrun]
    rw [hx']
    exact this
end rules
section freeze
variable {P : Program} {ρ τ α : Type} {C : Ctx P ρ} {m : Option τ} {κ : τ → Option ρ} {env : Env} {own : List Res} {H : Heap} {D : List Deferred} {p : Pos}
def ZbW (H : Heap) (w : World) (bs : List Nat) : Heap := fun b => if b ∈ bs then w.heap[b]? else H b
theorem Inv.freezeG {w0 w : World} {M : Nat → Prop} {H0 : Heap} {j : Nat} {r : Res} (h : Inv w0 M H0 own H w) (hj : own[j]? = some r) (hM : ∀ b ∈ r.ids, b < w0.heap.size → ¬ M b) : Inv w0 M H0 (own.eraseIdx j) (ZbW H w r.ids) w := by
  have hsplit := ZfH hj
  have her : own.eraseIdx j = own.take j ++ own.drop (j + 1) := List.eraseIdx_eq_take_drop_succ ..
  have hnd := h.nd
  rw [hsplit] at hnd
  simp only [ids, List.flatMap_append, List.flatMap_cons] at hnd
  rw [List.nodup_append, List.nodup_append] at hnd
  have hrm : r ∈ own := List.mem_of_getElem? hj
  refine ⟨h.os, h.tape, h.output, h.size, h.same, ?_, ?_, ?_, fun q hq => h.ok q (List.mem_of_mem_eraseIdx hq), ?_, ?_, h.drawn⟩
  · intro b o hb
    simp only [ZbW] at hb
    split at hb
    · exact hb
    · exact h.sub b o hb
  · intro b o hb
    have hb' := h.h0 b o hb
    simp only [ZbW]
    split
    · rename_i hbr
      have := (h.away b (Zdy hrm hbr)).1
      rw [hb'] at this; cases this
    · exact hb'
  · intro b hb
    simp only [ZbW] at hb
    split at hb
    · rename_i hbr
      have := (h.away b (Zdy hrm hbr)).2.2
      by_cases hlt : b < w0.heap.size
      · exact absurd (this hlt) (hM b hbr hlt)
      · right; omega
    · exact h.new b hb
  · exact (sublist_ids (by rw [her]; conv => rhs; rw [hsplit]
                           exact List.Sublist.append (List.Sublist.refl _) (List.sublist_cons_self _ _))).nodup h.nd
  · intro b hb
    have hbm : b ∈ ids own := (sublist_ids (by rw [her]; conv => rhs; rw [hsplit]
                                               exact List.Sublist.append (List.Sublist.refl _) (List.sublist_cons_self _ _))).subset hb
    refine ⟨?_, (h.away b hbm).2⟩
    simp only [ZbW]
    have hne : b ∉ r.ids := by
      intro hbr
      rw [her] at hb
      simp only [ids, List.flatMap_append, List.mem_append] at hb
      rcases hb with hb | hb
      · exact hnd.2.2 b hb b (List.mem_append.2 (.inl hbr)) rfl
      · exact hnd.2.1.2.2 b hbr b hb rfl
    rw [if_neg hne]
    exact (h.away b hbm).1
theorem Inv.freeze {w0 w : World} {M : Nat → Prop} {H0 : Heap} {j : Nat} {r : Res} (h : Inv w0 M H0 own H w) (hj : own[j]? = some r) (hM : ∀ b, ¬ M b ∨ H0 b = none ∧ w0.heap.size ≤ b) : Inv w0 M H0 (own.eraseIdx j) (ZbW H w r.ids) w :=
  h.freezeG hj fun b _ hlt => by rcases hM b with hm | hm; exact hm; omega
theorem Ze4 {w : World} {bs : List Nat} (h : ∀ b ∈ bs, H b = none) : Hle H (ZbW H w bs) := by
  intro b o hb
  simp only [ZbW]
  split
  · rename_i hm; rw [h b hm] at hb; cases hb
  · exact hb
theorem ZgV [GoT α] {w : World} {H' : Heap} {a : Option Addr} {n cap : Nat} {et : TypeId} {l : List α} {ls : List (List Value)} (hok : OSl w (.slice a n cap) (GoT.sz α) et ls) (hA : All2 (GoT.rep H) ls l) (hle : Hle H H')
    (hb : ∀ b, (∃ x, a = some x ∧ x.block = b) → H' b = w.heap[b]?) : n = l.length ∧ RSl H' a cap l := by
  rcases hok with ⟨hv, rfl⟩ | ⟨b, cap', arr, rest, hv, hb', hsz, hle', harr, hlen⟩
  · simp only [Value.slice.injEq] at hv
    obtain ⟨rfl, rfl, rfl⟩ := hv
    have := hA.1
    simp at this
    have : l = [] := List.eq_nil_of_length_eq_zero this.symm
    subst this
    exact ⟨rfl, ZeK⟩
  · simp only [Value.slice.injEq] at hv
    obtain ⟨rfl, rfl, rfl⟩ := hv
    refine ⟨hA.1, by rw [← hA.1]; exact hle', .inr ⟨b, 0, arr, et, (0, 0), rfl, by rw [hb b ⟨_, rfl, rfl⟩]; exact hb', fun i hi => ?_⟩⟩
    have hi' : i < ls.length := by rw [hA.1]; exact hi
    have := Zet ls (GoT.sz α) (fun x hx => (hlen x hx).1) i hi' rest
    have hr := GoT.mono hle (hA.2 i hi' hi)
    rw [Nat.zero_add, subc, harr, this]
    exact hr
theorem Zj8 {a : Option Addr} {n cap sz : Nat} {et : TypeId} {ls : List (List Value)} {b : Nat} (h : ∃ x, a = some x ∧ x.block = b) : b ∈ (Res.osl (.slice a n cap) sz et ls).ids := by
  obtain ⟨x, rfl, rfl⟩ := h; simp [Res.ids]
theorem Zg9 (j : Nat) [GoT α] {a : Option Addr} {n cap : Nat} {et : TypeId} {l : List α} {ls : List (List Value)} (hM : ∀ b, ¬ C.M b ∨ C.H0 b = none ∧ C.w0.heap.size ≤ b)
    (hj : own[j]? = some (.osl (.slice a n cap) (GoT.sz α) et ls)) (hA : All2 (GoT.rep H) ls l)
    (h : ∀ H', Hle H H' → n = l.length → RSl H' a cap l → Sim C m κ env (own.eraseIdx j) H' D p) : Sim C m κ env own H D p := by
  intro r hr w hw tm ht hE
  have hrm := List.mem_of_getElem? hj
  have hle : Hle H (ZbW H w (Res.osl (.slice a n cap) (GoT.sz α) et ls).ids) := Ze4 fun b hb => (hw.away b (Zdy hrm hb)).1
  obtain ⟨hn, hR⟩ := ZgV (H' := ZbW H w (Res.osl (.slice a n cap) (GoT.sz α) et ls).ids) (Zco hw hj) hA hle (fun b hb => by
    simp only [ZbW]; rw [if_pos (Zj8 hb)])
  exact h _ hle hn hR r hr w (hw.freeze hj hM) tm ht hE
end freeze
end Go.Cat
namespace Go.Cat
def Zg4 (H : Heap) (r : Res) : Prop := ∃ w, r.ok w ∧ ∀ b ∈ r.ids, H b = w.heap[b]?
theorem Zcf {α : Type} [GoT α] {H H' : Heap} {a : Option Addr} {n cap : Nat} {et : TypeId} {l : List α} {ls : List (List Value)} (h : Zg4 H' (.osl (.slice a n cap) (GoT.sz α) et ls)) (hA : All2 (GoT.rep H) ls l) (hle : Hle H H') : n = l.length ∧ RSl H' a cap l := by
 obtain ⟨w, hok, hb⟩ := h
 exact ZgV hok hA hle fun b hx => hb b (Zj8 hx)
theorem Zla {H : Heap} {b : Nat} {o : Obj} (h : Zg4 H (.blk b o)) : H b = some o := by
 obtain ⟨w, hok, hb⟩ := h
 rw [hb b (by simp [Res.ids])]; exact hok
section rules
variable {P : Program} {ρ ρ' τ σ α : Type} {C : Ctx P ρ} {m m1 m2 : Option τ} {κ : τ → Option ρ} {env : Env} {own : List Res} {H : Heap} {D : List Deferred} {k : Kont}
variable {ds : List (Option Tmp)} {rem : List Oper} {d : Tmp} {ty : TypeId} {pos : String} {af : Array Edge}
theorem Inv.lower2 {w0 w : World} {M : Nat → Prop} {H H1 H' : Heap} {own : List Res} (h : Inv w0 M H1 own H' w) (hs : Hle H H1) : Inv w0 M H own H w :=
 ⟨h.os, h.tape, h.output, h.size, h.same, (hs.trans h.h0).trans h.sub, .refl _, fun b hb => .inl hb, h.ok, h.nd, fun b hb => ⟨by
  cases e : H b with
  | none => rfl
  | some o => exact absurd (((hs.trans h.h0) b o e).symm.trans (h.away b hb).1) (by simp), (h.away b hb).2⟩, h.drawn⟩
theorem Zc5 {f : FuncId} {first cap vs : List Value} {cargs : List Operand} {fo : Operand} {ats : Array TypeId} {Φ : Value → List Res → Prop} [F : TFun P f] (inn rest : List Res)
  (hf : ev env fo = some (.func (.func f) first.toArray cap.toArray)) (ha : evs env cargs = some vs) (hp : own.Perm (inn ++ rest))
  (hF : ∀ H', Hle H H' → (∀ r ∈ rest, Zg4 H' r) → Fn P f (first ++ vs ++ cap) H' inn fun _ v out => Φ v out)
  (h : ∀ v out, Φ v out → Sim C m κ ((d, v) :: env) (rest ++ out) H D (.ops ds rem k)) (hd : Nat.blt d C.n = true := by rfl) :
  Sim C m κ env own H D (.ops ds (⟨some d, .call ⟨.value fo, cargs.toArray, ats⟩, ty, pos, af, none⟩ :: rem) k) := by
 intro r hr w hw tm ht hE
 have hdn : d < tm.size := by rw [ht]; exact ZdZ hd
 have hw' := hw.perm hp
 have hnd := hw'.nd
 rw [ZaS, List.nodup_append] at hnd
 have hrest : ∀ b ∈ ids rest, H b = none := fun b hb => (hw'.away b (by rw [ZaS]; exact List.mem_append.2 (.inr hb))).1
 have hle : Hle H (ZbW H w (ids rest)) := Ze4 hrest
 have hent : Inv w (· ∈ ids inn) (ZbW H w (ids rest)) inn (ZbW H w (ids rest)) w := by
  refine ⟨rfl, rfl, rfl, Nat.le_refl _, fun _ _ _ => rfl, ?_, .refl _, fun b hb => .inl hb, fun r hr => hw'.ok r (List.mem_append.2 (.inl hr)), hnd.1, fun b hb => ⟨?_, (hw'.away b (by rw [ZaS]; exact List.mem_append.2 (.inl hb))).2.1, fun _ => hb⟩, Nat.le_refl _⟩
  ·intro b o hb
   simp only [ZbW] at hb
   split at hb
   ·exact hb
   ·exact hw'.sub b o hb
  ·simp only [ZbW]
   rw [if_neg (fun hbr => hnd.2.2 b hb b hbr rfl)]
   exact (hw'.away b (by rw [ZaS]; exact List.mem_append.2 (.inl hb))).1
 have hlent : ∀ r ∈ rest, Zg4 (ZbW H w (ids rest)) r := fun r hr => ⟨w, hw'.ok r (List.mem_append.2 (.inr hr)), fun b hb => by
  simp only [ZbW]; rw [if_pos (Zdy hr hb)]⟩
 simp only [Pos.go, ROps] at *
 rw [if_pos (show ZcM ds tm none = true from rfl)]
 refine ⟨.inr (fun _ h => by cases h), ?_⟩
 rw [Zgv (first := first) (cap := cap) hE hf ha]
 refine .inl ⟨fun v w'' => ∃ H' out, Inv w (· ∈ ids inn) (ZbW H w (ids rest)) out H' w'' ∧ Φ v out, (hF _ hle hlent w hent).mono fun e w'' h => h, ?_⟩
 rintro v w'' ⟨H', out, hI, hΦ⟩
 have hI2 := Inv.call (C := C) hw' (hI.lower2 hle)
 exact h v out hΦ r hr w'' hI2 (tm.setIfInBounds d v) (by simpa using ht) (hE.put hdn)
end rules
end Go.Cat
namespace Go.Cat
def ZeU (ops : Array Oper) : Bool := (List.range ops.size).all fun i => ((ops[i]?).map fun o => o.after.all fun e => !(Region.binds .any e) || Nat.blt e.on i).getD true
theorem Zng : ∀ (n : Nat) (l : List Nat), l.Nodup → (∀ x ∈ l, x < n) → l.length ≤ n := by
 intro n
 induction n with
 | zero => intro l _ h; cases l with
  | nil => simp
  | cons x l => exact absurd (h x (by simp)) (by omega)
 | succ n ih =>
  intro l hnd h
  by_cases hm : n ∈ l
  ·have h1 := List.length_erase_of_mem hm
   have h2 := ih (l.erase n) (hnd.erase _) (fun x hx => by
    have := h x (List.mem_of_mem_erase hx)
    have hne : x ≠ n := fun e => by subst e; exact (List.Nodup.not_mem_erase hnd) hx
    omega)
   have := List.length_pos_of_mem hm
   omega
  ·have := ih l hnd (fun x hx => by
    have := h x hx
    have hne : x ≠ n := fun e => by subst e; exact hm hx
    omega)
   omega
theorem ZmI (ops : Array Oper) (fuel t : Nat) (listed : Array Bool) : Region.linearise.go .any ops (fuel + 1) t listed [] =
  match (Region.ready .any ops listed)[t % (Region.ready .any ops listed).length]? with
  | some i => i :: Region.linearise.go .any ops fuel (t / (Region.ready .any ops listed).length) (listed.setIfInBounds i true) []
  | none => [] := by
 show (match (Region.ready .any ops listed)[t % (Region.ready .any ops listed).length]? with
  | some i => Region.linearise.go .any ops fuel (t / (Region.ready .any ops listed).length) (listed.setIfInBounds i true) [i]
  | none => ([] : List Nat).reverse) = _
 cases (Region.ready .any ops listed)[t % (Region.ready .any ops listed).length]? with
 | none => rfl
 | some i => simp only []; rw [linearise_go_acc]; rfl
theorem ZmH {ops : Array Oper} (hac : ZeU ops = true) : ∀ (fuel t : Nat) (listed : Array Bool) (A : List Nat), listed.size = ops.size → (∀ j, j < ops.size → (listed.getD j true = true ↔ j ∈ A)) → A.Nodup → (∀ j ∈ A, j < ops.size) → ops.size ≤ A.length + fuel →
  (Region.linearise.go .any ops fuel t listed []).Nodup ∧ (∀ j ∈ Region.linearise.go .any ops fuel t listed [], j ∉ A ∧ j < ops.size) ∧ (∀ j, j < ops.size → j ∈ A ∨ j ∈ Region.linearise.go .any ops fuel t listed []) ∧
  ∀ pre i post, Region.linearise.go .any ops fuel t listed [] = pre ++ i :: post → ∀ o, ops[i]? = some o → ∀ e ∈ o.after, Region.binds .any e = true → e.on ∈ A ∨ e.on ∈ pre := by
 intro fuel
 induction fuel with
 | zero =>
  intro t listed A hs hl hnd hA hfu
  have hall : ∀ j, j < ops.size → j ∈ A := by
   intro j hj
   apply Classical.byContradiction
   intro hn
   have h1 : (j :: A).Nodup := by simp [hnd, hn]
   have := Zng ops.size (j :: A) h1 (fun x hx => by
    rcases List.mem_cons.1 hx with rfl | hx
    ·exact hj
    ·exact hA x hx)
   simp at this
   omega
  simp only [Region.linearise.go, List.reverse_nil]
  exact ⟨List.nodup_nil, by simp, fun j hj => .inl (hall j hj), by simp⟩
 | succ fuel ih =>
  intro t listed A hs hl hnd hA hfu
  rw [ZmI]
  have hready : ∀ i, i ∈ Region.ready .any ops listed ↔ i < ops.size ∧ i ∉ A ∧ ∀ o, ops[i]? = some o → ∀ e ∈ o.after, Region.binds .any e = true → e.on ∈ A := by
   intro i
   unfold Region.ready
   simp only [List.mem_filter, List.mem_range, Bool.and_eq_true, Bool.not_eq_true']
   constructor
   ·rintro ⟨hi, h1, h2⟩
    refine ⟨hi, fun hA' => absurd ((hl i hi).2 hA') (by rw [h1]; simp), fun o ho e he hb => ?_⟩
    rw [ho] at h2
    simp only [Option.map_some, Option.getD_some, Array.all_eq_true_iff_forall_mem] at h2
    have h3 := h2 e he
    rw [hb] at h3
    simp only [Bool.not_true, Bool.false_or] at h3
    have hlt : e.on < ops.size := by
     apply Classical.byContradiction
     intro hge
     simp [Array.getD_eq_getD_getElem?, Array.getElem?_eq_none (by omega : listed.size ≤ e.on)] at h3
    refine (hl e.on hlt).1 ?_
    simp only [Array.getD_eq_getD_getElem?, Array.getElem?_eq_getElem (by omega : e.on < listed.size), Option.getD_some] at h3 ⊢
    exact h3
   ·rintro ⟨hi, h1, h2⟩
    refine ⟨hi, ?_, ?_⟩
    ·cases e : listed.getD i true with
     | false => rfl
     | true => exact absurd ((hl i hi).1 e) h1
    ·have ho : ops[i]? = some ops[i] := Array.getElem?_eq_getElem hi
     rw [ho]
     simp only [Option.map_some, Option.getD_some, Array.all_eq_true_iff_forall_mem]
     intro e he
     cases hb : Region.binds .any e with
     | false => simp
     | true =>
      have hm := h2 _ ho e he hb
      have hlt := hA _ hm
      have := (hl e.on hlt).2 hm
      simp only [Array.getD_eq_getD_getElem?, Array.getElem?_eq_getElem (by omega : e.on < listed.size), Option.getD_some] at this ⊢
      simp [this]
  cases hx : (Region.ready .any ops listed)[t % (Region.ready .any ops listed).length]? with
  | none =>
   have hnil : Region.ready .any ops listed = [] := by
    cases hr : Region.ready .any ops listed with
    | nil => rfl
    | cons x xs =>
     rw [hr] at hx
     have hlt : t % (x :: xs).length < (x :: xs).length := Nat.mod_lt _ (by simp)
     rw [List.getElem?_eq_getElem hlt] at hx
     cases hx
   have hall : ∀ j, j < ops.size → j ∈ A := by
    intro j
    induction j using Nat.strongRecOn with
    | _ j ihj =>
     intro hj
     apply Classical.byContradiction
     intro hn
     have : j ∈ Region.ready .any ops listed := (hready j).2 ⟨hj, hn, fun o ho e he hb => by
      have := List.all_eq_true.1 hac j (List.mem_range.2 hj)
      rw [ho] at this
      simp only [Option.map_some, Option.getD_some, Array.all_eq_true_iff_forall_mem] at this
      have h3 := this e he
      rw [hb] at h3
      simp only [Bool.not_true, Bool.false_or] at h3
      have h4 := ZdZ h3
      exact ihj _ h4 (by omega)⟩
     rw [hnil] at this
     cases this
   exact ⟨List.nodup_nil, by simp, fun j hj => .inl (hall j hj), by simp⟩
  | some i =>
   have hi := (hready i).1 (List.mem_of_getElem? hx)
   obtain ⟨h1, h2, h3, h4⟩ := ih (t / (Region.ready .any ops listed).length) (listed.setIfInBounds i true) (i :: A) (by simpa using hs) (by
    intro j hj
    by_cases hji : j = i
    ·subst hji
     simp [Array.getD_eq_getD_getElem?, Array.getElem?_setIfInBounds_self_of_lt (by omega : j < listed.size)]
    ·have := hl j hj
     simp only [Array.getD_eq_getD_getElem?] at this ⊢
     rw [Array.getElem?_setIfInBounds_ne (fun e => hji e.symm)]
     rw [this]; simp [hji]) (by simp [hnd, hi.2.1]) (by
    intro j hj
    rcases List.mem_cons.1 hj with rfl | hj
    ·exact hi.1
    ·exact hA j hj) (by simp; omega)
   refine ⟨?_, ?_, ?_, ?_⟩
   ·simp only [List.nodup_cons]
    exact ⟨fun hm => (h2 i hm).1 (by simp), h1⟩
   ·intro j hj
    rcases List.mem_cons.1 hj with rfl | hj
    ·exact ⟨hi.2.1, hi.1⟩
    ·exact ⟨fun hA' => (h2 j hj).1 (List.mem_cons_of_mem _ hA'), (h2 j hj).2⟩
   ·intro j hj
    rcases h3 j hj with hA' | hA'
    ·rcases List.mem_cons.1 hA' with rfl | hA'
     ·right; simp
     ·exact .inl hA'
    ·exact .inr (List.mem_cons_of_mem _ hA')
   ·intro pre q post hq o ho e he hb
    cases pre with
    | nil =>
     simp only [List.nil_append, List.cons.injEq] at hq
     obtain ⟨rfl, _⟩ := hq
     exact .inl (hi.2.2 o ho e he hb)
    | cons p pre =>
     simp only [List.cons_append, List.cons.injEq] at hq
     obtain ⟨rfl, hq⟩ := hq
     rcases h4 pre q post hq o ho e he hb with h | h
     ·rcases List.mem_cons.1 h with h | h
      ·right; rw [h]; simp
      ·exact .inl h
     ·exact .inr (List.mem_cons_of_mem _ h)
structure Topo (ops : Array Oper) (l : List Nat) : Prop where
 nd : l.Nodup
 lt : ∀ j ∈ l, j < ops.size
 all : ∀ j, j < ops.size → j ∈ l
 dep : ∀ pre i post, l = pre ++ i :: post → ∀ o, ops[i]? = some o → ∀ e ∈ o.after, Region.binds .any e = true → e.on ∈ pre
theorem Zej {P : Program} {ops : Array Oper} (hm : P.follows .mixedOrders = true) (hac : ZeU ops = true) (t : Nat) : Topo ops (Region.schedule (P.follows .mixedOrders) ops t) := by
 simp only [Region.schedule, hm, Bool.true_or, if_true, Region.linearise]
 obtain ⟨h1, h2, h3, h4⟩ := ZmH hac ops.size t (Array.replicate ops.size false) [] (by simp) (by intro j hj; simp [Array.getD_eq_getD_getElem?, hj]) List.nodup_nil (by simp) (by simp)
 exact ⟨h1, fun j hj => (h2 j hj).2, fun j hj => (h3 j hj).resolve_left (by simp), fun pre i post hq o ho e he hb => (h4 pre i post hq o ho e he hb).resolve_left (by simp)⟩
end Go.Cat
namespace Go.Cat
def ZbJ (o : Oper) : List Nat := (o.after.toList.filter (Region.binds .any)).map (·.on)
def ZgQ (l : List Oper) (mq : Nat) : Bool := (List.range l.length).all fun j => Nat.blt j mq || ((l[j]?).map fun o => (List.range j).all fun i => (ZbJ o).contains i).getD true
def dsOk (env : Env) (n : Nat) : List Oper → Bool
 | [] => true
 | o :: l => (match o.dst with
  | none => true
  | some d => Nat.blt d n && (lk env d).isNone && l.all fun p => p.dst != some d) && dsOk env n l
def ZnP (l : List Oper) (mq : Nat) (con : Nat → List Nat) : Bool :=
 (List.range mq).all fun i => (con i).all (fun j => ((l[i]?).map fun o => (ZbJ o).contains j).getD false) && decide ((con i).Nodup) &&
  (List.range mq).all fun q => Nat.beq i q || (con i).all fun j => !(con q).contains j
def ZcY (l : List Oper) (V : Nat → Value) (js : List Nat) : Env := js.filterMap fun j => ((l[j]?).bind (·.dst)).map fun d => (d, V j)
def live (mq : Nat) (con : Nat → List Nat) : List Nat := (List.range mq).filter fun i => (List.range mq).all fun q => !(con q).contains i
theorem Zdq {l : List Oper} {V : Nat → Value} {env : Env} : ∀ (js : List Nat) (t : Nat) (v : Value), lk (ZcY l V js ++ env) t = some v →
  (∃ j ∈ js, (l[j]?).bind (·.dst) = some t ∧ v = V j) ∨ lk env t = some v := by
 intro js
 induction js with
 | nil => intro t v h; right; simpa [ZcY] using h
 | cons j js ih =>
  intro t v h
  simp only [ZcY, List.filterMap_cons] at h
  cases hd : (l[j]?).bind (·.dst) with
  | none =>
   rw [hd] at h
   rcases ih t v h with ⟨j', h1, h2⟩ | h
   ·exact .inl ⟨j', by simp [h1], h2⟩
   ·exact .inr h
  | some d =>
   rw [hd] at h
   simp only [Option.map_some, List.cons_append, lk] at h
   cases hb : Nat.beq t d with
   | true =>
    have := Nat.eq_of_beq_eq_true hb
    subst this
    simp only [hb, cond_true, Option.some.injEq] at h
    exact .inl ⟨j, by simp, hd, h.symm⟩
   | false =>
    simp only [hb, cond_false] at h
    rcases ih t v h with ⟨j', h1, h2⟩ | h
    ·exact .inl ⟨j', by simp [h1], h2⟩
    ·exact .inr h
theorem Zho {env : Env} {n : Nat} : ∀ {l : List Oper}, dsOk env n l = true → ∀ (i : Nat) (o : Oper) (d : Tmp), l[i]? = some o → o.dst = some d →
  d < n ∧ lk env d = none ∧ ∀ (j : Nat) (p : Oper), i ≠ j → l[j]? = some p → p.dst ≠ some d := by
 intro l
 induction l with
 | nil => intro _ i o d h; simp at h
 | cons x l ih =>
  intro h i o d hi hd
  simp only [dsOk, Bool.and_eq_true] at h
  cases i with
  | zero =>
   simp only [List.getElem?_cons_zero, Option.some.injEq] at hi
   subst hi
   rw [hd] at h
   simp only [Bool.and_eq_true] at h
   refine ⟨ZdZ h.1.1.1, by simpa using h.1.1.2, ?_⟩
   intro j p hij hp
   cases j with
   | zero => exact absurd rfl hij
   | succ j =>
    simp only [List.getElem?_cons_succ] at hp
    have := List.all_eq_true.1 h.1.2 p (List.mem_of_getElem? hp)
    simpa using this
  | succ i =>
   simp only [List.getElem?_cons_succ] at hi
   obtain ⟨h1, h2, h3⟩ := ih h.2 i o d hi hd
   refine ⟨h1, h2, ?_⟩
   intro j p hij hp
   cases j with
   | zero =>
    simp only [List.getElem?_cons_zero, Option.some.injEq] at hp
    subst hp
    intro hxd
    rw [hxd] at h
    simp only [Bool.and_eq_true] at h
    have := List.all_eq_true.1 h.1.2 o (List.mem_of_getElem? hi)
    simp [hd] at this
   | succ j => exact h3 j p (by omega) (by simpa using hp)
section draw
variable {P : Program} {ρ τ : Type} {C : Ctx P ρ} {m : Option τ} {κ : τ → Option ρ} {env : Env} {own : List Res} {H : Heap} {D : List Deferred} {k : List Item}
theorem Znc {i : Nat} {l : List Oper} (mq : Nat) (F : Nat → Heap → Value → List Res → Prop) (con : Nat → List Nat)
  (hm : P.follows .mixedOrders = true) (hmono : ∀ i H H' v g, Hle H H' → F i H v g → F i H' v g)
  (hac : ZeU l.toArray = true) (htail : ZgQ l mq = true) (hds : dsOk env C.n (l.take mq) = true) (hcon : ZnP l mq con = true) (hmq : Nat.ble mq l.length = true)
  (hstep : ∀ i o, i < mq → l[i]? = some o → ∀ (V : Nat → Value) (G : Nat → List Res) H' fr, Hle H H' → (∀ j ∈ ZbJ o, F j H' (V j) (G j)) →
   ∃ (τ' : Type) (mi : Option τ'), mi.isSome = true ∧ ∀ r : ρ, Sim C mi (fun _ => some r) (ZcY l V (ZbJ o) ++ env) (own ++ (con i).flatMap G ++ fr) H' D
    (.ops (l.map (·.dst)) [o] (.pred fun tm' w' => ∃ v g H'', (∀ d, o.dst = some d → tm'[d]? = some v) ∧ Hle H' H'' ∧ Inv C.w0 C.M C.H0 (own ++ g ++ fr) H'' w' ∧ F i H'' v g)))
  (hfin : ∀ (V : Nat → Value) (G : Nat → List Res) H', Hle H H' → (∀ i, i < mq → F i H' (V i) (G i)) →
   Sim C m κ (ZcY l V (List.range mq) ++ env) (own ++ (live mq con).flatMap G) H' D (.ops (l.map (·.dst)) (l.drop mq) (.items k))) :
  Sim C m κ env own H D (.code (.code (.region i l.toArray true) :: k)) := by
 intro r hr w hw tm ht hE
 refine Zd6 fun t => ?_
 have hT := Zej (ops := l.toArray) hm hac t
 generalize Region.schedule (P.follows .mixedOrders) l.toArray t = sch at hT
 have hw1 : Inv C.w0 C.M C.H0 own H { w with drawn := w.drawn + 1 } := hw.quiet rfl rfl rfl rfl
 generalize ({ w with drawn := w.drawn + 1 } : World) = w1 at hw1
 have hmq' : mq ≤ l.length := Nat.le_of_ble_eq_true hmq
 have hget : ∀ i : Nat, (l.toArray[i]?) = l[i]? := fun i => by simp
 have hdst : ∀ i o d, i < mq → l[i]? = some o → o.dst = some d → d < C.n ∧ lk env d = none ∧ ∀ j p, j < mq → i ≠ j → l[j]? = some p → p.dst ≠ some d := by
  intro i o d hi ho hd
  obtain ⟨h1, h2, h3⟩ := Zho hds i o d (by rw [List.getElem?_take_of_lt hi]; exact ho) hd
  exact ⟨h1, h2, fun j p hj hij hp => h3 j p hij (by rw [List.getElem?_take_of_lt hj]; exact hp)⟩
 have hconI : ∀ i, i < mq → (∀ j ∈ con i, ∃ o, l[i]? = some o ∧ j ∈ ZbJ o) ∧ (con i).Nodup ∧ ∀ q, q < mq → i ≠ q → ∀ j ∈ con i, j ∉ con q := by
  intro i hi
  have := List.all_eq_true.1 hcon i (List.mem_range.2 hi)
  rw [Bool.and_eq_true, Bool.and_eq_true, decide_eq_true_eq] at this
  refine ⟨fun j hj => ?_, this.1.2, fun q hq hiq j hj hjq => ?_⟩
  ·have h1 := List.all_eq_true.1 this.1.1 j hj
   cases ho : l[i]? with
   | none => rw [ho] at h1; simp at h1
   | some o => rw [ho] at h1; exact ⟨o, rfl, by simpa using h1⟩
  ·have h2 := List.all_eq_true.1 this.2 q (List.mem_range.2 hq)
   rw [Bool.or_eq_true] at h2
   rcases h2 with h2 | h2
   ·exact hiq (Nat.eq_of_beq_eq_true h2)
   ·have := List.all_eq_true.1 h2 j hj
    simp [hjq] at this
 have hdep : ∀ pre i post, sch = pre ++ i :: post → ∀ o, l[i]? = some o → ∀ j ∈ ZbJ o, j ∈ pre := by
  intro pre i post hq o ho j hj
  simp only [ZbJ, List.mem_map, List.mem_filter] at hj
  obtain ⟨e, ⟨he, hb⟩, rfl⟩ := hj
  exact hT.dep pre i post hq o (by rw [hget]; exact ho) e (by simpa using he) hb
 have main : ∀ (rest pre : List Nat) (tm : Array Value) (w : World), sch = pre ++ rest → (∀ x ∈ pre, x < mq) → (∀ q ∈ pre, ∀ j ∈ con q, j ∈ pre) →
   (∃ (V : Nat → Value) (G : Nat → List Res) (H' : Heap) (L : List Nat), Hle H H' ∧ (∀ i ∈ pre, F i H' (V i) (G i)) ∧ tm.size = C.n ∧ EnvOk env tm ∧
    (∀ i ∈ pre, ∀ o d, l[i]? = some o → o.dst = some d → tm[d]? = some (V i)) ∧ L.Nodup ∧ (∀ x, x ∈ L ↔ x ∈ pre ∧ ∀ q ∈ pre, x ∉ con q) ∧ Inv C.w0 C.M C.H0 (own ++ L.flatMap G) H' w) →
   Go (C.T r) C.b tm D (.inRegion l.toArray rest :: k) w := by
  intro rest
  induction rest with
  | nil =>
   rintro pre tm w hsch hlt hcp ⟨V, G, H', L, hle, hF, htm, hE, htmp, hLn, hLm, hI⟩
   rw [List.append_nil] at hsch
   have hall : ∀ j, j < l.length → j ∈ pre := fun j hj => by rw [← hsch]; exact hT.all j (by simpa using hj)
   have hmql : mq = l.length := by
    apply Classical.byContradiction
    intro hne
    have := hlt _ (hall mq (by omega))
    omega
   have hLp : L.Perm (live mq con) := by
    unfold live
    rw [List.perm_ext_iff_of_nodup hLn (List.nodup_range.filter _)]
    intro a
    rw [hLm]
    simp only [List.mem_filter, List.mem_range, List.all_eq_true, Bool.not_eq_true', List.contains_eq_mem, decide_eq_false_iff_not]
    constructor
    ·rintro ⟨h1, h2⟩; exact ⟨hlt a h1, fun q hq => h2 q (hall q (by omega))⟩
    ·rintro ⟨h1, h2⟩; exact ⟨hall a (by omega), fun q hq => h2 q (hlt q hq)⟩
   have hfin' := hfin V G H' hle (fun i hi => hF i (hall i (by omega))) r hr w (hI.perm ((List.perm_append_left_iff _).2 (hLp.flatMap_right G))) tm htm (by
    intro t v hl'
    rcases Zdq _ t v hl' with ⟨j, hj, hd, rfl⟩ | h
    ·have hjm := List.mem_range.1 hj
     cases ho : l[j]? with
     | none => rw [ho] at hd; cases hd
     | some o => rw [ho] at hd; exact htmp j (hall j (by omega)) o t ho hd
    ·exact hE t v h)
   rw [hmql, List.drop_length] at hfin'
   exact ZdN hfin'
  | cons i rest ih =>
   rintro pre tm w hsch hlt hcp ⟨V, G, H', L, hle, hF, htm, hE, htmp, hLn, hLm, hI⟩
   have hil : i < l.length := by have := hT.lt i (by rw [hsch]; simp); simpa using this
   have ho : l[i]? = some l[i] := List.getElem?_eq_getElem hil
   have hinp : i ∉ pre := by
    have := hT.nd
    rw [hsch, List.nodup_append] at this
    intro hx
    exact this.2.2 i hx i (by simp) rfl
   have hdeps := hdep pre i rest hsch _ ho
   by_cases hiq : i < mq
   ·
    have hconi := hconI i hiq
    have hcpre : ∀ j ∈ con i, j ∈ pre := fun j hj => by
     obtain ⟨o, ho', hj'⟩ := hconi.1 j hj
     rw [ho] at ho'; cases ho'
     exact hdeps j hj'
    have hcL : ∀ j ∈ con i, j ∈ L := fun j hj => (hLm j).2 ⟨hcpre j hj, fun q hq => (hconi.2.2 q (hlt q hq) (fun e => hinp (e ▸ hq)) j hj)⟩
    have hLp : L.Perm (con i ++ L.filter fun x => !(con i).contains x) := by
     rw [List.perm_ext_iff_of_nodup hLn (by
      rw [List.nodup_append]
      refine ⟨hconi.2.1, hLn.filter _, ?_⟩
      rintro a ha b hb rfl
      simp only [List.mem_filter, Bool.not_eq_true', List.contains_eq_mem, decide_eq_false_iff_not] at hb
      exact hb.2 ha)]
     intro a
     simp only [List.mem_append, List.mem_filter, Bool.not_eq_true', List.contains_eq_mem, decide_eq_false_iff_not]
     constructor
     ·intro h; by_cases ha : a ∈ con i
      ·exact .inl ha
      ·exact .inr ⟨h, ha⟩
     ·rintro (h | h)
      ·exact hcL a h
      ·exact h.1
    have hI1 : Inv C.w0 C.M C.H0 (own ++ (con i).flatMap G ++ (L.filter fun x => !(con i).contains x).flatMap G) H' w :=
     hI.perm (by
      rw [List.append_assoc]
      refine (List.perm_append_left_iff _).2 ?_
      have := hLp.flatMap_right G
      rw [List.flatMap_append] at this
      exact this)
    obtain ⟨τ', mi, hmi, hS⟩ := hstep i _ hiq ho V G H' ((L.filter fun x => !(con i).contains x).flatMap G) hle (fun j hj => hF j (hdeps j hj))
    have hrun := hS r r (by cases mi with
     | none => simp at hmi
     | some x => rfl) w hI1 tm htm (by
     intro t v hl'
     rcases Zdq _ t v hl' with ⟨j, hj, hd, rfl⟩ | h
     ·cases hoj : l[j]? with
      | none => rw [hoj] at hd; cases hd
      | some o => rw [hoj] at hd; exact htmp j (hdeps j hj) o t hoj hd
     ·exact hE t v h)
    have hsch' : sch = (pre ++ [i]) ++ rest := by rw [hsch]; simp
    have hnext : ∀ (v : Value) (w' : World), (∃ v' g H'', (∀ d, (l[i]).dst = some d → (putT tm (l[i]).dst v)[d]? = some v') ∧ Hle H' H'' ∧ Inv C.w0 C.M C.H0 (own ++ g ++ (L.filter fun x => !(con i).contains x).flatMap G) H'' w' ∧ F i H'' v' g) →
      Go (C.T r) C.b (putT tm (l[i]).dst v) D (.inRegion l.toArray rest :: k) w' := by
     rintro v w' ⟨v', g, H'', hd, hle', hI', hFi⟩
     refine ih (pre ++ [i]) _ w' hsch' (by
      intro x hx
      rcases List.mem_append.1 hx with hx | hx
      ·exact hlt x hx
      ·simp at hx; subst hx; exact hiq) (by
      intro q hq j hj
      rcases List.mem_append.1 hq with hq | hq
      ·exact List.mem_append.2 (.inl (hcp q hq j hj))
      ·simp at hq; subst hq; exact List.mem_append.2 (.inl (hcpre j hj))) ?_
     refine ⟨fun j => if j = i then v' else V j, fun j => if j = i then g else G j, H'', i :: L.filter (fun x => !(con i).contains x), hle.trans hle', ?_, ?_, ?_, ?_, ?_, ?_, ?_⟩
     ·intro j hj
      rcases List.mem_append.1 hj with hj | hj
      ·have hne : j ≠ i := fun e => hinp (e ▸ hj)
       simp only [hne, if_false]
       exact hmono j H' H'' _ _ hle' (hF j hj)
      ·simp at hj; subst hj; simp only [if_true]; exact hFi
     ·cases (l[i]).dst <;> simp [putT, htm]
     ·intro t u hu
      have h0 := hE t u hu
      cases hdd : (l[i]).dst with
      | none => simpa [putT] using h0
      | some d =>
       have hne : d ≠ t := fun e => by
        have := (hdst i _ d hiq ho hdd).2.1
        rw [e, hu] at this; cases this
       simp only [putT]
       rw [Array.getElem?_setIfInBounds_ne hne]
       exact h0
     ·intro j hj o d hoj hdj
      rcases List.mem_append.1 hj with hj | hj
      ·have hne : j ≠ i := fun e => hinp (e ▸ hj)
       simp only [hne, if_false]
       have h0 := htmp j hj o d hoj hdj
       cases hdd : (l[i]).dst with
       | none => simpa [putT] using h0
       | some d' =>
        have hne' : d' ≠ d := fun e => (hdst i _ d' hiq ho hdd).2.2 j o (hlt j hj) (fun e => hne e.symm) hoj (e ▸ hdj)
        simp only [putT]
        rw [Array.getElem?_setIfInBounds_ne hne']
        exact h0
      ·simp at hj; subst hj
       simp only [if_true]
       rw [ho] at hoj; cases hoj
       exact hd d hdj
     ·simp only [List.nodup_cons]
      refine ⟨fun hx => ?_, hLn.filter _⟩
      have := ((hLm i).1 (List.mem_filter.1 hx).1).1
      exact hinp this
     ·intro x
      simp only [List.mem_cons, List.mem_filter, hLm, Bool.not_eq_true', List.contains_eq_mem, decide_eq_false_iff_not, List.mem_append, List.not_mem_nil, or_false]
      constructor
      ·rintro (rfl | ⟨⟨h1, h2⟩, h3⟩)
       ·refine ⟨.inr rfl, ?_⟩
        rintro q (hq | rfl) hx
        ·exact hinp (hcp q hq _ hx)
        ·exact hinp (hcpre _ hx)
       ·refine ⟨.inl h1, ?_⟩
        rintro q (hq | rfl) hx
        ·exact h2 q hq hx
        ·exact h3 hx
      ·rintro ⟨h1 | rfl, h2⟩
       ·right; exact ⟨⟨h1, fun q hq => h2 q (.inl hq)⟩, h2 i (.inr rfl)⟩
       ·left; rfl
     ·have hfe : (L.filter fun x => !(con i).contains x).flatMap (fun j => if j = i then g else G j) = (L.filter fun x => !(con i).contains x).flatMap G := by
       have hcongr : ∀ (L' : List Nat) (f f' : Nat → List Res), (∀ x ∈ L', f x = f' x) → L'.flatMap f = L'.flatMap f' := by
        intro L' f f' hff
        induction L' with
        | nil => rfl
        | cons y L' ihL => simp [hff y (by simp), ihL fun x hx => hff x (by simp [hx])]
       apply hcongr
       intro x hx
       have hne : x ≠ i := fun e => hinp (e ▸ ((hLm x).1 (List.mem_filter.1 hx).1).1)
       simp [hne]
      simp only [List.flatMap_cons, if_true, hfe]
      rw [← List.append_assoc]
      exact hI'
    simp only [Pos.go, ROps, Kont.fin] at hrun
    by_cases hwd : Region.wanted (l[i]) (yielded l.toArray tm) = true
    ·have := Zdv l.toArray tm (l[i])
     simp only at this
     rw [this, if_pos hwd] at hrun
     obtain ⟨hp, hrun⟩ := hrun
     have ho' : l.toArray[i]? = some l[i] := by rw [hget]; exact ho
     split at hrun
     ·exact Zep ho' hwd hp (by assumption) (hnext _ _ hrun)
     ·exact ZdO ho' hwd hp (by assumption) (hnext _ _ hrun)
     ·rcases hrun with ⟨R, hc, hk⟩ | ⟨RP, hc, hk⟩
      ·exact Zfc ho' hwd hp (by assumption) hc fun v w'' hR => hnext v w'' (hk v w'' hR)
      ·exact Zes ho' hwd hp (by assumption) hc hk
     ·exact Zer ho' hwd hp (by assumption) hrun
     ·obtain ⟨R, hc, hk⟩ := hrun
      exact Zeq ho' hwd hp (by assumption) hc fun v w'' hR => hnext v w'' (hk v w'' hR)
     ·exact hrun.elim
    ·have := Zdv l.toArray tm (l[i])
     simp only at this
     rw [this, if_neg hwd] at hrun
     have ho' : l.toArray[i]? = some l[i] := by rw [hget]; exact ho
     exact Zfb ho' (by simpa using hwd) (hnext _ _ hrun)
   ·
    have hge : mq ≤ i := Nat.le_of_not_lt hiq
    have htl : ∀ j, mq ≤ j → ∀ o, l[j]? = some o → ∀ x, x < j → x ∈ ZbJ o := by
     intro j hj o hoj x hx
     have hjl : j < l.length := (List.getElem?_eq_some_iff.1 hoj).1
     have := List.all_eq_true.1 htail j (List.mem_range.2 hjl)
     rw [Bool.or_eq_true] at this
     rcases this with h | h
     ·exact absurd (ZdZ h) (by omega)
     ·rw [hoj] at h
      have := List.all_eq_true.1 h x (List.mem_range.2 hx)
      simpa using this
    have hall : ∀ j, j < mq → j ∈ pre := fun j hj => hdeps j (htl i hge _ ho j (by omega))
    have hieq : i = mq := by
     apply Classical.byContradiction
     intro hne
     have := hlt mq (hdeps mq (htl i hge _ ho mq (by omega)))
     omega
    have hrange : ∀ (rest' pre' : List Nat) (c : Nat), sch = pre' ++ rest' → (∀ x, x ∈ pre' ↔ x < c) → mq ≤ c → c ≤ l.length → rest' = List.range' c (l.length - c) := by
     intro rest'
     induction rest' with
     | nil =>
      intro pre' c hs hp hc hcl
      rw [List.append_nil] at hs
      have : l.length = c := by
       apply Classical.byContradiction
       intro hne
       have : c ∈ pre' := by rw [← hs]; exact hT.all c (by simp; omega)
       rw [hp] at this; omega
      simp [this]
     | cons q rest' ihr =>
      intro pre' c hs hp hc hcl
      have hq : q < l.length := by have := hT.lt q (by rw [hs]; simp); simpa using this
      have hqp : q ∉ pre' := by
       have := hT.nd
       rw [hs, List.nodup_append] at this
       intro hx; exact this.2.2 q hx q (by simp) rfl
      have hqc : ¬ q < c := fun h => hqp ((hp q).2 h)
      have : q = c := by
       apply Classical.byContradiction
       intro hne
       have := hdep pre' q rest' hs _ (List.getElem?_eq_getElem hq) c (htl q (by omega) _ (List.getElem?_eq_getElem hq) c (by omega))
       rw [hp] at this; omega
      subst this
      rw [show l.length - q = (l.length - (q + 1)) + 1 by omega, List.range'_succ]
      congr 1
      exact ihr (pre' ++ [q]) (q + 1) (by rw [hs]; simp) (by intro x; simp [hp]; omega) (by omega) (by omega)
    have hrest : i :: rest = List.range' mq (l.length - mq) := hrange (i :: rest) pre mq hsch (fun x => ⟨hlt x, hall x⟩) (Nat.le_refl _) hmq'
    have hLp : L.Perm (live mq con) := by
     unfold live
     rw [List.perm_ext_iff_of_nodup hLn (List.nodup_range.filter _)]
     intro a
     rw [hLm]
     simp only [List.mem_filter, List.mem_range, List.all_eq_true, Bool.not_eq_true', List.contains_eq_mem, decide_eq_false_iff_not]
     constructor
     ·rintro ⟨h1, h2⟩; exact ⟨hlt a h1, fun q hq => h2 q (hall q hq)⟩
     ·rintro ⟨h1, h2⟩; exact ⟨hall a h1, fun q hq => h2 q (hlt q hq)⟩
    have hfin' := hfin V G H' hle (fun i hi => hF i (hall i hi)) r hr w (hI.perm ((List.perm_append_left_iff _).2 (hLp.flatMap_right G))) tm htm (by
     intro t v hl'
     rcases Zdq _ t v hl' with ⟨j, hj, hd, rfl⟩ | h
     ·have hjm := List.mem_range.1 hj
      cases hoj : l[j]? with
      | none => rw [hoj] at hd; cases hd
      | some o => rw [hoj] at hd; exact htmp j (hall j hjm) o t hoj hd
     ·exact hE t v h)
    have := Zfd (ops := l.toArray) (l.drop mq) (l.take mq) tm w (by simp) hfin'
    rw [hrest]
    simpa [List.length_take, Nat.min_eq_left hmq'] using this
 exact main sch [] tm w1 (by simp) (by simp) (by simp) ⟨fun _ => undef, fun _ => [], H, [], .refl _, by simp, ht, hE, by simp, List.nodup_nil, by simp, by simpa using hw1⟩
end draw
end Go.Cat
namespace Go.Cat
def res1 (tm : Array Value) : ResultVar → Sem Value
 | .tmp t => pure (tm.getD t undef)
 | .cell a t => do loadVar t (← asAddr (tm.getD a undef))
def RV {P : Program} {ρ : Type} (C : Ctx P ρ) (env : Env) (own : List Res) (H : Heap) (x : ResultVar) (v : Value) : Prop :=
 ∀ tm w, EnvOk env tm → Inv C.w0 C.M C.H0 own H w → (res1 tm x).run P w = .ok v w
def RVs {P : Program} {ρ : Type} (C : Ctx P ρ) (env : Env) (own : List Res) (H : Heap) : List ResultVar → List Value → Prop
 | [], [] => True
 | x :: xs, v :: vs => RV C env own H x v ∧ RVs C env own H xs vs
 | _, _ => False
def resv : List Value → Value
 | [v] => v
 | vs => .tuple vs.toArray
section rv
variable {P : Program} {ρ : Type} {C : Ctx P ρ} {env : Env} {own : List Res} {H : Heap}
theorem Zaz {t : Tmp} {v : Value} (h : lk env t = some v) : RV C env own H (.tmp t) v := by
 intro tm w hE _
 have := hE t v h
 simp [res1, Array.getD_eq_getD_getElem?, this]
theorem Zft (i : Nat) {t : Tmp} {ty T : TypeId} {b off n : Nat} {ag : Bool} {cs : List Value} [L : TLay P ty n ag] (h : lk env t = some (.pointer (some ⟨b, off, none⟩))) (ho : own[i]? = some (.blk b (Zak cs T))) (hn : Nat.ble (off + n) cs.length = true) {v : Value} (hv : mkv ag (subc cs off n) = v) :
  RV C env own H (.cell t ty) v := by
 subst hv
 intro tm w hE hI
 have := hE t _ h
 have hb : w.heap[b]? = some (.cells cs.toArray T (0, 0)) := Zco hI ho
 have hl := Zdb (P := P) (off := off) (n := n) (ag := ag) (ty := ty) hb (by simpa using Nat.le_of_ble_eq_true hn)
 unfold Instr.loadAt Instr.sureAddr at hl
 simp only [pure_bind] at hl
 simp only [res1, Array.getD_eq_getD_getElem?, this, Option.getD_some, asAddr, pure_bind, hl]
theorem Zfu {fn : Func} {xs : List ResultVar} {vs : List Value} {tm : Array Value} {w : World} (hr : fn.results.toList = xs) (h : RVs C env own H xs vs) (hE : EnvOk env tm) (hI : Inv C.w0 C.M C.H0 own H w) :
  (results fn tm).run P w = .ok (resv vs) w := by
 have key : ∀ (xs : List ResultVar) (vs : List Value), RVs C env own H xs vs → (xs.mapM (res1 tm)).run P w = .ok vs w := by
  intro xs
  induction xs with
  | nil => intro vs h; cases vs with
   | nil => rfl
   | cons v vs => exact h.elim
  | cons x xs ih =>
   intro vs h
   cases vs with
   | nil => exact h.elim
   | cons v vs =>
    simp only [List.mapM_cons, Sem.run_bind, h.1 tm w hE hI, Result.andThen_ok, ih vs h.2, Sem.run_pure]
 have hm : (fn.results.mapM (res1 tm)).run P w = .ok vs.toArray w := by
  have := key xs vs h
  rw [← hr] at this
  have e : fn.results.mapM (res1 tm) = (List.toArray <$> fn.results.toList.mapM (res1 tm)) := by
   rw [← Array.mapM_eq_mapM_toList]
  rw [e, Sem.run_map, this]
  rfl
 have hd : results fn tm = (do let vs ← fn.results.mapM (res1 tm); pure (if h : vs.size = 1 then vs[0] else .tuple vs)) := rfl
 rw [hd, Sem.run_bind, hm]
 simp only [Result.andThen_ok, Sem.run_pure]
 congr 1
 cases vs with
 | nil => rfl
 | cons v vs => cases vs with
  | nil => rfl
  | cons u vs => simp [resv]
end rv
section ends
variable {P : Program} {ρ : Type} {f : FuncId} {n : Nat} {w0 : World} {M : Nat → Prop} {H0 : Heap} {Φ : ρ → Heap → Value → List Res → Prop} {r : ρ} {env : Env} {own : List Res} {H : Heap} {k : List Item} {fn : Func}
theorem ZaF {xs : List ResultVar} {vs : List Value} (own' : List Res) (hf : P.funcs[f]? = some fn) (hr : fn.results.toList = xs) (hv : RVs (ZhS P f n w0 M H0 Φ) env own H xs vs) (hs : own'.Sublist own) (hΦ : Φ r H (resv vs) own') :
  Sim (ZhS P f n w0 M H0 Φ) (some r) some env own H [] (.code (.code .ret :: k)) := by
 intro r' hr' w hw tm ht hE
 simp at hr'; subst hr'
 exact Zkc hf (v := resv vs) (Zfu hr hv hE hw) ⟨_, rfl, H, own', hw.sublist hs, hΦ⟩
theorem ZgT {xs : List ResultVar} {vs : List Value} (own' : List Res) (hf : P.funcs[f]? = some fn) (hr : fn.results.toList = xs) (hv : RVs (ZhS P f n w0 M H0 Φ) env own H xs vs) (hs : own'.Sublist own) (hΦ : Φ r H (resv vs) own') :
  Sim (ZhS P f n w0 M H0 Φ) (some r) some env own H [] (.code []) := by
 intro r' hr' w hw tm ht hE
 simp at hr'; subst hr'
 exact Zkf hf (v := resv vs) (Zfu hr hv hE hw) ⟨_, rfl, H, own', hw.sublist hs, hΦ⟩
end ends
section mid
variable {P : Program} {ρ τ : Type} {C : Ctx P ρ} {m m' : Option τ} {κ : τ → Option ρ} {env : Env} {own : List Res} {H : Heap} {D : List Deferred} {K : List Item} {p : Pos} {ds : List (Option Tmp)} {rem : List Oper}
theorem s_eq (h : m = m') (hs : Sim C m' κ env own H D p) : Sim C m κ env own H D p := h ▸ hs
theorem Zfs (env' : Env) (own' : List Res) (hJ : Sim C m κ env' own' H D (.code K)) (hM : Sim C m κ env' own' H D (.ops ds [] (.items K)) → Sim C m κ env own H D (.ops ds rem (.items K))) : Sim C m κ env own H D (.ops ds rem (.items K)) := hM (Zac hJ)
theorem lkb {t : Nat} {a b : Bool} (h : lk env t = some (.bool a)) (e : a = b) : lk env t = some (.bool b) := e ▸ h
end mid
def EqN (P : Program) (n : Nat) (t : TypeId) (a b : Value) (r : Bool) : Prop := ∀ d w, (Op.equalIn (d + n) t a b).run P w = .ok r w
def FsN (P : Program) (n : Nat) (xs ys : List Value) (fs : List Field) (r : Bool) : Prop := ∀ d w, (Op.eqFields (d + n) xs.toArray ys.toArray fs).run P w = .ok r w
def Zlu (d : Nat) (e : TypeId) (sz : Nat) (xs ys : List Value) (i : Nat) : Sem (ForInStep (Option Bool × PUnit)) := do
 let a ← part e xs.toArray (i * sz)
 let b ← part e ys.toArray (i * sz)
 let c ← Op.equalIn d e a b
 if (!c) = true then pure (ForInStep.done (some false, ())) else pure (ForInStep.yield (none, ()))
def EsN (P : Program) (n : Nat) (e : TypeId) (sz : Nat) (xs ys : List Value) (is : List Nat) (r : Bool) : Prop :=
 ∀ d w, (forIn (m := Sem) is ((none : Option Bool), PUnit.unit) fun i _ => Zlu (d + n) e sz xs ys i).run P w = Result.ok (if r then (none, ()) else (some false, ())) w
section eqn
variable {P : Program}
theorem Zc6 {t : TypeId} {K K' : IntKind} {a b : Int} (U : P.underlying t = some (.int K')) : EqN P 1 t (.int K a) (.int K b) (a == b) := fun d w => run_equalIn_int (P := P) w d t K K' a b U
theorem ZnM {t : TypeId} {n : Nat} {a b : Value} {r : Bool} (k : Nat) (h : EqN P n t a b r) : EqN P (n + k) t a b r := fun d w => by
 have := h (d + k) w
 rw [show d + k + n = d + (n + k) by omega] at this
 exact this
theorem Zij {n : Nat} {xs ys : List Value} : FsN P n xs ys [] true := fun d w => by simp [Op.eqFields]
theorem ZdF {n sz : Nat} {ag : Bool} {xs ys : List Value} {f : Field} {fs : List Field} {r s : Bool} [L : TLay P f.type sz ag] (hn : (f.name == "_") = false) (h1 : Nat.ble (f.offset + sz) xs.length = true) (h2 : Nat.ble (f.offset + sz) ys.length = true)
  (he : EqN P n f.type (mkv ag (subc xs f.offset sz)) (mkv ag (subc ys f.offset sz)) r) (hr : FsN P n xs ys fs s) : FsN P n xs ys (f :: fs) (r && s) := fun d w => by
 have hn' : f.name ≠ "_" := by simpa using hn
 have p1 := Ze5 (P := P) (w := w) L.size L.agg L.one (cs := xs.toArray) (off := f.offset) (by simpa using Nat.le_of_ble_eq_true h1)
 have p2 := Ze5 (P := P) (w := w) L.size L.agg L.one (cs := ys.toArray) (off := f.offset) (by simpa using Nat.le_of_ble_eq_true h2)
 simp only [] at p1 p2
 rw [Op.eqFields]
 simp only [if_pos hn', Sem.run_bind, p1, p2, Result.andThen_ok, he d w]
 cases r
 ·simp
 ·simpa using hr d w
theorem Zf0 {n : Nat} {t : TypeId} {fs : Array Field} {xs ys : List Value} {r : Bool} (hu : P.underlying t = some (.struct fs)) (hp : P.stoodInHeld t = false) (h : FsN P n xs ys fs.toList r) : EqN P (n + 1) t (.agg xs.toArray) (.agg ys.toArray) r := fun d w => by
 have hf : P.fieldsOf t = fs := by simp [Program.fieldsOf, hu]
 have := run_equalIn_struct (P := P) w (d + n) t xs.toArray ys.toArray (by rw [hf]; exact hu) hp
 rw [show d + (n + 1) = d + n + 1 by omega, this, hf]
 exact h d w
theorem Zkt {n : Nat} {e : TypeId} {sz : Nat} {xs ys : List Value} : EsN P n e sz xs ys [] true := fun d w => by simp
theorem Zfe {n sz : Nat} {ag : Bool} {e : TypeId} {xs ys : List Value} {i : Nat} {is : List Nat} {r s : Bool} [L : TLay P e sz ag] (h1 : Nat.ble (i * sz + sz) xs.length = true) (h2 : Nat.ble (i * sz + sz) ys.length = true)
  (he : EqN P n e (mkv ag (subc xs (i * sz) sz)) (mkv ag (subc ys (i * sz) sz)) r) (hr : EsN P n e sz xs ys is s) : EsN P n e sz xs ys (i :: is) (r && s) := fun d w => by
 have p1 := Ze5 (P := P) (w := w) L.size L.agg L.one (cs := xs.toArray) (off := i * sz) (by simpa using Nat.le_of_ble_eq_true h1)
 have p2 := Ze5 (P := P) (w := w) L.size L.agg L.one (cs := ys.toArray) (off := i * sz) (by simpa using Nat.le_of_ble_eq_true h2)
 simp only [] at p1 p2
 rw [List.forIn_cons]
 unfold Zlu
 simp only [Sem.run_bind, p1, p2, Result.andThen_ok, he d w]
 cases r
 ·simp
 ·have := hr d w
  unfold Zlu at this
  simpa using this
theorem ZhU {n len sz : Nat} {t e : TypeId} {xs ys : List Value} {r : Bool} (hu : P.underlying t = some (.array len e)) (hs : ∀ w, (sizeOf e).run P w = .ok sz w) (h : EsN P n e sz xs ys (List.range' 0 len) r) : EqN P (n + 1) t (.agg xs.toArray) (.agg ys.toArray) r := fun d w => by
 rw [show d + (n + 1) = d + n + 1 by omega]
 unfold Op.equalIn
 rw [Sem.run_bind, run_underlying hu]
 simp only [Result.andThen_ok, Sem.run_bind, hs]
 have h1 := h d w
 have h2 : (forIn (m := Sem) [:len] ((none : Option Bool), PUnit.unit) fun i _ => Zlu (d + n) e sz xs ys i).run P w = Result.ok (if r then (none, ()) else (some false, ())) w := by
  rw [Std.Legacy.Range.forIn_eq_forIn_range']
  simpa [Std.Legacy.Range.size] using h1
 have h3 : (forIn (m := Sem) [:len] ((none : Option Bool), PUnit.unit) fun i __s => (do
   let a ← part e xs.toArray (i * sz)
   let b ← part e ys.toArray (i * sz)
   let c ← Op.equalIn (d + n) e a b
   if (!c) = true then pure (ForInStep.done (some false, ())) else pure (ForInStep.yield (none, ())) : Sem (ForInStep (Option Bool × PUnit)))).run P w = Result.ok (if r then (none, ()) else (some false, ())) w := h2
 rw [h3]
 cases r <;> simp
theorem ZiA {t : TypeId} {α : Type} [DecidableEq α] [GoE α] (n : Nat) (hn : n ≤ 10000) (h : ∀ a b : α, EqN P n t (.agg (GoE.enc a).toArray) (.agg (GoE.enc b).toArray) (decide (a = b))) (hg : P.eqGuardType P.depth t = false) : TEq P t α := {
 eq := fun a b w => by
  have := h a b (10000 - n) w
  rw [show 10000 - n + n = 10000 by omega] at this
  exact this
 guard := hg }
end eqn
end Go.Cat
namespace Go.Cat
section lj
variable {P : Program} {ρ τ σ : Type} {C : Ctx P ρ} {κ : τ → Option ρ} {env : Env} {own : List Res} {H : Heap} {D : List Deferred} {ds : List (Option Tmp)} {rem : List Oper}
theorem ZbR {f : σ → Option τ} {m : Option (LX τ σ)} {c : Item} {K : List Item} (I : σ → Env → List Res → Heap → Prop)
  (hJ : ∀ s env own H, I s env own H → Sim C (f s) κ env own H D (.code K))
  (hM : (∀ s env own H, I s env own H → Sim C (some (LX.out s)) (fun y => (LX.go f y).bind κ) env own H D (.code K)) → Sim C m (fun y => (LX.go f y).bind κ) env own H D (.code (c :: K))) :
  Sim C (m.bind (LX.go f)) κ env own H D (.code (c :: K)) :=
 ZeJ (hM fun s env own H hI => s_out (fun r hr w hw tm ht he => hJ s env own H hI r hr w hw tm ht he))
theorem Zb7 {α : Type} [E : GoE α] {H : Heap} {ls : List (List Value)} {l : List α} (h : All2 (GoT.rep H) ls l) : ls = l.map E.enc := by
 apply List.ext_getElem
 ·simp [h.1]
 ·intro i h1 h2
  have := h.2 i h1 (by simpa using h2)
  simp only [List.getElem_map]
  exact this
end lj
end Go.Cat
namespace Go.Cat
theorem Zcd {α : Type} {R : List Value → α → Prop} {vs : List Value} {a : α} {ls : List (List Value)} {l : List α} (h : R vs a) (k : All2 R ls l) : All2 R (vs :: ls) (a :: l) :=
 (ZlF h).append k
theorem All2.set {α : Type} {R : List Value → α → Prop} {vs : List Value} {a : α} {ls : List (List Value)} {l : List α} {i : Nat} (h : All2 R ls l) (k : R vs a) : All2 R (ls.set i vs) (l.set i a) := by
 refine ⟨by simp [h.1], fun j h1 h2 => ?_⟩
 simp only [List.length_set] at h1 h2
 rw [List.getElem_set, List.getElem_set]
 split
 ·exact k
 ·exact h.2 j h1 h2
section rules
variable {P : Program} {ρ ρ' τ σ α : Type} {C : Ctx P ρ} {m m1 m2 : Option τ} {κ : τ → Option ρ} {env : Env} {own : List Res} {H : Heap} {D : List Deferred} {k : Kont} {p : Pos}
variable {ds : List (Option Tmp)} {rem : List Oper} {d : Tmp} {ty : TypeId} {pos : String} {af : Array Edge}
theorem Zax (c : Bool) (h1 : c = true → Sim C m1 κ env own H D p) (h2 : c = false → Sim C m2 κ env own H D p) : Sim C (if c = true then m1 else m2) κ env own H D p := s_ite h1 h2
theorem Zcw (c : Bool) (h1 : c = true → Sim C m κ env own H D p) (h2 : c = false → Sim C m κ env own H D p) : Sim C m κ env own H D p := by
 cases c with
 | true => exact h1 rfl
 | false => exact h2 rfl
theorem ZcG (h : Sim C m κ env own H D p) : Sim C m κ env (own ++ []) H D p := by rw [List.append_nil]; exact h
end rules
instance instGoTList {α : Type} [GoT α] : GoT (List α) := {
 sz := 1
 rep := fun H vs l => ∃ a cap, vs = [.slice a l.length cap] ∧ RSl H a cap l
 mono := fun h ⟨a, cap, e, r⟩ => ⟨a, cap, e, r.mono h⟩
 len := fun ⟨a, cap, e, _⟩ => by rw [e]; rfl
 one := fun ⟨a, cap, e, _⟩ => by rw [e]; rfl }
end Go.Cat
namespace Go.Cat
theorem Zgn {P : Program} {n : Nat} {t : TypeId} {x y : Value} {r r' : Bool} (h : EqN P n t x y r) (e : r = r') : EqN P n t x y r' := e ▸ h
theorem Zg6 (a b : ByteArray) : seq a b = true ↔ a = b := by
 unfold seq
 rw [beq_iff_eq]
 constructor
 ·intro h
  have e : ∀ c : ByteArray, c.toList = c.data.toList := fun c => ByteArray.toList_eq c
  rw [e, e] at h
  cases a; cases b
  simp only [] at h
  congr
  exact Array.ext' h
 ·rintro rfl; rfl
end Go.Cat
namespace Go.Cat
abbrev FT := Heap → Value → List Res → Prop
def FT0 : FT := fun _ _ _ => True
def Zm5 (F : FT) : Prop := ∀ H H' v g, Hle H H' → F H v g → F H' v g
abbrev uF : FT := fun _ v g => v = undef ∧ g = []
theorem m0 {Q : Value → List Res → Prop} : Zm5 (fun _ v g => Q v g) := fun _ _ _ _ _ h => h
def Zh1 : List FT → Prop
 | [] => True
 | F :: Fs => Zm5 F ∧ Zh1 Fs
section draw
variable {P : Program} {ρ τ : Type} {C : Ctx P ρ} {m : Option τ} {κ : τ → Option ρ} {env : Env} {own : List Res} {H : Heap} {D : List Deferred} {k : List Item}
def Zm6 (C : Ctx P ρ) (env : Env) (own : List Res) (H : Heap) (D : List Deferred) (l : List Oper) (Fs : List FT) (o : Oper) (con : List Nat) (F : FT) : Prop :=
 ∀ (V : Nat → Value) (G : Nat → List Res) H' fr, Hle H H' → (∀ j ∈ ZbJ o, (Fs.getD j FT0) H' (V j) (G j)) →
   ∃ (τ' : Type) (mi : Option τ'), mi.isSome = true ∧ ∀ r : ρ, Sim C mi (fun _ => some r) (ZcY l V (ZbJ o) ++ env) (own ++ con.flatMap G ++ fr) H' D
    (.ops (l.map (·.dst)) [o] (.pred fun tm' w' => ∃ v g H'', (∀ d, o.dst = some d → tm'[d]? = some v) ∧ Hle H' H'' ∧ Inv C.w0 C.M C.H0 (own ++ g ++ fr) H'' w' ∧ F H'' v g))
def ZdG (C : Ctx P ρ) (env : Env) (own : List Res) (H : Heap) (D : List Deferred) (l : List Oper) (Fs : List FT) : List Oper → List (List Nat) → List FT → Prop
 | o :: os, c :: cs, F :: Gs => Zm6 C env own H D l Fs o c F ∧ ZdG C env own H D l Fs os cs Gs
 | _, [], [] => True
 | _, _, _ => False
theorem Zh1.get {Fs : List FT} (h : Zh1 Fs) (i : Nat) : Zm5 (Fs.getD i FT0) := by
 induction Fs generalizing i with
 | nil => intro H H' v g _ _; simp [FT0]
 | cons F Fs ih =>
  cases i with
  | zero => exact h.1
  | succ i => simpa using ih h.2 i
theorem ZdG.get {l : List Oper} {Fs : List FT} : ∀ {os : List Oper} {cs : List (List Nat)} {Gs : List FT}, ZdG C env own H D l Fs os cs Gs → cs.length = Gs.length → ∀ (i : Nat) (o : Oper), i < Gs.length → os[i]? = some o → Zm6 C env own H D l Fs o (cs.getD i []) (Gs.getD i FT0) := by
 intro os
 induction os with
 | nil => intro cs Gs _ _ i o _ ho; simp at ho
 | cons x os ih =>
  intro cs Gs h hl i o hi ho
  cases cs with
  | nil => cases Gs with
   | nil => simp at hi
   | cons => simp at hl
  | cons c cs => cases Gs with
   | nil => simp at hl
   | cons F Gs =>
    cases i with
    | zero => simp only [List.getElem?_cons_zero, Option.some.injEq] at ho; subst ho; simpa using h.1
    | succ i =>
     have := ih h.2 (by simpa using hl) i o (by simpa using hi) (by simpa using ho)
     simpa using this
theorem Za8 {i : Nat} {l : List Oper} (Fs : List FT) (cs : List (List Nat)) (hm : P.follows .mixedOrders = true) (hmono : Zh1 Fs)
  (hac : ZeU l.toArray = true) (htail : ZgQ l Fs.length = true) (hds : dsOk env C.n (l.take Fs.length) = true) (hcon : ZnP l Fs.length (fun i => cs.getD i []) = true) (hmq : Nat.ble Fs.length l.length = true) (hcs : Nat.beq cs.length Fs.length = true)
  (hstep : ZdG C env own H D l Fs l cs Fs)
  (hfin : ∀ (V : Nat → Value) (G : Nat → List Res) H', Hle H H' → (∀ i, i < Fs.length → (Fs.getD i FT0) H' (V i) (G i)) →
   Sim C m κ (ZcY l V (List.range Fs.length) ++ env) (own ++ (live Fs.length (fun i => cs.getD i [])).flatMap G) H' D (.ops (l.map (·.dst)) (l.drop Fs.length) (.items k))) :
  Sim C m κ env own H D (.code (.code (.region i l.toArray true) :: k)) :=
 Znc Fs.length (fun i => Fs.getD i FT0) (fun i => cs.getD i []) hm (fun i H H' v g hle hF => (hmono.get i) H H' v g hle hF) hac htail hds hcon hmq
  (fun i o hi ho V G H' fr hle hd => hstep.get (Nat.eq_of_beq_eq_true hcs) i o hi ho V G H' fr hle hd) hfin
end draw
theorem ZbL {P : Program} {ρ τ : Type} {C : Ctx P ρ} {m : Option τ} {κ : τ → Option ρ} {env : Env} {own own' : List Res} {H : Heap} {D : List Deferred} {p : Pos} (h : own = own') (hs : Sim C m κ env own' H D p) : Sim C m κ env own H D p := h ▸ hs
end Go.Cat
namespace Go.Cat
theorem pm3 {a fr xs : List Res} : (a ++ fr ++ xs).Perm (a ++ xs ++ fr) := by
 simp only [List.append_assoc]
 exact (List.perm_append_left_iff _).2 List.perm_append_comm
section draw2
variable {P : Program} {ρ τ α : Type} {C : Ctx P ρ} {m : Option τ} {κ : τ → Option ρ} {env : Env} {own : List Res} {H : Heap} {D : List Deferred} {p : Pos}
theorem Za3 {l os : List Oper} {Fs Fs' : List FT} {o : Oper} {c : List Nat} {cs : List (List Nat)} {F : FT} (h : Zm6 C env own H D l Fs o c F) (h' : ZdG C env own H D l Fs os cs Fs') : ZdG C env own H D l Fs (o :: os) (c :: cs) (F :: Fs') := ⟨h, h'⟩
theorem dnil {l os : List Oper} {Fs : List FT} : ZdG C env own H D l Fs os [] [] := by cases os <;> trivial
theorem ZkJ {G : Nat → List Res} {js ks : List Nat} (h : js.Sublist ks) : (js.flatMap G).Sublist (ks.flatMap G) := by
 induction h with
 | slnil => exact .slnil
 | cons a _ ih => rw [List.flatMap_cons]; exact ih.trans (List.sublist_append_right _ _)
 | cons_cons a _ ih => rw [List.flatMap_cons, List.flatMap_cons]; exact (List.Sublist.refl _).append ih
theorem Zg8 {G : Nat → List Res} {js ks : List Nat} (h : js.isSublist ks = true) (hs : Sim C m κ env (own ++ js.flatMap G) H D p) : Sim C m κ env (own ++ ks.flatMap G) H D p :=
 Zam ((List.Sublist.refl _).append (ZkJ (List.isSublist_iff_sublist.1 h))) hs
theorem ZlM (j : Nat) [GoT α] {a : Option Addr} {n cap : Nat} {et : TypeId} {l : List α} {ls : List (List Value)} {i : Int} {y : α}
  (hj : own[j]? = some (.osl (.slice a n cap) (GoT.sz α) et ls)) (hA : All2 (GoT.rep H) ls l) (hy : rd l i = some y)
  (h : ∀ bk, a = some ⟨bk, 0, none⟩ → Sim C m κ env own H D p) : Sim C m κ env own H D p := by
 intro r hr w hw tm ht hE
 obtain ⟨h0, hlt, hy'⟩ := ZfR hy
 rcases Zco hw hj with ⟨hv, he⟩ | ⟨b, cap', arr, rest, hv, _⟩
 ·have := hA.1; subst he; simp at this; omega
 ·simp only [Value.slice.injEq] at hv
  exact h b hv.1 r hr w hw tm ht hE
theorem s_bg {σ : Type} {m : Option σ} {f : σ → Option τ} (h : ∀ x, m = some x → Sim C (f x) κ env own H D p) : Sim C (m.bind f) κ env own H D p := by
 intro r hr w hw tm ht he
 cases hm : m with
 | none => rw [hm] at hr; simp at hr
 | some x => rw [hm] at hr; exact h x hm r (by simpa using hr) w hw tm ht he
theorem ZaA {ds : List (Option Tmp)} {rem : List Oper} {kk : Kont} {d : Tmp} {op : Op} {ty : TypeId} {pos : String} {af : Array Edge} {j t : Nat} {want : Bool}
  (hj : ds[j]? = some (some t)) (hl : lk env t = some undef)
  (h : Sim C m κ ((d, undef) :: env) own H D (.ops ds rem kk)) (hd : Nat.blt d C.n = true := by rfl) : Sim C m κ env own H D (.ops ds (⟨some d, op, ty, pos, af, some (j, want)⟩ :: rem) kk) := by
 intro r hr w hw tm ht hE
 have hdn : d < tm.size := by rw [ht]; exact ZdZ hd
 have := h r hr w hw (tm.setIfInBounds d undef) (by simpa using ht) (hE.put hdn)
 simp only [Pos.go, ROps] at *
 have hwd : ZcM ds tm (some (j, want)) = false := by
  simp [ZcM, ZgP, hj, hE t _ hl, undef]
 rw [if_neg (by simp [hwd])]
 exact this
theorem ZgL [GoT α] {ds : List (Option Tmp)} {rem : List Oper} {kk : Kont} {ty : TypeId} {pos : String} {af : Array Edge} (j : Nat) {ty' et : TypeId} {x y : Operand} {bk q n n' cap : Nat} {ci : Int} {ag : Bool} {l : List α} {ls : List (List Value)} {vs : List Value} {v : Value} (o : Nat) [L : TLay P ty' n ag] (ho : own[j]? = some (.osl (.slice (some ⟨bk, 0, none⟩) n' cap) (GoT.sz α) et ls))
  (hA : All2 (GoT.rep H) ls l) (hi : ls[ci.toNat]? = some vs) (hx : ev env x = some (.pointer (some ⟨bk, q, none⟩))) (hy : ev env y = some v) (hq : q = ci.toNat * GoT.sz α + o) (hn : Nat.ble (o + n) (GoT.sz α) = true) (hv : v.cells.toList.length = n) (h1 : one1 v.cells.toList = true) (y' : α) (hrep : GoT.rep H (spl vs o v.cells.toList) y')
  (h : ∀ ls', All2 (GoT.rep H) ls' (l.set ci.toNat y') → Sim C m κ env (own.set j (.osl (.slice (some ⟨bk, 0, none⟩) n' cap) (GoT.sz α) et ls')) H D (.ops ds rem kk)) :
  Sim C m κ env own H D (.ops ds (⟨none, .store ty' x y, ty, pos, af, none⟩ :: rem) kk) :=
 o_stO j o ho hi hx hy hq hn hv h1 (h _ (hA.set hrep))
theorem s_bk {b bk : Nat} (h : (some ⟨b, 0, none⟩ : Option Addr) = some ⟨bk, 0, none⟩) : b = bk := by cases h; rfl
end draw2
end Go.Cat
namespace Go.Cat
def midx {α β : Type} [DecidableEq α] : List (α × β) → α → Option Nat
 | [], _ => none
 | p :: l, k => if k = p.1 then some 0 else (midx l k).map (· + 1)
def mget? {α β : Type} [DecidableEq α] : List (α × β) → α → Option β
 | [], _ => none
 | p :: l, k => if k = p.1 then some p.2 else mget? l k
def mhas {α β : Type} [DecidableEq α] (l : List (α × β)) (k : α) : Bool := (mget? l k).isSome
def mput {α β : Type} [DecidableEq α] : List (α × β) → α → β → List (α × β)
 | [], k, v => [(k, v)]
 | p :: l, k, v => if k = p.1 then (k, v) :: l else p :: mput l k v
def mkE {α : Type} [GoE α] (ag : Bool) (x : α) : Value := mkv ag (GoE.enc x)
structure MapR {α β : Type} [GoE α] [GoT β] (ka va : Bool) (H : Heap) (es : Array MapEntry) (c : Nat) (l : List (α × β)) : Prop where
 len : es.size = l.length
 ent : ∀ (i : Nat) (e : MapEntry) (p : α × β), es[i]? = some e → l[i]? = some p → e.key = mkE ka p.1 ∧ ∃ vs, e.val = mkv va vs ∧ GoT.rep H vs p.2
 born : ∀ (i : Nat) (e : MapEntry), es[i]? = some e → e.born < c
 inc : ∀ (i j : Nat) (e e' : MapEntry), i < j → es[i]? = some e → es[j]? = some e' → e.born < e'.born
class TMap (P : Program) (t kt et : TypeId) : Prop where
 und : P.underlying t = some (.map kt et)
class TKey (P : Program) (kt : TypeId) (ka : Bool) (α : Type) [DecidableEq α] [GoE α] : Prop where
 eq : ∀ (a b : α) w, (Op.equal kt (mkE ka a) (mkE ka b)).run P w = .ok (decide (a = b)) w
 chk : ∀ e (a : α) w, (Instr.checkKey e 10000 kt (mkE ka a)).run P w = .ok () w
 now : ∃ d, P.underlying kt = some d ∧ ((∀ a b : α, Instr.sameNow d (mkE ka a) (mkE ka b) = none) ∨ (∀ a b : α, Instr.sameNow d (mkE ka a) (mkE ka b) = some (decide (a = b))))
 bits : ∀ a : α, Instr.sameBits 10000 (mkE ka a) (mkE ka a) = true
set_option linter.unusedSectionVars false
section find
variable {P : Program} {kt : TypeId} {ka va : Bool} {α β : Type} [DecidableEq α] [GoE α] [GoT β] [K : TKey P kt ka α] {H : Heap}
theorem ZdS {l : List (α × β)} {k : α} {i : Nat} (h : midx l k = some i) : ∃ v, l[i]? = some (k, v) ∧ mget? l k = some v := by
 induction l generalizing i with
 | nil => cases h
 | cons p l ih =>
  simp only [midx] at h
  simp only [mget?]
  split at h
  ·rename_i e; cases h; rw [if_pos e]; exact ⟨p.2, by rw [e]; rfl, rfl⟩
  ·rename_i e
   rw [if_neg e]
   cases hm : midx l k with
   | none => rw [hm] at h; cases h
   | some j => rw [hm] at h; cases h; obtain ⟨v, h1, h2⟩ := ih hm; exact ⟨v, by simpa using h1, h2⟩
theorem ZfF {l : List (α × β)} {k : α} (h : midx l k = none) : mget? l k = none := by
 induction l with
 | nil => rfl
 | cons p l ih =>
  simp only [midx] at h
  simp only [mget?]
  split at h
  ·cases h
  ·rename_i e
   rw [if_neg e]
   cases hm : midx l k with
   | none => exact ih hm
   | some j => rw [hm] at h; cases h
theorem Zi2 (k : α) : ∀ (es : List MapEntry) (l : List (α × β)) (n : Nat) (w : World), es.length = l.length → (∀ (i : Nat) (e : MapEntry) (p : α × β), es[i]? = some e → l[i]? = some p → e.key = mkE ka p.1) →
  ∃ r, (Instr.findAsking kt (mkE ka k) es n).run P w = .ok r w ∧ ((midx l k = none ∧ r = none) ∨ ∃ i e, midx l k = some i ∧ es[i]? = some e ∧ r = some (n + i, e.val)) := by
 intro es
 induction es with
 | nil => intro l n w hl _; cases l with
  | nil => exact ⟨none, by simp [Instr.findAsking], .inl ⟨rfl, rfl⟩⟩
  | cons => simp at hl
 | cons e es ih =>
  intro l n w hl he
  cases l with
  | nil => simp at hl
  | cons p l =>
   have hk := he 0 e p rfl rfl
   obtain ⟨r, hr, hres⟩ := ih l (n + 1) w (by simpa using hl) (fun i e p h1 h2 => he (i + 1) e p (by simpa using h1) (by simpa using h2))
   rw [Instr.findAsking]
   simp only [hk, Sem.run_bind, K.eq, Result.andThen_ok, midx]
   by_cases hc : k = p.1
   ·simp only [hc, decide_true, if_true]
    exact ⟨_, Sem.run_pure .., .inr ⟨0, e, rfl, rfl, rfl⟩⟩
   ·simp only [hc, decide_false, Bool.false_eq_true, if_false]
    refine ⟨r, hr, ?_⟩
    rcases hres with ⟨h1, h2⟩ | ⟨i, e', h1, h2, h3⟩
    ·exact .inl ⟨by rw [h1]; rfl, h2⟩
    ·exact .inr ⟨i + 1, e', by rw [h1]; rfl, by simpa using h2, by rw [h3]; simp; omega⟩
theorem Zk5 {d : TypeDesc} (hd : ∀ a b : α, Instr.sameNow d (mkE ka a) (mkE ka b) = none) (k : α) (e : MapEntry) (es : List MapEntry) (p : α) (he : e.key = mkE ka p) (n : Nat) : Instr.findNow d (mkE ka k) (e :: es) n = none := by
 rw [Instr.findNow]; simp [he, hd]
theorem Zk4 {d : TypeDesc} (hd : ∀ a b : α, Instr.sameNow d (mkE ka a) (mkE ka b) = some (decide (a = b))) (k : α) : ∀ (es : List MapEntry) (l : List (α × β)) (n : Nat), es.length = l.length → (∀ (i : Nat) (e : MapEntry) (p : α × β), es[i]? = some e → l[i]? = some p → e.key = mkE ka p.1) →
  ∃ r, Instr.findNow d (mkE ka k) es n = some r ∧ ((midx l k = none ∧ r = none) ∨ ∃ i e, midx l k = some i ∧ es[i]? = some e ∧ r = some (n + i, e.val)) := by
 intro es
 induction es with
 | nil => intro l n hl _; cases l with
  | nil => exact ⟨none, by simp [Instr.findNow], .inl ⟨rfl, rfl⟩⟩
  | cons => simp at hl
 | cons e es ih =>
  intro l n hl he
  cases l with
  | nil => simp at hl
  | cons p l =>
   have hk := he 0 e p rfl rfl
   obtain ⟨r, hr, hres⟩ := ih l (n + 1) (by simpa using hl) (fun i e p h1 h2 => he (i + 1) e p (by simpa using h1) (by simpa using h2))
   rw [Instr.findNow]
   simp only [hk, hd, midx]
   by_cases hc : k = p.1
   ·simp only [hc, decide_true, if_true]
    exact ⟨_, rfl, .inr ⟨0, e, rfl, rfl, rfl⟩⟩
   ·simp only [hc, decide_false, if_false]
    refine ⟨r, hr, ?_⟩
    rcases hres with ⟨h1, h2⟩ | ⟨i, e', h1, h2, h3⟩
    ·exact .inl ⟨by rw [h1]; rfl, h2⟩
    ·exact .inr ⟨i + 1, e', by rw [h1]; rfl, by simpa using h2, by rw [h3]; simp; omega⟩
theorem ZfC (k : α) {es : Array MapEntry} {c : Nat} {l : List (α × β)} (h : MapR ka va H es c l) (w : World) :
  ∃ r, (Instr.findKey kt (mkE ka k) es.toList).run P w = .ok r w ∧ ((midx l k = none ∧ r = none) ∨ ∃ i e, midx l k = some i ∧ es[i]? = some e ∧ r = some (i, e.val)) := by
 obtain ⟨d, hd, hn⟩ := K.now
 have hl : es.toList.length = l.length := by simpa using h.len
 have he : ∀ (i : Nat) (e : MapEntry) (p : α × β), es.toList[i]? = some e → l[i]? = some p → e.key = mkE ka p.1 := fun i e p h1 h2 => (h.ent i e p (by simpa using h1) h2).1
 have hsome : ∀ r : Option (Nat × Value), ((midx l k = none ∧ r = none) ∨ ∃ i e, midx l k = some i ∧ es.toList[i]? = some e ∧ r = some (0 + i, e.val)) → ((midx l k = none ∧ r = none) ∨ ∃ i e, midx l k = some i ∧ es[i]? = some e ∧ r = some (i, e.val)) := by
  rintro r (h | ⟨i, e, h1, h2, h3⟩)
  ·exact .inl h
  ·exact .inr ⟨i, e, h1, by simpa using h2, by simpa using h3⟩
 rcases hn with hn | hn
 ·unfold Instr.findKey
  rw [Sem.run_bind, run_underlying hd]
  simp only [Result.andThen_ok]
  cases hes : es.toList with
  | nil =>
   have : l = [] := by rw [hes] at hl; exact List.eq_nil_of_length_eq_zero (by simpa using hl.symm)
   subst this
   exact ⟨none, by simp [Instr.findNow], .inl ⟨rfl, rfl⟩⟩
  | cons e0 es0 =>
   have hp : ∃ p, l[0]? = some p := by
    rw [hes] at hl; cases l with
    | nil => simp at hl
    | cons p l => exact ⟨p, rfl⟩
   obtain ⟨p, hp⟩ := hp
   have hk := he 0 e0 p (by rw [hes]; rfl) hp
   rw [Zk5 hn k e0 es0 p.1 hk]
   simp only []
   rw [← hes]
   obtain ⟨r, h1, h2⟩ := Zi2 (P := P) (kt := kt) (ka := ka) k es.toList l 0 w hl he
   exact ⟨r, h1, hsome r h2⟩
 ·obtain ⟨r, h1, h2⟩ := Zk4 (ka := ka) hn k es.toList l 0 hl he
  exact ⟨r, MapKept.run_findKey hd h1, hsome r h2⟩
end find
theorem MapR.nil {α β : Type} [GoE α] [GoT β] {ka va : Bool} {H : Heap} : MapR ka va H #[] 0 ([] : List (α × β)) :=
 ⟨rfl, by simp, by simp, by simp⟩
theorem MapR.mono {α β : Type} [GoE α] [GoT β] {ka va : Bool} {H H' : Heap} {es : Array MapEntry} {c : Nat} {l : List (α × β)} (hle : Hle H H') (h : MapR ka va H es c l) : MapR ka va H' es c l :=
 ⟨h.len, fun i e p h1 h2 => by obtain ⟨a, vs, b, c⟩ := h.ent i e p h1 h2; exact ⟨a, vs, b, GoT.mono hle c⟩, h.born, h.inc⟩
section rules
variable {P : Program} {ρ ρ' τ σ α β : Type} {C : Ctx P ρ} {m m1 m2 : Option τ} {κ : τ → Option ρ} {env : Env} {own : List Res} {H : Heap} {D : List Deferred} {k : Kont} {p : Pos}
variable {ds : List (Option Tmp)} {rem : List Oper} {d : Tmp} {ty : TypeId} {pos : String} {af : Array Edge}
theorem ZfU {t : TypeId} (h : ∀ b, Sim C m κ ((d, .map (some b)) :: env) (own ++ [.blk b (.map #[] 0)]) H D (.ops ds rem k)) (hd : Nat.blt d C.n = true := by rfl) :
  Sim C m κ env own H D (.ops ds (⟨some d, .makeMap t none, ty, pos, af, none⟩ :: rem) k) :=
 s_op (fun _ h => by cases h) (fun tm w hE hI => ⟨_, _, _, _, by simp [execOp, Instr.makeMap]; rfl, hI.push _ (.blk w.heap.size (.map #[] 0)) rfl (by exact (MapKept.heap_alloc w _).1), h w.heap.size⟩) hd
theorem o_lkp [DecidableEq α] [GoE α] [GoT β] (j : Nat) {x y : Operand} {t kt et : TypeId} {ka va : Bool} {b c : Nat} {es : Array MapEntry} {l : List (α × β)} {zv : Value} {ok : Bool} [T : TMap P t kt et] [K : TKey P kt ka α] [Z : TZero P et zv]
  (hx : ev env x = some (.map (some b))) (ho : own[j]? = some (.blk b (.map es c))) (hR : MapR ka va H es c l) (q : α) (hy : ev env y = some (mkE ka q))
  (h : ∀ v, (mget? l q = none ∧ v = zv ∨ ∃ r vs, mget? l q = some r ∧ v = mkv va vs ∧ GoT.rep H vs r) → Sim C m κ ((d, bif ok then .tuple #[v, .bool (mhas l q)] else v) :: env) own H D (.ops ds rem k)) (hd : Nat.blt d C.n = true := by rfl) :
  Sim C m κ env own H D (.ops ds (⟨some d, .lookup t x y ok, ty, pos, af, none⟩ :: rem) k) :=
 s_op (fun _ h => by cases h) (fun tm w hE hI => by
  have hb : w.heap[b]? = some (.map es c) := Zco hI ho
  obtain ⟨r, hr, hres⟩ := ZfC (P := P) (kt := kt) q hR w
  rcases hres with ⟨h1, rfl⟩ | ⟨i, e, h1, h2, rfl⟩
  ·have hg := ZfF h1
   refine ⟨_, w, own, H, ?_, hI, h zv (.inl ⟨hg, rfl⟩)⟩
   simp only [execOp, Instr.lookup, Zay hE hx, Zay hE hy, Sem.run_bind, run_underlying T.und, Result.andThen_ok, MapKept.run_getObj_map hb, Sem.run_pure, K.chk, hr, Z.zero]
   cases ok <;> simp [mhas, hg]
  ·obtain ⟨v, hlv, hg⟩ := ZdS h1
   obtain ⟨_, vs, hv, hrep⟩ := hR.ent i e _ h2 hlv
   refine ⟨_, w, own, H, ?_, hI, h (mkv va vs) (.inr ⟨v, vs, hg, rfl, hrep⟩)⟩
   simp only [execOp, Instr.lookup, Zay hE hx, Zay hE hy, Sem.run_bind, run_underlying T.und, Result.andThen_ok, MapKept.run_getObj_map hb, Sem.run_pure, K.chk, hr]
   cases ok <;> simp [mhas, hg, hv]) hd
theorem ZlS [DecidableEq α] [GoE α] {x y : Operand} {t kt et : TypeId} {ka : Bool} {zv : Value} {ok : Bool} [T : TMap P t kt et] [K : TKey P kt ka α] [Z : TZero P et zv]
  (hx : ev env x = some (.map none)) (q : α) (hy : ev env y = some (mkE ka q))
  (h : Sim C m κ ((d, bif ok then .tuple #[zv, .bool false] else zv) :: env) own H D (.ops ds rem k)) (hd : Nat.blt d C.n = true := by rfl) :
  Sim C m κ env own H D (.ops ds (⟨some d, .lookup t x y ok, ty, pos, af, none⟩ :: rem) k) :=
 s_op (fun _ h => by cases h) (fun tm w hE hI => by
  obtain ⟨r, hr, hres⟩ := ZfC (P := P) (kt := kt) (ka := ka) (va := false) (β := Int) (H := H) q MapR.nil w
  have hr0 : r = none := by
   rcases hres with ⟨_, h⟩ | ⟨i, e, h1, _⟩
   ·exact h
   ·simp [midx] at h1
  subst hr0
  refine ⟨_, w, own, H, ?_, hI, h⟩
  simp only [execOp, Instr.lookup, Zay hE hx, Zay hE hy, Sem.run_bind, run_underlying T.und, Result.andThen_ok, Sem.run_pure, K.chk, hr, Z.zero]
  cases ok <;> simp) hd
theorem ZlT [DecidableEq α] [GoE α] [GoT β] {x y : Operand} {t kt et : TypeId} {ka va : Bool} {b c : Nat} {es : Array MapEntry} {l : List (α × β)} {zv : Value} {ok : Bool} [T : TMap P t kt et] [K : TKey P kt ka α] [Z : TZero P et zv]
  (hx : ev env x = some (.map (some b))) (ho : H b = some (.map es c)) (hR : MapR ka va H es c l) (q : α) (hy : ev env y = some (mkE ka q))
  (h : ∀ v, (mget? l q = none ∧ v = zv ∨ ∃ r vs, mget? l q = some r ∧ v = mkv va vs ∧ GoT.rep H vs r) → Sim C m κ ((d, bif ok then .tuple #[v, .bool (mhas l q)] else v) :: env) own H D (.ops ds rem k)) (hd : Nat.blt d C.n = true := by rfl) :
  Sim C m κ env own H D (.ops ds (⟨some d, .lookup t x y ok, ty, pos, af, none⟩ :: rem) k) :=
 s_op (fun _ h => by cases h) (fun tm w hE hI => by
  have hb : w.heap[b]? = some (.map es c) := hI.sub _ _ ho
  obtain ⟨r, hr, hres⟩ := ZfC (P := P) (kt := kt) q hR w
  rcases hres with ⟨h1, rfl⟩ | ⟨i, e, h1, h2, rfl⟩
  ·have hg := ZfF h1
   refine ⟨_, w, own, H, ?_, hI, h zv (.inl ⟨hg, rfl⟩)⟩
   simp only [execOp, Instr.lookup, Zay hE hx, Zay hE hy, Sem.run_bind, run_underlying T.und, Result.andThen_ok, MapKept.run_getObj_map hb, Sem.run_pure, K.chk, hr, Z.zero]
   cases ok <;> simp [mhas, hg]
  ·obtain ⟨v, hlv, hg⟩ := ZdS h1
   obtain ⟨_, vs, hv, hrep⟩ := hR.ent i e _ h2 hlv
   refine ⟨_, w, own, H, ?_, hI, h (mkv va vs) (.inr ⟨v, vs, hg, rfl, hrep⟩)⟩
   simp only [execOp, Instr.lookup, Zay hE hx, Zay hE hy, Sem.run_bind, run_underlying T.und, Result.andThen_ok, MapKept.run_getObj_map hb, Sem.run_pure, K.chk, hr]
   cases ok <;> simp [mhas, hg, hv]) hd
theorem ZeO {l : List (α × β)} [DecidableEq α] {q : α} {v : β} (h : midx l q = none) : mput l q v = l ++ [(q, v)] := by
 induction l with
 | nil => rfl
 | cons p l ih =>
  simp only [midx] at h
  simp only [mput]
  split at h
  ·cases h
  ·rename_i e
   rw [if_neg e]
   cases hm : midx l q with
   | none => rw [ih hm]; rfl
   | some j => rw [hm] at h; cases h
theorem Zgx {l : List (α × β)} [DecidableEq α] {q : α} {v : β} {i : Nat} (h : midx l q = some i) : mput l q v = l.set i (q, v) := by
 induction l generalizing i with
 | nil => cases h
 | cons p l ih =>
  simp only [midx] at h
  simp only [mput]
  split at h
  ·rename_i e; cases h; rw [if_pos e]; rfl
  ·rename_i e
   rw [if_neg e]
   cases hm : midx l q with
   | none => rw [hm] at h; cases h
   | some j => rw [hm] at h; cases h; rw [ih hm]; rfl
theorem MapR.push [GoE α] [GoT β] {ka va : Bool} {c : Nat} {es : Array MapEntry} {l : List (α × β)} (hR : MapR ka va H es c l) (q : α) {vs : List Value} {v : β} (hrep : GoT.rep H vs v) : MapR ka va H (es.push ⟨mkE ka q, mkv va vs, c⟩) (c + 1) (l ++ [(q, v)]) := by
 refine ⟨by simp [hR.len], ?_, ?_, ?_⟩
 ·intro i e p h1 h2
  rw [Array.getElem?_push] at h1
  split at h1
  ·rename_i hi
   cases h1
   rw [hi, hR.len, List.getElem?_append_right (Nat.le_refl _)] at h2
   simp at h2; subst h2
   exact ⟨rfl, vs, rfl, hrep⟩
  ·rename_i hi
   have : i < l.length := by
    have := (Array.getElem?_eq_some_iff.1 h1).1
    rw [← hR.len]; exact this
   rw [List.getElem?_append_left this] at h2
   exact hR.ent i e p h1 h2
 ·intro i e h1
  rw [Array.getElem?_push] at h1
  split at h1
  ·cases h1; simp
  ·have := hR.born i e h1; omega
 ·intro i j e e' hij h1 h2
  rw [Array.getElem?_push] at h1 h2
  split at h2
  ·cases h2
   split at h1
   ·omega
   ·exact hR.born i e h1
  ·split at h1
   ·have := (Array.getElem?_eq_some_iff.1 h2).1; omega
   ·exact hR.inc i j e e' hij h1 h2
theorem MapR.set [GoE α] [GoT β] {ka va : Bool} {c : Nat} {es : Array MapEntry} {l : List (α × β)} (hR : MapR ka va H es c l) (i : Nat) (q : α) {vs : List Value} {v : β} (hrep : GoT.rep H vs v) : MapR ka va H (es.modify i fun e => { e with key := mkE ka q, val := mkv va vs }) c (l.set i (q, v)) := by
 have hget : ∀ (j : Nat) e, (es.modify i fun e => { e with key := mkE ka q, val := mkv va vs })[j]? = some e → ∃ e0, es[j]? = some e0 ∧ e.born = e0.born ∧ ((i = j ∧ e.key = mkE ka q ∧ e.val = mkv va vs) ∨ (i ≠ j ∧ e = e0)) := by
  intro j e h
  rw [Array.getElem?_modify] at h
  split at h
  ·rename_i hij
   cases h0 : es[j]? with
   | none => rw [h0] at h; cases h
   | some e0 => rw [h0] at h; cases h; exact ⟨e0, rfl, rfl, .inl ⟨hij, rfl, rfl⟩⟩
  ·rename_i hij; exact ⟨e, h, rfl, .inr ⟨hij, rfl⟩⟩
 refine ⟨by simp [hR.len], ?_, ?_, ?_⟩
 ·intro j e p h1 h2
  obtain ⟨e0, h0, hb, hc⟩ := hget j e h1
  rw [List.getElem?_set] at h2
  rcases hc with ⟨rfl, hk, hv⟩ | ⟨hne, rfl⟩
  ·rw [if_pos rfl] at h2
   split at h2
   ·cases h2; exact ⟨hk, vs, hv, hrep⟩
   ·cases h2
  ·rw [if_neg hne] at h2; exact hR.ent j e p h0 h2
 ·intro j e h1
  obtain ⟨e0, h0, hb, _⟩ := hget j e h1
  rw [hb]; exact hR.born j e0 h0
 ·intro j k e e' hjk h1 h2
  obtain ⟨e0, h0, hb, _⟩ := hget j e h1
  obtain ⟨e0', h0', hb', _⟩ := hget k e' h2
  rw [hb, hb']; exact hR.inc j k e0 e0' hjk h0 h0'
theorem ZjU [DecidableEq α] [GoE α] [GoT β] (j : Nat) {x y z : Operand} {t kt et : TypeId} {ka va : Bool} {b c : Nat} {es : Array MapEntry} {l : List (α × β)} [T : TMap P t kt et] [K : TKey P kt ka α]
  (hx : ev env x = some (.map (some b))) (ho : own[j]? = some (.blk b (.map es c))) (hR : MapR ka va H es c l) (q : α) (hy : ev env y = some (mkE ka q)) {vs : List Value} (v : β) (hz : ev env z = some (mkv va vs)) (hrep : GoT.rep H vs v)
  (h : ∀ es' c', MapR ka va H es' c' (mput l q v) → Sim C m κ env (own.set j (.blk b (.map es' c'))) H D (.ops ds rem k)) :
  Sim C m κ env own H D (.ops ds (⟨none, .mapUpdate t x y z, ty, pos, af, none⟩ :: rem) k) := by
 intro r hr w hw tm ht hE
 have hb : w.heap[b]? = some (.map es c) := Zco hw ho
 obtain ⟨r', hr', hres⟩ := ZfC (P := P) (kt := kt) q hR w
 have key : ∃ es' c', MapR ka va H es' c' (mput l q v) ∧ (execOp (ZcX tm) ⟨none, .mapUpdate t x y z, ty, pos, af, none⟩).run P w = .ok .skip { w with heap := w.heap.setIfInBounds b (.map es' c') } := by
  rcases hres with ⟨h1, rfl⟩ | ⟨i, e, h1, h2, rfl⟩
  ·refine ⟨_, _, by rw [ZeO h1]; exact hR.push q hrep, ?_⟩
   simp only [execOp, Instr.mapUpdate, Zay hE hx, Zay hE hy, Zay hE hz, Sem.run_bind, run_underlying T.und, Result.andThen_ok, MapKept.run_getObj_map hb, K.chk, hr', MapKept.run_setObj_map _ hb, Sem.run_pure]
  ·refine ⟨_, _, by rw [Zgx h1]; exact hR.set i q hrep, ?_⟩
   obtain ⟨v0, hlv, _⟩ := ZdS h1
   have hk := (hR.ent i e _ h2 hlv).1
   simp only [execOp, Instr.mapUpdate, Zay hE hx, Zay hE hy, Zay hE hz, Sem.run_bind, run_underlying T.und, Result.andThen_ok, MapKept.run_getObj_map hb, K.chk, hr', Instr.keyThatStays, h2, Option.map_some, Option.getD_some, hk, K.bits, if_true, MapKept.run_setObj_map _ hb, Sem.run_pure]
 obtain ⟨es', c', hR', hrun⟩ := key
 have hI := hw.write (w' := { w with heap := w.heap.setIfInBounds b (.map es' c') }) ho (b := b) (r' := .blk b (.map es' c')) (by simp [Res.ids]) rfl
  (fun k hk => by simp [Ne.symm hk]) (by simp) rfl rfl rfl (by
   have : b < w.heap.size := (Array.getElem?_eq_some_iff.1 hb).1
   simp [Res.ok, this])
 have := h _ _ hR' r hr _ hI tm ht hE
 simp only [Pos.go, ROps] at *
 rw [if_pos (show ZcM ds tm none = true from rfl)]
 refine ⟨.inr (fun _ h => by cases h), ?_⟩
 rw [hrun]
 exact this
def mgetD [DecidableEq α] (l : List (α × β)) (q : α) (z : β) : β := (mget? l q).getD z
def MapV [GoE α] [GoT β] (ka va : Bool) (H : Heap) (v : Value) : Option (List (α × β)) → Prop
 | none => v = .map none
 | some l => ∃ b es c, v = .map (some b) ∧ H b = some (.map es c) ∧ MapR ka va H es c l
theorem MapV.mono [GoE α] [GoT β] {ka va : Bool} {H H' : Heap} {v : Value} {o : Option (List (α × β))} (hle : Hle H H') (h : MapV ka va H v o) : MapV ka va H' v o := by
 cases o with
 | none => exact h
 | some l => obtain ⟨b, es, c, h1, h2, h3⟩ := h; exact ⟨b, es, c, h1, hle _ _ h2, h3.mono hle⟩
theorem Zhh [GoE α] [GoT β] {ka va : Bool} {H : Heap} : MapV ka va H (.map none) (none : Option (List (α × β))) := rfl
theorem ZgS (j : Nat) {b : Nat} {o : Obj} (hM : ∀ b, ¬ C.M b ∨ C.H0 b = none ∧ C.w0.heap.size ≤ b) (hj : own[j]? = some (.blk b o)) (h : ∀ H', Hle H H' → H' b = some o → Sim C m κ env (own.eraseIdx j) H' D p) : Sim C m κ env own H D p := by
 intro r hr w hw tm ht hE
 have hrm := List.mem_of_getElem? hj
 have hle : Hle H (ZbW H w (Res.blk b o).ids) := Ze4 fun b' hb => (hw.away b' (Zdy hrm hb)).1
 refine h _ hle ?_ r hr w (hw.freeze hj hM) tm ht hE
 have : w.heap[b]? = some o := Zco hw hj
 simp [ZbW, Res.ids, this]
theorem ZlL [GoE α] [GoT β] (j : Nat) {ka va : Bool} {b c : Nat} {es : Array MapEntry} {l : List (α × β)} (hM : ∀ b, ¬ C.M b ∨ C.H0 b = none ∧ C.w0.heap.size ≤ b) (hj : own[j]? = some (.blk b (.map es c))) (hR : MapR ka va H es c l)
  (h : ∀ H', Hle H H' → MapV ka va H' (.map (some b)) (some l) → Sim C m κ env (own.eraseIdx j) H' D p) : Sim C m κ env own H D p :=
 ZgS j hM hj fun H' hle hb => h H' hle ⟨b, es, c, rfl, hb, hR.mono hle⟩
theorem Zg0 [DecidableEq α] [GoE β] {l : List (α × β)} {q : α} {va : Bool} {z : β} {v : Value} {H : Heap} (h : mget? l q = none ∧ v = mkE va z ∨ ∃ r vs, mget? l q = some r ∧ v = mkv va vs ∧ GoT.rep H vs r) : v = mkE va (mgetD l q z) := by
 rcases h with ⟨h1, rfl⟩ | ⟨r, vs, h1, rfl, hr⟩
 ·simp [mgetD, h1]
 ·simp only [mgetD, h1, Option.getD_some]
  cases hr; rfl
theorem Zia [DecidableEq α] [GoE α] [GoE β] (j : Nat) {x y : Operand} {t kt et : TypeId} {ka va : Bool} {b c : Nat} {es : Array MapEntry} {l : List (α × β)} {z : β} {ok : Bool} [T : TMap P t kt et] [K : TKey P kt ka α] [Z : TZero P et (mkE va z)]
  (hx : ev env x = some (.map (some b))) (ho : own[j]? = some (.blk b (.map es c))) (hR : MapR ka va H es c l) (q : α) (hy : ev env y = some (mkE ka q))
  (h : Sim C m κ ((d, bif ok then .tuple #[mkE va (mgetD l q z), .bool (mhas l q)] else mkE va (mgetD l q z)) :: env) own H D (.ops ds rem k)) (hd : Nat.blt d C.n = true := by rfl) :
  Sim C m κ env own H D (.ops ds (⟨some d, .lookup t x y ok, ty, pos, af, none⟩ :: rem) k) :=
 o_lkp (kt := kt) (et := et) j hx ho hR q hy (fun v hv => by cases Zg0 hv; exact h) hd
theorem ZmA [DecidableEq α] [GoE α] [GoE β] {x y : Operand} {t kt et : TypeId} {ka va : Bool} {mv : Value} {o : Option (List (α × β))} {z : β} {ok : Bool} [T : TMap P t kt et] [K : TKey P kt ka α] [Z : TZero P et (mkE va z)]
  (hV : MapV ka va H mv o) (hx : ev env x = some mv) (q : α) (hy : ev env y = some (mkE ka q))
  (h : Sim C m κ ((d, bif ok then .tuple #[mkE va (mgetD (o.getD []) q z), .bool (mhas (o.getD []) q)] else mkE va (mgetD (o.getD []) q z)) :: env) own H D (.ops ds rem k)) (hd : Nat.blt d C.n = true := by rfl) :
  Sim C m κ env own H D (.ops ds (⟨some d, .lookup t x y ok, ty, pos, af, none⟩ :: rem) k) := by
 cases o with
 | none => cases hV; exact ZlS (kt := kt) (et := et) (zv := mkE va z) hx q hy h hd
 | some l =>
  obtain ⟨b, es, c, rfl, hb, hR⟩ := hV
  exact ZlT (kt := kt) (et := et) hx hb hR q hy (fun v hv => by cases Zg0 hv; exact h) hd
end rules
def ChkN (P : Program) (n : Nat) (t : TypeId) (v : Value) : Prop := ∀ d w e, (Instr.checkKey e (d + n) t v).run P w = .ok () w
section keys
variable {P : Program}
theorem Zfw {t : TypeId} {K : IntKind} {v : Value} (U : P.underlying t = some (.int K)) : ChkN P 1 t v := fun d w e => by
 rw [Instr.checkKey, Sem.run_bind, run_underlying U]
 rfl
theorem ZnQ {t : TypeId} {n : Nat} {v : Value} (k : Nat) (h : ChkN P n t v) : ChkN P (n + k) t v := fun d w e => by
 have := h (d + k) w e
 rw [show d + k + n = d + (n + k) by omega] at this
 exact this
def CfN (P : Program) (n : Nat) (xs : List Value) (fs : List Field) : Prop := ∀ d w e, (forIn (m := Sem) fs PUnit.unit fun f _ => (do
 if f.name ≠ "_" then Instr.checkKey e (d + n) f.type (← part f.type xs.toArray f.offset)
 pure (ForInStep.yield PUnit.unit) : Sem (ForInStep PUnit))).run P w = .ok PUnit.unit w
theorem Zl8 {n : Nat} {xs : List Value} : CfN P n xs [] := fun d w e => by simp
theorem Zhq {n sz : Nat} {ag : Bool} {xs : List Value} {f : Field} {fs : List Field} [L : TLay P f.type sz ag] (h1 : Nat.ble (f.offset + sz) xs.length = true) (hn : (f.name == "_") = false) (he : ChkN P n f.type (mkv ag (subc xs f.offset sz))) (hr : CfN P n xs fs) : CfN P n xs (f :: fs) := fun d w e => by
 have hn' : f.name ≠ "_" := by simpa using hn
 have p1 := Ze5 (P := P) (w := w) L.size L.agg L.one (cs := xs.toArray) (off := f.offset) (by simpa using Nat.le_of_ble_eq_true h1)
 simp only [] at p1
 rw [List.forIn_cons]
 simp only [if_pos hn', Sem.run_bind, p1, Result.andThen_ok, he d w, Sem.run_pure]
 exact hr d w e
theorem Zg2 {n : Nat} {t : TypeId} {fs : Array Field} {xs : List Value} (hu : P.underlying t = some (.struct fs)) (h : CfN P n xs fs.toList) : ChkN P (n + 1) t (.agg xs.toArray) := fun d w e => by
 rw [show d + (n + 1) = d + n + 1 by omega, Instr.checkKey, Sem.run_bind, run_underlying hu]
 simp only [Result.andThen_ok, Sem.run_bind]
 have h1 := h d w e
 have h2 := h1
 rw [← Array.forIn_toList]
 simp only [bind_pure_comp] at *
 rw [h1]; rfl
theorem Zgq {α : Type} [DecidableEq α] [GoE α] {kt : TypeId} {fs : Array Field} [E : TEq P kt α] (n : Nat) (hn : n ≤ 10000) (hu : P.underlying kt = some (.struct fs)) (hc : ∀ a : α, ChkN P n kt (.agg (GoE.enc a).toArray)) (hb : ∀ a : α, Instr.sameBits 10000 (.agg (GoE.enc a).toArray) (.agg (GoE.enc a).toArray) = true) : TKey P kt true α := {
 eq := fun a b w => E.eq a b w
 chk := fun e a w => by
  have := hc a (10000 - n) w e
  rw [show 10000 - n + n = 10000 by omega] at this
  exact this
 now := ⟨_, hu, .inl fun _ _ => rfl⟩
 bits := hb }
theorem ZkI {kt : TypeId} (hu : P.underlying kt = some (.int .i64)) : TKey P kt false Int := {
 eq := fun a b w => by
  have := Zc6 (P := P) (K := .i64) (K' := .i64) (a := a) (b := b) hu 9999 w
  exact this
 chk := fun e a w => Zfw (v := mkE false a) hu 9999 w e
 now := ⟨_, hu, .inr fun a b => by show (if (IntKind.i64 = IntKind.i64) then some (a == b) else none) = _; simp; rfl⟩
 bits := fun a => by show (IntKind.i64 == IntKind.i64 && a == a) = true; simp }
end keys
end Go.Cat
namespace Go.Cat
def ZiS (l : List Oper) (mq nv : Nat) (con : Nat → List Nat) : Bool :=
 (List.range mq).all fun i => (con i).all (fun j => ((l[i]?).map fun o => (ZbJ o).contains j).getD false || (Nat.ble l.length j && Nat.blt j (l.length + nv))) && decide ((con i).Nodup) &&
  (List.range mq).all fun q => Nat.beq i q || (con i).all fun j => !(con q).contains j
def Zgg (n mq nv : Nat) (con : Nat → List Nat) : List Nat := (List.range mq ++ List.range' n nv).filter fun i => (List.range mq).all fun q => !(con q).contains i
def vg (n : Nat) (giv : List Res) (G : Nat → List Res) : Prop := ∀ i r, giv[i]? = some r → G (n + i) = [r]
theorem Zjy {n : Nat} {giv : List Res} {G : Nat → List Res} (h : vg n giv G) : (List.range' n giv.length).flatMap G = giv := by
 induction giv generalizing n with
 | nil => rfl
 | cons r g ih =>
  rw [List.length_cons, List.range'_succ, List.flatMap_cons]
  have h0 := h 0 r rfl
  rw [Nat.add_zero] at h0
  rw [h0, ih (n := n + 1) (fun i q hq => by have := h (i + 1) q (by simpa using hq); rw [show n + (i + 1) = n + 1 + i by omega] at this; exact this)]
  rfl
section draw
variable {P : Program} {ρ τ : Type} {C : Ctx P ρ} {m : Option τ} {κ : τ → Option ρ} {env : Env} {own : List Res} {H : Heap} {D : List Deferred} {k : List Item}
theorem Zmg {i : Nat} {l : List Oper} (giv : List Res) (mq : Nat) (F : Nat → Heap → Value → List Res → Prop) (con : Nat → List Nat)
  (hm : P.follows .mixedOrders = true) (hmono : ∀ i H H' v g, Hle H H' → F i H v g → F i H' v g)
  (hac : ZeU l.toArray = true) (htail : ZgQ l mq = true) (hds : dsOk env C.n (l.take mq) = true) (hcon : ZiS l mq giv.length con = true) (hmq : Nat.ble mq l.length = true)
  (hstep : ∀ i o, i < mq → l[i]? = some o → ∀ (V : Nat → Value) (G : Nat → List Res) H' fr, vg l.length giv G → Hle H H' → (∀ j ∈ ZbJ o, F j H' (V j) (G j)) →
   ∃ (τ' : Type) (mi : Option τ'), mi.isSome = true ∧ ∀ r : ρ, Sim C mi (fun _ => some r) (ZcY l V (ZbJ o) ++ env) (own ++ (con i).flatMap G ++ fr) H' D
    (.ops (l.map (·.dst)) [o] (.pred fun tm' w' => ∃ v g H'', (∀ d, o.dst = some d → tm'[d]? = some v) ∧ Hle H' H'' ∧ Inv C.w0 C.M C.H0 (own ++ g ++ fr) H'' w' ∧ F i H'' v g)))
  (hfin : ∀ (V : Nat → Value) (G : Nat → List Res) H', vg l.length giv G → Hle H H' → (∀ i, i < mq → F i H' (V i) (G i)) →
   Sim C m κ (ZcY l V (List.range mq) ++ env) (own ++ (Zgg l.length mq giv.length con).flatMap G) H' D (.ops (l.map (·.dst)) (l.drop mq) (.items k))) :
  Sim C m κ env (own ++ giv) H D (.code (.code (.region i l.toArray true) :: k)) := by
 intro r hr w hw tm ht hE
 refine Zd6 fun t => ?_
 have hT := Zej (ops := l.toArray) hm hac t
 generalize Region.schedule (P.follows .mixedOrders) l.toArray t = sch at hT
 have hw1 : Inv C.w0 C.M C.H0 (own ++ giv) H { w with drawn := w.drawn + 1 } := hw.quiet rfl rfl rfl rfl
 generalize ({ w with drawn := w.drawn + 1 } : World) = w1 at hw1
 have hmq' : mq ≤ l.length := Nat.le_of_ble_eq_true hmq
 have hget : ∀ i : Nat, (l.toArray[i]?) = l[i]? := fun i => by simp
 have hdst : ∀ i o d, i < mq → l[i]? = some o → o.dst = some d → d < C.n ∧ lk env d = none ∧ ∀ j p, j < mq → i ≠ j → l[j]? = some p → p.dst ≠ some d := by
  intro i o d hi ho hd
  obtain ⟨h1, h2, h3⟩ := Zho hds i o d (by rw [List.getElem?_take_of_lt hi]; exact ho) hd
  exact ⟨h1, h2, fun j p hj hij hp => h3 j p hij (by rw [List.getElem?_take_of_lt hj]; exact hp)⟩
 have hconI : ∀ i, i < mq → (∀ j ∈ con i, (∃ o, l[i]? = some o ∧ j ∈ ZbJ o) ∨ (l.length ≤ j ∧ j < l.length + giv.length)) ∧ (con i).Nodup ∧ ∀ q, q < mq → i ≠ q → ∀ j ∈ con i, j ∉ con q := by
  intro i hi
  have := List.all_eq_true.1 hcon i (List.mem_range.2 hi)
  rw [Bool.and_eq_true, Bool.and_eq_true, decide_eq_true_eq] at this
  refine ⟨fun j hj => ?_, this.1.2, fun q hq hiq j hj hjq => ?_⟩
  ·have h1 := List.all_eq_true.1 this.1.1 j hj
   rw [Bool.or_eq_true] at h1
   rcases h1 with h1 | h1
   ·left
    cases ho : l[i]? with
    | none => rw [ho] at h1; simp at h1
    | some o => rw [ho] at h1; exact ⟨o, rfl, by simpa using h1⟩
   ·right
    rw [Bool.and_eq_true] at h1
    exact ⟨Nat.le_of_ble_eq_true h1.1, ZdZ h1.2⟩
  ·have h2 := List.all_eq_true.1 this.2 q (List.mem_range.2 hq)
   rw [Bool.or_eq_true] at h2
   rcases h2 with h2 | h2
   ·exact hiq (Nat.eq_of_beq_eq_true h2)
   ·have := List.all_eq_true.1 h2 j hj
    simp [hjq] at this
 have hdep : ∀ pre i post, sch = pre ++ i :: post → ∀ o, l[i]? = some o → ∀ j ∈ ZbJ o, j ∈ pre := by
  intro pre i post hq o ho j hj
  simp only [ZbJ, List.mem_map, List.mem_filter] at hj
  obtain ⟨e, ⟨he, hb⟩, rfl⟩ := hj
  exact hT.dep pre i post hq o (by rw [hget]; exact ho) e (by simpa using he) hb
 have hvg0 : vg l.length giv (fun x => (giv[x - l.length]?).toList) := fun a q hq => by simp [hq]
 have hnodup : ∀ q, q ≤ l.length → (List.range q ++ List.range' l.length giv.length).Nodup := fun q hq => by
  rw [List.nodup_append]
  refine ⟨List.nodup_range, List.nodup_range', ?_⟩
  rintro a ha b hb rfl
  simp only [List.mem_range, List.mem_range'_1] at ha hb
  omega
 have main : ∀ (rest pre : List Nat) (tm : Array Value) (w : World), sch = pre ++ rest → (∀ x ∈ pre, x < mq) → (∀ q ∈ pre, ∀ j ∈ con q, j ∈ pre ∨ l.length ≤ j) →
   (∃ (V : Nat → Value) (G : Nat → List Res) (H' : Heap) (L : List Nat), vg l.length giv G ∧ Hle H H' ∧ (∀ i ∈ pre, F i H' (V i) (G i)) ∧ tm.size = C.n ∧ EnvOk env tm ∧
    (∀ i ∈ pre, ∀ o d, l[i]? = some o → o.dst = some d → tm[d]? = some (V i)) ∧ L.Nodup ∧ (∀ x, x ∈ L ↔ (x ∈ pre ∨ (l.length ≤ x ∧ x < l.length + giv.length)) ∧ ∀ q ∈ pre, x ∉ con q) ∧ Inv C.w0 C.M C.H0 (own ++ L.flatMap G) H' w) →
   Go (C.T r) C.b tm D (.inRegion l.toArray rest :: k) w := by
  intro rest
  induction rest with
  | nil =>
   rintro pre tm w hsch hlt hcp ⟨V, G, H', L, hvg, hle, hF, htm, hE, htmp, hLn, hLm, hI⟩
   rw [List.append_nil] at hsch
   have hall : ∀ j, j < l.length → j ∈ pre := fun j hj => by rw [← hsch]; exact hT.all j (by simpa using hj)
   have hmql : mq = l.length := by
    apply Classical.byContradiction
    intro hne
    have := hlt _ (hall mq (by omega))
    omega
   have hLp : L.Perm (Zgg l.length mq giv.length con) := by
    unfold Zgg
    rw [List.perm_ext_iff_of_nodup hLn ((hnodup mq hmq').filter _)]
    intro a
    rw [hLm]
    simp only [List.mem_filter, List.mem_append, List.mem_range, List.mem_range'_1, List.all_eq_true, Bool.not_eq_true', List.contains_eq_mem, decide_eq_false_iff_not]
    constructor
    ·rintro ⟨h1, h2⟩; exact ⟨h1.imp (hlt a) id, fun q hq => h2 q (hall q (by omega))⟩
    ·rintro ⟨h1, h2⟩; exact ⟨h1.imp (fun h => hall a (by omega)) id, fun q hq => h2 q (hlt q hq)⟩
   have hfin' := hfin V G H' hvg hle (fun i hi => hF i (hall i (by omega))) r hr w (hI.perm ((List.perm_append_left_iff _).2 (hLp.flatMap_right G))) tm htm (by
    intro t v hl'
    rcases Zdq _ t v hl' with ⟨j, hj, hd, rfl⟩ | h
    ·have hjm := List.mem_range.1 hj
     cases ho : l[j]? with
     | none => rw [ho] at hd; cases hd
     | some o => rw [ho] at hd; exact htmp j (hall j (by omega)) o t ho hd
    ·exact hE t v h)
   rw [hmql, List.drop_length] at hfin'
   exact ZdN hfin'
  | cons i rest ih =>
   rintro pre tm w hsch hlt hcp ⟨V, G, H', L, hvg, hle, hF, htm, hE, htmp, hLn, hLm, hI⟩
   have hil : i < l.length := by have := hT.lt i (by rw [hsch]; simp); simpa using this
   have ho : l[i]? = some l[i] := List.getElem?_eq_getElem hil
   have hinp : i ∉ pre := by
    have := hT.nd
    rw [hsch, List.nodup_append] at this
    intro hx
    exact this.2.2 i hx i (by simp) rfl
   have hdeps := hdep pre i rest hsch _ ho
   by_cases hiq : i < mq
   ·
    have hconi := hconI i hiq
    have hcpre : ∀ j ∈ con i, j ∈ pre ∨ (l.length ≤ j ∧ j < l.length + giv.length) := fun j hj => by
     rcases hconi.1 j hj with ⟨o, ho', hj'⟩ | h
     ·rw [ho] at ho'; cases ho'
      exact .inl (hdeps j hj')
     ·exact .inr h
    have hcL : ∀ j ∈ con i, j ∈ L := fun j hj => (hLm j).2 ⟨hcpre j hj, fun q hq => (hconi.2.2 q (hlt q hq) (fun e => hinp (e ▸ hq)) j hj)⟩
    have hLp : L.Perm (con i ++ L.filter fun x => !(con i).contains x) := by
     rw [List.perm_ext_iff_of_nodup hLn (by
      rw [List.nodup_append]
      refine ⟨hconi.2.1, hLn.filter _, ?_⟩
      rintro a ha b hb rfl
      simp only [List.mem_filter, Bool.not_eq_true', List.contains_eq_mem, decide_eq_false_iff_not] at hb
      exact hb.2 ha)]
     intro a
     simp only [List.mem_append, List.mem_filter, Bool.not_eq_true', List.contains_eq_mem, decide_eq_false_iff_not]
     constructor
     ·intro h; by_cases ha : a ∈ con i
      ·exact .inl ha
      ·exact .inr ⟨h, ha⟩
     ·rintro (h | h)
      ·exact hcL a h
      ·exact h.1
    have hI1 : Inv C.w0 C.M C.H0 (own ++ (con i).flatMap G ++ (L.filter fun x => !(con i).contains x).flatMap G) H' w :=
     hI.perm (by
      rw [List.append_assoc]
      refine (List.perm_append_left_iff _).2 ?_
      have := hLp.flatMap_right G
      rw [List.flatMap_append] at this
      exact this)
    obtain ⟨τ', mi, hmi, hS⟩ := hstep i _ hiq ho V G H' ((L.filter fun x => !(con i).contains x).flatMap G) hvg hle (fun j hj => hF j (hdeps j hj))
    have hrun := hS r r (by cases mi with
     | none => simp at hmi
     | some x => rfl) w hI1 tm htm (by
     intro t v hl'
     rcases Zdq _ t v hl' with ⟨j, hj, hd, rfl⟩ | h
     ·cases hoj : l[j]? with
      | none => rw [hoj] at hd; cases hd
      | some o => rw [hoj] at hd; exact htmp j (hdeps j hj) o t hoj hd
     ·exact hE t v h)
    have hsch' : sch = (pre ++ [i]) ++ rest := by rw [hsch]; simp
    have hnext : ∀ (v : Value) (w' : World), (∃ v' g H'', (∀ d, (l[i]).dst = some d → (putT tm (l[i]).dst v)[d]? = some v') ∧ Hle H' H'' ∧ Inv C.w0 C.M C.H0 (own ++ g ++ (L.filter fun x => !(con i).contains x).flatMap G) H'' w' ∧ F i H'' v' g) →
      Go (C.T r) C.b (putT tm (l[i]).dst v) D (.inRegion l.toArray rest :: k) w' := by
     rintro v w' ⟨v', g, H'', hd, hle', hI', hFi⟩
     refine ih (pre ++ [i]) _ w' hsch' (by
      intro x hx
      rcases List.mem_append.1 hx with hx | hx
      ·exact hlt x hx
      ·simp at hx; subst hx; exact hiq) (by
      intro q hq j hj
      rcases List.mem_append.1 hq with hq | hq
      ·exact (hcp q hq j hj).imp (fun h => List.mem_append.2 (.inl h)) id
      ·simp at hq; subst hq; exact (hcpre j hj).imp (fun h => List.mem_append.2 (.inl h)) And.left) ?_
     refine ⟨fun j => if j = i then v' else V j, fun j => if j = i then g else G j, H'', i :: L.filter (fun x => !(con i).contains x), ?_, hle.trans hle', ?_, ?_, ?_, ?_, ?_, ?_, ?_⟩
     ·intro a q hq
      have h0 := hvg a q hq
      have hne : l.length + a ≠ i := by omega
      simp only [hne, if_false]
      exact h0
     ·intro j hj
      rcases List.mem_append.1 hj with hj | hj
      ·have hne : j ≠ i := fun e => hinp (e ▸ hj)
       simp only [hne, if_false]
       exact hmono j H' H'' _ _ hle' (hF j hj)
      ·simp at hj; subst hj; simp only [if_true]; exact hFi
     ·cases (l[i]).dst <;> simp [putT, htm]
     ·intro t u hu
      have h0 := hE t u hu
      cases hdd : (l[i]).dst with
      | none => simpa [putT] using h0
      | some d =>
       have hne : d ≠ t := fun e => by
        have := (hdst i _ d hiq ho hdd).2.1
        rw [e, hu] at this; cases this
       simp only [putT]
       rw [Array.getElem?_setIfInBounds_ne hne]
       exact h0
     ·intro j hj o d hoj hdj
      rcases List.mem_append.1 hj with hj | hj
      ·have hne : j ≠ i := fun e => hinp (e ▸ hj)
       simp only [hne, if_false]
       have h0 := htmp j hj o d hoj hdj
       cases hdd : (l[i]).dst with
       | none => simpa [putT] using h0
       | some d' =>
        have hne' : d' ≠ d := fun e => (hdst i _ d' hiq ho hdd).2.2 j o (hlt j hj) (fun e => hne e.symm) hoj (e ▸ hdj)
        simp only [putT]
        rw [Array.getElem?_setIfInBounds_ne hne']
        exact h0
      ·simp at hj; subst hj
       simp only [if_true]
       rw [ho] at hoj; cases hoj
       exact hd d hdj
     ·simp only [List.nodup_cons]
      refine ⟨fun hx => ?_, hLn.filter _⟩
      have := ((hLm i).1 (List.mem_filter.1 hx).1).1
      rcases this with h | h
      ·exact hinp h
      ·omega
     ·intro x
      simp only [List.mem_cons, List.mem_filter, hLm, Bool.not_eq_true', List.contains_eq_mem, decide_eq_false_iff_not, List.mem_append, List.not_mem_nil, or_false]
      constructor
      ·rintro (rfl | ⟨⟨h1, h2⟩, h3⟩)
       ·refine ⟨.inl (.inr rfl), ?_⟩
        rintro q (hq | rfl) hx
        ·rcases hcp q hq _ hx with h | h
         ·exact hinp h
         ·omega
        ·rcases hcpre _ hx with h | h
         ·exact hinp h
         ·omega
       ·refine ⟨h1.imp .inl id, ?_⟩
        rintro q (hq | rfl) hx
        ·exact h2 q hq hx
        ·exact h3 hx
      ·rintro ⟨(h1 | rfl) | h1, h2⟩
       ·right; exact ⟨⟨.inl h1, fun q hq => h2 q (.inl hq)⟩, h2 i (.inr rfl)⟩
       ·left; rfl
       ·right; exact ⟨⟨.inr h1, fun q hq => h2 q (.inl hq)⟩, h2 i (.inr rfl)⟩
     ·have hfe : (L.filter fun x => !(con i).contains x).flatMap (fun j => if j = i then g else G j) = (L.filter fun x => !(con i).contains x).flatMap G := by
       have hcongr : ∀ (L' : List Nat) (f f' : Nat → List Res), (∀ x ∈ L', f x = f' x) → L'.flatMap f = L'.flatMap f' := by
        intro L' f f' hff
        induction L' with
        | nil => rfl
        | cons y L' ihL => simp [hff y (by simp), ihL fun x hx => hff x (by simp [hx])]
       apply hcongr
       intro x hx
       have hne : x ≠ i := fun e => by
        rcases ((hLm x).1 (List.mem_filter.1 hx).1).1 with h | h
        ·exact hinp (e ▸ h)
        ·omega
       simp [hne]
      simp only [List.flatMap_cons, if_true, hfe]
      rw [← List.append_assoc]
      exact hI'
    simp only [Pos.go, ROps, Kont.fin] at hrun
    by_cases hwd : Region.wanted (l[i]) (yielded l.toArray tm) = true
    ·have := Zdv l.toArray tm (l[i])
     simp only at this
     rw [this, if_pos hwd] at hrun
     obtain ⟨hp, hrun⟩ := hrun
     have ho' : l.toArray[i]? = some l[i] := by rw [hget]; exact ho
     split at hrun
     ·exact Zep ho' hwd hp (by assumption) (hnext _ _ hrun)
     ·exact ZdO ho' hwd hp (by assumption) (hnext _ _ hrun)
     ·rcases hrun with ⟨R, hc, hk⟩ | ⟨RP, hc, hk⟩
      ·exact Zfc ho' hwd hp (by assumption) hc fun v w'' hR => hnext v w'' (hk v w'' hR)
      ·exact Zes ho' hwd hp (by assumption) hc hk
     ·exact Zer ho' hwd hp (by assumption) hrun
     ·obtain ⟨R, hc, hk⟩ := hrun
      exact Zeq ho' hwd hp (by assumption) hc fun v w'' hR => hnext v w'' (hk v w'' hR)
     ·exact hrun.elim
    ·have := Zdv l.toArray tm (l[i])
     simp only at this
     rw [this, if_neg hwd] at hrun
     have ho' : l.toArray[i]? = some l[i] := by rw [hget]; exact ho
     exact Zfb ho' (by simpa using hwd) (hnext _ _ hrun)
   ·
    have hge : mq ≤ i := Nat.le_of_not_lt hiq
    have htl : ∀ j, mq ≤ j → ∀ o, l[j]? = some o → ∀ x, x < j → x ∈ ZbJ o := by
     intro j hj o hoj x hx
     have hjl : j < l.length := (List.getElem?_eq_some_iff.1 hoj).1
     have := List.all_eq_true.1 htail j (List.mem_range.2 hjl)
     rw [Bool.or_eq_true] at this
     rcases this with h | h
     ·exact absurd (ZdZ h) (by omega)
     ·rw [hoj] at h
      have := List.all_eq_true.1 h x (List.mem_range.2 hx)
      simpa using this
    have hall : ∀ j, j < mq → j ∈ pre := fun j hj => hdeps j (htl i hge _ ho j (by omega))
    have hieq : i = mq := by
     apply Classical.byContradiction
     intro hne
     have := hlt mq (hdeps mq (htl i hge _ ho mq (by omega)))
     omega
    have hrange : ∀ (rest' pre' : List Nat) (c : Nat), sch = pre' ++ rest' → (∀ x, x ∈ pre' ↔ x < c) → mq ≤ c → c ≤ l.length → rest' = List.range' c (l.length - c) := by
     intro rest'
     induction rest' with
     | nil =>
      intro pre' c hs hp hc hcl
      rw [List.append_nil] at hs
      have : l.length = c := by
       apply Classical.byContradiction
       intro hne
       have : c ∈ pre' := by rw [← hs]; exact hT.all c (by simp; omega)
       rw [hp] at this; omega
      simp [this]
     | cons q rest' ihr =>
      intro pre' c hs hp hc hcl
      have hq : q < l.length := by have := hT.lt q (by rw [hs]; simp); simpa using this
      have hqp : q ∉ pre' := by
       have := hT.nd
       rw [hs, List.nodup_append] at this
       intro hx; exact this.2.2 q hx q (by simp) rfl
      have hqc : ¬ q < c := fun h => hqp ((hp q).2 h)
      have : q = c := by
       apply Classical.byContradiction
       intro hne
       have := hdep pre' q rest' hs _ (List.getElem?_eq_getElem hq) c (htl q (by omega) _ (List.getElem?_eq_getElem hq) c (by omega))
       rw [hp] at this; omega
      subst this
      rw [show l.length - q = (l.length - (q + 1)) + 1 by omega, List.range'_succ]
      congr 1
      exact ihr (pre' ++ [q]) (q + 1) (by rw [hs]; simp) (by intro x; simp [hp]; omega) (by omega) (by omega)
    have hrest : i :: rest = List.range' mq (l.length - mq) := hrange (i :: rest) pre mq hsch (fun x => ⟨hlt x, hall x⟩) (Nat.le_refl _) hmq'
    have hLp : L.Perm (Zgg l.length mq giv.length con) := by
     unfold Zgg
     rw [List.perm_ext_iff_of_nodup hLn ((hnodup mq hmq').filter _)]
     intro a
     rw [hLm]
     simp only [List.mem_filter, List.mem_append, List.mem_range, List.mem_range'_1, List.all_eq_true, Bool.not_eq_true', List.contains_eq_mem, decide_eq_false_iff_not]
     constructor
     ·rintro ⟨h1, h2⟩; exact ⟨h1.imp (hlt a) id, fun q hq => h2 q (hall q hq)⟩
     ·rintro ⟨h1, h2⟩; exact ⟨h1.imp (hall a) id, fun q hq => h2 q (hlt q hq)⟩
    have hfin' := hfin V G H' hvg hle (fun i hi => hF i (hall i hi)) r hr w (hI.perm ((List.perm_append_left_iff _).2 (hLp.flatMap_right G))) tm htm (by
     intro t v hl'
     rcases Zdq _ t v hl' with ⟨j, hj, hd, rfl⟩ | h
     ·have hjm := List.mem_range.1 hj
      cases hoj : l[j]? with
      | none => rw [hoj] at hd; cases hd
      | some o => rw [hoj] at hd; exact htmp j (hall j hjm) o t hoj hd
     ·exact hE t v h)
    have := Zfd (ops := l.toArray) (l.drop mq) (l.take mq) tm w (by simp) hfin'
    rw [hrest]
    simpa [List.length_take, Nat.min_eq_left hmq'] using this
 exact main sch [] tm w1 (by simp) (by simp) (by simp) ⟨fun _ => undef, fun x => (giv[x - l.length]?).toList, H, List.range' l.length giv.length, hvg0, .refl _, by simp, ht, hE, by simp, List.nodup_range', by simp [List.mem_range'_1], by rw [Zjy hvg0]; exact hw1⟩
end draw
end Go.Cat
namespace Go.Cat
section drawL
variable {P : Program} {ρ τ : Type} {C : Ctx P ρ} {m : Option τ} {κ : τ → Option ρ} {env : Env} {own : List Res} {H : Heap} {D : List Deferred} {k : List Item} {p : Pos}
def ZkE (C : Ctx P ρ) (env : Env) (own : List Res) (H : Heap) (D : List Deferred) (l : List Oper) (giv : List Res) (Fs : List FT) (o : Oper) (con : List Nat) (F : FT) : Prop :=
 ∀ (V : Nat → Value) (G : Nat → List Res) H' fr, vg l.length giv G → Hle H H' → (∀ j ∈ ZbJ o, (Fs.getD j FT0) H' (V j) (G j)) →
   ∃ (τ' : Type) (mi : Option τ'), mi.isSome = true ∧ ∀ r : ρ, Sim C mi (fun _ => some r) (ZcY l V (ZbJ o) ++ env) (own ++ con.flatMap G ++ fr) H' D
    (.ops (l.map (·.dst)) [o] (.pred fun tm' w' => ∃ v g H'', (∀ d, o.dst = some d → tm'[d]? = some v) ∧ Hle H' H'' ∧ Inv C.w0 C.M C.H0 (own ++ g ++ fr) H'' w' ∧ F H'' v g))
def ZfA (C : Ctx P ρ) (env : Env) (own : List Res) (H : Heap) (D : List Deferred) (l : List Oper) (giv : List Res) (Fs : List FT) : List Oper → List (List Nat) → List FT → Prop
 | o :: os, c :: cs, F :: Gs => ZkE C env own H D l giv Fs o c F ∧ ZfA C env own H D l giv Fs os cs Gs
 | _, [], [] => True
 | _, _, _ => False
theorem ZfA.get {l : List Oper} {giv : List Res} {Fs : List FT} : ∀ {os : List Oper} {cs : List (List Nat)} {Gs : List FT}, ZfA C env own H D l giv Fs os cs Gs → cs.length = Gs.length → ∀ (i : Nat) (o : Oper), i < Gs.length → os[i]? = some o → ZkE C env own H D l giv Fs o (cs.getD i []) (Gs.getD i FT0) := by
 intro os
 induction os with
 | nil => intro cs Gs _ _ i o _ ho; simp at ho
 | cons x os ih =>
  intro cs Gs h hl i o hi ho
  cases cs with
  | nil => cases Gs with
   | nil => simp at hi
   | cons => simp at hl
  | cons c cs => cases Gs with
   | nil => simp at hl
   | cons F Gs =>
    cases i with
    | zero => simp only [List.getElem?_cons_zero, Option.some.injEq] at ho; subst ho; simpa using h.1
    | succ i =>
     have := ih h.2 (by simpa using hl) i o (by simpa using hi) (by simpa using ho)
     simpa using this
theorem Zhb {i : Nat} {l : List Oper} (giv : List Res) (Fs : List FT) (cs : List (List Nat)) (hm : P.follows .mixedOrders = true) (hmono : Zh1 Fs)
  (hac : ZeU l.toArray = true) (htail : ZgQ l Fs.length = true) (hds : dsOk env C.n (l.take Fs.length) = true) (hcon : ZiS l Fs.length giv.length (fun i => cs.getD i []) = true) (hmq : Nat.ble Fs.length l.length = true) (hcs : Nat.beq cs.length Fs.length = true)
  (hstep : ZfA C env own H D l giv Fs l cs Fs)
  (hfin : ∀ (V : Nat → Value) (G : Nat → List Res) H', vg l.length giv G → Hle H H' → (∀ i, i < Fs.length → (Fs.getD i FT0) H' (V i) (G i)) →
   Sim C m κ (ZcY l V (List.range Fs.length) ++ env) (own ++ (Zgg l.length Fs.length giv.length (fun i => cs.getD i [])).flatMap G) H' D (.ops (l.map (·.dst)) (l.drop Fs.length) (.items k))) :
  Sim C m κ env (own ++ giv) H D (.code (.code (.region i l.toArray true) :: k)) :=
 Zmg giv Fs.length (fun i => Fs.getD i FT0) (fun i => cs.getD i []) hm (fun i H H' v g hle hF => (hmono.get i) H H' v g hle hF) hac htail hds hcon hmq
  (fun i o hi ho V G H' fr hg hle hd => hstep.get (Nat.eq_of_beq_eq_true hcs) i o hi ho V G H' fr hg hle hd) hfin
theorem Zby {l os : List Oper} {giv : List Res} {Fs Fs' : List FT} {o : Oper} {c : List Nat} {cs : List (List Nat)} {F : FT} (h : ZkE C env own H D l giv Fs o c F) (h' : ZfA C env own H D l giv Fs os cs Fs') : ZfA C env own H D l giv Fs (o :: os) (c :: cs) (F :: Fs') := ⟨h, h'⟩
theorem Zm1 {l os : List Oper} {giv : List Res} {Fs : List FT} : ZfA C env own H D l giv Fs os [] [] := by cases os <;> trivial
theorem s_mv (j : Nat) {r : Res} (h : own[j]? = some r) (hs : Sim C m κ env (own.eraseIdx j ++ [r]) H D p) : Sim C m κ env own H D p := by
 refine ZcP ?_ hs
 have h1 : own = own.take j ++ r :: own.drop (j + 1) := by
  obtain ⟨hlt, rfl⟩ := List.getElem?_eq_some_iff.1 h
  simp
 have h2 : own.eraseIdx j = own.take j ++ own.drop (j + 1) := List.eraseIdx_eq_take_drop_succ ..
 rw [h2]
 conv => lhs; rw [h1]
 rw [List.append_assoc]
 refine (List.perm_append_left_iff _).2 ?_
 exact (List.perm_append_singleton r _).symm
end drawL
end Go.Cat
namespace Go.Cat
def tgtR (P : Program) (R : Value → World → Prop) : Tgt P := {
 K := fun cs m => ∀ c rest, cs = c :: rest → ∃ v w', R v w' ∧ Steps P m (lone (c.finish v) rest w')
 back := fun h k c rest e => by
  obtain ⟨v, w', hR, hs⟩ := k c rest e
  exact ⟨v, w', hR, h.trans hs⟩ }
def Zit (l f : Nat) : Frame := { (default : Frame) with fn := f, kind := .normal, roundOf := some l }
theorem Zhz {P : Program} {l f : Nat} {tmps : Array Value} {assign body : Code} {w : World} {R : Value → World → Prop}
  (h : Go (tgtR P R) (Zit l f) tmps [] [.code assign, .beginRound, .code body] w) : ZiW P l f tmps assign body w R := by
 intro c cs
 have := h (c :: cs) c cs rfl
 exact this
section moves
variable {P : Program} {T : Tgt P} {b : Frame} {tm : Array Value} {D : List Deferred} {k : List Item} {w w' : World}
theorem ZhL {l f : Nat} {R : Value → World → Prop} {v : Value} (he : (Instr.endRound l none).run P w = .ok v w') (hR : R v w') : Go (tgtR P R) (Zit l f) tm D [] w := by
 intro cs c rest e
 subst e
 refine ⟨v, w', hR, Steps.one (step_lone_go ?_)⟩
 simp [stepG, stepG.exec, fra, Zit, he, doReturn]
theorem Zhl {l f : Nat} {T : Tgt P} (hb : (Instr.beginRound l).run P w = .ok () w') (g : Go T (Zit l f) tm D k w') : Go T (Zit l f) tm D (.beginRound :: k) w :=
 .one (fun _ => step_lone_go (by simp [stepG, stepG.exec, stepG.apply, fra, Zit, hb, Frame.finish])) g
theorem ZhM {f : Operand} {params : Array Tmp} {assign body : Code} {l : Nat} {mark : List Deferred} {w1 : World} {g : FuncId} {args : Array Value} {R : Value → World → Prop}
  (he : (Instr.enterLoop b.fn tm params assign body b.roundOf).run P w = .ok (l, mark) w1)
  (hi : (do let d ← resolve (ZcX tm) { callee := .value f, args := #[.const (.func (.yield l) #[] #[])], argTypes := #[] } 0; invoke d.target d.args : Sem Next).run P w1 = .ok (.enter g args) w1)
  (hc : Calls P g args w1 fun e w' => ∃ v, e = .returned v ∧ R v w')
  (hend : ∀ v w', R v w' → ∃ w'', (Instr.endLoop l).run P w' = .ok none w'' ∧ Go T b tm (mark ++ D) k w'') :
  Go T b tm D (.code (.rangeFunc f params assign body) :: k) w := by
 intro cs
 obtain ⟨e, w2, fr, ⟨v, rfl, hR⟩, hsteps, _, hleave⟩ := hc (fra b tm (mark ++ D) (.inRangeFunc l :: k) :: cs)
 obtain ⟨w3, hl, hg⟩ := hend v w2 hR
 have hev := Zgl b tm D (.code (.rangeFunc f params assign body) :: k)
 simp only [fra] at hev
 have h1 : step P (lone (fra b tm D (.code (.rangeFunc f params assign body) :: k)) cs w) = .next (lone (Frame.enter P g args .normal) (fra b tm (mark ++ D) (.inRangeFunc l :: k) :: cs) w1) :=
  step_lone_go (by
   have hev2 := Zgl b tm (mark ++ D) (.inRangeFunc l :: k)
   simp only [fra] at hev2
   simp only [stepG, stepG.exec, fra, stepG.apply]
   simp [he, hev2]
   simp at hi
   simp [hi])
 have h2 : step P (lone ((fra b tm (mark ++ D) (.inRangeFunc l :: k)).finish v) cs w2) = .next (lone (fra b tm (mark ++ D) k) cs w3) :=
  step_lone_go (by simp [stepG, stepG.exec, fra, Frame.finish, hl])
 refine T.back (.head h1 (hsteps.trans (.head (step_leave_returned hleave) (.one h2)))) ?_
 exact hg cs
theorem Zih {f : FuncId} {fn : Func} {d : Deferred} {q : Nat} {R : Ending → World → Prop} {v : Value} (hd : d.target = .collected q)
  (hf : P.funcs[f]? = some fn) (ht : (Instr.takeDeferred q).run P w = .ok [] w') (hr : (results fn tm).run P w' = .ok v w') (hR : R (.returned v) w') :
  Go (tgtN P f R) (Zfy f) tm [d] (.code .ret :: k) w := by
 intro cs
 refine ⟨.returned v, w', { fra (Zfy f) tm [] (.code .ret :: k) with mode := .returning }, hR, ?_, rfl, ?_⟩
 ·refine Steps.head (m₁ := lone { fra (Zfy f) tm [d] (.code .ret :: k) with mode := .returning } cs w) (step_lone_go ?_) (Steps.one (step_lone_go ?_))
  ·simp [stepG, stepG.exec, fra, Zfy]
  ·obtain ⟨tg, da⟩ := d
   simp only at hd; subst hd
   simp [stepG, unwind, fra, Zfy, ht]
 ·exact ⟨rfl, rfl, rfl, fn, hf, hr⟩
end moves
end Go.Cat
