/- A text of the proof of the seat's laws: a step logic over the machine, or pure functions that the Go functions come to. No condition. -/
import Derived.Test.YtmmpieknnnlnhaaGreatCore0
import Derived.RangeFuncRecord
import Derived.Maps.RangeRun
import Derived.Sort.Row
import Derived.Sort.Grow
import Derived.Deep.Draws
import Derived.Lib.ConvBytes
import Derived.Laws.BytesString
import Derived.Laws.AppendOwn
import Derived.Deep.Slices
import Derived.ChangeArms
import Derived.OpenShut
import Derived.WalkKit
import Derived.ProofKit
import Derived.ShutString
import Derived.ChangeOld
import Derived.Carry
import Derived.SizedLaws
set_option linter.unusedVariables false
set_option linter.unusedSimpArgs false
set_option linter.unnecessarySimpa false
namespace Go.Cat
def YFn (P : Program) (l : Nat) (args : List Value) (H : Heap) (inn : List Res) (Φ : Heap → Value → List Res → Prop) : Prop :=
 ∀ w, Inv w (· ∈ ids inn) H inn H w → ∃ f tmps as bd, (Instr.yield l args.toArray).run P w = .ok (.round l f tmps as bd) w ∧
  ZiW P l f tmps as bd w fun v w' => ∃ H' out, Inv w (· ∈ ids inn) H out H' w' ∧ Φ H' v out
def Zjv {α : Type} (P : Program) (g : FuncId) (first cap : List Value) (H : Heap) (enc : α → List Value) (S : List α → Prop) : Prop :=
 ∀ (l : Nat) (J : List α → Heap → List Res → Prop) (H1 : Heap) (inn : List Res), Hle H H1 → J [] H1 inn →
  (∀ xs x ys H2 inn2, Hle H1 H2 → S (xs ++ x :: ys) → J xs H2 inn2 → YFn P l (enc x) H2 inn2 fun H' v out => v = .bool true ∧ J (xs ++ [x]) H' out) →
  Fn P g (first ++ [.func (.yield l) #[] #[]] ++ cap) H1 inn fun H' _ out => ∃ xs, S xs ∧ J xs H' out
def Zd1 (fn : FuncId) (tmps : Array Value) (params : Array Tmp) (assign body : Code) (q : Nat) (s : LoopState) : Obj :=
 .loop { state := s, pending := none, fn, tmps, params, assign, body, defers := q }
def rCtx (P : Program) (f n l : Nat) (w : World) (M : Nat → Prop) (H : Heap) (Φ : Heap → List Res → Prop) : Ctx P Unit :=
 { T := fun _ => tgtR P fun v w' => ∃ H' out, Inv w M H out H' w' ∧ v = .bool true ∧ Φ H' out, b := Zit l f, n := n, w0 := w, M := M, H0 := H }
section rules
variable {P : Program} {ρ τ σ α : Type} {C : Ctx P ρ} {m : Option τ} {κ : τ → Option ρ} {env : Env} {own : List Res} {H : Heap} {D : List Deferred} {k : List Item} {kk : Kont}
variable {ds : List (Option Tmp)} {rem : List Oper} {d : Tmp} {ty : TypeId} {pos : String} {af : Array Edge}
theorem ZjH {l : Nat} {vs : List Value} {cargs : List Operand} {fo : Operand} {ats : Array TypeId} {Φ : Heap → Value → List Res → Prop} (inn rest : List Res)
  (hf : ev env fo = some (.func (.yield l) #[] #[])) (ha : evs env cargs = some vs) (hp : own.Perm (inn ++ rest)) (hF : YFn P l vs H inn Φ)
  (h : ∀ v H' out, Hle H H' → Φ H' v out → Sim C m κ ((d, v) :: env) (rest ++ out) H' D (.ops ds rem kk)) (hd : Nat.blt d C.n = true := by rfl) :
  Sim C m κ env own H D (.ops ds (⟨some d, .call ⟨.value fo, cargs.toArray, ats⟩, ty, pos, af, none⟩ :: rem) kk) := by
 intro r hr w hw tm ht hE
 have hdn : d < tm.size := by rw [ht]; exact ZdZ hd
 have hw' := hw.perm hp
 obtain ⟨f, tmps, as, bd, hy, hR⟩ := hF w hw'.enter
 simp only [Pos.go, ROps] at *
 rw [if_pos (show ZcM ds tm none = true from rfl)]
 refine ⟨.inr (fun _ h => by cases h), ?_⟩
 have ha' := Zd4 hE ha
 have hrun : (execOp (ZcX tm) ⟨some d, .call ⟨.value fo, cargs.toArray, ats⟩, ty, pos, af, none⟩).run P w = .ok (.round l f tmps as bd) w := by
  simp [execOp, resolve, Zay hE hf, Deferred.ofValue, invoke, ha', hy]
 rw [hrun]
 refine ⟨_, hR, ?_⟩
 rintro v w'' ⟨H', out, hI, hΦ⟩
 exact h v H' out hI.h0 hΦ r hr w'' (hw'.call hI) (tm.setIfInBounds d v) (by simpa using ht) (hE.put hdn)
theorem Inv.setBlk {w0 w : World} {M : Nat → Prop} {H0 : Heap} (h : Inv w0 M H0 own H w) {j b : Nat} {o o' : Obj} (hj : own[j]? = some (.blk b o)) : Inv w0 M H0 (own.set j (.blk b o')) H { w with heap := w.heap.setIfInBounds b o' } := by
 have hb : w.heap[b]? = some o := h.ok _ (List.mem_of_getElem? hj)
 refine h.write hj (b := b) (r' := .blk b o') (by simp [Res.ids]) rfl (fun k hk => by simp [Ne.symm hk]) (by simp) rfl rfl rfl ?_
 have : b < w.heap.size := (Array.getElem?_eq_some_iff.1 hb).1
 simp [Res.ok, this]
theorem Zhy {l f n q : Nat} {w : World} {M : Nat → Prop} {H0 : Heap} {Φ : Heap → List Res → Prop} {m : Option τ} {κ : τ → Option Unit} {fn : FuncId} {tmps : Array Value} {ps : Array Tmp} {as bd : Code} (j : Nat)
  (hj : own[j]? = some (.blk l (Zd1 fn tmps ps as bd q .ready))) (h : Sim (rCtx P f n l w M H0 Φ) m κ env (own.set j (.blk l (Zd1 fn tmps ps as bd q .busy))) H D (.code k)) :
  Sim (rCtx P f n l w M H0 Φ) m κ env own H D (.code (.beginRound :: k)) := by
 intro r hr w1 hw tm ht hE
 have hb : w1.heap[l]? = some (Zd1 fn tmps ps as bd q .ready) := hw.ok _ (List.mem_of_getElem? hj)
 refine Zhl (w' := { w1 with heap := w1.heap.setIfInBounds l (Zd1 fn tmps ps as bd q .busy) }) ?_ (h r hr _ (hw.setBlk hj) tm ht hE)
 simp [Instr.beginRound, Instr.getLoop, run_getObj_loop hb, Zd1]
 rw [run_setObj_loop _ hb]
 simp [World.putObj, Zd1]
theorem Zi1 {l f n q : Nat} {w : World} {M : Nat → Prop} {H0 : Heap} {Φ : Heap → List Res → Prop} {m : Option τ} {κ : τ → Option Unit} {fn : FuncId} {tmps : Array Value} {ps : Array Tmp} {as bd : Code} (j : Nat) (out : List Res)
  (hj : own[j]? = some (.blk l (Zd1 fn tmps ps as bd q .busy))) (ho : out.Sublist (own.set j (.blk l (Zd1 fn tmps ps as bd q .ready)))) (hΦ : Φ H out) :
  Sim (rCtx P f n l w M H0 Φ) m κ env own H D (.code []) := by
 intro r hr w1 hw tm ht hE
 have hb : w1.heap[l]? = some (Zd1 fn tmps ps as bd q .busy) := hw.ok _ (List.mem_of_getElem? hj)
 refine ZhL (v := .bool true) (w' := { w1 with heap := w1.heap.setIfInBounds l (Zd1 fn tmps ps as bd q .ready) }) ?_ ⟨H, out, (hw.setBlk hj).sublist ho, rfl, hΦ⟩
 simp [Instr.endRound, Instr.getLoop, run_getObj_loop hb, Zd1]
 rw [run_setObj_loop _ hb]
 simp [World.putObj, Zd1]
def rEnv (env : Env) (p : Tmp) (v : Value) : Env := (p, v) :: env
theorem ZjI {α : Type} {g : FuncId} {first cap : List Value} {f : Operand} {p : Tmp} {assign body : Code} {enc : α → Value} {S : List α → Prop} [F : TFun P g]
  (inn rest : List Res) (JB : List α → Heap → List Res → Prop) (hC : C.b.roundOf = none) (hCf : C.b.fn = C.b.fn)
  (hf : ev env f = some (.func (.func g) first.toArray cap.toArray)) (hp : own.Perm (inn ++ rest)) (hS : Zjv P g first cap H (fun x => [enc x]) S) (h0 : JB [] H inn)
  (hpn : Nat.blt p C.n = true)
  (hbody : ∀ (l q : Nat) (tmps : Array Value) (xs : List α) (x : α) (ys : List α) (H2 : Heap) (o : List Res) (w : World), Hle H H2 → S (xs ++ x :: ys) → JB xs H2 o →
   ∃ (τ' : Type) (mi : Option τ'), mi.isSome = true ∧ Sim (rCtx P C.b.fn C.n l w (· ∈ ids (o ++ [.blk l (Zd1 C.b.fn tmps #[p] assign body q .ready)])) H2 fun H' out => ∃ o', out = o' ++ [.blk l (Zd1 C.b.fn tmps #[p] assign body q .ready)] ∧ JB (xs ++ [x]) H' o')
    mi (fun _ => some ()) (rEnv env p (enc x)) (o ++ [.blk l (Zd1 C.b.fn tmps #[p] assign body q .ready)]) H2 [] (.code [.code assign, .beginRound, .code body]))
  (hnext : ∀ (q : Nat) (xs : List α) (H' : Heap) (o : List Res), Hle H H' → S xs → JB xs H' o → Sim C m κ env (rest ++ [.blk q (.deferred (some []))] ++ o) H' ({ target := .collected q, args := #[] } :: D) (.code k)) :
  Sim C m κ env own H D (.code (.code (.rangeFunc f #[p] assign body) :: k)) := by
 intro r hr w hw tm ht hE
 have hw' := hw.perm hp
 have hw1 := hw'.push (.deferred (some [])) (.blk w.heap.size (.deferred (some []))) rfl (by exact (MapKept.heap_alloc w _).1)
 have hw2 := hw1.push (Zd1 C.b.fn tm #[p] assign body w.heap.size .ready) (.blk (w.alloc (.deferred (some []))).heap.size (Zd1 C.b.fn tm #[p] assign body w.heap.size .ready)) rfl (by exact (MapKept.heap_alloc _ _).1)
 generalize hq : w.heap.size = q at hw1 hw2
 have hsz : (w.alloc (.deferred (some []))).heap.size = q + 1 := by simp [hq]
 rw [hsz] at hw2
 generalize hlp : Zd1 C.b.fn tm #[p] assign body q = lp at hw2
 have henter : (Instr.enterLoop C.b.fn tm #[p] assign body C.b.roundOf).run P w = .ok (q + 1, [{ target := .collected q, args := #[] }]) ((w.alloc (.deferred (some []))).alloc (lp .ready)) := by
  subst hlp hq
  simp [Instr.enterLoop, hC, Zd1]
 generalize (w.alloc (.deferred (some []))).alloc (lp .ready) = w2 at hw2 henter
 obtain ⟨fn, hF1, hF2, hF3⟩ := F.of
 let J : List α → Heap → List Res → Prop := fun xs H' out => ∃ o, out = o ++ [.blk (q + 1) (lp .ready)] ∧ JB xs H' o
 have hfn := hS (q + 1) J H (inn ++ [.blk (q + 1) (lp .ready)]) (.refl _) ⟨inn, rfl, h0⟩ ?_
 ·have hperm : ((inn ++ rest ++ [Res.blk q (.deferred (some []))]) ++ [Res.blk (q + 1) (lp .ready)]).Perm ((inn ++ [Res.blk (q + 1) (lp .ready)]) ++ (rest ++ [Res.blk q (.deferred (some []))])) := by
   simp only [List.append_assoc]
   refine (List.perm_append_left_iff _).2 ?_
   rw [← List.append_assoc]
   exact List.perm_append_comm
  have hw3 := hw2.perm hperm
  have hcall := hfn _ hw3.enter
  let R : Value → World → Prop := fun v w' => ∃ H' out, Inv w2 (· ∈ ids (inn ++ [.blk (q + 1) (lp .ready)])) H out H' w' ∧ ∃ xs, S xs ∧ J xs H' out
  have hcall2 : Calls P g (first ++ [Value.func (.yield (q + 1)) #[] #[]] ++ cap).toArray w2 fun e w' => ∃ v, e = .returned v ∧ R v w' := hcall
  refine ZhM (g := g) henter ?_ hcall2 ?_
  ·simp only [resolve, Zay hE hf, Deferred.ofValue, pure_bind, invoke, callFunc, Sem.run_bind, run_program, Result.andThen_ok, hF1]
   simp only [hF2, Bool.false_eq_true, if_false, hF3]
   simp [ZcX]
  ·rintro v w' ⟨H', out, hI, xs, hxs, o, rfl, hJ⟩
   have hI2 := Inv.call (C := C) hw3 hI
   have hI3 : Inv C.w0 C.M C.H0 ((rest ++ [.blk q (.deferred (some []))] ++ o) ++ [.blk (q + 1) (lp .ready)]) H' w' := by
    rw [List.append_assoc]; exact hI2
   have hj : ((rest ++ [.blk q (.deferred (some []))] ++ o) ++ [Res.blk (q + 1) (lp .ready)])[(rest ++ [Res.blk q (.deferred (some []))] ++ o).length]? = some (.blk (q + 1) (lp .ready)) := by simp
   have hb : w'.heap[q + 1]? = some (lp .ready) := hI3.ok _ (List.mem_of_getElem? hj)
   refine ⟨{ w' with heap := w'.heap.setIfInBounds (q + 1) (lp .exhausted) }, ?_, ?_⟩
   ·subst hlp
    simp [Instr.endLoop, Instr.getLoop, run_getObj_loop hb, Zd1]
    rw [run_setObj_loop _ hb]
    simp [World.putObj, Zd1]
   ·have hI4 := (hI3.setBlk (o' := lp .exhausted) hj).sublist (own' := rest ++ [.blk q (.deferred (some []))] ++ o) (by
     rw [List.set_append_right _ _ (Nat.le_refl _)]
     exact List.sublist_append_left _ _)
    exact hnext q xs H' o hI.h0 hxs hJ r hr _ hI4 tm ht hE
 ·
  rintro xs x ys H2 inn2 hle hSx ⟨o, rfl, hJ⟩ w1 hw1
  obtain ⟨τ', mi, hmi, hsim⟩ := hbody (q + 1) q tm xs x ys H2 o w1 hle hSx hJ
  have hb : w1.heap[q + 1]? = some (lp .ready) := hw1.ok (.blk (q + 1) (lp .ready)) (by simp)
  refine ⟨C.b.fn, tm.setIfInBounds p (enc x), assign, body, ?_, ?_⟩
  ·subst hlp
   simp [Instr.yield, Instr.getLoop, run_getObj_loop hb, Zd1]
  ·refine Zhz ?_
   subst hlp
   have := hsim () (by cases mi with
    | none => simp at hmi
    | some a => rfl) w1 hw1 (tm.setIfInBounds p (enc x)) (by simpa [rCtx] using ht) (hE.put (by rw [ht]; exact ZdZ hpn))
   exact this
end rules
end Go.Cat
namespace Go.Cat
open Go.ChangeMaps Go.MapKept Go.WideShapes
def ZdI (es : Array MapEntry) (ix : List Nat) : Array Nat := (ix.map fun i => ((es[i]?).map (·.born)).getD 0).toArray
def Zde (b c : Nat) (es : Array MapEntry) (ix : List Nat) : Obj := .mapIter (some b) c (ZdI es ix) c
structure Came (n : Nat) (ix : List Nat) : Prop where
 nd : ix.Nodup
 lt : ∀ i ∈ ix, i < n
theorem Came.nil {n : Nat} : Came n [] := ⟨List.nodup_nil, by simp⟩
theorem Came.snoc {n i : Nat} {ix : List Nat} (h : Came n ix) (hi : i < n) (hn : i ∉ ix) : Came n (ix ++ [i]) := by
 refine ⟨?_, ?_⟩
 ·rw [List.nodup_append]; exact ⟨h.nd, by simp, by rintro a ha b hb rfl; simp at hb; subst hb; exact hn ha⟩
 ·intro j hj; rcases List.mem_append.1 hj with hj | hj
  ·exact h.lt j hj
  ·simp at hj; subst hj; exact hi
theorem Came.split {n : Nat} {ix : List Nat} (h : Came n ix) : (List.range n).Perm (ix ++ (List.range n).filter fun i => !ix.contains i) := by
 rw [List.perm_ext_iff_of_nodup List.nodup_range (by
  rw [List.nodup_append]
  refine ⟨h.nd, List.nodup_range.filter _, ?_⟩
  rintro a ha b hb rfl
  simp only [List.mem_filter, Bool.not_eq_true', List.contains_eq_mem, decide_eq_false_iff_not] at hb
  exact hb.2 ha)]
 intro a
 simp only [List.mem_append, List.mem_filter, List.mem_range, Bool.not_eq_true', List.contains_eq_mem, decide_eq_false_iff_not]
 constructor
 ·intro ha; by_cases hx : a ∈ ix
  ·exact .inl hx
  ·exact .inr ⟨ha, hx⟩
 ·rintro (ha | ha)
  ·exact h.lt a ha
  ·exact ha.1
theorem Came.le {n : Nat} {ix : List Nat} (h : Came n ix) : ix.length ≤ n := by
 have := h.split.length_eq
 simp at this; omega
theorem Came.perm {n : Nat} {ix : List Nat} (h : Came n ix) (hf : n ≤ ix.length) : ix.Perm (List.range n) := by
 have hs := h.split
 have hl := hs.length_eq
 rw [List.length_append, List.length_range] at hl
 have : ((List.range n).filter fun i => !ix.contains i) = [] := List.eq_nil_of_length_eq_zero (by omega)
 rw [this, List.append_nil] at hs
 exact hs.symm
def vis {γ : Type} (l : List γ) (ix : List Nat) : List γ := ix.filterMap fun i => l[i]?
theorem Zix {γ : Type} {l : List γ} {ix : List Nat} {i : Nat} {p : γ} (h : l[i]? = some p) : vis l (ix ++ [i]) = vis l ix ++ [p] := by simp [vis, h]
theorem Zhu {γ : Type} (l : List γ) : vis l (List.range l.length) = l := by
 unfold vis
 have h : ∀ (l pre : List γ), (List.range' pre.length l.length).filterMap (fun i => (pre ++ l)[i]?) = l := by
  intro l
  induction l with
  | nil => intro pre; rfl
  | cons a l ih =>
   intro pre
   rw [List.length_cons, List.range'_succ, List.filterMap_cons]
   have h1 : (pre ++ a :: l)[pre.length]? = some a := by simp
   rw [h1]
   have := ih (pre ++ [a])
   simp only [List.length_append, List.length_singleton, List.append_assoc, List.singleton_append] at this
   rw [this]
 have := h l []
 simpa [List.range_eq_range'] using this
theorem Ziy {γ : Type} {l : List γ} {ix : List Nat} (h : Came l.length ix) (hf : l.length ≤ ix.length) : (vis l ix).Perm l := by
 have := (h.perm hf).filterMap fun i => l[i]?
 have h2 := Zhu l
 unfold vis at *
 rw [h2] at this
 exact this
theorem Zgd {γ : Type} {l : List γ} {ix : List Nat} (h : Came l.length ix) : ∃ ys, (vis l ix ++ ys).Perm l := by
 refine ⟨vis l ((List.range l.length).filter fun i => !ix.contains i), ?_⟩
 have h2 := Zhu l
 have h3 := h.split.symm.filterMap fun i => l[i]?
 unfold vis at *
 rw [List.filterMap_append, h2] at h3
 exact h3
section rules
variable {P : Program} {ρ τ α β : Type} {C : Ctx P ρ} {m : Option τ} {κ : τ → Option ρ} {env : Env} {own : List Res} {H : Heap} {D : List Deferred} {k : Kont} {K : List Item}
variable {ds : List (Option Tmp)} {rem : List Oper} {d : Tmp} {ty : TypeId} {pos : String} {af : Array Edge}
theorem Zg7 {σ : Type} {x : Code} (I : σ → Env → List Res → Heap → Prop) (meas : σ → Nat)
  (hb : ∀ s env own H, I s env own H → (∀ s' env' own' H', meas s' < meas s → I s' env' own' H' → Sim C m κ env' own' H' D (.code (.inLoop x :: K))) → Sim C m κ env own H D (.code (.code x :: .inLoop x :: K)))
  (s : σ) (h0 : I s env own H) : Sim C m κ env own H D (.code (.code (.loop x) :: K)) := by
 have key : ∀ n s env own H, meas s < n → I s env own H → Sim C m κ env own H D (.code (.code x :: .inLoop x :: K)) := by
  intro n
  induction n with
  | zero => intro s env own H h; omega
  | succ n ih =>
   intro s env own H hn hI
   exact hb s env own H hI fun s' env' own' H' hlt hI' => ZiC (ih s' env' own' H' (by omega) hI')
 exact ZjK (key (meas s + 1) s env own H (Nat.lt_succ_self _) h0)
theorem Zmu {t kt et : TypeId} {x : Operand} {b c : Nat} {es : Array MapEntry} [T : TMap P t kt et] (hx : ev env x = some (.map (some b))) (hb : H b = some (.map es c))
  (h : ∀ r, Sim C m κ ((d, .pointer (some ⟨r, 0, none⟩)) :: env) (own ++ [.blk r (Zde b c es [])]) H D (.ops ds rem k)) (hd : Nat.blt d C.n = true := by rfl) :
  Sim C m κ env own H D (.ops ds (⟨some d, .range t x, ty, pos, af, none⟩ :: rem) k) :=
 s_op (fun _ h => by cases h) (fun tm w hE hI => by
  have hb' : w.heap[b]? = some (.map es c) := hI.sub _ _ hb
  refine ⟨_, w.alloc (Zde b c es []), _, _, ?_, hI.push _ (.blk w.heap.size (Zde b c es [])) rfl (by exact (MapKept.heap_alloc w _).1), h w.heap.size⟩
  simp only [execOp, Zay hE hx, Sem.run_bind, run_range_map w t kt et b es c T.und hb', Result.andThen_ok, Sem.run_pure]
  rfl) hd
theorem Zk0 {t kt et : TypeId} {x : Operand} [T : TMap P t kt et] (hx : ev env x = some (.map none))
  (h : ∀ r, Sim C m κ ((d, .pointer (some ⟨r, 0, none⟩)) :: env) (own ++ [.blk r (.mapIter none 0 #[] 0)]) H D (.ops ds rem k)) (hd : Nat.blt d C.n = true := by rfl) :
  Sim C m κ env own H D (.ops ds (⟨some d, .range t x, ty, pos, af, none⟩ :: rem) k) :=
 s_op (fun _ h => by cases h) (fun tm w hE hI => by
  refine ⟨_, w.alloc (.mapIter none 0 #[] 0), _, _, ?_, hI.push _ (.blk w.heap.size (.mapIter none 0 #[] 0)) rfl (by exact (MapKept.heap_alloc w _).1), h w.heap.size⟩
  simp only [execOp, Zay hE hx, Sem.run_bind, run_range_nilMap w t kt et T.und, Result.andThen_ok, Sem.run_pure]) hd
theorem Zmw (j : Nat) {x : Operand} {r : Nat} (hx : ev env x = some (.pointer (some ⟨r, 0, none⟩))) (hj : own[j]? = some (.blk r (.mapIter none 0 #[] 0)))
  (h : Sim C m κ ((d, .tuple #[.bool false]) :: env) own H D (.ops ds rem k)) (hd : Nat.blt d C.n = true := by rfl) :
  Sim C m κ env own H D (.ops ds (⟨some d, .next x false, ty, pos, af, none⟩ :: rem) k) :=
 s_op (fun _ h => by cases h) (fun tm w hE hI => by
  have hb' : w.heap[r]? = some (.mapIter none 0 #[] 0) := Zco hI hj
  refine ⟨_, w, own, H, ?_, hI, h⟩
  have hg : (getObj r).run P w = .ok (.mapIter none 0 #[] 0) w := by simp [getObj, Sem.run, hb']
  simp only [execOp, Zay hE hx, Instr.next, Sem.run_bind, hg, Result.andThen_ok, Sem.run_pure]) hd
theorem ZfK {es : Array MapEntry} {c : Nat} {l : List (α × β)} [GoE α] [GoT β] {ka va : Bool} (hR : MapR ka va H es c l) {ix : List Nat} (hC : Came l.length ix) {i : Nat} {e : MapEntry} (he : es[i]? = some e) : (ZdI es ix).contains e.born = true ↔ i ∈ ix := by
 unfold ZdI
 simp only [List.contains_toArray, List.contains_eq_mem, List.mem_map, decide_eq_true_eq]
 constructor
 ·rintro ⟨j, hj, hjb⟩
  have hjl : j < es.size := by rw [hR.len]; exact hC.lt j hj
  have hjs : es[j]? = some es[j] := Array.getElem?_eq_getElem hjl
  rw [hjs] at hjb
  simp only [Option.map_some, Option.getD_some] at hjb
  rcases Nat.lt_trichotomy i j with h | h | h
  ·have := hR.inc i j e es[j] h he hjs; omega
  ·exact h ▸ hj
  ·have := hR.inc j i es[j] e h hjs he; omega
 ·intro hi
  exact ⟨i, hi, by rw [he]; rfl⟩
theorem Znk [GoE α] [GoT β] (j : Nat) {ka va : Bool} {x : Operand} {r b c : Nat} {es : Array MapEntry} {l : List (α × β)} {ix : List Nat} (hx : ev env x = some (.pointer (some ⟨r, 0, none⟩))) (hj : own[j]? = some (.blk r (Zde b c es ix)))
  (hb : H b = some (.map es c)) (hR : MapR ka va H es c l) (hC : Came l.length ix)
  (h0 : l.length ≤ ix.length → Sim C m κ ((d, .tuple #[.bool false]) :: env) own H D (.ops ds rem k))
  (h1 : ∀ i p v, i ∉ ix → i < l.length → l[i]? = some p → (∃ vs, v = mkv va vs ∧ GoT.rep H vs p.2) → Sim C m κ ((d, .tuple #[.bool true, mkE ka p.1, v]) :: env) (own.set j (.blk r (Zde b c es (ix ++ [i])))) H D (.ops ds rem k)) (hd : Nat.blt d C.n = true := by rfl) :
  Sim C m κ env own H D (.ops ds (⟨some d, .next x false, ty, pos, af, none⟩ :: rem) k) :=
 s_op (fun _ h => by cases h) (fun tm w hE hI => by
  have hr' : w.heap[r]? = some (.mapIter (some b) c (ZdI es ix) c) := Zco hI hj
  have hb' : w.heap[b]? = some (.map es c) := hI.sub _ _ hb
  have hold : ∀ y ∈ es.toList, y.born < c := fun y hy => by
   obtain ⟨i, hi, rfl⟩ := List.mem_iff_getElem.1 hy
   exact hR.born i _ (by simp at hi; simp [hi])
  rcases run_next_at (P := P) w ty r b c c (ZdI es ix) es c hr' hb' hold (Nat.le_refl _) with ⟨hz, hrun⟩ | ⟨e, he, w1, hw1, hrun⟩
  ·refine ⟨_, w, own, H, ?_, hI, h0 ?_⟩
   ·simp only [execOp, Zay hE hx, Sem.run_bind, hrun, Result.andThen_ok, Sem.run_pure]
   ·
    apply Classical.byContradiction
    intro hlt
    have hlt : ix.length < l.length := by omega
    have hs := hC.split.length_eq
    rw [List.length_append, List.length_range] at hs
    have hne : ((List.range l.length).filter fun i => !ix.contains i) ≠ [] := fun h => by rw [h] at hs; simp at hs; omega
    obtain ⟨i, hi⟩ := List.exists_mem_of_ne_nil _ hne
    simp only [List.mem_filter, List.mem_range, Bool.not_eq_true', List.contains_eq_mem, decide_eq_false_iff_not] at hi
    have hil : i < es.size := by rw [hR.len]; exact hi.1
    have hes : es[i]? = some es[i] := Array.getElem?_eq_getElem hil
    have hnc : (ZdI es ix).contains es[i].born = false := by
     cases hc : (ZdI es ix).contains es[i].born with
     | false => rfl
     | true => exact absurd ((ZfK hR hC hes).1 hc) hi.2
    have : es[i] ∈ leftOf es (ZdI es ix) := by
     unfold leftOf
     rw [Array.mem_filter]
     exact ⟨Array.getElem_mem hil, by simp only [hnc]; rfl⟩
    have hpos := Array.size_pos_of_mem this
    omega
  ·obtain ⟨hmem, hns⟩ := mem_left he
   obtain ⟨i, hi, hie⟩ := List.mem_iff_getElem.1 hmem
   have hil : i < es.size := by simpa using hi
   have hes : es[i]? = some e := by rw [Array.getElem?_eq_getElem hil, ← hie]; simp
   have hlp : i < l.length := by rw [← hR.len]; exact hil
   have hp : l[i]? = some l[i] := List.getElem?_eq_getElem hlp
   obtain ⟨hk, vs, hv, hrep⟩ := hR.ent i e _ hes hp
   have hix : i ∉ ix := fun hx => by rw [(ZfK hR hC hes).2 hx] at hns; cases hns
   have hpush : (ZdI es ix).push e.born = ZdI es (ix ++ [i]) := by simp [ZdI, hes]
   have hw1' : w1.heap = w.heap ∧ w1.os = w.os ∧ w1.tape = w.tape ∧ w1.output = w.output := by rcases hw1 with rfl | rfl <;> exact ⟨rfl, rfl, rfl, rfl⟩
   have hI1 := hI.quiet (w' := w1) hw1'.1 hw1'.2.1 hw1'.2.2.1 hw1'.2.2.2 (hdr := by rcases hw1 with rfl | rfl; exact Nat.le_refl _; exact Nat.le_succ _)
   refine ⟨_, _, _, H, ?_, hI1.setBlk (o' := Zde b c es (ix ++ [i])) hj, h1 i _ e.val hix hlp hp ⟨vs, hv, hrep⟩⟩
   simp only [execOp, Zay hE hx, Sem.run_bind, hrun, Result.andThen_ok, Sem.run_pure, hk]
   rw [hpush]
   rfl) hd
theorem ZmC [GoE α] [GoT β] (j : Nat) {ka va : Bool} {x : Operand} {r b c i : Nat} {es : Array MapEntry} {l : List (α × β)} {ix : List Nat} {p : α × β} (hx : ev env x = some (.pointer (some ⟨r, 0, none⟩))) (hj : own[j]? = some (.blk r (Zde b c es (ix ++ [i]))))
  (hb : H b = some (.map es c)) (hR : MapR ka va H es c l) (hp : l[i]? = some p)
  (h : ∀ v vs, v = mkv va vs → GoT.rep H vs p.2 → Sim C m κ ((d, .tuple #[mkE ka p.1, v]) :: env) own H D (.ops ds rem k)) (hd : Nat.blt d C.n = true := by rfl) :
  Sim C m κ env own H D (.ops ds (⟨some d, .entry x, ty, pos, af, none⟩ :: rem) k) :=
 s_op (fun _ h => by cases h) (fun tm w hE hI => by
  have hlt : i < es.size := by rw [hR.len]; exact (List.getElem?_eq_some_iff.1 hp).1
  have hes : es[i]? = some es[i] := Array.getElem?_eq_getElem hlt
  have hr' : w.heap[r]? = some (.mapIter (some b) c ((ZdI es ix).push es[i].born) c) := by
   have : w.heap[r]? = some (Zde b c es (ix ++ [i])) := Zco hI hj
   rw [this]; simp [Zde, ZdI, hes]
  have hb' : w.heap[b]? = some (.map es c) := hI.sub _ _ hb
  obtain ⟨hk, vs, hv, hrep⟩ := hR.ent i _ _ hes hp
  refine ⟨_, w, own, H, ?_, hI, h _ vs hv hrep⟩
  have hnd : (es.toList.map (·.born)).Nodup := by
   rw [List.nodup_iff_pairwise_ne, List.pairwise_map, List.pairwise_iff_getElem]
   intro a b' ha hb'' hab
   have h1 : es[a]? = some es.toList[a] := by simp at ha; simp [ha]
   have h2 : es[b']? = some es.toList[b'] := by simp at hb''; simp [hb'']
   have := hR.inc a b' _ _ hab h1 h2
   omega
  simp only [execOp, Zay hE hx, Sem.run_bind, run_entry_at (P := P) w r b c (ZdI es ix) es c es[i] hr' hb' (by simp) hnd, Result.andThen_ok, Sem.run_pure, hk]) hd
end rules
section ends
variable {P : Program} {ρ : Type} {f : FuncId} {n : Nat} {w0 : World} {M : Nat → Prop} {H0 : Heap} {Φ : ρ → Heap → Value → List Res → Prop} {r : ρ} {env : Env} {own : List Res} {H : Heap} {k : List Item} {fn : Func}
theorem Zna {xs : List ResultVar} {vs : List Value} (j q : Nat) (own' : List Res) (hf : P.funcs[f]? = some fn) (hr : fn.results.toList = xs) (hq : own[j]? = some (.blk q (.deferred (some [])))) (hv : RVs (ZhS P f n w0 M H0 Φ) env (own.set j (.blk q (.deferred none))) H xs vs) (hs : own'.Sublist (own.set j (.blk q (.deferred none)))) (hΦ : Φ r H (resv vs) own') :
  Sim (ZhS P f n w0 M H0 Φ) (some r) some env own H [{ target := .collected q, args := #[] }] (.code (.code .ret :: k)) := by
 intro r' hr' w hw tm ht hE
 simp at hr'; subst hr'
 have hb : w.heap[q]? = some (.deferred (some [])) := Zco hw hq
 have hI := hw.setBlk (o' := .deferred none) hq
 refine Zih rfl hf ?_ (v := resv vs) (Zfu hr hv hE hI) ⟨_, rfl, H, own', hI.sublist hs, hΦ⟩
 simp [Instr.takeDeferred, getObj, setObj, Sem.run, hb]
end ends
end Go.Cat
namespace Go.Cat
section rules
variable {P : Program} {ρ τ : Type} {C : Ctx P ρ} {m : Option τ} {κ : τ → Option ρ} {env : Env} {own : List Res} {H : Heap} {D : List Deferred} {K : List Item}
end rules
section ends
variable {P : Program} {ρ : Type} {f : FuncId} {n : Nat} {w0 : World} {M : Nat → Prop} {H0 : Heap} {Φ : ρ → Heap → Value → List Res → Prop} {r : ρ} {env : Env} {X : List Res} {H : Heap} {k : List Item} {fn : Func}
end ends
end Go.Cat
namespace Go.Cat
class TBldA (P : Program) (t : TypeId) (zero : outParam (List Value)) (len : outParam Nat) (sz : outParam Nat) : Prop where
 zero : ∀ w, (zeroValue t).run P w = .ok (.agg zero.toArray) w
 und : ∃ e, P.underlying t = some (.array len e) ∧ ∀ w, (sizeOf e).run P w = .ok sz w
theorem Zlq {place : Nat → Option (Nat × Nat)} (offs : List (Nat × Nat)) (hp : ∀ (i : Nat) q, offs[i]? = some q → place i = some q) : ∀ (parts : List (Nat × Value)) (cs cs' : List Value), Zhn offs cs parts = some cs' → Instr.fill place cs.toArray parts = some cs'.toArray := by
 intro parts
 induction parts with
 | nil => intro cs cs' h; simp [Zhn] at h; simp [Instr.fill, h]
 | cons p parts ih =>
  obtain ⟨i, v⟩ := p
  intro cs cs' h
  simp only [Zhn] at h
  cases ho : offs[i]? with
  | none => rw [ho] at h; cases h
  | some q =>
   obtain ⟨off, size⟩ := q
   rw [ho] at h
   simp only [Instr.fill, hp i _ ho]
   cases hb : (Nat.beq v.cells.toList.length size && Nat.ble (off + v.cells.toList.length) cs.length) with
   | false => simp only [hb, cond_false] at h; cases h
   | true =>
    simp only [hb, cond_true] at h
    rw [Bool.and_eq_true] at hb
    have h1 := Nat.eq_of_beq_eq_true hb.1
    have h2 := Nat.le_of_ble_eq_true hb.2
    have h1' : v.cells.size = size := by simpa using h1
    have h2' : off + v.cells.size ≤ cs.length := by simpa using h2
    have hc : (decide (v.cells.size ≠ size) || decide (off + v.cells.size > cs.toArray.size)) = false := by simp [h1']; omega
    simp only [hc, Bool.false_eq_true, if_false]
    have := ih _ _ h
    have e : v.cells.zipIdx.foldl (fun (cs : Array Value) (x : Value × Nat) => cs.setIfInBounds (off + x.2) x.1) cs.toArray = (spl cs off v.cells.toList).toArray := by
     rw [← Array.foldl_toList, Array.toList_zipIdx]
     exact ZgC v.cells.toList cs off 0
    exact (congrArg (fun z => Instr.fill _ z parts) e).trans this
def Zms (len sz : Nat) : List (Nat × Nat) := (List.range len).map fun i => (i * sz, sz)
theorem getA {α : Type} {cs : List Value} {off len : Nat} {l : List α} {g : α → Value} {i : Int} {y : α} (hs : subc cs off len = l.map g) (h : rd l i = some y) : cs[off + i.toNat]? = some (g y) := by
 obtain ⟨h0, hi, rfl⟩ := ZfR h
 have h1 : (subc cs off len)[i.toNat]? = some (g l[i.toNat]) := by rw [hs]; simp [hi]
 have h2 : i.toNat < (subc cs off len).length := (List.getElem?_eq_some_iff.1 h1).1
 simp only [subc, List.length_take, List.length_drop] at h2
 simp only [subc] at h1
 rw [List.getElem?_take_of_lt (by omega), List.getElem?_drop] at h1
 exact h1
theorem Zkg {α : Type} {cs : List Value} {off len : Nat} {l : List α} {g : α → Value} {i : Int} {y : α} (hs : subc cs off len = l.map g) (h : rd l i = some y) : Nat.ble (off + i.toNat + 1) cs.length = true := by
 have := (List.getElem?_eq_some_iff.1 (getA hs h)).1
 exact Nat.ble_eq_true_of_le this
theorem ZkT {α : Type} {l : List α} {i : Int} {y : α} (h : rd l i = some y) : ∃ n : Nat, n < l.length ∧ i = n := by
 obtain ⟨h0, hi, _⟩ := ZfR h
 exact ⟨i.toNat, hi, by omega⟩
theorem ZlO {α : Type} {a b c : α} {i : Int} {y : α} (h : rd [a, b, c] i = some y) : i = 0 ∨ i = 1 ∨ i = 2 := by
 obtain ⟨n, h2, h3⟩ := ZkT h; simp only [List.length_cons, List.length_nil] at h2; omega
section rules
variable {P : Program} {ρ ρ' τ σ α : Type} {C : Ctx P ρ} {m m1 m2 : Option τ} {κ : τ → Option ρ} {env : Env} {own : List Res} {H : Heap} {D : List Deferred} {k : Kont}
variable {ds : List (Option Tmp)} {rem : List Oper} {d : Tmp} {ty : TypeId} {pos : String} {af : Array Edge}
theorem ZiF {t : TypeId} {ps : List (Nat × Operand)} {vs cs zero : List Value} {len sz : Nat} [B : TBldA P t zero len sz] (hx : evs env (ps.map (·.2)) = some vs) (hf : Zhn (Zms len sz) zero ((ps.map (·.1)).zip vs) = some cs)
  (h : Sim C m κ ((d, .agg cs.toArray) :: env) own H D (.ops ds rem k)) (hd : Nat.blt d C.n = true := by rfl) :
  Sim C m κ env own H D (.ops ds (⟨some d, .build t ps.toArray, ty, pos, af, none⟩ :: rem) k) :=
 Zda (fun _ h => by cases h) (fun tm w hE => by
  obtain ⟨e, h1, h2⟩ := B.und
  have hz : (ps.toArray.map fun x => (x.1, ZcX tm x.2)).toList = (ps.map (·.1)).zip vs := by
   rw [← Zd4 hE hx]
   simp only [List.map_toArray, List.map_map]
   rw [List.zip_map']
   rfl
  have hz' : (Array.map (fun (x : Nat × Operand) => match x with | (i, x) => (i, ZcX tm x)) ps.toArray).toList = (ps.map (·.1)).zip vs := hz
  have hfill := Zlq (place := fun i => some (i * sz, sz)) (Zms len sz) (fun i q hi => by
   simp only [Zms, List.getElem?_map] at hi
   cases hr : (List.range len)[i]? with
   | none => rw [hr] at hi; cases hi
   | some j =>
    rw [hr] at hi
    have := List.getElem?_range (n := len) (i := i) (by have := (List.getElem?_eq_some_iff.1 hr).1; simpa using this)
    rw [this] at hr; cases hr
    simpa using hi) _ _ _ hf
  simp only [execOp, Sem.run_bind, Instr.build, B.zero, Result.andThen_ok, run_underlying h1, h2, hz', Value.cells, hfill, Sem.run_pure]) h hd
theorem ZhG {f : α → Option τ} {x ix : Operand} {t e : TypeId} {len b off : Nat} {K : IntKind} {i : Int} [A : TArr P t len e 1] (l : List α) (hlen : l.length = len) (hx : ev env x = some (.pointer (some ⟨b, off, none⟩))) (hi : ev env ix = some (.int K i))
  (h : ∀ y, rd l i = some y → Sim C (f y) κ ((d, .pointer (some ⟨b, off + i.toNat, none⟩)) :: env) own H D (.ops ds rem k)) (hd : Nat.blt d C.n = true := by rfl) :
  Sim C ((rd l i).bind f) κ env own H D (.ops ds (⟨some d, .indexAddr t x ix, ty, pos, af, none⟩ :: rem) k) := by
 refine ZeJ (Zhx fun r hr => ?_)
 obtain ⟨h0, h1, _⟩ := ZfR hr
 exact Zda (fun _ h => by cases h) (fun tm w hE => by
  have h2 : i < (len : Int) := by omega
  simp [execOp, Zay hE hx, Zay hE hi, Instr.indexAt, Instr.sureAddr, asIntOf, run_underlying A.und, A.size, Zdh, h0, h2]) (fun r2 hr2 w hw tm ht hE => h _ hr r2 (by simpa using hr2) w hw tm ht hE) hd
theorem Zjc (j : Nat) {t T : TypeId} {x : Operand} {b o : Nat} {cs : List Value} {v : Value} [L : TLay P t 1 false] (hx : ev env x = some (.pointer (some ⟨b, o, none⟩))) (ho : own[j]? = some (.blk b (Zak cs T)))
  (hv : cs[o]? = some v) (h : Sim C m κ ((d, v) :: env) own H D (.ops ds rem k)) (hd : Nat.blt d C.n = true := by rfl) :
  Sim C m κ env own H D (.ops ds (⟨some d, .load t x, ty, pos, af, none⟩ :: rem) k) :=
 s_op (fun _ h => by cases h) (fun tm w hE hI => ⟨_, _, _, _, by
  have hb : w.heap[b]? = some (.cells cs.toArray T (0, 0)) := Zco hI ho
  have hlt := (List.getElem?_eq_some_iff.1 hv).1
  have hm : mkv false (subc cs o 1) = v := by
   simp only [mkv, subc]
   rw [List.drop_eq_getElem_cons hlt]
   simp [(List.getElem?_eq_some_iff.1 hv).2]
  have := Zdb (P := P) (n := 1) (ag := false) (ty := t) hb (off := o) (by simp only [List.size_toArray]; omega)
  simp only [hm] at this
  simp only [execOp, Zay hE hx, Sem.run_bind, this, Result.andThen_ok, Sem.run_pure], hI, h⟩) hd
def gshr (K : IntKind) (x n : Int) : Option Int := if n < 0 then none else some (x.fdiv (2 ^ (min n.toNat K.bits)))
end rules
end Go.Cat
namespace Go.Cat
theorem ZfY {ls : List (List Value)} (n : Nat) : ls.flatten = (ls.take n).flatten ++ (ls.drop n).flatten := by
 rw [← List.flatten_append, List.take_append_drop]
theorem OSl.cut {w : World} {a : Option Addr} {n cap sz : Nat} {t : TypeId} {ls : List (List Value)} (h : OSl w (.slice a n cap) sz t ls) (m : Nat) (hm : m ≤ ls.length) : OSl w (.slice a m cap) sz t (ls.take m) := by
 rcases h with ⟨h1, h2⟩ | ⟨b, cap', arr, rest, h1, hb, hs, hle, ha, hall⟩
 ·simp only [Value.slice.injEq] at h1
  subst h2
  simp at hm
  exact .inl ⟨by rw [h1.1, h1.2.2, hm], by simp⟩
 ·simp only [Value.slice.injEq] at h1
  refine .inr ⟨b, cap', arr, (ls.drop m).flatten ++ rest, ?_, hb, hs, ?_, ?_, fun x hx => hall x (List.mem_of_mem_take hx)⟩
  ·rw [h1.1, h1.2.2]; simp; omega
  ·simp; omega
  ·rw [ha, ← List.append_assoc, ← ZfY]
section rules
variable {P : Program} {ρ ρ' τ σ α : Type} {C : Ctx P ρ} {m m1 m2 : Option τ} {κ : τ → Option ρ} {env : Env} {own : List Res} {H : Heap} {D : List Deferred} {k : Kont}
variable {ds : List (Option Tmp)} {rem : List Oper} {d : Tmp} {ty ty' : TypeId} {pos pos' : String} {af af' : Array Edge}
theorem ZmB {x y : Operand} {xt yt e : TypeId} {sz by_ n cap n2 c2 : Nat} {a : Option Addr} [S : TSl P xt e sz by_] (hx : ev env x = some (.slice a n cap)) (hy : ev env y = some (.slice none n2 c2))
  (h : Sim C m κ ((d, .bool a.isNone) :: env) own H D (.ops ds rem k)) (hd : Nat.blt d C.n = true := by rfl) :
  Sim C m κ env own H D (.ops ds (⟨some d, .binOp .eql xt x y yt, ty, pos, af, none⟩ :: rem) k) :=
 Zem hx hy (fun w => by cases a <;> simp [eqGuard]) (fun w => by
  have key : ∀ d, (Op.equalIn (d + 1) xt (.slice a n cap) (.slice none n2 c2)).run P w = .ok a.isNone w := fun d => by
   unfold Op.equalIn
   rw [Sem.run_bind, run_underlying S.und]
   cases a <;> rfl
  have E : (Op.equal xt (.slice a n cap) (.slice none n2 c2)).run P w = .ok a.isNone w := key 9999
  simp [binOp, E]) h hd
end rules
end Go.Cat
namespace Go.Cat
section flat
variable {P : Program} {ρ τ α : Type} {C : Ctx P ρ} {m : Option τ} {κ : τ → Option ρ} {env : Env} {own : List Res} {H : Heap} {D : List Deferred} {p : Pos}
end flat
end Go.Cat
namespace Go.Cat
open Go.Sort
theorem Inv.extend {w0 w w' : World} {M : Nat → Prop} {H0 H : Heap} {own : List Res} (h : Inv w0 M H0 own H w) (hk : ∀ k, k < w.heap.size → w'.heap[k]? = w.heap[k]?) (hs : w.heap.size ≤ w'.heap.size)
  (ho : w'.os = w.os) (ht : w'.tape = w.tape) (hu : w'.output = w.output) (hdr : w.drawn ≤ w'.drawn := by first | exact Nat.le_refl _ | exact Nat.le_add_right _ _) : Inv w0 M H0 own H w' := by
 refine ⟨ho.trans h.os, ht.trans h.tape, hu.trans h.output, Nat.le_trans h.size hs, fun k hk' hm => (hk k (Nat.lt_of_lt_of_le hk' h.size)).trans (h.same k hk' hm), ?_, h.h0, h.new, ?_, h.nd, ?_, Nat.le_trans h.drawn hdr⟩
 ·intro b o hb
  have h1 := h.sub b o hb
  have hlt : b < w.heap.size := (Array.getElem?_eq_some_iff.1 h1).1
  exact (hk b hlt).trans h1
 ·intro r hr
  refine Res.ok_of_same (fun b hb => ?_) (h.ok r hr)
  exact hk b (h.away b (Zdy hr hb)).2.1
 ·intro b hb
  obtain ⟨h1, h2, h3⟩ := h.away b hb
  exact ⟨h1, Nat.lt_of_lt_of_le h2 hs, h3⟩
theorem Zf6 {α : Type} [Inhabited α] (enc : α → Value) (w : World) (n b : Nat) (d : Array α) (os : Array Obj) {arr : Array Value} {t : TypeId} (hb : w.heap[b]? = some (.cells arr t (0, 0))) (hd : d.size ≤ arr.size) :
  (grow (putRow enc (Go.Sort.ahead w n) b 0 d) os).heap[b]? = some (.cells (d.toList.map enc ++ arr.toList.drop d.size).toArray t (0, 0)) ∧
  (∀ k, k < w.heap.size → k ≠ b → (grow (putRow enc (Go.Sort.ahead w n) b 0 d) os).heap[k]? = w.heap[k]?) ∧ w.heap.size ≤ (grow (putRow enc (Go.Sort.ahead w n) b 0 d) os).heap.size := by
 have hlt : b < w.heap.size := (Array.getElem?_eq_some_iff.1 hb).1
 have hsz : (putRow enc (Go.Sort.ahead w n) b 0 d).heap.size = w.heap.size := by rw [size_putRow]; rfl
 have hget : ∀ k, k < w.heap.size → (grow (putRow enc (Go.Sort.ahead w n) b 0 d) os).heap[k]? = (putRow enc (Go.Sort.ahead w n) b 0 d).heap[k]? := fun k hk => by
  show ((putRow enc (Go.Sort.ahead w n) b 0 d).heap ++ os)[k]? = _
  rw [Array.getElem?_append_left (by rw [hsz]; exact hk)]
 refine ⟨?_, fun k hk hne => ?_, by rw [size_grow, hsz]; omega⟩
 ·rw [hget b hlt]
  show (w.heap.modify b (onCells (putCells enc 0 d)))[b]? = _
  rw [Array.getElem?_modify, if_pos rfl, hb]
  simp only [Option.map_some, onCells]
  congr 2
  apply Array.ext
  ·simp [putCells]; omega
  ·intro i h1 h2
   simp only [putCells, Array.getElem_mapIdx, Nat.zero_le, true_and, Nat.zero_add, Nat.sub_zero]
   by_cases hi : i < d.size
   ·rw [if_pos hi]
    simp [List.getElem_append, hi, getElem!_pos d i hi]
   ·rw [if_neg hi]
    simp [List.getElem_append, hi]
    congr 1
    omega
 ·rw [hget k hk]
  show (w.heap.modify b (onCells (putCells enc 0 d)))[k]? = _
  rw [Array.getElem?_modify, if_neg (fun e => hne e.symm)]
theorem ZiM {w w' : World} {H0 H : Heap} {own : List Res} (h : Inv w (· ∈ ids []) H0 own H w') : ∃ q os', w' = grow (w.drewN q) os' := by
 refine ⟨w'.drawn - w.drawn, w'.heap.extract w.heap.size w'.heap.size, ?_⟩
 have h1 := h.os
 have h2 := h.tape
 have h3 := h.output
 have h4 := h.size
 have h5 : ∀ k, k < w.heap.size → w'.heap[k]? = w.heap[k]? := fun k hk => h.same k hk (by simp [ids])
 have h6 := h.drawn
 obtain ⟨hp', tape', drawn', os', out'⟩ := w'
 obtain ⟨hp, tape, drawn, os, out⟩ := w
 simp only at h1 h2 h3 h4 h5 h6
 subst h1 h2 h3
 simp only [grow, World.drewN, World.mk.injEq, true_and, and_true]
 refine ⟨?_, by omega⟩
 apply Array.ext_getElem?
 intro k
 by_cases hk : k < hp.size
 ·rw [Array.getElem?_append_left hk, h5 k hk]
 ·rw [Array.getElem?_append_right (by omega), Array.getElem?_extract]
  split
  ·congr 1; omega
  ·exact Array.getElem?_eq_none (by omega)
end Go.Cat
namespace Go.Cat
open Go
section keys
variable {P : Program}
def CaN (P : Program) (n : Nat) (e : TypeId) (xs : List Value) (is : List Nat) : Prop := ∀ d w em, (forIn (m := Sem) is PUnit.unit fun i _ => (do
 Instr.checkKey em (d + n) e (← part e xs.toArray (i * (← sizeOf e)))
 pure (ForInStep.yield PUnit.unit) : Sem (ForInStep PUnit))).run P w = .ok PUnit.unit w
theorem ZnT {n : Nat} {e : TypeId} {xs : List Value} : CaN P n e xs [] := fun d w em => by simp
theorem Zir {n sz : Nat} {ag : Bool} {e : TypeId} {xs : List Value} {i : Nat} {is : List Nat} [L : TLay P e sz ag] (h1 : Nat.ble (i * sz + sz) xs.length = true) (he : ChkN P n e (mkv ag (subc xs (i * sz) sz))) (hr : CaN P n e xs is) : CaN P n e xs (i :: is) := fun d w em => by
 have p1 := Ze5 (P := P) (w := w) L.size L.agg L.one (cs := xs.toArray) (off := i * sz) (by simpa using Nat.le_of_ble_eq_true h1)
 simp only [] at p1
 rw [List.forIn_cons]
 simp only [Sem.run_bind, L.size, p1, Result.andThen_ok, he d w, Sem.run_pure]
 exact hr d w em
theorem Zky {n len : Nat} {t e : TypeId} {xs : List Value} (hu : P.underlying t = some (.array len e)) (h : CaN P n e xs (List.range' 0 len)) : ChkN P (n + 1) t (.agg xs.toArray) := fun d w em => by
 rw [show d + (n + 1) = d + n + 1 by omega, Instr.checkKey, Sem.run_bind, run_underlying hu]
 simp only [Result.andThen_ok]
 have h1 := h d w em
 rw [Std.Legacy.Range.forIn_eq_forIn_range']
 have hsz : Std.Legacy.Range.size [:len] = len := by simp [Std.Legacy.Range.size]
 rw [hsz]
 have hb : ∀ x : Sem PUnit, x.run P w = .ok PUnit.unit w → (do x; pure PUnit.unit : Sem PUnit).run P w = .ok PUnit.unit w := fun x hx => by rw [Sem.run_bind, hx]; rfl
 first | exact h1 | exact hb _ h1 | (simp only [bind_pure_comp, map_pure] at *; exact h1)
end keys
section lens
variable {P : Program} {ρ τ α β : Type} {C : Ctx P ρ} {m : Option τ} {κ : τ → Option ρ} {env : Env} {own : List Res} {H : Heap} {D : List Deferred} {k : Kont}
variable {ds : List (Option Tmp)} {rem : List Oper} {d : Tmp} {ty : TypeId} {pos : String} {af : Array Edge}
theorem Znm [GoE α] [GoT β] (j : Nat) {ka va : Bool} {x : Operand} {t kt et : TypeId} {b c : Nat} {es : Array MapEntry} {l : List (α × β)} [T : TMap P t kt et] (hx : ev env x = some (.map (some b))) (ho : own[j]? = some (.blk b (.map es c))) (hR : MapR ka va H es c l)
  (h : Sim C m κ ((d, .int .i64 (l.length : Int)) :: env) own H D (.ops ds rem k)) (hd : Nat.blt d C.n = true := by rfl) :
  Sim C m κ env own H D (.ops ds (⟨some d, .call ⟨.builtin .len, #[x], #[t]⟩, ty, pos, af, none⟩ :: rem) k) :=
 s_op (fun _ h => by cases h) (fun tm w hE hI => by
  have hb' : w.heap[b]? = some (.map es c) := Zco hI ho
  have hg : (getObj b).run P w = .ok (.map es c) w := by simp [getObj, Sem.run, hb']
  refine ⟨_, w, own, H, ?_, hI, h⟩
  simp [execOp, resolve, Zay hE hx, invoke, builtin, Builtin.len_, run_underlying T.und, hg, goInt, hR.len]) hd
end lens
end Go.Cat
namespace Go.Cat
open Go.ChangeMaps Go.MapKept Go.WideShapes
section rules
variable {P : Program} {ρ τ α β : Type} {C : Ctx P ρ} {m : Option τ} {κ : τ → Option ρ} {env : Env} {own : List Res} {H : Heap} {D : List Deferred} {k : Kont} {K : List Item}
variable {ds : List (Option Tmp)} {rem : List Oper} {d : Tmp} {ty : TypeId} {pos : String} {af : Array Edge}
theorem ZiE {t kt et : TypeId} {x : Operand} {b c : Nat} {es : Array MapEntry} [T : TMap P t kt et] (hx : ev env x = some (.map (some b))) (jb : Nat) (hb : own[jb]? = some (.blk b (.map es c)))
  (h : ∀ r, Sim C m κ ((d, .pointer (some ⟨r, 0, none⟩)) :: env) (own ++ [.blk r (Zde b c es [])]) H D (.ops ds rem k)) (hd : Nat.blt d C.n = true := by rfl) :
  Sim C m κ env own H D (.ops ds (⟨some d, .range t x, ty, pos, af, none⟩ :: rem) k) :=
 s_op (fun _ h => by cases h) (fun tm w hE hI => by
  have hb' : w.heap[b]? = some (.map es c) := Zco hI hb
  refine ⟨_, w.alloc (Zde b c es []), _, _, ?_, hI.push _ (.blk w.heap.size (Zde b c es [])) rfl (by exact (MapKept.heap_alloc w _).1), h w.heap.size⟩
  simp only [execOp, Zay hE hx, Sem.run_bind, run_range_map w t kt et b es c T.und hb', Result.andThen_ok, Sem.run_pure]
  rfl) hd
theorem Zmv [GoE α] [GoT β] (j : Nat) {ka va : Bool} {x : Operand} {r b c : Nat} {es : Array MapEntry} {l : List (α × β)} {ix : List Nat} (hx : ev env x = some (.pointer (some ⟨r, 0, none⟩))) (hj : own[j]? = some (.blk r (Zde b c es ix)))
  (jb : Nat) (hb : own[jb]? = some (.blk b (.map es c))) (hR : MapR ka va H es c l) (hC : Came l.length ix)
  (h0 : l.length ≤ ix.length → Sim C m κ ((d, .tuple #[.bool false]) :: env) own H D (.ops ds rem k))
  (h1 : ∀ i p v, i ∉ ix → i < l.length → l[i]? = some p → (∃ vs, v = mkv va vs ∧ GoT.rep H vs p.2) → Sim C m κ ((d, .tuple #[.bool true, mkE ka p.1, v]) :: env) (own.set j (.blk r (Zde b c es (ix ++ [i])))) H D (.ops ds rem k)) (hd : Nat.blt d C.n = true := by rfl) :
  Sim C m κ env own H D (.ops ds (⟨some d, .next x false, ty, pos, af, none⟩ :: rem) k) :=
 s_op (fun _ h => by cases h) (fun tm w hE hI => by
  have hr' : w.heap[r]? = some (.mapIter (some b) c (ZdI es ix) c) := Zco hI hj
  have hb' : w.heap[b]? = some (.map es c) := Zco hI hb
  have hold : ∀ y ∈ es.toList, y.born < c := fun y hy => by
   obtain ⟨i, hi, rfl⟩ := List.mem_iff_getElem.1 hy
   exact hR.born i _ (by simp at hi; simp [hi])
  rcases run_next_at (P := P) w ty r b c c (ZdI es ix) es c hr' hb' hold (Nat.le_refl _) with ⟨hz, hrun⟩ | ⟨e, he, w1, hw1, hrun⟩
  ·refine ⟨_, w, own, H, ?_, hI, h0 ?_⟩
   ·simp only [execOp, Zay hE hx, Sem.run_bind, hrun, Result.andThen_ok, Sem.run_pure]
   ·
    apply Classical.byContradiction
    intro hlt
    have hlt : ix.length < l.length := by omega
    have hs := hC.split.length_eq
    rw [List.length_append, List.length_range] at hs
    have hne : ((List.range l.length).filter fun i => !ix.contains i) ≠ [] := fun h => by rw [h] at hs; simp at hs; omega
    obtain ⟨i, hi⟩ := List.exists_mem_of_ne_nil _ hne
    simp only [List.mem_filter, List.mem_range, Bool.not_eq_true', List.contains_eq_mem, decide_eq_false_iff_not] at hi
    have hil : i < es.size := by rw [hR.len]; exact hi.1
    have hes : es[i]? = some es[i] := Array.getElem?_eq_getElem hil
    have hnc : (ZdI es ix).contains es[i].born = false := by
     cases hc : (ZdI es ix).contains es[i].born with
     | false => rfl
     | true => exact absurd ((ZfK hR hC hes).1 hc) hi.2
    have : es[i] ∈ leftOf es (ZdI es ix) := by
     unfold leftOf
     rw [Array.mem_filter]
     exact ⟨Array.getElem_mem hil, by simp only [hnc]; rfl⟩
    have hpos := Array.size_pos_of_mem this
    omega
  ·obtain ⟨hmem, hns⟩ := mem_left he
   obtain ⟨i, hi, hie⟩ := List.mem_iff_getElem.1 hmem
   have hil : i < es.size := by simpa using hi
   have hes : es[i]? = some e := by rw [Array.getElem?_eq_getElem hil, ← hie]; simp
   have hlp : i < l.length := by rw [← hR.len]; exact hil
   have hp : l[i]? = some l[i] := List.getElem?_eq_getElem hlp
   obtain ⟨hk, vs, hv, hrep⟩ := hR.ent i e _ hes hp
   have hix : i ∉ ix := fun hx => by rw [(ZfK hR hC hes).2 hx] at hns; cases hns
   have hpush : (ZdI es ix).push e.born = ZdI es (ix ++ [i]) := by simp [ZdI, hes]
   have hw1' : w1.heap = w.heap ∧ w1.os = w.os ∧ w1.tape = w.tape ∧ w1.output = w.output := by rcases hw1 with rfl | rfl <;> exact ⟨rfl, rfl, rfl, rfl⟩
   have hI1 := hI.quiet (w' := w1) hw1'.1 hw1'.2.1 hw1'.2.2.1 hw1'.2.2.2 (hdr := by rcases hw1 with rfl | rfl; exact Nat.le_refl _; exact Nat.le_succ _)
   refine ⟨_, _, _, H, ?_, hI1.setBlk (o' := Zde b c es (ix ++ [i])) hj, h1 i _ e.val hix hlp hp ⟨vs, hv, hrep⟩⟩
   simp only [execOp, Zay hE hx, Sem.run_bind, hrun, Result.andThen_ok, Sem.run_pure, hk]
   rw [hpush]
   rfl) hd
theorem Zk2 [GoE α] [GoT β] (j : Nat) {ka va : Bool} {x : Operand} {r b c i : Nat} {es : Array MapEntry} {l : List (α × β)} {ix : List Nat} {p : α × β} (hx : ev env x = some (.pointer (some ⟨r, 0, none⟩))) (hj : own[j]? = some (.blk r (Zde b c es (ix ++ [i]))))
  (jb : Nat) (hb : own[jb]? = some (.blk b (.map es c))) (hR : MapR ka va H es c l) (hp : l[i]? = some p)
  (h : ∀ v vs, v = mkv va vs → GoT.rep H vs p.2 → Sim C m κ ((d, .tuple #[mkE ka p.1, v]) :: env) own H D (.ops ds rem k)) (hd : Nat.blt d C.n = true := by rfl) :
  Sim C m κ env own H D (.ops ds (⟨some d, .entry x, ty, pos, af, none⟩ :: rem) k) :=
 s_op (fun _ h => by cases h) (fun tm w hE hI => by
  have hlt : i < es.size := by rw [hR.len]; exact (List.getElem?_eq_some_iff.1 hp).1
  have hes : es[i]? = some es[i] := Array.getElem?_eq_getElem hlt
  have hr' : w.heap[r]? = some (.mapIter (some b) c ((ZdI es ix).push es[i].born) c) := by
   have : w.heap[r]? = some (Zde b c es (ix ++ [i])) := Zco hI hj
   rw [this]; simp [Zde, ZdI, hes]
  have hb' : w.heap[b]? = some (.map es c) := Zco hI hb
  obtain ⟨hk, vs, hv, hrep⟩ := hR.ent i _ _ hes hp
  refine ⟨_, w, own, H, ?_, hI, h _ vs hv hrep⟩
  have hnd : (es.toList.map (·.born)).Nodup := by
   rw [List.nodup_iff_pairwise_ne, List.pairwise_map, List.pairwise_iff_getElem]
   intro a b' ha hb'' hab
   have h1 : es[a]? = some es.toList[a] := by simp at ha; simp [ha]
   have h2 : es[b']? = some es.toList[b'] := by simp at hb''; simp [hb'']
   have := hR.inc a b' _ _ hab h1 h2
   omega
  simp only [execOp, Zay hE hx, Sem.run_bind, run_entry_at (P := P) w r b c (ZdI es ix) es c es[i] hr' hb' (by simp) hnd, Result.andThen_ok, Sem.run_pure, hk]) hd
end rules
end Go.Cat
namespace Go.Cat
open Go.ChangeMaps Go.MapKept Go.WideShapes
section mapr
variable {α β : Type} [GoE α] [GoT β] {ka va : Bool} {H : Heap} {es : Array MapEntry} {c : Nat} {l : List (α × β)}
theorem ZfJ (es : Array MapEntry) (i j : Nat) : (es.eraseIdxIfInBounds i)[j]? = if j < i then es[j]? else es[j + 1]? := by
 have h : (es.eraseIdxIfInBounds i).toList = es.toList.eraseIdx i := by simp
 rw [← Array.getElem?_toList, h, List.getElem?_eraseIdx]
 simp
theorem MapR.erase (h : MapR ka va H es c l) (i : Nat) : MapR ka va H (es.eraseIdxIfInBounds i) c (l.eraseIdx i) := by
 refine ⟨?_, ?_, ?_, ?_⟩
 ·have h1 : (es.eraseIdxIfInBounds i).toList = es.toList.eraseIdx i := by simp
  rw [← Array.length_toList, h1, List.length_eraseIdx, List.length_eraseIdx, Array.length_toList, h.len]
 ·intro j e p he hp
  rw [ZfJ] at he
  rw [List.getElem?_eraseIdx] at hp
  split at he
  ·rename_i hj
   rw [if_pos hj] at hp
   exact h.ent j e p he hp
  ·rename_i hj
   rw [if_neg hj] at hp
   exact h.ent (j + 1) e p he hp
 ·intro j e he
  rw [ZfJ] at he
  split at he
  ·exact h.born j e he
  ·exact h.born (j + 1) e he
 ·intro a b e e' hab ha hb
  rw [ZfJ] at ha hb
  split at ha <;> split at hb
  ·exact h.inc a b e e' hab ha hb
  ·exact h.inc a (b + 1) e e' (by omega) ha hb
  ·omega
  ·exact h.inc (a + 1) (b + 1) e e' (by omega) ha hb
theorem MapR.borns_nodup (hR : MapR ka va H es c l) : (es.toList.map (·.born)).Nodup := by
 rw [List.nodup_iff_pairwise_ne, List.pairwise_map, List.pairwise_iff_getElem]
 intro a b' ha hb'' hab
 have h1 : es[a]? = some es.toList[a] := by simp at ha; simp [ha]
 have h2 : es[b']? = some es.toList[b'] := by simp at hb''; simp [hb'']
 have := hR.inc a b' _ _ hab h1 h2
 omega
end mapr
section rules
variable {P : Program} {ρ τ α β : Type} {C : Ctx P ρ} {m : Option τ} {κ : τ → Option ρ} {env : Env} {own : List Res} {H : Heap} {D : List Deferred} {k : Kont} {K : List Item}
variable {ds : List (Option Tmp)} {rem : List Oper} {d : Tmp} {ty : TypeId} {pos : String} {af : Array Edge}
theorem Zmx [GoE α] [GoT β] (j : Nat) {ka va : Bool} {x : Operand} {r b c : Nat} {seen : Array Nat} {es : Array MapEntry} {l : List (α × β)} (hx : ev env x = some (.pointer (some ⟨r, 0, none⟩))) (hj : own[j]? = some (.blk r (.mapIter (some b) c seen c)))
  (jb : Nat) (hb : own[jb]? = some (.blk b (.map es c))) (hR : MapR ka va H es c l)
  (h0 : (∀ (i : Nat) (e : MapEntry), es[i]? = some e → seen.contains e.born = true) → Sim C m κ ((d, .tuple #[.bool false]) :: env) own H D (.ops ds rem k))
  (h1 : ∀ (i : Nat) (e : MapEntry) (p : α × β) (v : Value), es[i]? = some e → seen.contains e.born = false → l[i]? = some p → (∃ vs, v = mkv va vs ∧ GoT.rep H vs p.2) → Sim C m κ ((d, .tuple #[.bool true, mkE ka p.1, v]) :: env) (own.set j (.blk r (.mapIter (some b) c (seen.push e.born) c))) H D (.ops ds rem k)) (hd : Nat.blt d C.n = true := by rfl) :
  Sim C m κ env own H D (.ops ds (⟨some d, .next x false, ty, pos, af, none⟩ :: rem) k) :=
 s_op (fun _ h => by cases h) (fun tm w hE hI => by
  have hr' : w.heap[r]? = some (.mapIter (some b) c seen c) := Zco hI hj
  have hb' : w.heap[b]? = some (.map es c) := Zco hI hb
  have hold : ∀ y ∈ es.toList, y.born < c := fun y hy => by
   obtain ⟨i, hi, rfl⟩ := List.mem_iff_getElem.1 hy
   exact hR.born i _ (by simp at hi; simp [hi])
  rcases run_next_at (P := P) w ty r b c c seen es c hr' hb' hold (Nat.le_refl _) with ⟨hz, hrun⟩ | ⟨e, he, w1, hw1, hrun⟩
  ·refine ⟨_, w, own, H, ?_, hI, h0 fun i e hes => ?_⟩
   ·simp only [execOp, Zay hE hx, Sem.run_bind, hrun, Result.andThen_ok, Sem.run_pure]
   ·cases hnc : seen.contains e.born with
    | true => rfl
    | false =>
     have : e ∈ leftOf es seen := by
      unfold leftOf
      rw [Array.mem_filter]
      exact ⟨Array.mem_of_getElem? hes, by simp only [hnc]; rfl⟩
     have hpos := Array.size_pos_of_mem this
     omega
  ·obtain ⟨hmem, hns⟩ := mem_left he
   obtain ⟨i, hi, hie⟩ := List.mem_iff_getElem.1 hmem
   have hil : i < es.size := by simpa using hi
   have hes : es[i]? = some e := by rw [Array.getElem?_eq_getElem hil, ← hie]; simp
   have hlp : i < l.length := by rw [← hR.len]; exact hil
   have hp : l[i]? = some l[i] := List.getElem?_eq_getElem hlp
   obtain ⟨hk, vs, hv, hrep⟩ := hR.ent i e _ hes hp
   have hw1' : w1.heap = w.heap ∧ w1.os = w.os ∧ w1.tape = w.tape ∧ w1.output = w.output := by rcases hw1 with rfl | rfl <;> exact ⟨rfl, rfl, rfl, rfl⟩
   have hI1 := hI.quiet (w' := w1) hw1'.1 hw1'.2.1 hw1'.2.2.1 hw1'.2.2.2 (hdr := by rcases hw1 with rfl | rfl; exact Nat.le_refl _; exact Nat.le_succ _)
   refine ⟨_, _, _, H, ?_, hI1.setBlk (o' := .mapIter (some b) c (seen.push e.born) c) hj, h1 i e _ e.val hes (by simpa using hns) hp ⟨vs, hv, hrep⟩⟩
   simp only [execOp, Zay hE hx, Sem.run_bind, hrun, Result.andThen_ok, Sem.run_pure, hk]
   rfl) hd
theorem Zk3 [GoE α] [GoT β] (j : Nat) {ka va : Bool} {x : Operand} {r b c i : Nat} {seen : Array Nat} {es : Array MapEntry} {l : List (α × β)} {e : MapEntry} {p : α × β} (hx : ev env x = some (.pointer (some ⟨r, 0, none⟩))) (hj : own[j]? = some (.blk r (.mapIter (some b) c (seen.push e.born) c)))
  (jb : Nat) (hb : own[jb]? = some (.blk b (.map es c))) (hR : MapR ka va H es c l) (hes : es[i]? = some e) (hp : l[i]? = some p)
  (h : ∀ v vs, v = mkv va vs → GoT.rep H vs p.2 → Sim C m κ ((d, .tuple #[mkE ka p.1, v]) :: env) own H D (.ops ds rem k)) (hd : Nat.blt d C.n = true := by rfl) :
  Sim C m κ env own H D (.ops ds (⟨some d, .entry x, ty, pos, af, none⟩ :: rem) k) :=
 s_op (fun _ h => by cases h) (fun tm w hE hI => by
  have hr' : w.heap[r]? = some (.mapIter (some b) c (seen.push e.born) c) := Zco hI hj
  have hb' : w.heap[b]? = some (.map es c) := Zco hI hb
  obtain ⟨hk, vs, hv, hrep⟩ := hR.ent i _ _ hes hp
  refine ⟨_, w, own, H, ?_, hI, h _ vs hv hrep⟩
  simp only [execOp, Zay hE hx, Sem.run_bind, run_entry_at (P := P) w r b c seen es c e hr' hb' (Array.mem_toList_iff.2 (Array.mem_of_getElem? hes)) hR.borns_nodup, Result.andThen_ok, Sem.run_pure, hk]) hd
theorem Znn [DecidableEq α] [GoE α] [GoT β] (j : Nat) {x y : Operand} {t kt et : TypeId} {ka va : Bool} {b c : Nat} {es : Array MapEntry} {l : List (α × β)} [T : TMap P t kt et] [K : TKey P kt ka α]
  (hx : ev env x = some (.map (some b))) (ho : own[j]? = some (.blk b (.map es c))) (hR : MapR ka va H es c l) (q : α) (hy : ev env y = some (mkE ka q))
  (h0 : midx l q = none → Sim C m κ env (own.set j (.blk b (.map es c))) H D (.ops ds rem k))
  (h1 : ∀ i, midx l q = some i → Sim C m κ env (own.set j (.blk b (.map (es.eraseIdxIfInBounds i) c))) H D (.ops ds rem k)) :
  Sim C m κ env own H D (.ops ds (⟨none, .call ⟨.builtin .delete, #[x, y], #[t, kt]⟩, ty, pos, af, none⟩ :: rem) k) := by
 intro r hr w hw tm ht hE
 have hb : w.heap[b]? = some (.map es c) := Zco hw ho
 obtain ⟨r', hr', hres⟩ := ZfC (P := P) (kt := kt) q hR w
 have key : ∃ es', (execOp (ZcX tm) ⟨none, .call ⟨.builtin .delete, #[x, y], #[t, kt]⟩, ty, pos, af, none⟩).run P w = .ok (.value (.tuple #[])) { w with heap := w.heap.setIfInBounds b (.map es' c) } ∧ Sim C m κ env (own.set j (.blk b (.map es' c))) H D (.ops ds rem k) := by
  rcases hres with ⟨hm, rfl⟩ | ⟨i, e, hm, h2, rfl⟩
  ·refine ⟨es, ?_, h0 hm⟩
   simp [execOp, resolve, invoke, builtin, Builtin.delete_, Zay hE hx, Zay hE hy, Sem.run_bind, run_underlying T.und, Result.andThen_ok, MapKept.run_getObj_map hb, K.chk, hr', MapKept.run_setObj_map _ hb, Sem.run_pure]
  ·refine ⟨es.eraseIdxIfInBounds i, ?_, h1 i hm⟩
   simp [execOp, resolve, invoke, builtin, Builtin.delete_, Zay hE hx, Zay hE hy, Sem.run_bind, run_underlying T.und, Result.andThen_ok, MapKept.run_getObj_map hb, K.chk, hr', MapKept.run_setObj_map _ hb, Sem.run_pure]
 obtain ⟨es', hrun, h⟩ := key
 have hI := hw.write (w' := { w with heap := w.heap.setIfInBounds b (.map es' c) }) ho (b := b) (r' := .blk b (.map es' c)) (by simp [Res.ids]) rfl
  (fun k hk => by simp [Ne.symm hk]) (by simp) rfl rfl rfl (by
   have : b < w.heap.size := (Array.getElem?_eq_some_iff.1 hb).1
   simp [Res.ok, this])
 have := h r hr _ hI tm ht hE
 simp only [Pos.go, ROps] at *
 rw [if_pos (show ZcM ds tm none = true from rfl)]
 refine ⟨.inr (fun _ h => by cases h), ?_⟩
 rw [hrun]
 exact this
end rules
end Go.Cat
namespace Go.Cat
inductive PX (ρ : Type) where
 | ok (r : ρ)
 | pan (e : Int)
def PX.go {ρ τ : Type} (p : Int → Option τ) (f : ρ → Option τ) : PX ρ → Option τ
 | .ok r => f r
 | .pan e => p e
section rules
variable {P : Program} {ρ : Type} {f : FuncId} {n : Nat} {w0 : World} {M : Nat → Prop} {H0 : Heap} {T : TypeId} {Φ : ρ → Heap → Value → List Res → Prop} {r : ρ} {env : Env} {own : List Res} {H : Heap} {k : List Item} {fn : Func} {p : Pos}
end rules
end Go.Cat
namespace Go.Cat
class TPtr (P : Program) (t : TypeId) : Prop where
 und : ∃ e, P.underlying t = some (.pointer e)
class TMapD (P : Program) (t : TypeId) : Prop where
 und : ∃ k e, P.underlying t = some (.map k e)
structure B8 where
 v : Int
 deriving DecidableEq
instance instGoEB8 : GoE B8 := ⟨1, fun x => [.int .u8 x.v], fun _ => rfl, fun _ => rfl⟩
theorem ZgG {H : Heap} {b : Nat} {cs : List Value} {T : TypeId} (h : H b = some (Zak cs T)) : Zaj H b 0 cs := ⟨cs.toArray, T, (0, 0), h, by simp [subc], by simp⟩
section rules
variable {P : Program} {ρ τ : Type} {C : Ctx P ρ} {m : Option τ} {κ : τ → Option ρ} {env : Env} {own : List Res} {H : Heap} {D : List Deferred} {k : Kont} {p : Pos}
variable {ds : List (Option Tmp)} {rem : List Oper} {d : Tmp} {ty : TypeId} {pos : String} {af : Array Edge}
theorem ZjW {α β : Type} [DecidableEq α] [GoE α] [GoT β] {x y : Operand} {t kt et : TypeId} {ka : Bool} {mv : Value} {o : Option (List (α × List β))} {ok : Bool} [T : TMap P t kt et] [K : TKey P kt ka α] [Z : TZero P et (.slice none 0 0)]
  (hV : MapV ka false H mv o) (hx : ev env x = some mv) (q : α) (hy : ev env y = some (mkE ka q))
  (h : ∀ a cp, RSl H a cp (mgetD (o.getD []) q []) → Sim C m κ ((d, bif ok then .tuple #[.slice a (mgetD (o.getD []) q []).length cp, .bool (mhas (o.getD []) q)] else .slice a (mgetD (o.getD []) q []).length cp) :: env) own H D (.ops ds rem k)) (hd : Nat.blt d C.n = true := by rfl) :
  Sim C m κ env own H D (.ops ds (⟨some d, .lookup t x y ok, ty, pos, af, none⟩ :: rem) k) := by
 cases o with
 | none => cases hV; exact ZlS (kt := kt) (et := et) (zv := .slice none 0 0) hx q hy (h none 0 ZeK) hd
 | some l =>
  obtain ⟨b, es, c, rfl, hb, hR⟩ := hV
  exact ZlT (kt := kt) (et := et) hx hb hR q hy (fun v hv => by
   rcases hv with ⟨h1, rfl⟩ | ⟨r, vs, h1, rfl, hr⟩
   ·have := h none 0 (by simp [mgetD, h1]; exact ZeK)
    simpa [mgetD, h1] using this
   ·obtain ⟨a, cp, rfl, hs⟩ := hr
    have := h a cp (by simpa [mgetD, h1] using hs)
    simpa [mgetD, h1, mkv] using this) hd
end rules
end Go.Cat
namespace Go.Cat
class TByt (P : Program) (t : TypeId) : Prop where
 und : ∃ e, P.underlying t = some (.slice e) ∧ P.underlying e = some (.int .u8)
theorem ZjN {α : Type} [GoE α] {H : Heap} {b of : Nat} {vs : List Value} (hc : Zaj H b of vs) (off : Nat) (l : List α) (cap : Nat) (hcap : l.length ≤ cap)
  (h : ∀ i (hi : i < l.length), subc vs (off + i * GoE.sz α) (GoE.sz α) = GoE.enc l[i]) (hn : off + l.length * GoE.sz α ≤ vs.length) : RSl H (some ⟨b, of + off, none⟩) cap l := by
 obtain ⟨cs, t, fz, hb, hs, hle⟩ := hc
 refine ⟨hcap, .inr ⟨b, of + off, cs, t, fz, rfl, hb, fun i hi => ?_⟩⟩
 have := h i hi
 show subc cs.toList (of + off + i * GoE.sz α) (GoE.sz α) = GoE.enc l[i]
 rw [← this, ← hs]
 have h2 : i * GoE.sz α + GoE.sz α ≤ l.length * GoE.sz α := by
  have := Nat.mul_le_mul_right (GoE.sz α) (show i + 1 ≤ l.length by omega)
  rw [Nat.succ_mul] at this; exact this
 simp only [subc, List.drop_take, List.drop_drop, List.take_take]
 congr 1
 ·omega
 ·congr 1; omega
section rules
variable {P : Program} {ρ τ : Type} {C : Ctx P ρ} {m : Option τ} {κ : τ → Option ρ} {env : Env} {own : List Res} {H : Heap} {D : List Deferred} {k : Kont} {p : Pos}
variable {ds : List (Option Tmp)} {rem : List Oper} {d : Tmp} {ty : TypeId} {pos : String} {af : Array Edge}
theorem Zni {x : Operand} {t e : TypeId} {n sz b q : Nat} [T : TArr P t n e sz] (hx : ev env x = some (.pointer (some ⟨b, q, none⟩)))
  (h : Sim C m κ ((d, .slice (some ⟨b, q, none⟩) n n) :: env) own H D (.ops ds rem k)) (hd : Nat.blt d C.n = true := by rfl) :
  Sim C m κ env own H D (.ops ds (⟨some d, .slice t x none none none, ty, pos, af, none⟩ :: rem) k) :=
 Zda (fun _ h => by cases h) (fun tm w hE => by
  simp only [execOp, Zay hE hx, Option.map_none]
  have : (Instr.sliceAt t (.pointer (some ⟨b, q, none⟩)) none none none).run P w = .ok (.slice (some ⟨b, q, none⟩) n n) w := by
   unfold Instr.sliceAt
   simp only [Sem.run_bind, run_underlying T.und, Result.andThen_ok, Instr.sureAddr]
   simp [Instr.sliceBounds, Sem.run_bind, T.size, Zdh]
  simp only [Sem.run_bind, this, Result.andThen_ok, Sem.run_pure]) h hd
end rules
end Go.Cat
namespace Go.Cat
section shifts
variable {P : Program} {ρ τ : Type} {C : Ctx P ρ} {m : Option τ} {κ : τ → Option ρ} {env : Env} {own : List Res} {H : Heap} {D : List Deferred} {k : Kont}
variable {ds : List (Option Tmp)} {rem : List Oper} {d : Tmp} {ty : TypeId} {pos : String} {af : Array Edge}
theorem Znj {f : Int → Option τ} {x y : Operand} {xt yt : TypeId} {K K' : IntKind} {a b : Int} (hx : ev env x = some (.int K a)) (hy : ev env y = some (.int K' b))
  (h : ∀ r, gshr K a b = some r → Sim C (f r) κ ((d, .int K r) :: env) own H D (.ops ds rem k)) (hd : Nat.blt d C.n = true := by rfl) :
  Sim C ((gshr K a b).bind f) κ env own H D (.ops ds (⟨some d, .binOp .shr xt x y yt, ty, pos, af, none⟩ :: rem) k) := by
 refine ZeJ (Zhx fun r hr => ?_)
 have hb : ¬ b < 0 := by unfold gshr at hr; split at hr; cases hr; assumption
 have he : r = a.fdiv (2 ^ (min b.toNat K.bits)) := by unfold gshr at hr; rw [if_neg hb] at hr; exact (Option.some.inj hr).symm
 refine Zem hx hy (fun w => by simp [eqGuard]) (fun w => ?_) (fun r2 hr2 w hw tm ht hE => h r hr r2 (by simpa using hr2) w hw tm ht hE) hd
 simp [binOp, Op.shift, hb, he]
end shifts
end Go.Cat
namespace Go.Cat
abbrev FTV := (Nat → Value) → Heap → Value → List Res → Prop
def FTV0 : FTV := fun _ _ _ _ => True
def ZkB (F : FTV) : Prop := ∀ V H H' v g, Hle H H' → F V H v g → F V H' v g
theorem m0V {Q : (Nat → Value) → Value → List Res → Prop} : ZkB (fun V _ v g => Q V v g) := fun _ _ _ _ _ _ h => h
def Zht : List FTV → Prop
 | [] => True
 | F :: Fs => ZkB F ∧ Zht Fs
theorem Zht.get {Fs : List FTV} (h : Zht Fs) (i : Nat) : ZkB (Fs.getD i FTV0) := by
 induction Fs generalizing i with
 | nil => intro V H H' v g _ _; simp [FTV0]
 | cons F Fs ih =>
  cases i with
  | zero => exact h.1
  | succ i => simpa using ih h.2 i
def FLoc (o : Oper) (F : FTV) : Prop := ∀ V V' : Nat → Value, (∀ j ∈ ZbJ o, V j = V' j) → ∀ H v g, F V H v g → F V' H v g
theorem l0V {o : Oper} {Q : Heap → Value → List Res → Prop} : FLoc o (fun _ H v g => Q H v g) := fun _ _ _ _ _ _ h => h
def ZkC : List Oper → List FTV → Prop
 | o :: os, F :: Fs => FLoc o F ∧ ZkC os Fs
 | _, [] => True
 | _, _ => False
theorem ZkC.get : ∀ {l : List Oper} {Fs : List FTV}, ZkC l Fs → ∀ (i : Nat) (o : Oper), l[i]? = some o → FLoc o (Fs.getD i FTV0)
 | [], [], _, i, o, ho => by simp at ho
 | o' :: l, [], _, i, o, ho => by intro V V' _ H v g _; simp [FTV0]
 | o' :: l, F :: Fs, h, 0, o, ho => by simp at ho; subst ho; exact h.1
 | o' :: l, F :: Fs, h, i + 1, o, ho => by
  have := ZkC.get h.2 i o (by simpa using ho)
  simpa using this
 | [], F :: Fs, h, i, o, ho => h.elim
abbrev Ovs := List (Nat × Value × Nat)
def ovE (ov : Ovs) : Env := ov.map fun x => (x.1, x.2.1)
def Znh (l : List Oper) (ov : Ovs) (i : Nat) : Env := ovE (ov.filter fun x => ((l[x.2.2]?).map fun o => (ZbJ o).contains i).getD false)
def ovOk (l : List Oper) (mq : Nat) (ov : Ovs) : Bool := ov.all fun x => Nat.blt x.2.2 mq && (List.range mq).all fun j => Nat.beq j x.2.2 || !(((l[j]?).bind (·.dst)) == some x.1)
theorem Znq {a b : Env} {t : Nat} {v : Value} (h : lk (a ++ b) t = some v) : (t, v) ∈ a ∨ lk b t = some v := by
 induction a with
 | nil => exact .inr h
 | cons p a ih =>
  obtain ⟨q, u⟩ := p
  simp only [List.cons_append, lk] at h
  cases hb : Nat.beq t q with
  | true =>
   have := Nat.eq_of_beq_eq_true hb
   subst this
   simp only [hb, cond_true, Option.some.injEq] at h
   subst h
   exact .inl (List.mem_cons_self ..)
  | false =>
   simp only [hb, cond_false] at h
   exact (ih h).imp (List.mem_cons_of_mem _) id
section draw
variable {P : Program} {ρ τ : Type} {C : Ctx P ρ} {m : Option τ} {κ : τ → Option ρ} {env : Env} {own : List Res} {H : Heap} {D : List Deferred} {k : List Item}
theorem Zmf {i : Nat} {l : List Oper} (ov : Ovs) (giv : List Res) (mq : Nat) (F : Nat → (Nat → Value) → Heap → Value → List Res → Prop) (con : Nat → List Nat)
  (hm : P.follows .mixedOrders = true) (hmono : ∀ i V H H' v g, Hle H H' → F i V H v g → F i V H' v g)
  (hloc : ∀ i o, l[i]? = some o → ∀ V V' : Nat → Value, (∀ j ∈ ZbJ o, V j = V' j) → ∀ H v g, F i V H v g → F i V' H v g)
  (hac : ZeU l.toArray = true) (htail : ZgQ l mq = true) (hds : dsOk env C.n (l.take mq) = true) (hcon : ZiS l mq giv.length con = true) (hmq : Nat.ble mq l.length = true) (hov : ovOk l mq ov = true) (hs1 : Zf2 (ovE ov ++ env) env) (hs2 : Zf2 (ovE ov ++ env) (ovE ov))
  (hstep : ∀ i o, i < mq → l[i]? = some o → ∀ (V : Nat → Value) (G : Nat → List Res) H' fr, vg l.length giv G → Hle H H' → (∀ j ∈ ZbJ o, F j V H' (V j) (G j)) →
   ∃ (τ' : Type) (mi : Option τ'), mi.isSome = true ∧ ∀ r : ρ, Sim C mi (fun _ => some r) (ZcY l V (ZbJ o) ++ (Znh l ov i ++ env)) (own ++ (con i).flatMap G ++ fr) H' D
    (.ops (l.map (·.dst)) [o] (.pred fun tm' w' => ∃ v g H'', (∀ d, o.dst = some d → tm'[d]? = some v) ∧ Hle H' H'' ∧ Inv C.w0 C.M C.H0 (own ++ g ++ fr) H'' w' ∧ F i V H'' v g)))
  (hfin : ∀ (V : Nat → Value) (G : Nat → List Res) H', vg l.length giv G → Hle H H' → (∀ i, i < mq → F i V H' (V i) (G i)) →
   Sim C m κ (ZcY l V (List.range mq) ++ env) (own ++ (Zgg l.length mq giv.length con).flatMap G) H' D (.ops (l.map (·.dst)) (l.drop mq) (.items k))) :
  Sim C m κ (ovE ov ++ env) (own ++ giv) H D (.code (.code (.region i l.toArray true) :: k)) := by
 intro r hr w hw tm ht hE0
 have hE : EnvOk env tm := hE0.sub hs1
 have hOin : ∀ x, x ∈ ov → tm[x.1]? = some x.2.1 := by
  clear hr hmono hloc hac htail hds hcon hmq hov hstep hfin
  have key : ∀ (e' : Env), Zf2 (ovE ov ++ env) e' → ∀ p ∈ e', tm[p.1]? = some p.2 := by
   intro e'
   induction e' with
   | nil => intro _ p hp; cases hp
   | cons q e' ih =>
    obtain ⟨q1, q2⟩ := q
    intro h p hp
    rcases List.mem_cons.1 hp with rfl | hp
    ·exact hE0 _ _ h.1
    ·exact ih h.2 p hp
  intro x hx
  exact key (ovE ov) hs2 (x.1, x.2.1) (List.mem_map.2 ⟨x, hx, rfl⟩)
 refine Zd6 fun t => ?_
 have hT := Zej (ops := l.toArray) hm hac t
 generalize Region.schedule (P.follows .mixedOrders) l.toArray t = sch at hT
 have hw1 : Inv C.w0 C.M C.H0 (own ++ giv) H { w with drawn := w.drawn + 1 } := hw.quiet rfl rfl rfl rfl
 generalize ({ w with drawn := w.drawn + 1 } : World) = w1 at hw1
 have hmq' : mq ≤ l.length := Nat.le_of_ble_eq_true hmq
 have hget : ∀ i : Nat, (l.toArray[i]?) = l[i]? := fun i => by simp
 have hdst : ∀ i o d, i < mq → l[i]? = some o → o.dst = some d → d < C.n ∧ lk env d = none ∧ ∀ j p, j < mq → i ≠ j → l[j]? = some p → p.dst ≠ some d := by
  intro i o d hi ho hd
  obtain ⟨h1, h2, h3⟩ := Zho hds i o d (by rw [List.getElem?_take_of_lt hi]; exact ho) hd
  exact ⟨h1, h2, fun j p hj hij hp => h3 j p hij (by rw [List.getElem?_take_of_lt hj]; exact hp)⟩
 have hconI : ∀ i, i < mq → (∀ j ∈ con i, (∃ o, l[i]? = some o ∧ j ∈ ZbJ o) ∨ (l.length ≤ j ∧ j < l.length + giv.length)) ∧ (con i).Nodup ∧ ∀ q, q < mq → i ≠ q → ∀ j ∈ con i, j ∉ con q := by
  intro i hi
  have := List.all_eq_true.1 hcon i (List.mem_range.2 hi)
  rw [Bool.and_eq_true, Bool.and_eq_true, decide_eq_true_eq] at this
  refine ⟨fun j hj => ?_, this.1.2, fun q hq hiq j hj hjq => ?_⟩
  ·have h1 := List.all_eq_true.1 this.1.1 j hj
   rw [Bool.or_eq_true] at h1
   rcases h1 with h1 | h1
   ·left
    cases ho : l[i]? with
    | none => rw [ho] at h1; simp at h1
    | some o => rw [ho] at h1; exact ⟨o, rfl, by simpa using h1⟩
   ·right
    rw [Bool.and_eq_true] at h1
    exact ⟨Nat.le_of_ble_eq_true h1.1, ZdZ h1.2⟩
  ·have h2 := List.all_eq_true.1 this.2 q (List.mem_range.2 hq)
   rw [Bool.or_eq_true] at h2
   rcases h2 with h2 | h2
   ·exact hiq (Nat.eq_of_beq_eq_true h2)
   ·have := List.all_eq_true.1 h2 j hj
    simp [hjq] at this
 have hdep : ∀ pre i post, sch = pre ++ i :: post → ∀ o, l[i]? = some o → ∀ j ∈ ZbJ o, j ∈ pre := by
  intro pre i post hq o ho j hj
  simp only [ZbJ, List.mem_map, List.mem_filter] at hj
  obtain ⟨e, ⟨he, hb⟩, rfl⟩ := hj
  exact hT.dep pre i post hq o (by rw [hget]; exact ho) e (by simpa using he) hb
 have hvg0 : vg l.length giv (fun x => (giv[x - l.length]?).toList) := fun a q hq => by simp [hq]
 have hnodup : ∀ q, q ≤ l.length → (List.range q ++ List.range' l.length giv.length).Nodup := fun q hq => by
  rw [List.nodup_append]
  refine ⟨List.nodup_range, List.nodup_range', ?_⟩
  rintro a ha b hb rfl
  simp only [List.mem_range, List.mem_range'_1] at ha hb
  omega
 have main : ∀ (rest pre : List Nat) (tm : Array Value) (w : World), sch = pre ++ rest → (∀ x ∈ pre, x < mq) → (∀ q ∈ pre, ∀ j ∈ con q, j ∈ pre ∨ l.length ≤ j) →
   (∃ (V : Nat → Value) (G : Nat → List Res) (H' : Heap) (L : List Nat), vg l.length giv G ∧ Hle H H' ∧ (∀ i ∈ pre, F i V H' (V i) (G i)) ∧ tm.size = C.n ∧ EnvOk env tm ∧
    (∀ i ∈ pre, ∀ o d, l[i]? = some o → o.dst = some d → tm[d]? = some (V i)) ∧ (∀ x, x ∈ ov → x.2.2 ∈ pre ∨ tm[x.1]? = some x.2.1) ∧ L.Nodup ∧ (∀ x, x ∈ L ↔ (x ∈ pre ∨ (l.length ≤ x ∧ x < l.length + giv.length)) ∧ ∀ q ∈ pre, x ∉ con q) ∧ Inv C.w0 C.M C.H0 (own ++ L.flatMap G) H' w) →
   Go (C.T r) C.b tm D (.inRegion l.toArray rest :: k) w := by
  intro rest
  induction rest with
  | nil =>
   rintro pre tm w hsch hlt hcp ⟨V, G, H', L, hvg, hle, hF, htm, hE, htmp, hOv, hLn, hLm, hI⟩
   rw [List.append_nil] at hsch
   have hall : ∀ j, j < l.length → j ∈ pre := fun j hj => by rw [← hsch]; exact hT.all j (by simpa using hj)
   have hmql : mq = l.length := by
    apply Classical.byContradiction
    intro hne
    have := hlt _ (hall mq (by omega))
    omega
   have hLp : L.Perm (Zgg l.length mq giv.length con) := by
    unfold Zgg
    rw [List.perm_ext_iff_of_nodup hLn ((hnodup mq hmq').filter _)]
    intro a
    rw [hLm]
    simp only [List.mem_filter, List.mem_append, List.mem_range, List.mem_range'_1, List.all_eq_true, Bool.not_eq_true', List.contains_eq_mem, decide_eq_false_iff_not]
    constructor
    ·rintro ⟨h1, h2⟩; exact ⟨h1.imp (hlt a) id, fun q hq => h2 q (hall q (by omega))⟩
    ·rintro ⟨h1, h2⟩; exact ⟨h1.imp (fun h => hall a (by omega)) id, fun q hq => h2 q (hlt q hq)⟩
   have hfin' := hfin V G H' hvg hle (fun i hi => hF i (hall i (by omega))) r hr w (hI.perm ((List.perm_append_left_iff _).2 (hLp.flatMap_right G))) tm htm (by
    intro t v hl'
    rcases Zdq _ t v hl' with ⟨j, hj, hd, rfl⟩ | h
    ·have hjm := List.mem_range.1 hj
     cases ho : l[j]? with
     | none => rw [ho] at hd; cases hd
     | some o => rw [ho] at hd; exact htmp j (hall j (by omega)) o t ho hd
    ·exact hE t v h)
   rw [hmql, List.drop_length] at hfin'
   exact ZdN hfin'
  | cons i rest ih =>
   rintro pre tm w hsch hlt hcp ⟨V, G, H', L, hvg, hle, hF, htm, hE, htmp, hOv, hLn, hLm, hI⟩
   have hil : i < l.length := by have := hT.lt i (by rw [hsch]; simp); simpa using this
   have ho : l[i]? = some l[i] := List.getElem?_eq_getElem hil
   have hinp : i ∉ pre := by
    have := hT.nd
    rw [hsch, List.nodup_append] at this
    intro hx
    exact this.2.2 i hx i (by simp) rfl
   have hdeps := hdep pre i rest hsch _ ho
   by_cases hiq : i < mq
   ·
    have hconi := hconI i hiq
    have hcpre : ∀ j ∈ con i, j ∈ pre ∨ (l.length ≤ j ∧ j < l.length + giv.length) := fun j hj => by
     rcases hconi.1 j hj with ⟨o, ho', hj'⟩ | h
     ·rw [ho] at ho'; cases ho'
      exact .inl (hdeps j hj')
     ·exact .inr h
    have hcL : ∀ j ∈ con i, j ∈ L := fun j hj => (hLm j).2 ⟨hcpre j hj, fun q hq => (hconi.2.2 q (hlt q hq) (fun e => hinp (e ▸ hq)) j hj)⟩
    have hLp : L.Perm (con i ++ L.filter fun x => !(con i).contains x) := by
     rw [List.perm_ext_iff_of_nodup hLn (by
      rw [List.nodup_append]
      refine ⟨hconi.2.1, hLn.filter _, ?_⟩
      rintro a ha b hb rfl
      simp only [List.mem_filter, Bool.not_eq_true', List.contains_eq_mem, decide_eq_false_iff_not] at hb
      exact hb.2 ha)]
     intro a
     simp only [List.mem_append, List.mem_filter, Bool.not_eq_true', List.contains_eq_mem, decide_eq_false_iff_not]
     constructor
     ·intro h; by_cases ha : a ∈ con i
      ·exact .inl ha
      ·exact .inr ⟨h, ha⟩
     ·rintro (h | h)
      ·exact hcL a h
      ·exact h.1
    have hI1 : Inv C.w0 C.M C.H0 (own ++ (con i).flatMap G ++ (L.filter fun x => !(con i).contains x).flatMap G) H' w :=
     hI.perm (by
      rw [List.append_assoc]
      refine (List.perm_append_left_iff _).2 ?_
      have := hLp.flatMap_right G
      rw [List.flatMap_append] at this
      exact this)
    obtain ⟨τ', mi, hmi, hS⟩ := hstep i _ hiq ho V G H' ((L.filter fun x => !(con i).contains x).flatMap G) hvg hle (fun j hj => hF j (hdeps j hj))
    have hrun := hS r r (by cases mi with
     | none => simp at hmi
     | some x => rfl) w hI1 tm htm (by
     intro t v hl'
     rcases Zdq _ t v hl' with ⟨j, hj, hd, rfl⟩ | h
     ·cases hoj : l[j]? with
      | none => rw [hoj] at hd; cases hd
      | some o => rw [hoj] at hd; exact htmp j (hdeps j hj) o t hoj hd
     ·rcases Znq h with h | h
      ·obtain ⟨x, hx, he⟩ := List.mem_map.1 h
       rw [List.mem_filter] at hx
       simp only [Prod.mk.injEq] at he
       rcases hOv x hx.1 with hq | hq
       ·exfalso
        cases hoq : l[x.2.2]? with
        | none => have := hx.2; rw [hoq] at this; simp at this
        | some oq =>
         have h2 := hx.2; rw [hoq] at h2
         obtain ⟨s1, s2, hs⟩ := List.append_of_mem hq
         have := hdep s1 x.2.2 (s2 ++ i :: rest) (by rw [hsch, hs]; simp) _ hoq i (by simpa using h2)
         exact hinp (by rw [hs]; exact List.mem_append.2 (.inl this))
       ·rw [← he.1, ← he.2]; exact hq
      ·exact hE t v h)
    have hsch' : sch = (pre ++ [i]) ++ rest := by rw [hsch]; simp
    have hnext : ∀ (v : Value) (w' : World), (∃ v' g H'', (∀ d, (l[i]).dst = some d → (putT tm (l[i]).dst v)[d]? = some v') ∧ Hle H' H'' ∧ Inv C.w0 C.M C.H0 (own ++ g ++ (L.filter fun x => !(con i).contains x).flatMap G) H'' w' ∧ F i V H'' v' g) →
      Go (C.T r) C.b (putT tm (l[i]).dst v) D (.inRegion l.toArray rest :: k) w' := by
     rintro v w' ⟨v', g, H'', hd, hle', hI', hFi⟩
     refine ih (pre ++ [i]) _ w' hsch' (by
      intro x hx
      rcases List.mem_append.1 hx with hx | hx
      ·exact hlt x hx
      ·simp at hx; subst hx; exact hiq) (by
      intro q hq j hj
      rcases List.mem_append.1 hq with hq | hq
      ·exact (hcp q hq j hj).imp (fun h => List.mem_append.2 (.inl h)) id
      ·simp at hq; subst hq; exact (hcpre j hj).imp (fun h => List.mem_append.2 (.inl h)) And.left) ?_
     refine ⟨fun j => if j = i then v' else V j, fun j => if j = i then g else G j, H'', i :: L.filter (fun x => !(con i).contains x), ?_, hle.trans hle', ?_, ?_, ?_, ?_, ?_, ?_, ?_, ?_⟩
     ·intro a q hq
      have h0 := hvg a q hq
      have hne : l.length + a ≠ i := by omega
      simp only [hne, if_false]
      exact h0
     ·intro j hj
      rcases List.mem_append.1 hj with hj | hj
      ·have hne : j ≠ i := fun e => hinp (e ▸ hj)
       simp only [hne, if_false]
       have hjl : j < l.length := Nat.lt_of_lt_of_le (hlt j hj) hmq'
       refine hloc j _ (List.getElem?_eq_getElem hjl) V _ (fun q hq => ?_) _ _ _ (hmono j V H' H'' _ _ hle' (hF j hj))
       have hqp : q ∈ pre := by
        obtain ⟨s1, s2, hs⟩ := List.append_of_mem hj
        have := hdep s1 j (s2 ++ i :: rest) (by rw [hsch, hs]; simp) _ (List.getElem?_eq_getElem hjl) q hq
        rw [hs]; exact List.mem_append.2 (.inl this)
       have hqi : q ≠ i := fun e => hinp (e ▸ hqp)
       simp only [hqi, if_false]
      ·simp at hj; subst hj; simp only [if_true]
       refine hloc j _ ho V _ (fun q hq => ?_) _ _ _ hFi
       have hqi : q ≠ j := fun e => hinp (e ▸ hdeps q hq)
       simp only [hqi, if_false]
     ·cases (l[i]).dst <;> simp [putT, htm]
     ·intro t u hu
      have h0 := hE t u hu
      cases hdd : (l[i]).dst with
      | none => simpa [putT] using h0
      | some d =>
       have hne : d ≠ t := fun e => by
        have := (hdst i _ d hiq ho hdd).2.1
        rw [e, hu] at this; cases this
       simp only [putT]
       rw [Array.getElem?_setIfInBounds_ne hne]
       exact h0
     ·intro j hj o d hoj hdj
      rcases List.mem_append.1 hj with hj | hj
      ·have hne : j ≠ i := fun e => hinp (e ▸ hj)
       simp only [hne, if_false]
       have h0 := htmp j hj o d hoj hdj
       cases hdd : (l[i]).dst with
       | none => simpa [putT] using h0
       | some d' =>
        have hne' : d' ≠ d := fun e => (hdst i _ d' hiq ho hdd).2.2 j o (hlt j hj) (fun e => hne e.symm) hoj (e ▸ hdj)
        simp only [putT]
        rw [Array.getElem?_setIfInBounds_ne hne']
        exact h0
      ·simp at hj; subst hj
       simp only [if_true]
       rw [ho] at hoj; cases hoj
       exact hd d hdj
     ·intro x hx
      have hok := List.all_eq_true.1 hov x hx
      rw [Bool.and_eq_true] at hok
      rcases hOv x hx with hq | hq
      ·exact .inl (List.mem_append.2 (.inl hq))
      ·by_cases hxi : x.2.2 = i
       ·left; rw [hxi]; simp
       ·right
        cases hdd : (l[i]).dst with
        | none => simpa [putT] using hq
        | some d' =>
         have hne' : d' ≠ x.1 := fun e => by
          have h3 := List.all_eq_true.1 hok.2 i (List.mem_range.2 hiq)
          rw [Bool.or_eq_true] at h3
          rcases h3 with h3 | h3
          ·exact hxi (Nat.eq_of_beq_eq_true h3).symm
          ·rw [ho] at h3
           simp [hdd, e] at h3
         simp only [putT]
         rw [Array.getElem?_setIfInBounds_ne hne']
         exact hq
     ·simp only [List.nodup_cons]
      refine ⟨fun hx => ?_, hLn.filter _⟩
      have := ((hLm i).1 (List.mem_filter.1 hx).1).1
      rcases this with h | h
      ·exact hinp h
      ·omega
     ·intro x
      simp only [List.mem_cons, List.mem_filter, hLm, Bool.not_eq_true', List.contains_eq_mem, decide_eq_false_iff_not, List.mem_append, List.not_mem_nil, or_false]
      constructor
      ·rintro (rfl | ⟨⟨h1, h2⟩, h3⟩)
       ·refine ⟨.inl (.inr rfl), ?_⟩
        rintro q (hq | rfl) hx
        ·rcases hcp q hq _ hx with h | h
         ·exact hinp h
         ·omega
        ·rcases hcpre _ hx with h | h
         ·exact hinp h
         ·omega
       ·refine ⟨h1.imp .inl id, ?_⟩
        rintro q (hq | rfl) hx
        ·exact h2 q hq hx
        ·exact h3 hx
      ·rintro ⟨(h1 | rfl) | h1, h2⟩
       ·right; exact ⟨⟨.inl h1, fun q hq => h2 q (.inl hq)⟩, h2 i (.inr rfl)⟩
       ·left; rfl
       ·right; exact ⟨⟨.inr h1, fun q hq => h2 q (.inl hq)⟩, h2 i (.inr rfl)⟩
     ·have hfe : (L.filter fun x => !(con i).contains x).flatMap (fun j => if j = i then g else G j) = (L.filter fun x => !(con i).contains x).flatMap G := by
       have hcongr : ∀ (L' : List Nat) (f f' : Nat → List Res), (∀ x ∈ L', f x = f' x) → L'.flatMap f = L'.flatMap f' := by
        intro L' f f' hff
        induction L' with
        | nil => rfl
        | cons y L' ihL => simp [hff y (by simp), ihL fun x hx => hff x (by simp [hx])]
       apply hcongr
       intro x hx
       have hne : x ≠ i := fun e => by
        rcases ((hLm x).1 (List.mem_filter.1 hx).1).1 with h | h
        ·exact hinp (e ▸ h)
        ·omega
       simp [hne]
      simp only [List.flatMap_cons, if_true, hfe]
      rw [← List.append_assoc]
      exact hI'
    simp only [Pos.go, ROps, Kont.fin] at hrun
    by_cases hwd : Region.wanted (l[i]) (yielded l.toArray tm) = true
    ·have := Zdv l.toArray tm (l[i])
     simp only at this
     rw [this, if_pos hwd] at hrun
     obtain ⟨hp, hrun⟩ := hrun
     have ho' : l.toArray[i]? = some l[i] := by rw [hget]; exact ho
     split at hrun
     ·exact Zep ho' hwd hp (by assumption) (hnext _ _ hrun)
     ·exact ZdO ho' hwd hp (by assumption) (hnext _ _ hrun)
     ·rcases hrun with ⟨R, hc, hk⟩ | ⟨RP, hc, hk⟩
      ·exact Zfc ho' hwd hp (by assumption) hc fun v w'' hR => hnext v w'' (hk v w'' hR)
      ·exact Zes ho' hwd hp (by assumption) hc hk
     ·exact Zer ho' hwd hp (by assumption) hrun
     ·obtain ⟨R, hc, hk⟩ := hrun
      exact Zeq ho' hwd hp (by assumption) hc fun v w'' hR => hnext v w'' (hk v w'' hR)
     ·exact hrun.elim
    ·have := Zdv l.toArray tm (l[i])
     simp only at this
     rw [this, if_neg hwd] at hrun
     have ho' : l.toArray[i]? = some l[i] := by rw [hget]; exact ho
     exact Zfb ho' (by simpa using hwd) (hnext _ _ hrun)
   ·
    have hge : mq ≤ i := Nat.le_of_not_lt hiq
    have htl : ∀ j, mq ≤ j → ∀ o, l[j]? = some o → ∀ x, x < j → x ∈ ZbJ o := by
     intro j hj o hoj x hx
     have hjl : j < l.length := (List.getElem?_eq_some_iff.1 hoj).1
     have := List.all_eq_true.1 htail j (List.mem_range.2 hjl)
     rw [Bool.or_eq_true] at this
     rcases this with h | h
     ·exact absurd (ZdZ h) (by omega)
     ·rw [hoj] at h
      have := List.all_eq_true.1 h x (List.mem_range.2 hx)
      simpa using this
    have hall : ∀ j, j < mq → j ∈ pre := fun j hj => hdeps j (htl i hge _ ho j (by omega))
    have hieq : i = mq := by
     apply Classical.byContradiction
     intro hne
     have := hlt mq (hdeps mq (htl i hge _ ho mq (by omega)))
     omega
    have hrange : ∀ (rest' pre' : List Nat) (c : Nat), sch = pre' ++ rest' → (∀ x, x ∈ pre' ↔ x < c) → mq ≤ c → c ≤ l.length → rest' = List.range' c (l.length - c) := by
     intro rest'
     induction rest' with
     | nil =>
      intro pre' c hs hp hc hcl
      rw [List.append_nil] at hs
      have : l.length = c := by
       apply Classical.byContradiction
       intro hne
       have : c ∈ pre' := by rw [← hs]; exact hT.all c (by simp; omega)
       rw [hp] at this; omega
      simp [this]
     | cons q rest' ihr =>
      intro pre' c hs hp hc hcl
      have hq : q < l.length := by have := hT.lt q (by rw [hs]; simp); simpa using this
      have hqp : q ∉ pre' := by
       have := hT.nd
       rw [hs, List.nodup_append] at this
       intro hx; exact this.2.2 q hx q (by simp) rfl
      have hqc : ¬ q < c := fun h => hqp ((hp q).2 h)
      have : q = c := by
       apply Classical.byContradiction
       intro hne
       have := hdep pre' q rest' hs _ (List.getElem?_eq_getElem hq) c (htl q (by omega) _ (List.getElem?_eq_getElem hq) c (by omega))
       rw [hp] at this; omega
      subst this
      rw [show l.length - q = (l.length - (q + 1)) + 1 by omega, List.range'_succ]
      congr 1
      exact ihr (pre' ++ [q]) (q + 1) (by rw [hs]; simp) (by intro x; simp [hp]; omega) (by omega) (by omega)
    have hrest : i :: rest = List.range' mq (l.length - mq) := hrange (i :: rest) pre mq hsch (fun x => ⟨hlt x, hall x⟩) (Nat.le_refl _) hmq'
    have hLp : L.Perm (Zgg l.length mq giv.length con) := by
     unfold Zgg
     rw [List.perm_ext_iff_of_nodup hLn ((hnodup mq hmq').filter _)]
     intro a
     rw [hLm]
     simp only [List.mem_filter, List.mem_append, List.mem_range, List.mem_range'_1, List.all_eq_true, Bool.not_eq_true', List.contains_eq_mem, decide_eq_false_iff_not]
     constructor
     ·rintro ⟨h1, h2⟩; exact ⟨h1.imp (hlt a) id, fun q hq => h2 q (hall q hq)⟩
     ·rintro ⟨h1, h2⟩; exact ⟨h1.imp (hall a) id, fun q hq => h2 q (hlt q hq)⟩
    have hfin' := hfin V G H' hvg hle (fun i hi => hF i (hall i hi)) r hr w (hI.perm ((List.perm_append_left_iff _).2 (hLp.flatMap_right G))) tm htm (by
     intro t v hl'
     rcases Zdq _ t v hl' with ⟨j, hj, hd, rfl⟩ | h
     ·have hjm := List.mem_range.1 hj
      cases hoj : l[j]? with
      | none => rw [hoj] at hd; cases hd
      | some o => rw [hoj] at hd; exact htmp j (hall j hjm) o t hoj hd
     ·exact hE t v h)
    have := Zfd (ops := l.toArray) (l.drop mq) (l.take mq) tm w (by simp) hfin'
    rw [hrest]
    simpa [List.length_take, Nat.min_eq_left hmq'] using this
 exact main sch [] tm w1 (by simp) (by simp) (by simp) ⟨fun _ => undef, fun x => (giv[x - l.length]?).toList, H, List.range' l.length giv.length, hvg0, .refl _, by simp, ht, hE, by simp, (fun x hx => .inr (by
  have : lk (ovE ov) x.1 = some x.2.1 ∨ True := .inr trivial
  exact hOin x hx)), List.nodup_range', by simp [List.mem_range'_1], by rw [Zjy hvg0]; exact hw1⟩
end draw
end Go.Cat
namespace Go.Cat
section drawL
variable {P : Program} {ρ τ : Type} {C : Ctx P ρ} {m : Option τ} {κ : τ → Option ρ} {env : Env} {own : List Res} {H : Heap} {D : List Deferred} {k : List Item} {p : Pos}
def ZkD (C : Ctx P ρ) (env : Env) (own : List Res) (H : Heap) (D : List Deferred) (l : List Oper) (ov : Ovs) (giv : List Res) (Fs : List FTV) (i : Nat) (o : Oper) (con : List Nat) (F : FTV) : Prop :=
 ∀ (V : Nat → Value) (G : Nat → List Res) H' fr, vg l.length giv G → Hle H H' → (∀ j ∈ ZbJ o, (Fs.getD j FTV0) V H' (V j) (G j)) →
   ∃ (τ' : Type) (mi : Option τ'), mi.isSome = true ∧ ∀ r : ρ, Sim C mi (fun _ => some r) (ZcY l V (ZbJ o) ++ (Znh l ov i ++ env)) (own ++ con.flatMap G ++ fr) H' D
    (.ops (l.map (·.dst)) [o] (.pred fun tm' w' => ∃ v g H'', (∀ d, o.dst = some d → tm'[d]? = some v) ∧ Hle H' H'' ∧ Inv C.w0 C.M C.H0 (own ++ g ++ fr) H'' w' ∧ F V H'' v g))
def Zfz (C : Ctx P ρ) (env : Env) (own : List Res) (H : Heap) (D : List Deferred) (l : List Oper) (ov : Ovs) (giv : List Res) (Fs : List FTV) : Nat → List Oper → List (List Nat) → List FTV → Prop
 | i, o :: os, c :: cs, F :: Gs => ZkD C env own H D l ov giv Fs i o c F ∧ Zfz C env own H D l ov giv Fs (i + 1) os cs Gs
 | _, _, [], [] => True
 | _, _, _, _ => False
theorem Zfz.get {l : List Oper} {ov : Ovs} {giv : List Res} {Fs : List FTV} : ∀ {os : List Oper} {q : Nat} {cs : List (List Nat)} {Gs : List FTV}, Zfz C env own H D l ov giv Fs q os cs Gs → cs.length = Gs.length → ∀ (i : Nat) (o : Oper), i < Gs.length → os[i]? = some o → ZkD C env own H D l ov giv Fs (q + i) o (cs.getD i []) (Gs.getD i FTV0) := by
 intro os
 induction os with
 | nil => intro q cs Gs _ _ i o _ ho; simp at ho
 | cons x os ih =>
  intro q cs Gs h hl i o hi ho
  cases cs with
  | nil => cases Gs with
   | nil => simp at hi
   | cons => simp at hl
  | cons c cs => cases Gs with
   | nil => simp at hl
   | cons F Gs =>
    cases i with
    | zero => simp only [List.getElem?_cons_zero, Option.some.injEq] at ho; subst ho; simpa using h.1
    | succ i =>
     have := ih h.2 (by simpa using hl) i o (by simpa using hi) (by simpa using ho)
     rw [show q + 1 + i = q + (i + 1) by omega] at this
     simpa using this
theorem Zha {i : Nat} {l : List Oper} (ov : Ovs) (giv : List Res) (Fs : List FTV) (cs : List (List Nat)) (hm : P.follows .mixedOrders = true) (hmono : Zht Fs) (hlocs : ZkC l Fs)
  (hac : ZeU l.toArray = true) (htail : ZgQ l Fs.length = true) (hds : dsOk env C.n (l.take Fs.length) = true) (hcon : ZiS l Fs.length giv.length (fun i => cs.getD i []) = true) (hmq : Nat.ble Fs.length l.length = true) (hcs : Nat.beq cs.length Fs.length = true) (hov : ovOk l Fs.length ov = true) (hs1 : Zf2 (ovE ov ++ env) env) (hs2 : Zf2 (ovE ov ++ env) (ovE ov))
  (hstep : Zfz C env own H D l ov giv Fs 0 l cs Fs)
  (hfin : ∀ (V : Nat → Value) (G : Nat → List Res) H', vg l.length giv G → Hle H H' → (∀ i, i < Fs.length → (Fs.getD i FTV0) V H' (V i) (G i)) →
   Sim C m κ (ZcY l V (List.range Fs.length) ++ env) (own ++ (Zgg l.length Fs.length giv.length (fun i => cs.getD i [])).flatMap G) H' D (.ops (l.map (·.dst)) (l.drop Fs.length) (.items k))) :
  Sim C m κ (ovE ov ++ env) (own ++ giv) H D (.code (.code (.region i l.toArray true) :: k)) :=
 Zmf ov giv Fs.length (fun i => Fs.getD i FTV0) (fun i => cs.getD i []) hm (fun i V H H' v g hle hF => (hmono.get i) V H H' v g hle hF) (fun i o ho V V' hV H v g hF => hlocs.get i o ho V V' hV H v g hF) hac htail hds hcon hmq hov hs1 hs2
  (fun i o hi ho V G H' fr hg hle hd => by
   have := hstep.get (Nat.eq_of_beq_eq_true hcs) i o hi ho V G H' fr hg hle hd
   rwa [Nat.zero_add] at this) hfin
theorem Zb8 {l os : List Oper} {ov : Ovs} {giv : List Res} {Fs Fs' : List FTV} {i : Nat} {o : Oper} {c : List Nat} {cs : List (List Nat)} {F : FTV} (h : ZkD C env own H D l ov giv Fs i o c F) (h' : Zfz C env own H D l ov giv Fs (i + 1) os cs Fs') : Zfz C env own H D l ov giv Fs i (o :: os) (c :: cs) (F :: Fs') := ⟨h, h'⟩
theorem Zm0 {l os : List Oper} {ov : Ovs} {giv : List Res} {Fs : List FTV} {i : Nat} : Zfz C env own H D l ov giv Fs i os [] [] := by cases os <;> trivial
end drawL
end Go.Cat
namespace Go.Cat
def Zj2 {P : Program} {ρ : Type} (C : Ctx P ρ) (H' : Heap) : Ctx P ρ := { C with H0 := H' }
structure Lent {P : Program} {ρ : Type} (C : Ctx P ρ) (H H' : Heap) (rest : List Res) : Prop where
 le : Hle H H'
 ok : ∀ r ∈ rest, Zg4 H' r
 hnone : ∀ b ∈ ids rest, H b = none
 hsome : ∀ b ∈ ids rest, H' b ≠ none
 c0 : Hle C.H0 H
 new : ∀ b, H b ≠ none → C.H0 b ≠ none ∨ C.w0.heap.size ≤ b
 only : ∀ b, H' b ≠ none → H b ≠ none ∨ b ∈ ids rest
 nd : (ids rest).Nodup
 mm : ∀ b ∈ ids rest, b < C.w0.heap.size → C.M b
section rules
variable {P : Program} {ρ τ : Type} {C : Ctx P ρ} {m : Option τ} {κ : τ → Option ρ} {env : Env} {own own' rest : List Res} {H H' H'' : Heap} {D : List Deferred} {p : Pos}
theorem ZjL (own' rest : List Res) (hp : own.Perm (own' ++ rest)) (h : ∀ H', Lent C H H' rest → Sim (Zj2 C H') m κ env own' H' D p) : Sim C m κ env own H D p := by
 intro r hr w hw tm ht hE
 have hw := hw.perm hp
 have hnd := hw.nd
 rw [ZaS, List.nodup_append] at hnd
 have hrest : ∀ b ∈ ids rest, H b = none := fun b hb => (hw.away b (by rw [ZaS]; exact List.mem_append.2 (.inr hb))).1
 have hlt : ∀ b ∈ ids rest, b < w.heap.size := fun b hb => (hw.away b (by rw [ZaS]; exact List.mem_append.2 (.inr hb))).2.1
 have hL : Lent C H (ZbW H w (ids rest)) rest := {
  le := Ze4 hrest
  ok := fun r hr => ⟨w, hw.ok r (List.mem_append.2 (.inr hr)), fun b hb => by simp only [ZbW]; rw [if_pos (Zdy hr hb)]⟩
  hnone := hrest
  hsome := fun b hb => by
   simp only [ZbW]; rw [if_pos hb, Array.getElem?_eq_getElem (hlt b hb)]; simp
  c0 := hw.h0
  new := hw.new
  only := fun b hb => by
   simp only [ZbW] at hb
   split at hb
   ·rename_i hm; exact .inr hm
   ·exact .inl hb
  nd := hnd.2.1
  mm := fun b hb => (hw.away b (by rw [ZaS]; exact List.mem_append.2 (.inr hb))).2.2 }
 refine h _ hL r hr w ⟨hw.os, hw.tape, hw.output, hw.size, hw.same, ?_, .refl _, fun b hb => .inl hb, fun r hr => hw.ok r (List.mem_append.2 (.inl hr)), hnd.1, fun b hb => ⟨?_, ?_⟩, hw.drawn⟩ tm ht hE
 ·intro b o hb
  simp only [ZbW] at hb
  split at hb
  ·exact hb
  ·exact hw.sub b o hb
 ·simp only [ZbW]
  rw [if_neg (fun hbr => hnd.2.2 b hb b hbr rfl)]
  exact (hw.away b (by rw [ZaS]; exact List.mem_append.2 (.inl hb))).1
 ·exact (hw.away b (by rw [ZaS]; exact List.mem_append.2 (.inl hb))).2
theorem Zd2 (L : Lent C H H' rest) (hle : Hle H' H'') (h : ∀ H2, Hle H H2 → Sim C m κ env (own ++ rest) H2 D p) : Sim (Zj2 C H') m κ env own H'' D p := by
 intro r hr w hw tm ht hE
 have hat : ∀ b ∈ ids rest, H'' b ≠ none := fun b hb => by
  cases e : H' b with
  | none => exact absurd e (L.hsome b hb)
  | some o => rw [hle _ _ e]; simp
 have h2 : Hle H (fun b => if b ∈ ids rest then none else H'' b) := by
  intro b o hb
  have hn : b ∉ ids rest := fun hm => by rw [L.hnone b hm] at hb; cases hb
  simp only [hn, if_false]
  exact hle _ _ (L.le _ _ hb)
 refine h _ h2 r hr w ⟨hw.os, hw.tape, hw.output, hw.size, hw.same, ?_, L.c0.trans h2, ?_, ?_, ?_, ?_, hw.drawn⟩ tm ht hE
 ·intro b o hb
  have hb : (if b ∈ ids rest then none else H'' b) = some o := hb
  split at hb
  ·cases hb
  ·exact hw.sub b o hb
 ·intro b hb
  have hb : (if b ∈ ids rest then none else H'' b) ≠ none := hb
  split at hb
  ·exact absurd rfl hb
  ·rename_i hn
   rcases hw.new b hb with h3 | h3
   ·rcases L.only b h3 with h4 | h4
    ·exact L.new b h4
    ·exact absurd h4 hn
   ·exact .inr h3
 ·intro q hq
  rcases List.mem_append.1 hq with hq | hq
  ·exact hw.ok q hq
  ·obtain ⟨wl, hok, hat'⟩ := L.ok q hq
   refine Res.ok_of_same (fun b hb => ?_) hok
   cases e : H' b with
   | none => exact absurd e (L.hsome b (Zdy hq hb))
   | some o =>
    have h4 := hw.sub b o (hle _ _ e)
    have h5 : w.heap[b]? = some o := h4
    rw [h5, ← hat' b hb, e]
 ·rw [ZaS, List.nodup_append]
  refine ⟨hw.nd, L.nd, ?_⟩
  rintro a ha b hb rfl
  exact hat a hb (hw.away a ha).1
 ·intro b hb
  rw [ZaS] at hb
  rcases List.mem_append.1 hb with hb | hb
  ·have := hw.away b hb
   refine ⟨?_, this.2⟩
   show (if b ∈ ids rest then none else H'' b) = none
   split
   ·rfl
   ·exact this.1
  ·refine ⟨by simp [hb], ?_, L.mm b hb⟩
   cases e : H'' b with
   | none => exact absurd e (hat b hb)
   | some o =>
    have := hw.sub b o e
    exact (Array.getElem?_eq_some_iff.1 this).1
end rules
structure RawSl where
 a : Option Addr
 n : Nat
 cap : Nat
 deriving DecidableEq
instance instGoERawSl : GoE RawSl := ⟨1, fun x => [.slice x.a x.n x.cap], fun _ => rfl, fun _ => rfl⟩
inductive ORel {α β : Type} [GoT β] (H : Heap) (et : TypeId) : List (α × RawSl) → List Res → List (α × List β) → Prop where
 | nil : ORel H et [] [] []
 | cons {q : α} {a : Option Addr} {cap : Nat} {v : List β} {ls : List (List Value)} {lr : List (α × RawSl)} {rs : List Res} {l : List (α × List β)} (hA : All2 (GoT.rep H) ls v) (h : ORel H et lr rs l) :
   ORel H et ((q, ⟨a, v.length, cap⟩) :: lr) (.osl (.slice a v.length cap) (GoT.sz β) et ls :: rs) ((q, v) :: l)
section orel
variable {α β : Type} [GoT β] {H H' : Heap} {et : TypeId} {lr : List (α × RawSl)} {rs : List Res} {l : List (α × List β)}
theorem ORel.mono (hle : Hle H H') (h : ORel H et lr rs l) : ORel H' et lr rs l := by
 induction h with
 | nil => exact .nil
 | cons hA _ ih => exact .cons (All2.mono (fun _ _ => GoT.mono hle) hA) ih
theorem ORel.len (h : ORel H et lr rs l) : lr.length = l.length ∧ rs.length = l.length := by
 induction h with
 | nil => exact ⟨rfl, rfl⟩
 | cons _ _ ih => simp [ih]
theorem ORel.get (h : ORel H et lr rs l) : ∀ (i : Nat) (q : α) (v : List β), l[i]? = some (q, v) → ∃ a cap ls, lr[i]? = some (q, ⟨a, v.length, cap⟩) ∧ rs[i]? = some (.osl (.slice a v.length cap) (GoT.sz β) et ls) ∧ All2 (GoT.rep H) ls v := by
 induction h with
 | nil => intro i q v hi; simp at hi
 | cons hA _ ih =>
  intro i q v hi
  cases i with
  | zero => simp at hi; obtain ⟨rfl, rfl⟩ := hi; exact ⟨_, _, _, rfl, rfl, hA⟩
  | succ i => simpa using ih i q v (by simpa using hi)
theorem ORel.set {q : α} {a : Option Addr} {cap : Nat} {v : List β} {ls : List (List Value)} (hA : All2 (GoT.rep H) ls v) (h : ORel H et lr rs l) : ∀ (i : Nat), i < l.length → ORel H et (lr.set i (q, ⟨a, v.length, cap⟩)) (rs.set i (.osl (.slice a v.length cap) (GoT.sz β) et ls)) (l.set i (q, v)) := by
 induction h with
 | nil => intro i hi; simp at hi
 | cons hA' h' ih =>
  intro i hi
  cases i with
  | zero => exact .cons hA h'
  | succ i => exact .cons hA' (ih i (by simpa using hi))
theorem ORel.snoc {q : α} {a : Option Addr} {cap : Nat} {v : List β} {ls : List (List Value)} (hA : All2 (GoT.rep H) ls v) (h : ORel H et lr rs l) : ORel H et (lr ++ [(q, ⟨a, v.length, cap⟩)]) (rs ++ [.osl (.slice a v.length cap) (GoT.sz β) et ls]) (l ++ [(q, v)]) := by
 induction h with
 | nil => exact .cons hA .nil
 | cons hA' _ ih => exact .cons hA' ih
theorem ORel.midx [DecidableEq α] (h : ORel H et lr rs l) (q : α) : midx lr q = midx l q := by
 induction h with
 | nil => rfl
 | cons _ _ ih => simp only [Go.Cat.midx, ih]
theorem Zk9 [GoE α] {ka : Bool} {m c : Nat} {es : Array MapEntry} (hle : Hle H H') (hR : MapR ka false H es c lr) (h : ORel H et lr rs l) (hl : ∀ r ∈ Res.blk m (.map es c) :: rs, Zg4 H' r) : MapV ka false H' (.map (some m)) (some l) := by
 refine ⟨m, es, c, rfl, Zla (hl _ (List.mem_cons_self ..)), ⟨hR.len.trans h.len.1, fun i e p he hp => ?_, hR.born, hR.inc⟩⟩
 obtain ⟨q, v⟩ := p
 obtain ⟨a, cap, ls, h1, h2, hA⟩ := h.get i q v hp
 obtain ⟨hk, vs, hv, hvs⟩ := hR.ent i e _ he h1
 have hvs' : vs = [Value.slice a v.length cap] := hvs
 refine ⟨hk, vs, hv, a, cap, hvs', ?_⟩
 exact (Zcf (hl _ (List.mem_cons_of_mem _ (List.mem_of_getElem? h2))) hA hle).2
end orel
end Go.Cat
namespace Go.Cat
section lk
variable {P : Program} {ρ τ α : Type} {C : Ctx P ρ} {m : Option τ} {κ : τ → Option ρ} {env : Env} {own : List Res} {H : Heap} {D : List Deferred} {k : Kont}
variable {ds : List (Option Tmp)} {rem : List Oper} {d : Tmp} {ty : TypeId} {pos : String} {af : Array Edge}
theorem ZlR [DecidableEq α] [GoE α] (j : Nat) {x y : Operand} {t kt et : TypeId} {ka : Bool} {b c : Nat} {es : Array MapEntry} {lr : List (α × RawSl)} [T : TMap P t kt et] [K : TKey P kt ka α] [Z : TZero P et (.slice none 0 0)]
  (hx : ev env x = some (.map (some b))) (ho : own[j]? = some (.blk b (.map es c))) (hR : MapR ka false H es c lr) (q : α) (hy : ev env y = some (mkE ka q)) {a : Option Addr} {n cp : Nat} (hg : mgetD lr q ⟨none, 0, 0⟩ = ⟨a, n, cp⟩)
  (h : Sim C m κ ((d, .slice a n cp) :: env) own H D (.ops ds rem k)) (hd : Nat.blt d C.n = true := by rfl) :
  Sim C m κ env own H D (.ops ds (⟨some d, .lookup t x y false, ty, pos, af, none⟩ :: rem) k) :=
 haveI : TZero P et (mkE false (⟨none, 0, 0⟩ : RawSl)) := Z
 Zia (kt := kt) (et := et) (z := (⟨none, 0, 0⟩ : RawSl)) j hx ho hR q hy (by rw [hg]; exact h) hd
end lk
end Go.Cat
namespace Go.Cat
abbrev fV (X : Value) : Heap → Value → List Res → Prop := fun _ v g => v = X ∧ g = []
section short
variable {P : Program} {ρ τ : Type} {C : Ctx P ρ} {m : Option τ} {κ : τ → Option ρ} {env : Env} {own : List Res} {H : Heap} {D : List Deferred}
theorem Zai (X : Value) {F : Heap → Value → List Res → Prop} {d : Tmp} {ds : List (Option Tmp)} {own1 fr : List Res} (hF : F H X []) (hl : lk env d = some X := by exact rfl) (ho : own1 = own ++ [] ++ fr := by exact rfl) :
  Sim C m κ env own1 H D (.ops ds [] (.pred fun tm' w' => ∃ v g H'', (∀ d', some d = some d' → tm'[d']? = some v) ∧ Hle H H'' ∧ Inv C.w0 C.M C.H0 (own ++ g ++ fr) H'' w' ∧ F H'' v g)) :=
 ZbV fun _ _ _ hE hI => ⟨X, [], H, fun _ e => by cases e; exact hE _ _ hl, .refl _, by rw [ho] at hI; exact hI, hF⟩
theorem dc {l os : List Oper} {Fs Fs' : List FT} {o : Oper} {c : List Nat} {cs : List (List Nat)} {F : FT}
  (h : ∀ (V : Nat → Value) (G : Nat → List Res) H' fr, Hle H H' → (∀ j ∈ ZbJ o, (Fs.getD j FT0) H' (V j) (G j)) → ∀ r : ρ, Sim C (some ()) (fun _ => some r) (ZcY l V (ZbJ o) ++ env) (own ++ c.flatMap G ++ fr) H' D
    (.ops (l.map (·.dst)) [o] (.pred fun tm' w' => ∃ v g H'', (∀ d, o.dst = some d → tm'[d]? = some v) ∧ Hle H' H'' ∧ Inv C.w0 C.M C.H0 (own ++ g ++ fr) H'' w' ∧ F H'' v g)))
  (h' : ZdG C env own H D l Fs os cs Fs') : ZdG C env own H D l Fs (o :: os) (c :: cs) (F :: Fs') :=
 ⟨fun V G H' fr hle hd => ⟨_, some (), rfl, h V G H' fr hle hd⟩, h'⟩
theorem dcU (j : Nat) {t d : Tmp} {op : Op} {ty : TypeId} {pos : String} {af : Array Edge} {e want : Bool} {l os : List Oper} {Fs Fs' : List FT} {cs : List (List Nat)}
  (he : e = !want) (h' : ZdG C env own H D l Fs os cs Fs')
  (hj : (l.map (·.dst))[j]? = some (some t) := by exact rfl) (hF : Fs.getD j FT0 = (fun _ v g => v = .bool e ∧ g = []) := by exact rfl) (hm : j ∈ ZbJ ⟨some d, op, ty, pos, af, some (j, want)⟩ := by decide)
  (hl : ∀ V : Nat → Value, lk (ZcY l V (ZbJ ⟨some d, op, ty, pos, af, some (j, want)⟩) ++ env) t = some (V j) := by exact fun _ => rfl) (hd : Nat.blt d C.n = true := by rfl) :
  ZdG C env own H D l Fs (⟨some d, op, ty, pos, af, some (j, want)⟩ :: os) ([] :: cs) (uF :: Fs') :=
 ⟨fun V G H' fr hle hd' => ⟨_, some (), rfl, fun _ => by
  have h1 := hd' j hm
  rw [hF] at h1
  exact Zab hj ((hl V).trans (congrArg some h1.1)) he (ZbV fun _ _ _ hE hI => ⟨undef, [], H', fun _ e => by cases e; exact hE _ _ (by simp [lk]), .refl _, hI, ⟨rfl, rfl⟩⟩) hd⟩, h'⟩
theorem dcUU (j : Nat) {t d : Tmp} {op : Op} {ty : TypeId} {pos : String} {af : Array Edge} {want : Bool} {l os : List Oper} {Fs Fs' : List FT} {cs : List (List Nat)}
  (h' : ZdG C env own H D l Fs os cs Fs')
  (hj : (l.map (·.dst))[j]? = some (some t) := by exact rfl) (hF : Fs.getD j FT0 = uF := by exact rfl) (hm : j ∈ ZbJ ⟨some d, op, ty, pos, af, some (j, want)⟩ := by decide)
  (hl : ∀ V : Nat → Value, lk (ZcY l V (ZbJ ⟨some d, op, ty, pos, af, some (j, want)⟩) ++ env) t = some (V j) := by exact fun _ => rfl) (hd : Nat.blt d C.n = true := by rfl) :
  ZdG C env own H D l Fs (⟨some d, op, ty, pos, af, some (j, want)⟩ :: os) ([] :: cs) (uF :: Fs') :=
 ⟨fun V G H' fr hle hd' => ⟨_, some (), rfl, fun _ => by
  have h1 := hd' j hm
  rw [hF] at h1
  exact ZaA hj ((hl V).trans (congrArg some h1.1)) (ZbV fun _ _ _ hE hI => ⟨undef, [], H', fun _ e => by cases e; exact hE _ _ (by simp [lk]), .refl _, hI, ⟨rfl, rfl⟩⟩) hd⟩, h'⟩
theorem s_kn {t : Tmp} {X : Value} {p : Pos} (hl : lk env t = some X) (h : Sim C m κ ((t, X) :: env) own H D p) : Sim C m κ env own H D p :=
 fun r hr w hw tm ht hE => h r hr w hw tm ht (fun x v hx => by
  simp only [lk] at hx
  cases hb : Nat.beq x t with
  | true => rw [hb] at hx; cases hx; rw [Nat.eq_of_beq_eq_true hb]; exact hE _ _ hl
  | false => rw [hb] at hx; exact hE _ _ hx)
theorem dc1 (j : Nat) {t : Tmp} {X : Value} {l os : List Oper} {Fs Fs' : List FT} {o : Oper} {c : List Nat} {cs : List (List Nat)} {F : FT}
  (h : ∀ (V : Nat → Value) (G : Nat → List Res) H' fr, Hle H H' → ∀ r : ρ, Sim C (some ()) (fun _ => some r) ((t, X) :: (ZcY l V (ZbJ o) ++ env)) (own ++ c.flatMap G ++ fr) H' D
    (.ops (l.map (·.dst)) [o] (.pred fun tm' w' => ∃ v g H'', (∀ d, o.dst = some d → tm'[d]? = some v) ∧ Hle H' H'' ∧ Inv C.w0 C.M C.H0 (own ++ g ++ fr) H'' w' ∧ F H'' v g)))
  (h' : ZdG C env own H D l Fs os cs Fs')
  (ht : (l.map (·.dst))[j]? = some (some t) := by exact rfl) (hF : Fs.getD j FT0 = fV X := by exact rfl) (hm : j ∈ ZbJ o := by decide)
  (hl : ∀ V : Nat → Value, lk (ZcY l V (ZbJ o) ++ env) t = some (V j) := by exact fun _ => rfl) : ZdG C env own H D l Fs (o :: os) (c :: cs) (F :: Fs') :=
 ⟨fun V G H' fr hle hd => ⟨_, some (), rfl, fun r => s_kn ((hl V).trans (congrArg some (by have h1 := hd j hm; rw [hF] at h1; exact h1.1))) (h V G H' fr hle r)⟩, h'⟩
theorem dc2 (i j : Nat) {s t : Tmp} {X Y : Value} {l os : List Oper} {Fs Fs' : List FT} {o : Oper} {c : List Nat} {cs : List (List Nat)} {F : FT}
  (h : ∀ (V : Nat → Value) (G : Nat → List Res) H' fr, Hle H H' → ∀ r : ρ, Sim C (some ()) (fun _ => some r) ((s, X) :: (t, Y) :: (ZcY l V (ZbJ o) ++ env)) (own ++ c.flatMap G ++ fr) H' D
    (.ops (l.map (·.dst)) [o] (.pred fun tm' w' => ∃ v g H'', (∀ d, o.dst = some d → tm'[d]? = some v) ∧ Hle H' H'' ∧ Inv C.w0 C.M C.H0 (own ++ g ++ fr) H'' w' ∧ F H'' v g)))
  (h' : ZdG C env own H D l Fs os cs Fs')
  (hs : (l.map (·.dst))[i]? = some (some s) := by exact rfl) (ht : (l.map (·.dst))[j]? = some (some t) := by exact rfl)
  (hF : Fs.getD i FT0 = fV X := by exact rfl) (hF2 : Fs.getD j FT0 = fV Y := by exact rfl) (hm : i ∈ ZbJ o := by decide) (hm2 : j ∈ ZbJ o := by decide) (hst : Nat.beq s t = false := by rfl)
  (hl : ∀ V : Nat → Value, lk (ZcY l V (ZbJ o) ++ env) s = some (V i) := by exact fun _ => rfl) (hl2 : ∀ V : Nat → Value, lk (ZcY l V (ZbJ o) ++ env) t = some (V j) := by exact fun _ => rfl) : ZdG C env own H D l Fs (o :: os) (c :: cs) (F :: Fs') :=
 ⟨fun V G H' fr hle hd => ⟨_, some (), rfl, fun r => s_kn ((hl2 V).trans (congrArg some (by have h1 := hd j hm2; rw [hF2] at h1; exact h1.1)))
  (s_kn (by simp only [lk, hst]; exact (hl V).trans (congrArg some (by have h1 := hd i hm; rw [hF] at h1; exact h1.1))) (h V G H' fr hle r))⟩, h'⟩
end short
theorem s_r1 {P : Program} {α : Type} {f : FuncId} {fn : Func} {n : Nat} {w0 : World} {M : Nat → Prop} {H0 : Heap} {Φ : α → Heap → Value → List Res → Prop} {r : α} {env : Env} {own : List Res} {H : Heap} {k : List Item} (t : Tmp) (v : Value)
  (hf : P.funcs[f]? = some fn) (hΦ : Φ r H v []) (hr : fn.results.toList = [.tmp t] := by exact rfl) (hv : lk env t = some v := by exact rfl) :
  Sim (ZhS P f n w0 M H0 Φ) (some r) some env own H [] (.code (.code .ret :: k)) :=
 ZaF (xs := [.tmp t]) (vs := [v]) [] hf hr ⟨Zaz hv, trivial⟩ (List.nil_sublist _) hΦ
end Go.Cat
namespace Go.Cat
open Go.ChangeShapes Go.WideShapes
class GoB (α : Type) where
 bd : α → Prop
def ibd (k : IntKind) (n : Int) : Prop := (Lit.int k n).wf = true
instance : GoB Int := ⟨ibd .i64⟩
instance : GoB Bool := ⟨fun _ => True⟩
instance : GoB ByteArray := ⟨fun s => s.size ≤ maxLen⟩
instance {α : Type} [GoB α] : GoB (List α) := ⟨fun l => l.length ≤ maxLen ∧ ∀ x ∈ l, GoB.bd x⟩
class TOpen (P : Program) (t : TypeId) (α : Type) [GoT α] [GoB α] : Prop where
 op : ∀ {H : Type} {enc : TypeId × Value → H} {w : World} {base : Nat} {spare : Nat → Bool} {held : Bool} {fuel : Nat} {cs : List Value} {x : DataW H × List MemPlace},
  DataW.trod enc P w base spare held fuel t cs = some x → ∃ a : α, GoT.rep (hp w) cs a ∧ GoB.bd a
section
variable {P : Program} {t : TypeId} {H : Type} {enc : TypeId × Value → H} {w : World} {base : Nat} {spare : Nat → Bool} {held : Bool} {fuel : Nat} {cs : List Value} {x : DataW H × List MemPlace}
theorem Zdp {k : IntKind} (ht : P.underlying t = some (.int k)) (h : DataW.trod enc P w base spare held fuel t cs = some x) : ∃ n : Int, cs = [.int k n] ∧ ibd k n := by
 cases fuel with
 | zero => simp [DataW.trod] at h
 | succ n =>
  unfold DataW.trod at h
  rw [ht] at h
  split at h <;> simp_all
  unfold ibd
  have := h.1.1; subst this
  exact h.1.2
theorem ZjC (ht : P.underlying t = some (.int .i64)) : TOpen P t Int := {
 op := fun h => by obtain ⟨n, rfl, hb⟩ := Zdp ht h; exact ⟨n, rfl, hb⟩ }
theorem ZdR {fs : Array Field} (N : Nat) (ht : P.underlying t = some (.struct fs)) (hN : P.cellsOf t = N) (h : DataW.trod enc P w base spare held fuel t cs = some x) :
  cs.length = N ∧ ∃ m, ∀ (i : Nat) (f : Field) (n : Nat), fs[i]? = some f → P.cellsOf f.type = n → ∃ y, DataW.trod enc P w base spare held m f.type ((cs.drop f.offset).take n) = some y := by
 obtain ⟨xs, m, _, _, hl, hlen, hf⟩ := DataW.trod_struct ht h
 refine ⟨hl.trans hN, m, fun i f n hi hn => ?_⟩
 have := hf i f hi
 have hlt : i < xs.length := by rw [hlen]; exact (Array.getElem?_eq_some_iff.1 hi).1
 rw [hn] at this
 exact ⟨xs[i], this.trans (List.getElem?_eq_getElem hlt)⟩
theorem ZkZ {len : Nat} {e : TypeId} (N n : Nat) (ht : P.underlying t = some (.array len e)) (hN : P.cellsOf t = N) (hn : P.cellsOf e = n) (h : DataW.trod enc P w base spare held fuel t cs = some x) :
  cs.length = N ∧ ∃ m, ∀ i, i < len → ∃ y, DataW.trod enc P w base spare held m e ((cs.drop (i * n)).take n) = some y := by
 obtain ⟨xs, m, _, _, hl, hlen, hf⟩ := DataW.trod_array ht h
 refine ⟨hl.trans hN, m, fun i hi => ?_⟩
 have := hf i hi
 rw [hn] at this
 exact ⟨xs[i]'(by rw [hlen]; exact hi), this.trans (List.getElem?_eq_getElem (by rw [hlen]; exact hi))⟩
theorem ZlB {a : Addr} {n : Nat} {l : List Value} (h0 : 0 < n) (h : w.cells? base a n = some l) : ∃ arr t fz, a.spot = none ∧ w.heap[a.block]? = some (.cells arr t fz) ∧ subc arr.toList a.off n = l := by
 obtain ⟨_, hlen, hc⟩ := World.cells?_some h
 have h1 := hc 0 h0
 have hadd : ∀ i, (a.add i).block = a.block ∧ (a.add i).off = a.off + i ∧ (a.spot = none → (a.add i).spot = none) := fun i => by
  unfold Addr.add; split
  ·subst_vars; simp
  ·simp
 have hz : a.add 0 = a := by simp [Addr.add]
 rw [hz] at h1
 have hne : ¬ l[0]? = none := by rw [List.getElem?_eq_getElem (by omega)]; simp
 unfold World.cell? at h1
 cases ho : w.heap[a.block]? with
 | none => rw [ho] at h1; exact absurd h1.symm hne
 | some o =>
  rw [ho] at h1
  cases o with
  | cells arr t fz =>
   simp only [] at h1
   cases hs : a.spot with
   | some s => rw [hs] at h1; exact absurd h1.symm hne
   | none =>
    refine ⟨arr, t, fz, rfl, rfl, ?_⟩
    apply List.ext_getElem?
    intro i
    by_cases hi : i < n
    ·have := hc i hi
     unfold World.cell? at this
     rw [(hadd i).1, ho] at this
     simp only [(hadd i).2.2 hs, (hadd i).2.1] at this
     simp only [subc, List.getElem?_take, hi, if_true, List.getElem?_drop, Array.getElem?_toList]
     simpa using this
    ·simp only [subc, List.getElem?_take, hi, if_false]
     rw [List.getElem?_eq_none (by omega)]
  | _ => exact absurd h1.symm hne
theorem Zio {α : Type} {n : Nat} {p : Nat → α → Prop} (h : ∀ i, i < n → ∃ x, p i x) : ∃ l : List α, l.length = n ∧ ∀ i (hi : i < l.length), p i l[i] := by
 induction n with
 | zero => exact ⟨[], rfl, fun i hi => by simp at hi⟩
 | succ n ih =>
  obtain ⟨l, hl, hp⟩ := ih fun i hi => h i (by omega)
  obtain ⟨x, hx⟩ := h n (by omega)
  refine ⟨l ++ [x], by simp [hl], fun i hi => ?_⟩
  by_cases e : i < l.length
  ·rw [List.getElem_append_left e]; exact hp i e
  ·simp at hi
   have : i = n := by omega
   subst this
   rw [List.getElem_append_right (by omega)]
   simpa using hx
theorem Ze7 {α : Type} [GoT α] [GoB α] {e : TypeId} [E : TOpen P e α] (ht : P.underlying t = some (.slice e)) (hc : P.cellsOf e = GoT.sz α) (h0 : 0 < GoT.sz α) (h : DataW.trod enc P w base spare held fuel t cs = some x) :
  ∃ (l : List α) (a : Option Addr) (cap : Nat), cs = [.slice a l.length cap] ∧ RSl (hp w) a cap l ∧ GoB.bd l := by
 rcases Go.Deep.open_slice ht h with ⟨rfl, _⟩ | ⟨a, len, cap, m, n, D, Pl, rfl, _, hl, hm, hmm, rfl, hx⟩
 ·exact ⟨[], none, 0, rfl, ZeK, by simp [GoB.bd]⟩
 ·have hlm : len ≤ m := by rw [hmm]; split <;> omega
  have hall : ∀ i, i < len → ∃ (b : α), (∃ arr t fz, (a.add (i * GoT.sz α)).spot = none ∧ w.heap[a.block]? = some (.cells arr t fz) ∧ GoT.rep (hp w) (subc arr.toList (a.off + i * GoT.sz α) (GoT.sz α)) b) ∧ GoB.bd b := by
   intro i hi
   obtain ⟨cs', h1, h2⟩ := hx i (by omega)
   rw [hc] at h1
   obtain ⟨arr, t, fz, hs, hb, hsub⟩ := ZlB h0 h1
   have hadd : ∀ i, (a.add i).block = a.block ∧ (a.add i).off = a.off + i := fun i => by
    unfold Addr.add; split
    ·subst_vars; simp
    ·simp
   rw [(hadd _).1] at hb
   rw [(hadd _).2] at hsub
   obtain ⟨b, hr, hbd⟩ := E.op h2
   exact ⟨b, ⟨arr, t, fz, hs, hb, by rw [hsub]; exact hr⟩, hbd⟩
  obtain ⟨l, hlen, hp⟩ := Zio hall
  subst hlen
  refine ⟨l, some a, cap, rfl, ⟨hl, ?_⟩, ⟨by omega, fun x hx => ?_⟩⟩
  ·cases l with
   | nil => exact .inl rfl
   | cons b l' =>
    obtain ⟨⟨arr, t, fz, hs, hb, _⟩, _⟩ := hp 0 (by simp)
    refine .inr ⟨a.block, a.off, arr, t, fz, by cases a; simp [Addr.add] at hs; subst hs; rfl, hb, fun i hi => ?_⟩
    obtain ⟨⟨arr', t', fz', hs', hb', hr⟩, _⟩ := hp i hi
    rw [hb] at hb'
    cases hb'
    exact hr
  ·obtain ⟨i, hi, rfl⟩ := List.mem_iff_getElem.1 hx
   exact (hp i hi).2
end
theorem ZfO {P : Program} {t e : TypeId} {α : Type} [GoT α] [GoB α] [E : TOpen P e α] (ht : P.underlying t = some (.slice e)) (hc : P.cellsOf e = GoT.sz α) (h0 : 0 < GoT.sz α) : TOpen P t (List α) := {
 op := fun h => by obtain ⟨l, a, cap, e, hr, hb⟩ := Ze7 ht hc h0 h; exact ⟨l, ⟨a, cap, e, hr⟩, hb⟩ }
theorem ZgB (w : World) : Inv w (· ∈ ids []) (hp w) [] (hp w) w := {
 os := rfl, tape := rfl, output := rfl, size := Nat.le_refl _, same := fun _ _ _ => rfl, sub := Hle.refl _, h0 := Hle.refl _, new := fun b h => .inl h,
 ok := fun r hr => by simp at hr, nd := by simp [ids], away := fun b hb => by simp [ids] at hb, drawn := Nat.le_refl _ }
theorem Zj5 {w w' : World} {H0 H : Heap} {own : List Res} (h : Inv w (· ∈ ids []) H0 own H w') : Go.RowKit.Below w.heap.size w w' :=
 ⟨h.os, h.tape, h.output, h.size, fun k hk => h.same k hk (by simp [ids])⟩
theorem Zj3 {P : Program} {f : FuncId} {args : List Value} {w : World} (h : Fn P f args (hp w) [] fun _ v _ => v = .bool true) : Calls P f args.toArray w fun e w' => e = .returned (.bool true) ∧ Go.RowKit.Below w.heap.size w w' :=
 (h w (ZgB w)).mono fun _ _ ⟨v, e, _, _, hI, hv⟩ => ⟨by rw [e, hv], Zj5 hI⟩
end Go.Cat
