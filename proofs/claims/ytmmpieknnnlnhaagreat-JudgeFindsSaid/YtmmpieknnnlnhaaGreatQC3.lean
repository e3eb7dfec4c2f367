/- A text of the proof of the seat's laws: a step logic over the machine, or pure functions that the Go functions come to. No condition. -/
import Derived.Test.YtmmpieknnnlnhaaGreatQC2
namespace Go.Cat.G3
open Go Go.Cat Go.Proofs
set_option linter.unusedVariables false
set_option linter.unusedSimpArgs false
def addC (u : List Int) (c : Int) : List Int := u.set c.toNat (w64 (u.getD c.toNat 0 + 1))
def maxC (hs : List Int) (m c : Int) : Int := imax m (hs.getD c.toNat 0)
def ZdV (hs : List Int) (nd : Node) : Int := (chl nd).foldl (maxC hs) 0 + 1
def hts (ns : List Node) : List Int := ns.foldl (fun hs nd => hs ++ [ZdV hs nd]) []
def cntU (n : Nat) (ns : List Node) : List Int := ns.foldl (fun u nd => (chl nd).foldl addC u) (List.replicate n 0)
def Zf1 (ns : List Node) : Int := (hts ns).foldl imax 0
theorem Zgk (ns : List Node) (nd : Node) : hts (ns ++ [nd]) = hts ns ++ [ZdV (hts ns) nd] := by simp [hts]
theorem Zhp (n : Nat) (ns : List Node) (nd : Node) : cntU n (ns ++ [nd]) = (chl nd).foldl addC (cntU n ns) := by simp [cntU]
theorem ZhW (ns : List Node) (nd : Node) : Zf1 (ns ++ [nd]) = imax (Zf1 ns) (ZdV (hts ns) nd) := by simp [Zf1, Zgk]
theorem Zka (ns : List Node) : (hts ns).length = ns.length := by
 induction ns using Zhc with
 | h0 => rfl
 | h1 ns nd ih => rw [Zgk]; simp [ih]
theorem ZlH (l : List Int) : ∀ u : List Int, (l.foldl addC u).length = u.length := by
 induction l with
 | nil => intro u; rfl
 | cons c l ih => intro u; rw [List.foldl_cons, ih]; simp [addC]
theorem ZgF (n : Nat) (ns : List Node) : (cntU n ns).length = n := by
 induction ns using Zhc with
 | h0 => simp [cntU]
 | h1 ns nd ih => rw [Zhp, ZlH, ih]
def HB (hs : List Int) : Prop := ∀ h ∈ hs, 1 ≤ h ∧ h ≤ (hs.length : Int)
theorem Znp (hs : List Int) (h : HB hs) : ∀ (l : List Int) (m : Int), l.all (inB hs.length) = true → 0 ≤ m → m ≤ (hs.length : Int) → 0 ≤ l.foldl (maxC hs) m ∧ l.foldl (maxC hs) m ≤ (hs.length : Int) := by
 intro l
 induction l with
 | nil => intro m _ h0 h1; exact ⟨h0, h1⟩
 | cons c l ih =>
  intro m hl h0 h1
  simp only [List.all_cons, Bool.and_eq_true] at hl
  have hc := hl.1
  unfold inB at hc; simp at hc
  have hg : hs.getD c.toNat 0 ∈ hs := by
   rw [List.getD_eq_getElem?_getD, List.getElem?_eq_getElem (by omega)]; exact List.getElem_mem _
  have := h _ hg
  rw [List.foldl_cons]
  refine ih _ hl.2 ?_ ?_ <;> unfold maxC imax <;> split <;> omega
theorem ZmG {hs : List Int} (h : HB hs) {nd : Node} (hp : Zbd nd hs.length = true) : 1 ≤ ZdV hs nd ∧ ZdV hs nd ≤ (hs.length : Int) + 1 := by
 have := Znp hs h (chl nd) 0 hp (by omega) (by omega)
 unfold ZdV; omega
theorem HB.snoc {hs : List Int} (h : HB hs) {nd : Node} (hp : Zbd nd hs.length = true) : HB (hs ++ [ZdV hs nd]) := by
 intro x hx
 have := ZmG h hp
 rcases List.mem_append.1 hx with hx | hx
 ·have := h x hx; simp; omega
 ·simp at hx; subst hx; simp; omega
def allI (p : Nat → Node → Bool) : Nat → List Node → Bool
 | _, [] => true
 | i, nd :: l => p i nd && allI p (i + 1) l
theorem Ze2 {p : Nat → Node → Bool} {ns : List Node} {i : Nat} (h : i < ns.length) : allI p i (ns.drop i) = (p i ns[i] && allI p (i + 1) (ns.drop (i + 1))) := by
 rw [List.drop_eq_getElem_cons h]; rfl
theorem ZiV (p q : Nat → Node → Bool) : ∀ (l : List Node) (i : Nat), allI (fun i nd => p i nd && q i nd) i l = (allI p i l && allI q i l) := by
 intro l
 induction l with
 | nil => intro i; rfl
 | cons nd l ih =>
  intro i
  simp only [allI, ih]
  cases p i nd <;> cases q i nd <;> cases allI p (i + 1) l <;> cases allI q (i + 1) l <;> rfl
def okN (ns : List Node) (i : Nat) (nd : Node) : Bool := Zbd nd i && mayB nd && (!(nd.Kind == 10) || Zgr ns nd.A)
theorem ZnR (k : Nat) (hs : List Int) (m : Nat) (s : List Int × List Int × Int × Int) (i : Nat) (hs0 : s.2.2.2 = (i : Int)) (hi : hs.length = i) (hib : i < 4611686018427387904) (l : List Int) (hl : l.length ≤ 2) (hin : l.all (inB i) = true) :
  ∀ (q j : Nat) (b : Int) (u : List Int), i ≤ u.length → j ≤ l.length → l.length - j < q →
  Zcm k s l q ((hs ++ [b]) ++ List.replicate m 0, u, (j : Int)) = some ((hs ++ [(l.drop j).foldl (maxC hs) b]) ++ List.replicate m 0, (l.drop j).foldl addC u) := by
 intro q
 induction q with
 | zero => intro j _ _ _ _ h; omega
 | succ q ih =>
  intro j b u hu hj hq
  rw [Zcm]
  by_cases hlt : j < l.length
  ·have hc : inB i l[j] = true := by rw [List.all_eq_true] at hin; exact hin _ (List.getElem_mem _)
   unfold inB at hc; simp at hc
   have hlen : ((hs ++ [b]) ++ List.replicate m (0 : Int)).length = i + 1 + m := by simp [hi]; omega
   have hset : ∀ x : Int, ((hs ++ [b]) ++ List.replicate m 0).set (s.2.2.2).toNat x = (hs ++ [x]) ++ List.replicate m 0 := by
    intro x; rw [hs0]; subst hi; simp
   have hcur : rd ((hs ++ [b]) ++ List.replicate m 0) s.2.2.2 = some b := by
    rw [hs0, ZbX (by rw [hlen]; omega)]; subst hi; simp
   have hch : rd ((hs ++ [b]) ++ List.replicate m 0) l[j] = some (hs.getD l[j].toNat 0) := by
    rw [rdD hc.1 (by rw [hlen]; omega) 0, List.append_assoc, List.getD_eq_getElem?_getD, List.getElem?_append_left (by omega), ← List.getD_eq_getElem?_getD]
   have hu1 : rd u l[j] = some (u.getD l[j].toNat 0) := rdD hc.1 (by omega) 0
   rw [if_pos (by simp; omega), ZbX hlt, List.drop_eq_getElem_cons hlt]
   simp only [Option.bind_some, hcur, hch, hset, hu1, List.foldl_cons]
   rw [Zb6 (by omega)]
   exact ih (j + 1) _ (addC u l[j]) (by simp [addC]; omega) (by omega) (by omega)
  ·rw [if_neg (by simp; omega), ZbU hlt]; rfl
theorem ZnS (k : Nat) (ns : List Node) (hb : ns.length < 1000000) (hk : ns.length + 5 < k) : ∀ (q i : Nat), i ≤ ns.length → ns.length - i < q → HB (hts (ns.take i)) →
  Zcn k ns q (hts (ns.take i) ++ List.replicate (ns.length - i) 0, cntU ns.length (ns.take i), Zf1 (ns.take i), (i : Int)) =
   some (if allI (okN ns) i (ns.drop i) = true then .out (cntU ns.length ns, Zf1 ns) else .ret 2) := by
 intro q
 induction q with
 | zero => intro i _ h; omega
 | succ q ih =>
  intro i hi hq hH
  rw [Zcn]
  by_cases hlt : i < ns.length
  ·have hlen : (hts (ns.take i)).length = i := by rw [Zka, List.length_take]; omega
   have ht : ns.take i ++ [ns[i]] = ns.take (i + 1) := by rw [List.take_succ_eq_append_getElem hlt]
   have hs1 := Zgk (ns.take i) ns[i]
   have hs2 := Zhp ns.length (ns.take i) ns[i]
   have hs3 := ZhW (ns.take i) ns[i]
   rw [ht] at hs1 hs2 hs3
   have hcl := ZgF ns.length (ns.take i)
   obtain ⟨m, hm⟩ : ∃ m, ns.length - i = m + 1 := ⟨ns.length - i - 1, by omega⟩
   have ih' := ih (i + 1) (by omega) (by omega)
   have hsn : Zbd ns[i] i = true → HB (hts (ns.take (i + 1))) := fun hp => by rw [hs1]; exact hH.snoc (by rw [hlen]; exact hp)
   have hbd : Zbd ns[i] i = true → 1 ≤ ZdV (hts (ns.take i)) ns[i] ∧ ZdV (hts (ns.take i)) ns[i] ≤ (i : Int) + 1 := fun hp => by
    have := ZmG hH (nd := ns[i]) (by rw [hlen]; exact hp); rw [hlen] at this; exact this
   rw [Ze2 hlt, if_pos (by simp; omega), ZbX hlt, hm]
   rw [hs1, hs2, hs3, show ns.length - (i + 1) = m by omega] at ih'
   rw [hs1] at hsn
   generalize allI (okN ns) (i + 1) (ns.drop (i + 1)) = rest at ih' ⊢
   generalize ns[i] = nd at ih' hsn hbd ⊢
   generalize hts (ns.take i) = hs at ih' hlen hsn hbd ⊢
   generalize Zf1 (ns.take i) = dp at ih' ⊢
   generalize cntU ns.length (ns.take i) = u at ih' hcl ⊢
   simp only [Option.bind_some, ZgX k (by omega) nd i (by omega), Zmn, ZkW k (by omega) ns hb (by omega), ZeM]
   unfold okN
   have key : ((if (!Zbd nd i) = true then some true else if (!mayB nd) = true then some true else if (nd.Kind == 10) = true then some (!Zgr ns nd.A) else some false) : Option Bool)
     = some (!(Zbd nd i && mayB nd && (!(nd.Kind == 10) || Zgr ns nd.A))) := by
    cases Zbd nd i <;> cases mayB nd <;> cases (nd.Kind == 10) <;> simp
   rw [key]
   cases ho : (Zbd nd i && mayB nd && (!(nd.Kind == 10) || Zgr ns nd.A)) with
   | false => simp
   | true =>
    have hp : Zbd nd i = true := by simp only [Bool.and_eq_true] at ho; exact ho.1.1
    have hl := ZnR k hs m (hs ++ List.replicate (m + 1) 0, u, dp, (i : Int)) i rfl hlen (by omega) (chl nd) (ZeW nd) hp k 0 0 u (by omega) (by omega) (by have := ZeW nd; omega)
    rw [List.drop_zero] at hl
    have hl' : Zcm k (hs ++ List.replicate (m + 1) 0, u, dp, (i : Int)) (chl nd) k (hs ++ List.replicate (m + 1) 0, u, 0) = some ((hs ++ [(chl nd).foldl (maxC hs) 0]) ++ List.replicate m 0, (chl nd).foldl addC u) := by
     rw [show hs ++ List.replicate (m + 1) (0 : Int) = (hs ++ [0]) ++ List.replicate m 0 by simp [List.replicate_succ]]
     rw [show hs ++ List.replicate (m + 1) (0 : Int) = (hs ++ [0]) ++ List.replicate m 0 by simp [List.replicate_succ]] at hl
     exact hl
    have hb1 := hbd hp
    have hr1 : ∀ x : Int, rd ((hs ++ [x]) ++ List.replicate m 0) (i : Int) = some x := by
     intro x; rw [ZbX (by simp; omega)]; subst hlen; simp
    have hset : ∀ x y : Int, ((hs ++ [y]) ++ List.replicate m 0).set ((i : Int)).toNat x = (hs ++ [x]) ++ List.replicate m 0 := by
     intro x y; subst hlen; simp
    have hw : w64 ((chl nd).foldl (maxC hs) 0 + 1) = ZdV hs nd := by
     unfold ZdV at hb1 ⊢; rw [ZdJ (by omega) (by omega)]
    simp only [Bool.not_true, Bool.false_eq_true, if_false, Option.bind_some, hl', hr1, hset, hw]
    rw [Zb6 (by omega), ih' (hsn hp)]
    simp
  ·rw [if_neg (by simp; omega), List.take_of_length_le (by omega), ZbU hlt]; rfl
theorem Zi5 (k : Nat) (ns : List Node) (hb : ns.length < 1000000) : ∀ (q i : Nat), i ≤ ns.length → ns.length - i < q →
  Za7 k ns q (cntU ns.length (ns.take i), (i : Int)) = some (if allI (fun i nd => Zbd nd i && mayB nd) i (ns.drop i) = true then .out (cntU ns.length ns) else .ret 2) := by
 intro q
 induction q with
 | zero => intro i _ h; omega
 | succ q ih =>
  intro i hi hq
  rw [Za7]
  by_cases hlt : i < ns.length
  ·have ht : ns.take i ++ [ns[i]] = ns.take (i + 1) := by rw [List.take_succ_eq_append_getElem hlt]
   have hs2 := Zhp ns.length (ns.take i) ns[i]
   rw [ht] at hs2
   have hcl := ZgF ns.length (ns.take i)
   have ih' := ih (i + 1) (by omega) (by omega)
   rw [Ze2 hlt, if_pos (by simp; omega), ZbX hlt]
   rw [hs2] at ih'
   generalize allI (fun i nd => Zbd nd i && mayB nd) (i + 1) (ns.drop (i + 1)) = rest at ih' ⊢
   generalize ns[i] = nd at ih' ⊢
   generalize cntU ns.length (ns.take i) = u at ih' hcl ⊢
   simp only [Option.bind_some, Zi4 k nd i (by omega), ZfD]
   cases ho : (Zbd nd i && mayB nd) with
   | false => simp
   | true =>
    have hp : Zbd nd i = true := by simp only [Bool.and_eq_true] at ho; exact ho.1
    unfold Zbd at hp
    simp only [Bool.not_true, Bool.false_eq_true, if_false, Zb6 (show i < 4611686018427387904 by omega)]
    by_cases h8 : nd.Kind = 8 ∨ nd.Kind = 9
    ·have hk2 : Zdl nd.Kind = 2 := by unfold Zdl; rw [if_pos h8]
     have hc : chl nd = [nd.A, nd.B] := by unfold chl; rw [if_pos h8]
     rw [hc] at hp ih'
     simp only [List.all_cons, List.all_nil, Bool.and_true, Bool.and_eq_true] at hp
     have hA := hp.1; have hB := hp.2
     unfold inB at hA hB; simp at hA hB
     rw [hk2]
     have e1 : rd u nd.A = some (u.getD nd.A.toNat 0) := rdD hA.1 (by omega) 0
     have e2 : rd (addC u nd.A) nd.B = some ((addC u nd.A).getD nd.B.toNat 0) := rdD hB.1 (by simp [addC]; omega) 0
     simp only [show decide ((2 : Int) > 0) = true from rfl, show decide ((2 : Int) > 1) = true from rfl, if_true, e1, Option.bind_some]
     have e2' : rd (u.set nd.A.toNat (w64 (u.getD nd.A.toNat 0 + 1))) nd.B = some ((addC u nd.A).getD nd.B.toNat 0) := e2
     simp only [e2', Option.bind_some]
     simpa [addC] using ih'
    ·by_cases h10 : nd.Kind = 10
     ·have hk2 : Zdl nd.Kind = 1 := by unfold Zdl; rw [if_neg h8, if_pos h10]
      have hc : chl nd = [nd.A] := by unfold chl; rw [if_neg h8, if_pos h10]
      rw [hc] at hp ih'
      simp only [List.all_cons, List.all_nil, Bool.and_true] at hp
      unfold inB at hp; simp at hp
      rw [hk2]
      have e1 : rd u nd.A = some (u.getD nd.A.toNat 0) := rdD hp.1 (by omega) 0
      simp only [show decide ((1 : Int) > 0) = true from rfl, show decide ((1 : Int) > 1) = false from rfl, if_true, e1, Option.bind_some, Bool.false_eq_true, if_false]
      simpa [addC] using ih'
     ·have hk2 : Zdl nd.Kind = 0 := by unfold Zdl; rw [if_neg h8, if_neg h10]
      have hc : chl nd = [] := by unfold chl; rw [if_neg h8, if_neg h10]
      rw [hc] at ih'
      rw [hk2]
      simp only [show decide ((0 : Int) > 0) = false from rfl, show decide ((0 : Int) > 1) = false from rfl, Option.bind_some, Bool.false_eq_true, if_false]
      simpa using ih'
  ·rw [if_neg (by simp; omega), List.take_of_length_le (by omega), ZbU hlt]; rfl
def okC (ns : List Node) (i : Nat) (nd : Node) : Bool := (!decide (i + 1 < ns.length) || decide ((cntU ns.length ns).getD i 0 = 1)) && (!(nd.Kind == 10) || (tst ns).getD nd.A.toNat false)
theorem Zi6 (k : Nat) (ns : List Node) (hb : ns.length < 1000000) : ∀ (q i : Nat), i ≤ ns.length → ns.length - i < q → allI (fun i nd => Zbd nd i && mayB nd) i (ns.drop i) = true →
  Zbp k ns q (cntU ns.length ns, tst ns, (i : Int)) = some (if allI (okC ns) i (ns.drop i) = true then .out () else .ret 2) := by
 intro q
 induction q with
 | zero => intro i _ h; omega
 | succ q ih =>
  intro i hi hq hall
  rw [Zbp]
  by_cases hlt : i < ns.length
  ·rw [Ze2 hlt, Bool.and_eq_true] at hall
   have ih' := ih (i + 1) (by omega) (by omega) hall.2
   have hcl := ZgF ns.length ns
   have htl := Zfo ns
   rw [Ze2 hlt, if_pos (by simp; omega), ZbX hlt]
   have hp := hall.1
   simp only [Bool.and_eq_true] at hp
   have hp := hp.1
   have hcond : decide ((w64 ((i : Int) + 1)) < (ns.length : Int)) = decide (i + 1 < ns.length) := by
    rw [Zb6 (by omega)]; exact decide_eq_decide.2 (by omega)
   rw [hcond, Zb6 (by omega)]
   have hrc : rd (cntU ns.length ns) (i : Int) = some ((cntU ns.length ns).getD i 0) := by
    have := rdD (l := cntU ns.length ns) (c := (i : Int)) (by omega) (by omega) 0
    simpa using this
   have hra : ns[i].Kind = 10 → rd (tst ns) ns[i].A = some ((tst ns).getD ns[i].A.toNat false) := by
    intro h10
    have hc : chl ns[i] = [ns[i].A] := by unfold chl; rw [if_neg (by omega), if_pos h10]
    unfold Zbd at hp; rw [hc] at hp
    simp only [List.all_cons, List.all_nil, Bool.and_true] at hp
    unfold inB at hp; simp at hp
    exact rdD hp.1 (by omega) false
   generalize allI (okC ns) (i + 1) (ns.drop (i + 1)) = rest at ih' ⊢
   generalize ((i + 1 : Nat) : Int) = z at ih' ⊢
   simp only [Option.bind_some, hrc]
   unfold okC
   generalize (cntU ns.length ns).getD i 0 = c
   by_cases h10 : ns[i].Kind = 10
   ·simp only [hra h10, h10, Option.bind_some]
    cases decide (i + 1 < ns.length) <;> cases (tst ns).getD ns[i].A.toNat false <;> by_cases hc1 : c = 1 <;> simp [hc1, ih']
   ·have hne : (ns[i].Kind == 10) = false := by simpa using h10
    simp only [hne]
    cases decide (i + 1 < ns.length) <;> by_cases hc1 : c = 1 <;> simp [hc1, ih']
  ·rw [if_neg (by simp; omega), ZbU hlt]; rfl
theorem ZhC (k : Nat) (ns : List Node) (hb : ns.length < 1000000) : ∀ (q i : Nat), i ≤ ns.length → ns.length - i < q → HB (hts (ns.take i)) → allI (fun i nd => Zbd nd i) i (ns.drop i) = true →
  Za6 k ns q (hts (ns.take i), Zf1 (ns.take i), (i : Int)) = some (Zf1 ns) := by
 intro q
 induction q with
 | zero => intro i _ h; omega
 | succ q ih =>
  intro i hi hq hH hall
  rw [Za6]
  by_cases hlt : i < ns.length
  ·rw [Ze2 hlt, Bool.and_eq_true] at hall
   have hlen : (hts (ns.take i)).length = i := by rw [Zka, List.length_take]; omega
   have ht : ns.take i ++ [ns[i]] = ns.take (i + 1) := by rw [List.take_succ_eq_append_getElem hlt]
   have hs1 := Zgk (ns.take i) ns[i]
   have hs3 := ZhW (ns.take i) ns[i]
   rw [ht] at hs1 hs3
   have hp := hall.1
   have ih' := ih (i + 1) (by omega) (by omega) (by rw [hs1]; exact hH.snoc (by rw [hlen]; exact hp)) hall.2
   rw [hs1, hs3] at ih'
   have hb1 := ZmG hH (nd := ns[i]) (by rw [hlen]; exact hp)
   rw [hlen] at hb1
   rw [if_pos (by simp; omega), ZbX hlt]
   generalize ns[i] = nd at ih' hb1 hp ⊢
   generalize hts (ns.take i) = hs at ih' hlen hb1 hH ⊢
   generalize Zf1 (ns.take i) = dp at ih' ⊢
   simp only [Option.bind_some, ZfD]
   unfold Zbd at hp
   have fin : ∀ x : Int, x = ZdV hs nd → ((app hs [x]).bind fun _ => Za6 k ns q (hs ++ [x], imax dp x, w64 ((i : Int) + 1))) = some (Zf1 ns) := by
    intro x hx
    subst hx
    rw [app, if_pos (by simp [LIM]; omega), Zb6 (by omega)]
    exact ih'
   by_cases h8 : nd.Kind = 8 ∨ nd.Kind = 9
   ·have hk2 : Zdl nd.Kind = 2 := by unfold Zdl; rw [if_pos h8]
    have hc : chl nd = [nd.A, nd.B] := by unfold chl; rw [if_pos h8]
    rw [hc] at hp
    simp only [List.all_cons, List.all_nil, Bool.and_true, Bool.and_eq_true] at hp
    have hA := hp.1; have hB := hp.2
    unfold inB at hA hB; simp at hA hB
    have e1 : rd hs nd.A = some (hs.getD nd.A.toNat 0) := rdD hA.1 (by omega) 0
    have e2 : rd hs nd.B = some (hs.getD nd.B.toNat 0) := rdD hB.1 (by omega) 0
    have g1 : hs.getD nd.A.toNat 0 ∈ hs := by rw [List.getD_eq_getElem?_getD, List.getElem?_eq_getElem (by omega)]; exact List.getElem_mem _
    have g2 : hs.getD nd.B.toNat 0 ∈ hs := by rw [List.getD_eq_getElem?_getD, List.getElem?_eq_getElem (by omega)]; exact List.getElem_mem _
    have b1 := hH _ g1; have b2 := hH _ g2
    rw [hlen] at b1 b2
    rw [hk2]
    simp only [show decide ((2 : Int) > 0) = true from rfl, show decide ((2 : Int) > 1) = true from rfl, if_true, e1, e2, Option.bind_some]
    refine fin _ ?_
    unfold ZdV
    rw [hc]
    simp only [List.foldl_cons, List.foldl_nil, maxC]
    rw [ZdJ (by omega) (by omega), ZdJ (by omega) (by omega)]
    unfold imax; split <;> split <;> split <;> (try split) <;> omega
   ·by_cases h10 : nd.Kind = 10
    ·have hk2 : Zdl nd.Kind = 1 := by unfold Zdl; rw [if_neg h8, if_pos h10]
     have hc : chl nd = [nd.A] := by unfold chl; rw [if_neg h8, if_pos h10]
     rw [hc] at hp
     simp only [List.all_cons, List.all_nil, Bool.and_true] at hp
     unfold inB at hp; simp at hp
     have e1 : rd hs nd.A = some (hs.getD nd.A.toNat 0) := rdD hp.1 (by omega) 0
     have g1 : hs.getD nd.A.toNat 0 ∈ hs := by rw [List.getD_eq_getElem?_getD, List.getElem?_eq_getElem (by omega)]; exact List.getElem_mem _
     have b1 := hH _ g1
     rw [hlen] at b1
     rw [hk2]
     simp only [show decide ((1 : Int) > 0) = true from rfl, show decide ((1 : Int) > 1) = false from rfl, if_true, e1, Option.bind_some, Bool.false_eq_true, if_false]
     refine fin _ ?_
     unfold ZdV
     rw [hc]
     simp only [List.foldl_cons, List.foldl_nil, maxC]
     rw [ZdJ (by omega) (by omega)]
     unfold imax; split <;> split <;> omega
    ·have hk2 : Zdl nd.Kind = 0 := by unfold Zdl; rw [if_neg h8, if_neg h10]
     have hc : chl nd = [] := by unfold chl; rw [if_neg h8, if_neg h10]
     rw [hk2]
     simp only [show decide ((0 : Int) > 0) = false from rfl, show decide ((0 : Int) > 1) = false from rfl, Option.bind_some, Bool.false_eq_true, if_false]
     refine fin _ ?_
     unfold ZdV
     rw [hc]; rfl
  ·rw [if_neg (by simp; omega), List.take_of_length_le (by omega)]
end Go.Cat.G3

