/- A text of the proof of the seat's laws: a step logic over the machine, or pure functions that the Go functions come to. No condition. -/
import Derived.Test.YtmmpieknnnlnhaaGreatCore1
import Derived.Test.YtmmpieknnnlnhaaGreatZ3
namespace Go.Cat.G3
open Go Go.Cat Go.Proofs
set_option maxRecDepth 100000
set_option maxHeartbeats 4000000
set_option linter.unusedVariables false
set_option linter.unusedSimpArgs false
instance iJ13x1 : TLay Tryz.prog 44 8 true := ⟨fun _ => by kernel_rfl, fun _ => by kernel_rfl, fun h => by first | rfl | cases h⟩
instance iJ13x2 : TBld Tryz.prog 144 [.int .i64 0, .int .i64 0, .int .i64 0, .int .i64 0, .int .u8 0, .int .u8 0, .int .u8 0, .slice none 0 0, .int .i64 0] [(0, 8), (8, 1)] := ⟨fun _ => by kernel_rfl, ⟨_, Tryz.underlying144, fun _ => by kernel_rfl⟩⟩
instance iJ13x3 : TFun Tryz.prog 21 := ⟨_, (by kernel_rfl : Tryz.prog.funcs[21]? = some Tryz.f21), by decide, rfl⟩
instance iJ13x4 : TFun Tryz.prog 68 := ⟨_, (by kernel_rfl : Tryz.prog.funcs[68]? = some Tryz.f68), by decide, rfl⟩
instance iJ13x5 : TFun Tryz.prog 69 := ⟨_, (by kernel_rfl : Tryz.prog.funcs[69]? = some Tryz.f69), by decide, rfl⟩
instance iJ13x6 : TFun Tryz.prog 70 := ⟨_, (by kernel_rfl : Tryz.prog.funcs[70]? = some Tryz.f70), by decide, rfl⟩
instance iJ13x7 : TFun Tryz.prog 72 := ⟨_, (by kernel_rfl : Tryz.prog.funcs[72]? = some Tryz.f72), by decide, rfl⟩
theorem ZhI {α β : Type} [GoE α] [GoE β] {ka va : Bool} {H H' : Heap} {es : Array MapEntry} {c : Nat} {l : List (α × β)} (h : MapR ka va H es c l) : MapR ka va H' es c l := ⟨h.len, h.ent, h.born, h.inc⟩
def Zcy (k : Nat) (x0 : Judge_look) (x1 : Event) : Option (Int × List (Int × List Judge_seen)) :=
 (Zcx k x0 x1).bind fun y3 =>
 if (!y3) = true then
  some (1, x0.ids.getD [])
 else
  (Zdd k x0 x1.Ver).bind fun y6 =>
  (ZcK k x0 x1).bind fun y18 =>
  (if (!y6.2) = true then
    some (!y6.2)
   else
    if (decide ((x1.Sent.length : Int) > 0)) = true then
     (Zb5 k y6.1 x1.Switch x1.Port x1.H x1.Sent).bind fun y193 =>
     some (!y193)
    else
     some false).bind fun p20 =>
  if (p20) = true then
   some (2, x0.ids.getD [])
  else
   (Zaw k (mgetD (x0.ids.getD []) x1.Id ([] : (List Judge_seen))) x1).bind fun y32 =>
   if (y32) = true then
    some (3, x0.ids.getD [])
   else
    if (y18 == 0) = true then
     some (4, x0.ids.getD [])
    else
     if (decide (y18 > 12)) = true then
      some (5, x0.ids.getD [])
     else
      (app (mgetD (x0.ids.getD []) x1.Id ([] : List Judge_seen)) ([(⟨x1, y18⟩ : Judge_seen)] : List Judge_seen)).bind fun y =>
      some (0, mput (x0.ids.getD []) x1.Id y)
theorem ZhN : Tryz.prog.funcs[28]? = some Tryz.f28 := by kernel_rfl
theorem ZeS (k : Nat) (Hb : Heap) (x0 : Judge_look) (bq0 oq0 : Nat) (a0_0 : Option Addr) (c0_0 : Nat) (kx0_0 : RSl Hb a0_0 c0_0 x0.g.Links) (a0_1 : Option Addr) (c0_1 : Nat) (kx0_1 : RSl Hb a0_1 c0_1 x0.versions) (mb : Nat) (es : Array MapEntry) (c : Nat) (lr : List (Int × RawSl)) (rs : List Res) (l : List (Int × List Judge_seen)) (hids : x0.ids = some l) (hR : MapR false false Hb es c lr) (hO : ORel Hb 144 lr rs l) (kcq0 : Zaj Hb bq0 oq0 [.int .i64 x0.g.Switches, .slice a0_0 x0.g.Links.length c0_0, .slice a0_1 x0.versions.length c0_1, .map (some mb)]) (x1 : Event) (a1_0 : Option Addr) (c1_0 : Nat) (kx1_0 : RSl Hb a1_0 c1_0 x1.Sent) {r : Int × List (Int × List Judge_seen)} (hr : Zcy k x0 x1 = some r) :
  Fn Tryz.prog 28 [.pointer (some ⟨bq0, oq0, none⟩), (aE x1 a1_0 c1_0)] Hb (.blk mb (.map es c) :: rs) fun H' v out => v = .int .i64 r.1 ∧ ∃ (es' : Array MapEntry) (c' : Nat) (lr' : List (Int × RawSl)) (rs' : List Res), out = .blk mb (.map es' c') :: rs' ∧ MapR false false H' es' c' lr' ∧ ORel H' 144 lr' rs' r.2 := by
 refine Zaq (args := [.pointer (some ⟨bq0, oq0, none⟩), (aE x1 a1_0 c1_0)]) (n := 78) (Φ := fun r H' v out => v = .int .i64 r.1 ∧ ∃ (es' : Array MapEntry) (c' : Nat) (lr' : List (Int × RawSl)) (rs' : List Res), out = .blk mb (.map es' c') :: rs' ∧ MapR false false H' es' c' lr' ∧ ORel H' 144 lr' rs' r.2) hr ZhN rfl rfl rfl fun w => ?_
 refine s_eq (by rw [Zcy]) ?_
 refine ZjL [] (.blk mb (.map es c) :: rs) (.refl _) fun H L => ?_
 have hx0_0 := RSl.mono L.le kx0_0
 have hx0_1 := RSl.mono L.le kx0_1
 have hx0_2 : MapV false false H (.map (some mb)) x0.ids := by rw [hids]; exact Zk9 L.le hR hO L.ok
 have hcq0 := Zaj.mono L.le kcq0
 have hx1_0 := RSl.mono L.le kx1_0
 refine Zae <| Zaa ?_
 refine ZbO rfl fun b1 => ?_
 refine Zah rfl <| Zac <| Zae <| Zae <| Zaa <| Zad rfl <| o_ld 0 rfl rfl rfl ?_
 refine s_bg fun y3 h4 => ?_
 refine Zas rfl rfl (ZeR k _ x0 _ _ _ _ hx0_0 _ _ hx0_1 _ hx0_2 hcq0 x1 _ _ hx1_0 h4) ?_
 refine Zdc rfl <| Zac ?_
 refine Zao rfl (fun h5 => ?_) (fun h5 => ?_)
 ·refine Zae <| Zaa <| Zah rfl <| Zac ?_
  refine Zd2 L (by first | exact .refl _ | exact hle12 | exact hle12.trans hle22 | exact (hle12.trans hle22).trans hle176) fun H2 hleU => ?_
  exact ZaF (xs := [.tmp 4]) (vs := [.int .i64 1]) (.blk mb (.map es c) :: rs) ZhN rfl ⟨Zaz rfl, trivial⟩ (List.sublist_append_right _ _) ⟨by first | rfl | simp, es, c, lr, rs, rfl, hR.mono hleU, by simp only [hids, Option.getD_some]; exact hO.mono hleU⟩
 ·refine Zar <| Zae <| Zaa <| Zad rfl <| o_fa rfl <| o_ld 0 rfl rfl rfl ?_
  refine s_bg fun y6 h7 => ?_
  refine Zbg [] _ rfl rfl (.refl _) (ZfX k _ x0 _ _ _ _ hx0_0 _ _ hx0_1 _ hx0_2 hcq0 x1.Ver h7) ?_
  rintro _ H11 _ hle12 ⟨a8, c9, rfl, rfl, hs10⟩
  have hc13 := Zaj.mono hle12 hcq0
  have hs14 := RSl.mono hle12 hx0_0
  have hs15 := RSl.mono hle12 hx0_1
  have hs16 := MapV.mono hle12 hx0_2
  have hs17 := RSl.mono hle12 hx1_0
  refine ZcG <| Zad rfl <| ZcI rfl rfl <| ZcI rfl rfl <| Zah rfl <| Zah rfl <| Zac <| Zae <| Zaa <| Zad rfl <| o_ld 0 rfl rfl rfl ?_
  refine s_bg fun y18 h19 => ?_
  refine Zas rfl rfl (Zfi k _ x0 _ _ _ _ hs14 _ _ hs15 _ hs16 hc13 x1 _ _ hs17 h19) ?_
  refine Zah rfl <| Zac <| Zae <| Zaa ?_
  refine Zmy rfl rfl ?_
  refine Zah rfl <| Zac <| Zae <| Zat <| Zae <| Zae <| Zaa <| Zad rfl <| Zdc rfl <| Zah rfl <| Zac ?_
  refine Zb3 (fun p20 env own H' => env = [(0, .pointer (some ⟨bq0, oq0, none⟩)), (3, .pointer (some ⟨b1, 0, none⟩)), (7, .int .i64 y18), (8, .func (.func 71) #[] #[.pointer (some ⟨b1, 0, none⟩)]), (24, .bool p20)] ∧ own = [.blk b1 (Zak (cE x1 a1_0 c1_0) 44)] ∧ Hle H11 H') ?_ ?_
  ·rintro p20 _ _ H21 ⟨rfl, rfl, hle22⟩
   have hc23 := Zaj.mono hle22 hc13
   have hs24 := RSl.mono hle22 hs14
   have hs25 := RSl.mono hle22 hs15
   have hs26 := MapV.mono hle22 hs16
   have hs27 := RSl.mono hle22 hs17
   refine Zao rfl (fun h28 => ?_) (fun h28 => ?_)
   ·refine Zae <| Zaa <| Zah rfl <| Zac ?_
    refine Zd2 L (by first | exact .refl _ | exact hle12 | exact hle12.trans hle22 | exact (hle12.trans hle22).trans hle176) fun H2 hleU => ?_
    exact ZaF (xs := [.tmp 4]) (vs := [.int .i64 2]) (.blk mb (.map es c) :: rs) ZhN rfl ⟨Zaz rfl, trivial⟩ (List.sublist_append_right _ _) ⟨by first | rfl | simp, es, c, lr, rs, rfl, hR.mono hleU, by simp only [hids, Option.getD_some]; exact hO.mono hleU⟩
   ·refine Zae ?_
    refine s_bg fun y32 h42 => ?_
    refine Za8 [(fun H v g => v = Value.pointer (some ⟨bq0, oq0, none⟩) ∧ g = [] ∧ RSl H a0_0 c0_0 x0.g.Links ∧ RSl H a0_1 c0_1 x0.versions ∧ MapV false false H (.map (some mb)) x0.ids ∧ Zaj H bq0 oq0 [.int .i64 x0.g.Switches, .slice a0_0 x0.g.Links.length c0_0, .slice a0_1 x0.versions.length c0_1, (.map (some mb))]),
   (fun H v g => v = Value.pointer (some ⟨bq0, oq0, none⟩) ∧ g = [] ∧ RSl H a0_0 c0_0 x0.g.Links ∧ RSl H a0_1 c0_1 x0.versions ∧ MapV false false H (.map (some mb)) x0.ids ∧ Zaj H bq0 oq0 [.int .i64 x0.g.Switches, .slice a0_0 x0.g.Links.length c0_0, .slice a0_1 x0.versions.length c0_1, (.map (some mb))]),
   (fun H v g => v = Value.pointer (some ⟨bq0, oq0 + 3, none⟩) ∧ g = [] ∧ RSl H a0_0 c0_0 x0.g.Links ∧ RSl H a0_1 c0_1 x0.versions ∧ MapV false false H (.map (some mb)) x0.ids ∧ Zaj H bq0 oq0 [.int .i64 x0.g.Switches, .slice a0_0 x0.g.Links.length c0_0, .slice a0_1 x0.versions.length c0_1, (.map (some mb))]),
   (fun H v g => v = (Value.map (some mb)) ∧ g = [] ∧ MapV false false H (.map (some mb)) x0.ids),
   (fV (.pointer (some ⟨b1, 3, none⟩))),
   (fV (.int .i64 x1.Id)),
   (fun H v g => ∃ a43 c44, v = Value.slice a43 (mgetD (x0.ids.getD []) x1.Id ([] : (List Judge_seen))).length c44 ∧ g = [] ∧ RSl H a43 c44 (mgetD (x0.ids.getD []) x1.Id ([] : (List Judge_seen)))),
   (fV (.func (.func 71) #[] #[.pointer (some ⟨b1, 0, none⟩)])),
   (fV (.bool y32)),
   (fV (.bool y32))] [[], [], [], [], [], [], [], [], [], []] mixed ⟨fun _ _ _ _ hle ⟨e1, e2, h0_, h1_, h2_, h3_⟩ => ⟨e1, e2, RSl.mono hle h0_, RSl.mono hle h1_, MapV.mono hle h2_, Zaj.mono hle h3_⟩, fun _ _ _ _ hle ⟨e1, e2, h0_, h1_, h2_, h3_⟩ => ⟨e1, e2, RSl.mono hle h0_, RSl.mono hle h1_, MapV.mono hle h2_, Zaj.mono hle h3_⟩, fun _ _ _ _ hle ⟨e1, e2, h0_, h1_, h2_, h3_⟩ => ⟨e1, e2, RSl.mono hle h0_, RSl.mono hle h1_, MapV.mono hle h2_, Zaj.mono hle h3_⟩, fun _ _ _ _ hle ⟨e1, e2, h0_⟩ => ⟨e1, e2, MapV.mono hle h0_⟩, m0, m0, fun _ _ _ _ hle ⟨a43, c44, e1, e2, h0_⟩ => ⟨_, _, e1, e2, RSl.mono hle h0_⟩, m0, m0, m0, trivial⟩ (by kernel_rfl) (by kernel_rfl) rfl (by kernel_rfl) rfl rfl ?_ ?_
    ·refine dc (fun _ _ _ _ hle59 _ _ => ?_) ?_
     ·have hc62 := Zaj.mono hle59 hc23
      have hs63 := RSl.mono hle59 hs24
      have hs64 := RSl.mono hle59 hs25
      have hs65 := MapV.mono hle59 hs26
      refine Zag (env' := [(0, .pointer (some ⟨bq0, oq0, none⟩))]) (by exact ⟨rfl, trivial⟩) ?_
      refine Zad rfl ?_
      exact Zai (.pointer (some ⟨bq0, oq0, none⟩)) ⟨rfl, rfl, hs63, hs64, hs65, hc62⟩
     refine dc (fun _ _ _ _ _ hd71 _ => ?_) ?_
     ·obtain ⟨hv73, hg74, hp75, hp76, hp77, hp78⟩ := hd71 0 (by decide)
      refine Zag (env' := [(45, .pointer (some ⟨bq0, oq0, none⟩))]) (by exact ⟨congrArg some hv73, trivial⟩) ?_
      refine Zd3 rfl ?_
      exact Zai (.pointer (some ⟨bq0, oq0, none⟩)) ⟨rfl, rfl, hp75, hp76, hp77, hp78⟩
     refine dc (fun _ _ _ _ _ hd84 _ => ?_) ?_
     ·obtain ⟨hv86, hg87, hp88, hp89, hp90, hp91⟩ := hd84 1 (by decide)
      refine Zag (env' := [(46, .pointer (some ⟨bq0, oq0, none⟩))]) (by exact ⟨congrArg some hv86, trivial⟩) ?_
      refine o_fa rfl ?_
      exact Zai (.pointer (some ⟨bq0, oq0 + 3, none⟩)) ⟨rfl, rfl, hp88, hp89, hp90, hp91⟩
     refine dc (fun _ _ _ _ _ hd97 _ => ?_) ?_
     ·obtain ⟨hv99, hg100, hp101, hp102, hp103, hp104⟩ := hd97 2 (by decide)
      refine Zag (env' := [(47, .pointer (some ⟨bq0, oq0 + 3, none⟩))]) (by exact ⟨congrArg some hv99, trivial⟩) ?_
      refine ZaP 3 hp104 rfl rfl rfl ?_
      exact Zai (.map (some mb)) ⟨rfl, rfl, hp103⟩
     refine dc (fun _ _ _ _ _ _ _ => ?_) ?_
     ·refine Zag (env' := [(3, .pointer (some ⟨b1, 0, none⟩))]) (by exact ⟨rfl, trivial⟩) ?_
      refine o_fa rfl ?_
      exact Zai (.pointer (some ⟨b1, 3, none⟩)) ⟨rfl, rfl⟩
     refine dc1 4 (fun _ _ _ _ _ _ => ?_) ?_
     ·refine o_ld 0 rfl rfl rfl ?_
      exact Zai (.int .i64 x1.Id) ⟨rfl, rfl⟩
     refine dc (fun _ _ _ _ _ hd128 _ => ?_) ?_
     ·obtain ⟨hv130, hg131, hp132⟩ := hd128 3 (by decide)
      obtain ⟨hv133, hg134⟩ := hd128 5 (by decide)
      refine Zag (env' := [(48, (.map (some mb))), (50, .int .i64 x1.Id)]) (by exact ⟨congrArg some hv130, congrArg some hv133, trivial⟩) ?_
      refine ZjW (kt := 3) (et := 147) hp132 rfl x1.Id rfl fun a135 c136 hs137 => ?_
      exact Zai (.slice a135 (mgetD (x0.ids.getD []) x1.Id ([] : (List Judge_seen))).length c136) ⟨a135, c136, rfl, rfl, hs137⟩
     refine dc (fun _ _ _ _ _ _ _ => ?_) ?_
     ·refine Zag (env' := [(8, .func (.func 71) #[] #[.pointer (some ⟨b1, 0, none⟩)])]) (by exact ⟨rfl, trivial⟩) ?_
      refine Zad rfl ?_
      exact Zai (.func (.func 71) #[] #[.pointer (some ⟨b1, 0, none⟩)]) ⟨rfl, rfl⟩
     refine Za3 ?_ ?_
     ·intro _ _ H148 fr149 hle150 hd151
      have hs153 := RSl.mono hle150 hs27
      obtain ⟨a154, c155, hv156, hg157, hp158⟩ := hd151 6 (by decide)
      obtain ⟨hv159, hg160⟩ := hd151 7 (by decide)
      refine ⟨_, (Zaw k (mgetD (x0.ids.getD []) x1.Id ([] : (List Judge_seen))) x1).bind some, by rw [h42]; rfl, fun _ => ?_⟩
      refine Zag (env' := [(51, .slice a154 (mgetD (x0.ids.getD []) x1.Id ([] : (List Judge_seen))).length c155), (52, .func (.func 71) #[] #[.pointer (some ⟨b1, 0, none⟩)])]) (by exact ⟨congrArg some hv156, congrArg some hv159, trivial⟩) ?_
      refine s_mv 0 rfl ?_
      refine s_bg fun y32 h161 => ?_
      refine Zbg [Res.blk b1 (Zak (cE x1 a1_0 c1_0) 44)] (([] : List Res) ++ fr149) rfl rfl (List.perm_append_comm (l₁ := (([] : List Res) ++ fr149)) (l₂ := [Res.blk b1 (Zak (cE x1 a1_0 c1_0) 44)])) (Zcj k _ (mgetD (x0.ids.getD []) x1.Id ([] : (List Judge_seen))) _ _ hp158 x1 _ _ hs153 _ h161) ?_
      rintro _ H162 _ hle163 ⟨rfl, rfl⟩
      refine ZcP (own' := [.blk b1 (Zak (cE x1 a1_0 c1_0) 44)] ++ fr149) (pm3 (a := []) (xs := [.blk b1 (Zak (cE x1 a1_0 c1_0) 44)])) ?_
      obtain rfl := Option.some.inj (h42.symm.trans h161)
      exact ZbV fun _ _ _ hE hI => ⟨(.bool y32), [], _, fun _ e => (by cases e; exact hE _ _ rfl), hle163, by exact hI, ⟨rfl, rfl⟩⟩
     refine dc1 8 (fun _ _ _ _ _ _ => ?_) ?_
     ·refine Zah rfl ?_
      exact Zai (.bool y32) ⟨rfl, rfl⟩
     exact dnil
    ·intro V177 G178 H175 hle176 hF179
     obtain ⟨hv185, hg186⟩ := hF179 9 (show 9 < 10 by decide)
     refine Zag (env' := [(44, .bool y32), (0, .pointer (some ⟨bq0, oq0, none⟩)), (3, .pointer (some ⟨b1, 0, none⟩)), (7, .int .i64 y18), (8, .func (.func 71) #[] #[.pointer (some ⟨b1, 0, none⟩)]), (24, .bool p20)]) (by exact ⟨congrArg some hv185, rfl, rfl, rfl, rfl, rfl, trivial⟩) ?_
     refine Zam (List.sublist_append_left _ _) ?_
     refine Zac ?_
     refine Zao rfl (fun h187 => ?_) (fun h187 => ?_)
     ·refine Zae <| Zaa <| Zah rfl <| Zac ?_
      refine Zd2 L (by first | exact .refl _ | exact hle12 | exact hle12.trans hle22 | exact (hle12.trans hle22).trans hle176) fun H2 hleU => ?_
      exact ZaF (xs := [.tmp 4]) (vs := [.int .i64 3]) (.blk mb (.map es c) :: rs) ZhN rfl ⟨Zaz rfl, trivial⟩ (List.sublist_append_right _ _) ⟨by first | rfl | simp, es, c, lr, rs, rfl, hR.mono hleU, by simp only [hids, Option.getD_some]; exact hO.mono hleU⟩
     ·refine Zae <| Zaa <| Zad rfl <| o_eq rfl rfl <| Zah rfl <| Zac ?_
      refine Zao rfl (fun h188 => ?_) (fun h188 => ?_)
      ·refine Zae <| Zaa <| Zah rfl <| Zac ?_
       refine Zd2 L (by first | exact .refl _ | exact hle12 | exact hle12.trans hle22 | exact (hle12.trans hle22).trans hle176) fun H2 hleU => ?_
       exact ZaF (xs := [.tmp 4]) (vs := [.int .i64 4]) (.blk mb (.map es c) :: rs) ZhN rfl ⟨Zaz rfl, trivial⟩ (List.sublist_append_right _ _) ⟨by first | rfl | simp, es, c, lr, rs, rfl, hR.mono hleU, by simp only [hids, Option.getD_some]; exact hO.mono hleU⟩
      ·refine Zae <| Zaa <| Zad rfl <| o_gt rfl rfl <| Zah rfl <| Zac ?_
       refine Zao rfl (fun h189 => ?_) (fun h189 => ?_)
       ·refine Zae <| Zaa <| Zah rfl <| Zac ?_
        refine Zd2 L (by first | exact .refl _ | exact hle12 | exact hle12.trans hle22 | exact (hle12.trans hle22).trans hle176) fun H2 hleU => ?_
        exact ZaF (xs := [.tmp 4]) (vs := [.int .i64 5]) (.blk mb (.map es c) :: rs) ZhN rfl ⟨Zaz rfl, trivial⟩ (List.sublist_append_right _ _) ⟨by first | rfl | simp, es, c, lr, rs, rfl, hR.mono hleU, by simp only [hids, Option.getD_some]; exact hO.mono hleU⟩
       ·refine Zar <| Zav ?_
        refine Zd2 L ((hle12.trans hle22).trans hle176) fun H2 hleU => ?_
        refine Zae ?_
        have hR2 := hR.mono hleU
        have hO2 := hO.mono hleU
        cases hm : midx l x1.Id with
        | some i =>
         obtain ⟨vx, hli, hgl⟩ := ZdS hm
         obtain ⟨ax, cx, lsx, hlr, hrs, hA2⟩ := hO2.get i x1.Id vx hli
         have hmr : midx lr x1.Id = some i := (hO.midx _).trans hm
         obtain ⟨vr, hlr2, hgr⟩ := ZdS hmr
         have hvr : vr = ⟨ax, vx.length, cx⟩ := by rw [hlr] at hlr2; simpa using hlr2.symm
         have hg : mgetD lr x1.Id ⟨none, 0, 0⟩ = ⟨ax, vx.length, cx⟩ := by simp [mgetD, hgr, hvr]
         have hgv : mgetD l x1.Id ([] : List Judge_seen) = vx := by simp [mgetD, hgl]
         refine s_eq (m' := (app vx ([(⟨x1, y18⟩ : Judge_seen)] : List Judge_seen)).bind fun _ => some (0, mput l x1.Id (vx ++ [(⟨x1, y18⟩ : Judge_seen)]))) (by
          rw [hids, Option.getD_some, hgv]
          cases happ : app vx ([(⟨x1, y18⟩ : Judge_seen)] : List Judge_seen) with
          | none => rfl
          | some y => rw [(Zgp happ).2]; rfl) ?_
         have hlt : i < rs.length := (List.getElem?_eq_some_iff.1 hrs).1
         have hperm : (([.blk b1 (Zak (cE x1 a1_0 c1_0) 44)] : List Res) ++ (Res.blk mb (.map es c) :: rs)).Perm (([.blk b1 (Zak (cE x1 a1_0 c1_0) 44), .blk mb (.map es c), .osl (.slice ax vx.length cx) 9 144 lsx] : List Res) ++ (rs.take i ++ rs.drop (i + 1))) := by
          refine List.Perm.cons _ (List.Perm.cons _ ?_)
          have := ZfH hrs
          conv => lhs; rw [this]
          exact List.perm_middle
         refine ZjL [.blk b1 (Zak (cE x1 a1_0 c1_0) 44), .blk mb (.map es c), .osl (.slice ax vx.length cx) 9 144 lsx] (rs.take i ++ rs.drop (i + 1)) hperm fun H3 L3 => ?_
         have hle3 := hleU.trans L3.le
         have hR3 := hR.mono hle3
         have hc3 := Zaj.mono hle3 kcq0
         have hg3 := RSl.mono hle3 kx0_0
         have hv3 := RSl.mono hle3 kx0_1
         have hx3 := RSl.mono hle3 kx1_0
         have hA3 := All2.mono (fun _ _ => GoT.mono L3.le) hA2
         refine s_bg fun _ h1008 => ?_
         refine s_mv 2 rfl ?_
         refine ZbL (own' := [.blk b1 (Zak (cE x1 a1_0 c1_0) 44), .blk mb (.map es c)] ++ [.osl (.slice ax vx.length cx) 9 144 lsx]) rfl ?_
         refine Zhb [.osl (.slice ax vx.length cx) 9 144 lsx] [(fun H v g => v = Value.pointer (some ⟨bq0, oq0, none⟩) ∧ g = [] ∧ RSl H a0_0 c0_0 x0.g.Links ∧ RSl H a0_1 c0_1 x0.versions ∧ Zaj H bq0 oq0 [.int .i64 x0.g.Switches, .slice a0_0 x0.g.Links.length c0_0, .slice a0_1 x0.versions.length c0_1, .map (some mb)]),
           (fun H v g => v = Value.pointer (some ⟨bq0, oq0, none⟩) ∧ g = [] ∧ RSl H a0_0 c0_0 x0.g.Links ∧ RSl H a0_1 c0_1 x0.versions ∧ Zaj H bq0 oq0 [.int .i64 x0.g.Switches, .slice a0_0 x0.g.Links.length c0_0, .slice a0_1 x0.versions.length c0_1, .map (some mb)]),
           (fun H v g => v = Value.pointer (some ⟨bq0, oq0 + 3, none⟩) ∧ g = [] ∧ RSl H a0_0 c0_0 x0.g.Links ∧ RSl H a0_1 c0_1 x0.versions ∧ Zaj H bq0 oq0 [.int .i64 x0.g.Switches, .slice a0_0 x0.g.Links.length c0_0, .slice a0_1 x0.versions.length c0_1, .map (some mb)]),
           (fV (.map (some mb))),
           (fV (.pointer (some ⟨b1, 3, none⟩))),
           (fV (.int .i64 x1.Id)),
           (fun H v g => v = Value.pointer (some ⟨bq0, oq0, none⟩) ∧ g = [] ∧ RSl H a0_0 c0_0 x0.g.Links ∧ RSl H a0_1 c0_1 x0.versions ∧ Zaj H bq0 oq0 [.int .i64 x0.g.Switches, .slice a0_0 x0.g.Links.length c0_0, .slice a0_1 x0.versions.length c0_1, .map (some mb)]),
           (fun H v g => v = Value.pointer (some ⟨bq0, oq0, none⟩) ∧ g = [] ∧ RSl H a0_0 c0_0 x0.g.Links ∧ RSl H a0_1 c0_1 x0.versions ∧ Zaj H bq0 oq0 [.int .i64 x0.g.Switches, .slice a0_0 x0.g.Links.length c0_0, .slice a0_1 x0.versions.length c0_1, .map (some mb)]),
           (fun H v g => v = Value.pointer (some ⟨bq0, oq0 + 3, none⟩) ∧ g = [] ∧ RSl H a0_0 c0_0 x0.g.Links ∧ RSl H a0_1 c0_1 x0.versions ∧ Zaj H bq0 oq0 [.int .i64 x0.g.Switches, .slice a0_0 x0.g.Links.length c0_0, .slice a0_1 x0.versions.length c0_1, .map (some mb)]),
           (fV (.map (some mb))),
           (fV (.pointer (some ⟨b1, 3, none⟩))),
           (fV (.int .i64 x1.Id)),
           (fV (.slice ax vx.length cx)),
           (fun H v g => v = (aE x1 a1_0 c1_0) ∧ g = [] ∧ RSl H a1_0 c1_0 x1.Sent),
           (fV (.int .i64 y18)),
           (fun H v g => v = Value.agg #[.int .i64 x1.Switch, .int .i64 x1.Port, .int .i64 x1.Ver, .int .i64 x1.Id, .int .u8 x1.H.e0, .int .u8 x1.H.e1, .int .u8 x1.H.e2, .slice a1_0 x1.Sent.length c1_0, .int .i64 y18] ∧ g = [] ∧ RSl H a1_0 c1_0 x1.Sent),
           (fun H v g => ∃ b1009, v = Value.slice (some ⟨b1009, 0, none⟩) ([(⟨x1, y18⟩ : Judge_seen)] : List Judge_seen).length 1 ∧ g = [.osl (.slice (some ⟨b1009, 0, none⟩) ([(⟨x1, y18⟩ : Judge_seen)] : List Judge_seen).length 1) 9 144 [[.int .i64 x1.Switch, .int .i64 x1.Port, .int .i64 x1.Ver, .int .i64 x1.Id, .int .u8 x1.H.e0, .int .u8 x1.H.e1, .int .u8 x1.H.e2, .slice a1_0 x1.Sent.length c1_0, .int .i64 y18]]] ∧ All2 (GoT.rep H) [[.int .i64 x1.Switch, .int .i64 x1.Port, .int .i64 x1.Ver, .int .i64 x1.Id, .int .u8 x1.H.e0, .int .u8 x1.H.e1, .int .u8 x1.H.e2, .slice a1_0 x1.Sent.length c1_0, .int .i64 y18]] ([(⟨x1, y18⟩ : Judge_seen)] : List Judge_seen)),
           (fun H v g => ∃ a1012 c1013 b1009, v = Value.slice a1012 (vx ++ ([(⟨x1, y18⟩ : Judge_seen)] : List Judge_seen)).length c1013 ∧ g = [.osl (.slice (some ⟨b1009, 0, none⟩) ([(⟨x1, y18⟩ : Judge_seen)] : List Judge_seen).length 1) 9 144 [[.int .i64 x1.Switch, .int .i64 x1.Port, .int .i64 x1.Ver, .int .i64 x1.Id, .int .u8 x1.H.e0, .int .u8 x1.H.e1, .int .u8 x1.H.e2, .slice a1_0 x1.Sent.length c1_0, .int .i64 y18]], .osl (.slice a1012 (vx ++ ([(⟨x1, y18⟩ : Judge_seen)] : List Judge_seen)).length c1013) 9 144 (lsx ++ ([[.int .i64 x1.Switch, .int .i64 x1.Port, .int .i64 x1.Ver, .int .i64 x1.Id, .int .u8 x1.H.e0, .int .u8 x1.H.e1, .int .u8 x1.H.e2, .slice a1_0 x1.Sent.length c1_0, .int .i64 y18]]))] ∧ All2 (GoT.rep H) [[.int .i64 x1.Switch, .int .i64 x1.Port, .int .i64 x1.Ver, .int .i64 x1.Id, .int .u8 x1.H.e0, .int .u8 x1.H.e1, .int .u8 x1.H.e2, .slice a1_0 x1.Sent.length c1_0, .int .i64 y18]] ([(⟨x1, y18⟩ : Judge_seen)] : List Judge_seen) ∧ All2 (GoT.rep H) (lsx ++ ([[.int .i64 x1.Switch, .int .i64 x1.Port, .int .i64 x1.Ver, .int .i64 x1.Id, .int .u8 x1.H.e0, .int .u8 x1.H.e1, .int .u8 x1.H.e2, .slice a1_0 x1.Sent.length c1_0, .int .i64 y18]])) (vx ++ ([(⟨x1, y18⟩ : Judge_seen)] : List Judge_seen)))] [[], [], [], [], [], [], [], [], [], [], [], [], [], [], [], [], [], [16, 19]] mixed ⟨fun _ _ _ _ hle ⟨e1, e2, h0_, h1_, h2_⟩ => ⟨e1, e2, RSl.mono hle h0_, RSl.mono hle h1_, Zaj.mono hle h2_⟩, fun _ _ _ _ hle ⟨e1, e2, h0_, h1_, h2_⟩ => ⟨e1, e2, RSl.mono hle h0_, RSl.mono hle h1_, Zaj.mono hle h2_⟩, fun _ _ _ _ hle ⟨e1, e2, h0_, h1_, h2_⟩ => ⟨e1, e2, RSl.mono hle h0_, RSl.mono hle h1_, Zaj.mono hle h2_⟩, m0, m0, m0, fun _ _ _ _ hle ⟨e1, e2, h0_, h1_, h2_⟩ => ⟨e1, e2, RSl.mono hle h0_, RSl.mono hle h1_, Zaj.mono hle h2_⟩, fun _ _ _ _ hle ⟨e1, e2, h0_, h1_, h2_⟩ => ⟨e1, e2, RSl.mono hle h0_, RSl.mono hle h1_, Zaj.mono hle h2_⟩, fun _ _ _ _ hle ⟨e1, e2, h0_, h1_, h2_⟩ => ⟨e1, e2, RSl.mono hle h0_, RSl.mono hle h1_, Zaj.mono hle h2_⟩, m0, m0, m0, m0, fun _ _ _ _ hle ⟨e1, e2, h0_⟩ => ⟨e1, e2, RSl.mono hle h0_⟩, m0, fun _ _ _ _ hle ⟨e1, e2, h0_⟩ => ⟨e1, e2, RSl.mono hle h0_⟩, fun _ _ _ _ hle ⟨b1009, e1, e2, h0_⟩ => ⟨_, e1, e2, All2.mono (fun _ _ => GoT.mono hle) h0_⟩, fun _ _ _ _ hle ⟨a1012, c1013, b1009, e1, e2, h0_, h1_⟩ => ⟨_, _, _, e1, e2, All2.mono (fun _ _ => GoT.mono hle) h0_, All2.mono (fun _ _ => GoT.mono hle) h1_⟩, trivial⟩ (by kernel_rfl) (by kernel_rfl) rfl (by kernel_rfl) rfl rfl ?_ ?_
         ·refine Zby ?_ ?_
          ·intro _ G1017 H1018 fr1019 hvg1022 hle1020 hd1021
           have hc1023 := Zaj.mono hle1020 hc3
           have hs1024 := RSl.mono hle1020 hg3
           have hs1025 := RSl.mono hle1020 hv3
           refine ⟨_, some (), rfl, fun _ => ?_⟩
           refine Zag (env' := [(0, .pointer (some ⟨bq0, oq0, none⟩))]) (by exact ⟨rfl, trivial⟩) ?_
           refine Zad rfl ?_
           exact Zai (.pointer (some ⟨bq0, oq0, none⟩)) ⟨rfl, rfl, hs1024, hs1025, hc1023⟩
          refine Zby ?_ ?_
          ·intro _ G1027 H1028 fr1029 hvg1032 hle1030 hd1031
           obtain ⟨hv1033, hg1034, hp1035, hp1036, hp1037⟩ := hd1031 0 (by decide)
           refine ⟨_, some (), rfl, fun _ => ?_⟩
           refine Zag (env' := [(60, .pointer (some ⟨bq0, oq0, none⟩))]) (by exact ⟨congrArg some hv1033, trivial⟩) ?_
           refine Zd3 rfl ?_
           exact Zai (.pointer (some ⟨bq0, oq0, none⟩)) ⟨rfl, rfl, hp1035, hp1036, hp1037⟩
          refine Zby ?_ ?_
          ·intro _ G1039 H1040 fr1041 hvg1044 hle1042 hd1043
           obtain ⟨hv1045, hg1046, hp1047, hp1048, hp1049⟩ := hd1043 1 (by decide)
           refine ⟨_, some (), rfl, fun _ => ?_⟩
           refine Zag (env' := [(61, .pointer (some ⟨bq0, oq0, none⟩))]) (by exact ⟨congrArg some hv1045, trivial⟩) ?_
           refine o_fa rfl ?_
           exact Zai (.pointer (some ⟨bq0, oq0 + 3, none⟩)) ⟨rfl, rfl, hp1047, hp1048, hp1049⟩
          refine Zby ?_ ?_
          ·intro _ G1051 H1052 fr1053 hvg1056 hle1054 hd1055
           obtain ⟨hv1057, hg1058, hp1059, hp1060, hp1061⟩ := hd1055 2 (by decide)
           refine ⟨_, some (), rfl, fun _ => ?_⟩
           refine Zag (env' := [(62, .pointer (some ⟨bq0, oq0 + 3, none⟩))]) (by exact ⟨congrArg some hv1057, trivial⟩) ?_
           refine ZaP 3 hp1061 rfl rfl rfl ?_
           exact Zai (.map (some mb)) ⟨rfl, rfl⟩
          refine Zby ?_ ?_
          ·intro _ G1063 H1064 fr1065 hvg1068 hle1066 hd1067
           refine ⟨_, some (), rfl, fun _ => ?_⟩
           refine Zag (env' := [(3, .pointer (some ⟨b1, 0, none⟩))]) (by exact ⟨rfl, trivial⟩) ?_
           refine o_fa rfl ?_
           exact Zai (.pointer (some ⟨b1, 3, none⟩)) ⟨rfl, rfl⟩
          refine Zby ?_ ?_
          ·intro _ G1071 H1072 fr1073 hvg1076 hle1074 hd1075
           obtain ⟨hv1078, hg1079⟩ := hd1075 4 (by decide)
           refine ⟨_, some (), rfl, fun _ => ?_⟩
           refine Zag (env' := [(64, .pointer (some ⟨b1, 3, none⟩))]) (by exact ⟨congrArg some hv1078, trivial⟩) ?_
           refine o_ld 0 rfl rfl rfl ?_
           exact Zai (.int .i64 x1.Id) ⟨rfl, rfl⟩
          refine Zby ?_ ?_
          ·intro _ G1081 H1082 fr1083 hvg1086 hle1084 hd1085
           have hc1087 := Zaj.mono hle1084 hc3
           have hs1088 := RSl.mono hle1084 hg3
           have hs1089 := RSl.mono hle1084 hv3
           refine ⟨_, some (), rfl, fun _ => ?_⟩
           refine Zag (env' := [(0, .pointer (some ⟨bq0, oq0, none⟩))]) (by exact ⟨rfl, trivial⟩) ?_
           refine Zad rfl ?_
           exact Zai (.pointer (some ⟨bq0, oq0, none⟩)) ⟨rfl, rfl, hs1088, hs1089, hc1087⟩
          refine Zby ?_ ?_
          ·intro _ G1091 H1092 fr1093 hvg1096 hle1094 hd1095
           obtain ⟨hv1097, hg1098, hp1099, hp1100, hp1101⟩ := hd1095 6 (by decide)
           refine ⟨_, some (), rfl, fun _ => ?_⟩
           refine Zag (env' := [(66, .pointer (some ⟨bq0, oq0, none⟩))]) (by exact ⟨congrArg some hv1097, trivial⟩) ?_
           refine Zd3 rfl ?_
           exact Zai (.pointer (some ⟨bq0, oq0, none⟩)) ⟨rfl, rfl, hp1099, hp1100, hp1101⟩
          refine Zby ?_ ?_
          ·intro _ G1103 H1104 fr1105 hvg1108 hle1106 hd1107
           obtain ⟨hv1109, hg1110, hp1111, hp1112, hp1113⟩ := hd1107 7 (by decide)
           refine ⟨_, some (), rfl, fun _ => ?_⟩
           refine Zag (env' := [(67, .pointer (some ⟨bq0, oq0, none⟩))]) (by exact ⟨congrArg some hv1109, trivial⟩) ?_
           refine o_fa rfl ?_
           exact Zai (.pointer (some ⟨bq0, oq0 + 3, none⟩)) ⟨rfl, rfl, hp1111, hp1112, hp1113⟩
          refine Zby ?_ ?_
          ·intro _ G1115 H1116 fr1117 hvg1120 hle1118 hd1119
           obtain ⟨hv1121, hg1122, hp1123, hp1124, hp1125⟩ := hd1119 8 (by decide)
           refine ⟨_, some (), rfl, fun _ => ?_⟩
           refine Zag (env' := [(68, .pointer (some ⟨bq0, oq0 + 3, none⟩))]) (by exact ⟨congrArg some hv1121, trivial⟩) ?_
           refine ZaP 3 hp1125 rfl rfl rfl ?_
           exact Zai (.map (some mb)) ⟨rfl, rfl⟩
          refine Zby ?_ ?_
          ·intro _ G1127 H1128 fr1129 hvg1132 hle1130 hd1131
           refine ⟨_, some (), rfl, fun _ => ?_⟩
           refine Zag (env' := [(3, .pointer (some ⟨b1, 0, none⟩))]) (by exact ⟨rfl, trivial⟩) ?_
           refine o_fa rfl ?_
           exact Zai (.pointer (some ⟨b1, 3, none⟩)) ⟨rfl, rfl⟩
          refine Zby ?_ ?_
          ·intro _ G1135 H1136 fr1137 hvg1140 hle1138 hd1139
           obtain ⟨hv1142, hg1143⟩ := hd1139 10 (by decide)
           refine ⟨_, some (), rfl, fun _ => ?_⟩
           refine Zag (env' := [(70, .pointer (some ⟨b1, 3, none⟩))]) (by exact ⟨congrArg some hv1142, trivial⟩) ?_
           refine o_ld 0 rfl rfl rfl ?_
           exact Zai (.int .i64 x1.Id) ⟨rfl, rfl⟩
          refine Zby ?_ ?_
          ·intro _ G1145 H1146 fr1147 hvg1150 hle1148 hd1149
           have hR1151 := MapR.mono hle1148 hR3
           obtain ⟨hv1152, hg1153⟩ := hd1149 9 (by decide)
           obtain ⟨hv1154, hg1155⟩ := hd1149 11 (by decide)
           refine ⟨_, some (), rfl, fun _ => ?_⟩
           refine Zag (env' := [(69, .map (some mb)), (71, .int .i64 x1.Id)]) (by exact ⟨congrArg some hv1152, congrArg some hv1154, trivial⟩) ?_
           refine ZlR (kt := 3) (et := 147) 1 rfl rfl hR1151 x1.Id rfl hg ?_
           exact Zai (.slice ax vx.length cx) ⟨rfl, rfl⟩
          refine Zby ?_ ?_
          ·intro _ G1157 H1158 fr1159 hvg1162 hle1160 hd1161
           have hs1163 := RSl.mono hle1160 hx3
           refine ⟨_, some (), rfl, fun _ => ?_⟩
           refine Zag (env' := [(3, .pointer (some ⟨b1, 0, none⟩))]) (by exact ⟨rfl, trivial⟩) ?_
           refine o_ld 0 rfl rfl rfl ?_
           exact Zai ((aE x1 a1_0 c1_0)) ⟨rfl, rfl, hs1163⟩
          refine Zby ?_ ?_
          ·intro _ G1165 H1166 fr1167 hvg1170 hle1168 hd1169
           refine ⟨_, some (), rfl, fun _ => ?_⟩
           refine Zag (env' := [(7, .int .i64 y18)]) (by exact ⟨rfl, trivial⟩) ?_
           refine Zad rfl ?_
           exact Zai (.int .i64 y18) ⟨rfl, rfl⟩
          refine Zby ?_ ?_
          ·intro _ G1172 H1173 fr1174 hvg1177 hle1175 hd1176
           obtain ⟨hv1178, hg1179, hp1180⟩ := hd1176 13 (by decide)
           obtain ⟨hv1181, hg1182⟩ := hd1176 14 (by decide)
           refine ⟨_, some (), rfl, fun _ => ?_⟩
           refine Zag (env' := [(73, (aE x1 a1_0 c1_0)), (74, .int .i64 y18)]) (by exact ⟨congrArg some hv1178, congrArg some hv1181, trivial⟩) ?_
           refine Zdx rfl rfl ?_
           exact Zai (.agg #[.int .i64 x1.Switch, .int .i64 x1.Port, .int .i64 x1.Ver, .int .i64 x1.Id, .int .u8 x1.H.e0, .int .u8 x1.H.e1, .int .u8 x1.H.e2, .slice a1_0 x1.Sent.length c1_0, .int .i64 y18]) ⟨rfl, rfl, hp1180⟩
          refine Zby ?_ ?_
          ·intro _ G1184 H1185 fr1186 hvg1189 hle1187 hd1188
           obtain ⟨hv1190, hg1191, hp1192⟩ := hd1188 15 (by decide)
           refine ⟨_, some (), rfl, fun _ => ?_⟩
           refine Zag (env' := [(75, .agg #[.int .i64 x1.Switch, .int .i64 x1.Port, .int .i64 x1.Ver, .int .i64 x1.Id, .int .u8 x1.H.e0, .int .u8 x1.H.e1, .int .u8 x1.H.e2, .slice a1_0 x1.Sent.length c1_0, .int .i64 y18])]) (by exact ⟨congrArg some hv1190, trivial⟩) ?_
           refine Zdw (xs := [.tmp 75]) rfl rfl (by simp only [List.mem_cons, List.not_mem_nil, or_false, forall_eq_or_imp, forall_eq]; exact ⟨rfl, rfl⟩) rfl rfl fun b1193 => ?_
           have hA1194 : All2 (GoT.rep H1185) [[.int .i64 x1.Switch, .int .i64 x1.Port, .int .i64 x1.Ver, .int .i64 x1.Id, .int .u8 x1.H.e0, .int .u8 x1.H.e1, .int .u8 x1.H.e2, .slice a1_0 x1.Sent.length c1_0, .int .i64 y18]] ([(⟨x1, y18⟩ : Judge_seen)] : List Judge_seen) := Zcd ⟨_, _,  rfl, hp1192⟩ Zbv
           refine ZcP (own' := [.blk b1 (Zak (cE x1 a1_0 c1_0) 44), .blk mb (.map es c), .osl (.slice (some ⟨b1193, 0, none⟩) ([(⟨x1, y18⟩ : Judge_seen)] : List Judge_seen).length 1) 9 144 [[.int .i64 x1.Switch, .int .i64 x1.Port, .int .i64 x1.Ver, .int .i64 x1.Id, .int .u8 x1.H.e0, .int .u8 x1.H.e1, .int .u8 x1.H.e2, .slice a1_0 x1.Sent.length c1_0, .int .i64 y18]]] ++ fr1186) (pm3 (a := [.blk b1 (Zak (cE x1 a1_0 c1_0) 44), .blk mb (.map es c)]) (xs := [.osl (.slice (some ⟨b1193, 0, none⟩) ([(⟨x1, y18⟩ : Judge_seen)] : List Judge_seen).length 1) 9 144 [[.int .i64 x1.Switch, .int .i64 x1.Port, .int .i64 x1.Ver, .int .i64 x1.Id, .int .u8 x1.H.e0, .int .u8 x1.H.e1, .int .u8 x1.H.e2, .slice a1_0 x1.Sent.length c1_0, .int .i64 y18]]])) ?_
           exact ZbV fun _ _ _ hE hI => ⟨(.slice (some ⟨b1193, 0, none⟩) ([(⟨x1, y18⟩ : Judge_seen)] : List Judge_seen).length 1), [.osl (.slice (some ⟨b1193, 0, none⟩) ([(⟨x1, y18⟩ : Judge_seen)] : List Judge_seen).length 1) 9 144 [[.int .i64 x1.Switch, .int .i64 x1.Port, .int .i64 x1.Ver, .int .i64 x1.Id, .int .u8 x1.H.e0, .int .u8 x1.H.e1, .int .u8 x1.H.e2, .slice a1_0 x1.Sent.length c1_0, .int .i64 y18]]], _, fun _ e => (by cases e; exact hE _ _ rfl), .refl _, by exact hI, ⟨b1193, rfl, rfl, hA1194⟩⟩
          refine Zby ?_ ?_
          ·intro _ G1197 H1198 fr1199 hvg1202 hle1200 hd1201
           have hA1203 := All2.mono (fun _ _ => GoT.mono hle1200) hA3
           obtain ⟨hv1204, hg1205⟩ := hd1201 12 (by decide)
           obtain ⟨b1206, hv1207, hg1208, hp1209⟩ := hd1201 16 (by decide)
           refine ⟨_, (app vx ([(⟨x1, y18⟩ : Judge_seen)] : List Judge_seen)).bind some, by rw [h1008]; rfl, fun _ => ?_⟩
           refine Zag (env' := [(72, .slice ax vx.length cx), (76, .slice (some ⟨b1206, 0, none⟩) ([(⟨x1, y18⟩ : Judge_seen)] : List Judge_seen).length 1)]) (by exact ⟨congrArg some hv1204, congrArg some hv1207, trivial⟩) ?_
           have hg1210 : G1197 19 = [.osl (.slice ax vx.length cx) 9 144 lsx] := hvg1202 0 _ rfl
           refine ZbL (own' := [.blk b1 (Zak (cE x1 a1_0 c1_0) 44), .blk mb (.map es c), .osl (.slice (some ⟨b1206, 0, none⟩) ([(⟨x1, y18⟩ : Judge_seen)] : List Judge_seen).length 1) 9 144 [[.int .i64 x1.Switch, .int .i64 x1.Port, .int .i64 x1.Ver, .int .i64 x1.Id, .int .u8 x1.H.e0, .int .u8 x1.H.e1, .int .u8 x1.H.e2, .slice a1_0 x1.Sent.length c1_0, .int .i64 y18]], .osl (.slice ax vx.length cx) 9 144 lsx] ++ fr1199) (by simp only [List.flatMap_cons, List.flatMap_nil, List.append_nil, hg1208, hg1210]; rfl) ?_
           refine Zfl 3 2 rfl rfl rfl hA1203 rfl hp1209 fun a1211 c1212 h1213 hA1214 => ?_
           exact ZbV fun _ _ _ hE hI => ⟨(.slice a1211 (vx ++ ([(⟨x1, y18⟩ : Judge_seen)] : List Judge_seen)).length c1212), [.osl (.slice (some ⟨b1206, 0, none⟩) ([(⟨x1, y18⟩ : Judge_seen)] : List Judge_seen).length 1) 9 144 [[.int .i64 x1.Switch, .int .i64 x1.Port, .int .i64 x1.Ver, .int .i64 x1.Id, .int .u8 x1.H.e0, .int .u8 x1.H.e1, .int .u8 x1.H.e2, .slice a1_0 x1.Sent.length c1_0, .int .i64 y18]], .osl (.slice a1211 (vx ++ ([(⟨x1, y18⟩ : Judge_seen)] : List Judge_seen)).length c1212) 9 144 (lsx ++ ([[.int .i64 x1.Switch, .int .i64 x1.Port, .int .i64 x1.Ver, .int .i64 x1.Id, .int .u8 x1.H.e0, .int .u8 x1.H.e1, .int .u8 x1.H.e2, .slice a1_0 x1.Sent.length c1_0, .int .i64 y18]]))], _, fun _ e => (by cases e; exact hE _ _ rfl), .refl _, by exact hI, ⟨a1211, c1212, b1206, rfl, rfl, hp1209, hA1214⟩⟩
          exact Zm1
         ·intro V1217 G1218 H1215 hvg1220 hle1216 hF1219
          have hR1225 := MapR.mono hle1216 hR3
          obtain ⟨hv1226, hg1227⟩ := hF1219 3 (show 3 < 18 by decide)
          obtain ⟨hv1228, hg1229⟩ := hF1219 5 (show 5 < 18 by decide)
          obtain ⟨a1230, c1231, b1232, hv1233, hg1234, hp1235, hp1236⟩ := hF1219 17 (show 17 < 18 by decide)
          refine Zag (env' := [(63, .map (some mb)), (65, .int .i64 x1.Id), (77, .slice a1230 (vx ++ ([(⟨x1, y18⟩ : Judge_seen)] : List Judge_seen)).length c1231), (0, .pointer (some ⟨bq0, oq0, none⟩)), (3, .pointer (some ⟨b1, 0, none⟩)), (7, .int .i64 y18)]) (by exact ⟨congrArg some hv1226, congrArg some hv1228, congrArg some hv1233, rfl, rfl, rfl, trivial⟩) ?_
          refine Zg8 (js := [17]) rfl ?_
          refine ZbL (own' := [.blk b1 (Zak (cE x1 a1_0 c1_0) 44), .blk mb (.map es c), .osl (.slice (some ⟨b1232, 0, none⟩) ([(⟨x1, y18⟩ : Judge_seen)] : List Judge_seen).length 1) 9 144 [[.int .i64 x1.Switch, .int .i64 x1.Port, .int .i64 x1.Ver, .int .i64 x1.Id, .int .u8 x1.H.e0, .int .u8 x1.H.e1, .int .u8 x1.H.e2, .slice a1_0 x1.Sent.length c1_0, .int .i64 y18]], .osl (.slice a1230 (vx ++ ([(⟨x1, y18⟩ : Judge_seen)] : List Judge_seen)).length c1231) 9 144 (lsx ++ ([[.int .i64 x1.Switch, .int .i64 x1.Port, .int .i64 x1.Ver, .int .i64 x1.Id, .int .u8 x1.H.e0, .int .u8 x1.H.e1, .int .u8 x1.H.e2, .slice a1_0 x1.Sent.length c1_0, .int .i64 y18]]))]) (by simp only [List.flatMap_cons, List.flatMap_nil, List.append_nil, hg1234]; rfl) ?_
          refine ZjU (kt := 3) (et := 147) (vs := [.slice a1230 (vx ++ ([(⟨x1, y18⟩ : Judge_seen)] : List Judge_seen)).length c1231]) 1 rfl rfl hR1225 x1.Id rfl (⟨a1230, (vx ++ ([(⟨x1, y18⟩ : Judge_seen)] : List Judge_seen)).length, c1231⟩ : RawSl) rfl rfl fun es1237 c1238 hR1239 => ?_
          refine Zac ?_
          refine Zd2 L3 hle1216 fun H4 hle4 => ?_
          refine Zae <| Zaa <| Zah rfl <| Zac ?_
          refine Zam (own' := [.blk mb (.map es1237 c1238), .osl (.slice a1230 (vx ++ [(⟨x1, y18⟩ : Judge_seen)]).length c1231) 9 144 (lsx ++ [[.int .i64 x1.Switch, .int .i64 x1.Port, .int .i64 x1.Ver, .int .i64 x1.Id, .int .u8 x1.H.e0, .int .u8 x1.H.e1, .int .u8 x1.H.e2, .slice a1_0 x1.Sent.length c1_0, .int .i64 y18]])] ++ (rs.take i ++ rs.drop (i + 1))) (by exact .cons _ (.cons_cons _ (.cons _ (.cons_cons _ (List.Sublist.refl _))))) ?_
          refine ZcP (own' := .blk mb (.map es1237 c1238) :: rs.set i (.osl (.slice a1230 (vx ++ [(⟨x1, y18⟩ : Judge_seen)]).length c1231) 9 144 (lsx ++ [[.int .i64 x1.Switch, .int .i64 x1.Port, .int .i64 x1.Ver, .int .i64 x1.Id, .int .u8 x1.H.e0, .int .u8 x1.H.e1, .int .u8 x1.H.e2, .slice a1_0 x1.Sent.length c1_0, .int .i64 y18]]))) (List.Perm.cons _ (by rw [List.set_eq_take_append_cons_drop, if_pos hlt]; show List.Perm (_ :: (rs.take i ++ rs.drop (i + 1))) _; exact List.perm_middle.symm)) ?_
          have hA4 : All2 (GoT.rep H4) (lsx ++ [[.int .i64 x1.Switch, .int .i64 x1.Port, .int .i64 x1.Ver, .int .i64 x1.Id, .int .u8 x1.H.e0, .int .u8 x1.H.e1, .int .u8 x1.H.e2, .slice a1_0 x1.Sent.length c1_0, .int .i64 y18]]) (vx ++ [(⟨x1, y18⟩ : Judge_seen)]) := All2.append (All2.mono (fun _ _ => GoT.mono hle4) hA2) (Zcd ⟨_, _, rfl, RSl.mono (hleU.trans hle4) kx1_0⟩ Zbv)
          have hset := (hO2.mono hle4).set (q := x1.Id) (a := a1230) (cap := c1231) hA4 i (by rw [(hO.len).2] at hlt; exact hlt)
          exact ZaF (xs := [.tmp 4]) (vs := [.int .i64 0]) (.blk mb (.map es1237 c1238) :: rs.set i (.osl (.slice a1230 (vx ++ [(⟨x1, y18⟩ : Judge_seen)]).length c1231) 9 144 (lsx ++ [[.int .i64 x1.Switch, .int .i64 x1.Port, .int .i64 x1.Ver, .int .i64 x1.Id, .int .u8 x1.H.e0, .int .u8 x1.H.e1, .int .u8 x1.H.e2, .slice a1_0 x1.Sent.length c1_0, .int .i64 y18]]))) ZhN rfl ⟨Zaz rfl, trivial⟩ (List.Sublist.refl _) ⟨rfl, es1237, c1238, _, _, rfl, ZhI hR1239, by rw [Zgx hm, Zgx hmr]; exact hset⟩
        | none =>
         have hmr : midx lr x1.Id = none := (hO.midx _).trans hm
         have hg : mgetD lr x1.Id ⟨none, 0, 0⟩ = (⟨none, 0, 0⟩ : RawSl) := by simp [mgetD, ZfF hmr]
         have hgv : mgetD l x1.Id ([] : List Judge_seen) = [] := by simp [mgetD, ZfF hm]
         refine s_eq (m' := (app ([] : List Judge_seen) ([(⟨x1, y18⟩ : Judge_seen)] : List Judge_seen)).bind fun _ => some (0, mput l x1.Id [(⟨x1, y18⟩ : Judge_seen)])) (by
          rw [hids, Option.getD_some, hgv]
          cases happ : app ([] : List Judge_seen) ([(⟨x1, y18⟩ : Judge_seen)] : List Judge_seen) with
          | none => rfl
          | some y => rw [(Zgp happ).2]; rfl) ?_
         refine ZjL [.blk b1 (Zak (cE x1 a1_0 c1_0) 44), .blk mb (.map es c)] rs (.refl _) fun H3 L3 => ?_
         have hle3 := hleU.trans L3.le
         have hR3 := hR.mono hle3
         have hc3 := Zaj.mono hle3 kcq0
         have hg3 := RSl.mono hle3 kx0_0
         have hv3 := RSl.mono hle3 kx0_1
         have hx3 := RSl.mono hle3 kx1_0
         refine s_bg fun _ h1010 => ?_
         refine Za8 [(fun H v g => v = Value.pointer (some ⟨bq0, oq0, none⟩) ∧ g = [] ∧ RSl H a0_0 c0_0 x0.g.Links ∧ RSl H a0_1 c0_1 x0.versions ∧ Zaj H bq0 oq0 [.int .i64 x0.g.Switches, .slice a0_0 x0.g.Links.length c0_0, .slice a0_1 x0.versions.length c0_1, .map (some mb)]),
           (fun H v g => v = Value.pointer (some ⟨bq0, oq0, none⟩) ∧ g = [] ∧ RSl H a0_0 c0_0 x0.g.Links ∧ RSl H a0_1 c0_1 x0.versions ∧ Zaj H bq0 oq0 [.int .i64 x0.g.Switches, .slice a0_0 x0.g.Links.length c0_0, .slice a0_1 x0.versions.length c0_1, .map (some mb)]),
           (fun H v g => v = Value.pointer (some ⟨bq0, oq0 + 3, none⟩) ∧ g = [] ∧ RSl H a0_0 c0_0 x0.g.Links ∧ RSl H a0_1 c0_1 x0.versions ∧ Zaj H bq0 oq0 [.int .i64 x0.g.Switches, .slice a0_0 x0.g.Links.length c0_0, .slice a0_1 x0.versions.length c0_1, .map (some mb)]),
           (fV (.map (some mb))),
           (fV (.pointer (some ⟨b1, 3, none⟩))),
           (fV (.int .i64 x1.Id)),
           (fun H v g => v = Value.pointer (some ⟨bq0, oq0, none⟩) ∧ g = [] ∧ RSl H a0_0 c0_0 x0.g.Links ∧ RSl H a0_1 c0_1 x0.versions ∧ Zaj H bq0 oq0 [.int .i64 x0.g.Switches, .slice a0_0 x0.g.Links.length c0_0, .slice a0_1 x0.versions.length c0_1, .map (some mb)]),
           (fun H v g => v = Value.pointer (some ⟨bq0, oq0, none⟩) ∧ g = [] ∧ RSl H a0_0 c0_0 x0.g.Links ∧ RSl H a0_1 c0_1 x0.versions ∧ Zaj H bq0 oq0 [.int .i64 x0.g.Switches, .slice a0_0 x0.g.Links.length c0_0, .slice a0_1 x0.versions.length c0_1, .map (some mb)]),
           (fun H v g => v = Value.pointer (some ⟨bq0, oq0 + 3, none⟩) ∧ g = [] ∧ RSl H a0_0 c0_0 x0.g.Links ∧ RSl H a0_1 c0_1 x0.versions ∧ Zaj H bq0 oq0 [.int .i64 x0.g.Switches, .slice a0_0 x0.g.Links.length c0_0, .slice a0_1 x0.versions.length c0_1, .map (some mb)]),
           (fV (.map (some mb))),
           (fV (.pointer (some ⟨b1, 3, none⟩))),
           (fV (.int .i64 x1.Id)),
           (fV (.slice none 0 0)),
           (fun H v g => v = (aE x1 a1_0 c1_0) ∧ g = [] ∧ RSl H a1_0 c1_0 x1.Sent),
           (fV (.int .i64 y18)),
           (fun H v g => v = Value.agg #[.int .i64 x1.Switch, .int .i64 x1.Port, .int .i64 x1.Ver, .int .i64 x1.Id, .int .u8 x1.H.e0, .int .u8 x1.H.e1, .int .u8 x1.H.e2, .slice a1_0 x1.Sent.length c1_0, .int .i64 y18] ∧ g = [] ∧ RSl H a1_0 c1_0 x1.Sent),
           (fun H v g => ∃ b1011, v = Value.slice (some ⟨b1011, 0, none⟩) ([(⟨x1, y18⟩ : Judge_seen)] : List Judge_seen).length 1 ∧ g = [.osl (.slice (some ⟨b1011, 0, none⟩) ([(⟨x1, y18⟩ : Judge_seen)] : List Judge_seen).length 1) 9 144 [[.int .i64 x1.Switch, .int .i64 x1.Port, .int .i64 x1.Ver, .int .i64 x1.Id, .int .u8 x1.H.e0, .int .u8 x1.H.e1, .int .u8 x1.H.e2, .slice a1_0 x1.Sent.length c1_0, .int .i64 y18]]] ∧ All2 (GoT.rep H) [[.int .i64 x1.Switch, .int .i64 x1.Port, .int .i64 x1.Ver, .int .i64 x1.Id, .int .u8 x1.H.e0, .int .u8 x1.H.e1, .int .u8 x1.H.e2, .slice a1_0 x1.Sent.length c1_0, .int .i64 y18]] ([(⟨x1, y18⟩ : Judge_seen)] : List Judge_seen)),
           (fun H v g => ∃ a1016 c1017 b1011, v = Value.slice a1016 (([] : List Judge_seen) ++ ([(⟨x1, y18⟩ : Judge_seen)] : List Judge_seen)).length c1017 ∧ g = [.osl (.slice (some ⟨b1011, 0, none⟩) ([(⟨x1, y18⟩ : Judge_seen)] : List Judge_seen).length 1) 9 144 [[.int .i64 x1.Switch, .int .i64 x1.Port, .int .i64 x1.Ver, .int .i64 x1.Id, .int .u8 x1.H.e0, .int .u8 x1.H.e1, .int .u8 x1.H.e2, .slice a1_0 x1.Sent.length c1_0, .int .i64 y18]], .osl (.slice a1016 (([] : List Judge_seen) ++ ([(⟨x1, y18⟩ : Judge_seen)] : List Judge_seen)).length c1017) 9 144 (([]) ++ ([[.int .i64 x1.Switch, .int .i64 x1.Port, .int .i64 x1.Ver, .int .i64 x1.Id, .int .u8 x1.H.e0, .int .u8 x1.H.e1, .int .u8 x1.H.e2, .slice a1_0 x1.Sent.length c1_0, .int .i64 y18]]))] ∧ All2 (GoT.rep H) [[.int .i64 x1.Switch, .int .i64 x1.Port, .int .i64 x1.Ver, .int .i64 x1.Id, .int .u8 x1.H.e0, .int .u8 x1.H.e1, .int .u8 x1.H.e2, .slice a1_0 x1.Sent.length c1_0, .int .i64 y18]] ([(⟨x1, y18⟩ : Judge_seen)] : List Judge_seen) ∧ All2 (GoT.rep H) (([]) ++ ([[.int .i64 x1.Switch, .int .i64 x1.Port, .int .i64 x1.Ver, .int .i64 x1.Id, .int .u8 x1.H.e0, .int .u8 x1.H.e1, .int .u8 x1.H.e2, .slice a1_0 x1.Sent.length c1_0, .int .i64 y18]])) (([] : List Judge_seen) ++ ([(⟨x1, y18⟩ : Judge_seen)] : List Judge_seen)))] [[], [], [], [], [], [], [], [], [], [], [], [], [], [], [], [], [], [16]] mixed ⟨fun _ _ _ _ hle ⟨e1, e2, h0_, h1_, h2_⟩ => ⟨e1, e2, RSl.mono hle h0_, RSl.mono hle h1_, Zaj.mono hle h2_⟩, fun _ _ _ _ hle ⟨e1, e2, h0_, h1_, h2_⟩ => ⟨e1, e2, RSl.mono hle h0_, RSl.mono hle h1_, Zaj.mono hle h2_⟩, fun _ _ _ _ hle ⟨e1, e2, h0_, h1_, h2_⟩ => ⟨e1, e2, RSl.mono hle h0_, RSl.mono hle h1_, Zaj.mono hle h2_⟩, m0, m0, m0, fun _ _ _ _ hle ⟨e1, e2, h0_, h1_, h2_⟩ => ⟨e1, e2, RSl.mono hle h0_, RSl.mono hle h1_, Zaj.mono hle h2_⟩, fun _ _ _ _ hle ⟨e1, e2, h0_, h1_, h2_⟩ => ⟨e1, e2, RSl.mono hle h0_, RSl.mono hle h1_, Zaj.mono hle h2_⟩, fun _ _ _ _ hle ⟨e1, e2, h0_, h1_, h2_⟩ => ⟨e1, e2, RSl.mono hle h0_, RSl.mono hle h1_, Zaj.mono hle h2_⟩, m0, m0, m0, m0, fun _ _ _ _ hle ⟨e1, e2, h0_⟩ => ⟨e1, e2, RSl.mono hle h0_⟩, m0, fun _ _ _ _ hle ⟨e1, e2, h0_⟩ => ⟨e1, e2, RSl.mono hle h0_⟩, fun _ _ _ _ hle ⟨b1011, e1, e2, h0_⟩ => ⟨_, e1, e2, All2.mono (fun _ _ => GoT.mono hle) h0_⟩, fun _ _ _ _ hle ⟨a1016, c1017, b1011, e1, e2, h0_, h1_⟩ => ⟨_, _, _, e1, e2, All2.mono (fun _ _ => GoT.mono hle) h0_, All2.mono (fun _ _ => GoT.mono hle) h1_⟩, trivial⟩ (by kernel_rfl) (by kernel_rfl) rfl (by kernel_rfl) rfl rfl ?_ ?_
         ·refine dc (fun _ _ _ _ hle1024 _ _ => ?_) ?_
          ·have hc1027 := Zaj.mono hle1024 hc3
           have hs1028 := RSl.mono hle1024 hg3
           have hs1029 := RSl.mono hle1024 hv3
           refine Zag (env' := [(0, .pointer (some ⟨bq0, oq0, none⟩))]) (by exact ⟨rfl, trivial⟩) ?_
           refine Zad rfl ?_
           exact Zai (.pointer (some ⟨bq0, oq0, none⟩)) ⟨rfl, rfl, hs1028, hs1029, hc1027⟩
          refine dc (fun _ _ _ _ _ hd1035 _ => ?_) ?_
          ·obtain ⟨hv1037, hg1038, hp1039, hp1040, hp1041⟩ := hd1035 0 (by decide)
           refine Zag (env' := [(60, .pointer (some ⟨bq0, oq0, none⟩))]) (by exact ⟨congrArg some hv1037, trivial⟩) ?_
           refine Zd3 rfl ?_
           exact Zai (.pointer (some ⟨bq0, oq0, none⟩)) ⟨rfl, rfl, hp1039, hp1040, hp1041⟩
          refine dc (fun _ _ _ _ _ hd1047 _ => ?_) ?_
          ·obtain ⟨hv1049, hg1050, hp1051, hp1052, hp1053⟩ := hd1047 1 (by decide)
           refine Zag (env' := [(61, .pointer (some ⟨bq0, oq0, none⟩))]) (by exact ⟨congrArg some hv1049, trivial⟩) ?_
           refine o_fa rfl ?_
           exact Zai (.pointer (some ⟨bq0, oq0 + 3, none⟩)) ⟨rfl, rfl, hp1051, hp1052, hp1053⟩
          refine dc (fun _ _ _ _ _ hd1059 _ => ?_) ?_
          ·obtain ⟨hv1061, hg1062, hp1063, hp1064, hp1065⟩ := hd1059 2 (by decide)
           refine Zag (env' := [(62, .pointer (some ⟨bq0, oq0 + 3, none⟩))]) (by exact ⟨congrArg some hv1061, trivial⟩) ?_
           refine ZaP 3 hp1065 rfl rfl rfl ?_
           exact Zai (.map (some mb)) ⟨rfl, rfl⟩
          refine dc (fun _ _ _ _ _ _ _ => ?_) ?_
          ·refine Zag (env' := [(3, .pointer (some ⟨b1, 0, none⟩))]) (by exact ⟨rfl, trivial⟩) ?_
           refine o_fa rfl ?_
           exact Zai (.pointer (some ⟨b1, 3, none⟩)) ⟨rfl, rfl⟩
          refine dc1 4 (fun _ _ _ _ _ _ => ?_) ?_
          ·refine o_ld 0 rfl rfl rfl ?_
           exact Zai (.int .i64 x1.Id) ⟨rfl, rfl⟩
          refine dc (fun _ _ _ _ hle1088 _ _ => ?_) ?_
          ·have hc1091 := Zaj.mono hle1088 hc3
           have hs1092 := RSl.mono hle1088 hg3
           have hs1093 := RSl.mono hle1088 hv3
           refine Zag (env' := [(0, .pointer (some ⟨bq0, oq0, none⟩))]) (by exact ⟨rfl, trivial⟩) ?_
           refine Zad rfl ?_
           exact Zai (.pointer (some ⟨bq0, oq0, none⟩)) ⟨rfl, rfl, hs1092, hs1093, hc1091⟩
          refine dc (fun _ _ _ _ _ hd1099 _ => ?_) ?_
          ·obtain ⟨hv1101, hg1102, hp1103, hp1104, hp1105⟩ := hd1099 6 (by decide)
           refine Zag (env' := [(66, .pointer (some ⟨bq0, oq0, none⟩))]) (by exact ⟨congrArg some hv1101, trivial⟩) ?_
           refine Zd3 rfl ?_
           exact Zai (.pointer (some ⟨bq0, oq0, none⟩)) ⟨rfl, rfl, hp1103, hp1104, hp1105⟩
          refine dc (fun _ _ _ _ _ hd1111 _ => ?_) ?_
          ·obtain ⟨hv1113, hg1114, hp1115, hp1116, hp1117⟩ := hd1111 7 (by decide)
           refine Zag (env' := [(67, .pointer (some ⟨bq0, oq0, none⟩))]) (by exact ⟨congrArg some hv1113, trivial⟩) ?_
           refine o_fa rfl ?_
           exact Zai (.pointer (some ⟨bq0, oq0 + 3, none⟩)) ⟨rfl, rfl, hp1115, hp1116, hp1117⟩
          refine dc (fun _ _ _ _ _ hd1123 _ => ?_) ?_
          ·obtain ⟨hv1125, hg1126, hp1127, hp1128, hp1129⟩ := hd1123 8 (by decide)
           refine Zag (env' := [(68, .pointer (some ⟨bq0, oq0 + 3, none⟩))]) (by exact ⟨congrArg some hv1125, trivial⟩) ?_
           refine ZaP 3 hp1129 rfl rfl rfl ?_
           exact Zai (.map (some mb)) ⟨rfl, rfl⟩
          refine dc (fun _ _ _ _ _ _ _ => ?_) ?_
          ·refine Zag (env' := [(3, .pointer (some ⟨b1, 0, none⟩))]) (by exact ⟨rfl, trivial⟩) ?_
           refine o_fa rfl ?_
           exact Zai (.pointer (some ⟨b1, 3, none⟩)) ⟨rfl, rfl⟩
          refine dc1 10 (fun _ _ _ _ _ _ => ?_) ?_
          ·refine o_ld 0 rfl rfl rfl ?_
           exact Zai (.int .i64 x1.Id) ⟨rfl, rfl⟩
          refine dc2 9 11 (fun _ _ _ _ hle1152 _ => ?_) ?_
          ·have hR1155 := MapR.mono hle1152 hR3
           refine ZlR (kt := 3) (et := 147) 1 rfl rfl hR1155 x1.Id rfl hg ?_
           exact Zai (.slice none 0 0) ⟨rfl, rfl⟩
          refine dc (fun _ _ _ _ hle1164 _ _ => ?_) ?_
          ·have hs1167 := RSl.mono hle1164 hx3
           refine Zag (env' := [(3, .pointer (some ⟨b1, 0, none⟩))]) (by exact ⟨rfl, trivial⟩) ?_
           refine o_ld 0 rfl rfl rfl ?_
           exact Zai ((aE x1 a1_0 c1_0)) ⟨rfl, rfl, hs1167⟩
          refine dc (fun _ _ _ _ _ _ _ => ?_) ?_
          ·refine Zag (env' := [(7, .int .i64 y18)]) (by exact ⟨rfl, trivial⟩) ?_
           refine Zad rfl ?_
           exact Zai (.int .i64 y18) ⟨rfl, rfl⟩
          refine dc (fun _ _ _ _ _ hd1180 _ => ?_) ?_
          ·obtain ⟨hv1182, hg1183, hp1184⟩ := hd1180 13 (by decide)
           obtain ⟨hv1185, hg1186⟩ := hd1180 14 (by decide)
           refine Zag (env' := [(73, (aE x1 a1_0 c1_0)), (74, .int .i64 y18)]) (by exact ⟨congrArg some hv1182, congrArg some hv1185, trivial⟩) ?_
           refine Zdx rfl rfl ?_
           exact Zai (.agg #[.int .i64 x1.Switch, .int .i64 x1.Port, .int .i64 x1.Ver, .int .i64 x1.Id, .int .u8 x1.H.e0, .int .u8 x1.H.e1, .int .u8 x1.H.e2, .slice a1_0 x1.Sent.length c1_0, .int .i64 y18]) ⟨rfl, rfl, hp1184⟩
          refine Za3 ?_ ?_
          ·intro _ _ H1189 fr1190 hle1191 hd1192
           obtain ⟨hv1194, hg1195, hp1196⟩ := hd1192 15 (by decide)
           refine ⟨_, some (), rfl, fun _ => ?_⟩
           refine Zag (env' := [(75, .agg #[.int .i64 x1.Switch, .int .i64 x1.Port, .int .i64 x1.Ver, .int .i64 x1.Id, .int .u8 x1.H.e0, .int .u8 x1.H.e1, .int .u8 x1.H.e2, .slice a1_0 x1.Sent.length c1_0, .int .i64 y18])]) (by exact ⟨congrArg some hv1194, trivial⟩) ?_
           refine Zdw (xs := [.tmp 75]) rfl rfl (by simp only [List.mem_cons, List.not_mem_nil, or_false, forall_eq_or_imp, forall_eq]; exact ⟨rfl, rfl⟩) rfl rfl fun b1197 => ?_
           have hA1198 : All2 (GoT.rep H1189) [[.int .i64 x1.Switch, .int .i64 x1.Port, .int .i64 x1.Ver, .int .i64 x1.Id, .int .u8 x1.H.e0, .int .u8 x1.H.e1, .int .u8 x1.H.e2, .slice a1_0 x1.Sent.length c1_0, .int .i64 y18]] ([(⟨x1, y18⟩ : Judge_seen)] : List Judge_seen) := Zcd ⟨_, _,  rfl, hp1196⟩ Zbv
           refine ZcP (own' := [.blk b1 (Zak (cE x1 a1_0 c1_0) 44), .blk mb (.map es c), .osl (.slice (some ⟨b1197, 0, none⟩) ([(⟨x1, y18⟩ : Judge_seen)] : List Judge_seen).length 1) 9 144 [[.int .i64 x1.Switch, .int .i64 x1.Port, .int .i64 x1.Ver, .int .i64 x1.Id, .int .u8 x1.H.e0, .int .u8 x1.H.e1, .int .u8 x1.H.e2, .slice a1_0 x1.Sent.length c1_0, .int .i64 y18]]] ++ fr1190) (pm3 (a := [.blk b1 (Zak (cE x1 a1_0 c1_0) 44), .blk mb (.map es c)]) (xs := [.osl (.slice (some ⟨b1197, 0, none⟩) ([(⟨x1, y18⟩ : Judge_seen)] : List Judge_seen).length 1) 9 144 [[.int .i64 x1.Switch, .int .i64 x1.Port, .int .i64 x1.Ver, .int .i64 x1.Id, .int .u8 x1.H.e0, .int .u8 x1.H.e1, .int .u8 x1.H.e2, .slice a1_0 x1.Sent.length c1_0, .int .i64 y18]]])) ?_
           exact ZbV fun _ _ _ hE hI => ⟨(.slice (some ⟨b1197, 0, none⟩) ([(⟨x1, y18⟩ : Judge_seen)] : List Judge_seen).length 1), [.osl (.slice (some ⟨b1197, 0, none⟩) ([(⟨x1, y18⟩ : Judge_seen)] : List Judge_seen).length 1) 9 144 [[.int .i64 x1.Switch, .int .i64 x1.Port, .int .i64 x1.Ver, .int .i64 x1.Id, .int .u8 x1.H.e0, .int .u8 x1.H.e1, .int .u8 x1.H.e2, .slice a1_0 x1.Sent.length c1_0, .int .i64 y18]]], _, fun _ e => (by cases e; exact hE _ _ rfl), .refl _, by exact hI, ⟨b1197, rfl, rfl, hA1198⟩⟩
          refine Za3 ?_ ?_
          ·intro _ _ H1202 fr1203 hle1204 hd1205
           obtain ⟨hv1207, hg1208⟩ := hd1205 12 (by decide)
           obtain ⟨b1209, hv1210, hg1211, hp1212⟩ := hd1205 16 (by decide)
           refine ⟨_, (app ([] : List Judge_seen) ([(⟨x1, y18⟩ : Judge_seen)] : List Judge_seen)).bind some, by rw [h1010]; rfl, fun _ => ?_⟩
           refine Zag (env' := [(72, .slice none 0 0), (76, .slice (some ⟨b1209, 0, none⟩) ([(⟨x1, y18⟩ : Judge_seen)] : List Judge_seen).length 1)]) (by exact ⟨congrArg some hv1207, congrArg some hv1210, trivial⟩) ?_
           refine ZbL (own' := [.blk b1 (Zak (cE x1 a1_0 c1_0) 44), .blk mb (.map es c), .osl (.slice (some ⟨b1209, 0, none⟩) ([(⟨x1, y18⟩ : Judge_seen)] : List Judge_seen).length 1) 9 144 [[.int .i64 x1.Switch, .int .i64 x1.Port, .int .i64 x1.Ver, .int .i64 x1.Id, .int .u8 x1.H.e0, .int .u8 x1.H.e1, .int .u8 x1.H.e2, .slice a1_0 x1.Sent.length c1_0, .int .i64 y18]]] ++ fr1203) (by simp only [List.flatMap_cons, List.flatMap_nil, List.append_nil, hg1211]; rfl) ?_
           refine Znb (sz := 9) (t := 144) ?_
           have hA1214 : All2 (GoT.rep H1202) [] ([] : List Judge_seen) := Zbv
           refine ZcP (own' := [.blk b1 (Zak (cE x1 a1_0 c1_0) 44), .blk mb (.map es c), .osl (.slice (some ⟨b1209, 0, none⟩) ([(⟨x1, y18⟩ : Judge_seen)] : List Judge_seen).length 1) 9 144 [[.int .i64 x1.Switch, .int .i64 x1.Port, .int .i64 x1.Ver, .int .i64 x1.Id, .int .u8 x1.H.e0, .int .u8 x1.H.e1, .int .u8 x1.H.e2, .slice a1_0 x1.Sent.length c1_0, .int .i64 y18]], .osl (.slice none ([] : List Judge_seen).length 0) 9 144 []] ++ fr1203) (pm3 (a := [.blk b1 (Zak (cE x1 a1_0 c1_0) 44), .blk mb (.map es c), .osl (.slice (some ⟨b1209, 0, none⟩) ([(⟨x1, y18⟩ : Judge_seen)] : List Judge_seen).length 1) 9 144 [[.int .i64 x1.Switch, .int .i64 x1.Port, .int .i64 x1.Ver, .int .i64 x1.Id, .int .u8 x1.H.e0, .int .u8 x1.H.e1, .int .u8 x1.H.e2, .slice a1_0 x1.Sent.length c1_0, .int .i64 y18]]]) (xs := [.osl (.slice none ([] : List Judge_seen).length 0) 9 144 []])) ?_
           refine Zfl 3 2 rfl rfl rfl hA1214 rfl hp1212 fun a1215 c1216 h1217 hA1218 => ?_
           exact ZbV fun _ _ _ hE hI => ⟨(.slice a1215 (([] : List Judge_seen) ++ ([(⟨x1, y18⟩ : Judge_seen)] : List Judge_seen)).length c1216), [.osl (.slice (some ⟨b1209, 0, none⟩) ([(⟨x1, y18⟩ : Judge_seen)] : List Judge_seen).length 1) 9 144 [[.int .i64 x1.Switch, .int .i64 x1.Port, .int .i64 x1.Ver, .int .i64 x1.Id, .int .u8 x1.H.e0, .int .u8 x1.H.e1, .int .u8 x1.H.e2, .slice a1_0 x1.Sent.length c1_0, .int .i64 y18]], .osl (.slice a1215 (([] : List Judge_seen) ++ ([(⟨x1, y18⟩ : Judge_seen)] : List Judge_seen)).length c1216) 9 144 (([]) ++ ([[.int .i64 x1.Switch, .int .i64 x1.Port, .int .i64 x1.Ver, .int .i64 x1.Id, .int .u8 x1.H.e0, .int .u8 x1.H.e1, .int .u8 x1.H.e2, .slice a1_0 x1.Sent.length c1_0, .int .i64 y18]]))], _, fun _ e => (by cases e; exact hE _ _ rfl), .refl _, by exact hI, ⟨a1215, c1216, b1209, rfl, rfl, hp1212, hA1218⟩⟩
          exact dnil
         ·intro V1221 G1222 H1219 hle1220 hF1223
          have hR1228 := MapR.mono hle1220 hR3
          obtain ⟨hv1229, hg1230⟩ := hF1223 3 (show 3 < 18 by decide)
          obtain ⟨hv1231, hg1232⟩ := hF1223 5 (show 5 < 18 by decide)
          obtain ⟨a1233, c1234, b1235, hv1236, hg1237, hp1238, hp1239⟩ := hF1223 17 (show 17 < 18 by decide)
          refine Zag (env' := [(63, .map (some mb)), (65, .int .i64 x1.Id), (77, .slice a1233 (([] : List Judge_seen) ++ ([(⟨x1, y18⟩ : Judge_seen)] : List Judge_seen)).length c1234), (0, .pointer (some ⟨bq0, oq0, none⟩)), (3, .pointer (some ⟨b1, 0, none⟩)), (7, .int .i64 y18)]) (by exact ⟨congrArg some hv1229, congrArg some hv1231, congrArg some hv1236, rfl, rfl, rfl, trivial⟩) ?_
          refine Zg8 (js := [17]) rfl ?_
          refine ZbL (own' := [.blk b1 (Zak (cE x1 a1_0 c1_0) 44), .blk mb (.map es c), .osl (.slice (some ⟨b1235, 0, none⟩) ([(⟨x1, y18⟩ : Judge_seen)] : List Judge_seen).length 1) 9 144 [[.int .i64 x1.Switch, .int .i64 x1.Port, .int .i64 x1.Ver, .int .i64 x1.Id, .int .u8 x1.H.e0, .int .u8 x1.H.e1, .int .u8 x1.H.e2, .slice a1_0 x1.Sent.length c1_0, .int .i64 y18]], .osl (.slice a1233 (([] : List Judge_seen) ++ ([(⟨x1, y18⟩ : Judge_seen)] : List Judge_seen)).length c1234) 9 144 (([]) ++ ([[.int .i64 x1.Switch, .int .i64 x1.Port, .int .i64 x1.Ver, .int .i64 x1.Id, .int .u8 x1.H.e0, .int .u8 x1.H.e1, .int .u8 x1.H.e2, .slice a1_0 x1.Sent.length c1_0, .int .i64 y18]]))]) (by simp only [List.flatMap_cons, List.flatMap_nil, List.append_nil, hg1237]; rfl) ?_
          refine ZjU (kt := 3) (et := 147) (vs := [.slice a1233 (([] : List Judge_seen) ++ ([(⟨x1, y18⟩ : Judge_seen)] : List Judge_seen)).length c1234]) 1 rfl rfl hR1228 x1.Id rfl (⟨a1233, (([] : List Judge_seen) ++ ([(⟨x1, y18⟩ : Judge_seen)] : List Judge_seen)).length, c1234⟩ : RawSl) rfl rfl fun es1240 c1241 hR1242 => ?_
          refine Zac ?_
          refine Zd2 L3 hle1220 fun H4 hle4 => ?_
          refine Zae <| Zaa <| Zah rfl <| Zac ?_
          refine Zam (own' := [.blk mb (.map es1240 c1241), .osl (.slice a1233 ([(⟨x1, y18⟩ : Judge_seen)] : List Judge_seen).length c1234) 9 144 [[.int .i64 x1.Switch, .int .i64 x1.Port, .int .i64 x1.Ver, .int .i64 x1.Id, .int .u8 x1.H.e0, .int .u8 x1.H.e1, .int .u8 x1.H.e2, .slice a1_0 x1.Sent.length c1_0, .int .i64 y18]]] ++ rs) (by exact .cons _ (.cons_cons _ (.cons _ (.cons_cons _ (List.Sublist.refl _))))) ?_
          refine ZcP (own' := .blk mb (.map es1240 c1241) :: (rs ++ [.osl (.slice a1233 ([(⟨x1, y18⟩ : Judge_seen)] : List Judge_seen).length c1234) 9 144 [[.int .i64 x1.Switch, .int .i64 x1.Port, .int .i64 x1.Ver, .int .i64 x1.Id, .int .u8 x1.H.e0, .int .u8 x1.H.e1, .int .u8 x1.H.e2, .slice a1_0 x1.Sent.length c1_0, .int .i64 y18]]])) (List.Perm.cons _ (by show List.Perm (_ :: rs) _; exact (List.perm_append_singleton _ _).symm)) ?_
          have hA4 : All2 (GoT.rep H4) [[.int .i64 x1.Switch, .int .i64 x1.Port, .int .i64 x1.Ver, .int .i64 x1.Id, .int .u8 x1.H.e0, .int .u8 x1.H.e1, .int .u8 x1.H.e2, .slice a1_0 x1.Sent.length c1_0, .int .i64 y18]] ([(⟨x1, y18⟩ : Judge_seen)] : List Judge_seen) := Zcd ⟨_, _, rfl, RSl.mono (hleU.trans hle4) kx1_0⟩ Zbv
          have hset := (hO2.mono hle4).snoc (q := x1.Id) (a := a1233) (cap := c1234) hA4
          exact ZaF (xs := [.tmp 4]) (vs := [.int .i64 0]) (.blk mb (.map es1240 c1241) :: (rs ++ [.osl (.slice a1233 ([(⟨x1, y18⟩ : Judge_seen)] : List Judge_seen).length c1234) 9 144 [[.int .i64 x1.Switch, .int .i64 x1.Port, .int .i64 x1.Ver, .int .i64 x1.Id, .int .u8 x1.H.e0, .int .u8 x1.H.e1, .int .u8 x1.H.e2, .slice a1_0 x1.Sent.length c1_0, .int .i64 y18]]])) ZhN rfl ⟨Zaz rfl, trivial⟩ (List.Sublist.refl _) ⟨rfl, es1240, c1241, _, _, rfl, ZhI hR1242, by rw [ZeO hm, ZeO hmr]; exact hset⟩
  ·intro J190
   refine Zao rfl (fun h191 => ?_) (fun h191 => ?_)
   ·refine Zar ?_
    exact Zag (by exact ⟨rfl, rfl, rfl, rfl, rfl, trivial⟩) (Zam (by exact (.cons_cons _ .slnil)) (J190 (!y6.2) _ _ _ ⟨rfl, rfl, .refl _⟩))
   ·refine Zaa <| o_fa rfl <| o_ld 0 rfl rfl rfl <| ZaG rfl <| o_gt rfl rfl <| Zad rfl ?_
    refine Zax (decide ((x1.Sent.length : Int) > 0)) (fun h192 => ?_) (fun h192 => ?_)
    ·refine Zaf rfl rfl h192 <| Zad rfl <| Zaf rfl rfl h192 <| o_fa rfl <| Zaf rfl rfl h192 <| o_ld 0 rfl rfl rfl <| Zaf rfl rfl h192 <| o_fa rfl <| Zaf rfl rfl h192 <| o_ld 0 rfl rfl rfl <| Zaf rfl rfl h192 <| o_fa rfl ?_
     refine Zaf rfl rfl h192 <| o_ld 0 rfl rfl rfl <| Zaf rfl rfl h192 <| o_fa rfl <| Zaf rfl rfl h192 <| o_ld 0 rfl rfl rfl <| Zaf rfl rfl h192 ?_
     refine s_bg fun y193 h194 => ?_
     refine Zas rfl rfl (Zgf k _ y6.1 _ _ hs10 x1.Switch x1.Port x1.H x1.Sent _ _ hs17 h194) ?_
     refine Zaf rfl rfl h192 <| Zdc rfl <| Zan rfl h192 rfl <| Zah rfl <| Zac ?_
     exact Zag (by exact ⟨rfl, rfl, rfl, rfl, rfl, trivial⟩) (Zam (by exact (.cons_cons _ .slnil)) (J190 (!y193) _ _ _ ⟨rfl, rfl, .refl _⟩))
    ·refine Zab rfl rfl h192 <| Zab rfl rfl h192 <| Zab rfl rfl h192 <| Zab rfl rfl h192 <| Zab rfl rfl h192 <| Zab rfl rfl h192 <| Zab rfl rfl h192 <| Zab rfl rfl h192 <| Zab rfl rfl h192 <| Zab rfl rfl h192 <| Zab rfl rfl h192 <| Zal rfl h192 rfl ?_
     refine Zah rfl <| Zac ?_
     exact Zag (by exact ⟨rfl, rfl, rfl, rfl, rfl, trivial⟩) (Zam (by exact (.cons_cons _ .slnil)) (J190 false _ _ _ ⟨rfl, rfl, .refl _⟩))
end Go.Cat.G3

