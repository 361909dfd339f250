/- RlmC, RlmD, RlmE -/
import Derived.Test.YtkhphdkjnpcnnaaGreatDoorMg17
import Derived.Test.YtkhphdkjnpcnnaaGreatDoorMg23
import Derived.Test.YtkhphdkjnpcnnaaGreatDoorMg16
import Derived.Test.YtkhphdkjnpcnnaaGreatDoorMg6
import Derived.Test.YtkhphdkjnpcnnaaGreatDoorMg7
import Derived.Deep.LoopGhost
/- realm.change: walked. -/
namespace Go.Proofs.YtkhphdkjnpcnnaaGreatDoor
open Go.RowKit

/-- A function that has a body is entered. -/
theorem run_enter {P : Program} {f : FuncId} {fn : Func} {c : Code} (hf : P.funcs[f]? = some fn) (hname : (fn.name == "runtime.NumGoroutine") = false) (hb : fn.body = some c) (args : Array Value) (w : World) :
    (callFunc f args).run P w = .ok (.enter f args) w := by
  have h1 : fn.name ≠ "runtime.NumGoroutine" := by simpa using hname
  simp [callFunc, hf, h1, hb]
theorem ents_who {L : List Ent} (h : (checkE L).1 = 0) : ∀ e ∈ L, e.f.who.length ≤ maxLen := fun e he => by
  obtain ⟨i, hi, rfl⟩ := List.getElem_of_mem he
  have := (time_of h hi).2.2.2
  rw [getD_get hi] at this
  unfold maxLen
  rcases (oneF_zero this).1 with hw | hw
  · rw [hw]; decide
  · have := ((isName_iff _).1 hw).2.1
    omega
set_option maxRecDepth 100000 in
theorem copy_new (b r : Nat) (L : List Per) (w : World) (hB : BookAt w b r L) :
    Calls Tryz.prog 75 #[.pointer (some ⟨b, 0, none⟩)] w fun e w' => ∃ b2 r2, e = .returned (.pointer (some ⟨b2, 0, none⟩)) ∧ BookAt w' b2 r2 L ∧ w.heap.size ≤ b2 ∧ w.heap.size ≤ r2 ∧ Below w.heap.size w w' := by
  have hc := hB.at0
  obtain ⟨l, ⟨es, clock, hb, hs, hk, hl⟩, hp⟩ := hB.map
  have hcl := Lib.hid (clone_book r es clock w hb)
  have hfin : BookAt ((w.alloc (.map es clock)).alloc (.cells #[.map (some w.heap.size)] 134)) (w.heap.size + 1) w.heap.size L := by
    refine ⟨?_, ⟨l, ?_, hp⟩, hB.sorted⟩
    · have := heap_alloc_new (w.alloc (.map es clock)) (.cells #[.map (some w.heap.size)] 134)
      rwa [World.size_alloc] at this
    · exact MapV.below (w := w.alloc (.map es clock)) ⟨es, clock, heap_alloc_new w _, hs, hk, hl⟩ ((Below.refl _ _).alloc (Nat.le_refl _) _)
  have hfin := Lib.hid hfin
  clear hb hs hk hl hp
  go_enter Tryz.func75, Tryz.ntmps75
  go_wp2_with fail
  refine hcl.out.mono ?_
  rintro e w1 ⟨rfl, rfl⟩
  go_wp2_with fail
  go_ret
  exact ⟨_, _, rfl, hfin.out, Nat.le_succ _, Nat.le_refl _, ((Below.refl _ _).alloc (Nat.le_refl _) _).alloc (by simp) _⟩
theorem RlmAt.lt {w : World} {base a b r : Nat} {R : Rlm} (h : RlmAt w base a b r R) : a < w.heap.size := by
  obtain ⟨vl, h1, _⟩ := h.blk
  exact (Array.getElem?_eq_some_iff.1 h1).1
/-- What a change asks of what it does. -/
def DoIs (E : Nat → Addr) (g : Nat) (cb : Array Value) (w : World) (L : List Per) (n : Int) (c : Nat) (B : List Per) : Prop :=
  ∀ wx b2 r2, Below w.heap.size w wx → BookAt wx b2 r2 L → w.heap.size ≤ b2 → w.heap.size ≤ r2 →
    Calls Tryz.prog g (#[.pointer (some ⟨b2, 0, none⟩)] ++ cb) wx fun e w' => e = .returned (.tuple #[.int .i64 n, errV E c]) ∧ Keeps (· = r2) wx w' ∧ (c = 0 → BookAt w' b2 r2 B)
/-- What a change of a realm hands back. -/
def ChgPost (E : Nat → Addr) (base a r : Nat) (w : World) (res : Int × Nat × Rlm) (e : Ending) (w' : World) : Prop :=
  e = .returned (.tuple #[.int .i64 res.1, errV E res.2.1]) ∧ (∃ b' r', RlmAt w' base a b' r' res.2.2) ∧ Keeps (RlmS a r) w w'
theorem ChgPost.mk {E : Nat → Addr} {base a r : Nat} {w w' : World} {res : Int × Nat × Rlm} {e : Ending} {z : Int} {c : Nat} {R' : Rlm} (h : res = (z, c, R')) (he : e = .returned (.tuple #[.int .i64 z, errV E c])) (hR : (∃ b' r', RlmAt w' base a b' r' R') ∧ Keeps (RlmS a r) w w') : ChgPost E base a r w res e w' := by
  subst h
  exact ⟨he, hR⟩
set_option maxHeartbeats 4000000 in
set_option maxRecDepth 100000 in
theorem change_any {E : Nat → Addr} {base a b r : Nat} {R : Rlm} (who : List UInt8) (g : Nat) (cb : Array Value) (n : Int) (c : Nat) (B : List Per) (w : World) (hL : LaidS E w) (hR : RlmAt w base a b r R) (hG : GoodM R) (hwho : who.length ≤ maxLen)
    (hcf : ∀ (args : Array Value) (wx : World), (callFunc g args).run Tryz.prog wx = .ok (.enter g args) wx) (hdo : DoIs E g cb w R.b n c B) :
    Calls Tryz.prog 60 #[.pointer (some ⟨a, 0, none⟩), .string (bs who), .func (.func g) #[] cb] w (ChgPost E base a r w (if c ≠ 0 then (0, c, R) else changeM R who n B)) := by
  generalize hres : (if c ≠ 0 then (0, c, R) else changeM R who n B) = res
  have hres := Lib.hid hres
  obtain ⟨al, cl, ⟨_, _, c2, _, c4, c5⟩, _, hrow⟩ := hR.cells
  have hcp := Lib.hid (copy_new b r R.b w hR.book)
  have hq := Lib.hid (show changeM R who n B = if (addE R.l R.time ⟨who, n⟩).2.1 ≠ 0 then (0, (addE R.l R.time ⟨who, n⟩).2.1, R) else (n, 0, { R with b := B, l := (addE R.l R.time ⟨who, n⟩).1 }) from rfl)
  have hRw := Lib.hid (fun wx (hx : Below w.heap.size w wx) => hR.below hx)
  have hLw := Lib.hid (fun wx (hx : Below w.heap.size w wx) => hL.below hx)
  have hfin0 := Lib.hid (fun wx (hx : Below w.heap.size w wx) => (show (∃ b' r', RlmAt wx base a b' r' R) ∧ Keeps (RlmS a r) w wx from ⟨⟨_, _, hR.below hx⟩, Keeps.of_below hx⟩))
  have had := Lib.hid (fun wx (hx : Below w.heap.size w wx) => add_ent (E := E) (.slice al R.l.length cl) R.l R.time ⟨who, n⟩ wx (hL.below hx).laid (RowG.at_ (hrow.below hx)) (ents_who (by rw [hG.f])) hwho)
  have hge := hR.ge
  have hlt := hR.lt
  have hdo := Lib.hid hdo
  obtain ⟨rk, rl, rt, rs, rb, rL⟩ := R
  dsimp only at *
  have hlen := hrow.at_.len
  clear hR hL hG hrow
  go_enter Tryz.func60, Tryz.ntmps60
  go_wp2_with fail
  refine hcp.out.mono ?_
  rintro e w1 ⟨b2, r2, rfl, hB2, hg1, hg2, hb⟩
  have hdo := Lib.hid (hdo.out w1 b2 r2 hb hB2 hg1 hg2)
  have hK1 := Lib.hid hb
  have c2H := Lib.hid c2
  have c5H := Lib.hid c5
  clear hB2 hb hcp c2 c4 c5
  go_wp2_with fail
  refine hdo.out.mono ?_
  rintro e w2 ⟨rfl, hk, hB⟩
  have hK2 := Lib.hid (hK1.out.trans (hk.below (B := w.heap.size) hK1.out.size (fun k hk => by omega)))
  have hB := Lib.hid hB
  clear hk hdo
  by_cases hc0 : c = 0
  case neg =>
    have hfin := Lib.hid (hfin0.out _ hK2.out)
    obtain ⟨T1, x1, hev⟩ := errV_ifc E hc0
    simp only [hev]
    go_wp2_with fail
    go_ret2
    exact .mk (by rw [← hres.out, if_pos hc0]) (by rw [hev]; rfl) hfin.out
  subst hc0
  simp only [errV]
  have c2 := cell_below hK2.out c2H.out
  have c5 := cell_below hK2.out c5H.out
  have had := Lib.hid (fun wx (hx : Below w2.heap.size w2 wx) => had.out wx (below_trans hK2.out hx))
  generalize addE rL rt ⟨who, n⟩ = ad at *
  obtain ⟨al5, ac5, aa5⟩ := ad
  dsimp only [Flo.val] at *
  have hS5 := Lib.hid (fun wx (hx : Below w2.heap.size w2 wx) => (show wx.cell? ⟨a, 5, none⟩ = some (.slice al rL.length cl) ∧ wx.cell? ⟨a, 2, none⟩ = some (.int .i64 rt) from ⟨cell_below hx c5, cell_below hx c2⟩))
  have hD0 := Lib.hid (show Below w2.heap.size w2 w2.drew from (Below.refl _ _).drew)
  clear c2 c5
  go_upto_region 5 with fail
  go_cut [10, 11] from 10 to 40 (fun s10 s11 wx => ∃ v5 ev5, s10 = ev5 ∧ s11 = v5 ∧ Hid (Below w2.heap.size w2 wx ∧ RowG entC wx w2.heap.size 115 v5 al5 ∧ ErrAt E wx ev5 ac5 aa5))
  case first =>
    refine wp_region_noPanic ?_
    refine wp_region_held_drew (S := fun wx => wx.cell? ⟨a, 5, none⟩ = some (.slice al rL.length cl) ∧ wx.cell? ⟨a, 2, none⟩ = some (.int .i64 rt)) (by kernel_rfl) ?_ (fun hHeld => ?_)
    · exact hS5.out _ hD0.out
    refine' held_take (i := 0) (d := some 27) (v := _) rfl rfl (by kernel_rfl) (by kernel_rfl) (by kernel_rfl) (fun _ _ _ h => h) rfl (by assumption) ?hy_1 ?re_1
    case hy_1 =>
      intro w hSw
      try dsimp only at hSw
      go_simp
      try with_reducible rfl
    simp only [Act.put, List.setIfInBounds_toArray, List.set_cons_zero, List.set_cons_succ]
    refine' held_take (i := 1) (d := some 28) (v := _) rfl rfl (by kernel_rfl) (by kernel_rfl) (by kernel_rfl) (fun _ _ _ h => h) rfl (by assumption) ?hy_2 ?re_2
    case hy_2 =>
      intro w hSw
      try dsimp only at hSw
      go_simp
      try with_reducible rfl
    simp only [Act.put, List.setIfInBounds_toArray, List.set_cons_zero, List.set_cons_succ]
    refine' held_take (i := 2) (d := some 29) (v := _) rfl rfl (by kernel_rfl) (by kernel_rfl) (by kernel_rfl) (fun _ _ _ h => h) rfl (by assumption) ?hy_3 ?re_3
    case hy_3 =>
      intro w hSw
      try dsimp only at hSw
      go_simp
      try with_reducible rfl
    simp only [Act.put, List.setIfInBounds_toArray, List.set_cons_zero, List.set_cons_succ]
    refine' held_take (i := 3) (d := some 30) (v := _) rfl rfl (by kernel_rfl) (by kernel_rfl) (by kernel_rfl) (fun _ _ _ h => h) rfl (by assumption) ?hy_4 ?re_4
    case hy_4 =>
      intro w hSw
      try dsimp only at hSw
      go_simp
      try with_reducible rfl
    simp only [Act.put, List.setIfInBounds_toArray, List.set_cons_zero, List.set_cons_succ]
    refine' held_take (i := 4) (d := some 31) (v := _) rfl rfl (by kernel_rfl) (by kernel_rfl) (by kernel_rfl) (fun _ _ _ h => h) rfl (by assumption) ?hy_5 ?re_5
    case hy_5 =>
      intro w hSw
      try dsimp only at hSw
      go_simp
      try with_reducible rfl
    simp only [Act.put, List.setIfInBounds_toArray, List.set_cons_zero, List.set_cons_succ]
    refine' held_take (i := 5) (d := some 32) (v := _) rfl rfl (by kernel_rfl) (by kernel_rfl) (by kernel_rfl) (fun _ _ _ h => h) rfl (by assumption) ?hy_6 ?re_6
    case hy_6 =>
      intro w hSw
      try dsimp only at hSw
      go_simp
      try with_reducible rfl
    simp only [Act.put, List.setIfInBounds_toArray, List.set_cons_zero, List.set_cons_succ]
    refine' held_take (i := 6) (d := some 33) (v := _) rfl rfl (by kernel_rfl) (by kernel_rfl) (by kernel_rfl) (fun _ _ _ h => h) rfl (by assumption) ?hy_7 ?re_7
    case hy_7 =>
      intro w hSw
      try dsimp only at hSw
      go_simp
      try with_reducible rfl
    simp only [Act.put, List.setIfInBounds_toArray, List.set_cons_zero, List.set_cons_succ]
    refine' held_take (i := 7) (d := some 34) (v := _) rfl rfl (by kernel_rfl) (by kernel_rfl) (by kernel_rfl) (fun _ _ _ h => h) rfl (by assumption) ?hy_8 ?re_8
    case hy_8 =>
      intro w hSw
      try dsimp only at hSw
      go_simp
      try with_reducible rfl
    simp only [Act.put, List.setIfInBounds_toArray, List.set_cons_zero, List.set_cons_succ]
    refine' held_take (i := 8) (d := some 35) (v := _) rfl rfl (by kernel_rfl) (by kernel_rfl) (by kernel_rfl) (fun _ _ _ h => h) rfl (by assumption) ?hy_9 ?re_9
    case hy_9 =>
      intro w hSw
      try dsimp only at hSw
      go_simp
      try with_reducible rfl
    simp only [Act.put, List.setIfInBounds_toArray, List.set_cons_zero, List.set_cons_succ]
    refine' held_take (i := 9) (d := some 36) (v := _) rfl rfl (by kernel_rfl) (by kernel_rfl) (by kernel_rfl) (fun _ _ _ h => h) rfl (by assumption) ?hy_10 ?re_10
    case hy_10 =>
      intro w hSw
      try dsimp only at hSw
      go_simp
      try with_reducible rfl
    simp only [Act.put, List.setIfInBounds_toArray, List.set_cons_zero, List.set_cons_succ]
    refine' held_take (i := 10) (d := some 37) (v := _) rfl rfl (by kernel_rfl) (by kernel_rfl) (by kernel_rfl) (fun _ _ _ h => h) rfl (by assumption) ?hy_11 ?re_11
    case hy_11 =>
      intro w hSw
      try dsimp only at hSw
      go_simp
      try with_reducible rfl
    simp only [Act.put, List.setIfInBounds_toArray, List.set_cons_zero, List.set_cons_succ]
    refine wpAnyH_ready (rs := [11]) (by kernel_rfl) (by simp) ?_
    refine AllReadyH.cons rfl (fun K hK => ?_) AllReadyH.nil
    go_simp
    refine (had.out _ hD0.out).mono ?_
    rintro e wd ⟨⟨v5, ev5, rfl, hv5, he5⟩, hb⟩
    have hDc := Lib.hid (below_trans hD0.out hb)
    have hfz := Lib.hid (show Below w2.heap.size w2 wd ∧ RowG entC wd w2.heap.size 115 v5 al5 ∧ ErrAt E wd ev5 ac5 aa5 from ⟨hDc.out, RowG.mono hv5 (Below.refl w2.heap.size w2).drew.size, he5⟩)
    clear hb hv5 he5
    go_wp2_with fail
    refine hK.out _ _ ?_ (fun hHeld => ?_)
    · exact hS5.out _ hDc.out
    clear hK K
    try simp only [Act.put, List.setIfInBounds_toArray, List.set_cons_zero, List.set_cons_succ]
    refine' held_take (i := 12) (d := some 26) (v := _) rfl rfl (by kernel_rfl) (by kernel_rfl) (by kernel_rfl) (fun _ _ _ h => h) rfl (by assumption) ?hy_12 ?re_12
    case hy_12 =>
      intro w hSw
      try dsimp only at hSw
      go_simp
      try with_reducible rfl
    simp only [Act.put, List.setIfInBounds_toArray, List.set_cons_zero, List.set_cons_succ]
    refine' held_take (i := 13) (d := some 39) (v := _) rfl rfl (by kernel_rfl) (by kernel_rfl) (by kernel_rfl) (fun _ _ _ h => h) rfl (by assumption) ?hy_13 ?re_13
    case hy_13 =>
      intro w hSw
      try dsimp only at hSw
      go_simp
      try with_reducible rfl
    simp only [Act.put, List.setIfInBounds_toArray, List.set_cons_zero, List.set_cons_succ]
    refine' held_take (i := 14) (d := some 40) (v := _) rfl rfl (by kernel_rfl) (by kernel_rfl) (by kernel_rfl) (fun _ _ _ h => h) rfl (by assumption) ?hy_14 ?re_14
    case hy_14 =>
      intro w hSw
      try dsimp only at hSw
      go_simp
      try with_reducible rfl
    simp only [Act.put, List.setIfInBounds_toArray, List.set_cons_zero, List.set_cons_succ]
    refine' held_take (i := 15) (d := some 11) (v := _) rfl rfl (by kernel_rfl) (by kernel_rfl) (by kernel_rfl) (fun _ _ _ h => h) rfl (by assumption) ?hy_15 ?re_15
    case hy_15 =>
      intro w hSw
      try dsimp only at hSw
      go_simp
      try with_reducible rfl
    simp only [Act.put, List.setIfInBounds_toArray, List.set_cons_zero, List.set_cons_succ]
    refine' held_take (i := 16) (d := some 10) (v := _) rfl rfl (by kernel_rfl) (by kernel_rfl) (by kernel_rfl) (fun _ _ _ h => h) rfl (by assumption) ?hy_16 ?re_16
    case hy_16 =>
      intro w hSw
      try dsimp only at hSw
      go_simp
      try with_reducible rfl
    simp only [Act.put, List.setIfInBounds_toArray, List.set_cons_zero, List.set_cons_succ]
    refine wpAnyH_done (by kernel_rfl) ?_ _
    refine NoPanic.normal ?_
    go_wp2_with fail
    go_meet
    exact ⟨_, _, rfl, rfl, hfz⟩
  obtain ⟨v5, ev5, rfl, rfl, hX⟩ := hcut
  obtain ⟨hX1, hX2, hX3⟩ := hX.out
  have hK3 := Lib.hid (below_trans hK2.out hX1)
  clear hX hD0 hS5 had
  generalize wc = w3 at *
  by_cases ha0 : ac5 = 0
  case neg =>
    have hfin := Lib.hid (hfin0.out _ hK3.out)
    have hbr := Lib.hid (bare_err (E := E) _ ac5 aa5 w3 hX3)
    obtain ⟨T1, x1, hev⟩ := hX3.iface ha0
    subst hev
    clear hX1 hX2 hX3
    go_wp2_with fail
    refine hbr.out.mono ?_
    rintro e w5 ⟨rfl, rfl⟩
    go_wp2_with fail
    go_ret2
    exact .mk (by rw [← hres.out, if_neg (by simp), hq.out, if_pos ha0]) rfl hfin.out
  subst ha0
  obtain ⟨hev, _⟩ := hX3.zero rfl
  subst hev
  obtain ⟨ax, cx, hvx⟩ := RowG.sl hX2
  subst hvx
  have hbs : base ≤ w2.heap.size := by have := hK2.out.size; omega
  have hturn := Lib.hid ((hRw.out _ hK3.out).turned ((hB.out rfl).below hX1) (show base ≤ r2 by omega) (show a ≠ b2 by omega) (show a ≠ r2 by omega) (RowG.mono hX2 hbs))
  obtain ⟨al2, cl2, _, ⟨_, _, _, _, f4, f5⟩, _⟩ := (hRw.out _ hK3.out).cells
  have hfin := Lib.hid (keepsP_below hK3.out hturn.out.2)
  clear hX1 hX2 hX3
  go_wp2_with fail
  go_ret2
  exact .mk (by rw [← hres.out, if_neg (by simp), hq.out, if_neg (by simp)]) rfl ⟨⟨_, _, hturn.out.1⟩, hfin.out⟩
end Go.Proofs.YtkhphdkjnpcnnaaGreatDoor

/- realm.Revoke, Rekey: walked. -/
namespace Go.Proofs.YtkhphdkjnpcnnaaGreatDoor
open Go.RowKit

theorem GoodM.epochs {R : Rlm} (hG : GoodM R) : ∀ p ∈ R.b, 1 ≤ p.epoch ∧ p.epoch ≤ 1073741824 := hG.b.epoch
set_option maxRecDepth 100000 in
theorem revoke_do {E : Nat → Addr} (L : List Per) (n : List UInt8) (x : Addr) (w : World) (hL : Laid E w) (hx : w.cell? x = some (.string (bs n))) (hG : ∀ p ∈ L, 1 ≤ p.epoch ∧ p.epoch ≤ 1073741824) :
    DoIs E 61 #[.pointer (some x)] w L (raiseOf L n).1 (raiseOf L n).2.1 (raiseOf L n).2.2 := by
  intro wx b2 r2 hb hB h1 h2
  have hg := Lib.hid (raise_any (E := E) b2 r2 L n wx (hL.below hb) hB hG)
  have hc := cell_below hb hx
  clear hB hL hx
  show Calls Tryz.prog 61 #[.pointer (some ⟨b2, 0, none⟩), .pointer (some x)] wx _
  go_enter Tryz.func61, Tryz.ntmps61
  go_wp2_with fail
  refine hg.out.mono ?_
  rintro e w1 ⟨rfl, hk, hB⟩
  have hfin := Lib.hid (And.intro hk hB)
  clear hk hB
  go_wp2_with fail
  go_ret2
  exact ⟨rfl, hfin.out.1, fun _ => hfin.out.2⟩
set_option maxRecDepth 100000 in
theorem revokeM_any {E : Nat → Addr} {base a b r : Nat} {R : Rlm} (n : List UInt8) (w : World) (hL : LaidS E w) (hR : RlmAt w base a b r R) (hG : GoodM R) (hn : n.length ≤ maxLen) :
    Calls Tryz.prog 17 #[.pointer (some ⟨a, 0, none⟩), .string (bs n)] w (ChgPost E base a r w (revokeM R n)) := by
  have hA := (Below.refl w.heap.size w).alloc (Nat.le_refl _) (.cells #[.string (bs n)] 9)
  have hbx : (w.alloc (.cells #[.string (bs n)] 9)).cell? ⟨w.heap.size, 0, none⟩ = some (.string (bs n)) := by
    rw [cell_of_row _ _ _ _ _ _ (heap_alloc_new w (.cells #[.string (bs n)] 9))]
    rfl
  have hch := Lib.hid (change_any (E := E) n 61 #[.pointer (some ⟨w.heap.size, 0, none⟩)] (raiseOf R.b n).1 (raiseOf R.b n).2.1 (raiseOf R.b n).2.2 _ (hL.below hA) (hR.below hA) hG hn
    (fun args wx => run_enter Tryz.func61 (by kernel_rfl) rfl args wx) (revoke_do R.b n ⟨w.heap.size, 0, none⟩ _ (hL.below hA).laid hbx hG.epochs))
  have hA := Lib.hid hA
  have hq := Lib.hid (show (if (raiseOf R.b n).2.1 ≠ 0 then (0, (raiseOf R.b n).2.1, R) else changeM R n (raiseOf R.b n).1 (raiseOf R.b n).2.2) = revokeM R n from rfl)
  rw [hq.out] at hch
  generalize revokeM R n = res at *
  clear hbx hq hL hR hG
  go_enter Tryz.func17, Tryz.ntmps17
  go_wp2_with fail
  refine hch.out.mono ?_
  rintro e w1 ⟨rfl, h1, h2⟩
  have hfin := Lib.hid (show (∃ b' r', RlmAt w1 base a b' r' res.2.2) ∧ Keeps (RlmS a r) w w1 from ⟨h1, keepsP_below hA.out h2⟩)
  clear h1 h2
  go_wp2_with fail
  go_ret2
  exact ⟨rfl, hfin.out⟩
theorem epoch_getV (L : List Per) (n : List UInt8) : epochOf L n = (getV L n).epoch := by
  unfold epochOf getV
  cases findP L n <;> rfl
set_option maxRecDepth 100000 in
theorem rekey_do {E : Nat → Addr} (L : List Per) (n : List UInt8) (k : Int) (x y : Addr) (w : World) (hL : Laid E w) (hx : w.cell? x = some (.string (bs n))) (hy : w.cell? y = some (.int .i64 k)) (hS : SortedP L) (hG : ∀ p ∈ L, 1 ≤ p.epoch ∧ p.epoch ≤ 1073741824) :
    DoIs E 88 #[.pointer (some x), .pointer (some y)] w L (if (rekeyOf L n k).1 ≠ 0 then 0 else epochOf (rekeyOf L n k).2 n) (rekeyOf L n k).1 (rekeyOf L n k).2 := by
  intro wx b2 r2 hb hB h1 h2
  have hg := Lib.hid (rekey_any (E := E) b2 r2 L n k wx (hL.below hb) hB hG)
  have hcx := cell_below hb hx
  have hcy := cell_below hb hy
  have hgc : (rekeyOf L n k).1 = 0 → getC (rekeyOf L n k).2 n = 0 := fun h => by
    obtain ⟨p, hf, _, _, he⟩ := rekeyOf_some h
    obtain ⟨hp, rfl⟩ := findP_some hf
    have := findP_set (q := { p with key := k, epoch := p.epoch + 1 }) hS hp rfl
    rw [he]
    dsimp only at this ⊢
    unfold getC
    rw [this]
    rfl
  have hsz := hb.size
  have hltx : x.block < w.heap.size := World.block_lt_of_cell? w x hx
  have hLx := Lib.hid (fun w' (hw : Below w.heap.size w w') => hL.below hw)
  have hcx2 := Lib.hid (fun w' (hw : Below w.heap.size w w') => cell_below hw hx)
  have hbH := Lib.hid hb
  rw [epoch_getV]
  have hgv := Lib.hid (fun w' (hw : Laid E w') B (hB : BookAt w' b2 r2 B) => get_v (E := E) b2 r2 B n w' hw hB)
  generalize rekeyOf L n k = rk at *
  obtain ⟨rc, B⟩ := rk
  dsimp only at *
  generalize hz : (if rc ≠ 0 then 0 else (getV B n).epoch) = z
  have hz := Lib.hid hz
  clear hB hL hx hy hb
  show Calls Tryz.prog 88 #[.pointer (some ⟨b2, 0, none⟩), .pointer (some x), .pointer (some y)] wx _
  go_enter Tryz.func88, Tryz.ntmps88
  go_wp2_with fail
  refine hg.out.mono ?_
  rintro e w1 ⟨rfl, hk, hB⟩
  have hW1 := Lib.hid (hbH.out.trans (hk.below (B := w.heap.size) hbH.out.size (fun k hk => by omega)))
  have hkH := Lib.hid hk
  by_cases hc0 : rc = 0
  case neg =>
    obtain ⟨T1, x1, hev⟩ := errV_ifc E hc0
    have hz1 : z = 0 := by rw [← hz.out, if_pos hc0]
    subst hz1
    simp only [hev]
    clear hk hB hgc
    go_wp2_with fail
    go_ret2
    exact ⟨by rw [hev]; rfl, hkH.out, fun h => absurd h hc0⟩
  subst hc0
  have hgv := Lib.hid (hgv.out w1 (hLx.out _ hW1.out) B hB)
  have hcx := hcx2.out _ hW1.out
  rw [hgc rfl] at hgv
  have hz1 : z = (getV B n).epoch := by rw [← hz.out, if_neg (by simp)]
  subst hz1
  clear hz
  have hBH := Lib.hid hB
  clear hk hB hgc
  generalize hP : getV B n = P at *
  have hP := Lib.hid hP
  obtain ⟨pn, pk, pe, po⟩ := P
  dsimp only at *
  simp only [errV]
  go_wp2_with fail
  refine hgv.out.mono ?_
  rintro e w2 ⟨rfl, hb⟩
  have hfin := Lib.hid (hb.alloc hb.size (.cells #[.string (bs pn), .int .i64 pk, .int .i64 pe, .bool po] 46))
  clear hb
  simp only [errV]
  go_wp2_with fail
  go_ret2
  exact ⟨by first | rfl | (rw [hP.out]; rfl), hkH.out.trans (Keeps.of_below hfin.out), hBH.out.below hfin.out⟩
set_option maxRecDepth 100000 in
theorem rekeyM_any {E : Nat → Addr} {base a b r : Nat} {R : Rlm} (n : List UInt8) (k : Int) (w : World) (hL : LaidS E w) (hR : RlmAt w base a b r R) (hG : GoodM R) (hn : n.length ≤ maxLen) :
    Calls Tryz.prog 42 #[.pointer (some ⟨a, 0, none⟩), .string (bs n), .int .i64 k] w (ChgPost E base a r w (rekeyM R n k)) := by
  have hA := ((Below.refl w.heap.size w).alloc (Nat.le_refl _) (.cells #[.string (bs n)] 9)).alloc (by simp) (.cells #[.int .i64 k] 3)
  have hbx : ((w.alloc (.cells #[.string (bs n)] 9)).alloc (.cells #[.int .i64 k] 3)).cell? ⟨w.heap.size, 0, none⟩ = some (.string (bs n)) := by
    rw [cell_of_row _ _ _ _ _ _ (heap_down ((Below.refl _ _).alloc (Nat.le_refl _) (.cells #[.int .i64 k] 3)) (heap_alloc_new w (.cells #[.string (bs n)] 9)))]
    rfl
  have hby : ((w.alloc (.cells #[.string (bs n)] 9)).alloc (.cells #[.int .i64 k] 3)).cell? ⟨w.heap.size + 1, 0, none⟩ = some (.int .i64 k) := by
    have := heap_alloc_new (w.alloc (.cells #[.string (bs n)] 9)) (.cells #[.int .i64 k] 3)
    rw [World.size_alloc] at this
    rw [cell_of_row _ _ _ _ _ _ this]
    rfl
  have hch := Lib.hid (change_any (E := E) n 88 #[.pointer (some ⟨w.heap.size, 0, none⟩), .pointer (some ⟨w.heap.size + 1, 0, none⟩)] (if (rekeyOf R.b n k).1 ≠ 0 then 0 else epochOf (rekeyOf R.b n k).2 n) (rekeyOf R.b n k).1 (rekeyOf R.b n k).2 _ (hL.below hA) (hR.below hA) hG hn
    (fun args wx => run_enter Tryz.func88 (by kernel_rfl) rfl args wx) (rekey_do R.b n k ⟨w.heap.size, 0, none⟩ ⟨w.heap.size + 1, 0, none⟩ _ (hL.below hA).laid hbx hby hG.b.sorted hG.epochs))
  have hA := Lib.hid hA
  have hq := Lib.hid (show (if (rekeyOf R.b n k).1 ≠ 0 then (0, (rekeyOf R.b n k).1, R) else changeM R n (if (rekeyOf R.b n k).1 ≠ 0 then 0 else epochOf (rekeyOf R.b n k).2 n) (rekeyOf R.b n k).2) = rekeyM R n k by
    unfold rekeyM
    by_cases h : (rekeyOf R.b n k).1 ≠ 0
    · rw [if_pos h, if_pos h]
    · rw [if_neg h, if_neg h, if_neg h])
  rw [hq.out] at hch
  generalize rekeyM R n k = res at *
  clear hbx hby hq hL hR hG
  go_enter Tryz.func42, Tryz.ntmps42
  go_wp2_with fail
  refine hch.out.mono ?_
  rintro e w1 ⟨rfl, h1, h2⟩
  have hfin := Lib.hid (show (∃ b' r', RlmAt w1 base a b' r' res.2.2) ∧ Keeps (RlmS a r) w w1 from ⟨h1, keepsP_below hA.out h2⟩)
  clear h1 h2
  go_wp2_with fail
  go_ret2
  exact ⟨rfl, hfin.out⟩
end Go.Proofs.YtkhphdkjnpcnnaaGreatDoor

/- realm.Flush: walked. -/
namespace Go.Proofs.YtkhphdkjnpcnnaaGreatDoor
open Go.RowKit

theorem maxE_take {L : List Per} {j : Nat} (h : j < L.length) : maxE (L.take (j + 1)) = max (maxE (L.take j)) L[j].epoch := by
  rw [List.take_succ_eq_append_getElem h, maxE_snoc]
theorem maxE_bd : ∀ (L : List Per), (∀ p ∈ L, p.epoch ≤ 1073741824) → maxE L ≤ 1073741824 := by
  intro L
  induction L using snoc_ind with
  | nil => intro _; decide
  | snoc L e ih =>
    intro h
    rw [maxE_snoc]
    have h1 := ih (fun p hp => h p (List.mem_append_left _ hp))
    have h2 := h e (by simp)
    omega
theorem mixB_epochs {L : List Per} {j : Nat} {n : Int} (hG : ∀ p ∈ L, 1 ≤ p.epoch ∧ p.epoch ≤ 1073741824) (h1 : 1 ≤ n) (h2 : n ≤ 1073741824) : ∀ p ∈ mixB L j n, 1 ≤ p.epoch ∧ p.epoch ≤ 1073741824 := fun p hp => by
  unfold mixB at hp
  rcases List.mem_append.1 hp with h | h
  · obtain ⟨q, _, rfl⟩ := List.mem_map.1 h
    exact ⟨h1, h2⟩
  · exact hG p (List.mem_of_mem_drop h)
set_option maxHeartbeats 4000000 in
set_option maxRecDepth 100000 in
theorem flush_do {E : Nat → Addr} (L : List Per) (w : World) (hL : Laid E w) (hS : SortedP L) (hk : ∀ p ∈ L, p.name.length ≤ maxLen) (hm : L.length ≤ 20) (hG : ∀ p ∈ L, 1 ≤ p.epoch ∧ p.epoch ≤ 1073741824) :
    DoIs E 69 #[] w L (if 1073741824 ≤ maxE L then 0 else maxE L + 1) (if 1073741824 ≤ maxE L then 2 else 0) (flushB L) := by
  intro wx b2 r2 hb hB h1 h2
  have hlr : r2 < wx.heap.size := by
    obtain ⟨l, hm, _⟩ := hB.map
    exact hm.lt
  have hall := Lib.hid (all_any b2 r2 L wx hB hk hm)
  have hall2 := Lib.hid (fun w' (hx : Below wx.heap.size wx w') => all_any b2 r2 L w' (hB.below hx) hk hm)
  have hBw := Lib.hid (fun w' (hx : Below wx.heap.size wx w') => hB.below hx)
  have hLw := Lib.hid (fun w' (hx : Below w.heap.size w w') => hL.below hx)
  have hbH := Lib.hid hb
  generalize hz : (if 1073741824 ≤ maxE L then (0 : Int) else maxE L + 1) = z
  generalize hcz : (if 1073741824 ≤ maxE L then (2 : Nat) else 0) = cz
  have hz := Lib.hid hz
  have hcz := Lib.hid hcz
  have hfl : flushB L = mixB L L.length (maxE L + 1) := (mixB_all L _).symm
  rw [hfl]
  have hnn := maxE_nonneg L
  have hbd := maxE_bd L (fun p hp => (hG p hp).2)
  clear hB hL hb hfl
  show Calls Tryz.prog 69 #[.pointer (some ⟨b2, 0, none⟩)] wx _
  go_enter Tryz.func69, Tryz.ntmps69
  go_wp2_with fail
  refine hall.out.mono ?_
  rintro e w1 ⟨v1, rfl, hp1, _, hb1⟩
  have hp1w := Lib.hid (fun w' (hx : Below w1.heap.size w1 w') => hp1.below hx)
  obtain ⟨a1, c1, rfl, _, _⟩ := hp1
  have hb1H := Lib.hid hb1
  clear hb1 hall
  go_wp2_with fail
  go_loopg [4, 12] (L.length + 1) (fun g v4 i wr => ∃ (j : Nat), i = .int .i64 j ∧ v4 = .int .i64 (maxE (L.take j)) ∧ j ≤ L.length ∧ L.length - j + 1 ≤ g ∧ Hid (Below w1.heap.size w1 wr))
  case atStart => exact ⟨0, rfl, rfl, Nat.zero_le _, by omega, Lib.hid (Below.refl _ _)⟩
  case round =>
    obtain ⟨j, rfl, rfl, hj, hgj, hK⟩ := hrel
    by_cases hlt : j < L.length
    · have hk0 : (0 : Int) ≤ (j : Int) := by omega
      have hk1 : (j : Int) < (L.length : Int) := by omega
      obtain ⟨_, _, he, _, hc⟩ := hp1w.out _ hK.out
      cases he
      obtain ⟨b, o, rfl, d0, d1, d2, d3⟩ := hc j hlt
      have hmt := maxE_take hlt
      have hfin := Lib.hid (hK.out.alloc hK.out.size (.cells #[.string (bs L[j].name), .int .i64 L[j].key, .int .i64 L[j].epoch, .bool L[j].off] 46))
      clear hc
      go_wp2_with fail
      go_roundg (L.length - j)
      case measure => omega
      case rel => exact ⟨j + 1, by simp, by rw [hmt], hlt, by omega, hfin⟩
    · have hge : ¬ ((j : Int) < (L.length : Int)) := by omega
      have hj2 : j = L.length := by omega
      subst hj2
      rw [List.take_length]
      by_cases hx : 1073741824 ≤ maxE L
      · have hz1 : z = 0 := by rw [← hz.out, if_pos hx]
        have hc1 : cz = 2 := by rw [← hcz.out, if_pos hx]
        subst hz1
        subst hc1
        have hW := Lib.hid (below_trans hb1H.out hK.out)
        have he := (hLw.out _ (below_trans hbH.out hW.out)).e2
        have hfin := Lib.hid (fun k => Keeps.of_below (S := (· = r2)) (below_drawn hW.out k))
        go_wp2_with fail
        go_quiet (fail)
        go_wp2_with fail
        go_ret2
        exact ⟨rfl, hfin.out _, fun h => absurd h (by decide)⟩
      · have hz1 : z = maxE L + 1 := by rw [← hz.out, if_neg hx]
        have hc1 : cz = 0 := by rw [← hcz.out, if_neg hx]
        subst hz1
        subst hc1
        have hW := Lib.hid (below_trans hb1H.out hK.out)
        have hall2 := Lib.hid (hall2.out _ hW.out)
        go_wp2_with fail
        refine hall2.out.mono ?_
        rintro e w2 ⟨v2, rfl, hp2, hown, hb2⟩
        have hW2 := Lib.hid (below_trans hW.out hb2)
        have hnr : ∀ x, v2.ownBlock = some x → ¬ x = r2 := fun x hx e => by
          have := hown x hx
          have := hW.out.size
          omega
        have hp2w := Lib.hid (fun w' (hx : Keeps (· = r2) w2 w') => hp2.keeps hx hnr)
        obtain ⟨a2, c2, rfl, _, _⟩ := hp2
        have hB2 := Lib.hid (hBw.out _ hW2.out)
        clear hb2 hall2 hown hnr
        go_wp2_with fail
        go_loopg [27] (L.length + 1) (fun g i wr => ∃ (j : Nat), i = .int .i64 j ∧ j ≤ L.length ∧ L.length - j + 1 ≤ g ∧ Hid (Keeps (· = r2) w2 wr) ∧ Hid (BookAt wr b2 r2 (mixB L j (maxE L + 1))))
        case atStart => exact ⟨0, rfl, Nat.zero_le _, by omega, Lib.hid (Keeps.of_below (Below.refl _ _)), by rw [mixB_zero]; exact hB2⟩
        case round =>
          obtain ⟨j, rfl, hj, hgj, hK, hB⟩ := hrel
          by_cases hlt : j < L.length
          · have hk0 : (0 : Int) ≤ (j : Int) := by omega
            have hk1 : (j : Int) < (L.length : Int) := by omega
            obtain ⟨_, _, he, _, hc⟩ := hp2w.out _ hK.out
            cases he
            obtain ⟨b, o, rfl, d0, d1, d2, d3⟩ := hc j hlt
            have hle := maxE_le (List.getElem_mem hlt)
            have hmx := mixB_to (n := maxE L + 1) hS hlt (by omega)
            have hbA := (Below.refl wr.heap.size wr).alloc (Nat.le_refl _) (.cells #[.string (bs L[j].name), .int .i64 L[j].key, .int .i64 L[j].epoch, .bool L[j].off] 46)
            have hto := Lib.hid (to_any b2 r2 (mixB L j (maxE L + 1)) L[j].name (maxE L + 1) _ (hB.out.below hbA) (by omega) (by omega) (mixB_epochs hG (by omega) (by omega)))
            rw [hmx] at hto
            have hbA := Lib.hid (hK.out.trans (Keeps.of_below hbA))
            clear hc hmx hle
            go_wp2_with fail
            refine hto.out.mono ?_
            rintro e w3 ⟨rfl, hk3, hB3⟩
            have hK3 := Lib.hid (hbA.out.trans hk3)
            have hB3 := Lib.hid hB3
            clear hk3
            go_wp2_with fail
            go_roundg (L.length - j)
            case measure => omega
            case rel => exact ⟨j + 1, by simp, hlt, by omega, hK3, hB3⟩
          · have hge : ¬ ((j : Int) < (L.length : Int)) := by omega
            have hj2 : j = L.length := by omega
            subst hj2
            have hfin := Lib.hid ((Keeps.of_below (S := (· = r2)) hW2.out).trans hK.out)
            go_wp2_with fail
            go_ret2
            exact ⟨rfl, hfin.out, hB.out⟩
set_option maxRecDepth 100000 in
theorem flushM_any {E : Nat → Addr} {base a b r : Nat} {R : Rlm} (w : World) (hL : LaidS E w) (hR : RlmAt w base a b r R) (hG : GoodM R) :
    Calls Tryz.prog 22 #[.pointer (some ⟨a, 0, none⟩)] w (ChgPost E base a r w (flushM R)) := by
  have hch := Lib.hid (change_any (E := E) starW 69 #[] (if 1073741824 ≤ maxE R.b then 0 else maxE R.b + 1) (if 1073741824 ≤ maxE R.b then 2 else 0) (flushB R.b) w hL hR hG (by decide)
    (fun args wx => run_enter Tryz.func69 (by kernel_rfl) rfl args wx) (flush_do R.b w hL.laid hG.b.sorted (fun p hp => by have := ((isName_iff _).1 (hG.b.name p hp)).2.1; unfold maxLen; omega) hG.b.many hG.epochs))
  have hq := Lib.hid (show (if (if 1073741824 ≤ maxE R.b then 2 else 0) ≠ 0 then ((0 : Int), (if 1073741824 ≤ maxE R.b then 2 else 0), R) else changeM R starW (if 1073741824 ≤ maxE R.b then 0 else maxE R.b + 1) (flushB R.b)) = flushM R by
    unfold flushM
    by_cases h : 1073741824 ≤ maxE R.b
    · simp [h]
    · simp [h])
  rw [hq.out] at hch
  generalize flushM R = res at *
  clear hq hL hR hG
  go_enter Tryz.func22, Tryz.ntmps22
  go_wp2_with fail
  refine hch.out.mono ?_
  rintro e w1 ⟨rfl, h1, h2⟩
  have hfin := Lib.hid (show (∃ b' r', RlmAt w1 base a b' r' res.2.2) ∧ Keeps (RlmS a r) w w1 from ⟨h1, h2⟩)
  clear h1 h2
  go_wp2_with fail
  go_ret2
  exact ⟨rfl, hfin.out⟩
end Go.Proofs.YtkhphdkjnpcnnaaGreatDoor
