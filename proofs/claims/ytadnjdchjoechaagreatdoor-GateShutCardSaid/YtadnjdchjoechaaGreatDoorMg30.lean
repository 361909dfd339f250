/- GateW -/
import Derived.Test.YtadnjdchjoechaaGreatDoorMg29
import Derived.Test.YtadnjdchjoechaaGreatDoorMg6
import Derived.Test.YtadnjdchjoechaaGreatDoorMg16
import Derived.Test.YtadnjdchjoechaaGreatDoorMg8
import Derived.Test.YtadnjdchjoechaaGreatDoorMg9
import Derived.Deep.CutRange
import Derived.IntWalk
/- Gates: New, Fresh, Rekey, Take, Follower, Ask: walked. -/
namespace Go.Proofs.YtadnjdchjoechaaGreatDoor
open Go.RowKit

theorem gate_cells {w : World} {base b pf : Nat} {g : Gat} (h : GateAt w base b pf g) : (w.cell? ⟨b, 0, none⟩ = some (.string (bs g.name)) ∧ w.cell? ⟨b, 1, none⟩ = some (.int .i64 g.key) ∧ w.cell? ⟨b, 2, none⟩ = some (.int .i64 g.old) ∧ w.cell? ⟨b, 3, none⟩ = some (.pointer (some ⟨pf, 0, none⟩))) ∧ (w.frozen? ⟨b, 0, none⟩ = false ∧ w.frozen? ⟨b, 1, none⟩ = false ∧ w.frozen? ⟨b, 2, none⟩ = false ∧ w.frozen? ⟨b, 3, none⟩ = false) := four_kept h.blk
set_option maxHeartbeats 4000000 in
set_option maxRecDepth 100000 in
theorem takeG_any {E : Nat → Addr} (base b pf : Nat) (g : Gat) (s : List UInt8) (v : Value) (M : List Ent) (w : World) (hL : LaidS E w) (hG : GateAt w base b pf g) (hO : FOk g.f) (hv : EntsAt w v M) (hm : ∀ e ∈ M, e.f.who.length ≤ maxLen) (hl : M.length ≤ 1000) (hs : s.length ≤ 300) (hbs : base ≤ w.heap.size) :
    Calls Tryz.prog 12 #[.pointer (some ⟨b, 0, none⟩), .string (bs s), v] w fun e w' => e = .returned (errV E (takeF g.f s M).1) ∧ FolAt w' base pf (takeF g.f s M).2 ∧ Keeps (· = pf) w w' := by
  have htk := Lib.hid (take_fol (E := E) base pf g.f s v M w hL hG.fol hv hm hO.nm (by have := hO.l60; omega) (by omega) hbs)
  obtain ⟨⟨k0, k1, k2, k3⟩, _⟩ := gate_cells hG
  obtain ⟨am, cm, hvm⟩ := AtG.sl hv
  subst hvm
  generalize takeF g.f s M = R at *
  obtain ⟨rc, rf⟩ := R
  dsimp only at *
  clear k0 k1 k2 hL hv hm hO hs hG
  go_enter Tryz.func12, Tryz.ntmps12
  go_wp2_with fail
  refine htk.out.mono ?_
  rintro e w1 ⟨rfl, hf, hk⟩
  have hfin := Lib.hid (And.intro hf hk)
  clear hf hk
  go_wp2_with fail
  go_ret
  exact ⟨rfl, hfin.out⟩
set_option maxRecDepth 100000 in
theorem follower_any (base b pf : Nat) (g : Gat) (w : World) (hG : GateAt w base b pf g) (hO : FOk g.f) :
    Calls Tryz.prog 13 #[.pointer (some ⟨b, 0, none⟩)] w fun e w' => ∃ b', e = .returned (.pointer (some ⟨b', 0, none⟩)) ∧ FolAt w' w.heap.size b' g.f ∧ Below w.heap.size w w' := by
  have hcp := Lib.hid (copy_fol base pf g.f w hG.fol (by have := hO.l60; omega) (by have := hO.fl; omega))
  obtain ⟨⟨k0, k1, k2, k3⟩, _⟩ := gate_cells hG
  clear k0 k1 k2 hO hG
  go_enter Tryz.func13, Tryz.ntmps13
  go_wp2_with fail
  refine hcp.out.mono ?_
  rintro e w1 ⟨b', rfl, hf, hb⟩
  have hfin := Lib.hid (And.intro hf hb)
  clear hf hb
  go_wp2_with fail
  go_ret
  exact ⟨_, rfl, hfin.out⟩
set_option maxHeartbeats 2000000 in
set_option maxRecDepth 100000 in
theorem rekey_any {E : Nat → Addr} (base b pf : Nat) (n : List UInt8) (key old : Int) (f : Fol) (k : Int) (w : World) (hL : Laid E w) (hG : GateAt w base b pf ⟨n, key, old, f⟩) :
    Calls Tryz.prog 25 #[.pointer (some ⟨b, 0, none⟩), .int .i64 k] w fun e w' => (isKey k = false ∧ e = .returned (errV E 10) ∧ w' = w) ∨ (isKey k = true ∧ e = .returned .nilIface ∧ GateAt w' base b pf ⟨n, k, old, f⟩ ∧ Keeps (· = b) w w') := by
  have he := hL.e10
  simp only [errV] at he
  obtain ⟨⟨k0, k1, k2, k3⟩, z0, z1, z2, z3⟩ := gate_cells hG
  have hre := Lib.hid (hG.rekey k)
  have hky := key_any k w
  by_cases hk : isKey k = true
  · rw [hk] at hky
    have hky := Lib.hid hky
    have hkH := Lib.hid hk
    clear hk he k0 k2 k3 z0 z2 z3
    go_enter Tryz.func25, Tryz.ntmps25
    go_wp2_with fail
    refine hky.out.mono ?_
    rintro e w1 ⟨rfl, rfl⟩
    go_wp2_with fail
    go_ret
    exact .inr ⟨hkH.out, rfl, hre.out⟩
  · have hk : isKey k = false := by simpa using hk
    rw [hk] at hky
    have hky := Lib.hid hky
    have hkH := Lib.hid hk
    clear hk k0 k1 k2 k3 z0 z1 z2 z3
    go_enter Tryz.func25, Tryz.ntmps25
    go_wp2_with fail
    refine hky.out.mono ?_
    rintro e w1 ⟨rfl, rfl⟩
    go_wp2_with fail
    go_ret
    exact .inl ⟨hkH.out, rfl, rfl⟩
/-- What New answers. -/
def NewGRes (E : Nat → Addr) (base : Nat) (w' : World) (n : List UInt8) (key realm old : Int) (e : Ending) : Prop :=
  (newG n key realm old ≠ 0 ∧ e = .returned (.tuple #[.pointer none, errV E (newG n key realm old)])) ∨
  (newG n key realm old = 0 ∧ ∃ b pf, e = .returned (.tuple #[.pointer (some ⟨b, 0, none⟩), .nilIface]) ∧ GateAt w' base b pf ⟨n, key, old, newFol realm⟩)
theorem NewGRes.bad {E : Nat → Addr} {base : Nat} {w' : World} {n : List UInt8} {key realm old : Int} {c : Nat} {ev : Value} (h : newG n key realm old = c) (hc : c ≠ 0) (hv : ev = errV E c) : NewGRes E base w' n key realm old (.returned (.tuple #[.pointer none, ev])) := by
  subst h hv
  exact .inl ⟨hc, rfl⟩
set_option maxHeartbeats 4000000 in
set_option maxRecDepth 100000 in
theorem newG_any {E : Nat → Addr} (n : List UInt8) (key realm old : Int) (w : World) (hL : Laid E w) (hn : n.length ≤ maxLen) :
    Calls Tryz.prog 9 #[.string (bs n), .int .i64 key, .int .i64 realm, .int .i64 old] w fun e w' => NewGRes E w.heap.size w' n key realm old e ∧ Below w.heap.size w w' := by
  have hnm := name_any (bs n) w (by rw [bs_size]; exact hn)
  simp only [bs_list] at hnm
  have hLw := Lib.hid (fun wx (hx : Below w.heap.size w wx) => hL.below hx)
  have hfo := Lib.hid (fun wx (hx : Below w.heap.size w wx) => newFol_any (E := E) realm wx (hL.below hx))
  have hdef := Lib.hid (show newG n key realm old = if isName n = false then 4 else if isKey key = false ∨ isKey realm = false then 10 else if old < 0 ∨ 1000000 < old then 2 else 0 from rfl)
  clear hL hn
  cases h1 : isName n with
  | false =>
    rw [h1] at hnm
    have hnm := Lib.hid hnm
    have hr := Lib.hid (hdef.out.trans (if_pos h1))
    clear h1
    go_enter Tryz.func9, Tryz.ntmps9
    go_wp2_with fail
    refine hnm.out.mono ?_
    rintro e w1 ⟨rfl, hb1⟩
    have he := (hLw.out _ hb1).e4
    simp only [errV] at he
    have hb1 := Lib.hid hb1
    go_wp2_with fail
    go_quiet (fail)
    go_wp2_with fail
    go_ret2
    exact ⟨NewGRes.bad hr.out (by decide) rfl, below_drawn hb1.out _⟩
  | true =>
  rw [h1] at hnm
  have hnm := Lib.hid hnm
  have hd2 := Lib.hid (hdef.out.trans (if_neg (by rw [h1]; decide)))
  clear h1 hdef
  cases h2 : isKey key with
  | false =>
    have hr := Lib.hid (hd2.out.trans (if_pos (.inl h2)))
    have hky := fun wx => key_any key wx
    rw [h2] at hky
    have hky := Lib.hid hky
    clear h2
    go_enter Tryz.func9, Tryz.ntmps9
    go_wp2_with fail
    refine hnm.out.mono ?_
    rintro e w1 ⟨rfl, hb1⟩
    have he := (hLw.out _ hb1).e10
    simp only [errV] at he
    have hb1 := Lib.hid hb1
    go_wp2_with fail
    refine (hky.out _).mono ?_
    rintro e w2 ⟨rfl, rfl⟩
    go_wp2_with fail
    go_quiet (fail)
    go_wp2_with fail
    go_ret2
    exact ⟨NewGRes.bad hr.out (by decide) rfl, below_drawn hb1.out _⟩
  | true =>
  have hky := fun wx => key_any key wx
  rw [h2] at hky
  have hky := Lib.hid hky
  go_enter Tryz.func9, Tryz.ntmps9
  go_wp2_with fail
  refine hnm.out.mono ?_
  rintro e w1 ⟨rfl, hb1⟩
  have hb1 := Lib.hid hb1
  go_wp2_with fail
  refine (hky.out _).mono ?_
  rintro e w2 ⟨rfl, rfl⟩
  go_wp2_with fail
  refine (hfo.out _ hb1.out).mono ?_
  rintro e w3 ⟨hor, hb3⟩
  have hb3 := Lib.hid (below_trans hb1.out hb3)
  rcases hor with ⟨h3, rfl⟩ | ⟨h3, pf, rfl, hF⟩
  · have hr := Lib.hid (hd2.out.trans (if_pos (.inr h3)))
    clear h2 h3
    simp only [errV]
    go_wp2_with fail
    go_ret2
    exact ⟨NewGRes.bad hr.out (by decide) rfl, hb3.out⟩
  have hd3 := Lib.hid (hd2.out.trans (if_neg (by rw [h2, h3]; decide)))
  have hF := Lib.hid (hF.mono hb1.out.size)
  clear h2 h3
  by_cases h4 : old < 0 ∨ 1000000 < old
  · have hr := Lib.hid (hd3.out.trans (if_pos h4))
    have he := (hLw.out _ hb3.out).e2
    simp only [errV] at he
    by_cases h5 : old < 0
    all_goals
      (try have h6 : 1000000 < old := by omega)
      clear h4
      go_wp2_with fail
      go_quiet (fail)
      go_wp2_with fail
      go_ret2
      exact ⟨NewGRes.bad hr.out (by decide) rfl, below_drawn hb3.out _⟩
  · have hr := Lib.hid (hd3.out.trans (if_neg h4))
    have h5 : ¬ old < 0 := by omega
    have h6 : ¬ 1000000 < old := by omega
    have hnewH := Lib.hid (heap_alloc_new w3 (.cells #[.string (bs n), .int .i64 key, .int .i64 old, .pointer (some ⟨pf, 0, none⟩)] 80))
    clear h4
    go_wp2_with fail
    go_ret2
    exact ⟨.inr ⟨hr.out, _, _, rfl, ⟨hb3.out.size, hnewH.out, hF.out.below ((Below.refl _ _).alloc (Nat.le_refl _) _)⟩⟩, hb3.out.alloc hb3.out.size _⟩
set_option maxHeartbeats 8000000 in
set_option maxRecDepth 100000 in
theorem fresh_any {E : Nat → Addr} (base b pf : Nat) (g : Gat) (now : Int) (w : World) (hL : Laid E w) (hG : GateAt w base b pf g) (hO : GOk g) :
    Calls Tryz.prog 15 #[.pointer (some ⟨b, 0, none⟩), .int .i64 now] w fun e w' => e = .returned (errV E (freshG g now)) ∧ Below w.heap.size w w' := by
  have hdef := Lib.hid (show freshG g now = if now < 0 ∨ 1000000 < now then 2 else if g.f.time < 0 ∨ g.f.time < now - g.old then 14 else 0 from rfl)
  by_cases h1 : now < 0 ∨ 1000000 < now
  · have hr := Lib.hid (hdef.out.trans (if_pos h1))
    have he := hL.e2
    simp only [errV] at he
    by_cases h2 : now < 0
    all_goals
      (try have h3 : 1000000 < now := by omega)
      clear h1 hG hL
      go_enter Tryz.func15, Tryz.ntmps15
      go_wp2_with fail
      go_ret
      exact ⟨by rw [hr.out]; rfl, Below.refl _ _⟩
  have hd2 := Lib.hid (hdef.out.trans (if_neg h1))
  have h2 : ¬ now < 0 := by omega
  have h3 : ¬ 1000000 < now := by omega
  have ho0 := hO.o0
  have ho1 := hO.o1
  have hi := IntWalk.i64_in (now - g.old) (by omega)
  have htm := Lib.hid (fun wx (hx : Below w.heap.size w wx) => time_fol base pf g.f wx (hG.below hx).fol)
  have hkS := Lib.hid (fun wx (hx : Below w.heap.size w wx) => (show wx.cell? ⟨b, 2, none⟩ = some (.int .i64 g.old) ∧ wx.cell? ⟨b, 3, none⟩ = some (.pointer (some ⟨pf, 0, none⟩)) from (gate_cells (hG.below hx)).1.2.2))
  have hLw := Lib.hid (fun wx (hx : Below w.heap.size w wx) => hL.below hx)
  have hD0 := Lib.hid (show Below w.heap.size w w.drew from (Below.refl _ _).drew)
  have hcD := hkS.out _ hD0.out
  generalize g.old = old at *
  generalize g.f.time = ft at *
  clear h1 hG hL hdef
  by_cases h4 : ft < 0
  · have hr := Lib.hid (hd2.out.trans (if_pos (.inl h4)))
    have hd4 : decide (ft < 0) = true := decide_eq_true h4
    go_enter Tryz.func15, Tryz.ntmps15
    go_upto_region 3 with fail
    refine wp_region_noPanic ?_
    refine wp_region_held_drew (S := fun w' => w'.cell? ⟨b, 2, none⟩ = some (.int .i64 old) ∧ w'.cell? ⟨b, 3, none⟩ = some (.pointer (some ⟨pf, 0, none⟩))) (by kernel_rfl) ?_ (fun hHeld => ?_)
    · exact hcD
    refine' held_take (i := 0) (d := some 14) (v := _) rfl rfl (by kernel_rfl) (by kernel_rfl) (by kernel_rfl) (fun _ _ _ h => h) rfl (by assumption) ?hy_1 ?re_1
    case hy_1 =>
      intro w hSw
      try dsimp only at hSw
      go_simp
      try with_reducible rfl
    simp only [Act.put, List.setIfInBounds_toArray, List.set_cons_zero, List.set_cons_succ]
    refine' held_take (i := 1) (d := some 15) (v := _) rfl rfl (by kernel_rfl) (by kernel_rfl) (by kernel_rfl) (fun _ _ _ h => h) rfl (by assumption) ?hy_2 ?re_2
    case hy_2 =>
      intro w hSw
      try dsimp only at hSw
      go_simp
      try with_reducible rfl
    simp only [Act.put, List.setIfInBounds_toArray, List.set_cons_zero, List.set_cons_succ]
    refine' held_take (i := 2) (d := some 16) (v := _) rfl rfl (by kernel_rfl) (by kernel_rfl) (by kernel_rfl) (fun _ _ _ h => h) rfl (by assumption) ?hy_3 ?re_3
    case hy_3 =>
      intro w hSw
      try dsimp only at hSw
      go_simp
      try with_reducible rfl
    simp only [Act.put, List.setIfInBounds_toArray, List.set_cons_zero, List.set_cons_succ]
    refine' held_take (i := 3) (d := some 17) (v := _) rfl rfl (by kernel_rfl) (by kernel_rfl) (by kernel_rfl) (fun _ _ _ h => h) rfl (by assumption) ?hy_4 ?re_4
    case hy_4 =>
      intro w hSw
      try dsimp only at hSw
      go_simp
      try with_reducible rfl
    simp only [Act.put, List.setIfInBounds_toArray, List.set_cons_zero, List.set_cons_succ]
    refine wpAnyH_ready (rs := [4]) (by kernel_rfl) (by simp) ?_
    refine AllReadyH.cons rfl (fun K hK => ?_) AllReadyH.nil
    go_simp
    refine (htm.out _ hD0.out).mono ?_
    rintro e w1 ⟨rfl, hb⟩
    have hD1 := Lib.hid (below_trans hD0.out hb)
    clear hb
    go_wp2_with fail
    refine hK.out _ _ ?_ (fun hHeld => ?_)
    · exact hkS.out _ hD1.out
    clear hK K
    try simp only [Act.put, List.setIfInBounds_toArray, List.set_cons_zero, List.set_cons_succ]
    refine' held_take (i := 5) (d := some 19) (v := _) rfl rfl (by kernel_rfl) (by kernel_rfl) (by kernel_rfl) (fun _ _ _ h => h) rfl (by assumption) ?hy_5 ?re_5
    case hy_5 =>
      intro w hSw
      try dsimp only at hSw
      go_simp
      try with_reducible rfl
    simp only [Act.put, List.setIfInBounds_toArray, List.set_cons_zero, List.set_cons_succ]
    try simp only [hd4]
    refine' held_take (i := 6) (d := some 20) (v := _) rfl rfl (by kernel_rfl) (by kernel_rfl) (by kernel_rfl) (fun _ _ _ h => h) rfl (by assumption) ?hy_6 ?re_6
    case hy_6 =>
      intro w hSw
      try dsimp only at hSw
      go_simp
      try with_reducible rfl
    simp only [Act.put, List.setIfInBounds_toArray, List.set_cons_zero, List.set_cons_succ]
    refine held_skip (i := 7) (d := some 21) rfl rfl (by kernel_rfl) (by kernel_rfl) (by kernel_rfl) (fun _ _ _ h => h) rfl (by assumption) ?_
    simp only [Act.put, List.setIfInBounds_toArray, List.set_cons_zero, List.set_cons_succ]
    refine held_skip (i := 8) (d := some 22) rfl rfl (by kernel_rfl) (by kernel_rfl) (by kernel_rfl) (fun _ _ _ h => h) rfl (by assumption) ?_
    simp only [Act.put, List.setIfInBounds_toArray, List.set_cons_zero, List.set_cons_succ]
    refine held_skip (i := 9) (d := some 23) rfl rfl (by kernel_rfl) (by kernel_rfl) (by kernel_rfl) (fun _ _ _ h => h) rfl (by assumption) ?_
    simp only [Act.put, List.setIfInBounds_toArray, List.set_cons_zero, List.set_cons_succ]
    refine held_skip (i := 10) (d := some 24) rfl rfl (by kernel_rfl) (by kernel_rfl) (by kernel_rfl) (fun _ _ _ h => h) rfl (by assumption) ?_
    simp only [Act.put, List.setIfInBounds_toArray, List.set_cons_zero, List.set_cons_succ]
    refine held_skip (i := 11) (d := some 25) rfl rfl (by kernel_rfl) (by kernel_rfl) (by kernel_rfl) (fun _ _ _ h => h) rfl (by assumption) ?_
    simp only [Act.put, List.setIfInBounds_toArray, List.set_cons_zero, List.set_cons_succ]
    refine held_skip (i := 12) (d := some 26) rfl rfl (by kernel_rfl) (by kernel_rfl) (by kernel_rfl) (fun _ _ _ h => h) rfl (by assumption) ?_
    simp only [Act.put, List.setIfInBounds_toArray, List.set_cons_zero, List.set_cons_succ]
    refine held_skip (i := 13) (d := some 27) rfl rfl (by kernel_rfl) (by kernel_rfl) (by kernel_rfl) (fun _ _ _ h => h) rfl (by assumption) ?_
    simp only [Act.put, List.setIfInBounds_toArray, List.set_cons_zero, List.set_cons_succ]
    refine held_skip (i := 14) (d := some 28) rfl rfl (by kernel_rfl) (by kernel_rfl) (by kernel_rfl) (fun _ _ _ h => h) rfl (by assumption) ?_
    simp only [Act.put, List.setIfInBounds_toArray, List.set_cons_zero, List.set_cons_succ]
    refine held_skip (i := 15) (d := some 29) rfl rfl (by kernel_rfl) (by kernel_rfl) (by kernel_rfl) (fun _ _ _ h => h) rfl (by assumption) ?_
    simp only [Act.put, List.setIfInBounds_toArray, List.set_cons_zero, List.set_cons_succ]
    refine held_skip (i := 16) (d := some 30) rfl rfl (by kernel_rfl) (by kernel_rfl) (by kernel_rfl) (fun _ _ _ h => h) rfl (by assumption) ?_
    simp only [Act.put, List.setIfInBounds_toArray, List.set_cons_zero, List.set_cons_succ]
    refine held_skip (i := 17) (d := some 31) rfl rfl (by kernel_rfl) (by kernel_rfl) (by kernel_rfl) (fun _ _ _ h => h) rfl (by assumption) ?_
    simp only [Act.put, List.setIfInBounds_toArray, List.set_cons_zero, List.set_cons_succ]
    refine held_skip (i := 18) (d := some 32) rfl rfl (by kernel_rfl) (by kernel_rfl) (by kernel_rfl) (fun _ _ _ h => h) rfl (by assumption) ?_
    simp only [Act.put, List.setIfInBounds_toArray, List.set_cons_zero, List.set_cons_succ]
    refine' held_take (i := 19) (d := some 33) (v := _) rfl rfl (by kernel_rfl) (by kernel_rfl) (by kernel_rfl) (fun _ _ _ h => h) rfl (by assumption) ?hy_7 ?re_7
    case hy_7 =>
      intro w hSw
      try dsimp only at hSw
      go_simp
      try with_reducible rfl
    simp only [Act.put, List.setIfInBounds_toArray, List.set_cons_zero, List.set_cons_succ]
    refine' held_take (i := 20) (d := some 13) (v := _) rfl rfl (by kernel_rfl) (by kernel_rfl) (by kernel_rfl) (fun _ _ _ h => h) rfl (by assumption) ?hy_8 ?re_8
    case hy_8 =>
      intro w hSw
      try dsimp only at hSw
      go_simp
      try with_reducible rfl
    simp only [Act.put, List.setIfInBounds_toArray, List.set_cons_zero, List.set_cons_succ]
    refine wpAnyH_done (by kernel_rfl) ?_ _
    refine NoPanic.normal ?_
    have he := (hLw.out _ hD1.out).e14
    simp only [errV] at he
    go_wp2_with fail
    go_ret
    exact ⟨by rw [hr.out]; rfl, hD1.out⟩
  have hd4 : decide (ft < 0) = false := decide_eq_false h4
  by_cases h5 : ft < now - old
  · have hr := Lib.hid (hd2.out.trans (if_pos (.inr h5)))
    have hd5 : decide (ft < now - old) = true := decide_eq_true h5
    go_enter Tryz.func15, Tryz.ntmps15
    go_upto_region 3 with fail
    refine wp_region_noPanic ?_
    refine wp_region_held_drew (S := fun w' => w'.cell? ⟨b, 2, none⟩ = some (.int .i64 old) ∧ w'.cell? ⟨b, 3, none⟩ = some (.pointer (some ⟨pf, 0, none⟩))) (by kernel_rfl) ?_ (fun hHeld => ?_)
    · exact hcD
    refine' held_take (i := 0) (d := some 14) (v := _) rfl rfl (by kernel_rfl) (by kernel_rfl) (by kernel_rfl) (fun _ _ _ h => h) rfl (by assumption) ?hy_9 ?re_9
    case hy_9 =>
      intro w hSw
      try dsimp only at hSw
      go_simp
      try with_reducible rfl
    simp only [Act.put, List.setIfInBounds_toArray, List.set_cons_zero, List.set_cons_succ]
    refine' held_take (i := 1) (d := some 15) (v := _) rfl rfl (by kernel_rfl) (by kernel_rfl) (by kernel_rfl) (fun _ _ _ h => h) rfl (by assumption) ?hy_10 ?re_10
    case hy_10 =>
      intro w hSw
      try dsimp only at hSw
      go_simp
      try with_reducible rfl
    simp only [Act.put, List.setIfInBounds_toArray, List.set_cons_zero, List.set_cons_succ]
    refine' held_take (i := 2) (d := some 16) (v := _) rfl rfl (by kernel_rfl) (by kernel_rfl) (by kernel_rfl) (fun _ _ _ h => h) rfl (by assumption) ?hy_11 ?re_11
    case hy_11 =>
      intro w hSw
      try dsimp only at hSw
      go_simp
      try with_reducible rfl
    simp only [Act.put, List.setIfInBounds_toArray, List.set_cons_zero, List.set_cons_succ]
    refine' held_take (i := 3) (d := some 17) (v := _) rfl rfl (by kernel_rfl) (by kernel_rfl) (by kernel_rfl) (fun _ _ _ h => h) rfl (by assumption) ?hy_12 ?re_12
    case hy_12 =>
      intro w hSw
      try dsimp only at hSw
      go_simp
      try with_reducible rfl
    simp only [Act.put, List.setIfInBounds_toArray, List.set_cons_zero, List.set_cons_succ]
    refine wpAnyH_ready (rs := [4]) (by kernel_rfl) (by simp) ?_
    refine AllReadyH.cons rfl (fun K hK => ?_) AllReadyH.nil
    go_simp
    refine (htm.out _ hD0.out).mono ?_
    rintro e w1 ⟨rfl, hb⟩
    have hD1 := Lib.hid (below_trans hD0.out hb)
    clear hb
    go_wp2_with fail
    refine hK.out _ _ ?_ (fun hHeld => ?_)
    · exact hkS.out _ hD1.out
    clear hK K
    try simp only [Act.put, List.setIfInBounds_toArray, List.set_cons_zero, List.set_cons_succ]
    refine' held_take (i := 5) (d := some 19) (v := _) rfl rfl (by kernel_rfl) (by kernel_rfl) (by kernel_rfl) (fun _ _ _ h => h) rfl (by assumption) ?hy_13 ?re_13
    case hy_13 =>
      intro w hSw
      try dsimp only at hSw
      go_simp
      try with_reducible rfl
    simp only [Act.put, List.setIfInBounds_toArray, List.set_cons_zero, List.set_cons_succ]
    try simp only [hd4]
    refine' held_take (i := 6) (d := some 20) (v := _) rfl rfl (by kernel_rfl) (by kernel_rfl) (by kernel_rfl) (fun _ _ _ h => h) rfl (by assumption) ?hy_14 ?re_14
    case hy_14 =>
      intro w hSw
      try dsimp only at hSw
      go_simp
      try with_reducible rfl
    simp only [Act.put, List.setIfInBounds_toArray, List.set_cons_zero, List.set_cons_succ]
    refine' held_take (i := 7) (d := some 21) (v := _) rfl rfl (by kernel_rfl) (by kernel_rfl) (by kernel_rfl) (fun _ _ _ h => h) rfl (by assumption) ?hy_15 ?re_15
    case hy_15 =>
      intro w hSw
      try dsimp only at hSw
      go_simp
      try with_reducible rfl
    simp only [Act.put, List.setIfInBounds_toArray, List.set_cons_zero, List.set_cons_succ]
    refine' held_take (i := 8) (d := some 22) (v := _) rfl rfl (by kernel_rfl) (by kernel_rfl) (by kernel_rfl) (fun _ _ _ h => h) rfl (by assumption) ?hy_16 ?re_16
    case hy_16 =>
      intro w hSw
      try dsimp only at hSw
      go_simp
      try with_reducible rfl
    simp only [Act.put, List.setIfInBounds_toArray, List.set_cons_zero, List.set_cons_succ]
    refine' held_take (i := 9) (d := some 23) (v := _) rfl rfl (by kernel_rfl) (by kernel_rfl) (by kernel_rfl) (fun _ _ _ h => h) rfl (by assumption) ?hy_17 ?re_17
    case hy_17 =>
      intro w hSw
      try dsimp only at hSw
      go_simp
      try with_reducible rfl
    simp only [Act.put, List.setIfInBounds_toArray, List.set_cons_zero, List.set_cons_succ]
    refine' held_take (i := 10) (d := some 24) (v := _) rfl rfl (by kernel_rfl) (by kernel_rfl) (by kernel_rfl) (fun _ _ _ h => h) rfl (by assumption) ?hy_18 ?re_18
    case hy_18 =>
      intro w hSw
      try dsimp only at hSw
      go_simp
      try with_reducible rfl
    simp only [Act.put, List.setIfInBounds_toArray, List.set_cons_zero, List.set_cons_succ]
    refine' held_take (i := 12) (d := some 26) (v := _) rfl rfl (by kernel_rfl) (by kernel_rfl) (by kernel_rfl) (fun _ _ _ h => h) rfl (by assumption) ?hy_19 ?re_19
    case hy_19 =>
      intro w hSw
      try dsimp only at hSw
      go_simp
      try with_reducible rfl
    simp only [Act.put, List.setIfInBounds_toArray, List.set_cons_zero, List.set_cons_succ]
    refine' held_take (i := 13) (d := some 27) (v := _) rfl rfl (by kernel_rfl) (by kernel_rfl) (by kernel_rfl) (fun _ _ _ h => h) rfl (by assumption) ?hy_20 ?re_20
    case hy_20 =>
      intro w hSw
      try dsimp only at hSw
      go_simp
      try with_reducible rfl
    simp only [Act.put, List.setIfInBounds_toArray, List.set_cons_zero, List.set_cons_succ]
    refine' held_take (i := 14) (d := some 28) (v := _) rfl rfl (by kernel_rfl) (by kernel_rfl) (by kernel_rfl) (fun _ _ _ h => h) rfl (by assumption) ?hy_21 ?re_21
    case hy_21 =>
      intro w hSw
      try dsimp only at hSw
      go_simp
      try with_reducible rfl
    simp only [Act.put, List.setIfInBounds_toArray, List.set_cons_zero, List.set_cons_succ]
    refine' held_take (i := 15) (d := some 29) (v := _) rfl rfl (by kernel_rfl) (by kernel_rfl) (by kernel_rfl) (fun _ _ _ h => h) rfl (by assumption) ?hy_22 ?re_22
    case hy_22 =>
      intro w hSw
      try dsimp only at hSw
      go_simp
      try with_reducible rfl
    simp only [Act.put, List.setIfInBounds_toArray, List.set_cons_zero, List.set_cons_succ]
    refine' held_take (i := 16) (d := some 30) (v := _) rfl rfl (by kernel_rfl) (by kernel_rfl) (by kernel_rfl) (fun _ _ _ h => h) rfl (by assumption) ?hy_23 ?re_23
    case hy_23 =>
      intro w hSw
      try dsimp only at hSw
      go_simp
      try with_reducible rfl
    simp only [Act.put, List.setIfInBounds_toArray, List.set_cons_zero, List.set_cons_succ]
    refine' held_take (i := 17) (d := some 31) (v := _) rfl rfl (by kernel_rfl) (by kernel_rfl) (by kernel_rfl) (fun _ _ _ h => h) rfl (by assumption) ?hy_24 ?re_24
    case hy_24 =>
      intro w hSw
      try dsimp only at hSw
      go_simp
      try with_reducible rfl
    simp only [Act.put, List.setIfInBounds_toArray, List.set_cons_zero, List.set_cons_succ]
    refine wpAnyH_ready (rs := [11]) (by kernel_rfl) (by simp) ?_
    refine AllReadyH.cons rfl (fun K hK => ?_) AllReadyH.nil
    go_simp
    refine (htm.out _ hD1.out).mono ?_
    rintro e w2 ⟨rfl, hb⟩
    have hD2 := Lib.hid (below_trans hD1.out hb)
    clear hb
    go_wp2_with fail
    refine hK.out _ _ ?_ (fun hHeld => ?_)
    · exact hkS.out _ hD2.out
    clear hK K
    try simp only [Act.put, List.setIfInBounds_toArray, List.set_cons_zero, List.set_cons_succ]
    refine' held_take (i := 18) (d := some 32) (v := _) rfl rfl (by kernel_rfl) (by kernel_rfl) (by kernel_rfl) (fun _ _ _ h => h) rfl (by assumption) ?hy_25 ?re_25
    case hy_25 =>
      intro w hSw
      try dsimp only at hSw
      go_simp
      try with_reducible rfl
    simp only [Act.put, List.setIfInBounds_toArray, List.set_cons_zero, List.set_cons_succ]
    try simp only [hd5]
    refine' held_take (i := 19) (d := some 33) (v := _) rfl rfl (by kernel_rfl) (by kernel_rfl) (by kernel_rfl) (fun _ _ _ h => h) rfl (by assumption) ?hy_26 ?re_26
    case hy_26 =>
      intro w hSw
      try dsimp only at hSw
      go_simp
      try with_reducible rfl
    simp only [Act.put, List.setIfInBounds_toArray, List.set_cons_zero, List.set_cons_succ]
    refine' held_take (i := 20) (d := some 13) (v := _) rfl rfl (by kernel_rfl) (by kernel_rfl) (by kernel_rfl) (fun _ _ _ h => h) rfl (by assumption) ?hy_27 ?re_27
    case hy_27 =>
      intro w hSw
      try dsimp only at hSw
      go_simp
      try with_reducible rfl
    simp only [Act.put, List.setIfInBounds_toArray, List.set_cons_zero, List.set_cons_succ]
    refine wpAnyH_done (by kernel_rfl) ?_ _
    refine NoPanic.normal ?_
    have he := (hLw.out _ hD2.out).e14
    simp only [errV] at he
    go_wp2_with fail
    go_ret
    exact ⟨by rw [hr.out]; rfl, hD2.out⟩
  · have hr := Lib.hid (hd2.out.trans (if_neg (by omega)))
    have hd5 : decide (ft < now - old) = false := decide_eq_false h5
    go_enter Tryz.func15, Tryz.ntmps15
    go_upto_region 3 with fail
    refine wp_region_noPanic ?_
    refine wp_region_held_drew (S := fun w' => w'.cell? ⟨b, 2, none⟩ = some (.int .i64 old) ∧ w'.cell? ⟨b, 3, none⟩ = some (.pointer (some ⟨pf, 0, none⟩))) (by kernel_rfl) ?_ (fun hHeld => ?_)
    · exact hcD
    refine' held_take (i := 0) (d := some 14) (v := _) rfl rfl (by kernel_rfl) (by kernel_rfl) (by kernel_rfl) (fun _ _ _ h => h) rfl (by assumption) ?hy_28 ?re_28
    case hy_28 =>
      intro w hSw
      try dsimp only at hSw
      go_simp
      try with_reducible rfl
    simp only [Act.put, List.setIfInBounds_toArray, List.set_cons_zero, List.set_cons_succ]
    refine' held_take (i := 1) (d := some 15) (v := _) rfl rfl (by kernel_rfl) (by kernel_rfl) (by kernel_rfl) (fun _ _ _ h => h) rfl (by assumption) ?hy_29 ?re_29
    case hy_29 =>
      intro w hSw
      try dsimp only at hSw
      go_simp
      try with_reducible rfl
    simp only [Act.put, List.setIfInBounds_toArray, List.set_cons_zero, List.set_cons_succ]
    refine' held_take (i := 2) (d := some 16) (v := _) rfl rfl (by kernel_rfl) (by kernel_rfl) (by kernel_rfl) (fun _ _ _ h => h) rfl (by assumption) ?hy_30 ?re_30
    case hy_30 =>
      intro w hSw
      try dsimp only at hSw
      go_simp
      try with_reducible rfl
    simp only [Act.put, List.setIfInBounds_toArray, List.set_cons_zero, List.set_cons_succ]
    refine' held_take (i := 3) (d := some 17) (v := _) rfl rfl (by kernel_rfl) (by kernel_rfl) (by kernel_rfl) (fun _ _ _ h => h) rfl (by assumption) ?hy_31 ?re_31
    case hy_31 =>
      intro w hSw
      try dsimp only at hSw
      go_simp
      try with_reducible rfl
    simp only [Act.put, List.setIfInBounds_toArray, List.set_cons_zero, List.set_cons_succ]
    refine wpAnyH_ready (rs := [4]) (by kernel_rfl) (by simp) ?_
    refine AllReadyH.cons rfl (fun K hK => ?_) AllReadyH.nil
    go_simp
    refine (htm.out _ hD0.out).mono ?_
    rintro e w1 ⟨rfl, hb⟩
    have hD1 := Lib.hid (below_trans hD0.out hb)
    clear hb
    go_wp2_with fail
    refine hK.out _ _ ?_ (fun hHeld => ?_)
    · exact hkS.out _ hD1.out
    clear hK K
    try simp only [Act.put, List.setIfInBounds_toArray, List.set_cons_zero, List.set_cons_succ]
    refine' held_take (i := 5) (d := some 19) (v := _) rfl rfl (by kernel_rfl) (by kernel_rfl) (by kernel_rfl) (fun _ _ _ h => h) rfl (by assumption) ?hy_32 ?re_32
    case hy_32 =>
      intro w hSw
      try dsimp only at hSw
      go_simp
      try with_reducible rfl
    simp only [Act.put, List.setIfInBounds_toArray, List.set_cons_zero, List.set_cons_succ]
    try simp only [hd4]
    refine' held_take (i := 6) (d := some 20) (v := _) rfl rfl (by kernel_rfl) (by kernel_rfl) (by kernel_rfl) (fun _ _ _ h => h) rfl (by assumption) ?hy_33 ?re_33
    case hy_33 =>
      intro w hSw
      try dsimp only at hSw
      go_simp
      try with_reducible rfl
    simp only [Act.put, List.setIfInBounds_toArray, List.set_cons_zero, List.set_cons_succ]
    refine' held_take (i := 7) (d := some 21) (v := _) rfl rfl (by kernel_rfl) (by kernel_rfl) (by kernel_rfl) (fun _ _ _ h => h) rfl (by assumption) ?hy_34 ?re_34
    case hy_34 =>
      intro w hSw
      try dsimp only at hSw
      go_simp
      try with_reducible rfl
    simp only [Act.put, List.setIfInBounds_toArray, List.set_cons_zero, List.set_cons_succ]
    refine' held_take (i := 8) (d := some 22) (v := _) rfl rfl (by kernel_rfl) (by kernel_rfl) (by kernel_rfl) (fun _ _ _ h => h) rfl (by assumption) ?hy_35 ?re_35
    case hy_35 =>
      intro w hSw
      try dsimp only at hSw
      go_simp
      try with_reducible rfl
    simp only [Act.put, List.setIfInBounds_toArray, List.set_cons_zero, List.set_cons_succ]
    refine' held_take (i := 9) (d := some 23) (v := _) rfl rfl (by kernel_rfl) (by kernel_rfl) (by kernel_rfl) (fun _ _ _ h => h) rfl (by assumption) ?hy_36 ?re_36
    case hy_36 =>
      intro w hSw
      try dsimp only at hSw
      go_simp
      try with_reducible rfl
    simp only [Act.put, List.setIfInBounds_toArray, List.set_cons_zero, List.set_cons_succ]
    refine' held_take (i := 10) (d := some 24) (v := _) rfl rfl (by kernel_rfl) (by kernel_rfl) (by kernel_rfl) (fun _ _ _ h => h) rfl (by assumption) ?hy_37 ?re_37
    case hy_37 =>
      intro w hSw
      try dsimp only at hSw
      go_simp
      try with_reducible rfl
    simp only [Act.put, List.setIfInBounds_toArray, List.set_cons_zero, List.set_cons_succ]
    refine' held_take (i := 12) (d := some 26) (v := _) rfl rfl (by kernel_rfl) (by kernel_rfl) (by kernel_rfl) (fun _ _ _ h => h) rfl (by assumption) ?hy_38 ?re_38
    case hy_38 =>
      intro w hSw
      try dsimp only at hSw
      go_simp
      try with_reducible rfl
    simp only [Act.put, List.setIfInBounds_toArray, List.set_cons_zero, List.set_cons_succ]
    refine' held_take (i := 13) (d := some 27) (v := _) rfl rfl (by kernel_rfl) (by kernel_rfl) (by kernel_rfl) (fun _ _ _ h => h) rfl (by assumption) ?hy_39 ?re_39
    case hy_39 =>
      intro w hSw
      try dsimp only at hSw
      go_simp
      try with_reducible rfl
    simp only [Act.put, List.setIfInBounds_toArray, List.set_cons_zero, List.set_cons_succ]
    refine' held_take (i := 14) (d := some 28) (v := _) rfl rfl (by kernel_rfl) (by kernel_rfl) (by kernel_rfl) (fun _ _ _ h => h) rfl (by assumption) ?hy_40 ?re_40
    case hy_40 =>
      intro w hSw
      try dsimp only at hSw
      go_simp
      try with_reducible rfl
    simp only [Act.put, List.setIfInBounds_toArray, List.set_cons_zero, List.set_cons_succ]
    refine' held_take (i := 15) (d := some 29) (v := _) rfl rfl (by kernel_rfl) (by kernel_rfl) (by kernel_rfl) (fun _ _ _ h => h) rfl (by assumption) ?hy_41 ?re_41
    case hy_41 =>
      intro w hSw
      try dsimp only at hSw
      go_simp
      try with_reducible rfl
    simp only [Act.put, List.setIfInBounds_toArray, List.set_cons_zero, List.set_cons_succ]
    refine' held_take (i := 16) (d := some 30) (v := _) rfl rfl (by kernel_rfl) (by kernel_rfl) (by kernel_rfl) (fun _ _ _ h => h) rfl (by assumption) ?hy_42 ?re_42
    case hy_42 =>
      intro w hSw
      try dsimp only at hSw
      go_simp
      try with_reducible rfl
    simp only [Act.put, List.setIfInBounds_toArray, List.set_cons_zero, List.set_cons_succ]
    refine' held_take (i := 17) (d := some 31) (v := _) rfl rfl (by kernel_rfl) (by kernel_rfl) (by kernel_rfl) (fun _ _ _ h => h) rfl (by assumption) ?hy_43 ?re_43
    case hy_43 =>
      intro w hSw
      try dsimp only at hSw
      go_simp
      try with_reducible rfl
    simp only [Act.put, List.setIfInBounds_toArray, List.set_cons_zero, List.set_cons_succ]
    refine wpAnyH_ready (rs := [11]) (by kernel_rfl) (by simp) ?_
    refine AllReadyH.cons rfl (fun K hK => ?_) AllReadyH.nil
    go_simp
    refine (htm.out _ hD1.out).mono ?_
    rintro e w2 ⟨rfl, hb⟩
    have hD2 := Lib.hid (below_trans hD1.out hb)
    clear hb
    go_wp2_with fail
    refine hK.out _ _ ?_ (fun hHeld => ?_)
    · exact hkS.out _ hD2.out
    clear hK K
    try simp only [Act.put, List.setIfInBounds_toArray, List.set_cons_zero, List.set_cons_succ]
    refine' held_take (i := 18) (d := some 32) (v := _) rfl rfl (by kernel_rfl) (by kernel_rfl) (by kernel_rfl) (fun _ _ _ h => h) rfl (by assumption) ?hy_44 ?re_44
    case hy_44 =>
      intro w hSw
      try dsimp only at hSw
      go_simp
      try with_reducible rfl
    simp only [Act.put, List.setIfInBounds_toArray, List.set_cons_zero, List.set_cons_succ]
    try simp only [hd5]
    refine' held_take (i := 19) (d := some 33) (v := _) rfl rfl (by kernel_rfl) (by kernel_rfl) (by kernel_rfl) (fun _ _ _ h => h) rfl (by assumption) ?hy_45 ?re_45
    case hy_45 =>
      intro w hSw
      try dsimp only at hSw
      go_simp
      try with_reducible rfl
    simp only [Act.put, List.setIfInBounds_toArray, List.set_cons_zero, List.set_cons_succ]
    refine' held_take (i := 20) (d := some 13) (v := _) rfl rfl (by kernel_rfl) (by kernel_rfl) (by kernel_rfl) (fun _ _ _ h => h) rfl (by assumption) ?hy_46 ?re_46
    case hy_46 =>
      intro w hSw
      try dsimp only at hSw
      go_simp
      try with_reducible rfl
    simp only [Act.put, List.setIfInBounds_toArray, List.set_cons_zero, List.set_cons_succ]
    refine wpAnyH_done (by kernel_rfl) ?_ _
    refine NoPanic.normal ?_
    go_wp2_with fail
    go_ret
    exact ⟨by rw [hr.out]; rfl, hD2.out⟩
theorem errV_form (E : Nat → Addr) {c : Nat} (h : c ≠ 0) : ∃ T x, errV E c = .iface T x := by
  obtain ⟨d, rfl⟩ : ∃ d, c = d + 1 := ⟨c - 1, by omega⟩
  exact ⟨_, _, rfl⟩
/-- What Ask answers. -/
def AskRes (E : Nat → Addr) (r : Tick × Nat) (e : Ending) : Prop := e = .returned (.tuple #[r.1.val, errV E r.2])
theorem AskRes.mk {E : Nat → Addr} {r : Tick × Nat} {t : Tick} {c : Nat} {ev : Value} {w1 s1 : Value} {a1 a2 a3 a4 : Int} (h : r = (t, c)) (hv : ev = errV E c) (ht : t.val = .agg #[w1, s1, .int .i64 a1, .int .i64 a2, .int .i64 a3, .int .i64 a4]) : AskRes E r (.returned (.tuple #[.agg #[w1, s1, .int .i64 a1, .int .i64 a2, .int .i64 a3, .int .i64 a4], ev])) := by
  subst h hv
  rw [← ht]
  rfl
set_option maxHeartbeats 16000000 in
set_option maxRecDepth 100000 in
theorem ask_any {E : Nat → Addr} (base b pf : Nat) (g : Gat) (s : List UInt8) (now : Int) (w : World) (hL : LaidS E w) (hG : GateAt w base b pf g) (hO : GOk g) (hs : s.length ≤ 1000000) :
    Calls Tryz.prog 14 #[.pointer (some ⟨b, 0, none⟩), .string (bs s), .int .i64 now] w fun e w' => AskRes E (askG g s now) e ∧ Below w.heap.size w w' := by
  have hB : Below w.heap.size w (w.alloc (.cells #[.string ⟨#[]⟩, .string ⟨#[]⟩, .int .i64 0, .int .i64 0, .int .i64 0, .int .i64 0] 25)) := (Below.refl _ _).alloc (Nat.le_refl _) _
  have hbr := Lib.hid (heap_alloc_new w (.cells #[.string ⟨#[]⟩, .string ⟨#[]⟩, .int .i64 0, .int .i64 0, .int .i64 0, .int .i64 0] 25))
  have hLw := Lib.hid (fun wx (hx : Below w.heap.size w wx) => hL.below hx)
  have hGw := Lib.hid (fun wx (hx : Below w.heap.size w wx) => hG.below hx)
  have hfr := Lib.hid (fun wx (hx : Below w.heap.size w wx) => fresh_any (E := E) base b pf g now wx (hL.below hx).laid (hG.below hx) hO)
  have hop := fun wx (hx : Below w.heap.size w wx) => open_tick (E := E) g.key (bs s) wx (hL.below hx) (by rw [bs_size]; exact hs)
  simp only [bs_list] at hop
  have hgd := Lib.hid (fun t wx (hx : Below w.heap.size w wx) (hl : TickLen t) => good_tick (E := E) t now wx (hL.below hx).laid hl)
  have hfl := Lib.hid (fun wx (hx : Below w.heap.size w wx) => floors_fol base pf g.f wx (hG.below hx).fol (by have := hO.f.fl; omega))
  have hps := Lib.hid (fun v n e0 wx (hv : FloorsAt wx v g.f.floors) => passes_flo v g.f.floors n e0 wx hv (fun f hf => who_len ((floorsE_good (L := g.f.l) (by rw [hO.f.ok.ok])).g.one f (by rw [hO.f.ok.ok]; exact hf))))
  have hq1 := Lib.hid (fun h => askG_stale (g := g) (s := s) (now := now) h)
  have hq2 := Lib.hid (fun h h2 => askG_open (g := g) (s := s) (now := now) h h2)
  have hq3 := Lib.hid (fun h h2 h3 => askG_name (g := g) (s := s) (now := now) h h2 h3)
  have hq4 := Lib.hid (fun h h2 h3 h4 => askG_good (g := g) (s := s) (now := now) h h2 h3 h4)
  have hq5 := Lib.hid (fun h h2 h3 h4 h5 => askG_floor (g := g) (s := s) (now := now) h h2 h3 h4 h5)
  have hq6 := Lib.hid (fun h h2 h3 h4 h5 => askG_pass (g := g) (s := s) (now := now) h h2 h3 h4 h5)
  have hol := openT_len g.key s
  replace hop := Lib.hid hop
  have hBH := Lib.hid hB
  have hnl := hO.n
  generalize askG g s now = R at *
  generalize openT g.key s = O at *
  obtain ⟨ot, oc⟩ := O
  dsimp only at hol hop hq2 hq3 hq4 hq5 hq6
  have hgd := Lib.hid (fun wx hx => hgd.out ot wx hx ⟨by unfold maxLen; omega, by unfold maxLen; omega⟩)
  generalize hfc : freshG g now = fc at *
  have hgcd := goodT_code ot now
  generalize hgc : goodT ot now = gc at *
  clear hL hG hs hB hfc hgc
  have hrow : ∀ wx, Below (w.alloc (.cells #[.string ⟨#[]⟩, .string ⟨#[]⟩, .int .i64 0, .int .i64 0, .int .i64 0, .int .i64 0] 25)).heap.size (w.alloc (.cells #[.string ⟨#[]⟩, .string ⟨#[]⟩, .int .i64 0, .int .i64 0, .int .i64 0, .int .i64 0] 25)) wx → wx.heap[w.heap.size]? = some (.cells #[.string ⟨#[]⟩, .string ⟨#[]⟩, .int .i64 0, .int .i64 0, .int .i64 0, .int .i64 0] 25 (0, 0)) := fun wx hx => heap_below hx hbr.out
  have hrowH := Lib.hid hrow
  clear hrow
  by_cases hf0 : fc = 0
  case neg =>
    obtain ⟨T1, x1, hev⟩ := errV_form E hf0
    have hfr1 := hfr.out _ hBH.out
    rw [hev] at hfr1
    replace hfr1 := Lib.hid hfr1
    have hr := Lib.hid (hq1.out hf0)
    have hev := Lib.hid hev
    clear hf0
    go_enter Tryz.func14, Tryz.ntmps14
    go_wp2_with fail
    refine hfr1.out.mono ?_
    rintro e w1 ⟨rfl, hb1⟩
    have hrr := hrowH.out _ hb1
    have hb := Lib.hid (below_trans hBH.out hb1)
    clear hb1
    obtain ⟨⟨r0, r1, r2, r3, r4, r5⟩, f0, f1, f2, f3, f4, f5⟩ := tick_kept (Below.refl _ _) hrr
    have hfin := Lib.hid (below_set6 (n := w.heap.size) hb.out (Nat.le_refl _) (.string ⟨#[]⟩) (.string ⟨#[]⟩) (.int .i64 0) (.int .i64 0) (.int .i64 0) (.int .i64 0))
    have hrrH := Lib.hid hrr
    clear hrr
    go_wp2_with fail
    obtain ⟨⟨q0, q1, q2, q3, q4, q5⟩, _⟩ := tick_kept (Below.refl _ _) (row_set6 hrrH.out (.string ⟨#[]⟩) (.string ⟨#[]⟩) (.int .i64 0) (.int .i64 0) (.int .i64 0) (.int .i64 0))
    exact bodyPost_ret (v := .tuple #[.agg #[.string ⟨#[]⟩, .string ⟨#[]⟩, .int .i64 0, .int .i64 0, .int .i64 0, .int .i64 0], .iface T1 x1]) (by simp [results, Tryz.results14, go_sem, q0, q1, q2, q3, q4, q5]) rfl ⟨AskRes.mk hr.out hev.out.symm rfl, by first | exact hfin.out | exact hfin.out.drew⟩
  subst hf0
  have hfr1 := hfr.out _ hBH.out
  rw [errV_zero] at hfr1
  replace hfr1 := Lib.hid hfr1
  replace hq2 := Lib.hid (hq2.out rfl)
  replace hq3 := Lib.hid (hq3.out rfl)
  replace hq4 := Lib.hid (hq4.out rfl)
  replace hq5 := Lib.hid (hq5.out rfl)
  replace hq6 := Lib.hid (hq6.out rfl)
  obtain ⟨who, svc, ep, bg, fn, sr⟩ := ot
  dsimp only [Tick.val] at hol hop hgd hq2 hq3 hq4 hq5 hq6
  clear hq1 hfr
  go_enter Tryz.func14, Tryz.ntmps14
  go_wp2_with fail
  refine hfr1.out.mono ?_
  rintro e w1 ⟨rfl, hb1⟩
  have hK1 := Lib.hid hb1
  obtain ⟨⟨k0, k1, k2, k3⟩, _⟩ := gate_cells (hGw.out _ (below_trans hBH.out hb1))
  have hop1 := hop.out w1 (below_trans hBH.out hb1)
  clear hb1 hop k0 k2 k3
  by_cases ho0 : oc = 0
  case neg =>
    obtain ⟨T1, x1, hev⟩ := errV_form E ho0
    rw [hev] at hop1
    replace hop1 := Lib.hid hop1
    have hr := Lib.hid (hq2.out ho0)
    have hev := Lib.hid hev
    clear ho0
    go_wp2_with fail
    refine hop1.out.mono ?_
    rintro e w2 ⟨rfl, hb2⟩
    have hx3 := (below_trans hK1.out hb2).alloc (below_trans hK1.out hb2).size (.cells #[.string (bs who), .string (bs svc), .int .i64 ep, .int .i64 bg, .int .i64 fn, .int .i64 sr] 25)
    have hrr := hrowH.out _ hx3
    have hb := Lib.hid (below_trans hBH.out hx3)
    clear hb2 hx3
    go_upto_region 6 with fail
    generalize w2.alloc (.cells #[.string (bs who), .string (bs svc), .int .i64 ep, .int .i64 bg, .int .i64 fn, .int .i64 sr] 25) = W3 at *
    obtain ⟨⟨r0, r1, r2, r3, r4, r5⟩, f0, f1, f2, f3, f4, f5⟩ := tick_kept (Below.refl _ _) hrr
    have hfin := Lib.hid (below_set6 (n := w.heap.size) hb.out (Nat.le_refl _) (.string ⟨#[]⟩) (.string ⟨#[]⟩) (.int .i64 0) (.int .i64 0) (.int .i64 0) (.int .i64 0))
    have hrrH := Lib.hid hrr
    clear hrr
    go_wp2_with fail
    obtain ⟨⟨q0, q1, q2, q3, q4, q5⟩, _⟩ := tick_kept (Below.refl _ _) (row_set6 hrrH.out (.string ⟨#[]⟩) (.string ⟨#[]⟩) (.int .i64 0) (.int .i64 0) (.int .i64 0) (.int .i64 0))
    exact bodyPost_ret (v := .tuple #[.agg #[.string ⟨#[]⟩, .string ⟨#[]⟩, .int .i64 0, .int .i64 0, .int .i64 0, .int .i64 0], .iface T1 x1]) (by simp [results, Tryz.results14, go_sem, q0, q1, q2, q3, q4, q5]) rfl ⟨AskRes.mk hr.out hev.out.symm rfl, by first | exact hfin.out | exact hfin.out.drew⟩
  subst ho0
  rw [errV_zero] at hop1
  replace hop1 := Lib.hid hop1
  replace hq3 := Lib.hid (hq3.out rfl)
  replace hq4 := Lib.hid (hq4.out rfl)
  replace hq5 := Lib.hid (hq5.out rfl)
  replace hq6 := Lib.hid (hq6.out rfl)
  clear hq2
  go_wp2_with fail
  refine hop1.out.mono ?_
  rintro e w2 ⟨rfl, hb2⟩
  have hx3 := (below_trans hK1.out hb2).alloc (below_trans hK1.out hb2).size (.cells #[.string (bs who), .string (bs svc), .int .i64 ep, .int .i64 bg, .int .i64 fn, .int .i64 sr] 25)
  have hK3 := Lib.hid hx3
  have hbx := heap_alloc_new w2 (.cells #[.string (bs who), .string (bs svc), .int .i64 ep, .int .i64 bg, .int .i64 fn, .int .i64 sr] 25)
  clear hb2 hx3 k1 hop1
  go_upto_region 7 with fail
  generalize hxd : w2.heap.size = xb at *
  generalize w2.alloc (.cells #[.string (bs who), .string (bs svc), .int .i64 ep, .int .i64 bg, .int .i64 fn, .int .i64 sr] 25) = W3 at *
  have hbxH := Lib.hid (fun wx (hx : Below W3.heap.size W3 wx) => (tick_kept hx hbx).1)
  have hcl := Lib.hid (fun wx (hx : Below W3.heap.size W3 wx) => (gate_cells (hGw.out _ (below_trans hBH.out (below_trans hK3.out hx)))).1)
  have hrw := Lib.hid (fun wx (hx : Below W3.heap.size W3 wx) => hrowH.out _ (below_trans hK3.out hx))
  have hBw := Lib.hid (fun wx (hx : Below W3.heap.size W3 wx) => below_trans hBH.out (below_trans hK3.out hx))
  clear hbx hxd
  obtain ⟨k0, k1, k2, k3⟩ := hcl.out _ (Below.refl _ _)
  obtain ⟨x0, x1, x2, x3, x4, x5⟩ := hbxH.out _ (Below.refl _ _)
  go_cut [33] from 34 to 40 (fun s33 wx => s33 = .bool (decide (svc ≠ g.name)) ∧ Hid (Below W3.heap.size W3 wx))
  case first =>
    by_cases hse : svc = g.name
    · have hdH := Lib.hid (show decide (svc ≠ g.name) = false from decide_eq_false (fun h => h hse))
      have e1 : ((bs svc).toList == (bs g.name).toList) = true := by rw [bs_same]; exact decide_eq_true hse
      have e2 : (bs svc).toList = (bs g.name).toList := by rw [hse]
      have e3 : ((bs svc).toList != (bs g.name).toList) = false := by rw [bne, e1]; rfl
      clear hse
      go_quiet (fail)
      go_wp2_with fail
      go_meet
      exact ⟨by rw [hdH.out], Lib.hid (below_drawn (Below.refl _ _) _)⟩
    · have hdH := Lib.hid (show decide (svc ≠ g.name) = true from decide_eq_true hse)
      have e1 : ((bs svc).toList == (bs g.name).toList) = false := by rw [bs_same]; exact decide_eq_false hse
      have e2 : ¬ (bs svc).toList = (bs g.name).toList := by rw [toList_data, toList_data, bs_list, bs_list]; exact hse
      have e3 : ((bs svc).toList != (bs g.name).toList) = true := by rw [bne, e1]; rfl
      clear hse
      go_quiet (fail)
      go_wp2_with fail
      go_meet
      exact ⟨by rw [hdH.out], Lib.hid (below_drawn (Below.refl _ _) _)⟩
  obtain ⟨rfl, hC4⟩ := hcut
  clear k0 k1 k2 k3 x0 x1 x2 x3 x4 x5
  by_cases hse : svc = g.name
  case neg =>
    have hr := Lib.hid (hq3.out hse)
    rw [show decide (svc ≠ g.name) = true from decide_eq_true hse]
    have hrr := hrw.out _ hC4.out
    have hb := Lib.hid (hBw.out _ hC4.out)
    clear hse
    have hrr : wc.drew.heap[w.heap.size]? = some (.cells #[.string ⟨#[]⟩, .string ⟨#[]⟩, .int .i64 0, .int .i64 0, .int .i64 0, .int .i64 0] 25 (0, 0)) := hrr
    have hb := Lib.hid hb.out.drew
    obtain ⟨⟨r0, r1, r2, r3, r4, r5⟩, f0, f1, f2, f3, f4, f5⟩ := tick_kept (Below.refl _ _) hrr
    have hfin := Lib.hid (below_set6 (n := w.heap.size) hb.out (Nat.le_refl _) (.string ⟨#[]⟩) (.string ⟨#[]⟩) (.int .i64 0) (.int .i64 0) (.int .i64 0) (.int .i64 0))
    have he := (hLw.out _ hb.out).laid.e4
    have he2 := Lib.hid (hLw.out _ hfin.out).laid.e4
    have hrrH := Lib.hid hrr
    clear hrr
    go_wp2_with fail
    refine wp_region_noPanic ?_
    refine wp_region_held_drew (S := fun wx => wx.cell? ⟨0, 0, none⟩ = some (errV E 4)) (by kernel_rfl) ?_ (fun hHeld => ?_)
    · exact he
    refine' held_take (i := 0) (d := some 41) (v := _) rfl rfl (by kernel_rfl) (by kernel_rfl) (by kernel_rfl) (fun _ _ _ h => h) rfl (by assumption) ?hy_47 ?re_47
    case hy_47 =>
      intro w hSw
      try dsimp only at hSw
      go_simp
      try with_reducible rfl
    simp only [Act.put, List.setIfInBounds_toArray, List.set_cons_zero, List.set_cons_succ]
    refine' held_take (i := 1) (d := some 42) (v := _) rfl rfl (by kernel_rfl) (by kernel_rfl) (by kernel_rfl) (fun _ _ _ h => h) rfl (by assumption) ?hy_48 ?re_48
    case hy_48 =>
      intro w hSw
      try dsimp only at hSw
      go_simp
      try with_reducible rfl
    simp only [Act.put, List.setIfInBounds_toArray, List.set_cons_zero, List.set_cons_succ]
    refine wpAnyH_ready (rs := [2]) (by kernel_rfl) (by simp) ?_
    refine AllReadyH.cons rfl (fun K hK => ?_) AllReadyH.nil
    generalize wc.drew = Wd at *
    go_simp
    refine hK.out _ _ ?_ (fun hHeld => ?_)
    · exact he2.out
    clear hK K
    try simp only [Act.put, List.setIfInBounds_toArray, List.set_cons_zero, List.set_cons_succ]
    refine' held_take (i := 3) (d := some 7) (v := _) rfl rfl (by kernel_rfl) (by kernel_rfl) (by kernel_rfl) (fun _ _ _ h => h) rfl (by assumption) ?hy_49 ?re_49
    case hy_49 =>
      intro w hSw
      try dsimp only at hSw
      go_simp
      try with_reducible rfl
    simp only [Act.put, List.setIfInBounds_toArray, List.set_cons_zero, List.set_cons_succ]
    refine wpAnyH_done (by kernel_rfl) ?_ _
    refine NoPanic.normal ?_
    go_wp2_with fail
    obtain ⟨⟨q0, q1, q2, q3, q4, q5⟩, _⟩ := tick_kept (Below.refl _ _) (row_set6 hrrH.out (.string ⟨#[]⟩) (.string ⟨#[]⟩) (.int .i64 0) (.int .i64 0) (.int .i64 0) (.int .i64 0))
    exact bodyPost_ret (v := .tuple #[.agg #[.string ⟨#[]⟩, .string ⟨#[]⟩, .int .i64 0, .int .i64 0, .int .i64 0, .int .i64 0], errV E 4]) (by simp [results, Tryz.results14, go_sem, q0, q1, q2, q3, q4, q5]) rfl ⟨AskRes.mk hr.out rfl rfl, by first | exact hfin.out | exact hfin.out.drew⟩
  rw [show decide (svc ≠ g.name) = false from decide_eq_false (fun h => h hse)]
  replace hq4 := Lib.hid (hq4.out hse)
  replace hq5 := Lib.hid (hq5.out hse)
  replace hq6 := Lib.hid (hq6.out hse)
  clear hq3 hse
  have hgd4 := hgd.out _ (hBw.out _ hC4.out)
  obtain ⟨x0, x1, x2, x3, x4, x5⟩ := hbxH.out _ hC4.out
  by_cases hg0 : gc = 0
  case neg =>
    obtain ⟨T1, y1, hev⟩ := errV_form E hg0
    rw [hev] at hgd4
    replace hgd4 := Lib.hid hgd4
    have hr := Lib.hid (hq4.out hg0)
    have hev := Lib.hid hev
    clear hg0
    go_wp2_with fail
    refine hgd4.out.mono ?_
    rintro e w5 ⟨rfl, hb5⟩
    have hC5 := Lib.hid (below_trans hC4.out hb5)
    have hrr := hrw.out _ hC5.out
    have hb := Lib.hid (hBw.out _ hC5.out)
    clear hb5 x0 x1 x2 x3 x4 x5
    obtain ⟨⟨r0, r1, r2, r3, r4, r5⟩, f0, f1, f2, f3, f4, f5⟩ := tick_kept (Below.refl _ _) hrr
    have hfin := Lib.hid (below_set6 (n := w.heap.size) hb.out (Nat.le_refl _) (.string ⟨#[]⟩) (.string ⟨#[]⟩) (.int .i64 0) (.int .i64 0) (.int .i64 0) (.int .i64 0))
    have hrrH := Lib.hid hrr
    clear hrr
    go_wp2_with fail
    obtain ⟨⟨q0, q1, q2, q3, q4, q5⟩, _⟩ := tick_kept (Below.refl _ _) (row_set6 hrrH.out (.string ⟨#[]⟩) (.string ⟨#[]⟩) (.int .i64 0) (.int .i64 0) (.int .i64 0) (.int .i64 0))
    exact bodyPost_ret (v := .tuple #[.agg #[.string ⟨#[]⟩, .string ⟨#[]⟩, .int .i64 0, .int .i64 0, .int .i64 0, .int .i64 0], .iface T1 y1]) (by simp [results, Tryz.results14, go_sem, q0, q1, q2, q3, q4, q5]) rfl ⟨AskRes.mk hr.out hev.out.symm rfl, by first | exact hfin.out | exact hfin.out.drew⟩
  subst hg0
  rw [errV_zero] at hgd4
  replace hgd4 := Lib.hid hgd4
  replace hq5 := Lib.hid (hq5.out rfl)
  replace hq6 := Lib.hid (hq6.out rfl)
  clear hq4
  go_wp2_with fail
  refine hgd4.out.mono ?_
  rintro e w5 ⟨rfl, hb5⟩
  have hC5 := Lib.hid (below_trans hC4.out hb5)
  clear hb5 x0 x1 x2 x3 x4 x5 hgd4
  go_upto_region 12 with fail
  have hkS := Lib.hid (fun wx (hx : Below w5.heap.size w5 wx) => (show wx.cell? ⟨b, 3, none⟩ = some (.pointer (some ⟨pf, 0, none⟩)) ∧ wx.cell? ⟨xb, 0, none⟩ = some (.string (bs who)) ∧ wx.cell? ⟨xb, 2, none⟩ = some (.int .i64 ep) from ⟨(hcl.out _ (below_trans hC5.out hx)).2.2.2, (hbxH.out _ (below_trans hC5.out hx)).1, (hbxH.out _ (below_trans hC5.out hx)).2.2.1⟩))
  have hD0 := Lib.hid (show Below w5.heap.size w5 w5.drew from (Below.refl _ _).drew)
  have hcD := hkS.out _ hD0.out
  have hfl6 := Lib.hid (hfl.out _ (hBw.out _ (below_trans hC5.out hD0.out)))
  clear hfl
  go_cut [60] from 50 to 60 (fun s60 wx => s60 = .bool (!decide (ofF g.f.floors who ≤ ep)) ∧ Hid (Below w5.heap.size w5 wx))
  case first =>
    refine wp_region_noPanic ?_
    refine wp_region_held_drew (S := fun w' => w'.cell? ⟨b, 3, none⟩ = some (.pointer (some ⟨pf, 0, none⟩)) ∧ w'.cell? ⟨xb, 0, none⟩ = some (.string (bs who)) ∧ w'.cell? ⟨xb, 2, none⟩ = some (.int .i64 ep)) (by kernel_rfl) ?_ (fun hHeld => ?_)
    · exact hcD
    refine' held_take (i := 0) (d := some 50) (v := _) rfl rfl (by kernel_rfl) (by kernel_rfl) (by kernel_rfl) (fun _ _ _ h => h) rfl (by assumption) ?hy_50 ?re_50
    case hy_50 =>
      intro w hSw
      try dsimp only at hSw
      go_simp
      try with_reducible rfl
    simp only [Act.put, List.setIfInBounds_toArray, List.set_cons_zero, List.set_cons_succ]
    refine' held_take (i := 1) (d := some 51) (v := _) rfl rfl (by kernel_rfl) (by kernel_rfl) (by kernel_rfl) (fun _ _ _ h => h) rfl (by assumption) ?hy_51 ?re_51
    case hy_51 =>
      intro w hSw
      try dsimp only at hSw
      go_simp
      try with_reducible rfl
    simp only [Act.put, List.setIfInBounds_toArray, List.set_cons_zero, List.set_cons_succ]
    refine' held_take (i := 2) (d := some 52) (v := _) rfl rfl (by kernel_rfl) (by kernel_rfl) (by kernel_rfl) (fun _ _ _ h => h) rfl (by assumption) ?hy_52 ?re_52
    case hy_52 =>
      intro w hSw
      try dsimp only at hSw
      go_simp
      try with_reducible rfl
    simp only [Act.put, List.setIfInBounds_toArray, List.set_cons_zero, List.set_cons_succ]
    refine' held_take (i := 3) (d := some 53) (v := _) rfl rfl (by kernel_rfl) (by kernel_rfl) (by kernel_rfl) (fun _ _ _ h => h) rfl (by assumption) ?hy_53 ?re_53
    case hy_53 =>
      intro w hSw
      try dsimp only at hSw
      go_simp
      try with_reducible rfl
    simp only [Act.put, List.setIfInBounds_toArray, List.set_cons_zero, List.set_cons_succ]
    refine' held_take (i := 5) (d := some 55) (v := _) rfl rfl (by kernel_rfl) (by kernel_rfl) (by kernel_rfl) (fun _ _ _ h => h) rfl (by assumption) ?hy_54 ?re_54
    case hy_54 =>
      intro w hSw
      try dsimp only at hSw
      go_simp
      try with_reducible rfl
    simp only [Act.put, List.setIfInBounds_toArray, List.set_cons_zero, List.set_cons_succ]
    refine' held_take (i := 6) (d := some 56) (v := _) rfl rfl (by kernel_rfl) (by kernel_rfl) (by kernel_rfl) (fun _ _ _ h => h) rfl (by assumption) ?hy_55 ?re_55
    case hy_55 =>
      intro w hSw
      try dsimp only at hSw
      go_simp
      try with_reducible rfl
    simp only [Act.put, List.setIfInBounds_toArray, List.set_cons_zero, List.set_cons_succ]
    refine' held_take (i := 7) (d := some 57) (v := _) rfl rfl (by kernel_rfl) (by kernel_rfl) (by kernel_rfl) (fun _ _ _ h => h) rfl (by assumption) ?hy_56 ?re_56
    case hy_56 =>
      intro w hSw
      try dsimp only at hSw
      go_simp
      try with_reducible rfl
    simp only [Act.put, List.setIfInBounds_toArray, List.set_cons_zero, List.set_cons_succ]
    refine' held_take (i := 8) (d := some 58) (v := _) rfl rfl (by kernel_rfl) (by kernel_rfl) (by kernel_rfl) (fun _ _ _ h => h) rfl (by assumption) ?hy_57 ?re_57
    case hy_57 =>
      intro w hSw
      try dsimp only at hSw
      go_simp
      try with_reducible rfl
    simp only [Act.put, List.setIfInBounds_toArray, List.set_cons_zero, List.set_cons_succ]
    refine wpAnyH_ready (rs := [4]) (by kernel_rfl) (by simp) ?_
    refine AllReadyH.cons rfl (fun K hK => ?_) AllReadyH.nil
    go_simp
    refine hfl6.out.mono ?_
    rintro e w6 ⟨v6, rfl, hr6, hb⟩
    have hps6 := Lib.hid (hps.out v6 who ep w6 (floorsAt_of (RowG.at_ (floRow_G.1 hr6))))
    have hD1 := Lib.hid (below_trans hD0.out hb)
    clear hb hr6
    go_wp2_with fail
    refine hK.out _ _ ?_ (fun hHeld => ?_)
    · exact hkS.out _ hD1.out
    clear hK K
    try simp only [Act.put, List.setIfInBounds_toArray, List.set_cons_zero, List.set_cons_succ]
    refine wpAnyH_ready (rs := [9]) (by kernel_rfl) (by simp) ?_
    refine AllReadyH.cons rfl (fun K hK => ?_) AllReadyH.nil
    go_simp
    refine hps6.out.mono ?_
    rintro e w7 ⟨rfl, hb⟩
    have hD2 := Lib.hid (below_trans hD1.out hb)
    clear hb
    go_wp2_with fail
    refine hK.out _ _ ?_ (fun hHeld => ?_)
    · exact hkS.out _ hD2.out
    clear hK K
    try simp only [Act.put, List.setIfInBounds_toArray, List.set_cons_zero, List.set_cons_succ]
    refine' held_take (i := 10) (d := some 60) (v := _) rfl rfl (by kernel_rfl) (by kernel_rfl) (by kernel_rfl) (fun _ _ _ h => h) rfl (by assumption) ?hy_58 ?re_58
    case hy_58 =>
      intro w hSw
      try dsimp only at hSw
      go_simp
      try with_reducible rfl
    simp only [Act.put, List.setIfInBounds_toArray, List.set_cons_zero, List.set_cons_succ]
    refine wpAnyH_done (by kernel_rfl) ?_ _
    refine NoPanic.normal ?_
    go_wp2_with fail
    go_meet
    exact ⟨rfl, hD2⟩
  obtain ⟨rfl, hC6'⟩ := hcut
  have hC6 := Lib.hid (below_trans hC5.out hC6'.out)
  clear hkS hcD hfl6 hC6'
  by_cases h5 : ep < ofF g.f.floors who
  · have hr := Lib.hid (hq5.out h5)
    rw [show (!decide (ofF g.f.floors who ≤ ep)) = true by rw [decide_eq_false (by omega)]; rfl]
    have hrr := hrw.out _ hC6.out
    have hb := Lib.hid (hBw.out _ hC6.out)
    clear h5
    have hrr : wc.drew.heap[w.heap.size]? = some (.cells #[.string ⟨#[]⟩, .string ⟨#[]⟩, .int .i64 0, .int .i64 0, .int .i64 0, .int .i64 0] 25 (0, 0)) := hrr
    have hb := Lib.hid hb.out.drew
    obtain ⟨⟨r0, r1, r2, r3, r4, r5⟩, f0, f1, f2, f3, f4, f5⟩ := tick_kept (Below.refl _ _) hrr
    have hfin := Lib.hid (below_set6 (n := w.heap.size) hb.out (Nat.le_refl _) (.string ⟨#[]⟩) (.string ⟨#[]⟩) (.int .i64 0) (.int .i64 0) (.int .i64 0) (.int .i64 0))
    have he := (hLw.out _ hb.out).laid.e13
    have he2 := Lib.hid (hLw.out _ hfin.out).laid.e13
    have hrrH := Lib.hid hrr
    clear hrr
    go_wp2_with fail
    refine wp_region_noPanic ?_
    refine wp_region_held_drew (S := fun wx => wx.cell? ⟨3, 0, none⟩ = some (errV E 13)) (by kernel_rfl) ?_ (fun hHeld => ?_)
    · exact he
    refine' held_take (i := 0) (d := some 61) (v := _) rfl rfl (by kernel_rfl) (by kernel_rfl) (by kernel_rfl) (fun _ _ _ h => h) rfl (by assumption) ?hy_59 ?re_59
    case hy_59 =>
      intro w hSw
      try dsimp only at hSw
      go_simp
      try with_reducible rfl
    simp only [Act.put, List.setIfInBounds_toArray, List.set_cons_zero, List.set_cons_succ]
    refine' held_take (i := 1) (d := some 62) (v := _) rfl rfl (by kernel_rfl) (by kernel_rfl) (by kernel_rfl) (fun _ _ _ h => h) rfl (by assumption) ?hy_60 ?re_60
    case hy_60 =>
      intro w hSw
      try dsimp only at hSw
      go_simp
      try with_reducible rfl
    simp only [Act.put, List.setIfInBounds_toArray, List.set_cons_zero, List.set_cons_succ]
    refine wpAnyH_ready (rs := [2]) (by kernel_rfl) (by simp) ?_
    refine AllReadyH.cons rfl (fun K hK => ?_) AllReadyH.nil
    generalize wc.drew = Wd at *
    go_simp
    refine hK.out _ _ ?_ (fun hHeld => ?_)
    · exact he2.out
    clear hK K
    try simp only [Act.put, List.setIfInBounds_toArray, List.set_cons_zero, List.set_cons_succ]
    refine' held_take (i := 3) (d := some 7) (v := _) rfl rfl (by kernel_rfl) (by kernel_rfl) (by kernel_rfl) (fun _ _ _ h => h) rfl (by assumption) ?hy_61 ?re_61
    case hy_61 =>
      intro w hSw
      try dsimp only at hSw
      go_simp
      try with_reducible rfl
    simp only [Act.put, List.setIfInBounds_toArray, List.set_cons_zero, List.set_cons_succ]
    refine wpAnyH_done (by kernel_rfl) ?_ _
    refine NoPanic.normal ?_
    go_wp2_with fail
    obtain ⟨⟨q0, q1, q2, q3, q4, q5⟩, _⟩ := tick_kept (Below.refl _ _) (row_set6 hrrH.out (.string ⟨#[]⟩) (.string ⟨#[]⟩) (.int .i64 0) (.int .i64 0) (.int .i64 0) (.int .i64 0))
    exact bodyPost_ret (v := .tuple #[.agg #[.string ⟨#[]⟩, .string ⟨#[]⟩, .int .i64 0, .int .i64 0, .int .i64 0, .int .i64 0], errV E 13]) (by simp [results, Tryz.results14, go_sem, q0, q1, q2, q3, q4, q5]) rfl ⟨AskRes.mk hr.out rfl rfl, by first | exact hfin.out | exact hfin.out.drew⟩
  · have hr := Lib.hid (hq6.out (by omega))
    rw [show (!decide (ofF g.f.floors who ≤ ep)) = false by rw [decide_eq_true (by omega)]; rfl]
    have hrr := hrw.out _ hC6.out
    have hb := Lib.hid (hBw.out _ hC6.out)
    obtain ⟨x0, x1, x2, x3, x4, x5⟩ := hbxH.out _ hC6.out
    clear h5
    obtain ⟨⟨r0, r1, r2, r3, r4, r5⟩, f0, f1, f2, f3, f4, f5⟩ := tick_kept (Below.refl _ _) hrr
    have hfin := Lib.hid (below_set6 (n := w.heap.size) hb.out (Nat.le_refl _) (.string (bs who)) (.string (bs svc)) (.int .i64 ep) (.int .i64 bg) (.int .i64 fn) (.int .i64 sr))
    have hrrH := Lib.hid hrr
    clear hrr
    go_wp2_with fail
    obtain ⟨⟨q0, q1, q2, q3, q4, q5⟩, _⟩ := tick_kept (Below.refl _ _) (row_set6 hrrH.out (.string (bs who)) (.string (bs svc)) (.int .i64 ep) (.int .i64 bg) (.int .i64 fn) (.int .i64 sr))
    exact bodyPost_ret (v := .tuple #[.agg #[.string (bs who), .string (bs svc), .int .i64 ep, .int .i64 bg, .int .i64 fn, .int .i64 sr], .nilIface]) (by simp [results, Tryz.results14, go_sem, q0, q1, q2, q3, q4, q5]) rfl ⟨AskRes.mk hr.out rfl rfl, by first | exact hfin.out | exact hfin.out.drew⟩
end Go.Proofs.YtadnjdchjoechaaGreatDoor
