/- RlmL0, Reign, ReignW, RlmY, EqSl -/
import Derived.Test.YtkhphdkjnpcnnaaGreatDoorMg20
import Derived.Test.YtkhphdkjnpcnnaaGreatDoorMg42
import Derived.Test.YtkhphdkjnpcnnaaGreatDoorMg24
import Derived.Test.YtkhphdkjnpcnnaaGreatDoorMg16
import Derived.Test.YtkhphdkjnpcnnaaGreatDoorMg30
import Derived.Test.YtkhphdkjnpcnnaaGreatDoorMg10
/- What RealmRevokes and RealmFlushes say: plain: no program in sight. -/
namespace Go.Proofs.YtkhphdkjnpcnnaaGreatDoor

/-- The ticket of a login. -/
def tickM (R : Rlm) (n svc : List UInt8) (p : Per) : Tick := ⟨n, svc, p.epoch, R.time, min (R.time + R.long) 1000000, R.serial⟩
theorem login_zero {R : Rlm} {n svc : List UInt8} {pr : Int} (h : (loginM R n pr svc).2.1 = 0) : ∃ p s, findP R.b n = some p ∧ findP R.b svc = some s ∧ p.off = false ∧ s.off = false ∧ rightOf p.key (proofM R n) pr = 0 ∧ R.time < 1000000 ∧ R.serial ≤ 1073741824 ∧
    isKey s.key = true ∧ tickErr (tickM R n svc p) = 0 ∧ loginM R n pr svc = (sealText s.key (tickWords (tickM R n svc p)), 0, { R with serial := R.serial + 1 }) := by
  unfold loginM at h ⊢
  cases hp : findP R.b n with
  | none => rw [hp] at h; cases h
  | some p =>
    cases hs : findP R.b svc with
    | none => rw [hp, hs] at h; cases h
    | some s =>
      rw [hp, hs] at h
      dsimp only at h ⊢
      by_cases h1 : p.off = true ∨ s.off = true
      · rw [if_pos h1] at h; cases h
      rw [if_neg h1] at h ⊢
      by_cases h2 : rightOf p.key (proofM R n) pr = 0
      · rw [if_neg (by simpa using h2)] at h ⊢
        by_cases h3 : 1000000 ≤ R.time ∨ 1073741824 < R.serial
        · rw [if_pos h3] at h; cases h
        rw [if_neg h3] at h ⊢
        have h4 : (makeT s.key (tickM R n svc p)).2 = 0 := h
        obtain ⟨h5, h6, h7⟩ := makeT_zero h4
        refine ⟨p, s, rfl, rfl, by simpa using (fun e => h1 (.inl e)), by simpa using (fun e => h1 (.inr e)), h2, by omega, by omega, h5, h6, ?_⟩
        have h8 : makeT s.key ⟨n, svc, p.epoch, R.time, min (R.time + R.long) 1000000, R.serial⟩ = (sealText s.key (tickWords (tickM R n svc p)), 0) := h7
        rw [h8, if_pos rfl]
      · rw [if_pos h2] at h; exact absurd h h2
theorem login_bad {R : Rlm} {n svc : List UInt8} {pr : Int} (h : (loginM R n pr svc).2.1 ≠ 0) : (loginM R n pr svc).1 = [] ∧ (loginM R n pr svc).2.2 = R := by
  unfold loginM at h ⊢
  cases hp : findP R.b n with
  | none => exact ⟨rfl, rfl⟩
  | some p =>
    cases hs : findP R.b svc with
    | none => exact ⟨rfl, rfl⟩
    | some s =>
      rw [hp, hs] at h
      dsimp only at h ⊢
      by_cases h1 : p.off = true ∨ s.off = true
      · rw [if_pos h1]; exact ⟨rfl, rfl⟩
      rw [if_neg h1] at h ⊢
      by_cases h2 : rightOf p.key (proofM R n) pr = 0
      · rw [if_neg (by simpa using h2)] at h ⊢
        by_cases h3 : 1000000 ≤ R.time ∨ 1073741824 < R.serial
        · rw [if_pos h3]; exact ⟨rfl, rfl⟩
        rw [if_neg h3] at h ⊢
        exact ⟨makeT_bad h, if_neg h⟩
      · rw [if_pos h2]; exact ⟨rfl, rfl⟩
/-- One who can log in does. -/
theorem login_can {R : Rlm} {n svc : List UInt8} {pr : Int} {p s : Per} (hp : findP R.b n = some p) (hs : findP R.b svc = some s) (h1 : p.off = false) (h2 : s.off = false) (h3 : rightOf p.key (proofM R n) pr = 0) (h4 : R.time < 1000000) (h5 : R.serial ≤ 1073741824)
    (hG : GoodM R) : loginM R n pr svc = (sealText s.key (tickWords (tickM R n svc p)), 0, { R with serial := R.serial + 1 }) ∧ tickErr (tickM R n svc p) = 0 ∧ isKey s.key = true := by
  obtain ⟨hpm, hpn⟩ := findP_some hp
  obtain ⟨hsm, hsn⟩ := findP_some hs
  have hk := hG.b.key s hsm
  have he : tickErr (tickM R n svc p) = 0 := by
    unfold tickErr
    have a1 := hG.b.name p hpm
    have a2 := hG.b.name s hsm
    have a3 := hG.b.epoch p hpm
    have a4 := hG.s0
    have a5 := hG.t0
    have a6 := hG.l0
    rw [hpn] at a1
    rw [hsn] at a2
    rw [if_pos (by show (isName n && isName svc) = true; rw [a1, a2]; rfl), if_pos ((tickNum_iff _).2 ⟨⟨by show 1 ≤ p.epoch; omega, by show p.epoch ≤ _; omega⟩, ⟨by show 1 ≤ R.serial; omega, by show R.serial ≤ _; omega⟩, ⟨by show 0 ≤ R.time; omega, by show R.time ≤ _; omega⟩, by show R.time ≤ min (R.time + R.long) 1000000; omega, by show min (R.time + R.long) 1000000 ≤ _; omega⟩)]
  refine ⟨?_, he, hk⟩
  unfold loginM
  rw [hp, hs]
  dsimp only
  rw [if_neg (by rw [h1, h2]; decide), if_neg (by simpa using h3), if_neg (by omega)]
  have h7 : makeT s.key ⟨n, svc, p.epoch, R.time, min (R.time + R.long) 1000000, R.serial⟩ = (sealText s.key (tickWords (tickM R n svc p)), 0) := by
    show makeT s.key (tickM R n svc p) = _
    unfold makeT
    rw [if_pos hk, if_pos he]
  rw [h7, if_pos rfl]
theorem login_late {R : Rlm} {n svc : List UInt8} {pr : Int} {p s : Per} (hp : findP R.b n = some p) (hs : findP R.b svc = some s) (h1 : p.off = false) (h2 : s.off = false) (h3 : rightOf p.key (proofM R n) pr = 0) (h5 : 1073741824 < R.serial) : loginM R n pr svc = ([], 2, R) := by
  unfold loginM
  rw [hp, hs]
  dsimp only
  rw [if_neg (by rw [h1, h2]; decide), if_neg (by simpa using h3), if_pos (.inr h5)]
theorem right_self {k : Int} (hk : isKey k = true) (s : List UInt8) : rightOf k s (markOf k s).1 = 0 := by
  unfold rightOf
  have h2 : (markOf k s).2 = 0 := by
    unfold markOf
    simp [hk]
  rw [if_pos h2, if_pos rfl]
end Go.Proofs.YtkhphdkjnpcnnaaGreatDoor

/- One logs in to a new realm: plain. -/
namespace Go.Proofs.YtkhphdkjnpcnnaaGreatDoor

def annW : List UInt8 := [97, 110, 110]
def doorW : List UInt8 := [100, 111, 111, 114]
def reign1 : Rlm := ⟨7, 50, 0, 1, [⟨annW, 5, 1, false⟩], []⟩
def reign2 : Rlm := ⟨7, 50, 0, 1, [⟨annW, 5, 1, false⟩, ⟨doorW, 6, 1, false⟩], []⟩
set_option maxRecDepth 10000 in
theorem reign_add1 : addM (newRlm 7 50) annW 5 = (0, reign1) := by rfl
set_option maxRecDepth 10000 in
theorem reign_add2 : addM reign1 doorW 6 = (0, reign2) := by rfl
theorem reign_good0 : GoodM (newRlm 7 50) := GoodM.new (by decide) (by decide) (by decide)
theorem reign_good1 : GoodM reign1 := by
  have := (reign_good0.add annW 5).1
  rw [reign_add1] at this
  exact this
theorem reign_good2 : GoodM reign2 := by
  have := (reign_good1.add doorW 6).1
  rw [reign_add2] at this
  exact this
theorem reign_proof : proofM reign2 annW = annW ++ [32, 48] := by
  unfold proofM
  show annW ++ 32 :: Lib.itoa 0 = _
  rw [show Lib.itoa 0 = [48] by simp [Lib.itoa, Lib.decDigits]]
theorem reign_login : ∃ s, (loginM reign2 annW (markOf 5 (annW ++ [32, 48])).1 doorW).1 = s ∧ (loginM reign2 annW (markOf 5 (annW ++ [32, 48])).1 doorW).2.1 = 0 ∧ openT 6 s = (⟨annW, doorW, 1, 0, 50, 1⟩, 0) := by
  obtain ⟨h1, h2, h3⟩ := login_can (R := reign2) (n := annW) (svc := doorW) (pr := (markOf 5 (annW ++ [32, 48])).1) (p := ⟨annW, 5, 1, false⟩) (s := ⟨doorW, 6, 1, false⟩) rfl rfl rfl rfl (by
    rw [reign_proof]
    exact right_self (by decide) _) (by decide) (by decide) reign_good2
  refine ⟨_, rfl, by rw [h1], ?_⟩
  rw [h1]
  exact openT_make h3 h2
end Go.Proofs.YtkhphdkjnpcnnaaGreatDoor

/- The law's helper reigned: walked. -/
namespace Go.Proofs.YtkhphdkjnpcnnaaGreatDoor
open Go.RowKit

set_option maxHeartbeats 4000000 in
set_option maxRecDepth 100000 in
theorem reigned_any {E : Nat → Addr} (w : World) (hL : LaidS E w) :
    Calls Tryz.prog 6 #[] w fun e w' => e = .returned (.bool true) ∧ Below w.heap.size w w' := by
  have hLw := Lib.hid (fun wx (hx : Below w.heap.size w wx) => hL.below hx)
  have hnw := Lib.hid ((newM_any (E := E) 7 50 w hL.laid).mono (R' := fun e w' => (∃ a b r, e = .returned (.tuple #[.pointer (some ⟨a, 0, none⟩), .nilIface]) ∧ RlmAt w' w.heap.size a b r (newRlm 7 50)) ∧ Below w.heap.size w w') (fun e w' ⟨h, hb⟩ => ⟨by
    rw [if_neg (by decide), if_neg (by decide)] at h
    exact h, hb⟩))
  have hm0 : (markOf 5 (annW ++ [32, 48])).2 = 0 := by
    unfold markOf
    rw [if_pos (by decide)]
  have hof := Lib.hid (fun wx (hx : Below w.heap.size w wx) => (show Calls Tryz.prog 32 #[.int .i64 5, .string (bs (annW ++ [32, 48]))] wx fun e w' => e = .returned (.tuple #[.int .i64 (markOf 5 (annW ++ [32, 48])).1, errV E (markOf 5 (annW ++ [32, 48])).2]) ∧ Below wx.heap.size wx w' from of_any (E := E) 5 (bs (annW ++ [32, 48])) wx (hLw.out wx hx).laid (Nat.le_of_ble_eq_true rfl)))
  obtain ⟨s, hs1, hs2, hs3⟩ := reign_login
  have hlen := login_len reign2 annW (markOf 5 (annW ++ [32, 48])).1 doorW
  generalize markOf 5 (annW ++ [32, 48]) = mo at *
  obtain ⟨mn, mc⟩ := mo
  dsimp only at *
  subst hm0
  simp only [errV] at hof
  go_enter Tryz.func6, Tryz.ntmps6
  go_wp2_with fail
  refine hnw.out.mono ?_
  rintro e w1 ⟨⟨a, b, r, rfl, hR⟩, hb⟩
  have hB1 := Lib.hid hb
  have had := addM_any (E := E) annW 5 w1 (hLw.out _ hb) hR reign_good0 (Nat.le_of_ble_eq_true rfl)
  rw [reign_add1] at had
  simp only [errV] at had
  have had := Lib.hid had
  have hR := Lib.hid hR
  clear hb hnw
  go_wp2_with fail
  refine had.out.mono ?_
  rintro e w2 ⟨rfl, hR2, hk⟩
  have hB2 := Lib.hid (hB1.out.trans (ok_P hR.out hB1.out.size hk).below)
  have had := addM_any (E := E) doorW 6 w2 (hLw.out _ hB2.out) hR2 reign_good1 (Nat.le_of_ble_eq_true rfl)
  rw [reign_add2] at had
  simp only [errV] at had
  have had := Lib.hid had
  have hR2 := Lib.hid hR2
  clear hk hR
  go_wp2_with fail
  refine had.out.mono ?_
  rintro e w3 ⟨rfl, hR3, hk⟩
  have hB3 := Lib.hid (hB2.out.trans (ok_P hR2.out hB2.out.size hk).below)
  have hR3 := Lib.hid hR3
  have hof3 := Lib.hid (hof.out w3 hB3.out)
  clear hk hR2 hof had
  go_wp2_with fail
  refine hof3.out.mono ?_
  rintro e w4 ⟨rfl, hb⟩
  have hB4 := Lib.hid (below_trans hB3.out hb)
  have hR4 := Lib.hid (hR3.out.below hb)
  have hlo := loginM_any (E := E) annW doorW mn w4 (hLw.out _ hB4.out) hR4.out reign_good2 (by decide) (by decide)
  generalize loginM reign2 annW mn doorW = lm at *
  obtain ⟨lt, lc, R3⟩ := lm
  dsimp only at *
  subst hs1
  subst hs2
  simp only [errV] at hlo
  have hlo := Lib.hid hlo
  clear hb hR3 hof3
  go_wp2_with fail
  refine hlo.out.mono ?_
  rintro e w5 ⟨rfl, _, hk⟩
  have hB5 := Lib.hid (hB4.out.trans (ok_P hR4.out hB4.out.size hk).below)
  have hop := (show Calls Tryz.prog 14 #[.int .i64 6, .string (bs lt)] w5 fun e w' => e = .returned (.tuple #[(openT 6 lt).1.val, errV E (openT 6 lt).2]) ∧ Below w5.heap.size w5 w' from open_tick 6 (bs lt) w5 (hLw.out _ hB5.out) (by rw [bs_size]; omega))
  rw [hs3] at hop
  simp only [errV, Tick.val] at hop
  have hop := Lib.hid hop
  clear hk hR4 hlo hlen
  go_wp2_with fail
  refine hop.out.mono ?_
  rintro e w6 ⟨rfl, hb⟩
  have hx := hb.alloc hb.size (.cells #[.string (bs annW), .string (bs doorW), .int .i64 1, .int .i64 0, .int .i64 50, .int .i64 1] 51)
  obtain ⟨⟨g0, g1, g2, g3, g4, g5⟩, _⟩ := six_of (heap_alloc_new w6 (.cells #[.string (bs annW), .string (bs doorW), .int .i64 1, .int .i64 0, .int .i64 50, .int .i64 1] 51))
  have hB6 := Lib.hid (below_trans hB5.out hx)
  clear hb hx hop
  go_wp2_with fail
  go_ret
  exact ⟨rfl, hB6.out⟩
end Go.Proofs.YtkhphdkjnpcnnaaGreatDoor

/- realm.Copy: walked. -/
namespace Go.Proofs.YtkhphdkjnpcnnaaGreatDoor
open Go.RowKit

set_option maxHeartbeats 4000000 in
set_option maxRecDepth 100000 in
theorem copyM_any {base a b r : Nat} {R : Rlm} (w : World) (hR : RlmAt w base a b r R) (hl : R.l.length ≤ 1000) :
    Calls Tryz.prog 27 #[.pointer (some ⟨a, 0, none⟩)] w fun e w' => ∃ a' b' r', e = .returned (.pointer (some ⟨a', 0, none⟩)) ∧ RlmAt w' w.heap.size a' b' r' R ∧ Below w.heap.size w w' := by
  obtain ⟨al, cl, ⟨c0, c1, c2, c3, c4, c5⟩, _, hrow⟩ := hR.cells
  have hcp := Lib.hid (fun wx (hx : Below w.heap.size w wx) => copy_new b r R.b wx (hR.below hx).book)
  have hcl := Lib.hid (fun wx (hx : Below w.heap.size w wx) => clone_ent (.slice al R.l.length cl) R.l wx (RowG.at_ (hrow.below hx)) hl)
  obtain ⟨rk, rl, rt, rs, rb, rL⟩ := R
  dsimp only at *
  have hSA := Lib.hid (fun wx (hx : Below w.heap.size w wx) => (show wx.cell? ⟨a, 0, none⟩ = some (.int .i64 rk) ∧ wx.cell? ⟨a, 1, none⟩ = some (.int .i64 rl) ∧ wx.cell? ⟨a, 2, none⟩ = some (.int .i64 rt) ∧ wx.cell? ⟨a, 3, none⟩ = some (.int .i64 rs) ∧ wx.cell? ⟨a, 4, none⟩ = some (.pointer (some ⟨b, 0, none⟩)) ∧ wx.cell? ⟨a, 5, none⟩ = some (.slice al rL.length cl) from ⟨cell_below hx c0, cell_below hx c1, cell_below hx c2, cell_below hx c3, cell_below hx c4, cell_below hx c5⟩))
  have hD0 := Lib.hid (show Below w.heap.size w w.drew from (Below.refl _ _).drew)
  clear c0 c1 c2 c3 c4 c5 hrow hR hl
  go_enter Tryz.func27, Tryz.ntmps27
  go_upto_region 1 with fail
  refine wp_region_noPanic ?_
  refine wp_region_held_drew (S := fun wx => wx.cell? ⟨a, 0, none⟩ = some (.int .i64 rk) ∧ wx.cell? ⟨a, 1, none⟩ = some (.int .i64 rl) ∧ wx.cell? ⟨a, 2, none⟩ = some (.int .i64 rt) ∧ wx.cell? ⟨a, 3, none⟩ = some (.int .i64 rs) ∧ wx.cell? ⟨a, 4, none⟩ = some (.pointer (some ⟨b, 0, none⟩)) ∧ wx.cell? ⟨a, 5, none⟩ = some (.slice al rL.length cl)) (by kernel_rfl) ?_ (fun hHeld => ?_)
  · exact hSA.out _ hD0.out
  refine' held_take (i := 0) (d := some 3) (v := _) rfl rfl (by kernel_rfl) (by kernel_rfl) (by kernel_rfl) (fun _ _ _ h => h) rfl (by assumption) ?hy_1 ?re_1
  case hy_1 =>
    intro w hSw
    try dsimp only at hSw
    go_simp
    try with_reducible rfl
  simp only [Act.put, List.setIfInBounds_toArray, List.set_cons_zero, List.set_cons_succ]
  refine' held_take (i := 1) (d := some 4) (v := _) rfl rfl (by kernel_rfl) (by kernel_rfl) (by kernel_rfl) (fun _ _ _ h => h) rfl (by assumption) ?hy_2 ?re_2
  case hy_2 =>
    intro w hSw
    try dsimp only at hSw
    go_simp
    try with_reducible rfl
  simp only [Act.put, List.setIfInBounds_toArray, List.set_cons_zero, List.set_cons_succ]
  refine' held_take (i := 2) (d := some 5) (v := _) rfl rfl (by kernel_rfl) (by kernel_rfl) (by kernel_rfl) (fun _ _ _ h => h) rfl (by assumption) ?hy_3 ?re_3
  case hy_3 =>
    intro w hSw
    try dsimp only at hSw
    go_simp
    try with_reducible rfl
  simp only [Act.put, List.setIfInBounds_toArray, List.set_cons_zero, List.set_cons_succ]
  refine' held_take (i := 3) (d := some 6) (v := _) rfl rfl (by kernel_rfl) (by kernel_rfl) (by kernel_rfl) (fun _ _ _ h => h) rfl (by assumption) ?hy_4 ?re_4
  case hy_4 =>
    intro w hSw
    try dsimp only at hSw
    go_simp
    try with_reducible rfl
  simp only [Act.put, List.setIfInBounds_toArray, List.set_cons_zero, List.set_cons_succ]
  refine' held_take (i := 4) (d := some 7) (v := _) rfl rfl (by kernel_rfl) (by kernel_rfl) (by kernel_rfl) (fun _ _ _ h => h) rfl (by assumption) ?hy_5 ?re_5
  case hy_5 =>
    intro w hSw
    try dsimp only at hSw
    go_simp
    try with_reducible rfl
  simp only [Act.put, List.setIfInBounds_toArray, List.set_cons_zero, List.set_cons_succ]
  refine' held_take (i := 5) (d := some 8) (v := _) rfl rfl (by kernel_rfl) (by kernel_rfl) (by kernel_rfl) (fun _ _ _ h => h) rfl (by assumption) ?hy_6 ?re_6
  case hy_6 =>
    intro w hSw
    try dsimp only at hSw
    go_simp
    try with_reducible rfl
  simp only [Act.put, List.setIfInBounds_toArray, List.set_cons_zero, List.set_cons_succ]
  refine' held_take (i := 6) (d := some 9) (v := _) rfl rfl (by kernel_rfl) (by kernel_rfl) (by kernel_rfl) (fun _ _ _ h => h) rfl (by assumption) ?hy_7 ?re_7
  case hy_7 =>
    intro w hSw
    try dsimp only at hSw
    go_simp
    try with_reducible rfl
  simp only [Act.put, List.setIfInBounds_toArray, List.set_cons_zero, List.set_cons_succ]
  refine' held_take (i := 7) (d := some 10) (v := _) rfl rfl (by kernel_rfl) (by kernel_rfl) (by kernel_rfl) (fun _ _ _ h => h) rfl (by assumption) ?hy_8 ?re_8
  case hy_8 =>
    intro w hSw
    try dsimp only at hSw
    go_simp
    try with_reducible rfl
  simp only [Act.put, List.setIfInBounds_toArray, List.set_cons_zero, List.set_cons_succ]
  refine' held_take (i := 8) (d := some 11) (v := _) rfl rfl (by kernel_rfl) (by kernel_rfl) (by kernel_rfl) (fun _ _ _ h => h) rfl (by assumption) ?hy_9 ?re_9
  case hy_9 =>
    intro w hSw
    try dsimp only at hSw
    go_simp
    try with_reducible rfl
  simp only [Act.put, List.setIfInBounds_toArray, List.set_cons_zero, List.set_cons_succ]
  refine' held_take (i := 9) (d := some 12) (v := _) rfl rfl (by kernel_rfl) (by kernel_rfl) (by kernel_rfl) (fun _ _ _ h => h) rfl (by assumption) ?hy_10 ?re_10
  case hy_10 =>
    intro w hSw
    try dsimp only at hSw
    go_simp
    try with_reducible rfl
  simp only [Act.put, List.setIfInBounds_toArray, List.set_cons_zero, List.set_cons_succ]
  refine' held_take (i := 10) (d := some 13) (v := _) rfl rfl (by kernel_rfl) (by kernel_rfl) (by kernel_rfl) (fun _ _ _ h => h) rfl (by assumption) ?hy_11 ?re_11
  case hy_11 =>
    intro w hSw
    try dsimp only at hSw
    go_simp
    try with_reducible rfl
  simp only [Act.put, List.setIfInBounds_toArray, List.set_cons_zero, List.set_cons_succ]
  refine' held_take (i := 11) (d := some 14) (v := _) rfl rfl (by kernel_rfl) (by kernel_rfl) (by kernel_rfl) (fun _ _ _ h => h) rfl (by assumption) ?hy_12 ?re_12
  case hy_12 =>
    intro w hSw
    try dsimp only at hSw
    go_simp
    try with_reducible rfl
  simp only [Act.put, List.setIfInBounds_toArray, List.set_cons_zero, List.set_cons_succ]
  refine' held_take (i := 12) (d := some 15) (v := _) rfl rfl (by kernel_rfl) (by kernel_rfl) (by kernel_rfl) (fun _ _ _ h => h) rfl (by assumption) ?hy_13 ?re_13
  case hy_13 =>
    intro w hSw
    try dsimp only at hSw
    go_simp
    try with_reducible rfl
  simp only [Act.put, List.setIfInBounds_toArray, List.set_cons_zero, List.set_cons_succ]
  refine' held_take (i := 13) (d := some 16) (v := _) rfl rfl (by kernel_rfl) (by kernel_rfl) (by kernel_rfl) (fun _ _ _ h => h) rfl (by assumption) ?hy_14 ?re_14
  case hy_14 =>
    intro w hSw
    try dsimp only at hSw
    go_simp
    try with_reducible rfl
  simp only [Act.put, List.setIfInBounds_toArray, List.set_cons_zero, List.set_cons_succ]
  refine' held_take (i := 14) (d := some 17) (v := _) rfl rfl (by kernel_rfl) (by kernel_rfl) (by kernel_rfl) (fun _ _ _ h => h) rfl (by assumption) ?hy_15 ?re_15
  case hy_15 =>
    intro w hSw
    try dsimp only at hSw
    go_simp
    try with_reducible rfl
  simp only [Act.put, List.setIfInBounds_toArray, List.set_cons_zero, List.set_cons_succ]
  refine' held_take (i := 15) (d := some 18) (v := _) rfl rfl (by kernel_rfl) (by kernel_rfl) (by kernel_rfl) (fun _ _ _ h => h) rfl (by assumption) ?hy_16 ?re_16
  case hy_16 =>
    intro w hSw
    try dsimp only at hSw
    go_simp
    try with_reducible rfl
  simp only [Act.put, List.setIfInBounds_toArray, List.set_cons_zero, List.set_cons_succ]
  refine' held_take (i := 16) (d := some 19) (v := _) rfl rfl (by kernel_rfl) (by kernel_rfl) (by kernel_rfl) (fun _ _ _ h => h) rfl (by assumption) ?hy_17 ?re_17
  case hy_17 =>
    intro w hSw
    try dsimp only at hSw
    go_simp
    try with_reducible rfl
  simp only [Act.put, List.setIfInBounds_toArray, List.set_cons_zero, List.set_cons_succ]
  refine' held_take (i := 17) (d := some 20) (v := _) rfl rfl (by kernel_rfl) (by kernel_rfl) (by kernel_rfl) (fun _ _ _ h => h) rfl (by assumption) ?hy_18 ?re_18
  case hy_18 =>
    intro w hSw
    try dsimp only at hSw
    go_simp
    try with_reducible rfl
  simp only [Act.put, List.setIfInBounds_toArray, List.set_cons_zero, List.set_cons_succ]
  refine' held_take (i := 18) (d := some 21) (v := _) rfl rfl (by kernel_rfl) (by kernel_rfl) (by kernel_rfl) (fun _ _ _ h => h) rfl (by assumption) ?hy_19 ?re_19
  case hy_19 =>
    intro w hSw
    try dsimp only at hSw
    go_simp
    try with_reducible rfl
  simp only [Act.put, List.setIfInBounds_toArray, List.set_cons_zero, List.set_cons_succ]
  refine' held_take (i := 19) (d := some 22) (v := _) rfl rfl (by kernel_rfl) (by kernel_rfl) (by kernel_rfl) (fun _ _ _ h => h) rfl (by assumption) ?hy_20 ?re_20
  case hy_20 =>
    intro w hSw
    try dsimp only at hSw
    go_simp
    try with_reducible rfl
  simp only [Act.put, List.setIfInBounds_toArray, List.set_cons_zero, List.set_cons_succ]
  refine' held_take (i := 21) (d := some 24) (v := _) rfl rfl (by kernel_rfl) (by kernel_rfl) (by kernel_rfl) (fun _ _ _ h => h) rfl (by assumption) ?hy_21 ?re_21
  case hy_21 =>
    intro w hSw
    try dsimp only at hSw
    go_simp
    try with_reducible rfl
  simp only [Act.put, List.setIfInBounds_toArray, List.set_cons_zero, List.set_cons_succ]
  refine' held_take (i := 22) (d := some 25) (v := _) rfl rfl (by kernel_rfl) (by kernel_rfl) (by kernel_rfl) (fun _ _ _ h => h) rfl (by assumption) ?hy_22 ?re_22
  case hy_22 =>
    intro w hSw
    try dsimp only at hSw
    go_simp
    try with_reducible rfl
  simp only [Act.put, List.setIfInBounds_toArray, List.set_cons_zero, List.set_cons_succ]
  refine' held_take (i := 23) (d := some 26) (v := _) rfl rfl (by kernel_rfl) (by kernel_rfl) (by kernel_rfl) (fun _ _ _ h => h) rfl (by assumption) ?hy_23 ?re_23
  case hy_23 =>
    intro w hSw
    try dsimp only at hSw
    go_simp
    try with_reducible rfl
  simp only [Act.put, List.setIfInBounds_toArray, List.set_cons_zero, List.set_cons_succ]
  refine' held_take (i := 24) (d := some 27) (v := _) rfl rfl (by kernel_rfl) (by kernel_rfl) (by kernel_rfl) (fun _ _ _ h => h) rfl (by assumption) ?hy_24 ?re_24
  case hy_24 =>
    intro w hSw
    try dsimp only at hSw
    go_simp
    try with_reducible rfl
  simp only [Act.put, List.setIfInBounds_toArray, List.set_cons_zero, List.set_cons_succ]
  refine wpAnyH_ready (rs := [20]) (by kernel_rfl) (by simp) ?_
  refine AllReadyH.cons rfl (fun K hK => ?_) AllReadyH.nil
  go_simp
  refine (hcp.out _ hD0.out).mono ?_
  rintro e wd1 ⟨b2, r2, rfl, hB2, hg1, hg2, hb⟩
  have hD1 := Lib.hid (below_trans hD0.out hb)
  have hB2 := Lib.hid hB2
  have hg2 := Lib.hid (show w.heap.size ≤ r2 from Nat.le_trans hD0.out.size hg2)
  clear hb hg1
  go_wp2_with fail
  refine hK.out _ _ ?_ (fun hHeld => ?_)
  · exact hSA.out _ hD1.out
  clear hK K
  try simp only [Act.put, List.setIfInBounds_toArray, List.set_cons_zero, List.set_cons_succ]
  refine wpAnyH_ready (rs := [25]) (by kernel_rfl) (by simp) ?_
  refine AllReadyH.cons rfl (fun K hK => ?_) AllReadyH.nil
  go_simp
  refine (hcl.out _ hD1.out).mono ?_
  rintro e wd2 ⟨v5, rfl, hv5, hb⟩
  have hD2 := Lib.hid (below_trans hD1.out hb)
  have hv5 := Lib.hid (RowG.mono hv5 (show w.heap.size ≤ _ from hD1.out.size))
  obtain ⟨a5, c5, hvx⟩ := hv5.out.sl
  subst hvx
  have hB2 := Lib.hid (hB2.out.below hb)
  clear hb
  go_wp2_with fail
  refine hK.out _ _ ?_ (fun hHeld => ?_)
  · exact hSA.out _ hD2.out
  clear hK K
  try simp only [Act.put, List.setIfInBounds_toArray, List.set_cons_zero, List.set_cons_succ]
  refine' held_take (i := 26) (d := some 29) (v := _) rfl rfl (by kernel_rfl) (by kernel_rfl) (by kernel_rfl) (fun _ _ _ h => h) rfl (by assumption) ?hy_25 ?re_25
  case hy_25 =>
    intro w hSw
    try dsimp only at hSw
    go_simp
    try with_reducible rfl
  simp only [Act.put, List.setIfInBounds_toArray, List.set_cons_zero, List.set_cons_succ]
  refine wpAnyH_ready (rs := [27]) (by kernel_rfl) (by simp) ?_
  refine AllReadyH.cons rfl (fun K hK => ?_) AllReadyH.nil
  go_simp
  have hfin := Lib.hid (show RlmAt (wd2.alloc (.cells (rlmCells ⟨rk, rl, rt, rs, rb, rL⟩ b2 (.slice a5 rL.length c5)) 83)) w.heap.size wd2.heap.size b2 r2 ⟨rk, rl, rt, rs, rb, rL⟩ ∧ Below w.heap.size w (wd2.alloc (.cells (rlmCells ⟨rk, rl, rt, rs, rb, rL⟩ b2 (.slice a5 rL.length c5)) 83)) from ⟨⟨hD2.out.size, hg2.out, ⟨_, heap_alloc_new wd2 _, hv5.out.alloc _⟩, hB2.out.below ((Below.refl _ _).alloc (Nat.le_refl _) _)⟩, hD2.out.alloc hD2.out.size _⟩)
  refine hK.out _ _ ?_ (fun hHeld => ?_)
  · exact hSA.out _ hfin.out.2
  clear hK K
  try simp only [Act.put, List.setIfInBounds_toArray, List.set_cons_zero, List.set_cons_succ]
  refine' held_take (i := 28) (d := some 2) (v := _) rfl rfl (by kernel_rfl) (by kernel_rfl) (by kernel_rfl) (fun _ _ _ h => h) rfl (by assumption) ?hy_26 ?re_26
  case hy_26 =>
    intro w hSw
    try dsimp only at hSw
    go_simp
    try with_reducible rfl
  simp only [Act.put, List.setIfInBounds_toArray, List.set_cons_zero, List.set_cons_succ]
  refine wpAnyH_done (by kernel_rfl) ?_ _
  refine NoPanic.normal ?_
  go_wp2_with fail
  go_ret
  exact ⟨_, _, _, rfl, hfin.out⟩
end Go.Proofs.YtkhphdkjnpcnnaaGreatDoor

/- slices.Equal at people and at entries that are the same: walked. -/
namespace Go.Proofs.YtkhphdkjnpcnnaaGreatDoor
open Go.RowKit

set_option maxRecDepth 100000 in
theorem eqPer_any (x y : Value) (L : List Per) (w : World) (hx : PersAt w x L) (hy : PersAt w y L) :
    Calls Tryz.prog 76 #[x, y] w fun e w' => e = .returned (.bool true) ∧ Below w.heap.size w w' := by
  obtain ⟨a, c, rfl, hm, ha⟩ := hx
  obtain ⟨a2, c2, rfl, _, ha2⟩ := hy
  unfold maxLen at hm
  go_enter Tryz.func76, Tryz.ntmps76
  go_wp2_with fail
  go_loopw [13] (fun i wr => ∃ j n : Nat, j ≤ L.length ∧ i = .int .i64 j ∧ wr = w.drewN n) (fun i _ => L.length - (intOf i).toNat)
  case atStart => exact ⟨0, 0, Nat.zero_le _, rfl, rfl⟩
  case round =>
    obtain ⟨j, n, hj, rfl, rfl⟩ := hrel
    by_cases hlt : j < L.length
    · obtain ⟨b, o, rfl, h0, h1, h2, h3⟩ := ha j hlt
      obtain ⟨b2, o2, rfl, k0, k1, k2, k3⟩ := ha2 j hlt
      go_wp2
      go_quiet (fail)
      go_wp2
      exact ⟨⟨j + 1, _, by omega, by simp, rfl⟩, by simp [intOf]; omega⟩
    · have hje : j = L.length := by omega
      subst hje
      go_wp2
      go_ret
      exact ⟨rfl, below_drawn (Below.refl _ _) _⟩
set_option maxRecDepth 100000 in
theorem eqEnt_any (x y : Value) (L : List Ent) (w : World) (hx : AtG entC w x L) (hy : AtG entC w y L) :
    Calls Tryz.prog 77 #[x, y] w fun e w' => e = .returned (.bool true) ∧ Below w.heap.size w w' := by
  obtain ⟨a, c, rfl, hm, _, _, ha⟩ := hx
  obtain ⟨a2, c2, rfl, _, _, _, ha2⟩ := hy
  unfold maxLen at hm
  go_enter Tryz.func77, Tryz.ntmps77
  go_wp2_with fail
  go_loopw [13] (fun i wr => ∃ j n : Nat, j ≤ L.length ∧ i = .int .i64 j ∧ wr = w.drewN n) (fun i _ => L.length - (intOf i).toNat)
  case atStart => exact ⟨0, 0, Nat.zero_le _, rfl, rfl⟩
  case round =>
    obtain ⟨j, n, hj, rfl, rfl⟩ := hrel
    by_cases hlt : j < L.length
    · obtain ⟨b, o, he, hcs⟩ := ha j hlt
      subst he
      obtain ⟨b2, o2, he2, hcs2⟩ := ha2 j hlt
      subst he2
      have h0 : w.cell? ⟨b, o + j * 4, none⟩ = some (.int .i64 L[j].seq) := hcs 0 _ rfl
      have h1 : w.cell? ⟨b, o + j * 4 + 1, none⟩ = some (.int .i64 L[j].time) := hcs 1 _ rfl
      have h2 : w.cell? ⟨b, o + j * 4 + 2, none⟩ = some (.string (bs L[j].f.who)) := hcs 2 _ rfl
      have h3 : w.cell? ⟨b, o + j * 4 + 3, none⟩ = some (.int .i64 L[j].f.ep) := hcs 3 _ rfl
      have k0 : w.cell? ⟨b2, o2 + j * 4, none⟩ = some (.int .i64 L[j].seq) := hcs2 0 _ rfl
      have k1 : w.cell? ⟨b2, o2 + j * 4 + 1, none⟩ = some (.int .i64 L[j].time) := hcs2 1 _ rfl
      have k2 : w.cell? ⟨b2, o2 + j * 4 + 2, none⟩ = some (.string (bs L[j].f.who)) := hcs2 2 _ rfl
      have k3 : w.cell? ⟨b2, o2 + j * 4 + 3, none⟩ = some (.int .i64 L[j].f.ep) := hcs2 3 _ rfl
      clear hcs hcs2
      go_wp2
      go_quiet (fail)
      go_wp2
      exact ⟨⟨j + 1, _, by omega, by simp, rfl⟩, by simp [intOf]; omega⟩
    · have hje : j = L.length := by omega
      subst hje
      go_wp2
      go_ret
      exact ⟨rfl, below_drawn (Below.refl _ _) _⟩
end Go.Proofs.YtkhphdkjnpcnnaaGreatDoor
