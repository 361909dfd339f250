/- RelD, RefE4 -/
import Derived.Test.YtfbndfkahodheaaGreatDoorMg26
import Derived.Test.YtfbndfkahodheaaGreatDoorMg22
import Derived.Test.YtfbndfkahodheaaGreatDoorMg19
import Derived.Test.YtfbndfkahodheaaGreatDoorMg5
import Derived.Test.YtfbndfkahodheaaGreatDoorMg20
/- The closed fact about relays: walked. -/
namespace Go.Proofs.YtfbndfkahodheaaGreatDoor
open Go.RowKit

theorem pollT_take {T : List Fol} {A : List Int} {n : Nat} (h1 : 1 ≤ n) (h2 : n < T.length) {F U F' : Fol} {S : List Ent} {a : Int} (hF : nodeT T n = F) (hU : nodeT T (upT A n) = U) (hu : U.head ≠ []) (hne : U.head ≠ F.head) (hs : sinceE U.l F.l.length = (S, 0, a)) (ht : takeF F U.head S = (0, F')) :
    pollT T A (n : Int) = (((S.length : Int), 0), T.set n F') := by
  rw [poll_ways T A n h1 h2, hF, hU, if_neg hu, if_neg hne, hs]
  dsimp only
  rw [if_neg (by simp), ht]
  dsimp only
  rw [if_neg (by simp)]
def oneF3 : Fol := ⟨7, [oneE], [⟨annE, 2⟩], 4, (headOf 7 [oneE] 4).1⟩
theorem one_head : oneF3.head ≠ [] := by
  intro h
  obtain ⟨_, _, _, _, _, _, ho⟩ := headOf_zero fed_head
  have h2 : (headOf 7 [oneE] 4).1 = [] := h
  rw [h2] at ho
  have := openH_nil 7
  rw [ho] at this
  exact this rfl
theorem relayed_all : allT [oneF3, newFol 7, newFol 7] [-1, 0, 1] = (2, [oneF3, oneF3, oneF3]) := by
  have hs : sinceE oneF3.l (newFol 7).l.length = ([oneE], 0, -1) := by kernel_rfl
  have p0 : pollT [oneF3, newFol 7, newFol 7] [-1, 0, 1] (0 : Nat) = ((0, 2), [oneF3, newFol 7, newFol 7]) := poll_out (.inl (by decide))
  have p1 : pollT [oneF3, newFol 7, newFol 7] [-1, 0, 1] (1 : Nat) = ((1, 0), [oneF3, oneF3, newFol 7]) := pollT_take (F := newFol 7) (U := oneF3) (F' := oneF3) (S := [oneE]) (by decide) (by simp) rfl rfl one_head one_head hs followed_take
  have p2 : pollT [oneF3, oneF3, newFol 7] [-1, 0, 1] (2 : Nat) = ((1, 0), [oneF3, oneF3, oneF3]) := pollT_take (F := newFol 7) (U := oneF3) (F' := oneF3) (S := [oneE]) (by decide) (by simp) rfl rfl one_head one_head hs followed_take
  unfold allT
  show allN _ _ 3 = _
  rw [allN, allN, allN, allN]
  dsimp only
  rw [p0]
  dsimp only
  rw [p1]
  dsimp only
  rw [p2]
  rfl
set_option maxHeartbeats 8000000 in
set_option maxRecDepth 100000 in
theorem relayed_any {E : Nat → Addr} (w : World) (hL : LaidS E w) :
    Calls Tryz.prog 34 #[] w fun e w' => e = .returned (.bool true) ∧ Below w.heap.size w w' := by
  have hB0 : Below w.heap.size w (w.alloc (.cells #[.int .i64 0, .int .i64 1] 3)) := (Below.refl _ _).alloc (Nat.le_refl _) _
  have hnt := newT_any (E := E) 7 (.slice (some ⟨w.heap.size, 0, none⟩) 2 2) [0, 1] (w.alloc (.cells #[.int .i64 0, .int .i64 1] 3)) (hL.below hB0) (AtG.newL (C := numC) w [0, 1] 3 rfl (by unfold maxLen; decide)) (by decide)
  have hnz : (newTE 7 [0, 1]).1 = 0 := by kernel_rfl
  have hntH := Lib.hid (hnt.mono (R' := fun e w' => ∃ b ps, e = .returned (.tuple #[.pointer (some ⟨b, 0, none⟩), .nilIface]) ∧ TreeAt w' w.heap.size b ps [newFol 7, newFol 7, newFol 7] [-1, 0, 1] ∧ Below w.heap.size w w') (fun e w' ⟨h, hb⟩ => by
    rcases h with ⟨h, _⟩ | ⟨_, b, ps, he, hT⟩
    · exact absurd hnz h
    · exact ⟨b, ps, he, hT.mono hB0.size, below_trans hB0 hb⟩))
  have had := Lib.hid (fun wx (hx : Below w.heap.size w wx) => (by
    have h := add_ent (E := E) (.slice none 0 0) [] 3 ⟨annE, 2⟩ wx (hL.below hx).laid (AtG.nil _) (fun e he => by cases he) (by decide)
    rw [fed_add] at h
    exact h : Calls Tryz.prog 12 #[.slice none 0 0, .int .i64 3, (⟨annE, 2⟩ : Flo).val] wx fun e w' => EntRes E wx.heap.size w' ([oneE], 0, -1) e ∧ Below wx.heap.size wx w'))
  have hnm : ∀ e ∈ [oneE], e.f.who.length ≤ maxLen := fun e he => by simp at he; subst he; decide
  have hmk := Lib.hid (fun v wx (hx : Below w.heap.size w wx) (hv : EntsAt wx v [oneE]) => makeF_any (E := E) 7 v [oneE] 4 wx (hL.below hx) hv hnm)
  have hcode := Lib.hid fed_head
  have hokN := FOk.new 7
  have hok1 : FOk oneF3 := by
    have h := hokN.take (s := (headOf 7 [oneE] 4).1) (M := [oneE]) (headOf_len (key := 7) (L := [oneE]) (time := 4)) hnm
    rw [followed_take] at h
    exact h
  have hO1 : TOk [oneF3, newFol 7, newFol 7] := fun i hi => by
    match i, hi with
    | 0, _ => exact hok1
    | 1, _ => exact hokN
    | 2, _ => exact hokN
  have hpu := Lib.hid (fun b ps v wx (hx : Below w.heap.size w wx) (hT : TreeAt wx w.heap.size b ps [newFol 7, newFol 7, newFol 7] [-1, 0, 1]) (hv : EntsAt wx v [oneE]) => (by
    have h := push_tree (E := E) w.heap.size b ps _ _ (headOf 7 [oneE] 4).1 v [oneE] wx (hL.below hx) hT (by rw [hT.len]; decide) hokN hv hnm (by decide) headOf_len hx.size
    rw [show takeF (nodeT [newFol 7, newFol 7, newFol 7] 0) (headOf 7 [oneE] 4).1 [oneE] = (0, oneF3) from followed_take] at h
    exact h : Calls Tryz.prog 39 #[.pointer (some ⟨b, 0, none⟩), .string (bs (headOf 7 [oneE] 4).1), v] wx fun e w' => e = .returned .nilIface ∧ TreeAt w' w.heap.size b ps [oneF3, newFol 7, newFol 7] [-1, 0, 1] ∧ Below w.heap.size wx w'))
  have hal := Lib.hid (fun b ps wx (hx : Below w.heap.size w wx) (hT : TreeAt wx w.heap.size b ps [oneF3, newFol 7, newFol 7] [-1, 0, 1]) => (by
    have h := all_tree_any (E := E) w.heap.size b ps _ _ wx (hL.below hx) hT hO1 rfl (fun i h1 h2 => by
      have h3 : i = 1 ∨ i = 2 := by simp at h2; omega
      rcases h3 with rfl | rfl <;> decide) hx.size (fun wy hy => hL.below (hx.trans hy)) (by decide)
    rw [relayed_all] at h
    exact h : Calls Tryz.prog 42 #[.pointer (some ⟨b, 0, none⟩)] wx fun e w' => e = .returned (.int .i64 2) ∧ TreeAt w' w.heap.size b ps [oneF3, oneF3, oneF3] [-1, 0, 1] ∧ Below w.heap.size wx w'))
  have hnd := Lib.hid (fun b ps wx (hT : TreeAt wx w.heap.size b ps [oneF3, oneF3, oneF3] [-1, 0, 1]) => (show Calls Tryz.prog 44 #[.pointer (some ⟨b, 0, none⟩), .int .i64 2] wx (fun e w' => ∃ b', e = .returned (.pointer (some ⟨b', 0, none⟩)) ∧ FolAt w' wx.heap.size b' oneF3 ∧ Below wx.heap.size wx w') from node_tree w.heap.size b ps _ _ 2 wx hT (by decide) hok1))
  have hsq := Lib.hid (fun base b wx (hF : FolAt wx base b oneF3) => (show Calls Tryz.prog 66 #[.pointer (some ⟨b, 0, none⟩)] wx (fun e w' => e = .returned (.int .i64 1) ∧ Below wx.heap.size wx w') from seq_fol base b oneF3 wx hF))
  have hmn := Lib.hid (fun b ps wx (hT : TreeAt wx w.heap.size b ps [oneF3, oneF3, oneF3] [-1, 0, 1]) => (show Calls Tryz.prog 38 #[.pointer (some ⟨b, 0, none⟩)] wx (fun e w' => e = .returned (.int .i64 3) ∧ wx = w') from many_tree w.heap.size b ps _ _ wx hT))
  generalize headOf 7 [oneE] 4 = H at *
  obtain ⟨H1, H2, H3⟩ := H
  clear hL hnt hnz hB0 hnm hokN hok1 hO1
  go_enter Tryz.func34, Tryz.ntmps34
  go_wp2_with fail
  refine hntH.out.mono ?_
  rintro e w1 ⟨b, ps, rfl, hT1, hb1⟩
  have hT1 := Lib.hid hT1
  have hb1 := Lib.hid hb1
  have had1 := Lib.hid (had.out _ hb1.out)
  clear hntH had
  go_wp2_with fail
  refine had1.out.mono ?_
  rintro e w2 ⟨⟨v2, ev2, rfl, hrow2, he2⟩, hb2⟩
  obtain ⟨rfl, _⟩ := he2.zero rfl
  have hb2H := Lib.hid (below_trans hb1.out hb2)
  have hT2 := Lib.hid (hT1.out.below hb2)
  have hmk2 := Lib.hid (hmk.out _ _ hb2H.out (EntRow.at_ hrow2))
  have hrow2H := Lib.hid hrow2
  clear he2 hrow2 hb2 had1 hmk
  go_wp2_with fail
  refine hmk2.out.mono ?_
  rintro e w3 ⟨⟨ev3, rfl, he3⟩, hb3⟩
  obtain ⟨rfl, _⟩ := he3.zero hcode.out
  dsimp only
  have hb3H := Lib.hid (below_trans hb2H.out hb3)
  have hpu3 := Lib.hid (hpu.out b ps _ _ hb3H.out (hT2.out.below hb3) (EntRow.at_ (RowG.below hrow2H.out hb3)))
  clear he3 hb3 hmk2 hpu
  go_wp2_with fail
  refine hpu3.out.mono ?_
  rintro e w4 ⟨rfl, hT4, hb4⟩
  have hb4H := Lib.hid (hb3H.out.trans hb4)
  have hal4 := Lib.hid (hal.out b ps _ hb4H.out hT4)
  clear hT4 hb4 hpu3 hal
  go_wp2_with fail
  refine hal4.out.mono ?_
  rintro e w5 ⟨rfl, hT5, hb5⟩
  have hb5H := Lib.hid (hb4H.out.trans hb5)
  have hnd5 := Lib.hid (hnd.out b ps _ hT5)
  have hT5 := Lib.hid hT5
  clear hb5 hal4 hnd
  go_wp2_with fail
  refine hnd5.out.mono ?_
  rintro e w6 ⟨b', rfl, hF6, hb6⟩
  have hb6H := Lib.hid (below_trans hb5H.out hb6)
  have hT6 := Lib.hid (hT5.out.below hb6)
  have hsq6 := Lib.hid (hsq.out _ _ _ hF6)
  clear hb6 hF6 hnd5 hsq
  go_wp2_with fail
  refine hsq6.out.mono ?_
  rintro e w7 ⟨rfl, hb7⟩
  have hb7H := Lib.hid (below_trans hb6H.out hb7)
  have hmn7 := Lib.hid (hmn.out b ps _ (hT6.out.below hb7))
  clear hb7 hsq6 hmn
  go_wp2_with fail
  refine hmn7.out.mono ?_
  rintro e w8 ⟨rfl, rfl⟩
  go_wp2_with fail
  go_ret
  exact ⟨rfl, hb7H.out⟩
end Go.Proofs.YtfbndfkahodheaaGreatDoor

/- The reference's feeds: HeadOf: walked. -/
namespace Go.Proofs.YtfbndfkahodheaaGreatDoor
open Go.RowKit

/-- What is answered: a text, a fault. -/
def HeadRes (r : List UInt8 × Nat × Int) (e : Ending) : Prop := e = .returned (.tuple #[.string (bs r.1), faultF r.2.1 r.2.2])
theorem HeadRes.mk {r : List UInt8 × Nat × Int} {L : List UInt8} {c : Nat} {a z : Int} {x : ByteArray} (hr : r = (L, c, a)) (hx : x = bs L) (hz : z = (c : Int)) : HeadRes r (.returned (.tuple #[.string x, .agg #[.int .i64 z, .int .i64 a]])) := by
  subst hr hx hz
  rfl
set_option maxHeartbeats 8000000 in
set_option maxRecDepth 100000 in
theorem headR_any (k : Int) (v : Value) (L : List Ent) (time : Int) (w : World) (hv : EntsAt w v L) (hm : ∀ e ∈ L, e.f.who.length ≤ maxLen) :
    Calls Tryz.prog 21 #[.int .i64 k, v, .int .i64 time] w fun e w' => HeadRes (headOf k L time) e ∧ Below w.heap.size w w' := by
  have hB0 : FBox w (w.alloc (.cells #[.int .i64 0, .int .i64 0] 33)) := ⟨heap_alloc_new w _, (Below.refl _ _).alloc (Nat.le_refl _) _⟩
  have hB0H := Lib.hid hB0
  by_cases hk : isKey k = true
  case neg =>
    have hk : isKey k = false := by simpa using hk
    have hr := Lib.hid (show headOf k L time = ([], 10, -1) by unfold headOf; rw [if_pos hk])
    have hba := Lib.hid (bareF_any 10 (w.alloc (.cells #[.int .i64 0, .int .i64 0] 33)))
    clear hv hm hB0
    go_enter Tryz.func21, Tryz.ntmps21
    go_wp2_with (go_at_call 28; refine (isKey_any _ _).mono ?_; rintro e w' ⟨rfl, rfl⟩)
    refine hba.out.mono ?_
    rintro e w1 ⟨rfl, hb1⟩
    have hB1 := hB0H.out.below hb1
    obtain ⟨⟨r0, r1⟩, f0, f1⟩ := hB1.cells
    have hfl := Lib.hid (hB1.set (.int .i64 10) (.int .i64 (-1)))
    clear hb1 hB1
    go_wp2_with fail
    exact bodyPost_ret (v := .tuple #[.string ⟨#[]⟩, .agg #[.int .i64 10, .int .i64 (-1)]]) (by simp [results, Tryz.results21, go_sem, hfl.out.1]) rfl ⟨HeadRes.mk hr.out rfl rfl, hfl.out.2⟩
  have hfl := Lib.hid (floorsR_ent v L (w.alloc (.cells #[.int .i64 0, .int .i64 0] 33)) (AtG.below hv hB0.2) hm)
  have hkH := Lib.hid hk
  have hprev := fun q (hq : L.length = q + 1) => (show ∃ b o c, v = .slice (some ⟨b, o, none⟩) L.length c ∧ w.cell? ⟨b, o + q * 4 + 1, none⟩ = some (.int .i64 (wasE L L.length)) from by
    obtain ⟨a, c, rfl, _, _, hc⟩ := EntsAt.get hv
    obtain ⟨b', o', rfl, _, p1, _⟩ := hc q (by omega)
    refine ⟨b', o', c, rfl, ?_⟩
    rw [p1]
    unfold wasE
    rw [if_neg (by omega), show L.length - 1 = q by omega, getD_get (by omega)])
  obtain ⟨a0, c0, hv0⟩ := AtG.sl hv
  have hlen := AtG.len hv
  unfold maxLen at hlen
  clear hB0
  by_cases hf : (floorsE L).2.1 = 0
  case neg =>
    have hr := headOf_err (time := time) hk hf
    obtain ⟨O, z, a1, hza⟩ : ∃ O z a1, floorsE L = (O, z, a1) := ⟨_, _, _, rfl⟩
    have hfl := hfl.out
    unfold RaiRes at hfl
    rw [hza] at hfl hr hf
    dsimp only [faultF] at hfl hr hf
    have hr := Lib.hid hr
    have hz1 : (0 : Int) < (z : Int) := by omega
    generalize hzd : (z : Int) = zi at *
    have hzd := Lib.hid hzd
    have hfl := Lib.hid hfl
    subst hv0
    clear hf hprev hv hm hza
    go_enter Tryz.func21, Tryz.ntmps21
    go_wp2_with (go_at_call 28; refine (isKey_any _ _).mono ?_; rintro e w' ⟨rfl, rfl⟩)
    refine hfl.out.mono ?_
    rintro e w1 ⟨⟨v9, rfl, hv9⟩, hb1⟩
    obtain ⟨a9, c9, hs9, _⟩ := hv9
    subst hs9
    have hB1 := (hB0H.out.below hb1).below ((Below.refl _ _).alloc (Nat.le_refl _) (.cells #[.int .i64 zi, .int .i64 a1] 33))
    obtain ⟨⟨r0, r1⟩, f0, f1⟩ := hB1.cells
    have hB1H := Lib.hid hB1
    clear hb1 hB1
    go_wp2_with fail
    go_region
    all_goals
      go_wp2_with fail
      have hR := hB1H.out.set (.int .i64 zi) (.int .i64 a1)
      have hR0 := set2_first hB1H.out.1 (.int .i64 zi)
      exact bodyPost_ret (v := .tuple #[.string ⟨#[]⟩, .agg #[.int .i64 zi, .int .i64 a1]]) (by simp [results, Tryz.results21, go_sem, hR.1, hR0]) rfl ⟨HeadRes.mk hr.out rfl hzd.out.symm, hR.2.drew⟩
  obtain ⟨_, _, hfe, hgd⟩ := floorsE_zero hf
  have hl60 := (checkE_zero (L := L) (by rw [(floorsE_zero hf).1])).1
  have hwas0 : L.length = 0 → wasE L L.length = 0 := fun h => by unfold wasE; rw [if_pos h]
  have hrT := Lib.hid (fun h => headOf_time (time := time) hk hf h)
  have hrK := Lib.hid (fun h => headOf_ok (time := time) hk hf h)
  have hfl := hfl.out
  unfold RaiRes at hfl
  have hF2 : floorsE L = ((floorsE L).1, 0, -1) := by rw [hfe]
  have hsum := fun (u : Value) wx (hx : FloorsAt wx u (floorsE L).1) => sumR_flo u (floorsE L).1 wx hx (fun f h => who_len ((floorsE_good hf).g.one f h))
  have hsd := sumF_bd (floorsE L).1
  rw [show (floorsE L).2 = (0, -1) by rw [hfe]] at hfl
  dsimp only [faultF] at hfl
  have hwords := Lib.hid (fun (h0 : 0 ≤ time) (h1 : time ≤ 1000000) => headWords_words (n := (L.length : Int)) (time := time) (sum := sumF (floorsE L).1) (by omega) (by omega) hsd)
  generalize (floorsE L).1 = O at *
  generalize wasE L L.length = was at *
  generalize sumF O = sm at *
  have hfl := Lib.hid hfl
  have hsum := Lib.hid hsum
  obtain ⟨n, hn⟩ : ∃ n, L.length = n := ⟨_, rfl⟩
  rw [hn] at hv0 hprev hl60 hrK hwords hwas0 hlen
  clear hf hm hv hn hfe hF2 hgd
  by_cases ht : time < 0 ∨ 1000000 < time ∨ time < was
  · have hr := Lib.hid (hrT.out ht)
    clear hrT hrK hwords hsum hsd
    by_cases ht0 : time < 0
    · clear hprev hwas0 ht
      subst hv0
      go_enter Tryz.func21, Tryz.ntmps21
      go_wp2_with (go_at_call 28; refine (isKey_any _ _).mono ?_; rintro e w' ⟨rfl, rfl⟩)
      refine hfl.out.mono ?_
      rintro e w1 ⟨⟨v9, rfl, hv9⟩, hb1⟩
      have hv9H := Lib.hid hv9
      obtain ⟨a9, c9, hs9, _⟩ := hv9
      subst hs9
      have hB1 := hB0H.out.below hb1
      have hB1A := Lib.hid (fun o => hB1.below ((Below.refl _ _).alloc (Nat.le_refl _) o))
      clear hB1
      have hba := Lib.hid (fun wx => bareF_any 2 wx)
      clear hb1
      go_wp2_with fail
      refine (hba.out _).mono ?_
      rintro e w2 ⟨rfl, hb2⟩
      have hB2 := (hB1A.out _).below hb2
      obtain ⟨⟨r0, r1⟩, f0, f1⟩ := hB2.cells
      have hset := Lib.hid (hB2.set (.int .i64 2) (.int .i64 (-1)))
      clear hb2 hB2
      go_wp2_with fail
      exact bodyPost_ret (v := .tuple #[.string ⟨#[]⟩, .agg #[.int .i64 2, .int .i64 (-1)]]) (by simp [results, Tryz.results21, go_sem, hset.out.1]) rfl ⟨HeadRes.mk hr.out rfl rfl, hset.out.2⟩
    by_cases ht1 : 1000000 < time
    · clear hprev hwas0 ht
      subst hv0
      go_enter Tryz.func21, Tryz.ntmps21
      go_wp2_with (go_at_call 28; refine (isKey_any _ _).mono ?_; rintro e w' ⟨rfl, rfl⟩)
      refine hfl.out.mono ?_
      rintro e w1 ⟨⟨v9, rfl, hv9⟩, hb1⟩
      have hv9H := Lib.hid hv9
      obtain ⟨a9, c9, hs9, _⟩ := hv9
      subst hs9
      have hB1 := hB0H.out.below hb1
      have hB1A := Lib.hid (fun o => hB1.below ((Below.refl _ _).alloc (Nat.le_refl _) o))
      clear hB1
      have hba := Lib.hid (fun wx => bareF_any 2 wx)
      clear hb1
      go_wp2_with fail
      refine (hba.out _).mono ?_
      rintro e w2 ⟨rfl, hb2⟩
      have hB2 := (hB1A.out _).below hb2
      obtain ⟨⟨r0, r1⟩, f0, f1⟩ := hB2.cells
      have hset := Lib.hid (hB2.set (.int .i64 2) (.int .i64 (-1)))
      clear hb2 hB2
      go_wp2_with fail
      exact bodyPost_ret (v := .tuple #[.string ⟨#[]⟩, .agg #[.int .i64 2, .int .i64 (-1)]]) (by simp [results, Tryz.results21, go_sem, hset.out.1]) rfl ⟨HeadRes.mk hr.out rfl rfl, hset.out.2⟩
    · have ht2 : time < was := by omega
      have hn0 : n ≠ 0 := fun h => by have := hwas0 h; omega
      obtain ⟨q, rfl⟩ : ∃ q, n = q + 1 := ⟨n - 1, by omega⟩
      obtain ⟨b, o, c, hv1, p1⟩ := hprev q rfl
      clear hprev hwas0 ht hn0 hv0
      subst hv1
      have p1H := Lib.hid p1
      have hq0 : (0 : Int) ≤ (q : Int) := by omega
      have hq1 : (q : Int) < (q : Int) + 1 := by omega
      clear p1
      go_enter Tryz.func21, Tryz.ntmps21
      go_wp2_with (go_at_call 28; refine (isKey_any _ _).mono ?_; rintro e w' ⟨rfl, rfl⟩)
      refine hfl.out.mono ?_
      rintro e w1 ⟨⟨v9, rfl, hv9⟩, hb1⟩
      have hv9H := Lib.hid hv9
      obtain ⟨a9, c9, hs9, _⟩ := hv9
      subst hs9
      have hB1 := hB0H.out.below hb1
      have hB1A := Lib.hid (fun o => hB1.below ((Below.refl _ _).alloc (Nat.le_refl _) o))
      clear hB1
      have hba := Lib.hid (fun wx => bareF_any 2 wx)
      have p1 := fun o => cell_below (below_trans (hB1A.out o).2 (Below.refl _ _)) p1H.out
      have p1 := p1 (.cells #[.int .i64 0, .int .i64 (-1)] 33)
      clear hb1
      go_wp2_with fail
      refine (hba.out _).mono ?_
      rintro e w2 ⟨rfl, hb2⟩
      have hB2 := (hB1A.out _).below hb2
      obtain ⟨⟨r0, r1⟩, f0, f1⟩ := hB2.cells
      have hset := Lib.hid (hB2.set (.int .i64 2) (.int .i64 (-1)))
      clear hb2 hB2
      go_wp2_with fail
      exact bodyPost_ret (v := .tuple #[.string ⟨#[]⟩, .agg #[.int .i64 2, .int .i64 (-1)]]) (by simp [results, Tryz.results21, go_sem, hset.out.1]) rfl ⟨HeadRes.mk hr.out rfl rfl, hset.out.2⟩
  have hr := Lib.hid (hrK.out ht)
  have ht0 : ¬ time < 0 := fun h => ht (.inl h)
  have ht1 : ¬ 1000000 < time := fun h => ht (.inr (.inl h))
  have ht2 : ¬ time < was := fun h => ht (.inr (.inr h))
  have hwords := Lib.hid (hwords.out (by omega) (by omega))
  have hnews := Lib.hid (fun (x : World) => textsAt_of (AtG.newL (C := strC) x (headWords n time sm) 9 (cs := #[.string ⟨#[104, 101, 97, 100]⟩, .string (bs (Lib.itoa n)), .string (bs (Lib.itoa time)), .string (bs (Lib.itoa sm))]) rfl (by unfold maxLen; simp [headWords])))
  have hd1 := Lib.hid (fun wx => decimal_any (n : Int) wx (by omega) (by omega))
  have hd2 := Lib.hid (fun wx => decimal_any time wx (by omega) (by omega))
  have hd3 := Lib.hid (fun wx => decimal_any sm wx (by omega) (by omega))
  have hse := fun vx wx (hvx : TextsAt wx vx (headWords n time sm)) => sealR_any k vx (headWords n time sm) wx hvx (fun x hx => by have := ((isWord_iff x).1 (hwords.out x hx)).2.1; unfold maxLen; omega)
  rw [makeOf_good hkH.out (by simp [headWords]) (by simp [headWords]) hwords.out] at hse
  unfold sealV faultV at hse
  dsimp only at hse
  have hse := Lib.hid hse
  have hwl : headWords n time sm = headWords n time sm := rfl
  clear hrT hrK ht hsd hwl
  by_cases hn0 : n = 0
  · subst hn0
    clear hprev hwas0
    subst hv0
    go_enter Tryz.func21, Tryz.ntmps21
    go_wp2_with (go_at_call 28; refine (isKey_any _ _).mono ?_; rintro e w' ⟨rfl, rfl⟩)
    refine hfl.out.mono ?_
    rintro e w1 ⟨⟨v9, rfl, hv9⟩, hb1⟩
    have hv9H := Lib.hid hv9
    obtain ⟨a9, c9, hs9, _⟩ := hv9
    subst hs9
    have hB1 := hB0H.out.below hb1
    have hB1A := Lib.hid (fun o => hB1.below ((Below.refl _ _).alloc (Nat.le_refl _) o))
    clear hB1
    have hv9A := Lib.hid (fun o => hv9H.out.below ((Below.refl _ _).alloc (Nat.le_refl _) o))
    clear hb1
    go_wp2_with fail
    refine (hd1.out _).mono ?_
    rintro e w2 ⟨rfl, hb2⟩
    have hB2 := Lib.hid ((hB1A.out _).below hb2)
    have hv2 := Lib.hid ((hv9A.out _).below hb2)
    clear hb2
    go_wp2_with fail
    refine (hd2.out _).mono ?_
    rintro e w3 ⟨rfl, hb3⟩
    have hB3 := Lib.hid (hB2.out.below hb3)
    have hv3 := Lib.hid (hv2.out.below hb3)
    clear hb3
    go_wp2_with fail
    refine (hsum.out _ _ hv3.out).mono ?_
    rintro e w4 ⟨rfl, hb4⟩
    have hB4 := Lib.hid (hB3.out.below hb4)
    clear hb4
    go_wp2_with fail
    refine (hd3.out _).mono ?_
    rintro e w5 ⟨rfl, hb5⟩
    have hB5 := Lib.hid (fun o => (hB4.out.below hb5).below ((Below.refl _ _).alloc (Nat.le_refl _) o))
    clear hb5
    go_wp2_with fail
    refine (hse.out _ _ (hnews.out _)).mono ?_
    rintro e w6 ⟨rfl, hb6⟩
    have hB6 := (hB5.out _).below hb6
    obtain ⟨⟨r0, r1⟩, f0, f1⟩ := hB6.cells
    have hset := Lib.hid (hB6.set (.int .i64 0) (.int .i64 (-1)))
    clear hb6 hB6
    go_wp2_with fail
    exact bodyPost_ret (v := .tuple #[.string (bs (sealText k (headWords (0 : Nat) time sm))), .agg #[.int .i64 0, .int .i64 (-1)]]) (by simp [results, Tryz.results21, go_sem, hset.out.1]) rfl ⟨HeadRes.mk hr.out rfl rfl, hset.out.2⟩
  · obtain ⟨q, rfl⟩ : ∃ q, n = q + 1 := ⟨n - 1, by omega⟩
    obtain ⟨b, o, c, hv1, p1⟩ := hprev q rfl
    clear hprev hwas0 hn0 hv0
    subst hv1
    have p1H := Lib.hid p1
    have hq0 : (0 : Int) ≤ (q : Int) := by omega
    have hq1 : (q : Int) < (q : Int) + 1 := by omega
    clear p1
    go_enter Tryz.func21, Tryz.ntmps21
    go_wp2_with (go_at_call 28; refine (isKey_any _ _).mono ?_; rintro e w' ⟨rfl, rfl⟩)
    refine hfl.out.mono ?_
    rintro e w1 ⟨⟨v9, rfl, hv9⟩, hb1⟩
    have hv9H := Lib.hid hv9
    obtain ⟨a9, c9, hs9, _⟩ := hv9
    subst hs9
    have hB1 := hB0H.out.below hb1
    have hB1A := Lib.hid (fun o => hB1.below ((Below.refl _ _).alloc (Nat.le_refl _) o))
    clear hB1
    have hv9A := Lib.hid (fun o => hv9H.out.below ((Below.refl _ _).alloc (Nat.le_refl _) o))
    have p1 := cell_below (hB1A.out (.cells #[.int .i64 0, .int .i64 (-1)] 33)).2 p1H.out
    clear hb1
    go_wp2_with fail
    refine (hd1.out _).mono ?_
    rintro e w2 ⟨rfl, hb2⟩
    have hB2 := Lib.hid ((hB1A.out _).below hb2)
    have hv2 := Lib.hid ((hv9A.out _).below hb2)
    clear hb2
    go_wp2_with fail
    refine (hd2.out _).mono ?_
    rintro e w3 ⟨rfl, hb3⟩
    have hB3 := Lib.hid (hB2.out.below hb3)
    have hv3 := Lib.hid (hv2.out.below hb3)
    clear hb3
    go_wp2_with fail
    refine (hsum.out _ _ hv3.out).mono ?_
    rintro e w4 ⟨rfl, hb4⟩
    have hB4 := Lib.hid (hB3.out.below hb4)
    clear hb4
    go_wp2_with fail
    refine (hd3.out _).mono ?_
    rintro e w5 ⟨rfl, hb5⟩
    have hB5 := Lib.hid (fun o => (hB4.out.below hb5).below ((Below.refl _ _).alloc (Nat.le_refl _) o))
    clear hb5
    go_wp2_with fail
    refine (hse.out _ _ (hnews.out _)).mono ?_
    rintro e w6 ⟨rfl, hb6⟩
    have hB6 := (hB5.out _).below hb6
    obtain ⟨⟨r0, r1⟩, f0, f1⟩ := hB6.cells
    have hset := Lib.hid (hB6.set (.int .i64 0) (.int .i64 (-1)))
    clear hb6 hB6
    go_wp2_with fail
    exact bodyPost_ret (v := .tuple #[.string (bs (sealText k (headWords ((q + 1 : Nat) : Int) time sm))), .agg #[.int .i64 0, .int .i64 (-1)]]) (by simp [results, Tryz.results21, go_sem, hset.out.1]) rfl ⟨HeadRes.mk hr.out rfl rfl, hset.out.2⟩
end Go.Proofs.YtfbndfkahodheaaGreatDoor
