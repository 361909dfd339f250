/- RefE3, RefE4 -/
import Derived.Test.YtkhphdkjnpcnnaaGreatDoorMg34
import Derived.Test.YtkhphdkjnpcnnaaGreatDoorMg28
import Derived.Test.YtkhphdkjnpcnnaaGreatDoorMg15
import Derived.Deep.RegionHeld3
import Derived.Test.YtkhphdkjnpcnnaaGreatDoorMg37
/- The reference's feeds: FloorsText, FloorsSum: walked. -/
namespace Go.Proofs.YtkhphdkjnpcnnaaGreatDoor set_option linter.unusedVariables false set_option linter.unusedSimpArgs false
open Go.RowKit

/-- The number of a fault, out of its value. -/
theorem fault_code (a b : Int) (w : World) : (Instr.field 98 (.agg #[.int .i64 a, .int .i64 b]) 0).run Tryz.prog w = .ok (.int .i64 a) w := by kernel_rfl
set_option maxHeartbeats 4000000 in
set_option maxRecDepth 100000 in
theorem textR_flo (v : Value) (L : List Flo) (w : World) (hv : FloorsAt w v L) (hG : GoodF L) :
    Calls Tryz.prog 134 #[v] w fun e w' => e = .returned (.string (bs (textL L))) ∧ Below w.heap.size w w' := by
  obtain ⟨a, c, rfl, hmx, _, hc⟩ := hv
  unfold maxLen at hmx
  have hc := Lib.hid hc
  have hgood := Lib.hid hG
  have h21 := hG.len
  clear hG
  have hdec := Lib.hid (fun (n : Int) wx (h0 : 0 ≤ n) (h1 : n ≤ 1073741824) => decimal_any n wx (by omega) (by omega))
  by_cases h0 : L.length = 0
  · have hL0 : textL L = [45] := by
      have : L = [] := List.length_eq_zero_iff.1 h0
      rw [this]; rfl
    have hr := Lib.hid hL0
    have h0' : ((L.length : Int) == 0) = true := by rw [h0]; rfl
    clear hL0 h0
    go_enter Tryz.func134, Tryz.ntmps134
    go_wp2_with fail
    go_ret
    exact ⟨by rw [hr.out]; rfl, Below.refl _ _⟩
  have hL0 : textL L = glue 44 (L.map floW) := by
    unfold textL
    rw [if_neg (by simp; intro h; exact h0 (by rw [h]; rfl))]
  have hr := Lib.hid hL0
  have h0' : ((L.length : Int) == 0) = false := by simp; exact fun h => h0 (by rw [h]; rfl)
  clear hL0 h0
  go_enter Tryz.func134, Tryz.ntmps134
  go_wp2_with fail
  go_loopg [3, 4] (L.length + 1) (fun g v3 i wr => ∃ (j : Nat), i = .int .i64 j ∧ j ≤ L.length ∧ L.length - j + 1 ≤ g ∧ Hid (RowG strC wr w.heap.size 9 v3 ((L.take j).map floW)) ∧ Hid (Below w.heap.size w wr))
  case atStart => exact ⟨0, rfl, Nat.zero_le _, by omega, Lib.hid (RowG.nil _ _ _), Lib.hid (Below.refl _ _)⟩
  case round =>
    obtain ⟨j, rfl, hj, hgj, hF, hK⟩ := hrel
    obtain ⟨a5, c5, hv5⟩ := hF.out.sl
    have hl5 : ((L.take j).map floW).length = j := by rw [List.length_map, List.length_take]; omega
    rw [hl5] at hv5
    subst hv5
    by_cases hlt : j < L.length
    · have hk0 : (0 : Int) ≤ (j : Int) := by omega
      have hk1 : (j : Int) < (L.length : Int) := by omega
      obtain ⟨b, o, rfl, d0, d1⟩ := hc.out j hlt
      have d0 := cell_below hK.out d0
      have d1 := cell_below hK.out d1
      have h1F := hgood.out.g.one _ (List.getElem_mem hlt)
      have hsn : (L.take (j + 1)).map floW = (L.take j).map floW ++ [floW L[j]] := by rw [List.take_succ_eq_append_getElem hlt, List.map_append]; rfl
      generalize L[j] = ej at *
      obtain ⟨fw, fe⟩ := ej
      dsimp only at d0 d1
      obtain ⟨_, hwl, hil⟩ := floW_len h1F
      obtain ⟨_, he0, he1⟩ := oneF_zero h1F
      dsimp only at hwl hil he0 he1
      have hsnH := Lib.hid hsn
      have hde := Lib.hid (fun wx => hdec.out fe wx (by omega) he1)
      have hs1 : (bs fw).size ≤ 8 := by rw [bs_size]; exact hwl
      have hs3 : (bs (Lib.itoa fe)).size ≤ 10 := by rw [bs_size]; exact hil
      have hsA : ¬ 9223372036854775807 < (bs fw).size + 1 := by omega
      have hsB : ¬ 9223372036854775807 < (bs fw).size + 1 + (bs (Lib.itoa fe)).size := by omega
      have hkS := Lib.hid (fun (wx : World) (hx : Below wr.heap.size wr wx) => (show Below wr.heap.size wr wx ∧ wx.cell? ⟨b, o + j * 2, none⟩ = some (.string (bs fw)) ∧ wx.cell? ⟨b, o + j * 2 + 1, none⟩ = some (.int .i64 fe) from ⟨hx, cell_below hx d0, cell_below hx d1⟩))
      clear hsn h1F he0 he1 hwl hil hs1 hs3
      have hS : Below wr.heap.size wr wr := Below.refl _ _
      go_upto_region 7 with fail
      go_cut [5] from 15 to 27 (fun s5 wx => s5 = .string (bs fw ++ (⟨#[58]⟩ : ByteArray) ++ bs (Lib.itoa fe)) ∧ Hid (Below wr.heap.size wr wx))
      case first =>
        go_region_held3 (fun w' => Below wr.heap.size wr w' ∧ w'.cell? ⟨b, o + j * 2, none⟩ = some (.string (bs fw)) ∧ w'.cell? ⟨b, o + j * 2 + 1, none⟩ = some (.int .i64 fe))
          ((refine hkS.out _ ?_; (first | exact hS | exact hS.drew)))
          ((go_at_call 25; refine (hde.out _).mono ?_; rintro e w' ⟨rfl, hbx⟩; have hS : Below wr.heap.size wr w' := below_trans (by (first | exact hS | exact hS.drew)) hbx))
        all_goals
          go_wp2_with fail
          go_meet
          exact ⟨rfl, Lib.hid hS⟩
      obtain ⟨rfl, hbc⟩ := hcut
      have hK2 := Lib.hid (below_trans hK.out hbc.out)
      have hF2 := Lib.hid (RowG.below hF.out hbc.out)
      have hsz2 := hK2.out.size
      clear hF hK hS d0 d1 hkS
      generalize (L.take j).map floW = N at *
      go_wp2_with (first
        | (at_builtin; refine wpList_appG strC _ rfl _ _ 107 rfl 9 (.string ⟨#[]⟩) 16 Tryz.underlying107 info_str rfl (by decide) w.heap.size _ N rfl (RowG.alloc hF2.out _) _ [floW ⟨fw, fe⟩] rfl (AtG.new (C := strC) _ (floW ⟨fw, fe⟩) 9 (floW_cells fw fe)) (by simp; omega) (by simp; omega) ?_)
        | go_in)
      intro v6 w6 hown6 hb6 _ _
      have hfin := Lib.hid (show RowG strC w6 w.heap.size 9 v6 ((L.take (j + 1)).map floW) by rw [hsnH.out]; exact hown6)
      have hbf := Lib.hid ((hK2.out.alloc hsz2 _).trans hb6)
      clear hown6 hb6 hF2 hbc
      go_wp2_with fail
      go_roundg (L.length - j)
      case measure => omega
      case rel => exact ⟨j + 1, by simp, hlt, by omega, hfin, hbf⟩
    · have hge : ¬ ((j : Int) < (L.length : Int)) := by omega
      have hj2 : j = L.length := by omega
      subst hj2
      have hat := RowG.at_ hF.out
      rw [List.take_of_length_le (Nat.le_refl _)] at hat
      have hlen : (glue 44 (L.map floW)).length ≤ 1000000 := by
        have h1 := glue_len 44 (L.map floW) (fun x hx => by
          obtain ⟨f, hf, rfl⟩ := List.mem_map.1 hx
          exact (floW_len (hgood.out.g.one f hf)).1)
        rw [List.length_map] at h1
        omega
      have hjo := glueR_any _ _ 44 wr (textsAt_of hat) hlen
      have hjo := Lib.hid hjo
      clear hat hlen
      go_wp2_with fail
      refine hjo.out.mono ?_
      rintro e w2 ⟨rfl, rfl⟩
      go_wp2_with fail
      go_ret
      exact ⟨congrArg (fun x => Ending.returned (.string (bs x))) hr.out.symm, hK.out⟩
set_option maxHeartbeats 1000000 in
set_option maxRecDepth 100000 in
theorem sumR_flo (v : Value) (L : List Flo) (w : World) (hv : FloorsAt w v L) (hm : ∀ f ∈ L, f.who.length ≤ maxLen) :
    Calls Tryz.prog 96 #[v] w fun e w' => e = .returned (.int .i64 (sumF L)) ∧ Below w.heap.size w w' := by
  have hck := Lib.hid (faultsR_flo v L w hv hm)
  have htx := Lib.hid (fun (h : (checkF L).1 = 0) wx (hx : Below w.heap.size w wx) => textR_flo v L wx (hv.below hx) (goodF_check h))
  have hof := Lib.hid (fun (h : (checkF L).1 = 0) wx => markOf_any 1 (bs (textL L)) wx (by rw [bs_size]; have := textL_len h; unfold maxLen; omega))
  obtain ⟨a0, c0, hv0, hmx, _, _⟩ := id hv
  unfold maxLen at hmx
  clear hv hm
  subst hv0
  by_cases hc0 : (checkF L).1 = 0
  · have hr := Lib.hid (show sumF L = (markOf 1 (textL L)).1 by unfold sumF; rw [if_pos hc0])
    have hck := hck.out
    rw [show checkF L = (0, -1) from check_goodF (goodF_check hc0)] at hck
    dsimp only [faultF] at hck
    have hck := Lib.hid hck
    have hof := hof.out hc0
    have hz : (markOf 1 (textL L)).2 = 0 := by unfold markOf; rw [if_pos (by decide)]
    simp only [bs_list, hz] at hof
    have hof := Lib.hid hof
    have htx := Lib.hid (htx.out hc0)
    generalize (markOf 1 (textL L)).1 = m at *
    have hfd := fault_code 0 (-1)
    clear hc0 hz
    go_enter Tryz.func96, Tryz.ntmps96
    go_wp2_with fail
    refine hck.out.mono ?_
    rintro e w1 ⟨rfl, hb1⟩
    have hb1 := Lib.hid hb1
    go_wp2_with fail
    refine (htx.out _ hb1.out).mono ?_
    rintro e w2 ⟨rfl, hb2⟩
    have hb2 := Lib.hid (below_trans hb1.out hb2)
    go_wp2_with fail
    refine (hof.out _).mono ?_
    rintro e w3 ⟨rfl, rfl⟩
    go_wp2_with fail
    go_ret
    exact ⟨ret_int hr.out.symm, hb2.out⟩
  · have hr := Lib.hid (show sumF L = 0 by unfold sumF; rw [if_neg hc0])
    obtain ⟨z, a1, hza⟩ : ∃ (z : Nat) (a1 : Int), checkF L = (z, a1) := ⟨_, _, rfl⟩
    have hck := hck.out
    rw [hza] at hck hc0
    dsimp only [faultF] at hck hc0
    have hz1 : (0 : Int) < (z : Int) := by omega
    generalize (z : Int) = zi at hck hz1
    have hck := Lib.hid hck
    have hfd := fault_code zi a1
    clear hza hc0
    go_enter Tryz.func96, Tryz.ntmps96
    go_wp2_with fail
    refine hck.out.mono ?_
    rintro e w1 ⟨rfl, hb1⟩
    have hb1 := Lib.hid hb1
    go_wp2_with fail
    go_ret
    exact ⟨ret_int hr.out.symm, hb1.out⟩
end Go.Proofs.YtkhphdkjnpcnnaaGreatDoor

/- The reference's feeds: HeadOf: walked. -/
namespace Go.Proofs.YtkhphdkjnpcnnaaGreatDoor set_option linter.unusedVariables false set_option linter.unusedSimpArgs false
open Go.RowKit

/-- What is answered: a text, a fault. -/
def HeadRes (r : List UInt8 × Nat × Int) (e : Ending) : Prop := e = .returned (.tuple #[.string (bs r.1), faultF r.2.1 r.2.2])
theorem HeadRes.mk {r : List UInt8 × Nat × Int} {L : List UInt8} {c : Nat} {a z : Int} {x : ByteArray} (hr : r = (L, c, a)) (hx : x = bs L) (hz : z = (c : Int)) : HeadRes r (.returned (.tuple #[.string x, .agg #[.int .i64 z, .int .i64 a]])) := by
  subst hr hx hz
  rfl
set_option maxHeartbeats 8000000 in
set_option maxRecDepth 100000 in
theorem headR_any (k : Int) (v : Value) (L : List Ent) (time : Int) (w : World) (hv : EntsAt w v L) (hm : ∀ e ∈ L, e.f.who.length ≤ maxLen) :
    Calls Tryz.prog 48 #[.int .i64 k, v, .int .i64 time] w fun e w' => HeadRes (headOf k L time) e ∧ Below w.heap.size w w' := by
  have hB0 : FBox w (w.alloc (.cells #[.int .i64 0, .int .i64 0] 98)) := ⟨heap_alloc_new w _, (Below.refl _ _).alloc (Nat.le_refl _) _⟩
  have hB0H := Lib.hid hB0
  by_cases hk : isKey k = true
  case neg =>
    have hk : isKey k = false := by simpa using hk
    have hr := Lib.hid (show headOf k L time = ([], 10, -1) by unfold headOf; rw [if_pos hk])
    have hba := Lib.hid (bareF_any 10 (w.alloc (.cells #[.int .i64 0, .int .i64 0] 98)))
    clear hv hm hB0
    go_enter Tryz.func48, Tryz.ntmps48
    go_wp2_with (go_at_call 35; refine (isKey_any _ _).mono ?_; rintro e w' ⟨rfl, rfl⟩)
    refine hba.out.mono ?_
    rintro e w1 ⟨rfl, hb1⟩
    have hB1 := hB0H.out.below hb1
    obtain ⟨⟨r0, r1⟩, f0, f1⟩ := hB1.cells
    have hfl := Lib.hid (hB1.set (.int .i64 10) (.int .i64 (-1)))
    clear hb1 hB1
    go_wp2_with fail
    exact bodyPost_ret (v := .tuple #[.string ⟨#[]⟩, .agg #[.int .i64 10, .int .i64 (-1)]]) (by simp [results, Tryz.results48, go_sem, hfl.out.1]) rfl ⟨HeadRes.mk hr.out rfl rfl, hfl.out.2⟩
  have hfl := Lib.hid (floorsR_ent v L (w.alloc (.cells #[.int .i64 0, .int .i64 0] 98)) (AtG.below hv hB0.2) hm)
  have hkH := Lib.hid hk
  have hprev := fun q (hq : L.length = q + 1) => (show ∃ b o c, v = .slice (some ⟨b, o, none⟩) L.length c ∧ w.cell? ⟨b, o + q * 4 + 1, none⟩ = some (.int .i64 (wasE L L.length)) from by
    obtain ⟨a, c, rfl, _, _, hc⟩ := EntsAt.get hv
    obtain ⟨b', o', rfl, _, p1, _⟩ := hc q (by omega)
    refine ⟨b', o', c, rfl, ?_⟩
    rw [p1]
    unfold wasE
    rw [if_neg (by omega), show L.length - 1 = q by omega, getD_get (by omega)])
  obtain ⟨a0, c0, hv0⟩ := AtG.sl hv
  have hlen := AtG.len hv
  unfold maxLen at hlen
  clear hB0
  by_cases hf : (floorsE L).2.1 = 0
  case neg =>
    have hr := headOf_err (time := time) hk hf
    obtain ⟨O, z, a1, hza⟩ : ∃ O z a1, floorsE L = (O, z, a1) := ⟨_, _, _, rfl⟩
    have hfl := hfl.out
    unfold RaiRes at hfl
    rw [hza] at hfl hr hf
    dsimp only [faultF] at hfl hr hf
    have hr := Lib.hid hr
    have hz1 : (0 : Int) < (z : Int) := by omega
    generalize hzd : (z : Int) = zi at *
    have hzd := Lib.hid hzd
    have hfl := Lib.hid hfl
    subst hv0
    clear hf hprev hv hm hza
    go_enter Tryz.func48, Tryz.ntmps48
    go_wp2_with (go_at_call 35; refine (isKey_any _ _).mono ?_; rintro e w' ⟨rfl, rfl⟩)
    refine hfl.out.mono ?_
    rintro e w1 ⟨⟨v9, rfl, hv9⟩, hb1⟩
    obtain ⟨a9, c9, hs9, _⟩ := hv9
    subst hs9
    have hB1 := (hB0H.out.below hb1).below ((Below.refl _ _).alloc (Nat.le_refl _) (.cells #[.int .i64 zi, .int .i64 a1] 98))
    obtain ⟨⟨r0, r1⟩, f0, f1⟩ := hB1.cells
    have hB1H := Lib.hid hB1
    clear hb1 hB1
    go_wp2_with fail
    go_region
    all_goals
      go_wp2_with fail
      have hR := hB1H.out.set (.int .i64 zi) (.int .i64 a1)
      have hR0 := set2_first hB1H.out.1 (.int .i64 zi)
      exact bodyPost_ret (v := .tuple #[.string ⟨#[]⟩, .agg #[.int .i64 zi, .int .i64 a1]]) (by simp [results, Tryz.results48, go_sem, hR.1, hR0]) rfl ⟨HeadRes.mk hr.out rfl hzd.out.symm, hR.2.drew⟩
  obtain ⟨_, _, hfe, hgd⟩ := floorsE_zero hf
  have hl60 := (checkE_zero (L := L) (by rw [(floorsE_zero hf).1])).1
  have hwas0 : L.length = 0 → wasE L L.length = 0 := fun h => by unfold wasE; rw [if_pos h]
  have hrT := Lib.hid (fun h => headOf_time (time := time) hk hf h)
  have hrK := Lib.hid (fun h => headOf_ok (time := time) hk hf h)
  have hfl := hfl.out
  unfold RaiRes at hfl
  have hF2 : floorsE L = ((floorsE L).1, 0, -1) := by rw [hfe]
  have hsum := fun (u : Value) wx (hx : FloorsAt wx u (floorsE L).1) => sumR_flo u (floorsE L).1 wx hx (fun f h => who_len ((floorsE_good hf).g.one f h))
  have hsd := sumF_bd (floorsE L).1
  rw [show (floorsE L).2 = (0, -1) by rw [hfe]] at hfl
  dsimp only [faultF] at hfl
  have hwords := Lib.hid (fun (h0 : 0 ≤ time) (h1 : time ≤ 1000000) => headWords_words (n := (L.length : Int)) (time := time) (sum := sumF (floorsE L).1) (by omega) (by omega) hsd)
  generalize (floorsE L).1 = O at *
  generalize wasE L L.length = was at *
  generalize sumF O = sm at *
  have hfl := Lib.hid hfl
  have hsum := Lib.hid hsum
  obtain ⟨n, hn⟩ : ∃ n, L.length = n := ⟨_, rfl⟩
  rw [hn] at hv0 hprev hl60 hrK hwords hwas0 hlen
  clear hf hm hv hn hfe hF2 hgd
  by_cases ht : time < 0 ∨ 1000000 < time ∨ time < was
  · have hr := Lib.hid (hrT.out ht)
    clear hrT hrK hwords hsum hsd
    by_cases ht0 : time < 0
    · clear hprev hwas0 ht
      subst hv0
      go_enter Tryz.func48, Tryz.ntmps48
      go_wp2_with (go_at_call 35; refine (isKey_any _ _).mono ?_; rintro e w' ⟨rfl, rfl⟩)
      refine hfl.out.mono ?_
      rintro e w1 ⟨⟨v9, rfl, hv9⟩, hb1⟩
      have hv9H := Lib.hid hv9
      obtain ⟨a9, c9, hs9, _⟩ := hv9
      subst hs9
      have hB1 := hB0H.out.below hb1
      have hB1A := Lib.hid (fun o => hB1.below ((Below.refl _ _).alloc (Nat.le_refl _) o))
      clear hB1
      have hba := Lib.hid (fun wx => bareF_any 2 wx)
      clear hb1
      go_wp2_with fail
      refine (hba.out _).mono ?_
      rintro e w2 ⟨rfl, hb2⟩
      have hB2 := (hB1A.out _).below hb2
      obtain ⟨⟨r0, r1⟩, f0, f1⟩ := hB2.cells
      have hset := Lib.hid (hB2.set (.int .i64 2) (.int .i64 (-1)))
      clear hb2 hB2
      go_wp2_with fail
      exact bodyPost_ret (v := .tuple #[.string ⟨#[]⟩, .agg #[.int .i64 2, .int .i64 (-1)]]) (by simp [results, Tryz.results48, go_sem, hset.out.1]) rfl ⟨HeadRes.mk hr.out rfl rfl, hset.out.2⟩
    by_cases ht1 : 1000000 < time
    · clear hprev hwas0 ht
      subst hv0
      go_enter Tryz.func48, Tryz.ntmps48
      go_wp2_with (go_at_call 35; refine (isKey_any _ _).mono ?_; rintro e w' ⟨rfl, rfl⟩)
      refine hfl.out.mono ?_
      rintro e w1 ⟨⟨v9, rfl, hv9⟩, hb1⟩
      have hv9H := Lib.hid hv9
      obtain ⟨a9, c9, hs9, _⟩ := hv9
      subst hs9
      have hB1 := hB0H.out.below hb1
      have hB1A := Lib.hid (fun o => hB1.below ((Below.refl _ _).alloc (Nat.le_refl _) o))
      clear hB1
      have hba := Lib.hid (fun wx => bareF_any 2 wx)
      clear hb1
      go_wp2_with fail
      refine (hba.out _).mono ?_
      rintro e w2 ⟨rfl, hb2⟩
      have hB2 := (hB1A.out _).below hb2
      obtain ⟨⟨r0, r1⟩, f0, f1⟩ := hB2.cells
      have hset := Lib.hid (hB2.set (.int .i64 2) (.int .i64 (-1)))
      clear hb2 hB2
      go_wp2_with fail
      exact bodyPost_ret (v := .tuple #[.string ⟨#[]⟩, .agg #[.int .i64 2, .int .i64 (-1)]]) (by simp [results, Tryz.results48, go_sem, hset.out.1]) rfl ⟨HeadRes.mk hr.out rfl rfl, hset.out.2⟩
    · have ht2 : time < was := by omega
      have hn0 : n ≠ 0 := fun h => by have := hwas0 h; omega
      obtain ⟨q, rfl⟩ : ∃ q, n = q + 1 := ⟨n - 1, by omega⟩
      obtain ⟨b, o, c, hv1, p1⟩ := hprev q rfl
      clear hprev hwas0 ht hn0 hv0
      subst hv1
      have p1H := Lib.hid p1
      have hq0 : (0 : Int) ≤ (q : Int) := by omega
      have hq1 : (q : Int) < (q : Int) + 1 := by omega
      clear p1
      go_enter Tryz.func48, Tryz.ntmps48
      go_wp2_with (go_at_call 35; refine (isKey_any _ _).mono ?_; rintro e w' ⟨rfl, rfl⟩)
      refine hfl.out.mono ?_
      rintro e w1 ⟨⟨v9, rfl, hv9⟩, hb1⟩
      have hv9H := Lib.hid hv9
      obtain ⟨a9, c9, hs9, _⟩ := hv9
      subst hs9
      have hB1 := hB0H.out.below hb1
      have hB1A := Lib.hid (fun o => hB1.below ((Below.refl _ _).alloc (Nat.le_refl _) o))
      clear hB1
      have hba := Lib.hid (fun wx => bareF_any 2 wx)
      have p1 := fun o => cell_below (below_trans (hB1A.out o).2 (Below.refl _ _)) p1H.out
      have p1 := p1 (.cells #[.int .i64 0, .int .i64 (-1)] 98)
      clear hb1
      go_wp2_with fail
      refine (hba.out _).mono ?_
      rintro e w2 ⟨rfl, hb2⟩
      have hB2 := (hB1A.out _).below hb2
      obtain ⟨⟨r0, r1⟩, f0, f1⟩ := hB2.cells
      have hset := Lib.hid (hB2.set (.int .i64 2) (.int .i64 (-1)))
      clear hb2 hB2
      go_wp2_with fail
      exact bodyPost_ret (v := .tuple #[.string ⟨#[]⟩, .agg #[.int .i64 2, .int .i64 (-1)]]) (by simp [results, Tryz.results48, go_sem, hset.out.1]) rfl ⟨HeadRes.mk hr.out rfl rfl, hset.out.2⟩
  have hr := Lib.hid (hrK.out ht)
  have ht0 : ¬ time < 0 := fun h => ht (.inl h)
  have ht1 : ¬ 1000000 < time := fun h => ht (.inr (.inl h))
  have ht2 : ¬ time < was := fun h => ht (.inr (.inr h))
  have hwords := Lib.hid (hwords.out (by omega) (by omega))
  have hnews := Lib.hid (fun (x : World) => textsAt_of (AtG.newL (C := strC) x (headWords n time sm) 9 (cs := #[.string ⟨#[104, 101, 97, 100]⟩, .string (bs (Lib.itoa n)), .string (bs (Lib.itoa time)), .string (bs (Lib.itoa sm))]) rfl (by unfold maxLen; simp [headWords])))
  have hd1 := Lib.hid (fun wx => decimal_any (n : Int) wx (by omega) (by omega))
  have hd2 := Lib.hid (fun wx => decimal_any time wx (by omega) (by omega))
  have hd3 := Lib.hid (fun wx => decimal_any sm wx (by omega) (by omega))
  have hse := fun vx wx (hvx : TextsAt wx vx (headWords n time sm)) => sealR_any k vx (headWords n time sm) wx hvx (fun x hx => by have := ((isWord_iff x).1 (hwords.out x hx)).2.1; unfold maxLen; omega)
  rw [makeOf_good hkH.out (by simp [headWords]) (by simp [headWords]) hwords.out] at hse
  unfold sealV faultV at hse
  dsimp only at hse
  have hse := Lib.hid hse
  have hwl : headWords n time sm = headWords n time sm := rfl
  clear hrT hrK ht hsd hwl
  by_cases hn0 : n = 0
  · subst hn0
    clear hprev hwas0
    subst hv0
    go_enter Tryz.func48, Tryz.ntmps48
    go_wp2_with (go_at_call 35; refine (isKey_any _ _).mono ?_; rintro e w' ⟨rfl, rfl⟩)
    refine hfl.out.mono ?_
    rintro e w1 ⟨⟨v9, rfl, hv9⟩, hb1⟩
    have hv9H := Lib.hid hv9
    obtain ⟨a9, c9, hs9, _⟩ := hv9
    subst hs9
    have hB1 := hB0H.out.below hb1
    have hB1A := Lib.hid (fun o => hB1.below ((Below.refl _ _).alloc (Nat.le_refl _) o))
    clear hB1
    have hv9A := Lib.hid (fun o => hv9H.out.below ((Below.refl _ _).alloc (Nat.le_refl _) o))
    clear hb1
    go_wp2_with fail
    refine (hd1.out _).mono ?_
    rintro e w2 ⟨rfl, hb2⟩
    have hB2 := Lib.hid ((hB1A.out _).below hb2)
    have hv2 := Lib.hid ((hv9A.out _).below hb2)
    clear hb2
    go_wp2_with fail
    refine (hd2.out _).mono ?_
    rintro e w3 ⟨rfl, hb3⟩
    have hB3 := Lib.hid (hB2.out.below hb3)
    have hv3 := Lib.hid (hv2.out.below hb3)
    clear hb3
    go_wp2_with fail
    refine (hsum.out _ _ hv3.out).mono ?_
    rintro e w4 ⟨rfl, hb4⟩
    have hB4 := Lib.hid (hB3.out.below hb4)
    clear hb4
    go_wp2_with fail
    refine (hd3.out _).mono ?_
    rintro e w5 ⟨rfl, hb5⟩
    have hB5 := Lib.hid (fun o => (hB4.out.below hb5).below ((Below.refl _ _).alloc (Nat.le_refl _) o))
    clear hb5
    go_wp2_with fail
    refine (hse.out _ _ (hnews.out _)).mono ?_
    rintro e w6 ⟨rfl, hb6⟩
    have hB6 := (hB5.out _).below hb6
    obtain ⟨⟨r0, r1⟩, f0, f1⟩ := hB6.cells
    have hset := Lib.hid (hB6.set (.int .i64 0) (.int .i64 (-1)))
    clear hb6 hB6
    go_wp2_with fail
    exact bodyPost_ret (v := .tuple #[.string (bs (sealText k (headWords (0 : Nat) time sm))), .agg #[.int .i64 0, .int .i64 (-1)]]) (by simp [results, Tryz.results48, go_sem, hset.out.1]) rfl ⟨HeadRes.mk hr.out rfl rfl, hset.out.2⟩
  · obtain ⟨q, rfl⟩ : ∃ q, n = q + 1 := ⟨n - 1, by omega⟩
    obtain ⟨b, o, c, hv1, p1⟩ := hprev q rfl
    clear hprev hwas0 hn0 hv0
    subst hv1
    have p1H := Lib.hid p1
    have hq0 : (0 : Int) ≤ (q : Int) := by omega
    have hq1 : (q : Int) < (q : Int) + 1 := by omega
    clear p1
    go_enter Tryz.func48, Tryz.ntmps48
    go_wp2_with (go_at_call 35; refine (isKey_any _ _).mono ?_; rintro e w' ⟨rfl, rfl⟩)
    refine hfl.out.mono ?_
    rintro e w1 ⟨⟨v9, rfl, hv9⟩, hb1⟩
    have hv9H := Lib.hid hv9
    obtain ⟨a9, c9, hs9, _⟩ := hv9
    subst hs9
    have hB1 := hB0H.out.below hb1
    have hB1A := Lib.hid (fun o => hB1.below ((Below.refl _ _).alloc (Nat.le_refl _) o))
    clear hB1
    have hv9A := Lib.hid (fun o => hv9H.out.below ((Below.refl _ _).alloc (Nat.le_refl _) o))
    have p1 := cell_below (hB1A.out (.cells #[.int .i64 0, .int .i64 (-1)] 98)).2 p1H.out
    clear hb1
    go_wp2_with fail
    refine (hd1.out _).mono ?_
    rintro e w2 ⟨rfl, hb2⟩
    have hB2 := Lib.hid ((hB1A.out _).below hb2)
    have hv2 := Lib.hid ((hv9A.out _).below hb2)
    clear hb2
    go_wp2_with fail
    refine (hd2.out _).mono ?_
    rintro e w3 ⟨rfl, hb3⟩
    have hB3 := Lib.hid (hB2.out.below hb3)
    have hv3 := Lib.hid (hv2.out.below hb3)
    clear hb3
    go_wp2_with fail
    refine (hsum.out _ _ hv3.out).mono ?_
    rintro e w4 ⟨rfl, hb4⟩
    have hB4 := Lib.hid (hB3.out.below hb4)
    clear hb4
    go_wp2_with fail
    refine (hd3.out _).mono ?_
    rintro e w5 ⟨rfl, hb5⟩
    have hB5 := Lib.hid (fun o => (hB4.out.below hb5).below ((Below.refl _ _).alloc (Nat.le_refl _) o))
    clear hb5
    go_wp2_with fail
    refine (hse.out _ _ (hnews.out _)).mono ?_
    rintro e w6 ⟨rfl, hb6⟩
    have hB6 := (hB5.out _).below hb6
    obtain ⟨⟨r0, r1⟩, f0, f1⟩ := hB6.cells
    have hset := Lib.hid (hB6.set (.int .i64 0) (.int .i64 (-1)))
    clear hb6 hB6
    go_wp2_with fail
    exact bodyPost_ret (v := .tuple #[.string (bs (sealText k (headWords ((q + 1 : Nat) : Int) time sm))), .agg #[.int .i64 0, .int .i64 (-1)]]) (by simp [results, Tryz.results48, go_sem, hset.out.1]) rfl ⟨HeadRes.mk hr.out rfl rfl, hset.out.2⟩
end Go.Proofs.YtkhphdkjnpcnnaaGreatDoor
