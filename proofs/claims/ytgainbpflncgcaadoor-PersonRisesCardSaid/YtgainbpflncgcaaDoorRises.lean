/- The law PersonRises, walked. -/
import Derived.Test.YtgainbpflncgcaaDoorPeopled
import Derived.Test.YtgainbpflncgcaaDoorMid
import Derived.Deep.CutRange
import Derived.Deep.CutBlock
import Derived.Deep.LoopGhost
import Derived.Deep.RegionHeld3
import Derived.WalkLawsBesides
import Derived.IntWalk
import Derived.Sort.Walk0
namespace Go.Proofs.YtgainbpflncgcaaDoor
open Go.RowKit Go.BigFrame

theorem bs_beq_false {l d : List UInt8} (h : ¬ bs l = bs d) : ((bs l).toList == d) = false := by
  rw [toList_data, bs_list, beq_eq_false_iff_ne]
  intro e
  exact h (by rw [e])
theorem long_false {A : List ActV} (h : longOf A = false) : ∀ q (h : q < A.length), ¬ (20 < A[q].kind.length) ∧ ¬ (20 < A[q].name.length) := by
  intro q hq
  unfold longOf at h
  rw [Bool.or_eq_false_iff, List.any_eq_false] at h
  have := h.2 _ (List.getElem_mem hq)
  simpa using this
set_option maxHeartbeats 4000000 in
set_option maxRecDepth 100000 in
theorem rises_any {E : Nat → Addr} (x : Value) (A : List ActV) (w : World) (hL : Laid E w) (hx : ActsAt w x A) :
    Calls Tryd.prog 6 #[x] w fun e w' => e = .returned (.bool true) ∧ Below w.heap.size w w' := by
  go_enter Tryd.func6, Tryd.ntmps6
  go_wp2_with fail
  refine (peopled_any w hL).mono ?_
  rintro e w1 ⟨rfl, hb1⟩
  have hlg := Lib.hid (long_any x A w1 (hx.below hb1))
  cases hlo : longOf A with
  | true =>
    rw [hlo] at hlg
    have hb1 := Lib.hid hb1
    go_wp2_with fail
    refine hlg.out.mono ?_
    rintro e w2 ⟨rfl, hb2⟩
    have hb2 := Lib.hid (below_trans hb1.out hb2)
    go_wp2_with fail
    go_ret
    exact ⟨rfl, hb2.out⟩
  | false =>
    rw [hlo] at hlg
    have hlong := Lib.hid (long_false hlo)
    go_wp2_with fail
    refine hlg.out.mono ?_
    rintro e w2 ⟨rfl, hb2⟩
    have hb2 := below_trans hb1 hb2
    have hL2 := hL.below hb2
    have hx2 := Lib.hid (hx.below hb2)
    clear hb1 hlg hlo hx
    have hb2 := Lib.hid hb2
    have hL2 := Lib.hid hL2
    go_wp2_with fail
    refine (new_book _).mono ?_
    rintro e w3 ⟨b, r, rfl, hb3, hbb, hrr, hB⟩
    obtain ⟨a, c, rfl, hm, ha⟩ := hx2.out
    unfold maxLen at hm
    have ha := Lib.hid ha
    have hb3 := Lib.hid hb3
    clear hx2
    go_wp2_with fail
    go_loopg [5] (A.length + 1) (fun g i wr => ∃ (j : Nat) (L : List Per), i = .int .i64 j ∧ j ≤ A.length ∧ A.length - j + 1 ≤ g ∧ Hid (BookAt wr b r L ∧ GoodB L) ∧ Hid (Below w2.heap.size w2 wr))
    case atStart => exact ⟨0, [], rfl, Nat.zero_le _, by omega, Lib.hid ⟨hB, ⟨List.Pairwise.nil, by simp, by simp, by simp, by simp⟩⟩, hb3⟩
    case round =>
      obtain ⟨j, L, rfl, hj, hg, hBG, hK⟩ := hrel
      by_cases hlt : j < A.length
      · obtain ⟨bb, o, rfl, h0, h1, h2, h3, hl1, hl2⟩ := ha.out j hlt
        have h0 := cell_below hK.out h0
        have h1 := cell_below hK.out h1
        have h2 := cell_below hK.out h2
        have h3 := cell_below hK.out h3
        have hA : Below wr.heap.size wr (wr.alloc (.cells #[.string (bs A[j].kind), .string (bs A[j].name), .int .i64 A[j].key, .bool A[j].is] 50)) := (Below.refl _ _).alloc (Nat.le_refl _) _
        have hal := Lib.hid (all_any b r L _ (hBG.out.1.below hA) (fun p hp => by
          have := hBG.out.2.name p hp
          rw [isName_iff] at this
          unfold maxLen
          omega) hBG.out.2.many)
        go_wp2_with fail
        refine hal.out.mono ?_
        rintro e w4 ⟨was, rfl, hP, hPb, hb4⟩
        have hb4' := below_trans hA hb4
        have hB4 := hBG.out.1.below hb4'
        have hG := Lib.hid hBG.out.2
        have hK4 := hK.out.trans (hb4'.mono hK.out.size)
        have hL4 := hL2.out.below hK4
        have g0 := cell_below hb4 (show (wr.alloc (.cells #[.string (bs A[j].kind), .string (bs A[j].name), .int .i64 A[j].key, .bool A[j].is] 50)).cell? ⟨wr.heap.size, 0, none⟩ = some (.string (bs A[j].kind)) by simp)
        have g1 := cell_below hb4 (show (wr.alloc (.cells #[.string (bs A[j].kind), .string (bs A[j].name), .int .i64 A[j].key, .bool A[j].is] 50)).cell? ⟨wr.heap.size, 1, none⟩ = some (.string (bs A[j].name)) by simp)
        have g2 := cell_below hb4 (show (wr.alloc (.cells #[.string (bs A[j].kind), .string (bs A[j].name), .int .i64 A[j].key, .bool A[j].is] 50)).cell? ⟨wr.heap.size, 2, none⟩ = some (.int .i64 A[j].key) by simp)
        have g3 := cell_below hb4 (show (wr.alloc (.cells #[.string (bs A[j].kind), .string (bs A[j].name), .int .i64 A[j].key, .bool A[j].is] 50)).cell? ⟨wr.heap.size, 3, none⟩ = some (.bool A[j].is) by simp)
        have hwr : ∀ y, was.ownBlock = some y → y ≠ r := fun y hy => by
          have := hPb y hy
          have := hBG.out.1.map
          obtain ⟨l, hm, _⟩ := this
          have := hm.lt
          have := hA.size
          omega
        have hwr := Lib.hid hwr
        have hP := Lib.hid hP
        clear h0 h1 h2 h3 hal hb4 hPb hA hBG
        go_upto_block 2 with fail
        go_cut [8] from 25 to 155 (fun s8 wx => ∃ (cd : Nat) (L' : List Per), s8 = errV E cd ∧ Hid (BookAt wx b r L' ∧ GoodB L' ∧ Rises L L' ∧ (cd ≠ 0 → L' = L) ∧ cd ≤ 16) ∧ Hid (Keeps (· = r) w4 wx))
        case first =>
          -- [[
          have hm20 : L.length ≤ maxLen := by have := hG.out.many; unfold maxLen; omega
          by_cases k1 : bs A[j].kind = ⟨#[97, 100, 100]⟩
          · have k1b : (bs A[j].kind == ⟨#[97, 100, 100]⟩) = true := by rw [k1]; rfl
            have hc := Lib.hid (add_any b r L A[j].name A[j].key w4 hL4 hB4 hl2 hm20)
            have hgd := Lib.hid (add_good hG.out A[j].name A[j].key)
            go_wp2_with fail
            refine hc.out.mono ?_
            rintro e w5 ⟨rfl, hk, hB5⟩
            have hB5 := Lib.hid hB5
            have hk := Lib.hid hk
            go_wp2_with fail
            go_meet
            exact ⟨_, _, rfl, Lib.hid ⟨hB5.out, hgd.out.1, hgd.out.2.1, hgd.out.2.2.1, hgd.out.2.2.2⟩, hk⟩
          have k1b : ((bs A[j].kind).toList == [97, 100, 100]) = false := bs_beq_false (d := [97, 100, 100]) k1
          by_cases k2 : bs A[j].kind = ⟨#[114, 101, 107, 101, 121]⟩
          · have k2b : (bs A[j].kind == ⟨#[114, 101, 107, 101, 121]⟩) = true := by rw [k2]; rfl
            have hc := Lib.hid (rekey_any b r L A[j].name A[j].key w4 hL4 hB4 hG.out.epoch)
            have hgd := Lib.hid (rekey_good hG.out A[j].name A[j].key)
            go_wp2_with fail
            refine hc.out.mono ?_
            rintro e w5 ⟨rfl, hk, hB5⟩
            have hB5 := Lib.hid hB5
            have hk := Lib.hid hk
            go_wp2_with fail
            go_meet
            exact ⟨_, _, rfl, Lib.hid ⟨hB5.out, hgd.out.1, hgd.out.2.1, hgd.out.2.2.1, hgd.out.2.2.2⟩, hk⟩
          have k2b : ((bs A[j].kind).toList == [114, 101, 107, 101, 121]) = false := bs_beq_false (d := [114, 101, 107, 101, 121]) k2
          by_cases k3 : bs A[j].kind = ⟨#[114, 97, 105, 115, 101]⟩
          · have k3b : (bs A[j].kind == ⟨#[114, 97, 105, 115, 101]⟩) = true := by rw [k3]; rfl
            have hc := Lib.hid (raise_any b r L A[j].name w4 hL4 hB4 hG.out.epoch)
            have hgd := Lib.hid (raise_good hG.out A[j].name)
            go_wp2_with fail
            refine hc.out.mono ?_
            rintro e w5 ⟨rfl, hk, hB5⟩
            have hB5 := Lib.hid hB5
            have hk := Lib.hid hk
            go_wp2_with fail
            go_meet
            exact ⟨_, _, rfl, Lib.hid ⟨hB5.out, hgd.out.1, hgd.out.2.1, hgd.out.2.2.1, hgd.out.2.2.2⟩, hk⟩
          have k3b : ((bs A[j].kind).toList == [114, 97, 105, 115, 101]) = false := bs_beq_false (d := [114, 97, 105, 115, 101]) k3
          have hc := Lib.hid (off_any b r L A[j].name A[j].is w4 hL4 hB4)
          have hgd := Lib.hid (off_good hG.out A[j].name A[j].is)
          go_wp2_with fail
          refine hc.out.mono ?_
          rintro e w5 ⟨rfl, hk, hB5⟩
          have hB5 := Lib.hid hB5
          have hk := Lib.hid hk
          go_wp2_with fail
          go_meet
          exact ⟨_, _, rfl, Lib.hid ⟨hB5.out, hgd.out.1, hgd.out.2.1, hgd.out.2.2.1, hgd.out.2.2.2⟩, hk⟩
          -- ]]
        case rest =>
          obtain ⟨cd, L', rfl, hR, hk⟩ := hcut
          obtain ⟨hB5, hG5, hRi, hsm, hcd⟩ := hR.out
          have hK5 := hK4.trans (hk.out.below (B := w2.heap.size) hK4.size (fun k hk => by have : k = r := hk; omega))
          have hP5 := hP.out.keeps hk.out hwr.out
          have hal := Lib.hid (all_any b r L' wc hB5 (fun p hp => by
            have := hG5.name p hp
            rw [isName_iff] at this
            unfold maxLen
            omega) hG5.many)
          have hK5 := Lib.hid hK5
          have hP5 := Lib.hid hP5
          have hRi := Lib.hid hRi
          have hG5 := Lib.hid hG5
          clear g0 g1 g2 g3 hK4 hL4
          go_wp2_with fail
          refine hal.out.mono ?_
          rintro e w6 ⟨now, rfl, hN, _, hb6⟩
          have hK6 := hK5.out.trans (hb6.mono hK5.out.size)
          have hP6 := hP5.out.below hb6
          have hB6 := hB5.below hb6
          have hK6 := Lib.hid hK6
          by_cases hc0 : cd = 0
          case neg =>
            -- [[
            have hLL := hsm hc0
            subst hLL
            have hss := Lib.hid (same_any was now L' w6 hP6 hN)
            have hgo : errV E cd = .iface 65 (.pointer (some (E cd))) := by
              cases cd with
              | zero => exact absurd rfl hc0
              | succ n => rfl
            rw [hgo]
            go_wp2_with fail
            refine hss.out.mono ?_
            rintro e w7 ⟨rfl, hb7⟩
            have hB7 := hB6.below hb7
            have hK7 := Lib.hid (hK6.out.trans (hb7.mono hK6.out.size))
            go_wp2_with fail
            go_roundg (A.length - j)
            case measure => omega
            case rel => exact ⟨j + 1, L', by simp, hlt, by omega, Lib.hid ⟨hB7, hG5.out⟩, hK7⟩
            -- ]]
          case pos =>
            subst hc0
            obtain ⟨aw, cw, rfl, hmw, hcw⟩ := hP6
            unfold maxLen at hmw
            have hcw := Lib.hid hcw
            have hN := Lib.hid hN
            simp only [errV]
            go_wp2_with fail
            go_loopg [10] (L.length + 1) (fun g i wr2 => ∃ k : Nat, i = .int .i64 k ∧ k ≤ L.length ∧ L.length - k + 1 ≤ g ∧ Hid (Below w6.heap.size w6 wr2))
            case atStart => exact ⟨0, rfl, Nat.zero_le _, by omega, Lib.hid (Below.refl _ _)⟩
            case round =>
              obtain ⟨k, rfl, hkl, hgk, hbk⟩ := hrel
              by_cases hlk : k < L.length
              · skip
                -- [[
                obtain ⟨b1, o1, rfl, c0, c1, c2, c3⟩ := hcw.out k hlk
                have c0 := cell_below hbk.out c0
                have c1 := cell_below hbk.out c1
                have c2 := cell_below hbk.out c2
                obtain ⟨q, hfq, hle, hkey⟩ := hRi.out _ (List.getElem_mem hlk)
                have hge := Lib.hid (get_some (E := E) b r L' _ q wr (hB6.below hbk.out) hfq)
                go_wp2_with fail
                refine hge.out.mono ?_
                rintro e w7 ⟨rfl, hb7⟩
                have hA7 := (Below.refl w7.heap.size w7).alloc (Nat.le_refl _) (.cells #[.string (bs q.name), .int .i64 q.key, .int .i64 q.epoch, .bool q.off] 58)
                have c1 := cell_below hA7 (cell_below hb7 c1)
                have c2 := cell_below hA7 (cell_below hb7 c2)
                have hb7 := Lib.hid (hbk.out.trans ((hb7.trans (hA7.mono hb7.size)).mono hbk.out.size))
                have hkk : (0 : Int) ≤ (k : Int) := by omega
                have hkl2 : (k : Int) < (L.length : Int) := by omega
                have hlt0 : decide (q.epoch < L[k].epoch) = false := decide_eq_false (by omega)
                have hle := Lib.hid hle
                simp only [errV]
                clear c0 hA7 hge hbk hfq
                generalize q.key = qk at *
                by_cases hke : qk = L[k].key
                · subst hke
                  clear hkey
                  go_wp2_with fail
                  go_quiet (fail)
                  go_wp2_with fail
                  go_roundg (L.length - k)
                  case measure => omega
                  case rel => exact ⟨k + 1, by simp, hlk, by omega, Lib.hid (below_drawn hb7.out _)⟩
                · have hk1 : (qk != L[k].key) = true := by rw [bne_iff_ne]; exact hke
                  have hk2 : (q.epoch == L[k].epoch) = false := by rw [beq_eq_false_iff_ne]; exact hkey hke
                  clear hkey hke
                  go_wp2_with fail
                  go_quiet (fail)
                  go_wp2_with fail
                  go_roundg (L.length - k)
                  case measure => omega
                  case rel => exact ⟨k + 1, by simp, hlk, by omega, Lib.hid (below_drawn hb7.out _)⟩
                -- ]]
              · have hk7 := hK6.out.trans (hbk.out.mono hK6.out.size)
                have hN7 := hN.out.below hbk.out
                have hB7 := hB6.below hbk.out
                have hL7 := hL2.out.below hk7
                clear hcw hRi hbk
                obtain ⟨wo, rfl⟩ : ∃ wo : World, wo = wr := ⟨_, rfl⟩
                obtain ⟨an, cn, rfl, hmn, hcn⟩ := hN7
                unfold maxLen at hmn
                have hcn := Lib.hid hcn
                have hk7 := Lib.hid hk7
                have hL7 := Lib.hid hL7
                go_wp2_with fail
                go_loopg [13] (L'.length + 1) (fun g i wr2 => ∃ k : Nat, i = .int .i64 k ∧ k ≤ L'.length ∧ L'.length - k + 1 ≤ g ∧ Hid (Below wo.heap.size wo wr2))
                case atStart => exact ⟨0, rfl, Nat.zero_le _, by omega, Lib.hid (Below.refl _ _)⟩
                case round =>
                  obtain ⟨k, rfl, hkl, hgk, hbk⟩ := hrel
                  by_cases hlk : k < L'.length
                  · obtain ⟨b1, o1, rfl, c0, c1, c2, c3⟩ := hcn.out k hlk
                    have c0 := cell_below hbk.out c0
                    have c1 := cell_below hbk.out c1
                    have c2 := cell_below hbk.out c2
                    have c3 := cell_below hbk.out c3
                    have hB8 := hB7.below hbk.out
                    have hL8 := hL7.out.below hbk.out
                    have hmem := List.getElem_mem hlk
                    have hck := Lib.hid (fun wx hbx => check_any (bs L'[k].name) L'[k].key L'[k].epoch L'[k].off wx (hL8.below hbx) (by
                      have := hG5.out.name _ hmem
                      rw [isName_iff] at this
                      rw [bs_size]
                      unfold maxLen
                      omega))
                    have hce := Lib.hid (show checkOf (bs L'[k].name).data.toList L'[k].key L'[k].epoch = 0 by
                      unfold checkOf
                      rw [bs_list, hG5.out.name _ hmem, hG5.out.key _ hmem, if_neg (by decide), if_neg (by decide), if_pos (hG5.out.epoch _ hmem)])
                    clear hmem
                    have hkk : (0 : Int) ≤ (k : Int) := by omega
                    have hkl2 : (k : Int) < (L'.length : Int) := by omega
                    by_cases hk0 : k = 0
                    · skip
                      -- [[
                      subst hk0
                      simp only [Nat.zero_mul, Nat.add_zero] at c0 c1 c2 c3
                      clear hkk hkl2
                      go_wp2_with fail
                      refine wp_region_mid 4 (by kernel_rfl) (by kernel_rfl) ?_
                      simp only [List.take_succ_cons, List.take_zero, List.drop_succ_cons, List.drop_zero]
                      repeat still_step
                      refine wpStill_nil ?_
                      go_wp2_with fail
                      refine (hck.out _ (Below.refl _ _).drew).mono ?_
                      rintro e w7 ⟨rfl, hb7⟩
                      rw [hce.out]
                      have hb7 : Below wr.heap.size wr w7 := below_undrew hb7
                      skip
                      have hb7 := Lib.hid (hbk.out.trans (hb7.mono hbk.out.size))
                      simp only [errV]
                      go_wp2_with fail
                      repeat (go_big_quiet_step (fail))
                      refine wpQuiet_nil ?_
                      rintro _ ⟨nq, rfl⟩
                      go_wp2_with fail
                      go_roundg (L'.length - 0)
                      case measure => omega
                      case rel => exact ⟨0 + 1, by simp, hlk, by omega, Lib.hid (below_drawn hb7.out _)⟩
                      -- ]]
                    · obtain ⟨b2, o2, ho, d0, _⟩ := hcn.out (k - 1) (by omega)
                      obtain ⟨hb21, ho21⟩ : b2 = b1 ∧ o2 = o1 := by cases ho; exact ⟨rfl, rfl⟩
                      rw [hb21, ho21] at d0
                      clear hb21 ho21
                      have d0 := cell_below hbk.out d0
                      have hk1 : (1 : Int) ≤ (k : Int) := by omega
                      have hlss : L'[k - 1].name < L'[k].name := List.pairwise_iff_getElem.1 hG5.out.sorted (k - 1) k (by omega) hlk (by omega)
                      have hle1 : Op.bytesLess (bs L'[k].name).toList (bs L'[k - 1].name).toList = false := by
                        rw [bytesLess_eq, toList_data, toList_data, bs_list, bs_list]
                        exact decide_eq_false (fun h => List.lt_irrefl _ (List.lt_trans hlss h))
                      have hle2 : ((bs L'[k].name).toList == (bs L'[k - 1].name).toList) = false := by
                        rw [toList_data, toList_data, bs_list, bs_list, beq_eq_false_iff_ne]
                        intro h
                        rw [h] at hlss
                        exact List.lt_irrefl _ hlss
                      clear hlss
                      have hz1 : decide ((0 : Int) < (k : Int)) = true := decide_eq_true (by omega)
                      have hz2 : decide (0 < k) = true := decide_eq_true (by omega)
                      have hsub : IntKind.i64.wrap ((k : Int) - 1) = (k : Int) - 1 := IntWalk.i64_in _ (by omega)
                      have hsub2 : ((k : Int) - 1).toNat = k - 1 := by omega
                      have hsub3 : (0 : Int) ≤ (k : Int) - 1 := by omega
                      have hsub4 : (k : Int) - 1 < (L'.length : Int) := by omega
                      have hk0 := Lib.hid hk0
                      clear ho
                      go_wp2_with fail
                      refine wp_region_mid 4 (by kernel_rfl) (by kernel_rfl) ?_
                      simp only [List.take_succ_cons, List.take_zero, List.drop_succ_cons, List.drop_zero]
                      repeat still_step
                      refine wpStill_nil ?_
                      go_wp2_with fail
                      refine (hck.out _ (Below.refl _ _).drew).mono ?_
                      rintro e w7 ⟨rfl, hb7⟩
                      rw [hce.out]
                      have hb7 : Below wr.heap.size wr w7 := below_undrew hb7
                      have c0 := cell_below hb7 c0
                      have d0 := cell_below hb7 d0
                      have hb7 := Lib.hid (hbk.out.trans (hb7.mono hbk.out.size))
                      simp only [errV]
                      go_wp2_with fail
                      repeat (go_big_quiet_step (fail))
                      refine wpQuiet_nil ?_
                      rintro _ ⟨nq, rfl⟩
                      go_wp2_with fail
                      go_roundg (L'.length - k)
                      case measure => omega
                      case rel => exact ⟨k + 1, by simp, hlk, by omega, Lib.hid (below_drawn hb7.out _)⟩
                  · have hB9 := hB7.below hbk.out
                    have hk9 := Lib.hid (hk7.out.trans (hbk.out.mono hk7.out.size))
                    have hge9 : ¬ ((k : Int) < (L'.length : Int)) := by omega
                    clear hcn
                    go_wp2_with fail
                    go_roundg (A.length - j)
                    case measure => omega
                    case rel => exact ⟨j + 1, L', by simp, hlt, by omega, Lib.hid ⟨hB9, hG5.out⟩, hk9⟩
      · have hge : ¬ ((j : Int) < (A.length : Int)) := by omega
        have hal := Lib.hid (all_any b r L wr hBG.out.1 (fun p hp => by
          have := hBG.out.2.name p hp
          rw [isName_iff] at this
          unfold maxLen
          omega) hBG.out.2.many)
        have hmany := hBG.out.2.many
        go_wp2_with fail
        refine hal.out.mono ?_
        rintro e w4 ⟨v, rfl, ⟨av, cv, rfl, hmv, hcv⟩, _, hb4⟩
        have hcv := Lib.hid hcv
        have hfin := Lib.hid (hb2.out.trans ((hK.out.trans (hb4.mono hK.out.size)).mono hb2.out.size))
        have h20 : (L.length : Int) ≤ 20 := by omega
        go_wp2_with fail
        go_ret
        exact ⟨rfl, hfin.out⟩
end Go.Proofs.YtgainbpflncgcaaDoor
