/- SessionSwept, walked. -/
import Derived.Test.YtmjbhglmlbgkmaaDoorOpened
import Derived.Test.YtmjbhglmlbgkmaaDoorDealL
import Derived.StillTailTactics
namespace Go.Proofs.YtmjbhglmlbgkmaaDoor
open Go.RowKit Go.MapKept

def memI (n : Int) (zs : List Int) : Bool := decide (n ∈ zs)
theorem ses_kind {l d : List UInt8} (h : ¬ bs l = bs d) : ((bs l).toList == d) = false := by
  rw [toList_data, bs_list, beq_eq_false_iff_ne]
  intro e
  exact h (by rw [e])
theorem sweep_err {F : List Flo} {now : Int} {L : List Ses} (h : (sweepS F now L).2.1.1 ≠ 0) : (sweepS F now L).1 = [] ∧ (sweepS F now L).2.2 = L := by
  unfold sweepS at *
  split at h
  · rename_i hc
    rw [if_pos hc]
    exact ⟨rfl, rfl⟩
  · rename_i hc
    rw [if_neg hc]
    split at h
    · rename_i ht
      rw [if_pos ht]
      exact ⟨rfl, rfl⟩
    · exact absurd rfl h
theorem sweep_fine {F : List Flo} {now : Int} {L : List Ses} (h : (sweepS F now L).2.1.1 = 0) : ∀ M, sweepS F now M = (numsS (M.filter (badS F now)), (0, -1), M.filter fun p => !badS F now p) := by
  intro M
  unfold sweepS at *
  split at h
  · rename_i hc
    exact absurd h hc
  · rename_i hc
    rw [if_neg hc]
    split at h
    · cases h
    · rename_i ht
      rw [if_neg ht]
theorem not_bad {F : List Flo} {now : Int} {p : Ses} (h : badS F now p = false) : goodT p.t now = 0 ∧ ofF F p.t.who ≤ p.t.epoch := by
  unfold badS at h
  simp only [Bool.or_eq_false_iff, decide_eq_false_iff_not, Bool.not_eq_false', decide_eq_true_eq] at h
  exact ⟨by omega, h.2⟩
theorem ask_left {L : List Ses} (hs : SortedS L) {p : Ses} (hp : p ∈ L) {now : Int} (hg : goodT p.t now = 0) : askSs L p.n now = (p.t, 0) := by
  unfold askSs
  rw [findS_mem hs hp]
  dsimp only
  rw [if_pos hg]
theorem nums_len {L : List Ses} (h : L.length ≤ 40) : (numsS L).length ≤ 40 := by unfold numsS; rw [List.length_map]; exact h
set_option maxHeartbeats 16000000 in
set_option maxRecDepth 100000 in
theorem sessionSwept_any {E : Nat → Addr} (x : Value) (A : List Deal) (y : Value) (F : List Flo) (now : Int) (w : World) (hL : Laid E w) (hx : DealsAt w x A) (hm : ∀ d ∈ A, DealLen d) (hy : FloorsAt w y F) (hmF : ∀ f ∈ F, f.who.length ≤ maxLen) :
    Calls Tryd.prog 3 #[x, y, .int .i64 now] w fun e w' => e = .returned (.bool true) ∧ Below w.heap.size w w' := by
  have hop := Lib.hid (opened_any (E := E) w hL)
  have hld := Lib.hid (fun wx (hb : Below w.heap.size w wx) => longDeals_any x A wx (hx.below hb) hm)
  have hlf := Lib.hid (fun wx (hb : Below w.heap.size w wx) => longf_flo y F wx (hy.below hb) hmF)
  have hLH := Lib.hid hL
  have hxH := Lib.hid hx
  have hyH := Lib.hid hy
  have hmH := Lib.hid hm
  have hmFH := Lib.hid hmF
  obtain ⟨a, c, rfl, hml, _, _⟩ := id hx
  obtain ⟨ay, cy, rfl, hmly, _, _⟩ := id hy
  unfold maxLen at hml hmly
  clear hL hx hm hy hmF
  go_enter Tryd.func3, Tryd.ntmps3
  go_wp2_with fail
  refine hop.out.mono ?_
  rintro e w1 ⟨rfl, hb1⟩
  have hld := Lib.hid (hld.out _ hb1)
  have hb1 := Lib.hid hb1
  clear hop
  go_wp2_with fail
  refine hld.out.mono ?_
  rintro e w2 ⟨⟨bb, rfl, h80⟩, hb2⟩
  have hb2 := below_trans hb1.out hb2
  have hlf := hlf.out _ hb2
  have hb2 := Lib.hid hb2
  clear hld
  cases bb with
  | true =>
    clear h80
    go_wp2_with fail
    go_ret
    exact ⟨rfl, hb2.out⟩
  | false =>
  have h80 := h80 rfl
  have hor := longI_or F
  generalize longI F = li at *
  have hlf := Lib.hid hlf
  rcases hor with rfl | rfl
  · go_wp2_with fail
    refine hlf.out.mono ?_
    rintro e w3 ⟨rfl, hb3⟩
    have hb3 := Lib.hid (below_trans hb2.out hb3)
    go_wp2_with fail
    go_ret
    exact ⟨rfl, hb3.out⟩
  go_wp2_with fail
  refine hlf.out.mono ?_
  rintro e w3 ⟨rfl, hb3⟩
  have hb3 := Lib.hid (below_trans hb2.out hb3)
  clear hlf hb2 hb1
  go_wp2_with fail
  refine (new_desk _).mono ?_
  rintro e w4 ⟨b, r, rfl, hb4, hbb, hrr, hD4⟩
  have hbw : w.heap.size ≤ b := Nat.le_trans hb3.out.size hbb
  have hrw : w.heap.size ≤ r := Nat.le_trans hb3.out.size hrr
  have hdw := Lib.hid (show ∀ k, DeskW b r k → w.heap.size ≤ k from fun k h => by rcases h with rfl | rfl <;> assumption)
  have hb4 := Lib.hid (below_trans hb3.out hb4)
  have hD4 := Lib.hid hD4
  clear hbb hrr hb3
  go_wp2_with fail
  go_loopg [9, 10] (A.length + 1) (fun g lv i wr => ∃ (j : Nat) (last next : Int) (L : List Ses), i = .int .i64 j ∧ lv = .int .i64 last ∧ j ≤ A.length ∧ A.length - j + 1 ≤ g ∧ last < next ∧ next ≤ j + 1 ∧ Hid (DeskS wr b r next L ∧ GoodS next L) ∧ Hid (Below w.heap.size w wr))
  case atStart => exact ⟨0, 0, 1, [], rfl, rfl, Nat.zero_le _, by omega, by decide, by decide, Lib.hid ⟨hD4.out, good_new⟩, hb4⟩
  case round =>
    obtain ⟨j, last, next, L, rfl, rfl, hj, hg, hln, hnj, hDG, hK⟩ := hrel
    by_cases hlt : j < A.length
    · obtain ⟨_, _, he, _, _, hcx⟩ := hxH.out
      cases he
      obtain ⟨bx, ox, rfl, hd0⟩ := hcx j hlt
      have hlen := hmH.out _ (List.getElem_mem hlt)
      obtain ⟨q, hqd⟩ : ∃ q, A[j] = q := ⟨_, rfl⟩
      rw [hqd] at hd0 hlen
      clear hcx hqd
      have hd := hd0.below hK.out
      have hkC := Lib.hid (fun wx (h : Below w.heap.size w wx) => (show Below w.heap.size w wx ∧ wx.cell? ⟨bx, ox + j * 10 + 1, none⟩ = some (.string (bs q.t.who)) ∧ wx.cell? ⟨bx, ox + j * 10 + 2, none⟩ = some (.string (bs q.t.svc)) ∧ wx.cell? ⟨bx, ox + j * 10 + 3, none⟩ = some (.int .i64 q.t.epoch) ∧ wx.cell? ⟨bx, ox + j * 10 + 4, none⟩ = some (.int .i64 q.t.beg) ∧ wx.cell? ⟨bx, ox + j * 10 + 5, none⟩ = some (.int .i64 q.t.fin) ∧ wx.cell? ⟨bx, ox + j * 10 + 6, none⟩ = some (.int .i64 q.t.serial) ∧ wx.cell? ⟨bx, ox + j * 10 + 8, none⟩ = some (.int .i64 q.now) from
        ⟨h, (hd0.below h).t0, (hd0.below h).t1, (hd0.below h).t2, (hd0.below h).t3, (hd0.below h).t4, (hd0.below h).t5, (hd0.below h).now⟩))
      clear hd0
      have hlT := hlen.t
      clear hlen
      have hk0 : (0 : Int) ≤ (j : Int) := by omega
      have hk1 : (j : Int) < (A.length : Int) := by omega
      have hKd : Below w.heap.size w (World.drew wr) := hK.out.drew
      have hop := open_desk (E := E) b r next L q.t q.now (World.drew wr) (hLH.out.below hKd) (hDG.out.1.below (Below.refl _ _).drew) hDG.out.2 hlT (by omega)
      have hcl := Lib.hid (close_desk (E := E) b r next L q.n wr (hLH.out.below hK.out) hDG.out.1 hDG.out.2)
      have hgc := Lib.hid (close_good hDG.out.2 q.n).1
      have hgo := open_good hDG.out.2 q.t q.now
      have c0 := hd.k
      have c7 := hd.n
      obtain ⟨qk, ⟨who, svc, ep, bg, fn, sr⟩, qn, qnow, qf⟩ := q
      dsimp only [Tick.val] at *
      by_cases k1 : bs qk = ⟨#[111, 112, 101, 110]⟩
      · have k1b : (bs qk == ⟨#[111, 112, 101, 110]⟩) = true := by rw [k1]; rfl
        generalize openS next L ⟨who, svc, ep, bg, fn, sr⟩ qnow = res at *
        obtain ⟨⟨nn, cd⟩, nx, L'⟩ := res
        dsimp only at hop hgo
        obtain ⟨hG', _, hn1, hn2, hn3⟩ := hgo
        have hG' := Lib.hid hG'
        have hop := Lib.hid hop
        have hDGH := Lib.hid hDG.out.2
        have hKd := Lib.hid hKd
        clear hd hcl hgc hDG hDGH c7
        go_wp2_with fail
        go_upto_region 12 with fail
        go_cut [11, 12] from 38 to 87 (fun s11 s12 wx => s11 = .int .i64 nn ∧ s12 = errV E cd ∧ Hid (DeskS wx b r nx L') ∧ Hid (Below w.heap.size w wx))
        case first =>
          go_region_held3 (fun w' => Below w.heap.size w w' ∧ w'.cell? ⟨bx, ox + j * 10 + 1, none⟩ = some (.string (bs who)) ∧ w'.cell? ⟨bx, ox + j * 10 + 2, none⟩ = some (.string (bs svc)) ∧ w'.cell? ⟨bx, ox + j * 10 + 3, none⟩ = some (.int .i64 ep) ∧ w'.cell? ⟨bx, ox + j * 10 + 4, none⟩ = some (.int .i64 bg) ∧ w'.cell? ⟨bx, ox + j * 10 + 5, none⟩ = some (.int .i64 fn) ∧ w'.cell? ⟨bx, ox + j * 10 + 6, none⟩ = some (.int .i64 sr) ∧ w'.cell? ⟨bx, ox + j * 10 + 8, none⟩ = some (.int .i64 qnow))
            ((exact hkC.out _ (by (first | exact hK5 | exact hKd.out))))
            (first | (go_at_call 10; refine hop.out.mono ?_; rintro e w' ⟨rfl, hk5, hD5⟩; have hK5 : Below w.heap.size w w' := hKd.out.trans (hk5.below hKd.out.size hdw.out)))
          all_goals
            go_wp2_with fail
            go_meet
            exact ⟨rfl, rfl, Lib.hid hD5, Lib.hid hK5⟩
        obtain ⟨rfl, rfl, hD5, hK5⟩ := hcut
        clear hop c0 k1 k1b hkC hKd
        cases cd with
        | succ cd =>
          simp only [errV]
          clear hn3
          go_wp2_with fail
          go_roundg (A.length - j)
          case measure => omega
          case rel => exact ⟨j + 1, last, nx, L', by simp, rfl, hlt, by omega, by omega, by omega, Lib.hid ⟨hD5.out, hG'.out⟩, hK5⟩
        | zero =>
          obtain ⟨rfl, hnx⟩ := hn3 rfl
          have hgt : ¬ nn ≤ last := by omega
          simp only [errV]
          clear hn3
          go_wp2_with fail
          go_roundg (A.length - j)
          case measure => omega
          case rel => exact ⟨j + 1, nn, nx, L', by simp, rfl, hlt, by omega, by omega, by omega, Lib.hid ⟨hD5.out, hG'.out⟩, hK5⟩
      have k1b : ((bs qk).toList == [111, 112, 101, 110]) = false := ses_kind (d := [111, 112, 101, 110]) k1
      clear hop hgo hd hKd hkC
      by_cases k2 : bs qk = ⟨#[99, 108, 111, 115, 101]⟩
      · have k2b : (bs qk == ⟨#[99, 108, 111, 115, 101]⟩) = true := by rw [k2]; rfl
        generalize closeS L qn = res at *
        obtain ⟨cd, L'⟩ := res
        dsimp only at hcl hgc
        have hcl := Lib.hid hcl
        clear k1 hDG
        go_wp2_with fail
        refine hcl.out.mono ?_
        rintro e w5 ⟨rfl, hk5, hD5⟩
        have hK5 := Lib.hid (hK.out.trans (hk5.below hK.out.size (fun k h => by rw [h]; exact hrw)))
        have hD5 := Lib.hid hD5
        clear hk5 hcl
        go_wp2_with fail
        go_roundg (A.length - j)
        case measure => omega
        case rel => exact ⟨j + 1, last, next, L', by simp, rfl, hlt, by omega, hln, by omega, Lib.hid ⟨hD5.out, hgc.out⟩, hK5⟩
      have k2b : ((bs qk).toList == [99, 108, 111, 115, 101]) = false := ses_kind (d := [99, 108, 111, 115, 101]) k2
      clear k1 k2 hcl hgc
      go_wp2_with fail
      go_roundg (A.length - j)
      case measure => omega
      case rel => exact ⟨j + 1, last, next, L, by simp, rfl, hlt, by omega, hln, by omega, hDG, hK⟩
    · have hge : ¬ ((j : Int) < (A.length : Int)) := by omega
      have hnx : next ≤ 1000000 := by omega
      obtain ⟨hD, hG⟩ := hDG.out
      have hGH := Lib.hid hG
      have hmany := hG.many
      have hlW := nums_len hmany
      have hal := Lib.hid (all_desk b r next L wr hD hG hnx)
      have hDH := Lib.hid hD
      clear hDG hD hG h80
      go_wp2_with fail
      refine hal.out.mono ?_
      rintro e w5 ⟨v5, rfl, hrow5, hb5⟩
      have hD5 := hDH.out.below hb5
      have hK5 := below_trans hK.out hb5
      obtain ⟨a5, c5, hv5⟩ := hrow5.sl
      subst hv5
      have hsw := sweep_desk (E := E) b r next L _ F now w5 (hLH.out.below hK5) hD5 hGH.out (hyH.out.below hK5) hmFH.out
      have hsg := sweep_good hGH.out F now
      have hserr := sweep_err (F := F) (now := now) (L := L)
      have hfine := sweep_fine (F := F) (now := now) (L := L)
      obtain ⟨res, hres⟩ : ∃ res, sweepS F now L = res := ⟨_, rfl⟩
      have hfL := Lib.hid hfine
      rw [hres] at hsw hsg hserr hfL
      have hresH := Lib.hid hres
      clear hres hfine
      obtain ⟨G, ⟨cd, at_⟩, L2⟩ := res
      dsimp only at hsw hsg hserr hfL
      have hsw := Lib.hid hsw
      have hsgH := Lib.hid hsg
      have hserr := Lib.hid hserr
      have hrow5 := Lib.hid hrow5
      have hD5 := Lib.hid hD5
      have hK5 := Lib.hid hK5
      have hmany2 := hsg.many
      have hlM := nums_len hmany2
      clear hal hb5 hsg hDH
      go_wp2_with fail
      refine hsw.out.mono ?_
      rintro e w6 ⟨⟨v6, ev, rfl, hrow6, hev⟩, hk6, hD6⟩
      have hK6 : Below w.heap.size w w6 := hK5.out.trans (hk6.below hK5.out.size (fun k h => by rw [h]; exact hrw))
      have hrow56 := Lib.hid (hrow5.out.keeps hk6 (hrow5.out.off_desk hD5.out).1)
      obtain ⟨a6, c6, hv6⟩ := hrow6.sl
      subst hv6
      have hal6 := Lib.hid (all_desk b r next L2 w6 hD6 hsgH.out hnx)
      have hrow6 := Lib.hid hrow6
      have hK6 := Lib.hid hK6
      have hD6 := Lib.hid hD6
      by_cases hcd : cd = 0
      case neg =>
        obtain ⟨T, xx, hevv⟩ := hev.iface hcd
        subst hevv
        obtain ⟨hG0, hL2⟩ := hserr.out hcd
        subst hG0 hL2
        clear hev hcd hsw hserr hk6 hfL
        go_wp2_with fail
        refine hal6.out.mono ?_
        rintro e w7 ⟨v7, rfl, hrow7, hb7⟩
        obtain ⟨a7, c7, hv7⟩ := hrow7.sl
        subst hv7
        have hsm := Lib.hid (sameInts_any _ _ _ _ w7 ((hrow56.out.below hb7).nums (by unfold maxLen; omega)) (hrow7.nums (by unfold maxLen; omega)))
        have hK7 := Lib.hid (below_trans hK6.out hb7)
        clear hal6 hrow7 hb7
        go_wp2_with fail
        refine hsm.out.mono ?_
        rintro e w8 ⟨rfl, hb8⟩
        have hK8 := Lib.hid (below_trans hK7.out hb8)
        go_wp2_with fail
        go_ret
        exact ⟨rfl, hK8.out⟩
      obtain ⟨hevv, _⟩ := hev.zero hcd
      subst hevv
      have hfin := hfL.out hcd
      have hL0 := hfin L
      rw [hresH.out] at hL0
      simp only [Prod.mk.injEq] at hL0
      obtain ⟨hGe, _, hL2e⟩ := hL0
      have hag : sweepS F now L2 = ([], (0, -1), L2.filter fun p => !badS F now p) := by
        rw [hfin L2]
        congr 1
        rw [hL2e, sweep_again]
        rfl
      have hag := Lib.hid hag
      have hpl := part_len L (badS F now)
      rw [← hGe, ← hL2e] at hpl
      have hWG : ∀ k (h : k < (numsS L).length), (memI (numsS L)[k] G == memI (numsS L)[k] (numsS L2)) = false := fun k h => by
        obtain ⟨p, hp, hpn⟩ := List.mem_map.1 (List.getElem_mem h)
        have h1 := part_once hGH.out.sorted (badS F now) hp
        rw [← hGe, ← hL2e, hpn] at h1
        unfold memI
        rw [h1]
        cases decide ((numsS L)[k] ∈ numsS L2) <;> rfl
      have hWG := Lib.hid hWG
      have hML : ∀ k (h : k < (numsS L2).length), ∃ p ∈ L2, p.n = (numsS L2)[k] ∧ goodT p.t now = 0 ∧ ofF F p.t.who ≤ p.t.epoch := fun k h => by
        obtain ⟨p, hp, hpn⟩ := List.mem_map.1 (List.getElem_mem h)
        refine ⟨p, hp, hpn, not_bad ?_⟩
        rw [hL2e] at hp
        simpa using (List.mem_filter.1 hp).2
      have hML := Lib.hid hML
      clear hGe hL2e hfin hev hcd hsw hserr hk6 hfL hresH
      generalize hWd : numsS L = W at *
      generalize hMd : numsS L2 = M at *
      have hWdH := Lib.hid hWd
      have hMdH := Lib.hid hMd
      have hplH := Lib.hid hpl
      have hpi : ((G.length : Int) + (M.length : Int) != (W.length : Int)) = false := by rw [bne_eq_false_iff_eq]; omega
      have hGl : G.length ≤ 40 := by omega
      clear hWd hMd hpl
      go_wp2_with fail
      refine hal6.out.mono ?_
      rintro e w7 ⟨v7, rfl, hrow7, hb7⟩
      obtain ⟨a7, c7, hv7⟩ := hrow7.sl
      subst hv7
      have hNW := Lib.hid (fun wx (hx : Below w7.heap.size w7 wx) => (((hrow56.out.below hb7).nums (by unfold maxLen; omega)).below hx))
      have hNG := Lib.hid (fun wx (hx : Below w7.heap.size w7 wx) => (((hrow6.out.below hb7).nums (by unfold maxLen; omega)).below hx))
      have hNM := Lib.hid (fun wx (hx : Below w7.heap.size w7 wx) => ((hrow7.nums (by unfold maxLen; omega)).below hx))
      have hK7 := Lib.hid (below_trans hK6.out hb7)
      have hD7 := Lib.hid (hD6.out.below hb7)
      have hIn : ∀ (n : Int) (v : Value) (zs : List Int) (wx : World), NumsAt wx v zs → Calls Tryd.prog 15 #[.int .i64 n, v] wx fun e w' => e = .returned (.bool (memI n zs)) ∧ Below wx.heap.size wx w' := fun n v zs wx h => inInts_any n v zs wx h
      have hIn := Lib.hid hIn
      clear hal6 hrow7 hb7 hrow5 hrow6 hrow56 hD6 hK6 hD5 hK5
      go_wp2_with fail
      go_loopg [17] (W.length + 1) (fun g i wx => ∃ k : Nat, i = .int .i64 k ∧ k ≤ W.length ∧ W.length - k + 1 ≤ g ∧ Hid (Below w7.heap.size w7 wx))
      case atStart => exact ⟨0, rfl, Nat.zero_le _, by omega, Lib.hid (Below.refl _ _)⟩
      case round =>
        obtain ⟨k, rfl, hk, hg2, hbx⟩ := hrel
        by_cases hlt2 : k < W.length
        · obtain ⟨_, _, he, _, hcw⟩ := hNW.out _ hbx.out
          cases he
          obtain ⟨g5, o5, rfl, hc5⟩ := hcw k hlt2
          have hkC := Lib.hid (fun wx (h : Below w7.heap.size w7 wx) => (show Below w7.heap.size w7 wx ∧ wx.cell? ⟨g5, o5 + k, none⟩ = some (.int .i64 W[k]) from ⟨h, by
            obtain ⟨_, _, he2, _, hcw2⟩ := hNW.out _ h
            cases he2
            obtain ⟨_, _, he3, hc6⟩ := hcw2 k hlt2
            cases he3
            exact hc6⟩))
          have hWk := hWG.out k hlt2
          have hk0 : (0 : Int) ≤ (k : Int) := by omega
          have hk1 : (k : Int) < (W.length : Int) := by omega
          have hS := hbx.out
          clear hcw hc5
          generalize W[k] = nk at *
          go_upto_region 29 with fail
          go_cut [135] from 117 to 135 (fun s135 wy => s135 = .bool false ∧ Hid (Below w7.heap.size w7 wy))
          case first =>
            go_region_held3 (fun w' => Below w7.heap.size w7 w' ∧ w'.cell? ⟨g5, o5 + k, none⟩ = some (.int .i64 nk))
              ((exact hkC.out _ (by (first | exact hS | exact hS.drew))))
              (first | (go_at_call 15; refine (hIn.out _ _ _ _ (by (first | exact hNG.out _ hS | exact hNM.out _ hS | exact hNG.out _ hS.drew | exact hNM.out _ hS.drew))).mono ?_; rintro e w' ⟨rfl, hbx⟩; have hS : Below w7.heap.size w7 w' := below_trans (by (first | exact hS | exact hS.drew)) hbx))
            all_goals
              go_wp2_with fail
              go_meet
              exact ⟨by first | rfl | exact congrArg Value.bool hWk, Lib.hid (by (first | exact hS | exact hS.drew))⟩
          obtain ⟨rfl, hb9⟩ := hcut
          clear hkC hS hWk
          go_wp2_with fail
          go_roundg (W.length - k)
          case measure => omega
          case rel => exact ⟨k + 1, by simp, hlt2, by omega, hb9⟩
        · have hge2 : ¬ ((k : Int) < (W.length : Int)) := by omega
          have hb7 := Lib.hid hbx.out
          clear hbx hpi
          go_wp2_with fail
          go_loopg [18] (M.length + 1) (fun g i wx => ∃ k : Nat, i = .int .i64 k ∧ k ≤ M.length ∧ M.length - k + 1 ≤ g ∧ Hid (Below w7.heap.size w7 wx))
          case atStart => exact ⟨0, rfl, Nat.zero_le _, by omega, hb7⟩
          case round =>
            obtain ⟨m, rfl, hm, hg3, hbx⟩ := hrel
            have hDx := hD7.out.below hbx.out
            have hKx := below_trans hK7.out hbx.out
            by_cases hlt3 : m < M.length
            · obtain ⟨_, _, he, _, hcw⟩ := hNM.out _ hbx.out
              cases he
              obtain ⟨g7, o7, rfl, hc7⟩ := hcw m hlt3
              obtain ⟨p, hp, hpn, hpg, hpf⟩ := hML.out m hlt3
              have hak := ask_desk (E := E) b r next L2 p.n now _ (hLH.out.below hKx) hDx hsgH.out
              rw [ask_left hsgH.out.sorted hp hpg, hpn] at hak
              dsimp only at hak
              rw [errV_zero] at hak
              have hpfH := Lib.hid hpf
              have hk0 : (0 : Int) ≤ (m : Int) := by omega
              have hk1 : (m : Int) < (M.length : Int) := by omega
              obtain ⟨pn, who, svc, ep, bg, fn, sr⟩ := p
              dsimp only [Tick.val] at hak hpfH
              have hak := Lib.hid hak
              have hKxH := Lib.hid hKx
              clear hcw hp hpn hpg hpf hDx hKx
              generalize M[m] = nm at *
              go_wp2_with fail
              refine hak.out.mono ?_
              rintro e w9 ⟨rfl, hb9⟩
              have hA9 := (Below.refl w9.heap.size w9).alloc (Nat.le_refl _) (.cells #[.string (bs who), .string (bs svc), .int .i64 ep, .int .i64 bg, .int .i64 fn, .int .i64 sr] 30)
              have hrow9 := heap_alloc_new w9 (.cells #[.string (bs who), .string (bs svc), .int .i64 ep, .int .i64 bg, .int .i64 fn, .int .i64 sr] 30)
              have hb9 := below_trans (below_trans hbx.out hb9) hA9
              have hps := passes_flo _ F who ep _ (hyH.out.below (below_trans hK7.out hb9)) hmFH.out
              rw [decide_eq_true hpfH.out] at hps
              have hps := Lib.hid hps
              have s0 : (w9.alloc (.cells #[.string (bs who), .string (bs svc), .int .i64 ep, .int .i64 bg, .int .i64 fn, .int .i64 sr] 30)).cell? ⟨w9.heap.size, 0, none⟩ = some (.string (bs who)) := by rw [cell_of_row _ _ _ _ _ _ hrow9]; rfl
              have s2 : (w9.alloc (.cells #[.string (bs who), .string (bs svc), .int .i64 ep, .int .i64 bg, .int .i64 fn, .int .i64 sr] 30)).cell? ⟨w9.heap.size, 2, none⟩ = some (.int .i64 ep) := by rw [cell_of_row _ _ _ _ _ _ hrow9]; rfl
              have hb9 := Lib.hid hb9
              clear hak hA9 hrow9 hc7
              go_wp2_with fail
              refine hps.out.mono ?_
              rintro e w10 ⟨rfl, hb10⟩
              have hb10 := Lib.hid (below_trans hb9.out hb10)
              clear s0 s2 hps
              go_wp2_with fail
              go_roundg (M.length - m)
              case measure => omega
              case rel => exact ⟨m + 1, by simp, hlt3, by omega, hb10⟩
            · have hge3 : ¬ ((m : Int) < (M.length : Int)) := by omega
              have hsw2 := sweep_desk (E := E) b r next L2 _ F now _ (hLH.out.below hKx) hDx hsgH.out (hyH.out.below hKx) hmFH.out
              rw [hag.out] at hsw2
              have hsw2 := Lib.hid hsw2
              have hKx := Lib.hid hKx
              clear hDx
              go_wp2_with fail
              refine hsw2.out.mono ?_
              rintro e w9 ⟨⟨v9, ev9, rfl, hrow9, hev9⟩, hk9, _⟩
              obtain ⟨hev0, _⟩ := hev9.zero rfl
              subst hev0
              obtain ⟨a9, c9, hv9⟩ := hrow9.sl
              subst hv9
              have hfin := Lib.hid (hKx.out.trans (hk9.below hKx.out.size (fun k h => by rw [h]; exact hrw)))
              clear hrow9 hev9 hk9 hsw2
              go_wp2_with fail
              go_ret
              exact ⟨rfl, hfin.out⟩
end Go.Proofs.YtmjbhglmlbgkmaaDoor
