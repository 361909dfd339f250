/- SeenOnce, walked. -/
import Derived.Test.YtphjjaanclpagaaDoorWdArg
import Derived.Test.YtphjjaanclpagaaDoorSaw
import Derived.Test.YtphjjaanclpagaaDoorRowOwn
import Derived.Laws.NewBlocks
import Derived.StillTailTactics
namespace Go.Proofs.YtphjjaanclpagaaDoor
open Go.RowKit Go.MapKept Go.Sort

theorem row_sl {w : World} {base n : Nat} {e : TypeId} {v : Value} {xs : List Value} (h : w.ownsRow base e 1 v n xs) : ∃ a c, v = .slice a n c := by
  obtain ⟨_, ⟨rfl, hn⟩ | ⟨g, cap, cur, rfl, _⟩⟩ := h
  · rw [hn]; exact ⟨_, _, rfl⟩
  · exact ⟨_, _, rfl⟩
theorem row_at {w : World} {base n c : Nat} {e : TypeId} {a : Option Addr} {xs : List Value} (h : w.ownsRow base e 1 (.slice a n c) n xs) (i : Nat) (hi : i < n) : ∃ g o, a = some ⟨g, o, none⟩ ∧ w.cell? ⟨g, o + i, none⟩ = xs[i]? := by
  obtain ⟨_, ⟨he, hn⟩ | ⟨g, cap, cur, he, hb, hg, hc, hm, hsz, ht⟩⟩ := h
  · omega
  · injection he with he
    subst he
    refine ⟨g, 0, rfl, ?_⟩
    rw [Nat.zero_add, cell_of_row w g i _ _ _ hg]
    have h1 : (cur.toList.take (n * 1))[i]? = xs[i]? := by rw [ht]
    rw [List.getElem?_take, if_pos (by omega)] at h1
    simpa only [Array.getElem?_toList] using h1
theorem row_ask {w w' : World} {base n b r : Nat} {e : TypeId} {v : Value} {xs : List Value} {long : Int} {L : List Wd} (h : w.ownsRow base e 1 v n xs) (hS : SeenAt w b r long L) (hk : Keeps (· = r) w w') : w'.ownsRow base e 1 v n xs :=
  ownsRow_keeps h hk (fun g hg he => by
    have he : g = r := he
    subst he
    obtain ⟨_, cs, hc⟩ := ownsRow_block h hg
    obtain ⟨_, l, ⟨es, c, hm, _⟩, _⟩ := hS
    rw [hc] at hm
    cases hm)
theorem row_below {w w' : World} {base n : Nat} {e : TypeId} {v : Value} {xs : List Value} (h : w.ownsRow base e 1 v n xs) (hb : Below w.heap.size w w') : w'.ownsRow base e 1 v n xs := ownsRow_keeps h (Keeps.of_below hb) (fun _ _ h => h)
theorem keeps_grown {w w' : World} {v : Value} (h : w.grownBy w' v.ownBlock) : Keeps (fun k => v.ownBlock = some k) w w' := ⟨h.os, h.tape, h.output, h.size, fun k hk hs => h.block k hk (fun e => hs e.symm)⟩
theorem row_other {w w' : World} {base n n2 : Nat} {e e2 : TypeId} {v v2 : Value} {xs xs2 : List Value} (h : w.ownsRow base e 1 v n xs) (h2 : w.ownsRow base e2 1 v2 n2 xs2) (hne : e ≠ e2) (hg : w.grownBy w' v.ownBlock) : w'.ownsRow base e2 1 v2 n2 xs2 :=
  ownsRow_keeps h2 (keeps_grown hg) (fun g hg2 hg1 => by
    obtain ⟨_, cs, hc⟩ := ownsRow_block h hg1
    obtain ⟨_, cs2, hc2⟩ := ownsRow_block h2 hg2
    rw [hc] at hc2
    injection hc2 with hc2
    injection hc2 with _ hc2
    exact hne hc2)
theorem seen_grown {w w' : World} {base n b r : Nat} {e : TypeId} {v : Value} {xs : List Value} {long : Int} {L : List Wd} (hS : SeenAt w b r long L) (h : w.ownsRow base e 1 v n xs) (hne : e ≠ 94) (hg : w.grownBy w' v.ownBlock) : SeenAt w' b r long L :=
  hS.keeps (keeps_grown hg)
    (fun hb => by
      obtain ⟨_, cs, hc⟩ := ownsRow_block h hb
      obtain ⟨hS, _⟩ := hS
      rw [hc] at hS
      injection hS with hS
      injection hS with _ hS
      exact hne hS)
    (fun hb => by
      obtain ⟨_, cs, hc⟩ := ownsRow_block h hb
      obtain ⟨_, l, ⟨es, c, hm, _⟩, _⟩ := hS
      rw [hc] at hm
      cases hm)
def wS (p : Wd) : Value := .string (bs p.s)
def wT (p : Wd) : Value := .int .i64 p.t
theorem sinfo : (Tryd.prog.info? 9).map (fun i => (i.zero, i.size, i.bytes)) = some (some (.string ⟨#[]⟩), 1, 16) := by kernel_rfl
theorem iinfo : (Tryd.prog.info? 3).map (fun i => (i.zero, i.size, i.bytes)) = some (some (.int .i64 0), 1, 8) := by kernel_rfl
theorem bs_beq (a c : List UInt8) : ((bs a).toList == (bs c).toList) = (a == c) := by rw [toList_data, toList_data, bs_list, bs_list]
set_option maxHeartbeats 8000000 in
set_option maxRecDepth 100000 in
theorem seenOnce_any {E : Nat → Addr} (long : Int) (x : Value) (A : List Wq) (w : World) (hL : LaidR E w) (hx : WordsAt w x A) (hm : ∀ f ∈ A, f.s.length ≤ maxLen) :
    Calls Tryd.prog 3 #[.int .i64 long, x] w fun e w' => e = .returned (.bool true) ∧ Below w.heap.size w w' := by
  obtain ⟨i0, hi, hz0, hz1, hz2⟩ := info_parts sinfo
  obtain ⟨k0, ki, kz0, kz1, kz2⟩ := info_parts iinfo
  have hsw := Lib.hid (saw_any (E := E) w hL)
  have hla := Lib.hid (fun wx (hb : Below w.heap.size w wx) => longAsked_any x A wx (hx.below hb) hm)
  have hLH := Lib.hid hL
  have hxH := Lib.hid hx
  obtain ⟨a, c, rfl, hml, _, _⟩ := id hx
  unfold maxLen at hml
  clear hL hx hm
  go_enter Tryd.func3, Tryd.ntmps3
  go_wp2_with fail
  refine hsw.out.mono ?_
  rintro e w1 ⟨rfl, hb1⟩
  have hla := Lib.hid (hla.out _ hb1)
  have hb1 := Lib.hid hb1
  clear hsw
  go_wp2_with fail
  refine hla.out.mono ?_
  rintro e w2 ⟨rfl, hb2⟩
  have hb2 := Lib.hid (below_trans hb1.out hb2)
  clear hla
  cases q : longQ A with
  | true =>
    go_wp2_with fail
    go_ret
    exact ⟨rfl, hb2.out⟩
  | false =>
  obtain ⟨h100, h30⟩ := longQ_false q
  have h30 := Lib.hid h30
  clear q
  cases q : isTime long with
  | false =>
    have hn := Lib.hid (new_bad (E := E) long w2 (hLH.out.below hb2.out).laid q)
    clear q
    go_wp2_with fail
    refine hn.out.mono ?_
    rintro e w3 ⟨rfl, hb3⟩
    have hb3 := Lib.hid (below_trans hb2.out hb3)
    simp only [errV]
    go_wp2_with fail
    go_ret
    exact ⟨rfl, hb3.out⟩
  | true =>
  have hn := Lib.hid (new_seen long w2 q)
  have hq := Lib.hid q
  obtain ⟨hl0, hl1⟩ := (isTime_iff _).1 q
  clear q
  go_wp2_with fail
  refine hn.out.mono ?_
  rintro e w3 ⟨b, r, rfl, hb3, hbb, hrr, hS3⟩
  have hrw : w.heap.size ≤ r := Nat.le_trans hb2.out.size hrr
  have hb3 := Lib.hid (below_trans hb2.out hb3)
  have hS3 := Lib.hid hS3
  clear hn hbb hrr
  go_wp2_with fail
  go_loopg [8, 9, 10, 11] (A.length + 1) (fun g v8 v9 nv i wr => ∃ (j : Nat) (P L : List Wd) (now : Int), i = .int .i64 j ∧ nv = .int .i64 now ∧ 0 ≤ now ∧ now ≤ 1000000 ∧ j ≤ A.length ∧ A.length - j + 1 ≤ g ∧ P.length ≤ j ∧ Hid (SeenAt wr b r long L ∧ GoodW L ∧ Passed long now L P) ∧ Hid (wr.ownsRow w.heap.size 9 1 v8 P.length (P.map wS) ∧ wr.ownsRow w.heap.size 3 1 v9 P.length (P.map wT)) ∧ Hid (Below w.heap.size w wr))
  case atStart => exact ⟨0, [], [], 0, rfl, rfl, Int.le_refl _, by decide, Nat.zero_le _, by omega, Nat.le_refl _, Lib.hid ⟨hS3.out, good_nil, fun p hp => by cases hp⟩, Lib.hid ⟨World.ownsRow_nil _ _ _ _, World.ownsRow_nil _ _ _ _⟩, hb3⟩
  case round =>
    obtain ⟨j, P, L, now, rfl, rfl, hn0, hn1, hj, hg, hPj, hS, hR, hK⟩ := hrel
    obtain ⟨a8, c8, rfl⟩ := row_sl hR.out.1
    obtain ⟨a9, c9, rfl⟩ := row_sl hR.out.2
    by_cases hlt : j < A.length
    · obtain ⟨_, _, he, _, _, hcx⟩ := hxH.out
      cases he
      obtain ⟨bx, ox, rfl, h0w, h1w, h2w⟩ := hcx j hlt
      have hsl := h30.out _ (List.getElem_mem hlt)
      obtain ⟨q, hqd⟩ : ∃ q, A[j] = q := ⟨_, rfl⟩
      rw [hqd] at h0w h1w h2w hsl
      clear hcx hqd
      obtain ⟨wd, tm, nw⟩ := q
      dsimp only at h0w h1w h2w hsl
      have hk0 : (0 : Int) ≤ (j : Int) := by omega
      have hk1 : (j : Int) < (A.length : Int) := by omega
      have h2 := cell_below hK.out h2w
      have h0W := Lib.hid h0w
      have h1W := Lib.hid h1w
      clear h0w h1w h2w
      by_cases hnw : nw < now
      · go_wp2_with fail
        go_roundg (A.length - j)
        case measure => omega
        case rel => exact ⟨j + 1, P, L, now, by simp, rfl, hn0, hn1, hlt, by omega, by omega, hS, hR, hK⟩
      by_cases hnm : 1000000 < nw
      · go_wp2_with fail
        go_roundg (A.length - j)
        case measure => omega
        case rel => exact ⟨j + 1, P, L, now, by simp, rfl, hn0, hn1, hlt, by omega, by omega, hS, hR, hK⟩
      have hm0 : 0 ≤ nw := by omega
      have hm1 : nw ≤ 1000000 := by omega
      have hd : Below wr.heap.size wr (World.drew wr) := (Below.refl _ _).drew
      have hKd : Below w.heap.size w (World.drew wr) := hK.out.drew
      have hSd := hS.out.1.below hd
      have hask := ask_seen (E := E) b r long L wd tm nw (World.drew wr) (fun w' h => (hLH.out.below (hKd.trans (h.below hKd.size (fun k e => by rw [e]; exact hrw)))).laid) hSd hS.out.2.1 hq.out (by unfold maxLen; omega)
      have hgood := Lib.hid (ask_good hS.out.2.1 long wd tm nw).1
      have hpas := Lib.hid (passed_ask (word := wd) (time := tm) hS.out.2.2 (show now ≤ nw by omega))
      have hnew := Lib.hid (ask_new (word := wd) (time := tm) hS.out.2.2 (show now ≤ nw by omega))
      have hrow8 := Lib.hid (fun w' (hk : Keeps (· = r) (World.drew wr) w') => row_ask (row_below hR.out.1 hd) hSd hk)
      have hrow9 := Lib.hid (fun w' (hk : Keeps (· = r) (World.drew wr) w') => row_ask (row_below hR.out.2 hd) hSd hk)
      have hKk := Lib.hid (fun w' (h : Keeps (· = r) (World.drew wr) w') => hKd.trans (h.below hKd.size (fun k e => by rw [e]; exact hrw)))
      have g0 := cell_below hKd h0W.out
      have g1 := cell_below hKd h1W.out
      generalize askS long L wd tm nw = q at *
      obtain ⟨cd, L'⟩ := q
      dsimp only at hask
      have hask := Lib.hid hask
      clear hS hR hKd hSd hd
      go_wp2_with fail
      go_still_tail 12, (by kernel_rfl)
      try change wpStill _ _ (World.drew _) _ _ _
      try (repeat still_step)
      try refine wpStill_nil ?_
      change wpList _ _ _ _ _ (World.drew _)
      go_wp2_with fail
      refine hask.out.mono ?_
      rintro e w4 ⟨rfl, hk4, hS4⟩
      have hK4 := hKk.out _ hk4
      have hr8 := hrow8.out _ hk4
      have hr9 := hrow9.out _ hk4
      clear hk4 hask hrow8 hrow9 hKk g0 g1 h2
      cases cd with
      | succ cd =>
        have hS5 := Lib.hid (show SeenAt w4 b r long L' ∧ GoodW L' ∧ Passed long nw L' P from ⟨hS4, hgood.out, hpas.out⟩)
        have hR5 := Lib.hid (And.intro hr8 hr9)
        have hK5 := Lib.hid hK4
        clear hS4 hr8 hr9 hK4
        simp only [errV]
        go_wp2_with fail
        go_roundg (A.length - j)
        case measure => omega
        case rel => exact ⟨j + 1, P, L', nw, by simp, rfl, hm0, hm1, hlt, by omega, by omega, hS5, hR5, hK5⟩
      | zero =>
        obtain ⟨hnotP, hlo, hhi, hpas2, h40⟩ := hnew.out rfl
        try dsimp only at hpas2 h40
        have hnotP := Lib.hid hnotP
        have hpas2 := Lib.hid hpas2
        have hS4 := Lib.hid hS4
        have hr8 := Lib.hid hr8
        have hr9 := Lib.hid hr9
        have hK4 := Lib.hid hK4
        have hP100 : P.length ≤ 100 := by omega
        simp only [errV]
        clear hnew hpas
        go_wp2_with fail
        go_loopg [12] (P.length + 1) (fun g i wx => ∃ k : Nat, i = .int .i64 k ∧ k ≤ P.length ∧ P.length - k + 1 ≤ g ∧ Hid (Below w4.heap.size w4 wx))
        case atStart => exact ⟨0, rfl, Nat.zero_le _, by omega, Lib.hid (Below.refl _ _)⟩
        case round =>
          obtain ⟨k, rfl, hk, hg2, hbx⟩ := hrel
          by_cases hlk : k < P.length
          · have hx0 := cell_below (hK4.out.trans (hbx.out.mono hK4.out.size)) h0W.out
            have hx1 := cell_below (hK4.out.trans (hbx.out.mono hK4.out.size)) h1W.out
            obtain ⟨g8, o8, rfl, hc8⟩ := row_at (row_below hr8.out hbx.out) k hlk
            obtain ⟨g9, o9, rfl, hc9⟩ := row_at (row_below hr9.out hbx.out) k hlk
            have hne : P[k] ≠ ⟨wd, tm⟩ := fun h => hnotP.out (h ▸ List.getElem_mem hlk)
            rw [List.getElem?_map, List.getElem?_eq_getElem hlk] at hc8 hc9
            obtain ⟨p, hpd⟩ : ∃ p, P[k] = p := ⟨_, rfl⟩
            rw [hpd] at hc8 hc9 hne
            clear hpd
            obtain ⟨ps, pt⟩ := p
            simp only [Option.map_some, wS, wT] at hc8 hc9
            have hk2 : (0 : Int) ≤ (k : Int) := by omega
            have hk3 : (k : Int) < (P.length : Int) := by omega
            have hbq := bs_beq ps wd
            by_cases hs : ps = wd
            · have hbt : ((bs ps).toList == (bs wd).toList) = true := by rw [hbq]; simpa using hs
              have hpt : ¬ pt = tm := fun h => hne (by rw [hs, h])
              have hpd : decide (pt = tm) = false := decide_eq_false hpt
              have hpe : (pt == tm) = false := by simpa using hpt
              have hbxH := Lib.hid (fun n => below_drawn hbx.out n)
              clear hbq hs hne
              go_wp2_with fail
              go_quiet (fail)
              go_wp2_with fail
              go_roundg (P.length - k)
              case measure => omega
              case rel => exact ⟨k + 1, by simp, hlk, by omega, Lib.hid (hbxH.out _)⟩
            · have hbt : ((bs ps).toList == (bs wd).toList) = false := by rw [hbq]; simpa using hs
              have hbxH := Lib.hid (fun n => below_drawn hbx.out n)
              clear hbq hs hne
              go_wp2_with fail
              go_quiet (fail)
              go_wp2_with fail
              go_roundg (P.length - k)
              case measure => omega
              case rel => exact ⟨k + 1, by simp, hlk, by omega, Lib.hid (hbxH.out _)⟩
          · have hK5 := hK4.out.trans (hbx.out.mono hK4.out.size)
            have hs5 : w.heap.size ≤ wr.heap.size := hK5.size
            have hx0 := cell_below hK5 h0W.out
            have hS5 := Lib.hid (hS4.out.below hbx.out)
            have hq8 := Lib.hid (row_below hr8.out hbx.out)
            have hq9 := Lib.hid (row_below hr9.out hbx.out)
            have hK5 := Lib.hid hK5
            clear hbx hS4 hK4 hr8 hr9
            go_wp2_with (first
              | (at_builtin; refine wpList_append_own_at _ rfl _ _ 30 rfl w.heap.size 9 i0 (.string ⟨#[]⟩) 1 16 Tryd.underlying30 hi hz0 hz1 hz2 rfl (by decide) _ _ _ rfl (World.ownsRow.alloc hq8.out _) ⟨wr.heap.size, 0, none⟩ 1 1 [.string (bs wd)] rfl ?hl ?c1 ?c2 ?c3 ?c4 ?c5 ?_)
              | go_in)
            case hl => rfl
            case c1 => exact cell_one_new _ _ _
            case c2 => intro u hu; simp at hu; subst hu; rfl
            case c3 => unfold maxLen; omega
            case c4 => omega
            case c5 => rw [World.size_alloc]; omega
            intro v6 w6 hown6 hgrow6 _ _
            have hA5 : Below wr.heap.size wr (wr.alloc (.cells #[.string (bs wd)] 9)) := (Below.refl _ _).alloc (Nat.le_refl _) _
            have hr8A := row_below hq8.out hA5
            have hr9 := Lib.hid (row_other hr8A (row_below hq9.out hA5) (by decide) hgrow6)
            have hS6 := Lib.hid (seen_grown (hS5.out.below hA5) hr8A (by decide) hgrow6)
            have hK6 : Below w.heap.size w w6 := (hK5.out.alloc hs5 _).grown hgrow6 (by rw [World.size_alloc]; omega) (fun k hk => (World.ownsRow.lt hq8.out k hk).1)
            have hll : (P ++ [(⟨wd, tm⟩ : Wd)]).length = P.length + 1 := by simp
            have hr8 : w6.ownsRow w.heap.size 9 1 v6 (P.length + 1) ((P ++ [(⟨wd, tm⟩ : Wd)]).map wS) := by
              rw [List.map_append]
              exact hown6
            obtain ⟨a6, c6, rfl⟩ := row_sl hr8
            have hr8 := Lib.hid hr8
            have hx1 := cell_below hK6 h1W.out
            have hs6 : w.heap.size ≤ w6.heap.size := hK6.size
            have hK6 := Lib.hid hK6
            clear hA5 hr8A hown6 hgrow6 hq8 hq9 hS5 hK5 hx0
            go_wp2_with (first
              | (at_builtin; refine wpList_append_own_at _ rfl _ _ 31 rfl w.heap.size 3 k0 (.int .i64 0) 1 8 Tryd.underlying31 ki kz0 kz1 kz2 rfl (by decide) _ _ _ rfl (World.ownsRow.alloc hr9.out _) ⟨w6.heap.size, 0, none⟩ 1 1 [.int .i64 tm] rfl ?dl ?d1 ?d2 ?d3 ?d4 ?d5 ?_)
              | go_in)
            case dl => rfl
            case d1 => exact cell_one_new _ _ _
            case d2 => intro u hu; simp at hu; subst hu; rfl
            case d3 => unfold maxLen; omega
            case d4 => omega
            case d5 => rw [World.size_alloc]; omega
            intro v7 w7 hown7 hgrow7 _ _
            have hA6 : Below w6.heap.size w6 (w6.alloc (.cells #[.int .i64 tm] 3)) := (Below.refl _ _).alloc (Nat.le_refl _) _
            have hr9A := row_below hr9.out hA6
            have hr8' := row_other hr9A (row_below hr8.out hA6) (by decide) hgrow7
            have hS7 := seen_grown (hS6.out.below hA6) hr9A (by decide) hgrow7
            have hK7 : Below w.heap.size w w7 := (hK6.out.alloc hs6 _).grown hgrow7 (by rw [World.size_alloc]; omega) (fun k hk => (World.ownsRow.lt hr9.out k hk).1)
            have hr9' : w7.ownsRow w.heap.size 3 1 v7 (P.length + 1) ((P ++ [(⟨wd, tm⟩ : Wd)]).map wT) := by
              rw [List.map_append]
              exact hown7
            obtain ⟨a7, c7, rfl⟩ := row_sl hr9'
            have hmy := Lib.hid (many_seen b r long L' w7 hS7)
            have hS7 := Lib.hid hS7
            have hr8' := Lib.hid hr8'
            have hr9' := Lib.hid hr9'
            have hK7 := Lib.hid hK7
            clear hA6 hr9A hown7 hgrow7 hr8 hr9 hS6 hK6 hx1
            go_wp2_with fail
            refine hmy.out.mono ?_
            rintro e w8 ⟨rfl, hb8⟩
            have hK8 := hK7.out.trans (hb8.mono hK7.out.size)
            have hx1 := cell_below hK8 h1W.out
            have h40i : ¬ (40 : Int) < (L'.length : Int) := by omega
            have hS8 := Lib.hid (show SeenAt w8 b r long L' ∧ GoodW L' ∧ Passed long nw L' (P ++ [⟨wd, tm⟩]) from ⟨hS7.out.below hb8, hgood.out, hpas2.out⟩)
            have hR8 := Lib.hid (And.intro (row_below hr8'.out hb8) (row_below hr9'.out hb8))
            rw [← hll] at hR8
            have hK8 := Lib.hid hK8
            have hlo2 : ¬ tm < nw - long := by omega
            have hhi2 : ¬ nw + long < tm := by omega
            clear hb8 hS7 hr8' hr9' hK7 hmy
            go_wp2_with fail
            go_roundg (A.length - j)
            case measure => omega
            case rel => exact ⟨j + 1, P ++ [⟨wd, tm⟩], L', nw, by simp, rfl, hm0, hm1, hlt, by omega, by omega, hS8, (by first | exact hR8 | (have h := hR8.out; rw [hll] at h ⊢; exact Lib.hid h)), hK8⟩
    · go_wp2_with fail
      go_ret
      exact ⟨rfl, hK.out⟩
end Go.Proofs.YtphjjaanclpagaaDoor
