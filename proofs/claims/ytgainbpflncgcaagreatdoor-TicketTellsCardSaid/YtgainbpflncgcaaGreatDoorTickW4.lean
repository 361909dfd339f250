/- The walks of package ticket: Open, Look by contracts. -/
import Derived.Test.YtgainbpflncgcaaGreatDoorTickW3
namespace Go.Proofs.YtgainbpflncgcaaGreatDoor
open Go.RowKit Go.Maps

theorem look_words_len (s : List UInt8) : ∀ x ∈ (lookOf s).2.1, x.length ≤ s.length := by
  unfold lookOf
  split
  · intro x hx; cases hx
  · cases hc : lastCut 32 s with
    | none => intro x hx; cases hx
    | some y =>
      obtain ⟨h, t⟩ := y
      obtain ⟨e, _⟩ := lastCut_some 32 s h t hc
      have hl : h.length ≤ s.length := by rw [e]; simp
      dsimp only
      split
      · intro x hx; cases hx
      · split
        · intro x hx; cases hx
        · split
          · intro x hx
            have := cutL_len 32 h x hx
            omega
          · intro x hx; cases hx
theorem open_words_len (k : Int) (s : List UInt8) : ∀ x ∈ (openOf k s).1, x.length ≤ s.length := by
  unfold openOf
  split
  · intro x hx; cases hx
  · split
    · split
      · exact look_words_len s
      · intro x hx; cases hx
    · intro x hx; cases hx

set_option maxHeartbeats 1000000 in
set_option maxRecDepth 100000 in
theorem open_tick {E : Nat → Addr} (k : Int) (s : ByteArray) (w : World) (hL : LaidS E w) (hs : s.size ≤ 1000000) :
    Calls Tryz.prog 44 #[.int .i64 k, .string s] w fun e w' => e = .returned (.tuple #[(openT k s.data.toList).1.val, errV E (openT k s.data.toList).2]) ∧ Below w.heap.size w w' := by
  have hB : Below w.heap.size w (w.alloc (.cells #[.string ⟨#[]⟩, .string ⟨#[]⟩, .int .i64 0, .int .i64 0, .int .i64 0, .int .i64 0] 78)) := (Below.refl _ _).alloc (Nat.le_refl _) _
  have hbr := Lib.hid (heap_alloc_new w (.cells #[.string ⟨#[]⟩, .string ⟨#[]⟩, .int .i64 0, .int .i64 0, .int .i64 0, .int .i64 0] 78))
  have hso := Lib.hid (open_any (E := E) k s _ (hL.below hB) hs)
  have hof := Lib.hid (fun v wx (hx : Below w.heap.size w wx) (hv : TextsAt wx v (openOf k s.data.toList).1) => of_tick (E := E) v (openOf k s.data.toList).1 wx (hL.below hx) hv (fun x hx => by
    have := open_words_len k s.data.toList x hx
    have hl : s.data.toList.length = s.size := Array.length_toList
    omega))
  have hr0 : openT k s.data.toList = if (openOf k s.data.toList).2 = 0 then ofWords (openOf k s.data.toList).1 else (noTick, (openOf k s.data.toList).2) := rfl
  generalize openT k s.data.toList = p at *
  generalize (openOf k s.data.toList).1 = W at *
  generalize (openOf k s.data.toList).2 = c at *
  cases c with
  | succ c =>
    have hr := Lib.hid (hr0.trans (show _ = (noTick, c + 1) from rfl))
    rw [errV_succ] at hso
    clear hr0
    go_enter Tryz.func44, Tryz.ntmps44
    go_wp2_with fail
    refine hso.out.mono ?_
    rintro e w1 ⟨v, rfl, _, hb⟩
    have hrr1 := Lib.hid (heap_below hb hbr.out)
    have hb := Lib.hid (below_trans hB hb)
    obtain ⟨⟨r0, r1, r2, r3, r4, r5⟩, f0, f1, f2, f3, f4, f5⟩ := tick_kept (Below.refl _ _) hrr1.out
    have hfin := Lib.hid (below_set6 (n := w.heap.size) hb.out (Nat.le_refl _) (.string ⟨#[]⟩) (.string ⟨#[]⟩) (.int .i64 0) (.int .i64 0) (.int .i64 0) (.int .i64 0))
    go_wp2_with fail
    obtain ⟨⟨q0, q1, q2, q3, q4, q5⟩, _⟩ := tick_kept (Below.refl _ _) (row_set6 hrr1.out (.string ⟨#[]⟩) (.string ⟨#[]⟩) (.int .i64 0) (.int .i64 0) (.int .i64 0) (.int .i64 0))
    exact bodyPost_ret (v := .tuple #[.agg #[.string ⟨#[]⟩, .string ⟨#[]⟩, .int .i64 0, .int .i64 0, .int .i64 0, .int .i64 0], errV E (c + 1)]) (by simp [results, Tryz.results44, go_sem, errV, q0, q1, q2, q3, q4, q5]) rfl ⟨by rw [hr.out]; try rfl, hfin.out⟩
  | zero =>
    have hr := Lib.hid (hr0.trans (show _ = ofWords W from rfl))
    rw [errV_zero] at hso
    clear hr0
    generalize ofWords W = q at *
    obtain ⟨⟨who, svc, ep, bg, fn, sr⟩, cd⟩ := q
    dsimp only [Tick.val] at hof
    obtain ⟨ev, hev⟩ : ∃ ev, errV E cd = ev := ⟨_, rfl⟩
    rw [hev] at hof
    have hev := Lib.hid hev
    go_enter Tryz.func44, Tryz.ntmps44
    go_wp2_with fail
    refine hso.out.mono ?_
    rintro e w1 ⟨v, rfl, hv, hb⟩
    have hrr1 := Lib.hid (heap_below hb hbr.out)
    have hb := Lib.hid (below_trans hB hb)
    have hof := Lib.hid (hof.out v w1 hb.out hv)
    clear hv
    go_wp2_with fail
    refine hof.out.mono ?_
    rintro e w2 ⟨rfl, hb2⟩
    have hrr2 := Lib.hid (heap_below hb2 hrr1.out)
    have hb2 := Lib.hid (below_trans hb.out hb2)
    obtain ⟨⟨r0, r1, r2, r3, r4, r5⟩, f0, f1, f2, f3, f4, f5⟩ := tick_kept (Below.refl _ _) hrr2.out
    have hfin := Lib.hid (below_set6 (n := w.heap.size) hb2.out (Nat.le_refl _) (.string (bs who)) (.string (bs svc)) (.int .i64 ep) (.int .i64 bg) (.int .i64 fn) (.int .i64 sr))
    go_wp2_with fail
    obtain ⟨⟨q0, q1, q2, q3, q4, q5⟩, _⟩ := tick_kept (Below.refl _ _) (row_set6 hrr2.out (.string (bs who)) (.string (bs svc)) (.int .i64 ep) (.int .i64 bg) (.int .i64 fn) (.int .i64 sr))
    exact bodyPost_ret (v := .tuple #[.agg #[.string (bs who), .string (bs svc), .int .i64 ep, .int .i64 bg, .int .i64 fn, .int .i64 sr], ev]) (by simp [results, Tryz.results44, go_sem, q0, q1, q2, q3, q4, q5]) rfl ⟨by rw [hr.out, ← hev.out]; try rfl, hfin.out⟩

set_option maxHeartbeats 1000000 in
set_option maxRecDepth 100000 in
theorem look_tick {E : Nat → Addr} (s : ByteArray) (w : World) (hL : LaidS E w) (hs : s.size ≤ 1000000) :
    Calls Tryz.prog 45 #[.string s] w fun e w' => e = .returned (.tuple #[(lookT s.data.toList).1.val, errV E (lookT s.data.toList).2]) ∧ Below w.heap.size w w' := by
  have hB : Below w.heap.size w (w.alloc (.cells #[.string ⟨#[]⟩, .string ⟨#[]⟩, .int .i64 0, .int .i64 0, .int .i64 0, .int .i64 0] 78)) := (Below.refl _ _).alloc (Nat.le_refl _) _
  have hbr := Lib.hid (heap_alloc_new w (.cells #[.string ⟨#[]⟩, .string ⟨#[]⟩, .int .i64 0, .int .i64 0, .int .i64 0, .int .i64 0] 78))
  have hso := Lib.hid (Look_any (E := E) s _ (hL.below hB) hs)
  have hof := Lib.hid (fun v wx (hx : Below w.heap.size w wx) (hv : TextsAt wx v (lookOf s.data.toList).2.1) => of_tick (E := E) v (lookOf s.data.toList).2.1 wx (hL.below hx) hv (fun x hx => by
    have := look_words_len s.data.toList x hx
    have hl : s.data.toList.length = s.size := Array.length_toList
    omega))
  have hr0 : lookT s.data.toList = if (lookOf s.data.toList).2.2.2 = 0 then ofWords (lookOf s.data.toList).2.1 else (noTick, (lookOf s.data.toList).2.2.2) := rfl
  generalize lookT s.data.toList = p at *
  generalize (lookOf s.data.toList).2.1 = W at *
  generalize (lookOf s.data.toList).2.2.2 = c at *
  cases c with
  | succ c =>
    have hr := Lib.hid (hr0.trans (show _ = (noTick, c + 1) from rfl))
    rw [errV_succ] at hso
    clear hr0
    go_enter Tryz.func45, Tryz.ntmps45
    go_wp2_with fail
    refine hso.out.mono ?_
    rintro e w1 ⟨v, rfl, _, hb⟩
    have hrr1 := Lib.hid (heap_below hb hbr.out)
    have hb := Lib.hid (below_trans hB hb)
    obtain ⟨⟨r0, r1, r2, r3, r4, r5⟩, f0, f1, f2, f3, f4, f5⟩ := tick_kept (Below.refl _ _) hrr1.out
    have hfin := Lib.hid (below_set6 (n := w.heap.size) hb.out (Nat.le_refl _) (.string ⟨#[]⟩) (.string ⟨#[]⟩) (.int .i64 0) (.int .i64 0) (.int .i64 0) (.int .i64 0))
    go_wp2_with fail
    obtain ⟨⟨q0, q1, q2, q3, q4, q5⟩, _⟩ := tick_kept (Below.refl _ _) (row_set6 hrr1.out (.string ⟨#[]⟩) (.string ⟨#[]⟩) (.int .i64 0) (.int .i64 0) (.int .i64 0) (.int .i64 0))
    exact bodyPost_ret (v := .tuple #[.agg #[.string ⟨#[]⟩, .string ⟨#[]⟩, .int .i64 0, .int .i64 0, .int .i64 0, .int .i64 0], errV E (c + 1)]) (by simp [results, Tryz.results45, go_sem, errV, q0, q1, q2, q3, q4, q5]) rfl ⟨by rw [hr.out]; try rfl, hfin.out⟩
  | zero =>
    have hr := Lib.hid (hr0.trans (show _ = ofWords W from rfl))
    rw [errV_zero] at hso
    clear hr0
    generalize ofWords W = q at *
    obtain ⟨⟨who, svc, ep, bg, fn, sr⟩, cd⟩ := q
    dsimp only [Tick.val] at hof
    obtain ⟨ev, hev⟩ : ∃ ev, errV E cd = ev := ⟨_, rfl⟩
    rw [hev] at hof
    have hev := Lib.hid hev
    go_enter Tryz.func45, Tryz.ntmps45
    go_wp2_with fail
    refine hso.out.mono ?_
    rintro e w1 ⟨v, rfl, hv, hb⟩
    have hrr1 := Lib.hid (heap_below hb hbr.out)
    have hb := Lib.hid (below_trans hB hb)
    have hof := Lib.hid (hof.out v w1 hb.out hv)
    clear hv
    go_wp2_with fail
    refine hof.out.mono ?_
    rintro e w2 ⟨rfl, hb2⟩
    have hrr2 := Lib.hid (heap_below hb2 hrr1.out)
    have hb2 := Lib.hid (below_trans hb.out hb2)
    obtain ⟨⟨r0, r1, r2, r3, r4, r5⟩, f0, f1, f2, f3, f4, f5⟩ := tick_kept (Below.refl _ _) hrr2.out
    have hfin := Lib.hid (below_set6 (n := w.heap.size) hb2.out (Nat.le_refl _) (.string (bs who)) (.string (bs svc)) (.int .i64 ep) (.int .i64 bg) (.int .i64 fn) (.int .i64 sr))
    go_wp2_with fail
    obtain ⟨⟨q0, q1, q2, q3, q4, q5⟩, _⟩ := tick_kept (Below.refl _ _) (row_set6 hrr2.out (.string (bs who)) (.string (bs svc)) (.int .i64 ep) (.int .i64 bg) (.int .i64 fn) (.int .i64 sr))
    exact bodyPost_ret (v := .tuple #[.agg #[.string (bs who), .string (bs svc), .int .i64 ep, .int .i64 bg, .int .i64 fn, .int .i64 sr], ev]) (by simp [results, Tryz.results45, go_sem, q0, q1, q2, q3, q4, q5]) rfl ⟨by rw [hr.out, ← hev.out]; try rfl, hfin.out⟩
end Go.Proofs.YtgainbpflncgcaaGreatDoor
