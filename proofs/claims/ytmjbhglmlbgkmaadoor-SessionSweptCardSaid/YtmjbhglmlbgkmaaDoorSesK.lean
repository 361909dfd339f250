/- Package session: Ask: walked. -/
import Derived.Test.YtmjbhglmlbgkmaaDoorSesW
import Derived.Test.YtmjbhglmlbgkmaaDoorRowOwn
import Derived.RegionTactic
import Derived.ChangeAlike
namespace Go.Proofs.YtmjbhglmlbgkmaaDoor
open Go.RowKit Go.MapKept

set_option maxHeartbeats 4000000 in
set_option maxRecDepth 100000 in
theorem ask_desk {E : Nat → Addr} (b r : Nat) (next : Int) (L : List Ses) (n now : Int) (w : World) (hL : Laid E w) (hD : DeskS w b r next L) (hG : GoodS next L) :
    Calls Tryd.prog 16 #[.pointer (some ⟨b, 0, none⟩), .int .i64 n, .int .i64 now] w fun e w' => e = .returned (.tuple #[(askSs L n now).1.val, errV E (askSs L n now).2]) ∧ Below w.heap.size w w' := by
  have hA1 : Below w.heap.size w (w.alloc (.cells #[.string ⟨#[]⟩, .string ⟨#[]⟩, .int .i64 0, .int .i64 0, .int .i64 0, .int .i64 0] 30)) := (Below.refl _ _).alloc (Nat.le_refl _) _
  have hbr := heap_alloc_new w (.cells #[.string ⟨#[]⟩, .string ⟨#[]⟩, .int .i64 0, .int .i64 0, .int .i64 0, .int .i64 0] 30)
  have hD1 := hD.below hA1
  have hL1 := hL.below hA1
  have c1 := hD1.at1
  have hask : askSs L n now = match findS L n with
    | none => (noTick, 5)
    | some p => if goodT p.t now = 0 then (p.t, 0) else (noTick, goodT p.t now) := rfl
  cases hf : findS L n with
  | none =>
    rw [hf] at hask
    dsimp only at hask
    have hl : (Instr.lookup 88 (.map (some r)) (.int .i64 n) true).run Tryd.prog (w.alloc (.cells #[.string ⟨#[]⟩, .string ⟨#[]⟩, .int .i64 0, .int .i64 0, .int .i64 0, .int .i64 0] 30)) = .ok (.tuple #[.agg #[.string ⟨#[]⟩, .string ⟨#[]⟩, .int .i64 0, .int .i64 0, .int .i64 0, .int .i64 0], .bool false]) _ := hD1.lookup_none hf
    have hA2 := (Below.refl (w.alloc (.cells #[.string ⟨#[]⟩, .string ⟨#[]⟩, .int .i64 0, .int .i64 0, .int .i64 0, .int .i64 0] 30)).heap.size _).alloc (Nat.le_refl _) (.cells #[.string ⟨#[]⟩, .string ⟨#[]⟩, .int .i64 0, .int .i64 0, .int .i64 0, .int .i64 0] 30)
    have he := (hL1.below hA2).e5
    have hB := Lib.hid (below_trans hA1 hA2)
    have hr := Lib.hid hask
    simp only [errV] at he
    clear hask hf hD hD1 hL hL1 hA1 hA2 hbr hG
    go_enter Tryd.func16, Tryd.ntmps16
    go_wp2_with fail
    go_region
    all_goals
      go_wp2_with fail
      exact bodyPost_ret (v := .tuple #[.agg #[.string ⟨#[]⟩, .string ⟨#[]⟩, .int .i64 0, .int .i64 0, .int .i64 0, .int .i64 0], errV E 5]) (by simp [results, Tryd.results16, go_sem, errV]) rfl ⟨by rw [hr.out]; rfl, hB.out.drew⟩
  | some p =>
    rw [hf] at hask
    dsimp only at hask
    obtain ⟨hp, hpn⟩ := findS_some hf
    have htk := hG.tick p hp
    have hl := hD1.lookup_some hf
    have hA2 := (Below.refl (w.alloc (.cells #[.string ⟨#[]⟩, .string ⟨#[]⟩, .int .i64 0, .int .i64 0, .int .i64 0, .int .i64 0] 30)).heap.size _).alloc (Nat.le_refl _) (.cells p.t.cells 30)
    have hbt := heap_alloc_new (w.alloc (.cells #[.string ⟨#[]⟩, .string ⟨#[]⟩, .int .i64 0, .int .i64 0, .int .i64 0, .int .i64 0] 30)) (.cells p.t.cells 30)
    rw [World.size_alloc] at hbt
    have hbr2 := Lib.hid (heap_below hA2 hbr)
    have hbtH := Lib.hid hbt
    have hgd := Lib.hid (good_tick (E := E) p.t now _ (hL1.below hA2) (by
      have := tick_size htk
      constructor <;> (unfold maxLen; omega)))
    have hB := Lib.hid (below_trans hA1 hA2)
    clear hf hD hD1 hL hL1 hA1 hA2 hbr hbt hG hp hpn htk
    generalize goodT p.t now = c at *
    obtain ⟨pn, who, svc, ep, bg, fn, sr⟩ := p
    dsimp only [Tick.val, Tick.cells] at *
    cases c with
    | succ c =>
      have hr := Lib.hid (hask.trans (if_neg (Nat.succ_ne_zero c)))
      rw [errV_succ] at hgd
      clear hask
      go_enter Tryd.func16, Tryd.ntmps16
      go_wp2_with fail
      refine hgd.out.mono ?_
      rintro e w3 ⟨rfl, hb3⟩
      have hrr3 := Lib.hid (heap_below hb3 hbr2.out)
      have hb := Lib.hid (below_trans hB.out hb3)
      obtain ⟨⟨r0, r1, r2, r3, r4, r5⟩, f0, f1, f2, f3, f4, f5⟩ := tick_kept (Below.refl _ _) hrr3.out
      have hfin := Lib.hid (below_set6 (n := w.heap.size) hb.out (Nat.le_refl _) (.string ⟨#[]⟩) (.string ⟨#[]⟩) (.int .i64 0) (.int .i64 0) (.int .i64 0) (.int .i64 0))
      clear hb3
      go_wp2_with fail
      obtain ⟨⟨q0, q1, q2, q3, q4, q5⟩, _⟩ := tick_kept (Below.refl _ _) (row_set6 hrr3.out (.string ⟨#[]⟩) (.string ⟨#[]⟩) (.int .i64 0) (.int .i64 0) (.int .i64 0) (.int .i64 0))
      exact bodyPost_ret (v := .tuple #[.agg #[.string ⟨#[]⟩, .string ⟨#[]⟩, .int .i64 0, .int .i64 0, .int .i64 0, .int .i64 0], errV E (c + 1)]) (by simp [results, Tryd.results16, go_sem, errV, q0, q1, q2, q3, q4, q5]) rfl ⟨by rw [hr.out]; rfl, hfin.out⟩
    | zero =>
      have hr := Lib.hid (hask.trans (if_pos rfl))
      rw [errV_zero] at hgd
      clear hask
      go_enter Tryd.func16, Tryd.ntmps16
      go_wp2_with fail
      refine hgd.out.mono ?_
      rintro e w3 ⟨rfl, hb3⟩
      have hrr3 := Lib.hid (heap_below hb3 hbr2.out)
      have htt3 := heap_below hb3 hbtH.out
      have hb := Lib.hid (below_trans hB.out hb3)
      obtain ⟨⟨r0, r1, r2, r3, r4, r5⟩, f0, f1, f2, f3, f4, f5⟩ := tick_kept (Below.refl _ _) hrr3.out
      obtain ⟨⟨t0, t1, t2, t3, t4, t5⟩, _⟩ := tick_kept (Below.refl _ _) htt3
      have hfin := Lib.hid (below_set6 (n := w.heap.size) hb.out (Nat.le_refl _) (.string (bs who)) (.string (bs svc)) (.int .i64 ep) (.int .i64 bg) (.int .i64 fn) (.int .i64 sr))
      clear hb3 htt3
      go_wp2_with fail
      obtain ⟨⟨q0, q1, q2, q3, q4, q5⟩, _⟩ := tick_kept (Below.refl _ _) (row_set6 hrr3.out (.string (bs who)) (.string (bs svc)) (.int .i64 ep) (.int .i64 bg) (.int .i64 fn) (.int .i64 sr))
      exact bodyPost_ret (v := .tuple #[.agg #[.string (bs who), .string (bs svc), .int .i64 ep, .int .i64 bg, .int .i64 fn, .int .i64 sr], .nilIface]) (by simp [results, Tryd.results16, go_sem, q0, q1, q2, q3, q4, q5]) rfl ⟨by rw [hr.out]; rfl, hfin.out⟩
end Go.Proofs.YtmjbhglmlbgkmaaDoor
