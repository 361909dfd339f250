/- LongTicket, walked. -/
import Derived.Test.YtmjbhglmlbgkmaaDoorTickG
namespace Go.Proofs.YtmjbhglmlbgkmaaDoor
open Go.RowKit

def longT (t : Tick) : Int := if 20 < t.who.length ∨ 20 < t.svc.length then 1 else 0
set_option maxRecDepth 100000 in
theorem longTicket_any (t : Tick) (w : World) (hl : TickLen t) :
    Calls Tryd.prog 41 #[t.val] w fun e w' => e = .returned (.int .i64 (longT t)) ∧ Below w.heap.size w w' := by
  have hB : Below w.heap.size w (w.alloc (.cells t.cells 30)) := (Below.refl _ _).alloc (Nat.le_refl _) _
  have hlt : longT t = if 20 < t.who.length ∨ 20 < t.svc.length then 1 else 0 := rfl
  generalize longT t = q at *
  obtain ⟨h1, h2⟩ := hl
  obtain ⟨who, svc, ep, bg, fn, sr⟩ := t
  dsimp only [Tick.val, Tick.cells] at *
  have s1 := bs_size who
  have s2 := bs_size svc
  unfold maxLen at h1 h2
  by_cases a : 20 < who.length
  · have hr := Lib.hid (hlt.trans (if_pos (.inl a)))
    clear hlt
    go_enter Tryd.func41, Tryd.ntmps41
    go_wp2_with fail
    go_ret
    exact ⟨ret_int hr.out.symm, hB⟩
  · by_cases b : 20 < svc.length
    · have hr := Lib.hid (hlt.trans (if_pos (.inr b)))
      clear hlt
      go_enter Tryd.func41, Tryd.ntmps41
      go_wp2_with fail
      go_ret
      exact ⟨ret_int hr.out.symm, hB⟩
    · have hr := Lib.hid (hlt.trans (if_neg (by rintro (h | h); exact a h; exact b h)))
      clear hlt
      go_enter Tryd.func41, Tryd.ntmps41
      go_wp2_with fail
      go_ret
      exact ⟨ret_int hr.out.symm, hB⟩
end Go.Proofs.YtmjbhglmlbgkmaaDoor
