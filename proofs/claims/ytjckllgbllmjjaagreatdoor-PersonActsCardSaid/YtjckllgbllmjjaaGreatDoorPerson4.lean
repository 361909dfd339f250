/- Add of a book, walked. -/
import Derived.Test.YtjckllgbllmjjaaGreatDoorPerson3
namespace Go.Proofs.YtjckllgbllmjjaaGreatDoor
open Go.RowKit

theorem BookAt.len {w : World} {b r : Nat} {L : List Per} (h : BookAt w b r L) : ∃ es c, w.heap[r]? = some (.map es c) ∧ es.size = L.length := by
  obtain ⟨l, ⟨es, c, hb, _, _, rfl⟩, hp⟩ := h.map
  refine ⟨es, c, hb, ?_⟩
  have := hp.length_eq
  simpa using this
theorem run_len {w : World} {r : Nat} {es : Array MapEntry} {c : Nat} (h : w.heap[r]? = some (.map es c)) :
    (Builtin.len_ #[57] 3 #[.map (some r)]).run Tryz.prog w = .ok (.int .i64 es.size) w := by
  simp [Builtin.len_, MapKept.run_getObj_map h, run_underlying Tryz.underlying57, Result.andThen, go_sem]
theorem BookAt.run_len {w : World} {b r : Nat} {L : List Per} (h : BookAt w b r L) :
    (Builtin.len_ #[57] 3 #[.map (some r)]).run Tryz.prog w = .ok (.int .i64 L.length) w := by
  obtain ⟨es, c, h1, h2⟩ := h.len
  rw [← h2]
  exact Go.Proofs.YtjckllgbllmjjaaGreatDoor.run_len h1
set_option maxRecDepth 100000 in
theorem add_some {E : Nat → Addr} (b r : Nat) (L : List Per) (n : List UInt8) (k : Int) (w : World) (hL : Laid E w) (hB : BookAt w b r L) (hn : n.length ≤ maxLen) {p : Per} (hf : findP L n = some p) :
    Calls Tryz.prog 10 #[.pointer (some ⟨b, 0, none⟩), .string (bs n), .int .i64 k] w fun e w' => e = .returned (errV E (addOf L n k).1) ∧ Keeps (· = r) w w' ∧ BookAt w' b r (addOf L n k).2 := by
  have hb1 := (Below.refl w.heap.size w).alloc (Nat.le_refl _) (.cells #[.string (bs n), .int .i64 k, .int .i64 1, .bool false] 24)
  have hl := ((hB.below hb1).lookup_some hf).1
  simp only [Per.val] at hl
  have hc1 := (hB.below hb1).at0
  have hb2 := hb1.alloc (by simp) (.cells #[.string (bs p.name), .int .i64 p.key, .int .i64 p.epoch, .bool p.off] 24)
  have hck := Lib.hid (check_any (bs n) k 1 false _ (hL.below hb2) (by rw [bs_size]; exact hn))
  have hb2 := Lib.hid hb2
  clear hb1
  by_cases h1 : isName n = true
  case neg =>
    have h1 : isName n = false := by simpa using h1
    have hcode := Lib.hid (show checkOf (bs n).data.toList k 1 = 4 by unfold checkOf; rw [bs_list, if_pos h1])
    have hr := Lib.hid (show addOf L n k = (4, L) by unfold addOf; rw [if_pos h1])
    go_enter Tryz.func10, Tryz.ntmps10
    go_wp2_with fail
    refine hck.out.mono ?_
    rintro e w1 ⟨rfl, hb3⟩
    rw [show checkOf (bs n).data.toList k 1 = 4 from hcode.out]
    have hb3 := below_trans hb2.out hb3
    have hb3 := Lib.hid hb3
    simp only [errV]
    go_wp2
    go_ret
    exact ⟨by rw [hr.out]; rfl, Keeps.of_below hb3.out, by rw [hr.out]; exact hB.below hb3.out⟩
  by_cases h2 : isKey k = true
  case neg =>
    have h2 : isKey k = false := by simpa using h2
    have hcode := Lib.hid (show checkOf (bs n).data.toList k 1 = 10 by unfold checkOf; rw [bs_list, if_neg (by rw [h1]; decide), if_pos h2])
    have hr := Lib.hid (show addOf L n k = (10, L) by unfold addOf; rw [if_neg (by rw [h1]; decide), if_pos h2])
    go_enter Tryz.func10, Tryz.ntmps10
    go_wp2_with fail
    refine hck.out.mono ?_
    rintro e w1 ⟨rfl, hb3⟩
    rw [show checkOf (bs n).data.toList k 1 = 10 from hcode.out]
    have hb3 := below_trans hb2.out hb3
    have hb3 := Lib.hid hb3
    simp only [errV]
    go_wp2
    go_ret
    exact ⟨by rw [hr.out]; rfl, Keeps.of_below hb3.out, by rw [hr.out]; exact hB.below hb3.out⟩
  have hcode := Lib.hid (show checkOf (bs n).data.toList k 1 = 0 by unfold checkOf; rw [bs_list, if_neg (by rw [h1]; decide), if_neg (by rw [h2]; decide), if_pos (by decide)])
  · have hr := Lib.hid (show addOf L n k = (6, L) by unfold addOf; rw [if_neg (by rw [h1]; decide), if_neg (by rw [h2]; decide), if_pos (by rw [hf]; rfl)])
    go_enter Tryz.func10, Tryz.ntmps10
    go_wp2_with fail
    refine hck.out.mono ?_
    rintro e w1 ⟨rfl, hb3⟩
    rw [show checkOf (bs n).data.toList k 1 = 0 from hcode.out]
    have hb3 := below_trans hb2.out hb3
    have he := (hL.below hb3).e6
    have hb3 := Lib.hid hb3
    simp only [errV]
    go_wp2
    go_ret
    exact ⟨by rw [hr.out]; rfl, Keeps.of_below hb3.out, by rw [hr.out]; exact hB.below hb3.out⟩
set_option maxRecDepth 100000 in
theorem add_none {E : Nat → Addr} (b r : Nat) (L : List Per) (n : List UInt8) (k : Int) (w : World) (hL : Laid E w) (hB : BookAt w b r L) (hn : n.length ≤ maxLen) (hm : L.length ≤ maxLen) (hf : findP L n = none) :
    Calls Tryz.prog 10 #[.pointer (some ⟨b, 0, none⟩), .string (bs n), .int .i64 k] w fun e w' => e = .returned (errV E (addOf L n k).1) ∧ Keeps (· = r) w w' ∧ BookAt w' b r (addOf L n k).2 := by
  have hb1 := (Below.refl w.heap.size w).alloc (Nat.le_refl _) (.cells #[.string (bs n), .int .i64 k, .int .i64 1, .bool false] 24)
  have hl := (hB.below hb1).lookup_none hf
  have hc1 := (hB.below hb1).at0
  have hb2 := hb1.alloc (by simp) (.cells #[.string ⟨#[]⟩, .int .i64 0, .int .i64 0, .bool false] 24)
  have hck := Lib.hid (check_any (bs n) k 1 false _ (hL.below hb2) (by rw [bs_size]; exact hn))
  have hb2 := Lib.hid hb2
  clear hb1
  by_cases h1 : isName n = true
  case neg =>
    have h1 : isName n = false := by simpa using h1
    have hcode := Lib.hid (show checkOf (bs n).data.toList k 1 = 4 by unfold checkOf; rw [bs_list, if_pos h1])
    have hr := Lib.hid (show addOf L n k = (4, L) by unfold addOf; rw [if_pos h1])
    go_enter Tryz.func10, Tryz.ntmps10
    go_wp2_with fail
    refine hck.out.mono ?_
    rintro e w1 ⟨rfl, hb3⟩
    rw [show checkOf (bs n).data.toList k 1 = 4 from hcode.out]
    have hb3 := below_trans hb2.out hb3
    have hb3 := Lib.hid hb3
    simp only [errV]
    go_wp2
    go_ret
    exact ⟨by rw [hr.out]; rfl, Keeps.of_below hb3.out, by rw [hr.out]; exact hB.below hb3.out⟩
  by_cases h2 : isKey k = true
  case neg =>
    have h2 : isKey k = false := by simpa using h2
    have hcode := Lib.hid (show checkOf (bs n).data.toList k 1 = 10 by unfold checkOf; rw [bs_list, if_neg (by rw [h1]; decide), if_pos h2])
    have hr := Lib.hid (show addOf L n k = (10, L) by unfold addOf; rw [if_neg (by rw [h1]; decide), if_pos h2])
    go_enter Tryz.func10, Tryz.ntmps10
    go_wp2_with fail
    refine hck.out.mono ?_
    rintro e w1 ⟨rfl, hb3⟩
    rw [show checkOf (bs n).data.toList k 1 = 10 from hcode.out]
    have hb3 := below_trans hb2.out hb3
    have hb3 := Lib.hid hb3
    simp only [errV]
    go_wp2
    go_ret
    exact ⟨by rw [hr.out]; rfl, Keeps.of_below hb3.out, by rw [hr.out]; exact hB.below hb3.out⟩
  have hcode := Lib.hid (show checkOf (bs n).data.toList k 1 = 0 by unfold checkOf; rw [bs_list, if_neg (by rw [h1]; decide), if_neg (by rw [h2]; decide), if_pos (by decide)])
  by_cases h4 : 20 ≤ L.length
  · have hr := Lib.hid (show addOf L n k = (7, L) by unfold addOf; rw [if_neg (by rw [h1]; decide), if_neg (by rw [h2]; decide), if_neg (by rw [hf]; decide), if_pos h4])
    go_enter Tryz.func10, Tryz.ntmps10
    go_wp2_with fail
    refine hck.out.mono ?_
    rintro e w1 ⟨rfl, hb3⟩
    rw [show checkOf (bs n).data.toList k 1 = 0 from hcode.out]
    have hb3 := below_trans hb2.out hb3
    have he := (hL.below hb3).e7
    have hc3 := (hB.below hb3).at0
    have hln := (hB.below hb3).run_len
    have hlen : ((20 : Int) ≤ L.length) := by omega
    unfold maxLen at hm
    have hb3 := Lib.hid hb3
    simp only [errV]
    go_wp2
    go_ret
    exact ⟨by rw [hr.out]; rfl, Keeps.of_below hb3.out, by rw [hr.out]; exact hB.below hb3.out⟩
  · have hr := Lib.hid (show addOf L n k = (0, insP ⟨n, k, 1, false⟩ L) by unfold addOf; rw [if_neg (by rw [h1]; decide), if_neg (by rw [h2]; decide), if_neg (by rw [hf]; decide), if_neg h4])
    go_enter Tryz.func10, Tryz.ntmps10
    go_wp2_with fail
    refine hck.out.mono ?_
    rintro e w1 ⟨rfl, hb3⟩
    rw [show checkOf (bs n).data.toList k 1 = 0 from hcode.out]
    have hw0 : w1.drew.cell? ⟨w.heap.size, 0, none⟩ = some (.string (bs n)) := cell_below hb3 (show ((w.alloc (.cells #[.string (bs n), .int .i64 k, .int .i64 1, .bool false] 24)).alloc (.cells #[.string ⟨#[]⟩, .int .i64 0, .int .i64 0, .bool false] 24)).cell? ⟨w.heap.size, 0, none⟩ = some (.string (bs n)) by simp)
    have hw1 : w1.drew.cell? ⟨w.heap.size, 1, none⟩ = some (.int .i64 k) := cell_below hb3 (show ((w.alloc (.cells #[.string (bs n), .int .i64 k, .int .i64 1, .bool false] 24)).alloc (.cells #[.string ⟨#[]⟩, .int .i64 0, .int .i64 0, .bool false] 24)).cell? ⟨w.heap.size, 1, none⟩ = some (.int .i64 k) by simp)
    have hw2 : w1.drew.cell? ⟨w.heap.size, 2, none⟩ = some (.int .i64 1) := cell_below hb3 (show ((w.alloc (.cells #[.string (bs n), .int .i64 k, .int .i64 1, .bool false] 24)).alloc (.cells #[.string ⟨#[]⟩, .int .i64 0, .int .i64 0, .bool false] 24)).cell? ⟨w.heap.size, 2, none⟩ = some (.int .i64 1) by simp)
    have hw3 : w1.drew.cell? ⟨w.heap.size, 3, none⟩ = some (.bool false) := cell_below hb3 (show ((w.alloc (.cells #[.string (bs n), .int .i64 k, .int .i64 1, .bool false] 24)).alloc (.cells #[.string ⟨#[]⟩, .int .i64 0, .int .i64 0, .bool false] 24)).cell? ⟨w.heap.size, 3, none⟩ = some (.bool false) by simp)
    have hb3 := below_trans hb2.out hb3
    have hc3 := (hB.below hb3).at0
    have hln := (hB.below hb3).run_len
    have hlen : ¬ ((20 : Int) ≤ L.length) := by omega
    unfold maxLen at hm
    obtain ⟨w2, hu, hk, hB2⟩ := (hB.below hb3.drew).update_none (q := ⟨n, k, 1, false⟩) hf
    have hc4 := (hB.below hb3.drew).at0
    simp only [Per.val] at hu
    have hfin := Lib.hid (show Keeps (· = r) w w2 ∧ BookAt w2 b r (insP ⟨n, k, 1, false⟩ L) from ⟨(Keeps.of_below hb3.drew).trans hk, hB2⟩)
    have hb3 := Lib.hid hb3
    clear hk hB2
    simp only [errV]
    go_wp2
    go_still_tail 6, (by kernel_rfl)
    try change wpStill _ _ (World.drew _) _ _ _
    try (repeat still_step)
    try refine wpStill_nil ?_
    change wpList _ _ _ _ _ (World.drew _)
    go_wp2
    go_ret
    exact ⟨by rw [hr.out]; rfl, hfin.out.1, by rw [hr.out]; exact hfin.out.2⟩
set_option maxRecDepth 100000 in
theorem add_any {E : Nat → Addr} (b r : Nat) (L : List Per) (n : List UInt8) (k : Int) (w : World) (hL : Laid E w) (hB : BookAt w b r L) (hn : n.length ≤ maxLen) (hm : L.length ≤ maxLen) :
    Calls Tryz.prog 10 #[.pointer (some ⟨b, 0, none⟩), .string (bs n), .int .i64 k] w fun e w' => e = .returned (errV E (addOf L n k).1) ∧ Keeps (· = r) w w' ∧ BookAt w' b r (addOf L n k).2 := by
  cases hf : findP L n with
  | some p => exact add_some b r L n k w hL hB hn hf
  | none => exact add_none b r L n k w hL hB hn hm hf
end Go.Proofs.YtjckllgbllmjjaaGreatDoor
