/- seen's Ask, walked. -/
import Derived.Test.YtmjbhglmlbgkmaaDoorSeenW
namespace Go.Proofs.YtmjbhglmlbgkmaaDoor
open Go.RowKit Go.MapKept Go.Shelf Go.Lib

/-- Ask's world: its two boxes, what was seen, the sentinels. -/
structure AskW (w0 : World) (E : Nat → Addr) (b r : Nat) (long now : Int) (L : List Wd) (w : World) : Prop where
  p4 : w.cell? ⟨w0.heap.size, 0, none⟩ = some (.pointer (some ⟨b, 0, none⟩))
  p7 : w.cell? ⟨w0.heap.size + 1, 0, none⟩ = some (.int .i64 now)
  seen : SeenAt w b r long L
  keeps : Keeps (· = r) w0 w
  laid : Laid E w
theorem AskW.below {w0 : World} {E : Nat → Addr} {b r : Nat} {long now : Int} {L : List Wd} {w w' : World} (h : AskW w0 E b r long now L w) (hb : Below w.heap.size w w') : AskW w0 E b r long now L w' :=
  ⟨cell_below hb h.p4, cell_below hb h.p7, h.seen.below hb, h.keeps.trans (Keeps.of_below hb), h.laid.below hb⟩
theorem AskW.start {w0 : World} {E : Nat → Addr} {b r : Nat} {long now : Int} {L : List Wd} (hS : SeenAt w0 b r long L) (hL : Laid E w0) :
    AskW w0 E b r long now L ((w0.alloc (.cells #[.pointer (some ⟨b, 0, none⟩)] 72)).alloc (.cells #[.int .i64 now] 3)) := by
  have hA : Below w0.heap.size w0 (w0.alloc (.cells #[.pointer (some ⟨b, 0, none⟩)] 72)) := (Below.refl _ _).alloc (Nat.le_refl _) _
  have hB : Below (w0.alloc (.cells #[.pointer (some ⟨b, 0, none⟩)] 72)).heap.size (w0.alloc (.cells #[.pointer (some ⟨b, 0, none⟩)] 72)) ((w0.alloc (.cells #[.pointer (some ⟨b, 0, none⟩)] 72)).alloc (.cells #[.int .i64 now] 3)) := (Below.refl _ _).alloc (Nat.le_refl _) _
  have h1 := (Keeps.of_below (S := fun _ => False) hB).obj (heap_alloc_new w0 (.cells #[.pointer (some ⟨b, 0, none⟩)] 72)) id
  have h2 := heap_alloc_new (w0.alloc (.cells #[.pointer (some ⟨b, 0, none⟩)] 72)) (.cells #[.int .i64 now] 3)
  rw [World.size_alloc] at h2
  exact ⟨by rw [cell_of_row _ _ _ _ _ _ h1]; rfl, by rw [cell_of_row _ _ _ _ _ _ h2]; rfl, (hS.below hA).below hB, Keeps.of_below (below_trans hA hB), (hL.below hA).below hB⟩
theorem AskW.after {w0 : World} {E : Nat → Addr} {b r : Nat} {long now : Int} {L L' : List Wd} {w w' : World} (h : AskW w0 E b r long now L w) (hr : r < w0.heap.size) (hLk : ∀ w', Keeps (· = r) w0 w' → Laid E w')
    (hk : Keeps (· = r) w w') (hS : SeenAt w' b r long L') : AskW w0 E b r long now L' w' :=
  ⟨hk.cell h.p4 (show ¬ w0.heap.size = r by omega), hk.cell h.p7 (show ¬ w0.heap.size + 1 = r by omega), hS, h.keeps.trans hk, hLk _ (h.keeps.trans hk)⟩
/-- What Ask answers once nothing is amiss with the word and its time. -/
def askT (lo : Int) (L : List Wd) (word : List UInt8) (time : Int) : Nat × List Wd :=
  if (findW (keptW lo L) word).isSome then (6, keptW lo L)
  else if 40 ≤ (keptW lo L).length then (7, keptW lo L)
  else (0, insW ⟨word, time⟩ (keptW lo L))
set_option maxHeartbeats 4000000 in
set_option maxRecDepth 100000 in
theorem ask_seen {E : Nat → Addr} (b r : Nat) (long : Int) (L : List Wd) (word : List UInt8) (time now : Int) (w : World) (hLk : ∀ w', Keeps (· = r) w w' → Laid E w') (hS : SeenAt w b r long L) (hG : GoodW L) (hlong : isTime long = true) (hw : word.length ≤ maxLen) :
    Calls Tryd.prog 36 #[.pointer (some ⟨b, 0, none⟩), .string (bs word), .int .i64 time, .int .i64 now] w fun e w' => e = .returned (errV E (askS long L word time now).1) ∧ Keeps (· = r) w w' ∧ SeenAt w' b r long (askS long L word time now).2 := by
  obtain ⟨hg0, hg1⟩ := (isTime_iff _).1 hlong
  have hst := Lib.hid (AskW.start (now := now) hS (hLk w (Keeps.refl _ _)))
  have hrlt := Lib.hid hS.lt.2
  have hask : askS long L word time now = if isWord word = false then (1, L) else if (isTime time && isTime now) = false then (2, L) else if now + long < time then (11, L) else if time < now - long then (12, L) else askT (now - long) L word time := rfl
  have hask := Lib.hid hask
  have hwd := Lib.hid (fun wx => word_any (bs word) wx (by rw [bs_size]; exact hw))
  rw [bs_list] at hwd
  have hLkH := Lib.hid hLk
  have hwm := Lib.hid (show ∀ p ∈ L, p.s.length ≤ maxLen from fun p hp => by
    have := ((isWord_iff _).1 (hG.word p hp)).2.1
    unfold maxLen
    omega)
  have hdel := Lib.hid (fun wx (hx : AskW w E b r long now L wx) (hn : 0 ≤ now ∧ now ≤ 1000000) => del_seen 57 #[.pointer (some ⟨w.heap.size + 1, 0, none⟩), .pointer (some ⟨w.heap.size, 0, none⟩)] (now - long) hx.seen hG hwm.out (enters_of Tryd.func57 (by kernel_rfl) rfl)
    (fun W k t hW => ask1_seen b (w.heap.size + 1) w.heap.size long now k t W (hW.cell hx.p7 (show ¬ w.heap.size + 1 = r by have := hrlt.out; omega)) (hW.cell hx.p4 (show ¬ w.heap.size = r by have := hrlt.out; omega)) (hW.cell hx.seen.at0 (show ¬ b = r from hx.seen.ne)) ⟨hg0, hg1⟩ hn))
  have hGH := Lib.hid hG
  clear hS hG hlong hLk hw
  go_enter Tryd.func36, Tryd.ntmps36
  go_wp2_with fail
  refine (hwd.out _).mono ?_
  rintro e w1 ⟨rfl, hb1⟩
  have h1 := Lib.hid (hst.out.below hb1)
  clear hb1
  cases q1 : isWord word with
  | false =>
    have hr := Lib.hid (hask.out.trans (if_pos q1))
    have he := h1.out.laid.e1
    clear q1
    go_wp2_with fail
    go_ret
    exact ⟨by rw [hr.out]; rfl, h1.out.keeps, by rw [hr.out]; exact h1.out.seen⟩
  | true =>
  have hask := Lib.hid (hask.out.trans (if_neg (by rw [q1]; decide)))
  clear q1
  go_wp2_with fail
  refine (in_seen time _).mono ?_
  rintro e w2 ⟨rfl, hb2⟩
  have h2 := Lib.hid (h1.out.below hb2)
  clear hb2
  cases q2 : isTime time with
  | false =>
    have hr := Lib.hid (hask.out.trans (if_pos (by rw [q2]; rfl)))
    have he := h2.out.laid.e2
    clear q2
    go_wp2_with fail
    go_ret
    exact ⟨by rw [hr.out]; rfl, h2.out.keeps, by rw [hr.out]; exact h2.out.seen⟩
  | true =>
  have c7 := h2.out.p7
  have q2H := Lib.hid q2
  clear q2
  go_wp2_with fail
  refine (in_seen now _).mono ?_
  rintro e w3 ⟨rfl, hb3⟩
  have h3 := Lib.hid (h2.out.below hb3)
  clear hb3 c7
  cases q3 : isTime now with
  | false =>
    have hr := Lib.hid (hask.out.trans (if_pos (by rw [q3, q2H.out]; rfl)))
    have he := h3.out.laid.e2
    clear q3
    go_wp2_with fail
    go_ret
    exact ⟨by rw [hr.out]; rfl, h3.out.keeps, by rw [hr.out]; exact h3.out.seen⟩
  | true =>
  have hask := Lib.hid (hask.out.trans (if_neg (by rw [q3, q2H.out]; decide)))
  obtain ⟨ht0, ht1⟩ := (isTime_iff _).1 q2H.out
  obtain ⟨hn0, hn1⟩ := (isTime_iff _).1 q3
  have hnH := Lib.hid ((isTime_iff _).1 q3)
  clear q3
  have hs1 := IntWalk.i64_in (now + long) (by omega)
  have hs2 := IntWalk.i64_in (now - long) (by omega)
  have c7 := h3.out.p7
  have c4 := h3.out.p4
  have c0 := h3.out.seen.at0
  have c1 := h3.out.seen.at1
  by_cases q4 : now + long < time
  · have hr := Lib.hid (hask.out.trans (if_pos q4))
    have he := h3.out.laid.e11
    go_wp2_with fail
    go_quiet (fail)
    go_wp2_with fail
    go_ret
    exact ⟨by rw [hr.out]; rfl, h3.out.keeps.drew _, by rw [hr.out]; exact h3.out.seen.below (below_drawn (Below.refl _ _) _)⟩
  have hask := Lib.hid (hask.out.trans (if_neg q4))
  by_cases q5 : time < now - long
  · have hr := Lib.hid (hask.out.trans (if_pos q5))
    have he := h3.out.laid.e12
    go_wp2_with fail
    go_quiet (fail)
    go_wp2_with fail
    go_quiet (fail)
    go_wp2_with fail
    go_ret
    exact ⟨by rw [hr.out]; rfl, h3.out.keeps.drew _, by rw [hr.out]; exact h3.out.seen.below (below_drawn (Below.refl _ _) _)⟩
  have hask := Lib.hid (hask.out.trans (if_neg q5))
  go_wp2_with fail
  go_quiet (fail)
  go_wp2_with fail
  go_quiet (fail)
  go_wp2_with fail
  have h4 := fun n => h3.out.below (below_drawn (Below.refl _ _) n)
  refine (hdel.out _ (h4 _) hnH.out).mono ?_
  rintro e w5 ⟨rfl, hk5, hS5⟩
  have h5 := Lib.hid ((h4 _).after hrlt.out hLkH.out hk5 hS5)
  have hKg := Lib.hid (kept_good hGH.out (now - long))
  have hT := Lib.hid (show askT (now - long) L word time = if (findW (keptW (now - long) L) word).isSome then (6, keptW (now - long) L) else if 40 ≤ (keptW (now - long) L).length then (7, keptW (now - long) L) else (0, insW ⟨word, time⟩ (keptW (now - long) L)) from rfl)
  clear h4 hk5 hS5 c7 c4 c0 c1 hs1 hs2 q4 q5
  generalize keptW (now - long) L = K at *
  have c4 := h5.out.p4
  have c1 := h5.out.seen.at1
  cases q6 : findW K word with
  | some p =>
    have hr := Lib.hid ((hask.out.trans hT.out).trans (if_pos (by rw [q6]; rfl)))
    have hl := h5.out.seen.lookup_some q6
    have he := h5.out.laid.e6
    clear q6
    go_wp2_with fail
    go_ret
    exact ⟨by rw [hr.out]; rfl, h5.out.keeps, by rw [hr.out]; exact h5.out.seen⟩
  | none =>
    have hask := Lib.hid ((hask.out.trans hT.out).trans (if_neg (by rw [q6]; decide)))
    have hl := h5.out.seen.lookup_none q6
    have hln := h5.out.seen.run_len
    have hmany := hKg.out.many
    by_cases q7 : 40 ≤ K.length
    · have hr := Lib.hid (hask.out.trans (if_pos q7))
      have he := h5.out.laid.e7
      clear q6
      go_wp2_with fail
      go_ret
      exact ⟨by rw [hr.out]; rfl, h5.out.keeps, by rw [hr.out]; exact h5.out.seen⟩
    · have hr := Lib.hid (hask.out.trans (if_neg q7))
      obtain ⟨w6, hu, hk6, hS6⟩ := h5.out.seen.update_none q6 time
      clear q6
      go_wp2_with fail
      go_ret
      exact ⟨by rw [hr.out]; rfl, h5.out.keeps.trans hk6, by rw [hr.out]; exact hS6⟩
end Go.Proofs.YtmjbhglmlbgkmaaDoor
