/- TickR2, TickR3 -/
import Derived.Test.YtkhphdkjnpcnnaaGreatDoorMg36
import Derived.Test.YtkhphdkjnpcnnaaGreatDoorMg18
import Derived.Test.YtkhphdkjnpcnnaaGreatDoorMg37
import Derived.Deep.RegionHeld3
import Derived.Deep.CutRange
import Derived.Deep.CutBlock
import Derived.Deep.DrawnRows
/- The reference's tickets: TicketOf, OpenTicket. -/
namespace Go.Proofs.YtkhphdkjnpcnnaaGreatDoor
open Go.RowKit Go.Maps

theorem ofR_none {a b c d e f g : List UInt8} {j : Nat} (hj : j < 4) (h : numOf ([d, e, f, g].getD j []) = none) : ofWords [a, b, c, d, e, f, g] = (noTick, 1) := by
  by_cases ha : a = ticketW
  · subst ha; exact ofWords_none hj h
  · exact ofWords_first ha
set_option maxHeartbeats 400000 in
set_option maxRecDepth 100000 in
theorem ofR_tick (v : Value) (W : List (List UInt8)) (w : World) (hv : TextsAt w v W) (hm : ∀ x ∈ W, x.length ≤ 1000000) :
    Calls Tryz.prog 124 #[v] w fun e w' => e = .returned (.tuple #[(ofWords W).1.val, .int .i64 ((ofWords W).2 : Nat)]) ∧ Below w.heap.size w w' := by
  have hB : Below w.heap.size w (w.alloc (.cells #[.string ⟨#[]⟩, .string ⟨#[]⟩, .int .i64 0, .int .i64 0, .int .i64 0, .int .i64 0] 51)) := (Below.refl _ _).alloc (Nat.le_refl _) _
  have hbr := Lib.hid (heap_alloc_new w (.cells #[.string ⟨#[]⟩, .string ⟨#[]⟩, .int .i64 0, .int .i64 0, .int .i64 0, .int .i64 0] 51))
  have hz6 := Lib.hid (row_set6 hbr.out (.string ⟨#[]⟩) (.string ⟨#[]⟩) (.int .i64 0) (.int .i64 0) (.int .i64 0) (.int .i64 0))
  have hzb := Lib.hid (below_set6 (n := w.heap.size) hB (Nat.le_refl _) (.string ⟨#[]⟩) (.string ⟨#[]⟩) (.int .i64 0) (.int .i64 0) (.int .i64 0) (.int .i64 0))
  by_cases hl : W.length = 7
  case neg =>
    have hr := Lib.hid (ofWords_len hl)
    obtain ⟨a, c, rfl, hlen, hcap, hcell⟩ := hv
    unfold maxLen at hlen
    clear hcell
    have hne : ((W.length : Int) != 7) = true := by rw [bne_iff_ne]; omega
    generalize ofWords W = p at *
    clear hl hm
    generalize W.length = m at *
    go_enter Tryz.func124, Tryz.ntmps124
    go_wp2_with fail
    exact bodyPost_ret (v := .tuple #[.agg #[.string ⟨#[]⟩, .string ⟨#[]⟩, .int .i64 0, .int .i64 0, .int .i64 0, .int .i64 0], .int .i64 1]) (by simp [results, Tryz.results124, go_sem]) rfl ⟨by rw [hr.out]; rfl, hB⟩
  obtain ⟨a0, a1, a2, a3, a4, a5, a6, rfl⟩ := seven_of hl
  clear hl
  obtain ⟨a, cap, rfl, _, hcap, hcell⟩ := hv
  have hcap : 7 ≤ cap := hcap
  obtain ⟨b, o, rfl, c0⟩ := hcell 0 (by simp)
  have c0 : w.cell? ⟨b, o, none⟩ = some (.string (bs a0)) := c0
  have hX := Lib.hid (show ∀ j, j < 4 → w.cell? ⟨b, o + 3 + j, none⟩ = some (.string (bs ([a3, a4, a5, a6].getD j []))) from fun j hj => by
    obtain ⟨b', o', he, hc⟩ := hcell (3 + j) (by simp; omega)
    cases he
    rw [Nat.add_assoc, hc]
    match j, hj with
    | 0, _ => rfl
    | 1, _ => rfl
    | 2, _ => rfl
    | 3, _ => rfl)
  have hXl := Lib.hid (show ∀ j, j < 4 → ([a3, a4, a5, a6].getD j []).length ≤ 1000000 from fun j hj => by
    match j, hj with
    | 0, _ => exact hm a3 (by simp)
    | 1, _ => exact hm a4 (by simp)
    | 2, _ => exact hm a5 (by simp)
    | 3, _ => exact hm a6 (by simp))
  have hl1 := hm a1 (by simp)
  have hl2 := hm a2 (by simp)
  have c1 : w.cell? ⟨b, o + 1, none⟩ = some (.string (bs a1)) := by obtain ⟨b', o', he, hc⟩ := hcell 1 (by simp); cases he; exact hc
  have c2 : w.cell? ⟨b, o + 2, none⟩ = some (.string (bs a2)) := by obtain ⟨b', o', he, hc⟩ := hcell 2 (by simp); cases he; exact hc
  have d0 := cell_below hB c0
  have d1 := Lib.hid (cell_below hB c1)
  have d2 := Lib.hid (cell_below hB c2)
  have hX := Lib.hid (fun j hj => cell_below hB (hX.out j hj))
  clear hcell c0 c1 c2 hm
  rw [show ([a0, a1, a2, a3, a4, a5, a6] : List (List UInt8)).length = 7 from rfl]
  have hbad := Lib.hid (fun h => ofWords_first (a := a0) (b := a1) (c := a2) (d := a3) (e := a4) (f := a5) (g := a6) h)
  have hnone := Lib.hid (fun j (hj : j < 4) h => ofR_none (a := a0) (b := a1) (c := a2) (d := a3) (e := a4) (f := a5) (g := a6) hj h)
  have hsome := Lib.hid (show ∀ n0 n1 n2 n3 : Nat, a0 = ticketW → numOf a3 = some n0 → numOf a4 = some n1 → numOf a5 = some n2 → numOf a6 = some n3 → ofWords [a0, a1, a2, a3, a4, a5, a6] = if tickErr ⟨a1, a2, n0, n1, n2, n3⟩ = 0 then (⟨a1, a2, n0, n1, n2, n3⟩, 0) else (noTick, tickErr ⟨a1, a2, n0, n1, n2, n3⟩) from fun n0 n1 n2 n3 ha h0 h1 h2 h3 => by
    rw [ha]
    exact ofWords_some h0 h1 h2 h3)
  generalize ofWords [a0, a1, a2, a3, a4, a5, a6] = p at *
  obtain ⟨X, hXd⟩ : ∃ X, [a3, a4, a5, a6] = X := ⟨_, rfl⟩
  rw [hXd] at hX hXl hnone
  have hXd := Lib.hid hXd
  have hnu := Lib.hid (fun (l : List UInt8) (hl : l.length ≤ 1000000) wx => numberR_any (bs l) 9999999999 wx (by rw [bs_size]; unfold maxLen; omega))
  obtain ⟨i0, hi, hz0, hz1, hz2⟩ := info_parts info_int
  have hBH := Lib.hid hB
  go_enter Tryz.func124, Tryz.ntmps124
  go_wp2_with fail
  have hsz0 : (w.alloc (.cells #[.string ⟨#[]⟩, .string ⟨#[]⟩, .int .i64 0, .int .i64 0, .int .i64 0, .int .i64 0] 51)).heap.size = w.heap.size + 1 := by simp
  clear hB hz6 hzb
  generalize (w.alloc (.cells #[.string ⟨#[]⟩, .string ⟨#[]⟩, .int .i64 0, .int .i64 0, .int .i64 0, .int .i64 0] 51)) = w0 at *
  have hsz0H := Lib.hid hsz0
  clear hsz0
  have d0 := Lib.hid d0
  go_loopw [4, 5] (fun v i wr => ∃ N : List Nat, N.length ≤ 4 ∧ i = .int .i64 ((3 + N.length : Nat) : Int) ∧ Hid (wr.ownsRow w0.heap.size 3 1 v N.length (N.map natV) ∧ Below w0.heap.size w0 wr ∧ ∀ q (h : q < N.length), numOf (X.getD q []) = some N[q])) (fun _ i _ => 7 - (intOf i).toNat)
  case atStart => exact ⟨[], by simp, rfl, Lib.hid ⟨World.ownsRow_nil _ _ _ _, Below.refl _ _, fun q h => by cases h⟩⟩
  case round =>
    obtain ⟨N, hN, rfl, H⟩ := hrel
    obtain ⟨hown, hbx, hall⟩ := H.out
    clear H
    have hbw := Lib.hid (below_trans hBH.out hbx)
    have hbrr := Lib.hid (heap_below hbx hbr.out)
    have hall := Lib.hid hall
    by_cases hlt : N.length < 4
    · have hc := cell_below hbx (hX.out _ hlt)
      rw [Nat.add_assoc] at hc
      have hxl := hXl.out _ hlt
      have hno := Lib.hid (hnone.out _ hlt)
      have hget := Lib.hid (fun n (h : numOf (X.getD N.length []) = some n) => show ∀ q (hq : q < (N ++ [n]).length), numOf (X.getD q []) = some (N ++ [n])[q] from fun q hq => by
        by_cases hqn : q < N.length
        · rw [List.getElem_append_left hqn]; exact hall.out q hqn
        · have : q = N.length := by simp at hq; omega
          subst this
          rw [List.getElem_append_right (Nat.le_refl _)]
          simpa using h)
      generalize X.getD N.length [] = xj at *
      have hnj := hnu.out xj hxl wr
      rw [bs_list] at hnj
      have hnj := Lib.hid hnj
      have hown := Lib.hid hown
      have hbx := Lib.hid hbx
      clear hall
      cases hq : numOf xj with
      | none =>
        have hr := Lib.hid (hno.out hq)
        have hres := Lib.hid (show numR xj 9999999999 = -1 by unfold numR; rw [hq])
        clear hq
        rw [hres.out] at hnj
        obtain ⟨⟨r0, r1, r2, r3, r4, r5⟩, f0, f1, f2, f3, f4, f5⟩ := tick_kept (Below.refl _ _) hbrr.out
        have hfin := Lib.hid (below_set6 (n := w.heap.size) hbw.out (Nat.le_refl _) (.string ⟨#[]⟩) (.string ⟨#[]⟩) (.int .i64 0) (.int .i64 0) (.int .i64 0) (.int .i64 0))
        go_wp2_with fail
        refine hnj.out.mono ?_
        rintro e w2 ⟨rfl, rfl⟩
        go_wp2_with fail
        obtain ⟨⟨q0, q1, q2, q3, q4, q5⟩, _⟩ := tick_kept (Below.refl _ _) (row_set6 hbrr.out (.string ⟨#[]⟩) (.string ⟨#[]⟩) (.int .i64 0) (.int .i64 0) (.int .i64 0) (.int .i64 0))
        exact bodyPost_ret (v := .tuple #[.agg #[.string ⟨#[]⟩, .string ⟨#[]⟩, .int .i64 0, .int .i64 0, .int .i64 0, .int .i64 0], .int .i64 1]) (by simp [results, Tryz.results124, go_sem, q0, q1, q2, q3, q4, q5]) rfl ⟨by rw [hr.out]; rfl, hfin.out⟩
      | some n =>
        have hget := Lib.hid (hget.out n hq)
        have hres := Lib.hid (show numR xj 9999999999 = (n : Int) by rw [numR_number, number_some hq]; rfl)
        clear hq hno
        rw [hres.out] at hnj
        have hn0 : (0 : Int) ≤ (n : Int) := by omega
        go_wp2_with fail
        refine hnj.out.mono ?_
        rintro e w2 ⟨rfl, hw2⟩
        subst hw2
        have hown2 := hown.out
        have hb2 := hbx
        clear hc
        go_wp2_with (at_builtin; refine wpList_append_own_at _ rfl _ _ 148 rfl w0.heap.size 3 i0 (.int .i64 0) 1 8 Tryz.underlying148 hi hz0 hz1 hz2 rfl (by decide) _ _ _ rfl (hown2.alloc _) ⟨wr.heap.size, 0, none⟩ 1 1 [.int .i64 (n : Int)] rfl rfl (cell_one_new _ _ _) (fun u hu => by simp at hu; subst hu; rfl) ?c3 ?c4 ?c5 ?_)
        case c3 => unfold maxLen; omega
        case c4 => omega
        case c5 => have := hb2.out.size; simp; omega
        intro v' w3 hown' hgrow _ _
        have hb3 := Lib.hid ((hb2.out.alloc hb2.out.size _).grown hgrow (by have := hb2.out.size; simp; omega) (fun k hk => (hown2.lt k hk).1))
        have hown3 := Lib.hid (show w3.ownsRow w0.heap.size 3 1 v' (N ++ [n]).length ((N ++ [n]).map natV) from by rw [List.map_append, List.length_append]; exact hown')
        clear hown' hgrow hown2
        go_wp2_with fail
        go_roundw
        case rel => exact ⟨N ++ [n], by simp; omega, by simp; omega, Lib.hid ⟨hown3.out, hb3.out, hget.out⟩⟩
        case measure => simp [intOf]; omega
    · have hN4 : N.length = 4 := by omega
      obtain ⟨n0, n1, n2, n3, rfl⟩ := four_of' hN4
      clear hlt hN hN4
      have h0 := hall.out 0 (by simp)
      have h1 := hall.out 1 (by simp)
      have h2 := hall.out 2 (by simp)
      have h3 := hall.out 3 (by simp)
      rw [← hXd.out] at h0 h1 h2 h3
      have hof := Lib.hid (fun ha => hsome.out n0 n1 n2 n3 ha h0 h1 h2 h3)
      have e0 := cell_below hbx d0.out
      clear h0 h1 h2 h3
      have hown : wr.ownsRow w0.heap.size 3 1 _ 4 [.int .i64 (n0 : Int), .int .i64 (n1 : Int), .int .i64 (n2 : Int), .int .i64 (n3 : Int)] := hown
      obtain ⟨_, ⟨_, h0⟩ | ⟨g, cg, cur, rfl, hgb, hg, hgc, _, _, htake⟩⟩ := hown
      · exact absurd h0 (by decide)
      have hcg : ∀ q u, q < 4 → [Value.int .i64 (n0 : Int), .int .i64 (n1 : Int), .int .i64 (n2 : Int), .int .i64 (n3 : Int)][q]? = some u → wr.cell? ⟨g, q, none⟩ = some u := fun q u hq hu => by
        rw [cell_of_row wr g q _ _ _ hg, ← Array.getElem?_toList]
        have h4 : (cur.toList.take (4 * 1))[q]? = some u := by rw [htake]; exact hu
        rwa [List.getElem?_take, if_pos (by omega)] at h4
      have k0 := hcg 0 _ (by decide) rfl
      have k1 := hcg 1 _ (by decide) rfl
      have k2 := hcg 2 _ (by decide) rfl
      have k3 := hcg 3 _ (by decide) rfl
      have m1 := cell_below hbx d1.out
      have m2 := cell_below hbx d2.out
      have hbx := Lib.hid hbx
      have hwlt : w.heap.size < wr.heap.size := by have := hbx.out.size; have := hsz0H.out; omega
      clear hcg hg htake hall
      by_cases ha : a0 = ticketW
      case neg =>
        have hr := Lib.hid (hbad.out ha)
        have hne0 : ((bs a0).toList == [116, 105, 99, 107, 101, 116]) = false := by rw [toList_data, bs_list, beq_eq_false_iff_ne]; exact ha
        have hne : ((bs a0).toList != [116, 105, 99, 107, 101, 116]) = true := by rw [bne, hne0]; rfl
        obtain ⟨⟨r0, r1, r2, r3, r4, r5⟩, f0, f1, f2, f3, f4, f5⟩ := tick_kept (Below.refl _ _) hbrr.out
        have hfin := Lib.hid (below_set6 (n := w.heap.size) hbw.out (Nat.le_refl _) (.string ⟨#[]⟩) (.string ⟨#[]⟩) (.int .i64 0) (.int .i64 0) (.int .i64 0) (.int .i64 0))
        clear ha k0 k1 k2 k3 m1 m2
        go_wp2_with fail
        obtain ⟨⟨q0, q1, q2, q3, q4, q5⟩, _⟩ := tick_kept (Below.refl _ _) (row_set6 hbrr.out (.string ⟨#[]⟩) (.string ⟨#[]⟩) (.int .i64 0) (.int .i64 0) (.int .i64 0) (.int .i64 0))
        exact bodyPost_ret (v := .tuple #[.agg #[.string ⟨#[]⟩, .string ⟨#[]⟩, .int .i64 0, .int .i64 0, .int .i64 0, .int .i64 0], .int .i64 1]) (by simp [results, Tryz.results124, go_sem, q0, q1, q2, q3, q4, q5]) rfl ⟨by rw [hr.out]; rfl, hfin.out⟩
      have hof := Lib.hid (hof.out ha)
      have hne0 : ((bs a0).toList == [116, 105, 99, 107, 101, 116]) = true := by rw [toList_data, ha]; rfl
      have hne : ((bs a0).toList != [116, 105, 99, 107, 101, 116]) = false := by rw [bne, hne0]; rfl
      clear ha
      go_wp2_with fail
      have eb : wr.heap.size ≠ b := World.new_ne wr ⟨b, o + 1, none⟩ m1
      have eg : wr.heap.size ≠ g := World.new_ne wr ⟨g, 0, none⟩ k0
      go_region_held3 (fun w' => w'.cell? ⟨b, o + 1, none⟩ = some (.string (bs a1)) ∧ w'.cell? ⟨b, o + 2, none⟩ = some (.string (bs a2)) ∧ w'.cell? ⟨g, 0, none⟩ = some (.int .i64 (n0 : Int)) ∧ w'.cell? ⟨g, 1, none⟩ = some (.int .i64 (n1 : Int)) ∧ w'.cell? ⟨g, 2, none⟩ = some (.int .i64 (n2 : Int)) ∧ w'.cell? ⟨g, 3, none⟩ = some (.int .i64 (n3 : Int))) (go_keep) (first | fail)
      have hTl : TickLen ⟨a1, a2, n0, n1, n2, n3⟩ := ⟨by unfold maxLen; show a1.length ≤ _; omega, by unfold maxLen; show a2.length ≤ _; omega⟩
      have hnewB : Below wr.heap.size wr ((wr.alloc (.cells #[.string (bs a1), .string (bs a2), .int .i64 (n0 : Int), .int .i64 (n1 : Int), .int .i64 (n2 : Int), .int .i64 (n3 : Int)] 51)).drew) := ((Below.refl _ _).alloc (Nat.le_refl _) _).drew
      have hB4 := Lib.hid (below_trans hbw.out hnewB)
      have hck := Lib.hid (errR_tick ⟨a1, a2, n0, n1, n2, n3⟩ ((wr.alloc (.cells #[.string (bs a1), .string (bs a2), .int .i64 (n0 : Int), .int .i64 (n1 : Int), .int .i64 (n2 : Int), .int .i64 (n3 : Int)] 51)).drew) hTl)
      have hrr4 := Lib.hid (heap_below hnewB hbrr.out)
      have hrt4 := Lib.hid (show ((wr.alloc (.cells #[.string (bs a1), .string (bs a2), .int .i64 (n0 : Int), .int .i64 (n1 : Int), .int .i64 (n2 : Int), .int .i64 (n3 : Int)] 51)).drew).heap[wr.heap.size]? = _ from heap_alloc_new wr _)
      generalize tickErr ⟨a1, a2, n0, n1, n2, n3⟩ = d at *
      clear hnewB m1 m2 k0 k1 k2 k3 eb eg
      dsimp only [Tick.val] at hck
      cases d with
      | succ d =>
        have hr := Lib.hid (hof.out.trans (show _ = (noTick, d + 1) from rfl))
        go_wp2_with fail
        refine hck.out.mono ?_
        rintro e w2 ⟨rfl, hb2⟩
        have hrr2 := Lib.hid (heap_below hb2 hrr4.out)
        have hb2 := Lib.hid (below_trans hB4.out hb2)
        obtain ⟨⟨r0, r1, r2, r3, r4, r5⟩, f0, f1, f2, f3, f4, f5⟩ := tick_kept (Below.refl _ _) hrr2.out
        have hfin := Lib.hid (below_set6 (n := w.heap.size) hb2.out (Nat.le_refl _) (.string ⟨#[]⟩) (.string ⟨#[]⟩) (.int .i64 0) (.int .i64 0) (.int .i64 0) (.int .i64 0))
        go_wp2_with fail
        obtain ⟨⟨q0, q1, q2, q3, q4, q5⟩, _⟩ := tick_kept (Below.refl _ _) (row_set6 hrr2.out (.string ⟨#[]⟩) (.string ⟨#[]⟩) (.int .i64 0) (.int .i64 0) (.int .i64 0) (.int .i64 0))
        exact bodyPost_ret (v := .tuple #[.agg #[.string ⟨#[]⟩, .string ⟨#[]⟩, .int .i64 0, .int .i64 0, .int .i64 0, .int .i64 0], .int .i64 ((d + 1 : Nat) : Int)]) (by simp [results, Tryz.results124, go_sem, q0, q1, q2, q3, q4, q5]) rfl ⟨by rw [hr.out]; try rfl, hfin.out⟩
      | zero =>
        have hr := Lib.hid (hof.out.trans (show _ = ((⟨a1, a2, n0, n1, n2, n3⟩ : Tick), 0) from rfl))
        go_wp2_with fail
        refine hck.out.mono ?_
        rintro e w2 ⟨rfl, hb2⟩
        have hrr2 := Lib.hid (heap_below hb2 hrr4.out)
        have hrt2 := Lib.hid (heap_below hb2 hrt4.out)
        have hb2 := Lib.hid (below_trans hB4.out hb2)
        obtain ⟨⟨r0, r1, r2, r3, r4, r5⟩, f0, f1, f2, f3, f4, f5⟩ := tick_kept (Below.refl _ _) hrr2.out
        obtain ⟨⟨b0, b1, b2, b3, b4, b5⟩, _⟩ := tick_kept (Below.refl _ _) hrt2.out
        have hfin := Lib.hid (below_set6 (n := w.heap.size) hb2.out (Nat.le_refl _) (.string (bs a1)) (.string (bs a2)) (.int .i64 (n0 : Int)) (.int .i64 (n1 : Int)) (.int .i64 (n2 : Int)) (.int .i64 (n3 : Int)))
        go_wp2_with fail
        obtain ⟨⟨q0, q1, q2, q3, q4, q5⟩, _⟩ := tick_kept (Below.refl _ _) (row_set6 hrr2.out (.string (bs a1)) (.string (bs a2)) (.int .i64 (n0 : Int)) (.int .i64 (n1 : Int)) (.int .i64 (n2 : Int)) (.int .i64 (n3 : Int)))
        exact bodyPost_ret (v := .tuple #[.agg #[.string (bs a1), .string (bs a2), .int .i64 (n0 : Int), .int .i64 (n1 : Int), .int .i64 (n2 : Int), .int .i64 (n3 : Int)], .int .i64 0]) (by simp [results, Tryz.results124, go_sem, q0, q1, q2, q3, q4, q5]) rfl ⟨by rw [hr.out]; try rfl, hfin.out⟩
set_option maxHeartbeats 1000000 in
set_option maxRecDepth 100000 in
theorem openR_tick (k : Int) (s : ByteArray) (w : World) (hs : s.size ≤ 1000000) :
    Calls Tryz.prog 83 #[.int .i64 k, .string s] w fun e w' => e = .returned (.tuple #[(openT k s.data.toList).1.val, .int .i64 ((openT k s.data.toList).2 : Nat)]) ∧ Below w.heap.size w w' := by
  have hB : Below w.heap.size w (w.alloc (.cells #[.string ⟨#[]⟩, .string ⟨#[]⟩, .int .i64 0, .int .i64 0, .int .i64 0, .int .i64 0] 51)) := (Below.refl _ _).alloc (Nat.le_refl _) _
  have hbr := Lib.hid (heap_alloc_new w (.cells #[.string ⟨#[]⟩, .string ⟨#[]⟩, .int .i64 0, .int .i64 0, .int .i64 0, .int .i64 0] 51))
  have hso := Lib.hid (openR_any k s (w.alloc (.cells #[.string ⟨#[]⟩, .string ⟨#[]⟩, .int .i64 0, .int .i64 0, .int .i64 0, .int .i64 0] 51)) hs)
  have hof := Lib.hid (fun v wx (hv : TextsAt wx v (openOf k s.data.toList).1) => ofR_tick v (openOf k s.data.toList).1 wx hv (fun x hx => by
    have := open_words_len k s.data.toList x hx
    have hl : s.data.toList.length = s.size := Array.length_toList
    omega))
  have hr0 : openT k s.data.toList = if (openOf k s.data.toList).2 = 0 then ofWords (openOf k s.data.toList).1 else (noTick, (openOf k s.data.toList).2) := rfl
  generalize openT k s.data.toList = p at *
  generalize (openOf k s.data.toList).1 = W at *
  generalize (openOf k s.data.toList).2 = c at *
  cases c with
  | succ c =>
    have hr := Lib.hid (hr0.trans (show _ = (noTick, c + 1) from rfl))
    clear hr0
    go_enter Tryz.func83, Tryz.ntmps83
    go_wp2_with fail
    refine hso.out.mono ?_
    rintro e w1 ⟨v, rfl, _, hb⟩
    have hrr1 := Lib.hid (heap_below hb hbr.out)
    have hb := Lib.hid (below_trans hB hb)
    obtain ⟨⟨r0, r1, r2, r3, r4, r5⟩, f0, f1, f2, f3, f4, f5⟩ := tick_kept (Below.refl _ _) hrr1.out
    have hfin := Lib.hid (below_set6 (n := w.heap.size) hb.out (Nat.le_refl _) (.string ⟨#[]⟩) (.string ⟨#[]⟩) (.int .i64 0) (.int .i64 0) (.int .i64 0) (.int .i64 0))
    go_wp2_with fail
    obtain ⟨⟨q0, q1, q2, q3, q4, q5⟩, _⟩ := tick_kept (Below.refl _ _) (row_set6 hrr1.out (.string ⟨#[]⟩) (.string ⟨#[]⟩) (.int .i64 0) (.int .i64 0) (.int .i64 0) (.int .i64 0))
    exact bodyPost_ret (v := .tuple #[.agg #[.string ⟨#[]⟩, .string ⟨#[]⟩, .int .i64 0, .int .i64 0, .int .i64 0, .int .i64 0], .int .i64 ((c + 1 : Nat) : Int)]) (by simp [results, Tryz.results83, go_sem, q0, q1, q2, q3, q4, q5]) rfl ⟨by rw [hr.out]; try rfl, hfin.out⟩
  | zero =>
    have hr := Lib.hid (hr0.trans (show _ = ofWords W from rfl))
    clear hr0
    generalize ofWords W = q at *
    obtain ⟨⟨who, svc, ep, bg, fn, sr⟩, cd⟩ := q
    dsimp only [Tick.val] at hof
    go_enter Tryz.func83, Tryz.ntmps83
    go_wp2_with fail
    refine hso.out.mono ?_
    rintro e w1 ⟨v, rfl, hv, hb⟩
    have hrr1 := Lib.hid (heap_below hb hbr.out)
    have hb := Lib.hid (below_trans hB hb)
    have hof := Lib.hid (hof.out v w1 hv)
    clear hv
    go_wp2_with fail
    refine hof.out.mono ?_
    rintro e w2 ⟨rfl, hb2⟩
    have hrr2 := Lib.hid (heap_below hb2 hrr1.out)
    have hb2 := Lib.hid (below_trans hb.out hb2)
    obtain ⟨⟨r0, r1, r2, r3, r4, r5⟩, f0, f1, f2, f3, f4, f5⟩ := tick_kept (Below.refl _ _) hrr2.out
    have hfin := Lib.hid (below_set6 (n := w.heap.size) hb2.out (Nat.le_refl _) (.string (bs who)) (.string (bs svc)) (.int .i64 ep) (.int .i64 bg) (.int .i64 fn) (.int .i64 sr))
    go_wp2_with fail
    obtain ⟨⟨q0, q1, q2, q3, q4, q5⟩, _⟩ := tick_kept (Below.refl _ _) (row_set6 hrr2.out (.string (bs who)) (.string (bs svc)) (.int .i64 ep) (.int .i64 bg) (.int .i64 fn) (.int .i64 sr))
    exact bodyPost_ret (v := .tuple #[.agg #[.string (bs who), .string (bs svc), .int .i64 ep, .int .i64 bg, .int .i64 fn, .int .i64 sr], .int .i64 (cd : Int)]) (by simp [results, Tryz.results83, go_sem, q0, q1, q2, q3, q4, q5]) rfl ⟨by rw [hr.out]; try rfl, hfin.out⟩

end Go.Proofs.YtkhphdkjnpcnnaaGreatDoor

/- The reference's tickets: TicketText. -/
attribute [local go_sem ↓] Go.wp_at_zero Go.wp_at_succ
namespace Go.Proofs.YtkhphdkjnpcnnaaGreatDoor
open Go.RowKit Go.Maps

theorem seven_at (w : World) (x1 x2 x3 x4 x5 x6 : List UInt8) : TextsAt (w.alloc (.cells #[.string ⟨#[116, 105, 99, 107, 101, 116]⟩, .string (bs x1), .string (bs x2), .string (bs x3), .string (bs x4), .string (bs x5), .string (bs x6)] 9)) (.slice (some ⟨w.heap.size, 0, none⟩) 7 7) [ticketW, x1, x2, x3, x4, x5, x6] := by
  refine ⟨_, _, rfl, by show 7 ≤ maxLen; unfold maxLen; decide, Nat.le_refl _, fun i hi => ⟨w.heap.size, 0, rfl, ?_⟩⟩
  have hi : i < 7 := hi
  rw [Nat.zero_add, World.cell?_alloc_new]
  match i, hi with
  | 0, _ => rfl
  | 1, _ => rfl
  | 2, _ => rfl
  | 3, _ => rfl
  | 4, _ => rfl
  | 5, _ => rfl
  | 6, _ => rfl
theorem seven_at2 (w : World) (o : Obj) (x1 x2 x3 x4 x5 x6 : List UInt8) : TextsAt ((w.alloc o).alloc (.cells #[.string ⟨#[116, 105, 99, 107, 101, 116]⟩, .string (bs x1), .string (bs x2), .string (bs x3), .string (bs x4), .string (bs x5), .string (bs x6)] 9)) (.slice (some ⟨w.heap.size + 1, 0, none⟩) 7 7) [ticketW, x1, x2, x3, x4, x5, x6] := by
  have h := seven_at (w.alloc o) x1 x2 x3 x4 x5 x6
  rw [World.size_alloc] at h
  exact h
theorem heap_drew1 (w : World) : w.drew.heap = w.heap := rfl
theorem hd1 {w w' : World} {o : Obj} (hb : Below (w.alloc o).heap.size (w.alloc o) w') : w'.heap[w.heap.size]? = some o := heap_down hb (heap_alloc_new w o)
theorem hd4 {w w' : World} {o : Obj} (hb : Below (w.alloc o).drew.heap.size (w.alloc o).drew w') : w'.heap[w.heap.size]? = some o := heap_down hb (show (w.alloc o).heap[w.heap.size]? = some o from heap_alloc_new w o)
theorem hd2 {w w' : World} {o x : Obj} {n : Nat} (hb : Below (w.alloc o).heap.size (w.alloc o) w') (h : w.heap[n]? = some x) : w'.heap[n]? = some x := heap_down hb (heap_down ((Below.refl _ _).alloc (Nat.le_refl _) _) h)
theorem hd3 {w w' : World} {o x : Obj} (hb : Below ((w.alloc o).alloc x).heap.size ((w.alloc o).alloc x) w') : w'.heap[w.heap.size]? = some o := hd2 hb (heap_alloc_new w o)
set_option maxHeartbeats 4000000 in
set_option maxRecDepth 100000 in
theorem textR_tick (k : Int) (t : Tick) (w : World) (hl : TickLen t) :
    Calls Tryz.prog 82 #[.int .i64 k, t.val] w fun e w' => e = .returned (.tuple #[.string (bs (makeT k t).1), .int .i64 ((makeT k t).2 : Nat)]) ∧ Below w.heap.size w w' := by
  have hB : Below w.heap.size w (w.alloc (.cells t.cells 51)) := (Below.refl _ _).alloc (Nat.le_refl _) _
  have hbt := Lib.hid (heap_alloc_new w (.cells t.cells 51))
  have hck := Lib.hid (errR_tick t (w.alloc (.cells t.cells 51)) hl)
  have hmk : makeT k t = if isKey k = true then (if tickErr t = 0 then (sealText k (tickWords t), 0) else ([], tickErr t)) else ([], 10) := rfl
  generalize hp : makeT k t = p at *
  clear hp
  by_cases hk : isKey k = true
  case neg =>
    have hr := Lib.hid (hmk.trans (if_neg hk))
    have hk : isKey k = false := by simpa using hk
    obtain ⟨who, svc, ep, bg, fn, sr⟩ := t
    dsimp only [Tick.val, Tick.cells] at *
    clear hmk
    go_enter Tryz.func82, Tryz.ntmps82
    go_wp2_with (go_at_call 35; refine (isKey_any _ _).mono ?_; rintro e w' ⟨rfl, rfl⟩)
    go_ret2
    exact ⟨by rw [hr.out]; rfl, hB⟩
  have hmk := hmk.trans (if_pos hk)
  cases hte : tickErr t with
  | succ c =>
    have hr := Lib.hid (show p = ([], c + 1) by rw [hmk, if_neg (by rw [hte]; exact Nat.succ_ne_zero c), hte])
    rw [hte] at hck
    clear hmk hte
    obtain ⟨who, svc, ep, bg, fn, sr⟩ := t
    dsimp only [Tick.val, Tick.cells] at *
    go_enter Tryz.func82, Tryz.ntmps82
    go_wp2_with (go_at_call 35; refine (isKey_any _ _).mono ?_; rintro e w' ⟨rfl, rfl⟩)
    refine hck.out.mono ?_
    rintro e w1 ⟨rfl, hb⟩
    have hbH := Lib.hid (below_trans hB hb)
    clear hb
    go_wp2_with fail
    go_ret2
    exact ⟨by rw [hr.out]; rfl, hbH.out⟩
  | zero =>
  have hr := Lib.hid (show p = (sealText k (tickWords t), 0) by rw [hmk, if_pos hte])
  have hmo := make_of hk (W := tickWords t) (by rw [tickWords_len]; decide) (by rw [tickWords_len]; decide) (tickWords_words hte)
  have hse := fun wx v (hv : TextsAt wx v (tickWords t)) => sealR_any k v (tickWords t) wx hv (fun x hx => by
    have := ((isWord_iff x).1 (tickWords_words hte x hx)).2.1
    unfold maxLen
    omega)
  rw [hmo] at hse
  unfold sealV faultV at hse
  obtain ⟨_, _, hnum⟩ := tickErr_zero hte
  obtain ⟨⟨a1, a2⟩, ⟨d1, d2⟩, ⟨e1, e2⟩, f1, f2⟩ := (tickNum_iff t).1 hnum
  have hdec := Lib.hid (fun (n : Int) (h : 0 ≤ n ∧ n ≤ 1073741824) wx => decimal_any n wx (by omega) (by omega))
  have ge : 0 ≤ t.epoch ∧ t.epoch ≤ 1073741824 := by omega
  have gb : 0 ≤ t.beg ∧ t.beg ≤ 1073741824 := by omega
  have gf : 0 ≤ t.fin ∧ t.fin ≤ 1073741824 := by omega
  have gs : 0 ≤ t.serial ∧ t.serial ≤ 1073741824 := by omega
  have htw : tickWords t = [ticketW, t.who, t.svc, Lib.itoa t.epoch, Lib.itoa t.beg, Lib.itoa t.fin, Lib.itoa t.serial] := rfl
  rw [htw] at hse hr
  rw [hte] at hck
  clear hmk hte hnum a1 a2 d1 d2 e1 e2 f1 f2 hmo htw
  obtain ⟨who, svc, ep, bg, fn, sr⟩ := t
  dsimp only [Tick.val, Tick.cells] at *
  generalize sealText k [ticketW, who, svc, Lib.itoa ep, Lib.itoa bg, Lib.itoa fn, Lib.itoa sr] = T at *
  have hseH := Lib.hid hse
  clear hse hl
  go_enter Tryz.func82, Tryz.ntmps82
  go_wp2_with (go_at_call 35; refine (isKey_any _ _).mono ?_; rintro e w' ⟨rfl, rfl⟩)
  refine hck.out.mono ?_
  rintro e w1 ⟨rfl, hb⟩
  obtain ⟨⟨b0, b1, b2, b3, b4, b5⟩, _⟩ := tick_kept hb hbt.out
  have hbH := Lib.hid (below_trans hB hb)
  have hk6 := Lib.hid (fun (wx : World) (hx : Below w1.heap.size w1 wx) => (show Below w1.heap.size w1 wx ∧ wx.cell? ⟨w.heap.size, 0, none⟩ = some (.string (bs who)) ∧ wx.cell? ⟨w.heap.size, 1, none⟩ = some (.string (bs svc)) ∧ wx.cell? ⟨w.heap.size, 2, none⟩ = some (.int .i64 ep) ∧ wx.cell? ⟨w.heap.size, 3, none⟩ = some (.int .i64 bg) ∧ wx.cell? ⟨w.heap.size, 4, none⟩ = some (.int .i64 fn) ∧ wx.cell? ⟨w.heap.size, 5, none⟩ = some (.int .i64 sr) from ⟨hx, cell_below hx b0, cell_below hx b1, cell_below hx b2, cell_below hx b3, cell_below hx b4, cell_below hx b5⟩))
  have hS : Below w1.heap.size w1 w1 := Below.refl _ _
  have hBH := Lib.hid hB
  clear hB hb
  go_upto_region 7 with fail
  go_cut [8, 9] from 19 to 40 (fun s8 s9 wx => s8 = .string (bs T) ∧ ∃ n, s9 = .pointer (some ⟨n, 0, none⟩) ∧ Hid (wx.cell? ⟨n, 0, none⟩ = some (.int .i64 0)) ∧ Hid (Below w.heap.size w wx))
  case first =>
    clear hck hbt
    have hF : True := trivial
    go_region_held3 (fun w' => Below w1.heap.size w1 w' ∧ w'.cell? ⟨w.heap.size, 0, none⟩ = some (.string (bs who)) ∧ w'.cell? ⟨w.heap.size, 1, none⟩ = some (.string (bs svc)) ∧ w'.cell? ⟨w.heap.size, 2, none⟩ = some (.int .i64 ep) ∧ w'.cell? ⟨w.heap.size, 3, none⟩ = some (.int .i64 bg) ∧ w'.cell? ⟨w.heap.size, 4, none⟩ = some (.int .i64 fn) ∧ w'.cell? ⟨w.heap.size, 5, none⟩ = some (.int .i64 sr))
      ((refine hk6.out _ ?_; (first | exact hS | exact below_set2 hS (by omega) _ _ | exact hS.drew | exact hS.alloc hS.size _ | exact (hS.alloc hS.size _).drew | exact hS.drew.alloc hS.drew.size _ | exact (hS.alloc hS.size _).alloc (hS.alloc hS.size _).size _ | exact (hS.drew.alloc hS.drew.size _).drew | exact ((hS.alloc hS.size _).drew.alloc (hS.alloc hS.size _).drew.size _))))
      (first | (go_at_call 25; refine (hdec.out _ (by first | with_reducible exact ge | with_reducible exact gb | with_reducible exact gf | with_reducible exact gs) _).mono ?_; rintro e w' ⟨rfl, hbx⟩; have hS : Below w1.heap.size w1 w' := below_trans (by (first | exact hS | exact hS.drew | exact hS.alloc hS.size _ | exact (hS.alloc hS.size _).drew | exact hS.drew.alloc hS.drew.size _ | exact (hS.alloc hS.size _).alloc (hS.alloc hS.size _).size _ | exact (hS.drew.alloc hS.drew.size _).drew | exact ((hS.alloc hS.size _).drew.alloc (hS.alloc hS.size _).drew.size _))) hbx; have hz : w1.heap.size ≤ w'.heap.size := hS.size; (first | (have hF : w'.heap[_]? = some (Obj.cells #[Value.int .i64 0, Value.int .i64 0] 98 (0, 0)) := heap_down hbx hF) | (have hF : w'.heap[_]? = some (Obj.cells #[Value.int .i64 0, Value.int .i64 0] 98 (0, 0)) := hd1 hbx) | (have hF : w'.heap[_]? = some (Obj.cells #[Value.int .i64 0, Value.int .i64 0] 98 (0, 0)) := hd4 hbx) | skip)) | (go_at_call 95; refine (hseH.out _ _ ?_).mono ?_; (first | exact seven_at _ who svc (Lib.itoa ep) (Lib.itoa bg) (Lib.itoa fn) (Lib.itoa sr) | exact seven_at2 _ _ who svc (Lib.itoa ep) (Lib.itoa bg) (Lib.itoa fn) (Lib.itoa sr) | exact (seven_at _ who svc (Lib.itoa ep) (Lib.itoa bg) (Lib.itoa fn) (Lib.itoa sr)).below ((Below.refl _ _).alloc (Nat.le_refl _) _)); rintro e w' ⟨rfl, hbx⟩; have hS : Below w1.heap.size w1 w' := below_trans (by (first | exact hS | exact hS.drew | exact hS.alloc hS.size _ | exact (hS.alloc hS.size _).drew | exact hS.drew.alloc hS.drew.size _ | exact (hS.alloc hS.size _).alloc (hS.alloc hS.size _).size _ | exact (hS.drew.alloc hS.drew.size _).drew | exact ((hS.alloc hS.size _).drew.alloc (hS.alloc hS.size _).drew.size _))) hbx; have hz : w1.heap.size ≤ w'.heap.size := hS.size; (first | (have hF : w'.heap[_]? = some (Obj.cells #[Value.int .i64 0, Value.int .i64 0] 98 (0, 0)) := hd2 hbx hF) | (have hF : w'.heap[_]? = some (Obj.cells #[Value.int .i64 0, Value.int .i64 0] 98 (0, 0)) := hd3 hbx) | (have hF : w'.heap[_]? = some (Obj.cells #[Value.int .i64 0, Value.int .i64 0] 98 (0, 0)) := hd1 hbx) | skip); (first | (have hK2 := two_kept (Below.refl _ _) hF; (try simp only [World.size_alloc] at hK2); (try simp only [heap_drew1] at hK2); obtain ⟨⟨r0, r1⟩, f0, f1⟩ := hK2) | skip)))
    all_goals
      go_wp2_with fail
      go_meet
      have hHd := And.left (by assumption : Below w1.heap.size w1 _ ∧ _)
      refine ⟨rfl, _, rfl, Lib.hid ?_, Lib.hid (below_trans hbH.out (by assumption))⟩
      first
        | (simp; done)
        | (simp [r0, r1]; done)
        | (have h := (two_kept (Below.refl _ _) (row_set2 hF (.int .i64 0) (.int .i64 (-1)))).1.1
           (try simp only [World.size_alloc] at h)
           (try simp only [heap_drew1] at h)
           exact h)
  obtain ⟨rfl, n, rfl, hcell, hbc⟩ := hcut
  have hc := hcell.out
  go_wp2_with fail
  go_region
  all_goals
    go_wp2_with fail
    go_ret2
    exact ⟨by rw [hr.out]; rfl, hbc.out.drew⟩
end Go.Proofs.YtkhphdkjnpcnnaaGreatDoor
