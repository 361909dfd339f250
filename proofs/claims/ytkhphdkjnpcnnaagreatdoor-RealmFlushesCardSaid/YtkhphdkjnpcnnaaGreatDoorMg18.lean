/- TickW3, TickW4, Err -/
import Derived.Test.YtkhphdkjnpcnnaaGreatDoorMg16
import Derived.StillTailTactics
import Derived.Deep.RegionLaw
import Derived.Test.YtkhphdkjnpcnnaaGreatDoorMg12
import Derived.LaidEql
import Derived.Stop.Asserts
import Derived.RowKitTokens
/- The walks of package ticket: of by its contract. -/
namespace Go.Proofs.YtkhphdkjnpcnnaaGreatDoor
open Go.RowKit Go.Maps

theorem info_int : (Tryz.prog.info? 3).map (fun i => (i.zero, i.size, i.bytes)) = some (some (.int .i64 0), 1, 8) := by kernel_rfl
def natV (n : Nat) : Value := .int .i64 (n : Int)
theorem ofWords_len {W : List (List UInt8)} (h : W.length ≠ 7) : ofWords W = (noTick, 1) := by
  unfold ofWords
  split
  · exact absurd rfl h
  · rfl
theorem ofWords_first {a b c d e f g : List UInt8} (h : a ≠ ticketW) : ofWords [a, b, c, d, e, f, g] = (noTick, 1) := if_neg h
theorem ofWords_none {b c d e f g : List UInt8} {j : Nat} (hj : j < 4) (h : numOf ([d, e, f, g].getD j []) = none) : ofWords [ticketW, b, c, d, e, f, g] = (noTick, 1) := by
  unfold ofWords
  dsimp only
  rw [if_pos rfl]
  match j, hj with
  | 0, _ => have h : numOf d = none := h; rw [h]
  | 1, _ => have h : numOf e = none := h; rw [h]; cases numOf d <;> rfl
  | 2, _ => have h : numOf f = none := h; rw [h]; cases numOf d <;> cases numOf e <;> rfl
  | 3, _ => have h : numOf g = none := h; rw [h]; cases numOf d <;> cases numOf e <;> cases numOf f <;> rfl
theorem ofWords_some {b c d e f g : List UInt8} {n0 n1 n2 n3 : Nat} (h0 : numOf d = some n0) (h1 : numOf e = some n1) (h2 : numOf f = some n2) (h3 : numOf g = some n3) :
    ofWords [ticketW, b, c, d, e, f, g] = if tickErr ⟨b, c, n0, n1, n2, n3⟩ = 0 then (⟨b, c, n0, n1, n2, n3⟩, 0) else (noTick, tickErr ⟨b, c, n0, n1, n2, n3⟩) := by
  unfold ofWords
  dsimp only
  rw [if_pos rfl, h0, h1, h2, h3]
theorem number_some {l : List UInt8} {n : Nat} (h : numOf l = some n) : number l 9999999999 = ((n : Int), true) := by
  have hb : (n : Int) ≤ 9999999999 := by
    obtain ⟨hg, hl, hv, _⟩ := numOf_some h
    simp only [goodNum, Bool.and_eq_true, decide_eq_true_eq] at hg
    have hlt := decVal_lt l hg.1.1
    have hp : 10 ^ l.length ≤ 10 ^ 10 := Nat.pow_le_pow_right (by decide) hl
    have hb : decVal l < 10000000000 := Nat.lt_of_lt_of_le hlt hp
    omega
  unfold number
  rw [h]
  exact if_pos hb
theorem four_of' {α : Type} {l : List α} (h : l.length = 4) : ∃ a b c d, l = [a, b, c, d] := by
  match l, h with
  | [a, b, c, d], _ => exact ⟨a, b, c, d, rfl⟩
theorem seven_of {α : Type} {l : List α} (h : l.length = 7) : ∃ a b c d e f g, l = [a, b, c, d, e, f, g] := by
  match l, h with
  | [a, b, c, d, e, f, g], _ => exact ⟨a, b, c, d, e, f, g, rfl⟩
set_option maxHeartbeats 400000 in
set_option maxRecDepth 100000 in
theorem of_tick {E : Nat → Addr} (v : Value) (W : List (List UInt8)) (w : World) (hL : LaidS E w) (hv : TextsAt w v W) (hm : ∀ x ∈ W, x.length ≤ 1000000) :
    Calls Tryz.prog 55 #[v] w fun e w' => e = .returned (.tuple #[(ofWords W).1.val, errV E (ofWords W).2]) ∧ Below w.heap.size w w' := by
  have hB : Below w.heap.size w (w.alloc (.cells #[.string ⟨#[]⟩, .string ⟨#[]⟩, .int .i64 0, .int .i64 0, .int .i64 0, .int .i64 0] 51)) := (Below.refl _ _).alloc (Nat.le_refl _) _
  have he1 := (hL.below hB).laid.e1
  have hbr := Lib.hid (heap_alloc_new w (.cells #[.string ⟨#[]⟩, .string ⟨#[]⟩, .int .i64 0, .int .i64 0, .int .i64 0, .int .i64 0] 51))
  have hz6 := Lib.hid (row_set6 hbr.out (.string ⟨#[]⟩) (.string ⟨#[]⟩) (.int .i64 0) (.int .i64 0) (.int .i64 0) (.int .i64 0))
  have hzb := Lib.hid (below_set6 (n := w.heap.size) hB (Nat.le_refl _) (.string ⟨#[]⟩) (.string ⟨#[]⟩) (.int .i64 0) (.int .i64 0) (.int .i64 0) (.int .i64 0))
  simp only [errV] at he1
  by_cases hl : W.length = 7
  case neg =>
    have hr := Lib.hid (ofWords_len hl)
    obtain ⟨a, c, rfl, hlen, hcap, hcell⟩ := hv
    unfold maxLen at hlen
    clear hcell
    have hne : ((W.length : Int) != 7) = true := by rw [bne_iff_ne]; omega
    generalize ofWords W = p at *
    clear hl hm
    generalize W.length = m at *
    go_enter Tryz.func55, Tryz.ntmps55
    go_wp2_with fail
    go_region
    all_goals
      go_wp2_with fail
      exact bodyPost_ret (v := .tuple #[.agg #[.string ⟨#[]⟩, .string ⟨#[]⟩, .int .i64 0, .int .i64 0, .int .i64 0, .int .i64 0], errV E 1]) (by simp [results, Tryz.results55, go_sem, errV]) rfl ⟨by rw [hr.out]; rfl, hB.drew⟩
  obtain ⟨a0, a1, a2, a3, a4, a5, a6, rfl⟩ := seven_of hl
  clear hl
  obtain ⟨a, cap, rfl, _, hcap, hcell⟩ := hv
  have hcap : 7 ≤ cap := hcap
  obtain ⟨b, o, rfl, c0⟩ := hcell 0 (by simp)
  have c0 : w.cell? ⟨b, o, none⟩ = some (.string (bs a0)) := c0
  have hX := Lib.hid (show ∀ j, j < 4 → w.cell? ⟨b, o + 3 + j, none⟩ = some (.string (bs ([a3, a4, a5, a6].getD j []))) from fun j hj => by
    obtain ⟨b', o', he, hc⟩ := hcell (3 + j) (by simp; omega)
    cases he
    rw [Nat.add_assoc, hc]
    match j, hj with
    | 0, _ => rfl
    | 1, _ => rfl
    | 2, _ => rfl
    | 3, _ => rfl)
  have hXl := Lib.hid (show ∀ j, j < 4 → ([a3, a4, a5, a6].getD j []).length ≤ 1000000 from fun j hj => by
    match j, hj with
    | 0, _ => exact hm a3 (by simp)
    | 1, _ => exact hm a4 (by simp)
    | 2, _ => exact hm a5 (by simp)
    | 3, _ => exact hm a6 (by simp))
  have hl1 := hm a1 (by simp)
  have hl2 := hm a2 (by simp)
  have c1 : w.cell? ⟨b, o + 1, none⟩ = some (.string (bs a1)) := by obtain ⟨b', o', he, hc⟩ := hcell 1 (by simp); cases he; exact hc
  have c2 : w.cell? ⟨b, o + 2, none⟩ = some (.string (bs a2)) := by obtain ⟨b', o', he, hc⟩ := hcell 2 (by simp); cases he; exact hc
  have d0 := cell_below hB c0
  have d1 := Lib.hid (cell_below hB c1)
  have d2 := Lib.hid (cell_below hB c2)
  have hX := Lib.hid (fun j hj => cell_below hB (hX.out j hj))
  clear hcell c0 c1 c2 hm
  rw [show ([a0, a1, a2, a3, a4, a5, a6] : List (List UInt8)).length = 7 from rfl]
  by_cases ha : a0 = ticketW
  case neg =>
    have hr := Lib.hid (ofWords_first (b := a1) (c := a2) (d := a3) (e := a4) (f := a5) (g := a6) ha)
    generalize ofWords [a0, a1, a2, a3, a4, a5, a6] = p at *
    have hne0 : ((bs a0).toList == [116, 105, 99, 107, 101, 116]) = false := by rw [toList_data, bs_list, beq_eq_false_iff_ne]; exact ha
    have hne : ((bs a0).toList != [116, 105, 99, 107, 101, 116]) = true := by rw [bne, hne0]; rfl
    clear ha hX hXl hl1 hl2 d1 d2 hL hz6 hzb hbr
    go_enter Tryz.func55, Tryz.ntmps55
    go_wp2_with fail
    go_region
    all_goals
      go_wp2_with fail
      exact bodyPost_ret (v := .tuple #[.agg #[.string ⟨#[]⟩, .string ⟨#[]⟩, .int .i64 0, .int .i64 0, .int .i64 0, .int .i64 0], errV E 1]) (by simp [results, Tryz.results55, go_sem, errV]) rfl ⟨by rw [hr.out]; rfl, hB.drew⟩
  subst ha
  have hne0 : ((bs ticketW).toList == [116, 105, 99, 107, 101, 116]) = true := by rw [toList_data]; rfl
  have hne : ((bs ticketW).toList != [116, 105, 99, 107, 101, 116]) = false := by rw [bne, hne0]; rfl
  generalize bs ticketW = tkb at *
  have hnone := Lib.hid (fun j (hj : j < 4) h => ofWords_none (b := a1) (c := a2) (d := a3) (e := a4) (f := a5) (g := a6) hj h)
  have hsome := Lib.hid (fun n0 n1 n2 n3 h0 h1 h2 h3 => ofWords_some (b := a1) (c := a2) (d := a3) (e := a4) (f := a5) (g := a6) (n0 := n0) (n1 := n1) (n2 := n2) (n3 := n3) h0 h1 h2 h3)
  generalize ofWords [ticketW, a1, a2, a3, a4, a5, a6] = p at *
  obtain ⟨X, hXd⟩ : ∃ X, [a3, a4, a5, a6] = X := ⟨_, rfl⟩
  rw [hXd] at hX hXl hnone
  have hXd := Lib.hid hXd
  have hnu := Lib.hid (fun (l : List UInt8) (hl : l.length ≤ 1000000) wx (hx : Below w.heap.size w wx) => number_any (E := E) (bs l) 9999999999 wx (hL.below hx) (by rw [bs_size]; exact hl))
  obtain ⟨i0, hi, hz0, hz1, hz2⟩ := info_parts info_int
  have hBH := Lib.hid hB
  go_enter Tryz.func55, Tryz.ntmps55
  go_wp2_with fail
  have hsz0 : (w.alloc (.cells #[.string ⟨#[]⟩, .string ⟨#[]⟩, .int .i64 0, .int .i64 0, .int .i64 0, .int .i64 0] 51)).heap.size = w.heap.size + 1 := by simp
  clear hB he1 hz6 hzb
  generalize (w.alloc (.cells #[.string ⟨#[]⟩, .string ⟨#[]⟩, .int .i64 0, .int .i64 0, .int .i64 0, .int .i64 0] 51)) = w0 at *
  have hsz0H := Lib.hid hsz0
  clear hsz0 d0
  go_loopw [4, 25] (fun v i wr => ∃ N : List Nat, N.length ≤ 4 ∧ i = .int .i64 (N.length : Nat) ∧ Hid (wr.ownsRow w0.heap.size 3 1 v N.length (N.map natV) ∧ Below w0.heap.size w0 wr ∧ ∀ q (h : q < N.length), numOf (X.getD q []) = some N[q])) (fun _ i _ => 4 - (intOf i).toNat)
  case atStart => exact ⟨[], by simp, rfl, Lib.hid ⟨World.ownsRow_nil _ _ _ _, Below.refl _ _, fun q h => by cases h⟩⟩
  case round =>
    obtain ⟨N, hN, rfl, H⟩ := hrel
    obtain ⟨hown, hbx, hall⟩ := H.out
    clear H
    have hbw := Lib.hid (below_trans hBH.out hbx)
    have hbrr := Lib.hid (heap_below hbx hbr.out)
    have hall := Lib.hid hall
    by_cases hlt : N.length < 4
    · have hc := cell_below hbx (hX.out _ hlt)
      have hxl := hXl.out _ hlt
      have hno := Lib.hid (hnone.out _ hlt)
      have hget := Lib.hid (fun n (h : numOf (X.getD N.length []) = some n) => show ∀ q (hq : q < (N ++ [n]).length), numOf (X.getD q []) = some (N ++ [n])[q] from fun q hq => by
        by_cases hqn : q < N.length
        · rw [List.getElem_append_left hqn]; exact hall.out q hqn
        · have : q = N.length := by simp at hq; omega
          subst this
          rw [List.getElem_append_right (Nat.le_refl _)]
          simpa using h)
      generalize X.getD N.length [] = xj at *
      have hnj := hnu.out xj hxl wr hbw.out
      rw [bs_list] at hnj
      have hnj := Lib.hid hnj
      have hown := Lib.hid hown
      have hbx := Lib.hid hbx
      clear hall
      cases hq : numOf xj with
      | none =>
        have hr := Lib.hid (hno.out hq)
        have hres := Lib.hid (show numRes xj 9999999999 = .tuple #[.int .i64 0, .bool false] by unfold numRes; rw [number_none hq])
        clear hq
        go_wp2_with fail
        refine hnj.out.mono ?_
        rintro e w2 ⟨rfl, hb2⟩
        have hrr2 := Lib.hid (heap_below hb2 hbrr.out)
        have hb2 := Lib.hid (below_trans hbw.out hb2)
        have he1 := (hL.below hb2.out).laid.e1
        simp only [errV] at he1
        obtain ⟨⟨r0, r1, r2, r3, r4, r5⟩, f0, f1, f2, f3, f4, f5⟩ := tick_kept (Below.refl _ _) hrr2.out
        have hfin := Lib.hid (below_set6 (n := w.heap.size) hb2.out (Nat.le_refl _) (.string ⟨#[]⟩) (.string ⟨#[]⟩) (.int .i64 0) (.int .i64 0) (.int .i64 0) (.int .i64 0))
        rw [hres.out]
        have hg1 : 7 < w.heap.size := World.block_lt_of_cell? w _ hL.laid.e1
        have hg2 : ¬ (7 = w.heap.size) := by omega
        have hg3 : ¬ (w.heap.size = 7) := by omega
        clear hc
        go_wp2_with fail
        go_region
        all_goals
          go_wp2_with fail
          obtain ⟨⟨q0, q1, q2, q3, q4, q5⟩, _⟩ := tick_kept (Below.refl _ _) (row_set6 hrr2.out (.string ⟨#[]⟩) (.string ⟨#[]⟩) (.int .i64 0) (.int .i64 0) (.int .i64 0) (.int .i64 0))
          exact bodyPost_ret (v := .tuple #[.agg #[.string ⟨#[]⟩, .string ⟨#[]⟩, .int .i64 0, .int .i64 0, .int .i64 0, .int .i64 0], errV E 1]) (by simp [results, Tryz.results55, go_sem, errV, q0, q1, q2, q3, q4, q5]) rfl ⟨by rw [hr.out]; rfl, hfin.out.drew⟩
      | some n =>
        have hget := Lib.hid (hget.out n hq)
        have hres := Lib.hid (show numRes xj 9999999999 = .tuple #[.int .i64 (n : Int), .bool true] by unfold numRes; rw [number_some hq])
        clear hq hno
        go_wp2_with fail
        refine hnj.out.mono ?_
        rintro e w2 ⟨rfl, hb2⟩
        rw [hres.out]
        have hown2 := ownsRow_below hown.out hb2
        have hb2 := Lib.hid (hbx.out.trans (hb2.mono hbx.out.size))
        clear hc
        go_wp2_with (at_builtin; refine wpList_append_own_at _ rfl _ _ 148 rfl w0.heap.size 3 i0 (.int .i64 0) 1 8 Tryz.underlying148 hi hz0 hz1 hz2 rfl (by decide) _ _ _ rfl (hown2.alloc _) ⟨w2.heap.size, 0, none⟩ 1 1 [.int .i64 (n : Int)] rfl rfl (cell_one_new _ _ _) (fun u hu => by simp at hu; subst hu; rfl) ?c3 ?c4 ?c5 ?_)
        case c3 => unfold maxLen; omega
        case c4 => omega
        case c5 => have := hb2.out.size; simp; omega
        intro v' w3 hown' hgrow _ _
        have hb3 := Lib.hid ((hb2.out.alloc hb2.out.size _).grown hgrow (by have := hb2.out.size; simp; omega) (fun k hk => (hown2.lt k hk).1))
        have hown3 := Lib.hid (show w3.ownsRow w0.heap.size 3 1 v' (N ++ [n]).length ((N ++ [n]).map natV) from by rw [List.map_append, List.length_append]; exact hown')
        clear hown' hgrow hown2
        go_wp2_with fail
        go_roundw
        case rel => exact ⟨N ++ [n], by simp; omega, by simp, Lib.hid ⟨hown3.out, hb3.out, hget.out⟩⟩
        case measure => simp [intOf]; omega
    · have hN4 : N.length = 4 := by omega
      obtain ⟨n0, n1, n2, n3, rfl⟩ := four_of' hN4
      clear hlt hN hN4
      have h0 := hall.out 0 (by simp)
      have h1 := hall.out 1 (by simp)
      have h2 := hall.out 2 (by simp)
      have h3 := hall.out 3 (by simp)
      rw [← hXd.out] at h0 h1 h2 h3
      have hof := Lib.hid (hsome.out n0 n1 n2 n3 h0 h1 h2 h3)
      clear h0 h1 h2 h3
      have hown : wr.ownsRow w0.heap.size 3 1 _ 4 [.int .i64 (n0 : Int), .int .i64 (n1 : Int), .int .i64 (n2 : Int), .int .i64 (n3 : Int)] := hown
      obtain ⟨_, ⟨_, h0⟩ | ⟨g, cg, cur, rfl, hgb, hg, hgc, _, _, htake⟩⟩ := hown
      · exact absurd h0 (by decide)
      have hcg : ∀ q u, q < 4 → [Value.int .i64 (n0 : Int), .int .i64 (n1 : Int), .int .i64 (n2 : Int), .int .i64 (n3 : Int)][q]? = some u → wr.cell? ⟨g, q, none⟩ = some u := fun q u hq hu => by
        rw [cell_of_row wr g q _ _ _ hg, ← Array.getElem?_toList]
        have h4 : (cur.toList.take (4 * 1))[q]? = some u := by rw [htake]; exact hu
        rwa [List.getElem?_take, if_pos (by omega)] at h4
      have k0 := hcg 0 _ (by decide) rfl
      have k1 := hcg 1 _ (by decide) rfl
      have k2 := hcg 2 _ (by decide) rfl
      have k3 := hcg 3 _ (by decide) rfl
      have m1 := cell_below hbx d1.out
      have m2 := cell_below hbx d2.out
      have hbx := Lib.hid hbx
      have hwlt : w.heap.size < wr.heap.size := by have := hbx.out.size; have := hsz0H.out; omega
      clear hcg hg htake hall
      go_wp2_with fail
      have eb : wr.heap.size ≠ b := World.new_ne wr ⟨b, o + 1, none⟩ m1
      have eg : wr.heap.size ≠ g := World.new_ne wr ⟨g, 0, none⟩ k0
      go_region_held3 (fun w' => w'.cell? ⟨b, o + 1, none⟩ = some (.string (bs a1)) ∧ w'.cell? ⟨b, o + 2, none⟩ = some (.string (bs a2)) ∧ w'.cell? ⟨g, 0, none⟩ = some (.int .i64 (n0 : Int)) ∧ w'.cell? ⟨g, 1, none⟩ = some (.int .i64 (n1 : Int)) ∧ w'.cell? ⟨g, 2, none⟩ = some (.int .i64 (n2 : Int)) ∧ w'.cell? ⟨g, 3, none⟩ = some (.int .i64 (n3 : Int))) (go_keep) (first | fail)
      have hTl : TickLen ⟨a1, a2, n0, n1, n2, n3⟩ := ⟨by unfold maxLen; show a1.length ≤ _; omega, by unfold maxLen; show a2.length ≤ _; omega⟩
      have hnewB : Below wr.heap.size wr ((wr.alloc (.cells #[.string (bs a1), .string (bs a2), .int .i64 (n0 : Int), .int .i64 (n1 : Int), .int .i64 (n2 : Int), .int .i64 (n3 : Int)] 51)).drew) := ((Below.refl _ _).alloc (Nat.le_refl _) _).drew
      have hB4 := Lib.hid (below_trans hbw.out hnewB)
      have hck := Lib.hid (check_tick (E := E) ⟨a1, a2, n0, n1, n2, n3⟩ _ (hL.below hB4.out).laid hTl)
      have hrr4 := Lib.hid (heap_below hnewB hbrr.out)
      have hrt4 := Lib.hid (show ((wr.alloc (.cells #[.string (bs a1), .string (bs a2), .int .i64 (n0 : Int), .int .i64 (n1 : Int), .int .i64 (n2 : Int), .int .i64 (n3 : Int)] 51)).drew).heap[wr.heap.size]? = _ from heap_alloc_new wr _)
      generalize tickErr ⟨a1, a2, n0, n1, n2, n3⟩ = d at *
      clear hnewB m1 m2 k0 k1 k2 k3 eb eg
      dsimp only [Tick.val] at hck
      cases d with
      | succ d =>
        have hr := Lib.hid (hof.out.trans (show _ = (noTick, d + 1) from rfl))
        rw [errV_succ] at hck
        go_wp2_with fail
        refine hck.out.mono ?_
        rintro e w2 ⟨rfl, hb2⟩
        have hrr2 := Lib.hid (heap_below hb2 hrr4.out)
        have hb2 := Lib.hid (below_trans hB4.out hb2)
        obtain ⟨⟨r0, r1, r2, r3, r4, r5⟩, f0, f1, f2, f3, f4, f5⟩ := tick_kept (Below.refl _ _) hrr2.out
        have hfin := Lib.hid (below_set6 (n := w.heap.size) hb2.out (Nat.le_refl _) (.string ⟨#[]⟩) (.string ⟨#[]⟩) (.int .i64 0) (.int .i64 0) (.int .i64 0) (.int .i64 0))
        go_wp2_with fail
        obtain ⟨⟨q0, q1, q2, q3, q4, q5⟩, _⟩ := tick_kept (Below.refl _ _) (row_set6 hrr2.out (.string ⟨#[]⟩) (.string ⟨#[]⟩) (.int .i64 0) (.int .i64 0) (.int .i64 0) (.int .i64 0))
        exact bodyPost_ret (v := .tuple #[.agg #[.string ⟨#[]⟩, .string ⟨#[]⟩, .int .i64 0, .int .i64 0, .int .i64 0, .int .i64 0], errV E (d + 1)]) (by simp [results, Tryz.results55, go_sem, errV, q0, q1, q2, q3, q4, q5]) rfl ⟨by rw [hr.out]; try rfl, hfin.out⟩
      | zero =>
        have hr := Lib.hid (hof.out.trans (show _ = ((⟨a1, a2, n0, n1, n2, n3⟩ : Tick), 0) from rfl))
        rw [errV_zero] at hck
        go_wp2_with fail
        refine hck.out.mono ?_
        rintro e w2 ⟨rfl, hb2⟩
        have hrr2 := Lib.hid (heap_below hb2 hrr4.out)
        have hrt2 := Lib.hid (heap_below hb2 hrt4.out)
        have hb2 := Lib.hid (below_trans hB4.out hb2)
        obtain ⟨⟨r0, r1, r2, r3, r4, r5⟩, f0, f1, f2, f3, f4, f5⟩ := tick_kept (Below.refl _ _) hrr2.out
        obtain ⟨⟨b0, b1, b2, b3, b4, b5⟩, _⟩ := tick_kept (Below.refl _ _) hrt2.out
        have hfin := Lib.hid (below_set6 (n := w.heap.size) hb2.out (Nat.le_refl _) (.string (bs a1)) (.string (bs a2)) (.int .i64 (n0 : Int)) (.int .i64 (n1 : Int)) (.int .i64 (n2 : Int)) (.int .i64 (n3 : Int)))
        go_wp2_with fail
        obtain ⟨⟨q0, q1, q2, q3, q4, q5⟩, _⟩ := tick_kept (Below.refl _ _) (row_set6 hrr2.out (.string (bs a1)) (.string (bs a2)) (.int .i64 (n0 : Int)) (.int .i64 (n1 : Int)) (.int .i64 (n2 : Int)) (.int .i64 (n3 : Int)))
        exact bodyPost_ret (v := .tuple #[.agg #[.string (bs a1), .string (bs a2), .int .i64 (n0 : Int), .int .i64 (n1 : Int), .int .i64 (n2 : Int), .int .i64 (n3 : Int)], errV E 0]) (by simp [results, Tryz.results55, go_sem, errV, q0, q1, q2, q3, q4, q5]) rfl ⟨by rw [hr.out]; try rfl, hfin.out⟩
end Go.Proofs.YtkhphdkjnpcnnaaGreatDoor

/- The walks of package ticket: Open, Look by contracts. -/
namespace Go.Proofs.YtkhphdkjnpcnnaaGreatDoor
open Go.RowKit Go.Maps

theorem look_words_len (s : List UInt8) : ∀ x ∈ (lookOf s).2.1, x.length ≤ s.length := by
  unfold lookOf
  split
  · intro x hx; cases hx
  · cases hc : lastCut 32 s with
    | none => intro x hx; cases hx
    | some y =>
      obtain ⟨h, t⟩ := y
      obtain ⟨e, _⟩ := lastCut_some 32 s h t hc
      have hl : h.length ≤ s.length := by rw [e]; simp
      dsimp only
      split
      · intro x hx; cases hx
      · split
        · intro x hx; cases hx
        · split
          · intro x hx
            have := cutL_len 32 h x hx
            omega
          · intro x hx; cases hx
theorem open_words_len (k : Int) (s : List UInt8) : ∀ x ∈ (openOf k s).1, x.length ≤ s.length := by
  unfold openOf
  split
  · intro x hx; cases hx
  · split
    · split
      · exact look_words_len s
      · intro x hx; cases hx
    · intro x hx; cases hx

set_option maxHeartbeats 1000000 in
set_option maxRecDepth 100000 in
theorem open_tick {E : Nat → Addr} (k : Int) (s : ByteArray) (w : World) (hL : LaidS E w) (hs : s.size ≤ 1000000) :
    Calls Tryz.prog 14 #[.int .i64 k, .string s] w fun e w' => e = .returned (.tuple #[(openT k s.data.toList).1.val, errV E (openT k s.data.toList).2]) ∧ Below w.heap.size w w' := by
  have hB : Below w.heap.size w (w.alloc (.cells #[.string ⟨#[]⟩, .string ⟨#[]⟩, .int .i64 0, .int .i64 0, .int .i64 0, .int .i64 0] 51)) := (Below.refl _ _).alloc (Nat.le_refl _) _
  have hbr := Lib.hid (heap_alloc_new w (.cells #[.string ⟨#[]⟩, .string ⟨#[]⟩, .int .i64 0, .int .i64 0, .int .i64 0, .int .i64 0] 51))
  have hso := Lib.hid (open_any (E := E) k s _ (hL.below hB) hs)
  have hof := Lib.hid (fun v wx (hx : Below w.heap.size w wx) (hv : TextsAt wx v (openOf k s.data.toList).1) => of_tick (E := E) v (openOf k s.data.toList).1 wx (hL.below hx) hv (fun x hx => by
    have := open_words_len k s.data.toList x hx
    have hl : s.data.toList.length = s.size := Array.length_toList
    omega))
  have hr0 : openT k s.data.toList = if (openOf k s.data.toList).2 = 0 then ofWords (openOf k s.data.toList).1 else (noTick, (openOf k s.data.toList).2) := rfl
  generalize openT k s.data.toList = p at *
  generalize (openOf k s.data.toList).1 = W at *
  generalize (openOf k s.data.toList).2 = c at *
  cases c with
  | succ c =>
    have hr := Lib.hid (hr0.trans (show _ = (noTick, c + 1) from rfl))
    rw [errV_succ] at hso
    clear hr0
    go_enter Tryz.func14, Tryz.ntmps14
    go_wp2_with fail
    refine hso.out.mono ?_
    rintro e w1 ⟨v, rfl, _, hb⟩
    have hrr1 := Lib.hid (heap_below hb hbr.out)
    have hb := Lib.hid (below_trans hB hb)
    obtain ⟨⟨r0, r1, r2, r3, r4, r5⟩, f0, f1, f2, f3, f4, f5⟩ := tick_kept (Below.refl _ _) hrr1.out
    have hfin := Lib.hid (below_set6 (n := w.heap.size) hb.out (Nat.le_refl _) (.string ⟨#[]⟩) (.string ⟨#[]⟩) (.int .i64 0) (.int .i64 0) (.int .i64 0) (.int .i64 0))
    go_wp2_with fail
    obtain ⟨⟨q0, q1, q2, q3, q4, q5⟩, _⟩ := tick_kept (Below.refl _ _) (row_set6 hrr1.out (.string ⟨#[]⟩) (.string ⟨#[]⟩) (.int .i64 0) (.int .i64 0) (.int .i64 0) (.int .i64 0))
    exact bodyPost_ret (v := .tuple #[.agg #[.string ⟨#[]⟩, .string ⟨#[]⟩, .int .i64 0, .int .i64 0, .int .i64 0, .int .i64 0], errV E (c + 1)]) (by simp [results, Tryz.results14, go_sem, errV, q0, q1, q2, q3, q4, q5]) rfl ⟨by rw [hr.out]; try rfl, hfin.out⟩
  | zero =>
    have hr := Lib.hid (hr0.trans (show _ = ofWords W from rfl))
    rw [errV_zero] at hso
    clear hr0
    generalize ofWords W = q at *
    obtain ⟨⟨who, svc, ep, bg, fn, sr⟩, cd⟩ := q
    dsimp only [Tick.val] at hof
    obtain ⟨ev, hev⟩ : ∃ ev, errV E cd = ev := ⟨_, rfl⟩
    rw [hev] at hof
    have hev := Lib.hid hev
    go_enter Tryz.func14, Tryz.ntmps14
    go_wp2_with fail
    refine hso.out.mono ?_
    rintro e w1 ⟨v, rfl, hv, hb⟩
    have hrr1 := Lib.hid (heap_below hb hbr.out)
    have hb := Lib.hid (below_trans hB hb)
    have hof := Lib.hid (hof.out v w1 hb.out hv)
    clear hv
    go_wp2_with fail
    refine hof.out.mono ?_
    rintro e w2 ⟨rfl, hb2⟩
    have hrr2 := Lib.hid (heap_below hb2 hrr1.out)
    have hb2 := Lib.hid (below_trans hb.out hb2)
    obtain ⟨⟨r0, r1, r2, r3, r4, r5⟩, f0, f1, f2, f3, f4, f5⟩ := tick_kept (Below.refl _ _) hrr2.out
    have hfin := Lib.hid (below_set6 (n := w.heap.size) hb2.out (Nat.le_refl _) (.string (bs who)) (.string (bs svc)) (.int .i64 ep) (.int .i64 bg) (.int .i64 fn) (.int .i64 sr))
    go_wp2_with fail
    obtain ⟨⟨q0, q1, q2, q3, q4, q5⟩, _⟩ := tick_kept (Below.refl _ _) (row_set6 hrr2.out (.string (bs who)) (.string (bs svc)) (.int .i64 ep) (.int .i64 bg) (.int .i64 fn) (.int .i64 sr))
    exact bodyPost_ret (v := .tuple #[.agg #[.string (bs who), .string (bs svc), .int .i64 ep, .int .i64 bg, .int .i64 fn, .int .i64 sr], ev]) (by simp [results, Tryz.results14, go_sem, q0, q1, q2, q3, q4, q5]) rfl ⟨by rw [hr.out, ← hev.out]; try rfl, hfin.out⟩

end Go.Proofs.YtkhphdkjnpcnnaaGreatDoor

/- errors.As at *api.Fault, errors.Is at the sentinels, plain.Code: by contracts. -/
namespace Go.Proofs.YtkhphdkjnpcnnaaGreatDoor
open Go.RowKit Go.Extern.Stop Go.Stop Go.Extern

/-! The numbers: the fault's pointer type 155, a pointer to such 171, error 27, reflectlite's rtype 237. -/
theorem rl_valueOfPP (t : Addr) (w : World) : (ReflectliteValue.unpack (.iface 171 (.pointer (some t)))).run Tryz.prog w
    = .ok (.agg #[.pointer (some ⟨25, 171, none⟩), .pointer (some ⟨w.heap.size, 0, none⟩), .int .u64 150]) (w.alloc (.cells #[.pointer (some t)] 171)) := by kernel_rfl
theorem rl_typePP (a : Addr) (w : World) : (ReflectliteValue.methodAny (ReflectliteValue.valueError "reflectlite.Value.Type" 0) (fun t _ _ _ => ReflectliteType.toType t) #[.agg #[.pointer (some ⟨25, 171, none⟩), .pointer (some a), .int .u64 150]]).run Tryz.prog w
    = .ok (.iface 237 (.agg #[.pointer (some ⟨25, 171, none⟩)])) w := by kernel_rfl
theorem rl_methodKind (h : Value) (w : World) : (Go.method 449 237 (.agg #[h]) "Kind").run Tryz.prog w = .ok (271, h) w := by kernel_rfl
theorem rl_kindPP (w : World) : ((ReflectliteType.abiMethod fun t => (fun a : Nat => Value.int IntKind.u8 (a : Int)) <$> Rtype.kind t) #[.pointer (some ⟨25, 171, none⟩)]).run Tryz.prog w = .ok (.int .u8 22) w := by kernel_rfl
theorem rl_kindP (w : World) : ((ReflectliteType.abiMethod fun t => (fun a : Nat => Value.int IntKind.u8 (a : Int)) <$> Rtype.kind t) #[.pointer (some ⟨25, 155, none⟩)]).run Tryz.prog w = .ok (.int .u8 22) w := by kernel_rfl
theorem rlm (z : Sem Value) (f : TypeId → Addr → Nat → Nat → Sem Value) (v : Value) :
    ReflectliteValue.method z f #[v] = (do match ← ReflectliteValue.parts v with | none => z | some (t, a, fl) => f t a fl (fl % 32)) := rfl
theorem rl_partsPP (a : Addr) (w : World) : (ReflectliteValue.parts (.agg #[.pointer (some ⟨25, 171, none⟩), .pointer (some a), .int .u64 150])).run Tryz.prog w = .ok (some (171, a, 150)) w := by kernel_rfl
theorem rl_isNilPP (a p : Addr) (W : World) (ha : W.cell? a = some (.pointer (some p))) :
    (ReflectliteValue.method (ReflectliteValue.valueError "reflectlite.Value.IsNil" 0) ReflectliteValue.isNil #[.agg #[.pointer (some ⟨25, 171, none⟩), .pointer (some a), .int .u64 150]]).run Tryz.prog W = .ok (.bool false) W := by
  rw [rlm]
  simp only [Sem.run_bind, rl_partsPP, Result.andThen]
  simp [ReflectliteValue.isNil, loadVar, isAgg, underlying, Tryz.underlying171, ha, Result.andThen]
theorem rl_methodElem (h : Value) (w : World) : (Go.method 449 237 (.agg #[h]) "Elem").run Tryz.prog w = .ok (283, .agg #[h]) w := by kernel_rfl
theorem rl_methodImplements (h : Value) (w : World) : (Go.method 449 237 (.agg #[h]) "Implements").run Tryz.prog w = .ok (284, .agg #[h]) w := by kernel_rfl
theorem rl_methodAssignableTo (h : Value) (w : World) : (Go.method 449 237 (.agg #[h]) "AssignableTo").run Tryz.prog w = .ok (281, .agg #[h]) w := by kernel_rfl
theorem rl_elemPP (w : World) : (ReflectliteType.method ReflectliteType.elem #[.agg #[.pointer (some ⟨25, 171, none⟩)]]).run Tryz.prog w = .ok (.iface 237 (.agg #[.pointer (some ⟨25, 155, none⟩)])) w := by kernel_rfl
theorem rl_implementsP (w : World) : (ReflectliteType.relation "Implements" ReflectliteType.implements_ #[.agg #[.pointer (some ⟨25, 155, none⟩)], .iface 237 (.agg #[.pointer (some ⟨25, 27, none⟩)])]).run Tryz.prog w = .ok (.bool true) w := by kernel_rfl
theorem rl_typeOfP (v : Value) (w : World) : (ReflectliteType.typeOf #[.iface 155 v]).run Tryz.prog w = .ok (.iface 237 (.agg #[.pointer (some ⟨25, 155, none⟩)])) w := by kernel_rfl
theorem rl_typeOfS (v : Value) (w : World) : (ReflectliteType.typeOf #[.iface 309 v]).run Tryz.prog w = .ok (.iface 237 (.agg #[.pointer (some ⟨25, 309, none⟩)])) w := by kernel_rfl
theorem rl_assignableP (w : World) : (ReflectliteType.relation "AssignableTo" ReflectliteType.assignableTo #[.agg #[.pointer (some ⟨25, 155, none⟩)], .iface 237 (.agg #[.pointer (some ⟨25, 155, none⟩)])]).run Tryz.prog w = .ok (.bool true) w := by kernel_rfl
theorem rl_assignableS (w : World) : (ReflectliteType.relation "AssignableTo" ReflectliteType.assignableTo #[.agg #[.pointer (some ⟨25, 309, none⟩)], .iface 237 (.agg #[.pointer (some ⟨25, 155, none⟩)])]).run Tryz.prog w = .ok (.bool false) w := by kernel_rfl
theorem rl_valueOfP (e : Addr) (w : World) : (ReflectliteValue.unpack (.iface 155 (.pointer (some e)))).run Tryz.prog w
    = .ok (.agg #[.pointer (some ⟨25, 155, none⟩), .pointer (some ⟨w.heap.size, 0, none⟩), .int .u64 150]) (w.alloc (.cells #[.pointer (some e)] 155)) := by kernel_rfl
theorem rl_elemOfPP (w : World) : (Rtype.elem? 171).run Tryz.prog w = .ok (some 155) w := by kernel_rfl
theorem rl_mkP (p : Addr) (w : World) : (ReflectliteValue.mk 155 p ReflectliteValue.flagAddr).run Tryz.prog w = .ok (.agg #[.pointer (some ⟨25, 155, none⟩), .pointer (some p), .int .u64 406]) w := by kernel_rfl
theorem rl_elemVPP (a p : Addr) (W : World) (ha : W.cell? a = some (.pointer (some p))) :
    (ReflectliteValue.method (ReflectliteValue.valueError "reflectlite.Value.Elem" 0) ReflectliteValue.elem #[.agg #[.pointer (some ⟨25, 171, none⟩), .pointer (some a), .int .u64 150]]).run Tryz.prog W
      = .ok (.agg #[.pointer (some ⟨25, 155, none⟩), .pointer (some p), .int .u64 406]) W := by
  rw [rlm]
  simp only [Sem.run_bind, rl_partsPP, Result.andThen]
  simp [ReflectliteValue.elem, loadVar, isAgg, underlying, Tryz.underlying171, ha, Result.andThen, rl_elemOfPP, rl_mkP]
theorem rls (v x : Value) : ReflectliteValue.set #[v, x] = (do
    let (some (dst, a, fl), some (src, b, _)) := (← ReflectliteValue.parts v, ← ReflectliteValue.parts x)
      | unsupported (.noEntry "extern/(internal/reflectlite.Value).Set.zeroValue")
    if fl / ReflectliteValue.flagAddr % 2 == 0 then unsupported (.noEntry "extern/(internal/reflectlite.Value).Set.unaddressable")
    let val ← loadVar src b
    if ← Rtype.directlyAssignable dst src then storeVar dst a val
    else if ← Rtype.implements dst src then
      if (← Rtype.kind src) == 20 then
        match val with
        | .nilIface => unsupported (.noEntry "extern/reflectlite: a nil value of one interface type handed on as a value of another")
        | _ => storeVar dst a val
      else storeVar dst a (.iface src val)
    else panicString ("reflectlite.Set: value of type " ++ (← Rtype.spelt src) ++ " is not assignable to type " ++ (← Rtype.spelt dst))
    pure (.tuple #[])) := rfl
theorem rl_partsPa (a : Addr) (w : World) : (ReflectliteValue.parts (.agg #[.pointer (some ⟨25, 155, none⟩), .pointer (some a), .int .u64 406])).run Tryz.prog w = .ok (some (155, a, 406)) w := by kernel_rfl
theorem rl_partsP (a : Addr) (w : World) : (ReflectliteValue.parts (.agg #[.pointer (some ⟨25, 155, none⟩), .pointer (some a), .int .u64 150])).run Tryz.prog w = .ok (some (155, a, 150)) w := by kernel_rfl
theorem rl_direct (w : World) : (Rtype.directlyAssignable 155 155).run Tryz.prog w = .ok true w := by kernel_rfl
theorem rl_setP (ta b e : Addr) (old : Value) (W : World) (hb : W.cell? b = some (.pointer (some e))) (ht : W.cell? ta = some old) (hf : W.frozen? ta = false) :
    (ReflectliteValue.set #[.agg #[.pointer (some ⟨25, 155, none⟩), .pointer (some ta), .int .u64 406], .agg #[.pointer (some ⟨25, 155, none⟩), .pointer (some b), .int .u64 150]]).run Tryz.prog W
      = .ok (.tuple #[]) (W.setCell ta (.pointer (some e))) := by
  rw [rls]
  simp only [Sem.run_bind, rl_partsPa, rl_partsP, Result.andThen]
  simp [ReflectliteValue.flagAddr, loadVar, isAgg, underlying, Tryz.underlying155, hb, Result.andThen, rl_direct, storeVar, Value.cells, storeCells, Addr.add]
  rw [run_store Tryz.prog W ta _ _ (by rfl)]
  simp [ht, hf]
theorem rl_noAsS (v : Value) (xT : TypeId) (w : World) : (Instr.typeAssert (.iface 309 v) xT 241 true).run Tryz.prog w = .ok (.tuple #[.nilIface, .bool false]) w := run_typeAssert_lacksB Tryz.underlying241 (by kernel_rfl) (by kernel_rfl) v xT w
theorem rl_noUnwrapS (v : Value) (xT : TypeId) (w : World) : (Instr.typeAssert (.iface 309 v) xT 244 true).run Tryz.prog w = .ok (.tuple #[.nilIface, .bool false]) w := run_typeAssert_lacksB Tryz.underlying244 (by kernel_rfl) (by kernel_rfl) v xT w
theorem rl_noUnwrapsS (v : Value) (xT : TypeId) (w : World) : (Instr.typeAssert (.iface 309 v) xT 246 true).run Tryz.prog w = .ok (.tuple #[.nilIface, .bool false]) w := run_typeAssert_lacksB Tryz.underlying246 (by kernel_rfl) (by kernel_rfl) v xT w
theorem rl_noIsS (v : Value) (xT : TypeId) (w : World) : (Instr.typeAssert (.iface 309 v) xT 248 true).run Tryz.prog w = .ok (.tuple #[.nilIface, .bool false]) w := run_typeAssert_lacksB Tryz.underlying248 (by kernel_rfl) (by kernel_rfl) v xT w
theorem rl_noIsF (v : Value) (xT : TypeId) (w : World) : (Instr.typeAssert (.iface 155 v) xT 248 true).run Tryz.prog w = .ok (.tuple #[.nilIface, .bool false]) w := run_typeAssert_lacksB Tryz.underlying248 (by kernel_rfl) (by kernel_rfl) v xT w
theorem rl_hasUnwrapF (v : Value) (xT : TypeId) (w : World) : (Instr.typeAssert (.iface 155 v) xT 244 true).run Tryz.prog w = .ok (.tuple #[.iface 155 v, .bool true]) w := run_typeAssert_hasB Tryz.underlying244 (by kernel_rfl) v xT w
theorem rl_methodUnwrap (v : Value) (w : World) : (Go.method 449 155 v "Unwrap").run Tryz.prog w = .ok (275, v) w := by kernel_rfl
theorem rl_isMethodComparable (v : Value) (w : World) : (Go.method 449 237 v "Comparable").run Tryz.prog w = .ok (282, v) w := by kernel_rfl
theorem rl_isComp : (Tryz.prog.info? 309).map (·.comparable) = some true := by kernel_rfl
theorem rl_isSize : (Tryz.prog.info? 311).map (·.size) = some 1 := by kernel_rfl

end Go.Proofs.YtkhphdkjnpcnnaaGreatDoor
