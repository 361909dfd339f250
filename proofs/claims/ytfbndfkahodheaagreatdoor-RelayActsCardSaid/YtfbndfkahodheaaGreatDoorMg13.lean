/- FedO, RefH -/
import Derived.Test.YtfbndfkahodheaaGreatDoorMg11
import Derived.Test.YtfbndfkahodheaaGreatDoorMg12
import Derived.Test.YtfbndfkahodheaaGreatDoorMg5
import Derived.Test.YtfbndfkahodheaaGreatDoorMg4
/- feed.Open, feed.Since: walked. -/
namespace Go.Proofs.YtfbndfkahodheaaGreatDoor
open Go.RowKit

theorem lookW_len (s : List UInt8) : ∀ x ∈ (lookOf s).2.1, x.length ≤ s.length := by
  unfold lookOf
  split
  · intro x hx; cases hx
  · cases hc : lastCut 32 s with
    | none => intro x hx; cases hx
    | some y =>
      obtain ⟨h, t⟩ := y
      obtain ⟨e, _⟩ := lastCut_some 32 s h t hc
      have hl : h.length ≤ s.length := by rw [e]; simp
      dsimp only
      split
      · intro x hx; cases hx
      · split
        · intro x hx; cases hx
        · split
          · intro x hx
            have := cutL_len 32 h x hx
            omega
          · intro x hx; cases hx
theorem openW_len (k : Int) (s : List UInt8) : ∀ x ∈ (openOf k s).1, x.length ≤ s.length := by
  unfold openOf
  split
  · intro x hx; cases hx
  · split
    · split
      · exact lookW_len s
      · intro x hx; cases hx
    · intro x hx; cases hx
def Hd.val (h : Hd) : Value := .agg #[.int .i64 h.seq, .int .i64 h.time, .int .i64 h.sum]
theorem ofHead_len {W : List (List UInt8)} (h : W.length ≠ 4) : ofHead W = (noHd, 1) := by
  match W, h with
  | [], _ => rfl
  | [_], _ => rfl
  | [_, _], _ => rfl
  | [_, _, _], _ => rfl
  | [_, _, _, _], h => exact absurd rfl h
  | _ :: _ :: _ :: _ :: _ :: _, _ => rfl
theorem ofHead_first {a b c d : List UInt8} (h : a ≠ headW) : ofHead [a, b, c, d] = (noHd, 1) := by
  unfold ofHead
  dsimp only
  rw [decide_eq_false h, Bool.false_and, Bool.false_and, Bool.false_and, if_neg (by decide)]
theorem ofHead_nums {b c d : List UInt8} : ofHead [headW, b, c, d] = if ((number b 60).2 && (number c 1000000).2 && (number d 1000000006).2) = true then (⟨(number b 60).1, (number c 1000000).1, (number d 1000000006).1⟩, 0) else (noHd, 1) := by
  unfold ofHead
  dsimp only
  rw [decide_eq_true rfl, Bool.true_and]
theorem row_put3 {w : World} {n : Nat} {u0 u1 u2 : Value} {T : TypeId} (h : w.heap[n]? = some (.cells #[u0, u1, u2] T (0, 0))) (v0 v1 v2 : Value) :
    (((w.setCell ⟨n, 0, none⟩ v0).setCell ⟨n, 1, none⟩ v1).setCell ⟨n, 2, none⟩ v2).heap[n]? = some (.cells #[v0, v1, v2] T (0, 0)) := by
  have h0 := heap_setCell_same _ n 0 _ _ v0 h
  have h1 := heap_setCell_same _ n 1 _ _ v1 h0
  exact heap_setCell_same _ n 2 _ _ v2 h1
theorem below_put3 {B : Nat} {a w : World} (h : Below B a w) {n : Nat} (hn : B ≤ n) (v0 v1 v2 : Value) :
    Below B a (((w.setCell ⟨n, 0, none⟩ v0).setCell ⟨n, 1, none⟩ v1).setCell ⟨n, 2, none⟩ v2) := ((h.setCell hn _).setCell hn _).setCell hn _
theorem head_kept {w1 : World} {n : Nat} {v0 v1 v2 : Value} {T : TypeId} (h1 : w1.heap[n]? = some (.cells #[v0, v1, v2] T (0, 0))) :
    (w1.cell? ⟨n, 0, none⟩ = some v0 ∧ w1.cell? ⟨n, 1, none⟩ = some v1 ∧ w1.cell? ⟨n, 2, none⟩ = some v2) ∧ (w1.frozen? ⟨n, 0, none⟩ = false ∧ w1.frozen? ⟨n, 1, none⟩ = false ∧ w1.frozen? ⟨n, 2, none⟩ = false) := by
  refine ⟨⟨?_, ?_, ?_⟩, ?_, ?_, ?_⟩
  all_goals first
    | (rw [cell_of_row _ _ _ _ _ _ h1]; rfl)
    | exact frozen_of_row _ _ _ _ _ h1
set_option maxHeartbeats 4000000 in
set_option maxRecDepth 100000 in
theorem openF_any {E : Nat → Addr} (k : Int) (s : ByteArray) (w : World) (hL : LaidS E w) (hs : s.size ≤ 1000000) :
    Calls Tryz.prog 22 #[.int .i64 k, .string s] w fun e w' => e = .returned (.tuple #[(openH k s.data.toList).1.val, errV E (openH k s.data.toList).2]) ∧ Below w.heap.size w w' := by
  have hB : Below w.heap.size w (w.alloc (.cells #[.int .i64 0, .int .i64 0, .int .i64 0] 53)) := (Below.refl _ _).alloc (Nat.le_refl _) _
  have hbr := Lib.hid (heap_alloc_new w (.cells #[.int .i64 0, .int .i64 0, .int .i64 0] 53))
  have hso := Lib.hid (open_any (E := E) k s _ (hL.below hB) hs)
  have hBH := Lib.hid hB
  have hLx := Lib.hid (fun wx (hx : Below w.heap.size w wx) => (hL.below hx).laid.e1)
  have hg1 : 4 < w.heap.size := World.block_lt_of_cell? w _ hL.laid.e1
  have hg2 : ¬ (4 = w.heap.size) := by omega
  have hg3 : ¬ (w.heap.size = 4) := by omega
  have hwl := fun x (hx : x ∈ (openOf k s.data.toList).1) => (show x.length ≤ 1000000 from by
    have := openW_len k s.data.toList x hx
    have hl : s.data.toList.length = s.size := Array.length_toList
    omega)
  have hnu := Lib.hid (fun (l : List UInt8) (most : Int) (hl : l.length ≤ 1000000) wx (hx : Below w.heap.size w wx) => number_any (E := E) (bs l) most wx (hL.below hx) (by rw [bs_size]; exact hl))
  have hr0 : openH k s.data.toList = if (openOf k s.data.toList).2 = 0 then ofHead (openOf k s.data.toList).1 else (noHd, (openOf k s.data.toList).2) := rfl
  generalize openH k s.data.toList = p at *
  generalize (openOf k s.data.toList).1 = W at *
  generalize (openOf k s.data.toList).2 = c at *
  clear hB hL
  cases c with
  | succ c =>
    have hr := Lib.hid (hr0.trans (show _ = (noHd, c + 1) from rfl))
    rw [errV_succ] at hso
    clear hr0 hnu hwl
    go_enter Tryz.func22, Tryz.ntmps22
    go_wp2_with fail
    refine hso.out.mono ?_
    rintro e w1 ⟨v, rfl, _, hb⟩
    have hrr := Lib.hid (heap_down hb hbr.out)
    have hb := Lib.hid (below_trans hBH.out hb)
    obtain ⟨⟨r0, r1, r2⟩, f0, f1, f2⟩ := head_kept hrr.out
    have hfin := Lib.hid (below_put3 (n := w.heap.size) hb.out (Nat.le_refl _) (.int .i64 0) (.int .i64 0) (.int .i64 0))
    go_wp2_with fail
    obtain ⟨⟨q0, q1, q2⟩, _⟩ := head_kept (row_put3 hrr.out (.int .i64 0) (.int .i64 0) (.int .i64 0))
    exact bodyPost_ret (v := .tuple #[.agg #[.int .i64 0, .int .i64 0, .int .i64 0], errV E (c + 1)]) (by simp [results, Tryz.results22, go_sem, errV, q0, q1, q2]) rfl ⟨by rw [hr.out]; try rfl, hfin.out⟩
  | zero =>
  have hr := Lib.hid (hr0.trans (show _ = ofHead W from rfl))
  rw [errV_zero] at hso
  clear hr0
  by_cases hl : W.length = 4
  case neg =>
    have hr := Lib.hid (hr.out.trans (ofHead_len hl))
    have hne : ((W.length : Int) != 4) = true := by rw [bne_iff_ne]; omega
    have hlH := Lib.hid hl
    clear hwl hnu hl
    go_enter Tryz.func22, Tryz.ntmps22
    go_wp2_with fail
    refine hso.out.mono ?_
    rintro e w1 ⟨v, rfl, hv, hb⟩
    obtain ⟨a, cp, rfl, hml, _, hcell⟩ := hv
    unfold maxLen at hml
    clear hcell
    have hrr := Lib.hid (heap_down hb hbr.out)
    have hb := Lib.hid (below_trans hBH.out hb)
    have he1 := hLx.out _ hb.out
    simp only [errV] at he1
    obtain ⟨⟨r0, r1, r2⟩, f0, f1, f2⟩ := head_kept hrr.out
    have hfin := Lib.hid (below_put3 (n := w.heap.size) hb.out (Nat.le_refl _) (.int .i64 0) (.int .i64 0) (.int .i64 0))
    go_wp2_with fail
    go_region
    all_goals
      go_wp2_with fail
      obtain ⟨⟨q0, q1, q2⟩, _⟩ := head_kept (row_put3 hrr.out (.int .i64 0) (.int .i64 0) (.int .i64 0))
      exact bodyPost_ret (v := .tuple #[.agg #[.int .i64 0, .int .i64 0, .int .i64 0], errV E 1]) (by simp [results, Tryz.results22, go_sem, errV, q0, q1, q2]) rfl ⟨by rw [hr.out]; rfl, hfin.out.drew⟩
  obtain ⟨a0, a1, a2, a3, rfl⟩ := four_of hl
  clear hl
  have hl1 := hwl a1 (by simp)
  have hl2 := hwl a2 (by simp)
  have hl3 := hwl a3 (by simp)
  have hn1 := Lib.hid (fun wx hx => hnu.out a1 60 hl1 wx hx)
  have hn2 := Lib.hid (fun wx hx => hnu.out a2 1000000 hl2 wx hx)
  have hn3 := Lib.hid (fun wx hx => hnu.out a3 1000000006 hl3 wx hx)
  simp only [bs_list] at hn1 hn2 hn3
  clear hwl hnu hl1 hl2 hl3
  by_cases ha : a0 = headW
  case neg =>
    have hr := Lib.hid (hr.out.trans (ofHead_first ha))
    have hne0 : ((bs a0).toList == [104, 101, 97, 100]) = false := by rw [toList_data, bs_list, beq_eq_false_iff_ne]; exact ha
    have hne : ((bs a0).toList != [104, 101, 97, 100]) = true := by rw [bne, hne0]; rfl
    clear ha hn1 hn2 hn3
    go_enter Tryz.func22, Tryz.ntmps22
    go_wp2_with fail
    refine hso.out.mono ?_
    rintro e w1 ⟨v, rfl, hv, hb⟩
    obtain ⟨a, cp, rfl, hml, hcp, hcell⟩ := hv
    obtain ⟨bb, oo, rfl, c0⟩ := hcell 0 (by simp)
    have c0 : w1.cell? ⟨bb, oo, none⟩ = some (.string (bs a0)) := c0
    have hrr := Lib.hid (heap_down hb hbr.out)
    have hb := Lib.hid (below_trans hBH.out hb)
    have he1 := hLx.out _ hb.out
    simp only [errV] at he1
    clear hcell hml
    simp only [List.length_cons, List.length_nil, Nat.zero_add, Nat.reduceAdd] at hcp
    simp only [List.length_cons, List.length_nil, Nat.zero_add, Nat.reduceAdd]
    obtain ⟨⟨r0, r1, r2⟩, f0, f1, f2⟩ := head_kept hrr.out
    have hfin := Lib.hid (below_put3 (n := w.heap.size) hb.out (Nat.le_refl _) (.int .i64 0) (.int .i64 0) (.int .i64 0))
    go_wp2_with fail
    go_region
    all_goals
      go_wp2_with fail
      obtain ⟨⟨q0, q1, q2⟩, _⟩ := head_kept (row_put3 hrr.out (.int .i64 0) (.int .i64 0) (.int .i64 0))
      exact bodyPost_ret (v := .tuple #[.agg #[.int .i64 0, .int .i64 0, .int .i64 0], errV E 1]) (by simp [results, Tryz.results22, go_sem, errV, q0, q1, q2]) rfl ⟨by rw [hr.out]; rfl, hfin.out.drew⟩
  subst ha
  have hr := Lib.hid (hr.out.trans ofHead_nums)
  have hne0 : ((bs headW).toList == [104, 101, 97, 100]) = true := by rw [toList_data]; rfl
  have hne : ((bs headW).toList != [104, 101, 97, 100]) = false := by rw [bne, hne0]; rfl
  unfold numRes at hn1 hn2 hn3
  generalize number a1 60 = x1 at *
  generalize number a2 1000000 = x2 at *
  generalize number a3 1000000006 = x3 at *
  obtain ⟨n1, o1⟩ := x1
  obtain ⟨n2, o2⟩ := x2
  obtain ⟨n3, o3⟩ := x3
  dsimp only at hn1 hn2 hn3
  obtain ⟨hwb, hhw⟩ : ∃ x, bs headW = x := ⟨_, rfl⟩
  rw [hhw] at hne hne0
  have hhwH := Lib.hid hhw
  clear hhw
  go_enter Tryz.func22, Tryz.ntmps22
  go_wp2_with fail
  refine hso.out.mono ?_
  rintro e w1 ⟨v, rfl, hv, hb⟩
  obtain ⟨a, cp, rfl, hml, hcp, hcell⟩ := hv
  obtain ⟨bb, oo, rfl, c0⟩ := hcell 0 (by simp)
  have c0 : w1.cell? ⟨bb, oo, none⟩ = some (.string (bs headW)) := c0
  rw [hhwH.out] at c0
  have c1 : w1.cell? ⟨bb, oo + 1, none⟩ = some (.string (bs a1)) := by obtain ⟨b', o', he, hc⟩ := hcell 1 (by simp); cases he; exact hc
  have c2 : w1.cell? ⟨bb, oo + 2, none⟩ = some (.string (bs a2)) := by obtain ⟨b', o', he, hc⟩ := hcell 2 (by simp); cases he; exact hc
  have c3 : w1.cell? ⟨bb, oo + 3, none⟩ = some (.string (bs a3)) := by obtain ⟨b', o', he, hc⟩ := hcell 3 (by simp); cases he; exact hc
  have hrr1 := Lib.hid (heap_down hb hbr.out)
  have hb1 := Lib.hid (below_trans hBH.out hb)
  have c2H := Lib.hid c2
  have c3H := Lib.hid c3
  clear hcell hml c2 c3 hb
  simp only [List.length_cons, List.length_nil, Nat.zero_add, Nat.reduceAdd] at hcp
  simp only [List.length_cons, List.length_nil, Nat.zero_add, Nat.reduceAdd]
  go_wp2_with fail
  refine (hn1.out _ hb1.out).mono ?_
  rintro e w2 ⟨rfl, hb2⟩
  have c2 := cell_below hb2 c2H.out
  have c3H := Lib.hid (cell_below hb2 c3H.out)
  have hrr2 := Lib.hid (heap_down hb2 hrr1.out)
  have hb2H := Lib.hid (below_trans hb1.out hb2)
  clear hb2 c0 c1
  go_wp2_with fail
  refine (hn2.out _ hb2H.out).mono ?_
  rintro e w3 ⟨rfl, hb3⟩
  have c3 := cell_below hb3 c3H.out
  have hrr3 := Lib.hid (heap_down hb3 hrr2.out)
  have hb3H := Lib.hid (below_trans hb2H.out hb3)
  clear hb3 c2
  go_wp2_with fail
  refine (hn3.out _ hb3H.out).mono ?_
  rintro e w4 ⟨rfl, hb4⟩
  have hrr := Lib.hid (heap_down hb4 hrr3.out)
  have hb := Lib.hid (below_trans hb3H.out hb4)
  have he1 := hLx.out _ hb.out
  simp only [errV] at he1
  clear hb4 c3
  cases o1 with
  | false =>
    have hr := Lib.hid (hr.out.trans (if_neg (by simp)))
    obtain ⟨⟨r0, r1, r2⟩, f0, f1, f2⟩ := head_kept hrr.out
    have hfin := Lib.hid (below_put3 (n := w.heap.size) hb.out (Nat.le_refl _) (.int .i64 0) (.int .i64 0) (.int .i64 0))
    go_wp2_with fail
    go_region
    all_goals
      go_wp2_with fail
      obtain ⟨⟨q0, q1, q2⟩, _⟩ := head_kept (row_put3 hrr.out (.int .i64 0) (.int .i64 0) (.int .i64 0))
      exact bodyPost_ret (v := .tuple #[.agg #[.int .i64 0, .int .i64 0, .int .i64 0], errV E 1]) (by simp [results, Tryz.results22, go_sem, errV, q0, q1, q2]) rfl ⟨by rw [hr.out]; rfl, hfin.out.drew⟩
  | true =>
  cases o2 with
  | false =>
    have hr := Lib.hid (hr.out.trans (if_neg (by simp)))
    obtain ⟨⟨r0, r1, r2⟩, f0, f1, f2⟩ := head_kept hrr.out
    have hfin := Lib.hid (below_put3 (n := w.heap.size) hb.out (Nat.le_refl _) (.int .i64 0) (.int .i64 0) (.int .i64 0))
    go_wp2_with fail
    go_region
    all_goals
      go_wp2_with fail
      obtain ⟨⟨q0, q1, q2⟩, _⟩ := head_kept (row_put3 hrr.out (.int .i64 0) (.int .i64 0) (.int .i64 0))
      exact bodyPost_ret (v := .tuple #[.agg #[.int .i64 0, .int .i64 0, .int .i64 0], errV E 1]) (by simp [results, Tryz.results22, go_sem, errV, q0, q1, q2]) rfl ⟨by rw [hr.out]; rfl, hfin.out.drew⟩
  | true =>
  cases o3 with
  | false =>
    have hr := Lib.hid (hr.out.trans (if_neg (by simp)))
    obtain ⟨⟨r0, r1, r2⟩, f0, f1, f2⟩ := head_kept hrr.out
    have hfin := Lib.hid (below_put3 (n := w.heap.size) hb.out (Nat.le_refl _) (.int .i64 0) (.int .i64 0) (.int .i64 0))
    go_wp2_with fail
    go_region
    all_goals
      go_wp2_with fail
      obtain ⟨⟨q0, q1, q2⟩, _⟩ := head_kept (row_put3 hrr.out (.int .i64 0) (.int .i64 0) (.int .i64 0))
      exact bodyPost_ret (v := .tuple #[.agg #[.int .i64 0, .int .i64 0, .int .i64 0], errV E 1]) (by simp [results, Tryz.results22, go_sem, errV, q0, q1, q2]) rfl ⟨by rw [hr.out]; rfl, hfin.out.drew⟩
  | true =>
    have hr := Lib.hid (hr.out.trans (if_pos (by simp)))
    obtain ⟨⟨r0, r1, r2⟩, f0, f1, f2⟩ := head_kept hrr.out
    have hfin := Lib.hid (below_put3 (n := w.heap.size) hb.out (Nat.le_refl _) (.int .i64 n1) (.int .i64 n2) (.int .i64 n3))
    go_wp2_with fail
    obtain ⟨⟨q0, q1, q2⟩, _⟩ := head_kept (row_put3 hrr.out (.int .i64 n1) (.int .i64 n2) (.int .i64 n3))
    exact bodyPost_ret (v := .tuple #[.agg #[.int .i64 n1, .int .i64 n2, .int .i64 n3], .nilIface]) (by simp [results, Tryz.results22, go_sem, q0, q1, q2]) rfl ⟨by rw [hr.out]; try rfl, hfin.out⟩
theorem sinceE_check {L : List Ent} {seq : Int} (h : (checkE L).1 ≠ 0) : sinceE L seq = ([], (checkE L).1, (checkE L).2) := by unfold sinceE; rw [if_pos h]
theorem sinceE_neg {L : List Ent} {seq : Int} (h : (checkE L).1 = 0) (h1 : seq < 0) : sinceE L seq = ([], 2, -1) := by unfold sinceE; rw [if_neg (by simpa using h), if_pos h1]
theorem sinceE_far {L : List Ent} {seq : Int} (h : (checkE L).1 = 0) (h1 : ¬ seq < 0) (h2 : (L.length : Int) < seq) : sinceE L seq = ([], 15, -1) := by unfold sinceE; rw [if_neg (by simpa using h), if_neg h1, if_pos h2]
theorem sinceE_good {L : List Ent} (n : Nat) (h : (checkE L).1 = 0) (h2 : n ≤ L.length) : sinceE L n = (L.drop n, 0, -1) := by unfold sinceE; rw [if_neg (by simpa using h), if_neg (by omega), if_neg (by omega)]; rfl
set_option maxHeartbeats 4000000 in
set_option maxRecDepth 100000 in
theorem since_ent {E : Nat → Addr} (v : Value) (L : List Ent) (seq : Int) (w : World) (hL : Laid E w) (hv : EntsAt w v L) (hm : ∀ e ∈ L, e.f.who.length ≤ maxLen) :
    Calls Tryz.prog 18 #[v, .int .i64 seq] w fun e w' => EntRes E w.heap.size w' (sinceE L seq) e ∧ Below w.heap.size w w' := by
  have hck := Lib.hid (check_ent (E := E) v L w hL hv hm)
  have hlen := AtG.len hv
  unfold maxLen at hlen
  obtain ⟨a0, c0, hv0⟩ := AtG.sl hv
  subst hv0
  have he2 := Lib.hid (fun wx (hx : Below w.heap.size w wx) => (hL.below hx).e2)
  have he15 := Lib.hid (fun wx (hx : Below w.heap.size w wx) => (hL.below hx).e15)
  have hvH := Lib.hid hv
  clear hv hm hL
  by_cases hc0 : (checkE L).1 = 0
  case neg =>
    have hr := Lib.hid (sinceE_check (seq := seq) hc0)
    have hc0H := Lib.hid hc0
    clear hc0
    go_enter Tryz.func18, Tryz.ntmps18
    go_wp2_with fail
    refine hck.out.mono ?_
    rintro e w1 ⟨ev, rfl, he, hb1⟩
    obtain ⟨T, x, rfl⟩ := he.iface hc0H.out
    have he := Lib.hid he
    have hb1 := Lib.hid hb1
    go_wp2_with fail
    go_ret2
    exact ⟨EntRes.mk hr.out (EntRow.nil _ _) he.out, hb1.out⟩
  have hc0H := Lib.hid hc0
  have hl60 := (checkE_zero hc0).1
  clear hc0
  by_cases h1 : seq < 0
  · have hr := Lib.hid (sinceE_neg hc0H.out h1)
    go_enter Tryz.func18, Tryz.ntmps18
    go_wp2_with fail
    refine hck.out.mono ?_
    rintro e w1 ⟨ev, rfl, he, hb1⟩
    obtain ⟨rfl, _⟩ := he.zero hc0H.out
    have hx := he2.out _ hb1
    simp only [errV] at hx
    have hb1 := Lib.hid hb1
    clear he
    go_wp2_with fail
    go_quiet (fail)
    go_wp2_with fail
    go_ret2
    exact ⟨EntRes.mk hr.out (EntRow.nil _ _) (ErrAt.bare 2), below_drawn hb1.out _⟩
  by_cases h2 : (L.length : Int) < seq
  · have hr := Lib.hid (sinceE_far hc0H.out h1 h2)
    go_enter Tryz.func18, Tryz.ntmps18
    go_wp2_with fail
    refine hck.out.mono ?_
    rintro e w1 ⟨ev, rfl, he, hb1⟩
    obtain ⟨rfl, _⟩ := he.zero hc0H.out
    have hx := he15.out _ hb1
    simp only [errV] at hx
    have hb1 := Lib.hid hb1
    clear he
    go_wp2_with fail
    go_quiet (fail)
    go_wp2_with fail
    go_ret2
    exact ⟨EntRes.mk hr.out (EntRow.nil _ _) (ErrAt.bare 15), below_drawn hb1.out _⟩
  obtain ⟨n, rfl⟩ : ∃ n : Nat, seq = n := ⟨seq.toNat, by omega⟩
  have hn : n ≤ L.length := by omega
  have hr := Lib.hid (sinceE_good n hc0H.out hn)
  have hcap : L.length ≤ c0 := by
    obtain ⟨_, _, he, _, h, _⟩ := hvH.out
    cases he
    exact h
  have hcl := Lib.hid (fun wx (hx : Below w.heap.size w wx) => clone_ent _ (L.drop n) wx (AtG.drop (AtG.below hvH.out hx) hn) (by rw [List.length_drop]; omega))
  by_cases hcn : c0 = n
  · subst hcn
    have hl0 : L.length - c0 = 0 := by omega
    simp only [if_pos, Nat.sub_self, hl0] at hcl
    have hcl := Lib.hid hcl.out
    clear hl0
    go_enter Tryz.func18, Tryz.ntmps18
    go_wp2_with fail
    refine hck.out.mono ?_
    rintro e w1 ⟨ev, rfl, he, hb1⟩
    obtain ⟨rfl, _⟩ := he.zero hc0H.out
    have hb1 := Lib.hid hb1
    clear he
    go_wp2_with fail
    refine (hcl.out _ hb1.out).mono ?_
    rintro e w2 ⟨v2, rfl, hrow2, hb2⟩
    have hrow2 := Lib.hid (RowG.mono hrow2 (base' := w.heap.size) hb1.out.size)
    have hb2 := Lib.hid (below_trans hb1.out hb2)
    go_wp2_with fail
    go_ret2
    exact ⟨EntRes.mk hr.out hrow2.out (ErrAt.bare 0), hb2.out⟩
  · simp only [if_neg hcn] at hcl
    have hcl := Lib.hid hcl.out
    go_enter Tryz.func18, Tryz.ntmps18
    go_wp2_with fail
    refine hck.out.mono ?_
    rintro e w1 ⟨ev, rfl, he, hb1⟩
    obtain ⟨rfl, _⟩ := he.zero hc0H.out
    have hb1 := Lib.hid hb1
    clear he
    go_wp2_with fail
    refine (hcl.out _ hb1.out).mono ?_
    rintro e w2 ⟨v2, rfl, hrow2, hb2⟩
    have hrow2 := Lib.hid (RowG.mono hrow2 (base' := w.heap.size) hb1.out.size)
    have hb2 := Lib.hid (below_trans hb1.out hb2)
    go_wp2_with fail
    go_ret2
    exact ⟨EntRes.mk hr.out hrow2.out (ErrAt.bare 0), hb2.out⟩
end Go.Proofs.YtfbndfkahodheaaGreatDoor

/- The reference's feeds: OpenHead: walked. -/
namespace Go.Proofs.YtfbndfkahodheaaGreatDoor
open Go.RowKit

theorem row_set3h {w : World} {n : Nat} {u0 u1 u2 : Value} {T : TypeId} (h : w.heap[n]? = some (.cells #[u0, u1, u2] T (0, 0))) (v0 v1 v2 : Value) :
    (((w.setCell ⟨n, 0, none⟩ v0).setCell ⟨n, 1, none⟩ v1).setCell ⟨n, 2, none⟩ v2).heap[n]? = some (.cells #[v0, v1, v2] T (0, 0)) := by
  have h0 := heap_setCell_same _ n 0 _ _ v0 h
  have h1 := heap_setCell_same _ n 1 _ _ v1 h0
  exact heap_setCell_same _ n 2 _ _ v2 h1
/-- The cell of a result that is a head. -/
def HBox (w0 w : World) : Prop := w.heap[w0.heap.size]? = some (.cells #[.int .i64 0, .int .i64 0, .int .i64 0] 56 (0, 0)) ∧ Below w0.heap.size w0 w
theorem HBox.below {w0 w w' : World} (h : HBox w0 w) (hb : Below w.heap.size w w') : HBox w0 w' := ⟨heap_down hb h.1, below_trans h.2 hb⟩
theorem HBox.set {w0 w : World} (h : HBox w0 w) (v0 v1 v2 : Value) : let x := ((w.setCell ⟨w0.heap.size, 0, none⟩ v0).setCell ⟨w0.heap.size, 1, none⟩ v1).setCell ⟨w0.heap.size, 2, none⟩ v2
    (x.cell? ⟨w0.heap.size, 0, none⟩ = some v0 ∧ x.cell? ⟨w0.heap.size, 1, none⟩ = some v1 ∧ x.cell? ⟨w0.heap.size, 2, none⟩ = some v2) ∧ Below w0.heap.size w0 x :=
  ⟨(head_kept (row_set3h h.1 v0 v1 v2)).1, (below_set2 h.2 (Nat.le_refl _) _ _).setCell (Nat.le_refl _) _⟩
def Hd.valR (h : Hd) : Value := .agg #[.int .i64 h.seq, .int .i64 h.time, .int .i64 h.sum]
/-- What is answered: a head, an error's number. -/
def HdRes (r : Hd × Nat) (e : Ending) : Prop := e = .returned (.tuple #[r.1.valR, .int .i64 (r.2 : Nat)])
theorem HdRes.mk {r : Hd × Nat} {h : Hd} {c : Nat} {x y z q : Int} (hr : r = (h, c)) (h1 : x = h.seq) (h2 : y = h.time) (h3 : z = h.sum) (h4 : q = (c : Int)) : HdRes r (.returned (.tuple #[.agg #[.int .i64 x, .int .i64 y, .int .i64 z], .int .i64 q])) := by
  subst hr h1 h2 h3 h4
  rfl
theorem numR_ways (l : List UInt8) (most : Int) : ((number l most).2 = true ∧ numR l most = (number l most).1 ∧ 0 ≤ (number l most).1) ∨ ((number l most).2 = false ∧ numR l most = -1) := by
  rw [numR_number]
  cases h : (number l most).2 with
  | true => rw [if_pos rfl]; exact .inl ⟨rfl, rfl, (number_true h).2.1⟩
  | false => rw [if_neg (by decide)]; exact .inr ⟨rfl, rfl⟩
set_option maxHeartbeats 8000000 in
set_option maxRecDepth 100000 in
theorem openHR_any (k : Int) (s : List UInt8) (w : World) (hs : s.length ≤ 1000000) :
    Calls Tryz.prog 23 #[.int .i64 k, .string (bs s)] w fun e w' => HdRes (openH k s) e ∧ Below w.heap.size w w' := by
  have hB0 : HBox w (w.alloc (.cells #[.int .i64 0, .int .i64 0, .int .i64 0] 56)) := ⟨heap_alloc_new w _, (Below.refl _ _).alloc (Nat.le_refl _) _⟩
  have hun := openR_any k (bs s) (w.alloc (.cells #[.int .i64 0, .int .i64 0, .int .i64 0] 56)) (by rw [bs_size]; exact hs)
  rw [bs_list] at hun
  have hdef : openH k s = if (openOf k s).2 = 0 then ofHead (openOf k s).1 else (noHd, (openOf k s).2) := rfl
  have hlen := fun x (hx : x ∈ (openOf k s).1) => openW_len k s x hx
  obtain ⟨W, c, hWc⟩ : ∃ W c, openOf k s = (W, c) := ⟨_, _, rfl⟩
  rw [hWc] at hun hdef hlen
  dsimp only at hun hdef hlen
  have hB0 := Lib.hid hB0
  clear hWc
  cases c with
  | succ c =>
    rw [if_neg (Nat.succ_ne_zero c)] at hdef
    have hr := Lib.hid hdef
    have hz1 : (0 : Int) < ((c + 1 : Nat) : Int) := by omega
    generalize hzd : ((c + 1 : Nat) : Int) = zi at *
    have hzd := Lib.hid hzd
    have hun := Lib.hid hun
    clear hdef hlen
    go_enter Tryz.func23, Tryz.ntmps23
    go_wp2_with fail
    refine hun.out.mono ?_
    rintro e w1 ⟨v, rfl, hv, hb1⟩
    have hB1 := hB0.out.below hb1
    obtain ⟨⟨r0, r1, r2⟩, f0, f1, f2⟩ := head_kept hB1.1
    have hset := Lib.hid (hB1.set (.int .i64 0) (.int .i64 0) (.int .i64 0))
    obtain ⟨a9, c9, rfl, _⟩ := hv
    clear hb1 hB1
    go_wp2_with fail
    exact bodyPost_ret (v := .tuple #[.agg #[.int .i64 0, .int .i64 0, .int .i64 0], .int .i64 zi]) (by simp [results, Tryz.results23, go_sem, hset.out.1]) rfl ⟨HdRes.mk hr.out rfl rfl rfl hzd.out.symm, hset.out.2⟩
  | zero =>
  rw [if_pos rfl] at hdef
  have hun := Lib.hid hun
  have hW20 := hlen
  clear hlen
  by_cases hl4 : W.length = 4
  case neg =>
    have hr := Lib.hid (show openH k s = (noHd, 1) by
      rw [hdef]
      match W, hl4 with
      | [], _ => rfl
      | [_], _ => rfl
      | [_, _], _ => rfl
      | [_, _, _], _ => rfl
      | [_, _, _, _], h => exact absurd rfl h
      | _ :: _ :: _ :: _ :: _ :: _, _ => rfl)
    have hne : ((W.length : Int) != 4) = true := by rw [bne_iff_ne]; omega
    clear hdef hl4 hW20
    go_enter Tryz.func23, Tryz.ntmps23
    go_wp2_with fail
    refine hun.out.mono ?_
    rintro e w1 ⟨v, rfl, hv, hb1⟩
    have hB1 := hB0.out.below hb1
    obtain ⟨⟨r0, r1, r2⟩, f0, f1, f2⟩ := head_kept hB1.1
    have hset := Lib.hid (hB1.set (.int .i64 0) (.int .i64 0) (.int .i64 0))
    obtain ⟨a9, c9, rfl, _⟩ := hv
    clear hb1 hB1
    go_wp2_with fail
    exact bodyPost_ret (v := .tuple #[.agg #[.int .i64 0, .int .i64 0, .int .i64 0], .int .i64 1]) (by simp [results, Tryz.results23, go_sem, hset.out.1]) rfl ⟨HdRes.mk hr.out rfl rfl rfl rfl, hset.out.2⟩
  obtain ⟨x0, x1, x2, x3, rfl⟩ := four_of hl4
  have hnu := Lib.hid (fun (x : List UInt8) (most : Int) wx (h : x ∈ [x0, x1, x2, x3]) => (by
    have h2 := numberR_any (bs x) most wx (by rw [bs_size]; have := hW20 x h; unfold maxLen; omega)
    rw [bs_list] at h2
    exact h2 : Calls Tryz.prog 64 #[.string (bs x), .int .i64 most] wx fun e w' => e = .returned (.int .i64 (numR x most)) ∧ wx = w'))
  have hn1 := Lib.hid (fun wx => hnu.out x1 60 wx (by simp))
  have hn2 := Lib.hid (fun wx => hnu.out x2 1000000 wx (by simp))
  have hn3 := Lib.hid (fun wx => hnu.out x3 1000000006 wx (by simp))
  have hq1 := numR_ways x1 60
  have hq2 := numR_ways x2 1000000
  have hq3 := numR_ways x3 1000000006
  have hdef : openH k s = if (decide (x0 = headW) && (number x1 60).2 && (number x2 1000000).2 && (number x3 1000000006).2) = true then (⟨(number x1 60).1, (number x2 1000000).1, (number x3 1000000006).1⟩, 0) else (noHd, 1) := hdef
  obtain ⟨y1, z1, h1⟩ : ∃ y z, number x1 60 = (y, z) := ⟨_, _, rfl⟩
  obtain ⟨y2, z2, h2⟩ : ∃ y z, number x2 1000000 = (y, z) := ⟨_, _, rfl⟩
  obtain ⟨y3, z3, h3⟩ : ∃ y z, number x3 1000000006 = (y, z) := ⟨_, _, rfl⟩
  rw [h1, h2, h3] at hdef
  rw [h1] at hq1
  rw [h2] at hq2
  rw [h3] at hq3
  dsimp only at hdef hq1 hq2 hq3
  generalize numR x1 60 = m1 at *
  generalize numR x2 1000000 = m2 at *
  generalize numR x3 1000000006 = m3 at *
  clear hnu hl4 hW20 h1 h2 h3
  have hdH := Lib.hid hdef
  have hq1 := Lib.hid hq1
  have hq2 := Lib.hid hq2
  have hq3 := Lib.hid hq3
  clear hdef
  have hne : (((([x0, x1, x2, x3] : List (List UInt8)).length : Nat) : Int) != 4) = false := by simp
  go_enter Tryz.func23, Tryz.ntmps23
  go_wp2_with fail
  refine hun.out.mono ?_
  rintro e w1 ⟨v, rfl, hv, hb1⟩
  have hB1 := hB0.out.below hb1
  obtain ⟨a9, c9, rfl, _, _, hcs⟩ := hv
  obtain ⟨b9, o9, rfl, c0⟩ := hcs 0 (by simp)
  obtain ⟨_, _, he, c1⟩ := hcs 1 (by simp)
  cases he
  obtain ⟨_, _, he, c2⟩ := hcs 2 (by simp)
  cases he
  obtain ⟨_, _, he, c3⟩ := hcs 3 (by simp)
  cases he
  simp only [List.getElem_cons_zero, List.getElem_cons_succ, Nat.add_zero] at c0 c1 c2 c3
  obtain ⟨⟨r0, r1, r2⟩, f0, f1, f2⟩ := head_kept hB1.1
  have hset := Lib.hid (fun v0 v1 v2 => (hB1.set v0 v1 v2))
  clear hb1 hB1 hcs hun
  have hset0 := Lib.hid (hset.out (.int .i64 0) (.int .i64 0) (.int .i64 0))
  have hset1 := Lib.hid (hset.out (.int .i64 m1) (.int .i64 m2) (.int .i64 m3))
  clear hset
  go_wp2_with fail
  refine (hn1.out _).mono ?_
  rintro e w2 ⟨rfl, rfl⟩
  go_wp2_with fail
  refine (hn2.out _).mono ?_
  rintro e w2 ⟨rfl, rfl⟩
  go_wp2_with fail
  refine (hn3.out _).mono ?_
  rintro e w2 ⟨rfl, rfl⟩
  by_cases hx0 : x0 = headW
  case neg =>
    have hr := hdH.out
    rw [decide_eq_false hx0] at hr
    have hr := Lib.hid (show openH k s = (noHd, 1) from hr)
    have e1 : ((bs x0).toList == [104, 101, 97, 100]) = false := by rw [toList_data, bs_list, beq_eq_false_iff_ne]; exact hx0
    have e2 : ((bs x0).toList != [104, 101, 97, 100]) = true := by rw [bne, e1]; rfl
    clear hx0
    go_wp2_with fail
    exact bodyPost_ret (v := .tuple #[.agg #[.int .i64 0, .int .i64 0, .int .i64 0], .int .i64 1]) (by simp [results, Tryz.results23, go_sem, hset0.out.1]) rfl ⟨HdRes.mk hr.out rfl rfl rfl rfl, hset0.out.2⟩
  have hd2 := hdH.out
  rw [decide_eq_true hx0] at hd2
  have e1 : ((bs x0).toList == [104, 101, 97, 100]) = true := by rw [hx0, toList_data]; rfl
  have e2 : ((bs x0).toList != [104, 101, 97, 100]) = false := by rw [bne, e1]; rfl
  have hd2H := Lib.hid hd2
  clear hx0 hd2 hdH
  rcases hq1.out with ⟨a1, a2, a3⟩ | ⟨a1, a2⟩
  case inr =>
    have hr := hd2H.out
    rw [a1] at hr
    have hr := Lib.hid (show openH k s = (noHd, 1) by simpa using hr)
    have hneg : m1 < 0 := by omega
    clear a1 a2
    go_wp2_with fail
    exact bodyPost_ret (v := .tuple #[.agg #[.int .i64 0, .int .i64 0, .int .i64 0], .int .i64 1]) (by simp [results, Tryz.results23, go_sem, hset0.out.1]) rfl ⟨HdRes.mk hr.out rfl rfl rfl rfl, hset0.out.2⟩
  rcases hq2.out with ⟨b1, b2, b3⟩ | ⟨b1, b2⟩
  case inr =>
    have hr := hd2H.out
    rw [b1] at hr
    have hr := Lib.hid (show openH k s = (noHd, 1) by simpa using hr)
    have hneg : m2 < 0 := by omega
    have hpos : ¬ m1 < 0 := by omega
    clear a1 a2 a3 b1 b2
    go_wp2_with fail
    exact bodyPost_ret (v := .tuple #[.agg #[.int .i64 0, .int .i64 0, .int .i64 0], .int .i64 1]) (by simp [results, Tryz.results23, go_sem, hset0.out.1]) rfl ⟨HdRes.mk hr.out rfl rfl rfl rfl, hset0.out.2⟩
  rcases hq3.out with ⟨d1, d2, d3⟩ | ⟨d1, d2⟩
  case inr =>
    have hr := hd2H.out
    rw [d1] at hr
    have hr := Lib.hid (show openH k s = (noHd, 1) by simpa using hr)
    have hneg : m3 < 0 := by omega
    have hpos : ¬ m1 < 0 := by omega
    have hpos2 : ¬ m2 < 0 := by omega
    clear a1 a2 a3 b1 b2 b3 d1 d2
    go_wp2_with fail
    exact bodyPost_ret (v := .tuple #[.agg #[.int .i64 0, .int .i64 0, .int .i64 0], .int .i64 1]) (by simp [results, Tryz.results23, go_sem, hset0.out.1]) rfl ⟨HdRes.mk hr.out rfl rfl rfl rfl, hset0.out.2⟩
  have hr := hd2H.out
  rw [a1, b1, d1] at hr
  have hr := Lib.hid (show openH k s = (⟨y1, y2, y3⟩, 0) by simpa using hr)
  have hp1 : ¬ m1 < 0 := by omega
  have hp2 : ¬ m2 < 0 := by omega
  have hp3 : ¬ m3 < 0 := by omega
  obtain rfl : m1 = y1 := a2
  obtain rfl : m2 = y2 := b2
  obtain rfl : m3 = y3 := d2
  clear a1 a3 b1 b3 d1 d3
  go_wp2_with fail
  exact bodyPost_ret (v := .tuple #[.agg #[.int .i64 m1, .int .i64 m2, .int .i64 m3], .int .i64 0]) (by simp [results, Tryz.results23, go_sem, hset1.out.1]) rfl ⟨HdRes.mk hr.out rfl rfl rfl rfl, hset1.out.2⟩
end Go.Proofs.YtfbndfkahodheaaGreatDoor
