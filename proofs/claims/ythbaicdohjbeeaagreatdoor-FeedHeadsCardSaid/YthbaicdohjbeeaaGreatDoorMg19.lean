/- FedO, FedG -/
import Derived.Test.YthbaicdohjbeeaaGreatDoorMg11
import Derived.Test.YthbaicdohjbeeaaGreatDoorMg18
import Derived.Test.YthbaicdohjbeeaaGreatDoorMg8
/- feed.Open, feed.Since: walked. -/
namespace Go.Proofs.YthbaicdohjbeeaaGreatDoor
open Go.RowKit

theorem lookW_len (s : List UInt8) : ∀ x ∈ (lookOf s).2.1, x.length ≤ s.length := by
  unfold lookOf
  split
  · intro x hx; cases hx
  · cases hc : lastCut 32 s with
    | none => intro x hx; cases hx
    | some y =>
      obtain ⟨h, t⟩ := y
      obtain ⟨e, _⟩ := lastCut_some 32 s h t hc
      have hl : h.length ≤ s.length := by rw [e]; simp
      dsimp only
      split
      · intro x hx; cases hx
      · split
        · intro x hx; cases hx
        · split
          · intro x hx
            have := cutL_len 32 h x hx
            omega
          · intro x hx; cases hx
theorem openW_len (k : Int) (s : List UInt8) : ∀ x ∈ (openOf k s).1, x.length ≤ s.length := by
  unfold openOf
  split
  · intro x hx; cases hx
  · split
    · split
      · exact lookW_len s
      · intro x hx; cases hx
    · intro x hx; cases hx
def Hd.val (h : Hd) : Value := .agg #[.int .i64 h.seq, .int .i64 h.time, .int .i64 h.sum]
theorem ofHead_len {W : List (List UInt8)} (h : W.length ≠ 4) : ofHead W = (noHd, 1) := by
  match W, h with
  | [], _ => rfl
  | [_], _ => rfl
  | [_, _], _ => rfl
  | [_, _, _], _ => rfl
  | [_, _, _, _], h => exact absurd rfl h
  | _ :: _ :: _ :: _ :: _ :: _, _ => rfl
theorem ofHead_first {a b c d : List UInt8} (h : a ≠ headW) : ofHead [a, b, c, d] = (noHd, 1) := by
  unfold ofHead
  dsimp only
  rw [decide_eq_false h, Bool.false_and, Bool.false_and, Bool.false_and, if_neg (by decide)]
theorem ofHead_nums {b c d : List UInt8} : ofHead [headW, b, c, d] = if ((number b 60).2 && (number c 1000000).2 && (number d 1000000006).2) = true then (⟨(number b 60).1, (number c 1000000).1, (number d 1000000006).1⟩, 0) else (noHd, 1) := by
  unfold ofHead
  dsimp only
  rw [decide_eq_true rfl, Bool.true_and]
theorem row_put3 {w : World} {n : Nat} {u0 u1 u2 : Value} {T : TypeId} (h : w.heap[n]? = some (.cells #[u0, u1, u2] T (0, 0))) (v0 v1 v2 : Value) :
    (((w.setCell ⟨n, 0, none⟩ v0).setCell ⟨n, 1, none⟩ v1).setCell ⟨n, 2, none⟩ v2).heap[n]? = some (.cells #[v0, v1, v2] T (0, 0)) := by
  have h0 := heap_setCell_same _ n 0 _ _ v0 h
  have h1 := heap_setCell_same _ n 1 _ _ v1 h0
  exact heap_setCell_same _ n 2 _ _ v2 h1
theorem below_put3 {B : Nat} {a w : World} (h : Below B a w) {n : Nat} (hn : B ≤ n) (v0 v1 v2 : Value) :
    Below B a (((w.setCell ⟨n, 0, none⟩ v0).setCell ⟨n, 1, none⟩ v1).setCell ⟨n, 2, none⟩ v2) := ((h.setCell hn _).setCell hn _).setCell hn _
theorem head_kept {w1 : World} {n : Nat} {v0 v1 v2 : Value} {T : TypeId} (h1 : w1.heap[n]? = some (.cells #[v0, v1, v2] T (0, 0))) :
    (w1.cell? ⟨n, 0, none⟩ = some v0 ∧ w1.cell? ⟨n, 1, none⟩ = some v1 ∧ w1.cell? ⟨n, 2, none⟩ = some v2) ∧ (w1.frozen? ⟨n, 0, none⟩ = false ∧ w1.frozen? ⟨n, 1, none⟩ = false ∧ w1.frozen? ⟨n, 2, none⟩ = false) := by
  refine ⟨⟨?_, ?_, ?_⟩, ?_, ?_, ?_⟩
  all_goals first
    | (rw [cell_of_row _ _ _ _ _ _ h1]; rfl)
    | exact frozen_of_row _ _ _ _ _ h1
set_option maxHeartbeats 4000000 in
set_option maxRecDepth 100000 in
theorem openF_any {E : Nat → Addr} (k : Int) (s : ByteArray) (w : World) (hL : LaidS E w) (hs : s.size ≤ 1000000) :
    Calls Tryz.prog 9 #[.int .i64 k, .string s] w fun e w' => e = .returned (.tuple #[(openH k s.data.toList).1.val, errV E (openH k s.data.toList).2]) ∧ Below w.heap.size w w' := by
  have hB : Below w.heap.size w (w.alloc (.cells #[.int .i64 0, .int .i64 0, .int .i64 0] 36)) := (Below.refl _ _).alloc (Nat.le_refl _) _
  have hbr := Lib.hid (heap_alloc_new w (.cells #[.int .i64 0, .int .i64 0, .int .i64 0] 36))
  have hso := Lib.hid (open_any (E := E) k s _ (hL.below hB) hs)
  have hBH := Lib.hid hB
  have hLx := Lib.hid (fun wx (hx : Below w.heap.size w wx) => (hL.below hx).laid.e1)
  have hg1 : 3 < w.heap.size := World.block_lt_of_cell? w _ hL.laid.e1
  have hg2 : ¬ (3 = w.heap.size) := by omega
  have hg3 : ¬ (w.heap.size = 3) := by omega
  have hwl := fun x (hx : x ∈ (openOf k s.data.toList).1) => (show x.length ≤ 1000000 from by
    have := openW_len k s.data.toList x hx
    have hl : s.data.toList.length = s.size := Array.length_toList
    omega)
  have hnu := Lib.hid (fun (l : List UInt8) (most : Int) (hl : l.length ≤ 1000000) wx (hx : Below w.heap.size w wx) => number_any (E := E) (bs l) most wx (hL.below hx) (by rw [bs_size]; exact hl))
  have hr0 : openH k s.data.toList = if (openOf k s.data.toList).2 = 0 then ofHead (openOf k s.data.toList).1 else (noHd, (openOf k s.data.toList).2) := rfl
  generalize openH k s.data.toList = p at *
  generalize (openOf k s.data.toList).1 = W at *
  generalize (openOf k s.data.toList).2 = c at *
  clear hB hL
  cases c with
  | succ c =>
    have hr := Lib.hid (hr0.trans (show _ = (noHd, c + 1) from rfl))
    rw [errV_succ] at hso
    clear hr0 hnu hwl
    go_enter Tryz.func9, Tryz.ntmps9
    go_wp2_with fail
    refine hso.out.mono ?_
    rintro e w1 ⟨v, rfl, _, hb⟩
    have hrr := Lib.hid (heap_down hb hbr.out)
    have hb := Lib.hid (below_trans hBH.out hb)
    obtain ⟨⟨r0, r1, r2⟩, f0, f1, f2⟩ := head_kept hrr.out
    have hfin := Lib.hid (below_put3 (n := w.heap.size) hb.out (Nat.le_refl _) (.int .i64 0) (.int .i64 0) (.int .i64 0))
    go_wp2_with fail
    obtain ⟨⟨q0, q1, q2⟩, _⟩ := head_kept (row_put3 hrr.out (.int .i64 0) (.int .i64 0) (.int .i64 0))
    exact bodyPost_ret (v := .tuple #[.agg #[.int .i64 0, .int .i64 0, .int .i64 0], errV E (c + 1)]) (by simp [results, Tryz.results9, go_sem, errV, q0, q1, q2]) rfl ⟨by rw [hr.out]; try rfl, hfin.out⟩
  | zero =>
  have hr := Lib.hid (hr0.trans (show _ = ofHead W from rfl))
  rw [errV_zero] at hso
  clear hr0
  by_cases hl : W.length = 4
  case neg =>
    have hr := Lib.hid (hr.out.trans (ofHead_len hl))
    have hne : ((W.length : Int) != 4) = true := by rw [bne_iff_ne]; omega
    have hlH := Lib.hid hl
    clear hwl hnu hl
    go_enter Tryz.func9, Tryz.ntmps9
    go_wp2_with fail
    refine hso.out.mono ?_
    rintro e w1 ⟨v, rfl, hv, hb⟩
    obtain ⟨a, cp, rfl, hml, _, hcell⟩ := hv
    unfold maxLen at hml
    clear hcell
    have hrr := Lib.hid (heap_down hb hbr.out)
    have hb := Lib.hid (below_trans hBH.out hb)
    have he1 := hLx.out _ hb.out
    simp only [errV] at he1
    obtain ⟨⟨r0, r1, r2⟩, f0, f1, f2⟩ := head_kept hrr.out
    have hfin := Lib.hid (below_put3 (n := w.heap.size) hb.out (Nat.le_refl _) (.int .i64 0) (.int .i64 0) (.int .i64 0))
    go_wp2_with fail
    go_region
    all_goals
      go_wp2_with fail
      obtain ⟨⟨q0, q1, q2⟩, _⟩ := head_kept (row_put3 hrr.out (.int .i64 0) (.int .i64 0) (.int .i64 0))
      exact bodyPost_ret (v := .tuple #[.agg #[.int .i64 0, .int .i64 0, .int .i64 0], errV E 1]) (by simp [results, Tryz.results9, go_sem, errV, q0, q1, q2]) rfl ⟨by rw [hr.out]; rfl, hfin.out.drew⟩
  obtain ⟨a0, a1, a2, a3, rfl⟩ := four_of hl
  clear hl
  have hl1 := hwl a1 (by simp)
  have hl2 := hwl a2 (by simp)
  have hl3 := hwl a3 (by simp)
  have hn1 := Lib.hid (fun wx hx => hnu.out a1 60 hl1 wx hx)
  have hn2 := Lib.hid (fun wx hx => hnu.out a2 1000000 hl2 wx hx)
  have hn3 := Lib.hid (fun wx hx => hnu.out a3 1000000006 hl3 wx hx)
  simp only [bs_list] at hn1 hn2 hn3
  clear hwl hnu hl1 hl2 hl3
  by_cases ha : a0 = headW
  case neg =>
    have hr := Lib.hid (hr.out.trans (ofHead_first ha))
    have hne0 : ((bs a0).toList == [104, 101, 97, 100]) = false := by rw [toList_data, bs_list, beq_eq_false_iff_ne]; exact ha
    have hne : ((bs a0).toList != [104, 101, 97, 100]) = true := by rw [bne, hne0]; rfl
    clear ha hn1 hn2 hn3
    go_enter Tryz.func9, Tryz.ntmps9
    go_wp2_with fail
    refine hso.out.mono ?_
    rintro e w1 ⟨v, rfl, hv, hb⟩
    obtain ⟨a, cp, rfl, hml, hcp, hcell⟩ := hv
    obtain ⟨bb, oo, rfl, c0⟩ := hcell 0 (by simp)
    have c0 : w1.cell? ⟨bb, oo, none⟩ = some (.string (bs a0)) := c0
    have hrr := Lib.hid (heap_down hb hbr.out)
    have hb := Lib.hid (below_trans hBH.out hb)
    have he1 := hLx.out _ hb.out
    simp only [errV] at he1
    clear hcell hml
    simp only [List.length_cons, List.length_nil, Nat.zero_add, Nat.reduceAdd] at hcp
    simp only [List.length_cons, List.length_nil, Nat.zero_add, Nat.reduceAdd]
    obtain ⟨⟨r0, r1, r2⟩, f0, f1, f2⟩ := head_kept hrr.out
    have hfin := Lib.hid (below_put3 (n := w.heap.size) hb.out (Nat.le_refl _) (.int .i64 0) (.int .i64 0) (.int .i64 0))
    go_wp2_with fail
    go_region
    all_goals
      go_wp2_with fail
      obtain ⟨⟨q0, q1, q2⟩, _⟩ := head_kept (row_put3 hrr.out (.int .i64 0) (.int .i64 0) (.int .i64 0))
      exact bodyPost_ret (v := .tuple #[.agg #[.int .i64 0, .int .i64 0, .int .i64 0], errV E 1]) (by simp [results, Tryz.results9, go_sem, errV, q0, q1, q2]) rfl ⟨by rw [hr.out]; rfl, hfin.out.drew⟩
  subst ha
  have hr := Lib.hid (hr.out.trans ofHead_nums)
  have hne0 : ((bs headW).toList == [104, 101, 97, 100]) = true := by rw [toList_data]; rfl
  have hne : ((bs headW).toList != [104, 101, 97, 100]) = false := by rw [bne, hne0]; rfl
  unfold numRes at hn1 hn2 hn3
  generalize number a1 60 = x1 at *
  generalize number a2 1000000 = x2 at *
  generalize number a3 1000000006 = x3 at *
  obtain ⟨n1, o1⟩ := x1
  obtain ⟨n2, o2⟩ := x2
  obtain ⟨n3, o3⟩ := x3
  dsimp only at hn1 hn2 hn3
  obtain ⟨hwb, hhw⟩ : ∃ x, bs headW = x := ⟨_, rfl⟩
  rw [hhw] at hne hne0
  have hhwH := Lib.hid hhw
  clear hhw
  go_enter Tryz.func9, Tryz.ntmps9
  go_wp2_with fail
  refine hso.out.mono ?_
  rintro e w1 ⟨v, rfl, hv, hb⟩
  obtain ⟨a, cp, rfl, hml, hcp, hcell⟩ := hv
  obtain ⟨bb, oo, rfl, c0⟩ := hcell 0 (by simp)
  have c0 : w1.cell? ⟨bb, oo, none⟩ = some (.string (bs headW)) := c0
  rw [hhwH.out] at c0
  have c1 : w1.cell? ⟨bb, oo + 1, none⟩ = some (.string (bs a1)) := by obtain ⟨b', o', he, hc⟩ := hcell 1 (by simp); cases he; exact hc
  have c2 : w1.cell? ⟨bb, oo + 2, none⟩ = some (.string (bs a2)) := by obtain ⟨b', o', he, hc⟩ := hcell 2 (by simp); cases he; exact hc
  have c3 : w1.cell? ⟨bb, oo + 3, none⟩ = some (.string (bs a3)) := by obtain ⟨b', o', he, hc⟩ := hcell 3 (by simp); cases he; exact hc
  have hrr1 := Lib.hid (heap_down hb hbr.out)
  have hb1 := Lib.hid (below_trans hBH.out hb)
  have c2H := Lib.hid c2
  have c3H := Lib.hid c3
  clear hcell hml c2 c3 hb
  simp only [List.length_cons, List.length_nil, Nat.zero_add, Nat.reduceAdd] at hcp
  simp only [List.length_cons, List.length_nil, Nat.zero_add, Nat.reduceAdd]
  go_wp2_with fail
  refine (hn1.out _ hb1.out).mono ?_
  rintro e w2 ⟨rfl, hb2⟩
  have c2 := cell_below hb2 c2H.out
  have c3H := Lib.hid (cell_below hb2 c3H.out)
  have hrr2 := Lib.hid (heap_down hb2 hrr1.out)
  have hb2H := Lib.hid (below_trans hb1.out hb2)
  clear hb2 c0 c1
  go_wp2_with fail
  refine (hn2.out _ hb2H.out).mono ?_
  rintro e w3 ⟨rfl, hb3⟩
  have c3 := cell_below hb3 c3H.out
  have hrr3 := Lib.hid (heap_down hb3 hrr2.out)
  have hb3H := Lib.hid (below_trans hb2H.out hb3)
  clear hb3 c2
  go_wp2_with fail
  refine (hn3.out _ hb3H.out).mono ?_
  rintro e w4 ⟨rfl, hb4⟩
  have hrr := Lib.hid (heap_down hb4 hrr3.out)
  have hb := Lib.hid (below_trans hb3H.out hb4)
  have he1 := hLx.out _ hb.out
  simp only [errV] at he1
  clear hb4 c3
  cases o1 with
  | false =>
    have hr := Lib.hid (hr.out.trans (if_neg (by simp)))
    obtain ⟨⟨r0, r1, r2⟩, f0, f1, f2⟩ := head_kept hrr.out
    have hfin := Lib.hid (below_put3 (n := w.heap.size) hb.out (Nat.le_refl _) (.int .i64 0) (.int .i64 0) (.int .i64 0))
    go_wp2_with fail
    go_region
    all_goals
      go_wp2_with fail
      obtain ⟨⟨q0, q1, q2⟩, _⟩ := head_kept (row_put3 hrr.out (.int .i64 0) (.int .i64 0) (.int .i64 0))
      exact bodyPost_ret (v := .tuple #[.agg #[.int .i64 0, .int .i64 0, .int .i64 0], errV E 1]) (by simp [results, Tryz.results9, go_sem, errV, q0, q1, q2]) rfl ⟨by rw [hr.out]; rfl, hfin.out.drew⟩
  | true =>
  cases o2 with
  | false =>
    have hr := Lib.hid (hr.out.trans (if_neg (by simp)))
    obtain ⟨⟨r0, r1, r2⟩, f0, f1, f2⟩ := head_kept hrr.out
    have hfin := Lib.hid (below_put3 (n := w.heap.size) hb.out (Nat.le_refl _) (.int .i64 0) (.int .i64 0) (.int .i64 0))
    go_wp2_with fail
    go_region
    all_goals
      go_wp2_with fail
      obtain ⟨⟨q0, q1, q2⟩, _⟩ := head_kept (row_put3 hrr.out (.int .i64 0) (.int .i64 0) (.int .i64 0))
      exact bodyPost_ret (v := .tuple #[.agg #[.int .i64 0, .int .i64 0, .int .i64 0], errV E 1]) (by simp [results, Tryz.results9, go_sem, errV, q0, q1, q2]) rfl ⟨by rw [hr.out]; rfl, hfin.out.drew⟩
  | true =>
  cases o3 with
  | false =>
    have hr := Lib.hid (hr.out.trans (if_neg (by simp)))
    obtain ⟨⟨r0, r1, r2⟩, f0, f1, f2⟩ := head_kept hrr.out
    have hfin := Lib.hid (below_put3 (n := w.heap.size) hb.out (Nat.le_refl _) (.int .i64 0) (.int .i64 0) (.int .i64 0))
    go_wp2_with fail
    go_region
    all_goals
      go_wp2_with fail
      obtain ⟨⟨q0, q1, q2⟩, _⟩ := head_kept (row_put3 hrr.out (.int .i64 0) (.int .i64 0) (.int .i64 0))
      exact bodyPost_ret (v := .tuple #[.agg #[.int .i64 0, .int .i64 0, .int .i64 0], errV E 1]) (by simp [results, Tryz.results9, go_sem, errV, q0, q1, q2]) rfl ⟨by rw [hr.out]; rfl, hfin.out.drew⟩
  | true =>
    have hr := Lib.hid (hr.out.trans (if_pos (by simp)))
    obtain ⟨⟨r0, r1, r2⟩, f0, f1, f2⟩ := head_kept hrr.out
    have hfin := Lib.hid (below_put3 (n := w.heap.size) hb.out (Nat.le_refl _) (.int .i64 n1) (.int .i64 n2) (.int .i64 n3))
    go_wp2_with fail
    obtain ⟨⟨q0, q1, q2⟩, _⟩ := head_kept (row_put3 hrr.out (.int .i64 n1) (.int .i64 n2) (.int .i64 n3))
    exact bodyPost_ret (v := .tuple #[.agg #[.int .i64 n1, .int .i64 n2, .int .i64 n3], .nilIface]) (by simp [results, Tryz.results9, go_sem, q0, q1, q2]) rfl ⟨by rw [hr.out]; try rfl, hfin.out⟩
theorem sinceE_check {L : List Ent} {seq : Int} (h : (checkE L).1 ≠ 0) : sinceE L seq = ([], (checkE L).1, (checkE L).2) := by unfold sinceE; rw [if_pos h]
theorem sinceE_neg {L : List Ent} {seq : Int} (h : (checkE L).1 = 0) (h1 : seq < 0) : sinceE L seq = ([], 2, -1) := by unfold sinceE; rw [if_neg (by simpa using h), if_pos h1]
theorem sinceE_far {L : List Ent} {seq : Int} (h : (checkE L).1 = 0) (h1 : ¬ seq < 0) (h2 : (L.length : Int) < seq) : sinceE L seq = ([], 15, -1) := by unfold sinceE; rw [if_neg (by simpa using h), if_neg h1, if_pos h2]
theorem sinceE_good {L : List Ent} (n : Nat) (h : (checkE L).1 = 0) (h2 : n ≤ L.length) : sinceE L n = (L.drop n, 0, -1) := by unfold sinceE; rw [if_neg (by simpa using h), if_neg (by omega), if_neg (by omega)]; rfl
set_option maxHeartbeats 4000000 in
set_option maxRecDepth 100000 in
theorem since_ent {E : Nat → Addr} (v : Value) (L : List Ent) (seq : Int) (w : World) (hL : Laid E w) (hv : EntsAt w v L) (hm : ∀ e ∈ L, e.f.who.length ≤ maxLen) :
    Calls Tryz.prog 11 #[v, .int .i64 seq] w fun e w' => EntRes E w.heap.size w' (sinceE L seq) e ∧ Below w.heap.size w w' := by
  have hck := Lib.hid (check_ent (E := E) v L w hL hv hm)
  have hlen := AtG.len hv
  unfold maxLen at hlen
  obtain ⟨a0, c0, hv0⟩ := AtG.sl hv
  subst hv0
  have he2 := Lib.hid (fun wx (hx : Below w.heap.size w wx) => (hL.below hx).e2)
  have he15 := Lib.hid (fun wx (hx : Below w.heap.size w wx) => (hL.below hx).e15)
  have hvH := Lib.hid hv
  clear hv hm hL
  by_cases hc0 : (checkE L).1 = 0
  case neg =>
    have hr := Lib.hid (sinceE_check (seq := seq) hc0)
    have hc0H := Lib.hid hc0
    clear hc0
    go_enter Tryz.func11, Tryz.ntmps11
    go_wp2_with fail
    refine hck.out.mono ?_
    rintro e w1 ⟨ev, rfl, he, hb1⟩
    obtain ⟨T, x, rfl⟩ := he.iface hc0H.out
    have he := Lib.hid he
    have hb1 := Lib.hid hb1
    go_wp2_with fail
    go_ret2
    exact ⟨EntRes.mk hr.out (EntRow.nil _ _) he.out, hb1.out⟩
  have hc0H := Lib.hid hc0
  have hl60 := (checkE_zero hc0).1
  clear hc0
  by_cases h1 : seq < 0
  · have hr := Lib.hid (sinceE_neg hc0H.out h1)
    go_enter Tryz.func11, Tryz.ntmps11
    go_wp2_with fail
    refine hck.out.mono ?_
    rintro e w1 ⟨ev, rfl, he, hb1⟩
    obtain ⟨rfl, _⟩ := he.zero hc0H.out
    have hx := he2.out _ hb1
    simp only [errV] at hx
    have hb1 := Lib.hid hb1
    clear he
    go_wp2_with fail
    go_quiet (fail)
    go_wp2_with fail
    go_ret2
    exact ⟨EntRes.mk hr.out (EntRow.nil _ _) (ErrAt.bare 2), below_drawn hb1.out _⟩
  by_cases h2 : (L.length : Int) < seq
  · have hr := Lib.hid (sinceE_far hc0H.out h1 h2)
    go_enter Tryz.func11, Tryz.ntmps11
    go_wp2_with fail
    refine hck.out.mono ?_
    rintro e w1 ⟨ev, rfl, he, hb1⟩
    obtain ⟨rfl, _⟩ := he.zero hc0H.out
    have hx := he15.out _ hb1
    simp only [errV] at hx
    have hb1 := Lib.hid hb1
    clear he
    go_wp2_with fail
    go_quiet (fail)
    go_wp2_with fail
    go_ret2
    exact ⟨EntRes.mk hr.out (EntRow.nil _ _) (ErrAt.bare 15), below_drawn hb1.out _⟩
  obtain ⟨n, rfl⟩ : ∃ n : Nat, seq = n := ⟨seq.toNat, by omega⟩
  have hn : n ≤ L.length := by omega
  have hr := Lib.hid (sinceE_good n hc0H.out hn)
  have hcap : L.length ≤ c0 := by
    obtain ⟨_, _, he, _, h, _⟩ := hvH.out
    cases he
    exact h
  have hcl := Lib.hid (fun wx (hx : Below w.heap.size w wx) => clone_ent _ (L.drop n) wx (AtG.drop (AtG.below hvH.out hx) hn) (by rw [List.length_drop]; omega))
  by_cases hcn : c0 = n
  · subst hcn
    have hl0 : L.length - c0 = 0 := by omega
    simp only [if_pos, Nat.sub_self, hl0] at hcl
    have hcl := Lib.hid hcl.out
    clear hl0
    go_enter Tryz.func11, Tryz.ntmps11
    go_wp2_with fail
    refine hck.out.mono ?_
    rintro e w1 ⟨ev, rfl, he, hb1⟩
    obtain ⟨rfl, _⟩ := he.zero hc0H.out
    have hb1 := Lib.hid hb1
    clear he
    go_wp2_with fail
    refine (hcl.out _ hb1.out).mono ?_
    rintro e w2 ⟨v2, rfl, hrow2, hb2⟩
    have hrow2 := Lib.hid (RowG.mono hrow2 (base' := w.heap.size) hb1.out.size)
    have hb2 := Lib.hid (below_trans hb1.out hb2)
    go_wp2_with fail
    go_ret2
    exact ⟨EntRes.mk hr.out hrow2.out (ErrAt.bare 0), hb2.out⟩
  · simp only [if_neg hcn] at hcl
    have hcl := Lib.hid hcl.out
    go_enter Tryz.func11, Tryz.ntmps11
    go_wp2_with fail
    refine hck.out.mono ?_
    rintro e w1 ⟨ev, rfl, he, hb1⟩
    obtain ⟨rfl, _⟩ := he.zero hc0H.out
    have hb1 := Lib.hid hb1
    clear he
    go_wp2_with fail
    refine (hcl.out _ hb1.out).mono ?_
    rintro e w2 ⟨v2, rfl, hrow2, hb2⟩
    have hrow2 := Lib.hid (RowG.mono hrow2 (base' := w.heap.size) hb1.out.size)
    have hb2 := Lib.hid (below_trans hb1.out hb2)
    go_wp2_with fail
    go_ret2
    exact ⟨EntRes.mk hr.out hrow2.out (ErrAt.bare 0), hb2.out⟩
end Go.Proofs.YthbaicdohjbeeaaGreatDoor

/- LongEntries, OwnEntries, SameEntries: walked. -/
namespace Go.Proofs.YthbaicdohjbeeaaGreatDoor
open Go.RowKit

def longE (L : List Ent) : Bool := (decide (30 < L.length) && !decide (L.length = 60) && !decide (L.length = 61)) || L.any fun e => decide (20 < e.f.who.length)
def longEI (L : List Ent) : Int := if longE L = true then 1 else 0
theorem longE_false {L : List Ent} (h : longE L = false) : L.length ≤ 61 ∧ ∀ e ∈ L, e.f.who.length ≤ 20 := by
  unfold longE at h
  rw [Bool.or_eq_false_iff, List.any_eq_false] at h
  refine ⟨?_, fun f hf => ?_⟩
  · by_cases h1 : 30 < L.length
    · by_cases h2 : L.length = 60
      · omega
      · by_cases h3 : L.length = 61
        · omega
        · have := h.1
          simp [h1, h2, h3] at this
    · omega
  · have := h.2 f hf
    simp at this
    exact this
theorem longE_low {L : List Ent} (h : ¬ (30 < L.length ∧ L.length ≠ 60 ∧ L.length ≠ 61)) : longE L = L.any fun e => decide (20 < e.f.who.length) := by
  unfold longE
  by_cases h1 : 30 < L.length
  · by_cases h2 : L.length = 60
    · simp [h2]
    · by_cases h3 : L.length = 61
      · simp [h3]
      · exact absurd ⟨h1, h2, h3⟩ h
  · simp [h1]
set_option maxHeartbeats 1000000 in
set_option maxRecDepth 100000 in
theorem long_ent (x : Value) (A : List Ent) (w : World) (hx : EntsAt w x A) (hm : ∀ e ∈ A, e.f.who.length ≤ maxLen) :
    Calls Tryz.prog 5 #[x] w fun e w' => e = .returned (.int .i64 (longEI A)) ∧ Below w.heap.size w w' := by
  obtain ⟨a, c, rfl, hml, _, ha⟩ := EntsAt.get hx
  clear hx
  unfold maxLen at hml
  by_cases h80 : 30 < A.length ∧ A.length ≠ 60 ∧ A.length ≠ 61
  · have hr := Lib.hid (show longEI A = 1 by unfold longEI longE; rw [decide_eq_true h80.1, decide_eq_false h80.2.1, decide_eq_false h80.2.2]; rfl)
    obtain ⟨g1, g2, g3⟩ := h80
    have n2 : ((A.length : Int) != 60) = true := by rw [bne_iff_ne]; omega
    have n3 : ((A.length : Int) != 61) = true := by rw [bne_iff_ne]; omega
    clear g2 g3
    go_enter Tryz.func5, Tryz.ntmps5
    go_wp2_with fail
    go_ret
    exact ⟨ret_int hr.out.symm, Below.refl _ _⟩
  · have hr := Lib.hid (longE_low h80)
    have h80H := Lib.hid h80
    clear h80
    go_enter Tryz.func5, Tryz.ntmps5
    have hgo : Hid (¬ (30 < A.length) ∨ (30 < A.length ∧ A.length = 60) ∨ (30 < A.length ∧ A.length = 61)) := Lib.hid (by
      have := h80H.out
      omega)
    rcases hgo.out with g1 | ⟨g1, g2⟩ | ⟨g1, g2⟩
    · have g1i : ¬ ((30 : Int) < (A.length : Int)) := by omega
      clear g1
      go_wp2_with fail
      go_loopw [3] (fun i wr => ∃ j : Nat, j ≤ A.length ∧ i = .int .i64 j ∧ wr = w ∧ ∀ q (h : q < A.length), q < j → ¬ (20 < A[q].f.who.length)) (fun i _ => A.length - (intOf i).toNat)
      case atStart => exact ⟨0, Nat.zero_le _, rfl, rfl, fun q _ h => by omega⟩
      case round =>
        obtain ⟨j, hj, rfl, rfl, hall⟩ := hrel
        have hall := Lib.hid hall
        by_cases hlt : j < A.length
        · obtain ⟨b, o, rfl, d0, d1, h0, d3⟩ := ha j hlt
          clear d0 d1 d3
          have hs0 := bs_size A[j].f.who
          have hmem := List.getElem_mem hlt
          have h4 := hm _ hmem
          unfold maxLen at h4
          by_cases hk : 20 < A[j].f.who.length
          · have hr2 := Lib.hid (show longEI A = 1 by unfold longEI; rw [hr.out, if_pos (by rw [List.any_eq_true]; exact ⟨_, hmem, decide_eq_true hk⟩)])
            clear hmem
            go_wp2
            go_ret
            exact ⟨ret_int hr2.out.symm, Below.refl _ _⟩
          · clear hmem
            have hall2 := Lib.hid (show ∀ q (h : q < A.length), q < j + 1 → ¬ (20 < A[q].f.who.length) from fun q h hq => by
              rcases Nat.lt_succ_iff_lt_or_eq.1 hq with h' | rfl
              · exact hall.out q h h'
              · exact hk)
            go_wp2
            exact ⟨⟨j + 1, by omega, by simp, trivial, hall2.out⟩, by simp [intOf]; omega⟩
        · have hr2 := Lib.hid (show longEI A = 0 by
            unfold longEI
            rw [hr.out, if_neg]
            rw [List.any_eq_true]
            rintro ⟨y, hy, h⟩
            obtain ⟨q, hq, rfl⟩ := List.getElem_of_mem hy
            exact hall.out q hq (by omega) (of_decide_eq_true h))
          go_wp2
          go_ret
          exact ⟨ret_int hr2.out.symm, Below.refl _ _⟩
    · have g1i : (30 : Int) < (A.length : Int) := by omega
      have g2i : ((A.length : Int) != 60) = false := by rw [g2]; rfl
      clear g1 g2
      go_wp2_with fail
      go_loopw [3] (fun i wr => ∃ j : Nat, j ≤ A.length ∧ i = .int .i64 j ∧ wr = w ∧ ∀ q (h : q < A.length), q < j → ¬ (20 < A[q].f.who.length)) (fun i _ => A.length - (intOf i).toNat)
      case atStart => exact ⟨0, Nat.zero_le _, rfl, rfl, fun q _ h => by omega⟩
      case round =>
        obtain ⟨j, hj, rfl, rfl, hall⟩ := hrel
        have hall := Lib.hid hall
        by_cases hlt : j < A.length
        · obtain ⟨b, o, rfl, d0, d1, h0, d3⟩ := ha j hlt
          clear d0 d1 d3
          have hs0 := bs_size A[j].f.who
          have hmem := List.getElem_mem hlt
          have h4 := hm _ hmem
          unfold maxLen at h4
          by_cases hk : 20 < A[j].f.who.length
          · have hr2 := Lib.hid (show longEI A = 1 by unfold longEI; rw [hr.out, if_pos (by rw [List.any_eq_true]; exact ⟨_, hmem, decide_eq_true hk⟩)])
            clear hmem
            go_wp2
            go_ret
            exact ⟨ret_int hr2.out.symm, Below.refl _ _⟩
          · clear hmem
            have hall2 := Lib.hid (show ∀ q (h : q < A.length), q < j + 1 → ¬ (20 < A[q].f.who.length) from fun q h hq => by
              rcases Nat.lt_succ_iff_lt_or_eq.1 hq with h' | rfl
              · exact hall.out q h h'
              · exact hk)
            go_wp2
            exact ⟨⟨j + 1, by omega, by simp, trivial, hall2.out⟩, by simp [intOf]; omega⟩
        · have hr2 := Lib.hid (show longEI A = 0 by
            unfold longEI
            rw [hr.out, if_neg]
            rw [List.any_eq_true]
            rintro ⟨y, hy, h⟩
            obtain ⟨q, hq, rfl⟩ := List.getElem_of_mem hy
            exact hall.out q hq (by omega) (of_decide_eq_true h))
          go_wp2
          go_ret
          exact ⟨ret_int hr2.out.symm, Below.refl _ _⟩
    · have g1i : (30 : Int) < (A.length : Int) := by omega
      have g2i : ((A.length : Int) != 60) = true := by rw [g2]; rfl
      have g3i : ((A.length : Int) != 61) = false := by rw [g2]; rfl
      clear g1 g2
      go_wp2_with fail
      go_loopw [3] (fun i wr => ∃ j : Nat, j ≤ A.length ∧ i = .int .i64 j ∧ wr = w ∧ ∀ q (h : q < A.length), q < j → ¬ (20 < A[q].f.who.length)) (fun i _ => A.length - (intOf i).toNat)
      case atStart => exact ⟨0, Nat.zero_le _, rfl, rfl, fun q _ h => by omega⟩
      case round =>
        obtain ⟨j, hj, rfl, rfl, hall⟩ := hrel
        have hall := Lib.hid hall
        by_cases hlt : j < A.length
        · obtain ⟨b, o, rfl, d0, d1, h0, d3⟩ := ha j hlt
          clear d0 d1 d3
          have hs0 := bs_size A[j].f.who
          have hmem := List.getElem_mem hlt
          have h4 := hm _ hmem
          unfold maxLen at h4
          by_cases hk : 20 < A[j].f.who.length
          · have hr2 := Lib.hid (show longEI A = 1 by unfold longEI; rw [hr.out, if_pos (by rw [List.any_eq_true]; exact ⟨_, hmem, decide_eq_true hk⟩)])
            clear hmem
            go_wp2
            go_ret
            exact ⟨ret_int hr2.out.symm, Below.refl _ _⟩
          · clear hmem
            have hall2 := Lib.hid (show ∀ q (h : q < A.length), q < j + 1 → ¬ (20 < A[q].f.who.length) from fun q h hq => by
              rcases Nat.lt_succ_iff_lt_or_eq.1 hq with h' | rfl
              · exact hall.out q h h'
              · exact hk)
            go_wp2
            exact ⟨⟨j + 1, by omega, by simp, trivial, hall2.out⟩, by simp [intOf]; omega⟩
        · have hr2 := Lib.hid (show longEI A = 0 by
            unfold longEI
            rw [hr.out, if_neg]
            rw [List.any_eq_true]
            rintro ⟨y, hy, h⟩
            obtain ⟨q, hq, rfl⟩ := List.getElem_of_mem hy
            exact hall.out q hq (by omega) (of_decide_eq_true h))
          go_wp2
          go_ret
          exact ⟨ret_int hr2.out.symm, Below.refl _ _⟩
set_option maxRecDepth 100000 in
theorem own_ent (v : Value) (F : List Ent) (w : World) (hv : EntsAt w v F) (hl : F.length ≤ 1000) :
    Calls Tryz.prog 12 #[v] w fun e w' => ∃ v', e = .returned v' ∧ EntRow w' w.heap.size v' F ∧ Below w.heap.size w w' := by
  have hvH := Lib.hid hv
  obtain ⟨a, c, rfl⟩ := EntsAt.sl hv
  clear hv
  go_enter Tryz.func12, Tryz.ntmps12
  go_wp2_with (at_builtin; refine wpList_appG entC _ rfl _ _ 22 rfl 48 (.agg #[.int .i64 0, .int .i64 0, .string ⟨#[]⟩, .int .i64 0]) 40 Tryz.underlying22 info_ent rfl (by decide) w.heap.size _ [] rfl (RowG.nil _ _ _) _ F rfl hvH.out (by simp; omega) (Nat.le_refl _) ?_)
  intro v6 w6 hown6 hb6 _ _
  have hfin := Lib.hid (show EntRow w6 w.heap.size v6 F ∧ Below w.heap.size w w6 from And.intro hown6 hb6)
  obtain ⟨a6, c6, hv6⟩ := hown6.sl
  subst hv6
  clear hown6 hb6
  go_wp2_with fail
  go_ret
  exact ⟨_, rfl, hfin.out.1, hfin.out.2⟩
set_option maxHeartbeats 1000000 in
set_option maxRecDepth 100000 in
theorem same_ent (x y : Value) (L : List Ent) (w : World) (hx : EntsAt w x L) (hy : EntsAt w y L) :
    Calls Tryz.prog 13 #[x, y] w fun e w' => e = .returned (.bool true) ∧ Below w.heap.size w w' := by
  obtain ⟨a, c, rfl, hm, _, ha⟩ := EntsAt.get hx
  obtain ⟨a2, c2, rfl, _, _, ha2⟩ := EntsAt.get hy
  clear hx hy
  unfold maxLen at hm
  go_enter Tryz.func13, Tryz.ntmps13
  go_wp2_with fail
  go_loopw [5] (fun i wr => ∃ j n : Nat, j ≤ L.length ∧ i = .int .i64 j ∧ wr = w.drewN n) (fun i _ => L.length - (intOf i).toNat)
  case atStart => exact ⟨0, 0, Nat.zero_le _, rfl, rfl⟩
  case round =>
    obtain ⟨j, n, hj, rfl, rfl⟩ := hrel
    by_cases hlt : j < L.length
    · obtain ⟨b, o, rfl, d0, d1, d2, d3⟩ := ha j hlt
      obtain ⟨b2, o2, rfl, k0, k1, k2, k3⟩ := ha2 j hlt
      go_wp2
      go_quiet (fail)
      go_wp2
      exact ⟨⟨j + 1, _, by omega, by simp, rfl⟩, by simp [intOf]; omega⟩
    · have hje : j = L.length := by omega
      subst hje
      go_wp2
      go_ret
      exact ⟨rfl, below_drawn (Below.refl _ _) _⟩
end Go.Proofs.YthbaicdohjbeeaaGreatDoor
