/- News, NewsA, Moves -/
import Derived.Test.YtfbndfkahodheaaGreatDoorMg32
import Derived.Test.YtfbndfkahodheaaGreatDoorMg23
import Derived.Test.YtfbndfkahodheaaGreatDoorMg22
import Derived.Deep.CutRange
import Derived.Deep.CutBlock
import Derived.Deep.RegionHeld3
import Derived.Test.YtfbndfkahodheaaGreatDoorMg8
import Derived.Test.YtfbndfkahodheaaGreatDoorMg26
/- News of a feed: NewsOf, longNews: walked; news that came in. -/
namespace Go.Proofs.YtfbndfkahodheaaGreatDoor
open Go.RowKit

theorem drew_heap (w : World) : w.drew.heap = w.heap := rfl
theorem new_down {w w' : World} {o : Obj} (hb : Below (w.alloc o).heap.size (w.alloc o) w') : w'.heap[w.heap.size]? = some o := heap_down hb (heap_alloc_new w o)
theorem new_downD {w w' : World} {o : Obj} (hb : Below (w.alloc o).drew.heap.size (w.alloc o).drew w') : w'.heap[w.heap.size]? = some o := heap_down hb (show (w.alloc o).heap[w.heap.size]? = some o from heap_alloc_new w o)
def News.val (n : News) : Value := .agg #[.int .i64 n.many, .int .i64 n.frm, .int .i64 n.time, .int .i64 n.key, .string (bs n.text)]
/-- What is answered: a text, entries. -/
def NewsRes (w' : World) (hd : List UInt8) (M : List Ent) (e : Ending) : Prop := ∃ v', e = .returned (.tuple #[.string (bs hd), v']) ∧ EntsAt w' v' M
theorem NewsRes.mk {w' : World} {hd H : List UInt8} {M : List Ent} {v : Value} {x : ByteArray} (h : hd = H) (hx : x = bs H) (hv : EntsAt w' v M) : NewsRes w' hd M (.returned (.tuple #[.string x, v])) := by
  subst h hx
  exact ⟨v, rfl, hv⟩
set_option maxHeartbeats 8000000 in
set_option maxRecDepth 100000 in
theorem newsOf_any (v : Value) (L : List Ent) (n : News) (w : World) (hv : EntsAt w v L) (hm : ∀ e ∈ L, e.f.who.length ≤ maxLen) (hl : L.length ≤ 1000) (ht : n.text.length ≤ maxLen) :
    Calls Tryz.prog 29 #[v, n.val] w fun e w' => NewsRes w' (newsHead L n) (newsEnts L n) e ∧ Below w.heap.size w w' := by
  have hvH := Lib.hid (fun wx (hx : Below w.heap.size w wx) => (show EntsAt wx v L from AtG.below hv hx))
  obtain ⟨a0, c0, hv0⟩ := AtG.sl hv
  have hcap : L.length ≤ c0 := by
    obtain ⟨_, _, he, _, h, _⟩ := hv
    rw [hv0] at he
    cases he
    exact h
  have hmu : newsMany L n = if n.many < 0 ∨ (L.length : Int) < n.many then L.length else n.many.toNat := rfl
  have hfu : newsFrom L n = if n.frm < 0 ∨ (newsMany L n : Int) < n.frm then newsMany L n else n.frm.toNat := rfl
  have hml := newsMany_le L n
  have hfl := newsFrom_le L n
  have hhu : newsHead L n = if n.text = [] then (headOf n.key (L.take (newsMany L n)) n.time).1 else n.text := rfl
  have heu : newsEnts L n = (L.take (newsMany L n)).drop (newsFrom L n) := rfl
  obtain ⟨mn, fr, tm, ky, tx⟩ := n
  dsimp only [News.val] at *
  generalize newsMany L ⟨mn, fr, tm, ky, tx⟩ = m at *
  generalize newsFrom L ⟨mn, fr, tm, ky, tx⟩ = f at *
  generalize newsHead L ⟨mn, fr, tm, ky, tx⟩ = hd at *
  generalize newsEnts L ⟨mn, fr, tm, ky, tx⟩ = M at *
  have hmH := Lib.hid hm
  have heuH := Lib.hid heu
  have hhuH := Lib.hid hhu
  have hbox := heap_alloc_new w (.cells #[.int .i64 mn, .int .i64 fr, .int .i64 tm, .int .i64 ky, .string (bs tx)] 73)
  have hB0 : Below w.heap.size w (w.alloc (.cells #[.int .i64 mn, .int .i64 fr, .int .i64 tm, .int .i64 ky, .string (bs tx)] 73)) := (Below.refl _ _).alloc (Nat.le_refl _) _
  have hboxH := Lib.hid hbox
  have hB0H := Lib.hid hB0
  have hmuH := Lib.hid hmu
  have hfuH := Lib.hid hfu
  clear hm hv hmu hfu hB0 hbox heu hhu
  subst hv0
  go_enter Tryz.func29, Tryz.ntmps29
  go_upto_region 2 with fail
  generalize hW : w.alloc (.cells #[.int .i64 mn, .int .i64 fr, .int .i64 tm, .int .i64 ky, .string (bs tx)] 73) = W at *
  obtain ⟨⟨k0, k1, k2, k3, k4⟩, hfz⟩ := fol_cells hboxH.out
  clear hW hfz
  go_cut [19] from 12 to 19 (fun s19 wx => s19 = .bool (decide (mn < 0 ∨ (L.length : Int) < mn)) ∧ W = wx)
  case first =>
    by_cases h1 : mn < 0
    · have hm1 := Lib.hid (show decide (mn < 0 ∨ (L.length : Int) < mn) = true from decide_eq_true (.inl h1))
      go_wp2_with fail
      go_meet
      exact ⟨by rw [hm1.out], rfl⟩
    by_cases h2 : (L.length : Int) < mn
    · have hm1 := Lib.hid (show decide (mn < 0 ∨ (L.length : Int) < mn) = true from decide_eq_true (.inr h2))
      go_wp2_with fail
      go_meet
      exact ⟨by rw [hm1.out], rfl⟩
    · have hm1 := Lib.hid (show decide (mn < 0 ∨ (L.length : Int) < mn) = false from decide_eq_false (by omega))
      go_wp2_with fail
      go_meet
      exact ⟨by rw [hm1.out], rfl⟩
  obtain ⟨rfl, rfl⟩ := hcut
  have hb1 : ∃ b, decide (mn < 0 ∨ (L.length : Int) < mn) = b := ⟨_, rfl⟩
  obtain ⟨b19, hb1⟩ := hb1
  rw [hb1]
  have hb1 := Lib.hid hb1
  go_upto_if 19 with fail
  go_cut [6] from 20 to 21 (fun s6 wx => s6 = .int .i64 m ∧ W = wx)
  case first =>
    cases b19 with
    | true =>
      have hm1 := Lib.hid (show m = L.length by rw [hmuH.out, if_pos (of_decide_eq_true hb1.out)])
      go_wp2_with fail
      go_meet
      exact ⟨by rw [hm1.out], rfl⟩
    | false =>
      have hm1 := Lib.hid (show (m : Int) = mn by
        have := of_decide_eq_false hb1.out
        rw [hmuH.out, if_neg this]; omega)
      go_wp2_with fail
      go_meet
      exact ⟨by rw [hm1.out], rfl⟩
  obtain ⟨rfl, rfl⟩ := hcut
  clear hb1 hmuH
  go_upto_region 5 with fail
  go_cut [30] from 24 to 30 (fun s30 wx => s30 = .bool (decide (fr < 0 ∨ (m : Int) < fr)) ∧ W = wx)
  case first =>
    by_cases h1 : fr < 0
    · have hm1 := Lib.hid (show decide (fr < 0 ∨ (m : Int) < fr) = true from decide_eq_true (.inl h1))
      go_wp2_with fail
      go_meet
      exact ⟨by rw [hm1.out], rfl⟩
    by_cases h2 : (m : Int) < fr
    · have hm1 := Lib.hid (show decide (fr < 0 ∨ (m : Int) < fr) = true from decide_eq_true (.inr h2))
      go_wp2_with fail
      go_meet
      exact ⟨by rw [hm1.out], rfl⟩
    · have hm1 := Lib.hid (show decide (fr < 0 ∨ (m : Int) < fr) = false from decide_eq_false (by omega))
      go_wp2_with fail
      go_meet
      exact ⟨by rw [hm1.out], rfl⟩
  obtain ⟨rfl, rfl⟩ := hcut
  have hb1 : ∃ b, decide (fr < 0 ∨ (m : Int) < fr) = b := ⟨_, rfl⟩
  obtain ⟨b30, hb1⟩ := hb1
  rw [hb1]
  have hb1 := Lib.hid hb1
  go_upto_if 30 with fail
  go_cut [7] from 31 to 31 (fun s7 wx => s7 = .int .i64 f ∧ W = wx)
  case first =>
    cases b30 with
    | true =>
      have hm1 := Lib.hid (show f = m by rw [hfuH.out, if_pos (of_decide_eq_true hb1.out)])
      go_wp2_with fail
      go_meet
      exact ⟨by rw [hm1.out], rfl⟩
    | false =>
      have hm1 := Lib.hid (show (f : Int) = fr by
        have := of_decide_eq_false hb1.out
        rw [hfuH.out, if_neg this]; omega)
      go_wp2_with fail
      go_meet
      exact ⟨by rw [hm1.out], rfl⟩
  obtain ⟨rfl, rfl⟩ := hcut
  clear hb1 hfuH
  have hcm : m ≤ c0 := Nat.le_trans hml hcap
  have hhd := Lib.hid (fun wx (hx : Below w.heap.size w wx) => (show Calls Tryz.prog 21 #[.int .i64 ky, .slice a0 m c0, .int .i64 tm] wx (fun e w' => e = .returned (.tuple #[.string (bs (headOf ky (L.take m) tm).1), .agg #[.int .i64 ((headOf ky (L.take m) tm).2.1 : Nat), .int .i64 (headOf ky (L.take m) tm).2.2]]) ∧ Below wx.heap.size wx w') from headR_any ky _ (L.take m) tm wx (AtG.take (hvH.out wx hx) hml) (fun e he => hmH.out e (List.mem_of_mem_take he))))
  have hkS := Lib.hid (fun (wx : World) (hx : Below W.heap.size W wx) => (show Below W.heap.size W wx ∧ wx.cell? ⟨w.heap.size, 2, none⟩ = some (.int .i64 tm) ∧ wx.cell? ⟨w.heap.size, 3, none⟩ = some (.int .i64 ky) from ⟨hx, cell_below hx k2, cell_below hx k3⟩))
  have hS : Below W.heap.size W W := Below.refl _ _
  have hBW := Lib.hid (fun wx (hx : Below W.heap.size W wx) => below_trans hB0H.out hx)
  obtain ⟨H, hH⟩ : ∃ H, (headOf ky (L.take m) tm).1 = H := ⟨_, rfl⟩
  rw [hH] at hhd
  have hhu2 := hhuH.out
  rw [hH] at hhu2
  have hhuK := Lib.hid hhu2
  clear hhu2 hhuH
  generalize ((headOf ky (L.take m) tm).2.1 : Nat) = hc at *
  generalize (headOf ky (L.take m) tm).2.2 = ha at *
  generalize hci : ((hc : Nat) : Int) = hci at *
  clear hH hci
  go_upto_region 7 with fail
  go_cut [8, 9] from 32 to 42 (fun s8 _ wx => s8 = .string (bs H) ∧ Hid (Below W.heap.size W wx))
  case first =>
    have hF : True := trivial
    go_region_held3 (fun w' => Below W.heap.size W w' ∧ w'.cell? ⟨w.heap.size, 2, none⟩ = some (.int .i64 tm) ∧ w'.cell? ⟨w.heap.size, 3, none⟩ = some (.int .i64 ky))
      ((refine hkS.out _ ?_; (first | exact hS | exact below_set2 hS (by omega) _ _ | exact hS.drew | exact hS.alloc hS.size _ | exact (hS.alloc hS.size _).drew | exact hS.drew.alloc hS.drew.size _)))
      ((go_at_call 21; refine (hhd.out _ (hBW.out _ (by (first | exact hS | exact hS.drew | exact hS.alloc hS.size _ | exact (hS.alloc hS.size _).drew | exact hS.drew.alloc hS.drew.size _)))).mono ?_; rintro e w' ⟨rfl, hbx⟩; have hS : Below W.heap.size W w' := below_trans (by (first | exact hS | exact hS.drew | exact hS.alloc hS.size _ | exact (hS.alloc hS.size _).drew | exact hS.drew.alloc hS.drew.size _)) hbx; have hz : W.heap.size ≤ w'.heap.size := hS.size; (first | (have hF : w'.heap[_]? = some (Obj.cells #[Value.int .i64 0, Value.int .i64 0] 33 (0, 0)) := new_down hbx) | (have hF : w'.heap[_]? = some (Obj.cells #[Value.int .i64 0, Value.int .i64 0] 33 (0, 0)) := new_downD hbx) | skip); (first | (have hK2 := two_kept (Below.refl _ _) hF; (try simp only [World.size_alloc] at hK2); (try simp only [drew_heap] at hK2); obtain ⟨⟨r0, r1⟩, f0, f1⟩ := hK2) | skip)))
    all_goals
      go_wp2_with fail
      go_meet
      exact ⟨rfl, Lib.hid (And.left (by assumption : Below W.heap.size W _ ∧ _))⟩
  obtain ⟨rfl, hWc⟩ := hcut
  clear hS hkS k0 k1 k2 k3 hhd
  have k4 := cell_below hWc.out k4
  have hfin := Lib.hid (fun n => (show Below w.heap.size w (wc.drewN n) from below_drawn (hBW.out _ hWc.out) n))
  have hrow := Lib.hid (fun wx (hx : Below w.heap.size w wx) => AtG.drop (n := f) (ents_cut (hvH.out wx hx) hml) (by rw [List.length_take]; omega))
  have htl : (L.take m).length = m := by rw [List.length_take]; omega
  rw [htl] at hrow
  have hEnd : ∃ av, Hid (∀ wx, Below w.heap.size w wx → EntsAt wx av M) ∧ ((c0 = f ∧ m = f ∧ av = .slice a0 0 0) ∨ (¬ c0 = f ∧ av = .slice (Option.map (fun x => x.add (f * 4)) a0) (m - f) (c0 - f))) := by
    by_cases hcf : c0 = f
    · refine ⟨_, Lib.hid (fun wx hx => ?_), .inl ⟨hcf, by omega, rfl⟩⟩
      have h := hrow.out wx hx
      rw [if_pos hcf, show m - f = 0 by omega, show c0 - f = 0 by omega] at h
      rw [heuH.out]
      exact h
    · refine ⟨_, Lib.hid (fun wx hx => ?_), .inr ⟨hcf, rfl⟩⟩
      have h := hrow.out wx hx
      rw [if_neg hcf] at h
      rw [heuH.out]
      exact h
  clear hrow htl heuH
  obtain ⟨av, hav, hcs⟩ := hEnd
  have htx : tx = [] ∨ tx ≠ [] := Classical.em _
  rcases htx with htx | htx
  case' inl =>
    have hh0 := hhuK.out
    rw [if_pos htx] at hh0
    have hh := Lib.hid hh0
    clear hh0
    subst htx
    rw [show bs [] = (⟨#[]⟩ : ByteArray) from rfl] at k4
  case' inr =>
    have hh0 := hhuK.out
    rw [if_neg htx] at hh0
    have hh := Lib.hid hh0
    clear hh0
    have htx2 : ¬ (bs tx).toList = [] := by rw [toList_data, bs_list]; exact htx
    have htx3 : (!(bs tx).toList.isEmpty) = true := by rw [toList_data, bs_list]; cases tx with | nil => exact absurd rfl htx | cons => rfl
    have htx4 : ((bs tx).toList == []) = false := beq_eq_false_iff_ne.2 htx2
    clear htx
  all_goals
    clear hhuK
    rcases hcs with ⟨h1, h2, rfl⟩ | ⟨h1, rfl⟩
    · obtain rfl : m = f := h2
      obtain rfl : m = c0 := h1.symm
      clear hcap hfl hcm
      go_upto_region 10 with fail
      go_quiet (fail)
      go_wp2_with fail
      go_ret2
      exact ⟨NewsRes.mk hh.out rfl (hav.out _ (hfin.out _)), hfin.out _⟩
    · go_upto_region 10 with fail
      go_quiet (fail)
      go_wp2_with fail
      go_ret2
      exact ⟨NewsRes.mk hh.out rfl (hav.out _ (hfin.out _)), hfin.out _⟩
end Go.Proofs.YtfbndfkahodheaaGreatDoor

/- News that came in; longNews: walked. -/
namespace Go.Proofs.YtfbndfkahodheaaGreatDoor
open Go.ChangeShapes Go.WideShapes Go.ChangeAt Go.RowKit Go.ChangeMaps Go.Deep

def newsC : Cells News where
  k := 5
  pos := by decide
  f := fun n => [.int .i64 n.many, .int .i64 n.frm, .int .i64 n.time, .int .i64 n.key, .string (bs n.text)]
  len := fun _ => rfl
  one := fun e u hu => by
    simp only [List.mem_cons, List.mem_nil_iff, or_false] at hu
    rcases hu with rfl | rfl | rfl | rfl | rfl <;> rfl
theorem five_of' {α : Type} {l : List α} (h : l.length = 5) : ∃ a b c d e, l = [a, b, c, d, e] := by
  match l, h with
  | [a, b, c, d, e], _ => exact ⟨a, b, c, d, e, rfl⟩
set_option maxRecDepth 100000 in
theorem news_cells {H : Type} {enc : TypeId × Value → H} {W : World} {base : Nat} {spare : Nat → Bool} {held : Bool} {n : Nat} {cs : List Value} {y : DataW H × List MemPlace}
    (h : DataW.trod enc Tryz.prog W base spare held n 73 cs = some y) : ∃ p : News, cs = newsC.f p ∧ p.text.length ≤ maxLen := by
  have hC : Tryz.prog.cellsOf 73 = 5 := by kernel_rfl
  have h1 : Tryz.prog.cellsOf 3 = 1 := by kernel_rfl
  have h2 : Tryz.prog.cellsOf 9 = 1 := by kernel_rfl
  obtain ⟨hcl, m, hf⟩ := struct_fields Tryz.underlying73 h
  obtain ⟨k0, k1, k2, k3, k4, rfl⟩ := five_of' (hcl.trans hC)
  obtain ⟨_, z0⟩ := hf 0 _ rfl
  obtain ⟨_, z1⟩ := hf 1 _ rfl
  obtain ⟨_, z2⟩ := hf 2 _ rfl
  obtain ⟨_, z3⟩ := hf 3 _ rfl
  obtain ⟨_, z4⟩ := hf 4 _ rfl
  have z0 := field_one z0 h1 (v := k0) rfl
  have z1 := field_one z1 h1 (v := k1) rfl
  have z2 := field_one z2 h1 (v := k2) rfl
  have z3 := field_one z3 h1 (v := k3) rfl
  have z4 := field_one z4 h2 (v := k4) rfl
  obtain ⟨x0, rfl, _⟩ := read_int Tryz.underlying3 z0
  obtain ⟨x1, rfl, _⟩ := read_int Tryz.underlying3 z1
  obtain ⟨x2, rfl, _⟩ := read_int Tryz.underlying3 z2
  obtain ⟨x3, rfl, _⟩ := read_int Tryz.underlying3 z3
  obtain ⟨s4, rfl, l4⟩ := read_string Tryz.underlying9 z4
  exact ⟨⟨x0, x1, x2, x3, s4⟩, rfl, l4⟩
set_option maxRecDepth 100000 in
theorem newss_of {H : Type} {enc : TypeId × Value → H} {W : World} {base : Nat} {spare : Nat → Bool} {held : Bool} {fuel : Nat} {a : Option Addr} {len cap : Nat} {x : DataW H × List MemPlace}
    (h : DataW.trod enc Tryz.prog W base spare held fuel 61 [.slice a len cap] = some x) : ∃ A, AtG newsC W (.slice a len cap) A ∧ ∀ n ∈ A, n.text.length ≤ maxLen := by
  have hcap := slice_cap Tryz.underlying61 h
  rcases slice_cells Tryz.underlying61 h with h0 | ⟨a', len', cap', n, hcs, hm, hi⟩
  · cases h0
    exact ⟨[], AtG.nil _, fun f hf => by cases hf⟩
  · cases hcs
    have hC : Tryz.prog.cellsOf 73 = 5 := by kernel_rfl
    rw [hC] at hi
    obtain ⟨A, hl, hA⟩ := list_of (p := fun i (q : News) => (i = 0 → a' = ⟨a'.block, a'.off, none⟩) ∧ (∀ j u, (newsC.f q)[j]? = some u → W.cell? ⟨a'.block, a'.off + i * 5 + j, none⟩ = some u) ∧ q.text.length ≤ maxLen) len (fun i hil => by
      obtain ⟨cs, y, hcl, hat, ha, ht⟩ := hi i hil
      obtain ⟨q, rfl, hq⟩ := news_cells ht
      refine ⟨q, fun h0 => ha 0 (by decide) (by rw [h0]), fun j u hu => ?_, hq⟩
      have hj : j < 5 := (List.getElem?_eq_some_iff.1 hu).1
      have := hat j hj
      rw [hu] at this
      simpa [Nat.add_assoc] using this)
    subst hl
    refine ⟨A, ⟨some a', cap, rfl, hm, hcap, (fun e => by cases e), fun i hil => ⟨a'.block, a'.off, congrArg some ((hA 0 (Nat.lt_of_le_of_lt (Nat.zero_le _) hil)).1 rfl), (hA i hil).2.1⟩⟩, fun f hf => ?_⟩
    obtain ⟨i, hi2, rfl⟩ := List.getElem_of_mem hf
    exact (hA i hi2).2.2
def longN (L : List News) : Bool := decide (30 < L.length) || L.any fun n => decide (200 < n.text.length)
theorem longN_false {L : List News} (h : longN L = false) : L.length ≤ 30 ∧ ∀ n ∈ L, n.text.length ≤ 200 := by
  unfold longN at h
  rw [Bool.or_eq_false_iff, List.any_eq_false] at h
  refine ⟨by have := of_decide_eq_false h.1; omega, fun f hf => ?_⟩
  have := h.2 f hf
  simp at this
  exact this
set_option maxRecDepth 100000 in
theorem longN_any (x : Value) (A : List News) (w : World) (hx : AtG newsC w x A) (hm : ∀ n ∈ A, n.text.length ≤ maxLen) :
    Calls Tryz.prog 26 #[x] w fun e w' => e = .returned (.bool (longN A)) ∧ w = w' := by
  obtain ⟨a, c, rfl, hml, _, _, ha⟩ := hx
  unfold maxLen at hml
  by_cases h80 : 30 < A.length
  · have hr := Lib.hid (show longN A = true by unfold longN; rw [decide_eq_true h80]; rfl)
    go_enter Tryz.func26, Tryz.ntmps26
    go_wp2_with fail
    go_ret
    exact ⟨ret_bool hr.out.symm, rfl⟩
  · have hr := Lib.hid (show longN A = A.any fun n => decide (200 < n.text.length) by unfold longN; rw [decide_eq_false h80]; rfl)
    go_enter Tryz.func26, Tryz.ntmps26
    go_wp2_with fail
    go_loopw [3] (fun i wr => ∃ j : Nat, j ≤ A.length ∧ i = .int .i64 j ∧ wr = w ∧ ∀ q (h : q < A.length), q < j → ¬ (200 < A[q].text.length)) (fun i _ => A.length - (intOf i).toNat)
    case atStart => exact ⟨0, Nat.zero_le _, rfl, rfl, fun q _ h => by omega⟩
    case round =>
      obtain ⟨j, hj, rfl, rfl, hall⟩ := hrel
      have hall := Lib.hid hall
      by_cases hlt : j < A.length
      · obtain ⟨b, o, rfl, hcs⟩ := ha j hlt
        have h4c := hcs 4 _ rfl
        have h4c : wr.cell? ⟨b, o + j * 5 + 4, none⟩ = some (.string (bs A[j].text)) := h4c
        clear hcs
        have hs0 := bs_size A[j].text
        have hmem := List.getElem_mem hlt
        have h4 := hm _ hmem
        unfold maxLen at h4
        by_cases hk : 200 < A[j].text.length
        · have hr2 := Lib.hid (show longN A = true by rw [hr.out, List.any_eq_true]; exact ⟨_, hmem, decide_eq_true hk⟩)
          clear hmem
          go_wp2
          go_ret
          exact ⟨ret_bool hr2.out.symm, rfl⟩
        · clear hmem
          have hall2 := Lib.hid (show ∀ q (h : q < A.length), q < j + 1 → ¬ (200 < A[q].text.length) from fun q h hq => by
            rcases Nat.lt_succ_iff_lt_or_eq.1 hq with h' | rfl
            · exact hall.out q h h'
            · exact hk)
          go_wp2
          exact ⟨⟨j + 1, by omega, by simp, trivial, hall2.out⟩, by simp [intOf]; omega⟩
      · have hr2 := Lib.hid (show longN A = false by
          rw [hr.out, List.any_eq_false]
          intro y hy h
          obtain ⟨q, hq, rfl⟩ := List.getElem_of_mem hy
          exact hall.out q hq (by omega) (of_decide_eq_true h))
        go_wp2
        go_ret
        exact ⟨ret_bool hr2.out.symm, rfl⟩
end Go.Proofs.YtfbndfkahodheaaGreatDoor

/- Moves that came in; longMoves: walked. -/
namespace Go.Proofs.YtfbndfkahodheaaGreatDoor
open Go.ChangeShapes Go.WideShapes Go.ChangeAt Go.RowKit Go.ChangeMaps Go.Deep

structure Move where
  kind : List UInt8
  n : Int
  w : News
def moveC : Cells Move where
  k := 7
  pos := by decide
  f := fun m => [.string (bs m.kind), .int .i64 m.n, .int .i64 m.w.many, .int .i64 m.w.frm, .int .i64 m.w.time, .int .i64 m.w.key, .string (bs m.w.text)]
  len := fun _ => rfl
  one := fun e u hu => by
    simp only [List.mem_cons, List.mem_nil_iff, or_false] at hu
    rcases hu with rfl | rfl | rfl | rfl | rfl | rfl | rfl <;> rfl
theorem seven_of {α : Type} {l : List α} (h : l.length = 7) : ∃ a b c d e f g, l = [a, b, c, d, e, f, g] := by
  match l, h with
  | [a, b, c, d, e, f, g], _ => exact ⟨a, b, c, d, e, f, g, rfl⟩
set_option maxRecDepth 100000 in
theorem move_cells {H : Type} {enc : TypeId × Value → H} {W : World} {base : Nat} {spare : Nat → Bool} {held : Bool} {n : Nat} {cs : List Value} {y : DataW H × List MemPlace}
    (h : DataW.trod enc Tryz.prog W base spare held n 93 cs = some y) : ∃ p : Move, cs = moveC.f p ∧ p.kind.length ≤ maxLen ∧ p.w.text.length ≤ maxLen := by
  have hC : Tryz.prog.cellsOf 93 = 7 := by kernel_rfl
  have h1 : Tryz.prog.cellsOf 3 = 1 := by kernel_rfl
  have h2 : Tryz.prog.cellsOf 9 = 1 := by kernel_rfl
  have h3 : Tryz.prog.cellsOf 73 = 5 := by kernel_rfl
  obtain ⟨hcl, m, hf⟩ := struct_fields Tryz.underlying93 h
  obtain ⟨k0, k1, k2, k3, k4, k5, k6, rfl⟩ := seven_of (hcl.trans hC)
  obtain ⟨_, z0⟩ := hf 0 _ rfl
  obtain ⟨_, z1⟩ := hf 1 _ rfl
  obtain ⟨_, z2⟩ := hf 2 _ rfl
  have z0 := field_one z0 h2 (v := k0) rfl
  have z1 := field_one z1 h1 (v := k1) rfl
  obtain ⟨x0, rfl, l0⟩ := read_string Tryz.underlying9 z0
  obtain ⟨x1, rfl, _⟩ := read_int Tryz.underlying3 z1
  obtain ⟨q, hq, hl⟩ := news_cells z2
  have hq3 : [k2, k3, k4, k5, k6] = [.int .i64 q.many, .int .i64 q.frm, .int .i64 q.time, .int .i64 q.key, .string (bs q.text)] := hq
  simp only [List.cons.injEq, and_true] at hq3
  obtain ⟨rfl, rfl, rfl, rfl, rfl⟩ := hq3
  exact ⟨⟨x0, x1, q⟩, rfl, l0, hl⟩
set_option maxRecDepth 100000 in
theorem moves_of {H : Type} {enc : TypeId × Value → H} {W : World} {base : Nat} {spare : Nat → Bool} {held : Bool} {fuel : Nat} {a : Option Addr} {len cap : Nat} {x : DataW H × List MemPlace}
    (h : DataW.trod enc Tryz.prog W base spare held fuel 80 [.slice a len cap] = some x) : ∃ A, AtG moveC W (.slice a len cap) A ∧ ∀ n ∈ A, n.kind.length ≤ maxLen ∧ n.w.text.length ≤ maxLen := by
  have hcap := slice_cap Tryz.underlying80 h
  rcases slice_cells Tryz.underlying80 h with h0 | ⟨a', len', cap', n, hcs, hm, hi⟩
  · cases h0
    exact ⟨[], AtG.nil _, fun f hf => by cases hf⟩
  · cases hcs
    have hC : Tryz.prog.cellsOf 93 = 7 := by kernel_rfl
    rw [hC] at hi
    obtain ⟨A, hl, hA⟩ := list_of (p := fun i (q : Move) => (i = 0 → a' = ⟨a'.block, a'.off, none⟩) ∧ (∀ j u, (moveC.f q)[j]? = some u → W.cell? ⟨a'.block, a'.off + i * 7 + j, none⟩ = some u) ∧ q.kind.length ≤ maxLen ∧ q.w.text.length ≤ maxLen) len (fun i hil => by
      obtain ⟨cs, y, hcl, hat, ha, ht⟩ := hi i hil
      obtain ⟨q, rfl, hq⟩ := move_cells ht
      refine ⟨q, fun h0 => ha 0 (by decide) (by rw [h0]), fun j u hu => ?_, hq⟩
      have hj : j < 7 := (List.getElem?_eq_some_iff.1 hu).1
      have := hat j hj
      rw [hu] at this
      simpa [Nat.add_assoc] using this)
    subst hl
    refine ⟨A, ⟨some a', cap, rfl, hm, hcap, (fun e => by cases e), fun i hil => ⟨a'.block, a'.off, congrArg some ((hA 0 (Nat.lt_of_le_of_lt (Nat.zero_le _) hil)).1 rfl), (hA i hil).2.1⟩⟩, fun f hf => ?_⟩
    obtain ⟨i, hi2, rfl⟩ := List.getElem_of_mem hf
    exact (hA i hi2).2.2
def longM (L : List Move) : Bool := decide (40 < L.length) || L.any fun m => decide (20 < m.kind.length) || decide (200 < m.w.text.length)
theorem longM_false {L : List Move} (h : longM L = false) : L.length ≤ 40 ∧ ∀ m ∈ L, m.kind.length ≤ 20 ∧ m.w.text.length ≤ 200 := by
  unfold longM at h
  rw [Bool.or_eq_false_iff, List.any_eq_false] at h
  refine ⟨by have := of_decide_eq_false h.1; omega, fun f hf => ?_⟩
  have := h.2 f hf
  simp at this
  exact this
set_option maxHeartbeats 2000000 in
set_option maxRecDepth 100000 in
theorem longM_any (x : Value) (A : List Move) (w : World) (hx : AtG moveC w x A) (hm : ∀ n ∈ A, n.kind.length ≤ maxLen ∧ n.w.text.length ≤ maxLen) :
    Calls Tryz.prog 35 #[x] w fun e w' => e = .returned (.bool (longM A)) ∧ w = w' := by
  obtain ⟨a, c, rfl, hml, _, _, ha⟩ := hx
  unfold maxLen at hml
  by_cases h80 : 40 < A.length
  · have hr := Lib.hid (show longM A = true by unfold longM; rw [decide_eq_true h80]; rfl)
    go_enter Tryz.func35, Tryz.ntmps35
    go_wp2_with fail
    go_ret
    exact ⟨ret_bool hr.out.symm, rfl⟩
  · have hr := Lib.hid (show longM A = A.any fun m => decide (20 < m.kind.length) || decide (200 < m.w.text.length) by unfold longM; rw [decide_eq_false h80]; rfl)
    go_enter Tryz.func35, Tryz.ntmps35
    go_wp2_with fail
    go_loopw [3] (fun i wr => ∃ j : Nat, j ≤ A.length ∧ i = .int .i64 j ∧ wr = w ∧ ∀ q (h : q < A.length), q < j → ¬ (20 < A[q].kind.length) ∧ ¬ (200 < A[q].w.text.length)) (fun i _ => A.length - (intOf i).toNat)
    case atStart => exact ⟨0, Nat.zero_le _, rfl, rfl, fun q _ h => by omega⟩
    case round =>
      obtain ⟨j, hj, rfl, rfl, hall⟩ := hrel
      have hall := Lib.hid hall
      by_cases hlt : j < A.length
      · obtain ⟨b, o, rfl, hcs⟩ := ha j hlt
        have h0c : wr.cell? ⟨b, o + j * 7, none⟩ = some (.string (bs A[j].kind)) := hcs 0 _ rfl
        have h6c : wr.cell? ⟨b, o + j * 7 + 6, none⟩ = some (.string (bs A[j].w.text)) := hcs 6 _ rfl
        clear hcs
        have hs0 := bs_size A[j].kind
        have hs6 := bs_size A[j].w.text
        have hmem := List.getElem_mem hlt
        obtain ⟨h4, h5⟩ := hm _ hmem
        unfold maxLen at h4 h5
        by_cases hk : 20 < A[j].kind.length
        · have hr2 := Lib.hid (show longM A = true by rw [hr.out, List.any_eq_true]; exact ⟨_, hmem, by rw [decide_eq_true hk]; rfl⟩)
          clear hmem
          go_wp2
          go_ret
          exact ⟨ret_bool hr2.out.symm, rfl⟩
        by_cases hk2 : 200 < A[j].w.text.length
        · have hr2 := Lib.hid (show longM A = true by rw [hr.out, List.any_eq_true]; exact ⟨_, hmem, by rw [decide_eq_true hk2, Bool.or_true]⟩)
          clear hmem
          go_wp2
          go_ret
          exact ⟨ret_bool hr2.out.symm, rfl⟩
        · clear hmem
          have hall2 := Lib.hid (show ∀ q (h : q < A.length), q < j + 1 → ¬ (20 < A[q].kind.length) ∧ ¬ (200 < A[q].w.text.length) from fun q h hq => by
            rcases Nat.lt_succ_iff_lt_or_eq.1 hq with h' | rfl
            · exact hall.out q h h'
            · exact ⟨hk, hk2⟩)
          go_wp2
          exact ⟨⟨j + 1, by omega, by simp, trivial, hall2.out⟩, by simp [intOf]; omega⟩
      · have hr2 := Lib.hid (show longM A = false by
          rw [hr.out, List.any_eq_false]
          intro y hy h
          obtain ⟨q, hq, rfl⟩ := List.getElem_of_mem hy
          have := hall.out q hq (by omega)
          rw [decide_eq_false this.1, decide_eq_false this.2] at h
          cases h)
        go_wp2
        go_ret
        exact ⟨ret_bool hr2.out.symm, rfl⟩
end Go.Proofs.YtfbndfkahodheaaGreatDoor
