/- NewsB, FloG, FloL, AsFol -/
import Derived.Test.YtfbndfkahodheaaGreatDoorMg33
import Derived.Test.YtfbndfkahodheaaGreatDoorMg8
import Derived.Test.YtfbndfkahodheaaGreatDoorMg9
import Derived.Test.YtfbndfkahodheaaGreatDoorMg24
import Derived.Test.YtfbndfkahodheaaGreatDoorMg22
import Derived.Test.YtfbndfkahodheaaGreatDoorMg21
import Derived.Test.YtfbndfkahodheaaGreatDoorMg11
import Derived.Deep.CutRange
/- NewsOf, its entries in the feed's own row: walked. -/
namespace Go.Proofs.YtfbndfkahodheaaGreatDoor
open Go.RowKit

def NewsResF (w0 : World) (hd : List UInt8) (M : List Ent) (e : Ending) : Prop := ∃ v', e = .returned (.tuple #[.string (bs hd), v']) ∧ ∀ wx, Below w0.heap.size w0 wx → EntsAt wx v' M
theorem NewsResF.mk {w0 : World} {hd H : List UInt8} {M : List Ent} {v : Value} {x : ByteArray} (h : hd = H) (hx : x = bs H) (hv : ∀ wx, Below w0.heap.size w0 wx → EntsAt wx v M) : NewsResF w0 hd M (.returned (.tuple #[.string x, v])) := by
  subst h hx
  exact ⟨v, rfl, hv⟩
set_option maxHeartbeats 8000000 in
set_option maxRecDepth 100000 in
theorem newsOf_from (w0 : World) (v : Value) (L : List Ent) (n : News) (w : World) (hw0 : Below w0.heap.size w0 w) (hv : EntsAt w0 v L) (hm : ∀ e ∈ L, e.f.who.length ≤ maxLen) (hl : L.length ≤ 1000) (ht : n.text.length ≤ maxLen) :
    Calls Tryz.prog 29 #[v, n.val] w fun e w' => NewsResF w0 (newsHead L n) (newsEnts L n) e ∧ Below w.heap.size w w' := by
  have hvH := Lib.hid (fun wx (hx : Below w0.heap.size w0 wx) => (show EntsAt wx v L from AtG.below hv hx))
  have hw0H := Lib.hid hw0
  obtain ⟨a0, c0, hv0⟩ := AtG.sl hv
  have hcap : L.length ≤ c0 := by
    obtain ⟨_, _, he, _, h, _⟩ := hv
    rw [hv0] at he
    cases he
    exact h
  have hmu : newsMany L n = if n.many < 0 ∨ (L.length : Int) < n.many then L.length else n.many.toNat := rfl
  have hfu : newsFrom L n = if n.frm < 0 ∨ (newsMany L n : Int) < n.frm then newsMany L n else n.frm.toNat := rfl
  have hml := newsMany_le L n
  have hfl := newsFrom_le L n
  have hhu : newsHead L n = if n.text = [] then (headOf n.key (L.take (newsMany L n)) n.time).1 else n.text := rfl
  have heu : newsEnts L n = (L.take (newsMany L n)).drop (newsFrom L n) := rfl
  obtain ⟨mn, fr, tm, ky, tx⟩ := n
  dsimp only [News.val] at *
  generalize newsMany L ⟨mn, fr, tm, ky, tx⟩ = m at *
  generalize newsFrom L ⟨mn, fr, tm, ky, tx⟩ = f at *
  generalize newsHead L ⟨mn, fr, tm, ky, tx⟩ = hd at *
  generalize newsEnts L ⟨mn, fr, tm, ky, tx⟩ = M at *
  have hmH := Lib.hid hm
  have heuH := Lib.hid heu
  have hhuH := Lib.hid hhu
  have hbox := heap_alloc_new w (.cells #[.int .i64 mn, .int .i64 fr, .int .i64 tm, .int .i64 ky, .string (bs tx)] 73)
  have hB0 : Below w.heap.size w (w.alloc (.cells #[.int .i64 mn, .int .i64 fr, .int .i64 tm, .int .i64 ky, .string (bs tx)] 73)) := (Below.refl _ _).alloc (Nat.le_refl _) _
  have hboxH := Lib.hid hbox
  have hB0H := Lib.hid hB0
  have hmuH := Lib.hid hmu
  have hfuH := Lib.hid hfu
  clear hm hv hw0 hmu hfu hB0 hbox heu hhu
  subst hv0
  go_enter Tryz.func29, Tryz.ntmps29
  go_upto_region 2 with fail
  generalize hW : w.alloc (.cells #[.int .i64 mn, .int .i64 fr, .int .i64 tm, .int .i64 ky, .string (bs tx)] 73) = W at *
  obtain ⟨⟨k0, k1, k2, k3, k4⟩, hfz⟩ := fol_cells hboxH.out
  clear hW hfz
  go_cut [19] from 12 to 19 (fun s19 wx => s19 = .bool (decide (mn < 0 ∨ (L.length : Int) < mn)) ∧ W = wx)
  case first =>
    by_cases h1 : mn < 0
    · have hm1 := Lib.hid (show decide (mn < 0 ∨ (L.length : Int) < mn) = true from decide_eq_true (.inl h1))
      go_wp2_with fail
      go_meet
      exact ⟨by rw [hm1.out], rfl⟩
    by_cases h2 : (L.length : Int) < mn
    · have hm1 := Lib.hid (show decide (mn < 0 ∨ (L.length : Int) < mn) = true from decide_eq_true (.inr h2))
      go_wp2_with fail
      go_meet
      exact ⟨by rw [hm1.out], rfl⟩
    · have hm1 := Lib.hid (show decide (mn < 0 ∨ (L.length : Int) < mn) = false from decide_eq_false (by omega))
      go_wp2_with fail
      go_meet
      exact ⟨by rw [hm1.out], rfl⟩
  obtain ⟨rfl, rfl⟩ := hcut
  have hb1 : ∃ b, decide (mn < 0 ∨ (L.length : Int) < mn) = b := ⟨_, rfl⟩
  obtain ⟨b19, hb1⟩ := hb1
  rw [hb1]
  have hb1 := Lib.hid hb1
  go_upto_if 19 with fail
  go_cut [6] from 20 to 21 (fun s6 wx => s6 = .int .i64 m ∧ W = wx)
  case first =>
    cases b19 with
    | true =>
      have hm1 := Lib.hid (show m = L.length by rw [hmuH.out, if_pos (of_decide_eq_true hb1.out)])
      go_wp2_with fail
      go_meet
      exact ⟨by rw [hm1.out], rfl⟩
    | false =>
      have hm1 := Lib.hid (show (m : Int) = mn by
        have := of_decide_eq_false hb1.out
        rw [hmuH.out, if_neg this]; omega)
      go_wp2_with fail
      go_meet
      exact ⟨by rw [hm1.out], rfl⟩
  obtain ⟨rfl, rfl⟩ := hcut
  clear hb1 hmuH
  go_upto_region 5 with fail
  go_cut [30] from 24 to 30 (fun s30 wx => s30 = .bool (decide (fr < 0 ∨ (m : Int) < fr)) ∧ W = wx)
  case first =>
    by_cases h1 : fr < 0
    · have hm1 := Lib.hid (show decide (fr < 0 ∨ (m : Int) < fr) = true from decide_eq_true (.inl h1))
      go_wp2_with fail
      go_meet
      exact ⟨by rw [hm1.out], rfl⟩
    by_cases h2 : (m : Int) < fr
    · have hm1 := Lib.hid (show decide (fr < 0 ∨ (m : Int) < fr) = true from decide_eq_true (.inr h2))
      go_wp2_with fail
      go_meet
      exact ⟨by rw [hm1.out], rfl⟩
    · have hm1 := Lib.hid (show decide (fr < 0 ∨ (m : Int) < fr) = false from decide_eq_false (by omega))
      go_wp2_with fail
      go_meet
      exact ⟨by rw [hm1.out], rfl⟩
  obtain ⟨rfl, rfl⟩ := hcut
  have hb1 : ∃ b, decide (fr < 0 ∨ (m : Int) < fr) = b := ⟨_, rfl⟩
  obtain ⟨b30, hb1⟩ := hb1
  rw [hb1]
  have hb1 := Lib.hid hb1
  go_upto_if 30 with fail
  go_cut [7] from 31 to 31 (fun s7 wx => s7 = .int .i64 f ∧ W = wx)
  case first =>
    cases b30 with
    | true =>
      have hm1 := Lib.hid (show f = m by rw [hfuH.out, if_pos (of_decide_eq_true hb1.out)])
      go_wp2_with fail
      go_meet
      exact ⟨by rw [hm1.out], rfl⟩
    | false =>
      have hm1 := Lib.hid (show (f : Int) = fr by
        have := of_decide_eq_false hb1.out
        rw [hfuH.out, if_neg this]; omega)
      go_wp2_with fail
      go_meet
      exact ⟨by rw [hm1.out], rfl⟩
  obtain ⟨rfl, rfl⟩ := hcut
  clear hb1 hfuH
  have hcm : m ≤ c0 := Nat.le_trans hml hcap
  have hhd := Lib.hid (fun wx (hx : Below w.heap.size w wx) => (show Calls Tryz.prog 21 #[.int .i64 ky, .slice a0 m c0, .int .i64 tm] wx (fun e w' => e = .returned (.tuple #[.string (bs (headOf ky (L.take m) tm).1), .agg #[.int .i64 ((headOf ky (L.take m) tm).2.1 : Nat), .int .i64 (headOf ky (L.take m) tm).2.2]]) ∧ Below wx.heap.size wx w') from headR_any ky _ (L.take m) tm wx (AtG.take (hvH.out wx (below_trans hw0H.out hx)) hml) (fun e he => hmH.out e (List.mem_of_mem_take he))))
  have hkS := Lib.hid (fun (wx : World) (hx : Below W.heap.size W wx) => (show Below W.heap.size W wx ∧ wx.cell? ⟨w.heap.size, 2, none⟩ = some (.int .i64 tm) ∧ wx.cell? ⟨w.heap.size, 3, none⟩ = some (.int .i64 ky) from ⟨hx, cell_below hx k2, cell_below hx k3⟩))
  have hS : Below W.heap.size W W := Below.refl _ _
  have hBW := Lib.hid (fun wx (hx : Below W.heap.size W wx) => below_trans hB0H.out hx)
  obtain ⟨H, hH⟩ : ∃ H, (headOf ky (L.take m) tm).1 = H := ⟨_, rfl⟩
  rw [hH] at hhd
  have hhu2 := hhuH.out
  rw [hH] at hhu2
  have hhuK := Lib.hid hhu2
  clear hhu2 hhuH
  generalize ((headOf ky (L.take m) tm).2.1 : Nat) = hc at *
  generalize (headOf ky (L.take m) tm).2.2 = ha at *
  generalize hci : ((hc : Nat) : Int) = hci at *
  clear hH hci
  go_upto_region 7 with fail
  go_cut [8, 9] from 32 to 42 (fun s8 _ wx => s8 = .string (bs H) ∧ Hid (Below W.heap.size W wx))
  case first =>
    have hF : True := trivial
    go_region_held3 (fun w' => Below W.heap.size W w' ∧ w'.cell? ⟨w.heap.size, 2, none⟩ = some (.int .i64 tm) ∧ w'.cell? ⟨w.heap.size, 3, none⟩ = some (.int .i64 ky))
      ((refine hkS.out _ ?_; (first | exact hS | exact below_set2 hS (by omega) _ _ | exact hS.drew | exact hS.alloc hS.size _ | exact (hS.alloc hS.size _).drew | exact hS.drew.alloc hS.drew.size _)))
      ((go_at_call 21; refine (hhd.out _ (hBW.out _ (by (first | exact hS | exact hS.drew | exact hS.alloc hS.size _ | exact (hS.alloc hS.size _).drew | exact hS.drew.alloc hS.drew.size _)))).mono ?_; rintro e w' ⟨rfl, hbx⟩; have hS : Below W.heap.size W w' := below_trans (by (first | exact hS | exact hS.drew | exact hS.alloc hS.size _ | exact (hS.alloc hS.size _).drew | exact hS.drew.alloc hS.drew.size _)) hbx; have hz : W.heap.size ≤ w'.heap.size := hS.size; (first | (have hF : w'.heap[_]? = some (Obj.cells #[Value.int .i64 0, Value.int .i64 0] 33 (0, 0)) := new_down hbx) | (have hF : w'.heap[_]? = some (Obj.cells #[Value.int .i64 0, Value.int .i64 0] 33 (0, 0)) := new_downD hbx) | skip); (first | (have hK2 := two_kept (Below.refl _ _) hF; (try simp only [World.size_alloc] at hK2); (try simp only [drew_heap] at hK2); obtain ⟨⟨r0, r1⟩, f0, f1⟩ := hK2) | skip)))
    all_goals
      go_wp2_with fail
      go_meet
      exact ⟨rfl, Lib.hid (And.left (by assumption : Below W.heap.size W _ ∧ _))⟩
  obtain ⟨rfl, hWc⟩ := hcut
  clear hS hkS k0 k1 k2 k3 hhd
  have k4 := cell_below hWc.out k4
  have hfin := Lib.hid (fun n => (show Below w.heap.size w (wc.drewN n) from below_drawn (hBW.out _ hWc.out) n))
  have hrow := Lib.hid (fun wx (hx : Below w0.heap.size w0 wx) => AtG.drop (n := f) (ents_cut (hvH.out wx hx) hml) (by rw [List.length_take]; omega))
  have htl : (L.take m).length = m := by rw [List.length_take]; omega
  rw [htl] at hrow
  have hEnd : ∃ av, Hid (∀ wx, Below w0.heap.size w0 wx → EntsAt wx av M) ∧ ((c0 = f ∧ m = f ∧ av = .slice a0 0 0) ∨ (¬ c0 = f ∧ av = .slice (Option.map (fun x => x.add (f * 4)) a0) (m - f) (c0 - f))) := by
    by_cases hcf : c0 = f
    · refine ⟨_, Lib.hid (fun wx hx => ?_), .inl ⟨hcf, by omega, rfl⟩⟩
      have h := hrow.out wx hx
      rw [if_pos hcf, show m - f = 0 by omega, show c0 - f = 0 by omega] at h
      rw [heuH.out]
      exact h
    · refine ⟨_, Lib.hid (fun wx hx => ?_), .inr ⟨hcf, rfl⟩⟩
      have h := hrow.out wx hx
      rw [if_neg hcf] at h
      rw [heuH.out]
      exact h
  clear hrow htl heuH
  obtain ⟨av, hav, hcs⟩ := hEnd
  have htx : tx = [] ∨ tx ≠ [] := Classical.em _
  rcases htx with htx | htx
  case' inl =>
    have hh0 := hhuK.out
    rw [if_pos htx] at hh0
    have hh := Lib.hid hh0
    clear hh0
    subst htx
    rw [show bs [] = (⟨#[]⟩ : ByteArray) from rfl] at k4
  case' inr =>
    have hh0 := hhuK.out
    rw [if_neg htx] at hh0
    have hh := Lib.hid hh0
    clear hh0
    have htx2 : ¬ (bs tx).toList = [] := by rw [toList_data, bs_list]; exact htx
    have htx3 : (!(bs tx).toList.isEmpty) = true := by rw [toList_data, bs_list]; cases tx with | nil => exact absurd rfl htx | cons => rfl
    have htx4 : ((bs tx).toList == []) = false := beq_eq_false_iff_ne.2 htx2
    clear htx
  all_goals
    clear hhuK
    rcases hcs with ⟨h1, h2, rfl⟩ | ⟨h1, rfl⟩
    · obtain rfl : m = f := h2
      obtain rfl : m = c0 := h1.symm
      clear hcap hfl hcm
      go_upto_region 10 with fail
      go_quiet (fail)
      go_wp2_with fail
      go_ret2
      exact ⟨NewsResF.mk hh.out rfl hav.out, hfin.out _⟩
    · go_upto_region 10 with fail
      go_quiet (fail)
      go_wp2_with fail
      go_ret2
      exact ⟨NewsResF.mk hh.out rfl hav.out, hfin.out _⟩
end Go.Proofs.YtfbndfkahodheaaGreatDoor

/- LongFloors, walked. -/
namespace Go.Proofs.YtfbndfkahodheaaGreatDoor
open Go.RowKit

def longF (L : List Flo) : Bool := decide (25 < L.length) || L.any fun f => decide (20 < f.who.length)
def longI (L : List Flo) : Int := if longF L = true then 1 else 0
theorem longF_false {L : List Flo} (h : longF L = false) : L.length ≤ 25 ∧ ∀ f ∈ L, f.who.length ≤ 20 := by
  unfold longF at h
  rw [Bool.or_eq_false_iff, List.any_eq_false] at h
  refine ⟨by have := of_decide_eq_false h.1; omega, fun f hf => ?_⟩
  have := h.2 f hf
  simp at this
  exact this
end Go.Proofs.YtfbndfkahodheaaGreatDoor

/- SameFloors, walked. -/
namespace Go.Proofs.YtfbndfkahodheaaGreatDoor
open Go.RowKit

set_option maxRecDepth 100000 in
theorem samef_flo (x y : Value) (L : List Flo) (w : World) (hx : FloorsAt w x L) (hy : FloorsAt w y L) :
    Calls Tryz.prog 17 #[x, y] w fun e w' => e = .returned (.bool true) ∧ Below w.heap.size w w' := by
  obtain ⟨a, c, rfl, hm, _, ha⟩ := hx
  obtain ⟨a2, c2, rfl, _, _, ha2⟩ := hy
  unfold maxLen at hm
  go_enter Tryz.func17, Tryz.ntmps17
  go_wp2_with fail
  go_loopw [5] (fun i wr => ∃ j n : Nat, j ≤ L.length ∧ i = .int .i64 j ∧ wr = w.drewN n) (fun i _ => L.length - (intOf i).toNat)
  case atStart => exact ⟨0, 0, Nat.zero_le _, rfl, rfl⟩
  case round =>
    obtain ⟨j, n, hj, rfl, rfl⟩ := hrel
    by_cases hlt : j < L.length
    · obtain ⟨b, o, rfl, h0, h1⟩ := ha j hlt
      obtain ⟨b2, o2, rfl, k0, k1⟩ := ha2 j hlt
      go_wp2
      go_quiet (fail)
      go_wp2
      exact ⟨⟨j + 1, _, by omega, by simp, rfl⟩, by simp [intOf]; omega⟩
    · have hje : j = L.length := by omega
      subst hje
      go_wp2
      go_ret
      exact ⟨rfl, below_drawn (Below.refl _ _) _⟩
end Go.Proofs.YtfbndfkahodheaaGreatDoor

/- The law's asFollower: walked. -/
namespace Go.Proofs.YtfbndfkahodheaaGreatDoor
open Go.RowKit

theorem bs_self (s : List UInt8) : ((bs s).toList == (bs s).toList) = true := by simp
set_option maxHeartbeats 8000000 in
set_option maxRecDepth 100000 in
theorem asFol_any (base b baser p : Nat) (G : Fol) (w : World) (hF : FolAt w base b G) (hR : RFolAt w baser p G) (hO : FOk G) :
    Calls Tryz.prog 32 #[.pointer (some ⟨b, 0, none⟩), .pointer (some ⟨p, 0, none⟩)] w fun e w' => e = .returned (.bool true) ∧ Below w.heap.size w w' := by
  have hFH := Lib.hid (fun wx (hx : Below w.heap.size w wx) => hF.below hx)
  have hRH := Lib.hid (fun wx (hx : Below w.heap.size w wx) => hR.below hx)
  have hsq := Lib.hid (fun wx (hx : Below w.heap.size w wx) => seq_fol base b G wx (hFH.out wx hx))
  have htm := Lib.hid (fun wx (hx : Below w.heap.size w wx) => time_fol base b G wx (hFH.out wx hx))
  have hhd := Lib.hid (fun wx (hx : Below w.heap.size w wx) => head_fol base b G wx (hFH.out wx hx))
  have hen := Lib.hid (fun wx (hx : Below w.heap.size w wx) => entries_fol base b G wx (hFH.out wx hx) (by have := hO.l60; omega))
  have hfl := Lib.hid (fun wx (hx : Below w.heap.size w wx) => floors_fol base b G wx (hFH.out wx hx) (by have := hO.fl; omega))
  have hfr := Lib.hid (fun wx (hx : Below w.heap.size w wx) => floorsR_fol baser p G wx (hRH.out wx hx) hO)
  have hl60 := hO.l60
  obtain ⟨hge, u, hbk, hu⟩ := hR
  obtain ⟨au, cu, hus⟩ := RowG.sl hu
  subst hus
  have huH := Lib.hid (fun wx (hx : Below w.heap.size w wx) => (show EntsAt wx (.slice au G.l.length cu) G.l from AtG.below (EntRow.at_ hu) hx))
  have hkS := Lib.hid (fun wx (hx : Below w.heap.size w wx) => (show wx.cell? ⟨p, 1, none⟩ = some (.int .i64 G.time) ∧ wx.cell? ⟨p, 2, none⟩ = some (.slice au G.l.length cu) ∧ wx.cell? ⟨p, 3, none⟩ = some (.string (bs G.head)) from
    (fun h => ⟨h.1.2.1, h.1.2.2.1, h.1.2.2.2⟩) (four_kept (heap_down hx hbk))))
  have hD0 := Lib.hid (show Below w.heap.size w w.drew from (Below.refl _ _).drew)
  have hcD := hkS.out _ hD0.out
  have hbe := bs_self G.head
  clear hF hbk hu hge
  go_enter Tryz.func32, Tryz.ntmps32
  go_upto_region 3 with fail
  refine wp_region_noPanic ?_
  refine wp_region_held_drew (S := fun w' => w'.cell? ⟨p, 1, none⟩ = some (.int .i64 G.time) ∧ w'.cell? ⟨p, 2, none⟩ = some (.slice au G.l.length cu) ∧ w'.cell? ⟨p, 3, none⟩ = some (.string (bs G.head))) (by kernel_rfl) ?_ (fun hHeld => ?_)
  · exact hcD
  refine' held_take (i := 0) (d := some 7) (v := _) rfl rfl (by kernel_rfl) (by kernel_rfl) (by kernel_rfl) (fun _ _ _ h => h) rfl (by assumption) ?hy_1 ?re_1
  case hy_1 =>
    intro w hSw
    try dsimp only at hSw
    go_simp
    try with_reducible rfl
  simp only [Act.put, List.setIfInBounds_toArray, List.set_cons_zero, List.set_cons_succ]
  refine' held_take (i := 2) (d := some 9) (v := _) rfl rfl (by kernel_rfl) (by kernel_rfl) (by kernel_rfl) (fun _ _ _ h => h) rfl (by assumption) ?hy_2 ?re_2
  case hy_2 =>
    intro w hSw
    try dsimp only at hSw
    go_simp
    try with_reducible rfl
  simp only [Act.put, List.setIfInBounds_toArray, List.set_cons_zero, List.set_cons_succ]
  refine' held_take (i := 3) (d := some 10) (v := _) rfl rfl (by kernel_rfl) (by kernel_rfl) (by kernel_rfl) (fun _ _ _ h => h) rfl (by assumption) ?hy_3 ?re_3
  case hy_3 =>
    intro w hSw
    try dsimp only at hSw
    go_simp
    try with_reducible rfl
  simp only [Act.put, List.setIfInBounds_toArray, List.set_cons_zero, List.set_cons_succ]
  refine' held_take (i := 4) (d := some 11) (v := _) rfl rfl (by kernel_rfl) (by kernel_rfl) (by kernel_rfl) (fun _ _ _ h => h) rfl (by assumption) ?hy_4 ?re_4
  case hy_4 =>
    intro w hSw
    try dsimp only at hSw
    go_simp
    try with_reducible rfl
  simp only [Act.put, List.setIfInBounds_toArray, List.set_cons_zero, List.set_cons_succ]
  refine' held_take (i := 5) (d := some 12) (v := _) rfl rfl (by kernel_rfl) (by kernel_rfl) (by kernel_rfl) (fun _ _ _ h => h) rfl (by assumption) ?hy_5 ?re_5
  case hy_5 =>
    intro w hSw
    try dsimp only at hSw
    go_simp
    try with_reducible rfl
  simp only [Act.put, List.setIfInBounds_toArray, List.set_cons_zero, List.set_cons_succ]
  refine' held_take (i := 6) (d := some 13) (v := _) rfl rfl (by kernel_rfl) (by kernel_rfl) (by kernel_rfl) (fun _ _ _ h => h) rfl (by assumption) ?hy_6 ?re_6
  case hy_6 =>
    intro w hSw
    try dsimp only at hSw
    go_simp
    try with_reducible rfl
  simp only [Act.put, List.setIfInBounds_toArray, List.set_cons_zero, List.set_cons_succ]
  refine wpAnyH_ready (rs := [1]) (by kernel_rfl) (by simp) ?_
  refine AllReadyH.cons rfl (fun K hK => ?_) AllReadyH.nil
  go_simp
  refine (hsq.out _ hD0.out).mono ?_
  rintro e w1 ⟨rfl, hb⟩
  have hD1 := Lib.hid (below_trans hD0.out hb)
  clear hb
  go_wp2_with fail
  refine hK.out _ _ ?_ (fun hHeld => ?_)
  · exact hkS.out _ hD1.out
  clear hK K
  try simp only [Act.put, List.setIfInBounds_toArray, List.set_cons_zero, List.set_cons_succ]
  refine' held_take (i := 7) (d := some 14) (v := _) rfl rfl (by kernel_rfl) (by kernel_rfl) (by kernel_rfl) (fun _ _ _ h => h) rfl (by assumption) ?hy_7 ?re_7
  case hy_7 =>
    intro w hSw
    try dsimp only at hSw
    go_simp
    try with_reducible rfl
  simp only [Act.put, List.setIfInBounds_toArray, List.set_cons_zero, List.set_cons_succ]
  try simp only [decide_true, beq_self_eq_true]
  refine' held_take (i := 8) (d := some 15) (v := _) rfl rfl (by kernel_rfl) (by kernel_rfl) (by kernel_rfl) (fun _ _ _ h => h) rfl (by assumption) ?hy_8 ?re_8
  case hy_8 =>
    intro w hSw
    try dsimp only at hSw
    go_simp
    try with_reducible rfl
  simp only [Act.put, List.setIfInBounds_toArray, List.set_cons_zero, List.set_cons_succ]
  refine' held_take (i := 9) (d := some 16) (v := _) rfl rfl (by kernel_rfl) (by kernel_rfl) (by kernel_rfl) (fun _ _ _ h => h) rfl (by assumption) ?hy_9 ?re_9
  case hy_9 =>
    intro w hSw
    try dsimp only at hSw
    go_simp
    try with_reducible rfl
  simp only [Act.put, List.setIfInBounds_toArray, List.set_cons_zero, List.set_cons_succ]
  refine' held_take (i := 11) (d := some 18) (v := _) rfl rfl (by kernel_rfl) (by kernel_rfl) (by kernel_rfl) (fun _ _ _ h => h) rfl (by assumption) ?hy_10 ?re_10
  case hy_10 =>
    intro w hSw
    try dsimp only at hSw
    go_simp
    try with_reducible rfl
  simp only [Act.put, List.setIfInBounds_toArray, List.set_cons_zero, List.set_cons_succ]
  refine' held_take (i := 12) (d := some 19) (v := _) rfl rfl (by kernel_rfl) (by kernel_rfl) (by kernel_rfl) (fun _ _ _ h => h) rfl (by assumption) ?hy_11 ?re_11
  case hy_11 =>
    intro w hSw
    try dsimp only at hSw
    go_simp
    try with_reducible rfl
  simp only [Act.put, List.setIfInBounds_toArray, List.set_cons_zero, List.set_cons_succ]
  refine' held_take (i := 13) (d := some 20) (v := _) rfl rfl (by kernel_rfl) (by kernel_rfl) (by kernel_rfl) (fun _ _ _ h => h) rfl (by assumption) ?hy_12 ?re_12
  case hy_12 =>
    intro w hSw
    try dsimp only at hSw
    go_simp
    try with_reducible rfl
  simp only [Act.put, List.setIfInBounds_toArray, List.set_cons_zero, List.set_cons_succ]
  refine' held_take (i := 14) (d := some 21) (v := _) rfl rfl (by kernel_rfl) (by kernel_rfl) (by kernel_rfl) (fun _ _ _ h => h) rfl (by assumption) ?hy_13 ?re_13
  case hy_13 =>
    intro w hSw
    try dsimp only at hSw
    go_simp
    try with_reducible rfl
  simp only [Act.put, List.setIfInBounds_toArray, List.set_cons_zero, List.set_cons_succ]
  refine wpAnyH_ready (rs := [10]) (by kernel_rfl) (by simp) ?_
  refine AllReadyH.cons rfl (fun K hK => ?_) AllReadyH.nil
  go_simp
  refine (htm.out _ hD1.out).mono ?_
  rintro e w2 ⟨rfl, hb⟩
  have hD2 := Lib.hid (below_trans hD1.out hb)
  clear hb
  go_wp2_with fail
  refine hK.out _ _ ?_ (fun hHeld => ?_)
  · exact hkS.out _ hD2.out
  clear hK K
  try simp only [Act.put, List.setIfInBounds_toArray, List.set_cons_zero, List.set_cons_succ]
  refine' held_take (i := 15) (d := some 22) (v := _) rfl rfl (by kernel_rfl) (by kernel_rfl) (by kernel_rfl) (fun _ _ _ h => h) rfl (by assumption) ?hy_14 ?re_14
  case hy_14 =>
    intro w hSw
    try dsimp only at hSw
    go_simp
    try with_reducible rfl
  simp only [Act.put, List.setIfInBounds_toArray, List.set_cons_zero, List.set_cons_succ]
  try simp only [decide_true, beq_self_eq_true]
  refine' held_take (i := 16) (d := some 23) (v := _) rfl rfl (by kernel_rfl) (by kernel_rfl) (by kernel_rfl) (fun _ _ _ h => h) rfl (by assumption) ?hy_15 ?re_15
  case hy_15 =>
    intro w hSw
    try dsimp only at hSw
    go_simp
    try with_reducible rfl
  simp only [Act.put, List.setIfInBounds_toArray, List.set_cons_zero, List.set_cons_succ]
  refine' held_take (i := 17) (d := some 24) (v := _) rfl rfl (by kernel_rfl) (by kernel_rfl) (by kernel_rfl) (fun _ _ _ h => h) rfl (by assumption) ?hy_16 ?re_16
  case hy_16 =>
    intro w hSw
    try dsimp only at hSw
    go_simp
    try with_reducible rfl
  simp only [Act.put, List.setIfInBounds_toArray, List.set_cons_zero, List.set_cons_succ]
  refine' held_take (i := 18) (d := some 25) (v := _) rfl rfl (by kernel_rfl) (by kernel_rfl) (by kernel_rfl) (fun _ _ _ h => h) rfl (by assumption) ?hy_17 ?re_17
  case hy_17 =>
    intro w hSw
    try dsimp only at hSw
    go_simp
    try with_reducible rfl
  simp only [Act.put, List.setIfInBounds_toArray, List.set_cons_zero, List.set_cons_succ]
  refine' held_take (i := 20) (d := some 27) (v := _) rfl rfl (by kernel_rfl) (by kernel_rfl) (by kernel_rfl) (fun _ _ _ h => h) rfl (by assumption) ?hy_18 ?re_18
  case hy_18 =>
    intro w hSw
    try dsimp only at hSw
    go_simp
    try with_reducible rfl
  simp only [Act.put, List.setIfInBounds_toArray, List.set_cons_zero, List.set_cons_succ]
  refine' held_take (i := 21) (d := some 28) (v := _) rfl rfl (by kernel_rfl) (by kernel_rfl) (by kernel_rfl) (fun _ _ _ h => h) rfl (by assumption) ?hy_19 ?re_19
  case hy_19 =>
    intro w hSw
    try dsimp only at hSw
    go_simp
    try with_reducible rfl
  simp only [Act.put, List.setIfInBounds_toArray, List.set_cons_zero, List.set_cons_succ]
  refine' held_take (i := 22) (d := some 29) (v := _) rfl rfl (by kernel_rfl) (by kernel_rfl) (by kernel_rfl) (fun _ _ _ h => h) rfl (by assumption) ?hy_20 ?re_20
  case hy_20 =>
    intro w hSw
    try dsimp only at hSw
    go_simp
    try with_reducible rfl
  simp only [Act.put, List.setIfInBounds_toArray, List.set_cons_zero, List.set_cons_succ]
  refine' held_take (i := 23) (d := some 30) (v := _) rfl rfl (by kernel_rfl) (by kernel_rfl) (by kernel_rfl) (fun _ _ _ h => h) rfl (by assumption) ?hy_21 ?re_21
  case hy_21 =>
    intro w hSw
    try dsimp only at hSw
    go_simp
    try with_reducible rfl
  simp only [Act.put, List.setIfInBounds_toArray, List.set_cons_zero, List.set_cons_succ]
  refine wpAnyH_ready (rs := [19]) (by kernel_rfl) (by simp) ?_
  refine AllReadyH.cons rfl (fun K hK => ?_) AllReadyH.nil
  go_simp
  refine (hhd.out _ hD2.out).mono ?_
  rintro e w3 ⟨rfl, hb⟩
  have hD3 := Lib.hid (below_trans hD2.out hb)
  clear hb
  go_wp2_with fail
  refine hK.out _ _ ?_ (fun hHeld => ?_)
  · exact hkS.out _ hD3.out
  clear hK K
  try simp only [Act.put, List.setIfInBounds_toArray, List.set_cons_zero, List.set_cons_succ]
  refine' held_take (i := 24) (d := some 31) (v := _) rfl rfl (by kernel_rfl) (by kernel_rfl) (by kernel_rfl) (fun _ _ _ h => h) rfl (by assumption) ?hy_22 ?re_22
  case hy_22 =>
    intro w hSw
    try dsimp only at hSw
    go_simp
    try with_reducible rfl
  simp only [Act.put, List.setIfInBounds_toArray, List.set_cons_zero, List.set_cons_succ]
  try simp only [hbe, decide_true, beq_self_eq_true]
  refine' held_take (i := 25) (d := some 32) (v := _) rfl rfl (by kernel_rfl) (by kernel_rfl) (by kernel_rfl) (fun _ _ _ h => h) rfl (by assumption) ?hy_23 ?re_23
  case hy_23 =>
    intro w hSw
    try dsimp only at hSw
    go_simp
    try with_reducible rfl
  simp only [Act.put, List.setIfInBounds_toArray, List.set_cons_zero, List.set_cons_succ]
  refine' held_take (i := 26) (d := some 33) (v := _) rfl rfl (by kernel_rfl) (by kernel_rfl) (by kernel_rfl) (fun _ _ _ h => h) rfl (by assumption) ?hy_24 ?re_24
  case hy_24 =>
    intro w hSw
    try dsimp only at hSw
    go_simp
    try with_reducible rfl
  simp only [Act.put, List.setIfInBounds_toArray, List.set_cons_zero, List.set_cons_succ]
  refine' held_take (i := 27) (d := some 34) (v := _) rfl rfl (by kernel_rfl) (by kernel_rfl) (by kernel_rfl) (fun _ _ _ h => h) rfl (by assumption) ?hy_25 ?re_25
  case hy_25 =>
    intro w hSw
    try dsimp only at hSw
    go_simp
    try with_reducible rfl
  simp only [Act.put, List.setIfInBounds_toArray, List.set_cons_zero, List.set_cons_succ]
  refine' held_take (i := 29) (d := some 36) (v := _) rfl rfl (by kernel_rfl) (by kernel_rfl) (by kernel_rfl) (fun _ _ _ h => h) rfl (by assumption) ?hy_26 ?re_26
  case hy_26 =>
    intro w hSw
    try dsimp only at hSw
    go_simp
    try with_reducible rfl
  simp only [Act.put, List.setIfInBounds_toArray, List.set_cons_zero, List.set_cons_succ]
  refine' held_take (i := 30) (d := some 37) (v := _) rfl rfl (by kernel_rfl) (by kernel_rfl) (by kernel_rfl) (fun _ _ _ h => h) rfl (by assumption) ?hy_27 ?re_27
  case hy_27 =>
    intro w hSw
    try dsimp only at hSw
    go_simp
    try with_reducible rfl
  simp only [Act.put, List.setIfInBounds_toArray, List.set_cons_zero, List.set_cons_succ]
  refine' held_take (i := 31) (d := some 38) (v := _) rfl rfl (by kernel_rfl) (by kernel_rfl) (by kernel_rfl) (fun _ _ _ h => h) rfl (by assumption) ?hy_28 ?re_28
  case hy_28 =>
    intro w hSw
    try dsimp only at hSw
    go_simp
    try with_reducible rfl
  simp only [Act.put, List.setIfInBounds_toArray, List.set_cons_zero, List.set_cons_succ]
  refine' held_take (i := 32) (d := some 39) (v := _) rfl rfl (by kernel_rfl) (by kernel_rfl) (by kernel_rfl) (fun _ _ _ h => h) rfl (by assumption) ?hy_29 ?re_29
  case hy_29 =>
    intro w hSw
    try dsimp only at hSw
    go_simp
    try with_reducible rfl
  simp only [Act.put, List.setIfInBounds_toArray, List.set_cons_zero, List.set_cons_succ]
  refine wpAnyH_ready (rs := [28]) (by kernel_rfl) (by simp) ?_
  refine AllReadyH.cons rfl (fun K hK => ?_) AllReadyH.nil
  go_simp
  refine (hen.out _ hD3.out).mono ?_
  rintro e w4 ⟨v4, rfl, hr4, hb⟩
  have hD4 := Lib.hid (below_trans hD3.out hb)
  have hsm := Lib.hid (same_ent v4 _ G.l w4 (EntRow.at_ hr4) (huH.out _ hD4.out))
  clear hr4
  clear hb
  go_wp2_with fail
  refine hK.out _ _ ?_ (fun hHeld => ?_)
  · exact hkS.out _ hD4.out
  clear hK K
  try simp only [Act.put, List.setIfInBounds_toArray, List.set_cons_zero, List.set_cons_succ]
  refine wpAnyH_ready (rs := [33]) (by kernel_rfl) (by simp) ?_
  refine AllReadyH.cons rfl (fun K hK => ?_) AllReadyH.nil
  go_simp
  refine (hsm.out).mono ?_
  rintro e w5 ⟨rfl, hb⟩
  have hD5 := Lib.hid (below_trans hD4.out hb)
  clear hsm
  clear hb
  go_wp2_with fail
  refine hK.out _ _ ?_ (fun hHeld => ?_)
  · exact hkS.out _ hD5.out
  clear hK K
  try simp only [Act.put, List.setIfInBounds_toArray, List.set_cons_zero, List.set_cons_succ]
  refine' held_take (i := 34) (d := some 41) (v := _) rfl rfl (by kernel_rfl) (by kernel_rfl) (by kernel_rfl) (fun _ _ _ h => h) rfl (by assumption) ?hy_30 ?re_30
  case hy_30 =>
    intro w hSw
    try dsimp only at hSw
    go_simp
    try with_reducible rfl
  simp only [Act.put, List.setIfInBounds_toArray, List.set_cons_zero, List.set_cons_succ]
  refine' held_take (i := 35) (d := some 42) (v := _) rfl rfl (by kernel_rfl) (by kernel_rfl) (by kernel_rfl) (fun _ _ _ h => h) rfl (by assumption) ?hy_31 ?re_31
  case hy_31 =>
    intro w hSw
    try dsimp only at hSw
    go_simp
    try with_reducible rfl
  simp only [Act.put, List.setIfInBounds_toArray, List.set_cons_zero, List.set_cons_succ]
  refine' held_take (i := 36) (d := some 43) (v := _) rfl rfl (by kernel_rfl) (by kernel_rfl) (by kernel_rfl) (fun _ _ _ h => h) rfl (by assumption) ?hy_32 ?re_32
  case hy_32 =>
    intro w hSw
    try dsimp only at hSw
    go_simp
    try with_reducible rfl
  simp only [Act.put, List.setIfInBounds_toArray, List.set_cons_zero, List.set_cons_succ]
  refine' held_take (i := 38) (d := some 45) (v := _) rfl rfl (by kernel_rfl) (by kernel_rfl) (by kernel_rfl) (fun _ _ _ h => h) rfl (by assumption) ?hy_33 ?re_33
  case hy_33 =>
    intro w hSw
    try dsimp only at hSw
    go_simp
    try with_reducible rfl
  simp only [Act.put, List.setIfInBounds_toArray, List.set_cons_zero, List.set_cons_succ]
  refine wpAnyH_ready (rs := [37]) (by kernel_rfl) (by simp) ?_
  refine AllReadyH.cons rfl (fun K hK => ?_) AllReadyH.nil
  go_simp
  refine (hfl.out _ hD5.out).mono ?_
  rintro e w6 ⟨v6, rfl, hr6, hb⟩
  have hD6 := Lib.hid (below_trans hD5.out hb)
  have hr6 := Lib.hid hr6
  clear hb
  go_wp2_with fail
  refine hK.out _ _ ?_ (fun hHeld => ?_)
  · exact hkS.out _ hD6.out
  clear hK K
  try simp only [Act.put, List.setIfInBounds_toArray, List.set_cons_zero, List.set_cons_succ]
  refine wpAnyH_ready (rs := [39]) (by kernel_rfl) (by simp) ?_
  refine AllReadyH.cons rfl (fun K hK => ?_) AllReadyH.nil
  go_simp
  refine (hfr.out _ hD6.out).mono ?_
  rintro e w7 ⟨v7, rfl, hr7, hb⟩
  have hD7 := Lib.hid (below_trans hD6.out hb)
  have hsf := Lib.hid (samef_flo v6 v7 G.floors w7 (floorsAt_of (RowG.at_ (floRow_G.1 (FlRow.below hr6.out hb)))) hr7)
  clear hr7
  clear hb
  go_wp2_with fail
  refine hK.out _ _ ?_ (fun hHeld => ?_)
  · exact hkS.out _ hD7.out
  clear hK K
  try simp only [Act.put, List.setIfInBounds_toArray, List.set_cons_zero, List.set_cons_succ]
  refine wpAnyH_ready (rs := [40]) (by kernel_rfl) (by simp) ?_
  refine AllReadyH.cons rfl (fun K hK => ?_) AllReadyH.nil
  go_simp
  refine (hsf.out).mono ?_
  rintro e w8 ⟨rfl, hb⟩
  have hD8 := Lib.hid (below_trans hD7.out hb)
  clear hsf
  clear hb
  go_wp2_with fail
  refine hK.out _ _ ?_ (fun hHeld => ?_)
  · exact hkS.out _ hD8.out
  clear hK K
  try simp only [Act.put, List.setIfInBounds_toArray, List.set_cons_zero, List.set_cons_succ]
  refine' held_take (i := 41) (d := some 48) (v := _) rfl rfl (by kernel_rfl) (by kernel_rfl) (by kernel_rfl) (fun _ _ _ h => h) rfl (by assumption) ?hy_34 ?re_34
  case hy_34 =>
    intro w hSw
    try dsimp only at hSw
    go_simp
    try with_reducible rfl
  simp only [Act.put, List.setIfInBounds_toArray, List.set_cons_zero, List.set_cons_succ]
  refine' held_take (i := 42) (d := some 4) (v := _) rfl rfl (by kernel_rfl) (by kernel_rfl) (by kernel_rfl) (fun _ _ _ h => h) rfl (by assumption) ?hy_35 ?re_35
  case hy_35 =>
    intro w hSw
    try dsimp only at hSw
    go_simp
    try with_reducible rfl
  simp only [Act.put, List.setIfInBounds_toArray, List.set_cons_zero, List.set_cons_succ]
  refine wpAnyH_done (by kernel_rfl) ?_ _
  refine NoPanic.normal ?_
  go_wp2_with fail
  go_ret
  exact ⟨rfl, hD8.out⟩
end Go.Proofs.YtfbndfkahodheaaGreatDoor
