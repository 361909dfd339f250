/- The words that were seen: slices.Sorted(maps.Keys(s.m)); the reference's Words. -/
import Derived.Test.YtmjbhglmlbgkmaaDoorRefS2
import Derived.Test.YtmjbhglmlbgkmaaDoorKeys
namespace Go.Proofs.YtmjbhglmlbgkmaaDoor
open Go.RowKit Go.Maps Go.Sort Go.Shelf Go.MapKept

theorem sorts_names (m : Nat) : AnyZ.SortsIn Tryd.prog Tryd.sorted59_ren Fence.wide m :=
  ⟨fun blk off cap ss W hH hblk hsz => callsIn_wide.2 (AnyM.slices_Sort_string Tryd.sort80 blk off cap ss W hH hblk hsz),
   fun p cap W => callsIn_wide.2 (AnyM.slices_Sort_string_none Tryd.sort80 p cap W)⟩
theorem keys_call (mb : Option Nat) (W : World) : Calls Tryd.prog 60 #[.map mb] W fun e w' => e = .returned (.func (.func 81) #[] #[.pointer (some ⟨W.heap.size, 0, none⟩)]) ∧ w' = W.alloc (.cells #[.map mb] 110) :=
  (callsIn_wide (n := 5)).1 (AnyZ.keys_in Tryd.keys60 Fence.wide 5 trivial rfl mb W)
set_option maxHeartbeats 1000000 in
theorem sorted_call {H : Type} (b nn : Nat) (D0 : DataW H) (R : Value → Option (DataW H × List MemPlace)) (w : World) (hown : w.ownsMap Tryd.prog 9 R b nn D0) (hmax : Maps.size D0 ≤ maxLen) (hbytes : Maps.size D0 * 16 ≤ 140737488355328) :
    Calls Tryd.prog 59 #[.func (.func 81) #[] #[.pointer (some ⟨w.heap.size, 0, none⟩)]] (w.alloc (.cells #[.map (some b)] 110)) fun e w' => ∃ (v : Value) (ss : List (List UInt8)), e = .returned v ∧ ss.Perm (strKeys D0) ∧
      w'.ownsRow (w.alloc (.cells #[.map (some b)] 110)).heap.size 9 1 v ss.length ((ss.mergeSort (fun x y => decide (x ≤ y))).map encStr) ∧ (v = .slice none 0 0 ↔ ss = []) ∧ Below (w.alloc (.cells #[.map (some b)] 110)).heap.size (w.alloc (.cells #[.map (some b)] 110)) w' := by
  have hbl := hown.lt
  have hseq : SeqGives Fence.wide 2 Tryd.prog 81 #[.pointer (some ⟨w.heap.size, 0, none⟩)] encStr (fun ss => ss.Perm (strKeys D0)) (Maps.size D0) (w.alloc (.cells #[.map (some b)] 110)) :=
    AnyZ.keys_gives (ρ := Tryd.keys60_ren) { Tryd.keys60 with } Fence.wide _ trivial rfl (by omega) w.heap.size b nn D0 _ (by simp) (by simp) (by
      obtain ⟨es, clock, hb, Ft, hs, hD⟩ := hown
      exact ⟨es, clock, (Below.heap_alloc _ _ b hbl).trans hb, Ft, hs, hD⟩)
  exact (callsIn_wide (n := 5)).1 (AnyZ.sorted_in Tryd.sorted59 Fence.wide 5 trivial trivial trivial trivial rfl (by omega) (sorts_names _) (enters_of Tryd.func80 (by kernel_rfl) rfl) 81 #[.pointer (some ⟨w.heap.size, 0, none⟩)] trivial (enters_of Tryd.func81 (by kernel_rfl) rfl) _ _ hmax hbytes _ hseq)

theorem mergeSort_names {N ss : List (List UInt8)} (hs : N.Pairwise (· < ·)) (hp : ss.Perm N) : ss.mergeSort (fun x y => decide (x ≤ y)) = N := by
  have h1 : (ss.mergeSort (fun x y => decide (x ≤ y))).Perm N := (List.mergeSort_perm _ _).trans hp
  have h2 : (ss.mergeSort (fun x y => decide (x ≤ y))).Pairwise (fun x y => decide (x ≤ y) = true) := List.pairwise_mergeSort (fun a b c h h' => by simp at *; exact List.le_trans h h') (fun a b => by simpa using List.le_total a b) _
  have h3 : N.Pairwise (fun x y => decide (x ≤ y) = true) := hs.imp (fun {a b} h => by simpa using List.le_of_lt h)
  exact h1.eq_of_pairwise (fun a b _ _ h h' => List.le_antisymm (by simpa using h) (by simpa using h')) h2 h3
theorem textsAt_of_sorted {w : World} {base : Nat} {v : Value} {N : List (List UInt8)} (hN : N.length ≤ maxLen) (h : w.ownsRow base 9 1 v N.length (N.map encStr)) : TextsAt w v N := by
  obtain ⟨_, ⟨rfl, hn⟩ | ⟨g, cap, cur, rfl, _, hg, hc, _, hsz, htake⟩⟩ := h
  · exact ⟨none, 0, by rw [hn], hN, by omega, fun i hi => by omega⟩
  · refine ⟨_, _, rfl, hN, by omega, fun i hi => ⟨g, 0, rfl, ?_⟩⟩
    rw [cell_of_row w g (0 + i) _ _ _ hg]
    have h1 : (cur.toList.take (N.length * 1))[i]? = some (encStr N[i]) := by rw [htake, List.getElem?_map, List.getElem?_eq_getElem hi]; rfl
    rw [List.getElem?_take] at h1
    rw [if_pos (by omega)] at h1
    rw [Nat.zero_add]
    have h2 : cur[i]? = some (encStr N[i]) := by simpa using h1
    exact h2
theorem sorted_seen (w : World) (b r : Nat) (long : Int) (L : List Wd) (hS : SeenAt w b r long L) (hG : GoodW L) :
    Calls Tryd.prog 59 #[.func (.func 81) #[] #[.pointer (some ⟨w.heap.size, 0, none⟩)]] (w.alloc (.cells #[.map (some r)] 110)) fun e w' => ∃ v, e = .returned v ∧ TextsAt w' v (L.map Wd.s) ∧ Below w.heap.size w w' := by
  obtain ⟨_, l, hl, hp⟩ := hS
  have hlen : l.length = L.length := by simpa using hp.length_eq
  have hm := hG.many
  have hmx : L.length ≤ maxLen := by unfold maxLen; omega
  obtain ⟨D, h1, h2, h3⟩ := ownsMap_of hl (by
    intro x hx
    obtain ⟨p, hpL, rfl⟩ := List.mem_map.1 hx
    obtain ⟨q, hq, rfl⟩ := List.mem_map.1 (hp.mem_iff.1 hpL)
    have := ((isWord_iff _).1 (hG.word q hq)).2.1
    show (bs q.s).data.toList.length ≤ maxLen
    rw [bs_list]
    unfold maxLen
    omega) (by rw [List.length_map]; omega)
  have hln : (l.map pairVal).length = l.length := List.length_map _
  refine (sorted_call r _ D readNone w h1 (by omega) (by omega)).mono ?_
  rintro e w' ⟨v, ss, rfl, hss, hrow, _, hb⟩
  have hsp : ss.Perm (L.map Wd.s) := by
    refine hss.trans (h3.trans ?_)
    rw [List.map_map]
    refine (List.Perm.of_eq (List.map_congr_left fun p _ => (show keyBytes (pairVal p).1 = p.1 from bs_list p.1))).trans ((hp.map _).trans (List.Perm.of_eq ?_))
    rw [List.map_map]
    rfl
  rw [mergeSort_names (List.pairwise_map.2 hG.sorted) hsp, hsp.length_eq] at hrow
  exact ⟨v, rfl, textsAt_of_sorted (by rw [List.length_map]; exact hmx) hrow, below_trans ((Below.refl _ _).alloc (Nat.le_refl _) _) hb⟩
set_option maxRecDepth 100000 in
theorem words_seen (b r : Nat) (long : Int) (L : List Wd) (w : World) (hS : SeenAt w b r long L) (hG : GoodW L) :
    Calls Tryd.prog 39 #[.pointer (some ⟨b, 0, none⟩)] w fun e w' => ∃ v, e = .returned v ∧ TextsAt w' v (L.map Wd.s) ∧ Below w.heap.size w w' := by
  have hc := hS.at1
  have hso := Lib.hid (sorted_seen w b r long L hS hG)
  clear hS hG
  go_enter Tryd.func39, Tryd.ntmps39
  go_wp2_with fail
  refine (keys_call _ _).mono ?_
  rintro e w1 ⟨rfl, rfl⟩
  go_wp2_with fail
  refine hso.out.mono ?_
  rintro e w2 ⟨v, rfl, hv, hb⟩
  go_wp2_with fail
  go_ret
  exact ⟨v, rfl, hv, hb⟩
theorem texts_of_row {w : World} {base : Nat} {v : Value} {L : List Wd} (hL : L.length ≤ maxLen) (h : w.ownsRow base 9 1 v L.length (L.map wS)) : TextsAt w v (L.map Wd.s) := by
  refine textsAt_of_sorted (base := base) (by rw [List.length_map]; exact hL) ?_
  rw [List.length_map, List.map_map]
  exact h
theorem take_map_succ {L : List Wd} {j : Nat} (h : j < L.length) : (L.take (j + 1)).map wS = (L.take j).map wS ++ [.string (bs L[j].s)] := by
  rw [take_snocW h, List.map_append]
  rfl
set_option maxHeartbeats 2000000 in
set_option maxRecDepth 100000 in
theorem wordsR_any (base b : Nat) (long : Int) (L : List Wd) (w : World) (hB : SRef w base b long L) (h40 : L.length ≤ 40) :
    Calls Tryd.prog 40 #[.pointer (some ⟨b, 0, none⟩)] w fun e w' => ∃ v, e = .returned v ∧ TextsAt w' v (L.map Wd.s) ∧ Below w.heap.size w w' := by
  obtain ⟨i0, hi, hz0, hz1, hz2⟩ := info_parts sinfo
  obtain ⟨_, v, c1, hown, _⟩ := hB.at0
  have hPers := wdsAt_of_row (by unfold maxLen; omega) hown
  obtain ⟨a, c, rfl, hml, hcl⟩ := hPers
  have hcl := Lib.hid hcl
  clear hB hown
  go_enter Tryd.func40, Tryd.ntmps40
  go_wp2_with fail
  go_loopw [3, 4] (fun v i wr => ∃ j : Nat, j ≤ L.length ∧ i = .int .i64 j ∧ Hid (wr.ownsRow w.heap.size 9 1 v j ((L.take j).map wS)) ∧ Hid (Below w.heap.size w wr)) (fun _ i _ => L.length - (intOf i).toNat)
  case atStart => exact ⟨0, Nat.zero_le _, rfl, Lib.hid (World.ownsRow_nil _ _ _ _), Lib.hid (Below.refl _ _)⟩
  case round =>
    obtain ⟨j, hj, rfl, hrow, hbx⟩ := hrel
    have c1 := cell_below hbx.out c1
    obtain ⟨a9, c9, rfl⟩ := row_sl hrow.out
    by_cases hlt : j < L.length
    · obtain ⟨bb, o, rfl, d0, _⟩ := hcl.out j hlt
      have d0 := cell_below hbx.out d0
      have hts := Lib.hid (take_map_succ hlt)
      have hk2 : (0 : Int) ≤ (j : Int) := by omega
      have hk3 : (j : Int) < (L.length : Int) := by omega
      have hsz : w.heap.size ≤ wr.heap.size := hbx.out.size
      generalize bs L[j].s = sj at *
      go_wp2_with (first
        | (at_builtin; refine wpList_append_own_at _ rfl _ _ 61 rfl w.heap.size 9 i0 (.string ⟨#[]⟩) 1 16 Tryd.underlying61 hi hz0 hz1 hz2 rfl (by decide) _ _ _ rfl (World.ownsRow.alloc hrow.out _) ⟨wr.heap.size, 0, none⟩ 1 1 [.string sj] rfl ?hl ?c1 ?c2 ?c3 ?c4 ?c5 ?_)
        | go_in)
      case hl => rfl
      case c1 => exact cell_one_new _ _ _
      case c2 => intro u hu; simp at hu; subst hu; rfl
      case c3 => unfold maxLen; omega
      case c4 => omega
      case c5 => rw [World.size_alloc]; omega
      intro v6 w6 hown6 hgrow6 _ _
      have hbx6 : Below w.heap.size w w6 := (hbx.out.alloc hsz _).grown hgrow6 (by rw [World.size_alloc]; omega) (fun k hk => (World.ownsRow.lt hrow.out k hk).1)
      have hr6 := Lib.hid (show w6.ownsRow w.heap.size 9 1 v6 (j + 1) ((L.take (j + 1)).map wS) by rw [hts.out, List.map_take]; exact hown6)
      have hbx6 := Lib.hid hbx6
      clear hown6 hgrow6 hrow hbx c1 d0
      go_wp2_with fail
      exact ⟨⟨j + 1, hlt, by simp, hr6, hbx6⟩, by simp [intOf]; omega⟩
    · have hge : ¬ ((j : Int) < (L.length : Int)) := by omega
      have hje : j = L.length := by omega
      subst hje
      have hfin := Lib.hid (texts_of_row hml (by have h := hrow.out; rw [List.take_length] at h; exact h))
      go_wp2_with fail
      go_ret
      exact ⟨_, rfl, hfin.out, hbx.out⟩
end Go.Proofs.YtmjbhglmlbgkmaaDoor
