/- The sorted names of a book: slices.Sorted(maps.Keys(b.m)). -/
import Derived.Test.YtjckllgbllmjjaaGreatDoorPerson4
import Derived.Test.YtjckllgbllmjjaaGreatDoorKeys
namespace Go.Proofs.YtjckllgbllmjjaaGreatDoor
open Go.RowKit Go.Maps Go.Sort Go.Shelf

theorem sorts_names (m : Nat) : AnyZ.SortsIn Tryz.prog Tryz.sorted29_ren Fence.wide m :=
  ⟨fun blk off cap ss W hH hblk hsz => callsIn_wide.2 (AnyM.slices_Sort_string Tryz.sort37 blk off cap ss W hH hblk hsz),
   fun p cap W => callsIn_wide.2 (AnyM.slices_Sort_string_none Tryz.sort37 p cap W)⟩
theorem keys_call (mb : Option Nat) (W : World) : Calls Tryz.prog 30 #[.map mb] W fun e w' => e = .returned (.func (.func 38) #[] #[.pointer (some ⟨W.heap.size, 0, none⟩)]) ∧ w' = W.alloc (.cells #[.map mb] 57) :=
  (callsIn_wide (n := 5)).1 (AnyZ.keys_in Tryz.keys30 Fence.wide 5 trivial rfl mb W)
set_option maxHeartbeats 1000000 in
theorem sorted_call {H : Type} (b nn : Nat) (D0 : DataW H) (R : Value → Option (DataW H × List MemPlace)) (w : World) (hown : w.ownsMap Tryz.prog 9 R b nn D0) (hmax : Maps.size D0 ≤ maxLen) (hbytes : Maps.size D0 * 16 ≤ 140737488355328) :
    Calls Tryz.prog 29 #[.func (.func 38) #[] #[.pointer (some ⟨w.heap.size, 0, none⟩)]] (w.alloc (.cells #[.map (some b)] 57)) fun e w' => ∃ (v : Value) (ss : List (List UInt8)), e = .returned v ∧ ss.Perm (strKeys D0) ∧
      w'.ownsRow (w.alloc (.cells #[.map (some b)] 57)).heap.size 9 1 v ss.length ((ss.mergeSort (fun x y => decide (x ≤ y))).map encStr) ∧ (v = .slice none 0 0 ↔ ss = []) ∧ Below (w.alloc (.cells #[.map (some b)] 57)).heap.size (w.alloc (.cells #[.map (some b)] 57)) w' := by
  have hbl := hown.lt
  have hseq : SeqGives Fence.wide 2 Tryz.prog 38 #[.pointer (some ⟨w.heap.size, 0, none⟩)] encStr (fun ss => ss.Perm (strKeys D0)) (Maps.size D0) (w.alloc (.cells #[.map (some b)] 57)) :=
    AnyZ.keys_gives (ρ := Tryz.keys30_ren) { Tryz.keys30 with } Fence.wide _ trivial rfl (by omega) w.heap.size b nn D0 _ (by simp) (by simp) (by
      obtain ⟨es, clock, hb, Ft, hs, hD⟩ := hown
      exact ⟨es, clock, (Below.heap_alloc _ _ b hbl).trans hb, Ft, hs, hD⟩)
  exact (callsIn_wide (n := 5)).1 (AnyZ.sorted_in Tryz.sorted29 Fence.wide 5 trivial trivial trivial trivial rfl (by omega) (sorts_names _) (enters_of Tryz.func37 (by kernel_rfl) rfl) 38 #[.pointer (some ⟨w.heap.size, 0, none⟩)] trivial (enters_of Tryz.func38 (by kernel_rfl) rfl) _ _ hmax hbytes _ hseq)

theorem mergeSort_names {N ss : List (List UInt8)} (hs : N.Pairwise (· < ·)) (hp : ss.Perm N) : ss.mergeSort (fun x y => decide (x ≤ y)) = N := by
  have h1 : (ss.mergeSort (fun x y => decide (x ≤ y))).Perm N := (List.mergeSort_perm _ _).trans hp
  have h2 : (ss.mergeSort (fun x y => decide (x ≤ y))).Pairwise (fun x y => decide (x ≤ y) = true) := List.pairwise_mergeSort (fun a b c h h' => by simp at *; exact List.le_trans h h') (fun a b => by simpa using List.le_total a b) _
  have h3 : N.Pairwise (fun x y => decide (x ≤ y) = true) := hs.imp (fun {a b} h => by simpa using List.le_of_lt h)
  exact h1.eq_of_pairwise (fun a b _ _ h h' => List.le_antisymm (by simpa using h) (by simpa using h')) h2 h3
theorem textsAt_of_sorted {w : World} {base : Nat} {v : Value} {N : List (List UInt8)} (hN : N.length ≤ maxLen) (h : w.ownsRow base 9 1 v N.length (N.map encStr)) : TextsAt w v N := by
  obtain ⟨_, ⟨rfl, hn⟩ | ⟨g, cap, cur, rfl, _, hg, hc, _, hsz, htake⟩⟩ := h
  · exact ⟨none, 0, by rw [hn], hN, by omega, fun i hi => by omega⟩
  · refine ⟨_, _, rfl, hN, by omega, fun i hi => ⟨g, 0, rfl, ?_⟩⟩
    rw [cell_of_row w g (0 + i) _ _ _ hg]
    have h1 : (cur.toList.take (N.length * 1))[i]? = some (encStr N[i]) := by rw [htake, List.getElem?_map, List.getElem?_eq_getElem hi]; rfl
    rw [List.getElem?_take] at h1
    rw [if_pos (by omega)] at h1
    rw [Nat.zero_add]
    have h2 : cur[i]? = some (encStr N[i]) := by simpa using h1
    exact h2
theorem sorted_names (w : World) (b r : Nat) (L : List Per) (hB : BookAt w b r L) (hk : ∀ p ∈ L, p.name.length ≤ maxLen) (hm : L.length ≤ 20) :
    Calls Tryz.prog 29 #[.func (.func 38) #[] #[.pointer (some ⟨w.heap.size, 0, none⟩)]] (w.alloc (.cells #[.map (some r)] 57)) fun e w' => ∃ v, e = .returned v ∧ TextsAt w' v (L.map Per.name) ∧ Below w.heap.size w w' := by
  obtain ⟨l, hl, hp⟩ := hB.map
  have hlen : l.length = L.length := by simpa using hp.length_eq
  have hmx : L.length ≤ maxLen := by unfold maxLen; omega
  obtain ⟨D, h1, h2, h3⟩ := ownsMap_of hl (by
    intro x hx
    obtain ⟨p, hpL, rfl⟩ := List.mem_map.1 (hp.mem_iff.1 hx)
    exact hk p hpL) (by omega)
  refine (sorted_call r l.length D readNone w h1 (by omega) (by omega)).mono ?_
  rintro e w' ⟨v, ss, rfl, hss, hrow, _, hb⟩
  have hsp : ss.Perm (L.map Per.name) := by
    refine hss.trans (h3.trans ((hp.map _).trans (List.Perm.of_eq ?_)))
    rw [List.map_map]
    rfl
  rw [mergeSort_names (List.pairwise_map.2 hB.sorted) hsp, hsp.length_eq] at hrow
  exact ⟨v, rfl, textsAt_of_sorted (by rw [List.length_map]; exact hmx) hrow, below_trans ((Below.refl _ _).alloc (Nat.le_refl _) _) hb⟩
end Go.Proofs.YtjckllgbllmjjaaGreatDoor
