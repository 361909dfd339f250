/- Rows of numbers: sorted; the numbers of what is open: slices.Sorted(maps.Keys(d.m)). -/
import Derived.Test.YtmjbhglmlbgkmaaDoorSesW
import Derived.Test.YtmjbhglmlbgkmaaDoorShelf3
import Derived.Test.YtmjbhglmlbgkmaaDoorKeys
import Derived.Test.YtmjbhglmlbgkmaaDoorRowOwn
import Derived.Sort.OwnSortedInts
import Derived.Deep.LoopGhost
namespace Go.Proofs.YtmjbhglmlbgkmaaDoor
open Go.RowKit Go.MapKept Go.Maps Go.Sort Go.Shelf

/-- A row of numbers of one's own. -/
def IntRow (w : World) (base : Nat) (v : Value) (zs : List Int) : Prop := w.ownsRow base 3 1 v zs.length (zs.map (Value.int .i64))
theorem IntRow.nil (w : World) (base : Nat) : IntRow w base (.slice none 0 0) [] := World.ownsRow_nil _ _ _ _
theorem IntRow.sl {w : World} {base : Nat} {v : Value} {zs : List Int} (h : IntRow w base v zs) : ∃ a c, v = .slice a zs.length c := by
  obtain ⟨_, ⟨rfl, hn⟩ | ⟨g, cap, cur, rfl, _⟩⟩ := h
  · rw [hn]; exact ⟨_, _, rfl⟩
  · exact ⟨_, _, rfl⟩
theorem IntRow.keeps {S : Nat → Prop} {w w' : World} {base : Nat} {v : Value} {zs : List Int} (h : IntRow w base v zs) (hk : Keeps S w w') (hs : ∀ g, v.ownBlock = some g → ¬ S g) : IntRow w' base v zs := ownsRow_keeps h hk hs
theorem IntRow.below {w w' : World} {base : Nat} {v : Value} {zs : List Int} (h : IntRow w base v zs) (hb : Below w.heap.size w w') : IntRow w' base v zs := h.keeps (Keeps.of_below (S := fun _ => False) hb) (fun _ _ h => h)
theorem IntRow.mono {w : World} {base base2 : Nat} {v : Value} {zs : List Int} (h : IntRow w base v zs) (hb : base2 ≤ base) : IntRow w base2 v zs := ownsRow_mono h hb
theorem IntRow.at_ {w : World} {base c : Nat} {a : Option Addr} {zs : List Int} (h : IntRow w base (.slice a zs.length c) zs) (i : Nat) (hi : i < zs.length) : ∃ g o, a = some ⟨g, o, none⟩ ∧ w.cell? ⟨g, o + i, none⟩ = some (.int .i64 zs[i]) := by
  obtain ⟨_, ⟨he, hn⟩ | ⟨g, cap, cur, he, hb, hg, hc, hm, hsz, ht⟩⟩ := h
  · omega
  · injection he with he
    subst he
    refine ⟨g, 0, rfl, ?_⟩
    rw [Nat.zero_add, cell_of_row w g i _ _ _ hg]
    have h1 : (cur.toList.take (zs.length * 1))[i]? = (zs.map (Value.int .i64))[i]? := by rw [ht]
    rw [List.getElem?_take, if_pos (by omega), List.getElem?_map, List.getElem?_eq_getElem hi] at h1
    rw [Array.getElem?_toList] at h1
    exact h1
/-- slices.Sort on a row of one's own. -/
theorem sort_row {w : World} {base : Nat} {v : Value} {zs : List Int} (h : IntRow w base v zs) (hn : zs.length < 4611686018427387904) :
    Calls Tryd.prog 46 #[v] w fun e w' => e = .returned (.tuple #[]) ∧ IntRow w' base v (zs.mergeSort fun x y => decide (x ≤ y)) ∧ Keeps (fun k => v.ownBlock = some k) w w' := by
  have h0 := h
  obtain ⟨hl, ⟨rfl, hz⟩ | ⟨g, cap, cur, rfl, hbase, hb, h1, h2, h3, h4⟩⟩ := h
  · have : zs = [] := List.eq_nil_of_length_eq_zero hz
    subst this
    refine (show Calls Tryd.prog 46 #[.slice none 0 0] w _ from AnyM.slices_Sort_int_none Tryd.sort46 none 0 w).mono ?_
    rintro e w' ⟨rfl, rfl⟩
    rw [List.mergeSort_nil]
    exact ⟨rfl, h0, Keeps.refl _ _⟩
  · refine (show Calls Tryd.prog 46 #[.slice (some ⟨g, 0, none⟩) zs.length cap] w _ from AnyM.slices_Sort_int Tryd.sort46 g 0 cap zs w (holds_of_blockI hb (by simpa using h4)) ((Array.getElem?_eq_some_iff.1 hb).1) hn).mono ?_
    rintro e w' ⟨rfl, n, os, rfl⟩
    have hlen : (zs.mergeSort fun x y => decide (x ≤ y)).length = zs.length := List.length_mergeSort _
    have hg := grownBy_sortedI (w := w) (g := g) (n := n) (os := os) (zs.mergeSort fun x y => decide (x ≤ y)).toArray
    refine ⟨rfl, ?_, ⟨hg.os, hg.tape, hg.output, hg.size, fun k hk hs => hg.block k hk (fun e => hs e.symm)⟩⟩
    unfold IntRow
    rw [hlen]
    exact ownsRow_sortedI hlen hbase hb h1 h2 h3
theorem sortsI (m : Nat) : AnyZI.SortsIn Tryd.prog Tryd.sorted43_ren Fence.wide m :=
  ⟨fun blk off cap ss W hH hblk hsz => callsIn_wide.2 (AnyM.slices_Sort_int Tryd.sort46 blk off cap ss W hH hblk hsz),
   fun p cap W => callsIn_wide.2 (AnyM.slices_Sort_int_none Tryd.sort46 p cap W)⟩
theorem keysI_call (mb : Option Nat) (W : World) : Calls Tryd.prog 44 #[.map mb] W fun e w' => e = .returned (.func (.func 64) #[] #[.pointer (some ⟨W.heap.size, 0, none⟩)]) ∧ w' = W.alloc (.cells #[.map mb] 88) :=
  (callsIn_wide (n := 5)).1 (AnyZI.keys_in Tryd.keys44 Fence.wide 5 trivial rfl mb W)
set_option maxHeartbeats 1000000 in
theorem sortedI_call {H : Type} (b nn : Nat) (D0 : DataW H) (R : Value → Option (DataW H × List MemPlace)) (w : World) (hown : w.ownsMap Tryd.prog 3 R b nn D0) (hmax : Maps.size D0 ≤ maxLen) (hbytes : Maps.size D0 * 8 ≤ 140737488355328) :
    Calls Tryd.prog 43 #[.func (.func 64) #[] #[.pointer (some ⟨w.heap.size, 0, none⟩)]] (w.alloc (.cells #[.map (some b)] 88)) fun e w' => ∃ (v : Value) (ss : List Int), e = .returned v ∧ ss.Perm (intKeys D0) ∧
      w'.ownsRow (w.alloc (.cells #[.map (some b)] 88)).heap.size 3 1 v ss.length ((ss.mergeSort (fun x y => decide (x ≤ y))).map encZ) ∧ (v = .slice none 0 0 ↔ ss = []) ∧ Below (w.alloc (.cells #[.map (some b)] 88)).heap.size (w.alloc (.cells #[.map (some b)] 88)) w' := by
  have hbl := hown.lt
  have hseq : SeqGives Fence.wide 2 Tryd.prog 64 #[.pointer (some ⟨w.heap.size, 0, none⟩)] encZ (fun ss => ss.Perm (intKeys D0)) (Maps.size D0) (w.alloc (.cells #[.map (some b)] 88)) :=
    AnyZI.keys_gives (ρ := Tryd.keys44_ren) { Tryd.keys44 with } Fence.wide _ trivial rfl (by omega) w.heap.size b nn D0 _ (by simp) (by simp) (by
      obtain ⟨es, clock, hb, Ft, hs, hD⟩ := hown
      exact ⟨es, clock, (Below.heap_alloc _ _ b hbl).trans hb, Ft, hs, hD⟩)
  exact (callsIn_wide (n := 5)).1 (AnyZI.sorted_in Tryd.sorted43 Fence.wide 5 trivial trivial trivial trivial rfl (by omega) (sortsI _) (enters_of Tryd.func46 (by kernel_rfl) rfl) 64 #[.pointer (some ⟨w.heap.size, 0, none⟩)] trivial (enters_of Tryd.func64 (by kernel_rfl) rfl) _ _ hmax hbytes _ hseq)
def keyInt : Value → Int
  | .int _ n => n
  | _ => 0
/-- A map of numbers, as the library's contracts want it. -/
theorem ownsMapN_of {w : World} {r : Nat} {l : List Ses} (h : MapV (.int .i64) w r (l.map sesPair)) (hk : ∀ p ∈ l, (Lit.int .i64 p.n).wf = true) (hn : l.length ≤ maxLen) :
    ∃ D : DataW Unit, w.ownsMap Tryd.prog 3 readNone r l.length D ∧ Maps.size D = l.length ∧ (intKeys D).Perm (l.map Ses.n) := by
  obtain ⟨es, clock, hb, hs, hkk, hl⟩ := h
  have hsz : es.size = l.length := by simpa using congrArg List.length hl
  have hkey : ∀ x ∈ es.toList, keyOf Tryd.prog 3 x.key = some (.int .i64 (keyInt x.key)) := by
    intro x hx
    have hm : (x.key, x.val) ∈ l.map sesPair := by rw [← hl]; exact List.mem_map.2 ⟨x, hx, rfl⟩
    obtain ⟨p, hp, he⟩ := List.mem_map.1 hm
    have h1 := congrArg Prod.fst he
    simp only [sesPair] at h1
    rw [← h1]
    exact keyOf_int_mk Tryd.underlying3 (hk p hp)
  have hrd : ∀ x ∈ es.toList, WideElems.rd (H := Unit) Tryd.prog 3 readNone x = some (.int .i64 (keyInt x.key), .nil) := by
    intro x hx
    unfold WideElems.rd
    rw [hkey x hx]
    rfl
  refine ⟨.map ((es.toList.map (WideElems.rg Tryd.prog 3 readNone)).foldr DataW.insert []), ⟨es, clock, hb, ⟨by rw [hsz]; exact hn, hs, fun x hx => ⟨_, hrd x hx⟩⟩, by rw [hsz]; exact Nat.le_refl _, rfl⟩, ?_, ?_⟩
  · show (List.foldr DataW.insert [] _).length = _
    rw [(foldr_insert_perm _).length_eq]
    simpa using hsz
  · unfold intKeys
    refine ((foldr_insert_perm _).map _).trans ?_
    rw [List.map_map]
    have h2 : l.map Ses.n = es.toList.map fun x => keyInt x.key := by
      have h3 := congrArg (List.map fun p : Value × Value => keyInt p.1) hl
      rw [List.map_map, List.map_map] at h3
      exact h3.symm
    rw [h2]
    refine List.Perm.of_eq (List.map_congr_left fun x hx => ?_)
    simp only [Function.comp, WideElems.rg, hrd x hx]
    rfl
theorem wf_num {n : Int} (h : -9223372036854775808 ≤ n ∧ n ≤ 9223372036854775807) : (Lit.int .i64 n).wf = true := by
  have e1 : IntKind.i64.min = -9223372036854775808 := by kernel_rfl
  have e2 : IntKind.i64.max = 9223372036854775807 := by kernel_rfl
  simp only [Lit.wf, Bool.and_eq_true, decide_eq_true_eq, e1, e2]
  exact h
set_option maxRecDepth 100000 in
theorem all_desk (b r : Nat) (next : Int) (L : List Ses) (w : World) (hD : DeskS w b r next L) (hG : GoodS next L) (hnx : next ≤ 1000000) :
    Calls Tryd.prog 12 #[.pointer (some ⟨b, 0, none⟩)] w fun e w' => ∃ v, e = .returned v ∧ IntRow w' w.heap.size v (numsS L) ∧ Below w.heap.size w w' := by
  have hc := hD.at1
  obtain ⟨_, l, hl, hp⟩ := hD
  have hlen : l.length = L.length := hp.length_eq
  have hmany := hG.many
  have hmx : L.length ≤ maxLen := by unfold maxLen; omega
  obtain ⟨D, h1, h2, h3⟩ := ownsMapN_of hl (fun p hpl => wf_num (by have := hG.lo p (hp.mem_iff.1 hpl); omega)) (by omega)
  have hso := Lib.hid (sortedI_call r _ D readNone w h1 (by omega) (by omega))
  have hpm := Lib.hid (h3.trans (hp.map Ses.n))
  have hsrt := Lib.hid (nums_sorted hG.sorted)
  clear hl hp h1 h2 h3 hG
  go_enter Tryd.func12, Tryd.ntmps12
  go_wp2_with fail
  refine (keysI_call _ _).mono ?_
  rintro e w1 ⟨rfl, rfl⟩
  go_wp2_with fail
  refine hso.out.mono ?_
  rintro e w2 ⟨v, ss, rfl, hss, hrow, _, hb⟩
  have hsp := hss.trans hpm.out
  rw [mergeSort_nums hsrt.out hsp, hsp.length_eq] at hrow
  have hfin := Lib.hid (show IntRow w2 w.heap.size v (numsS L) from ownsRow_mono (by
    unfold numsS at hrow ⊢
    exact hrow) (by rw [World.size_alloc]; omega))
  have hbf := Lib.hid (below_trans ((Below.refl _ _).alloc (Nat.le_refl _) _) hb)
  clear hrow hb hss hsp
  go_wp2_with fail
  go_ret
  exact ⟨v, rfl, hfin.out, hbf.out⟩
end Go.Proofs.YtmjbhglmlbgkmaaDoor
