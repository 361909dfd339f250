/- SesA, FloW, ErrAt -/
import Derived.Test.YtlcomdbkkfbjiaaGreatDoorMg10
import Derived.Test.YtlcomdbkkfbjiaaGreatDoorShelf3
import Derived.Test.YtlcomdbkkfbjiaaGreatDoorMg8
import Derived.Sort.OwnSortedInts
import Derived.Deep.LoopGhost
import Derived.Test.YtlcomdbkkfbjiaaGreatDoorMg7
import Derived.Test.YtlcomdbkkfbjiaaGreatDoorMg5
import Derived.Deep.RegionHeld3
import Derived.Deep.CutRange
import Derived.Deep.CutBlock
/- Rows of numbers: sorted; the numbers of what is open: slices.Sorted(maps.Keys(d.m)). -/
namespace Go.Proofs.YtlcomdbkkfbjiaaGreatDoor
open Go.RowKit Go.MapKept Go.Maps Go.Sort Go.Shelf

/-- A row of numbers of one's own. -/
def IntRow (w : World) (base : Nat) (v : Value) (zs : List Int) : Prop := w.ownsRow base 3 1 v zs.length (zs.map (Value.int .i64))
theorem IntRow.nil (w : World) (base : Nat) : IntRow w base (.slice none 0 0) [] := World.ownsRow_nil _ _ _ _
theorem IntRow.sl {w : World} {base : Nat} {v : Value} {zs : List Int} (h : IntRow w base v zs) : ∃ a c, v = .slice a zs.length c := by
  obtain ⟨_, ⟨rfl, hn⟩ | ⟨g, cap, cur, rfl, _⟩⟩ := h
  · rw [hn]; exact ⟨_, _, rfl⟩
  · exact ⟨_, _, rfl⟩
theorem IntRow.keeps {S : Nat → Prop} {w w' : World} {base : Nat} {v : Value} {zs : List Int} (h : IntRow w base v zs) (hk : Keeps S w w') (hs : ∀ g, v.ownBlock = some g → ¬ S g) : IntRow w' base v zs := ownsRow_keeps h hk hs
theorem IntRow.below {w w' : World} {base : Nat} {v : Value} {zs : List Int} (h : IntRow w base v zs) (hb : Below w.heap.size w w') : IntRow w' base v zs := h.keeps (Keeps.of_below (S := fun _ => False) hb) (fun _ _ h => h)
theorem IntRow.mono {w : World} {base base2 : Nat} {v : Value} {zs : List Int} (h : IntRow w base v zs) (hb : base2 ≤ base) : IntRow w base2 v zs := ownsRow_mono h hb
theorem IntRow.at_ {w : World} {base c : Nat} {a : Option Addr} {zs : List Int} (h : IntRow w base (.slice a zs.length c) zs) (i : Nat) (hi : i < zs.length) : ∃ g o, a = some ⟨g, o, none⟩ ∧ w.cell? ⟨g, o + i, none⟩ = some (.int .i64 zs[i]) := by
  obtain ⟨_, ⟨he, hn⟩ | ⟨g, cap, cur, he, hb, hg, hc, hm, hsz, ht⟩⟩ := h
  · omega
  · injection he with he
    subst he
    refine ⟨g, 0, rfl, ?_⟩
    rw [Nat.zero_add, cell_of_row w g i _ _ _ hg]
    have h1 : (cur.toList.take (zs.length * 1))[i]? = (zs.map (Value.int .i64))[i]? := by rw [ht]
    rw [List.getElem?_take, if_pos (by omega), List.getElem?_map, List.getElem?_eq_getElem hi] at h1
    rw [Array.getElem?_toList] at h1
    exact h1
/-- slices.Sort on a row of one's own. -/
theorem sort_row {w : World} {base : Nat} {v : Value} {zs : List Int} (h : IntRow w base v zs) (hn : zs.length < 4611686018427387904) :
    Calls Tryz.prog 29 #[v] w fun e w' => e = .returned (.tuple #[]) ∧ IntRow w' base v (zs.mergeSort fun x y => decide (x ≤ y)) ∧ Keeps (fun k => v.ownBlock = some k) w w' := by
  have h0 := h
  obtain ⟨hl, ⟨rfl, hz⟩ | ⟨g, cap, cur, rfl, hbase, hb, h1, h2, h3, h4⟩⟩ := h
  · have : zs = [] := List.eq_nil_of_length_eq_zero hz
    subst this
    refine (show Calls Tryz.prog 29 #[.slice none 0 0] w _ from AnyM.slices_Sort_int_none Tryz.sort29 none 0 w).mono ?_
    rintro e w' ⟨rfl, rfl⟩
    rw [List.mergeSort_nil]
    exact ⟨rfl, h0, Keeps.refl _ _⟩
  · refine (show Calls Tryz.prog 29 #[.slice (some ⟨g, 0, none⟩) zs.length cap] w _ from AnyM.slices_Sort_int Tryz.sort29 g 0 cap zs w (holds_of_blockI hb (by simpa using h4)) ((Array.getElem?_eq_some_iff.1 hb).1) hn).mono ?_
    rintro e w' ⟨rfl, n, os, rfl⟩
    have hlen : (zs.mergeSort fun x y => decide (x ≤ y)).length = zs.length := List.length_mergeSort _
    have hg := grownBy_sortedI (w := w) (g := g) (n := n) (os := os) (zs.mergeSort fun x y => decide (x ≤ y)).toArray
    refine ⟨rfl, ?_, ⟨hg.os, hg.tape, hg.output, hg.size, fun k hk hs => hg.block k hk (fun e => hs e.symm)⟩⟩
    unfold IntRow
    rw [hlen]
    exact ownsRow_sortedI hlen hbase hb h1 h2 h3
theorem sortsI (m : Nat) : AnyZI.SortsIn Tryz.prog Tryz.sorted34_ren Fence.wide m :=
  ⟨fun blk off cap ss W hH hblk hsz => callsIn_wide.2 (AnyM.slices_Sort_int Tryz.sort29 blk off cap ss W hH hblk hsz),
   fun p cap W => callsIn_wide.2 (AnyM.slices_Sort_int_none Tryz.sort29 p cap W)⟩
theorem keysI_call (mb : Option Nat) (W : World) : Calls Tryz.prog 35 #[.map mb] W fun e w' => e = .returned (.func (.func 51) #[] #[.pointer (some ⟨W.heap.size, 0, none⟩)]) ∧ w' = W.alloc (.cells #[.map mb] 64) :=
  (callsIn_wide (n := 5)).1 (AnyZI.keys_in Tryz.keys35 Fence.wide 5 trivial rfl mb W)
set_option maxHeartbeats 1000000 in
theorem sortedI_call {H : Type} (b nn : Nat) (D0 : DataW H) (R : Value → Option (DataW H × List MemPlace)) (w : World) (hown : w.ownsMap Tryz.prog 3 R b nn D0) (hmax : Maps.size D0 ≤ maxLen) (hbytes : Maps.size D0 * 8 ≤ 140737488355328) :
    Calls Tryz.prog 34 #[.func (.func 51) #[] #[.pointer (some ⟨w.heap.size, 0, none⟩)]] (w.alloc (.cells #[.map (some b)] 64)) fun e w' => ∃ (v : Value) (ss : List Int), e = .returned v ∧ ss.Perm (intKeys D0) ∧
      w'.ownsRow (w.alloc (.cells #[.map (some b)] 64)).heap.size 3 1 v ss.length ((ss.mergeSort (fun x y => decide (x ≤ y))).map encZ) ∧ (v = .slice none 0 0 ↔ ss = []) ∧ Below (w.alloc (.cells #[.map (some b)] 64)).heap.size (w.alloc (.cells #[.map (some b)] 64)) w' := by
  have hbl := hown.lt
  have hseq : SeqGives Fence.wide 2 Tryz.prog 51 #[.pointer (some ⟨w.heap.size, 0, none⟩)] encZ (fun ss => ss.Perm (intKeys D0)) (Maps.size D0) (w.alloc (.cells #[.map (some b)] 64)) :=
    AnyZI.keys_gives (ρ := Tryz.keys35_ren) { Tryz.keys35 with } Fence.wide _ trivial rfl (by omega) w.heap.size b nn D0 _ (by simp) (by simp) (by
      obtain ⟨es, clock, hb, Ft, hs, hD⟩ := hown
      exact ⟨es, clock, (Below.heap_alloc _ _ b hbl).trans hb, Ft, hs, hD⟩)
  exact (callsIn_wide (n := 5)).1 (AnyZI.sorted_in Tryz.sorted34 Fence.wide 5 trivial trivial trivial trivial rfl (by omega) (sortsI _) (enters_of Tryz.func29 (by kernel_rfl) rfl) 51 #[.pointer (some ⟨w.heap.size, 0, none⟩)] trivial (enters_of Tryz.func51 (by kernel_rfl) rfl) _ _ hmax hbytes _ hseq)
def keyInt : Value → Int
  | .int _ n => n
  | _ => 0
/-- A map of numbers, as the library's contracts want it. -/
theorem ownsMapN_of {w : World} {r : Nat} {l : List Ses} (h : MapV (.int .i64) w r (l.map sesPair)) (hk : ∀ p ∈ l, (Lit.int .i64 p.n).wf = true) (hn : l.length ≤ maxLen) :
    ∃ D : DataW Unit, w.ownsMap Tryz.prog 3 readNone r l.length D ∧ Maps.size D = l.length ∧ (intKeys D).Perm (l.map Ses.n) := by
  obtain ⟨es, clock, hb, hs, hkk, hl⟩ := h
  have hsz : es.size = l.length := by simpa using congrArg List.length hl
  have hkey : ∀ x ∈ es.toList, keyOf Tryz.prog 3 x.key = some (.int .i64 (keyInt x.key)) := by
    intro x hx
    have hm : (x.key, x.val) ∈ l.map sesPair := by rw [← hl]; exact List.mem_map.2 ⟨x, hx, rfl⟩
    obtain ⟨p, hp, he⟩ := List.mem_map.1 hm
    have h1 := congrArg Prod.fst he
    simp only [sesPair] at h1
    rw [← h1]
    exact keyOf_int_mk Tryz.underlying3 (hk p hp)
  have hrd : ∀ x ∈ es.toList, WideElems.rd (H := Unit) Tryz.prog 3 readNone x = some (.int .i64 (keyInt x.key), .nil) := by
    intro x hx
    unfold WideElems.rd
    rw [hkey x hx]
    rfl
  refine ⟨.map ((es.toList.map (WideElems.rg Tryz.prog 3 readNone)).foldr DataW.insert []), ⟨es, clock, hb, ⟨by rw [hsz]; exact hn, hs, fun x hx => ⟨_, hrd x hx⟩⟩, by rw [hsz]; exact Nat.le_refl _, rfl⟩, ?_, ?_⟩
  · show (List.foldr DataW.insert [] _).length = _
    rw [(foldr_insert_perm _).length_eq]
    simpa using hsz
  · unfold intKeys
    refine ((foldr_insert_perm _).map _).trans ?_
    rw [List.map_map]
    have h2 : l.map Ses.n = es.toList.map fun x => keyInt x.key := by
      have h3 := congrArg (List.map fun p : Value × Value => keyInt p.1) hl
      rw [List.map_map, List.map_map] at h3
      exact h3.symm
    rw [h2]
    refine List.Perm.of_eq (List.map_congr_left fun x hx => ?_)
    simp only [Function.comp, WideElems.rg, hrd x hx]
    rfl
theorem wf_num {n : Int} (h : -9223372036854775808 ≤ n ∧ n ≤ 9223372036854775807) : (Lit.int .i64 n).wf = true := by
  have e1 : IntKind.i64.min = -9223372036854775808 := by kernel_rfl
  have e2 : IntKind.i64.max = 9223372036854775807 := by kernel_rfl
  simp only [Lit.wf, Bool.and_eq_true, decide_eq_true_eq, e1, e2]
  exact h
set_option maxRecDepth 100000 in
theorem all_desk (b r : Nat) (next : Int) (L : List Ses) (w : World) (hD : DeskS w b r next L) (hG : GoodS next L) (hnx : next ≤ 1000000) :
    Calls Tryz.prog 20 #[.pointer (some ⟨b, 0, none⟩)] w fun e w' => ∃ v, e = .returned v ∧ IntRow w' w.heap.size v (numsS L) ∧ Below w.heap.size w w' := by
  have hc := hD.at1
  obtain ⟨_, l, hl, hp⟩ := hD
  have hlen : l.length = L.length := hp.length_eq
  have hmany := hG.many
  have hmx : L.length ≤ maxLen := by unfold maxLen; omega
  obtain ⟨D, h1, h2, h3⟩ := ownsMapN_of hl (fun p hpl => wf_num (by have := hG.lo p (hp.mem_iff.1 hpl); omega)) (by omega)
  have hso := Lib.hid (sortedI_call r _ D readNone w h1 (by omega) (by omega))
  have hpm := Lib.hid (h3.trans (hp.map Ses.n))
  have hsrt := Lib.hid (nums_sorted hG.sorted)
  clear hl hp h1 h2 h3 hG
  go_enter Tryz.func20, Tryz.ntmps20
  go_wp2_with fail
  refine (keysI_call _ _).mono ?_
  rintro e w1 ⟨rfl, rfl⟩
  go_wp2_with fail
  refine hso.out.mono ?_
  rintro e w2 ⟨v, ss, rfl, hss, hrow, _, hb⟩
  have hsp := hss.trans hpm.out
  rw [mergeSort_nums hsrt.out hsp, hsp.length_eq] at hrow
  have hfin := Lib.hid (show IntRow w2 w.heap.size v (numsS L) from ownsRow_mono (by
    unfold numsS at hrow ⊢
    exact hrow) (by rw [World.size_alloc]; omega))
  have hbf := Lib.hid (below_trans ((Below.refl _ _).alloc (Nat.le_refl _) _) hb)
  clear hrow hb hss hsp
  go_wp2_with fail
  go_ret
  exact ⟨v, rfl, hfin.out, hbf.out⟩
end Go.Proofs.YtlcomdbkkfbjiaaGreatDoor

/- The walks of package floor: right, all, Check, Of, Passes by contracts. -/
namespace Go.Proofs.YtlcomdbkkfbjiaaGreatDoor
open Go.RowKit

def Flo.val (f : Flo) : Value := .agg #[.string (bs f.who), .int .i64 f.ep]
def Flo.cells (f : Flo) : List Value := [.string (bs f.who), .int .i64 f.ep]
/-- A slice of floors. -/
def FloorsAt (w : World) (v : Value) (L : List Flo) : Prop :=
  ∃ a c, v = .slice a L.length c ∧ L.length ≤ maxLen ∧ L.length ≤ c ∧ ∀ i (h : i < L.length), ∃ b o, a = some ⟨b, o, none⟩ ∧ w.cell? ⟨b, o + i * 2, none⟩ = some (.string (bs L[i].who)) ∧ w.cell? ⟨b, o + i * 2 + 1, none⟩ = some (.int .i64 L[i].ep)
theorem FloorsAt.below {w w' : World} {v : Value} {L : List Flo} (h : FloorsAt w v L) (hb : Below w.heap.size w w') : FloorsAt w' v L := by
  obtain ⟨a, c, h1, h2, hcap, h3⟩ := h
  refine ⟨a, c, h1, h2, hcap, fun i hi => ?_⟩
  obtain ⟨b, o, h4, h5, h6⟩ := h3 i hi
  exact ⟨b, o, h4, cell_below hb h5, cell_below hb h6⟩
theorem star_bs : (⟨#[42]⟩ : ByteArray) = bs starW := rfl
theorem who_star (n : List UInt8) : ((bs n).toList == (bs starW).toList) = decide (n = starW) := by
  rw [toList_data, toList_data, bs_list, bs_list]
  by_cases h : n = starW
  · rw [decide_eq_true h, h]; exact beq_self_eq_true _
  · rw [decide_eq_false h, beq_eq_false_iff_ne]; exact h

set_option maxRecDepth 100000 in
theorem right_flo {E : Nat → Addr} (f : Flo) (w : World) (hL : Laid E w) (hl : f.who.length ≤ maxLen) :
    Calls Tryz.prog 41 #[f.val] w fun e w' => e = .returned (errV E (oneF f)) ∧ Below w.heap.size w w' := by
  have hB : Below w.heap.size w (w.alloc (.cells f.cells.toArray 61)) := (Below.refl _ _).alloc (Nat.le_refl _) _
  have hnm := Lib.hid (fun wx => name_any (bs f.who) wx (by rw [bs_size]; exact hl))
  have hone : oneF f = if f.who ≠ starW ∧ isName f.who = false then 4 else if 1 ≤ f.ep ∧ f.ep ≤ 1073741824 then 0 else 2 := rfl
  obtain ⟨who, ep⟩ := f
  dsimp only [Flo.val, Flo.cells] at *
  have c1 : (w.alloc (.cells #[.string (bs who), .int .i64 ep] 61)).cell? ⟨w.heap.size, 1, none⟩ = some (.int .i64 ep) := by simp
  by_cases hs : who = starW
  · have hone := hone.trans (if_neg (fun h => h.1 hs))
    subst hs
    have e1 : ((bs starW).toList == [42]) = true := by rw [toList_data]; rfl
    by_cases h1 : 1 ≤ ep ∧ ep ≤ 1073741824
    · have hr := Lib.hid (hone.trans (if_pos h1))
      obtain ⟨h1, h2⟩ := h1
      clear hone
      go_enter Tryz.func41, Tryz.ntmps41
      go_wp2_with fail
      go_ret
      exact ⟨by rw [hr.out]; rfl, hB⟩
    · have hr := Lib.hid (hone.trans (if_neg h1))
      have he := (hL.below hB).e2
      have h1 : ep < 1 ∨ 1073741824 < ep := by omega
      clear hone
      rcases h1 with h1 | h1
      all_goals
        go_enter Tryz.func41, Tryz.ntmps41
        go_wp2_with fail
        go_ret
        exact ⟨by rw [hr.out]; rfl, hB⟩
  · have e1 : ((bs who).toList == [42]) = false := by rw [toList_data, bs_list, beq_eq_false_iff_ne]; exact hs
    have e2 : ((bs who).toList != [42]) = true := by rw [bne, e1]; rfl
    cases ha : isName who with
    | false =>
      have hr := Lib.hid (hone.trans (if_pos ⟨hs, ha⟩))
      have ha2 := Lib.hid (show isName (bs who).data.toList = false from ha)
      clear hone hs ha
      go_enter Tryz.func41, Tryz.ntmps41
      go_wp2_with fail
      refine (hnm.out _).mono ?_
      rintro e w1 ⟨rfl, hb⟩
      rw [ha2.out]
      have hb := Lib.hid (below_trans hB hb)
      have he := (hL.below hb.out).e4
      clear c1
      go_wp2_with fail
      go_ret
      exact ⟨by rw [hr.out]; rfl, hb.out⟩
    | true =>
      have hone := hone.trans (if_neg (fun h => by rw [ha] at h; exact absurd h.2 (by decide)))
      have ha2 := Lib.hid (show isName (bs who).data.toList = true from ha)
      clear ha hs
      by_cases h1 : 1 ≤ ep ∧ ep ≤ 1073741824
      · have hr := Lib.hid (hone.trans (if_pos h1))
        obtain ⟨h1, h2⟩ := h1
        clear hone
        go_enter Tryz.func41, Tryz.ntmps41
        go_wp2_with fail
        refine (hnm.out _).mono ?_
        rintro e w1 ⟨rfl, hb⟩
        rw [ha2.out]
        have d1 := cell_below hb c1
        have hb := Lib.hid (below_trans hB hb)
        clear c1
        go_wp2_with fail
        go_ret
        exact ⟨by rw [hr.out]; rfl, hb.out⟩
      · have hr := Lib.hid (hone.trans (if_neg h1))
        have h1 : ep < 1 ∨ 1073741824 < ep := by omega
        clear hone
        rcases h1 with h1 | h1
        all_goals
          go_enter Tryz.func41, Tryz.ntmps41
          go_wp2_with fail
          refine (hnm.out _).mono ?_
          rintro e w1 ⟨rfl, hb⟩
          rw [ha2.out]
          have d1 := cell_below hb c1
          have hb := Lib.hid (below_trans hB hb)
          have he := (hL.below hb.out).e2
          clear c1
          go_wp2_with fail
          go_ret
          exact ⟨by rw [hr.out]; rfl, hb.out⟩

set_option maxRecDepth 100000 in
theorem top_flo (v : Value) (L : List Flo) (w : World) (hv : FloorsAt w v L) :
    Calls Tryz.prog 42 #[v] w fun e w' => e = .returned (.int .i64 (topF L)) ∧ w = w' := by
  obtain ⟨a, c, rfl, hlen, _, hc⟩ := hv
  cases L with
  | nil =>
    go_enter Tryz.func42, Tryz.ntmps42
    go_wp2_with fail
    go_ret
    exact ⟨rfl, rfl⟩
  | cons f L =>
    obtain ⟨b, o, rfl, h0, h1⟩ := hc 0 (by simp)
    obtain ⟨who, ep⟩ := f
    simp only [List.getElem_cons_zero, Nat.zero_mul, Nat.add_zero] at h0 h1
    have hn : 0 < (⟨who, ep⟩ :: L : List Flo).length := by simp
    unfold maxLen at hlen
    clear hc
    generalize hm : (⟨who, ep⟩ :: L : List Flo).length = m at *
    clear hm
    by_cases hs : who = starW
    · have e1 : ((bs who).toList == [42]) = true := by rw [hs, toList_data]; rfl
      have hr := Lib.hid (show topF (⟨who, ep⟩ :: L) = ep from if_pos hs)
      clear hs
      go_enter Tryz.func42, Tryz.ntmps42
      go_wp2_with fail
      go_ret
      exact ⟨ret_int hr.out.symm, rfl⟩
    · have e1 : ((bs who).toList == [42]) = false := by rw [toList_data, bs_list, beq_eq_false_iff_ne]; exact hs
      have hr := Lib.hid (show topF (⟨who, ep⟩ :: L) = 0 from if_neg hs)
      clear hs
      go_enter Tryz.func42, Tryz.ntmps42
      go_wp2_with fail
      go_ret
      exact ⟨ret_int hr.out.symm, rfl⟩

set_option maxRecDepth 100000 in
theorem of1_asks (n : List UInt8) (b : Nat) (w : World) (hc : w.cell? ⟨b, 0, none⟩ = some (.string (bs n))) (W : World) (f : Flo) (hb : Below w.heap.size w W) :
    Calls Tryz.prog 61 #[f.val, .pointer (some ⟨b, 0, none⟩)] W fun e w' => e = .returned (.bool (f.who == n)) ∧ Below W.heap.size W w' := by
  have hc := cell_below hb hc
  obtain ⟨who, ep⟩ := f
  dsimp only [Flo.val]
  have hlt := World.block_lt_of_cell? W _ hc
  have hc2 : ∀ o, (W.alloc o).cell? ⟨b, 0, none⟩ = some (.string (bs n)) := fun o => by rw [World.cell?_alloc_lt _ _ _ hlt]; exact hc
  have hbe : ((bs who).toList == (bs n).toList) = (who == n) := by rw [toList_data, toList_data, bs_list, bs_list]
  cases hq : (who == n) with
  | true =>
    rw [hq] at hbe
    clear hq hc
    go_enter Tryz.func61, Tryz.ntmps61
    go_wp2_with fail
    go_ret
    exact ⟨rfl, (Below.refl _ _).alloc (Nat.le_refl _) _⟩
  | false =>
    rw [hq] at hbe
    clear hq hc
    go_enter Tryz.func61, Tryz.ntmps61
    go_wp2_with fail
    go_ret
    exact ⟨rfl, (Below.refl _ _).alloc (Nat.le_refl _) _⟩

/-- What a closure that asks for floors does. -/
def AsksF (g : Nat) (cs : Array Value) (p : Flo → Bool) (w : World) : Prop := ∀ (W : World) (f : Flo), f.who.length ≤ maxLen → Below w.heap.size w W → Calls Tryz.prog g (#[f.val] ++ cs) W fun e w' => e = .returned (.bool (p f)) ∧ Below W.heap.size W w'
/-- The first floor that is asked for (-1: none). -/
def firstF (p : Flo → Bool) (L : List Flo) : Int := if L.findIdx p < L.length then (L.findIdx p : Int) else -1
theorem firstF_of {p : Flo → Bool} {L : List Flo} {j : Nat} (hj : j < L.length) (hb : p L[j] = true) (ha : ∀ i (h : i < L.length), i < j → p L[i] = false) : firstF p L = (j : Int) := by
  have : L.findIdx p = j := (List.findIdx_eq hj).2 ⟨hb, fun i hi => ha i (by omega) hi⟩
  unfold firstF
  rw [this, if_pos hj]
theorem firstF_none {p : Flo → Bool} {L : List Flo} (ha : ∀ i (h : i < L.length), p L[i] = false) : firstF p L = -1 := by
  have : L.findIdx p = L.length := List.findIdx_eq_length.2 fun x hx => by
    obtain ⟨i, hi, rfl⟩ := List.getElem_of_mem hx
    exact ha i hi
  unfold firstF
  rw [this, if_neg (Nat.lt_irrefl _)]
set_option maxHeartbeats 1000000 in
set_option maxRecDepth 100000 in
theorem index_flo (v : Value) (L : List Flo) (g : Nat) (cs : Array Value) (p : Flo → Bool) (w : World) (hv : FloorsAt w v L) (hm : ∀ f ∈ L, f.who.length ≤ maxLen) (hg : AsksF g cs p w) (eg : ∀ args w, (callFunc g args).run Tryz.prog w = .ok (.enter g args) w) :
    Calls Tryz.prog 60 #[v, .func (.func g) #[] cs] w fun e w' => e = .returned (.int .i64 (firstF p L)) ∧ Below w.heap.size w w' := by
  obtain ⟨a, c, rfl, hlen, _, hc⟩ := hv
  unfold maxLen at hlen
  have hc := Lib.hid hc
  have hm := Lib.hid hm
  have hg := Lib.hid hg
  go_enter Tryz.func60, Tryz.ntmps60
  go_wp2_with fail
  go_loopg [8] (L.length + 1) (fun g8 i wr => ∃ j : Nat, i = .int .i64 j ∧ j ≤ L.length ∧ L.length - j + 1 ≤ g8 ∧ Hid (∀ i (h : i < L.length), i < j → p L[i] = false) ∧ Hid (Below w.heap.size w wr))
  case atStart => exact ⟨0, rfl, Nat.zero_le _, by omega, Lib.hid (fun _ _ h => absurd h (Nat.not_lt_zero _)), Lib.hid (Below.refl _ _)⟩
  case round =>
    obtain ⟨j, rfl, hj, hgj, hall, hK⟩ := hrel
    by_cases hlt : j < L.length
    · obtain ⟨b, o, rfl, hc0, hc1⟩ := hc.out j hlt
      have hc0 := cell_below hK.out hc0
      have hc1 := cell_below hK.out hc1
      have hk0 : (0 : Int) ≤ (j : Int) := by omega
      have hk1 : (j : Int) < (L.length : Int) := by omega
      have hgc := Lib.hid (hg.out wr L[j] (hm.out _ (List.getElem_mem hlt)) hK.out)
      cases hb : p L[j] with
      | true =>
        rw [hb] at hgc
        have hr := Lib.hid (show firstF p L = (j : Int) from firstF_of hlt hb hall.out)
        clear hb
        go_wp2_with fail
        refine hgc.out.mono ?_
        rintro e w1 ⟨rfl, hb1⟩
        have hb1 := Lib.hid (hK.out.trans (hb1.mono hK.out.size))
        go_wp2_with fail
        go_ret
        exact ⟨ret_int hr.out.symm, hb1.out⟩
      | false =>
        rw [hb] at hgc
        have hall2 := Lib.hid (show ∀ i (h : i < L.length), i < j + 1 → p L[i] = false from fun i h hi => by
          rcases Nat.lt_succ_iff_lt_or_eq.1 hi with h' | rfl
          · exact hall.out i h h'
          · exact hb)
        clear hb
        go_wp2_with fail
        refine hgc.out.mono ?_
        rintro e w1 ⟨rfl, hb1⟩
        have hb1 := Lib.hid (hK.out.trans (hb1.mono hK.out.size))
        go_wp2_with fail
        go_roundg (L.length - j)
        case measure => omega
        case rel => exact ⟨j + 1, by simp, hlt, by omega, hall2, hb1⟩
    · have hr := Lib.hid (show firstF p L = -1 from firstF_none fun i hi => hall.out i hi (by omega))
      have hge : ¬ ((j : Int) < (L.length : Int)) := by omega
      go_wp2_with fail
      go_ret
      exact ⟨ret_int hr.out.symm, hK.out⟩
end Go.Proofs.YtlcomdbkkfbjiaaGreatDoor

/- An error value with its place. -/
namespace Go.Proofs.YtlcomdbkkfbjiaaGreatDoor
open Go.RowKit

/-- An error value: its number, its place. -/
def ErrAt (E : Nat → Addr) (w : World) (v : Value) (c : Nat) (at_ : Int) : Prop :=
  (at_ = -1 ∧ v = errV E c) ∨ ∃ N, v = .iface 86 (.pointer (some ⟨N, 0, none⟩)) ∧ 1 ≤ c ∧ w.cell? ⟨N, 0, none⟩ = some (.int .i64 at_) ∧ w.cell? ⟨N, 0 + 1, none⟩ = some (errV E c)
theorem ErrAt.below {E : Nat → Addr} {w w' : World} {v : Value} {c : Nat} {at_ : Int} (h : ErrAt E w v c at_) (hb : Below w.heap.size w w') : ErrAt E w' v c at_ := by
  rcases h with h | ⟨N, h1, h2, h3, h4⟩
  · exact .inl h
  · exact .inr ⟨N, h1, h2, cell_below hb h3, cell_below hb h4⟩
theorem ErrAt.bare {E : Nat → Addr} {w : World} (c : Nat) : ErrAt E w (errV E c) c (-1) := .inl ⟨rfl, rfl⟩
theorem ErrAt.iface {E : Nat → Addr} {w : World} {v : Value} {c : Nat} {a : Int} (h : ErrAt E w v c a) (hc : c ≠ 0) : ∃ T x, v = .iface T (.pointer (some x)) := by
  rcases h with ⟨_, rfl⟩ | ⟨N, rfl, _⟩
  · cases c with
    | zero => exact absurd rfl hc
    | succ c => exact ⟨_, _, rfl⟩
  · exact ⟨_, _, rfl⟩
theorem ErrAt.zero {E : Nat → Addr} {w : World} {v : Value} {c : Nat} {a : Int} (h : ErrAt E w v c a) (hc : c = 0) : v = .nilIface ∧ a = -1 := by
  rcases h with ⟨ha, rfl⟩ | ⟨N, rfl, h1, _⟩
  · subst hc
    exact ⟨rfl, ha⟩
  · omega
end Go.Proofs.YtlcomdbkkfbjiaaGreatDoor
