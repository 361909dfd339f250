/- FloO, Funcs, Make, FloT, FedW, RefE1, FedW2, FedC, FedA, FedF -/
import Derived.Test.YtcnadjdijolboaaGreatDoorMg20
import Derived.Deep.CutRange
import Derived.Deep.CutBlock
import Derived.Test.YtcnadjdijolboaaGreatDoorMg17
import Derived.Test.YtcnadjdijolboaaGreatDoorMg7
import Derived.Test.YtcnadjdijolboaaGreatDoorMg13
import Derived.Test.YtcnadjdijolboaaGreatDoorMg10
import Derived.Deep.RegionHeld3
import Derived.Test.YtcnadjdijolboaaGreatDoorMg11
import Derived.Test.YtcnadjdijolboaaGreatDoorMg9
import Derived.Deep.LoopGhost
import Derived.Test.YtcnadjdijolboaaGreatDoorMg14
import Derived.Test.YtcnadjdijolboaaGreatDoorMg4
/- FloorOrder, walked: the closed fact; the law. -/
namespace Go.Proofs.YtcnadjdijolboaaGreatDoor
open Go.RowKit Go.Shelf Go.Lib

theorem upF_memM {L : List Flo} {f : Flo} {m : Nat} (hm : ∀ g ∈ L, g.who.length ≤ m) (hf : f.who.length ≤ m) : ∀ g ∈ upF L f, g.who.length ≤ m := by
  intro g hg
  unfold upF at hg
  split at hg
  · exact hm g hg
  · rcases (insF_mem f g _).1 hg with rfl | h
    · exact hf
    · exact hm g (List.mem_filter.1 h).1
theorem raise_mem {L : List Flo} {f : Flo} {m : Nat} (hm : ∀ g ∈ L, g.who.length ≤ m) (hf : f.who.length ≤ m) : ∀ g ∈ (raiseF L f).1, g.who.length ≤ m := by
  by_cases h : (raiseF L f).2.1 = 0
  · obtain ⟨_, _, _, e⟩ := raiseF_zero h
    rw [e]
    exact upF_memM hm hf
  · rw [raiseF_bad h]
    intro g hg
    cases hg
theorem raise_len {L : List Flo} {f : Flo} : (raiseF L f).1.length ≤ 21 := by
  by_cases h : (raiseF L f).2.1 = 0
  · obtain ⟨_, _, hg, e⟩ := raiseF_zero h
    rw [e]
    exact hg.len
  · rw [raiseF_bad h]
    exact Nat.zero_le _
def annW : List UInt8 := [97, 110, 110]
def bobW : List UInt8 := [98, 111, 98]
theorem floored_fact : raiseF [⟨annW, 2⟩] ⟨starW, 3⟩ = ([⟨starW, 3⟩], 0, -1) := by kernel_rfl
theorem floored_one (w : World) : FloorsAt (w.alloc (.cells #[.string (bs annW), .int .i64 2] 24)) (.slice (some ⟨w.heap.size, 0, none⟩) 1 1) [⟨annW, 2⟩] := by
  refine ⟨_, _, rfl, by decide, by decide, fun i hi => ⟨w.heap.size, 0, rfl, ?_⟩⟩
  have : i = 0 := by simpa using hi
  subst this
  simp
set_option maxHeartbeats 2000000 in
set_option maxRecDepth 100000 in
theorem floored_any {E : Nat → Addr} (w : World) (hL : Laid E w) :
    Calls Tryz.prog 5 #[] w fun e w' => e = .returned (.bool true) ∧ Below w.heap.size w w' := by
  have hA : Below w.heap.size w (w.alloc (.cells #[.string (bs annW), .int .i64 2] 24)) := (Below.refl _ _).alloc (Nat.le_refl _) _
  have hra := raise_flo (E := E) (.slice (some ⟨w.heap.size, 0, none⟩) 1 1) [⟨annW, 2⟩] ⟨starW, 3⟩ _ (hL.below hA) (floored_one w) (by intro g hg; simp at hg; subst hg; decide) (by decide)
  rw [floored_fact] at hra
  have hpa := Lib.hid (fun (v : Value) (n : List UInt8) (e0 : Int) (wx : World) (hv : FloorsAt wx v [⟨starW, 3⟩]) => passes_flo v [⟨starW, 3⟩] n e0 wx hv (by intro g hg; simp at hg; subst hg; decide))
  have hp1 : decide (ofF [⟨starW, 3⟩] annW ≤ 2) = false := by decide +kernel
  have hp2 : decide (ofF [⟨starW, 3⟩] bobW ≤ 3) = true := by decide +kernel
  have hp1 := Lib.hid hp1
  have hp2 := Lib.hid hp2
  have hra := Lib.hid hra
  have hA := Lib.hid hA
  have s1 : (⟨#[97, 110, 110]⟩ : ByteArray) = bs annW := rfl
  have s2 : (⟨#[98, 111, 98]⟩ : ByteArray) = bs bobW := rfl
  have s3 : (⟨#[42]⟩ : ByteArray) = bs starW := rfl
  go_enter Tryz.func5, Tryz.ntmps5
  go_wp2_with fail
  refine hra.out.mono ?_
  rintro e w1 ⟨⟨v, ev, rfl, hrow, he⟩, hb1⟩
  obtain ⟨rfl, _⟩ := he.zero rfl
  have hat := hrow.at_ (by decide)
  obtain ⟨a, c, rfl, _, _, hcs⟩ := id hat
  obtain ⟨b, o, rfl, h0, h1⟩ := hcs 0 (by decide)
  simp only [List.getElem_cons_zero, Nat.zero_mul, Nat.add_zero] at h0 h1
  have hat := Lib.hid hat
  have hb1 := Lib.hid (below_trans hA.out hb1)
  clear hcs hrow he
  go_wp2_with fail
  refine (hpa.out _ annW 2 _ hat.out).mono ?_
  rintro e w2 ⟨rfl, hb2⟩
  rw [hp1.out]
  have hat := Lib.hid (hat.out.below hb2)
  have hb2 := Lib.hid (below_trans hb1.out hb2)
  go_wp2_with fail
  refine (hpa.out _ bobW 3 _ hat.out).mono ?_
  rintro e w3 ⟨rfl, hb3⟩
  rw [hp2.out]
  have hb3 := Lib.hid (below_trans hb2.out hb3)
  go_wp2_with fail
  go_ret
  exact ⟨rfl, hb3.out⟩
/-- The same floors: a slice twice. -/
theorem bad_nil {L : List Flo} {f : Flo} (h : (raiseF L f).2.1 ≠ 0) : (raiseF L f).1.length = 0 := by rw [raiseF_bad h]; rfl
theorem raise_ok {E : Nat → Addr} (v : Value) (M : List Flo) (h : Flo) (w : World) (hL : Laid E w) (hv : FloorsAt w v M) (hm : ∀ f ∈ M, f.who.length ≤ maxLen) (hh : h.who.length ≤ maxLen) (hz : (raiseF M h).2.1 = 0) :
    Calls Tryz.prog 14 #[v, h.val] w fun e w' => ∃ a c, e = .returned (.tuple #[.slice a (raiseF M h).1.length c, .nilIface]) ∧ FloorsAt w' (.slice a (raiseF M h).1.length c) (raiseF M h).1 ∧ Below w.heap.size w w' :=
  (raise_flo v M h w hL hv hm hh).mono fun e w' ⟨⟨v', ev, he, hrow, hev⟩, hb⟩ => by
    obtain ⟨rfl, _⟩ := hev.zero hz
    have hat := hrow.at_ (by have := @raise_len M h; unfold maxLen; omega)
    obtain ⟨a, c, rfl⟩ := hrow.sl
    exact ⟨a, c, he, hat, hb⟩
theorem raise_bad {E : Nat → Addr} (v : Value) (M : List Flo) (h : Flo) (w : World) (hL : Laid E w) (hv : FloorsAt w v M) (hm : ∀ f ∈ M, f.who.length ≤ maxLen) (hh : h.who.length ≤ maxLen) (hz : (raiseF M h).2.1 ≠ 0) :
    Calls Tryz.prog 14 #[v, h.val] w fun e w' => ∃ a c T y, e = .returned (.tuple #[.slice a 0 c, .iface T (.pointer (some y))]) ∧ Below w.heap.size w w' :=
  (raise_flo v M h w hL hv hm hh).mono fun e w' ⟨⟨v', ev, he, hrow, hev⟩, hb⟩ => by
    obtain ⟨T, y, rfl⟩ := hev.iface hz
    obtain ⟨a, c, hv⟩ := hrow.sl
    rw [bad_nil hz] at hv
    subst hv
    exact ⟨a, c, T, y, he, hb⟩
theorem raise_some {E : Nat → Addr} (v : Value) (M : List Flo) (h : Flo) (w : World) (hL : Laid E w) (hv : FloorsAt w v M) (hm : ∀ f ∈ M, f.who.length ≤ maxLen) (hh : h.who.length ≤ maxLen) :
    Calls Tryz.prog 14 #[v, h.val] w fun e w' => ∃ a n c ev, e = .returned (.tuple #[.slice a n c, ev]) ∧ Below w.heap.size w w' :=
  (raise_flo v M h w hL hv hm hh).mono fun e w' ⟨⟨v', ev, he, hrow, hev⟩, hb⟩ => by
    obtain ⟨a, c, rfl⟩ := hrow.sl
    exact ⟨a, _, c, ev, he, hb⟩
end Go.Proofs.YtcnadjdijolboaaGreatDoor

/- slices.IndexFunc and ContainsFunc at texts, where a text that is no word is looked for. -/
namespace Go.Proofs.YtcnadjdijolboaaGreatDoor
open Go.RowKit

/-- What a function that asks for a text that is no word does. -/
def IsBad (g : Nat) (B : Nat) (w : World) : Prop := ∀ (W : World) (s : List UInt8), s.length ≤ maxLen → Below B w W → Calls Tryz.prog g #[.string (bs s)] W fun e w' => e = .returned (.bool (badP s)) ∧ Below W.heap.size W w'
end Go.Proofs.YtcnadjdijolboaaGreatDoor

/- seal.Make by its contract. -/
namespace Go.Proofs.YtcnadjdijolboaaGreatDoor
open Go.RowKit

set_option maxRecDepth 100000 in
theorem join_any (v : Value) (W : List (List UInt8)) (w : World) (hv : TextsAt w v W) (h1 : 1 ≤ W.length) (h10 : W.length ≤ 10) (hw : ∀ x ∈ W, x.length ≤ 20) :
    Calls Tryz.prog 28 #[v, .string ⟨#[32]⟩] w fun e w' => e = .returned (.string (bs (glue 32 W))) ∧ Below w.heap.size w w' := by
  obtain ⟨a, c, rfl, _, hcap, hc⟩ := hv
  obtain ⟨b, o, rfl, h0⟩ := hc 0 (by omega)
  have hlt := World.block_lt_of_cell? w _ h0
  have hmap : (W.map bs).map (fun x => x.data.toList) = W := by
    rw [List.map_map]
    have : ((fun x : ByteArray => x.data.toList) ∘ bs) = id := by funext x; exact bs_list x
    rw [this, List.map_id]
  have hj : Lib.join ((W.map bs).map (fun x => x.data.toList)) (⟨#[32]⟩ : ByteArray).data.toList = glue 32 W := by
    rw [hmap]
    exact join_glue 32 W
  have h := Any.strings_Join Tryz.joinL Tryz.joinX b o c (W.map bs) ⟨#[32]⟩ w (fun j x hx => by
      rw [List.getElem?_map] at hx
      cases hj : W[j]? with
      | none => rw [hj] at hx; cases hx
      | some y =>
        rw [hj] at hx
        cases hx
        obtain ⟨hlt2, rfl⟩ := List.getElem?_eq_some_iff.1 hj
        obtain ⟨b2, o2, he, hc2⟩ := hc j hlt2
        cases he
        exact hc2) hlt (by rw [List.length_map]; omega) (by rw [List.length_map]; exact hcap) (by
      rw [hj]
      have := glue_len 32 W hw
      omega)
  rw [hj, List.length_map] at h
  exact h

theorem ret_str2 {a b : ByteArray} {v : Value} (h : a = b) : Ending.returned (.tuple #[.string a, v]) = .returned (.tuple #[.string b, v]) := by rw [h]
theorem str_add (a b : List UInt8) : bs a ++ bs b = bs (a ++ b) := by
  apply ByteArray.ext
  simp [bs]
end Go.Proofs.YtcnadjdijolboaaGreatDoor

/- floor.Text, floor.Sum: walked. -/
namespace Go.Proofs.YtcnadjdijolboaaGreatDoor
open Go.RowKit

/-- Texts' cells. -/
def strC : Cells (List UInt8) where
  k := 1
  pos := by decide
  f := fun x => [.string (bs x)]
  len := fun _ => rfl
  one := fun e u hu => by
    simp only [List.mem_cons, List.mem_nil_iff, or_false] at hu
    rcases hu with rfl <;> rfl
theorem info_str : (Tryz.prog.info? 9).map (fun i => (i.zero, i.size, i.bytes)) = some (some (.string ⟨#[]⟩), strC.k, 16) := by kernel_rfl
theorem textsAt_of {w : World} {v : Value} {L : List (List UInt8)} (h : AtG strC w v L) : TextsAt w v L := by
  obtain ⟨a, c, h1, h2, h3, _, h5⟩ := h
  refine ⟨a, c, h1, h2, h3, fun i hi => ?_⟩
  obtain ⟨b, o, h6, h7⟩ := h5 i hi
  have := h7 0 _ rfl
  exact ⟨b, o, h6, by simpa [strC] using this⟩
theorem join_wide (v : Value) (W : List (List UInt8)) (w : World) (hv : TextsAt w v W) (h1 : 1 ≤ W.length) (h10 : W.length ≤ 100) (hw : ∀ x ∈ W, x.length ≤ 20) :
    Calls Tryz.prog 28 #[v, .string ⟨#[44]⟩] w fun e w' => e = .returned (.string (bs (glue 44 W))) ∧ Below w.heap.size w w' := by
  obtain ⟨a, c, rfl, _, hcap, hc⟩ := hv
  obtain ⟨b, o, rfl, h0⟩ := hc 0 (by omega)
  have hlt := World.block_lt_of_cell? w _ h0
  have hmap : (W.map bs).map (fun x => x.data.toList) = W := by
    rw [List.map_map]
    have : ((fun x : ByteArray => x.data.toList) ∘ bs) = id := by funext x; exact bs_list x
    rw [this, List.map_id]
  have hj : Lib.join ((W.map bs).map (fun x => x.data.toList)) (⟨#[44]⟩ : ByteArray).data.toList = glue 44 W := by
    rw [hmap]
    exact join_glue 44 W
  have h := Any.strings_Join Tryz.joinL Tryz.joinX b o c (W.map bs) ⟨#[44]⟩ w (fun j x hx => by
      rw [List.getElem?_map] at hx
      cases hj : W[j]? with
      | none => rw [hj] at hx; cases hx
      | some y =>
        rw [hj] at hx
        cases hx
        obtain ⟨hlt2, rfl⟩ := List.getElem?_eq_some_iff.1 hj
        obtain ⟨b2, o2, he, hc2⟩ := hc j hlt2
        cases he
        exact hc2) hlt (by rw [List.length_map]; omega) (by rw [List.length_map]; exact hcap) (by
      rw [hj]
      have := glue_len 44 W hw
      omega)
  rw [hj, List.length_map] at h
  exact h
theorem floW_len {f : Flo} (h : oneF f = 0) : (floW f).length ≤ 20 ∧ f.who.length ≤ 8 ∧ (Lib.itoa f.ep).length ≤ 10 := by
  obtain ⟨h1, h2, h3⟩ := oneF_zero h
  have hw : f.who.length ≤ 8 := by
    rcases h1 with h1 | h1
    · rw [h1]; decide
    · exact ((isName_iff _).1 h1).2.1
  have hi : (Lib.itoa f.ep).length ≤ 10 := by
    exact itoa_len10 (by omega) (by omega)
  unfold floW
  rw [List.length_append, List.length_cons]
  omega
theorem floW_cells (fw : List UInt8) (fe : Int) : #[Value.string (bs fw ++ (⟨#[58]⟩ : ByteArray) ++ bs (Lib.itoa fe))] = (strC.f (floW ⟨fw, fe⟩)).toArray := by
  rw [show (⟨#[58]⟩ : ByteArray) = bs [58] from rfl, str_add, str_add]
  show _ = #[Value.string (bs (fw ++ 58 :: Lib.itoa fe))]
  rw [List.append_assoc]
  rfl
theorem textF_check {L : List Flo} (h : (checkF L).1 ≠ 0) : textF L = ([], (checkF L).1, (checkF L).2) := by unfold textF; rw [if_neg h]
theorem textF_good {L : List Flo} (h : (checkF L).1 = 0) : textF L = (textL L, 0, -1) := by unfold textF; rw [if_pos h]
/-- What hands back a text and an error. -/
def TextRes (E : Nat → Addr) (w' : World) (r : List UInt8 × Nat × Int) (e : Ending) : Prop := ∃ ev, e = .returned (.tuple #[.string (bs r.1), ev]) ∧ ErrAt E w' ev r.2.1 r.2.2
theorem TextRes.mk {E : Nat → Addr} {w' : World} {r : List UInt8 × Nat × Int} {ev : Value} {L : List UInt8} {x : ByteArray} {c : Nat} {a : Int} (hr : r = (L, c, a)) (hv : x = bs L) (he : ErrAt E w' ev c a) : TextRes E w' r (.returned (.tuple #[.string x, ev])) := by
  subst hr
  subst hv
  exact ⟨ev, rfl, he⟩
set_option maxHeartbeats 4000000 in
set_option maxRecDepth 100000 in
theorem text_flo {E : Nat → Addr} (v : Value) (L : List Flo) (w : World) (hL : LaidS E w) (hv : FloorsAt w v L) (hm : ∀ f ∈ L, f.who.length ≤ maxLen) :
    Calls Tryz.prog 8 #[v] w fun e w' => TextRes E w' (textF L) e ∧ Below w.heap.size w w' := by
  have hck := Lib.hid (check_flo (E := E) v L w hL.laid hv hm)
  have hvH := Lib.hid (fun wx (hx : Below w.heap.size w wx) => hv.below hx)
  have hit := Lib.hid (fun (n : Int) wx (hx : Below w.heap.size w wx) (h0 : 0 ≤ n) (h1 : n ≤ 1073741824) => itoa_any (E := E) n (by omega) (by omega) wx (hL.below hx))
  obtain ⟨a0, c0, hv0, hmx, _, _⟩ := id hv
  unfold maxLen at hmx
  clear hv hm hL
  subst hv0
  by_cases hc0 : (checkF L).1 = 0
  case neg =>
    have hr := Lib.hid (textF_check hc0)
    have hc0H := Lib.hid hc0
    clear hc0 hvH hit
    go_enter Tryz.func8, Tryz.ntmps8
    go_wp2_with fail
    refine hck.out.mono ?_
    rintro e w1 ⟨ev, rfl, he, hb1⟩
    obtain ⟨T, x, rfl⟩ := he.iface hc0H.out
    have he := Lib.hid he
    have hb1 := Lib.hid hb1
    go_wp2_with fail
    go_ret2
    exact ⟨TextRes.mk hr.out rfl he.out, hb1.out⟩
  have hc0H := Lib.hid hc0
  have hgood := goodF_check hc0
  have h21 := hgood.len
  have hgoodH := Lib.hid hgood
  have hrT := Lib.hid (textF_good hc0)
  clear hc0 hgood
  go_enter Tryz.func8, Tryz.ntmps8
  go_wp2_with fail
  refine hck.out.mono ?_
  rintro e w1 ⟨ev, rfl, he, hb1⟩
  obtain ⟨rfl, _⟩ := he.zero hc0H.out
  have hb1H := Lib.hid hb1
  clear he hb1 hck
  go_wp2_with fail
  go_loopg [5, 15] (L.length + 1) (fun g v5 i wr => ∃ (j : Nat), i = .int .i64 j ∧ j ≤ L.length ∧ L.length - j + 1 ≤ g ∧ Hid (RowG strC wr w.heap.size 9 v5 ((L.take j).map floW)) ∧ Hid (Below w.heap.size w wr))
  case atStart => exact ⟨0, rfl, Nat.zero_le _, by omega, Lib.hid (RowG.nil _ _ _), hb1H⟩
  case round =>
    obtain ⟨j, rfl, hj, hgj, hF, hK⟩ := hrel
    obtain ⟨a5, c5, hv5⟩ := hF.out.sl
    have hl5 : ((L.take j).map floW).length = j := by rw [List.length_map, List.length_take]; omega
    rw [hl5] at hv5
    subst hv5
    by_cases hlt : j < L.length
    · have hk0 : (0 : Int) ≤ (j : Int) := by omega
      have hk1 : (j : Int) < (L.length : Int) := by omega
      obtain ⟨_, _, he, _, _, hc⟩ := hvH.out _ hK.out
      cases he
      obtain ⟨b, o, rfl, d0, d1⟩ := hc j hlt
      clear hc
      have h1F := hgoodH.out.g.one _ (List.getElem_mem hlt)
      have hsn : (L.take (j + 1)).map floW = (L.take j).map floW ++ [floW L[j]] := by rw [List.take_succ_eq_append_getElem hlt, List.map_append]; rfl
      generalize L[j] = ej at *
      obtain ⟨fw, fe⟩ := ej
      dsimp only at d0 d1
      obtain ⟨_, hwl, hil⟩ := floW_len h1F
      obtain ⟨_, he0, he1⟩ := oneF_zero h1F
      dsimp only at hwl hil he0 he1
      have hsnH := Lib.hid hsn
      have hrow := heap_alloc_new wr (.cells #[.string (bs fw), .int .i64 fe] 24)
      have hbX := (hK.out.alloc hK.out.size (.cells #[.string (bs fw), .int .i64 fe] 24))
      have hFX := Lib.hid (hF.out.alloc (.cells #[.string (bs fw), .int .i64 fe] 24))
      have hszX := hbX.size
      have hitX := Lib.hid (fun wx (hx : Below w.heap.size w wx) => hit.out fe wx hx (by omega) he1)
      have hs1 : (bs fw).size ≤ 8 := by rw [bs_size]; exact hwl
      have hs2 : (bs fw ++ (⟨#[58]⟩ : ByteArray)).size ≤ 9 := by
        rw [ByteArray.size_append]
        have : (⟨#[58]⟩ : ByteArray).size = 1 := rfl
        omega
      have hs3 : (bs (Lib.itoa fe)).size ≤ 10 := by rw [bs_size]; exact hil
      have hsA : ¬ 9223372036854775807 < (bs fw).size + 1 := by omega
      have hsB : ¬ 9223372036854775807 < (bs fw).size + 1 + (bs (Lib.itoa fe)).size := by omega
      clear hsn h1F he0 he1 hwl hil
      go_upto_region 8 with fail
      clear d0 d1
      generalize hbd : wr.heap.size = box at *
      have hlt0 : w.heap.size ≤ box := by rw [← hbd]; exact hK.out.size
      generalize hWX : wr.alloc (.cells #[.string (bs fw), .int .i64 fe] 24) = W at *
      have hrowH := Lib.hid hrow
      have hbXH := Lib.hid hbX
      have hltW : box < W.heap.size := (Array.getElem?_eq_some_iff.1 hrow).1
      have hkS := Lib.hid (fun (w' : World) (h : w'.heap[box]? = some (.cells #[.string (bs fw), .int .i64 fe] 24 (0, 0))) => (show w'.cell? ⟨box, 0, none⟩ = some (.string (bs fw)) ∧ w'.cell? ⟨box, 1, none⟩ = some (.int .i64 fe) from ⟨by rw [cell_of_row _ _ _ _ _ _ h]; rfl, by rw [cell_of_row _ _ _ _ _ _ h]; rfl⟩))
      have hrD := Lib.hid (show W.drew.heap[box]? = some (.cells #[.string (bs fw), .int .i64 fe] 24 (0, 0)) from hrow)
      have hcD := hkS.out _ hrD.out
      have hnb := Lib.hid (show some box ≠ (Value.slice a5 j c5).ownBlock from fun e => by
        obtain ⟨_, cs, h1⟩ := hFX.out.block e.symm
        rw [hrow] at h1
        injection h1 with h1
        injection h1 with _ h1 _
        revert h1
        decide)
      clear hrow hbX hbd hWX hszX
      refine wp_region_noPanic ?_
      refine wp_region_held_drew (S := fun w' => w'.cell? ⟨box, 0, none⟩ = some (.string (bs fw)) ∧ w'.cell? ⟨box, 1, none⟩ = some (.int .i64 fe)) (by kernel_rfl) ?_ (fun hHeld => ?_)
      · exact hcD
      refine' held_take (i := 0) (d := some 19) (v := _) rfl rfl (by kernel_rfl) (by kernel_rfl) (by kernel_rfl) (fun _ _ _ h => h) rfl (by assumption) ?hy_1 ?re_1
      case hy_1 =>
        intro w hSw
        try dsimp only at hSw
        go_simp
        try with_reducible rfl
      simp only [Act.put, List.setIfInBounds_toArray, List.set_cons_zero, List.set_cons_succ]
      refine' held_take (i := 1) (d := some 20) (v := _) rfl rfl (by kernel_rfl) (by kernel_rfl) (by kernel_rfl) (fun _ _ _ h => h) rfl (by assumption) ?hy_2 ?re_2
      case hy_2 =>
        intro w hSw
        try dsimp only at hSw
        go_simp
        try with_reducible rfl
      simp only [Act.put, List.setIfInBounds_toArray, List.set_cons_zero, List.set_cons_succ]
      refine' held_take (i := 2) (d := some 21) (v := _) rfl rfl (by kernel_rfl) (by kernel_rfl) (by kernel_rfl) (fun _ _ _ h => h) rfl (by assumption) ?hy_3 ?re_3
      case hy_3 =>
        intro w hSw
        try dsimp only at hSw
        go_simp
        try with_reducible rfl
      simp only [Act.put, List.setIfInBounds_toArray, List.set_cons_zero, List.set_cons_succ]
      refine' held_take (i := 3) (d := some 22) (v := _) rfl rfl (by kernel_rfl) (by kernel_rfl) (by kernel_rfl) (fun _ _ _ h => h) rfl (by assumption) ?hy_4 ?re_4
      case hy_4 =>
        intro w hSw
        try dsimp only at hSw
        go_simp
        try with_reducible rfl
      simp only [Act.put, List.setIfInBounds_toArray, List.set_cons_zero, List.set_cons_succ]
      refine' held_take (i := 4) (d := some 23) (v := _) rfl rfl (by kernel_rfl) (by kernel_rfl) (by kernel_rfl) (fun _ _ _ h => h) rfl (by assumption) ?hy_5 ?re_5
      case hy_5 =>
        intro w hSw
        try dsimp only at hSw
        go_simp
        try with_reducible rfl
      simp only [Act.put, List.setIfInBounds_toArray, List.set_cons_zero, List.set_cons_succ]
      refine' held_take (i := 5) (d := some 24) (v := _) rfl rfl (by kernel_rfl) (by kernel_rfl) (by kernel_rfl) (fun _ _ _ h => h) rfl (by assumption) ?hy_6 ?re_6
      case hy_6 =>
        intro w hSw
        try dsimp only at hSw
        go_simp
        try with_reducible rfl
      simp only [Act.put, List.setIfInBounds_toArray, List.set_cons_zero, List.set_cons_succ]
      refine wpAnyH_ready (rs := [6]) (by kernel_rfl) (by simp) ?_
      refine AllReadyH.cons rfl (fun K hK => ?_) AllReadyH.nil
      go_simp
      refine (hitX.out _ (hbXH.out.drew)).mono ?_
      rintro e w5 ⟨rfl, hb5⟩
      have hr5 := Lib.hid (heap_down hb5 hrD.out)
      have hF5 := Lib.hid (RowG.below (hFX.out.drewN 1) hb5)
      have hlt5 : box < w5.heap.size := Nat.lt_of_lt_of_le hltW hb5.size
      have hr5A := Lib.hid (fun (o : Obj) => (Below.heap_alloc w5 o box hlt5).trans hr5.out)
      have hb5H := below_trans (hbXH.out.drew) hb5
      have hb5A := Lib.hid (fun (o : Obj) => hb5H.alloc hb5H.size o)
      have hst5 := Lib.hid hb5H.size
      clear hb5 hb5H
      go_wp2_with fail
      refine hK.out _ _ ?_ (fun hHeld => ?_)
      · exact hkS.out _ hr5.out
      clear hK K
      try simp only [Act.put, List.setIfInBounds_toArray, List.set_cons_zero, List.set_cons_succ]
      refine' held_take (i := 7) (d := some 26) (v := _) rfl rfl (by kernel_rfl) (by kernel_rfl) (by kernel_rfl) (fun _ _ _ h => h) rfl (by assumption) ?hy_7 ?re_7
      case hy_7 =>
        intro w hSw
        try dsimp only at hSw
        go_simp
        try with_reducible rfl
      simp only [Act.put, List.setIfInBounds_toArray, List.set_cons_zero, List.set_cons_succ]
      refine wpAnyH_ready (rs := [8]) (by kernel_rfl) (by simp) ?_
      refine AllReadyH.cons rfl (fun K hK => ?_) AllReadyH.nil
      go_simp
      refine hK.out _ _ ?_ (fun hHeld => ?_)
      · exact hkS.out _ (hr5A.out _)
      clear hK K
      try simp only [Act.put, List.setIfInBounds_toArray, List.set_cons_zero, List.set_cons_succ]
      refine wpAnyH_ready (rs := [9]) (by kernel_rfl) (by simp) ?_
      refine AllReadyH.cons rfl (fun K hK => ?_) AllReadyH.nil
      refine step_appG strC _ rfl _ _ 55 rfl 9 (.string ⟨#[]⟩) 16 Tryz.underlying55 info_str rfl (by decide) w.heap.size _ ((L.take j).map floW) (by rfl) (RowG.alloc hF5.out _) _ [floW ⟨fw, fe⟩] (by rfl) (AtG.new (C := strC) _ (floW ⟨fw, fe⟩) 9 (floW_cells fw fe)) (by simp) (by simp; omega) (by have := hst5.out; rw [World.size_alloc]; omega) ?_
      intro v6 w6 hown6 hb6 hg6
      rw [← hsnH.out] at hown6
      have hfin := Lib.hid hown6
      have hbf := Lib.hid ((hb5A.out _).trans hb6)
      have hr6 := Lib.hid ((hg6.block box (by rw [World.size_alloc]; omega) hnb.out).trans (hr5A.out _))
      clear hown6 hb6 hg6
      refine hK.out _ _ ?_ (fun hHeld => ?_)
      · exact hkS.out _ hr6.out
      clear hK K
      try simp only [Act.put, List.setIfInBounds_toArray, List.set_cons_zero, List.set_cons_succ]
      refine' held_take (i := 10) (d := some 5) (v := _) rfl rfl (by kernel_rfl) (by kernel_rfl) (by kernel_rfl) (fun _ _ _ h => h) rfl (by assumption) ?hy_8 ?re_8
      case hy_8 =>
        intro w hSw
        try dsimp only at hSw
        go_simp
        try with_reducible rfl
      simp only [Act.put, List.setIfInBounds_toArray, List.set_cons_zero, List.set_cons_succ]
      refine wpAnyH_done (by kernel_rfl) ?_ _
      refine NoPanic.normal ?_
      go_wp2_with fail
      go_roundg (L.length - j)
      case measure => omega
      case rel => exact ⟨j + 1, by simp, hlt, by omega, hfin, hbf⟩
    · have hge : ¬ ((j : Int) < (L.length : Int)) := by omega
      have hj2 : j = L.length := by omega
      subst hj2
      by_cases h0 : L.length = 0
      · have hL0 : textL L = [45] := by
          have : L = [] := List.length_eq_zero_iff.1 h0
          rw [this]; rfl
        have hr := Lib.hid (hrT.out.trans (by rw [hL0]))
        have h0' : ((L.length : Int) == 0) = true := by rw [h0]; rfl
        clear hL0 h0
        go_wp2_with fail
        go_ret2
        exact ⟨TextRes.mk hr.out rfl (ErrAt.bare 0), hK.out⟩
      · have hL0 : textL L = glue 44 (L.map floW) := by
          unfold textL
          rw [if_neg (by simp; intro h; exact h0 (by rw [h]; rfl))]
        have hr := Lib.hid (hrT.out.trans (by rw [hL0]))
        have h0' : ((L.length : Int) == 0) = false := by simp; exact fun h => h0 (by rw [h]; rfl)
        have hat := RowG.at_ hF.out
        rw [List.take_of_length_le (Nat.le_refl _)] at hat
        have hjo := Lib.hid (join_wide _ _ _ (textsAt_of hat) (by rw [List.length_map]; omega) (by rw [List.length_map]; omega) (fun x hx => by
          obtain ⟨f, hf, rfl⟩ := List.mem_map.1 hx
          exact (floW_len (hgoodH.out.g.one f hf)).1))
        clear hat hL0 h0
        go_wp2_with fail
        refine hjo.out.mono ?_
        rintro e w2 ⟨rfl, hb2⟩
        have hb2 := Lib.hid (below_trans hK.out hb2)
        go_wp2_with fail
        go_ret2
        exact ⟨TextRes.mk hr.out rfl (ErrAt.bare 0), hb2.out⟩
theorem textL_len {L : List Flo} (h : (checkF L).1 = 0) : (textL L).length ≤ 500 := by
  have hg := goodF_check h
  unfold textL
  split
  · simp
  · have h1 := glue_len 44 (L.map floW) (fun x hx => by
      obtain ⟨f, hf, rfl⟩ := List.mem_map.1 hx
      exact (floW_len (hg.g.one f hf)).1)
    have := hg.len
    rw [List.length_map] at h1
    omega
set_option maxHeartbeats 1000000 in
set_option maxRecDepth 100000 in
theorem sum_flo {E : Nat → Addr} (v : Value) (L : List Flo) (w : World) (hL : LaidS E w) (hv : FloorsAt w v L) (hm : ∀ f ∈ L, f.who.length ≤ maxLen) :
    Calls Tryz.prog 23 #[v] w fun e w' => e = .returned (.int .i64 (sumF L)) ∧ Below w.heap.size w w' := by
  have htx := Lib.hid (text_flo (E := E) v L w hL hv hm)
  have hof := Lib.hid (fun (h : (checkF L).1 = 0) wx (hx : Below w.heap.size w wx) => of_any (E := E) 1 (bs (textL L)) wx (hL.below hx).laid (by rw [bs_size]; have := textL_len h; unfold maxLen; omega))
  clear hL hv hm
  by_cases hc0 : (checkF L).1 = 0
  · rw [textF_good hc0] at htx
    have hr := Lib.hid (show sumF L = (markOf 1 (textL L)).1 by unfold sumF; rw [if_pos hc0])
    have hof := hof.out hc0
    have hz : (markOf 1 (textL L)).2 = 0 := by unfold markOf; rw [if_pos (by decide)]
    simp only [bs_list, hz, errV_zero] at hof
    have hof := Lib.hid hof
    clear hc0 hz
    go_enter Tryz.func23, Tryz.ntmps23
    go_wp2_with fail
    refine htx.out.mono ?_
    rintro e w1 ⟨⟨ev, rfl, he⟩, hb1⟩
    obtain ⟨rfl, _⟩ := he.zero rfl
    dsimp only
    have hof := Lib.hid (hof.out _ hb1)
    have hb1 := Lib.hid hb1
    clear he
    go_wp2_with fail
    refine hof.out.mono ?_
    rintro e w2 ⟨rfl, hb2⟩
    have hb2 := Lib.hid (below_trans hb1.out hb2)
    go_wp2_with fail
    go_ret
    exact ⟨by rw [hr.out]; rfl, hb2.out⟩
  · rw [textF_check hc0] at htx
    have hr := Lib.hid (show sumF L = 0 by unfold sumF; rw [if_neg hc0])
    have hc0H := Lib.hid hc0
    clear hof hc0
    go_enter Tryz.func23, Tryz.ntmps23
    go_wp2_with fail
    refine htx.out.mono ?_
    rintro e w1 ⟨⟨ev, rfl, he⟩, hb1⟩
    obtain ⟨T, x, rfl⟩ := he.iface hc0H.out
    have hb1 := Lib.hid hb1
    clear he
    go_wp2_with fail
    go_ret
    exact ⟨by rw [hr.out]; rfl, hb1.out⟩
end Go.Proofs.YtcnadjdijolboaaGreatDoor

/- Package feed: right, Check, Bare: walked. -/
namespace Go.Proofs.YtcnadjdijolboaaGreatDoor
open Go.RowKit

theorem ent_cases {was : Int} {i : Nat} {s t : Int} {who : List UInt8} {ep : Int} :
    (s ≠ (i : Int) + 1 ∧ entErr was i ⟨s, t, ⟨who, ep⟩⟩ = 15) ∨ (s = (i : Int) + 1 ∧ t < 0 ∧ entErr was i ⟨s, t, ⟨who, ep⟩⟩ = 2) ∨ (s = (i : Int) + 1 ∧ 0 ≤ t ∧ 1000000 < t ∧ entErr was i ⟨s, t, ⟨who, ep⟩⟩ = 2) ∨
    (s = (i : Int) + 1 ∧ 0 ≤ t ∧ t ≤ 1000000 ∧ t < was ∧ entErr was i ⟨s, t, ⟨who, ep⟩⟩ = 8) ∨ (s = (i : Int) + 1 ∧ 0 ≤ t ∧ t ≤ 1000000 ∧ was ≤ t ∧ entErr was i ⟨s, t, ⟨who, ep⟩⟩ = oneF ⟨who, ep⟩) := by
  unfold entErr
  dsimp only
  by_cases h1 : s = (i : Int) + 1
  · rw [if_neg (by simpa using h1)]
    by_cases h2 : t < 0
    · rw [if_pos (.inl h2)]; exact .inr (.inl ⟨h1, h2, rfl⟩)
    by_cases h3 : 1000000 < t
    · rw [if_pos (.inr h3)]; exact .inr (.inr (.inl ⟨h1, by omega, h3, rfl⟩))
    rw [if_neg (by omega)]
    by_cases h4 : t < was
    · rw [if_pos h4]; exact .inr (.inr (.inr (.inl ⟨h1, by omega, by omega, h4, rfl⟩)))
    · rw [if_neg h4]; exact .inr (.inr (.inr (.inr ⟨h1, by omega, by omega, by omega, rfl⟩)))
  · rw [if_pos h1]; exact .inl ⟨h1, rfl⟩
theorem one_cases {who : List UInt8} {ep : Int} :
    (who = starW ∧ ((1 ≤ ep ∧ ep ≤ 1073741824 ∧ oneF ⟨who, ep⟩ = 0) ∨ (ep < 1 ∧ oneF ⟨who, ep⟩ = 2) ∨ (1 ≤ ep ∧ 1073741824 < ep ∧ oneF ⟨who, ep⟩ = 2))) ∨
    (who ≠ starW ∧ ((isName who = false ∧ oneF ⟨who, ep⟩ = 4) ∨ (isName who = true ∧ ((1 ≤ ep ∧ ep ≤ 1073741824 ∧ oneF ⟨who, ep⟩ = 0) ∨ (ep < 1 ∧ oneF ⟨who, ep⟩ = 2) ∨ (1 ≤ ep ∧ 1073741824 < ep ∧ oneF ⟨who, ep⟩ = 2))))) := by
  unfold oneF
  dsimp only
  by_cases hs : who = starW
  · rw [if_neg (fun h => h.1 hs)]
    refine .inl ⟨hs, ?_⟩
    by_cases h1 : 1 ≤ ep
    · by_cases h2 : ep ≤ 1073741824
      · rw [if_pos ⟨h1, h2⟩]; exact .inl ⟨h1, h2, rfl⟩
      · rw [if_neg (fun h => h2 h.2)]; exact .inr (.inr ⟨h1, by omega, rfl⟩)
    · rw [if_neg (fun h => h1 h.1)]; exact .inr (.inl ⟨by omega, rfl⟩)
  · refine .inr ⟨hs, ?_⟩
    cases hn : isName who with
    | false => rw [if_pos ⟨hs, rfl⟩]; exact .inl ⟨rfl, rfl⟩
    | true =>
      rw [if_neg (fun h => by have := h.2; cases this)]
      refine .inr ⟨rfl, ?_⟩
      by_cases h1 : 1 ≤ ep
      · by_cases h2 : ep ≤ 1073741824
        · rw [if_pos ⟨h1, h2⟩]; exact .inl ⟨h1, h2, rfl⟩
        · rw [if_neg (fun h => h2 h.2)]; exact .inr (.inr ⟨h1, by omega, rfl⟩)
      · rw [if_neg (fun h => h1 h.1)]; exact .inr (.inl ⟨by omega, rfl⟩)
end Go.Proofs.YtcnadjdijolboaaGreatDoor

/- The reference's feeds: entryError, FeedFault: walked. -/
namespace Go.Proofs.YtcnadjdijolboaaGreatDoor
open Go.RowKit

theorem wasE_next {L : List Ent} {j : Nat} (h : j < L.length) : wasE L (j + 1) = L[j].time := by
  unfold wasE
  rw [if_neg (by omega), Nat.add_sub_cancel, getD_get h]
end Go.Proofs.YtcnadjdijolboaaGreatDoor

/- Package feed: Check, Bare: walked. -/
namespace Go.Proofs.YtcnadjdijolboaaGreatDoor
open Go.RowKit

theorem assert_text (v : Value) (w : World) : (Instr.typeAssert (.iface 201 v) 28 52 true).run Tryz.prog w = .ok (.tuple #[.pointer none, .bool false]) w := by kernel_rfl
theorem assert_fault (v : Value) (w : World) : (Instr.typeAssert (.iface 52 v) 28 52 true).run Tryz.prog w = .ok (.tuple #[v, .bool true]) w := by kernel_rfl
theorem assert_nil (w : World) : (Instr.typeAssert .nilIface 28 52 true).run Tryz.prog w = .ok (.tuple #[.pointer none, .bool false]) w := by kernel_rfl
end Go.Proofs.YtcnadjdijolboaaGreatDoor

/- slices.Clone at entries: walked. -/
namespace Go.Proofs.YtcnadjdijolboaaGreatDoor
open Go.RowKit Go.Lib

end Go.Proofs.YtcnadjdijolboaaGreatDoor

/- feed.Add: walked. -/
namespace Go.Proofs.YtcnadjdijolboaaGreatDoor
open Go.RowKit

theorem addE_check {L : List Ent} {time : Int} {f : Flo} (h : (checkE L).1 ≠ 0) : addE L time f = ([], (checkE L).1, (checkE L).2) := by unfold addE; rw [if_pos h]
theorem addE_full {L : List Ent} {time : Int} {f : Flo} (h : (checkE L).1 = 0) (h1 : 60 ≤ L.length) : addE L time f = ([], 7, -1) := by unfold addE; rw [if_neg (by simpa using h), if_pos h1]
theorem addE_one {L : List Ent} {time : Int} {f : Flo} (h : (checkE L).1 = 0) (h1 : ¬ 60 ≤ L.length) {c : Nat} (hc : entErr (wasE L L.length) L.length ⟨(L.length : Int) + 1, time, f⟩ = c + 1) : addE L time f = ([], c + 1, -1) := by
  unfold addE; rw [if_neg (by simpa using h), if_neg h1, hc, if_pos (Nat.succ_ne_zero _)]
theorem addE_good {L : List Ent} {time : Int} {f : Flo} (h : (checkE L).1 = 0) (h1 : ¬ 60 ≤ L.length) (hc : entErr (wasE L L.length) L.length ⟨(L.length : Int) + 1, time, f⟩ = 0) : addE L time f = (L ++ [⟨(L.length : Int) + 1, time, f⟩], 0, -1) := by
  unfold addE; rw [if_neg (by simpa using h), if_neg h1, hc, if_neg (by simp)]
end Go.Proofs.YtcnadjdijolboaaGreatDoor

/- feed.Floors: walked. -/
namespace Go.Proofs.YtcnadjdijolboaaGreatDoor
open Go.RowKit

theorem floorsE_check {L : List Ent} (h : (checkE L).1 ≠ 0) : floorsE L = ([], (checkE L).1, (checkE L).2) := by unfold floorsE; rw [if_neg h]
theorem foldR_at (L : List Ent) (j : Nat) (hj : j < L.length) (h : (foldR [] (L.take j)).2 = 0) : foldR [] (L.take (j + 1)) = foldR (foldR [] (L.take j)).1 [L[j]] := by
  rw [List.take_succ_eq_append_getElem hj, foldR_append, if_pos h]
theorem foldR_stop (L : List Ent) (j : Nat) (h : (foldR [] (L.take j)).2 ≠ 0) : foldR [] L = foldR [] (L.take j) := by
  have := foldR_append (L.take j) (L.drop j) []
  rw [List.take_append_drop, if_neg h] at this
  exact this
theorem who_len {f : Flo} (h : oneF f = 0) : f.who.length ≤ maxLen := by
  rcases (oneF_zero h).1 with h1 | h1
  · rw [h1]; decide
  · have := ((isName_iff _).1 h1).2.1
    unfold maxLen
    omega
end Go.Proofs.YtcnadjdijolboaaGreatDoor
