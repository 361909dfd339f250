/- Number, Funcs, Make, Look -/
import Derived.Test.YtfbndfkahodheaaGreatDoorMg11
import Derived.Test.YtfbndfkahodheaaGreatDoorMg2
import Derived.Test.YtfbndfkahodheaaGreatDoorMg3
import Derived.Test.YtfbndfkahodheaaGreatDoorMg9
import Derived.Deep.RegionHeld3
/- seal.Number by its contract. -/
namespace Go.Proofs.YtfbndfkahodheaaGreatDoor
open Go.RowKit Go.Sort

theorem number_none {l : List UInt8} {most : Int} (h : numOf l = none) : number l most = (0, false) := by unfold number; rw [h]
/-- seal.Number of what the law's texts hold. -/
def numRes (l : List UInt8) (most : Int) : Value := .tuple #[.int .i64 (number l most).1, .bool (number l most).2]
set_option maxRecDepth 100000 in
theorem number_any {E : Nat → Addr} (s : ByteArray) (most : Int) (w : World) (hL : LaidS E w) (hs : s.size ≤ 1000000) :
    Calls Tryz.prog 62 #[.string s, .int .i64 most] w fun e w' => e = .returned (numRes s.data.toList most) ∧ Below w.heap.size w w' := by
  have hlen : s.data.toList.length = s.size := Array.length_toList
  rcases hc : Lib.atoiAll s.data.toList with v | _ | _
  · have hat := Lib.hid (atoi_ok s (by omega) v hc w)
    have hvb := atoiAll_ge hc
    obtain ⟨hvb1, hvb2⟩ := hvb
    have hsome : ∀ n, numOf s.data.toList = some n → v = n ∧ s.size ≤ 10 ∧ Lib.itoa v = s.data.toList := fun n hn => by
      obtain ⟨h1, h2, h3, h4⟩ := numOf_some hn
      have := (atoi_good h1 h2).symm.trans hc
      injection this with h5
      rw [h3] at h5
      exact ⟨h5.symm, by omega, by rw [← h5]; exact h4⟩
    by_cases h10 : s.size ≤ 10
    case neg =>
      have hr := Lib.hid (show numRes s.data.toList most = .tuple #[.int .i64 0, .bool false] by
        unfold numRes
        rw [number_none]
        cases hn : numOf s.data.toList with
        | none => rfl
        | some n => exact absurd (hsome n hn).2.1 h10)
      clear hsome hc hlen
      go_enter Tryz.func62, Tryz.ntmps62
      go_wp2_with fail
      refine hat.out.mono ?_
      rintro e w1 ⟨rfl, hb⟩
      go_wp2_with fail
      go_ret2
      exact ⟨by rw [hr.out]; rfl, hb⟩
    by_cases hv0 : v < 0
    · have hr := Lib.hid (show numRes s.data.toList most = .tuple #[.int .i64 0, .bool false] by
        unfold numRes
        rw [number_none]
        cases hn : numOf s.data.toList with
        | none => rfl
        | some n => have := (hsome n hn).1; omega)
      clear hsome hc hlen
      go_enter Tryz.func62, Tryz.ntmps62
      go_wp2_with fail
      refine hat.out.mono ?_
      rintro e w1 ⟨rfl, hb⟩
      go_wp2_with fail
      go_ret2
      exact ⟨by rw [hr.out]; rfl, hb⟩
    by_cases hvm : most < v
    · have hr := Lib.hid (show numRes s.data.toList most = .tuple #[.int .i64 0, .bool false] by
        unfold numRes number
        cases hn : numOf s.data.toList with
        | none => rfl
        | some n =>
          have := (hsome n hn).1
          dsimp only
          rw [if_neg (by omega)])
      clear hsome hc hlen
      go_enter Tryz.func62, Tryz.ntmps62
      go_wp2_with fail
      refine hat.out.mono ?_
      rintro e w1 ⟨rfl, hb⟩
      go_wp2_with fail
      go_ret2
      exact ⟨by rw [hr.out]; rfl, hb⟩
    have hit := Lib.hid (fun wx hx => itoa_any v hvb1 hvb2 wx (hL.below hx))
    by_cases he : Lib.itoa v = s.data.toList
    · have hr := Lib.hid (show numRes s.data.toList most = .tuple #[.int .i64 v, .bool true] by
        obtain ⟨n, rfl⟩ := Int.eq_ofNat_of_zero_le (Int.not_lt.1 hv0)
        unfold numRes number
        rw [← he, numOf_itoa (by rw [he]; omega)]
        dsimp only
        rw [if_pos (by omega)])
      have hbe : ((bs (Lib.itoa v)).toList == s.toList) = true := by rw [toList_data, toList_data, bs_list, he]; exact beq_self_eq_true _
      clear he hsome hc hlen
      go_enter Tryz.func62, Tryz.ntmps62
      go_wp2_with fail
      refine hat.out.mono ?_
      rintro e w1 ⟨rfl, hb⟩
      go_wp2_with fail
      refine (hit.out _ hb).mono ?_
      rintro e w2 ⟨rfl, hb2⟩
      have hb2 := below_trans hb hb2
      go_wp2_with fail
      go_ret2
      exact ⟨by rw [hr.out]; rfl, hb2⟩
    · have hr := Lib.hid (show numRes s.data.toList most = .tuple #[.int .i64 0, .bool false] by
        unfold numRes
        rw [number_none]
        cases hn : numOf s.data.toList with
        | none => rfl
        | some n => exact absurd (hsome n hn).2.2 he)
      have hbe : ((bs (Lib.itoa v)).toList == s.toList) = false := by rw [toList_data, toList_data, bs_list, beq_eq_false_iff_ne]; exact he
      clear he hsome hc hlen
      go_enter Tryz.func62, Tryz.ntmps62
      go_wp2_with fail
      refine hat.out.mono ?_
      rintro e w1 ⟨rfl, hb⟩
      go_wp2_with fail
      refine (hit.out _ hb).mono ?_
      rintro e w2 ⟨rfl, hb2⟩
      have hb2 := below_trans hb hb2
      go_wp2_with fail
      go_ret2
      exact ⟨by rw [hr.out]; rfl, hb2⟩
  · have hat := Lib.hid (atoi_bad s (by omega) (fun v h => by rw [hc] at h; cases h) w hL)
    have hr := Lib.hid (show numRes s.data.toList most = .tuple #[.int .i64 0, .bool false] by
      unfold numRes
      rw [number_none]
      cases hn : numOf s.data.toList with
      | none => rfl
      | some n => obtain ⟨h1, h2, _⟩ := numOf_some hn; rw [atoi_good h1 h2] at hc; cases hc)
    clear hc hlen
    go_enter Tryz.func62, Tryz.ntmps62
    go_wp2_with fail
    refine hat.out.mono ?_
    rintro e w1 ⟨n, T, N, rfl, hb⟩
    go_wp2_with fail
    go_ret2
    exact ⟨by rw [hr.out]; rfl, hb⟩
  · have hat := Lib.hid (atoi_bad s (by omega) (fun v h => by rw [hc] at h; cases h) w hL)
    have hr := Lib.hid (show numRes s.data.toList most = .tuple #[.int .i64 0, .bool false] by
      unfold numRes
      rw [number_none]
      cases hn : numOf s.data.toList with
      | none => rfl
      | some n => obtain ⟨h1, h2, _⟩ := numOf_some hn; rw [atoi_good h1 h2] at hc; cases hc)
    clear hc hlen
    go_enter Tryz.func62, Tryz.ntmps62
    go_wp2_with fail
    refine hat.out.mono ?_
    rintro e w1 ⟨n, T, N, rfl, hb⟩
    go_wp2_with fail
    go_ret2
    exact ⟨by rw [hr.out]; rfl, hb⟩
end Go.Proofs.YtfbndfkahodheaaGreatDoor

/- slices.IndexFunc and ContainsFunc at texts, where a text that is no word is looked for. -/
namespace Go.Proofs.YtfbndfkahodheaaGreatDoor
open Go.RowKit

/-- What a function that asks for a text that is no word does. -/
def IsBad (g : Nat) (B : Nat) (w : World) : Prop := ∀ (W : World) (s : List UInt8), s.length ≤ maxLen → Below B w W → Calls Tryz.prog g #[.string (bs s)] W fun e w' => e = .returned (.bool (badP s)) ∧ Below W.heap.size W w'
set_option maxRecDepth 100000 in
theorem make1_bad (w : World) : IsBad 91 w.heap.size w := by
  intro W s hs _
  have hw := Lib.hid (word_any (bs s) W (by rw [bs_size]; exact hs))
  unfold badP
  cases hc : isWord s with
  | true =>
    have hc2 := Lib.hid (show isWord (bs s).data.toList = true from hc)
    clear hc
    go_enter Tryz.func91, Tryz.ntmps91
    go_wp2_with fail
    refine hw.out.mono ?_
    rintro e w1 ⟨rfl, hb⟩
    rw [hc2.out]
    go_wp2_with fail
    go_ret
    exact ⟨rfl, hb⟩
  | false =>
    have hc2 := Lib.hid (show isWord (bs s).data.toList = false from hc)
    clear hc
    go_enter Tryz.func91, Tryz.ntmps91
    go_wp2_with fail
    refine hw.out.mono ?_
    rintro e w1 ⟨rfl, hb⟩
    rw [hc2.out]
    go_wp2_with fail
    go_ret
    exact ⟨rfl, hb⟩
set_option maxRecDepth 100000 in
theorem look1_bad (w : World) : IsBad 132 w.heap.size w := by
  intro W s hs _
  have hw := Lib.hid (word_any (bs s) W (by rw [bs_size]; exact hs))
  unfold badP
  cases hc : isWord s with
  | true =>
    have hc2 := Lib.hid (show isWord (bs s).data.toList = true from hc)
    clear hc
    go_enter Tryz.func132, Tryz.ntmps132
    go_wp2_with fail
    refine hw.out.mono ?_
    rintro e w1 ⟨rfl, hb⟩
    rw [hc2.out]
    go_wp2_with fail
    go_ret
    exact ⟨rfl, hb⟩
  | false =>
    have hc2 := Lib.hid (show isWord (bs s).data.toList = false from hc)
    clear hc
    go_enter Tryz.func132, Tryz.ntmps132
    go_wp2_with fail
    refine hw.out.mono ?_
    rintro e w1 ⟨rfl, hb⟩
    rw [hc2.out]
    go_wp2_with fail
    go_ret
    exact ⟨rfl, hb⟩

set_option maxHeartbeats 1000000 in
set_option maxRecDepth 100000 in
theorem index_any (v : Value) (W : List (List UInt8)) (g : Nat) (w : World) (hv : TextsAt w v W) (hm : ∀ x ∈ W, x.length ≤ maxLen) (hg : IsBad g w.heap.size w) (eg : ∀ args w, (callFunc g args).run Tryz.prog w = .ok (.enter g args) w) :
    Calls Tryz.prog 90 #[v, .func (.func g) #[] #[]] w fun e w' => e = .returned (.int .i64 (badIdx W)) ∧ Below w.heap.size w w' := by
  obtain ⟨a, c, rfl, hlen, _, hc⟩ := hv
  unfold maxLen at hlen
  have hc := Lib.hid hc
  have hm := Lib.hid hm
  have hg := Lib.hid hg
  go_enter Tryz.func90, Tryz.ntmps90
  go_wp2_with fail
  go_loopg [8] (W.length + 1) (fun g8 i wr => ∃ j : Nat, i = .int .i64 j ∧ j ≤ W.length ∧ W.length - j + 1 ≤ g8 ∧ Hid (∀ i (h : i < W.length), i < j → isWord W[i] = true) ∧ Hid (Below w.heap.size w wr))
  case atStart => exact ⟨0, rfl, Nat.zero_le _, by omega, Lib.hid (fun _ _ h => absurd h (Nat.not_lt_zero _)), Lib.hid (Below.refl _ _)⟩
  case round =>
    obtain ⟨j, rfl, hj, hgj, hall, hK⟩ := hrel
    by_cases hlt : j < W.length
    · obtain ⟨b, o, rfl, hcell⟩ := hc.out j hlt
      have hcell := cell_below hK.out hcell
      have hk0 : (0 : Int) ≤ (j : Int) := by omega
      have hk1 : (j : Int) < (W.length : Int) := by omega
      have hgc := Lib.hid (hg.out wr W[j] (hm.out _ (List.getElem_mem hlt)) hK.out)
      cases hb : badP W[j] with
      | true =>
        rw [hb] at hgc
        have hr := Lib.hid (show badIdx W = (j : Int) from badIdx_of hlt (by unfold badP at hb; simpa using hb) hall.out)
        clear hb
        go_wp2_with fail
        refine hgc.out.mono ?_
        rintro e w1 ⟨rfl, hb1⟩
        have hb1 := Lib.hid (hK.out.trans (hb1.mono hK.out.size))
        go_wp2_with fail
        go_ret
        exact ⟨ret_int hr.out.symm, hb1.out⟩
      | false =>
        rw [hb] at hgc
        have hall2 := Lib.hid (show ∀ i (h : i < W.length), i < j + 1 → isWord W[i] = true from fun i h hi => by
          rcases Nat.lt_succ_iff_lt_or_eq.1 hi with h' | rfl
          · exact hall.out i h h'
          · unfold badP at hb; simpa using hb)
        clear hb
        go_wp2_with fail
        refine hgc.out.mono ?_
        rintro e w1 ⟨rfl, hb1⟩
        have hb1 := Lib.hid (hK.out.trans (hb1.mono hK.out.size))
        go_wp2_with fail
        go_roundg (W.length - j)
        case measure => omega
        case rel => exact ⟨j + 1, by simp, hlt, by omega, hall2, hb1⟩
    · have hr := Lib.hid (show badIdx W = -1 from badIdx_none fun i hi => hall.out i hi (by omega))
      have hge : ¬ ((j : Int) < (W.length : Int)) := by omega
      go_wp2_with fail
      go_ret
      exact ⟨ret_int hr.out.symm, hK.out⟩
set_option maxRecDepth 100000 in
theorem contains_any (v : Value) (W : List (List UInt8)) (g : Nat) (w : World) (hv : TextsAt w v W) (hm : ∀ x ∈ W, x.length ≤ maxLen) (hg : IsBad g w.heap.size w) (eg : ∀ args w, (callFunc g args).run Tryz.prog w = .ok (.enter g args) w) :
    Calls Tryz.prog 131 #[v, .func (.func g) #[] #[]] w fun e w' => e = .returned (.bool (decide (0 ≤ badIdx W))) ∧ Below w.heap.size w w' := by
  have hi := Lib.hid (index_any v W g w hv hm hg eg)
  rcases badIdx_cases W with ⟨h, _⟩ | ⟨j, _, h, _⟩
  · have hr := Lib.hid (show decide (0 ≤ badIdx W) = false by rw [h]; rfl)
    have h := Lib.hid h
    rw [h.out] at hi
    go_enter Tryz.func131, Tryz.ntmps131
    go_wp2_with fail
    refine hi.out.mono ?_
    rintro e w1 ⟨rfl, hb⟩
    go_wp2_with fail
    go_ret
    exact ⟨ret_bool hr.out.symm, hb⟩
  · have hr := Lib.hid (show decide (0 ≤ badIdx W) = true by rw [h]; exact decide_eq_true (by omega))
    rw [h] at hi
    clear h
    have h0 : (0 : Int) ≤ (j : Int) := by omega
    go_enter Tryz.func131, Tryz.ntmps131
    go_wp2_with fail
    refine hi.out.mono ?_
    rintro e w1 ⟨rfl, hb⟩
    go_wp2_with fail
    go_ret
    exact ⟨ret_bool hr.out.symm, hb⟩
end Go.Proofs.YtfbndfkahodheaaGreatDoor

/- seal.Make by its contract. -/
namespace Go.Proofs.YtfbndfkahodheaaGreatDoor
open Go.RowKit

set_option maxRecDepth 100000 in
theorem join_any (v : Value) (W : List (List UInt8)) (w : World) (hv : TextsAt w v W) (h1 : 1 ≤ W.length) (h10 : W.length ≤ 10) (hw : ∀ x ∈ W, x.length ≤ 20) :
    Calls Tryz.prog 93 #[v, .string ⟨#[32]⟩] w fun e w' => e = .returned (.string (bs (glue 32 W))) ∧ Below w.heap.size w w' := by
  obtain ⟨a, c, rfl, _, hcap, hc⟩ := hv
  obtain ⟨b, o, rfl, h0⟩ := hc 0 (by omega)
  have hlt := World.block_lt_of_cell? w _ h0
  have hmap : (W.map bs).map (fun x => x.data.toList) = W := by
    rw [List.map_map]
    have : ((fun x : ByteArray => x.data.toList) ∘ bs) = id := by funext x; exact bs_list x
    rw [this, List.map_id]
  have hj : Lib.join ((W.map bs).map (fun x => x.data.toList)) (⟨#[32]⟩ : ByteArray).data.toList = glue 32 W := by
    rw [hmap]
    exact join_glue 32 W
  have h := Any.strings_Join Tryz.joinL Tryz.joinX b o c (W.map bs) ⟨#[32]⟩ w (fun j x hx => by
      rw [List.getElem?_map] at hx
      cases hj : W[j]? with
      | none => rw [hj] at hx; cases hx
      | some y =>
        rw [hj] at hx
        cases hx
        obtain ⟨hlt2, rfl⟩ := List.getElem?_eq_some_iff.1 hj
        obtain ⟨b2, o2, he, hc2⟩ := hc j hlt2
        cases he
        exact hc2) hlt (by rw [List.length_map]; omega) (by rw [List.length_map]; exact hcap) (by
      rw [hj]
      have := glue_len 32 W hw
      omega)
  rw [hj, List.length_map] at h
  exact h

theorem ret_str2 {a b : ByteArray} {v : Value} (h : a = b) : Ending.returned (.tuple #[.string a, v]) = .returned (.tuple #[.string b, v]) := by rw [h]
theorem str_add (a b : List UInt8) : bs a ++ bs b = bs (a ++ b) := by
  apply ByteArray.ext
  simp [bs]
set_option maxHeartbeats 1000000 in
set_option maxRecDepth 100000 in
theorem make_any {E : Nat → Addr} (k : Int) (v : Value) (W : List (List UInt8)) (w : World) (hL : LaidS E w) (hv : TextsAt w v W) (hm : ∀ x ∈ W, x.length ≤ maxLen) :
    Calls Tryz.prog 56 #[.int .i64 k, v] w fun e w' => ∃ ev, e = .returned (.tuple #[.string (bs (makeOf k W).1), ev]) ∧ ErrAt E w' ev (makeOf k W).2.1 (makeOf k W).2.2 ∧ Below w.heap.size w w' := by
  have hv' := Lib.hid hv
  obtain ⟨a, c, rfl, hlen, _, _⟩ := hv
  unfold maxLen at hlen
  by_cases hk : isKey k = true
  case neg =>
    have hk : isKey k = false := by simpa using hk
    have hr := Lib.hid (show makeOf k W = ([], 10, -1) by unfold makeOf; rw [if_pos hk])
    have he := hL.laid.e10
    go_enter Tryz.func56, Tryz.ntmps56
    go_wp2_with (go_at_call 55; refine (key_any _ _).mono ?_; rintro e w' ⟨rfl, rfl⟩)
    go_quiet (fail)
    go_wp2_with fail
    go_ret2
    exact ⟨_, by rw [hr.out]; rfl, by rw [hr.out]; exact ErrAt.bare 10, below_drawn (Below.refl _ _) _⟩
  have hk' := Lib.hid (show ¬ isKey k = false by rw [hk]; decide)
  by_cases h0 : W.length = 0
  · have hr := Lib.hid (show makeOf k W = ([], 3, -1) by unfold makeOf; rw [if_neg hk'.out, if_pos (.inl h0)])
    have he := hL.laid.e3
    have hz : ((W.length : Int) == 0) = true := by rw [beq_iff_eq]; omega
    clear h0
    go_enter Tryz.func56, Tryz.ntmps56
    go_wp2_with (go_at_call 55; refine (key_any _ _).mono ?_; rintro e w' ⟨rfl, rfl⟩)
    go_quiet (fail)
    go_wp2_with fail
    go_ret2
    exact ⟨_, by rw [hr.out]; rfl, by rw [hr.out]; exact ErrAt.bare 3, below_drawn (Below.refl _ _) _⟩
  have hz : ((W.length : Int) == 0) = false := by rw [beq_eq_false_iff_ne]; omega
  by_cases h10 : 10 < W.length
  · have hr := Lib.hid (show makeOf k W = ([], 3, -1) by unfold makeOf; rw [if_neg hk'.out, if_pos (.inr h10)])
    have he := hL.laid.e3
    have h10' : decide ((10 : Int) < (W.length : Int)) = true := decide_eq_true (by omega)
    clear h0
    go_enter Tryz.func56, Tryz.ntmps56
    go_wp2_with (go_at_call 55; refine (key_any _ _).mono ?_; rintro e w' ⟨rfl, rfl⟩)
    go_quiet (fail)
    go_wp2_with fail
    go_ret2
    exact ⟨_, by rw [hr.out]; rfl, by rw [hr.out]; exact ErrAt.bare 3, below_drawn (Below.refl _ _) _⟩
  have h10' : decide ((10 : Int) < (W.length : Int)) = false := decide_eq_false (by omega)
  have hix := Lib.hid (index_any _ W 91 w hv'.out hm (make1_bad w) (enters_of Tryz.func91 (by kernel_rfl) rfl))
  have h0' := Lib.hid (show ¬ (W.length = 0 ∨ 10 < W.length) by omega)
  rcases badIdx_cases W with ⟨hb, hall⟩ | ⟨j, hj, hb, _, _⟩
  case inr =>
    have hr := Lib.hid (show makeOf k W = ([], 1, (j : Int)) by unfold makeOf; rw [if_neg hk'.out, if_neg h0'.out, if_neg (by rw [hb]; omega), hb])
    rw [hb] at hix
    have hj0 : (0 : Int) ≤ (j : Int) := by omega
    clear h0 hb h10 hm
    go_enter Tryz.func56, Tryz.ntmps56
    go_wp2_with (go_at_call 55; refine (key_any _ _).mono ?_; rintro e w' ⟨rfl, rfl⟩)
    refine hix.out.mono ?_
    rintro e w1 ⟨rfl, hb1⟩
    have he := (hL.below hb1).laid.e1
    have hb1 := Lib.hid hb1
    simp only [errV] at he
    go_wp2_with fail
    go_region
    all_goals
      go_wp2_with fail
      go_ret2
      refine ⟨_, by rw [hr.out]; rfl, ?_, ((hb1.out.alloc hb1.out.size _)).drew⟩
      rw [hr.out]
      exact .inr ⟨w1.heap.size, rfl, Nat.le_refl 1, by simp, by simp [errV]⟩
  case inl =>
    have hr := Lib.hid (show makeOf k W = (sealText k W, 0, -1) by unfold makeOf; rw [if_neg hk'.out, if_neg h0'.out, if_pos hb])
    rw [hb] at hix
    have hw20 : ∀ x ∈ W, x.length ≤ 20 := fun x hx => ((isWord_iff x).1 (hall x hx)).2.1
    have hgl := glue_len 32 W hw20
    have hjo := Lib.hid (fun wx (hx : Below w.heap.size w wx) => join_any _ W wx (hv'.out.below hx) (by omega) (by omega) hw20)
    have hof := Lib.hid (fun wx (hx : Below w.heap.size w wx) => of_any k (bs (glue 32 W)) wx (hL.below hx).laid (by rw [bs_size]; unfold maxLen; omega))
    have hmb := markOf_bd k (glue 32 W)
    have hit := Lib.hid (fun wx (hx : Below w.heap.size w wx) => itoa_any (markOf k (glue 32 W)).1 (by omega) (by omega) wx (hL.below hx))
    have hcode := Lib.hid (show (markOf k (glue 32 W)).2 = 0 by unfold markOf; rw [if_pos hk])
    have hsz1 : (bs (glue 32 W)).size ≤ 300 := by rw [bs_size]; omega
    have hsz2 : (bs (glue 32 W) ++ (⟨#[32]⟩ : ByteArray)).size ≤ 301 := by
      rw [ByteArray.size_append]
      have : (⟨#[32]⟩ : ByteArray).size = 1 := rfl
      omega
    have hsz3 : (bs (Lib.itoa (markOf k (glue 32 W)).1)).size ≤ 20 := by rw [bs_size]; exact itoa_len (by omega) (by omega)
    clear h0 hb h10 hm hall hw20 hgl
    go_enter Tryz.func56, Tryz.ntmps56
    go_wp2_with (go_at_call 55; refine (key_any _ _).mono ?_; rintro e w' ⟨rfl, rfl⟩)
    refine hix.out.mono ?_
    rintro e w1 ⟨rfl, hb1⟩
    have hb1 := Lib.hid hb1
    go_wp2_with fail
    refine (hjo.out _ hb1.out).mono ?_
    rintro e w2 ⟨rfl, hb2⟩
    have hb2 := Lib.hid (below_trans hb1.out hb2)
    go_wp2_with fail
    refine (hof.out _ hb2.out).mono ?_
    rintro e w3 ⟨rfl, hb3⟩
    have hb3 := Lib.hid (below_trans hb2.out hb3)
    rw [bs_list, hcode.out]
    simp only [errV]
    go_wp2_with fail
    refine (hit.out _ hb3.out).mono ?_
    rintro e w4 ⟨rfl, hb4⟩
    have hb4 := Lib.hid (below_trans hb3.out hb4)
    go_wp2_with fail
    go_ret2
    refine ⟨.nilIface, ?_, by rw [hr.out]; exact ErrAt.bare 0, hb4.out⟩
    rw [hr.out]
    exact ret_str2 (show bs (glue 32 W) ++ bs [32] ++ bs (Lib.itoa (markOf k (glue 32 W)).1) = bs (sealText k W) by
      rw [str_add, str_add, List.append_assoc]
      rfl)
end Go.Proofs.YtfbndfkahodheaaGreatDoor

/- seal.look, Look and Open by contracts. -/
namespace Go.Proofs.YtfbndfkahodheaaGreatDoor
open Go.RowKit

theorem textsAt_nil (w : World) : TextsAt w (.slice none 0 0) [] := ⟨none, 0, rfl, Nat.zero_le _, Nat.zero_le _, fun i hi => by cases hi⟩
set_option maxRecDepth 100000 in
theorem split_any {E : Nat → Addr} (s : ByteArray) (w : World) (hL : LaidS E w) (hs : s.size ≤ 1000000) :
    Calls Tryz.prog 130 #[.string s, .string ⟨#[32]⟩] w fun e w' => ∃ v, e = .returned v ∧ TextsAt w' v (cutL 32 s.data.toList) ∧ Below w.heap.size w w' := by
  obtain ⟨m, hm⟩ := hL.mx
  have h := Any.strings_Split Tryz.splitL (by kernel_rfl) s ⟨#[32]⟩ m w (by omega) hm (Nat.le_refl 1)
  refine (show Calls Tryz.prog 130 #[.string s, .string ⟨#[32]⟩] w _ from h).mono ?_
  rintro e w' ⟨rfl, rfl⟩
  have hcut := splitB_cut 32 s
  have hlen := countB_cut 32 s
  rw [hcut, hlen]
  have hle : (cutL 32 s.data.toList).length ≤ s.size + 1 := by
    rw [← hlen]
    have := Lib.countB_le ⟨#[32]⟩ (Nat.le_refl 1) s.size s (Nat.le_refl _)
    omega
  refine ⟨_, rfl, ⟨_, _, rfl, by unfold maxLen; omega, Nat.le_refl _, fun i hi => ⟨w.heap.size, 0, rfl, ?_⟩⟩, (Below.refl _ _).alloc (Nat.le_refl _) _⟩
  rw [World.cell?_alloc_new]
  simp [hi]

set_option maxHeartbeats 1000000 in
set_option maxRecDepth 100000 in
theorem look_any {E : Nat → Addr} (s : ByteArray) (w : World) (hL : LaidS E w) (hs : s.size ≤ 1000000) :
    Calls Tryz.prog 100 #[.string s] w fun e w' => ∃ v, e = .returned (.tuple #[.string (bs (lookOf s.data.toList).1), v, .int .i64 (lookOf s.data.toList).2.2.1, errV E (lookOf s.data.toList).2.2.2]) ∧ TextsAt w' v (lookOf s.data.toList).2.1 ∧ Below w.heap.size w w' := by
  have hlen : s.data.toList.length = s.size := Array.length_toList
  by_cases h4 : 4000 < s.size
  · have hr := Lib.hid (show lookOf s.data.toList = ([], [], 0, 2) by unfold lookOf; rw [if_pos (by omega)])
    have he := hL.laid.e2
    clear hlen
    go_enter Tryz.func100, Tryz.ntmps100
    go_wp2_with fail
    go_quiet (fail)
    go_wp2_with fail
    exact bodyPost_ret (v := .tuple #[.string ⟨#[]⟩, .slice none 0 0, .int .i64 0, errV E 2]) (by simp [results, Tryz.results100, go_sem]) rfl ⟨.slice none 0 0, by rw [hr.out]; rfl, by rw [hr.out]; exact textsAt_nil _, below_drawn (Below.refl _ _) _⟩
  have hlast : Lib.lastIndexByte s 32 = _ := rfl
  have hspec := lastIndex_cut 32 s
  cases hc : lastCut 32 s.data.toList with
  | none =>
    rw [hc] at hspec
    have hli := Lib.hid (show Calls Tryz.prog 129 #[.string s, .int .u8 32] w _ from Any.strings_LastIndexByte Tryz.lastL s 32 (by omega) w)
    have hspec : Lib.lastIndexByte s 32 = -1 := hspec
    rw [hspec] at hli
    have hr := Lib.hid (show lookOf s.data.toList = ([], [], 0, 1) by unfold lookOf; rw [if_neg (by omega), hc])
    have he := hL.laid.e1
    clear hlen hlast hspec hc
    go_enter Tryz.func100, Tryz.ntmps100
    go_wp2_with fail
    refine hli.out.mono ?_
    rintro e w1 ⟨rfl, hw⟩
    subst hw
    go_wp2_with fail
    go_quiet (fail)
    go_wp2_with fail
    exact bodyPost_ret (v := .tuple #[.string ⟨#[]⟩, .slice none 0 0, .int .i64 0, errV E 1]) (by simp [results, Tryz.results100, go_sem]) rfl ⟨.slice none 0 0, by rw [hr.out]; rfl, by rw [hr.out]; exact textsAt_nil _, below_drawn (Below.refl _ _) _⟩
  | some x =>
    obtain ⟨h, t⟩ := x
    obtain ⟨e1, e2⟩ := lastCut_some 32 _ h t hc
    rw [hc] at hspec
    have hli := Lib.hid (show Calls Tryz.prog 129 #[.string s, .int .u8 32] w _ from Any.strings_LastIndexByte Tryz.lastL s 32 (by omega) w)
    have hspec : Lib.lastIndexByte s 32 = (h.length : Int) := hspec
    rw [hspec] at hli
    have hsz : s.size = h.length + 1 + t.length := by rw [← hlen, e1]; simp; omega
    have hex1 := Lib.hid (show s.extract 0 h.length = bs h by
      apply ByteArray.ext
      apply Array.toList_inj.1
      rw [Lib.extract_data, e1, bs_list]
      simp)
    have hex2 := Lib.hid (show s.extract (h.length + 1) s.size = bs t by
      apply ByteArray.ext
      apply Array.toList_inj.1
      rw [Lib.extract_to_end, e1, bs_list]
      simp [List.drop_append])
    have hlk := Lib.hid (show lookOf s.data.toList = if (number t 1000000006).2 = false then ([], [], 0, 1) else if 10 < (cutL 32 h).length then ([], [], 0, 1) else if badIdx (cutL 32 h) = -1 then (h, cutL 32 h, (number t 1000000006).1, 0) else ([], [], 0, 1) by
      unfold lookOf
      rw [if_neg (by omega), hc])
    have hsp := Lib.hid (split_any (bs h) w hL (by rw [bs_size]; omega))
    have hnu := Lib.hid (fun wx (hx : Below w.heap.size w wx) => number_any (bs t) 1000000006 wx (hL.below hx) (by rw [bs_size]; omega))
    have hht : h.length ≤ 4000 := by omega
    have h4 : decide ((4000 : Int) < (s.size : Int)) = false := decide_eq_false (by omega)
    have hlt : (h.length : Int) < (s.size : Int) := by omega
    clear hlast hspec hc e1 e2 hlen hsz
    go_enter Tryz.func100, Tryz.ntmps100
    go_wp2_with fail
    refine hli.out.mono ?_
    rintro e w1 ⟨rfl, hw⟩
    subst hw
    go_wp2_with fail
    rw [hex1.out]
    refine hsp.out.mono ?_
    rintro e w2 ⟨v, rfl, hv, hb2⟩
    have hv' := Lib.hid hv
    obtain ⟨a, c, rfl, hvl, _, _⟩ := hv
    rw [bs_list] at *
    have hcl := cutL_length 32 h
    unfold maxLen at hvl
    have hb2' := Lib.hid hb2
    go_wp2_with fail
    rw [hex2.out]
    refine (hnu.out _ hb2'.out).mono ?_
    rintro e w3 ⟨rfl, hb3⟩
    have hb23 := Lib.hid hb3
    have hb3 := Lib.hid (below_trans hb2'.out hb3)
    unfold numRes
    have hnb := number_bd t 1000000006
    cases hn2 : (number t 1000000006).2 with
    | false =>
      have hr := Lib.hid (show lookOf s.data.toList = ([], [], 0, 1) by rw [hlk.out, if_pos hn2])
      have he := (hL.below hb3.out).laid.e1
      clear hn2
      go_wp2_with fail
      go_quiet (fail)
      go_wp2_with fail
      exact bodyPost_ret (v := .tuple #[.string ⟨#[]⟩, .slice none 0 0, .int .i64 0, errV E 1]) (by simp [results, Tryz.results100, go_sem]) rfl ⟨.slice none 0 0, by rw [hr.out]; rfl, by rw [hr.out]; exact textsAt_nil _, below_drawn hb3.out _⟩
    | true =>
      have hlk := Lib.hid (show lookOf s.data.toList = if 10 < (cutL 32 h).length then ([], [], 0, 1) else if badIdx (cutL 32 h) = -1 then (h, cutL 32 h, (number t 1000000006).1, 0) else ([], [], 0, 1) by rw [hlk.out, if_neg (by rw [hn2]; decide)])
      clear hn2
      by_cases h10 : 10 < (cutL 32 h).length
      · have hr := Lib.hid (show lookOf s.data.toList = ([], [], 0, 1) by rw [hlk.out, if_pos h10])
        have h10' : decide ((10 : Int) < ((cutL 32 h).length : Int)) = true := decide_eq_true (by omega)
        have he := (hL.below hb3.out).laid.e1
        go_wp2_with fail
        go_quiet (fail)
        go_wp2_with fail
        exact bodyPost_ret (v := .tuple #[.string ⟨#[]⟩, .slice none 0 0, .int .i64 0, errV E 1]) (by simp [results, Tryz.results100, go_sem]) rfl ⟨.slice none 0 0, by rw [hr.out]; rfl, by rw [hr.out]; exact textsAt_nil _, below_drawn hb3.out _⟩
      have hlk := Lib.hid (show lookOf s.data.toList = if badIdx (cutL 32 h) = -1 then (h, cutL 32 h, (number t 1000000006).1, 0) else ([], [], 0, 1) by rw [hlk.out, if_neg h10])
      have h10' : decide ((10 : Int) < ((cutL 32 h).length : Int)) = false := decide_eq_false (by omega)
      have hv3 := hv'.out.below hb23.out
      have hco := Lib.hid (contains_any _ (cutL 32 h) 132 w3 hv3 (fun x hx => by have := cutL_len 32 h x hx; unfold maxLen; omega) (look1_bad w3) (enters_of Tryz.func132 (by kernel_rfl) rfl))
      rcases badIdx_cases (cutL 32 h) with ⟨hb, _⟩ | ⟨j, _, hb, _, _⟩
      · have hr := Lib.hid (show lookOf s.data.toList = (h, cutL 32 h, (number t 1000000006).1, 0) by rw [hlk.out, if_pos hb])
        have hd : decide (0 ≤ badIdx (cutL 32 h)) = false := by rw [hb]; rfl
        rw [hd] at hco
        clear hb hd h10
        go_wp2_with fail
        refine hco.out.mono ?_
        rintro e w4 ⟨rfl, hb4⟩
        have hv4 := hv3.below hb4
        have hb4 := Lib.hid (below_trans hb3.out hb4)
        go_wp2_with fail
        refine bodyPost_ret (v := .tuple #[.string (s.extract 0 h.length), .slice a (cutL 32 h).length c, .int .i64 (number t 1000000006).1, .nilIface]) (by simp [results, Tryz.results100, go_sem]) rfl ⟨.slice a (cutL 32 h).length c, ?_, by rw [hr.out]; exact hv4, hb4.out⟩
        rw [hr.out, hex1.out]
        rfl
      · have hr := Lib.hid (show lookOf s.data.toList = ([], [], 0, 1) by rw [hlk.out, if_neg (by rw [hb]; omega)])
        have hd : decide (0 ≤ badIdx (cutL 32 h)) = true := by rw [hb]; exact decide_eq_true (by omega)
        rw [hd] at hco
        clear hb hd h10
        go_wp2_with fail
        refine hco.out.mono ?_
        rintro e w4 ⟨rfl, hb4⟩
        have hb4 := Lib.hid (below_trans hb3.out hb4)
        have he := (hL.below hb4.out).laid.e1
        go_wp2_with fail
        go_quiet (fail)
        go_wp2_with fail
        exact bodyPost_ret (v := .tuple #[.string ⟨#[]⟩, .slice none 0 0, .int .i64 0, errV E 1]) (by simp [results, Tryz.results100, go_sem]) rfl ⟨.slice none 0 0, by rw [hr.out]; rfl, by rw [hr.out]; exact textsAt_nil _, below_drawn hb4.out _⟩
set_option maxHeartbeats 1000000 in
set_option maxRecDepth 100000 in
theorem open_any {E : Nat → Addr} (k : Int) (s : ByteArray) (w : World) (hL : LaidS E w) (hs : s.size ≤ 1000000) :
    Calls Tryz.prog 61 #[.int .i64 k, .string s] w fun e w' => ∃ v, e = .returned (.tuple #[v, errV E (openOf k s.data.toList).2]) ∧ TextsAt w' v (openOf k s.data.toList).1 ∧ Below w.heap.size w w' := by
  by_cases hk : isKey k = true
  case neg =>
    have hk : isKey k = false := by simpa using hk
    have hr := Lib.hid (show openOf k s.data.toList = ([], 10) by unfold openOf; rw [if_pos hk])
    have he := hL.laid.e10
    go_enter Tryz.func61, Tryz.ntmps61
    go_wp2_with (go_at_call 55; refine (key_any _ _).mono ?_; rintro e w' ⟨rfl, rfl⟩)
    go_quiet (fail)
    go_wp2_with fail
    go_ret2
    exact ⟨.slice none 0 0, by rw [hr.out]; rfl, by rw [hr.out]; exact textsAt_nil _, below_drawn (Below.refl _ _) _⟩
  have hl := Lib.hid (look_any s w hL hs)
  have ho := Lib.hid (show openOf k s.data.toList = if (lookOf s.data.toList).2.2.2 = 0 then (if rightOf k (lookOf s.data.toList).1 (lookOf s.data.toList).2.2.1 = 0 then ((lookOf s.data.toList).2.1, 0) else ([], rightOf k (lookOf s.data.toList).1 (lookOf s.data.toList).2.2.1)) else ([], (lookOf s.data.toList).2.2.2) by unfold openOf; rw [if_neg (by rw [hk]; decide)])
  have hlen : (lookOf s.data.toList).1.length ≤ maxLen := by
    have := lookOf_len s.data.toList
    have hl : s.data.toList.length = s.size := Array.length_toList
    unfold maxLen
    omega
  generalize lookOf s.data.toList = q at *
  obtain ⟨hd, W, n, c⟩ := q
  dsimp only at *
  cases c with
  | succ c =>
    have hr := Lib.hid (show openOf k s.data.toList = ([], c + 1) by rw [ho.out, if_neg (by omega)])
    clear hlen
    rw [errV_succ] at hl
    go_enter Tryz.func61, Tryz.ntmps61
    go_wp2_with (go_at_call 55; refine (key_any _ _).mono ?_; rintro e w' ⟨rfl, rfl⟩)
    refine hl.out.mono ?_
    rintro e w1 ⟨v, rfl, hv, hb⟩
    go_wp2_with fail
    go_ret2
    exact ⟨.slice none 0 0, by rw [hr.out]; rfl, by rw [hr.out]; exact textsAt_nil _, hb⟩
  | zero =>
    have ho2 := Lib.hid (show openOf k s.data.toList = if rightOf k hd n = 0 then (W, 0) else ([], rightOf k hd n) by rw [ho.out]; rfl)
    clear ho
    have hri := Lib.hid (fun wx (hx : Below w.heap.size w wx) => right_any k n (bs hd) wx (hL.below hx).laid (by rw [bs_size]; exact hlen))
    rw [errV_zero] at hl
    clear hlen
    go_enter Tryz.func61, Tryz.ntmps61
    go_wp2_with (go_at_call 55; refine (key_any _ _).mono ?_; rintro e w' ⟨rfl, rfl⟩)
    refine hl.out.mono ?_
    rintro e w1 ⟨v, rfl, hv, hb⟩
    have hv := Lib.hid hv
    have hb := Lib.hid hb
    go_wp2_with fail
    refine (hri.out _ hb.out).mono ?_
    rintro e w2 ⟨rfl, hb2⟩
    have hv2 := Lib.hid (hv.out.below hb2)
    have hb2 := Lib.hid (below_trans hb.out hb2)
    rw [bs_list]
    cases hq : rightOf k hd n with
    | zero =>
      have hr := Lib.hid (show openOf k s.data.toList = (W, 0) by rw [ho2.out, if_pos hq])
      clear hq
      rw [errV_zero]
      go_wp2_with fail
      go_ret2
      exact ⟨v, by rw [hr.out]; rfl, by rw [hr.out]; exact hv2.out, hb2.out⟩
    | succ c =>
      have hr := Lib.hid (show openOf k s.data.toList = ([], c + 1) by rw [ho2.out, hq, if_neg (Nat.succ_ne_zero c)])
      clear hq
      rw [errV_succ]
      go_wp2_with fail
      go_ret2
      exact ⟨.slice none 0 0, by rw [hr.out]; rfl, by rw [hr.out]; exact textsAt_nil _, hb2.out⟩
end Go.Proofs.YtfbndfkahodheaaGreatDoor
