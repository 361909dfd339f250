/- FedF, LibS, Word, Number, Funcs -/
import Derived.Test.YtpkcndohjmpdeaaGreatDoorMg10
import Derived.Test.YtpkcndohjmpdeaaGreatDoorMg11
import Derived.Test.YtpkcndohjmpdeaaGreatDoorMg14
import Derived.Test.YtpkcndohjmpdeaaGreatDoorMg7
import Derived.Test.YtpkcndohjmpdeaaGreatDoorMg2
import Derived.Test.YtpkcndohjmpdeaaGreatDoorMg1
import Derived.Lib.SmallJoins
import Derived.Deep.LoopGhost
import Derived.Test.YtpkcndohjmpdeaaGreatDoorMg4
/- feed.Floors: walked. -/
namespace Go.Proofs.YtpkcndohjmpdeaaGreatDoor
open Go.RowKit

theorem floorsE_check {L : List Ent} (h : (checkE L).1 ≠ 0) : floorsE L = ([], (checkE L).1, (checkE L).2) := by unfold floorsE; rw [if_neg h]
theorem foldR_at (L : List Ent) (j : Nat) (hj : j < L.length) (h : (foldR [] (L.take j)).2 = 0) : foldR [] (L.take (j + 1)) = foldR (foldR [] (L.take j)).1 [L[j]] := by
  rw [List.take_succ_eq_append_getElem hj, foldR_append, if_pos h]
theorem foldR_stop (L : List Ent) (j : Nat) (h : (foldR [] (L.take j)).2 ≠ 0) : foldR [] L = foldR [] (L.take j) := by
  have := foldR_append (L.take j) (L.drop j) []
  rw [List.take_append_drop, if_neg h] at this
  exact this
theorem who_len {f : Flo} (h : oneF f = 0) : f.who.length ≤ maxLen := by
  rcases (oneF_zero h).1 with h1 | h1
  · rw [h1]; decide
  · have := ((isName_iff _).1 h1).2.1
    unfold maxLen
    omega
set_option maxHeartbeats 4000000 in
set_option maxRecDepth 100000 in
theorem floors_ent {E : Nat → Addr} (v : Value) (L : List Ent) (w : World) (hL : Laid E w) (hv : EntsAt w v L) (hm : ∀ e ∈ L, e.f.who.length ≤ maxLen) :
    Calls Tryz.prog 24 #[v] w fun e w' => RaiseRes E w.heap.size w' (floorsE L) e ∧ Below w.heap.size w w' := by
  have hck := Lib.hid (check_ent (E := E) v L w hL hv hm)
  have hlen := AtG.len hv
  unfold maxLen at hlen
  have hga := Lib.hid (fun wx (hx : Below w.heap.size w wx) => EntsAt.get (AtG.below hv hx))
  obtain ⟨a0, c0, hv0⟩ := AtG.sl hv
  have hra := Lib.hid (fun (vx : Value) (F : List Flo) (f : Flo) (wx : World) (hx : Below w.heap.size w wx) (hvx : FloorsAt wx vx F) (hF : GoodF F) (hf : f.who.length ≤ maxLen) => raise_flo (E := E) vx F f wx (hL.below hx) hvx (fun g hg => who_len (hF.g.one g hg)) hf)
  have hmH := Lib.hid hm
  clear hv hm hL
  subst hv0
  by_cases hc0 : (checkE L).1 = 0
  case neg =>
    have hr := Lib.hid (floorsE_check hc0)
    have hc0H := Lib.hid hc0
    clear hc0 hra hga
    go_enter Tryz.func24, Tryz.ntmps24
    go_wp2_with fail
    refine hck.out.mono ?_
    rintro e w1 ⟨ev, rfl, he, hb1⟩
    obtain ⟨T, x, rfl⟩ := he.iface hc0H.out
    have he := Lib.hid he
    have hb1 := Lib.hid hb1
    go_wp2_with fail
    go_ret2
    exact ⟨RaiseRes.mk hr.out (FlRow.nil _ _) he.out, hb1.out⟩
  have hc0H := Lib.hid hc0
  have hfE := Lib.hid (show floorsE L = ((foldR [] L).1, (foldR [] L).2, -1) by unfold floorsE; rw [if_pos hc0])
  clear hc0
  go_enter Tryz.func24, Tryz.ntmps24
  go_wp2_with fail
  refine hck.out.mono ?_
  rintro e w1 ⟨ev, rfl, he, hb1⟩
  obtain ⟨rfl, _⟩ := he.zero hc0H.out
  have hb1H := Lib.hid hb1
  clear he hb1 hck
  go_wp2_with fail
  go_loopg [5, 17] (L.length + 1) (fun g v5 i wr => ∃ (F : List Flo) (j : Nat), i = .int .i64 j ∧ j ≤ L.length ∧ L.length - j + 1 ≤ g ∧ Hid (FlRow wr w.heap.size v5 F ∧ foldR [] (L.take j) = (F, 0) ∧ GoodF F) ∧ Hid (Below w.heap.size w wr))
  case atStart => exact ⟨[], 0, rfl, Nat.zero_le _, by omega, Lib.hid ⟨FlRow.nil _ _, rfl, goodF_nil⟩, hb1H⟩
  case round =>
    obtain ⟨F, j, rfl, hj, hgj, hF, hK⟩ := hrel
    obtain ⟨a5, c5, hv5⟩ := hF.out.1.sl
    subst hv5
    by_cases hlt : j < L.length
    · have hk0 : (0 : Int) ≤ (j : Int) := by omega
      have hk1 : (j : Int) < (L.length : Int) := by omega
      obtain ⟨_, _, he, _, _, hc⟩ := hga.out _ hK.out
      cases he
      obtain ⟨b, o, rfl, d0, d1, d2, d3⟩ := hc j hlt
      clear hc
      have hstep := foldR_at L j hlt (by rw [hF.out.2.1])
      rw [hF.out.2.1] at hstep
      have hstop := Lib.hid (fun h => foldR_stop L (j + 1) h)
      have hwho := hmH.out _ (List.getElem_mem hlt)
      generalize L[j] = ej at *
      obtain ⟨es, et, ⟨fw, fe⟩⟩ := ej
      dsimp only at d0 d1 d2 d3 hwho
      have hstep := Lib.hid hstep
      have hsz := Lib.hid hK.out.size
      have hr := Lib.hid (fun wx (hx : Below wr.heap.size wr wx) => hra.out _ F ⟨fw, fe⟩ wx (below_trans hK.out hx) (floorsAt_of (RowG.at_ (floRow_G.1 (hF.out.1.below hx)))) hF.out.2.2 hwho)
      have hA := Lib.hid (fun o : Obj => (Below.refl wr.heap.size wr).alloc (Nat.le_refl _) o)
      clear hwho
      go_wp2_with fail
      refine (hr.out _ (hA.out _)).mono ?_
      rintro e w2 ⟨⟨v6, ev6, rfl, hrow6, he6⟩, hb2⟩
      have hfz := Lib.hid hrow6
      by_cases hz : (raiseF F ⟨fw, fe⟩).2.1 = 0
      · obtain ⟨rfl, _⟩ := he6.zero hz
        have hF2 : foldR [] (L.take (j + 1)) = ((raiseF F ⟨fw, fe⟩).1, 0) := by
          rw [hstep.out]
          unfold foldR
          rw [if_pos hz]
          rfl
        have hG2 : GoodF (raiseF F ⟨fw, fe⟩).1 := by
          obtain ⟨_, _, h1, h2⟩ := raiseF_zero hz
          rw [h2]
          exact h1
        have hrow6 := hrow6.mono (base' := w.heap.size) (by rw [World.size_alloc]; have := hsz.out; omega)
        have hF3 := Lib.hid (show FlRow w2 w.heap.size v6 (raiseF F ⟨fw, fe⟩).1 ∧ foldR [] (L.take (j + 1)) = ((raiseF F ⟨fw, fe⟩).1, 0) ∧ GoodF (raiseF F ⟨fw, fe⟩).1 from ⟨hrow6, hF2, hG2⟩)
        have hb2 := Lib.hid (below_trans hK.out (below_trans (hA.out _) hb2))
        clear hF2 hG2 hrow6 he6 hz hfz
        go_wp2_with fail
        go_roundg (L.length - j)
        case measure => omega
        case rel => exact ⟨_, j + 1, by simp, hlt, by omega, hF3, hb2⟩
      · have hz2 : (foldR [] (L.take (j + 1))).2 = (raiseF F ⟨fw, fe⟩).2.1 ∧ (foldR [] (L.take (j + 1))).1 = [] := by
          rw [hstep.out]
          unfold foldR
          rw [if_neg hz]
          exact ⟨rfl, rfl⟩
        have hfe : floorsE L = ([], (raiseF F ⟨fw, fe⟩).2.1, -1) := by
          rw [hfE.out, hstop.out (by rw [hz2.1]; exact hz), hz2.1, hz2.2]
        have hfe := Lib.hid hfe
        obtain ⟨T6, x6, rfl⟩ := he6.iface hz
        have hba := Lib.hid (bare_err _ _ _ w2 he6)
        have hb2 := Lib.hid (below_trans hK.out (below_trans (hA.out _) hb2))
        clear hz2 hrow6 he6 hz hfz
        go_wp2_with fail
        refine hba.out.mono ?_
        rintro e w3 ⟨rfl, rfl⟩
        go_wp2_with fail
        go_ret2
        exact ⟨RaiseRes.mk hfe.out (FlRow.nil _ _) (ErrAt.bare _), hb2.out⟩
    · have hge : ¬ ((j : Int) < (L.length : Int)) := by omega
      have hfe := Lib.hid (show floorsE L = (F, 0, -1) by
        have h1 := hF.out.2.1
        rw [List.take_of_length_le (by omega)] at h1
        rw [hfE.out, h1])
      have hrow := Lib.hid hF.out.1
      go_wp2_with fail
      go_ret2
      exact ⟨RaiseRes.mk hfe.out hrow.out (ErrAt.bare 0), hK.out⟩
end Go.Proofs.YtpkcndohjmpdeaaGreatDoor

/- What the library's variables hold; strconv.Atoi, strconv.Itoa by contracts. -/
namespace Go.Proofs.YtpkcndohjmpdeaaGreatDoor
open Go.RowKit Go.Sort

/-- The sentinels, and the library's variables. -/
structure LaidS (E : Nat → Addr) (w : World) : Prop where
  laid : Laid E w
  pow : Lib.TabIs Tryz.prog w "internal/strconv.uint64pow10" .u64 Lib.pow10Tab
  syn : ∃ t p, w.var? Tryz.prog "strconv.ErrSyntax" = some #[.iface t p]
  rng : ∃ t p, w.var? Tryz.prog "strconv.ErrRange" = some #[.iface t p]
  mx : ∃ m, w.cell? ⟨11, 0, none⟩ = some (.int .i64 m)
theorem glob_pow : Tryz.prog.globalNamed "internal/strconv.uint64pow10" = some 12 := by kernel_rfl
theorem glob_syn : Tryz.prog.globalNamed "strconv.ErrSyntax" = some 13 := by kernel_rfl
theorem glob_rng : Tryz.prog.globalNamed "strconv.ErrRange" = some 14 := by kernel_rfl
theorem LaidS.below {E : Nat → Addr} {w w' : World} (h : LaidS E w) (hb : Below w.heap.size w w') : LaidS E w' where
  laid := h.laid.below hb
  pow := Joins.tab_stays glob_pow h.pow hb (Nat.le_refl _)
  syn := let ⟨t, p, e⟩ := h.syn; ⟨t, p, Joins.var_stays glob_syn e hb (Nat.le_refl _)⟩
  rng := let ⟨t, p, e⟩ := h.rng; ⟨t, p, Joins.var_stays glob_rng e hb (Nat.le_refl _)⟩
  mx := let ⟨m, e⟩ := h.mx; ⟨m, cell_below hb e⟩

theorem below_grow (w : World) (k : Nat) (os : Array Obj) : Below w.heap.size w (grow (w.drewN k) os) :=
  ⟨rfl, rfl, rfl, by simp [grow], fun i hi => by
    show (w.heap ++ os)[i]? = w.heap[i]?
    rw [Array.getElem?_append_left hi]⟩
set_option maxRecDepth 100000 in
theorem itoa_any {E : Nat → Addr} (n : Int) (h0 : -9223372036854775808 ≤ n) (h1 : n ≤ 9223372036854775807) (w : World) (hL : LaidS E w) :
    Calls Tryz.prog 37 #[.int .i64 n] w fun e w' => e = .returned (.string (bs (Lib.itoa n))) ∧ Below w.heap.size w w' :=
  (show Calls Tryz.prog 37 #[.int .i64 n] w _ from Any.strconv_Itoa Tryz.itoaL n h0 h1 w hL.pow).mono fun e w' ⟨he, k, os, hw⟩ => ⟨he, by rw [hw]; exact below_grow w k os⟩
set_option maxRecDepth 100000 in
theorem atoi_ok (s : ByteArray) (hs : s.size ≤ 140737488355328) (v : Int) (h : Lib.atoiAll s.data.toList = .ok v) (w : World) :
    Calls Tryz.prog 83 #[.string s] w fun e w' => e = .returned (.tuple #[.int .i64 v, .nilIface]) ∧ Below w.heap.size w w' :=
  (show Calls Tryz.prog 83 #[.string s] w _ from Any.strconv_Atoi_ok Tryz.atoiL s (by omega) v h w).mono fun e w' ⟨he, hw⟩ => ⟨he, by
    rcases hw with rfl | ⟨t, rfl⟩
    · exact Below.refl _ _
    · exact Joins.below_bytesWorld _ _ _ _ (Nat.le_refl _)⟩
set_option maxRecDepth 100000 in
theorem atoi_bad {E : Nat → Addr} (s : ByteArray) (hs : s.size ≤ 140737488355328) (h : ∀ v, Lib.atoiAll s.data.toList ≠ .ok v) (w : World) (hL : LaidS E w) :
    Calls Tryz.prog 83 #[.string s] w fun e w' => ∃ n T N, e = .returned (.tuple #[.int .i64 n, .iface T (.pointer (some ⟨N, 0, none⟩))]) ∧ Below w.heap.size w w' := by
  rcases hc : Lib.atoiAll s.data.toList with v | _ | _
  · exact absurd hc (h v)
  · obtain ⟨t, p, hv⟩ := hL.syn
    exact (show Calls Tryz.prog 83 #[.string s] w _ from Any.strconv_Atoi_syntax_var Tryz.atoiL s (by omega) hc t p w hv).mono fun e w' ⟨N, he, _, _, hb⟩ => ⟨_, _, N, he, hb⟩
  · obtain ⟨t, p, hv⟩ := hL.rng
    exact (show Calls Tryz.prog 83 #[.string s] w _ from Any.strconv_Atoi_range_var Tryz.atoiL s (by omega) hc t p w hv).mono fun e w' ⟨N, he, _, _, hb⟩ => ⟨_, _, N, he, hb⟩

theorem atoiAll_ge {l : List UInt8} {v : Int} (h : Lib.atoiAll l = .ok v) : -9223372036854775808 ≤ v ∧ v ≤ 9223372036854775807 := by
  unfold Lib.atoiAll at h
  cases l with
  | nil => cases h
  | cons c r =>
    dsimp only at h
    rcases hm : Lib.parseMag (if c.toNat = 43 ∨ c.toNat = 45 then r else c :: r) with u | _ | _
    · rw [hm] at h
      dsimp only at h
      by_cases hn : c.toNat = 45
      · simp only [hn, not_true_eq_false, false_and, if_false, true_and, if_true] at h
        split at h
        · cases h
        · cases h; omega
      · simp only [hn, not_false_eq_true, true_and, false_and, if_false] at h
        split at h
        · cases h
        · cases h; omega
    · rw [hm] at h; cases h
    · rw [hm] at h; cases h
end Go.Proofs.YtpkcndohjmpdeaaGreatDoor

/- seal.Word, by its contract. -/
namespace Go.Proofs.YtpkcndohjmpdeaaGreatDoor
open Go.RowKit

set_option maxRecDepth 100000 in
theorem trim_word (s : ByteArray) (w : World) (hs : s.size ≤ maxLen) :
    Calls Tryz.prog 75 #[.string s, .string (bs wordCs)] w fun e w' => e = .returned (.string (bs (Lib.trimS s.data.toList wordCs))) ∧ Below w.heap.size w w' :=
  Any.strings_Trim_laid Tryz.trim160 (by kernel_rfl) s (bs wordCs) w hs (by decide) (ascii_of_all (by decide))
set_option maxRecDepth 100000 in
theorem word_any (s : ByteArray) (w : World) (hs : s.size ≤ maxLen) :
    Calls Tryz.prog 53 #[.string s] w fun e w' => e = .returned (.bool (isWord s.data.toList)) ∧ Below w.heap.size w w' := by
  have ht := trim_word s w hs
  have hlen : s.data.toList.length = s.size := Array.length_toList
  have htl : s.toList = s.data.toList := toList_data s
  unfold maxLen at hs
  by_cases h0 : s.data.toList = []
  · have hr := Lib.hid (show isWord s.data.toList = false by rw [h0]; rfl)
    have hte : s.toList = [] := by rw [htl, h0]
    clear ht hlen htl h0
    go_enter Tryz.func53, Tryz.ntmps53
    go_wp2_with fail
    go_ret
    exact ⟨ret_bool hr.out.symm, Below.refl _ _⟩
  · have hte : s.toList.isEmpty = false := by rw [htl]; simpa using h0
    have h1 : 1 ≤ s.size := by
      rcases Nat.eq_zero_or_pos s.size with h | h
      · exact absurd (List.eq_nil_of_length_eq_zero (hlen.trans h)) h0
      · exact h
    by_cases h8 : s.size ≤ 20
    · have ht := Lib.hid ht
      by_cases hall : Lib.trimS s.data.toList wordCs = []
      · have hr := Lib.hid (show isWord s.data.toList = true from (isWord_iff _).2 ⟨by omega, by omega, fun c hc => by rw [← wordCs_contains]; exact (trimS_nil_iff _ _).1 hall c hc⟩)
        clear hlen htl h0
        have he : (bs []).toList = [] := by rw [toList_data]; rfl
        go_enter Tryz.func53, Tryz.ntmps53
        go_wp2_with fail
        refine ht.out.mono ?_
        rintro e w1 ⟨rfl, hb⟩
        rw [hall]
        clear hall
        go_wp2_with fail
        go_ret
        exact ⟨ret_bool hr.out.symm, hb⟩
      · have hr := Lib.hid (show isWord s.data.toList = false by
          cases hn : isWord s.data.toList with
          | false => rfl
          | true =>
            obtain ⟨_, _, h⟩ := (isWord_iff _).1 hn
            exact absurd ((trimS_nil_iff _ _).2 (fun c hc => by rw [wordCs_contains]; exact h c hc)) hall)
        clear hlen htl h0
        have he : (bs (Lib.trimS s.data.toList wordCs)).toList.isEmpty = false := by rw [toList_data, bs_list]; simpa using hall
        generalize bs (Lib.trimS s.data.toList wordCs) = t at *
        clear hall
        go_enter Tryz.func53, Tryz.ntmps53
        go_wp2_with fail
        refine ht.out.mono ?_
        rintro e w1 ⟨rfl, hb⟩
        go_wp2_with fail
        go_ret
        exact ⟨ret_bool hr.out.symm, hb⟩
    · have hr := Lib.hid (show isWord s.data.toList = false by
        cases hn : isWord s.data.toList with
        | false => rfl
        | true => obtain ⟨_, h, _⟩ := (isWord_iff _).1 hn; omega)
      clear ht hlen htl h0
      go_enter Tryz.func53, Tryz.ntmps53
      go_wp2_with fail
      go_ret
      exact ⟨ret_bool hr.out.symm, Below.refl _ _⟩
end Go.Proofs.YtpkcndohjmpdeaaGreatDoor

/- seal.Number by its contract. -/
namespace Go.Proofs.YtpkcndohjmpdeaaGreatDoor
open Go.RowKit Go.Sort

theorem number_none {l : List UInt8} {most : Int} (h : numOf l = none) : number l most = (0, false) := by unfold number; rw [h]
/-- seal.Number of what the law's texts hold. -/
def numRes (l : List UInt8) (most : Int) : Value := .tuple #[.int .i64 (number l most).1, .bool (number l most).2]
set_option maxRecDepth 100000 in
theorem number_any {E : Nat → Addr} (s : ByteArray) (most : Int) (w : World) (hL : LaidS E w) (hs : s.size ≤ 1000000) :
    Calls Tryz.prog 59 #[.string s, .int .i64 most] w fun e w' => e = .returned (numRes s.data.toList most) ∧ Below w.heap.size w w' := by
  have hlen : s.data.toList.length = s.size := Array.length_toList
  rcases hc : Lib.atoiAll s.data.toList with v | _ | _
  · have hat := Lib.hid (atoi_ok s (by omega) v hc w)
    have hvb := atoiAll_ge hc
    obtain ⟨hvb1, hvb2⟩ := hvb
    have hsome : ∀ n, numOf s.data.toList = some n → v = n ∧ s.size ≤ 10 ∧ Lib.itoa v = s.data.toList := fun n hn => by
      obtain ⟨h1, h2, h3, h4⟩ := numOf_some hn
      have := (atoi_good h1 h2).symm.trans hc
      injection this with h5
      rw [h3] at h5
      exact ⟨h5.symm, by omega, by rw [← h5]; exact h4⟩
    by_cases h10 : s.size ≤ 10
    case neg =>
      have hr := Lib.hid (show numRes s.data.toList most = .tuple #[.int .i64 0, .bool false] by
        unfold numRes
        rw [number_none]
        cases hn : numOf s.data.toList with
        | none => rfl
        | some n => exact absurd (hsome n hn).2.1 h10)
      clear hsome hc hlen
      go_enter Tryz.func59, Tryz.ntmps59
      go_wp2_with fail
      refine hat.out.mono ?_
      rintro e w1 ⟨rfl, hb⟩
      go_wp2_with fail
      go_ret2
      exact ⟨by rw [hr.out]; rfl, hb⟩
    by_cases hv0 : v < 0
    · have hr := Lib.hid (show numRes s.data.toList most = .tuple #[.int .i64 0, .bool false] by
        unfold numRes
        rw [number_none]
        cases hn : numOf s.data.toList with
        | none => rfl
        | some n => have := (hsome n hn).1; omega)
      clear hsome hc hlen
      go_enter Tryz.func59, Tryz.ntmps59
      go_wp2_with fail
      refine hat.out.mono ?_
      rintro e w1 ⟨rfl, hb⟩
      go_wp2_with fail
      go_ret2
      exact ⟨by rw [hr.out]; rfl, hb⟩
    by_cases hvm : most < v
    · have hr := Lib.hid (show numRes s.data.toList most = .tuple #[.int .i64 0, .bool false] by
        unfold numRes number
        cases hn : numOf s.data.toList with
        | none => rfl
        | some n =>
          have := (hsome n hn).1
          dsimp only
          rw [if_neg (by omega)])
      clear hsome hc hlen
      go_enter Tryz.func59, Tryz.ntmps59
      go_wp2_with fail
      refine hat.out.mono ?_
      rintro e w1 ⟨rfl, hb⟩
      go_wp2_with fail
      go_ret2
      exact ⟨by rw [hr.out]; rfl, hb⟩
    have hit := Lib.hid (fun wx hx => itoa_any v hvb1 hvb2 wx (hL.below hx))
    by_cases he : Lib.itoa v = s.data.toList
    · have hr := Lib.hid (show numRes s.data.toList most = .tuple #[.int .i64 v, .bool true] by
        obtain ⟨n, rfl⟩ := Int.eq_ofNat_of_zero_le (Int.not_lt.1 hv0)
        unfold numRes number
        rw [← he, numOf_itoa (by rw [he]; omega)]
        dsimp only
        rw [if_pos (by omega)])
      have hbe : ((bs (Lib.itoa v)).toList == s.toList) = true := by rw [toList_data, toList_data, bs_list, he]; exact beq_self_eq_true _
      clear he hsome hc hlen
      go_enter Tryz.func59, Tryz.ntmps59
      go_wp2_with fail
      refine hat.out.mono ?_
      rintro e w1 ⟨rfl, hb⟩
      go_wp2_with fail
      refine (hit.out _ hb).mono ?_
      rintro e w2 ⟨rfl, hb2⟩
      have hb2 := below_trans hb hb2
      go_wp2_with fail
      go_ret2
      exact ⟨by rw [hr.out]; rfl, hb2⟩
    · have hr := Lib.hid (show numRes s.data.toList most = .tuple #[.int .i64 0, .bool false] by
        unfold numRes
        rw [number_none]
        cases hn : numOf s.data.toList with
        | none => rfl
        | some n => exact absurd (hsome n hn).2.2 he)
      have hbe : ((bs (Lib.itoa v)).toList == s.toList) = false := by rw [toList_data, toList_data, bs_list, beq_eq_false_iff_ne]; exact he
      clear he hsome hc hlen
      go_enter Tryz.func59, Tryz.ntmps59
      go_wp2_with fail
      refine hat.out.mono ?_
      rintro e w1 ⟨rfl, hb⟩
      go_wp2_with fail
      refine (hit.out _ hb).mono ?_
      rintro e w2 ⟨rfl, hb2⟩
      have hb2 := below_trans hb hb2
      go_wp2_with fail
      go_ret2
      exact ⟨by rw [hr.out]; rfl, hb2⟩
  · have hat := Lib.hid (atoi_bad s (by omega) (fun v h => by rw [hc] at h; cases h) w hL)
    have hr := Lib.hid (show numRes s.data.toList most = .tuple #[.int .i64 0, .bool false] by
      unfold numRes
      rw [number_none]
      cases hn : numOf s.data.toList with
      | none => rfl
      | some n => obtain ⟨h1, h2, _⟩ := numOf_some hn; rw [atoi_good h1 h2] at hc; cases hc)
    clear hc hlen
    go_enter Tryz.func59, Tryz.ntmps59
    go_wp2_with fail
    refine hat.out.mono ?_
    rintro e w1 ⟨n, T, N, rfl, hb⟩
    go_wp2_with fail
    go_ret2
    exact ⟨by rw [hr.out]; rfl, hb⟩
  · have hat := Lib.hid (atoi_bad s (by omega) (fun v h => by rw [hc] at h; cases h) w hL)
    have hr := Lib.hid (show numRes s.data.toList most = .tuple #[.int .i64 0, .bool false] by
      unfold numRes
      rw [number_none]
      cases hn : numOf s.data.toList with
      | none => rfl
      | some n => obtain ⟨h1, h2, _⟩ := numOf_some hn; rw [atoi_good h1 h2] at hc; cases hc)
    clear hc hlen
    go_enter Tryz.func59, Tryz.ntmps59
    go_wp2_with fail
    refine hat.out.mono ?_
    rintro e w1 ⟨n, T, N, rfl, hb⟩
    go_wp2_with fail
    go_ret2
    exact ⟨by rw [hr.out]; rfl, hb⟩
end Go.Proofs.YtpkcndohjmpdeaaGreatDoor

/- slices.IndexFunc and ContainsFunc at texts, where a text that is no word is looked for. -/
namespace Go.Proofs.YtpkcndohjmpdeaaGreatDoor
open Go.RowKit

/-- What a function that asks for a text that is no word does. -/
def IsBad (g : Nat) (B : Nat) (w : World) : Prop := ∀ (W : World) (s : List UInt8), s.length ≤ maxLen → Below B w W → Calls Tryz.prog g #[.string (bs s)] W fun e w' => e = .returned (.bool (badP s)) ∧ Below W.heap.size W w'
set_option maxRecDepth 100000 in
theorem make1_bad (w : World) : IsBad 52 w.heap.size w := by
  intro W s hs _
  have hw := Lib.hid (word_any (bs s) W (by rw [bs_size]; exact hs))
  unfold badP
  cases hc : isWord s with
  | true =>
    have hc2 := Lib.hid (show isWord (bs s).data.toList = true from hc)
    clear hc
    go_enter Tryz.func52, Tryz.ntmps52
    go_wp2_with fail
    refine hw.out.mono ?_
    rintro e w1 ⟨rfl, hb⟩
    rw [hc2.out]
    go_wp2_with fail
    go_ret
    exact ⟨rfl, hb⟩
  | false =>
    have hc2 := Lib.hid (show isWord (bs s).data.toList = false from hc)
    clear hc
    go_enter Tryz.func52, Tryz.ntmps52
    go_wp2_with fail
    refine hw.out.mono ?_
    rintro e w1 ⟨rfl, hb⟩
    rw [hc2.out]
    go_wp2_with fail
    go_ret
    exact ⟨rfl, hb⟩
set_option maxRecDepth 100000 in
theorem look1_bad (w : World) : IsBad 112 w.heap.size w := by
  intro W s hs _
  have hw := Lib.hid (word_any (bs s) W (by rw [bs_size]; exact hs))
  unfold badP
  cases hc : isWord s with
  | true =>
    have hc2 := Lib.hid (show isWord (bs s).data.toList = true from hc)
    clear hc
    go_enter Tryz.func112, Tryz.ntmps112
    go_wp2_with fail
    refine hw.out.mono ?_
    rintro e w1 ⟨rfl, hb⟩
    rw [hc2.out]
    go_wp2_with fail
    go_ret
    exact ⟨rfl, hb⟩
  | false =>
    have hc2 := Lib.hid (show isWord (bs s).data.toList = false from hc)
    clear hc
    go_enter Tryz.func112, Tryz.ntmps112
    go_wp2_with fail
    refine hw.out.mono ?_
    rintro e w1 ⟨rfl, hb⟩
    rw [hc2.out]
    go_wp2_with fail
    go_ret
    exact ⟨rfl, hb⟩

set_option maxHeartbeats 1000000 in
set_option maxRecDepth 100000 in
theorem index_any (v : Value) (W : List (List UInt8)) (g : Nat) (w : World) (hv : TextsAt w v W) (hm : ∀ x ∈ W, x.length ≤ maxLen) (hg : IsBad g w.heap.size w) (eg : ∀ args w, (callFunc g args).run Tryz.prog w = .ok (.enter g args) w) :
    Calls Tryz.prog 51 #[v, .func (.func g) #[] #[]] w fun e w' => e = .returned (.int .i64 (badIdx W)) ∧ Below w.heap.size w w' := by
  obtain ⟨a, c, rfl, hlen, _, hc⟩ := hv
  unfold maxLen at hlen
  have hc := Lib.hid hc
  have hm := Lib.hid hm
  have hg := Lib.hid hg
  go_enter Tryz.func51, Tryz.ntmps51
  go_wp2_with fail
  go_loopg [8] (W.length + 1) (fun g8 i wr => ∃ j : Nat, i = .int .i64 j ∧ j ≤ W.length ∧ W.length - j + 1 ≤ g8 ∧ Hid (∀ i (h : i < W.length), i < j → isWord W[i] = true) ∧ Hid (Below w.heap.size w wr))
  case atStart => exact ⟨0, rfl, Nat.zero_le _, by omega, Lib.hid (fun _ _ h => absurd h (Nat.not_lt_zero _)), Lib.hid (Below.refl _ _)⟩
  case round =>
    obtain ⟨j, rfl, hj, hgj, hall, hK⟩ := hrel
    by_cases hlt : j < W.length
    · obtain ⟨b, o, rfl, hcell⟩ := hc.out j hlt
      have hcell := cell_below hK.out hcell
      have hk0 : (0 : Int) ≤ (j : Int) := by omega
      have hk1 : (j : Int) < (W.length : Int) := by omega
      have hgc := Lib.hid (hg.out wr W[j] (hm.out _ (List.getElem_mem hlt)) hK.out)
      cases hb : badP W[j] with
      | true =>
        rw [hb] at hgc
        have hr := Lib.hid (show badIdx W = (j : Int) from badIdx_of hlt (by unfold badP at hb; simpa using hb) hall.out)
        clear hb
        go_wp2_with fail
        refine hgc.out.mono ?_
        rintro e w1 ⟨rfl, hb1⟩
        have hb1 := Lib.hid (hK.out.trans (hb1.mono hK.out.size))
        go_wp2_with fail
        go_ret
        exact ⟨ret_int hr.out.symm, hb1.out⟩
      | false =>
        rw [hb] at hgc
        have hall2 := Lib.hid (show ∀ i (h : i < W.length), i < j + 1 → isWord W[i] = true from fun i h hi => by
          rcases Nat.lt_succ_iff_lt_or_eq.1 hi with h' | rfl
          · exact hall.out i h h'
          · unfold badP at hb; simpa using hb)
        clear hb
        go_wp2_with fail
        refine hgc.out.mono ?_
        rintro e w1 ⟨rfl, hb1⟩
        have hb1 := Lib.hid (hK.out.trans (hb1.mono hK.out.size))
        go_wp2_with fail
        go_roundg (W.length - j)
        case measure => omega
        case rel => exact ⟨j + 1, by simp, hlt, by omega, hall2, hb1⟩
    · have hr := Lib.hid (show badIdx W = -1 from badIdx_none fun i hi => hall.out i hi (by omega))
      have hge : ¬ ((j : Int) < (W.length : Int)) := by omega
      go_wp2_with fail
      go_ret
      exact ⟨ret_int hr.out.symm, hK.out⟩
set_option maxRecDepth 100000 in
theorem contains_any (v : Value) (W : List (List UInt8)) (g : Nat) (w : World) (hv : TextsAt w v W) (hm : ∀ x ∈ W, x.length ≤ maxLen) (hg : IsBad g w.heap.size w) (eg : ∀ args w, (callFunc g args).run Tryz.prog w = .ok (.enter g args) w) :
    Calls Tryz.prog 111 #[v, .func (.func g) #[] #[]] w fun e w' => e = .returned (.bool (decide (0 ≤ badIdx W))) ∧ Below w.heap.size w w' := by
  have hi := Lib.hid (index_any v W g w hv hm hg eg)
  rcases badIdx_cases W with ⟨h, _⟩ | ⟨j, _, h, _⟩
  · have hr := Lib.hid (show decide (0 ≤ badIdx W) = false by rw [h]; rfl)
    have h := Lib.hid h
    rw [h.out] at hi
    go_enter Tryz.func111, Tryz.ntmps111
    go_wp2_with fail
    refine hi.out.mono ?_
    rintro e w1 ⟨rfl, hb⟩
    go_wp2_with fail
    go_ret
    exact ⟨ret_bool hr.out.symm, hb⟩
  · have hr := Lib.hid (show decide (0 ≤ badIdx W) = true by rw [h]; exact decide_eq_true (by omega))
    rw [h] at hi
    clear h
    have h0 : (0 : Int) ≤ (j : Int) := by omega
    go_enter Tryz.func111, Tryz.ntmps111
    go_wp2_with fail
    refine hi.out.mono ?_
    rintro e w1 ⟨rfl, hb⟩
    go_wp2_with fail
    go_ret
    exact ⟨ret_bool hr.out.symm, hb⟩
end Go.Proofs.YtpkcndohjmpdeaaGreatDoor
