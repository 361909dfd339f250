/- RelL, EndC -/
import Derived.Test.YtpkcndohjmpdeaaGreatDoorMg20
import Derived.Test.YtpkcndohjmpdeaaGreatDoorMg26
import Derived.Test.YtpkcndohjmpdeaaGreatDoorMg27
import Derived.Test.YtpkcndohjmpdeaaGreatDoorMg6
import Derived.HandedShaped
import Derived.Shelf.Vars
import Derived.Lay
/- RelayAll: walked. -/
namespace Go.Proofs.YtpkcndohjmpdeaaGreatDoor
open Go.RowKit

theorem nodeT_rep {n i : Nat} {f : Fol} (h : i < n) : nodeT (List.replicate n f) i = f := by
  unfold nodeT
  rw [getD_get (by simpa using h)]
  simp
theorem up_of {key : Int} {A : List Int} (h : (newTE key A).1 = 0) : ∀ i, 1 ≤ i → i < A.length + 1 → 0 ≤ (-1 :: A : List Int).getD i 0 ∧ (-1 :: A : List Int).getD i 0 < (i : Int) := fun i h1 h2 => by
  obtain ⟨j, rfl⟩ : ∃ j, i = j + 1 := ⟨i - 1, by omega⟩
  have := (newTE_zero h).2.2 j (by omega)
  rw [show (-1 :: A : List Int).getD (j + 1) 0 = A.getD j 0 from by simp]
  omega
theorem treeOk_new {key : Int} (L : List Ent) {A : List Int} (h : (newTE key A).1 = 0) : TreeOk key L (List.replicate (A.length + 1) (newFol key)) (-1 :: A) where
  len := by simp
  pos := by simp
  up := fun i h1 h2 => by
    rw [List.length_replicate] at h2
    have := up_of h i h1 h2
    unfold upT
    omega
  node := fun i hi => by
    rw [List.length_replicate] at hi
    rw [nodeT_rep hi]
    exact newNode key L
  below := fun i h1 h2 => by
    rw [List.length_replicate] at h2
    have := up_of h i h1 h2
    have hu : upT (-1 :: A) i < A.length + 1 := by unfold upT; omega
    rw [nodeT_rep h2, nodeT_rep hu]
    exact ⟨Nat.le_refl _, Int.le_refl _⟩
theorem tok_new (key : Int) (n : Nat) : TOk (List.replicate n (newFol key)) := fun i hi => by
  rw [List.length_replicate] at hi
  rw [nodeT_rep hi]
  exact FOk.new key
/-- All of a tree that is right: in memory, too. -/
structure TrS (key : Int) (L : List Ent) (A : List Int) (base b : Nat) (ps : List Nat) (T : List Fol) (wx : World) : Prop where
  ok : TreeOk key L T A
  at_ : TreeAt wx base b ps T A
  tok : TOk T
theorem TrS.below {key : Int} {L : List Ent} {A : List Int} {base b : Nat} {ps : List Nat} {T : List Fol} {wx wy : World} (h : TrS key L A base b ps T wx) (hb : Below wx.heap.size wx wy) : TrS key L A base b ps T wy := ⟨h.ok, h.at_.below hb, h.tok⟩
theorem TrS.len {key : Int} {L : List Ent} {A : List Int} {base b : Nat} {ps : List Nat} {T : List Fol} {wx : World} (h : TrS key L A base b ps T wx) : T.length = A.length := h.ok.len.symm
theorem seven_cells {w : World} {n : Nat} {v0 v1 v2 v3 v4 v5 v6 : Value} {T : TypeId} (h : w.heap[n]? = some (.cells #[v0, v1, v2, v3, v4, v5, v6] T (0, 0))) : w.cell? ⟨n, 0, none⟩ = some v0 ∧ w.cell? ⟨n, 1, none⟩ = some v1 ∧ w.cell? ⟨n, 2, none⟩ = some v2 ∧ w.cell? ⟨n, 3, none⟩ = some v3 ∧ w.cell? ⟨n, 4, none⟩ = some v4 ∧ w.cell? ⟨n, 5, none⟩ = some v5 ∧ w.cell? ⟨n, 6, none⟩ = some v6 := by
  refine ⟨?_, ?_, ?_, ?_, ?_, ?_, ?_⟩
  all_goals (rw [cell_of_row _ _ _ _ _ _ h]; rfl)
set_option maxHeartbeats 32000000 in
set_option maxRecDepth 100000 in
theorem relayAll_any {E : Nat → Addr} (key : Int) (va : Value) (A : List Int) (v : Value) (L : List Ent) (vm : Value) (M : List Move) (w : World) (hL : LaidS E w) (hA : AtG numC w va A) (hv : EntsAt w v L) (hm : ∀ e ∈ L, e.f.who.length ≤ maxLen) (hM : AtG moveC w vm M) (hmm : ∀ n ∈ M, n.kind.length ≤ maxLen ∧ n.w.text.length ≤ maxLen) :
    Calls Tryz.prog 5 #[.int .i64 key, va, v, vm] w fun e w' => e = .returned (.bool true) ∧ Below w.heap.size w w' := by
  have hfo := Lib.hid (relayed_any (E := E) w hL)
  have hEv := Lib.hid (fun wx (hx : Below w.heap.size w wx) => (show EntsAt wx v L from AtG.below hv hx))
  have hAv := Lib.hid (fun wx (hx : Below w.heap.size w wx) => (show AtG numC wx va A from AtG.below hA hx))
  have hMv := Lib.hid (fun wx (hx : Below w.heap.size w wx) => (show AtG moveC wx vm M from AtG.below hM hx))
  have hlg := Lib.hid (fun wx (hx : Below w.heap.size w wx) => long_ent v L wx (hEv.out wx hx) hm)
  have hln := Lib.hid (fun wx (hx : Below w.heap.size w wx) => longM_any vm M wx (hMv.out wx hx) hmm)
  have hck := Lib.hid (fun wx (hx : Below w.heap.size w wx) => check_ent (E := E) v L wx (hL.below hx).laid (hEv.out wx hx) hm)
  have hnt := Lib.hid (fun wx (hx : Below w.heap.size w wx) (hl : A.length ≤ 1000) => newT_any (E := E) key va A wx (hL.below hx) (hAv.out wx hx) hl)
  have hmH := Lib.hid hm
  have hmmH := Lib.hid hmm
  obtain ⟨a0, c0, hv0⟩ := AtG.sl hv
  obtain ⟨aa, ca, ha0⟩ := AtG.sl hA
  obtain ⟨an, cn, hn0⟩ := AtG.sl hM
  have hml := AtG.len hv
  have hal := AtG.len hA
  have hnl := AtG.len hM
  unfold maxLen at hml hnl hal
  subst hv0
  subst hn0
  subst ha0
  have hLw := Lib.hid (fun wx (hx : Below w.heap.size w wx) => hL.below hx)
  clear hL hm hv hM hmm hA
  go_enter Tryz.func5, Tryz.ntmps5
  go_wp2_with fail
  refine hfo.out.mono ?_
  rintro e w1 ⟨rfl, hb1⟩
  have hlg1 := hlg.out _ hb1
  have hb1 := Lib.hid hb1
  clear hfo hlg
  by_cases h15 : 15 < A.length
  case pos =>
    have h15i : (15 : Int) < (A.length : Int) := by omega
    go_wp2_with fail
    go_ret
    exact ⟨rfl, hb1.out⟩
  have h15i : ¬ (15 : Int) < (A.length : Int) := by omega
  cases hlo : longE L with
  | true =>
    rw [show longEI L = 1 by unfold longEI; rw [if_pos hlo]] at hlg1
    have hlg1 := Lib.hid hlg1
    clear hlo
    go_wp2_with fail
    refine hlg1.out.mono ?_
    rintro e w2 ⟨rfl, hb2⟩
    have hb2 := Lib.hid (below_trans hb1.out hb2)
    go_wp2_with fail
    go_ret
    exact ⟨rfl, hb2.out⟩
  | false =>
  rw [show longEI L = 0 by unfold longEI; rw [if_neg (by rw [hlo]; decide)]] at hlg1
  have hlg1 := Lib.hid hlg1
  have hl61 := (longE_false hlo).1
  clear hlo
  go_wp2_with fail
  refine hlg1.out.mono ?_
  rintro e w2 ⟨rfl, hb2⟩
  have hb2 := Lib.hid (below_trans hb1.out hb2)
  have hln2 := hln.out _ hb2.out
  clear hlg1 hln
  cases hlo : longM M with
  | true =>
    rw [hlo] at hln2
    have hln2 := Lib.hid hln2
    clear hlo
    go_wp2_with fail
    refine hln2.out.mono ?_
    rintro e w3 ⟨rfl, rfl⟩
    go_wp2_with fail
    go_ret
    exact ⟨rfl, hb2.out⟩
  | false =>
  rw [hlo] at hln2
  have hln2 := Lib.hid hln2
  have hM40 := (longM_false hlo).1
  clear hlo
  go_wp2_with fail
  refine hln2.out.mono ?_
  rintro e w3 ⟨rfl, rfl⟩
  clear hln2
  go_wp2_with fail
  refine (hck.out _ hb2.out).mono ?_
  rintro e w3 ⟨ev3, rfl, he3, hb3⟩
  have hb3 := Lib.hid (below_trans hb2.out hb3)
  clear hck
  by_cases hc : (checkE L).1 = 0
  case neg =>
    obtain ⟨T3, x3, rfl⟩ := he3.iface hc
    clear he3
    go_wp2_with fail
    go_ret
    exact ⟨rfl, hb3.out⟩
  obtain ⟨rfl, _⟩ := he3.zero hc
  have hnt3 := Lib.hid (hnt.out _ hb3.out (by omega))
  clear he3 hc hnt
  go_wp2_with fail
  refine hnt3.out.mono ?_
  rintro e w4 ⟨hor4, hb4⟩
  have hb4H := Lib.hid (below_trans hb3.out hb4)
  rcases hor4 with ⟨hz, ev4, rfl, he4⟩ | ⟨hz, b, ps, rfl, hT4⟩
  · obtain ⟨T4, x4, rfl⟩ := he4.iface hz
    clear hb4 he4 hz
    go_wp2_with fail
    go_ret
    exact ⟨rfl, hb4H.out⟩
  have hS4 := Lib.hid (show TrS key L (-1 :: A) w.heap.size b ps (List.replicate (A.length + 1) (newFol key)) w4 from ⟨treeOk_new L hz, hT4.mono hb3.out.size, tok_new _ _⟩)
  have hup := Lib.hid (up_of hz)
  have hAl : (-1 :: A : List Int).length = A.length + 1 := rfl
  have hAg := Lib.hid (fun k (hk : k < A.length) => (show (-1 :: A : List Int).getD (k + 1) 0 = A[k] from by rw [show (-1 :: A : List Int).getD (k + 1) 0 = A.getD k 0 from by simp, getD_get hk]))
  have hAlH := Lib.hid hAl
  generalize hAJ : (-1 :: A : List Int) = AJ at *
  clear hb4 hT4 hz hAl hAJ hnt3
  -- what the calls do
  have hupT := Lib.hid (fun (T : List Fol) wx (h : TrS key L AJ w.heap.size b ps T wx) i (h1 : 1 ≤ i) (h2 : i < T.length) => (show 0 ≤ AJ.getD i 0 ∧ AJ.getD i 0 < (T.length : Int) from by
    have h3 := h.len
    have h4 := hAlH.out
    have h5 := hup.out i h1 (by omega)
    omega))
  have hupN := Lib.hid (fun (T : List Fol) wx (h : TrS key L AJ w.heap.size b ps T wx) i (h1 : 1 ≤ i) (h2 : i < T.length) => (show upT AJ i < T.length from Nat.lt_trans (h.ok.up i h1 h2) h2))
  have hpoll := Lib.hid (fun (T : List Fol) (i : Int) wx (hx : Below w.heap.size w wx) (h : TrS key L AJ w.heap.size b ps T wx) => (poll_tree_any (E := E) w.heap.size b ps T AJ i wx (hLw.out _ hx) h.at_ h.tok h.ok.len (hupT.out T wx h) hx.size).mono (R' := fun e w' => PollRes E (pollT T AJ i).1 e ∧ TrS key L AJ w.heap.size b ps (pollT T AJ i).2 w' ∧ Below w.heap.size wx w') (fun e w' ⟨h1, h2, h3⟩ => ⟨h1, ⟨(poll_tree h.ok i).1, h2, poll_tok AJ i h.tok (hupN.out T wx h)⟩, h3⟩))
  have hall := Lib.hid (fun (T : List Fol) wx (hx : Below w.heap.size w wx) (h : TrS key L AJ w.heap.size b ps T wx) => (all_tree_any (E := E) w.heap.size b ps T AJ wx (hLw.out _ hx) h.at_ h.tok h.ok.len (hupT.out T wx h) hx.size (fun wy hy => hLw.out _ (hx.trans hy)) (by have := h.len; have := hAlH.out; omega)).mono (R' := fun e w' => e = .returned (.int .i64 ((allT T AJ).1 : Nat)) ∧ TrS key L AJ w.heap.size b ps (allT T AJ).2 w' ∧ Below w.heap.size wx w') (fun e w' ⟨h1, h2, h3⟩ => ⟨h1, ⟨(all_tree h.ok T.length (Nat.le_refl _)).1, h2, allN_tok h.tok (hupN.out T wx h) T.length⟩, h3⟩))
  have hnode := Lib.hid (fun (T : List Fol) (i : Nat) wx (h : TrS key L AJ w.heap.size b ps T wx) (hi : i < T.length) => node_tree w.heap.size b ps T AJ i wx h.at_ hi (h.tok i hi))
  have hmany := Lib.hid (fun (T : List Fol) wx (h : TrS key L AJ w.heap.size b ps T wx) => many_tree w.heap.size b ps T AJ wx h.at_)
  have hpush := Lib.hid (fun (T : List Fol) (n : News) (vx : Value) wx (hx : Below w.heap.size w wx) (h : TrS key L AJ w.heap.size b ps T wx) (hvx : EntsAt wx vx (newsEnts L n)) (hk : n.key = key) (ht : n.text = []) => (push_tree (E := E) w.heap.size b ps T AJ (newsHead L n) vx (newsEnts L n) wx (hLw.out _ hx) h.at_ (by rw [h.at_.len]; exact h.ok.pos) (h.tok 0 h.ok.pos) hvx (news_names hmH.out) (by have := newsEnts_len L n; omega) (newsHead_len ht) hx.size).mono (R' := fun e w' => e = .returned (errV E (takeF (nodeT T 0) (newsHead L n) (newsEnts L n)).1) ∧ (∃ T', TrS key L AJ w.heap.size b ps T' w') ∧ Below w.heap.size wx w') (fun e w' ⟨h1, h2, h3⟩ => by
    have hn := news_node (h.ok.node 0 h.ok.pos) n hk ht
    exact ⟨h1, ⟨_, ⟨set_tree h.ok h.ok.pos hn.1 hn.2 (fun h => absurd h (by decide)), h2, h.tok.set h.ok.pos ((h.tok 0 h.ok.pos).take (newsHead_len ht) (news_names hmH.out))⟩⟩, h3⟩))
  clear hupT hupN
  go_wp2_with fail
  go_loopg [12] (M.length + 1) (fun g i wr => ∃ (j : Nat) (T : List Fol), i = .int .i64 j ∧ j ≤ M.length ∧ M.length - j + 1 ≤ g ∧ Hid (TrS key L AJ w.heap.size b ps T wr) ∧ Hid (Below w.heap.size w wr))
  case atStart => exact ⟨0, _, rfl, Nat.zero_le _, by omega, hS4, hb4H⟩
  case round =>
    obtain ⟨j, T, rfl, hj, hg, hS, hK⟩ := hrel
    by_cases hlt : j < M.length
    · obtain ⟨_, _, he, _, _, _, hcs⟩ := hMv.out _ hK.out
      cases he
      obtain ⟨bb, oo, rfl, hc⟩ := hcs j hlt
      have hmm := hmmH.out _ (List.getElem_mem hlt)
      generalize M[j] = nn at *
      obtain ⟨kd, n, mn, fr, tm, ky, tx⟩ := nn
      have d0 : wr.cell? ⟨bb, oo + j * 7, none⟩ = some (.string (bs kd)) := hc 0 _ rfl
      have d1 : wr.cell? ⟨bb, oo + j * 7 + 1, none⟩ = some (.int .i64 n) := hc 1 _ rfl
      have d2 : wr.cell? ⟨bb, oo + j * 7 + 2, none⟩ = some (.int .i64 mn) := hc 2 _ rfl
      have d3 : wr.cell? ⟨bb, oo + j * 7 + 3, none⟩ = some (.int .i64 fr) := hc 3 _ rfl
      have d4 : wr.cell? ⟨bb, oo + j * 7 + 4, none⟩ = some (.int .i64 tm) := hc 4 _ rfl
      have d5 : wr.cell? ⟨bb, oo + j * 7 + 5, none⟩ = some (.int .i64 ky) := hc 5 _ rfl
      have d6 : wr.cell? ⟨bb, oo + j * 7 + 6, none⟩ = some (.string (bs tx)) := hc 6 _ rfl
      clear hcs hc hmm
      have hk0 : (0 : Int) ≤ (j : Int) := by omega
      have hk1 : (j : Int) < (M.length : Int) := by omega
      have hno := Lib.hid (fun wx (hx : Below w.heap.size w wx) => (show Calls Tryz.prog 21 #[.slice a0 L.length c0, .agg #[.int .i64 mn, .int .i64 fr, .int .i64 tm, .int .i64 key, .string ⟨#[]⟩]] wx _ from newsOf_any (.slice a0 L.length c0) L ⟨mn, fr, tm, key, []⟩ wx (hEv.out wx hx) hmH.out (by omega) (Nat.zero_le _)))
      go_upto_region 13 with fail
      have hKa := Lib.hid (fun o => hK.out.alloc hK.out.size o)
      have hSa := Lib.hid (fun o => hS.out.below ((Below.refl _ _).alloc (Nat.le_refl _) o))
      go_upto_block 2 with fail
      generalize hWo : wr.alloc (.cells #[.string (bs kd), .int .i64 n, .int .i64 mn, .int .i64 fr, .int .i64 tm, .int .i64 key, .string ⟨#[]⟩] 65) = W at *
      have hKW := Lib.hid (show Below w.heap.size w W by rw [← hWo]; exact hKa.out _)
      have hSW := Lib.hid (show TrS key L AJ w.heap.size b ps T W by rw [← hWo]; exact hSa.out _)
      have hbx := heap_alloc_new wr (.cells #[.string (bs kd), .int .i64 n, .int .i64 mn, .int .i64 fr, .int .i64 tm, .int .i64 key, .string ⟨#[]⟩] 65)
      rw [hWo] at hbx
      have hbc := Lib.hid (seven_cells hbx)
      clear hKa hSa hWo hbx d0 d1 d2 d3 d4 d5 d6
      go_cut [14, 15] from 72 to 95 (fun _ _ wx => ∃ T', Hid (TrS key L AJ w.heap.size b ps T' wx) ∧ Hid (Below w.heap.size w wx))
      case first =>
        obtain ⟨x0, x1, x2, x3, x4, x5, x6⟩ := hbc.out
        by_cases hpu : kd = [112, 117, 115, 104]
        · have e1 : ((bs kd).toList == [112, 117, 115, 104]) = true := by rw [hpu, toList_data]; rfl
          have hnoW := Lib.hid (hno.out _ hKW.out)
          have hpuW := Lib.hid (fun vx wx hx hS hv => hpush.out T ⟨mn, fr, tm, key, []⟩ vx wx hx hS hv rfl rfl)
          generalize newsHead L ⟨mn, fr, tm, key, []⟩ = hd at *
          generalize newsEnts L ⟨mn, fr, tm, key, []⟩ = ME at *
          clear hpu hno hpush hpoll hall hnode hmany
          go_wp2_with fail
          refine hnoW.out.mono ?_
          rintro e w5 ⟨⟨v5, rfl, hv5⟩, hb5⟩
          have hK5 := Lib.hid (below_trans hKW.out hb5)
          have hpu5 := Lib.hid (hpuW.out v5 w5 hK5.out (hSW.out.below hb5) hv5)
          clear hb5 hv5 hnoW hpuW
          go_wp2_with fail
          refine hpu5.out.mono ?_
          rintro e w6 ⟨rfl, ⟨T', hS6⟩, hb6⟩
          have hfin := Lib.hid (hK5.out.trans hb6)
          have hS6 := Lib.hid hS6
          clear hb6 hpu5
          go_wp2_with fail
          go_meet
          exact ⟨T', hS6, hfin⟩
        have e1 : ((bs kd).toList == [112, 117, 115, 104]) = false := by rw [toList_data, bs_list, beq_eq_false_iff_ne]; exact hpu
        by_cases hpo : kd = [112, 111, 108, 108]
        · have e2 : ((bs kd).toList == [112, 111, 108, 108]) = true := by rw [hpo, toList_data]; rfl
          have hpoW := hpoll.out T n W hKW.out hSW.out
          obtain ⟨rn, rc, T', hR⟩ : ∃ rn rc T', pollT T AJ n = ((rn, rc), T') := ⟨_, _, _, rfl⟩
          unfold PollRes at hpoW
          rw [hR] at hpoW
          dsimp only at hpoW
          have hpoW := Lib.hid hpoW
          clear hpu hpo hno hpush hpoll hall hnode hmany hR
          go_wp2_with fail
          refine hpoW.out.mono ?_
          rintro e w5 ⟨rfl, hS5, hb5⟩
          have hfin := Lib.hid (hKW.out.trans hb5)
          have hS5 := Lib.hid hS5
          clear hb5 hpoW
          go_wp2_with fail
          go_meet
          exact ⟨T', hS5, hfin⟩
        · have e2 : ((bs kd).toList == [112, 111, 108, 108]) = false := by rw [toList_data, bs_list, beq_eq_false_iff_ne]; exact hpo
          have haW := Lib.hid (hall.out T W hKW.out hSW.out)
          clear hpu hpo hno hpush hpoll hall hnode hmany
          go_wp2_with fail
          refine haW.out.mono ?_
          rintro e w5 ⟨rfl, hS5, hb5⟩
          have hfin := Lib.hid (hKW.out.trans hb5)
          have hS5 := Lib.hid hS5
          clear hb5 haW
          go_wp2_with fail
          go_meet
          exact ⟨_, hS5, hfin⟩
      obtain ⟨T', hS2, hK2⟩ := hcut
      clear hS hK hSW hKW hbc hno
      have hTl := Lib.hid (show T'.length = A.length + 1 by rw [hS2.out.len, hAlH.out])
      go_wp2_with fail
      go_loopg [16] (A.length + 1) (fun g i wx => ∃ k : Nat, i = .int .i64 k ∧ k ≤ A.length ∧ A.length - k + 1 ≤ g ∧ Hid (TrS key L AJ w.heap.size b ps T' wx) ∧ Hid (Below w.heap.size w wx))
      case atStart => exact ⟨0, rfl, Nat.zero_le _, by omega, hS2, hK2⟩
      case round =>
        obtain ⟨k, rfl, hkl, hgk, hSk, hKk⟩ := hrel
        by_cases hkA : k < A.length
        · obtain ⟨_, _, he, _, _, _, hcs⟩ := hAv.out _ hKk.out
          cases he
          obtain ⟨ga, oa, rfl, hc⟩ := hcs k hkA
          have hk1 : k + 1 < T'.length := by have := hTl.out; omega
          have hup2 := hSk.out.ok.up (k + 1) (by omega) hk1
          have hbl := hSk.out.ok.below (k + 1) (by omega) hk1
          have hu5 := hup.out (k + 1) (by omega) (by omega)
          have huA : A[k] = ((upT AJ (k + 1) : Nat) : Int) := by rw [← hAg.out k hkA]; unfold upT; omega
          have hc0 : wr.cell? ⟨ga, oa + k, none⟩ = some (.int .i64 A[k]) := by simpa [numC] using hc 0 _ rfl
          rw [huA] at hc0
          have hn1 := Lib.hid (hnode.out T' (k + 1) wr hSk.out hk1)
          have hn2 := Lib.hid (fun wx (h : TrS key L AJ w.heap.size b ps T' wx) => hnode.out T' (upT AJ (k + 1)) wx h (by omega))
          generalize upT AJ (k + 1) = up at *
          have hq1 : ¬ (((nodeT T' up).l.length : Int) < ((nodeT T' (k + 1)).l.length : Int)) := by omega
          have hq2 : ¬ ((nodeT T' up).time < (nodeT T' (k + 1)).time) := by omega
          generalize nodeT T' up = U at *
          generalize nodeT T' (k + 1) = F at *
          have hi0 : (0 : Int) ≤ (k : Int) := by omega
          have hi1 : (k : Int) < (A.length : Int) := by omega
          have hsq := Lib.hid (fun base b f wx (h : FolAt wx base b f) => seq_fol base b f wx h)
          have htm := Lib.hid (fun base b f wx (h : FolAt wx base b f) => time_fol base b f wx h)
          have hc0H := Lib.hid hc0
          clear hcs hc hup2 hbl hu5 huA hc0
          go_wp2_with fail
          refine hn1.out.mono ?_
          rintro e w5 ⟨b5, rfl, hF5, hb5⟩
          have hK5 := Lib.hid (below_trans hKk.out hb5)
          have hS5 := Lib.hid (hSk.out.below hb5)
          have hF5 := Lib.hid hF5
          have hc5 := cell_below hb5 hc0H.out
          have hn2 := Lib.hid (hn2.out _ hS5.out)
          clear hb5 hn1
          go_wp2_with fail
          refine hn2.out.mono ?_
          rintro e w6 ⟨b6, rfl, hU6, hb6⟩
          have hK6 := Lib.hid (below_trans hK5.out hb6)
          have hS6 := Lib.hid (hS5.out.below hb6)
          have hF6 := Lib.hid (hF5.out.below hb6)
          have hU6 := Lib.hid hU6
          have hx := Lib.hid (hsq.out _ _ _ _ hF6.out)
          clear hb6 hn2 hc5
          go_wp2_with fail
          refine hx.out.mono ?_
          rintro e w7 ⟨rfl, hb7⟩
          have hK7 := Lib.hid (below_trans hK6.out hb7)
          have hS7 := Lib.hid (hS6.out.below hb7)
          have hF7 := Lib.hid (hF6.out.below hb7)
          have hU7 := Lib.hid (hU6.out.below hb7)
          have hx2 := Lib.hid (hsq.out _ _ _ _ hU7.out)
          clear hb7 hx
          go_wp2_with fail
          refine hx2.out.mono ?_
          rintro e w8 ⟨rfl, hb8⟩
          have hK8 := Lib.hid (below_trans hK7.out hb8)
          have hS8 := Lib.hid (hS7.out.below hb8)
          have hF8 := Lib.hid (hF7.out.below hb8)
          have hU8 := Lib.hid (hU7.out.below hb8)
          have hx3 := Lib.hid (htm.out _ _ _ _ hF8.out)
          clear hb8 hx2
          go_wp2_with fail
          refine hx3.out.mono ?_
          rintro e w9 ⟨rfl, hb9⟩
          have hK9 := Lib.hid (below_trans hK8.out hb9)
          have hS9 := Lib.hid (hS8.out.below hb9)
          have hU9 := Lib.hid (hU8.out.below hb9)
          have hx4 := Lib.hid (htm.out _ _ _ _ hU9.out)
          clear hb9 hx3
          go_wp2_with fail
          refine hx4.out.mono ?_
          rintro e w10 ⟨rfl, hb10⟩
          have hK10 := Lib.hid (below_trans hK9.out hb10)
          have hS10 := Lib.hid (hS9.out.below hb10)
          clear hb10 hx4
          go_wp2_with fail
          go_roundg (A.length - k)
          case measure => omega
          case rel => exact ⟨k + 1, by simp, hkA, by omega, hS10, hK10⟩
        · have hge : ¬ ((k : Int) < (A.length : Int)) := by omega
          go_wp2_with fail
          go_roundg (M.length - j)
          case measure => omega
          case rel => exact ⟨j + 1, T', by simp, hlt, by omega, hSk, hKk⟩
    · have hge : ¬ ((j : Int) < (M.length : Int)) := by omega
      have haW := Lib.hid (hall.out T wr hK.out hS.out)
      have hTl := hS.out.len
      have hAl2 := hAlH.out
      have hat := (all_tree hS.out.ok T.length (Nat.le_refl _)).2
      have hlen2 := allN_len T AJ T.length
      have hsame := Lib.hid (show ∀ i, i < (allT T AJ).2.length → nodeT (allT T AJ).2 i = nodeT (allT T AJ).2 0 from fun i hi => by
        unfold allT at hi ⊢
        rw [hlen2] at hi
        rw [hat i hi, hat 0 (by omega)])
      have hlen3 : (allT T AJ).2.length = A.length + 1 := by unfold allT; rw [hlen2]; omega
      generalize (allT T AJ).2 = T2 at *
      clear hat hlen2 hpush hpoll
      go_wp2_with fail
      refine haW.out.mono ?_
      rintro e w5 ⟨rfl, hS5, hb5⟩
      have hK5 := Lib.hid (hK.out.trans hb5)
      have hS5 := Lib.hid hS5
      have hR := Lib.hid (hS5.out.tok 0 (by omega))
      have hn0 := Lib.hid (hnode.out T2 0 w5 hS5.out (by omega))
      clear hb5 haW
      go_wp2_with fail
      refine hn0.out.mono ?_
      rintro e w6 ⟨b6, rfl, hF6, hb6⟩
      have hK6 := Lib.hid (below_trans hK5.out hb6)
      have hS6 := Lib.hid (hS5.out.below hb6)
      have hF6 := Lib.hid (hF6.mono hK5.out.size)
      clear hb6 hn0
      generalize hRd : nodeT T2 0 = R at *
      have hsq := Lib.hid (fun base b wx (h : FolAt wx base b R) => seq_fol base b R wx h)
      have htm := Lib.hid (fun base b wx (h : FolAt wx base b R) => time_fol base b R wx h)
      have hfl := Lib.hid (fun base b wx (h : FolAt wx base b R) => floors_fol base b R wx h (by have := hR.out.fl; omega))
      have hlen3H := Lib.hid hlen3
      clear hRd hTl hAl2 hlen3
      go_wp2_with fail
      go_loopg [20] (A.length + 2) (fun g i wx => ∃ k : Nat, i = .int .i64 k ∧ 1 ≤ k ∧ k ≤ A.length + 1 ∧ A.length + 1 - k + 1 ≤ g ∧ Hid (TrS key L AJ w.heap.size b ps T2 wx) ∧ Hid (FolAt wx w.heap.size b6 R) ∧ Hid (Below w.heap.size w wx))
      case atStart => exact ⟨1, rfl, Nat.le_refl _, by omega, by omega, hS6, hF6, hK6⟩
      case round =>
        obtain ⟨k, rfl, hk1, hkl, hgk, hSk, hRk, hKk⟩ := hrel
        have hmy := hmany.out T2 wr hSk.out
        rw [hlen3H.out] at hmy
        have hmy := Lib.hid hmy
        by_cases hkA : k < A.length + 1
        · have hki : (k : Int) < (A.length : Int) + 1 := by omega
          have hn1 := hnode.out T2 k wr hSk.out (by rw [hlen3H.out]; exact hkA)
          rw [hsame.out k (by rw [hlen3H.out]; exact hkA)] at hn1
          have hn1 := Lib.hid hn1
          go_wp2_with fail
          refine hmy.out.mono ?_
          rintro e w7 ⟨rfl, rfl⟩
          go_wp2_with fail
          refine hn1.out.mono ?_
          rintro e w7 ⟨b7, rfl, hF7, hb7⟩
          have hK7 := Lib.hid (below_trans hKk.out hb7)
          have hS7 := Lib.hid (hSk.out.below hb7)
          have hR7 := Lib.hid (hRk.out.below hb7)
          have hF7 := Lib.hid hF7
          have hx1 := Lib.hid (hsq.out _ _ _ hF7.out)
          clear hb7 hn1 hmy
          go_wp2_with fail
          refine hx1.out.mono ?_
          rintro e w8 ⟨rfl, hb8⟩
          have hK8 := Lib.hid (below_trans hK7.out hb8)
          have hS8 := Lib.hid (hS7.out.below hb8)
          have hR8 := Lib.hid (hR7.out.below hb8)
          have hF8 := Lib.hid (hF7.out.below hb8)
          have hx2 := Lib.hid (hsq.out _ _ _ hR8.out)
          clear hb8 hx1
          go_wp2_with fail
          refine hx2.out.mono ?_
          rintro e w9 ⟨rfl, hb9⟩
          have hK9 := Lib.hid (below_trans hK8.out hb9)
          have hS9 := Lib.hid (hS8.out.below hb9)
          have hR9 := Lib.hid (hR8.out.below hb9)
          have hF9 := Lib.hid (hF8.out.below hb9)
          have hx3 := Lib.hid (htm.out _ _ _ hF9.out)
          clear hb9 hx2
          go_wp2_with fail
          refine hx3.out.mono ?_
          rintro e w10 ⟨rfl, hb10⟩
          have hK10 := Lib.hid (below_trans hK9.out hb10)
          have hS10 := Lib.hid (hS9.out.below hb10)
          have hR10 := Lib.hid (hR9.out.below hb10)
          have hF10 := Lib.hid (hF9.out.below hb10)
          have hx4 := Lib.hid (htm.out _ _ _ hR10.out)
          clear hb10 hx3
          go_wp2_with fail
          refine hx4.out.mono ?_
          rintro e w11 ⟨rfl, hb11⟩
          have hK11 := Lib.hid (below_trans hK10.out hb11)
          have hS11 := Lib.hid (hS10.out.below hb11)
          have hR11 := Lib.hid (hR10.out.below hb11)
          have hF11 := Lib.hid (hF10.out.below hb11)
          have hx5 := Lib.hid (hfl.out _ _ _ hF11.out)
          clear hb11 hx4
          go_wp2_with fail
          refine hx5.out.mono ?_
          rintro e w12 ⟨v12, rfl, hr12, hb12⟩
          have hK12 := Lib.hid (below_trans hK11.out hb12)
          have hS12 := Lib.hid (hS11.out.below hb12)
          have hR12 := Lib.hid (hR11.out.below hb12)
          have hr12 := Lib.hid hr12
          have hx6 := Lib.hid (hfl.out _ _ _ hR12.out)
          clear hb12 hx5
          go_wp2_with fail
          refine hx6.out.mono ?_
          rintro e w13 ⟨v13, rfl, hr13, hb13⟩
          have hK13 := Lib.hid (below_trans hK12.out hb13)
          have hS13 := Lib.hid (hS12.out.below hb13)
          have hR13 := Lib.hid (hR12.out.below hb13)
          have hx7 := Lib.hid (samef_flo _ _ _ w13 (floorsAt_of (RowG.at_ (floRow_G.1 (FlRow.below hr12.out hb13)))) (floorsAt_of (RowG.at_ (floRow_G.1 hr13))))
          clear hb13 hx6 hr13 hr12
          go_wp2_with fail
          refine hx7.out.mono ?_
          rintro e w14 ⟨rfl, hb14⟩
          have hK14 := Lib.hid (below_trans hK13.out hb14)
          have hS14 := Lib.hid (hS13.out.below hb14)
          have hR14 := Lib.hid (hR13.out.below hb14)
          clear hb14 hx7
          go_wp2_with fail
          go_roundg (A.length + 1 - k)
          case measure => omega
          case rel => exact ⟨k + 1, by simp, by omega, by omega, by omega, hS14, hR14, hK14⟩
        · have hge2 : ¬ ((k : Int) < (A.length : Int) + 1) := by omega
          have haL := hall.out T2 wr hKk.out hSk.out
          rw [show allT T2 AJ = (0, T2) from by unfold allT; exact all_still (fun i hi => (hsame.out i hi).trans (hsame.out 0 (by have := hlen3H.out; omega)).symm) hSk.out.ok.up _ (Nat.le_refl _)] at haL
          have haL := Lib.hid haL
          go_wp2_with fail
          refine hmy.out.mono ?_
          rintro e w7 ⟨rfl, rfl⟩
          go_wp2_with fail
          refine haL.out.mono ?_
          rintro e w8 ⟨rfl, hS8, hb8⟩
          have hK8 := Lib.hid (hKk.out.trans hb8)
          clear hb8 hS8
          go_wp2_with fail
          go_ret
          exact ⟨rfl, hK8.out⟩
end Go.Proofs.YtpkcndohjmpdeaaGreatDoor

/- The row's end, with the world's shape: parts. -/
namespace Go.Proofs.YtpkcndohjmpdeaaGreatDoor
open Go.ChangeShapes Go.WideShapes Go.ChangeAt Go.RowKit Go.ChangeMaps

/-- The wrap with both: a condition on the package-level variables, and the world's shape. -/
theorem returns_both {H : Type} {enc : TypeId × Value → H} {a : Assume} {C : Checked} {os : Os} {f : FuncId} {fn : Func} {s : ChangeSpec} {conds : List PathCond} {apart fresh handsOn again : Bool} {X : World → Array Value → Prop}
    (hX : ∀ (w w' : World) (args : Array Value), w.heap = w'.heap → X w args → X w' args)
    (own : ownKnob C.prog.godebug = none) (started : os.Started) (noInit : C.prog.inits.idxOf? f = none) (hfn : C.prog.funcs[f]? = some fn)
    (witness : ∃ (w : World) (tape : Tape) (i : Input), w.os = os ∧ (w.forCall tape i).Shaped C.prog ∧ i.vars = [] ∧ Input.okWide C.prog (w.forCall tape i) .any w.heap.size f i ∧
      ((s.pre enc C.prog fn conds apart (w.forCall tape i).memory i.args ∧ X (w.forCall tape i).memory i.args) ∧ sizedMet enc C.prog fn (OpenSpec.ofChange s) apart (w.forCall tape i).memory i.args) ∧ a.holds C.prog (lone (Frame.enter C.prog f i.args .normal) [] (w.forCall tape i)))
    (contract : ∀ (W : World) (base : Nat) (args : Array Value) (ds gs : List (DataW H)) (before : List MemPlace),
      (∀ (j : Nat) t v, fn.params[j]? = some t → args[j]? = some v → Value.okWide C.prog W .any base t v) →
      DataW.Whole enc C.prog fn.params.toList s.vars apart W args.toList ds gs before →
      X W args → W.ShapedOpen C.prog →
      Calls C.prog f args W fun e W' => ∃ v, e = .returned v ∧ s.post enc C.prog fn apart fresh handsOn again W args v W') :
    ReturnsInHanded a C os f .any (fun w args => (s.pre enc C.prog fn conds apart w args ∧ X w args) ∧ sizedMet enc C.prog fn (OpenSpec.ofChange s) apart w args) (s.post enc C.prog fn apart fresh handsOn again) := by
  refine returnsInHanded_of_calls own started noInit witness ?_
  intro w tape i _ hsh _ hok hpre hholds
  obtain ⟨_, _, _, fn', hfn', _, _, _, _, hval⟩ := hok
  have e : fn' = fn := Option.some.inj (hfn'.symm.trans hfn)
  subst e
  obtain ⟨⟨⟨ds, gs, before, hw, hc⟩, hx⟩, hz⟩ := hpre
  have hw' := DataW.Whole.of_heap (w' := w.forCall tape i) (by rfl) hw
  refine (contract (w.forCall tape i) w.heap.size i.args ds gs before hval hw' (hX _ _ _ (by rfl) hx) hsh).mono fun e W' ⟨v, he, hp⟩ => ?_
  subst he
  exact ChangeSpec.post_blind hp

/-- A start that meets the condition: whatever world, the plain data laid on it. -/
theorem laidMet_laidOn {P : Program} {w0 : World} {L : List (String × DataW Unit)} (args : Array Value) (hf : w0.layFits P L [] = true) (hi : w0.layIfaces P L (w0.layVars P L) = true) :
    laidMet P L ((w0.layVars P L).forCall (fun _ _ => 0) ⟨#[], args, []⟩).memory := by
  have e1 : (L.filter fun x => (L.map (·.1)).contains x.1) = L := List.filter_eq_self.2 fun x hx => List.contains_iff_mem.2 (List.mem_map.2 ⟨x, hx, rfl⟩)
  have e2 : (L.filter fun x => !(L.map (·.1)).contains x.1) = [] := List.filter_eq_nil_iff.2 fun x hx => by rw [List.contains_iff_mem.2 (List.mem_map.2 ⟨x, hx, rfl⟩)]; simp
  have h : laidMet P L (w0.layVars P L) := laidMet_layVars (w0 := w0) (L.map (·.1)) [] (by rw [e1]) (by rw [e1]; exact hf) (by rw [e1]; exact hi) (by rw [e2]; exact LaidIn.none)
  exact h.of_heap (by simp [World.memory, World.forCall, Input.heap])
end Go.Proofs.YtpkcndohjmpdeaaGreatDoor
