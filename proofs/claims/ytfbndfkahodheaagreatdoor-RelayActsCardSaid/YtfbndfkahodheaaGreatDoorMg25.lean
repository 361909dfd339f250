/- RelW2 -/
import Derived.Test.YtfbndfkahodheaaGreatDoorMg24
/- Trees: Poll, All: walked. -/
namespace Go.Proofs.YtfbndfkahodheaaGreatDoor
open Go.RowKit

theorem set_self {T : List Fol} {n : Nat} (h : n < T.length) : T.set n (nodeT T n) = T := by
  unfold nodeT
  rw [getD_get h]
  exact List.set_getElem_self h
/-- What a poll answers. -/
def PollRes (E : Nat → Addr) (r : Int × Nat) (e : Ending) : Prop := e = .returned (.tuple #[.int .i64 r.1, errV E r.2])
theorem PollRes.mk {E : Nat → Addr} {r : Int × Nat} {n : Int} {c : Nat} {ev : Value} (hr : r = (n, c)) (hv : ev = errV E c) : PollRes E r (.returned (.tuple #[.int .i64 n, ev])) := by
  subst hr hv
  rfl
set_option maxHeartbeats 8000000 in
set_option maxRecDepth 100000 in
theorem poll_tree_any {E : Nat → Addr} (base b : Nat) (ps : List Nat) (T : List Fol) (A : List Int) (i : Int) (w : World) (hL : LaidS E w) (hT : TreeAt w base b ps T A) (hO : TOk T) (hA : A.length = T.length) (hup : ∀ i, 1 ≤ i → i < T.length → 0 ≤ A.getD i 0 ∧ A.getD i 0 < (T.length : Int)) (hbs : base ≤ w.heap.size) :
    Calls Tryz.prog 40 #[.pointer (some ⟨b, 0, none⟩), .int .i64 i] w fun e w' => PollRes E (pollT T A i).1 e ∧ TreeAt w' base b ps (pollT T A i).2 A ∧ Below base w w' := by
  have hTH := Lib.hid hT
  have hLw := Lib.hid (fun wx (hx : Below w.heap.size w wx) => hL.below hx)
  obtain ⟨au, cu, av, cv, c0, c1, l1, l2, hps, hAs⟩ := hT.cells
  have hln := hT.len
  unfold maxLen at l1 l2
  have hbB := Lib.hid (fun wx (hx : Below w.heap.size w wx) => (show Below base w wx from hx.mono hbs))
  by_cases hout : i < 1 ∨ (T.length : Int) ≤ i
  · have hr := Lib.hid (poll_out (A := A) hout)
    have he := hL.laid.e2
    simp only [errV] at he
    have hfin := Lib.hid (fun n => (show TreeAt (w.drewN n) base b ps T A ∧ Below base w (w.drewN n) from ⟨hTH.out.below (below_drawn (Below.refl _ _) n), below_drawn (Below.refl _ _) n⟩))
    by_cases h1 : i < 1
    · clear c1 hps hAs hT hL hln hout hO hup hA
      go_enter Tryz.func40, Tryz.ntmps40
      go_wp2_with fail
      go_quiet (fail)
      go_wp2_with fail
      go_ret2
      exact ⟨PollRes.mk (by rw [hr.out]) rfl, by rw [hr.out]; exact (hfin.out _).1, (hfin.out _).2⟩
    · have h2 : (ps.length : Int) ≤ i := by omega
      clear c1 hps hAs hT hL hln hout hO hup hA
      go_enter Tryz.func40, Tryz.ntmps40
      go_wp2_with fail
      go_quiet (fail)
      go_wp2_with fail
      go_ret2
      exact ⟨PollRes.mk (by rw [hr.out]) rfl, by rw [hr.out]; exact (hfin.out _).1, (hfin.out _).2⟩
  obtain ⟨n, rfl⟩ := Int.eq_ofNat_of_zero_le (show 0 ≤ i by omega)
  have hn1 : 1 ≤ n := by omega
  have hn2 : n < T.length := by omega
  have hn3 : n < ps.length := by omega
  have hw := poll_ways T A n hn1 hn2
  obtain ⟨hu0, hu1⟩ := hup n hn1 hn2
  have hua : A.getD n 0 = ((upT A n : Nat) : Int) := by unfold upT; omega
  have hul : upT A n < ps.length := by omega
  obtain ⟨ga, oa, rfl, pA⟩ := hAs n (by omega)
  rw [hua] at pA
  obtain ⟨gp, op, rfl, pF⟩ := hps n hn3
  obtain ⟨_, _, he, pU⟩ := hps (upT A n) hul
  cases he
  have hOF := Lib.hid (hO n hn2)
  have hOU := Lib.hid (hO (upT A n) (by omega))
  have hFF := Lib.hid (hT.fol n hn3)
  have hFU := Lib.hid (hT.fol (upT A n) hul)
  have hset := Lib.hid (fun w1 w2 f (hT1 : TreeAt w1 base b ps T A) (hb1 : Below base w w1) (hs1 : base ≤ w1.heap.size) (hf : FolAt w2 base (ps.getD n 0) f) (hk : Keeps (· = ps.getD n 0) w1 w2) => (show TreeAt w2 base b ps (T.set n f) A ∧ Below base w w2 from ⟨hT1.set hn3 hf hk, below_base hb1 hs1 (hT1.fol n hn3).1 hk⟩))
  have hk1 : (0 : Int) ≤ (n : Int) := by omega
  have hk2 : (n : Int) < (ps.length : Int) := by omega
  have hk3 : ¬ ((n : Int) < 1) := by omega
  have hk4 : ¬ ((ps.length : Int) ≤ (n : Int)) := by omega
  have hk5 : (0 : Int) ≤ ((upT A n : Nat) : Int) := by omega
  have hk6 : ((upT A n : Nat) : Int) < (ps.length : Int) := by omega
  have hk7 : (n : Int) < (A.length : Int) := by omega
  have hself := Lib.hid (set_self hn2)
  generalize upT A n = up at *
  generalize hFd : nodeT T n = F at *
  generalize hUd : nodeT T up = U at *
  generalize hpf : ps.getD n 0 = pf at *
  generalize ps.getD up 0 = pu at *
  have hwH := Lib.hid hw
  clear hps hAs hT hL hln hout hO hup hA hw hFd hUd hpf hua hu0 hu1
  go_enter Tryz.func40, Tryz.ntmps40
  go_upto_region 3 with fail
  go_quiet (fail)
  have hK1 := Lib.hid (show Below w.heap.size w (w.drewN nq) from below_drawn (Below.refl _ _) nq)
  have hF1 := Lib.hid (hFF.out.below hK1.out)
  have hU1 := Lib.hid (hFU.out.below hK1.out)
  clear c0 c1 pA pF pU
  generalize hW : w.drewN nq = W at *
  clear hW
  have hx := Lib.hid (head_fol base pu U W hU1.out)
  go_wp2_with fail
  refine hx.out.mono ?_
  rintro e w2 ⟨rfl, hb2⟩
  have hK2 := Lib.hid (below_trans hK1.out hb2)
  have hF2 := Lib.hid (hF1.out.below hb2)
  have hU2 := Lib.hid (hU1.out.below hb2)
  clear hb2 hx
  by_cases hue : U.head = []
  · have hr := hwH.out
    rw [if_pos hue] at hr
    have hr := Lib.hid hr
    have he := (hLw.out _ hK2.out).laid.e5
    simp only [errV] at he
    have hfin := Lib.hid (fun n => (show TreeAt (w2.drewN n) base b ps T A ∧ Below base w (w2.drewN n) from ⟨hTH.out.below (below_drawn hK2.out n), hbB.out _ (below_drawn hK2.out n)⟩))
    have hbe : (bs U.head).toList = [] := by rw [toList_data, bs_list]; exact hue
    clear hue hwH
    go_wp2_with fail
    go_quiet (fail)
    go_wp2_with fail
    go_ret2
    exact ⟨PollRes.mk (by rw [hr.out]) rfl, by rw [hr.out]; exact (hfin.out _).1, (hfin.out _).2⟩
  have hw2 := hwH.out
  rw [if_neg hue] at hw2
  have hw2H := Lib.hid hw2
  have hbe2 : ¬ (bs U.head).toList = [] := by rw [toList_data, bs_list]; exact hue
  have hbe3 : (bs U.head).toList.isEmpty = false := by cases hq : (bs U.head).toList with | nil => exact absurd hq hbe2 | cons => rfl
  have hbe4 : ((bs U.head).toList == []) = false := beq_eq_false_iff_ne.2 hbe2
  have hx := Lib.hid (head_fol base pu U w2 hU2.out)
  clear hue hw2 hwH
  go_wp2_with fail
  refine hx.out.mono ?_
  rintro e w3 ⟨rfl, hb3⟩
  have hK3 := Lib.hid (below_trans hK2.out hb3)
  have hF3 := Lib.hid (hF2.out.below hb3)
  have hU3 := Lib.hid (hU2.out.below hb3)
  have hx2 := Lib.hid (head_fol base pf F w3 hF3.out)
  clear hb3 hx hbe2 hbe3 hbe4
  go_wp2_with fail
  refine hx2.out.mono ?_
  rintro e w4 ⟨rfl, hb4⟩
  have hK4 := Lib.hid (below_trans hK3.out hb4)
  have hF4 := Lib.hid (hF3.out.below hb4)
  have hU4 := Lib.hid (hU3.out.below hb4)
  clear hb4 hx2
  by_cases hhe : U.head = F.head
  · have hr := hw2H.out
    rw [if_pos hhe] at hr
    have hr := Lib.hid hr
    have he := (hLw.out _ hK4.out).laid.e12
    simp only [errV] at he
    have hfin := Lib.hid (fun n => (show TreeAt (w4.drewN n) base b ps T A ∧ Below base w (w4.drewN n) from ⟨hTH.out.below (below_drawn hK4.out n), hbB.out _ (below_drawn hK4.out n)⟩))
    have hse : ((bs U.head).toList == (bs F.head).toList) = true := by rw [bs_same]; exact decide_eq_true hhe
    clear hhe hw2H
    go_wp2_with fail
    go_quiet (fail)
    go_wp2_with fail
    go_ret2
    exact ⟨PollRes.mk (by rw [hr.out]) rfl, by rw [hr.out]; exact (hfin.out _).1, (hfin.out _).2⟩
  have hw3 := hw2H.out
  rw [if_neg hhe] at hw3
  have hw3H := Lib.hid hw3
  have hse : ((bs U.head).toList == (bs F.head).toList) = false := by rw [bs_same]; exact decide_eq_false hhe
  have hse2 : ¬ (bs U.head).toList = (bs F.head).toList := by rw [toList_data, toList_data, bs_list, bs_list]; exact hhe
  have hx := Lib.hid (entries_fol base pu U w4 hU4.out (by have := hOU.out.l60; omega))
  clear hhe hw3 hw2H
  go_wp2_with fail
  refine hx.out.mono ?_
  rintro e w5 ⟨v5, rfl, hr5, hb5⟩
  have hK5 := Lib.hid (below_trans hK4.out hb5)
  have hF5 := Lib.hid (hF4.out.below hb5)
  have hU5 := Lib.hid (hU4.out.below hb5)
  have hr5 := Lib.hid hr5
  have hx2 := Lib.hid (seq_fol base pf F w5 hF5.out)
  clear hb5 hx hse hse2
  go_wp2_with fail
  refine hx2.out.mono ?_
  rintro e w6 ⟨rfl, hb6⟩
  have hK6 := Lib.hid (below_trans hK5.out hb6)
  have hF6 := Lib.hid (hF5.out.below hb6)
  have hU6 := Lib.hid (hU5.out.below hb6)
  have hx := Lib.hid (since_ent (E := E) v5 U.l (F.l.length : Int) w6 (hLw.out _ hK6.out).laid (EntRow.at_ (RowG.below hr5.out hb6)) hOU.out.nm)
  have hsn := Lib.hid (sinceE_names (n := (F.l.length : Int)) hOU.out.nm)
  have hsl := Lib.hid (Nat.le_trans (sinceE_len U.l (F.l.length : Int)) hOU.out.l60)
  obtain ⟨S, sc, sa, hs⟩ : ∃ S sc sa, sinceE U.l (F.l.length : Int) = (S, sc, sa) := ⟨_, _, _, rfl⟩
  rw [hs] at hx hsn hsl hw3H
  dsimp only at hsn hsl hw3H
  clear hb6 hx2 hr5 hs
  go_wp2_with fail
  refine hx.out.mono ?_
  rintro e w7 ⟨⟨v7, ev7, rfl, hr7, he7⟩, hb7⟩
  have hK7 := Lib.hid (below_trans hK6.out hb7)
  have hF7 := Lib.hid (hF6.out.below hb7)
  have hU7 := Lib.hid (hU6.out.below hb7)
  by_cases hsc : sc = 0
  case neg =>
    obtain ⟨T7, x7, rfl⟩ := he7.iface hsc
    have hr := hw3H.out
    rw [if_pos hsc] at hr
    have hr := Lib.hid hr
    have hbr := Lib.hid (bare_err (E := E) _ _ _ w7 he7)
    have hfin := Lib.hid (show TreeAt w7 base b ps T A ∧ Below base w w7 from ⟨hTH.out.below hK7.out, hbB.out _ hK7.out⟩)
    clear he7 hr7 hb7 hx hw3H hsc
    go_wp2_with fail
    refine hbr.out.mono ?_
    rintro e w8 ⟨rfl, rfl⟩
    go_wp2_with fail
    go_ret2
    exact ⟨PollRes.mk (by rw [hr.out]) rfl, by rw [hr.out]; exact hfin.out.1, hfin.out.2⟩
  subst hsc
  obtain ⟨rfl, _⟩ := he7.zero rfl
  have hw4 := hw3H.out
  rw [if_neg (by simp)] at hw4
  have hw4H := Lib.hid hw4
  have hr7 := Lib.hid hr7
  obtain ⟨a7, c7, hs7⟩ := hr7.out.sl
  subst hs7
  have hx2 := Lib.hid (head_fol base pu U w7 hU7.out)
  clear he7 hb7 hx hw3H hw4
  go_wp2_with fail
  refine hx2.out.mono ?_
  rintro e w8 ⟨rfl, hb8⟩
  have hK8 := Lib.hid (below_trans hK7.out hb8)
  have hF8 := Lib.hid (hF7.out.below hb8)
  have htk := take_fol (E := E) base pf F U.head (.slice a7 S.length c7) S w8 (hLw.out _ hK8.out) hF8.out (AtG.below (EntRow.at_ hr7.out) hb8) hsn.out hOF.out.nm (by have := hOF.out.l60; have := hsl.out; omega) (by have := hOU.out.hd; omega) (Nat.le_trans hbs hK8.out.size)
  obtain ⟨tc, F', hte⟩ : ∃ tc F', takeF F U.head S = (tc, F') := ⟨_, _, rfl⟩
  have hbad := Lib.hid (fun (h : tc ≠ 0) => (show F' = F from by
    have h2 := takeF_bad (f := F) (s := U.head) (M := S) (by rw [hte]; exact h)
    rw [hte] at h2
    exact h2))
  rw [hte] at htk hw4H
  dsimp only at htk hw4H
  have htkH := Lib.hid htk
  have hS8 := Lib.hid (Nat.le_trans hbs hK8.out.size)
  clear hb8 hx2 htk hte
  go_wp2_with fail
  refine htkH.out.mono ?_
  rintro e w9 ⟨rfl, hF9, hk9⟩
  have hfin := hset.out w8 w9 F' (hTH.out.below hK8.out) (hbB.out _ hK8.out) hS8.out hF9 hk9
  cases tc with
  | succ cd =>
    have hr := hw4H.out
    rw [if_pos (Nat.succ_ne_zero cd)] at hr
    have hr := Lib.hid hr
    obtain rfl := hbad.out (Nat.succ_ne_zero cd)
    rw [hself.out] at hfin
    have hfinH := Lib.hid hfin
    have hbr := bare_err (E := E) (errV E (cd + 1)) (cd + 1) (-1) w9 (ErrAt.bare (cd + 1))
    rw [errV_succ] at hbr
    have hbrH := Lib.hid hbr
    rw [errV_succ]
    clear hF9 hk9 hfin hw4H hbr hbad
    go_wp2_with fail
    refine hbrH.out.mono ?_
    rintro e w10 ⟨rfl, rfl⟩
    go_wp2_with fail
    go_ret2
    exact ⟨PollRes.mk (by rw [hr.out]) rfl, by rw [hr.out]; exact hfinH.out.1, hfinH.out.2⟩
  | zero =>
    have hr := hw4H.out
    rw [if_neg (by simp)] at hr
    have hr := Lib.hid hr
    have hfinH := Lib.hid hfin
    have hSl := hsl.out
    rw [errV_zero]
    clear hF9 hk9 hfin hw4H
    go_wp2_with fail
    go_ret2
    exact ⟨PollRes.mk (by rw [hr.out]) rfl, by rw [hr.out]; exact hfinH.out.1, hfinH.out.2⟩
theorem allN_tok {T : List Fol} {A : List Int} (h : TOk T) (hup : ∀ i, 1 ≤ i → i < T.length → upT A i < T.length) : ∀ n, TOk (allN T A n).2
  | 0 => h
  | n + 1 => by
    rw [allN]
    exact poll_tok A n (allN_tok h hup n) (fun i h1 h2 => by rw [allN_len] at h2 ⊢; exact hup i h1 h2)
set_option maxHeartbeats 4000000 in
set_option maxRecDepth 100000 in
theorem all_tree_any {E : Nat → Addr} (base b : Nat) (ps : List Nat) (T : List Fol) (A : List Int) (w : World) (hL : LaidS E w) (hT : TreeAt w base b ps T A) (hO : TOk T) (hA : A.length = T.length) (hup : ∀ i, 1 ≤ i → i < T.length → 0 ≤ A.getD i 0 ∧ A.getD i 0 < (T.length : Int)) (hbs : base ≤ w.heap.size) (hlow : ∀ wx, Below base w wx → LaidS E wx) (h1000 : T.length ≤ 1000) :
    Calls Tryz.prog 42 #[.pointer (some ⟨b, 0, none⟩)] w fun e w' => e = .returned (.int .i64 ((allT T A).1 : Nat)) ∧ TreeAt w' base b ps (allT T A).2 A ∧ Below base w w' := by
  have hupN : ∀ i, 1 ≤ i → i < T.length → upT A i < T.length := fun i h1 h2 => by
    obtain ⟨h3, h4⟩ := hup i h1 h2
    unfold upT
    omega
  have hTH := Lib.hid hT
  have hpo := Lib.hid (fun j wx (hx : Below base w wx) (hTx : TreeAt wx base b ps (allN T A j).2 A) => poll_tree_any (E := E) base b ps (allN T A j).2 A (j : Int) wx (hlow wx hx) hTx (allN_tok hO hupN j) (by rw [allN_len]; exact hA) (fun i h1 h2 => by rw [allN_len] at h2 ⊢; exact hup i h1 h2) (Nat.le_trans hbs hx.size))
  obtain ⟨au, cu, av, cv, c0, c1, l1, l2, _, _⟩ := hT.cells
  have hln := hT.len
  unfold maxLen at l1
  rw [hln] at c0 l1
  have hle := Lib.hid (fun j => allN_le T A j)
  have hsu := Lib.hid (fun j => (show allN T A (j + 1) = (if (pollT (allN T A j).2 A j).1.2 = 0 then (allN T A j).1 + 1 else (allN T A j).1, (pollT (allN T A j).2 A j).2) from rfl))
  have hall := Lib.hid (show allT T A = allN T A T.length from rfl)
  clear c1 hT hL hO hA hup hupN hlow hln
  go_enter Tryz.func42, Tryz.ntmps42
  go_wp2_with fail
  go_loopg [3, 12] (T.length + 1) (fun g s3 s12 wr => ∃ j : Nat, s12 = .int .i64 j ∧ s3 = .int .i64 ((allN T A j).1 : Nat) ∧ j ≤ T.length ∧ T.length - j + 1 ≤ g ∧ Hid (TreeAt wr base b ps (allN T A j).2 A ∧ Below base w wr))
  case atStart => exact ⟨0, rfl, rfl, Nat.zero_le _, by omega, Lib.hid ⟨hTH.out, Below.refl _ _⟩⟩
  case round =>
    obtain ⟨j, rfl, rfl, hj, hg, hM⟩ := hrel
    by_cases hlt : j < T.length
    · have hx := hpo.out j wr hM.out.2 hM.out.1
      have hs := hsu.out j
      have hl := hle.out j
      generalize hPd : pollT (allN T A j).2 A (j : Int) = R at *
      obtain ⟨⟨rn, rc⟩, T'⟩ := R
      generalize (allN T A j).1 = m at *
      dsimp only at hx hs
      unfold PollRes at hx
      dsimp only at hx
      have hsH := Lib.hid hs
      have hxH := Lib.hid hx
      have hk1 : (j : Int) < (T.length : Int) := by omega
      have hml : (m : Int) ≤ 1000 := by omega
      clear hs hx hPd
      cases rc with
      | zero =>
        have hxH := hxH.out
        rw [errV_zero] at hxH
        have hxH := Lib.hid hxH
        go_wp2_with fail
        refine hxH.out.mono ?_
        rintro e w1 ⟨rfl, hT1, hb1⟩
        have hfin := Lib.hid (show TreeAt w1 base b ps (allN T A (j + 1)).2 A ∧ Below base w w1 from ⟨by rw [hsH.out]; exact hT1, hM.out.2.trans hb1⟩)
        have hc := Lib.hid (show (allN T A (j + 1)).1 = m + 1 by rw [hsH.out]; rfl)
        clear hT1 hb1
        go_wp2_with fail
        go_roundg (T.length - j)
        case measure => omega
        case rel => exact ⟨j + 1, by simp, by rw [hc.out]; simp, hlt, by omega, hfin⟩
      | succ cd =>
        have hxH := hxH.out
        rw [errV_succ] at hxH
        have hxH := Lib.hid hxH
        go_wp2_with fail
        refine hxH.out.mono ?_
        rintro e w1 ⟨rfl, hT1, hb1⟩
        have hfin := Lib.hid (show TreeAt w1 base b ps (allN T A (j + 1)).2 A ∧ Below base w w1 from ⟨by rw [hsH.out]; exact hT1, hM.out.2.trans hb1⟩)
        have hc := Lib.hid (show (allN T A (j + 1)).1 = m by rw [hsH.out]; rfl)
        clear hT1 hb1
        go_wp2_with fail
        go_roundg (T.length - j)
        case measure => omega
        case rel => exact ⟨j + 1, by simp, by rw [hc.out], hlt, by omega, hfin⟩
    · have hje : j = T.length := by omega
      subst hje
      have hge : ¬ ((T.length : Int) < (T.length : Int)) := by omega
      have hr := Lib.hid hall.out
      go_wp2_with fail
      go_ret
      exact ⟨ret_int (by rw [hr.out]), by rw [hr.out]; exact hM.out.1, hM.out.2⟩
end Go.Proofs.YtfbndfkahodheaaGreatDoor
