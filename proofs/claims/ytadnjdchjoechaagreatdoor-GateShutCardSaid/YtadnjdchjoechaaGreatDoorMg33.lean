/- GateV -/
import Derived.Test.YtadnjdchjoechaaGreatDoorMg31
import Derived.Test.YtadnjdchjoechaaGreatDoorMg20
import Derived.Test.YtadnjdchjoechaaGreatDoorMg24
import Derived.Test.YtadnjdchjoechaaGreatDoorMg32
import Derived.Test.YtadnjdchjoechaaGreatDoorMg9
import Derived.Deep.CutRange
import Derived.IntWalk
/- The reference's gates: NewGate, Fresh, Ask: walked. -/
namespace Go.Proofs.YtadnjdchjoechaaGreatDoor
open Go.RowKit

theorem rgate_cells {w : World} {base b pf : Nat} {g : Gat} (h : RGateAt w base b pf g) : (w.cell? ⟨b, 0, none⟩ = some (.string (bs g.name)) ∧ w.cell? ⟨b, 1, none⟩ = some (.int .i64 g.key) ∧ w.cell? ⟨b, 2, none⟩ = some (.int .i64 g.old) ∧ w.cell? ⟨b, 3, none⟩ = some (.pointer (some ⟨pf, 0, none⟩))) ∧ (w.frozen? ⟨b, 0, none⟩ = false ∧ w.frozen? ⟨b, 1, none⟩ = false ∧ w.frozen? ⟨b, 2, none⟩ = false ∧ w.frozen? ⟨b, 3, none⟩ = false) := four_kept h.blk
theorem rfol_time {w : World} {base b : Nat} {f : Fol} (h : RFolAt w base b f) : w.cell? ⟨b, 1, none⟩ = some (.int .i64 f.time) := by
  obtain ⟨_, _, h1, _⟩ := h
  exact (four_kept h1).1.2.1
/-- What NewGate answers. -/
def NewGRR (base : Nat) (w' : World) (n : List UInt8) (key realm old : Int) (e : Ending) : Prop :=
  (newG n key realm old ≠ 0 ∧ e = .returned (.tuple #[.pointer none, .int .i64 (newG n key realm old : Nat)])) ∨
  (newG n key realm old = 0 ∧ ∃ b pf, e = .returned (.tuple #[.pointer (some ⟨b, 0, none⟩), .int .i64 0]) ∧ RGateAt w' base b pf ⟨n, key, old, newFol realm⟩)
theorem NewGRR.bad {base : Nat} {w' : World} {n : List UInt8} {key realm old : Int} {c : Nat} {z : Int} (h : newG n key realm old = c) (hc : c ≠ 0) (hz : z = (c : Int)) : NewGRR base w' n key realm old (.returned (.tuple #[.pointer none, .int .i64 z])) := by
  subst h hz
  exact .inl ⟨hc, rfl⟩
set_option maxHeartbeats 4000000 in
set_option maxRecDepth 100000 in
theorem newGR_any (n : List UInt8) (key realm old : Int) (w : World) (hn : n.length ≤ maxLen) :
    Calls Tryz.prog 20 #[.string (bs n), .int .i64 key, .int .i64 realm, .int .i64 old] w fun e w' => NewGRR w.heap.size w' n key realm old e ∧ Below w.heap.size w w' := by
  have hnm := isNameR_any (bs n) w (by rw [bs_size]; exact hn)
  simp only [bs_list] at hnm
  have hdef := Lib.hid (show newG n key realm old = if isName n = false then 4 else if isKey key = false ∨ isKey realm = false then 10 else if old < 0 ∨ 1000000 < old then 2 else 0 from rfl)
  cases h1 : isName n with
  | false =>
    rw [h1] at hnm
    have hnm := Lib.hid hnm
    have hr := Lib.hid (hdef.out.trans (if_pos h1))
    clear h1
    go_enter Tryz.func20, Tryz.ntmps20
    go_wp2_with fail
    refine hnm.out.mono ?_
    rintro e w1 ⟨rfl, rfl⟩
    go_wp2_with fail
    go_ret2
    exact ⟨NewGRR.bad hr.out (by decide) rfl, Below.refl _ _⟩
  | true =>
  rw [h1] at hnm
  have hnm := Lib.hid hnm
  have hd2 := Lib.hid (hdef.out.trans (if_neg (by rw [h1]; decide)))
  have hk1 := isKey_any key w
  have hk2 := isKey_any realm w
  clear h1 hdef hn
  by_cases h2 : isKey key = false ∨ isKey realm = false
  · have hr := Lib.hid (hd2.out.trans (if_pos h2))
    cases h3 : isKey key with
    | false =>
      rw [h3] at hk1
      have hk1 := Lib.hid hk1
      have hk2 := Lib.hid hk2
      clear h2 h3
      go_enter Tryz.func20, Tryz.ntmps20
      go_wp2_with fail
      refine hnm.out.mono ?_
      rintro e w1 ⟨rfl, rfl⟩
      go_wp2_with fail
      refine hk1.out.mono ?_
      rintro e w1 ⟨rfl, rfl⟩
      go_wp2_with fail
      refine hk2.out.mono ?_
      rintro e w1 ⟨rfl, rfl⟩
      go_wp2_with fail
      go_ret2
      exact ⟨NewGRR.bad hr.out (by decide) rfl, Below.refl _ _⟩
    | true =>
      have h4 : isKey realm = false := by
        rcases h2 with h | h
        · rw [h3] at h; cases h
        · exact h
      rw [h3] at hk1
      rw [h4] at hk2
      have hk1 := Lib.hid hk1
      have hk2 := Lib.hid hk2
      clear h2 h3 h4
      go_enter Tryz.func20, Tryz.ntmps20
      go_wp2_with fail
      refine hnm.out.mono ?_
      rintro e w1 ⟨rfl, rfl⟩
      go_wp2_with fail
      refine hk1.out.mono ?_
      rintro e w1 ⟨rfl, rfl⟩
      go_wp2_with fail
      refine hk2.out.mono ?_
      rintro e w1 ⟨rfl, rfl⟩
      go_wp2_with fail
      go_ret2
      exact ⟨NewGRR.bad hr.out (by decide) rfl, Below.refl _ _⟩
  have h3 : isKey key = true := by
    cases h : isKey key with
    | true => rfl
    | false => exact absurd (.inl h) h2
  have h4 : isKey realm = true := by
    cases h : isKey realm with
    | true => rfl
    | false => exact absurd (.inr h) h2
  have hd3 := Lib.hid (hd2.out.trans (if_neg h2))
  rw [h3] at hk1
  rw [h4] at hk2
  have hk1 := Lib.hid hk1
  have hk2 := Lib.hid hk2
  clear h2 h3 h4
  by_cases h5 : old < 0 ∨ 1000000 < old
  · have hr := Lib.hid (hd3.out.trans (if_pos h5))
    by_cases h6 : old < 0
    all_goals
      (try have h7 : 1000000 < old := by omega)
      clear h5
      go_enter Tryz.func20, Tryz.ntmps20
      go_wp2_with fail
      refine hnm.out.mono ?_
      rintro e w1 ⟨rfl, rfl⟩
      go_wp2_with fail
      refine hk1.out.mono ?_
      rintro e w1 ⟨rfl, rfl⟩
      go_wp2_with fail
      refine hk2.out.mono ?_
      rintro e w1 ⟨rfl, rfl⟩
      go_wp2_with fail
      go_ret2
      exact ⟨NewGRR.bad hr.out (by decide) rfl, Below.refl _ _⟩
  · have hr := Lib.hid (hd3.out.trans (if_neg h5))
    have h6 : ¬ old < 0 := by omega
    have h7 : ¬ 1000000 < old := by omega
    have hfin := Lib.hid (show RGateAt ((w.alloc (.cells #[.int .i64 realm, .int .i64 (-1), .slice none 0 0, .string ⟨#[]⟩] 69)).alloc (.cells #[.string (bs n), .int .i64 key, .int .i64 old, .pointer (some ⟨w.heap.size, 0, none⟩)] 62)) w.heap.size (w.heap.size + 1) w.heap.size ⟨n, key, old, newFol realm⟩ from
      ⟨by omega, by
        have h := heap_alloc_new (w.alloc (.cells #[.int .i64 realm, .int .i64 (-1), .slice none 0 0, .string ⟨#[]⟩] 69)) (.cells #[.string (bs n), .int .i64 key, .int .i64 old, .pointer (some ⟨w.heap.size, 0, none⟩)] 62)
        rwa [World.size_alloc] at h, (rfol_new w realm).below ((Below.refl _ _).alloc (Nat.le_refl _) _)⟩)
    have hbl := Lib.hid (show Below w.heap.size w ((w.alloc (.cells #[.int .i64 realm, .int .i64 (-1), .slice none 0 0, .string ⟨#[]⟩] 69)).alloc (.cells #[.string (bs n), .int .i64 key, .int .i64 old, .pointer (some ⟨w.heap.size, 0, none⟩)] 62)) from ((Below.refl _ _).alloc (Nat.le_refl _) _).alloc (by rw [World.size_alloc]; omega) _)
    clear h5
    go_enter Tryz.func20, Tryz.ntmps20
    go_wp2_with fail
    refine hnm.out.mono ?_
    rintro e w1 ⟨rfl, rfl⟩
    go_wp2_with fail
    refine hk1.out.mono ?_
    rintro e w1 ⟨rfl, rfl⟩
    go_wp2_with fail
    refine hk2.out.mono ?_
    rintro e w1 ⟨rfl, rfl⟩
    go_wp2_with fail
    go_ret2
    exact ⟨.inr ⟨hr.out, _, _, rfl, hfin.out⟩, hbl.out⟩
set_option maxHeartbeats 8000000 in
set_option maxRecDepth 100000 in
theorem freshR_any (base b pf : Nat) (g : Gat) (now : Int) (w : World) (hG : RGateAt w base b pf g) (hO : GOk g) :
    Calls Tryz.prog 27 #[.pointer (some ⟨b, 0, none⟩), .int .i64 now] w fun e w' => e = .returned (.int .i64 (freshG g now : Nat)) ∧ Below w.heap.size w w' := by
  have hdef := Lib.hid (show freshG g now = if now < 0 ∨ 1000000 < now then 2 else if g.f.time < 0 ∨ g.f.time < now - g.old then 14 else 0 from rfl)
  by_cases h1 : now < 0 ∨ 1000000 < now
  · have hr := Lib.hid (hdef.out.trans (if_pos h1))
    by_cases h2 : now < 0
    all_goals
      (try have h3 : 1000000 < now := by omega)
      clear h1 hG
      go_enter Tryz.func27, Tryz.ntmps27
      go_wp2_with fail
      go_ret
      exact ⟨ret_int (by rw [hr.out]; rfl), Below.refl _ _⟩
  have hd2 := Lib.hid (hdef.out.trans (if_neg h1))
  have h2 : ¬ now < 0 := by omega
  have h3 : ¬ 1000000 < now := by omega
  have ho0 := hO.o0
  have ho1 := hO.o1
  have hi := IntWalk.i64_in (now - g.old) (by omega)
  obtain ⟨⟨k0, k1, k2, k3⟩, _⟩ := rgate_cells hG
  have x1 := rfol_time hG.fol
  generalize g.old = old at *
  generalize g.f.time = ft at *
  clear h1 hG hdef k0 k1 hO
  by_cases h4 : ft < 0
  · have hr := Lib.hid (hd2.out.trans (if_pos (.inl h4)))
    go_enter Tryz.func27, Tryz.ntmps27
    go_wp2_with fail
    go_quiet (fail)
    go_wp2_with fail
    go_ret
    exact ⟨ret_int (by rw [hr.out]; rfl), below_drawn (Below.refl _ _) _⟩
  by_cases h5 : ft < now - old
  · have hr := Lib.hid (hd2.out.trans (if_pos (.inr h5)))
    go_enter Tryz.func27, Tryz.ntmps27
    go_wp2_with fail
    go_quiet (fail)
    go_wp2_with fail
    go_ret
    exact ⟨ret_int (by rw [hr.out]; rfl), below_drawn (Below.refl _ _) _⟩
  · have hr := Lib.hid (hd2.out.trans (if_neg (by omega)))
    go_enter Tryz.func27, Tryz.ntmps27
    go_wp2_with fail
    go_quiet (fail)
    go_wp2_with fail
    go_ret
    exact ⟨ret_int (by rw [hr.out]; rfl), below_drawn (Below.refl _ _) _⟩
/-- What the reference's Ask answers. -/
def AskRR (r : Tick × Nat) (e : Ending) : Prop := e = .returned (.tuple #[r.1.val, .int .i64 (r.2 : Int)])
theorem AskRR.mk {r : Tick × Nat} {t : Tick} {c : Nat} {z : Int} {w1 s1 : Value} {a1 a2 a3 a4 : Int} (h : r = (t, c)) (hz : z = (c : Int)) (ht : t.val = .agg #[w1, s1, .int .i64 a1, .int .i64 a2, .int .i64 a3, .int .i64 a4]) : AskRR r (.returned (.tuple #[.agg #[w1, s1, .int .i64 a1, .int .i64 a2, .int .i64 a3, .int .i64 a4], .int .i64 z])) := by
  subst h hz
  rw [← ht]
  rfl
set_option maxHeartbeats 16000000 in
set_option maxRecDepth 100000 in
theorem askR_any (base b pf : Nat) (g : Gat) (s : List UInt8) (now : Int) (w : World) (hG : RGateAt w base b pf g) (hO : GOk g) (hs : s.length ≤ 1000000) :
    Calls Tryz.prog 26 #[.pointer (some ⟨b, 0, none⟩), .string (bs s), .int .i64 now] w fun e w' => AskRR (askG g s now) e ∧ Below w.heap.size w w' := by
  have hB : Below w.heap.size w (w.alloc (.cells #[.string ⟨#[]⟩, .string ⟨#[]⟩, .int .i64 0, .int .i64 0, .int .i64 0, .int .i64 0] 25)) := (Below.refl _ _).alloc (Nat.le_refl _) _
  have hbr := Lib.hid (heap_alloc_new w (.cells #[.string ⟨#[]⟩, .string ⟨#[]⟩, .int .i64 0, .int .i64 0, .int .i64 0, .int .i64 0] 25))
  have hGw := Lib.hid (fun wx (hx : Below w.heap.size w wx) => hG.below hx)
  have hfr := Lib.hid (fun wx (hx : Below w.heap.size w wx) => freshR_any base b pf g now wx (hG.below hx) hO)
  have hop := fun wx (hx : Below w.heap.size w wx) => openR_tick g.key (bs s) wx (by rw [bs_size]; exact hs)
  simp only [bs_list] at hop
  have hgd := Lib.hid (fun t wx (hx : Below w.heap.size w wx) (hl : TickLen t) => goodR_tick t now wx hl)
  have hfl := Lib.hid (fun wx (hx : Below w.heap.size w wx) => floorsR_fol base pf g.f wx (hG.below hx).fol hO.f)
  have hps := Lib.hid (fun v n wx (hv : FloorsAt wx v g.f.floors) => ofR_flo v g.f.floors n wx hv (by have h := (floorsE_good (L := g.f.l) (by rw [hO.f.ok.ok])).g; rw [hO.f.ok.ok] at h; exact h))
  have hq1 := Lib.hid (fun h => askG_stale (g := g) (s := s) (now := now) h)
  have hq2 := Lib.hid (fun h h2 => askG_open (g := g) (s := s) (now := now) h h2)
  have hq3 := Lib.hid (fun h h2 h3 => askG_name (g := g) (s := s) (now := now) h h2 h3)
  have hq4 := Lib.hid (fun h h2 h3 h4 => askG_good (g := g) (s := s) (now := now) h h2 h3 h4)
  have hq5 := Lib.hid (fun h h2 h3 h4 h5 => askG_floor (g := g) (s := s) (now := now) h h2 h3 h4 h5)
  have hq6 := Lib.hid (fun h h2 h3 h4 h5 => askG_pass (g := g) (s := s) (now := now) h h2 h3 h4 h5)
  have hol := openT_len g.key s
  replace hop := Lib.hid hop
  have hBH := Lib.hid hB
  have hnl := hO.n
  generalize askG g s now = R at *
  generalize openT g.key s = O at *
  obtain ⟨ot, oc⟩ := O
  dsimp only at hol hop hq2 hq3 hq4 hq5 hq6
  have hgd := Lib.hid (fun wx hx => hgd.out ot wx hx ⟨by unfold maxLen; omega, by unfold maxLen; omega⟩)
  generalize hfc : freshG g now = fc at *
  have hgcd := goodT_code ot now
  generalize hgc : goodT ot now = gc at *
  clear hG hs hB hfc hgc
  have hrow : ∀ wx, Below (w.alloc (.cells #[.string ⟨#[]⟩, .string ⟨#[]⟩, .int .i64 0, .int .i64 0, .int .i64 0, .int .i64 0] 25)).heap.size (w.alloc (.cells #[.string ⟨#[]⟩, .string ⟨#[]⟩, .int .i64 0, .int .i64 0, .int .i64 0, .int .i64 0] 25)) wx → wx.heap[w.heap.size]? = some (.cells #[.string ⟨#[]⟩, .string ⟨#[]⟩, .int .i64 0, .int .i64 0, .int .i64 0, .int .i64 0] 25 (0, 0)) := fun wx hx => heap_below hx hbr.out
  have hrowH := Lib.hid hrow
  clear hrow
  by_cases hf0 : fc = 0
  case neg =>
    have hfr1 := hfr.out _ hBH.out
    have hz1 : (0 : Int) < (fc : Int) := by omega
    generalize hzd : (fc : Int) = zi at *
    have hzd := Lib.hid hzd
    replace hfr1 := Lib.hid hfr1
    have hr := Lib.hid (hq1.out hf0)
    clear hf0
    go_enter Tryz.func26, Tryz.ntmps26
    go_wp2_with fail
    refine hfr1.out.mono ?_
    rintro e w1 ⟨rfl, hb1⟩
    have hrr := hrowH.out _ hb1
    have hb := Lib.hid (below_trans hBH.out hb1)
    clear hb1
    obtain ⟨⟨r0, r1, r2, r3, r4, r5⟩, f0, f1, f2, f3, f4, f5⟩ := tick_kept (Below.refl _ _) hrr
    have hfin := Lib.hid (below_set6 (n := w.heap.size) hb.out (Nat.le_refl _) (.string ⟨#[]⟩) (.string ⟨#[]⟩) (.int .i64 0) (.int .i64 0) (.int .i64 0) (.int .i64 0))
    have hrrH := Lib.hid hrr
    clear hrr
    go_wp2_with fail
    obtain ⟨⟨q0, q1, q2, q3, q4, q5⟩, _⟩ := tick_kept (Below.refl _ _) (row_set6 hrrH.out (.string ⟨#[]⟩) (.string ⟨#[]⟩) (.int .i64 0) (.int .i64 0) (.int .i64 0) (.int .i64 0))
    exact bodyPost_ret (v := .tuple #[.agg #[.string ⟨#[]⟩, .string ⟨#[]⟩, .int .i64 0, .int .i64 0, .int .i64 0, .int .i64 0], .int .i64 zi]) (by simp [results, Tryz.results26, go_sem, q0, q1, q2, q3, q4, q5]) rfl ⟨AskRR.mk hr.out hzd.out.symm rfl, by first | exact hfin.out | exact hfin.out.drew⟩
  subst hf0
  have hfr1 := hfr.out _ hBH.out
  replace hfr1 := Lib.hid hfr1
  replace hq2 := Lib.hid (hq2.out rfl)
  replace hq3 := Lib.hid (hq3.out rfl)
  replace hq4 := Lib.hid (hq4.out rfl)
  replace hq5 := Lib.hid (hq5.out rfl)
  replace hq6 := Lib.hid (hq6.out rfl)
  obtain ⟨who, svc, ep, bg, fn, sr⟩ := ot
  dsimp only [Tick.val] at hol hop hgd hq2 hq3 hq4 hq5 hq6
  clear hq1 hfr
  go_enter Tryz.func26, Tryz.ntmps26
  go_wp2_with fail
  refine hfr1.out.mono ?_
  rintro e w1 ⟨rfl, hb1⟩
  have hK1 := Lib.hid hb1
  obtain ⟨⟨k0, k1, k2, k3⟩, _⟩ := rgate_cells (hGw.out _ (below_trans hBH.out hb1))
  have hop1 := hop.out w1 (below_trans hBH.out hb1)
  clear hb1 hop k0 k2 k3
  by_cases ho0 : oc = 0
  case neg =>
    have hz1 : (0 : Int) < (oc : Int) := by omega
    generalize hzd : (oc : Int) = zi at *
    have hzd := Lib.hid hzd
    replace hop1 := Lib.hid hop1
    have hr := Lib.hid (hq2.out ho0)
    clear ho0
    go_wp2_with fail
    refine hop1.out.mono ?_
    rintro e w2 ⟨rfl, hb2⟩
    have hx3 := (below_trans hK1.out hb2).alloc (below_trans hK1.out hb2).size (.cells #[.string (bs who), .string (bs svc), .int .i64 ep, .int .i64 bg, .int .i64 fn, .int .i64 sr] 25)
    have hrr := hrowH.out _ hx3
    have hb := Lib.hid (below_trans hBH.out hx3)
    clear hb2 hx3
    go_upto_region 6 with fail
    generalize w2.alloc (.cells #[.string (bs who), .string (bs svc), .int .i64 ep, .int .i64 bg, .int .i64 fn, .int .i64 sr] 25) = W3 at *
    obtain ⟨⟨r0, r1, r2, r3, r4, r5⟩, f0, f1, f2, f3, f4, f5⟩ := tick_kept (Below.refl _ _) hrr
    have hfin := Lib.hid (below_set6 (n := w.heap.size) hb.out (Nat.le_refl _) (.string ⟨#[]⟩) (.string ⟨#[]⟩) (.int .i64 0) (.int .i64 0) (.int .i64 0) (.int .i64 0))
    have hrrH := Lib.hid hrr
    clear hrr
    go_wp2_with fail
    obtain ⟨⟨q0, q1, q2, q3, q4, q5⟩, _⟩ := tick_kept (Below.refl _ _) (row_set6 hrrH.out (.string ⟨#[]⟩) (.string ⟨#[]⟩) (.int .i64 0) (.int .i64 0) (.int .i64 0) (.int .i64 0))
    exact bodyPost_ret (v := .tuple #[.agg #[.string ⟨#[]⟩, .string ⟨#[]⟩, .int .i64 0, .int .i64 0, .int .i64 0, .int .i64 0], .int .i64 zi]) (by simp [results, Tryz.results26, go_sem, q0, q1, q2, q3, q4, q5]) rfl ⟨AskRR.mk hr.out hzd.out.symm rfl, by first | exact hfin.out | exact hfin.out.drew⟩
  subst ho0
  replace hop1 := Lib.hid hop1
  replace hq3 := Lib.hid (hq3.out rfl)
  replace hq4 := Lib.hid (hq4.out rfl)
  replace hq5 := Lib.hid (hq5.out rfl)
  replace hq6 := Lib.hid (hq6.out rfl)
  clear hq2
  go_wp2_with fail
  refine hop1.out.mono ?_
  rintro e w2 ⟨rfl, hb2⟩
  have hx3 := (below_trans hK1.out hb2).alloc (below_trans hK1.out hb2).size (.cells #[.string (bs who), .string (bs svc), .int .i64 ep, .int .i64 bg, .int .i64 fn, .int .i64 sr] 25)
  have hK3 := Lib.hid hx3
  have hbx := heap_alloc_new w2 (.cells #[.string (bs who), .string (bs svc), .int .i64 ep, .int .i64 bg, .int .i64 fn, .int .i64 sr] 25)
  clear hb2 hx3 k1 hop1
  go_upto_region 7 with fail
  generalize hxd : w2.heap.size = xb at *
  generalize w2.alloc (.cells #[.string (bs who), .string (bs svc), .int .i64 ep, .int .i64 bg, .int .i64 fn, .int .i64 sr] 25) = W3 at *
  have hbxH := Lib.hid (fun wx (hx : Below W3.heap.size W3 wx) => (tick_kept hx hbx).1)
  have hcl := Lib.hid (fun wx (hx : Below W3.heap.size W3 wx) => (rgate_cells (hGw.out _ (below_trans hBH.out (below_trans hK3.out hx)))).1)
  have hrw := Lib.hid (fun wx (hx : Below W3.heap.size W3 wx) => hrowH.out _ (below_trans hK3.out hx))
  have hBw := Lib.hid (fun wx (hx : Below W3.heap.size W3 wx) => below_trans hBH.out (below_trans hK3.out hx))
  clear hbx hxd
  obtain ⟨k0, k1, k2, k3⟩ := hcl.out _ (Below.refl _ _)
  obtain ⟨x0, x1, x2, x3, x4, x5⟩ := hbxH.out _ (Below.refl _ _)
  go_cut [36] from 30 to 36 (fun s36 wx => s36 = .bool (decide (svc ≠ g.name)) ∧ Hid (Below W3.heap.size W3 wx))
  case first =>
    by_cases hse : svc = g.name
    · have hdH := Lib.hid (show decide (svc ≠ g.name) = false from decide_eq_false (fun h => h hse))
      have e1 : ((bs svc).toList == (bs g.name).toList) = true := by rw [bs_same]; exact decide_eq_true hse
      have e2 : (bs svc).toList = (bs g.name).toList := by rw [hse]
      have e3 : ((bs svc).toList != (bs g.name).toList) = false := by rw [bne, e1]; rfl
      clear hse
      go_quiet (fail)
      go_wp2_with fail
      go_meet
      exact ⟨by rw [hdH.out], Lib.hid (below_drawn (Below.refl _ _) _)⟩
    · have hdH := Lib.hid (show decide (svc ≠ g.name) = true from decide_eq_true hse)
      have e1 : ((bs svc).toList == (bs g.name).toList) = false := by rw [bs_same]; exact decide_eq_false hse
      have e2 : ¬ (bs svc).toList = (bs g.name).toList := by rw [toList_data, toList_data, bs_list, bs_list]; exact hse
      have e3 : ((bs svc).toList != (bs g.name).toList) = true := by rw [bne, e1]; rfl
      clear hse
      go_quiet (fail)
      go_wp2_with fail
      go_meet
      exact ⟨by rw [hdH.out], Lib.hid (below_drawn (Below.refl _ _) _)⟩
  obtain ⟨rfl, hC4⟩ := hcut
  clear k0 k1 k2 k3 x0 x1 x2 x3 x4 x5
  by_cases hse : svc = g.name
  case neg =>
    have hr := Lib.hid (hq3.out hse)
    rw [show decide (svc ≠ g.name) = true from decide_eq_true hse]
    have hrr := hrw.out _ hC4.out
    have hb := Lib.hid (hBw.out _ hC4.out)
    clear hse
    obtain ⟨⟨r0, r1, r2, r3, r4, r5⟩, f0, f1, f2, f3, f4, f5⟩ := tick_kept (Below.refl _ _) hrr
    have hfin := Lib.hid (below_set6 (n := w.heap.size) hb.out (Nat.le_refl _) (.string ⟨#[]⟩) (.string ⟨#[]⟩) (.int .i64 0) (.int .i64 0) (.int .i64 0) (.int .i64 0))
    have hrrH := Lib.hid hrr
    clear hrr
    go_wp2_with fail
    obtain ⟨⟨q0, q1, q2, q3, q4, q5⟩, _⟩ := tick_kept (Below.refl _ _) (row_set6 hrrH.out (.string ⟨#[]⟩) (.string ⟨#[]⟩) (.int .i64 0) (.int .i64 0) (.int .i64 0) (.int .i64 0))
    exact bodyPost_ret (v := .tuple #[.agg #[.string ⟨#[]⟩, .string ⟨#[]⟩, .int .i64 0, .int .i64 0, .int .i64 0, .int .i64 0], .int .i64 4]) (by simp [results, Tryz.results26, go_sem, q0, q1, q2, q3, q4, q5]) rfl ⟨AskRR.mk hr.out rfl rfl, by first | exact hfin.out | exact hfin.out.drew⟩
  rw [show decide (svc ≠ g.name) = false from decide_eq_false (fun h => h hse)]
  replace hq4 := Lib.hid (hq4.out hse)
  replace hq5 := Lib.hid (hq5.out hse)
  replace hq6 := Lib.hid (hq6.out hse)
  clear hq3 hse
  have hgd4 := hgd.out _ (hBw.out _ hC4.out)
  obtain ⟨x0, x1, x2, x3, x4, x5⟩ := hbxH.out _ hC4.out
  by_cases hg0 : gc = 0
  case neg =>
    have hz1 : (0 : Int) < (gc : Int) := by omega
    generalize hzd : (gc : Int) = zi at *
    have hzd := Lib.hid hzd
    replace hgd4 := Lib.hid hgd4
    have hr := Lib.hid (hq4.out hg0)
    clear hg0
    go_wp2_with fail
    refine hgd4.out.mono ?_
    rintro e w5 ⟨rfl, hb5⟩
    have hC5 := Lib.hid (below_trans hC4.out hb5)
    have hrr := hrw.out _ hC5.out
    have hb := Lib.hid (hBw.out _ hC5.out)
    clear hb5 x0 x1 x2 x3 x4 x5
    obtain ⟨⟨r0, r1, r2, r3, r4, r5⟩, f0, f1, f2, f3, f4, f5⟩ := tick_kept (Below.refl _ _) hrr
    have hfin := Lib.hid (below_set6 (n := w.heap.size) hb.out (Nat.le_refl _) (.string ⟨#[]⟩) (.string ⟨#[]⟩) (.int .i64 0) (.int .i64 0) (.int .i64 0) (.int .i64 0))
    have hrrH := Lib.hid hrr
    clear hrr
    go_wp2_with fail
    obtain ⟨⟨q0, q1, q2, q3, q4, q5⟩, _⟩ := tick_kept (Below.refl _ _) (row_set6 hrrH.out (.string ⟨#[]⟩) (.string ⟨#[]⟩) (.int .i64 0) (.int .i64 0) (.int .i64 0) (.int .i64 0))
    exact bodyPost_ret (v := .tuple #[.agg #[.string ⟨#[]⟩, .string ⟨#[]⟩, .int .i64 0, .int .i64 0, .int .i64 0, .int .i64 0], .int .i64 zi]) (by simp [results, Tryz.results26, go_sem, q0, q1, q2, q3, q4, q5]) rfl ⟨AskRR.mk hr.out hzd.out.symm rfl, by first | exact hfin.out | exact hfin.out.drew⟩
  subst hg0
  replace hgd4 := Lib.hid hgd4
  replace hq5 := Lib.hid (hq5.out rfl)
  replace hq6 := Lib.hid (hq6.out rfl)
  clear hq4
  go_wp2_with fail
  refine hgd4.out.mono ?_
  rintro e w5 ⟨rfl, hb5⟩
  have hC5 := Lib.hid (below_trans hC4.out hb5)
  clear hb5 x0 x1 x2 x3 x4 x5 hgd4
  go_upto_region 12 with fail
  have hkS := Lib.hid (fun wx (hx : Below w5.heap.size w5 wx) => (show wx.cell? ⟨b, 3, none⟩ = some (.pointer (some ⟨pf, 0, none⟩)) ∧ wx.cell? ⟨xb, 0, none⟩ = some (.string (bs who)) ∧ wx.cell? ⟨xb, 2, none⟩ = some (.int .i64 ep) from ⟨(hcl.out _ (below_trans hC5.out hx)).2.2.2, (hbxH.out _ (below_trans hC5.out hx)).1, (hbxH.out _ (below_trans hC5.out hx)).2.2.1⟩))
  have hD0 := Lib.hid (show Below w5.heap.size w5 w5.drew from (Below.refl _ _).drew)
  have hcD := hkS.out _ hD0.out
  have hfl6 := Lib.hid (hfl.out _ (hBw.out _ (below_trans hC5.out hD0.out)))
  clear hfl
  go_cut [55] from 45 to 55 (fun s55 wx => s55 = .bool (decide (ep < ofF g.f.floors who)) ∧ Hid (Below w5.heap.size w5 wx))
  case first =>
    refine wp_region_noPanic ?_
    refine wp_region_held_drew (S := fun w' => w'.cell? ⟨b, 3, none⟩ = some (.pointer (some ⟨pf, 0, none⟩)) ∧ w'.cell? ⟨xb, 0, none⟩ = some (.string (bs who)) ∧ w'.cell? ⟨xb, 2, none⟩ = some (.int .i64 ep)) (by kernel_rfl) ?_ (fun hHeld => ?_)
    · exact hcD
    refine' held_take (i := 0) (d := some 45) (v := _) rfl rfl (by kernel_rfl) (by kernel_rfl) (by kernel_rfl) (fun _ _ _ h => h) rfl (by assumption) ?hy_1 ?re_1
    case hy_1 =>
      intro w hSw
      try dsimp only at hSw
      go_simp
      try with_reducible rfl
    simp only [Act.put, List.setIfInBounds_toArray, List.set_cons_zero, List.set_cons_succ]
    refine' held_take (i := 1) (d := some 46) (v := _) rfl rfl (by kernel_rfl) (by kernel_rfl) (by kernel_rfl) (fun _ _ _ h => h) rfl (by assumption) ?hy_2 ?re_2
    case hy_2 =>
      intro w hSw
      try dsimp only at hSw
      go_simp
      try with_reducible rfl
    simp only [Act.put, List.setIfInBounds_toArray, List.set_cons_zero, List.set_cons_succ]
    refine' held_take (i := 2) (d := some 47) (v := _) rfl rfl (by kernel_rfl) (by kernel_rfl) (by kernel_rfl) (fun _ _ _ h => h) rfl (by assumption) ?hy_3 ?re_3
    case hy_3 =>
      intro w hSw
      try dsimp only at hSw
      go_simp
      try with_reducible rfl
    simp only [Act.put, List.setIfInBounds_toArray, List.set_cons_zero, List.set_cons_succ]
    refine' held_take (i := 3) (d := some 48) (v := _) rfl rfl (by kernel_rfl) (by kernel_rfl) (by kernel_rfl) (fun _ _ _ h => h) rfl (by assumption) ?hy_4 ?re_4
    case hy_4 =>
      intro w hSw
      try dsimp only at hSw
      go_simp
      try with_reducible rfl
    simp only [Act.put, List.setIfInBounds_toArray, List.set_cons_zero, List.set_cons_succ]
    refine' held_take (i := 4) (d := some 49) (v := _) rfl rfl (by kernel_rfl) (by kernel_rfl) (by kernel_rfl) (fun _ _ _ h => h) rfl (by assumption) ?hy_5 ?re_5
    case hy_5 =>
      intro w hSw
      try dsimp only at hSw
      go_simp
      try with_reducible rfl
    simp only [Act.put, List.setIfInBounds_toArray, List.set_cons_zero, List.set_cons_succ]
    refine' held_take (i := 5) (d := some 50) (v := _) rfl rfl (by kernel_rfl) (by kernel_rfl) (by kernel_rfl) (fun _ _ _ h => h) rfl (by assumption) ?hy_6 ?re_6
    case hy_6 =>
      intro w hSw
      try dsimp only at hSw
      go_simp
      try with_reducible rfl
    simp only [Act.put, List.setIfInBounds_toArray, List.set_cons_zero, List.set_cons_succ]
    refine' held_take (i := 7) (d := some 52) (v := _) rfl rfl (by kernel_rfl) (by kernel_rfl) (by kernel_rfl) (fun _ _ _ h => h) rfl (by assumption) ?hy_7 ?re_7
    case hy_7 =>
      intro w hSw
      try dsimp only at hSw
      go_simp
      try with_reducible rfl
    simp only [Act.put, List.setIfInBounds_toArray, List.set_cons_zero, List.set_cons_succ]
    refine' held_take (i := 8) (d := some 53) (v := _) rfl rfl (by kernel_rfl) (by kernel_rfl) (by kernel_rfl) (fun _ _ _ h => h) rfl (by assumption) ?hy_8 ?re_8
    case hy_8 =>
      intro w hSw
      try dsimp only at hSw
      go_simp
      try with_reducible rfl
    simp only [Act.put, List.setIfInBounds_toArray, List.set_cons_zero, List.set_cons_succ]
    refine wpAnyH_ready (rs := [6]) (by kernel_rfl) (by simp) ?_
    refine AllReadyH.cons rfl (fun K hK => ?_) AllReadyH.nil
    go_simp
    refine hfl6.out.mono ?_
    rintro e w6 ⟨v6, rfl, hv6, hb⟩
    have hps6 := Lib.hid (hps.out v6 who w6 hv6)
    have hD1 := Lib.hid (below_trans hD0.out hb)
    clear hb hv6
    go_wp2_with fail
    refine hK.out _ _ ?_ (fun hHeld => ?_)
    · exact hkS.out _ hD1.out
    clear hK K
    try simp only [Act.put, List.setIfInBounds_toArray, List.set_cons_zero, List.set_cons_succ]
    refine wpAnyH_ready (rs := [9]) (by kernel_rfl) (by simp) ?_
    refine AllReadyH.cons rfl (fun K hK => ?_) AllReadyH.nil
    go_simp
    refine hps6.out.mono ?_
    rintro e w7 ⟨rfl, rfl⟩
    go_wp2_with fail
    refine hK.out _ _ ?_ (fun hHeld => ?_)
    · exact hkS.out _ hD1.out
    clear hK K
    try simp only [Act.put, List.setIfInBounds_toArray, List.set_cons_zero, List.set_cons_succ]
    refine' held_take (i := 10) (d := some 55) (v := _) rfl rfl (by kernel_rfl) (by kernel_rfl) (by kernel_rfl) (fun _ _ _ h => h) rfl (by assumption) ?hy_9 ?re_9
    case hy_9 =>
      intro w hSw
      try dsimp only at hSw
      go_simp
      try with_reducible rfl
    simp only [Act.put, List.setIfInBounds_toArray, List.set_cons_zero, List.set_cons_succ]
    refine wpAnyH_done (by kernel_rfl) ?_ _
    refine NoPanic.normal ?_
    go_wp2_with fail
    go_meet
    exact ⟨rfl, hD1⟩
  obtain ⟨rfl, hC6'⟩ := hcut
  have hC6 := Lib.hid (below_trans hC5.out hC6'.out)
  clear hkS hcD hfl6 hC6'
  by_cases h5 : ep < ofF g.f.floors who
  · have hr := Lib.hid (hq5.out h5)
    rw [decide_eq_true h5]
    have hrr := hrw.out _ hC6.out
    have hb := Lib.hid (hBw.out _ hC6.out)
    clear h5
    obtain ⟨⟨r0, r1, r2, r3, r4, r5⟩, f0, f1, f2, f3, f4, f5⟩ := tick_kept (Below.refl _ _) hrr
    have hfin := Lib.hid (below_set6 (n := w.heap.size) hb.out (Nat.le_refl _) (.string ⟨#[]⟩) (.string ⟨#[]⟩) (.int .i64 0) (.int .i64 0) (.int .i64 0) (.int .i64 0))
    have hrrH := Lib.hid hrr
    clear hrr
    go_wp2_with fail
    obtain ⟨⟨q0, q1, q2, q3, q4, q5⟩, _⟩ := tick_kept (Below.refl _ _) (row_set6 hrrH.out (.string ⟨#[]⟩) (.string ⟨#[]⟩) (.int .i64 0) (.int .i64 0) (.int .i64 0) (.int .i64 0))
    exact bodyPost_ret (v := .tuple #[.agg #[.string ⟨#[]⟩, .string ⟨#[]⟩, .int .i64 0, .int .i64 0, .int .i64 0, .int .i64 0], .int .i64 13]) (by simp [results, Tryz.results26, go_sem, q0, q1, q2, q3, q4, q5]) rfl ⟨AskRR.mk hr.out rfl rfl, by first | exact hfin.out | exact hfin.out.drew⟩
  · have hr := Lib.hid (hq6.out (by omega))
    rw [decide_eq_false h5]
    have hrr := hrw.out _ hC6.out
    have hb := Lib.hid (hBw.out _ hC6.out)
    obtain ⟨x0, x1, x2, x3, x4, x5⟩ := hbxH.out _ hC6.out
    clear h5
    obtain ⟨⟨r0, r1, r2, r3, r4, r5⟩, f0, f1, f2, f3, f4, f5⟩ := tick_kept (Below.refl _ _) hrr
    have hfin := Lib.hid (below_set6 (n := w.heap.size) hb.out (Nat.le_refl _) (.string (bs who)) (.string (bs svc)) (.int .i64 ep) (.int .i64 bg) (.int .i64 fn) (.int .i64 sr))
    have hrrH := Lib.hid hrr
    clear hrr
    go_wp2_with fail
    obtain ⟨⟨q0, q1, q2, q3, q4, q5⟩, _⟩ := tick_kept (Below.refl _ _) (row_set6 hrrH.out (.string (bs who)) (.string (bs svc)) (.int .i64 ep) (.int .i64 bg) (.int .i64 fn) (.int .i64 sr))
    exact bodyPost_ret (v := .tuple #[.agg #[.string (bs who), .string (bs svc), .int .i64 ep, .int .i64 bg, .int .i64 fn, .int .i64 sr], .int .i64 0]) (by simp [results, Tryz.results26, go_sem, q0, q1, q2, q3, q4, q5]) rfl ⟨AskRR.mk hr.out rfl rfl, by first | exact hfin.out | exact hfin.out.drew⟩
end Go.Proofs.YtadnjdchjoechaaGreatDoor
