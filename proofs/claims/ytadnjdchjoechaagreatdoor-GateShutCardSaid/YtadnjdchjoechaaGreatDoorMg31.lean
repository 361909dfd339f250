/- TickL, Gated, GateR, TickR -/
import Derived.Test.YtadnjdchjoechaaGreatDoorMg28
import Derived.Test.YtadnjdchjoechaaGreatDoorMg30
import Derived.Test.YtadnjdchjoechaaGreatDoorMg14
import Derived.Test.YtadnjdchjoechaaGreatDoorMg27
import Derived.Test.YtadnjdchjoechaaGreatDoorMg29
import Derived.Test.YtadnjdchjoechaaGreatDoorMg18
import Derived.Test.YtadnjdchjoechaaGreatDoorMg6
/- LongTicket, walked. -/
namespace Go.Proofs.YtadnjdchjoechaaGreatDoor
open Go.RowKit

def longT (t : Tick) : Int := if 20 < t.who.length ∨ 20 < t.svc.length then 1 else 0
set_option maxRecDepth 100000 in
theorem longTicket_any (t : Tick) (w : World) (hl : TickLen t) :
    Calls Tryz.prog 8 #[t.val] w fun e w' => e = .returned (.int .i64 (longT t)) ∧ Below w.heap.size w w' := by
  have hB : Below w.heap.size w (w.alloc (.cells t.cells 25)) := (Below.refl _ _).alloc (Nat.le_refl _) _
  have hlt : longT t = if 20 < t.who.length ∨ 20 < t.svc.length then 1 else 0 := rfl
  generalize longT t = q at *
  obtain ⟨h1, h2⟩ := hl
  obtain ⟨who, svc, ep, bg, fn, sr⟩ := t
  dsimp only [Tick.val, Tick.cells] at *
  have s1 := bs_size who
  have s2 := bs_size svc
  unfold maxLen at h1 h2
  by_cases a : 20 < who.length
  · have hr := Lib.hid (hlt.trans (if_pos (.inl a)))
    clear hlt
    go_enter Tryz.func8, Tryz.ntmps8
    go_wp2_with fail
    go_ret
    exact ⟨ret_int hr.out.symm, hB⟩
  · by_cases b : 20 < svc.length
    · have hr := Lib.hid (hlt.trans (if_pos (.inr b)))
      clear hlt
      go_enter Tryz.func8, Tryz.ntmps8
      go_wp2_with fail
      go_ret
      exact ⟨ret_int hr.out.symm, hB⟩
    · have hr := Lib.hid (hlt.trans (if_neg (by rintro (h | h); exact a h; exact b h)))
      clear hlt
      go_enter Tryz.func8, Tryz.ntmps8
      go_wp2_with fail
      go_ret
      exact ⟨ret_int hr.out.symm, hB⟩
end Go.Proofs.YtadnjdchjoechaaGreatDoor

/- The closed fact of gates: walked. -/
namespace Go.Proofs.YtadnjdchjoechaaGreatDoor
open Go.RowKit

def doorN : List UInt8 := [100, 111, 111, 114]
def hd0 : List UInt8 := (headOf 7 [] 0).1
theorem hd0_zero : (headOf 7 [] 0).2.1 = 0 := by kernel_rfl
theorem hd0_take : (takeF (newFol 7) hd0 []).1 = 0 := by kernel_rfl
theorem hd0_time : (takeF (newFol 7) hd0 []).2.time = 0 := by kernel_rfl
theorem hd0_floors : (takeF (newFol 7) hd0 []).2.floors = [] := by kernel_rfl
theorem hd0_len : hd0.length ≤ 300 := headOf_len
theorem gok_of {n : List UInt8} {key old : Int} {f : Fol} (hf : FOk f) (h0 : 0 ≤ old) (h1 : old ≤ 1000000) (hn : n.length ≤ 1000) : GOk ⟨n, key, old, f⟩ := ⟨hf, h0, h1, hn⟩
theorem gated0 : askG ⟨doorN, 5, 20, newFol 7⟩ (sealText 5 (tickWords annT)) 0 = (noTick, 14) := askG_stale (g := ⟨doorN, 5, 20, newFol 7⟩) (show freshG ⟨doorN, 5, 20, newFol 7⟩ 0 ≠ 0 from by decide)
theorem gated1 : askG ⟨doorN, 5, 20, (takeF (newFol 7) hd0 []).2⟩ (sealText 5 (tickWords annT)) 0 = (annT, 0) := by
  have hf : freshG ⟨doorN, 5, 20, (takeF (newFol 7) hd0 []).2⟩ 0 = 0 := by
    unfold freshG
    rw [if_neg (by decide)]
    dsimp only
    rw [hd0_time]
    decide
  have ho := annT_open
  rw [askG_pass hf (by dsimp only; rw [ho]) (by dsimp only; rw [ho]; rfl) (by dsimp only; rw [ho]; decide) (by dsimp only; rw [ho, hd0_floors]; decide)]
  dsimp only
  rw [ho]
set_option maxHeartbeats 8000000 in
set_option maxRecDepth 100000 in
theorem gated_any {E : Nat → Addr} (w : World) (hL : LaidF E w) :
    Calls Tryz.prog 5 #[] w fun e w' => e = .returned (.bool true) ∧ Below w.heap.size w w' := by
  have hnw := Lib.hid ((newG_any (E := E) doorN 5 7 20 w hL.s.laid (by decide)).mono (R' := fun e w' => ∃ b pf, e = .returned (.tuple #[.pointer (some ⟨b, 0, none⟩), .nilIface]) ∧ GateAt w' w.heap.size b pf ⟨doorN, 5, 20, newFol 7⟩ ∧ Below w.heap.size w w') (fun e w' ⟨hor, hb⟩ => by
    rcases hor with ⟨h, _⟩ | ⟨_, b, pf, he, hG⟩
    · exact absurd (show newG doorN 5 7 20 = 0 by decide) h
    · exact ⟨b, pf, he, hG, hb⟩))
  have hmk := Lib.hid (fun wx (hx : Below w.heap.size w wx) => (makeF_any (E := E) 7 (.slice none 0 0) [] 0 wx (hL.below hx).s (AtG.nil _) (fun e he => by cases he)).mono (R' := fun e w' => e = .returned (.tuple #[.string (bs hd0), .nilIface]) ∧ Below wx.heap.size wx w') (fun e w' ⟨⟨ev, he, hE⟩, hb⟩ => by
    obtain ⟨rfl, _⟩ := hE.zero hd0_zero
    exact ⟨he, hb⟩))
  have hl : TickLen annT := ⟨by decide, by decide⟩
  have htm := fun wx (hx : Below w.heap.size w wx) => make_tick (E := E) 5 annT wx (hL.below hx).s hl
  rw [annT_make, errV_zero] at htm
  have hsl := annT_size
  rw [bs_size] at hsl
  have has := Lib.hid (fun b pf g wx (hx : Below w.heap.size w wx) (hG : GateAt wx w.heap.size b pf g) (hO : GOk g) => ask_any (E := E) w.heap.size b pf g (sealText 5 (tickWords annT)) 0 wx (hL.below hx).s hG hO (by omega))
  have hO0 : GOk ⟨doorN, 5, 20, newFol 7⟩ := gok_of (FOk.new 7) (by decide) (by decide) (by decide)
  have hF1 : FOk (takeF (newFol 7) hd0 []).2 := (FOk.new 7).take hd0_len (fun e he => by cases he)
  have hO1 : GOk ⟨doorN, 5, 20, (takeF (newFol 7) hd0 []).2⟩ := gok_of hF1 (by decide) (by decide) (by decide)
  have has0 := fun b pf wx hx hG => has.out b pf ⟨doorN, 5, 20, newFol 7⟩ wx hx hG hO0
  have has1 := fun b pf wx hx hG => has.out b pf ⟨doorN, 5, 20, (takeF (newFol 7) hd0 []).2⟩ wx hx hG hO1
  rw [gated0] at has0
  rw [gated1] at has1
  have htk := fun b pf wx (hx : Below w.heap.size w wx) (hG : GateAt wx w.heap.size b pf ⟨doorN, 5, 20, newFol 7⟩) => takeG_any (E := E) w.heap.size b pf ⟨doorN, 5, 20, newFol 7⟩ hd0 (.slice none 0 0) [] wx (hL.below hx).s hG (FOk.new 7) (AtG.nil _) (fun e he => by cases he) (by decide) hd0_len hx.size
  dsimp only at htk
  rw [hd0_take, errV_zero] at htk
  generalize (takeF (newFol 7) hd0 []).2 = F1 at *
  generalize sealText 5 (tickWords annT) = S at *
  unfold AskRes at has0 has1
  have hcd := fun wx (hx : Below w.heap.size w wx) => coded_same (E := E) 14 wx (hL.below hx).r (by decide)
  simp only [errV] at hcd has0 has1
  have hvl : annT.val = .agg #[.string ⟨#[97, 110, 110]⟩, .string ⟨#[100, 111, 111, 114]⟩, .int .i64 1, .int .i64 0, .int .i64 9, .int .i64 1] := rfl
  have hv2 : noTick.val = .agg #[.string ⟨#[]⟩, .string ⟨#[]⟩, .int .i64 0, .int .i64 0, .int .i64 0, .int .i64 0] := rfl
  simp only [hvl, hv2] at htm has0 has1
  have hnw2 : Hid (Calls Tryz.prog 9 #[.string ⟨#[100, 111, 111, 114]⟩, .int .i64 5, .int .i64 7, .int .i64 20] w _) := hnw
  have htm := Lib.hid htm
  have has0 := Lib.hid has0
  have has1 := Lib.hid has1
  have htk := Lib.hid htk
  have hcd := Lib.hid hcd
  clear hvl hv2 has hl hsl hO0 hO1 hF1 hL hnw
  go_enter Tryz.func5, Tryz.ntmps5
  go_wp2_with fail
  refine hnw2.out.mono ?_
  rintro e w1 ⟨b, pf, rfl, hG1, hb1⟩
  have hK1 := Lib.hid hb1
  have hG1 := Lib.hid hG1
  clear hb1 hnw2
  go_wp2_with fail
  refine (hmk.out _ hK1.out).mono ?_
  rintro e w2 ⟨rfl, hb⟩
  have hK2 := Lib.hid (below_trans hK1.out hb)
  have hG2 := Lib.hid (hG1.out.below hb)
  clear hb hmk
  go_wp2_with fail
  refine (htm.out _ hK2.out).mono ?_
  rintro e w3 ⟨rfl, hb⟩
  have hK3 := Lib.hid (below_trans hK2.out hb)
  have hG3 := Lib.hid (hG2.out.below hb)
  clear hb htm
  go_wp2_with fail
  refine (has0.out _ _ _ hK3.out hG3.out).mono ?_
  rintro e w4 ⟨rfl, hb⟩
  have hA4 : Below w4.heap.size w4 (w4.alloc (.cells #[.string ⟨#[]⟩, .string ⟨#[]⟩, .int .i64 0, .int .i64 0, .int .i64 0, .int .i64 0] 25)) := (Below.refl _ _).alloc (Nat.le_refl _) _
  have hK4 := Lib.hid (below_trans (below_trans hK3.out hb) hA4)
  have hG4 := Lib.hid ((hG3.out.below hb).below hA4)
  clear hb hA4 has0
  go_wp2_with fail
  refine (htk.out _ _ _ hK4.out hG4.out).mono ?_
  rintro e w5 ⟨rfl, hF5, hk5⟩
  have hK5 := Lib.hid (below_keeps hK4.out hF5.1 hk5)
  have hG5 := Lib.hid (hG4.out.take hF5 hk5)
  clear hF5 hk5 htk
  go_wp2_with fail
  refine (has1.out _ _ _ hK5.out hG5.out).mono ?_
  rintro e w6 ⟨rfl, hb⟩
  have hA6 : Below w6.heap.size w6 (w6.alloc (.cells #[.string ⟨#[97, 110, 110]⟩, .string ⟨#[100, 111, 111, 114]⟩, .int .i64 1, .int .i64 0, .int .i64 9, .int .i64 1] 25)) := (Below.refl _ _).alloc (Nat.le_refl _) _
  have hrow6 := Lib.hid (heap_alloc_new w6 (.cells #[.string ⟨#[97, 110, 110]⟩, .string ⟨#[100, 111, 111, 114]⟩, .int .i64 1, .int .i64 0, .int .i64 9, .int .i64 1] 25))
  have hK6 := Lib.hid (below_trans (below_trans hK5.out hb) hA6)
  have hcd6 := Lib.hid (hcd.out _ hK6.out)
  clear hb hA6 has1 hcd
  go_wp2_with fail
  refine hcd6.out.mono ?_
  rintro e w7 ⟨rfl, hb⟩
  obtain ⟨⟨x0, x1, x2, x3, x4, x5⟩, _⟩ := tick_kept hb hrow6.out
  have hK7 := Lib.hid (below_trans hK6.out hb)
  clear hb hcd6
  go_wp2_with fail
  go_ret
  exact ⟨rfl, hK7.out⟩
end Go.Proofs.YtadnjdchjoechaaGreatDoor

/- The reference's gates in memory: no walk. -/
namespace Go.Proofs.YtadnjdchjoechaaGreatDoor
open Go.RowKit

theorem rgate_ne_rfol : (62 : TypeId) ≠ 69 := by decide
theorem rgate_ne_fol : (62 : TypeId) ≠ 92 := by decide
theorem rgate_ne_gate : (62 : TypeId) ≠ 80 := by decide
theorem rgate_ne_ent : (62 : TypeId) ≠ 75 := by decide
theorem rgate_ne_flo : (62 : TypeId) ≠ 73 := by decide
theorem rfol_ne_gate : (69 : TypeId) ≠ 80 := by decide
structure RGateAt (w : World) (base b pf : Nat) (g : Gat) : Prop where
  ge : base ≤ b
  blk : w.heap[b]? = some (.cells #[.string (bs g.name), .int .i64 g.key, .int .i64 g.old, .pointer (some ⟨pf, 0, none⟩)] 62 (0, 0))
  fol : RFolAt w base pf g.f
theorem RGateAt.below {w w' : World} {base b pf : Nat} {g : Gat} (h : RGateAt w base b pf g) (hb : Below w.heap.size w w') : RGateAt w' base b pf g := ⟨h.ge, heap_down hb h.blk, h.fol.below hb⟩
theorem RGateAt.mono {w : World} {base base' b pf : Nat} {g : Gat} (h : RGateAt w base b pf g) (hb : base' ≤ base) : RGateAt w base' b pf g := ⟨Nat.le_trans hb h.ge, h.blk, h.fol.mono hb⟩
theorem RGateAt.ne {w : World} {base b pf : Nat} {g : Gat} (h : RGateAt w base b pf g) : b ≠ pf := fun e => by
  obtain ⟨cs, h1⟩ := h.fol.blk
  have h2 := h.blk
  rw [e, h1] at h2
  injection h2 with h2
  injection h2 with _ h2 _
  exact rgate_ne_rfol h2.symm
theorem RGateAt.take {w w' : World} {base b pf : Nat} {n : List UInt8} {key old : Int} {f f' : Fol} (h : RGateAt w base b pf ⟨n, key, old, f⟩) (hf : RFolAt w' base pf f') (hk : Keeps (· = pf) w w') : RGateAt w' base b pf ⟨n, key, old, f'⟩ :=
  ⟨h.ge, hk.obj h.blk h.ne, hf⟩
/-- A block of another type is none of its own. -/
theorem RGateAt.foreign {w w' : World} {base b pf : Nat} {g : Gat} {S : Nat → Prop} (h : RGateAt w base b pf g) (hk : Keeps S w w') (hS : ∀ k, S k → ∃ cs T, w.heap[k]? = some (.cells cs T (0, 0)) ∧ T ≠ 69 ∧ T ≠ 75 ∧ T ≠ 62) : RGateAt w' base b pf g :=
  ⟨h.ge, hk.obj h.blk (fun hs => by
    obtain ⟨cs, T, h1, _, _, h3⟩ := hS b hs
    have h2 := h.blk
    rw [h1] at h2
    injection h2 with h2
    injection h2 with _ h2 _
    exact h3 h2), h.fol.keeps2 hk (fun k hs => by
    obtain ⟨cs, T, h1, h2, h3, _⟩ := hS k hs
    exact ⟨cs, T, h1, h2, h3⟩)⟩
theorem RGateAt.rekey {w : World} {base b pf : Nat} {n : List UInt8} {key old : Int} {f : Fol} (h : RGateAt w base b pf ⟨n, key, old, f⟩) (k : Int) : RGateAt (w.setCell ⟨b, 1, none⟩ (.int .i64 k)) base b pf ⟨n, k, old, f⟩ ∧ Keeps (· = b) w (w.setCell ⟨b, 1, none⟩ (.int .i64 k)) := by
  have hk : Keeps (· = b) w (w.setCell ⟨b, 1, none⟩ (.int .i64 k)) := keeps_setCell _ _ _ rfl
  exact ⟨⟨h.ge, heap_setCell_same w b 1 _ _ (.int .i64 k) h.blk, h.fol.keeps2 hk (fun j hj => by subst hj; exact ⟨_, _, h.blk, rgate_ne_rfol, rgate_ne_ent⟩)⟩, hk⟩
/-- The program's gate is kept by what changes the reference's gate. -/
theorem GateAt.foreign2 {w w' : World} {base b pf : Nat} {g : Gat} {S : Nat → Prop} (h : GateAt w base b pf g) (hk : Keeps S w w') (hS : ∀ k, S k → ∃ cs T, w.heap[k]? = some (.cells cs T (0, 0)) ∧ T ≠ 92 ∧ T ≠ 75 ∧ T ≠ 73 ∧ T ≠ 80) : GateAt w' base b pf g :=
  ⟨h.ge, hk.obj h.blk (fun hs => by
    obtain ⟨cs, T, h1, _, _, _, h3⟩ := hS b hs
    have h2 := h.blk
    rw [h1] at h2
    injection h2 with h2
    injection h2 with _ h2 _
    exact h3 h2), h.fol.keeps2 hk (fun k hs => by
    obtain ⟨cs, T, h1, h2, h3, h4, _⟩ := hS k hs
    exact ⟨cs, T, h1, h2, h3, h4⟩)⟩
end Go.Proofs.YtadnjdchjoechaaGreatDoor

/- The reference's tickets: TicketError, GoodError, RenewOf. -/
namespace Go.Proofs.YtadnjdchjoechaaGreatDoor
open Go.RowKit

theorem tickErr_two {t : Tick} (h1 : isName t.who = true) (h2 : isName t.svc = true) (h : ¬ ((1 ≤ t.epoch ∧ t.epoch ≤ 1073741824) ∧ (1 ≤ t.serial ∧ t.serial ≤ 1073741824) ∧ (0 ≤ t.beg ∧ t.beg ≤ 1000000) ∧ t.beg ≤ t.fin ∧ t.fin ≤ 1000000)) : tickErr t = 2 := by
  unfold tickErr
  rw [h1, h2]
  rw [if_pos (show (true && true) = true from rfl), if_neg]
  exact fun e => h ((tickNum_iff t).1 e)
theorem tickErr_ok {t : Tick} (h1 : isName t.who = true) (h2 : isName t.svc = true) (h : (1 ≤ t.epoch ∧ t.epoch ≤ 1073741824) ∧ (1 ≤ t.serial ∧ t.serial ≤ 1073741824) ∧ (0 ≤ t.beg ∧ t.beg ≤ 1000000) ∧ t.beg ≤ t.fin ∧ t.fin ≤ 1000000) : tickErr t = 0 := by
  unfold tickErr
  rw [h1, h2]
  rw [if_pos (show (true && true) = true from rfl), if_pos ((tickNum_iff t).2 h)]
theorem tickErr_four {t : Tick} (h : isName t.who = false ∨ isName t.svc = false) : tickErr t = 4 := by
  unfold tickErr
  rw [if_neg]
  rcases h with h | h
  · rw [h]; simp
  · rw [h]; simp
set_option maxHeartbeats 1000000 in
set_option maxRecDepth 100000 in
theorem errR_tick (t : Tick) (w : World) (hl : TickLen t) :
    Calls Tryz.prog 84 #[t.val] w fun e w' => e = .returned (.int .i64 (tickErr t : Nat)) ∧ Below w.heap.size w w' := by
  have hB : Below w.heap.size w (w.alloc (.cells t.cells 25)) := (Below.refl _ _).alloc (Nat.le_refl _) _
  have hnw := fun wx => isNameR_any (bs t.who) wx (by rw [bs_size]; exact hl.1)
  have hns := fun wx => isNameR_any (bs t.svc) wx (by rw [bs_size]; exact hl.2)
  rw [bs_list] at hnw hns
  have h4 := @tickErr_four t
  have h2 := @tickErr_two t
  have h0 := @tickErr_ok t
  generalize tickErr t = r at *
  obtain ⟨who, svc, ep, bg, fn, sr⟩ := t
  dsimp only [Tick.val, Tick.cells] at *
  have hcs := Lib.hid (tick_kept (Below.refl _ _) (heap_alloc_new w (.cells #[.string (bs who), .string (bs svc), .int .i64 ep, .int .i64 bg, .int .i64 fn, .int .i64 sr] 25)))
  cases ha : isName who with
  | false =>
    have hr := Lib.hid (h4 (.inl ha))
    rw [ha] at hnw
    have hnwH := Lib.hid hnw
    have hnsH := Lib.hid hns
    clear h4 h2 h0 ha hnw hns
    cases hb : isName svc
    all_goals
      rw [hb] at hnsH
      clear hb
      obtain ⟨⟨c0, c1, c2, c3, c4, c5⟩, _⟩ := hcs.out
      go_enter Tryz.func84, Tryz.ntmps84
      go_wp2_with fail
      refine (hnwH.out _).mono ?_
      rintro e w' ⟨rfl, rfl⟩
      go_wp2_with fail
      refine (hnsH.out _).mono ?_
      rintro e w' ⟨rfl, rfl⟩
      go_wp2_with fail
      go_ret
      exact ⟨by rw [hr.out]; rfl, hB⟩
  | true =>
  rw [ha] at hnw
  have hnwH := Lib.hid hnw
  clear hnw
  cases hb : isName svc with
  | false =>
    have hr := Lib.hid (h4 (.inr hb))
    rw [hb] at hns
    have hnsH := Lib.hid hns
    clear h4 h2 h0 ha hb hns
    obtain ⟨⟨c0, c1, c2, c3, c4, c5⟩, _⟩ := hcs.out
    go_enter Tryz.func84, Tryz.ntmps84
    go_wp2_with fail
    refine (hnwH.out _).mono ?_
    rintro e w' ⟨rfl, rfl⟩
    go_wp2_with fail
    refine (hnsH.out _).mono ?_
    rintro e w' ⟨rfl, rfl⟩
    go_wp2_with fail
    go_ret
    exact ⟨by rw [hr.out]; rfl, hB⟩
  | true =>
  rw [hb] at hns
  have hnsH := Lib.hid hns
  have h2H := Lib.hid (h2 ha hb)
  have h0H := Lib.hid (h0 ha hb)
  clear h4 h2 h0 ha hb hns
  have hcase : ep < 1 ∨ (1 ≤ ep ∧ 1073741824 < ep) ∨ (1 ≤ ep ∧ ep ≤ 1073741824 ∧ sr < 1) ∨ (1 ≤ ep ∧ ep ≤ 1073741824 ∧ 1 ≤ sr ∧ 1073741824 < sr) ∨ (1 ≤ ep ∧ ep ≤ 1073741824 ∧ 1 ≤ sr ∧ sr ≤ 1073741824 ∧ bg < 0) ∨ (1 ≤ ep ∧ ep ≤ 1073741824 ∧ 1 ≤ sr ∧ sr ≤ 1073741824 ∧ 0 ≤ bg ∧ 1000000 < bg) ∨ (1 ≤ ep ∧ ep ≤ 1073741824 ∧ 1 ≤ sr ∧ sr ≤ 1073741824 ∧ 0 ≤ bg ∧ bg ≤ 1000000 ∧ fn < bg) ∨ (1 ≤ ep ∧ ep ≤ 1073741824 ∧ 1 ≤ sr ∧ sr ≤ 1073741824 ∧ 0 ≤ bg ∧ bg ≤ 1000000 ∧ bg ≤ fn ∧ 1000000 < fn) ∨ (1 ≤ ep ∧ ep ≤ 1073741824 ∧ 1 ≤ sr ∧ sr ≤ 1073741824 ∧ 0 ≤ bg ∧ bg ≤ 1000000 ∧ bg ≤ fn ∧ fn ≤ 1000000) := by omega
  rcases hcase with x1 | ⟨x1, x2⟩ | ⟨x1, x2, x3⟩ | ⟨x1, x2, x3, x4⟩ | ⟨x1, x2, x3, x4, x5⟩ | ⟨x1, x2, x3, x4, x5, x6⟩ | ⟨x1, x2, x3, x4, x5, x6, x7⟩ | ⟨x1, x2, x3, x4, x5, x6, x7, x8⟩ | ⟨x1, x2, x3, x4, x5, x6, x7, x8⟩
  all_goals
    have hr : Hid (r = 2) ∨ Hid (r = 0) := by first | exact .inl (Lib.hid (h2H.out (by omega))) | exact .inr (Lib.hid (h0H.out (by omega)))
    obtain ⟨⟨c0, c1, c2, c3, c4, c5⟩, _⟩ := hcs.out
    go_enter Tryz.func84, Tryz.ntmps84
    go_wp2_with fail
    refine (hnwH.out _).mono ?_
    rintro e w' ⟨rfl, rfl⟩
    go_wp2_with fail
    refine (hnsH.out _).mono ?_
    rintro e w' ⟨rfl, rfl⟩
    go_wp2_with fail
    go_ret
    refine ⟨?_, hB⟩
    rcases hr with hr | hr
    all_goals first | (rw [hr.out]; rfl) | (exfalso; first | (have := h0H.out (by omega); have := hr.out; omega) | (have := h2H.out (by omega); have := hr.out; omega))

set_option maxRecDepth 100000 in
theorem goodR_tick (t : Tick) (now : Int) (w : World) (hl : TickLen t) :
    Calls Tryz.prog 49 #[t.val, .int .i64 now] w fun e w' => e = .returned (.int .i64 (goodT t now : Nat)) ∧ Below w.heap.size w w' := by
  have hB : Below w.heap.size w (w.alloc (.cells t.cells 25)) := (Below.refl _ _).alloc (Nat.le_refl _) _
  have hbt := Lib.hid (heap_alloc_new w (.cells t.cells 25))
  have hck := Lib.hid (errR_tick t (w.alloc (.cells t.cells 25)) hl)
  have hgd : goodT t now = if tickErr t = 0 then (if 0 ≤ now ∧ now ≤ 1000000 then (if now < t.beg then 11 else if t.fin ≤ now then 12 else 0) else 2) else tickErr t := rfl
  generalize tickErr t = c at *
  obtain ⟨who, svc, ep, bg, fn, sr⟩ := t
  dsimp only [Tick.val, Tick.cells] at *
  cases c with
  | succ c =>
    have hr := Lib.hid (hgd.trans (if_neg (Nat.succ_ne_zero c)))
    clear hgd
    go_enter Tryz.func49, Tryz.ntmps49
    go_wp2_with fail
    refine hck.out.mono ?_
    rintro e w1 ⟨rfl, hb⟩
    have hbH := Lib.hid (below_trans hB hb)
    clear hb
    go_wp2_with fail
    go_ret
    exact ⟨by rw [hr.out]; rfl, hbH.out⟩
  | zero =>
  have hgdH := Lib.hid (hgd.trans (if_pos rfl))
  clear hgd
  have hcase : now < 0 ∨ (0 ≤ now ∧ 1000000 < now) ∨ (0 ≤ now ∧ now ≤ 1000000 ∧ now < bg) ∨ (0 ≤ now ∧ now ≤ 1000000 ∧ bg ≤ now ∧ fn ≤ now) ∨ (0 ≤ now ∧ now ≤ 1000000 ∧ bg ≤ now ∧ now < fn) := by omega
  rcases hcase with x1 | ⟨x1, x2⟩ | ⟨x1, x2, x3⟩ | ⟨x1, x2, x3, x4⟩ | ⟨x1, x2, x3, x4⟩
  all_goals
    go_enter Tryz.func49, Tryz.ntmps49
    go_wp2_with fail
    refine hck.out.mono ?_
    rintro e w1 ⟨rfl, hb⟩
    obtain ⟨⟨c0, c1, c2, c3, c4, c5⟩, _⟩ := tick_kept hb hbt.out
    have hbH := Lib.hid (below_trans hB hb)
    clear hb
    go_wp2_with fail
    go_ret
    refine ⟨?_, hbH.out⟩
    have e := hgdH.out
    first
      | (rw [e, if_neg (by omega)]; rfl)
      | (rw [e, if_pos (by omega), if_pos (by omega)]; rfl)
      | (rw [e, if_pos (by omega), if_neg (by omega), if_pos (by omega)]; rfl)
      | (rw [e, if_pos (by omega), if_neg (by omega), if_neg (by omega)]; rfl)

theorem row_set2b {w : World} {n : Nat} {u0 u1 u2 u3 u4 u5 : Value} {T : TypeId} (h : w.heap[n]? = some (.cells #[u0, u1, u2, u3, u4, u5] T (0, 0))) (v3 v5 : Value) :
    ((w.setCell ⟨n, 3, none⟩ v3).setCell ⟨n, 5, none⟩ v5).heap[n]? = some (.cells #[u0, u1, u2, v3, u4, v5] T (0, 0)) := by
  have h3 := heap_setCell_same _ n 3 _ _ v3 h
  exact heap_setCell_same _ n 5 _ _ v5 h3
theorem row_other2b {w : World} {n m : Nat} {o : Obj} (h : w.heap[m]? = some o) (hne : m ≠ n) (v3 v5 : Value) :
    ((w.setCell ⟨n, 3, none⟩ v3).setCell ⟨n, 5, none⟩ v5).heap[m]? = some o := by
  rw [heap_setCell_other _ _ _ _ hne, heap_setCell_other _ _ _ _ hne]
  exact h
theorem below_set2b {B : Nat} {a w : World} (h : Below B a w) {n : Nat} (hn : B ≤ n) (v3 v5 : Value) :
    Below B a ((w.setCell ⟨n, 3, none⟩ v3).setCell ⟨n, 5, none⟩ v5) := (h.setCell hn _).setCell hn _
end Go.Proofs.YtadnjdchjoechaaGreatDoor
