/- TickW2, Held -/
import Derived.Test.YtkhphdkjnpcnnaaGreatDoorMg14
import Derived.Test.YtkhphdkjnpcnnaaGreatDoorMg15
import Derived.Deep.RegionHeld3
import Derived.WalkKit
/- The walks of package ticket: Make by its contract. -/
namespace Go.Proofs.YtkhphdkjnpcnnaaGreatDoor
open Go.RowKit Go.Maps

theorem ownsRow_below {w w' : World} {base : Nat} {e : TypeId} {size : Nat} {v : Value} {n : Nat} {xs : List Value} (h : w.ownsRow base e size v n xs) (hb : Below w.heap.size w w') : w'.ownsRow base e size v n xs := by
  obtain ⟨h1, h2 | ⟨g, cap, cur, h3, h4, h5, h6⟩⟩ := h
  · exact ⟨h1, .inl h2⟩
  · exact ⟨h1, .inr ⟨g, cap, cur, h3, h4, heap_below hb h5, h6⟩⟩
def tickNums (t : Tick) : List Int := [t.epoch, t.beg, t.fin, t.serial]
theorem tickWords_at (t : Tick) (j : Nat) (h : j < 4) : (tickWords t).take (3 + (j + 1)) = (tickWords t).take (3 + j) ++ [Lib.itoa ((tickNums t).getD j 0)] := by
  match j, h with
  | 0, _ => rfl
  | 1, _ => rfl
  | 2, _ => rfl
  | 3, _ => rfl
theorem tickNums_bd {t : Tick} (h : tickErr t = 0) (j : Nat) (hj : j < 4) : 0 ≤ (tickNums t).getD j 0 ∧ (tickNums t).getD j 0 ≤ 1073741824 := by
  obtain ⟨_, _, h3⟩ := tickErr_zero h
  obtain ⟨⟨a1, a2⟩, ⟨b1, b2⟩, ⟨c1, c2⟩, d1, d2⟩ := (tickNum_iff t).1 h3
  match j, hj with
  | 0, _ => exact ⟨show 0 ≤ t.epoch by omega, show t.epoch ≤ _ by omega⟩
  | 1, _ => exact ⟨show 0 ≤ t.beg by omega, show t.beg ≤ _ by omega⟩
  | 2, _ => exact ⟨show 0 ≤ t.fin by omega, show t.fin ≤ _ by omega⟩
  | 3, _ => exact ⟨show 0 ≤ t.serial by omega, show t.serial ≤ _ by omega⟩
set_option maxHeartbeats 1000000 in
set_option maxRecDepth 100000 in
theorem make_tick {E : Nat → Addr} (k : Int) (t : Tick) (w : World) (hL : LaidS E w) (hl : TickLen t) :
    Calls Tryz.prog 53 #[.int .i64 k, t.val] w fun e w' => e = .returned (.tuple #[.string (bs (makeT k t).1), errV E (makeT k t).2]) ∧ Below w.heap.size w w' := by
  have hB : Below w.heap.size w (w.alloc (.cells t.cells 51)) := (Below.refl _ _).alloc (Nat.le_refl _) _
  have hbt := Lib.hid (heap_alloc_new w (.cells t.cells 51))
  have hck := Lib.hid (check_tick (E := E) t _ (hL.below hB).laid hl)
  have hmk : makeT k t = if isKey k = true then (if tickErr t = 0 then (sealText k (tickWords t), 0) else ([], tickErr t)) else ([], 10) := rfl
  generalize hp : makeT k t = p at *
  clear hp
  by_cases hk : isKey k = true
  case neg =>
    have hr := Lib.hid (hmk.trans (if_neg hk))
    have hk : isKey k = false := by simpa using hk
    have he := (hL.below hB).laid.e10
    obtain ⟨who, svc, ep, bg, fn, sr⟩ := t
    dsimp only [Tick.val, Tick.cells] at *
    clear hmk
    go_enter Tryz.func53, Tryz.ntmps53
    go_wp2_with (go_at_call 33; refine (key_any _ _).mono ?_; rintro e w' ⟨rfl, rfl⟩)
    go_quiet (fail)
    go_wp2_with fail
    go_ret2
    exact ⟨by rw [hr.out]; rfl, below_drawn hB _⟩
  have hmk := hmk.trans (if_pos hk)
  cases hte : tickErr t with
  | succ c =>
    have hr := Lib.hid (show p = ([], c + 1) by rw [hmk, if_neg (by rw [hte]; exact Nat.succ_ne_zero c), hte])
    rw [hte, errV_succ] at hck
    clear hmk hte
    obtain ⟨who, svc, ep, bg, fn, sr⟩ := t
    dsimp only [Tick.val, Tick.cells] at *
    go_enter Tryz.func53, Tryz.ntmps53
    go_wp2_with (go_at_call 33; refine (key_any _ _).mono ?_; rintro e w' ⟨rfl, rfl⟩)
    refine hck.out.mono ?_
    rintro e w1 ⟨rfl, hb⟩
    have hb := Lib.hid (below_trans hB hb)
    go_wp2_with fail
    go_ret2
    exact ⟨by rw [hr.out]; rfl, hb.out⟩
  | zero =>
  have hr := Lib.hid (show p = (sealText k (tickWords t), 0) by rw [hmk, if_pos hte])
  have hms := Lib.hid (fun v wx (hx : Below w.heap.size w wx) (hv : TextsAt wx v (tickWords t)) => make_any (E := E) k v (tickWords t) wx (hL.below hx) hv (fun x hx => by
    have := ((isWord_iff x).1 (tickWords_words hte x hx)).2.1
    unfold maxLen
    omega))
  have hmo := Lib.hid (make_of hk (by rw [tickWords_len]; decide) (by rw [tickWords_len]; decide) (tickWords_words hte))
  have hnb := Lib.hid (tickNums_bd hte)
  have hti := Lib.hid (fun j hj wx (hx : Below w.heap.size w wx) => itoa_any (E := E) ((tickNums t).getD j 0) (by have := tickNums_bd hte j hj; omega) (by have := tickNums_bd hte j hj; omega) wx (hL.below hx))
  have hwa := Lib.hid (tickWords_at t)
  have hw3 := Lib.hid (show (tickWords t).take 3 = [ticketW, t.who, t.svc] from rfl)
  have hw7 := Lib.hid (show (tickWords t).take 7 = tickWords t from rfl)
  have hwl := Lib.hid (tickWords_len t)
  have hn0 := Lib.hid (show (tickNums t).getD 0 0 = t.epoch ∧ (tickNums t).getD 1 0 = t.beg ∧ (tickNums t).getD 2 0 = t.fin ∧ (tickNums t).getD 3 0 = t.serial from ⟨rfl, rfl, rfl, rfl⟩)
  rw [hte, errV_zero] at hck
  clear hmk hte
  generalize tickWords t = TW at *
  generalize tickNums t = TN at *
  obtain ⟨i0, hi, hz0, hz1, hz2⟩ := info_parts info_string
  obtain ⟨who, svc, ep, bg, fn, sr⟩ := t
  dsimp only [Tick.val, Tick.cells] at *
  go_enter Tryz.func53, Tryz.ntmps53
  go_wp2_with (go_at_call 33; refine (key_any _ _).mono ?_; rintro e w' ⟨rfl, rfl⟩)
  refine hck.out.mono ?_
  rintro e w1 ⟨rfl, hb⟩
  obtain ⟨⟨b0, b1, b2, b3, b4, b5⟩, _⟩ := tick_kept hb hbt.out
  have hlt1 := Nat.lt_of_lt_of_le (show w.heap.size < (w.alloc (.cells #[.string (bs who), .string (bs svc), .int .i64 ep, .int .i64 bg, .int .i64 fn, .int .i64 sr] 51)).heap.size by simp) hb.size
  have hb := Lib.hid (below_trans hB hb)
  have hown0 := Lib.hid (ownsRow_below (World.ownsRow_lit (base := w1.heap.size) (e := 9) (size := 1) w1 #[.string ⟨#[116, 105, 99, 107, 101, 116]⟩, .string (bs who), .string (bs svc)] 3 (Nat.le_refl _) (by decide) rfl) ((Below.refl _ _).alloc (Nat.le_refl _) (.cells #[.int .i64 ep, .int .i64 bg, .int .i64 fn, .int .i64 sr] 3)))
  have hb0 := Lib.hid (((Below.refl w1.heap.size w1).alloc (Nat.le_refl _) (.cells #[.string ⟨#[116, 105, 99, 107, 101, 116]⟩, .string (bs who), .string (bs svc)] 9)).alloc (by simp) (.cells #[.int .i64 ep, .int .i64 bg, .int .i64 fn, .int .i64 sr] 3))
  go_wp2_with fail
  go_loopw [7, 34] (fun v i wr => ∃ j : Nat, j ≤ 4 ∧ i = .int .i64 j ∧ Hid (wr.ownsRow w1.heap.size 9 1 v (3 + j) ((TW.take (3 + j)).map strV) ∧ Below w1.heap.size w1 wr ∧ w1.heap.size + 2 ≤ wr.heap.size ∧ (∀ q, q < 4 → wr.cell? ⟨w1.heap.size + 1, q, none⟩ = some (.int .i64 (TN.getD q 0))) ∧ v.ownBlock ≠ some (w1.heap.size + 1))) (fun _ i _ => 4 - (intOf i).toNat)
  case atStart =>
    refine ⟨0, by omega, rfl, Lib.hid ⟨by rw [hw3.out]; exact hown0.out, hb0.out, by simp, fun q hq => ?_, by simp [Value.ownBlock]⟩⟩
    match q, hq with
    | 0, _ => rw [hn0.out.1]; simp
    | 1, _ => rw [hn0.out.2.1]; simp
    | 2, _ => rw [hn0.out.2.2.1]; simp
    | 3, _ => rw [hn0.out.2.2.2]; simp
  case round =>
    obtain ⟨j, hj, rfl, H⟩ := hrel
    obtain ⟨hown, hbr, hsz, hcells, hnb2⟩ := H.out
    clear H
    have hbw := Lib.hid (below_trans hb.out hbr)
    by_cases hlt : j < 4
    · have hc := hcells j hlt
      have hit := hti.out j hlt wr hbw.out
      have hwj := hwa.out j hlt
      have hnl := hnb.out j hlt
      have hsn : (bs (Lib.itoa (TN.getD j 0))).size ≤ 20 := by rw [bs_size]; exact itoa_len (by omega) (by omega)
      obtain ⟨hn1, hn2⟩ := hnl
      generalize TN.getD j 0 = nj at *
      have hit := Lib.hid hit
      have hwj := Lib.hid hwj
      have hcellsH := Lib.hid hcells
      clear hcells
      have hown := Lib.hid hown
      have hbr := Lib.hid hbr
      have hnb2 := Lib.hid hnb2
      have hk1 : (j : Int) < 4 := by omega
      go_wp2_with fail
      refine hit.out.mono ?_
      rintro e w2 ⟨rfl, hb2⟩
      have hown2 := ownsRow_below hown.out hb2
      have hcells2 := Lib.hid (fun q hq => cell_below hb2 (hcellsH.out q hq))
      have hs2 := hb2.size
      have hb2 := Lib.hid (hbr.out.trans (hb2.mono hbr.out.size))
      clear hc
      go_wp2_with (at_builtin; refine wpList_append_own_at _ rfl _ _ 107 rfl w1.heap.size 9 i0 (.string ⟨#[]⟩) 1 16 Tryz.underlying107 hi hz0 hz1 hz2 rfl (by decide) _ _ _ rfl (hown2.alloc _) ⟨w2.heap.size, 0, none⟩ 1 1 [.string (bs (Lib.itoa nj))] rfl rfl (cell_one_new _ _ _) (fun u hu => by simp at hu; subst hu; rfl) ?c3 ?c4 ?c5 ?_)
      case c3 => unfold maxLen; omega
      case c4 => omega
      case c5 => simp; omega
      intro v' w3 hown' hgrow _ hblk
      have hb3 := (hb2.out.alloc hb2.out.size _).grown hgrow (by have := hb2.out.size; simp; omega) (fun k hk => (hown2.lt k hk).1)
      have hs3 := hgrow.size
      have hfin := Lib.hid (show w3.ownsRow w1.heap.size 9 1 v' (3 + (j + 1)) ((TW.take (3 + (j + 1))).map strV) ∧ Below w1.heap.size w1 w3 ∧ w1.heap.size + 2 ≤ w3.heap.size ∧ (∀ q, q < 4 → w3.cell? ⟨w1.heap.size + 1, q, none⟩ = some (.int .i64 (TN.getD q 0))) ∧ v'.ownBlock ≠ some (w1.heap.size + 1) from by
        refine ⟨by rw [hwj.out, List.map_append, List.map_take]; exact hown', hb3, by simp at hs3; omega, fun q hq => ?_, ?_⟩
        · refine hgrow.cell ?_ (fun e => hnb2.out e.symm)
          have h := hcells2.out q hq
          rw [World.cell?_alloc_lt _ _ _ (World.block_lt_of_cell? _ _ h)]
          exact h
        · rcases hblk with h | h
          · rw [h]; exact hnb2.out
          · rw [h]
            intro e
            have := Option.some.inj e
            simp at this
            omega)
      clear hown' hgrow hown2 hb3 hs3 hs2 hblk
      go_wp2_with fail
      go_roundw
      case rel => exact ⟨j + 1, by omega, by go_num, hfin⟩
      case measure => simp [intOf]; omega
    · have hje : j = 4 := by omega
      subst hje
      have hT := textsAt_of_ownsRow (base := w1.heap.size) (w := wr) (L := TW) (by rw [hwl.out]; decide) (by rw [hwl.out]; have := hown; rw [hw7.out] at this; exact this)
      have hmk := Lib.hid (hms.out _ wr hbw.out hT)
      rw [hmo.out] at hmk
      clear hown hcells hnb2 hT hbr
      go_wp2_with fail
      refine hmk.out.mono ?_
      rintro e w2 ⟨ev, rfl, hev, hb2⟩
      rcases hev with ⟨_, rfl⟩ | ⟨_, _, h1, _⟩
      case inr => exact absurd h1 (Nat.not_succ_le_zero 0)
      have hb2 := Lib.hid (below_trans hbw.out hb2)
      rw [errV_zero]
      go_wp2_with fail
      go_ret2
      exact ⟨by rw [hr.out]; rfl, hb2.out⟩
end Go.Proofs.YtkhphdkjnpcnnaaGreatDoor

/- Regions that draw their order, step by step: go_region_held3's own moves as laws, the slot of each operation given. -/
namespace Go.Proofs.YtkhphdkjnpcnnaaGreatDoor
open Go.RowKit

section
variable {P : Program} {md : Region.Mode} {ops : Array Oper} {Q : Exit → Act → World → Prop} {S : World → Prop}
/-- Number i is taken first; its slot is d. -/
theorem held_take {i : Nat} {d : Option Tmp} {oi : Oper} {v : Value} {fuel : Nat} {listed : Array Bool} {a : Act} {w : World} (hi : ops[i]? = some oi) (hd : oi.dst = d)
    (hs : Region.noSelect ops = true) (hf : Region.free md ops listed i = true) (hr : (Region.ready md ops listed).contains i = true)
    (hQ : ∀ c a w, Q (.panic c) (a.put oi.dst v) w → Q (.panic c) a w) (hw : Region.wanted oi (yielded ops a.tmps) = true) (hS : S w) (hy : ∀ w, S w → (execOp a.eval oi).run P w = .ok (.value v) w)
    (h : wpAnyH P md ops Q S fuel (listed.setIfInBounds i true) (a.put d v) w) : wpAnyH P md ops Q S (fuel + 1) listed a w := by
  subst hd
  exact wpAnyH_take hi hs hf hr hQ (.inl ⟨hw, hy⟩) hS h
/-- Number i does not run (its guard says so): its slot d is left as undef. -/
theorem held_skip {i : Nat} {d : Option Tmp} {oi : Oper} {fuel : Nat} {listed : Array Bool} {a : Act} {w : World} (hi : ops[i]? = some oi) (hd : oi.dst = d)
    (hs : Region.noSelect ops = true) (hf : Region.free md ops listed i = true) (hr : (Region.ready md ops listed).contains i = true)
    (hQ : ∀ c a w, Q (.panic c) (a.put oi.dst undef) w → Q (.panic c) a w) (hw : Region.wanted oi (yielded ops a.tmps) = false) (hS : S w)
    (h : wpAnyH P md ops Q S fuel (listed.setIfInBounds i true) (a.put d undef) w) : wpAnyH P md ops Q S (fuel + 1) listed a w := by
  subst hd
  exact wpAnyH_take hi hs hf hr hQ (.inr ⟨hw, rfl⟩) hS h
/-- S may be said more strongly from here on. -/
theorem held_more {S' : World → Prop} (hSS : ∀ w, S' w → S w) : ∀ (fuel : Nat) (listed : Array Bool) (a : Act) (w : World), wpAnyH P md ops Q S' fuel listed a w → wpAnyH P md ops Q S fuel listed a w
  | 0, _, _, _, h => h
  | fuel + 1, _, _, _, h => ⟨h.1, fun i hi => wpOp_mono (fun a' w' h' => ⟨hSS _ h'.1, held_more hSS fuel _ a' w' h'.2⟩) (h.2 i hi)⟩
end
end Go.Proofs.YtkhphdkjnpcnnaaGreatDoor
