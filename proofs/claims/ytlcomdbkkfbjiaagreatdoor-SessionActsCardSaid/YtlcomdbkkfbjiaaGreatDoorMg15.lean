/- RefD1, RefD2, Held -/
import Derived.Test.YtlcomdbkkfbjiaaGreatDoorMg9
import Derived.Test.YtlcomdbkkfbjiaaGreatDoorMg10
import Derived.Test.YtlcomdbkkfbjiaaGreatDoorMg13
import Derived.Test.YtlcomdbkkfbjiaaGreatDoorMg14
import Derived.Deep.LoopGhost
import Derived.StillTailTactics
import Derived.Deep.RegionHeld3
import Derived.WalkKit
/- The reference's desk: All, Close, Ask: walked. -/
namespace Go.Proofs.YtlcomdbkkfbjiaaGreatDoor
open Go.RowKit Go.Maps

def intC : Cells Int where
  k := 1
  pos := by decide
  f := fun n => [.int .i64 n]
  len := fun _ => rfl
  one := fun n u hu => by
    simp only [List.mem_cons, List.mem_nil_iff, or_false] at hu
    rw [hu]; rfl
theorem flatI_G : ∀ zs : List Int, zs.map (Value.int .i64) = flatG intC zs
  | [] => rfl
  | z :: zs => by
    show Value.int .i64 z :: zs.map (Value.int .i64) = [Value.int .i64 z] ++ flatG intC zs
    rw [flatI_G zs]
    rfl
theorem intRow_G {w : World} {base : Nat} {v : Value} {zs : List Int} : IntRow w base v zs ↔ RowG intC w base 3 v zs := by
  unfold IntRow RowG
  rw [flatI_G]
  exact Iff.rfl
def sesC : Cells Ses where
  k := 7
  pos := by decide
  f := Ses.cells
  len := fun _ => rfl
  one := fun e u hu => by
    simp only [Ses.cells, List.mem_cons, List.mem_nil_iff, or_false] at hu
    rcases hu with rfl | rfl | rfl | rfl | rfl | rfl | rfl <;> rfl
theorem flatO_G : ∀ L, flatO L = flatG sesC L
  | [] => rfl
  | p :: L => by
    show p.cells ++ flatO L = sesC.f p ++ flatG sesC L
    rw [flatO_G L]
    rfl
theorem sesRow_G {w : World} {base : Nat} {v : Value} {L : List Ses} : w.ownsRow base 70 7 v L.length (flatO L) ↔ RowG sesC w base 70 v L := by
  unfold RowG
  rw [flatO_G]
  exact Iff.rfl
theorem info_int1 : (Tryz.prog.info? 3).map (fun i => (i.zero, i.size, i.bytes)) = some (some (.int .i64 0), intC.k, 8) := by kernel_rfl
theorem take_snocS {α : Type} {L : List α} {j : Nat} (h : j < L.length) : L.take (j + 1) = L.take j ++ [L[j]] := by rw [List.take_add_one, List.getElem?_eq_getElem h]; rfl
theorem nums_snoc (L : List Ses) (q : Ses) : numsS (L ++ [q]) = numsS L ++ [q.n] := by unfold numsS; rw [List.map_append]; rfl
theorem nums_len' (L : List Ses) : (numsS L).length = L.length := by unfold numsS; rw [List.length_map]
set_option maxHeartbeats 4000000 in
set_option maxRecDepth 100000 in
theorem allR_desk (base b : Nat) (many : Int) (L : List Ses) (w : World) (hB : DRef w base b many L) (h40 : L.length ≤ 40) :
    Calls Tryz.prog 21 #[.pointer (some ⟨b, 0, none⟩)] w fun e w' => ∃ v, e = .returned v ∧ IntRow w' w.heap.size v (numsS L) ∧ Below w.heap.size w w' := by
  obtain ⟨_, _, v, c1, hown⟩ := hB.at0
  obtain ⟨a, c, rfl, hml, hcl⟩ := opensAt_of_row (by unfold maxLen; omega) hown
  have hcl := Lib.hid hcl
  have c1W := Lib.hid c1
  clear hB hown c1
  go_enter Tryz.func21, Tryz.ntmps21
  go_wp2_with fail
  go_loopg [3, 4] (L.length + 1) (fun g v i wr => ∃ j : Nat, i = .int .i64 j ∧ j ≤ L.length ∧ L.length - j + 1 ≤ g ∧ Hid (RowG intC wr w.heap.size 3 v (numsS (L.take j))) ∧ Hid (Below w.heap.size w wr))
  case atStart => exact ⟨0, rfl, Nat.zero_le _, by omega, Lib.hid (RowG.nil _ _ _), Lib.hid (Below.refl _ _)⟩
  case round =>
    obtain ⟨j, rfl, hj, hg, hrow, hbx⟩ := hrel
    have c1 := cell_below hbx.out c1W.out
    by_cases hlt : j < L.length
    · obtain ⟨bb, o, rfl, d0, _⟩ := hcl.out j hlt
      have d0 := cell_below hbx.out d0
      have hsn := Lib.hid (show numsS (L.take (j + 1)) = numsS (L.take j) ++ [L[j].n] by rw [take_snocS hlt, nums_snoc])
      have hlenN : (numsS (L.take j)).length ≤ 40 := by rw [nums_len', List.length_take]; omega
      generalize L[j].n = nj at *
      generalize numsS (L.take j) = N at *
      obtain ⟨a9, c9, rfl⟩ := hrow.out.sl
      have hk2 : (0 : Int) ≤ (j : Int) := by omega
      have hk3 : (j : Int) < (L.length : Int) := by omega
      have hsz : w.heap.size ≤ wr.heap.size := hbx.out.size
      go_wp2_with (first
        | (at_builtin; refine wpList_appG intC _ rfl _ _ 49 rfl 3 (.int .i64 0) 8 Tryz.underlying49 info_int1 rfl (by decide) w.heap.size _ N rfl (RowG.alloc hrow.out _) _ [nj] rfl (AtG.new _ _ _ rfl) (by simp; omega) (by simp; omega) ?_)
        | go_in)
      intro v6 w6 hown6 hb6 _ _
      have hr6 := Lib.hid hown6
      have hb6 := Lib.hid ((hbx.out.alloc hsz _).trans hb6)
      clear hown6 hrow hbx c1 d0
      go_wp2_with fail
      go_roundg (L.length - j)
      case measure => omega
      case rel => exact ⟨j + 1, by simp, hlt, by omega, by rw [hsn.out]; exact hr6, hb6⟩
    · have hje : L.take j = L := List.take_of_length_le (by omega)
      rw [hje] at hrow
      have hge : ¬ ((j : Int) < (L.length : Int)) := by omega
      go_wp2_with fail
      go_ret
      exact ⟨_, rfl, intRow_G.2 hrow.out, hbx.out⟩
def keepN (n : Int) (p : Ses) : Bool := !(p.n == n)
theorem keep_snoc (n : Int) (L : List Ses) (q : Ses) : (L ++ [q]).filter (keepN n) = if q.n = n then L.filter (keepN n) else L.filter (keepN n) ++ [q] := by
  rw [List.filter_append]
  unfold keepN
  by_cases h : q.n = n
  · rw [if_pos h]; simp [h]
  · rw [if_neg h]; simp [h]
theorem close_len (L : List Ses) (n : Int) : closeS L n = if (L.filter (keepN n)).length = L.length then (5, L) else (0, L.filter (keepN n)) := by
  unfold closeS
  cases hf : findS L n with
  | none =>
    have h1 : L.filter (keepN n) = L := List.filter_eq_self.2 fun p hp => by
      have := findS_none hf p hp
      unfold keepN
      simpa using this
    rw [h1, if_pos rfl]
    rfl
  | some p =>
    obtain ⟨hp, hpn⟩ := findS_some hf
    have h1 : ¬ (L.filter (keepN n)).length = L.length := fun e => by
      have h2 := List.filter_eq_self.1 (List.Sublist.eq_of_length List.filter_sublist e) p hp
      unfold keepN at h2
      simp [hpn] at h2
    rw [if_neg h1]
    rfl
theorem info_open7 : (Tryz.prog.info? 70).map (fun i => (i.zero, i.size, i.bytes)) = some (some (.agg #[.int .i64 0, .string ⟨#[]⟩, .string ⟨#[]⟩, .int .i64 0, .int .i64 0, .int .i64 0, .int .i64 0]), sesC.k, 72) := info_open
set_option maxHeartbeats 4000000 in
set_option maxRecDepth 100000 in
theorem closeR_desk (base b : Nat) (many : Int) (L : List Ses) (n : Int) (w : World) (hB : DRef w base b many L) (h40 : L.length ≤ 40) (hbs : base ≤ w.heap.size) :
    Calls Tryz.prog 13 #[.pointer (some ⟨b, 0, none⟩), .int .i64 n] w fun e w' => e = .returned (.int .i64 ((closeS L n).1 : Nat)) ∧ Keeps (DRefS base w) w w' ∧ DRef w' base b many (closeS L n).2 := by
  have hBH := Lib.hid hB
  obtain ⟨_, hfz, v, c1, hown⟩ := hB.at0
  obtain ⟨a, c, rfl, hml, hcl⟩ := opensAt_of_row (by unfold maxLen; omega) hown
  have hblt := hB.lt
  have hcl := Lib.hid hcl
  have c1W := Lib.hid c1
  have hcls := Lib.hid (close_len L n)
  have hf1 := Lib.hid (hfz 1)
  clear hB hown c1 hfz
  go_enter Tryz.func13, Tryz.ntmps13
  go_wp2_with fail
  go_loopg [5, 6] (L.length + 1) (fun g v i wr => ∃ j : Nat, i = .int .i64 j ∧ j ≤ L.length ∧ L.length - j + 1 ≤ g ∧ Hid (RowG sesC wr w.heap.size 70 v ((L.take j).filter (keepN n))) ∧ Hid (Below w.heap.size w wr))
  case atStart => exact ⟨0, rfl, Nat.zero_le _, by omega, Lib.hid (RowG.nil _ _ _), Lib.hid (Below.refl _ _)⟩
  case round =>
    obtain ⟨j, rfl, hj, hg, hrow, hbx⟩ := hrel
    have c1 := cell_below hbx.out c1W.out
    by_cases hlt : j < L.length
    · obtain ⟨bb, o, rfl, d⟩ := hcl.out j hlt
      have hsn := keep_snoc n (L.take j) L[j]
      rw [← take_snocS hlt] at hsn
      have hlenN : ((L.take j).filter (keepN n)).length ≤ 40 := Nat.le_trans (List.length_filter_le _ _) (by rw [List.length_take]; omega)
      obtain ⟨q, hqd⟩ : ∃ q, L[j] = q := ⟨_, rfl⟩
      rw [hqd] at d hsn
      clear hqd
      obtain ⟨pn, who, svc, ep, bg, fn, sr⟩ := q
      dsimp only at d hsn
      obtain ⟨d0, d1, d2, d3, d4, d5, d6⟩ := d
      have d0 := cell_below hbx.out d0
      have d1 := cell_below hbx.out d1
      have d2 := cell_below hbx.out d2
      have d3 := cell_below hbx.out d3
      have d4 := cell_below hbx.out d4
      have d5 := cell_below hbx.out d5
      have d6 := cell_below hbx.out d6
      generalize (L.take j).filter (keepN n) = K at *
      obtain ⟨a9, c9, rfl⟩ := hrow.out.sl
      have hk2 : (0 : Int) ≤ (j : Int) := by omega
      have hk3 : (j : Int) < (L.length : Int) := by omega
      have hsz : w.heap.size ≤ wr.heap.size := hbx.out.size
      by_cases hpn : pn = n
      · have hsn := Lib.hid (hsn.trans (if_pos hpn))
        have hne : (pn != n) = false := by rw [hpn]; exact bne_self_eq_false _
        clear hpn
        go_wp2_with fail
        go_roundg (L.length - j)
        case measure => omega
        case rel => exact ⟨j + 1, by simp, hlt, by omega, by rw [hsn.out]; exact hrow, hbx⟩
      · have hsn := Lib.hid (hsn.trans (if_neg hpn))
        have hne : (pn != n) = true := bne_iff_ne.2 hpn
        clear hpn
        go_wp2_with (first
          | (at_builtin; refine wpList_appG sesC _ rfl _ _ 28 rfl 70 (.agg #[.int .i64 0, .string ⟨#[]⟩, .string ⟨#[]⟩, .int .i64 0, .int .i64 0, .int .i64 0, .int .i64 0]) 72 Tryz.underlying28 info_open7 rfl (by decide) w.heap.size _ K rfl (RowG.alloc hrow.out _) _ [(⟨pn, ⟨who, svc, ep, bg, fn, sr⟩⟩ : Ses)] rfl (AtG.new _ _ _ rfl) (by simp; omega) (by simp; omega) ?_)
          | go_in)
        intro v6 w6 hown6 hb6 _ _
        have hr6 := Lib.hid hown6
        have hb6 := Lib.hid ((hbx.out.alloc hsz _).trans hb6)
        clear hown6 hrow hbx c1 d0 d1 d2 d3 d4 d5 d6
        go_wp2_with fail
        go_roundg (L.length - j)
        case measure => omega
        case rel => exact ⟨j + 1, by simp, hlt, by omega, by rw [hsn.out]; exact hr6, hb6⟩
    · have hje : L.take j = L := List.take_of_length_le (by omega)
      rw [hje] at hrow
      have hge : ¬ ((j : Int) < (L.length : Int)) := by omega
      obtain ⟨a9, c9, rfl⟩ := hrow.out.sl
      by_cases hle : (L.filter (keepN n)).length = L.length
      · have hr := Lib.hid (hcls.out.trans (if_pos hle))
        have hli : (((L.filter (keepN n)).length : Int) == (L.length : Int)) = true := by rw [beq_iff_eq]; omega
        generalize (L.filter (keepN n)).length = m at *
        clear hle
        go_wp2_with fail
        go_ret
        exact ⟨by rw [hr.out]; rfl, Keeps.of_below hbx.out, by rw [hr.out]; exact hBH.out.below hbx.out⟩
      · have hr := Lib.hid (hcls.out.trans (if_neg hle))
        have hli : (((L.filter (keepN n)).length : Int) == (L.length : Int)) = false := by rw [beq_eq_false_iff_ne]; omega
        have hfin := Lib.hid (dref_store hBH.out hbx.out (Nat.le_refl _) hbs (sesRow_G.2 hrow.out))
        have hfx := (hbx.out.frozen (p := ⟨b, 1, none⟩) hblt).trans hf1.out
        generalize L.filter (keepN n) = K at *
        clear hle
        go_wp2_with fail
        go_ret
        exact ⟨by rw [hr.out]; rfl, hfin.out.1, by rw [hr.out]; exact hfin.out.2⟩
end Go.Proofs.YtlcomdbkkfbjiaaGreatDoor

/- The reference's desk: Ask, Open: walked. -/
namespace Go.Proofs.YtlcomdbkkfbjiaaGreatDoor
open Go.RowKit Go.Maps

/-- The result of Ask: an error's number as a number. -/
def AskRes (r : Tick × Nat) (e : Ending) : Prop := e = .returned (.tuple #[r.1.val, .int .i64 (r.2 : Nat)])
theorem ask_first {L : List Ses} {n now : Int} {j : Nat} (hj : j < L.length) (hn : L[j].n = n) (ha : ∀ i (h : i < L.length), i < j → L[i].n ≠ n) : findS L n = some L[j] := by
  unfold findS
  rw [List.find?_eq_some_iff_append]
  refine ⟨by simpa using hn, L.take j, L.drop (j + 1), ?_, fun x hx => ?_⟩
  · rw [← List.drop_eq_getElem_cons hj, List.take_append_drop]
  · obtain ⟨i, hi, rfl⟩ := List.getElem_of_mem hx
    rw [List.length_take] at hi
    rw [List.getElem_take]
    have := ha i (by omega) (by omega)
    simpa using this
theorem ask_not {L : List Ses} {n : Int} (ha : ∀ i (h : i < L.length), L[i].n ≠ n) : findS L n = none := List.find?_eq_none.2 fun x hx => by
  obtain ⟨i, hi, rfl⟩ := List.getElem_of_mem hx
  simpa using ha i hi
/-- A box of six cells, new ahead of all else. -/
def TBox (w0 w : World) : Prop := w.heap[w0.heap.size]? = some (.cells #[.string ⟨#[]⟩, .string ⟨#[]⟩, .int .i64 0, .int .i64 0, .int .i64 0, .int .i64 0] 32 (0, 0)) ∧ Below w0.heap.size w0 w
theorem TBox.below {w0 w w' : World} (h : TBox w0 w) (hb : Below w.heap.size w w') : TBox w0 w' := ⟨heap_below hb h.1, below_trans h.2 hb⟩
set_option maxHeartbeats 4000000 in
set_option maxRecDepth 100000 in
theorem askR_desk (base b : Nat) (many : Int) (L : List Ses) (n now : Int) (w : World) (hB : DRef w base b many L) (h40 : L.length ≤ 40) (ht : ∀ p ∈ L, tickErr p.t = 0) :
    Calls Tryz.prog 11 #[.pointer (some ⟨b, 0, none⟩), .int .i64 n, .int .i64 now] w fun e w' => AskRes (askSs L n now) e ∧ Below w.heap.size w w' := by
  obtain ⟨_, _, v, c1, hown⟩ := hB.at0
  obtain ⟨a, c, rfl, hml, hcl⟩ := opensAt_of_row (by unfold maxLen; omega) hown
  have hcl0 := hcl
  clear hcl
  have hcl := Lib.hid hcl0
  have c1W := Lib.hid c1
  have ht0 := ht
  clear ht
  have ht := Lib.hid ht0
  have hask := Lib.hid (show askSs L n now = match findS L n with
    | none => (noTick, 5)
    | some p => if goodT p.t now = 0 then (p.t, 0) else (noTick, goodT p.t now) from rfl)
  clear hcl0 ht0
  have hbox0 : TBox w (w.alloc (.cells #[.string ⟨#[]⟩, .string ⟨#[]⟩, .int .i64 0, .int .i64 0, .int .i64 0, .int .i64 0] 32)) := ⟨heap_alloc_new w _, (Below.refl _ _).alloc (Nat.le_refl _) _⟩
  have hbox := Lib.hid hbox0
  clear hB hown c1 hbox0
  go_enter Tryz.func11, Tryz.ntmps11
  go_wp2_with fail
  go_loopg [8] (L.length + 1) (fun g i wr => ∃ j : Nat, i = .int .i64 j ∧ j ≤ L.length ∧ L.length - j + 1 ≤ g ∧ Hid (∀ i (h : i < L.length), i < j → L[i].n ≠ n) ∧ Hid (TBox w wr))
  case atStart => exact ⟨0, rfl, Nat.zero_le _, by omega, Lib.hid (fun _ _ h => absurd h (Nat.not_lt_zero _)), hbox⟩
  case round =>
    obtain ⟨j, rfl, hj, hg, hall, hbx⟩ := hrel
    have c1 := cell_below hbx.out.2 c1W.out
    by_cases hlt : j < L.length
    · obtain ⟨bb, o, rfl, d⟩ := hcl.out j hlt
      have hf := Lib.hid (fun h : L[j].n = n => ask_first (now := now) hlt h hall.out)
      have hall2 := Lib.hid (fun (h : L[j].n ≠ n) => (show ∀ i (h : i < L.length), i < j + 1 → L[i].n ≠ n from fun i hi hij => by
        rcases Nat.lt_succ_iff_lt_or_eq.1 hij with h' | rfl
        · exact hall.out i hi h'
        · exact h))
      have htk := ht.out _ (List.getElem_mem hlt)
      obtain ⟨q, hqd⟩ : ∃ q, L[j] = q := ⟨_, rfl⟩
      rw [hqd] at d hf hall2 htk
      clear hqd
      have hk2 : (0 : Int) ≤ (j : Int) := by omega
      have hk3 : (j : Int) < (L.length : Int) := by omega
      have hl := tick_size htk
      have hgd := goodR_tick q.t now
      have hgd := Lib.hid (fun wx => hgd wx (by constructor <;> (unfold maxLen; omega)))
      obtain ⟨pn, who, svc, ep, bg, fn, sr⟩ := q
      dsimp only [Tick.val] at d hf hall2 hgd
      obtain ⟨d0, d1, d2, d3, d4, d5, d6⟩ := d
      have d0 := cell_below hbx.out.2 d0
      have d1 := cell_below hbx.out.2 d1
      have d2 := cell_below hbx.out.2 d2
      have d3 := cell_below hbx.out.2 d3
      have d4 := cell_below hbx.out.2 d4
      have d5 := cell_below hbx.out.2 d5
      have d6 := cell_below hbx.out.2 d6
      clear htk hl
      by_cases hpn : pn = n
      · have hf := Lib.hid (hf.out hpn)
        have hne : (pn == n) = true := by rw [hpn]; exact beq_self_eq_true _
        have hask2 : askSs L n now = if goodT (⟨who, svc, ep, bg, fn, sr⟩ : Tick) now = 0 then (⟨who, svc, ep, bg, fn, sr⟩, 0) else (noTick, goodT (⟨who, svc, ep, bg, fn, sr⟩ : Tick) now) := by rw [hask.out, hf.out]
        generalize goodT (⟨who, svc, ep, bg, fn, sr⟩ : Tick) now = cd at *
        clear hpn hall2 hf hask
        cases cd with
        | succ cd =>
          have hr := Lib.hid (hask2.trans (if_neg (Nat.succ_ne_zero cd)))
          have hz1 : (0 : Int) < ((cd + 1 : Nat) : Int) := by omega
          clear hask2
          generalize hzd : ((cd + 1 : Nat) : Int) = z at hgd hz1
          have hzd := Lib.hid hzd
          go_wp2_with fail
          refine (hgd.out _).mono ?_
          rintro e w3 ⟨rfl, hb3⟩
          have hx3 := hbx.out.below hb3
          obtain ⟨⟨r0, r1, r2, r3, r4, r5⟩, f0, f1, f2, f3, f4, f5⟩ := tick_kept (Below.refl _ _) hx3.1
          have hfin := Lib.hid (below_set6 (n := w.heap.size) hx3.2 (Nat.le_refl _) (.string ⟨#[]⟩) (.string ⟨#[]⟩) (.int .i64 0) (.int .i64 0) (.int .i64 0) (.int .i64 0))
          have hq := Lib.hid (tick_kept (Below.refl _ _) (row_set6 hx3.1 (.string ⟨#[]⟩) (.string ⟨#[]⟩) (.int .i64 0) (.int .i64 0) (.int .i64 0) (.int .i64 0)))
          clear hb3 hx3 d0 d1 d2 d3 d4 d5 d6 c1
          go_wp2_with fail
          obtain ⟨⟨q0, q1, q2, q3, q4, q5⟩, _⟩ := hq.out
          exact bodyPost_ret (v := .tuple #[.agg #[.string ⟨#[]⟩, .string ⟨#[]⟩, .int .i64 0, .int .i64 0, .int .i64 0, .int .i64 0], .int .i64 z]) (by simp [results, Tryz.results11, go_sem, q0, q1, q2, q3, q4, q5]) rfl ⟨by unfold AskRes; rw [hr.out]; dsimp only; rw [hzd.out]; rfl, hfin.out⟩
        | zero =>
          have hr := Lib.hid (hask2.trans (if_pos rfl))
          have e0 := Lib.hid d1
          have e1 := Lib.hid d2
          have e2 := Lib.hid d3
          have e3 := Lib.hid d4
          have e4 := Lib.hid d5
          have e5 := Lib.hid d6
          have c1H := Lib.hid c1
          clear hask2
          go_wp2_with fail
          refine (hgd.out _).mono ?_
          rintro e w3 ⟨rfl, hb3⟩
          have hx3 := hbx.out.below hb3
          obtain ⟨⟨r0, r1, r2, r3, r4, r5⟩, f0, f1, f2, f3, f4, f5⟩ := tick_kept (Below.refl _ _) hx3.1
          have hfin := Lib.hid (below_set6 (n := w.heap.size) hx3.2 (Nat.le_refl _) (.string (bs who)) (.string (bs svc)) (.int .i64 ep) (.int .i64 bg) (.int .i64 fn) (.int .i64 sr))
          have hq := Lib.hid (tick_kept (Below.refl _ _) (row_set6 hx3.1 (.string (bs who)) (.string (bs svc)) (.int .i64 ep) (.int .i64 bg) (.int .i64 fn) (.int .i64 sr)))
          have d1 := cell_below hb3 e0.out
          have d2 := cell_below hb3 e1.out
          have d3 := cell_below hb3 e2.out
          have d4 := cell_below hb3 e3.out
          have d5 := cell_below hb3 e4.out
          have d6 := cell_below hb3 e5.out
          have c1 := cell_below hb3 c1H.out
          clear hb3 hx3 d0
          go_wp2_with fail
          obtain ⟨⟨q0, q1, q2, q3, q4, q5⟩, _⟩ := hq.out
          exact bodyPost_ret (v := .tuple #[.agg #[.string (bs who), .string (bs svc), .int .i64 ep, .int .i64 bg, .int .i64 fn, .int .i64 sr], .int .i64 0]) (by simp [results, Tryz.results11, go_sem, q0, q1, q2, q3, q4, q5]) rfl ⟨by unfold AskRes; rw [hr.out]; rfl, hfin.out⟩
      · have hne : (pn == n) = false := beq_eq_false_iff_ne.2 hpn
        have hall2 := Lib.hid (hall2.out hpn)
        clear hpn hf
        go_wp2_with fail
        go_roundg (L.length - j)
        case measure => omega
        case rel => exact ⟨j + 1, by simp, hlt, by omega, hall2, hbx⟩
    · have hr := Lib.hid (show askSs L n now = (noTick, 5) by rw [hask.out, ask_not (fun i hi => hall.out i hi (by omega))])
      have hge : ¬ ((j : Int) < (L.length : Int)) := by omega
      obtain ⟨⟨r0, r1, r2, r3, r4, r5⟩, f0, f1, f2, f3, f4, f5⟩ := tick_kept (Below.refl _ _) hbx.out.1
      have hfin := Lib.hid (below_set6 (n := w.heap.size) hbx.out.2 (Nat.le_refl _) (.string ⟨#[]⟩) (.string ⟨#[]⟩) (.int .i64 0) (.int .i64 0) (.int .i64 0) (.int .i64 0))
      have hq := Lib.hid (tick_kept (Below.refl _ _) (row_set6 hbx.out.1 (.string ⟨#[]⟩) (.string ⟨#[]⟩) (.int .i64 0) (.int .i64 0) (.int .i64 0) (.int .i64 0)))
      clear hask
      go_wp2_with fail
      obtain ⟨⟨q0, q1, q2, q3, q4, q5⟩, _⟩ := hq.out
      exact bodyPost_ret (v := .tuple #[.agg #[.string ⟨#[]⟩, .string ⟨#[]⟩, .int .i64 0, .int .i64 0, .int .i64 0, .int .i64 0], .int .i64 5]) (by simp [results, Tryz.results11, go_sem, q0, q1, q2, q3, q4, q5]) rfl ⟨by unfold AskRes; rw [hr.out]; rfl, hfin.out⟩
end Go.Proofs.YtlcomdbkkfbjiaaGreatDoor

/- Regions that draw their order, step by step: go_region_held3's own moves as laws, the slot of each operation given. -/
namespace Go.Proofs.YtlcomdbkkfbjiaaGreatDoor
open Go.RowKit

section
variable {P : Program} {md : Region.Mode} {ops : Array Oper} {Q : Exit → Act → World → Prop} {S : World → Prop}
/-- Number i is taken first; its slot is d. -/
theorem held_take {i : Nat} {d : Option Tmp} {oi : Oper} {v : Value} {fuel : Nat} {listed : Array Bool} {a : Act} {w : World} (hi : ops[i]? = some oi) (hd : oi.dst = d)
    (hs : Region.noSelect ops = true) (hf : Region.free md ops listed i = true) (hr : (Region.ready md ops listed).contains i = true)
    (hQ : ∀ c a w, Q (.panic c) (a.put oi.dst v) w → Q (.panic c) a w) (hw : Region.wanted oi (yielded ops a.tmps) = true) (hS : S w) (hy : ∀ w, S w → (execOp a.eval oi).run P w = .ok (.value v) w)
    (h : wpAnyH P md ops Q S fuel (listed.setIfInBounds i true) (a.put d v) w) : wpAnyH P md ops Q S (fuel + 1) listed a w := by
  subst hd
  exact wpAnyH_take hi hs hf hr hQ (.inl ⟨hw, hy⟩) hS h
/-- Number i does not run (its guard says so): its slot d is left as undef. -/
theorem held_skip {i : Nat} {d : Option Tmp} {oi : Oper} {fuel : Nat} {listed : Array Bool} {a : Act} {w : World} (hi : ops[i]? = some oi) (hd : oi.dst = d)
    (hs : Region.noSelect ops = true) (hf : Region.free md ops listed i = true) (hr : (Region.ready md ops listed).contains i = true)
    (hQ : ∀ c a w, Q (.panic c) (a.put oi.dst undef) w → Q (.panic c) a w) (hw : Region.wanted oi (yielded ops a.tmps) = false) (hS : S w)
    (h : wpAnyH P md ops Q S fuel (listed.setIfInBounds i true) (a.put d undef) w) : wpAnyH P md ops Q S (fuel + 1) listed a w := by
  subst hd
  exact wpAnyH_take hi hs hf hr hQ (.inr ⟨hw, rfl⟩) hS h
/-- S may be said more strongly from here on. -/
theorem held_more {S' : World → Prop} (hSS : ∀ w, S' w → S w) : ∀ (fuel : Nat) (listed : Array Bool) (a : Act) (w : World), wpAnyH P md ops Q S' fuel listed a w → wpAnyH P md ops Q S fuel listed a w
  | 0, _, _, _, h => h
  | fuel + 1, _, _, _, h => ⟨h.1, fun i hi => wpOp_mono (fun a' w' h' => ⟨hSS _ h'.1, held_more hSS fuel _ a' w' h'.2⟩) (h.2 i hi)⟩
end
end Go.Proofs.YtlcomdbkkfbjiaaGreatDoor
