/- Mark0, Texts, Name, TickG -/
import Derived.Test.YtlcomdbkkfbjiaaGreatDoorProg
import Derived.Test.YtlcomdbkkfbjiaaGreatDoorMg1
import Derived.WalkKit
import Derived.WalkSpells
import Derived.WalkLawsBesides
import Derived.Lib.Hide
import Derived.Deep.QuietTactic
import Derived.BigQuiet
import Derived.Deep.Draws
import Derived.Test.YtlcomdbkkfbjiaaGreatDoorShelf
import Derived.Test.YtlcomdbkkfbjiaaGreatDoorMg4
import Derived.Deep.RegionHeld3
import Derived.Deep.LoopGhost
import Derived.IntWalk
/- Errors as values, the sentinels' variables, small lemmas, mark.Key. -/
namespace Go.Proofs.YtlcomdbkkfbjiaaGreatDoor
open Go.RowKit

/-- An error by its number (0: nil). -/
def errV (E : Nat → Addr) : Nat → Value
  | 0 => .nilIface
  | c + 1 => .iface 175 (.pointer (some (E (c + 1))))
theorem errV_zero (E : Nat → Addr) : errV E 0 = .nilIface := rfl
theorem errV_succ (E : Nat → Addr) (c : Nat) : errV E (c + 1) = .iface 175 (.pointer (some (E (c + 1)))) := rfl

/-- The sentinels of package api lie at E, each in a row of its own. -/
structure Laid (E : Nat → Addr) (w : World) : Prop where
  e1 : w.cell? ⟨5, 0, none⟩ = some (errV E 1)
  e2 : w.cell? ⟨2, 0, none⟩ = some (errV E 2)
  e3 : w.cell? ⟨6, 0, none⟩ = some (errV E 3)
  e4 : w.cell? ⟨7, 0, none⟩ = some (errV E 4)
  e5 : w.cell? ⟨1, 0, none⟩ = some (errV E 5)
  e6 : w.cell? ⟨8, 0, none⟩ = some (errV E 6)
  e7 : w.cell? ⟨0, 0, none⟩ = some (errV E 7)
  e8 : w.cell? ⟨9, 0, none⟩ = some (errV E 8)
  e9 : w.cell? ⟨10, 0, none⟩ = some (errV E 9)
  e10 : w.cell? ⟨11, 0, none⟩ = some (errV E 10)
  e11 : w.cell? ⟨3, 0, none⟩ = some (errV E 11)
  e12 : w.cell? ⟨4, 0, none⟩ = some (errV E 12)
  e13 : w.cell? ⟨12, 0, none⟩ = some (errV E 13)
  e14 : w.cell? ⟨13, 0, none⟩ = some (errV E 14)
  e15 : w.cell? ⟨14, 0, none⟩ = some (errV E 15)
  e16 : w.cell? ⟨15, 0, none⟩ = some (errV E 16)
theorem cell_below {w w' : World} (hb : Below w.heap.size w w') {a : Addr} {v : Value} (h : w.cell? a = some v) : w'.cell? a = some v :=
  (hb.cell (World.block_lt_of_cell? w a h)).trans h
theorem Laid.below {E : Nat → Addr} {w w' : World} (h : Laid E w) (hb : Below w.heap.size w w') : Laid E w' where
  e1 := cell_below hb h.e1
  e2 := cell_below hb h.e2
  e3 := cell_below hb h.e3
  e4 := cell_below hb h.e4
  e5 := cell_below hb h.e5
  e6 := cell_below hb h.e6
  e7 := cell_below hb h.e7
  e8 := cell_below hb h.e8
  e9 := cell_below hb h.e9
  e10 := cell_below hb h.e10
  e11 := cell_below hb h.e11
  e12 := cell_below hb h.e12
  e13 := cell_below hb h.e13
  e14 := cell_below hb h.e14
  e15 := cell_below hb h.e15
  e16 := cell_below hb h.e16
theorem below_drawn {B : Nat} {a w : World} (h : Below B a w) (n : Nat) : Below B a (w.drewN n) := ⟨h.os, h.tape, h.output, h.size, h.block⟩
theorem below_trans {w w1 w2 : World} (h : Below w.heap.size w w1) (h' : Below w1.heap.size w1 w2) : Below w.heap.size w w2 := h.trans (h'.mono h.size)
theorem ret_int {a b : Int} (h : a = b) : Ending.returned (.int .i64 a) = .returned (.int .i64 b) := by rw [h]
theorem ret_bool {a b : Bool} (h : a = b) : Ending.returned (.bool a) = .returned (.bool b) := by rw [h]
theorem ret_int2 {a b : Int} {v : Value} (h : a = b) : Ending.returned (.tuple #[.int .i64 a, v]) = .returned (.tuple #[.int .i64 b, v]) := by rw [h]
end Go.Proofs.YtlcomdbkkfbjiaaGreatDoor

/- A slice of texts in memory. -/
namespace Go.Proofs.YtlcomdbkkfbjiaaGreatDoor
open Go.RowKit

/-- A slice of texts. -/
def TextsAt (w : World) (v : Value) (N : List (List UInt8)) : Prop :=
  ∃ a c, v = .slice a N.length c ∧ N.length ≤ maxLen ∧ N.length ≤ c ∧ ∀ i (h : i < N.length), ∃ b o, a = some ⟨b, o, none⟩ ∧ w.cell? ⟨b, o + i, none⟩ = some (.string (bs N[i]))
theorem TextsAt.below {w w' : World} {v : Value} {N : List (List UInt8)} (h : TextsAt w v N) (hb : Below w.heap.size w w') : TextsAt w' v N := by
  obtain ⟨a, c, h1, h2, hcap, h3⟩ := h
  refine ⟨a, c, h1, h2, hcap, fun i hi => ?_⟩
  obtain ⟨b, o, h4, h5⟩ := h3 i hi
  exact ⟨b, o, h4, cell_below hb h5⟩
theorem toList_data (s : ByteArray) : s.toList = s.data.toList := ByteArray.toList_eq s
theorem bs_size (n : List UInt8) : (bs n).size = n.length := by simp [bs, ByteArray.size]
end Go.Proofs.YtlcomdbkkfbjiaaGreatDoor

/- seal.Name, by its contract. -/
namespace Go.Proofs.YtlcomdbkkfbjiaaGreatDoor
open Go.RowKit

set_option maxRecDepth 100000 in
theorem trim_small (s : ByteArray) (w : World) (hs : s.size ≤ maxLen) :
    Calls Tryz.prog 74 #[.string s, .string (bs smallCs)] w fun e w' => e = .returned (.string (bs (Lib.trimS s.data.toList smallCs))) ∧ Below w.heap.size w w' :=
  Any.strings_Trim_laid Tryz.trim160 (by kernel_rfl) s (bs smallCs) w hs (by decide) (ascii_of_all (by decide))
set_option maxRecDepth 100000 in
theorem name_any (s : ByteArray) (w : World) (hs : s.size ≤ maxLen) :
    Calls Tryz.prog 52 #[.string s] w fun e w' => e = .returned (.bool (isName s.data.toList)) ∧ Below w.heap.size w w' := by
  have ht := trim_small s w hs
  have hlen : s.data.toList.length = s.size := Array.length_toList
  have htl : s.toList = s.data.toList := toList_data s
  unfold maxLen at hs
  by_cases h0 : s.data.toList = []
  · have hr := Lib.hid (show isName s.data.toList = false by rw [h0]; rfl)
    have hte : s.toList = [] := by rw [htl, h0]
    clear ht hlen htl h0
    go_enter Tryz.func52, Tryz.ntmps52
    go_wp2_with fail
    go_ret
    exact ⟨ret_bool hr.out.symm, Below.refl _ _⟩
  · have hte : s.toList.isEmpty = false := by rw [htl]; simpa using h0
    have h1 : 1 ≤ s.size := by
      rcases Nat.eq_zero_or_pos s.size with h | h
      · exact absurd (List.eq_nil_of_length_eq_zero (hlen.trans h)) h0
      · exact h
    by_cases h8 : s.size ≤ 8
    · have ht := Lib.hid ht
      by_cases hall : Lib.trimS s.data.toList smallCs = []
      · have hr := Lib.hid (show isName s.data.toList = true from (isName_iff _).2 ⟨by omega, by omega, fun c hc => by rw [← smallCs_contains]; exact (trimS_nil_iff _ _).1 hall c hc⟩)
        clear hlen htl h0
        have he : (bs []).toList = [] := by rw [toList_data]; rfl
        go_enter Tryz.func52, Tryz.ntmps52
        go_wp2_with fail
        refine ht.out.mono ?_
        rintro e w1 ⟨rfl, hb⟩
        rw [hall]
        clear hall
        go_wp2_with fail
        go_ret
        exact ⟨ret_bool hr.out.symm, hb⟩
      · have hr := Lib.hid (show isName s.data.toList = false by
          cases hn : isName s.data.toList with
          | false => rfl
          | true =>
            obtain ⟨_, _, h⟩ := (isName_iff _).1 hn
            exact absurd ((trimS_nil_iff _ _).2 (fun c hc => by rw [smallCs_contains]; exact h c hc)) hall)
        clear hlen htl h0
        have he : (bs (Lib.trimS s.data.toList smallCs)).toList.isEmpty = false := by rw [toList_data, bs_list]; simpa using hall
        generalize bs (Lib.trimS s.data.toList smallCs) = t at *
        clear hall
        go_enter Tryz.func52, Tryz.ntmps52
        go_wp2_with fail
        refine ht.out.mono ?_
        rintro e w1 ⟨rfl, hb⟩
        go_wp2_with fail
        go_ret
        exact ⟨ret_bool hr.out.symm, hb⟩
    · have hr := Lib.hid (show isName s.data.toList = false by
        cases hn : isName s.data.toList with
        | false => rfl
        | true => obtain ⟨_, h, _⟩ := (isName_iff _).1 hn; omega)
      clear ht hlen htl h0
      go_enter Tryz.func52, Tryz.ntmps52
      go_wp2_with fail
      go_ret
      exact ⟨ret_bool hr.out.symm, Below.refl _ _⟩
end Go.Proofs.YtlcomdbkkfbjiaaGreatDoor

/- The walks of package ticket: Check, Good by contracts. -/
namespace Go.Proofs.YtlcomdbkkfbjiaaGreatDoor
open Go.RowKit

def Tick.val (t : Tick) : Value := .agg #[.string (bs t.who), .string (bs t.svc), .int .i64 t.epoch, .int .i64 t.beg, .int .i64 t.fin, .int .i64 t.serial]
def Tick.cells (t : Tick) : Array Value := #[.string (bs t.who), .string (bs t.svc), .int .i64 t.epoch, .int .i64 t.beg, .int .i64 t.fin, .int .i64 t.serial]
/-- Are a ticket's texts short enough for memory? -/
def TickLen (t : Tick) : Prop := t.who.length ≤ maxLen ∧ t.svc.length ≤ maxLen
def inB (n lo hi : Int) : Bool := decide (lo ≤ n) && decide (n ≤ hi)
theorem tickNum_in (t : Tick) : tickNum t = (inB t.epoch 1 1073741824 && (inB t.serial 1 1073741824 && (inB t.beg 0 1000000 && inB t.fin t.beg 1000000))) := rfl
theorem in_any (n lo hi : Int) (b : Bool) (w : World) (h : inB n lo hi = b) :
    Calls Tryz.prog 37 #[.int .i64 n, .int .i64 lo, .int .i64 hi] w fun e w' => e = .returned (.bool b) ∧ w = w' := by
  subst h
  unfold inB
  by_cases h1 : lo ≤ n <;> by_cases h2 : n ≤ hi
  all_goals
    go_enter Tryz.func37, Tryz.ntmps37
    go_wp2
    go_ret
    exact ⟨by simp [h1, h2], rfl⟩
set_option maxRecDepth 100000 in
theorem check_tick {E : Nat → Addr} (t : Tick) (w : World) (hL : Laid E w) (hl : TickLen t) :
    Calls Tryz.prog 36 #[t.val] w fun e w' => e = .returned (errV E (tickErr t)) ∧ Below w.heap.size w w' := by
  have hB : Below w.heap.size w (w.alloc (.cells t.cells 32)) := (Below.refl _ _).alloc (Nat.le_refl _) _
  have hnw := Lib.hid (fun wx => name_any (bs t.who) wx (by rw [bs_size]; exact hl.1))
  have hns := Lib.hid (fun wx => name_any (bs t.svc) wx (by rw [bs_size]; exact hl.2))
  have hte : ∀ a b c, isName t.who = a → isName t.svc = b → tickNum t = c → tickErr t = if (a && b) = true then (if c = true then 0 else 2) else 4 := by
    intro a b c h1 h2 h3; subst h1; subst h2; subst h3; rfl
  have hnum := tickNum_in t
  obtain ⟨who, svc, ep, bg, fn, sr⟩ := t
  dsimp only [Tick.val, Tick.cells] at *
  have c1 : (w.alloc (.cells #[.string (bs who), .string (bs svc), .int .i64 ep, .int .i64 bg, .int .i64 fn, .int .i64 sr] 32)).cell? ⟨w.heap.size, 1, none⟩ = some (.string (bs svc)) := by simp
  have c2 : (w.alloc (.cells #[.string (bs who), .string (bs svc), .int .i64 ep, .int .i64 bg, .int .i64 fn, .int .i64 sr] 32)).cell? ⟨w.heap.size, 2, none⟩ = some (.int .i64 ep) := by simp
  have c3 : (w.alloc (.cells #[.string (bs who), .string (bs svc), .int .i64 ep, .int .i64 bg, .int .i64 fn, .int .i64 sr] 32)).cell? ⟨w.heap.size, 3, none⟩ = some (.int .i64 bg) := by simp
  have c4 : (w.alloc (.cells #[.string (bs who), .string (bs svc), .int .i64 ep, .int .i64 bg, .int .i64 fn, .int .i64 sr] 32)).cell? ⟨w.heap.size, 4, none⟩ = some (.int .i64 fn) := by simp
  have c5 : (w.alloc (.cells #[.string (bs who), .string (bs svc), .int .i64 ep, .int .i64 bg, .int .i64 fn, .int .i64 sr] 32)).cell? ⟨w.heap.size, 5, none⟩ = some (.int .i64 sr) := by simp
  cases ha : isName who with
  | false =>
    have hr := Lib.hid ((hte false (isName svc) _ ha rfl rfl).trans (show _ = 4 from by rw [Bool.false_and]; rfl))
    have ha2 := Lib.hid (show isName (bs who).data.toList = false from ha)
    clear hte hnum ha c1 c2 c3 c4 c5
    go_enter Tryz.func36, Tryz.ntmps36
    go_wp2_with fail
    refine (hnw.out _).mono ?_
    rintro e w1 ⟨rfl, hb⟩
    rw [ha2.out]
    have hb := Lib.hid (below_trans hB hb)
    have he := (hL.below hb.out).e4
    go_wp2_with fail
    go_ret
    exact ⟨by rw [hr.out]; rfl, hb.out⟩
  | true =>
  have ha2 := Lib.hid (show isName (bs who).data.toList = true from ha)
  cases hb' : isName svc with
  | false =>
    have hr := Lib.hid ((hte true false _ ha hb' rfl).trans (show _ = 4 from rfl))
    have hb2 := Lib.hid (show isName (bs svc).data.toList = false from hb')
    clear hte hnum ha hb'
    go_enter Tryz.func36, Tryz.ntmps36
    go_wp2_with fail
    refine (hnw.out _).mono ?_
    rintro e w1 ⟨rfl, hb⟩
    rw [ha2.out]
    have d1 := cell_below hb c1
    have hb := Lib.hid (below_trans hB hb)
    clear c1 c2 c3 c4 c5
    go_wp2_with fail
    refine (hns.out _).mono ?_
    rintro e w2 ⟨rfl, hb3⟩
    rw [hb2.out]
    have hb3 := Lib.hid (below_trans hb.out hb3)
    have he := (hL.below hb3.out).e4
    clear d1
    go_wp2_with fail
    go_ret
    exact ⟨by rw [hr.out]; rfl, hb3.out⟩
  | true =>
  have hb2 := Lib.hid (show isName (bs svc).data.toList = true from hb')
  cases hA : inB ep 1 1073741824 with
  | false =>
    have hr := Lib.hid ((hte true true false ha hb' (hnum.trans (by rw [hA]; rfl))).trans (show _ = 2 from rfl))
    clear hte hnum ha hb'
    go_enter Tryz.func36, Tryz.ntmps36
    go_wp2_with fail
    refine (hnw.out _).mono ?_
    rintro e w1 ⟨rfl, hb⟩
    rw [ha2.out]
    have d1 := cell_below hb c1
    have d2 := cell_below hb c2
    have d3 := cell_below hb c3
    have d4 := cell_below hb c4
    have d5 := cell_below hb c5
    have hb := Lib.hid (below_trans hB hb)
    clear c1 c2 c3 c4 c5
    go_wp2_with fail
    refine (hns.out _).mono ?_
    rintro e w2 ⟨rfl, hb3⟩
    rw [hb2.out]
    have f2 := cell_below hb3 d2
    have f3 := cell_below hb3 d3
    have f4 := cell_below hb3 d4
    have f5 := cell_below hb3 d5
    have hb3 := Lib.hid (below_trans hb.out hb3)
    clear d1 d2 d3 d4 d5
    have he := (hL.below hb3.out).e2
    go_wp2_with (go_at_call 37; refine (in_any _ _ _ _ _ (by assumption)).mono ?_; rintro e w' ⟨rfl, rfl⟩)
    go_ret
    exact ⟨by rw [hr.out]; rfl, hb3.out⟩
  | true =>
  cases hB2 : inB sr 1 1073741824 with
  | false =>
    have hr := Lib.hid ((hte true true false ha hb' (hnum.trans (by rw [hA, hB2]; rfl))).trans (show _ = 2 from rfl))
    clear hte hnum ha hb'
    go_enter Tryz.func36, Tryz.ntmps36
    go_wp2_with fail
    refine (hnw.out _).mono ?_
    rintro e w1 ⟨rfl, hb⟩
    rw [ha2.out]
    have d1 := cell_below hb c1
    have d2 := cell_below hb c2
    have d3 := cell_below hb c3
    have d4 := cell_below hb c4
    have d5 := cell_below hb c5
    have hb := Lib.hid (below_trans hB hb)
    clear c1 c2 c3 c4 c5
    go_wp2_with fail
    refine (hns.out _).mono ?_
    rintro e w2 ⟨rfl, hb3⟩
    rw [hb2.out]
    have f2 := cell_below hb3 d2
    have f3 := cell_below hb3 d3
    have f4 := cell_below hb3 d4
    have f5 := cell_below hb3 d5
    have hb3 := Lib.hid (below_trans hb.out hb3)
    clear d1 d2 d3 d4 d5
    have he := (hL.below hb3.out).e2
    go_wp2_with (go_at_call 37; refine (in_any _ _ _ _ _ (by assumption)).mono ?_; rintro e w' ⟨rfl, rfl⟩)
    go_ret
    exact ⟨by rw [hr.out]; rfl, hb3.out⟩
  | true =>
  cases hC : inB bg 0 1000000 with
  | false =>
    have hr := Lib.hid ((hte true true false ha hb' (hnum.trans (by rw [hA, hB2, hC]; rfl))).trans (show _ = 2 from rfl))
    clear hte hnum ha hb'
    go_enter Tryz.func36, Tryz.ntmps36
    go_wp2_with fail
    refine (hnw.out _).mono ?_
    rintro e w1 ⟨rfl, hb⟩
    rw [ha2.out]
    have d1 := cell_below hb c1
    have d2 := cell_below hb c2
    have d3 := cell_below hb c3
    have d4 := cell_below hb c4
    have d5 := cell_below hb c5
    have hb := Lib.hid (below_trans hB hb)
    clear c1 c2 c3 c4 c5
    go_wp2_with fail
    refine (hns.out _).mono ?_
    rintro e w2 ⟨rfl, hb3⟩
    rw [hb2.out]
    have f2 := cell_below hb3 d2
    have f3 := cell_below hb3 d3
    have f4 := cell_below hb3 d4
    have f5 := cell_below hb3 d5
    have hb3 := Lib.hid (below_trans hb.out hb3)
    clear d1 d2 d3 d4 d5
    have he := (hL.below hb3.out).e2
    go_wp2_with (go_at_call 37; refine (in_any _ _ _ _ _ (by assumption)).mono ?_; rintro e w' ⟨rfl, rfl⟩)
    go_ret
    exact ⟨by rw [hr.out]; rfl, hb3.out⟩
  | true =>
  cases hD : inB fn bg 1000000 with
  | false =>
    have hr := Lib.hid ((hte true true false ha hb' (hnum.trans (by rw [hA, hB2, hC, hD]; rfl))).trans (show _ = 2 from rfl))
    clear hte hnum ha hb'
    go_enter Tryz.func36, Tryz.ntmps36
    go_wp2_with fail
    refine (hnw.out _).mono ?_
    rintro e w1 ⟨rfl, hb⟩
    rw [ha2.out]
    have d1 := cell_below hb c1
    have d2 := cell_below hb c2
    have d3 := cell_below hb c3
    have d4 := cell_below hb c4
    have d5 := cell_below hb c5
    have hb := Lib.hid (below_trans hB hb)
    clear c1 c2 c3 c4 c5
    go_wp2_with fail
    refine (hns.out _).mono ?_
    rintro e w2 ⟨rfl, hb3⟩
    rw [hb2.out]
    have f2 := cell_below hb3 d2
    have f3 := cell_below hb3 d3
    have f4 := cell_below hb3 d4
    have f5 := cell_below hb3 d5
    have hb3 := Lib.hid (below_trans hb.out hb3)
    clear d1 d2 d3 d4 d5
    have he := (hL.below hb3.out).e2
    go_wp2_with (go_at_call 37; refine (in_any _ _ _ _ _ (by assumption)).mono ?_; rintro e w' ⟨rfl, rfl⟩)
    go_ret
    exact ⟨by rw [hr.out]; rfl, hb3.out⟩
  | true =>
  have hr := Lib.hid ((hte true true true ha hb' (hnum.trans (by rw [hA, hB2, hC, hD]; rfl))).trans (show _ = 0 from rfl))
  clear hte hnum ha hb'
  go_enter Tryz.func36, Tryz.ntmps36
  go_wp2_with fail
  refine (hnw.out _).mono ?_
  rintro e w1 ⟨rfl, hb⟩
  rw [ha2.out]
  have d1 := cell_below hb c1
  have d2 := cell_below hb c2
  have d3 := cell_below hb c3
  have d4 := cell_below hb c4
  have d5 := cell_below hb c5
  have hb := Lib.hid (below_trans hB hb)
  clear c1 c2 c3 c4 c5
  go_wp2_with fail
  refine (hns.out _).mono ?_
  rintro e w2 ⟨rfl, hb3⟩
  rw [hb2.out]
  have f2 := cell_below hb3 d2
  have f3 := cell_below hb3 d3
  have f4 := cell_below hb3 d4
  have f5 := cell_below hb3 d5
  have hb3 := Lib.hid (below_trans hb.out hb3)
  clear d1 d2 d3 d4 d5
  go_wp2_with (go_at_call 37; refine (in_any _ _ _ _ _ (by assumption)).mono ?_; rintro e w' ⟨rfl, rfl⟩)
  go_ret
  exact ⟨by rw [hr.out]; rfl, hb3.out⟩

set_option maxRecDepth 100000 in
theorem good_tick {E : Nat → Addr} (t : Tick) (now : Int) (w : World) (hL : Laid E w) (hl : TickLen t) :
    Calls Tryz.prog 24 #[t.val, .int .i64 now] w fun e w' => e = .returned (errV E (goodT t now)) ∧ Below w.heap.size w w' := by
  have hB : Below w.heap.size w (w.alloc (.cells t.cells 32)) := (Below.refl _ _).alloc (Nat.le_refl _) _
  have hck := Lib.hid (check_tick (E := E) t _ (hL.below hB) hl)
  have hgd : goodT t now = if tickErr t = 0 then (if 0 ≤ now ∧ now ≤ 1000000 then (if now < t.beg then 11 else if t.fin ≤ now then 12 else 0) else 2) else tickErr t := rfl
  generalize tickErr t = c at *
  obtain ⟨who, svc, ep, bg, fn, sr⟩ := t
  dsimp only [Tick.val, Tick.cells] at *
  cases c with
  | succ c =>
    have hr := Lib.hid (hgd.trans (if_neg (Nat.succ_ne_zero c)))
    rw [errV_succ] at hck
    clear hgd
    go_enter Tryz.func24, Tryz.ntmps24
    go_wp2_with fail
    refine hck.out.mono ?_
    rintro e w1 ⟨rfl, hb⟩
    have hb := Lib.hid (below_trans hB hb)
    go_wp2_with fail
    go_ret
    exact ⟨by rw [hr.out]; rfl, hb.out⟩
  | zero =>
  rw [errV_zero] at hck
  have hgd := hgd.trans (if_pos rfl)
  have c3 : (w.alloc (.cells #[.string (bs who), .string (bs svc), .int .i64 ep, .int .i64 bg, .int .i64 fn, .int .i64 sr] 32)).cell? ⟨w.heap.size, 3, none⟩ = some (.int .i64 bg) := by simp
  have c4 : (w.alloc (.cells #[.string (bs who), .string (bs svc), .int .i64 ep, .int .i64 bg, .int .i64 fn, .int .i64 sr] 32)).cell? ⟨w.heap.size, 4, none⟩ = some (.int .i64 fn) := by simp
  by_cases h1 : 0 ≤ now ∧ now ≤ 1000000
  case neg =>
    have hr := Lib.hid (hgd.trans (if_neg h1))
    have hI : inB now 0 1000000 = false := by unfold inB; simp; omega
    clear hgd
    go_enter Tryz.func24, Tryz.ntmps24
    go_wp2_with fail
    refine hck.out.mono ?_
    rintro e w1 ⟨rfl, hb⟩
    have d3 := cell_below hb c3
    have d4 := cell_below hb c4
    have hb := Lib.hid (below_trans hB hb)
    have he := (hL.below hb.out).e2
    clear c3 c4
    go_wp2_with (go_at_call 37; refine (in_any _ _ _ _ _ (by assumption)).mono ?_; rintro e w' ⟨rfl, rfl⟩)
    go_ret
    exact ⟨by rw [hr.out]; rfl, hb.out⟩
  have hgd := hgd.trans (if_pos h1)
  by_cases h2 : now < bg
  case pos =>
    have hr := Lib.hid (hgd.trans (if_pos h2))
    have hI : inB now 0 1000000 = true := by unfold inB; simp; omega
    clear hgd
    go_enter Tryz.func24, Tryz.ntmps24
    go_wp2_with fail
    refine hck.out.mono ?_
    rintro e w1 ⟨rfl, hb⟩
    have d3 := cell_below hb c3
    have d4 := cell_below hb c4
    have hb := Lib.hid (below_trans hB hb)
    have he := (hL.below hb.out).e11
    clear c3 c4
    go_wp2_with (go_at_call 37; refine (in_any _ _ _ _ _ (by assumption)).mono ?_; rintro e w' ⟨rfl, rfl⟩)
    go_ret
    exact ⟨by rw [hr.out]; rfl, hb.out⟩
  have hgd := hgd.trans (if_neg h2)
  by_cases h3 : fn ≤ now
  case pos =>
    have hr := Lib.hid (hgd.trans (if_pos h3))
    have hI : inB now 0 1000000 = true := by unfold inB; simp; omega
    clear hgd
    go_enter Tryz.func24, Tryz.ntmps24
    go_wp2_with fail
    refine hck.out.mono ?_
    rintro e w1 ⟨rfl, hb⟩
    have d3 := cell_below hb c3
    have d4 := cell_below hb c4
    have hb := Lib.hid (below_trans hB hb)
    have he := (hL.below hb.out).e12
    clear c3 c4
    go_wp2_with (go_at_call 37; refine (in_any _ _ _ _ _ (by assumption)).mono ?_; rintro e w' ⟨rfl, rfl⟩)
    go_ret
    exact ⟨by rw [hr.out]; rfl, hb.out⟩
  have hr := Lib.hid (hgd.trans (if_neg h3))
  have hI : inB now 0 1000000 = true := by unfold inB; simp; omega
  clear hgd
  go_enter Tryz.func24, Tryz.ntmps24
  go_wp2_with fail
  refine hck.out.mono ?_
  rintro e w1 ⟨rfl, hb⟩
  have d3 := cell_below hb c3
  have d4 := cell_below hb c4
  have hb := Lib.hid (below_trans hB hb)
  clear c3 c4
  go_wp2_with (go_at_call 37; refine (in_any _ _ _ _ _ (by assumption)).mono ?_; rintro e w' ⟨rfl, rfl⟩)
  go_ret
  exact ⟨by rw [hr.out]; rfl, hb.out⟩

/-- A ticket's block, kept: its cells, and none frozen. -/
theorem tick_kept {w0 w1 : World} {n : Nat} {v0 v1 v2 v3 v4 v5 : Value} {T : TypeId} (hb : Below w0.heap.size w0 w1) (h : w0.heap[n]? = some (.cells #[v0, v1, v2, v3, v4, v5] T (0, 0))) :
    (w1.cell? ⟨n, 0, none⟩ = some v0 ∧ w1.cell? ⟨n, 1, none⟩ = some v1 ∧ w1.cell? ⟨n, 2, none⟩ = some v2 ∧ w1.cell? ⟨n, 3, none⟩ = some v3 ∧ w1.cell? ⟨n, 4, none⟩ = some v4 ∧ w1.cell? ⟨n, 5, none⟩ = some v5) ∧
    (w1.frozen? ⟨n, 0, none⟩ = false ∧ w1.frozen? ⟨n, 1, none⟩ = false ∧ w1.frozen? ⟨n, 2, none⟩ = false ∧ w1.frozen? ⟨n, 3, none⟩ = false ∧ w1.frozen? ⟨n, 4, none⟩ = false ∧ w1.frozen? ⟨n, 5, none⟩ = false) := by
  have h1 : w1.heap[n]? = some (.cells #[v0, v1, v2, v3, v4, v5] T (0, 0)) := (hb.block n (Array.getElem?_eq_some_iff.1 h).1).trans h
  refine ⟨⟨?_, ?_, ?_, ?_, ?_, ?_⟩, ?_, ?_, ?_, ?_, ?_, ?_⟩
  all_goals first
    | (rw [cell_of_row _ _ _ _ _ _ h1]; rfl)
    | exact frozen_of_row _ _ _ _ _ h1
theorem heap_below {w w' : World} (hb : Below w.heap.size w w') {b : Nat} {o : Obj} (h : w.heap[b]? = some o) : w'.heap[b]? = some o :=
  (hb.block b (Array.getElem?_eq_some_iff.1 h).1).trans h
theorem box_at (w : World) (cs : Array Value) (T : TypeId) (o : Obj) : ((w.alloc (.cells cs T)).alloc o).heap[w.heap.size]? = some (.cells cs T (0, 0)) := by
  exact heap_below ((Below.refl _ _).alloc (Nat.le_refl _) o) (heap_alloc_new w _)
theorem box_new (w : World) (cs : Array Value) (T : TypeId) (o : Obj) : ((w.alloc o).alloc (.cells cs T)).heap[w.heap.size + 1]? = some (.cells cs T (0, 0)) := by
  have := heap_alloc_new (w.alloc o) (.cells cs T)
  rwa [World.size_alloc] at this
theorem row_set6 {w : World} {n : Nat} {u0 u1 u2 u3 u4 u5 : Value} {T : TypeId} (h : w.heap[n]? = some (.cells #[u0, u1, u2, u3, u4, u5] T (0, 0))) (v0 v1 v2 v3 v4 v5 : Value) :
    ((((((w.setCell ⟨n, 0, none⟩ v0).setCell ⟨n, 1, none⟩ v1).setCell ⟨n, 2, none⟩ v2).setCell ⟨n, 3, none⟩ v3).setCell ⟨n, 4, none⟩ v4).setCell ⟨n, 5, none⟩ v5).heap[n]? = some (.cells #[v0, v1, v2, v3, v4, v5] T (0, 0)) := by
  have h0 := heap_setCell_same _ n 0 _ _ v0 h
  have h1 := heap_setCell_same _ n 1 _ _ v1 h0
  have h2 := heap_setCell_same _ n 2 _ _ v2 h1
  have h3 := heap_setCell_same _ n 3 _ _ v3 h2
  have h4 := heap_setCell_same _ n 4 _ _ v4 h3
  exact heap_setCell_same _ n 5 _ _ v5 h4
theorem row_set3 {w : World} {n : Nat} {u0 u1 u2 u3 u4 u5 : Value} {T : TypeId} (h : w.heap[n]? = some (.cells #[u0, u1, u2, u3, u4, u5] T (0, 0))) (v3 v4 v5 : Value) :
    (((w.setCell ⟨n, 3, none⟩ v3).setCell ⟨n, 4, none⟩ v4).setCell ⟨n, 5, none⟩ v5).heap[n]? = some (.cells #[u0, u1, u2, v3, v4, v5] T (0, 0)) := by
  have h3 := heap_setCell_same _ n 3 _ _ v3 h
  have h4 := heap_setCell_same _ n 4 _ _ v4 h3
  exact heap_setCell_same _ n 5 _ _ v5 h4
theorem row_other3 {w : World} {n m : Nat} {o : Obj} (h : w.heap[m]? = some o) (hne : m ≠ n) (v3 v4 v5 : Value) :
    (((w.setCell ⟨n, 3, none⟩ v3).setCell ⟨n, 4, none⟩ v4).setCell ⟨n, 5, none⟩ v5).heap[m]? = some o := by
  rw [heap_setCell_other _ _ _ _ hne, heap_setCell_other _ _ _ _ hne, heap_setCell_other _ _ _ _ hne]
  exact h
theorem below_set3 {B : Nat} {a w : World} (h : Below B a w) {n : Nat} (hn : B ≤ n) (v3 v4 v5 : Value) :
    Below B a (((w.setCell ⟨n, 3, none⟩ v3).setCell ⟨n, 4, none⟩ v4).setCell ⟨n, 5, none⟩ v5) :=
  ((h.setCell hn _).setCell hn _).setCell hn _
theorem below_set6 {B : Nat} {a w : World} (h : Below B a w) {n : Nat} (hn : B ≤ n) (v0 v1 v2 v3 v4 v5 : Value) :
    Below B a ((((((w.setCell ⟨n, 0, none⟩ v0).setCell ⟨n, 1, none⟩ v1).setCell ⟨n, 2, none⟩ v2).setCell ⟨n, 3, none⟩ v3).setCell ⟨n, 4, none⟩ v4).setCell ⟨n, 5, none⟩ v5) :=
  (((((h.setCell hn _).setCell hn _).setCell hn _).setCell hn _).setCell hn _).setCell hn _
end Go.Proofs.YtlcomdbkkfbjiaaGreatDoor
