/- Code, CodeAt, Told3 -/
import Derived.Test.YtlcomdbkkfbjiaaGreatDoorMg24
import Derived.Test.YtlcomdbkkfbjiaaGreatDoorMg11
import Derived.Test.YtlcomdbkkfbjiaaGreatDoorMg9
/- plain.Code and coded: an error's number and place. -/
namespace Go.Proofs.YtlcomdbkkfbjiaaGreatDoor
open Go.RowKit

/-- The sentinels lie in rows of their own, each in another one; errors' own variable too. -/
structure LaidR (E : Nat → Addr) (w : World) : Prop where
  laid : Laid E w
  et : w.cell? ⟨16, 0, none⟩ = some (.iface 135 (.agg #[.pointer (some ⟨20, 37, none⟩)]))
  row : ∀ c, 1 ≤ c → c ≤ 16 → ∃ cs t, w.heap[(E c).block]? = some (.cells cs t (0, 0))
  inj : ∀ c d, 1 ≤ c → c ≤ 16 → 1 ≤ d → d ≤ 16 → E c = E d → c = d
theorem block_below {w w' : World} (hb : Below w.heap.size w w') {b : Nat} {o : Obj} (h : w.heap[b]? = some o) : w'.heap[b]? = some o :=
  (hb.block b (Array.getElem?_eq_some_iff.1 h).1).trans h
theorem LaidR.below {E : Nat → Addr} {w w' : World} (h : LaidR E w) (hb : Below w.heap.size w w') : LaidR E w' where
  laid := h.laid.below hb
  et := cell_below hb h.et
  row := fun c h1 h2 => let ⟨cs, t, e⟩ := h.row c h1 h2; ⟨cs, t, block_below hb e⟩
  inj := h.inj

/-- errors.Is between sentinels. -/
theorem is_sent {E : Nat → Addr} (c i : Nat) (w : World) (hL : LaidR E w) (h1 : 1 ≤ c) (h2 : c ≤ 16) (hi : i < 16) :
    Calls Tryz.prog 40 #[.iface 175 (.pointer (some (E c))), .iface 175 (.pointer (some (E (i + 1))))] w fun e w' => e = .returned (.bool (decide (i + 1 = c))) ∧ w = w' := by
  by_cases h : i + 1 = c
  · subst h
    rw [decide_eq_true rfl]
    exact is_same _ w
  · rw [decide_eq_false h]
    obtain ⟨ca, ta, ha⟩ := hL.row c h1 h2
    obtain ⟨cb, tb, hb⟩ := hL.row (i + 1) (by omega) (by omega)
    exact is_other _ _ ca cb ta tb w (fun e => h (hL.inj _ _ (by omega) (by omega) h1 h2 e.symm)) ha hb
theorem is_out {E : Nat → Addr} (a : Addr) (ca : Array Value) (ta : TypeId) (i : Nat) (w : World) (hL : LaidR E w) (ha : w.heap[a.block]? = some (.cells ca ta (0, 0))) (hne : ∀ c, 1 ≤ c → c ≤ 16 → a ≠ E c) (hi : i < 16) :
    Calls Tryz.prog 40 #[.iface 175 (.pointer (some a)), .iface 175 (.pointer (some (E (i + 1))))] w fun e w' => e = .returned (.bool false) ∧ w = w' := by
  obtain ⟨cb, tb, hb⟩ := hL.row (i + 1) (by omega) (by omega)
  exact is_other _ _ ca cb ta tb w (hne _ (by omega) (by omega)) ha hb
theorem is_fault {E : Nat → Addr} (pb po : Nat) (c i : Nat) (w : World) (hL : LaidR E w) (h1 : 1 ≤ c) (h2 : c ≤ 16) (hi : i < 16) (hc : w.cell? ⟨pb, po + 1, none⟩ = some (.iface 175 (.pointer (some (E c))))) :
    Calls Tryz.prog 40 #[.iface 86 (.pointer (some ⟨pb, po, none⟩)), .iface 175 (.pointer (some (E (i + 1))))] w fun e w' => e = .returned (.bool (decide (i + 1 = c))) ∧ w = w' := by
  by_cases h : i + 1 = c
  · subst h
    rw [decide_eq_true rfl]
    exact is_fault_same _ _ _ w hc
  · rw [decide_eq_false h]
    obtain ⟨ca, ta, ha⟩ := hL.row c h1 h2
    obtain ⟨cb, tb, hb⟩ := hL.row (i + 1) (by omega) (by omega)
    exact is_fault_other _ _ _ _ ca cb ta tb w hc (fun e => h (hL.inj _ _ (by omega) (by omega) h1 h2 e.symm)) ha hb

theorem as_miss_below (e t : Addr) (w : World) (hg : w.cell? ⟨16, 0, none⟩ = some (.iface 135 (.agg #[.pointer (some ⟨20, 37, none⟩)]))) :
    Calls Tryz.prog 39 #[.iface 175 (.pointer (some e)), .iface 88 (.pointer (some t))] w fun ev w' => ev = .returned (.bool false) ∧ Below w.heap.size w w' :=
  (as_miss e t w hg).mono fun ev w' ⟨he, hw⟩ => ⟨he, by
    rw [hw]
    exact (((Below.refl _ _).alloc (Nat.le_refl _) _).alloc (by simp) _).alloc (by simp; omega) _⟩
theorem as_hit_below (e t : Addr) (old : Value) (w : World) (hg : w.cell? ⟨16, 0, none⟩ = some (.iface 135 (.agg #[.pointer (some ⟨20, 37, none⟩)]))) (ht0 : w.cell? t = some old) (hf0 : w.frozen? t = false) :
    Calls Tryz.prog 39 #[.iface 86 (.pointer (some e)), .iface 88 (.pointer (some t))] w fun ev w' => ev = .returned (.bool true) ∧ ∃ w1, Below w.heap.size w w1 ∧ w' = w1.setCell t (.pointer (some e)) :=
  (as_hit e t old w hg ht0 hf0).mono fun ev w' ⟨he, hw⟩ => ⟨he, _, by
    exact ((((Below.refl _ _).alloc (Nat.le_refl _) _).alloc (by simp) _).alloc (by simp; omega) _).alloc (by simp; omega) _, hw⟩

/-- The number that Code tells. -/
def codeRes (c : Nat) : Int := if c ≤ 16 then (c : Int) else -1
theorem errs_get (E : Nat → Addr) (T : TypeId) (i : Nat) (h : i < 16) : (#[.iface T (.pointer (some (E 1))), .iface T (.pointer (some (E 2))), .iface T (.pointer (some (E 3))), .iface T (.pointer (some (E 4))), .iface T (.pointer (some (E 5))), .iface T (.pointer (some (E 6))), .iface T (.pointer (some (E 7))), .iface T (.pointer (some (E 8))), .iface T (.pointer (some (E 9))), .iface T (.pointer (some (E 10))), .iface T (.pointer (some (E 11))), .iface T (.pointer (some (E 12))), .iface T (.pointer (some (E 13))), .iface T (.pointer (some (E 14))), .iface T (.pointer (some (E 15))), .iface T (.pointer (some (E 16)))] : Array Value)[i]? = some (.iface T (.pointer (some (E (i + 1))))) := by
  rcases i with _ | _ | _ | _ | _ | _ | _ | _ | _ | _ | _ | _ | _ | _ | _ | _ | i
  all_goals first | rfl | omega

set_option maxHeartbeats 1000000 in
set_option maxRecDepth 100000 in
/-- Code of what is no fault: the first sentinel that errors.Is knows it by. -/
theorem code_string {E : Nat → Addr} (a : Addr) (c : Nat) (w : World) (hL : LaidR E w) (h1 : 1 ≤ c) (h2 : c ≤ 17)
    (hIs : ∀ i w', i < 16 → Below w.heap.size w w' → Calls Tryz.prog 40 #[.iface 175 (.pointer (some a)), .iface 175 (.pointer (some (E (i + 1))))] w' fun e w'' => e = .returned (.bool (decide (i + 1 = c))) ∧ w' = w'') :
    Calls Tryz.prog 26 #[.iface 175 (.pointer (some a))] w fun e w' => e = .returned (.tuple #[.int .i64 (codeRes c), .int .i64 (-1)]) ∧ Below w.heap.size w w' := by
  have hIs := Lib.hid hIs
  have hA : Below w.heap.size w (w.alloc (.cells #[.pointer none] 86)) := (Below.refl _ _).alloc (Nat.le_refl _) _
  have hAs := as_miss_below a ⟨w.heap.size, 0, none⟩ (w.alloc (.cells #[.pointer none] 86)) (hL.below hA).et
  go_enter Tryz.func26, Tryz.ntmps26
  go_wp2_with fail
  refine hAs.mono ?_
  clear hAs
  rintro e w1 ⟨rfl, hb1⟩
  have hb : Below w.heap.size w w1 := below_trans hA hb1
  have hL1 := (hL.below hb).laid
  obtain ⟨e1, e2, e3, e4, e5, e6, e7, e8, e9, e10, e11, e12, e13, e14, e15, e16⟩ := hL1
  simp only [errV] at e1 e2 e3 e4 e5 e6 e7 e8 e9 e10 e11 e12 e13 e14 e15 e16
  have hb := Lib.hid hb
  clear hb1 hA hL
  go_wp2_with fail
  go_loopw [2, 3, 5, 34] (fun _ s3 _ i wr => ∃ j : Nat, j ≤ 16 ∧ j < c ∧ i = .int .i64 j ∧ s3 = .int .i64 (-1) ∧ Below w.heap.size w wr ∧ ∀ j, j < 16 → wr.cell? ⟨w1.heap.size, j, none⟩ = some (.iface 175 (.pointer (some (E (j + 1)))))) (fun _ _ _ i _ => 16 - (intOf i).toNat)
  case atStart =>
    refine ⟨0, by omega, h1, rfl, rfl, hb.out.alloc hb.out.size _, fun j hj => ?_⟩
    rw [World.cell?_alloc_new]
    exact errs_get E _ j hj
  case round =>
    obtain ⟨j, hj, hjc, rfl, rfl, hbr, hcells⟩ := hrel
    have hI := Lib.hid (hIs.out j wr · hbr)
    by_cases hlt : j < 16
    · have hcell := hcells j hlt
      have hcells := Lib.hid hcells
      have hbr := Lib.hid hbr
      by_cases hjj : j + 1 = c
      · have hr := Lib.hid (show codeRes c = (j : Int) + 1 by unfold codeRes; rw [if_pos (by omega)]; omega)
        have hd : decide (j + 1 = c) = true := decide_eq_true hjj
        have hI := hI.out hlt
        rw [hd] at hI
        have hI := Lib.hid hI
        clear hd hjj
        go_wp2_with fail
        refine (hI.out).mono ?_
        rintro e w2 ⟨rfl, rfl⟩
        go_wp2_with fail
        go_ret2
        exact ⟨ret_int2 hr.out.symm, hbr.out⟩
      · have hd : decide (j + 1 = c) = false := decide_eq_false hjj
        have hI := hI.out hlt
        rw [hd] at hI
        have hI := Lib.hid hI
        have hjj' : j + 1 < c := by omega
        clear hd hjj
        go_wp2_with fail
        refine (hI.out).mono ?_
        rintro e w2 ⟨rfl, rfl⟩
        go_wp2_with fail
        go_roundw
        case rel => exact ⟨j + 1, by omega, hjj', by go_num, rfl, hbr.out, hcells.out⟩
        case measure => simp [intOf]; omega
    · have hr := Lib.hid (show codeRes c = -1 by unfold codeRes; rw [if_neg (by omega)])
      have hcells := Lib.hid hcells
      have hbr := Lib.hid hbr
      go_wp2_with fail
      go_ret2
      exact ⟨ret_int2 hr.out.symm, hbr.out⟩
theorem code_nil (w : World) :
    Calls Tryz.prog 26 #[.nilIface] w fun e w' => e = .returned (.tuple #[.int .i64 0, .int .i64 (-1)]) ∧ Below w.heap.size w w' := by
  go_enter Tryz.func26, Tryz.ntmps26
  go_wp2
  go_ret2
  exact ⟨rfl, Below.refl _ _⟩
theorem code_errV {E : Nat → Addr} (c : Nat) (w : World) (hL : LaidR E w) (h2 : c ≤ 16) :
    Calls Tryz.prog 26 #[errV E c] w fun e w' => e = .returned (.tuple #[.int .i64 (c : Int), .int .i64 (-1)]) ∧ Below w.heap.size w w' := by
  rcases c with _ | c
  · exact code_nil w
  · have h := code_string (E (c + 1)) (c + 1) w hL (by omega) (by omega) (fun i w' hi hb => is_sent (c + 1) i w' (hL.below hb) (by omega) h2 hi)
    unfold codeRes at h
    rw [if_pos h2] at h
    exact h
theorem code_out {E : Nat → Addr} (a : Addr) (ca : Array Value) (ta : TypeId) (w : World) (hL : LaidR E w) (ha : w.heap[a.block]? = some (.cells ca ta (0, 0))) (hne : ∀ c, 1 ≤ c → c ≤ 16 → a ≠ E c) :
    Calls Tryz.prog 26 #[.iface 175 (.pointer (some a))] w fun e w' => e = .returned (.tuple #[.int .i64 (-1), .int .i64 (-1)]) ∧ Below w.heap.size w w' := by
  refine code_string a 17 w hL (by omega) (by omega) (fun i w' hi hb => ?_)
  have h := is_out a ca ta i w' (hL.below hb) (block_below hb ha) hne hi
  rw [show decide (i + 1 = 17) = false from decide_eq_false (by omega)]
  exact h
/-- An error is this sentinel, bare: what a law asks. -/
def codedB (c : Nat) (code : Int) : Bool := decide ((c : Int) = code)
theorem coded_any {E : Nat → Addr} (c : Nat) (code : Int) (w : World) (hL : LaidR E w) (h2 : c ≤ 16) :
    Calls Tryz.prog 9 #[errV E c, .int .i64 code] w fun e w' => e = .returned (.bool (codedB c code)) ∧ Below w.heap.size w w' := by
  have h := code_errV c w hL h2
  generalize errV E c = v at *
  go_enter Tryz.func9, Tryz.ntmps9
  go_wp2_with fail
  refine h.mono ?_
  rintro e w' ⟨rfl, hb⟩
  by_cases hc : (c : Int) = code
  · have hr := Lib.hid (show codedB c code = true from decide_eq_true hc)
    subst hc
    go_wp2
    go_ret
    exact ⟨ret_bool hr.out.symm, hb⟩
  · have hc' : ((c : Int) == code) = false := by simpa using hc
    have hr := Lib.hid (show codedB c code = false from decide_eq_false hc)
    clear hc
    go_wp2
    go_ret
    exact ⟨ret_bool hr.out.symm, hb⟩

set_option maxHeartbeats 1000000 in
set_option maxRecDepth 100000 in
/-- Code of a fault: its error's number, and its place. -/
theorem code_fault {E : Nat → Addr} (pb po : Nat) (at_ : Int) (c : Nat) (w : World) (hL : LaidR E w) (h1 : 1 ≤ c) (h2 : c ≤ 16)
    (hp0 : w.cell? ⟨pb, po, none⟩ = some (.int .i64 at_)) (hp1 : w.cell? ⟨pb, po + 1, none⟩ = some (.iface 175 (.pointer (some (E c))))) :
    Calls Tryz.prog 26 #[.iface 86 (.pointer (some ⟨pb, po, none⟩))] w fun e w' => e = .returned (.tuple #[.int .i64 (c : Int), .int .i64 at_]) ∧ Below w.heap.size w w' := by
  have hA : Below w.heap.size w (w.alloc (.cells #[.pointer none] 86)) := (Below.refl _ _).alloc (Nat.le_refl _) _
  have hc0 : (w.alloc (.cells #[.pointer none] 86)).cell? ⟨w.heap.size, 0, none⟩ = some (.pointer none) := by simp
  have hAs := as_hit_below ⟨pb, po, none⟩ ⟨w.heap.size, 0, none⟩ (.pointer none) (w.alloc (.cells #[.pointer none] 86)) (hL.below hA).et (by simp) (by simp)
  go_enter Tryz.func26, Tryz.ntmps26
  go_wp2_with fail
  refine hAs.mono ?_
  clear hAs
  rintro e w2 ⟨rfl, w1, hb1, hw2⟩
  have hb0 : Below w.heap.size w w1 := below_trans hA hb1
  have hb : Below w.heap.size w w2 := by rw [hw2]; exact hb0.setCell (Nat.le_refl _) _
  have ht : w2.cell? ⟨w.heap.size, 0, none⟩ = some (.pointer (some ⟨pb, po, none⟩)) := by
    rw [hw2]; exact World.cell?_setCell_same _ _ _ (cell_below hb1 hc0)
  clear hw2 hb1 hb0 hA hc0 w1
  have hL1 := (hL.below hb).laid
  obtain ⟨e1, e2, e3, e4, e5, e6, e7, e8, e9, e10, e11, e12, e13, e14, e15, e16⟩ := hL1
  simp only [errV] at e1 e2 e3 e4 e5 e6 e7 e8 e9 e10 e11 e12 e13 e14 e15 e16
  have hq0 := cell_below hb hp0
  have hq1 := Lib.hid (cell_below hb hp1)
  have hp1 := Lib.hid hp1
  clear hp0
  have hb := Lib.hid hb
  go_wp2_with fail
  go_loopw [2, 3, 5, 34] (fun _ s3 _ i wr => ∃ j : Nat, j ≤ 16 ∧ j < c ∧ i = .int .i64 j ∧ s3 = .int .i64 at_ ∧ Below w.heap.size w wr ∧ ∀ j, j < 16 → wr.cell? ⟨w2.heap.size, j, none⟩ = some (.iface 175 (.pointer (some (E (j + 1)))))) (fun _ _ _ i _ => 16 - (intOf i).toNat)
  case atStart =>
    refine ⟨0, by omega, h1, rfl, rfl, hb.out.alloc hb.out.size _, fun j hj => ?_⟩
    rw [World.cell?_alloc_new]
    exact errs_get E _ j hj
  case round =>
    obtain ⟨j, hj, hjc, rfl, rfl, hbr, hcells⟩ := hrel
    have hlt : j < 16 := by omega
    have hI := Lib.hid (is_fault pb po c j wr (hL.below hbr) h1 h2 hlt (cell_below hbr hp1.out))
    have hcell := hcells j hlt
    have hcells := Lib.hid hcells
    have hbr := Lib.hid hbr
    by_cases hjj : j + 1 = c
    · have hr := Lib.hid (show (c : Int) = (j : Int) + 1 by omega)
      have hd : decide (j + 1 = c) = true := decide_eq_true hjj
      have hI := hI.out
      rw [hd] at hI
      have hI := Lib.hid hI
      clear hd hjj
      go_wp2_with fail
      refine (hI.out).mono ?_
      rintro e w3 ⟨rfl, rfl⟩
      go_wp2_with fail
      go_ret2
      exact ⟨ret_int2 hr.out.symm, hbr.out⟩
    · have hd : decide (j + 1 = c) = false := decide_eq_false hjj
      have hI := hI.out
      rw [hd] at hI
      have hI := Lib.hid hI
      have hjj' : j + 1 < c := by omega
      clear hd hjj
      go_wp2_with fail
      refine (hI.out).mono ?_
      rintro e w3 ⟨rfl, rfl⟩
      go_wp2_with fail
      go_roundw
      case rel => exact ⟨j + 1, by omega, hjj', by go_num, rfl, hbr.out, hcells.out⟩
      case measure => simp [intOf]; omega
end Go.Proofs.YtlcomdbkkfbjiaaGreatDoor

/- plain.Code at an error with its place. -/
namespace Go.Proofs.YtlcomdbkkfbjiaaGreatDoor
open Go.RowKit

theorem code_at {E : Nat → Addr} (v : Value) (c : Nat) (at_ : Int) (w : World) (hL : LaidR E w) (h : ErrAt E w v c at_) (h2 : c ≤ 16) :
    Calls Tryz.prog 26 #[v] w fun e w' => e = .returned (.tuple #[.int .i64 (c : Int), .int .i64 at_]) ∧ Below w.heap.size w w' := by
  rcases h with ⟨rfl, rfl⟩ | ⟨N, rfl, h1, h3, h4⟩
  · exact code_errV c w hL h2
  · obtain ⟨d, rfl⟩ : ∃ d, c = d + 1 := ⟨c - 1, by omega⟩
    exact code_fault N 0 at_ (d + 1) w hL h1 h2 h3 h4
end Go.Proofs.YtlcomdbkkfbjiaaGreatDoor

/- The law's coded and faulted (package keyholderlaw3): at an error of its own number, its own place. -/
namespace Go.Proofs.YtlcomdbkkfbjiaaGreatDoor
open Go.RowKit

set_option maxRecDepth 100000 in
theorem coded3_same {E : Nat → Addr} (c : Nat) (w : World) (hL : LaidR E w) (h2 : c ≤ 16) :
    Calls Tryz.prog 9 #[errV E c, .int .i64 (c : Int)] w fun e w' => e = .returned (.bool true) ∧ Below w.heap.size w w' := by
  have hc := Lib.hid (code_errV (E := E) c w hL h2)
  go_enter Tryz.func9, Tryz.ntmps9
  go_wp2_with fail
  refine hc.out.mono ?_
  rintro e w1 ⟨rfl, hb1⟩
  have hb1 := Lib.hid hb1
  go_wp2_with fail
  go_ret
  exact ⟨rfl, hb1.out⟩
set_option maxRecDepth 100000 in
theorem faulted3_self {E : Nat → Addr} (v : Value) (c : Nat) (at_ : Int) (w : World) (hL : LaidR E w) (h : ErrAt E w v c at_) (h2 : c ≤ 16) :
    Calls Tryz.prog 17 #[v, .agg #[.int .i64 (c : Int), .int .i64 at_]] w fun e w' => e = .returned (.bool true) ∧ Below w.heap.size w w' := by
  have hA : Below w.heap.size w (w.alloc (.cells #[.int .i64 (c : Int), .int .i64 at_] 54)) := (Below.refl _ _).alloc (Nat.le_refl _) _
  have hrow := Lib.hid (heap_alloc_new w (.cells #[.int .i64 (c : Int), .int .i64 at_] 54))
  have hc := Lib.hid (code_at v c at_ _ (hL.below hA) (h.below hA) h2)
  clear h
  go_enter Tryz.func17, Tryz.ntmps17
  go_wp2_with fail
  refine hc.out.mono ?_
  rintro e w1 ⟨rfl, hb1⟩
  have hrr := Lib.hid (heap_down hb1 hrow.out)
  have hb2 := Lib.hid (below_trans hA hb1)
  clear hb1
  obtain ⟨⟨r0, r1⟩, _⟩ := two_kept (Below.refl _ _) hrr.out
  by_cases hz : c = 0
  · subst hz
    go_wp2_with fail
    go_ret
    exact ⟨rfl, hb2.out⟩
  · have hz' : ((c : Int) == 0) = false := by rw [beq_eq_false_iff_ne]; omega
    clear hz
    go_wp2_with fail
    go_ret
    exact ⟨rfl, hb2.out⟩
end Go.Proofs.YtlcomdbkkfbjiaaGreatDoor
