/- Code, CodedS, FaultS, CodeLe, FolA -/
import Derived.Test.YtfbndfkahodheaaGreatDoorMg35
import Derived.Test.YtfbndfkahodheaaGreatDoorMg9
import Derived.Test.YtfbndfkahodheaaGreatDoorMg5
import Derived.Test.YtfbndfkahodheaaGreatDoorMg7
import Derived.Test.YtfbndfkahodheaaGreatDoorMg11
import Derived.Test.YtfbndfkahodheaaGreatDoorMg34
import Derived.Test.YtfbndfkahodheaaGreatDoorMg27
import Derived.Test.YtfbndfkahodheaaGreatDoorMg33
/- plain.Code and coded: an error's number and place. -/
namespace Go.Proofs.YtfbndfkahodheaaGreatDoor
open Go.RowKit

/-- The sentinels lie in rows of their own, each in another one; errors' own variable too. -/
structure LaidR (E : Nat → Addr) (w : World) : Prop where
  laid : Laid E w
  et : w.cell? ⟨16, 0, none⟩ = some (.iface 200 (.agg #[.pointer (some ⟨25, 30, none⟩)]))
  row : ∀ c, 1 ≤ c → c ≤ 16 → ∃ cs t, w.heap[(E c).block]? = some (.cells cs t (0, 0))
  inj : ∀ c d, 1 ≤ c → c ≤ 16 → 1 ≤ d → d ≤ 16 → E c = E d → c = d
theorem block_below {w w' : World} (hb : Below w.heap.size w w') {b : Nat} {o : Obj} (h : w.heap[b]? = some o) : w'.heap[b]? = some o :=
  (hb.block b (Array.getElem?_eq_some_iff.1 h).1).trans h
theorem LaidR.below {E : Nat → Addr} {w w' : World} (h : LaidR E w) (hb : Below w.heap.size w w') : LaidR E w' where
  laid := h.laid.below hb
  et := cell_below hb h.et
  row := fun c h1 h2 => let ⟨cs, t, e⟩ := h.row c h1 h2; ⟨cs, t, block_below hb e⟩
  inj := h.inj

/-- errors.Is between sentinels. -/
theorem is_sent {E : Nat → Addr} (c i : Nat) (w : World) (hL : LaidR E w) (h1 : 1 ≤ c) (h2 : c ≤ 16) (hi : i < 16) :
    Calls Tryz.prog 76 #[.iface 258 (.pointer (some (E c))), .iface 258 (.pointer (some (E (i + 1))))] w fun e w' => e = .returned (.bool (decide (i + 1 = c))) ∧ w = w' := by
  by_cases h : i + 1 = c
  · subst h
    rw [decide_eq_true rfl]
    exact is_same _ w
  · rw [decide_eq_false h]
    obtain ⟨ca, ta, ha⟩ := hL.row c h1 h2
    obtain ⟨cb, tb, hb⟩ := hL.row (i + 1) (by omega) (by omega)
    exact is_other _ _ ca cb ta tb w (fun e => h (hL.inj _ _ (by omega) (by omega) h1 h2 e.symm)) ha hb
theorem is_out {E : Nat → Addr} (a : Addr) (ca : Array Value) (ta : TypeId) (i : Nat) (w : World) (hL : LaidR E w) (ha : w.heap[a.block]? = some (.cells ca ta (0, 0))) (hne : ∀ c, 1 ≤ c → c ≤ 16 → a ≠ E c) (hi : i < 16) :
    Calls Tryz.prog 76 #[.iface 258 (.pointer (some a)), .iface 258 (.pointer (some (E (i + 1))))] w fun e w' => e = .returned (.bool false) ∧ w = w' := by
  obtain ⟨cb, tb, hb⟩ := hL.row (i + 1) (by omega) (by omega)
  exact is_other _ _ ca cb ta tb w (hne _ (by omega) (by omega)) ha hb
theorem is_fault {E : Nat → Addr} (pb po : Nat) (c i : Nat) (w : World) (hL : LaidR E w) (h1 : 1 ≤ c) (h2 : c ≤ 16) (hi : i < 16) (hc : w.cell? ⟨pb, po + 1, none⟩ = some (.iface 258 (.pointer (some (E c))))) :
    Calls Tryz.prog 76 #[.iface 105 (.pointer (some ⟨pb, po, none⟩)), .iface 258 (.pointer (some (E (i + 1))))] w fun e w' => e = .returned (.bool (decide (i + 1 = c))) ∧ w = w' := by
  by_cases h : i + 1 = c
  · subst h
    rw [decide_eq_true rfl]
    exact is_fault_same _ _ _ w hc
  · rw [decide_eq_false h]
    obtain ⟨ca, ta, ha⟩ := hL.row c h1 h2
    obtain ⟨cb, tb, hb⟩ := hL.row (i + 1) (by omega) (by omega)
    exact is_fault_other _ _ _ _ ca cb ta tb w hc (fun e => h (hL.inj _ _ (by omega) (by omega) h1 h2 e.symm)) ha hb

theorem as_miss_below (e t : Addr) (w : World) (hg : w.cell? ⟨16, 0, none⟩ = some (.iface 200 (.agg #[.pointer (some ⟨25, 30, none⟩)]))) :
    Calls Tryz.prog 75 #[.iface 258 (.pointer (some e)), .iface 138 (.pointer (some t))] w fun ev w' => ev = .returned (.bool false) ∧ Below w.heap.size w w' :=
  (as_miss e t w hg).mono fun ev w' ⟨he, hw⟩ => ⟨he, by
    rw [hw]
    exact (((Below.refl _ _).alloc (Nat.le_refl _) _).alloc (by simp) _).alloc (by simp; omega) _⟩
theorem as_hit_below (e t : Addr) (old : Value) (w : World) (hg : w.cell? ⟨16, 0, none⟩ = some (.iface 200 (.agg #[.pointer (some ⟨25, 30, none⟩)]))) (ht0 : w.cell? t = some old) (hf0 : w.frozen? t = false) :
    Calls Tryz.prog 75 #[.iface 105 (.pointer (some e)), .iface 138 (.pointer (some t))] w fun ev w' => ev = .returned (.bool true) ∧ ∃ w1, Below w.heap.size w w1 ∧ w' = w1.setCell t (.pointer (some e)) :=
  (as_hit e t old w hg ht0 hf0).mono fun ev w' ⟨he, hw⟩ => ⟨he, _, by
    exact ((((Below.refl _ _).alloc (Nat.le_refl _) _).alloc (by simp) _).alloc (by simp; omega) _).alloc (by simp; omega) _, hw⟩

/-- The number that Code tells. -/
def codeRes (c : Nat) : Int := if c ≤ 16 then (c : Int) else -1
theorem errs_get (E : Nat → Addr) (T : TypeId) (i : Nat) (h : i < 16) : (#[.iface T (.pointer (some (E 1))), .iface T (.pointer (some (E 2))), .iface T (.pointer (some (E 3))), .iface T (.pointer (some (E 4))), .iface T (.pointer (some (E 5))), .iface T (.pointer (some (E 6))), .iface T (.pointer (some (E 7))), .iface T (.pointer (some (E 8))), .iface T (.pointer (some (E 9))), .iface T (.pointer (some (E 10))), .iface T (.pointer (some (E 11))), .iface T (.pointer (some (E 12))), .iface T (.pointer (some (E 13))), .iface T (.pointer (some (E 14))), .iface T (.pointer (some (E 15))), .iface T (.pointer (some (E 16)))] : Array Value)[i]? = some (.iface T (.pointer (some (E (i + 1))))) := by
  rcases i with _ | _ | _ | _ | _ | _ | _ | _ | _ | _ | _ | _ | _ | _ | _ | _ | i
  all_goals first | rfl | omega

set_option maxHeartbeats 1000000 in
set_option maxRecDepth 100000 in
/-- Code of what is no fault: the first sentinel that errors.Is knows it by. -/
theorem code_string {E : Nat → Addr} (a : Addr) (c : Nat) (w : World) (hL : LaidR E w) (h1 : 1 ≤ c) (h2 : c ≤ 17)
    (hIs : ∀ i w', i < 16 → Below w.heap.size w w' → Calls Tryz.prog 76 #[.iface 258 (.pointer (some a)), .iface 258 (.pointer (some (E (i + 1))))] w' fun e w'' => e = .returned (.bool (decide (i + 1 = c))) ∧ w' = w'') :
    Calls Tryz.prog 46 #[.iface 258 (.pointer (some a))] w fun e w' => e = .returned (.tuple #[.int .i64 (codeRes c), .int .i64 (-1)]) ∧ Below w.heap.size w w' := by
  have hIs := Lib.hid hIs
  have hA : Below w.heap.size w (w.alloc (.cells #[.pointer none] 105)) := (Below.refl _ _).alloc (Nat.le_refl _) _
  have hAs := as_miss_below a ⟨w.heap.size, 0, none⟩ (w.alloc (.cells #[.pointer none] 105)) (hL.below hA).et
  go_enter Tryz.func46, Tryz.ntmps46
  go_wp2_with fail
  refine hAs.mono ?_
  clear hAs
  rintro e w1 ⟨rfl, hb1⟩
  have hb : Below w.heap.size w w1 := below_trans hA hb1
  have hL1 := (hL.below hb).laid
  obtain ⟨e1, e2, e3, e4, e5, e6, e7, e8, e9, e10, e11, e12, e13, e14, e15, e16⟩ := hL1
  simp only [errV] at e1 e2 e3 e4 e5 e6 e7 e8 e9 e10 e11 e12 e13 e14 e15 e16
  have hb := Lib.hid hb
  clear hb1 hA hL
  go_wp2_with fail
  go_loopw [2, 3, 5, 34] (fun _ s3 _ i wr => ∃ j : Nat, j ≤ 16 ∧ j < c ∧ i = .int .i64 j ∧ s3 = .int .i64 (-1) ∧ Below w.heap.size w wr ∧ ∀ j, j < 16 → wr.cell? ⟨w1.heap.size, j, none⟩ = some (.iface 258 (.pointer (some (E (j + 1)))))) (fun _ _ _ i _ => 16 - (intOf i).toNat)
  case atStart =>
    refine ⟨0, by omega, h1, rfl, rfl, hb.out.alloc hb.out.size _, fun j hj => ?_⟩
    rw [World.cell?_alloc_new]
    exact errs_get E _ j hj
  case round =>
    obtain ⟨j, hj, hjc, rfl, rfl, hbr, hcells⟩ := hrel
    have hI := Lib.hid (hIs.out j wr · hbr)
    by_cases hlt : j < 16
    · have hcell := hcells j hlt
      have hcells := Lib.hid hcells
      have hbr := Lib.hid hbr
      by_cases hjj : j + 1 = c
      · have hr := Lib.hid (show codeRes c = (j : Int) + 1 by unfold codeRes; rw [if_pos (by omega)]; omega)
        have hd : decide (j + 1 = c) = true := decide_eq_true hjj
        have hI := hI.out hlt
        rw [hd] at hI
        have hI := Lib.hid hI
        clear hd hjj
        go_wp2_with fail
        refine (hI.out).mono ?_
        rintro e w2 ⟨rfl, rfl⟩
        go_wp2_with fail
        go_ret2
        exact ⟨ret_int2 hr.out.symm, hbr.out⟩
      · have hd : decide (j + 1 = c) = false := decide_eq_false hjj
        have hI := hI.out hlt
        rw [hd] at hI
        have hI := Lib.hid hI
        have hjj' : j + 1 < c := by omega
        clear hd hjj
        go_wp2_with fail
        refine (hI.out).mono ?_
        rintro e w2 ⟨rfl, rfl⟩
        go_wp2_with fail
        go_roundw
        case rel => exact ⟨j + 1, by omega, hjj', by go_num, rfl, hbr.out, hcells.out⟩
        case measure => simp [intOf]; omega
    · have hr := Lib.hid (show codeRes c = -1 by unfold codeRes; rw [if_neg (by omega)])
      have hcells := Lib.hid hcells
      have hbr := Lib.hid hbr
      go_wp2_with fail
      go_ret2
      exact ⟨ret_int2 hr.out.symm, hbr.out⟩
theorem code_nil (w : World) :
    Calls Tryz.prog 46 #[.nilIface] w fun e w' => e = .returned (.tuple #[.int .i64 0, .int .i64 (-1)]) ∧ Below w.heap.size w w' := by
  go_enter Tryz.func46, Tryz.ntmps46
  go_wp2
  go_ret2
  exact ⟨rfl, Below.refl _ _⟩
theorem code_errV {E : Nat → Addr} (c : Nat) (w : World) (hL : LaidR E w) (h2 : c ≤ 16) :
    Calls Tryz.prog 46 #[errV E c] w fun e w' => e = .returned (.tuple #[.int .i64 (c : Int), .int .i64 (-1)]) ∧ Below w.heap.size w w' := by
  rcases c with _ | c
  · exact code_nil w
  · have h := code_string (E (c + 1)) (c + 1) w hL (by omega) (by omega) (fun i w' hi hb => is_sent (c + 1) i w' (hL.below hb) (by omega) h2 hi)
    unfold codeRes at h
    rw [if_pos h2] at h
    exact h
theorem code_out {E : Nat → Addr} (a : Addr) (ca : Array Value) (ta : TypeId) (w : World) (hL : LaidR E w) (ha : w.heap[a.block]? = some (.cells ca ta (0, 0))) (hne : ∀ c, 1 ≤ c → c ≤ 16 → a ≠ E c) :
    Calls Tryz.prog 46 #[.iface 258 (.pointer (some a))] w fun e w' => e = .returned (.tuple #[.int .i64 (-1), .int .i64 (-1)]) ∧ Below w.heap.size w w' := by
  refine code_string a 17 w hL (by omega) (by omega) (fun i w' hi hb => ?_)
  have h := is_out a ca ta i w' (hL.below hb) (block_below hb ha) hne hi
  rw [show decide (i + 1 = 17) = false from decide_eq_false (by omega)]
  exact h
/-- An error is this sentinel, bare: what a law asks. -/
def codedB (c : Nat) (code : Int) : Bool := decide ((c : Int) = code)
theorem coded_any {E : Nat → Addr} (c : Nat) (code : Int) (w : World) (hL : LaidR E w) (h2 : c ≤ 16) :
    Calls Tryz.prog 24 #[errV E c, .int .i64 code] w fun e w' => e = .returned (.bool (codedB c code)) ∧ Below w.heap.size w w' := by
  have h := code_errV c w hL h2
  generalize errV E c = v at *
  go_enter Tryz.func24, Tryz.ntmps24
  go_wp2_with fail
  refine h.mono ?_
  rintro e w' ⟨rfl, hb⟩
  by_cases hc : (c : Int) = code
  · have hr := Lib.hid (show codedB c code = true from decide_eq_true hc)
    subst hc
    go_wp2
    go_ret
    exact ⟨ret_bool hr.out.symm, hb⟩
  · have hc' : ((c : Int) == code) = false := by simpa using hc
    have hr := Lib.hid (show codedB c code = false from decide_eq_false hc)
    clear hc
    go_wp2
    go_ret
    exact ⟨ret_bool hr.out.symm, hb⟩

set_option maxHeartbeats 1000000 in
set_option maxRecDepth 100000 in
/-- Code of a fault: its error's number, and its place. -/
theorem code_fault {E : Nat → Addr} (pb po : Nat) (at_ : Int) (c : Nat) (w : World) (hL : LaidR E w) (h1 : 1 ≤ c) (h2 : c ≤ 16)
    (hp0 : w.cell? ⟨pb, po, none⟩ = some (.int .i64 at_)) (hp1 : w.cell? ⟨pb, po + 1, none⟩ = some (.iface 258 (.pointer (some (E c))))) :
    Calls Tryz.prog 46 #[.iface 105 (.pointer (some ⟨pb, po, none⟩))] w fun e w' => e = .returned (.tuple #[.int .i64 (c : Int), .int .i64 at_]) ∧ Below w.heap.size w w' := by
  have hA : Below w.heap.size w (w.alloc (.cells #[.pointer none] 105)) := (Below.refl _ _).alloc (Nat.le_refl _) _
  have hc0 : (w.alloc (.cells #[.pointer none] 105)).cell? ⟨w.heap.size, 0, none⟩ = some (.pointer none) := by simp
  have hAs := as_hit_below ⟨pb, po, none⟩ ⟨w.heap.size, 0, none⟩ (.pointer none) (w.alloc (.cells #[.pointer none] 105)) (hL.below hA).et (by simp) (by simp)
  go_enter Tryz.func46, Tryz.ntmps46
  go_wp2_with fail
  refine hAs.mono ?_
  clear hAs
  rintro e w2 ⟨rfl, w1, hb1, hw2⟩
  have hb0 : Below w.heap.size w w1 := below_trans hA hb1
  have hb : Below w.heap.size w w2 := by rw [hw2]; exact hb0.setCell (Nat.le_refl _) _
  have ht : w2.cell? ⟨w.heap.size, 0, none⟩ = some (.pointer (some ⟨pb, po, none⟩)) := by
    rw [hw2]; exact World.cell?_setCell_same _ _ _ (cell_below hb1 hc0)
  clear hw2 hb1 hb0 hA hc0 w1
  have hL1 := (hL.below hb).laid
  obtain ⟨e1, e2, e3, e4, e5, e6, e7, e8, e9, e10, e11, e12, e13, e14, e15, e16⟩ := hL1
  simp only [errV] at e1 e2 e3 e4 e5 e6 e7 e8 e9 e10 e11 e12 e13 e14 e15 e16
  have hq0 := cell_below hb hp0
  have hq1 := Lib.hid (cell_below hb hp1)
  have hp1 := Lib.hid hp1
  clear hp0
  have hb := Lib.hid hb
  go_wp2_with fail
  go_loopw [2, 3, 5, 34] (fun _ s3 _ i wr => ∃ j : Nat, j ≤ 16 ∧ j < c ∧ i = .int .i64 j ∧ s3 = .int .i64 at_ ∧ Below w.heap.size w wr ∧ ∀ j, j < 16 → wr.cell? ⟨w2.heap.size, j, none⟩ = some (.iface 258 (.pointer (some (E (j + 1)))))) (fun _ _ _ i _ => 16 - (intOf i).toNat)
  case atStart =>
    refine ⟨0, by omega, h1, rfl, rfl, hb.out.alloc hb.out.size _, fun j hj => ?_⟩
    rw [World.cell?_alloc_new]
    exact errs_get E _ j hj
  case round =>
    obtain ⟨j, hj, hjc, rfl, rfl, hbr, hcells⟩ := hrel
    have hlt : j < 16 := by omega
    have hI := Lib.hid (is_fault pb po c j wr (hL.below hbr) h1 h2 hlt (cell_below hbr hp1.out))
    have hcell := hcells j hlt
    have hcells := Lib.hid hcells
    have hbr := Lib.hid hbr
    by_cases hjj : j + 1 = c
    · have hr := Lib.hid (show (c : Int) = (j : Int) + 1 by omega)
      have hd : decide (j + 1 = c) = true := decide_eq_true hjj
      have hI := hI.out
      rw [hd] at hI
      have hI := Lib.hid hI
      clear hd hjj
      go_wp2_with fail
      refine (hI.out).mono ?_
      rintro e w3 ⟨rfl, rfl⟩
      go_wp2_with fail
      go_ret2
      exact ⟨ret_int2 hr.out.symm, hbr.out⟩
    · have hd : decide (j + 1 = c) = false := decide_eq_false hjj
      have hI := hI.out
      rw [hd] at hI
      have hI := Lib.hid hI
      have hjj' : j + 1 < c := by omega
      clear hd hjj
      go_wp2_with fail
      refine (hI.out).mono ?_
      rintro e w3 ⟨rfl, rfl⟩
      go_wp2_with fail
      go_roundw
      case rel => exact ⟨j + 1, by omega, hjj', by go_num, rfl, hbr.out, hcells.out⟩
      case measure => simp [intOf]; omega
end Go.Proofs.YtfbndfkahodheaaGreatDoor

/- The law's coded, at an error of its own number. -/
namespace Go.Proofs.YtfbndfkahodheaaGreatDoor
open Go.RowKit

theorem coded_same {E : Nat → Addr} (c : Nat) (w : World) (hL : LaidR E w) (h2 : c ≤ 16) :
    Calls Tryz.prog 24 #[errV E c, .int .i64 (c : Int)] w fun e w' => e = .returned (.bool true) ∧ Below w.heap.size w w' := by
  have h := coded_any (E := E) c (c : Int) w hL h2
  rw [show codedB c (c : Int) = true from decide_eq_true rfl] at h
  exact h
end Go.Proofs.YtfbndfkahodheaaGreatDoor

/- The law's faulted: an error's number and place (for laws without seals). -/
namespace Go.Proofs.YtfbndfkahodheaaGreatDoor
open Go.RowKit

theorem code_at {E : Nat → Addr} (v : Value) (c : Nat) (at_ : Int) (w : World) (hL : LaidR E w) (h : ErrAt E w v c at_) (h2 : c ≤ 16) :
    Calls Tryz.prog 46 #[v] w fun e w' => e = .returned (.tuple #[.int .i64 (c : Int), .int .i64 at_]) ∧ Below w.heap.size w w' := by
  rcases h with ⟨rfl, rfl⟩ | ⟨N, rfl, h1, h3, h4⟩
  · exact code_errV c w hL h2
  · obtain ⟨d, rfl⟩ : ∃ d, c = d + 1 := ⟨c - 1, by omega⟩
    exact code_fault N 0 at_ (d + 1) w hL h1 h2 h3 h4
set_option maxRecDepth 100000 in
theorem faulted_self {E : Nat → Addr} (v : Value) (c : Nat) (at_ : Int) (w : World) (hL : LaidR E w) (h : ErrAt E w v c at_) (h2 : c ≤ 16) :
    Calls Tryz.prog 9 #[v, .agg #[.int .i64 (c : Int), .int .i64 at_]] w fun e w' => e = .returned (.bool true) ∧ Below w.heap.size w w' := by
  have hA : Below w.heap.size w (w.alloc (.cells #[.int .i64 (c : Int), .int .i64 at_] 33)) := (Below.refl _ _).alloc (Nat.le_refl _) _
  have hrow := Lib.hid (heap_alloc_new w (.cells #[.int .i64 (c : Int), .int .i64 at_] 33))
  have hc := Lib.hid (code_at v c at_ _ (hL.below hA) (h.below hA) h2)
  clear h
  go_enter Tryz.func9, Tryz.ntmps9
  go_wp2_with fail
  refine hc.out.mono ?_
  rintro e w1 ⟨rfl, hb1⟩
  have hrr := Lib.hid (heap_down hb1 hrow.out)
  have hb2 := Lib.hid (below_trans hA hb1)
  clear hb1
  obtain ⟨⟨r0, r1⟩, _⟩ := two_kept (Below.refl _ _) hrr.out
  by_cases hz : c = 0
  · subst hz
    go_wp2_with fail
    go_ret
    exact ⟨rfl, hb2.out⟩
  · have hz' : ((c : Int) == 0) = false := by rw [beq_eq_false_iff_ne]; omega
    clear hz
    go_wp2_with fail
    go_ret
    exact ⟨rfl, hb2.out⟩
end Go.Proofs.YtfbndfkahodheaaGreatDoor

/- Errors' numbers are 16 at most: no program in sight; both what is laid and the rows of errors.Is. -/
namespace Go.Proofs.YtfbndfkahodheaaGreatDoor
open Go.RowKit

/-- The sentinels, the library's variables, and errors.Is's rows. -/
structure LaidF (E : Nat → Addr) (w : World) : Prop where
  s : LaidS E w
  r : LaidR E w
theorem LaidF.below {E : Nat → Addr} {w w' : World} (h : LaidF E w) (hb : Below w.heap.size w w') : LaidF E w' := ⟨h.s.below hb, h.r.below hb⟩
theorem rightOf_code2 (k : Int) (s : List UInt8) (n : Int) : rightOf k s n ≤ 16 := by
  have hm : (markOf k s).2 ≤ 16 := by unfold markOf; split <;> simp
  unfold rightOf
  split
  · split <;> simp
  · exact hm
theorem lookOf_code2 (s : List UInt8) : (lookOf s).2.2.2 ≤ 16 := by
  unfold lookOf
  split
  · simp
  · cases lastCut 32 s with
    | none => simp
    | some x =>
      dsimp only
      split
      · simp
      · split
        · simp
        · split <;> simp
theorem openOf_code2 (k : Int) (s : List UInt8) : (openOf k s).2 ≤ 16 := by
  unfold openOf
  split
  · simp
  · split
    · split
      · simp
      · exact rightOf_code2 k _ _
    · exact lookOf_code2 s
theorem ofHead_code (W : List (List UInt8)) : (ofHead W).2 ≤ 16 := by
  match W with
  | [a, b, c, d] => unfold ofHead; dsimp only; split <;> simp
  | [] => simp [ofHead]
  | [_] => simp [ofHead]
  | [_, _] => simp [ofHead]
  | [_, _, _] => simp [ofHead]
  | _ :: _ :: _ :: _ :: _ :: _ => simp [ofHead]
theorem openH_code (k : Int) (s : List UInt8) : (openH k s).2 ≤ 16 := by
  unfold openH
  split
  · exact ofHead_code _
  · exact openOf_code2 k s
theorem headOf_code (k : Int) (L : List Ent) (t : Int) : (headOf k L t).2.1 ≤ 16 := by
  unfold headOf
  split
  · simp
  · split
    · exact floorsE_le L
    · split <;> simp
theorem sinceE_code (L : List Ent) (n : Int) : (sinceE L n).2.1 ≤ 16 := by
  unfold sinceE
  split
  · exact checkE_le L
  · split
    · simp
    · split <;> simp
theorem takeF_code (f : Fol) (s : List UInt8) (M : List Ent) : (takeF f s M).1 ≤ 16 := by
  unfold takeF
  split
  · exact openH_code _ _
  · split
    · simp
    · split
      · simp
      · split
        · exact floorsE_le _
        · split <;> simp
end Go.Proofs.YtfbndfkahodheaaGreatDoor

/- FollowActs: walked. -/
namespace Go.Proofs.YtfbndfkahodheaaGreatDoor
open Go.RowKit

theorem newsEnts_names {L : List Ent} {n : News} {p : Ent → Prop} (hp : ∀ e ∈ L, p e) : ∀ e ∈ newsEnts L n, p e := fun e he => hp e (List.mem_of_mem_take (List.mem_of_mem_drop he))
theorem newsEnts_le (L : List Ent) (n : News) : (newsEnts L n).length ≤ L.length := by
  unfold newsEnts
  rw [List.length_drop, List.length_take]
  omega
theorem newsHead_le {L : List Ent} {n : News} (h : n.text.length ≤ 200) : (newsHead L n).length ≤ 300 := by
  unfold newsHead
  split
  · exact headOf_len
  · omega
theorem rfol_new (w : World) (key : Int) : RFolAt (w.alloc (.cells #[.int .i64 key, .int .i64 (-1), .slice none 0 0, .string ⟨#[]⟩] 69)) w.heap.size w.heap.size (newFol key) :=
  ⟨Nat.le_refl _, .slice none 0 0, heap_alloc_new w _, RowG.nil _ _ _⟩
set_option maxHeartbeats 16000000 in
set_option maxRecDepth 100000 in
theorem followActs_any {E : Nat → Addr} (key : Int) (v : Value) (L : List Ent) (vn : Value) (N : List News) (w : World) (hL : LaidF E w) (hv : EntsAt w v L) (hm : ∀ e ∈ L, e.f.who.length ≤ maxLen) (hN : AtG newsC w vn N) (hnt : ∀ n ∈ N, n.text.length ≤ maxLen) :
    Calls Tryz.prog 4 #[.int .i64 key, v, vn] w fun e w' => e = .returned (.bool true) ∧ Below w.heap.size w w' := by
  have hfo := Lib.hid (followed_any (E := E) w hL.s)
  have hEv := Lib.hid (fun wx (hx : Below w.heap.size w wx) => (show EntsAt wx v L from AtG.below hv hx))
  have hvH := Lib.hid hv
  have hNv := Lib.hid (fun wx (hx : Below w.heap.size w wx) => (show AtG newsC wx vn N from AtG.below hN hx))
  have hlg := Lib.hid (fun wx (hx : Below w.heap.size w wx) => long_ent v L wx (hEv.out wx hx) hm)
  have hln := Lib.hid (fun wx (hx : Below w.heap.size w wx) => longN_any vn N wx (hNv.out wx hx) hnt)
  have hnw := Lib.hid (fun wx (hx : Below w.heap.size w wx) => newFol_any (E := E) key wx (hL.s.below hx).laid)
  have hcd := Lib.hid (fun c wx (hx : Below w.heap.size w wx) (hc : c ≤ 16) => coded_same (E := E) c wx (hL.r.below hx) hc)
  have hmH := Lib.hid hm
  obtain ⟨a0, c0, hv0⟩ := AtG.sl hv
  obtain ⟨an, cn, hn0⟩ := AtG.sl hN
  have hml := AtG.len hv
  have hnl := AtG.len hN
  unfold maxLen at hml hnl
  subst hv0
  subst hn0
  have hLw := Lib.hid (fun wx (hx : Below w.heap.size w wx) => hL.below hx)
  clear hL hm hv hN hnt
  go_enter Tryz.func4, Tryz.ntmps4
  go_wp2_with fail
  refine hfo.out.mono ?_
  rintro e w1 ⟨rfl, hb1⟩
  have hlg1 := hlg.out _ hb1
  have hb1 := Lib.hid hb1
  clear hfo hlg
  cases hlo : longE L with
  | true =>
    rw [show longEI L = 1 by unfold longEI; rw [if_pos hlo]] at hlg1
    have hlg1 := Lib.hid hlg1
    clear hlo
    go_wp2_with fail
    refine hlg1.out.mono ?_
    rintro e w2 ⟨rfl, hb2⟩
    have hb2 := Lib.hid (below_trans hb1.out hb2)
    go_wp2_with fail
    go_ret
    exact ⟨rfl, hb2.out⟩
  | false =>
  rw [show longEI L = 0 by unfold longEI; rw [if_neg (by rw [hlo]; decide)]] at hlg1
  have hlg1 := Lib.hid hlg1
  have hl61 := (longE_false hlo).1
  clear hlo
  go_wp2_with fail
  refine hlg1.out.mono ?_
  rintro e w2 ⟨rfl, hb2⟩
  have hb2 := Lib.hid (below_trans hb1.out hb2)
  have hln2 := hln.out _ hb2.out
  clear hlg1 hln
  cases hlo : longN N with
  | true =>
    rw [hlo] at hln2
    have hln2 := Lib.hid hln2
    clear hlo
    go_wp2_with fail
    refine hln2.out.mono ?_
    rintro e w3 ⟨rfl, rfl⟩
    go_wp2_with fail
    go_ret
    exact ⟨rfl, hb2.out⟩
  | false =>
  rw [hlo] at hln2
  have hln2 := Lib.hid hln2
  have hN30 := (longN_false hlo).1
  have hN200 := Lib.hid (longN_false hlo).2
  clear hlo
  go_wp2_with fail
  refine hln2.out.mono ?_
  rintro e w3 ⟨rfl, rfl⟩
  clear hln2
  go_wp2_with fail
  refine (hnw.out _ hb2.out).mono ?_
  rintro e w4 ⟨hor4, hb4⟩
  have hb4H := Lib.hid (below_trans hb2.out hb4)
  have hik := isKey_any key w4
  rcases hor4 with ⟨hk, rfl⟩ | ⟨hk, bf, rfl, hF4⟩
  · rw [hk] at hik
    have hikH := Lib.hid hik
    have hcd4 := hcd.out 10 _ hb4H.out (by decide)
    simp only [errV] at hcd4
    have hcd4 := Lib.hid hcd4
    simp only [errV]
    clear hb4 hik hk
    go_wp2_with fail
    refine hikH.out.mono ?_
    rintro e w5 ⟨rfl, rfl⟩
    go_wp2_with fail
    refine hcd4.out.mono ?_
    rintro e w5 ⟨rfl, hb5⟩
    have hb5 := Lib.hid (below_trans hb4H.out hb5)
    go_wp2_with fail
    go_ret
    exact ⟨rfl, hb5.out⟩
  rw [hk] at hik
  have hikH := Lib.hid hik
  have hF4H := Lib.hid (hF4.mono hb2.out.size)
  have hR4 := rfol_new w4 key
  have hR4H := Lib.hid (hR4.mono hb4H.out.size)
  have hF5H := Lib.hid (hF4H.out.below ((Below.refl _ _).alloc (Nat.le_refl _) (.cells #[.int .i64 key, .int .i64 (-1), .slice none 0 0, .string ⟨#[]⟩] 69)))
  have hK5 := Lib.hid (hb4H.out.alloc hb4H.out.size (.cells #[.int .i64 key, .int .i64 (-1), .slice none 0 0, .string ⟨#[]⟩] 69))
  clear hb4 hF4 hnw hk hik hR4
  go_wp2_with fail
  refine hikH.out.mono ?_
  rintro e w5 ⟨rfl, rfl⟩
  go_wp2_with fail
  generalize hpd : w4.heap.size = p at *
  go_loopg [12] (N.length + 1) (fun g i wr => ∃ (j : Nat) (G : Fol), i = .int .i64 j ∧ j ≤ N.length ∧ N.length - j + 1 ≤ g ∧ Hid (FOk G ∧ FolAt wr w.heap.size bf G ∧ RFolAt wr w.heap.size p G) ∧ Hid (Below w.heap.size w wr))
  case atStart => exact ⟨0, newFol key, rfl, Nat.zero_le _, by omega, Lib.hid ⟨FOk.new key, hF5H.out, hR4H.out⟩, hK5⟩
  case round =>
    clear hpd hF5H hR4H hK5 hF4H hb4H hikH
    obtain ⟨j, G, rfl, hj, hg, hM, hK⟩ := hrel
    by_cases hlt : j < N.length
    · obtain ⟨_, _, he, _, _, _, hcs⟩ := hNv.out _ hK.out
      cases he
      obtain ⟨bb, oo, rfl, hc⟩ := hcs j hlt
      have hc := fun j u h => hc j u h
      have hn2 := hN200.out N[j] (List.getElem_mem hlt)
      generalize N[j] = nn at *
      have hno := Lib.hid (newsOf_from w (.slice a0 L.length c0) L nn wr hK.out hvH.out hmH.out (by omega) (by unfold maxLen; omega))
      have hhl := Lib.hid (newsHead_le (L := L) hn2)
      have hen := Lib.hid (newsEnts_le L nn)
      have hnn := Lib.hid (newsEnts_names (L := L) (n := nn) hmH.out)
      generalize newsHead L nn = hd at *
      generalize newsEnts L nn = M at *
      obtain ⟨mn, fr, tm, ky, tx⟩ := nn
      dsimp only [News.val] at hno
      have d0 : wr.cell? ⟨bb, oo + j * 5, none⟩ = some (.int .i64 mn) := hc 0 _ rfl
      have d1 : wr.cell? ⟨bb, oo + j * 5 + 1, none⟩ = some (.int .i64 fr) := hc 1 _ rfl
      have d2 : wr.cell? ⟨bb, oo + j * 5 + 2, none⟩ = some (.int .i64 tm) := hc 2 _ rfl
      have d3 : wr.cell? ⟨bb, oo + j * 5 + 3, none⟩ = some (.int .i64 ky) := hc 3 _ rfl
      have d4 : wr.cell? ⟨bb, oo + j * 5 + 4, none⟩ = some (.string (bs tx)) := hc 4 _ rfl
      clear hcs hc hn2
      have hk0 : (0 : Int) ≤ (j : Int) := by omega
      have hk1 : (j : Int) < (N.length : Int) := by omega
      have hO := Lib.hid hM.out.1
      have hF := Lib.hid hM.out.2.1
      have hR := Lib.hid hM.out.2.2
      have hO' := Lib.hid (hM.out.1.take hhl.out hnn.out)
      have htc := takeF_code G hd M
      have htk := Lib.hid (fun vx wx (hx : Below w.heap.size w wx) (hG : FolAt wx w.heap.size bf G) (hvx : EntsAt wx vx M) => take_fol (E := E) w.heap.size bf G hd vx M wx (hLw.out _ hx).s hG hvx hnn.out hO.out.nm (by have := hO.out.l60; have := hen.out; omega) (by have := hhl.out; omega) hx.size)
      have htr := Lib.hid (fun vx wx (hx : Below w.heap.size w wx) (hG : RFolAt wx w.heap.size p G) (hvx : EntsAt wx vx M) => takeR_fol w.heap.size p G hd vx M wx hG hvx hnn.out hO.out.nm (by have := hO.out.l60; have := hen.out; omega) (by have := hhl.out; omega) hx.size)
      have hol := Lib.hid (show M.length ≤ 1000 by have := hen.out; omega)
      generalize htd : takeF G hd M = T at *
      obtain ⟨tc, G'⟩ := T
      dsimp only at hO' htc htk htr
      clear hnn hhl hen htd hM
      go_wp2_with fail
      refine hno.out.mono ?_
      rintro e w5 ⟨⟨v5, rfl, hv5⟩, hb5⟩
      have hK5 := Lib.hid (below_trans hK.out hb5)
      have hF5 := Lib.hid (hF.out.below hb5)
      have hR5 := Lib.hid (hR.out.below hb5)
      have hv5H := Lib.hid hv5
      have hown := Lib.hid (own_ent v5 M w5 (hv5H.out _ hK5.out) hol.out)
      clear hb5 hv5 d0 d1 d2 d3 d4 hno
      go_wp2_with fail
      refine hown.out.mono ?_
      rintro e w6 ⟨v6, rfl, hr6, hb6⟩
      have hK6 := Lib.hid (below_trans hK5.out hb6)
      have hF6 := Lib.hid (hF5.out.below hb6)
      have hR6 := Lib.hid (hR5.out.below hb6)
      have htk6 := Lib.hid (htk.out v6 _ hK6.out hF6.out (EntRow.at_ hr6))
      clear hb6 hr6 hown htk
      go_wp2_with fail
      refine htk6.out.mono ?_
      rintro e w7 ⟨rfl, hF7, hk7⟩
      have hR7 := Lib.hid (hR6.out.foreign hk7 (fun k e => by subst e; exact hF6.out.blk))
      have hK7 := Lib.hid (below_keeps hK6.out hF7.1 hk7)
      have hF7 := Lib.hid hF7
      have htr7 := Lib.hid (htr.out v5 _ hK7.out hR7.out (hv5H.out _ hK7.out))
      clear hk7 htk6 htr
      go_wp2_with fail
      refine htr7.out.mono ?_
      rintro e w8 ⟨rfl, hR8, hk8⟩
      have hF8 := Lib.hid (hF7.out.foreign hk8 (fun k e => by subst e; exact hR7.out.blk))
      have hK8 := Lib.hid (below_keeps hK7.out hR8.1 hk8)
      have hR8 := Lib.hid hR8
      have hcd8 := Lib.hid (hcd.out tc _ hK8.out htc)
      clear hk8 htr7
      go_wp2_with fail
      refine hcd8.out.mono ?_
      rintro e w9 ⟨rfl, hb9⟩
      have hF9 := Lib.hid (hF8.out.below hb9)
      have hR9 := Lib.hid (hR8.out.below hb9)
      have hK9 := Lib.hid (below_trans hK8.out hb9)
      have has9 := Lib.hid (asFol_any w.heap.size bf w.heap.size p G' w9 hF9.out hR9.out hO'.out)
      clear hb9 hcd8
      go_wp2_with fail
      refine has9.out.mono ?_
      rintro e w10 ⟨rfl, hb10⟩
      have hF10 := Lib.hid (hF9.out.below hb10)
      have hR10 := Lib.hid (hR9.out.below hb10)
      have hK10 := Lib.hid (below_trans hK9.out hb10)
      clear hb10 has9
      go_wp2_with fail
      go_roundg (N.length - j)
      case measure => omega
      case rel => exact ⟨j + 1, G', by simp, hlt, by omega, Lib.hid ⟨hO'.out, hF10.out, hR10.out⟩, hK10⟩
    · have hge : ¬ ((j : Int) < (N.length : Int)) := by omega
      have hcp := Lib.hid (copy_fol w.heap.size bf G wr hM.out.2.1 (by have := hM.out.1.l60; omega) (by have := hM.out.1.fl; omega))
      go_wp2_with fail
      refine hcp.out.mono ?_
      rintro e w5 ⟨bw, rfl, hW5, hb5⟩
      have hK5 := Lib.hid (below_trans hK.out hb5)
      have has5 := Lib.hid (asFol_any wr.heap.size bw w.heap.size p G w5 hW5 (hM.out.2.2.below hb5) hM.out.1)
      clear hb5 hcp hW5
      go_wp2_with fail
      refine has5.out.mono ?_
      rintro e w6 ⟨rfl, hb6⟩
      have hK6 := Lib.hid (below_trans hK5.out hb6)
      clear hb6 has5
      go_wp2_with fail
      go_ret
      exact ⟨rfl, hK6.out⟩
end Go.Proofs.YtfbndfkahodheaaGreatDoor
