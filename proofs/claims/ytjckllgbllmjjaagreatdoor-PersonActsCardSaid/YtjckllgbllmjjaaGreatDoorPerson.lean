/- The walks of package person: a book of people. -/
import Derived.Test.YtjckllgbllmjjaaGreatDoorName
import Derived.Test.YtjckllgbllmjjaaGreatDoorMapV
import Derived.StillTailTactics
import Derived.Deep.RegionLaw
namespace Go.Proofs.YtjckllgbllmjjaaGreatDoor
open Go.RowKit

/-- Check of a person: an error's number. -/
def checkOf (n : List UInt8) (k e : Int) : Nat := if isName n = false then 4 else if isKey k = false then 10 else if 1 ≤ e ∧ e ≤ 1073741824 then 0 else 2
set_option maxRecDepth 100000 in
theorem check_any {E : Nat → Addr} (s : ByteArray) (k ep : Int) (o : Bool) (w : World) (hL : Laid E w) (hs : s.size ≤ maxLen) :
    Calls Tryz.prog 7 #[.agg #[.string s, .int .i64 k, .int .i64 ep, .bool o]] w fun e w' => e = .returned (errV E (checkOf s.data.toList k ep)) ∧ Below w.heap.size w w' := by
  have hB : Below w.heap.size w (w.alloc (.cells #[.string s, .int .i64 k, .int .i64 ep, .bool o] 24)) := (Below.refl _ _).alloc (Nat.le_refl _) _
  have c1 : (w.alloc (.cells #[.string s, .int .i64 k, .int .i64 ep, .bool o] 24)).cell? ⟨w.heap.size, 1, none⟩ = some (.int .i64 k) := by simp
  have c2 : (w.alloc (.cells #[.string s, .int .i64 k, .int .i64 ep, .bool o] 24)).cell? ⟨w.heap.size, 2, none⟩ = some (.int .i64 ep) := by simp
  have hn := name_any s (w.alloc (.cells #[.string s, .int .i64 k, .int .i64 ep, .bool o] 24)) hs
  by_cases h1 : isName s.data.toList = true
  · rw [h1] at hn
    by_cases h2 : isKey k = true
    · by_cases h3 : 1 ≤ ep ∧ ep ≤ 1073741824
      · have hr := Lib.hid (show checkOf s.data.toList k ep = 0 by unfold checkOf; rw [h1, h2, if_neg (by decide), if_neg (by decide), if_pos h3])
        obtain ⟨h3, h4⟩ := h3
        clear h1
        go_enter Tryz.func7, Tryz.ntmps7
        go_wp2_with fail
        refine hn.mono ?_
        rintro e w1 ⟨rfl, hb⟩
        have d1 := cell_below hb c1
        have d2 := cell_below hb c2
        have hb := Lib.hid (below_trans hB hb)
        clear c1 c2 hn hB
        go_wp2_with (go_at_call 25; refine (key_any _ _).mono ?_; rintro e w' ⟨rfl, rfl⟩)
        go_ret
        exact ⟨by rw [hr.out]; rfl, hb.out⟩
      · have hr := Lib.hid (show checkOf s.data.toList k ep = 2 by unfold checkOf; rw [h1, h2, if_neg (by decide), if_neg (by decide), if_neg h3])
        have h3 : ep < 1 ∨ 1073741824 < ep := by omega
        clear h1
        go_enter Tryz.func7, Tryz.ntmps7
        go_wp2_with fail
        refine hn.mono ?_
        rintro e w1 ⟨rfl, hb⟩
        have d1 := cell_below hb c1
        have d2 := cell_below hb c2
        have hb := Lib.hid (below_trans hB hb)
        have he := (hL.below hb.out).e2
        clear c1 c2 hn hB
        rcases h3 with h3 | h3
        all_goals
          go_wp2_with (go_at_call 25; refine (key_any _ _).mono ?_; rintro e w' ⟨rfl, rfl⟩)
          go_ret
          exact ⟨by rw [hr.out]; rfl, hb.out⟩
    · have h2 : isKey k = false := by simpa using h2
      have hr := Lib.hid (show checkOf s.data.toList k ep = 10 by unfold checkOf; rw [h1, h2, if_neg (by decide), if_pos rfl])
      clear h1
      go_enter Tryz.func7, Tryz.ntmps7
      go_wp2_with fail
      refine hn.mono ?_
      rintro e w1 ⟨rfl, hb⟩
      have d1 := cell_below hb c1
      have hb := Lib.hid (below_trans hB hb)
      have he := (hL.below hb.out).e10
      clear c1 c2 hn hB
      go_wp2_with (go_at_call 25; refine (key_any _ _).mono ?_; rintro e w' ⟨rfl, rfl⟩)
      go_ret
      exact ⟨by rw [hr.out]; rfl, hb.out⟩
  · have h1 : isName s.data.toList = false := by simpa using h1
    rw [h1] at hn
    have hr := Lib.hid (show checkOf s.data.toList k ep = 4 by unfold checkOf; rw [if_pos h1])
    clear h1
    go_enter Tryz.func7, Tryz.ntmps7
    go_wp2_with fail
    refine hn.mono ?_
    rintro e w1 ⟨rfl, hb⟩
    have hb := Lib.hid (below_trans hB hb)
    have he := (hL.below hb.out).e4
    clear c1 c2 hn hB
    go_wp2_with fail
    go_ret
    exact ⟨by rw [hr.out]; rfl, hb.out⟩

/-- A book at block b, its map at block r. -/
structure BookAt (w : World) (b r : Nat) (L : List Per) : Prop where
  cell : w.heap[b]? = some (.cells #[.map (some r)] 59 (0, 0))
  map : ∃ l, MapV .string w r l ∧ l.Perm (L.map fun p => (.string (bs p.name), p.val))
  sorted : SortedP L
theorem BookAt.ne {w : World} {b r : Nat} {L : List Per} (h : BookAt w b r L) : b ≠ r := by
  rintro rfl
  obtain ⟨l, ⟨es, c, hb, _⟩, _⟩ := h.map
  rw [h.cell] at hb
  cases hb
theorem BookAt.keeps {S : Nat → Prop} {w w' : World} {b r : Nat} {L : List Per} (h : BookAt w b r L) (hk : Keeps S w w') (hb : ¬ S b) (hr : ¬ S r) : BookAt w' b r L :=
  ⟨hk.obj h.cell hb, let ⟨l, hm, hp⟩ := h.map; ⟨l, hm.keeps hk hr, hp⟩, h.sorted⟩
theorem BookAt.below {w w' : World} {b r : Nat} {L : List Per} (h : BookAt w b r L) (hk : Below w.heap.size w w') : BookAt w' b r L :=
  h.keeps (S := fun _ => False) (Keeps.of_below hk) (fun h => h) (fun h => h)
theorem BookAt.at0 {w : World} {b r : Nat} {L : List Per} (h : BookAt w b r L) : w.cell? ⟨b, 0, none⟩ = some (.map (some r)) := by
  rw [cell_of_row w b 0 _ _ _ h.cell]; rfl
theorem zero_person (w : World) : (zeroValue 24).run Tryz.prog w = .ok (.agg #[.string ⟨#[]⟩, .int .i64 0, .int .i64 0, .bool false]) w := by kernel_rfl
theorem BookAt.lookup_some {w : World} {b r : Nat} {L : List Per} (h : BookAt w b r L) {n : List UInt8} {p : Per} (hf : findP L n = some p) :
    (Instr.lookup 57 (.map (some r)) (.string (bs n)) true).run Tryz.prog w = .ok (.tuple #[p.val, .bool true]) w ∧ (Instr.lookup 57 (.map (some r)) (.string (bs n)) false).run Tryz.prog w = .ok p.val w := by
  obtain ⟨l, hm, hp⟩ := h.map
  obtain ⟨hpL, rfl⟩ := findP_some hf
  exact run_lookup_mem Tryz.underlying57 Tryz.underlying9 hm trivial (hp.mem_iff.2 (List.mem_map.2 ⟨p, hpL, rfl⟩))
theorem BookAt.not_mem {L : List Per} {l : List (Value × Value)} (hp : l.Perm (L.map fun p => (.string (bs p.name), p.val))) {n : List UInt8} (hf : findP L n = none) : ∀ v, ((.string (bs n) : Value), v) ∉ l := by
  intro v hm
  obtain ⟨p, hpL, he⟩ := List.mem_map.1 (hp.mem_iff.1 hm)
  have he := (Prod.mk.injEq _ _ _ _ |>.mp he).1
  injection he with he
  exact findP_none hf p hpL (bs_inj he)
theorem BookAt.lookup_none {w : World} {b r : Nat} {L : List Per} (h : BookAt w b r L) {n : List UInt8} (hf : findP L n = none) :
    (Instr.lookup 57 (.map (some r)) (.string (bs n)) true).run Tryz.prog w = .ok (.tuple #[.agg #[.string ⟨#[]⟩, .int .i64 0, .int .i64 0, .bool false], .bool false]) w := by
  obtain ⟨l, hm, hp⟩ := h.map
  exact run_lookup_not Tryz.underlying57 Tryz.underlying9 hm trivial (BookAt.not_mem hp hf) (zero_person w)
end Go.Proofs.YtjckllgbllmjjaaGreatDoor
