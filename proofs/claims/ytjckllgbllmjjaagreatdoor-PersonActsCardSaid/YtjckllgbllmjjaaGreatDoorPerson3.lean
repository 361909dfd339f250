/- Off, Raise, Rekey of a book, walked. -/
import Derived.Test.YtjckllgbllmjjaaGreatDoorPerson2
namespace Go.Proofs.YtjckllgbllmjjaaGreatDoor
open Go.RowKit

theorem setP_perm {L : List Per} (hs : SortedP L) {p q : Per} (hp : p ∈ L) (hn : q.name = p.name) {l : List (Value × Value)} (hl : l.Perm (L.map fun p => ((.string (bs p.name) : Value), p.val))) (hnd : (l.map Prod.fst).Nodup) {j : Nat} (hj : l[j]? = some (.string (bs p.name), p.val)) :
    (l.set j (.string (bs p.name), q.val)).Perm ((setP L q).map fun p => ((.string (bs p.name) : Value), p.val)) := by
  classical
  have hlt : j < l.length := (List.getElem?_eq_some_iff.1 hj).1
  have hf : l.set j (.string (bs p.name), q.val) = l.map (fun x => if x.1 = .string (bs p.name) then (.string (bs p.name), q.val) else x) := by
    apply List.ext_getElem?
    intro i
    rw [List.getElem?_set, List.getElem?_map]
    by_cases hij : j = i
    · subst hij
      rw [if_pos rfl, if_pos hlt, hj]
      simp
    · rw [if_neg hij]
      cases hi : l[i]? with
      | none => rfl
      | some x =>
        have hne : x.1 ≠ .string (bs p.name) := by
          intro he
          have h1 : (l.map Prod.fst)[i]? = some (.string (bs p.name)) := by rw [List.getElem?_map, hi, ← he]; rfl
          have h2 : (l.map Prod.fst)[j]? = some (.string (bs p.name)) := by rw [List.getElem?_map, hj]; rfl
          have hlt2 : j < (l.map Prod.fst).length := by rw [List.length_map]; exact hlt
          exact hij ((List.getElem?_inj hlt2 hnd).1 (h2.trans h1.symm))
        show some x = some (if _ then _ else _)
        rw [if_neg hne]
  rw [hf]
  refine (hl.map _).trans ?_
  unfold setP
  rw [List.map_map, List.map_map]
  refine List.Perm.of_eq (List.map_congr_left fun x hx => ?_)
  simp only [Function.comp]
  by_cases h : x.name = q.name
  · have hxp : x = p := sorted_name_inj hs x hx p hp (h.trans hn)
    subst hxp
    rw [if_pos rfl, if_pos h, hn]
  · have : ¬ ((.string (bs x.name) : Value) = .string (bs p.name)) := by
      intro he
      injection he with he
      exact h ((bs_inj he).trans hn.symm)
    rw [if_neg this, if_neg h]

/-- What a store at a name that is there does. -/
theorem BookAt.update_some {w : World} {b r : Nat} {L : List Per} (h : BookAt w b r L) {p q : Per} (hp : p ∈ L) (hn : q.name = p.name) :
    ∃ w', (Instr.mapUpdate 57 (.map (some r)) (.string (bs p.name)) q.val).run Tryz.prog w = .ok () w' ∧ Keeps (· = r) w w' ∧ BookAt w' b r (setP L q) := by
  obtain ⟨l, hm, hl⟩ := h.map
  obtain ⟨w', h1, h2, h3, j, hj, hm'⟩ := run_update_mem (P := Tryz.prog) (k := .string (bs p.name)) (v := p.val) (u := q.val) Tryz.underlying57 Tryz.underlying9 hm trivial (hl.mem_iff.2 (List.mem_map.2 ⟨p, hp, rfl⟩))
  exact ⟨w', h1, h2, ⟨h2.obj h.cell h.ne, ⟨_, hm', setP_perm h.sorted hp hn hl hm.keys_nodup hj⟩, setP_sorted q h.sorted⟩⟩
theorem insP_map_perm {L : List Per} (q : Per) {l : List (Value × Value)} (hl : l.Perm (L.map fun p => ((.string (bs p.name) : Value), p.val))) :
    (l ++ [((.string (bs q.name) : Value), q.val)]).Perm ((insP q L).map fun p => ((.string (bs p.name) : Value), p.val)) := by
  have h2 := (insP_perm q L).map (fun p : Per => ((.string (bs p.name) : Value), p.val))
  exact (List.perm_append_singleton _ _).trans ((hl.cons _).trans h2.symm)
theorem BookAt.update_none {w : World} {b r : Nat} {L : List Per} (h : BookAt w b r L) {q : Per} (hn : findP L q.name = none) :
    ∃ w', (Instr.mapUpdate 57 (.map (some r)) (.string (bs q.name)) q.val).run Tryz.prog w = .ok () w' ∧ Keeps (· = r) w w' ∧ BookAt w' b r (insP q L) := by
  obtain ⟨l, hm, hl⟩ := h.map
  obtain ⟨w', h1, h2, h3, hm'⟩ := run_update_not (P := Tryz.prog) (u := q.val) Tryz.underlying57 Tryz.underlying9 hm (k := .string (bs q.name)) trivial (BookAt.not_mem hl hn)
  exact ⟨w', h1, h2, ⟨h2.obj h.cell h.ne, ⟨_, hm', insP_map_perm q hl⟩, insP_sorted q L h.sorted (findP_none hn)⟩⟩

set_option maxRecDepth 100000 in
theorem off_any {E : Nat → Addr} (b r : Nat) (L : List Per) (n : List UInt8) (o : Bool) (w : World) (hL : Laid E w) (hB : BookAt w b r L) :
    Calls Tryz.prog 16 #[.pointer (some ⟨b, 0, none⟩), .string (bs n), .bool o] w fun e w' => e = .returned (errV E (offOf L n o).1) ∧ Keeps (· = r) w w' ∧ BookAt w' b r (offOf L n o).2 := by
  have hg := Lib.hid (get_any b r L n w hL hB)
  cases hf : findP L n with
  | none =>
    have hr := Lib.hid (show offOf L n o = (5, L) by unfold offOf; rw [hf])
    go_enter Tryz.func16, Tryz.ntmps16
    go_wp2_with fail
    refine hg.out.mono ?_
    rintro e w1 ⟨⟨p, hp, rfl⟩ | ⟨_, rfl⟩, hb⟩
    · rw [hf] at hp; cases hp
    have hb := Lib.hid hb
    simp only [errV]
    go_wp2
    go_ret
    have hb1 := hb.out.alloc hb.out.size (.cells #[.string ⟨#[]⟩, .int .i64 0, .int .i64 0, .bool false] 24)
    exact ⟨by rw [hr.out]; rfl, Keeps.of_below hb1, by rw [hr.out]; exact hB.below hb1⟩
  | some p =>
    obtain ⟨hp, rfl⟩ := findP_some hf
    by_cases ho : p.off = o
    · have hr := Lib.hid (show offOf L p.name o = (6, L) by unfold offOf; rw [hf]; exact if_pos ho)
      go_enter Tryz.func16, Tryz.ntmps16
      go_wp2_with fail
      refine hg.out.mono ?_
      rintro e w1 ⟨⟨p', hp', rfl⟩ | ⟨h, _⟩, hb⟩
      case inr => rw [hf] at h; cases h
      rw [hf] at hp'
      cases hp'
      subst ho
      have hb1 := hb.alloc hb.size (.cells #[.string (bs p.name), .int .i64 p.key, .int .i64 p.epoch, .bool p.off] 24)
      have he := (hL.below hb1).e6
      have hb1 := Lib.hid hb1
      clear hb
      go_wp2
      go_ret
      exact ⟨by rw [hr.out]; rfl, Keeps.of_below hb1.out, by rw [hr.out]; exact hB.below hb1.out⟩
    · have hr := Lib.hid (show offOf L p.name o = (0, setP L { p with off := o }) by unfold offOf; rw [hf]; exact if_neg ho)
      go_enter Tryz.func16, Tryz.ntmps16
      go_wp2_with fail
      refine hg.out.mono ?_
      rintro e w1 ⟨⟨p', hp', rfl⟩ | ⟨h, _⟩, hb⟩
      case inr => rw [hf] at h; cases h
      rw [hf] at hp'
      cases hp'
      have ho2 : (p.off == o) = false := by simpa using ho
      have hb1 := hb.alloc hb.size (.cells #[.string (bs p.name), .int .i64 p.key, .int .i64 p.epoch, .bool o] 24)
      have hb1 := hb1.drew
      have hB1 := hB.below hb1
      obtain ⟨w2, hu, hk, hB2⟩ := hB1.update_some hp (q := { p with off := o }) rfl
      have hc1 := hB1.at0
      simp only [Per.val] at hu
      have hfin := Lib.hid (show Keeps (· = r) w w2 ∧ BookAt w2 b r (setP L { p with off := o }) from ⟨(Keeps.of_below hb1).trans hk, hB2⟩)
      have hb1 := Lib.hid hb1
      clear hb hB1 hk hB2
      go_wp2
      go_still_tail 6, (by kernel_rfl)
      change wpStill _ _ (World.drew _) _ _ _
      repeat still_step
      try refine wpStill_nil ?_
      change wpList _ _ _ _ _ (World.drew _)
      go_wp2
      go_ret
      exact ⟨by rw [hr.out]; rfl, hfin.out.1, by rw [hr.out]; exact hfin.out.2⟩

set_option maxRecDepth 100000 in
theorem raise_any {E : Nat → Addr} (b r : Nat) (L : List Per) (n : List UInt8) (w : World) (hL : Laid E w) (hB : BookAt w b r L) (hG : ∀ p ∈ L, 1 ≤ p.epoch ∧ p.epoch ≤ 1073741824) :
    Calls Tryz.prog 14 #[.pointer (some ⟨b, 0, none⟩), .string (bs n)] w fun e w' => e = .returned (.tuple #[.int .i64 (raiseOf L n).1, errV E (raiseOf L n).2.1]) ∧ Keeps (· = r) w w' ∧ BookAt w' b r (raiseOf L n).2.2 := by
  have hg := Lib.hid (get_any b r L n w hL hB)
  cases hf : findP L n with
  | none =>
    have hr := Lib.hid (show raiseOf L n = (0, 5, L) by unfold raiseOf; rw [hf])
    go_enter Tryz.func14, Tryz.ntmps14
    go_wp2_with fail
    refine hg.out.mono ?_
    rintro e w1 ⟨⟨p, hp, rfl⟩ | ⟨_, rfl⟩, hb⟩
    · rw [hf] at hp; cases hp
    have hb := Lib.hid hb
    simp only [errV]
    go_wp2
    go_ret2
    have hb1 := hb.out.alloc hb.out.size (.cells #[.string ⟨#[]⟩, .int .i64 0, .int .i64 0, .bool false] 24)
    exact ⟨by rw [hr.out]; rfl, Keeps.of_below hb1, by rw [hr.out]; exact hB.below hb1⟩
  | some p =>
    obtain ⟨hp, rfl⟩ := findP_some hf
    have ⟨hp1, hp2⟩ := hG p hp
    by_cases ho : 1073741824 ≤ p.epoch
    · have hr := Lib.hid (show raiseOf L p.name = (0, 2, L) by unfold raiseOf; rw [hf]; exact if_pos ho)
      go_enter Tryz.func14, Tryz.ntmps14
      go_wp2_with fail
      refine hg.out.mono ?_
      rintro e w1 ⟨⟨p', hp', rfl⟩ | ⟨h, _⟩, hb⟩
      case inr => rw [hf] at h; cases h
      rw [hf] at hp'
      cases hp'
      have hb1 := hb.alloc hb.size (.cells #[.string (bs p.name), .int .i64 p.key, .int .i64 p.epoch, .bool p.off] 24)
      have he := (hL.below hb1).e2
      have hb1 := Lib.hid hb1
      clear hb
      go_wp2
      go_quiet (fail)
      go_wp2
      go_ret2
      exact ⟨by rw [hr.out]; rfl, Keeps.of_below (below_drawn hb1.out _), by rw [hr.out]; exact hB.below (below_drawn hb1.out _)⟩
    · have hr := Lib.hid (show raiseOf L p.name = (p.epoch + 1, 0, setP L { p with epoch := p.epoch + 1 }) by unfold raiseOf; rw [hf]; exact if_neg ho)
      go_enter Tryz.func14, Tryz.ntmps14
      go_wp2_with fail
      refine hg.out.mono ?_
      rintro e w1 ⟨⟨p', hp', rfl⟩ | ⟨h, _⟩, hb⟩
      case inr => rw [hf] at h; cases h
      rw [hf] at hp'
      cases hp'
      have hb1 := hb.alloc hb.size (.cells #[.string (bs p.name), .int .i64 p.key, .int .i64 (p.epoch + 1), .bool p.off] 24)
      have hb1 := hb1.drew
      have hB1 := hB.below hb1
      obtain ⟨w2, hu, hk, hB2⟩ := hB1.update_some hp (q := { p with epoch := p.epoch + 1 }) rfl
      have hc1 := hB1.at0
      simp only [Per.val] at hu
      have hcell := hk.cell (a := ⟨w1.heap.size, 2, none⟩) (v := .int .i64 (p.epoch + 1)) (by simp) (by have := hB.map; obtain ⟨l, hm, _⟩ := this; have := hm.lt; have := hb.size; simp; omega)
      have hfin := Lib.hid (show Keeps (· = r) w w2 ∧ BookAt w2 b r (setP L { p with epoch := p.epoch + 1 }) from ⟨(Keeps.of_below hb1).trans hk, hB2⟩)
      have hb1 := Lib.hid hb1
      clear hb hB1 hk hB2
      go_wp2
      go_still_tail 6, (by kernel_rfl)
      change wpStill _ _ (World.drew _) _ _ _
      repeat still_step
      try refine wpStill_nil ?_
      change wpList _ _ _ _ _ (World.drew _)
      go_wp2
      go_ret2
      exact ⟨by rw [hr.out]; rfl, hfin.out.1, by rw [hr.out]; exact hfin.out.2⟩

set_option maxRecDepth 100000 in
theorem rekey_any {E : Nat → Addr} (b r : Nat) (L : List Per) (n : List UInt8) (k : Int) (w : World) (hL : Laid E w) (hB : BookAt w b r L) (hG : ∀ p ∈ L, 1 ≤ p.epoch ∧ p.epoch ≤ 1073741824) :
    Calls Tryz.prog 12 #[.pointer (some ⟨b, 0, none⟩), .string (bs n), .int .i64 k] w fun e w' => e = .returned (errV E (rekeyOf L n k).1) ∧ Keeps (· = r) w w' ∧ BookAt w' b r (rekeyOf L n k).2 := by
  have hg := Lib.hid (get_any b r L n w hL hB)
  cases hf : findP L n with
  | none =>
    have hr := Lib.hid (show rekeyOf L n k = (5, L) by unfold rekeyOf; rw [hf])
    go_enter Tryz.func12, Tryz.ntmps12
    go_wp2_with fail
    refine hg.out.mono ?_
    rintro e w1 ⟨⟨p, hp, rfl⟩ | ⟨_, rfl⟩, hb⟩
    · rw [hf] at hp; cases hp
    have hb := Lib.hid hb
    simp only [errV]
    go_wp2_with fail
    go_ret
    have hb1 := hb.out.alloc hb.out.size (.cells #[.string ⟨#[]⟩, .int .i64 0, .int .i64 0, .bool false] 24)
    exact ⟨by rw [hr.out]; rfl, Keeps.of_below hb1, by rw [hr.out]; exact hB.below hb1⟩
  | some p =>
    obtain ⟨hp, rfl⟩ := findP_some hf
    have ⟨hp1, hp2⟩ := hG p hp
    by_cases h2 : isKey k = true
    case neg =>
      have h2 : isKey k = false := by simpa using h2
      have hr := Lib.hid (show rekeyOf L p.name k = (10, L) by unfold rekeyOf; rw [hf]; exact if_pos h2)
      go_enter Tryz.func12, Tryz.ntmps12
      go_wp2_with fail
      refine hg.out.mono ?_
      rintro e w1 ⟨⟨p', hp', rfl⟩ | ⟨h, _⟩, hb⟩
      case inr => rw [hf] at h; cases h
      rw [hf] at hp'
      cases hp'
      have hb1 := hb.alloc hb.size (.cells #[.string (bs p.name), .int .i64 p.key, .int .i64 p.epoch, .bool p.off] 24)
      have he := (hL.below hb1).e10
      have hb1 := Lib.hid hb1
      clear hb
      go_wp2_with (go_at_call 25; refine (key_any _ _).mono ?_; rintro e w' ⟨rfl, rfl⟩)
      go_ret
      exact ⟨by rw [hr.out]; rfl, Keeps.of_below hb1.out, by rw [hr.out]; exact hB.below hb1.out⟩
    by_cases ho : p.key = k
    · have hr := Lib.hid (show rekeyOf L p.name k = (6, L) by unfold rekeyOf; rw [hf]; dsimp only; rw [if_neg (by rw [h2]; decide), if_pos ho])
      go_enter Tryz.func12, Tryz.ntmps12
      go_wp2_with fail
      refine hg.out.mono ?_
      rintro e w1 ⟨⟨p', hp', rfl⟩ | ⟨h, _⟩, hb⟩
      case inr => rw [hf] at h; cases h
      rw [hf] at hp'
      cases hp'
      subst ho
      have hb1 := hb.alloc hb.size (.cells #[.string (bs p.name), .int .i64 p.key, .int .i64 p.epoch, .bool p.off] 24)
      have he := (hL.below hb1).e6
      have hb1 := Lib.hid hb1
      clear hb
      go_wp2_with (go_at_call 25; refine (key_any _ _).mono ?_; rintro e w' ⟨rfl, rfl⟩)
      go_ret
      exact ⟨by rw [hr.out]; rfl, Keeps.of_below hb1.out, by rw [hr.out]; exact hB.below hb1.out⟩
    by_cases hx : 1073741824 ≤ p.epoch
    · have hr := Lib.hid (show rekeyOf L p.name k = (2, L) by unfold rekeyOf; rw [hf]; dsimp only; rw [if_neg (by rw [h2]; decide), if_neg ho, if_pos hx])
      go_enter Tryz.func12, Tryz.ntmps12
      go_wp2_with fail
      refine hg.out.mono ?_
      rintro e w1 ⟨⟨p', hp', rfl⟩ | ⟨h, _⟩, hb⟩
      case inr => rw [hf] at h; cases h
      rw [hf] at hp'
      cases hp'
      have hb1 := hb.alloc hb.size (.cells #[.string (bs p.name), .int .i64 p.key, .int .i64 p.epoch, .bool p.off] 24)
      have he := (hL.below hb1).e2
      have hb1 := Lib.hid hb1
      clear hb
      go_wp2_with (go_at_call 25; refine (key_any _ _).mono ?_; rintro e w' ⟨rfl, rfl⟩)
      go_ret
      exact ⟨by rw [hr.out]; rfl, Keeps.of_below hb1.out, by rw [hr.out]; exact hB.below hb1.out⟩
    · have hr := Lib.hid (show rekeyOf L p.name k = (0, setP L { p with key := k, epoch := p.epoch + 1 }) by unfold rekeyOf; rw [hf]; dsimp only; rw [if_neg (by rw [h2]; decide), if_neg ho, if_neg hx])
      go_enter Tryz.func12, Tryz.ntmps12
      go_wp2_with fail
      refine hg.out.mono ?_
      rintro e w1 ⟨⟨p', hp', rfl⟩ | ⟨h, _⟩, hb⟩
      case inr => rw [hf] at h; cases h
      rw [hf] at hp'
      cases hp'
      have hb1 := hb.alloc hb.size (.cells #[.string (bs p.name), .int .i64 k, .int .i64 (p.epoch + 1), .bool p.off] 24)
      have hb1 := hb1.drew
      have hB1 := hB.below hb1
      obtain ⟨w2, hu, hk, hB2⟩ := hB1.update_some hp (q := { p with key := k, epoch := p.epoch + 1 }) rfl
      have hc1 := hB1.at0
      simp only [Per.val] at hu
      have hfin := Lib.hid (show Keeps (· = r) w w2 ∧ BookAt w2 b r (setP L { p with key := k, epoch := p.epoch + 1 }) from ⟨(Keeps.of_below hb1).trans hk, hB2⟩)
      have hb1 := Lib.hid hb1
      clear hb hB1 hk hB2
      go_wp2_with (go_at_call 25; refine (key_any _ _).mono ?_; rintro e w' ⟨rfl, rfl⟩)
      go_still_tail 6, (by kernel_rfl)
      change wpStill _ _ (World.drew _) _ _ _
      repeat still_step
      try refine wpStill_nil ?_
      change wpList _ _ _ _ _ (World.drew _)
      go_wp2
      go_ret
      exact ⟨by rw [hr.out]; rfl, hfin.out.1, by rw [hr.out]; exact hfin.out.2⟩
end Go.Proofs.YtjckllgbllmjjaaGreatDoor
