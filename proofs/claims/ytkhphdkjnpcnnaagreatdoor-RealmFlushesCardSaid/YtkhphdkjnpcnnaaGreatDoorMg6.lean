/- Person3, Person4, Keys, Sorted -/
import Derived.Test.YtkhphdkjnpcnnaaGreatDoorMg5
import Derived.Test.YtkhphdkjnpcnnaaGreatDoorShelf
import Derived.Test.YtkhphdkjnpcnnaaGreatDoorMg1
import Derived.Sort.KeysCollected
/- Off, Raise, Rekey of a book, walked. -/
namespace Go.Proofs.YtkhphdkjnpcnnaaGreatDoor set_option linter.unusedVariables false set_option linter.unusedSimpArgs false
open Go.RowKit

theorem setP_perm {L : List Per} (hs : SortedP L) {p q : Per} (hp : p ∈ L) (hn : q.name = p.name) {l : List (Value × Value)} (hl : l.Perm (L.map fun p => ((.string (bs p.name) : Value), p.val))) (hnd : (l.map Prod.fst).Nodup) {j : Nat} (hj : l[j]? = some (.string (bs p.name), p.val)) :
    (l.set j (.string (bs p.name), q.val)).Perm ((setP L q).map fun p => ((.string (bs p.name) : Value), p.val)) := by
  classical
  have hlt : j < l.length := (List.getElem?_eq_some_iff.1 hj).1
  have hf : l.set j (.string (bs p.name), q.val) = l.map (fun x => if x.1 = .string (bs p.name) then (.string (bs p.name), q.val) else x) := by
    apply List.ext_getElem?
    intro i
    rw [List.getElem?_set, List.getElem?_map]
    by_cases hij : j = i
    · subst hij
      rw [if_pos rfl, if_pos hlt, hj]
      simp
    · rw [if_neg hij]
      cases hi : l[i]? with
      | none => rfl
      | some x =>
        have hne : x.1 ≠ .string (bs p.name) := by
          intro he
          have h1 : (l.map Prod.fst)[i]? = some (.string (bs p.name)) := by rw [List.getElem?_map, hi, ← he]; rfl
          have h2 : (l.map Prod.fst)[j]? = some (.string (bs p.name)) := by rw [List.getElem?_map, hj]; rfl
          have hlt2 : j < (l.map Prod.fst).length := by rw [List.length_map]; exact hlt
          exact hij ((List.getElem?_inj hlt2 hnd).1 (h2.trans h1.symm))
        show some x = some (if _ then _ else _)
        rw [if_neg hne]
  rw [hf]
  refine (hl.map _).trans ?_
  unfold setP
  rw [List.map_map, List.map_map]
  refine List.Perm.of_eq (List.map_congr_left fun x hx => ?_)
  simp only [Function.comp]
  by_cases h : x.name = q.name
  · have hxp : x = p := sorted_name_inj hs x hx p hp (h.trans hn)
    subst hxp
    rw [if_pos rfl, if_pos h, hn]
  · have : ¬ ((.string (bs x.name) : Value) = .string (bs p.name)) := by
      intro he
      injection he with he
      exact h ((bs_inj he).trans hn.symm)
    rw [if_neg this, if_neg h]

/-- What a store at a name that is there does. -/
theorem BookAt.update_some {w : World} {b r : Nat} {L : List Per} (h : BookAt w b r L) {p q : Per} (hp : p ∈ L) (hn : q.name = p.name) :
    ∃ w', (Instr.mapUpdate 132 (.map (some r)) (.string (bs p.name)) q.val).run Tryz.prog w = .ok () w' ∧ Keeps (· = r) w w' ∧ BookAt w' b r (setP L q) := by
  obtain ⟨l, hm, hl⟩ := h.map
  obtain ⟨w', h1, h2, h3, j, hj, hm'⟩ := run_update_mem (P := Tryz.prog) (k := .string (bs p.name)) (v := p.val) (u := q.val) Tryz.underlying132 Tryz.underlying9 hm trivial (hl.mem_iff.2 (List.mem_map.2 ⟨p, hp, rfl⟩))
  exact ⟨w', h1, h2, ⟨h2.obj h.cell h.ne, ⟨_, hm', setP_perm h.sorted hp hn hl hm.keys_nodup hj⟩, setP_sorted q h.sorted⟩⟩
theorem insP_map_perm {L : List Per} (q : Per) {l : List (Value × Value)} (hl : l.Perm (L.map fun p => ((.string (bs p.name) : Value), p.val))) :
    (l ++ [((.string (bs q.name) : Value), q.val)]).Perm ((insP q L).map fun p => ((.string (bs p.name) : Value), p.val)) := by
  have h2 := (insP_perm q L).map (fun p : Per => ((.string (bs p.name) : Value), p.val))
  exact (List.perm_append_singleton _ _).trans ((hl.cons _).trans h2.symm)
theorem BookAt.update_none {w : World} {b r : Nat} {L : List Per} (h : BookAt w b r L) {q : Per} (hn : findP L q.name = none) :
    ∃ w', (Instr.mapUpdate 132 (.map (some r)) (.string (bs q.name)) q.val).run Tryz.prog w = .ok () w' ∧ Keeps (· = r) w w' ∧ BookAt w' b r (insP q L) := by
  obtain ⟨l, hm, hl⟩ := h.map
  obtain ⟨w', h1, h2, h3, hm'⟩ := run_update_not (P := Tryz.prog) (u := q.val) Tryz.underlying132 Tryz.underlying9 hm (k := .string (bs q.name)) trivial (BookAt.not_mem hl hn)
  exact ⟨w', h1, h2, ⟨h2.obj h.cell h.ne, ⟨_, hm', insP_map_perm q hl⟩, insP_sorted q L h.sorted (findP_none hn)⟩⟩

set_option maxRecDepth 100000 in
theorem off_any {E : Nat → Addr} (b r : Nat) (L : List Per) (n : List UInt8) (o : Bool) (w : World) (hL : Laid E w) (hB : BookAt w b r L) :
    Calls Tryz.prog 80 #[.pointer (some ⟨b, 0, none⟩), .string (bs n), .bool o] w fun e w' => e = .returned (errV E (offOf L n o).1) ∧ Keeps (· = r) w w' ∧ BookAt w' b r (offOf L n o).2 := by
  have hg := Lib.hid (get_any b r L n w hL hB)
  cases hf : findP L n with
  | none =>
    have hr := Lib.hid (show offOf L n o = (5, L) by unfold offOf; rw [hf])
    go_enter Tryz.func80, Tryz.ntmps80
    go_wp2_with fail
    refine hg.out.mono ?_
    rintro e w1 ⟨⟨p, hp, rfl⟩ | ⟨_, rfl⟩, hb⟩
    · rw [hf] at hp; cases hp
    have hb := Lib.hid hb
    simp only [errV]
    go_wp2
    go_ret
    have hb1 := hb.out.alloc hb.out.size (.cells #[.string ⟨#[]⟩, .int .i64 0, .int .i64 0, .bool false] 46)
    exact ⟨by rw [hr.out]; rfl, Keeps.of_below hb1, by rw [hr.out]; exact hB.below hb1⟩
  | some p =>
    obtain ⟨hp, rfl⟩ := findP_some hf
    by_cases ho : p.off = o
    · have hr := Lib.hid (show offOf L p.name o = (6, L) by unfold offOf; rw [hf]; exact if_pos ho)
      go_enter Tryz.func80, Tryz.ntmps80
      go_wp2_with fail
      refine hg.out.mono ?_
      rintro e w1 ⟨⟨p', hp', rfl⟩ | ⟨h, _⟩, hb⟩
      case inr => rw [hf] at h; cases h
      rw [hf] at hp'
      cases hp'
      subst ho
      have hb1 := hb.alloc hb.size (.cells #[.string (bs p.name), .int .i64 p.key, .int .i64 p.epoch, .bool p.off] 46)
      have he := (hL.below hb1).e6
      have hb1 := Lib.hid hb1
      clear hb
      go_wp2
      go_ret
      exact ⟨by rw [hr.out]; rfl, Keeps.of_below hb1.out, by rw [hr.out]; exact hB.below hb1.out⟩
    · have hr := Lib.hid (show offOf L p.name o = (0, setP L { p with off := o }) by unfold offOf; rw [hf]; exact if_neg ho)
      go_enter Tryz.func80, Tryz.ntmps80
      go_wp2_with fail
      refine hg.out.mono ?_
      rintro e w1 ⟨⟨p', hp', rfl⟩ | ⟨h, _⟩, hb⟩
      case inr => rw [hf] at h; cases h
      rw [hf] at hp'
      cases hp'
      have ho2 : (p.off == o) = false := by simpa using ho
      have hb1 := hb.alloc hb.size (.cells #[.string (bs p.name), .int .i64 p.key, .int .i64 p.epoch, .bool o] 46)
      have hb1 := hb1.drew
      have hB1 := hB.below hb1
      obtain ⟨w2, hu, hk, hB2⟩ := hB1.update_some hp (q := { p with off := o }) rfl
      have hc1 := hB1.at0
      simp only [Per.val] at hu
      have hfin := Lib.hid (show Keeps (· = r) w w2 ∧ BookAt w2 b r (setP L { p with off := o }) from ⟨(Keeps.of_below hb1).trans hk, hB2⟩)
      have hb1 := Lib.hid hb1
      clear hb hB1 hk hB2
      go_wp2
      go_still_tail 6, (by kernel_rfl)
      change wpStill _ _ (World.drew _) _ _ _
      repeat still_step
      try refine wpStill_nil ?_
      change wpList _ _ _ _ _ (World.drew _)
      go_wp2
      go_ret
      exact ⟨by rw [hr.out]; rfl, hfin.out.1, by rw [hr.out]; exact hfin.out.2⟩

set_option maxRecDepth 100000 in
theorem raise_any {E : Nat → Addr} (b r : Nat) (L : List Per) (n : List UInt8) (w : World) (hL : Laid E w) (hB : BookAt w b r L) (hG : ∀ p ∈ L, 1 ≤ p.epoch ∧ p.epoch ≤ 1073741824) :
    Calls Tryz.prog 62 #[.pointer (some ⟨b, 0, none⟩), .string (bs n)] w fun e w' => e = .returned (.tuple #[.int .i64 (raiseOf L n).1, errV E (raiseOf L n).2.1]) ∧ Keeps (· = r) w w' ∧ BookAt w' b r (raiseOf L n).2.2 := by
  have hg := Lib.hid (get_any b r L n w hL hB)
  cases hf : findP L n with
  | none =>
    have hr := Lib.hid (show raiseOf L n = (0, 5, L) by unfold raiseOf; rw [hf])
    go_enter Tryz.func62, Tryz.ntmps62
    go_wp2_with fail
    refine hg.out.mono ?_
    rintro e w1 ⟨⟨p, hp, rfl⟩ | ⟨_, rfl⟩, hb⟩
    · rw [hf] at hp; cases hp
    have hb := Lib.hid hb
    simp only [errV]
    go_wp2
    go_ret2
    have hb1 := hb.out.alloc hb.out.size (.cells #[.string ⟨#[]⟩, .int .i64 0, .int .i64 0, .bool false] 46)
    exact ⟨by rw [hr.out]; rfl, Keeps.of_below hb1, by rw [hr.out]; exact hB.below hb1⟩
  | some p =>
    obtain ⟨hp, rfl⟩ := findP_some hf
    have ⟨hp1, hp2⟩ := hG p hp
    by_cases ho : 1073741824 ≤ p.epoch
    · have hr := Lib.hid (show raiseOf L p.name = (0, 2, L) by unfold raiseOf; rw [hf]; exact if_pos ho)
      go_enter Tryz.func62, Tryz.ntmps62
      go_wp2_with fail
      refine hg.out.mono ?_
      rintro e w1 ⟨⟨p', hp', rfl⟩ | ⟨h, _⟩, hb⟩
      case inr => rw [hf] at h; cases h
      rw [hf] at hp'
      cases hp'
      have hb1 := hb.alloc hb.size (.cells #[.string (bs p.name), .int .i64 p.key, .int .i64 p.epoch, .bool p.off] 46)
      have he := (hL.below hb1).e2
      have hb1 := Lib.hid hb1
      clear hb
      go_wp2
      go_quiet (fail)
      go_wp2
      go_ret2
      exact ⟨by rw [hr.out]; rfl, Keeps.of_below (below_drawn hb1.out _), by rw [hr.out]; exact hB.below (below_drawn hb1.out _)⟩
    · have hr := Lib.hid (show raiseOf L p.name = (p.epoch + 1, 0, setP L { p with epoch := p.epoch + 1 }) by unfold raiseOf; rw [hf]; exact if_neg ho)
      go_enter Tryz.func62, Tryz.ntmps62
      go_wp2_with fail
      refine hg.out.mono ?_
      rintro e w1 ⟨⟨p', hp', rfl⟩ | ⟨h, _⟩, hb⟩
      case inr => rw [hf] at h; cases h
      rw [hf] at hp'
      cases hp'
      have hb1 := hb.alloc hb.size (.cells #[.string (bs p.name), .int .i64 p.key, .int .i64 (p.epoch + 1), .bool p.off] 46)
      have hb1 := hb1.drew
      have hB1 := hB.below hb1
      obtain ⟨w2, hu, hk, hB2⟩ := hB1.update_some hp (q := { p with epoch := p.epoch + 1 }) rfl
      have hc1 := hB1.at0
      simp only [Per.val] at hu
      have hcell := hk.cell (a := ⟨w1.heap.size, 2, none⟩) (v := .int .i64 (p.epoch + 1)) (by simp) (by have := hB.map; obtain ⟨l, hm, _⟩ := this; have := hm.lt; have := hb.size; simp; omega)
      have hfin := Lib.hid (show Keeps (· = r) w w2 ∧ BookAt w2 b r (setP L { p with epoch := p.epoch + 1 }) from ⟨(Keeps.of_below hb1).trans hk, hB2⟩)
      have hb1 := Lib.hid hb1
      clear hb hB1 hk hB2
      go_wp2
      go_still_tail 6, (by kernel_rfl)
      change wpStill _ _ (World.drew _) _ _ _
      repeat still_step
      try refine wpStill_nil ?_
      change wpList _ _ _ _ _ (World.drew _)
      go_wp2
      go_ret2
      exact ⟨by rw [hr.out]; rfl, hfin.out.1, by rw [hr.out]; exact hfin.out.2⟩

set_option maxRecDepth 100000 in
theorem rekey_any {E : Nat → Addr} (b r : Nat) (L : List Per) (n : List UInt8) (k : Int) (w : World) (hL : Laid E w) (hB : BookAt w b r L) (hG : ∀ p ∈ L, 1 ≤ p.epoch ∧ p.epoch ≤ 1073741824) :
    Calls Tryz.prog 89 #[.pointer (some ⟨b, 0, none⟩), .string (bs n), .int .i64 k] w fun e w' => e = .returned (errV E (rekeyOf L n k).1) ∧ Keeps (· = r) w w' ∧ BookAt w' b r (rekeyOf L n k).2 := by
  have hg := Lib.hid (get_any b r L n w hL hB)
  cases hf : findP L n with
  | none =>
    have hr := Lib.hid (show rekeyOf L n k = (5, L) by unfold rekeyOf; rw [hf])
    go_enter Tryz.func89, Tryz.ntmps89
    go_wp2_with fail
    refine hg.out.mono ?_
    rintro e w1 ⟨⟨p, hp, rfl⟩ | ⟨_, rfl⟩, hb⟩
    · rw [hf] at hp; cases hp
    have hb := Lib.hid hb
    simp only [errV]
    go_wp2_with fail
    go_ret
    have hb1 := hb.out.alloc hb.out.size (.cells #[.string ⟨#[]⟩, .int .i64 0, .int .i64 0, .bool false] 46)
    exact ⟨by rw [hr.out]; rfl, Keeps.of_below hb1, by rw [hr.out]; exact hB.below hb1⟩
  | some p =>
    obtain ⟨hp, rfl⟩ := findP_some hf
    have ⟨hp1, hp2⟩ := hG p hp
    by_cases h2 : isKey k = true
    case neg =>
      have h2 : isKey k = false := by simpa using h2
      have hr := Lib.hid (show rekeyOf L p.name k = (10, L) by unfold rekeyOf; rw [hf]; exact if_pos h2)
      go_enter Tryz.func89, Tryz.ntmps89
      go_wp2_with fail
      refine hg.out.mono ?_
      rintro e w1 ⟨⟨p', hp', rfl⟩ | ⟨h, _⟩, hb⟩
      case inr => rw [hf] at h; cases h
      rw [hf] at hp'
      cases hp'
      have hb1 := hb.alloc hb.size (.cells #[.string (bs p.name), .int .i64 p.key, .int .i64 p.epoch, .bool p.off] 46)
      have he := (hL.below hb1).e10
      have hb1 := Lib.hid hb1
      clear hb
      go_wp2_with (go_at_call 33; refine (key_any _ _).mono ?_; rintro e w' ⟨rfl, rfl⟩)
      go_ret
      exact ⟨by rw [hr.out]; rfl, Keeps.of_below hb1.out, by rw [hr.out]; exact hB.below hb1.out⟩
    by_cases ho : p.key = k
    · have hr := Lib.hid (show rekeyOf L p.name k = (6, L) by unfold rekeyOf; rw [hf]; dsimp only; rw [if_neg (by rw [h2]; decide), if_pos ho])
      go_enter Tryz.func89, Tryz.ntmps89
      go_wp2_with fail
      refine hg.out.mono ?_
      rintro e w1 ⟨⟨p', hp', rfl⟩ | ⟨h, _⟩, hb⟩
      case inr => rw [hf] at h; cases h
      rw [hf] at hp'
      cases hp'
      subst ho
      have hb1 := hb.alloc hb.size (.cells #[.string (bs p.name), .int .i64 p.key, .int .i64 p.epoch, .bool p.off] 46)
      have he := (hL.below hb1).e6
      have hb1 := Lib.hid hb1
      clear hb
      go_wp2_with (go_at_call 33; refine (key_any _ _).mono ?_; rintro e w' ⟨rfl, rfl⟩)
      go_ret
      exact ⟨by rw [hr.out]; rfl, Keeps.of_below hb1.out, by rw [hr.out]; exact hB.below hb1.out⟩
    by_cases hx : 1073741824 ≤ p.epoch
    · have hr := Lib.hid (show rekeyOf L p.name k = (2, L) by unfold rekeyOf; rw [hf]; dsimp only; rw [if_neg (by rw [h2]; decide), if_neg ho, if_pos hx])
      go_enter Tryz.func89, Tryz.ntmps89
      go_wp2_with fail
      refine hg.out.mono ?_
      rintro e w1 ⟨⟨p', hp', rfl⟩ | ⟨h, _⟩, hb⟩
      case inr => rw [hf] at h; cases h
      rw [hf] at hp'
      cases hp'
      have hb1 := hb.alloc hb.size (.cells #[.string (bs p.name), .int .i64 p.key, .int .i64 p.epoch, .bool p.off] 46)
      have he := (hL.below hb1).e2
      have hb1 := Lib.hid hb1
      clear hb
      go_wp2_with (go_at_call 33; refine (key_any _ _).mono ?_; rintro e w' ⟨rfl, rfl⟩)
      go_ret
      exact ⟨by rw [hr.out]; rfl, Keeps.of_below hb1.out, by rw [hr.out]; exact hB.below hb1.out⟩
    · have hr := Lib.hid (show rekeyOf L p.name k = (0, setP L { p with key := k, epoch := p.epoch + 1 }) by unfold rekeyOf; rw [hf]; dsimp only; rw [if_neg (by rw [h2]; decide), if_neg ho, if_neg hx])
      go_enter Tryz.func89, Tryz.ntmps89
      go_wp2_with fail
      refine hg.out.mono ?_
      rintro e w1 ⟨⟨p', hp', rfl⟩ | ⟨h, _⟩, hb⟩
      case inr => rw [hf] at h; cases h
      rw [hf] at hp'
      cases hp'
      have hb1 := hb.alloc hb.size (.cells #[.string (bs p.name), .int .i64 k, .int .i64 (p.epoch + 1), .bool p.off] 46)
      have hb1 := hb1.drew
      have hB1 := hB.below hb1
      obtain ⟨w2, hu, hk, hB2⟩ := hB1.update_some hp (q := { p with key := k, epoch := p.epoch + 1 }) rfl
      have hc1 := hB1.at0
      simp only [Per.val] at hu
      have hfin := Lib.hid (show Keeps (· = r) w w2 ∧ BookAt w2 b r (setP L { p with key := k, epoch := p.epoch + 1 }) from ⟨(Keeps.of_below hb1).trans hk, hB2⟩)
      have hb1 := Lib.hid hb1
      clear hb hB1 hk hB2
      go_wp2_with (go_at_call 33; refine (key_any _ _).mono ?_; rintro e w' ⟨rfl, rfl⟩)
      go_still_tail 6, (by kernel_rfl)
      change wpStill _ _ (World.drew _) _ _ _
      repeat still_step
      try refine wpStill_nil ?_
      change wpList _ _ _ _ _ (World.drew _)
      go_wp2
      go_ret
      exact ⟨by rw [hr.out]; rfl, hfin.out.1, by rw [hr.out]; exact hfin.out.2⟩
end Go.Proofs.YtkhphdkjnpcnnaaGreatDoor

/- Add of a book, walked. -/
namespace Go.Proofs.YtkhphdkjnpcnnaaGreatDoor set_option linter.unusedVariables false set_option linter.unusedSimpArgs false
open Go.RowKit

theorem BookAt.len {w : World} {b r : Nat} {L : List Per} (h : BookAt w b r L) : ∃ es c, w.heap[r]? = some (.map es c) ∧ es.size = L.length := by
  obtain ⟨l, ⟨es, c, hb, _, _, rfl⟩, hp⟩ := h.map
  refine ⟨es, c, hb, ?_⟩
  have := hp.length_eq
  simpa using this
theorem run_len {w : World} {r : Nat} {es : Array MapEntry} {c : Nat} (h : w.heap[r]? = some (.map es c)) :
    (Builtin.len_ #[132] 3 #[.map (some r)]).run Tryz.prog w = .ok (.int .i64 es.size) w := by
  simp [Builtin.len_, MapKept.run_getObj_map h, run_underlying Tryz.underlying132, Result.andThen, go_sem]
theorem BookAt.run_len {w : World} {b r : Nat} {L : List Per} (h : BookAt w b r L) :
    (Builtin.len_ #[132] 3 #[.map (some r)]).run Tryz.prog w = .ok (.int .i64 L.length) w := by
  obtain ⟨es, c, h1, h2⟩ := h.len
  rw [← h2]
  exact Go.Proofs.YtkhphdkjnpcnnaaGreatDoor.run_len h1
set_option maxRecDepth 100000 in
theorem add_some {E : Nat → Addr} (b r : Nat) (L : List Per) (n : List UInt8) (k : Int) (w : World) (hL : Laid E w) (hB : BookAt w b r L) (hn : n.length ≤ maxLen) {p : Per} (hf : findP L n = some p) :
    Calls Tryz.prog 72 #[.pointer (some ⟨b, 0, none⟩), .string (bs n), .int .i64 k] w fun e w' => e = .returned (errV E (addOf L n k).1) ∧ Keeps (· = r) w w' ∧ BookAt w' b r (addOf L n k).2 := by
  have hb1 := (Below.refl w.heap.size w).alloc (Nat.le_refl _) (.cells #[.string (bs n), .int .i64 k, .int .i64 1, .bool false] 46)
  have hl := ((hB.below hb1).lookup_some hf).1
  simp only [Per.val] at hl
  have hc1 := (hB.below hb1).at0
  have hb2 := hb1.alloc (by simp) (.cells #[.string (bs p.name), .int .i64 p.key, .int .i64 p.epoch, .bool p.off] 46)
  have hck := Lib.hid (check_any (bs n) k 1 false _ (hL.below hb2) (by rw [bs_size]; exact hn))
  have hb2 := Lib.hid hb2
  clear hb1
  by_cases h1 : isName n = true
  case neg =>
    have h1 : isName n = false := by simpa using h1
    have hcode := Lib.hid (show checkOf (bs n).data.toList k 1 = 4 by unfold checkOf; rw [bs_list, if_pos h1])
    have hr := Lib.hid (show addOf L n k = (4, L) by unfold addOf; rw [if_pos h1])
    go_enter Tryz.func72, Tryz.ntmps72
    go_wp2_with fail
    refine hck.out.mono ?_
    rintro e w1 ⟨rfl, hb3⟩
    rw [show checkOf (bs n).data.toList k 1 = 4 from hcode.out]
    have hb3 := below_trans hb2.out hb3
    have hb3 := Lib.hid hb3
    simp only [errV]
    go_wp2
    go_ret
    exact ⟨by rw [hr.out]; rfl, Keeps.of_below hb3.out, by rw [hr.out]; exact hB.below hb3.out⟩
  by_cases h2 : isKey k = true
  case neg =>
    have h2 : isKey k = false := by simpa using h2
    have hcode := Lib.hid (show checkOf (bs n).data.toList k 1 = 10 by unfold checkOf; rw [bs_list, if_neg (by rw [h1]; decide), if_pos h2])
    have hr := Lib.hid (show addOf L n k = (10, L) by unfold addOf; rw [if_neg (by rw [h1]; decide), if_pos h2])
    go_enter Tryz.func72, Tryz.ntmps72
    go_wp2_with fail
    refine hck.out.mono ?_
    rintro e w1 ⟨rfl, hb3⟩
    rw [show checkOf (bs n).data.toList k 1 = 10 from hcode.out]
    have hb3 := below_trans hb2.out hb3
    have hb3 := Lib.hid hb3
    simp only [errV]
    go_wp2
    go_ret
    exact ⟨by rw [hr.out]; rfl, Keeps.of_below hb3.out, by rw [hr.out]; exact hB.below hb3.out⟩
  have hcode := Lib.hid (show checkOf (bs n).data.toList k 1 = 0 by unfold checkOf; rw [bs_list, if_neg (by rw [h1]; decide), if_neg (by rw [h2]; decide), if_pos (by decide)])
  · have hr := Lib.hid (show addOf L n k = (6, L) by unfold addOf; rw [if_neg (by rw [h1]; decide), if_neg (by rw [h2]; decide), if_pos (by rw [hf]; rfl)])
    go_enter Tryz.func72, Tryz.ntmps72
    go_wp2_with fail
    refine hck.out.mono ?_
    rintro e w1 ⟨rfl, hb3⟩
    rw [show checkOf (bs n).data.toList k 1 = 0 from hcode.out]
    have hb3 := below_trans hb2.out hb3
    have he := (hL.below hb3).e6
    have hb3 := Lib.hid hb3
    simp only [errV]
    go_wp2
    go_ret
    exact ⟨by rw [hr.out]; rfl, Keeps.of_below hb3.out, by rw [hr.out]; exact hB.below hb3.out⟩
set_option maxRecDepth 100000 in
theorem add_none {E : Nat → Addr} (b r : Nat) (L : List Per) (n : List UInt8) (k : Int) (w : World) (hL : Laid E w) (hB : BookAt w b r L) (hn : n.length ≤ maxLen) (hm : L.length ≤ maxLen) (hf : findP L n = none) :
    Calls Tryz.prog 72 #[.pointer (some ⟨b, 0, none⟩), .string (bs n), .int .i64 k] w fun e w' => e = .returned (errV E (addOf L n k).1) ∧ Keeps (· = r) w w' ∧ BookAt w' b r (addOf L n k).2 := by
  have hb1 := (Below.refl w.heap.size w).alloc (Nat.le_refl _) (.cells #[.string (bs n), .int .i64 k, .int .i64 1, .bool false] 46)
  have hl := (hB.below hb1).lookup_none hf
  have hc1 := (hB.below hb1).at0
  have hb2 := hb1.alloc (by simp) (.cells #[.string ⟨#[]⟩, .int .i64 0, .int .i64 0, .bool false] 46)
  have hck := Lib.hid (check_any (bs n) k 1 false _ (hL.below hb2) (by rw [bs_size]; exact hn))
  have hb2 := Lib.hid hb2
  clear hb1
  by_cases h1 : isName n = true
  case neg =>
    have h1 : isName n = false := by simpa using h1
    have hcode := Lib.hid (show checkOf (bs n).data.toList k 1 = 4 by unfold checkOf; rw [bs_list, if_pos h1])
    have hr := Lib.hid (show addOf L n k = (4, L) by unfold addOf; rw [if_pos h1])
    go_enter Tryz.func72, Tryz.ntmps72
    go_wp2_with fail
    refine hck.out.mono ?_
    rintro e w1 ⟨rfl, hb3⟩
    rw [show checkOf (bs n).data.toList k 1 = 4 from hcode.out]
    have hb3 := below_trans hb2.out hb3
    have hb3 := Lib.hid hb3
    simp only [errV]
    go_wp2
    go_ret
    exact ⟨by rw [hr.out]; rfl, Keeps.of_below hb3.out, by rw [hr.out]; exact hB.below hb3.out⟩
  by_cases h2 : isKey k = true
  case neg =>
    have h2 : isKey k = false := by simpa using h2
    have hcode := Lib.hid (show checkOf (bs n).data.toList k 1 = 10 by unfold checkOf; rw [bs_list, if_neg (by rw [h1]; decide), if_pos h2])
    have hr := Lib.hid (show addOf L n k = (10, L) by unfold addOf; rw [if_neg (by rw [h1]; decide), if_pos h2])
    go_enter Tryz.func72, Tryz.ntmps72
    go_wp2_with fail
    refine hck.out.mono ?_
    rintro e w1 ⟨rfl, hb3⟩
    rw [show checkOf (bs n).data.toList k 1 = 10 from hcode.out]
    have hb3 := below_trans hb2.out hb3
    have hb3 := Lib.hid hb3
    simp only [errV]
    go_wp2
    go_ret
    exact ⟨by rw [hr.out]; rfl, Keeps.of_below hb3.out, by rw [hr.out]; exact hB.below hb3.out⟩
  have hcode := Lib.hid (show checkOf (bs n).data.toList k 1 = 0 by unfold checkOf; rw [bs_list, if_neg (by rw [h1]; decide), if_neg (by rw [h2]; decide), if_pos (by decide)])
  by_cases h4 : 20 ≤ L.length
  · have hr := Lib.hid (show addOf L n k = (7, L) by unfold addOf; rw [if_neg (by rw [h1]; decide), if_neg (by rw [h2]; decide), if_neg (by rw [hf]; decide), if_pos h4])
    go_enter Tryz.func72, Tryz.ntmps72
    go_wp2_with fail
    refine hck.out.mono ?_
    rintro e w1 ⟨rfl, hb3⟩
    rw [show checkOf (bs n).data.toList k 1 = 0 from hcode.out]
    have hb3 := below_trans hb2.out hb3
    have he := (hL.below hb3).e7
    have hc3 := (hB.below hb3).at0
    have hln := (hB.below hb3).run_len
    have hlen : ((20 : Int) ≤ L.length) := by omega
    unfold maxLen at hm
    have hb3 := Lib.hid hb3
    simp only [errV]
    go_wp2
    go_ret
    exact ⟨by rw [hr.out]; rfl, Keeps.of_below hb3.out, by rw [hr.out]; exact hB.below hb3.out⟩
  · have hr := Lib.hid (show addOf L n k = (0, insP ⟨n, k, 1, false⟩ L) by unfold addOf; rw [if_neg (by rw [h1]; decide), if_neg (by rw [h2]; decide), if_neg (by rw [hf]; decide), if_neg h4])
    go_enter Tryz.func72, Tryz.ntmps72
    go_wp2_with fail
    refine hck.out.mono ?_
    rintro e w1 ⟨rfl, hb3⟩
    rw [show checkOf (bs n).data.toList k 1 = 0 from hcode.out]
    have hw0 : w1.drew.cell? ⟨w.heap.size, 0, none⟩ = some (.string (bs n)) := cell_below hb3 (show ((w.alloc (.cells #[.string (bs n), .int .i64 k, .int .i64 1, .bool false] 46)).alloc (.cells #[.string ⟨#[]⟩, .int .i64 0, .int .i64 0, .bool false] 46)).cell? ⟨w.heap.size, 0, none⟩ = some (.string (bs n)) by simp)
    have hw1 : w1.drew.cell? ⟨w.heap.size, 1, none⟩ = some (.int .i64 k) := cell_below hb3 (show ((w.alloc (.cells #[.string (bs n), .int .i64 k, .int .i64 1, .bool false] 46)).alloc (.cells #[.string ⟨#[]⟩, .int .i64 0, .int .i64 0, .bool false] 46)).cell? ⟨w.heap.size, 1, none⟩ = some (.int .i64 k) by simp)
    have hw2 : w1.drew.cell? ⟨w.heap.size, 2, none⟩ = some (.int .i64 1) := cell_below hb3 (show ((w.alloc (.cells #[.string (bs n), .int .i64 k, .int .i64 1, .bool false] 46)).alloc (.cells #[.string ⟨#[]⟩, .int .i64 0, .int .i64 0, .bool false] 46)).cell? ⟨w.heap.size, 2, none⟩ = some (.int .i64 1) by simp)
    have hw3 : w1.drew.cell? ⟨w.heap.size, 3, none⟩ = some (.bool false) := cell_below hb3 (show ((w.alloc (.cells #[.string (bs n), .int .i64 k, .int .i64 1, .bool false] 46)).alloc (.cells #[.string ⟨#[]⟩, .int .i64 0, .int .i64 0, .bool false] 46)).cell? ⟨w.heap.size, 3, none⟩ = some (.bool false) by simp)
    have hb3 := below_trans hb2.out hb3
    have hc3 := (hB.below hb3).at0
    have hln := (hB.below hb3).run_len
    have hlen : ¬ ((20 : Int) ≤ L.length) := by omega
    unfold maxLen at hm
    obtain ⟨w2, hu, hk, hB2⟩ := (hB.below hb3.drew).update_none (q := ⟨n, k, 1, false⟩) hf
    have hc4 := (hB.below hb3.drew).at0
    simp only [Per.val] at hu
    have hfin := Lib.hid (show Keeps (· = r) w w2 ∧ BookAt w2 b r (insP ⟨n, k, 1, false⟩ L) from ⟨(Keeps.of_below hb3.drew).trans hk, hB2⟩)
    have hb3 := Lib.hid hb3
    clear hk hB2
    simp only [errV]
    go_wp2
    go_still_tail 6, (by kernel_rfl)
    try change wpStill _ _ (World.drew _) _ _ _
    try (repeat still_step)
    try refine wpStill_nil ?_
    change wpList _ _ _ _ _ (World.drew _)
    go_wp2
    go_ret
    exact ⟨by rw [hr.out]; rfl, hfin.out.1, by rw [hr.out]; exact hfin.out.2⟩
set_option maxRecDepth 100000 in
theorem add_any {E : Nat → Addr} (b r : Nat) (L : List Per) (n : List UInt8) (k : Int) (w : World) (hL : Laid E w) (hB : BookAt w b r L) (hn : n.length ≤ maxLen) (hm : L.length ≤ maxLen) :
    Calls Tryz.prog 72 #[.pointer (some ⟨b, 0, none⟩), .string (bs n), .int .i64 k] w fun e w' => e = .returned (errV E (addOf L n k).1) ∧ Keeps (· = r) w w' ∧ BookAt w' b r (addOf L n k).2 := by
  cases hf : findP L n with
  | some p => exact add_some b r L n k w hL hB hn hf
  | none => exact add_none b r L n k w hL hB hn hm hf
end Go.Proofs.YtkhphdkjnpcnnaaGreatDoor

/- The sorted keys of a map: slices.Sorted(maps.Keys(m)) for a map that is known as a list. -/
namespace Go.Proofs.YtkhphdkjnpcnnaaGreatDoor set_option linter.unusedVariables false set_option linter.unusedSimpArgs false
open Go.RowKit Go.MapKept Go.Maps Go.Sort Go.WideElems

def keyBytes : Value → List UInt8
  | .string s => s.data.toList
  | _ => []
/-- How an element is read where only the keys are asked for. -/
def readNone : Value → Option (DataW Unit × List MemPlace) := fun _ => some (.nil, [])
theorem insert_perm (x : Lit × DataW Unit) : ∀ l, (DataW.insert x l).Perm (x :: l)
  | [] => List.Perm.refl _
  | y :: r => by
    unfold DataW.insert
    split
    · exact List.Perm.refl _
    · exact ((insert_perm x r).cons y).trans (List.Perm.swap x y r)
theorem foldr_insert_perm : ∀ l : List (Lit × DataW Unit), (l.foldr DataW.insert []).Perm l
  | [] => List.Perm.refl _
  | x :: l => (insert_perm x _).trans ((foldr_insert_perm l).cons x)
theorem ownsMap_of {w : World} {r : Nat} {l : List (Value × Value)} (h : MapV .string w r l) (hk : ∀ p ∈ l, (keyBytes p.1).length ≤ maxLen) (hn : l.length ≤ maxLen) :
    ∃ D : DataW Unit, w.ownsMap Tryz.prog 9 readNone r l.length D ∧ Maps.size D = l.length ∧ (strKeys D).Perm (l.map fun p => keyBytes p.1) := by
  obtain ⟨es, clock, hb, hs, hkk, rfl⟩ := h
  have hsz : es.size = (es.toList.map fun e => (e.key, e.val)).length := by simp
  have hkey : ∀ x ∈ es.toList, keyOf Tryz.prog 9 x.key = some (.string (keyBytes x.key)) := by
    intro x hx
    have h1 := hkk x hx
    have h2 := hk (x.key, x.val) (List.mem_map.2 ⟨x, hx, rfl⟩)
    obtain ⟨k, v, b⟩ := x
    cases k <;> simp only [IsKey] at h1
    rename_i s
    exact WideMaps.keyOf_string_mk Tryz.underlying9 (by
      have h3 : s.data.toList.length ≤ maxLen := h2
      rwa [Array.length_toList] at h3)
  have hrd : ∀ x ∈ es.toList, WideElems.rd (H := Unit) Tryz.prog 9 readNone x = some (.string (keyBytes x.key), .nil) := by
    intro x hx
    unfold WideElems.rd
    rw [hkey x hx]
    rfl
  refine ⟨.map ((es.toList.map (WideElems.rg Tryz.prog 9 readNone)).foldr DataW.insert []), ⟨es, clock, hb, ⟨by rw [hsz]; exact hn, hs, fun x hx => ⟨_, hrd x hx⟩⟩, by rw [hsz]; exact Nat.le_refl _, rfl⟩, ?_, ?_⟩
  · show (List.foldr DataW.insert [] _).length = _
    rw [(foldr_insert_perm _).length_eq]
    simp
  · unfold strKeys
    refine ((foldr_insert_perm _).map _).trans ?_
    rw [List.map_map, List.map_map]
    refine List.Perm.of_eq (List.map_congr_left fun x hx => ?_)
    simp only [Function.comp, WideElems.rg, hrd x hx]
    rfl
end Go.Proofs.YtkhphdkjnpcnnaaGreatDoor

/- The sorted names of a book: slices.Sorted(maps.Keys(b.m)). -/
namespace Go.Proofs.YtkhphdkjnpcnnaaGreatDoor set_option linter.unusedVariables false set_option linter.unusedSimpArgs false
open Go.RowKit Go.Maps Go.Sort Go.Shelf

theorem sorts_names (m : Nat) : AnyZ.SortsIn Tryz.prog Tryz.sorted116_ren Fence.wide m :=
  ⟨fun blk off cap ss W hH hblk hsz => callsIn_wide.2 (AnyM.slices_Sort_string Tryz.sort157 blk off cap ss W hH hblk hsz),
   fun p cap W => callsIn_wide.2 (AnyM.slices_Sort_string_none Tryz.sort157 p cap W)⟩
theorem keys_call (mb : Option Nat) (W : World) : Calls Tryz.prog 117 #[.map mb] W fun e w' => e = .returned (.func (.func 158) #[] #[.pointer (some ⟨W.heap.size, 0, none⟩)]) ∧ w' = W.alloc (.cells #[.map mb] 132) :=
  (callsIn_wide (n := 5)).1 (AnyZ.keys_in Tryz.keys117 Fence.wide 5 trivial rfl mb W)
set_option maxHeartbeats 1000000 in
theorem sorted_call {H : Type} (b nn : Nat) (D0 : DataW H) (R : Value → Option (DataW H × List MemPlace)) (w : World) (hown : w.ownsMap Tryz.prog 9 R b nn D0) (hmax : Maps.size D0 ≤ maxLen) (hbytes : Maps.size D0 * 16 ≤ 140737488355328) :
    Calls Tryz.prog 116 #[.func (.func 158) #[] #[.pointer (some ⟨w.heap.size, 0, none⟩)]] (w.alloc (.cells #[.map (some b)] 132)) fun e w' => ∃ (v : Value) (ss : List (List UInt8)), e = .returned v ∧ ss.Perm (strKeys D0) ∧
      w'.ownsRow (w.alloc (.cells #[.map (some b)] 132)).heap.size 9 1 v ss.length ((ss.mergeSort (fun x y => decide (x ≤ y))).map encStr) ∧ (v = .slice none 0 0 ↔ ss = []) ∧ Below (w.alloc (.cells #[.map (some b)] 132)).heap.size (w.alloc (.cells #[.map (some b)] 132)) w' := by
  have hbl := hown.lt
  have hseq : SeqGives Fence.wide 2 Tryz.prog 158 #[.pointer (some ⟨w.heap.size, 0, none⟩)] encStr (fun ss => ss.Perm (strKeys D0)) (Maps.size D0) (w.alloc (.cells #[.map (some b)] 132)) :=
    AnyZ.keys_gives (ρ := Tryz.keys117_ren) { Tryz.keys117 with } Fence.wide _ trivial rfl (by omega) w.heap.size b nn D0 _ (by simp) (by simp) (by
      obtain ⟨es, clock, hb, Ft, hs, hD⟩ := hown
      exact ⟨es, clock, (Below.heap_alloc _ _ b hbl).trans hb, Ft, hs, hD⟩)
  exact (callsIn_wide (n := 5)).1 (AnyZ.sorted_in Tryz.sorted116 Fence.wide 5 trivial trivial trivial trivial rfl (by omega) (sorts_names _) (enters_of Tryz.func157 (by kernel_rfl) rfl) 158 #[.pointer (some ⟨w.heap.size, 0, none⟩)] trivial (enters_of Tryz.func158 (by kernel_rfl) rfl) _ _ hmax hbytes _ hseq)

theorem mergeSort_names {N ss : List (List UInt8)} (hs : N.Pairwise (· < ·)) (hp : ss.Perm N) : ss.mergeSort (fun x y => decide (x ≤ y)) = N := by
  have h1 : (ss.mergeSort (fun x y => decide (x ≤ y))).Perm N := (List.mergeSort_perm _ _).trans hp
  have h2 : (ss.mergeSort (fun x y => decide (x ≤ y))).Pairwise (fun x y => decide (x ≤ y) = true) := List.pairwise_mergeSort (fun a b c h h' => by simp at *; exact List.le_trans h h') (fun a b => by simpa using List.le_total a b) _
  have h3 : N.Pairwise (fun x y => decide (x ≤ y) = true) := hs.imp (fun {a b} h => by simpa using List.le_of_lt h)
  exact h1.eq_of_pairwise (fun a b _ _ h h' => List.le_antisymm (by simpa using h) (by simpa using h')) h2 h3
theorem textsAt_of_sorted {w : World} {base : Nat} {v : Value} {N : List (List UInt8)} (hN : N.length ≤ maxLen) (h : w.ownsRow base 9 1 v N.length (N.map encStr)) : TextsAt w v N := by
  obtain ⟨_, ⟨rfl, hn⟩ | ⟨g, cap, cur, rfl, _, hg, hc, _, hsz, htake⟩⟩ := h
  · exact ⟨none, 0, by rw [hn], hN, by omega, fun i hi => by omega⟩
  · refine ⟨_, _, rfl, hN, by omega, fun i hi => ⟨g, 0, rfl, ?_⟩⟩
    rw [cell_of_row w g (0 + i) _ _ _ hg]
    have h1 : (cur.toList.take (N.length * 1))[i]? = some (encStr N[i]) := by rw [htake, List.getElem?_map, List.getElem?_eq_getElem hi]; rfl
    rw [List.getElem?_take] at h1
    rw [if_pos (by omega)] at h1
    rw [Nat.zero_add]
    have h2 : cur[i]? = some (encStr N[i]) := by simpa using h1
    exact h2
theorem sorted_names (w : World) (b r : Nat) (L : List Per) (hB : BookAt w b r L) (hk : ∀ p ∈ L, p.name.length ≤ maxLen) (hm : L.length ≤ 20) :
    Calls Tryz.prog 116 #[.func (.func 158) #[] #[.pointer (some ⟨w.heap.size, 0, none⟩)]] (w.alloc (.cells #[.map (some r)] 132)) fun e w' => ∃ v, e = .returned v ∧ TextsAt w' v (L.map Per.name) ∧ Below w.heap.size w w' := by
  obtain ⟨l, hl, hp⟩ := hB.map
  have hlen : l.length = L.length := by simpa using hp.length_eq
  have hmx : L.length ≤ maxLen := by unfold maxLen; omega
  obtain ⟨D, h1, h2, h3⟩ := ownsMap_of hl (by
    intro x hx
    obtain ⟨p, hpL, rfl⟩ := List.mem_map.1 (hp.mem_iff.1 hx)
    exact hk p hpL) (by omega)
  refine (sorted_call r l.length D readNone w h1 (by omega) (by omega)).mono ?_
  rintro e w' ⟨v, ss, rfl, hss, hrow, _, hb⟩
  have hsp : ss.Perm (L.map Per.name) := by
    refine hss.trans (h3.trans ((hp.map _).trans (List.Perm.of_eq ?_)))
    rw [List.map_map]
    rfl
  rw [mergeSort_names (List.pairwise_map.2 hB.sorted) hsp, hsp.length_eq] at hrow
  exact ⟨v, rfl, textsAt_of_sorted (by rw [List.length_map]; exact hmx) hrow, below_trans ((Below.refl _ _).alloc (Nat.le_refl _) _) hb⟩
end Go.Proofs.YtkhphdkjnpcnnaaGreatDoor
