/- RowOwn, SesM, Mark, RefW, RefW2 -/
import Derived.Test.YtlcomdbkkfbjiaaGreatDoorMg6
import Derived.Laws.AppendOwnNone
import Derived.Maps.AppendAt
import Derived.OwnWalk
import Derived.Test.YtlcomdbkkfbjiaaGreatDoorMg7
import Derived.Test.YtlcomdbkkfbjiaaGreatDoorProg
import Derived.WalkKit
import Derived.WalkSpells
import Derived.WalkLawsBesides
import Derived.Lib.Hide
import Derived.Deep.QuietTactic
import Derived.BigQuiet
import Derived.Test.YtlcomdbkkfbjiaaGreatDoorMg3
import Derived.Deep.LoopGhost
/- Rows of one's own in memory: stores into them, what keeps them; no program's function. -/
namespace Go.Proofs.YtlcomdbkkfbjiaaGreatDoor
open Go.RowKit

/-- A store into a row of its own. -/
theorem ownsRow_setCell {w : World} {base g cap n size : Nat} {e : TypeId} {xs : List Value} (h : w.ownsRow base e size (.slice (some ⟨g, 0, none⟩) n cap) n xs) (i : Nat) (u : Value) :
    (w.setCell ⟨g, i, none⟩ u).ownsRow base e size (.slice (some ⟨g, 0, none⟩) n cap) n (xs.set i u) := by
  obtain ⟨hl, ⟨h1, _⟩ | ⟨g', cap', cur, he, hb, hg, hc, hm, hsz, ht⟩⟩ := h
  · cases h1
  · cases he
    refine ⟨by rw [List.length_set]; exact hl, .inr ⟨g, cap, cur.setIfInBounds i u, rfl, hb, heap_setCell_same w g i cur e u hg, hc, hm, by simpa using hsz, ?_⟩⟩
    rw [← ht]
    simp [List.take_set]
theorem ownsRow_other {w : World} {base n size : Nat} {e : TypeId} {v : Value} {xs : List Value} (h : w.ownsRow base e size v n xs) (a : Addr) (u : Value) (hne : ∀ g, v.ownBlock = some g → g ≠ a.block) :
    (w.setCell a u).ownsRow base e size v n xs := by
  obtain ⟨hl, h1 | ⟨g', cap', cur, he, hb, hg, hc, hm, hsz, ht⟩⟩ := h
  · exact ⟨hl, .inl h1⟩
  · subst he
    exact ⟨hl, .inr ⟨g', cap', cur, rfl, hb, (heap_setCell_other w a g' u (hne g' rfl)).trans hg, hc, hm, hsz, ht⟩⟩
theorem ownsRow_keeps {S : Nat → Prop} {w w' : World} {base n size : Nat} {e : TypeId} {v : Value} {xs : List Value} (h : w.ownsRow base e size v n xs) (hk : Keeps S w w') (hs : ∀ g, v.ownBlock = some g → ¬ S g) :
    w'.ownsRow base e size v n xs := by
  obtain ⟨hl, h1 | ⟨g', cap', cur, he, hb, hg, hc, hm, hsz, ht⟩⟩ := h
  · exact ⟨hl, .inl h1⟩
  · subst he
    exact ⟨hl, .inr ⟨g', cap', cur, rfl, hb, hk.obj hg (hs g' rfl), hc, hm, hsz, ht⟩⟩
/-- Of what type a row's block is. -/
theorem ownsRow_block {w : World} {base n size g : Nat} {e : TypeId} {v : Value} {xs : List Value} (h : w.ownsRow base e size v n xs) (hg : v.ownBlock = some g) : base ≤ g ∧ ∃ cs, w.heap[g]? = some (.cells cs e (0, 0)) := by
  obtain ⟨hl, ⟨rfl, _⟩ | ⟨g', cap', cur, rfl, hb, hg', hc, hm, hsz, ht⟩⟩ := h
  · cases hg
  · cases hg
    exact ⟨hb, cur, hg'⟩
theorem ownsRow_mono {w : World} {base base' : Nat} {e : TypeId} {size : Nat} {v : Value} {n : Nat} {xs : List Value} (h : w.ownsRow base e size v n xs) (hb : base' ≤ base) : w.ownsRow base' e size v n xs :=
  ⟨h.1, h.2.imp id fun ⟨g, cap, cur, h1, h2, h3⟩ => ⟨g, cap, cur, h1, Nat.le_trans hb h2, h3⟩⟩
theorem keeps_setCell {S : Nat → Prop} (w : World) (a : Addr) (u : Value) (ha : S a.block) : Keeps S w (w.setCell a u) :=
  let h := (Below.refl 0 w).setCell (p := a) (Nat.zero_le _) u
  ⟨h.os, h.tape, h.output, h.size, fun k _ hs => heap_setCell_other w a k u (fun e => hs (by rw [e]; exact ha))⟩
end Go.Proofs.YtlcomdbkkfbjiaaGreatDoor

/- Sessions in memory: a look-up, a store, a deletion, the number. -/
namespace Go.Proofs.YtlcomdbkkfbjiaaGreatDoor
open Go.RowKit Go.MapKept

def sesPair (p : Ses) : Value × Value := (.int .i64 p.n, p.t.val)
def DeskS (w : World) (b r : Nat) (next : Int) (L : List Ses) : Prop :=
  w.heap[b]? = some (.cells #[.int .i64 next, .map (some r)] 66 (0, 0)) ∧ ∃ l : List Ses, MapV (.int .i64) w r (l.map sesPair) ∧ l.Perm L
theorem bs_inj2 {a c : List UInt8} (h : bs a = bs c) : a = c := by rw [← bs_list a, h, bs_list]
theorem sesPair_inj {p q : Ses} (h : sesPair p = sesPair q) : p = q := by
  obtain ⟨pn, p1, p2, p3, p4, p5, p6⟩ := p
  obtain ⟨qn, q1, q2, q3, q4, q5, q6⟩ := q
  simp only [sesPair, Tick.val, Prod.mk.injEq, Value.int.injEq, Value.agg.injEq, Array.mk.injEq, List.cons.injEq, Value.string.injEq, and_true, true_and] at h
  obtain ⟨h0, h1, h2, h3, h4, h5, h6⟩ := h
  have h1 := bs_inj2 h1
  have h2 := bs_inj2 h2
  subst h0 h1 h2 h3 h4 h5 h6
  rfl
theorem perm_map_back {f : Ses → Value × Value} {l1 : List (Value × Value)} {l : List Ses} (h : l1.Perm (l.map f)) : ∃ l3 : List Ses, l3.map f = l1 ∧ l3.Perm l := by
  induction l generalizing l1 with
  | nil => exact ⟨[], by simpa using h.eq_nil.symm, List.Perm.refl _⟩
  | cons a l ih =>
    have hm : f a ∈ l1 := h.mem_iff.2 (by simp)
    obtain ⟨u, v, rfl⟩ := List.append_of_mem hm
    have h1 : (u ++ v).Perm (l.map f) := ((List.perm_middle.symm.trans h)).cons_inv
    obtain ⟨l3, e, h3⟩ := ih h1
    obtain ⟨a3, b3, rfl, rfl, rfl⟩ := List.map_eq_append_iff.1 e
    exact ⟨a3 ++ a :: b3, by simp, List.perm_middle.trans (h3.cons a)⟩
section
variable {w w' : World} {b r : Nat} {next n0 : Int} {L : List Ses}
theorem DeskS.ne (h : DeskS w b r next L) : b ≠ r := by
  rintro rfl
  obtain ⟨h1, l, ⟨es, c, h2, _⟩, _⟩ := h
  rw [h1] at h2
  cases h2
theorem DeskS.at0 (h : DeskS w b r next L) : w.cell? ⟨b, 0, none⟩ = some (.int .i64 next) ∧ w.frozen? ⟨b, 0, none⟩ = false := ⟨by rw [cell_of_row _ _ _ _ _ _ h.1]; rfl, frozen_of_row _ _ _ _ _ h.1⟩
theorem DeskS.at1 (h : DeskS w b r next L) : w.cell? ⟨b, 1, none⟩ = some (.map (some r)) := by rw [cell_of_row _ _ _ _ _ _ h.1]; rfl
theorem DeskS.keeps {S : Nat → Prop} (h : DeskS w b r next L) (hk : Keeps S w w') (h1 : ¬ S b) (h2 : ¬ S r) : DeskS w' b r next L := by
  obtain ⟨hb, l, hm, hp⟩ := h
  exact ⟨hk.obj hb h1, l, hm.keeps hk h2, hp⟩
theorem DeskS.below (h : DeskS w b r next L) (hb : Below w.heap.size w w') : DeskS w' b r next L := h.keeps (S := fun _ => False) (Keeps.of_below hb) (fun h => h) (fun h => h)
theorem DeskS.lt (h : DeskS w b r next L) : b < w.heap.size ∧ r < w.heap.size := by
  obtain ⟨hb, l, hm, _⟩ := h
  exact ⟨(Array.getElem?_eq_some_iff.1 hb).1, hm.lt⟩
theorem DeskS.set0 (h : DeskS w b r next L) (n : Int) : DeskS (w.setCell ⟨b, 0, none⟩ (.int .i64 n)) b r n L := by
  have hne := h.ne
  obtain ⟨hb, l, hm, hp⟩ := h
  exact ⟨heap_setCell_same w b 0 _ _ _ hb, l, hm.keeps (keeps_setCell (S := (· = b)) _ _ _ rfl) (fun e => hne e.symm), hp⟩
theorem DeskS.lookup_some (h : DeskS w b r next L) {n : Int} {p : Ses} (hf : findS L n = some p) :
    (Instr.lookup 64 (.map (some r)) (.int .i64 n) true).run Tryz.prog w = .ok (.tuple #[p.t.val, .bool true]) w := by
  obtain ⟨hb, l, hm, hp⟩ := h
  obtain ⟨h1, h2⟩ := findS_some hf
  refine (run_lookup_mem (k := .int .i64 n) Tryz.underlying64 Tryz.underlying3 hm rfl (List.mem_map.2 ⟨p, hp.mem_iff.2 h1, ?_⟩)).1
  unfold sesPair
  rw [h2]
theorem not_mem_ses {l : List Ses} (hp : l.Perm L) {n : Int} (hf : findS L n = none) (v : Value) : (Value.int .i64 n, v) ∉ l.map sesPair := by
  intro hm
  obtain ⟨q, hq, he⟩ := List.mem_map.1 hm
  have h1 := congrArg Prod.fst he
  simp only [sesPair] at h1
  injection h1 with _ h1
  exact findS_none hf q (hp.mem_iff.1 hq) h1
theorem DeskS.lookup_none (h : DeskS w b r next L) {n : Int} (hf : findS L n = none) :
    (Instr.lookup 64 (.map (some r)) (.int .i64 n) true).run Tryz.prog w = .ok (.tuple #[noTick.val, .bool false]) w := by
  obtain ⟨hb, l, hm, hp⟩ := h
  exact run_lookup_not (k := .int .i64 n) Tryz.underlying64 Tryz.underlying3 hm rfl (not_mem_ses hp hf) (by kernel_rfl)
theorem DeskS.update (h : DeskS w b r next L) (hG : ∀ p ∈ L, p.n ≠ n0) (t : Tick) :
    ∃ w', (Instr.mapUpdate 64 (.map (some r)) (.int .i64 n0) t.val).run Tryz.prog w = .ok () w' ∧ Keeps (· = r) w w' ∧ DeskS w' b r next (L ++ [⟨n0, t⟩]) := by
  have hne := h.ne
  obtain ⟨hb, l, hm, hp⟩ := h
  obtain ⟨w', hu, hk, _, hm'⟩ := run_update_not (u := t.val) Tryz.underlying64 Tryz.underlying3 hm (k := .int .i64 n0) rfl (fun v hv => by
    obtain ⟨q, hq, he⟩ := List.mem_map.1 hv
    have h1 := congrArg Prod.fst he
    simp only [sesPair] at h1
    injection h1 with _ h1
    exact hG q (hp.mem_iff.1 hq) h1)
  refine ⟨w', hu, hk, hk.obj hb hne, l ++ [⟨n0, t⟩], ?_, hp.append_right _⟩
  rw [List.map_append]
  exact hm'
/-- What is sorted without one of its own. -/
theorem perm_without (hs : SortedS L) {p : Ses} (hp : p ∈ L) : L.Perm (p :: L.filter fun q => !(q.n == p.n)) := by
  induction L with
  | nil => cases hp
  | cons a L ih =>
    have hs' := List.pairwise_cons.1 hs
    rcases List.mem_cons.1 hp with rfl | hp
    · have h3 : L.filter (fun q => !(q.n == p.n)) = L := List.filter_eq_self.2 fun q hq => by
        have := hs'.1 q hq
        have : q.n ≠ p.n := by omega
        simpa using this
      rw [List.filter_cons_of_neg (by simp), h3]
    · have := hs'.1 p hp
      have h3 : a.n ≠ p.n := by omega
      rw [List.filter_cons_of_pos (by simpa using h3)]
      exact ((ih hs'.2 hp).cons a).trans (List.Perm.swap p a _)
theorem DeskS.delete (h : DeskS w b r next L) (hs : SortedS L) {p : Ses} (hp : p ∈ L) :
    ∃ w', (∀ ty, (Builtin.delete_ #[64, 3] ty #[.map (some r), .int .i64 p.n]).run Tryz.prog w = .ok (.tuple #[]) w') ∧ Keeps (· = r) w w' ∧ DeskS w' b r next (L.filter fun q => !(q.n == p.n)) := by
  have hne := h.ne
  obtain ⟨hb, l, hm, hpm⟩ := h
  obtain ⟨w', hu, hk, _, l', hl, hm'⟩ := run_delete_mem (k := .int .i64 p.n) (v := p.t.val) Tryz.underlying64 Tryz.underlying3 hm rfl (List.mem_map.2 ⟨p, hpm.mem_iff.2 hp, rfl⟩)
  refine ⟨w', hu, hk, hk.obj hb hne, ?_⟩
  obtain ⟨l2, e2, h2⟩ : ∃ l2 : List Ses, l2.map sesPair = l' ∧ (p :: l2).Perm l := by
    have h5 : (sesPair p :: l').Perm (l.map sesPair) := hl.symm
    obtain ⟨l3, h6, h7⟩ := perm_map_back h5
    match l3, h6 with
    | q :: l4, h6 =>
      rw [List.map_cons] at h6
      injection h6 with h8 h9
      rw [sesPair_inj h8] at h7
      exact ⟨l4, h9, h7⟩
  refine ⟨l2, by rw [e2]; exact hm', ?_⟩
  exact ((h2.trans hpm).trans (perm_without hs hp)).cons_inv
theorem DeskS.len (h : DeskS w b r next L) : ∃ es c, w.heap[r]? = some (.map es c) ∧ es.size = L.length := by
  obtain ⟨_, l, ⟨es, c, hb, _, _, hl⟩, hp⟩ := h
  refine ⟨es, c, hb, ?_⟩
  have h1 := hp.length_eq
  have h2 := congrArg List.length hl
  simp at h1 h2
  omega
theorem DeskS.run_len (h : DeskS w b r next L) :
    (Builtin.len_ #[64] 3 #[.map (some r)]).run Tryz.prog w = .ok (.int .i64 L.length) w := by
  obtain ⟨es, c, h1, h2⟩ := h.len
  rw [← h2]
  simp [Builtin.len_, MapKept.run_getObj_map h1, run_underlying Tryz.underlying64, Result.andThen, go_sem]
end
end Go.Proofs.YtlcomdbkkfbjiaaGreatDoor

/- The walks of package mark and of the reference's marks: each function computes what XPlain's functions say. -/
namespace Go.Proofs.YtlcomdbkkfbjiaaGreatDoor
open Go.RowKit

theorem drop_byte (s : ByteArray) (d : Nat) (h : d < s.size) : s.data.toList.drop d = byteAt s d :: s.data.toList.drop (d + 1) := by
  have h' : d < s.data.size := h
  rw [List.drop_eq_getElem_cons (by simpa using h), byteAt_eq s d h]; rfl
theorem drop_all (s : ByteArray) : s.data.toList.drop s.size = [] := List.drop_eq_nil_of_le (by simp)
theorem mul_bd (a b : Int) (h0 : 0 ≤ a) (h1 : a < 1000000007) (h2 : 0 ≤ b) (h3 : b < 1000000007) : 0 ≤ a * b ∧ a * b ≤ 1000000012000000036 :=
  ⟨Int.mul_nonneg h0 h2, by have := Int.mul_le_mul (show a ≤ 1000000006 by omega) (show b ≤ 1000000006 by omega) h2 (by omega); omega⟩
end Go.Proofs.YtlcomdbkkfbjiaaGreatDoor

/- The walks of the reference's texts: digits, names, words, numbers, cut, glue. -/
namespace Go.Proofs.YtlcomdbkkfbjiaaGreatDoor
open Go.RowKit Go.Maps

theorem str_cat (a b : List UInt8) : bs a ++ bs b = bs (a ++ b) := by
  apply ByteArray.ext
  simp [bs]
theorem ret_string {a b : ByteArray} (h : a = b) : Ending.returned (.string a) = .returned (.string b) := by rw [h]
theorem digit_byte (n : Int) (h0 : 48 ≤ n) (h1 : n ≤ 57) : ((UInt8.ofNat n.toNat).toNat : Int) = n := by
  simp
  omega
theorem neg_tdiv (u : Nat) : (-(u : Int)).tdiv 10 = -((u / 10 : Nat) : Int) := by
  rw [Int.neg_tdiv]
  rfl
theorem neg_tmod (u : Nat) : (-(u : Int)).tmod 10 = -((u % 10 : Nat) : Int) := by
  rw [Int.neg_tmod]
  rfl
theorem dec_len {u : Nat} (h : u ≤ 9223372036854775807) : (Lib.decDigits u).length ≤ 19 :=
  decDigits_len 18 u (by have : (10 : Nat) ^ (18 + 1) = 10000000000000000000 := by decide
                         omega)
theorem ret_bool2 {a b : Bool} (h : a = b) : Ending.returned (.bool a) = .returned (.bool b) := by rw [h]
set_option maxRecDepth 100000 in
theorem small_any (c : UInt8) (w : World) :
    Calls Tryz.prog 75 #[.int .u8 (c.toNat : Int)] w fun e w' => e = .returned (.bool (smallB c)) ∧ w = w' := by
  have hr := Lib.hid (show smallB c = ((decide (97 ≤ c.toNat) && decide (c.toNat ≤ 122)) || (decide (48 ≤ c.toNat) && decide (c.toNat ≤ 57))) by
    unfold smallB
    simp only [UInt8.le_iff_toNat_le]
    rfl)
  have hc := UInt8.toNat_lt c
  generalize c.toNat = n at *
  by_cases h1 : 97 ≤ n <;> by_cases h2 : n ≤ 122 <;> by_cases h3 : 48 ≤ n <;> by_cases h4 : n ≤ 57
  all_goals first | (exfalso; omega) | skip
  all_goals
    go_enter Tryz.func75, Tryz.ntmps75
    go_wp2_with fail
    go_ret
    exact ⟨ret_bool2 (by rw [hr.out]; simp [h1, h2, h3, h4]; try omega), rfl⟩
end Go.Proofs.YtlcomdbkkfbjiaaGreatDoor

/- The walks of the reference's texts: names, words, numbers, cut, glue. -/
namespace Go.Proofs.YtlcomdbkkfbjiaaGreatDoor
open Go.RowKit Go.Maps

theorem all_bytes {p : UInt8 → Bool} {s : ByteArray} (h : ∀ q, q < s.size → p (byteAt s q) = true) : ∀ c ∈ s.data.toList, p c = true := by
  intro c hc
  obtain ⟨i, hi, rfl⟩ := List.getElem_of_mem hc
  have := h i (by simpa using hi)
  unfold byteAt at this
  rwa [List.getD_eq_getElem?_getD, List.getElem?_eq_getElem hi] at this
theorem byte_mem {s : ByteArray} {j : Nat} (h : j < s.size) : byteAt s j ∈ s.data.toList := by
  unfold byteAt
  have hi : j < s.data.toList.length := by simpa using h
  rw [List.getD_eq_getElem?_getD, List.getElem?_eq_getElem hi]
  exact List.getElem_mem hi
set_option maxRecDepth 100000 in
theorem isNameR_any (s : ByteArray) (w : World) (hs : s.size ≤ maxLen) :
    Calls Tryz.prog 53 #[.string s] w fun e w' => e = .returned (.bool (isName s.data.toList)) ∧ w = w' := by
  unfold maxLen at hs
  have hlen : s.data.toList.length = s.size := Array.length_toList
  go_enter Tryz.func53, Tryz.ntmps53
  go_wp2_with fail
  go_loop [3] (fun i => ∃ j : Nat, j ≤ s.size ∧ i = .int .i64 j ∧ Hid (∀ q, q < j → smallB (byteAt s q) = true)) (fun i => s.size - (intOf i).toNat)
  case atStart => exact ⟨0, Nat.zero_le _, rfl, Lib.hid (fun _ h => absurd h (Nat.not_lt_zero _))⟩
  case round =>
    obtain ⟨j, hj, rfl, hall⟩ := hrel
    by_cases hlt : j < s.size
    · have hsm := Lib.hid (fun wx => small_any s[j] wx)
      cases hb : smallB (byteAt s j) with
      | false =>
        rw [← byteAt_eq s j hlt, hb, byteAt_eq s j hlt] at hsm
        have hr := Lib.hid (show isName s.data.toList = false by
          cases hn : isName s.data.toList with
          | false => rfl
          | true =>
            have := ((isName_iff _).1 hn).2.2 _ (byte_mem hlt)
            rw [hb] at this
            cases this)
        clear hb
        go_wp2_with (go_at_call 75; refine (hsm.out _).mono ?_; rintro e w' ⟨rfl, rfl⟩)
        go_ret
        exact ⟨ret_bool2 hr.out.symm, rfl⟩
      | true =>
        rw [← byteAt_eq s j hlt, hb, byteAt_eq s j hlt] at hsm
        have hall2 := Lib.hid (show ∀ q, q < j + 1 → smallB (byteAt s q) = true from fun q hq => by
          rcases Nat.lt_succ_iff_lt_or_eq.1 hq with h' | rfl
          · exact hall.out q h'
          · exact hb)
        clear hb
        go_wp2_with (go_at_call 75; refine (hsm.out _).mono ?_; rintro e w' ⟨rfl, rfl⟩)
        go_round
        case rel => exact ⟨j + 1, hlt, by go_num, hall2⟩
        case measure => simp [intOf]; omega
    · have hr := Lib.hid (show isName s.data.toList = (decide (1 ≤ s.size) && decide (s.size ≤ 8)) by
        have h1 : s.data.toList.all smallB = true := List.all_eq_true.2 (all_bytes fun q hq => hall.out q (by omega))
        unfold isName
        rw [h1, hlen, Bool.and_true])
      clear hlen
      by_cases h1 : 1 ≤ s.size <;> by_cases h8 : s.size ≤ 8
      all_goals first | (exfalso; omega) | skip
      all_goals
        go_wp2_with fail
        go_ret
        exact ⟨ret_bool2 (by rw [hr.out]; simp [h1, h8]; try omega), rfl⟩
/-- What the reference's NumberOf answers (-1: none). -/
def numR (l : List UInt8) (most : Int) : Int := match numOf l with
  | some n => if (n : Int) ≤ most then (n : Int) else -1
  | none => -1
theorem numR_number (l : List UInt8) (most : Int) : numR l most = if (number l most).2 = true then (number l most).1 else -1 := by
  unfold numR number
  cases numOf l with
  | none => rfl
  | some n =>
    by_cases h : (n : Int) ≤ most <;> simp [h]
theorem numR_none {l : List UInt8} {most : Int} (h : goodNum l = false ∨ 10 < l.length) : numR l most = -1 := by
  unfold numR numOf
  rw [if_neg]
  simp only [Bool.and_eq_true, decide_eq_true_eq]
  rintro ⟨h1, h2⟩
  rcases h with h | h
  · rw [h1] at h; cases h
  · omega
theorem numR_some {l : List UInt8} {most : Int} (h : goodNum l = true) (h2 : l.length ≤ 10) : numR l most = if (decVal l : Int) ≤ most then (decVal l : Int) else -1 := by
  unfold numR numOf
  rw [if_pos (by simp [h, h2])]
theorem head_byte (s : ByteArray) (h : 0 < s.size) : s.data.toList.head? = some (byteAt s 0) := by
  have hi : 0 < s.data.toList.length := by simpa using h
  unfold byteAt
  rw [List.head?_eq_getElem?, List.getD_eq_getElem?_getD, List.getElem?_eq_getElem hi]
  rfl
theorem int_eq2 {k : IntKind} {a b : Int} (h : a = b) : Value.int k a = .int k b := by rw [h]
end Go.Proofs.YtlcomdbkkfbjiaaGreatDoor
