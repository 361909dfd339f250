/- All, RowOwn, RefB0 -/
import Derived.Test.YtkhphdkjnpcnnaaGreatDoorMg6
import Derived.Maps.AppendAt
import Derived.OwnWalk
import Derived.Test.YtkhphdkjnpcnnaaGreatDoorMg5
import Derived.Laws.AppendOwnNone
/- All of a book, walked: people by names. -/
namespace Go.Proofs.YtkhphdkjnpcnnaaGreatDoor set_option linter.unusedVariables false set_option linter.unusedSimpArgs false
open Go.RowKit Go.Maps

/-- A slice of people, as a list. -/
def PersAt (w : World) (v : Value) (L : List Per) : Prop :=
  ∃ a c, v = .slice a L.length c ∧ L.length ≤ maxLen ∧ ∀ i (h : i < L.length), ∃ b o, a = some ⟨b, o, none⟩ ∧ w.cell? ⟨b, o + i * 4, none⟩ = some (.string (bs L[i].name)) ∧ w.cell? ⟨b, o + i * 4 + 1, none⟩ = some (.int .i64 L[i].key) ∧ w.cell? ⟨b, o + i * 4 + 2, none⟩ = some (.int .i64 L[i].epoch) ∧ w.cell? ⟨b, o + i * 4 + 3, none⟩ = some (.bool L[i].off)
theorem PersAt.keeps {S : Nat → Prop} {w w' : World} {v : Value} {L : List Per} (h : PersAt w v L) (hk : Keeps S w w') (hs : ∀ b, v.ownBlock = some b → ¬ S b) : PersAt w' v L := by
  obtain ⟨a, c, rfl, hm, hc⟩ := h
  refine ⟨a, c, rfl, hm, fun i hi => ?_⟩
  obtain ⟨b, o, rfl, h0, h1, h2, h3⟩ := hc i hi
  have hb : ¬ S b := hs b rfl
  exact ⟨b, o, rfl, hk.cell h0 hb, hk.cell h1 hb, hk.cell h2 hb, hk.cell h3 hb⟩
theorem PersAt.below {w w' : World} {v : Value} {L : List Per} (h : PersAt w v L) (hb : Below w.heap.size w w') : PersAt w' v L :=
  h.keeps (S := fun _ => False) (Keeps.of_below hb) (fun _ _ h => h)

def Per.cells (p : Per) : List Value := [.string (bs p.name), .int .i64 p.key, .int .i64 p.epoch, .bool p.off]
def flatP : List Per → List Value
  | [] => []
  | p :: L => p.cells ++ flatP L
theorem flatP_append : ∀ L M, flatP (L ++ M) = flatP L ++ flatP M
  | [], _ => rfl
  | p :: L, M => by simp only [List.cons_append, flatP, flatP_append L M, List.append_assoc]
theorem flatP_get : ∀ (L : List Per) (i : Nat) (h : i < L.length), (flatP L)[i * 4]? = some (.string (bs L[i].name)) ∧ (flatP L)[i * 4 + 1]? = some (.int .i64 L[i].key) ∧ (flatP L)[i * 4 + 2]? = some (.int .i64 L[i].epoch) ∧ (flatP L)[i * 4 + 3]? = some (.bool L[i].off)
  | p :: L, 0, _ => by simp [flatP, Per.cells]
  | p :: L, i + 1, h => by
    have := flatP_get L i (by simpa using h)
    simp only [flatP, Per.cells, List.getElem_cons_succ]
    rw [show (i + 1) * 4 = i * 4 + 4 by omega, show i * 4 + 4 + 1 = i * 4 + 1 + 4 by omega, show i * 4 + 4 + 2 = i * 4 + 2 + 4 by omega, show i * 4 + 4 + 3 = i * 4 + 3 + 4 by omega]
    simpa using this
theorem persAt_of_ownsRow {w : World} {base : Nat} {v : Value} {L : List Per} (hL : L.length ≤ maxLen) (h : w.ownsRow base 46 4 v L.length (flatP L)) : PersAt w v L ∧ ∀ b, v.ownBlock = some b → base ≤ b := by
  obtain ⟨_, ⟨rfl, hn⟩ | ⟨g, cap, cur, rfl, hbg, hg, hc, _, hsz, htake⟩⟩ := h
  · exact ⟨⟨none, 0, by rw [hn], hL, fun i hi => by omega⟩, fun b hb => by cases hb⟩
  · refine ⟨⟨_, _, rfl, hL, fun i hi => ⟨g, 0, rfl, ?_⟩⟩, fun b hb => by cases hb; exact hbg⟩
    have key : ∀ k u, k < L.length * 4 → (flatP L)[k]? = some u → w.cell? ⟨g, 0 + k, none⟩ = some u := by
      intro k u hk hu
      rw [cell_of_row w g (0 + k) _ _ _ hg, Nat.zero_add]
      rw [← htake, List.getElem?_take, if_pos hk] at hu
      simpa using hu
    obtain ⟨h0, h1, h2, h3⟩ := flatP_get L i hi
    refine ⟨key _ _ (by omega) h0, ?_, ?_, ?_⟩
    · have := key _ _ (by omega) h1; rwa [← Nat.add_assoc] at this
    · have := key _ _ (by omega) h2; rwa [← Nat.add_assoc] at this
    · have := key _ _ (by omega) h3; rwa [← Nat.add_assoc] at this

theorem info_person : (Tryz.prog.info? 46).map (fun i => (i.zero, i.size, i.bytes)) = some (some (.agg #[.string ⟨#[]⟩, .int .i64 0, .int .i64 0, .bool false]), 4, 40) := by kernel_rfl
set_option maxRecDepth 100000 in
theorem all_any (b r : Nat) (L : List Per) (w : World) (hB : BookAt w b r L) (hk : ∀ p ∈ L, p.name.length ≤ maxLen) (hm : L.length ≤ 20) :
    Calls Tryz.prog 70 #[.pointer (some ⟨b, 0, none⟩)] w fun e w' => ∃ v, e = .returned v ∧ PersAt w' v L ∧ (∀ x, v.ownBlock = some x → w.heap.size ≤ x) ∧ Below w.heap.size w w' := by
  obtain ⟨i0, hi, hz0, hz1, hz2⟩ := info_parts info_person
  have hc := hB.at0
  have hso := Lib.hid (sorted_names w b r L hB hk hm)
  go_enter Tryz.func70, Tryz.ntmps70
  go_wp2_with fail
  refine (keys_call _ _).mono ?_
  rintro e w1 ⟨rfl, rfl⟩
  go_wp2_with fail
  refine hso.out.mono ?_
  rintro e w2 ⟨vn, rfl, hN, hb2⟩
  have hb2 := Lib.hid hb2
  clear hc
  obtain ⟨a, c, rfl, hmx, _, hcell⟩ := hN
  rw [List.length_map] at *
  go_wp2_with fail
  go_loopw [3, 13] (fun v i wr => ∃ j : Nat, j ≤ L.length ∧ i = .int .i64 j ∧ wr.ownsRow w2.heap.size 46 4 v j (flatP (L.take j)) ∧ Below w2.heap.size w2 wr) (fun _ i _ => L.length - (intOf i).toNat)
  case atStart => exact ⟨0, Nat.zero_le _, rfl, World.ownsRow_nil _ _ _ _, Below.refl _ _⟩
  case round =>
    obtain ⟨j, hj, rfl, hown, hbr⟩ := hrel
    have hcn : ∀ h : j < L.length, ∃ bb o, a = some ⟨bb, o, none⟩ ∧ wr.cell? ⟨bb, o + j, none⟩ = some (.string (bs (L[j]).name)) := fun h => by
      obtain ⟨bb, o, h1, h2⟩ := hcell j (by rw [List.length_map]; exact h)
      exact ⟨bb, o, h1, by rw [List.getElem_map] at h2; exact cell_below hbr h2⟩
    by_cases hlt : j < L.length
    · obtain ⟨bb, o, rfl, hcn⟩ := hcn hlt
      have hBr := hB.below (below_trans hb2.out hbr)
      have hc := hBr.at0
      have hf := findP_of_mem hB.sorted (List.getElem_mem hlt)
      have hl := (hBr.lookup_some hf).2
      simp only [Per.val] at hl
      clear hBr hf
      go_wp2_with (first
        | (at_builtin; refine wpList_append_own_at _ rfl _ _ 47 rfl w2.heap.size 46 i0 (.agg #[.string ⟨#[]⟩, .int .i64 0, .int .i64 0, .bool false]) 4 40 Tryz.underlying47 hi hz0 hz1 hz2 rfl (by decide) _ _ _ rfl (hown.alloc _) ⟨wr.heap.size, 0, none⟩ 1 1 L[j].cells rfl rfl ?c1 ?c2 ?c3 ?c4 ?c5 ?_)
        | go_in)
      case c1 =>
        intro q u hq
        match q, hq with
        | 0, hq => simp [Per.cells] at hq; subst hq; simp [Addr.add]
        | 1, hq => simp [Per.cells] at hq; subst hq; simp [Addr.add]
        | 2, hq => simp [Per.cells] at hq; subst hq; simp [Addr.add]
        | 3, hq => simp [Per.cells] at hq; subst hq; simp [Addr.add]
      case c2 => intro u hu; simp [Per.cells] at hu; rcases hu with rfl | rfl | rfl | rfl <;> rfl
      case c3 => unfold maxLen; omega
      case c4 => omega
      case c5 => have := hbr.size; simp; omega
      · intro v' w3 hown' hgrow _ _
        have hb3 : Below w2.heap.size w2 w3 := (hbr.alloc hbr.size _).grown hgrow (by have := hbr.size; simp; omega) (fun k hk => (hown.lt k hk).1)
        have hown3 : w3.ownsRow w2.heap.size 46 4 v' (j + 1) (flatP (L.take (j + 1))) := by
          rw [List.take_succ_eq_append_getElem hlt, flatP_append]
          simpa [flatP] using hown'
        have hb3 := Lib.hid hb3
        have hown3 := Lib.hid hown3
        clear hown' hgrow hown hl hc hbr
        go_wp2
        refine ⟨⟨j + 1, hlt, by simp, hown3.out, hb3.out⟩, ?_⟩
        simp [intOf]
        omega
    · have hje : j = L.length := by omega
      subst hje
      rw [List.take_length] at hown
      obtain ⟨hP, hbase⟩ := persAt_of_ownsRow (by unfold maxLen; omega) hown
      have hfin := Lib.hid (below_trans hb2.out hbr)
      have hP := Lib.hid hP
      clear hown hcn
      go_wp2
      go_ret
      exact ⟨_, rfl, hP.out, fun x hx => Nat.le_trans hb2.out.size (hbase x hx), hfin.out⟩
end Go.Proofs.YtkhphdkjnpcnnaaGreatDoor

/- Rows of one's own in memory: stores into them, what keeps them; no program's function. -/
namespace Go.Proofs.YtkhphdkjnpcnnaaGreatDoor set_option linter.unusedVariables false set_option linter.unusedSimpArgs false
open Go.RowKit

/-- A store into a row of its own. -/
theorem ownsRow_setCell {w : World} {base g cap n size : Nat} {e : TypeId} {xs : List Value} (h : w.ownsRow base e size (.slice (some ⟨g, 0, none⟩) n cap) n xs) (i : Nat) (u : Value) :
    (w.setCell ⟨g, i, none⟩ u).ownsRow base e size (.slice (some ⟨g, 0, none⟩) n cap) n (xs.set i u) := by
  obtain ⟨hl, ⟨h1, _⟩ | ⟨g', cap', cur, he, hb, hg, hc, hm, hsz, ht⟩⟩ := h
  · cases h1
  · cases he
    refine ⟨by rw [List.length_set]; exact hl, .inr ⟨g, cap, cur.setIfInBounds i u, rfl, hb, heap_setCell_same w g i cur e u hg, hc, hm, by simpa using hsz, ?_⟩⟩
    rw [← ht]
    simp [List.take_set]
theorem ownsRow_other {w : World} {base n size : Nat} {e : TypeId} {v : Value} {xs : List Value} (h : w.ownsRow base e size v n xs) (a : Addr) (u : Value) (hne : ∀ g, v.ownBlock = some g → g ≠ a.block) :
    (w.setCell a u).ownsRow base e size v n xs := by
  obtain ⟨hl, h1 | ⟨g', cap', cur, he, hb, hg, hc, hm, hsz, ht⟩⟩ := h
  · exact ⟨hl, .inl h1⟩
  · subst he
    exact ⟨hl, .inr ⟨g', cap', cur, rfl, hb, (heap_setCell_other w a g' u (hne g' rfl)).trans hg, hc, hm, hsz, ht⟩⟩
theorem ownsRow_keeps {S : Nat → Prop} {w w' : World} {base n size : Nat} {e : TypeId} {v : Value} {xs : List Value} (h : w.ownsRow base e size v n xs) (hk : Keeps S w w') (hs : ∀ g, v.ownBlock = some g → ¬ S g) :
    w'.ownsRow base e size v n xs := by
  obtain ⟨hl, h1 | ⟨g', cap', cur, he, hb, hg, hc, hm, hsz, ht⟩⟩ := h
  · exact ⟨hl, .inl h1⟩
  · subst he
    exact ⟨hl, .inr ⟨g', cap', cur, rfl, hb, hk.obj hg (hs g' rfl), hc, hm, hsz, ht⟩⟩
/-- Of what type a row's block is. -/
theorem ownsRow_block {w : World} {base n size g : Nat} {e : TypeId} {v : Value} {xs : List Value} (h : w.ownsRow base e size v n xs) (hg : v.ownBlock = some g) : base ≤ g ∧ ∃ cs, w.heap[g]? = some (.cells cs e (0, 0)) := by
  obtain ⟨hl, ⟨rfl, _⟩ | ⟨g', cap', cur, rfl, hb, hg', hc, hm, hsz, ht⟩⟩ := h
  · cases hg
  · cases hg
    exact ⟨hb, cur, hg'⟩
theorem ownsRow_mono {w : World} {base base' : Nat} {e : TypeId} {size : Nat} {v : Value} {n : Nat} {xs : List Value} (h : w.ownsRow base e size v n xs) (hb : base' ≤ base) : w.ownsRow base' e size v n xs :=
  ⟨h.1, h.2.imp id fun ⟨g, cap, cur, h1, h2, h3⟩ => ⟨g, cap, cur, h1, Nat.le_trans hb h2, h3⟩⟩
theorem keeps_setCell {S : Nat → Prop} (w : World) (a : Addr) (u : Value) (ha : S a.block) : Keeps S w (w.setCell a u) :=
  let h := (Below.refl 0 w).setCell (p := a) (Nat.zero_le _) u
  ⟨h.os, h.tape, h.output, h.size, fun k _ hs => heap_setCell_other w a k u (fun e => hs (by rw [e]; exact ha))⟩
end Go.Proofs.YtkhphdkjnpcnnaaGreatDoor

/- The reference's book of people in memory: a row of structs of its own, written in place; no walk. -/
namespace Go.Proofs.YtkhphdkjnpcnnaaGreatDoor set_option linter.unusedVariables false set_option linter.unusedSimpArgs false
open Go.RowKit

/-- Where a name stands (-1: nowhere). -/
def idxP : List Per → List UInt8 → Option Nat
  | [], _ => none
  | p :: L, n => if p.name = n then some 0 else (idxP L n).map (· + 1)
def findIx (L : List Per) (n : List UInt8) : Int := match idxP L n with
  | some k => (k : Int)
  | none => -1
theorem idxP_some : ∀ {L : List Per} {n : List UInt8} {k : Nat}, idxP L n = some k → ∃ h : k < L.length, findP L n = some L[k] ∧ L[k].name = n
  | [], _, _, h => by cases h
  | p :: L, n, k, h => by
    unfold idxP at h
    split at h
    · rename_i hp
      cases h
      exact ⟨by simp, by simp [findP, hp], hp⟩
    · rename_i hp
      cases hi : idxP L n with
      | none => rw [hi] at h; cases h
      | some j =>
        rw [hi] at h
        cases h
        obtain ⟨h1, h2, h3⟩ := idxP_some hi
        refine ⟨by simp; omega, ?_, by simpa using h3⟩
        unfold findP at h2 ⊢
        rw [List.find?_cons_of_neg (by simpa using hp), h2]
        simp
theorem idxP_none : ∀ {L : List Per} {n : List UInt8}, idxP L n = none → findP L n = none ∧ ∀ p ∈ L, p.name ≠ n
  | [], _, _ => ⟨rfl, by simp⟩
  | p :: L, n, h => by
    unfold idxP at h
    split at h
    · cases h
    · rename_i hp
      have h1 : idxP L n = none := by simpa using h
      obtain ⟨h2, h3⟩ := idxP_none h1
      refine ⟨?_, fun q hq => ?_⟩
      · unfold findP at h2 ⊢
        rw [List.find?_cons_of_neg (by simpa using hp), h2]
      · rcases List.mem_cons.1 hq with rfl | hq
        · exact hp
        · exact h3 q hq
/-- None of the first j is it, the one at j is it. -/
theorem idxP_at : ∀ {L : List Per} {n : List UInt8} {j : Nat} (h : j < L.length), (∀ q (hq : q < L.length), q < j → L[q].name ≠ n) → L[j].name = n → idxP L n = some j
  | p :: L, n, 0, _, _, he => by
    unfold idxP
    rw [if_pos (by simpa using he)]
  | p :: L, n, j + 1, h, ha, he => by
    have h0 := ha 0 (by simp) (by omega)
    have := idxP_at (L := L) (n := n) (j := j) (by simpa using h) (fun q hq hqj => by
      have := ha (q + 1) (by simp; omega) (by omega)
      simpa using this) (by simpa using he)
    unfold idxP
    rw [if_neg (by simpa using h0), this]
    rfl
theorem idxP_not {n : List UInt8} : ∀ {L : List Per}, (∀ p ∈ L, p.name ≠ n) → idxP L n = none
  | [], _ => rfl
  | p :: L, h => by
    unfold idxP
    rw [if_neg (h p (by simp)), idxP_not (fun q hq => h q (by simp [hq]))]
    rfl
theorem setP_set {L : List Per} (hs : SortedP L) {k : Nat} (hk : k < L.length) (q : Per) (hn : q.name = L[k].name) : setP L q = L.set k q := by
  unfold setP
  apply List.ext_getElem?
  intro i
  rw [List.getElem?_map, List.getElem?_set]
  by_cases hki : k = i
  · subst hki
    rw [if_pos rfl, if_pos hk, List.getElem?_eq_getElem hk]
    simp [hn]
  · rw [if_neg hki]
    cases hi : L[i]? with
    | none => rfl
    | some x =>
      obtain ⟨hil, hix⟩ := List.getElem?_eq_some_iff.1 hi
      have hne : x.name ≠ q.name := by
        intro he
        have h1 : x = L[k] := sorted_name_inj hs x (by rw [← hix]; exact List.getElem_mem hil) L[k] (List.getElem_mem hk) (he.trans hn)
        rcases Nat.lt_or_gt_of_ne hki with h | h
        · have := List.pairwise_iff_getElem.1 hs k i hk hil h
          rw [hix, h1] at this
          exact List.lt_irrefl _ this
        · have := List.pairwise_iff_getElem.1 hs i k hil hk h
          rw [hix, h1] at this
          exact List.lt_irrefl _ this
      show some (if x.name = q.name then q else x) = some x
      rw [if_neg hne]
/-- Where a new one is set: behind all that are less. -/
def lessN (L : List Per) (n : List UInt8) : Nat := (L.takeWhile (fun q => decide (q.name < n))).length
theorem insP_take (p : Per) : ∀ L, insP p L = L.take (lessN L p.name) ++ p :: L.drop (lessN L p.name)
  | [] => rfl
  | q :: r => by
    unfold insP lessN
    by_cases h : q.name < p.name
    · rw [if_pos h, List.takeWhile_cons_of_pos (by simpa using h), insP_take p r]
      rfl
    · rw [if_neg h, List.takeWhile_cons_of_neg (by simpa using h)]
      rfl
theorem lessN_le (L : List Per) (n : List UInt8) : lessN L n ≤ L.length := (List.takeWhile_sublist _).length_le
theorem lessN_at {L : List Per} {n : List UInt8} {j : Nat} (hj : j ≤ L.length) (ha : ∀ q (hq : q < L.length), q < j → L[q].name < n) (he : ∀ h : j < L.length, ¬ L[j].name < n) : lessN L n = j := by
  unfold lessN
  induction L generalizing j with
  | nil => simp at hj; subst hj; rfl
  | cons p L ih =>
    cases j with
    | zero =>
      have := he (by simp)
      rw [List.takeWhile_cons_of_neg (by simpa using this)]
      rfl
    | succ j =>
      have h0 := ha 0 (by simp) (by omega)
      rw [List.takeWhile_cons_of_pos (by simpa using h0), List.length_cons, ih (j := j) (by simpa using hj) (fun q hq hqj => by
        have := ha (q + 1) (by simp; omega) (by omega)
        simpa using this) (fun h => by
        have := he (by simp; omega)
        simpa using this)]

theorem flatP_len : ∀ L : List Per, (flatP L).length = L.length * 4
  | [] => rfl
  | p :: L => by simp [flatP, Per.cells, flatP_len L]; omega
theorem flatP_take : ∀ (L : List Per) (k : Nat), flatP (L.take k) = (flatP L).take (k * 4)
  | [], _ => by simp [flatP]
  | p :: L, 0 => by simp [flatP]
  | p :: L, k + 1 => by
    rw [show (k + 1) * 4 = k * 4 + 4 by omega]
    simp [flatP, Per.cells, flatP_take L k]
theorem flatP_drop : ∀ (L : List Per) (k : Nat), flatP (L.drop k) = (flatP L).drop (k * 4)
  | [], _ => by simp [flatP]
  | p :: L, 0 => by simp [flatP]
  | p :: L, k + 1 => by
    rw [show (k + 1) * 4 = k * 4 + 4 by omega]
    simp [flatP, Per.cells, flatP_drop L k]
theorem flatP_set : ∀ (L : List Per) (k : Nat) (h : k < L.length),
    (∀ x, (flatP L).set (k * 4 + 1) (.int .i64 x) = flatP (L.set k { L[k] with key := x })) ∧
    (∀ x, (flatP L).set (k * 4 + 2) (.int .i64 x) = flatP (L.set k { L[k] with epoch := x })) ∧
    ∀ x, (flatP L).set (k * 4 + 3) (.bool x) = flatP (L.set k { L[k] with off := x })
  | p :: L, 0, _ => by simp [flatP, Per.cells]
  | p :: L, k + 1, h => by
    obtain ⟨h1, h2, h3⟩ := flatP_set L k (by simpa using h)
    rw [show (k + 1) * 4 + 1 = k * 4 + 1 + 4 by omega, show (k + 1) * 4 + 2 = k * 4 + 2 + 4 by omega, show (k + 1) * 4 + 3 = k * 4 + 3 + 4 by omega]
    refine ⟨fun x => ?_, fun x => ?_, fun x => ?_⟩
    · simp [flatP, Per.cells, h1]
    · simp [flatP, Per.cells, h2]
    · simp [flatP, Per.cells, h3]

/-- The reference's book at block b: a row of people of its own. -/
structure RefAt (w : World) (base b : Nat) (L : List Per) : Prop where
  ge : base ≤ b
  row : ∃ v, w.heap[b]? = some (.cells #[v] 49 (0, 0)) ∧ w.ownsRow base 46 4 v L.length (flatP L)
/-- The blocks that such a book may write. -/
def RefS (base : Nat) (w : World) (k : Nat) : Prop := base ≤ k ∧ ∃ cs T z, w.heap[k]? = some (.cells cs T z) ∧ (T = 49 ∨ T = 46)
theorem RefAt.keeps {S : Nat → Prop} {w w' : World} {base b : Nat} {L : List Per} (h : RefAt w base b L) (hk : Keeps S w w') (hs : ∀ k, RefS base w k → ¬ S k) : RefAt w' base b L := by
  obtain ⟨hge, v, hb, ho⟩ := h
  refine ⟨hge, v, hk.obj hb (hs b ⟨hge, _, _, _, hb, .inl rfl⟩), ownsRow_keeps ho hk fun g hg => ?_⟩
  obtain ⟨h1, cs, h2⟩ := ownsRow_block ho hg
  exact hs g ⟨h1, _, _, _, h2, .inr rfl⟩
theorem RefAt.below {w w' : World} {base b : Nat} {L : List Per} (h : RefAt w base b L) (hb : Below w.heap.size w w') : RefAt w' base b L :=
  h.keeps (S := fun _ => False) (Keeps.of_below hb) (fun _ _ h => h)
theorem RefAt.at0 {w : World} {base b : Nat} {L : List Per} (h : RefAt w base b L) : ∃ v, w.cell? ⟨b, 0, none⟩ = some v ∧ w.ownsRow base 46 4 v L.length (flatP L) ∧ w.frozen? ⟨b, 0, none⟩ = false ∧ ∀ g, v.ownBlock = some g → g ≠ b := by
  obtain ⟨hge, v, hb, ho⟩ := h
  refine ⟨v, by rw [cell_of_row w b 0 _ _ _ hb]; rfl, ho, frozen_of_row _ _ _ _ _ hb, fun g hg e => ?_⟩
  obtain ⟨h1, cs, h2⟩ := ownsRow_block ho hg
  subst e
  rw [hb] at h2
  injection h2 with h2
  injection h2 with _ h2 _
  exact absurd h2 (by decide)
theorem RefAt.lt {w : World} {base b : Nat} {L : List Per} (h : RefAt w base b L) : b < w.heap.size := by
  obtain ⟨_, v, hb, _⟩ := h
  exact (Array.getElem?_eq_some_iff.1 hb).1
theorem RefS.lt {w : World} {base k : Nat} (h : RefS base w k) : base ≤ k ∧ k < w.heap.size := by
  obtain ⟨h1, _, _, _, h2, _⟩ := h
  exact ⟨h1, (Array.getElem?_eq_some_iff.1 h2).1⟩
theorem RefAt.slice {w : World} {base b : Nat} {L : List Per} (h : RefAt w base b L) : ∃ a c, w.cell? ⟨b, 0, none⟩ = some (.slice a L.length c) ∧ (∀ i (h : i < L.length), ∃ g, a = some ⟨g, 0, none⟩) := by
  obtain ⟨v, h1, h2, _⟩ := h.at0
  obtain ⟨hl, ⟨rfl, h0⟩ | ⟨g, cap, cur, rfl, _⟩⟩ := h2
  · exact ⟨none, 0, by rw [h1, h0], fun i hi => by omega⟩
  · exact ⟨_, _, h1, fun i _ => ⟨g, rfl⟩⟩
/-- The book of the program is none of these blocks. -/
theorem BookAt.off_ref {w : World} {base b r : Nat} {L : List Per} (h : BookAt w b r L) : ¬ RefS base w b ∧ ¬ RefS base w r := by
  constructor
  · rintro ⟨_, cs, T, z, h1, h2⟩
    rw [h.cell] at h1
    injection h1 with h1
    injection h1 with _ h1 _
    subst h1
    revert h2
    decide
  · rintro ⟨_, cs, T, z, h1, _⟩
    obtain ⟨l, ⟨es, c, hb, _⟩, _⟩ := h.map
    rw [hb] at h1
    cases h1
end Go.Proofs.YtkhphdkjnpcnnaaGreatDoor
