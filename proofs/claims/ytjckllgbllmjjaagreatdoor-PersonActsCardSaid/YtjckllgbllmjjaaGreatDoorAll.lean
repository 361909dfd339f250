/- All of a book, walked: people by names. -/
import Derived.Test.YtjckllgbllmjjaaGreatDoorSorted
import Derived.Maps.AppendAt
import Derived.OwnWalk
namespace Go.Proofs.YtjckllgbllmjjaaGreatDoor
open Go.RowKit Go.Maps

/-- A slice of people, as a list. -/
def PersAt (w : World) (v : Value) (L : List Per) : Prop :=
  ∃ a c, v = .slice a L.length c ∧ L.length ≤ maxLen ∧ ∀ i (h : i < L.length), ∃ b o, a = some ⟨b, o, none⟩ ∧ w.cell? ⟨b, o + i * 4, none⟩ = some (.string (bs L[i].name)) ∧ w.cell? ⟨b, o + i * 4 + 1, none⟩ = some (.int .i64 L[i].key) ∧ w.cell? ⟨b, o + i * 4 + 2, none⟩ = some (.int .i64 L[i].epoch) ∧ w.cell? ⟨b, o + i * 4 + 3, none⟩ = some (.bool L[i].off)
theorem PersAt.keeps {S : Nat → Prop} {w w' : World} {v : Value} {L : List Per} (h : PersAt w v L) (hk : Keeps S w w') (hs : ∀ b, v.ownBlock = some b → ¬ S b) : PersAt w' v L := by
  obtain ⟨a, c, rfl, hm, hc⟩ := h
  refine ⟨a, c, rfl, hm, fun i hi => ?_⟩
  obtain ⟨b, o, rfl, h0, h1, h2, h3⟩ := hc i hi
  have hb : ¬ S b := hs b rfl
  exact ⟨b, o, rfl, hk.cell h0 hb, hk.cell h1 hb, hk.cell h2 hb, hk.cell h3 hb⟩
theorem PersAt.below {w w' : World} {v : Value} {L : List Per} (h : PersAt w v L) (hb : Below w.heap.size w w') : PersAt w' v L :=
  h.keeps (S := fun _ => False) (Keeps.of_below hb) (fun _ _ h => h)

def Per.cells (p : Per) : List Value := [.string (bs p.name), .int .i64 p.key, .int .i64 p.epoch, .bool p.off]
def flatP : List Per → List Value
  | [] => []
  | p :: L => p.cells ++ flatP L
theorem flatP_append : ∀ L M, flatP (L ++ M) = flatP L ++ flatP M
  | [], _ => rfl
  | p :: L, M => by simp only [List.cons_append, flatP, flatP_append L M, List.append_assoc]
theorem flatP_get : ∀ (L : List Per) (i : Nat) (h : i < L.length), (flatP L)[i * 4]? = some (.string (bs L[i].name)) ∧ (flatP L)[i * 4 + 1]? = some (.int .i64 L[i].key) ∧ (flatP L)[i * 4 + 2]? = some (.int .i64 L[i].epoch) ∧ (flatP L)[i * 4 + 3]? = some (.bool L[i].off)
  | p :: L, 0, _ => by simp [flatP, Per.cells]
  | p :: L, i + 1, h => by
    have := flatP_get L i (by simpa using h)
    simp only [flatP, Per.cells, List.getElem_cons_succ]
    rw [show (i + 1) * 4 = i * 4 + 4 by omega, show i * 4 + 4 + 1 = i * 4 + 1 + 4 by omega, show i * 4 + 4 + 2 = i * 4 + 2 + 4 by omega, show i * 4 + 4 + 3 = i * 4 + 3 + 4 by omega]
    simpa using this
theorem persAt_of_ownsRow {w : World} {base : Nat} {v : Value} {L : List Per} (hL : L.length ≤ maxLen) (h : w.ownsRow base 24 4 v L.length (flatP L)) : PersAt w v L ∧ ∀ b, v.ownBlock = some b → base ≤ b := by
  obtain ⟨_, ⟨rfl, hn⟩ | ⟨g, cap, cur, rfl, hbg, hg, hc, _, hsz, htake⟩⟩ := h
  · exact ⟨⟨none, 0, by rw [hn], hL, fun i hi => by omega⟩, fun b hb => by cases hb⟩
  · refine ⟨⟨_, _, rfl, hL, fun i hi => ⟨g, 0, rfl, ?_⟩⟩, fun b hb => by cases hb; exact hbg⟩
    have key : ∀ k u, k < L.length * 4 → (flatP L)[k]? = some u → w.cell? ⟨g, 0 + k, none⟩ = some u := by
      intro k u hk hu
      rw [cell_of_row w g (0 + k) _ _ _ hg, Nat.zero_add]
      rw [← htake, List.getElem?_take, if_pos hk] at hu
      simpa using hu
    obtain ⟨h0, h1, h2, h3⟩ := flatP_get L i hi
    refine ⟨key _ _ (by omega) h0, ?_, ?_, ?_⟩
    · have := key _ _ (by omega) h1; rwa [← Nat.add_assoc] at this
    · have := key _ _ (by omega) h2; rwa [← Nat.add_assoc] at this
    · have := key _ _ (by omega) h3; rwa [← Nat.add_assoc] at this

theorem info_person : (Tryz.prog.info? 24).map (fun i => (i.zero, i.size, i.bytes)) = some (some (.agg #[.string ⟨#[]⟩, .int .i64 0, .int .i64 0, .bool false]), 4, 40) := by kernel_rfl
set_option maxRecDepth 100000 in
theorem all_any (b r : Nat) (L : List Per) (w : World) (hB : BookAt w b r L) (hk : ∀ p ∈ L, p.name.length ≤ maxLen) (hm : L.length ≤ 20) :
    Calls Tryz.prog 22 #[.pointer (some ⟨b, 0, none⟩)] w fun e w' => ∃ v, e = .returned v ∧ PersAt w' v L ∧ (∀ x, v.ownBlock = some x → w.heap.size ≤ x) ∧ Below w.heap.size w w' := by
  obtain ⟨i0, hi, hz0, hz1, hz2⟩ := info_parts info_person
  have hc := hB.at0
  have hso := Lib.hid (sorted_names w b r L hB hk hm)
  go_enter Tryz.func22, Tryz.ntmps22
  go_wp2_with fail
  refine (keys_call _ _).mono ?_
  rintro e w1 ⟨rfl, rfl⟩
  go_wp2_with fail
  refine hso.out.mono ?_
  rintro e w2 ⟨vn, rfl, hN, hb2⟩
  have hb2 := Lib.hid hb2
  clear hc
  obtain ⟨a, c, rfl, hmx, _, hcell⟩ := hN
  rw [List.length_map] at *
  go_wp2_with fail
  go_loopw [3, 13] (fun v i wr => ∃ j : Nat, j ≤ L.length ∧ i = .int .i64 j ∧ wr.ownsRow w2.heap.size 24 4 v j (flatP (L.take j)) ∧ Below w2.heap.size w2 wr) (fun _ i _ => L.length - (intOf i).toNat)
  case atStart => exact ⟨0, Nat.zero_le _, rfl, World.ownsRow_nil _ _ _ _, Below.refl _ _⟩
  case round =>
    obtain ⟨j, hj, rfl, hown, hbr⟩ := hrel
    have hcn : ∀ h : j < L.length, ∃ bb o, a = some ⟨bb, o, none⟩ ∧ wr.cell? ⟨bb, o + j, none⟩ = some (.string (bs (L[j]).name)) := fun h => by
      obtain ⟨bb, o, h1, h2⟩ := hcell j (by rw [List.length_map]; exact h)
      exact ⟨bb, o, h1, by rw [List.getElem_map] at h2; exact cell_below hbr h2⟩
    by_cases hlt : j < L.length
    · obtain ⟨bb, o, rfl, hcn⟩ := hcn hlt
      have hBr := hB.below (below_trans hb2.out hbr)
      have hc := hBr.at0
      have hf := findP_of_mem hB.sorted (List.getElem_mem hlt)
      have hl := (hBr.lookup_some hf).2
      simp only [Per.val] at hl
      clear hBr hf
      go_wp2_with (first
        | (at_builtin; refine wpList_append_own_at _ rfl _ _ 35 rfl w2.heap.size 24 i0 (.agg #[.string ⟨#[]⟩, .int .i64 0, .int .i64 0, .bool false]) 4 40 Tryz.underlying35 hi hz0 hz1 hz2 rfl (by decide) _ _ _ rfl (hown.alloc _) ⟨wr.heap.size, 0, none⟩ 1 1 L[j].cells rfl rfl ?c1 ?c2 ?c3 ?c4 ?c5 ?_)
        | go_in)
      case c1 =>
        intro q u hq
        match q, hq with
        | 0, hq => simp [Per.cells] at hq; subst hq; simp [Addr.add]
        | 1, hq => simp [Per.cells] at hq; subst hq; simp [Addr.add]
        | 2, hq => simp [Per.cells] at hq; subst hq; simp [Addr.add]
        | 3, hq => simp [Per.cells] at hq; subst hq; simp [Addr.add]
      case c2 => intro u hu; simp [Per.cells] at hu; rcases hu with rfl | rfl | rfl | rfl <;> rfl
      case c3 => unfold maxLen; omega
      case c4 => omega
      case c5 => have := hbr.size; simp; omega
      · intro v' w3 hown' hgrow _ _
        have hb3 : Below w2.heap.size w2 w3 := (hbr.alloc hbr.size _).grown hgrow (by have := hbr.size; simp; omega) (fun k hk => (hown.lt k hk).1)
        have hown3 : w3.ownsRow w2.heap.size 24 4 v' (j + 1) (flatP (L.take (j + 1))) := by
          rw [List.take_succ_eq_append_getElem hlt, flatP_append]
          simpa [flatP] using hown'
        have hb3 := Lib.hid hb3
        have hown3 := Lib.hid hown3
        clear hown' hgrow hown hl hc hbr
        go_wp2
        refine ⟨⟨j + 1, hlt, by simp, hown3.out, hb3.out⟩, ?_⟩
        simp [intOf]
        omega
    · have hje : j = L.length := by omega
      subst hje
      rw [List.take_length] at hown
      obtain ⟨hP, hbase⟩ := persAt_of_ownsRow (by unfold maxLen; omega) hown
      have hfin := Lib.hid (below_trans hb2.out hbr)
      have hP := Lib.hid hP
      clear hown hcn
      go_wp2
      go_ret
      exact ⟨_, rfl, hP.out, fun x hx => Nat.le_trans hb2.out.size (hbase x hx), hfin.out⟩
end Go.Proofs.YtjckllgbllmjjaaGreatDoor
