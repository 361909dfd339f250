/- Rows of floors of one's own in memory: no walk. -/
import Derived.Test.YtphjjaanclpagaaDoorFloW
import Derived.Test.YtphjjaanclpagaaDoorRowOwn
import Derived.Laws.IdiomCopy
namespace Go.Proofs.YtphjjaanclpagaaDoor
open Go.RowKit

def flatF : List Flo → List Value
  | [] => []
  | f :: L => f.cells ++ flatF L
theorem flatF_append : ∀ L M, flatF (L ++ M) = flatF L ++ flatF M
  | [], _ => rfl
  | p :: L, M => by simp only [List.cons_append, flatF, flatF_append L M, List.append_assoc]
theorem flatF_len : ∀ L : List Flo, (flatF L).length = L.length * 2
  | [] => rfl
  | p :: L => by simp [flatF, Flo.cells, flatF_len L]; omega
theorem flatF_get : ∀ (L : List Flo) (i : Nat) (h : i < L.length), (flatF L)[i * 2]? = some (.string (bs L[i].who)) ∧ (flatF L)[i * 2 + 1]? = some (.int .i64 L[i].ep)
  | p :: L, 0, _ => by simp [flatF, Flo.cells]
  | p :: L, i + 1, h => by
    have := flatF_get L i (by simpa using h)
    simp only [flatF, Flo.cells, List.getElem_cons_succ]
    rw [show (i + 1) * 2 = i * 2 + 2 by omega, show i * 2 + 2 + 1 = i * 2 + 1 + 2 by omega]
    simpa using this
theorem flatF_take : ∀ (L : List Flo) (k : Nat), flatF (L.take k) = (flatF L).take (k * 2)
  | [], _ => by simp [flatF]
  | p :: L, 0 => by simp [flatF]
  | p :: L, k + 1 => by
    rw [show (k + 1) * 2 = k * 2 + 2 by omega]
    simp [flatF, Flo.cells, flatF_take L k]
theorem flatF_drop : ∀ (L : List Flo) (k : Nat), flatF (L.drop k) = (flatF L).drop (k * 2)
  | [], _ => by simp [flatF]
  | p :: L, 0 => by simp [flatF]
  | p :: L, k + 1 => by
    rw [show (k + 1) * 2 = k * 2 + 2 by omega]
    simp [flatF, Flo.cells, flatF_drop L k]
theorem flatF_set : ∀ (L : List Flo) (k : Nat) (f : Flo), k < L.length → ((flatF L).set (k * 2) (.string (bs f.who))).set (k * 2 + 1) (.int .i64 f.ep) = flatF (L.set k f)
  | p :: L, 0, f, _ => by simp [flatF, Flo.cells]
  | p :: L, k + 1, f, h => by
    have h1 := flatF_set L k f (by simpa using h)
    rw [show (k + 1) * 2 + 1 = k * 2 + 1 + 2 by omega, show (k + 1) * 2 = k * 2 + 2 by omega]
    simp [flatF, Flo.cells, h1]
theorem flatF_one (L : List Flo) : ∀ u ∈ flatF L, u.oneCell' = true := by
  induction L with
  | nil => intro u hu; cases hu
  | cons p L ih =>
    intro u hu
    simp only [flatF, Flo.cells, List.cons_append, List.nil_append, List.mem_cons] at hu
    rcases hu with rfl | rfl | hu
    all_goals first | rfl | exact ih u hu
/-- A row of floors of one's own. -/
def FlRow (w : World) (base : Nat) (v : Value) (L : List Flo) : Prop := w.ownsRow base 39 2 v L.length (flatF L)
theorem FlRow.below {w w' : World} {base : Nat} {v : Value} {L : List Flo} (h : FlRow w base v L) (hb : Below w.heap.size w w') : FlRow w' base v L :=
  ownsRow_keeps h (Keeps.of_below hb) (fun _ _ h => h)
theorem FlRow.mono {w : World} {base base' : Nat} {v : Value} {L : List Flo} (h : FlRow w base v L) (hb : base' ≤ base) : FlRow w base' v L := ownsRow_mono h hb
/-- What a row of floors is: nil, or a block. -/
theorem FlRow.shape {w : World} {base : Nat} {v : Value} {L : List Flo} (h : FlRow w base v L) :
    (v = .slice none 0 0 ∧ L = []) ∨ ∃ g cap cur, v = .slice (some ⟨g, 0, none⟩) L.length cap ∧ base ≤ g ∧ w.heap[g]? = some (.cells cur 39 (0, 0)) ∧ L.length ≤ cap ∧ cap ≤ maxLen ∧ cur.size = cap * 2 ∧ cur.toList.take (L.length * 2) = flatF L := by
  obtain ⟨_, ⟨rfl, hn⟩ | h⟩ := h
  · exact .inl ⟨rfl, List.eq_nil_of_length_eq_zero hn⟩
  · exact .inr h
theorem FlRow.cells {w : World} {base g cap : Nat} {L : List Flo} (h : FlRow w base (.slice (some ⟨g, 0, none⟩) L.length cap) L) :
    ∀ i u, (flatF L)[i]? = some u → w.cell? ⟨g, i, none⟩ = some u := by
  rcases h.shape with ⟨h1, _⟩ | ⟨g', cap', cur, he, hb, hg, hc, hm, hsz, ht⟩
  · cases h1
  · cases he
    intro i u hu
    have hi : i < L.length * 2 := by
      have := (List.getElem?_eq_some_iff.1 hu).1
      rw [flatF_len] at this
      omega
    rw [cell_of_row w g i _ _ _ hg]
    rw [← ht, List.getElem?_take, if_pos hi] at hu
    simpa using hu
theorem FlRow.frozen {w : World} {base g cap : Nat} {L : List Flo} (h : FlRow w base (.slice (some ⟨g, 0, none⟩) L.length cap) L) (i : Nat) : w.frozen? ⟨g, i, none⟩ = false := by
  rcases h.shape with ⟨h1, _⟩ | ⟨g', cap', cur, he, hb, hg, hc, hm, hsz, ht⟩
  · cases h1
  · cases he
    exact frozen_of_row _ _ _ _ _ hg
theorem FlRow.at_ {w : World} {base : Nat} {v : Value} {L : List Flo} (h : FlRow w base v L) (hL : L.length ≤ maxLen) : FloorsAt w v L := by
  rcases h.shape with ⟨rfl, rfl⟩ | ⟨g, cap, cur, rfl, hb, hg, hc, hm, hsz, ht⟩
  · exact ⟨none, 0, rfl, Nat.zero_le _, Nat.zero_le _, fun i hi => by cases hi⟩
  · refine ⟨_, _, rfl, hL, hc, fun i hi => ⟨g, 0, rfl, ?_⟩⟩
    obtain ⟨h0, h1⟩ := flatF_get L i hi
    rw [Nat.zero_add]
    exact ⟨h.cells _ _ h0, h.cells _ _ h1⟩
/-- A floor written into a row. -/
theorem FlRow.set {w : World} {base g cap : Nat} {L : List Flo} (h : FlRow w base (.slice (some ⟨g, 0, none⟩) L.length cap) L) {k : Nat} (hk : k < L.length) (f : Flo) :
    FlRow ((w.setCell ⟨g, k * 2, none⟩ (.string (bs f.who))).setCell ⟨g, k * 2 + 1, none⟩ (.int .i64 f.ep)) base (.slice (some ⟨g, 0, none⟩) L.length cap) (L.set k f) := by
  have h1 := ownsRow_setCell (ownsRow_setCell h (k * 2) (.string (bs f.who))) (k * 2 + 1) (.int .i64 f.ep)
  rw [flatF_set L k f hk] at h1
  unfold FlRow
  rw [List.length_set]
  exact h1
/-- The first k of a row. -/
theorem FlRow.take {w : World} {base g cap : Nat} {L : List Flo} (h : FlRow w base (.slice (some ⟨g, 0, none⟩) L.length cap) L) {k : Nat} (hk : k ≤ L.length) :
    FlRow w base (.slice (some ⟨g, 0, none⟩) k cap) (L.take k) := by
  rcases h.shape with ⟨h1, _⟩ | ⟨g', cap', cur, he, hb, hg, hc, hm, hsz, ht⟩
  · cases h1
  · cases he
    have hl : (L.take k).length = k := by rw [List.length_take]; omega
    unfold FlRow
    rw [hl]
    refine ⟨by rw [flatF_len, hl], .inr ⟨g, cap, cur, rfl, hb, hg, by omega, hm, hsz, ?_⟩⟩
    rw [flatF_take, ← ht, List.take_take, Nat.min_eq_left (by omega)]
theorem keeps_of_floors {S : Nat → Prop} {w w' : World} {v : Value} {L : List Flo} (h : FloorsAt w v L) (hk : Keeps S w w') (hs : ∀ b, v.ownBlock = some b → ¬ S b) : FloorsAt w' v L := by
  obtain ⟨a, c, rfl, h2, h3, h4⟩ := h
  refine ⟨a, c, rfl, h2, h3, fun i hi => ?_⟩
  obtain ⟨b, o, rfl, h5, h6⟩ := h4 i hi
  have hb : ¬ S b := hs b rfl
  exact ⟨b, o, rfl, hk.cell h5 hb, hk.cell h6 hb⟩
end Go.Proofs.YtphjjaanclpagaaDoor
