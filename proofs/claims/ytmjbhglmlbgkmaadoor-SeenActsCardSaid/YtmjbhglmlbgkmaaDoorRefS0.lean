/- The reference's book of what was seen, in memory: a row of structs of its own; no walk. -/
import Derived.Test.YtmjbhglmlbgkmaaDoorSeenR
import Derived.Test.YtmjbhglmlbgkmaaDoorRefW2
import Derived.Maps.AppendAt
import Derived.OwnWalk
namespace Go.Proofs.YtmjbhglmlbgkmaaDoor
open Go.RowKit

def Wd.cells (p : Wd) : List Value := [.string (bs p.s), .int .i64 p.t]
def flatW : List Wd → List Value
  | [] => []
  | p :: L => p.cells ++ flatW L
theorem flatW_append : ∀ L M, flatW (L ++ M) = flatW L ++ flatW M
  | [], _ => rfl
  | p :: L, M => by simp only [List.cons_append, flatW, flatW_append L M, List.append_assoc]
theorem flatW_len : ∀ L : List Wd, (flatW L).length = L.length * 2
  | [] => rfl
  | p :: L => by simp [flatW, Wd.cells, flatW_len L]; omega
theorem flatW_take : ∀ (L : List Wd) (k : Nat), flatW (L.take k) = (flatW L).take (k * 2)
  | [], _ => by simp [flatW]
  | p :: L, 0 => by simp [flatW]
  | p :: L, k + 1 => by
    rw [show (k + 1) * 2 = k * 2 + 2 by omega]
    simp [flatW, Wd.cells, flatW_take L k]
theorem flatW_drop : ∀ (L : List Wd) (k : Nat), flatW (L.drop k) = (flatW L).drop (k * 2)
  | [], _ => by simp [flatW]
  | p :: L, 0 => by simp [flatW]
  | p :: L, k + 1 => by
    rw [show (k + 1) * 2 = k * 2 + 2 by omega]
    simp [flatW, Wd.cells, flatW_drop L k]
theorem flatW_get : ∀ (L : List Wd) (i : Nat) (h : i < L.length), (flatW L)[i * 2]? = some (.string (bs L[i].s)) ∧ (flatW L)[i * 2 + 1]? = some (.int .i64 L[i].t)
  | p :: L, 0, _ => by simp [flatW, Wd.cells]
  | p :: L, i + 1, h => by
    have := flatW_get L i (by simpa using h)
    simp only [flatW, Wd.cells, List.getElem_cons_succ]
    rw [show (i + 1) * 2 = i * 2 + 2 by omega, show i * 2 + 2 + 1 = i * 2 + 1 + 2 by omega]
    simpa using this
theorem flatW_one (L : List Wd) : ∀ u ∈ flatW L, u.oneCell' = true := by
  induction L with
  | nil => intro u hu; cases hu
  | cons p L ih =>
    intro u hu
    simp only [flatW, Wd.cells, List.cons_append, List.nil_append, List.mem_cons] at hu
    rcases hu with rfl | rfl | hu
    all_goals first | rfl | exact ih u hu
/-- Where a new one is set: behind all that are less. -/
def lessW (L : List Wd) (n : List UInt8) : Nat := (L.takeWhile (fun q => decide (q.s < n))).length
theorem insW_take (p : Wd) : ∀ L, insW p L = L.take (lessW L p.s) ++ p :: L.drop (lessW L p.s)
  | [] => rfl
  | q :: r => by
    unfold insW lessW
    by_cases h : q.s < p.s
    · rw [if_pos h, List.takeWhile_cons_of_pos (by simpa using h), insW_take p r]
      rfl
    · rw [if_neg h, List.takeWhile_cons_of_neg (by simpa using h)]
      rfl
theorem lessW_le (L : List Wd) (n : List UInt8) : lessW L n ≤ L.length := (List.takeWhile_sublist _).length_le
theorem lessW_at {L : List Wd} {n : List UInt8} {j : Nat} (hj : j ≤ L.length) (ha : ∀ q (hq : q < L.length), q < j → L[q].s < n) (he : ∀ h : j < L.length, ¬ L[j].s < n) : lessW L n = j := by
  unfold lessW
  induction L generalizing j with
  | nil => simp at hj; subst hj; rfl
  | cons p L ih =>
    cases j with
    | zero =>
      have := he (by simp)
      rw [List.takeWhile_cons_of_neg (by simpa using this)]
      rfl
    | succ j =>
      have h0 := ha 0 (by simp) (by omega)
      rw [List.takeWhile_cons_of_pos (by simpa using h0), List.length_cons, ih (j := j) (by simpa using hj) (fun q hq hqj => by
        have := ha (q + 1) (by simp; omega) (by omega)
        simpa using this) (fun h => by
        have := he (by simp; omega)
        simpa using this)]
theorem insW_len (p : Wd) (L : List Wd) : (insW p L).length = L.length + 1 := by rw [(insW_perm p L).length_eq]; rfl
/-- A slice of words with their times, as a list. -/
def WdsAt (w : World) (v : Value) (L : List Wd) : Prop :=
  ∃ a c, v = .slice a L.length c ∧ L.length ≤ maxLen ∧ ∀ i (h : i < L.length), ∃ b o, a = some ⟨b, o, none⟩ ∧ w.cell? ⟨b, o + i * 2, none⟩ = some (.string (bs L[i].s)) ∧ w.cell? ⟨b, o + i * 2 + 1, none⟩ = some (.int .i64 L[i].t)
theorem WdsAt.below {w w' : World} {v : Value} {L : List Wd} (h : WdsAt w v L) (hb : Below w.heap.size w w') : WdsAt w' v L := by
  obtain ⟨a, c, rfl, hm, hc⟩ := h
  refine ⟨a, c, rfl, hm, fun i hi => ?_⟩
  obtain ⟨b, o, rfl, h0, h1⟩ := hc i hi
  exact ⟨b, o, rfl, cell_below hb h0, cell_below hb h1⟩
theorem wdsAt_of_row {w : World} {base : Nat} {v : Value} {L : List Wd} (hL : L.length ≤ maxLen) (h : w.ownsRow base 119 2 v L.length (flatW L)) : WdsAt w v L := by
  obtain ⟨_, ⟨rfl, hn⟩ | ⟨g, cap, cur, rfl, hbg, hg, hc, _, hsz, htake⟩⟩ := h
  · exact ⟨none, 0, by rw [hn], hL, fun i hi => by omega⟩
  · refine ⟨_, _, rfl, hL, fun i hi => ⟨g, 0, rfl, ?_⟩⟩
    have key : ∀ k u, k < L.length * 2 → (flatW L)[k]? = some u → w.cell? ⟨g, 0 + k, none⟩ = some u := by
      intro k u hk hu
      rw [cell_of_row w g (0 + k) _ _ _ hg, Nat.zero_add]
      rw [← htake, List.getElem?_take, if_pos hk] at hu
      simpa using hu
    obtain ⟨h0, h1⟩ := flatW_get L i hi
    refine ⟨key _ _ (by omega) h0, ?_⟩
    have := key _ _ (by omega) h1
    rwa [← Nat.add_assoc] at this
theorem info_wd : (Tryd.prog.info? 119).map (fun i => (i.zero, i.size, i.bytes)) = some (some (.agg #[.string ⟨#[]⟩, .int .i64 0]), 2, 24) := by kernel_rfl
/-- What the reference saw, at block b: how long, a row of words of its own. -/
structure SRef (w : World) (base b : Nat) (long : Int) (L : List Wd) : Prop where
  ge : base ≤ b
  row : ∃ v, w.heap[b]? = some (.cells #[.int .i64 long, v] 78 (0, 0)) ∧ w.ownsRow base 119 2 v L.length (flatW L)
/-- The blocks that it may write. -/
def SRefS (base : Nat) (w : World) (k : Nat) : Prop := base ≤ k ∧ ∃ cs T z, w.heap[k]? = some (.cells cs T z) ∧ (T = 78 ∨ T = 119)
theorem SRef.keeps {S : Nat → Prop} {w w' : World} {base b : Nat} {long : Int} {L : List Wd} (h : SRef w base b long L) (hk : Keeps S w w') (hs : ∀ k, SRefS base w k → ¬ S k) : SRef w' base b long L := by
  obtain ⟨hge, v, hb, ho⟩ := h
  refine ⟨hge, v, hk.obj hb (hs b ⟨hge, _, _, _, hb, .inl rfl⟩), ownsRow_keeps ho hk fun g hg => ?_⟩
  obtain ⟨h1, cs, h2⟩ := ownsRow_block ho hg
  exact hs g ⟨h1, _, _, _, h2, .inr rfl⟩
theorem SRef.below {w w' : World} {base b : Nat} {long : Int} {L : List Wd} (h : SRef w base b long L) (hb : Below w.heap.size w w') : SRef w' base b long L :=
  h.keeps (S := fun _ => False) (Keeps.of_below hb) (fun _ _ h => h)
theorem SRef.at0 {w : World} {base b : Nat} {long : Int} {L : List Wd} (h : SRef w base b long L) : w.cell? ⟨b, 0, none⟩ = some (.int .i64 long) ∧ ∃ v, w.cell? ⟨b, 1, none⟩ = some v ∧ w.ownsRow base 119 2 v L.length (flatW L) ∧ w.frozen? ⟨b, 1, none⟩ = false := by
  obtain ⟨hge, v, hb, ho⟩ := h
  exact ⟨by rw [cell_of_row w b 0 _ _ _ hb]; rfl, v, by rw [cell_of_row w b 1 _ _ _ hb]; rfl, ho, frozen_of_row _ _ _ _ _ hb⟩
theorem SRef.lt {w : World} {base b : Nat} {long : Int} {L : List Wd} (h : SRef w base b long L) : b < w.heap.size := by
  obtain ⟨_, v, hb, _⟩ := h
  exact (Array.getElem?_eq_some_iff.1 hb).1
theorem SRefS.lt {w : World} {base k : Nat} (h : SRefS base w k) : base ≤ k ∧ k < w.heap.size := by
  obtain ⟨h1, _, _, _, h2, _⟩ := h
  exact ⟨h1, (Array.getElem?_eq_some_iff.1 h2).1⟩
theorem sref_trans {base : Nat} {u v w : World} (h : Keeps (SRefS base u) u v) (k : Keeps (SRefS base v) v w) : Keeps (SRefS base u) u w := by
  refine ⟨k.os.trans h.os, k.tape.trans h.tape, k.output.trans h.output, Nat.le_trans h.size k.size, fun i hi hs => ?_⟩
  have h1 := h.block i hi hs
  refine (k.block i (Nat.lt_of_lt_of_le hi h.size) ?_).trans h1
  rintro ⟨h2, cs, T, z, h3, h4⟩
  exact hs ⟨h2, cs, T, z, h1.symm.trans h3, h4⟩
theorem sref_below {base : Nat} {u v w : World} (h : Below u.heap.size u v) (k : Keeps (SRefS base v) v w) : Keeps (SRefS base u) u w := sref_trans (Keeps.of_below h) k
/-- What the program saw lies in none of these blocks. -/
theorem SeenAt.off_ref {w : World} {base b r : Nat} {long : Int} {L : List Wd} (h : SeenAt w b r long L) : ¬ SRefS base w b ∧ ¬ SRefS base w r := by
  obtain ⟨hb, l, ⟨es, c, hr, _⟩, _⟩ := h
  constructor
  · rintro ⟨_, cs, T, z, h1, h2⟩
    rw [hb] at h1
    injection h1 with h1
    injection h1 with _ h1 _
    subst h1
    revert h2
    decide
  · rintro ⟨_, cs, T, z, h1, _⟩
    rw [hr] at h1
    cases h1
/-- A store of a new row. -/
theorem sref_store {w w' : World} {base base2 b : Nat} {long : Int} {L M : List Wd} {v : Value} (hB : SRef w base b long L) (hb : Below base2 w w') (h2 : w.heap.size ≤ base2) (hb2 : base ≤ base2)
    (hown : w'.ownsRow base2 119 2 v M.length (flatW M)) :
    Keeps (SRefS base w) w (w'.setCell ⟨b, 1, none⟩ v) ∧ SRef (w'.setCell ⟨b, 1, none⟩ v) base b long M := by
  have hblt := hB.lt
  obtain ⟨hge, u, hbk, _⟩ := hB
  have hk : Keeps (SRefS base w) w w' := ⟨hb.os, hb.tape, hb.output, hb.size, fun i hi _ => hb.block i (Nat.lt_of_lt_of_le hi h2)⟩
  have hbk' : w'.heap[b]? = some (.cells #[.int .i64 long, u] 78 (0, 0)) := (hb.block b (Nat.lt_of_lt_of_le hblt h2)).trans hbk
  refine ⟨hk.trans (keeps_setCell _ _ _ ⟨hge, _, _, _, hbk, .inl rfl⟩), hge, v, heap_setCell_same w' b 1 _ _ v hbk', ?_⟩
  exact ownsRow_other (ownsRow_mono hown hb2) _ _ (fun g' hg' => by
    have := (ownsRow_block hown hg').1
    simp
    omega)
end Go.Proofs.YtmjbhglmlbgkmaaDoor
