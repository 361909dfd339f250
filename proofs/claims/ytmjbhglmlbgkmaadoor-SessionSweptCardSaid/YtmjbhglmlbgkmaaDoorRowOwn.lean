/- Rows of one's own in memory: stores into them, what keeps them; no program's function. -/
import Derived.Test.YtmjbhglmlbgkmaaDoorMapV
import Derived.Laws.AppendOwnNone
import Derived.Maps.AppendAt
import Derived.OwnWalk
namespace Go.Proofs.YtmjbhglmlbgkmaaDoor
open Go.RowKit

/-- A store into a row of its own. -/
theorem ownsRow_setCell {w : World} {base g cap n size : Nat} {e : TypeId} {xs : List Value} (h : w.ownsRow base e size (.slice (some ⟨g, 0, none⟩) n cap) n xs) (i : Nat) (u : Value) :
    (w.setCell ⟨g, i, none⟩ u).ownsRow base e size (.slice (some ⟨g, 0, none⟩) n cap) n (xs.set i u) := by
  obtain ⟨hl, ⟨h1, _⟩ | ⟨g', cap', cur, he, hb, hg, hc, hm, hsz, ht⟩⟩ := h
  · cases h1
  · cases he
    refine ⟨by rw [List.length_set]; exact hl, .inr ⟨g, cap, cur.setIfInBounds i u, rfl, hb, heap_setCell_same w g i cur e u hg, hc, hm, by simpa using hsz, ?_⟩⟩
    rw [← ht]
    simp [List.take_set]
theorem ownsRow_other {w : World} {base n size : Nat} {e : TypeId} {v : Value} {xs : List Value} (h : w.ownsRow base e size v n xs) (a : Addr) (u : Value) (hne : ∀ g, v.ownBlock = some g → g ≠ a.block) :
    (w.setCell a u).ownsRow base e size v n xs := by
  obtain ⟨hl, h1 | ⟨g', cap', cur, he, hb, hg, hc, hm, hsz, ht⟩⟩ := h
  · exact ⟨hl, .inl h1⟩
  · subst he
    exact ⟨hl, .inr ⟨g', cap', cur, rfl, hb, (heap_setCell_other w a g' u (hne g' rfl)).trans hg, hc, hm, hsz, ht⟩⟩
theorem ownsRow_keeps {S : Nat → Prop} {w w' : World} {base n size : Nat} {e : TypeId} {v : Value} {xs : List Value} (h : w.ownsRow base e size v n xs) (hk : Keeps S w w') (hs : ∀ g, v.ownBlock = some g → ¬ S g) :
    w'.ownsRow base e size v n xs := by
  obtain ⟨hl, h1 | ⟨g', cap', cur, he, hb, hg, hc, hm, hsz, ht⟩⟩ := h
  · exact ⟨hl, .inl h1⟩
  · subst he
    exact ⟨hl, .inr ⟨g', cap', cur, rfl, hb, hk.obj hg (hs g' rfl), hc, hm, hsz, ht⟩⟩
/-- Of what type a row's block is. -/
theorem ownsRow_block {w : World} {base n size g : Nat} {e : TypeId} {v : Value} {xs : List Value} (h : w.ownsRow base e size v n xs) (hg : v.ownBlock = some g) : base ≤ g ∧ ∃ cs, w.heap[g]? = some (.cells cs e (0, 0)) := by
  obtain ⟨hl, ⟨rfl, _⟩ | ⟨g', cap', cur, rfl, hb, hg', hc, hm, hsz, ht⟩⟩ := h
  · cases hg
  · cases hg
    exact ⟨hb, cur, hg'⟩
theorem ownsRow_mono {w : World} {base base' : Nat} {e : TypeId} {size : Nat} {v : Value} {n : Nat} {xs : List Value} (h : w.ownsRow base e size v n xs) (hb : base' ≤ base) : w.ownsRow base' e size v n xs :=
  ⟨h.1, h.2.imp id fun ⟨g, cap, cur, h1, h2, h3⟩ => ⟨g, cap, cur, h1, Nat.le_trans hb h2, h3⟩⟩
theorem keeps_setCell {S : Nat → Prop} (w : World) (a : Addr) (u : Value) (ha : S a.block) : Keeps S w (w.setCell a u) :=
  let h := (Below.refl 0 w).setCell (p := a) (Nat.zero_le _) u
  ⟨h.os, h.tape, h.output, h.size, fun k _ hs => heap_setCell_other w a k u (fun e => hs (by rw [e]; exact ha))⟩
end Go.Proofs.YtmjbhglmlbgkmaaDoor
