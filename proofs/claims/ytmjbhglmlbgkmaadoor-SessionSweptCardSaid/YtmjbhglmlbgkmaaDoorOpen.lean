/- A slice of structs that came in, opened to its cells. No program in sight. -/
import Derived.Test.YtmjbhglmlbgkmaaDoorBook
import Derived.Deep.Slices
import Derived.Deep.Fields
import Derived.ChangeSame
namespace Go.Proofs.YtmjbhglmlbgkmaaDoor
open Go.ChangeShapes Go.WideShapes Go.Deep

theorem list_of {α : Type} {p : Nat → α → Prop} : ∀ (n : Nat), (∀ i, i < n → ∃ x, p i x) → ∃ l : List α, l.length = n ∧ ∀ i (h : i < l.length), p i l[i]
  | 0, _ => ⟨[], rfl, fun i h => by cases h⟩
  | n + 1, h => by
    obtain ⟨l, hl, hp⟩ := list_of n (fun i hi => h i (by omega))
    obtain ⟨x, hx⟩ := h n (by omega)
    refine ⟨l ++ [x], by simp [hl], fun i hi => ?_⟩
    by_cases hlt : i < l.length
    · rw [List.getElem_append_left hlt]; exact hp i hlt
    · have : i = n := by simp [hl] at hi; omega
      subst this
      rw [List.getElem_append_right (by omega)]
      simpa [hl] using hx

theorem cell_plain {w : World} {a : Addr} {k : Nat} {v : Value} (h : w.cell? (a.add k) = some v) : w.cell? ⟨a.block, a.off + k, none⟩ = some v := by
  unfold Addr.add at h
  by_cases hk : k = 0
  · rw [if_pos hk] at h
    subst hk
    obtain ⟨b, o, s⟩ := a
    cases s with
    | none => simpa using h
    | some x =>
      unfold World.cell? at h
      split at h <;> simp at h
  · rw [if_neg hk] at h; exact h
theorem addr_plain {w : World} {a : Addr} {v : Value} (h : w.cell? a = some v) : a = ⟨a.block, a.off, none⟩ := by
  obtain ⟨b, o, s⟩ := a
  cases s with
  | none => rfl
  | some x =>
    unfold World.cell? at h
    split at h <;> simp at h

theorem four_of {α : Type} {l : List α} (h : l.length = 4) : ∃ a b c d, l = [a, b, c, d] := by
  match l, h with
  | [a, b, c, d], _ => exact ⟨a, b, c, d, rfl⟩
section
variable {H : Type} {enc : TypeId × Value → H} {P : Program} {w : World} {base : Nat} {spare : Nat → Bool} {held : Bool}
/-- Each element's cells, and how they are read. -/
theorem slice_cells {t e : TypeId} {fuel : Nat} {cs : List Value} {x : DataW H × List MemPlace} (ht : P.underlying t = some (.slice e)) (h : DataW.trod enc P w base spare held fuel t cs = some x) :
    cs = [.slice none 0 0] ∨ ∃ (a : Addr) (len cap n : Nat), cs = [.slice (some a) len cap] ∧ len ≤ maxLen ∧
      ∀ i, i < len → ∃ (cs' : List Value) (y : DataW H × List MemPlace), cs'.length = P.cellsOf e ∧ (∀ j, j < P.cellsOf e → w.cell? ⟨a.block, a.off + (i * P.cellsOf e + j), none⟩ = cs'[j]?) ∧
        (∀ j, j < P.cellsOf e → i * P.cellsOf e + j = 0 → a = ⟨a.block, a.off, none⟩) ∧ DataW.trod enc P w base spare held n e cs' = some y := by
  rcases open_slice ht h with h0 | ⟨a, len, cap, m, n, D, Pl, hcs, _, hl, hm, hmm, _, hi⟩
  · exact .inl h0.1
  · refine .inr ⟨a, len, cap, n, hcs, by omega, fun i him => ?_⟩
    have : i < m := by rw [hmm]; split <;> omega
    obtain ⟨cs', hc, ht'⟩ := hi i this
    obtain ⟨_, hcl, hat⟩ := World.cells?_some hc
    have hget : ∀ j, j < P.cellsOf e → ∃ v, cs'[j]? = some v ∧ w.cell? (a.add (i * P.cellsOf e + j)) = some v := fun j hj => by
      refine ⟨cs'[j]'(by omega), List.getElem?_eq_getElem (by omega), ?_⟩
      rw [← add_add, hat j hj]
      exact List.getElem?_eq_getElem (by omega)
    refine ⟨cs', _, hcl, fun j hj => ?_, fun j hj h0 => ?_, ht'⟩
    · obtain ⟨v, h1, h2⟩ := hget j hj
      rw [h1]; exact cell_plain h2
    · obtain ⟨v, h1, h2⟩ := hget j hj
      rw [h0] at h2
      exact addr_plain (w := w) (v := v) (by simpa [Addr.add] using h2)
/-- A struct's fields. -/
theorem struct_fields {e : TypeId} {fs : Array Field} {n : Nat} {cs : List Value} {y : DataW H × List MemPlace} (he : P.underlying e = some (.struct fs)) (h : DataW.trod enc P w base spare held n e cs = some y) :
    cs.length = P.cellsOf e ∧ ∃ m, ∀ (j : Nat) (f : Field), fs[j]? = some f → ∃ z, DataW.trod enc P w base spare held m f.type ((cs.drop f.offset).take (P.cellsOf f.type)) = some z := by
  obtain ⟨ys, m, _, _, hcl, hyl, hf⟩ := DataW.trod_struct he h
  refine ⟨hcl, m, fun j f hj => ?_⟩
  have hlt : j < ys.length := by rw [hyl]; exact (Array.getElem?_eq_some_iff.1 hj).1
  exact ⟨ys[j], (hf j f hj).trans (List.getElem?_eq_getElem hlt)⟩
theorem field_one {t : TypeId} {m n j : Nat} {cs : List Value} {v : Value} {z : DataW H × List MemPlace} (h : DataW.trod enc P w base spare held m t ((cs.drop j).take n) = some z) (hn : n = 1) (hv : cs[j]? = some v) : DataW.trod enc P w base spare held m t [v] = some z := by
  obtain ⟨hj, rfl⟩ := List.getElem?_eq_some_iff.1 hv
  rw [hn, List.drop_eq_getElem_cons hj] at h
  exact h
theorem read_int {t : TypeId} {k : IntKind} {n : Nat} {v : Value} {z : DataW H × List MemPlace} (ht : P.underlying t = some (.int k)) (h : DataW.trod enc P w base spare held n t [v] = some z) : ∃ x, v = .int k x ∧ (Lit.int k x).wf = true := by
  obtain ⟨x, h1, _, h3⟩ := DataW.trod_int ht h
  exact ⟨x, by simpa using h1, h3⟩
theorem read_string {t : TypeId} {n : Nat} {v : Value} {z : DataW H × List MemPlace} (ht : P.underlying t = some .string) (h : DataW.trod enc P w base spare held n t [v] = some z) : ∃ s : List UInt8, v = .string (bs s) ∧ s.length ≤ maxLen := by
  obtain ⟨x, h1, _, h3⟩ := DataW.trod_string ht h
  exact ⟨x.data.toList, by rw [bs_data]; simpa using h1, by rw [Array.length_toList]; exact h3⟩
theorem read_bool {t : TypeId} {n : Nat} {v : Value} {z : DataW H × List MemPlace} (ht : P.underlying t = some .bool) (h : DataW.trod enc P w base spare held n t [v] = some z) : ∃ b, v = .bool b := by
  obtain ⟨x, h1, _⟩ := DataW.trod_bool ht h
  exact ⟨x, by simpa using h1⟩
end
end Go.Proofs.YtmjbhglmlbgkmaaDoor
