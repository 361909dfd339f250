/- Records of a tape of any bytes: plain; the reference's tape in memory. -/
import Derived.Test.YtmjbhglmlbgkmaaDoorTapeC
import Derived.Test.YtmjbhglmlbgkmaaDoorCutL
namespace Go.Proofs.YtmjbhglmlbgkmaaDoor
open Go.RowKit Go.Sort

theorem readF_fit : ∀ (n : Nat) (b : List UInt8), b.length < n → ∃ t, b = flatR (readF n b) ++ t ∧ oneT t = none ∧ ∀ s ∈ readF n b, s.length ≤ 4000
  | 0, _, h => by omega
  | n + 1, b, h => by
    unfold readF
    cases ho : oneT b with
    | none => exact ⟨b, by simp [flatR], ho, by simp⟩
    | some s =>
      obtain ⟨hs, t, e⟩ := oneT_some ho
      have hp := recordT_pos s
      have hd : b.drop (recordT s).length = t := by rw [e, List.drop_left]
      have hl := congrArg List.length e
      rw [List.length_append] at hl
      dsimp only
      rw [hd]
      obtain ⟨u, e2, h3, h4⟩ := readF_fit n t (by omega)
      refine ⟨u, ?_, h3, ?_⟩
      · rw [flatR, List.append_assoc, ← e2]
        exact e
      · intro x hx
        rcases List.mem_cons.1 hx with rfl | hx
        · exact hs
        · exact h4 x hx
theorem readT_fit (b : List UInt8) : ∃ t, b = flatR (readT b) ++ t ∧ oneT t = none ∧ ∀ s ∈ readT b, s.length ≤ 4000 := readF_fit (b.length + 1) b (by omega)
theorem readT_take (b : List UInt8) : (flatR (readT b)).length ≤ b.length ∧ b.take (flatR (readT b)).length = flatR (readT b) := by
  obtain ⟨t, e, _⟩ := readT_fit b
  generalize flatR (readT b) = f at *
  subst e
  exact ⟨by simp, List.take_left⟩
/-- A disk within its bounds. -/
structure DskOk (d : Dsk) : Prop where
  b : d.b.length ≤ 262144
  cut : d.cut ≤ 9223372036854775807
theorem append_ok {d : Dsk} (h : DskOk d) (s : List UInt8) : DskOk (appendD d s).2 ∧ (appendD d s).1 ≤ 16 := by
  obtain ⟨h1, h2⟩ := h
  unfold appendD
  split
  · exact ⟨⟨h1, h2⟩, by simp⟩
  split
  · exact ⟨⟨h1, h2⟩, by simp⟩
  rename_i hf
  unfold writeD
  split
  · exact ⟨⟨h1, h2⟩, by simp⟩
  split
  · refine ⟨⟨?_, h2⟩, by simp⟩
    simp only [List.length_append, List.length_take]
    omega
  · refine ⟨⟨?_, ?_⟩, by simp⟩
    · simp only [List.length_append]
      omega
    · simp only
      split <;> omega
theorem setcut_ok {d : Dsk} (h : DskOk d) {n : Int} (hn : n ≤ 9223372036854775807) : DskOk (setCutD d n).2 ∧ (setCutD d n).1 ≤ 16 := by
  unfold setCutD
  split
  · exact ⟨h, by simp⟩
  split
  · exact ⟨h, by simp⟩
  · exact ⟨⟨h.b, hn⟩, by simp⟩
theorem on_ok {d : Dsk} (h : DskOk d) : DskOk (onD d) := ⟨h.b, show (-1 : Int) ≤ 9223372036854775807 by decide⟩
theorem recover_ok {d : Dsk} (h : DskOk d) : DskOk (recoverD d) := ⟨Nat.le_trans (readT_take d.b).1 h.b, show (-1 : Int) ≤ 9223372036854775807 by decide⟩
/-! where the colon is -/
theorem fc_at {s : ByteArray} {k j : Nat} (hk : k ≤ j) (hj : j < s.size) (hno : ∀ q, k ≤ q → q < j → byteAt s q ≠ 58) (hc : byteAt s j = 58) :
    firstCut 58 (s.data.toList.drop k) = some ((s.data.toList.drop k).take (j - k), s.data.toList.drop (j + 1)) := by
  have h := drop_split s k j hk hj
  rw [hc] at h
  exact (congrArg (firstCut 58) h).trans (firstCut_of (take_no (Nat.le_of_lt hj) hno))
theorem fc_no {s : ByteArray} {k : Nat} (hno : ∀ q, k ≤ q → q < s.size → byteAt s q ≠ 58) : firstCut 58 (s.data.toList.drop k) = none := (firstCut_none 58 _).2 (drop_no hno)
theorem rec_at {d r : List UInt8} {n : Nat} (hn : numOf d = some n) (hl : n + 2 ≤ r.length) : (recordT (r.take n)).length = d.length + n + 3 := by
  obtain ⟨_, _, _, hi⟩ := numOf_some hn
  have h : (r.take n).length = n := by rw [List.length_take]; omega
  unfold recordT
  rw [h, hi]
  simp [h]
  omega
theorem two_bytes {s : ByteArray} {m n : Nat} (h : m + n + 1 < s.size) : ((s.data.toList.drop m).drop n).take 2 = [byteAt s (m + n), byteAt s (m + n + 1)] := by
  rw [List.drop_drop, drop_byte s (m + n) (by omega), drop_byte s (m + n + 1) h]
  rfl
/-! memory -/
/-- The reference's tape, at block b. -/
def TpAt (w : World) (b : Nat) (d : Dsk) : Prop := w.heap[b]? = some (.cells #[.string (bs d.b), .bool d.off, .int .i64 d.cut] 54 (0, 0))
theorem TpAt.cells {w : World} {b : Nat} {d : Dsk} (h : TpAt w b d) : w.cell? ⟨b, 0, none⟩ = some (.string (bs d.b)) ∧ w.cell? ⟨b, 1, none⟩ = some (.bool d.off) ∧ w.cell? ⟨b, 2, none⟩ = some (.int .i64 d.cut) ∧ ∀ i, w.frozen? ⟨b, i, none⟩ = false :=
  ⟨by rw [cell_of_row _ _ _ _ _ _ h]; rfl, by rw [cell_of_row _ _ _ _ _ _ h]; rfl, by rw [cell_of_row _ _ _ _ _ _ h]; rfl, fun i => frozen_of_row _ _ _ _ _ h⟩
theorem TpAt.keeps {S : Nat → Prop} {w w' : World} {b : Nat} {d : Dsk} (h : TpAt w b d) (hk : Keeps S w w') (hs : ¬ S b) : TpAt w' b d := hk.obj h hs
theorem TpAt.below {w w' : World} {b : Nat} {d : Dsk} (h : TpAt w b d) (hb : Below w.heap.size w w') : TpAt w' b d := h.keeps (S := fun _ => False) (Keeps.of_below hb) id
theorem TpAt.lt {w : World} {b : Nat} {d : Dsk} (h : TpAt w b d) : b < w.heap.size := (Array.getElem?_eq_some_iff.1 h).1
theorem TpAt.set0 {w : World} {b : Nat} {d : Dsk} (h : TpAt w b d) (l : List UInt8) : TpAt (w.setCell ⟨b, 0, none⟩ (.string (bs l))) b ⟨l, d.off, d.cut⟩ := heap_setCell_same w b 0 _ _ _ h
theorem TpAt.set1 {w : World} {b : Nat} {d : Dsk} (h : TpAt w b d) (o : Bool) : TpAt (w.setCell ⟨b, 1, none⟩ (.bool o)) b ⟨d.b, o, d.cut⟩ := heap_setCell_same w b 1 _ _ _ h
theorem TpAt.set2 {w : World} {b : Nat} {d : Dsk} (h : TpAt w b d) (n : Int) : TpAt (w.setCell ⟨b, 2, none⟩ (.int .i64 n)) b ⟨d.b, d.off, n⟩ := heap_setCell_same w b 2 _ _ _ h
theorem keeps_set (w : World) (b i : Nat) (v : Value) : Keeps (· = b) w (w.setCell ⟨b, i, none⟩ v) := keeps_setCell _ _ _ rfl
end Go.Proofs.YtmjbhglmlbgkmaaDoor
