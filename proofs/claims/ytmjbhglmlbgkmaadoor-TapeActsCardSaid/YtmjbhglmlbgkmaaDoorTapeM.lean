/- A tape's disk in memory: a row of bytes of its own, appended to; no walk. -/
import Derived.Test.YtmjbhglmlbgkmaaDoorTapeP
import Derived.Test.YtmjbhglmlbgkmaaDoorRowOwn
import Derived.Test.YtmjbhglmlbgkmaaDoorTwo
import Derived.Test.YtmjbhglmlbgkmaaDoorTexts
import Derived.Lib.AppendStr
import Derived.Lib.FrozenHead
import Derived.Laws.IdiomStrings
namespace Go.Proofs.YtmjbhglmlbgkmaaDoor
open Go.RowKit Go.Lib

/-- Bytes as cells. -/
def cellsB (l : List UInt8) : List Value := l.map fun c => Value.int .u8 c.toNat
theorem cellsB_length (l : List UInt8) : (cellsB l).length = l.length := by simp [cellsB]
theorem cellsB_append (l m : List UInt8) : cellsB (l ++ m) = cellsB l ++ cellsB m := by simp [cellsB]
theorem strCells_bs (l : List UInt8) : strCells (bs l) = cellsB l := by
  unfold strCells cellsB
  rw [bs_list]
/-- A row of bytes of one's own; its mark lies behind it. -/
def ByteRow (w : World) (base : Nat) (v : Value) (l : List UInt8) : Prop :=
  (v = .slice none 0 0 ∧ l = []) ∨ ∃ g cap cur fz, v = .slice (some ⟨g, 0, none⟩) l.length cap ∧ base ≤ g ∧ w.heap[g]? = some (.cells cur 5 fz) ∧ (fz = (0, 0) ∨ cur.size ≤ fz.1) ∧ l.length ≤ cap ∧ cap ≤ maxLen ∧ cap ≤ cur.size ∧ cur.toList.take l.length = cellsB l
theorem ByteRow.sl {w : World} {base : Nat} {v : Value} {l : List UInt8} (h : ByteRow w base v l) : ∃ a c, v = .slice a l.length c := by
  rcases h with ⟨rfl, rfl⟩ | ⟨g, cap, cur, fz, rfl, _⟩
  · exact ⟨_, _, rfl⟩
  · exact ⟨_, _, rfl⟩
theorem ByteRow.block {w : World} {base : Nat} {v : Value} {l : List UInt8} (h : ByteRow w base v l) : ∀ g, v.ownBlock = some g → base ≤ g ∧ ∃ cs z, w.heap[g]? = some (.cells cs 5 z) := by
  intro g hg
  rcases h with ⟨rfl, rfl⟩ | ⟨g', cap, cur, fz, rfl, h1, h2, _⟩
  · cases hg
  · cases hg
    exact ⟨h1, cur, fz, h2⟩
theorem ByteRow.keeps {S : Nat → Prop} {w w' : World} {base : Nat} {v : Value} {l : List UInt8} (h : ByteRow w base v l) (hk : Keeps S w w') (hs : ∀ g, v.ownBlock = some g → ¬ S g) : ByteRow w' base v l := by
  rcases h with h | ⟨g', cap, cur, fz, rfl, h1, h2, h3⟩
  · exact .inl h
  · exact .inr ⟨g', cap, cur, fz, rfl, h1, hk.obj h2 (hs g' rfl), h3⟩
theorem ByteRow.other {w : World} {base : Nat} {v : Value} {l : List UInt8} (h : ByteRow w base v l) (a : Addr) (u : Value) (hne : ∀ g, v.ownBlock = some g → g ≠ a.block) : ByteRow (w.setCell a u) base v l := by
  rcases h with h | ⟨g', cap, cur, fz, rfl, h1, h2, h3⟩
  · exact .inl h
  · exact .inr ⟨g', cap, cur, fz, rfl, h1, (heap_setCell_other w a g' u (hne g' rfl)).trans h2, h3⟩
theorem ByteRow.mono {w : World} {base base' : Nat} {v : Value} {l : List UInt8} (h : ByteRow w base v l) (hb : base' ≤ base) : ByteRow w base' v l :=
  h.imp id fun ⟨g, cap, cur, fz, h1, h2, h3⟩ => ⟨g, cap, cur, fz, h1, Nat.le_trans hb h2, h3⟩
theorem ByteRow.cells {w : World} {base g o cap n : Nat} {l : List UInt8} (h : ByteRow w base (.slice (some ⟨g, o, none⟩) n cap) l) : ∀ j (hj : j < l.length), w.cell? ⟨g, j, none⟩ = some (.int .u8 (l[j].toNat : Int)) := by
  rcases h with ⟨h, _⟩ | ⟨g', cap', cur, fz, he, h1, h2, h3, h4, h5, h6, h7⟩
  · cases h
  · cases he
    intro j hj
    rw [cell_of_row w g j _ _ _ h2]
    have h8 : (cur.toList.take l.length)[j]? = (cellsB l)[j]? := by rw [h7]
    rw [List.getElem?_take, if_pos hj] at h8
    simp only [Array.getElem?_toList] at h8
    rw [h8]
    simp [cellsB, List.getElem?_eq_getElem hj]
/-- The first n of them. -/
theorem ByteRow.take {w : World} {base : Nat} {a : Option Addr} {c n : Nat} {l : List UInt8} (h : ByteRow w base (.slice a l.length c) l) (hn : n ≤ l.length) : ByteRow w base (.slice a n n) (l.take n) := by
  have hl : (l.take n).length = n := by rw [List.length_take]; omega
  rcases h with ⟨h, rfl⟩ | ⟨g', cap', cur, fz, he, h1, h2, h3, h4, h5, h6, h7⟩
  · injection h with h _ _
    subst h
    have : n = 0 := by simpa using hn
    subst this
    exact .inl ⟨rfl, rfl⟩
  · injection he with he _ hc
    subst he
    refine .inr ⟨g', n, cur, fz, by rw [hl], h1, h2, h3, by omega, by omega, by omega, ?_⟩
    rw [hl]
    have := congrArg (List.take n) h7
    rw [List.take_take, Nat.min_eq_left hn] at this
    rw [this]
    simp [cellsB, List.map_take]

theorem run_storeCells_atB (P : Program) (g o : Nat) (t : TypeId) (fz : Nat × Nat) : ∀ (vs : List Value) (i : Nat) (cur : Array Value) (w : World), w.heap[g]? = some (.cells cur t fz) → (fz = (0, 0) ∨ cur.size ≤ fz.1) → o + i + vs.length ≤ cur.size → (∀ v ∈ vs, v.oneCell' = true) →
    (storeCells ⟨g, o, none⟩ vs i).run P w = .ok () (w.setRow g (cur.toList.take (o + i) ++ vs ++ cur.toList.drop (o + i + vs.length)).toArray)
  | [], i, cur, w, hg, _, _, _ => by
    simp only [storeCells, List.append_nil, List.length_nil, Nat.add_zero, List.take_append_drop, Array.toArray_toList]
    rw [setRow_self w g cur t fz hg]
    rfl
  | v :: rest, i, cur, w, hg, hfz, hl, h1 => by
    have hi : o + i < cur.size := by simp at hl; omega
    have hadd : (⟨g, o, none⟩ : Addr).add i = ⟨g, o + i, none⟩ := by unfold Addr.add; split <;> simp_all
    have hcell : w.cell? ⟨g, o + i, none⟩ = some cur[o + i] := by simp [World.cell?, hg, hi]
    have hfro : w.frozen? ⟨g, o + i, none⟩ = false := by
      obtain ⟨lo, hi'⟩ := fz
      simp only [World.frozen?, hg, Bool.and_eq_false_iff, decide_eq_false_iff_not]
      rcases hfz with hfz | hfz
      · cases hfz
        right
        omega
      · left
        simp only at hfz
        omega
    have hst : (store ((⟨g, o, none⟩ : Addr).add i) v).run P w = .ok () (w.setRow g (cur.setIfInBounds (o + i) v)) := by
      rw [hadd, run_store P w _ v _ (h1 v (by simp)), hcell]
      simp [hfro, setCell_eq_setRow w g (o + i) cur t fz v hg]
    have ih := run_storeCells_atB P g o t fz rest (i + 1) (cur.setIfInBounds (o + i) v) (w.setRow g (cur.setIfInBounds (o + i) v)) (setRow_heap w g cur _ t _ hg) (by simpa using hfz) (by simp at hl ⊢; omega) (fun x hx => h1 x (by simp [hx]))
    simp only [storeCells, Sem.run_bind, hst, Result.andThen_ok, ih, setRow_setRow]
    congr 3
    have e := list_seg_step cur.toList (o + i) v rest (by simp at hl ⊢; omega)
    simpa [Array.toList_setIfInBounds, Nat.add_assoc] using e
theorem run_append_room_stringB {P : Program} (w : World) (t u ty e : TypeId) (i : TypeInfo) (ht : P.underlying t = some (.slice e)) (hu : P.underlying u = some .string) (hi : P.info? e = some i) (hs1 : i.size = 1)
    (g sLen sCap : Nat) (cur : Array Value) (fz : Nat × Nat) (hg : w.heap[g]? = some (.cells cur e fz)) (hfz : fz = (0, 0) ∨ cur.size ≤ fz.1) (s : ByteArray)
    (hroom : sLen + s.size ≤ sCap) (hfit : sLen + s.size ≤ cur.size) :
    (Builtin.append_ #[t, u] ty #[.slice (some ⟨g, 0, none⟩) sLen sCap, .string s]).run P w =
      .ok (.slice (some ⟨g, 0, none⟩) (sLen + s.size) sCap) (w.setRow g (cur.toList.take sLen ++ strCells s ++ cur.toList.drop (sLen + s.size)).toArray) := by
  have hf := run_firstCells_string (P := P) w 1 s
  have hst := run_storeCells_atB P g sLen e fz (strCells s) 0 cur w hg hfz (by simpa [strCells_length] using hfit) (strCells_oneCell s)
  simp only [Nat.add_zero, strCells_length] at hst
  simp [Builtin.append_, run_underlying ht, run_underlying hu, sizeOf, typeInfo, hi, hs1, Builtin.lenOf, hroom, hf, Addr.add_lit, hst]
theorem info_byte : (Tryd.prog.info? 5).map (fun i => (i.zero, i.size, i.bytes)) = some (some (.int .u8 0), 1, 1) := by kernel_rfl
/-- A string appended to such a row. -/
theorem run_append_byterow (w : World) (base : Nat) (ty : TypeId) (v : Value) (l s : List UInt8) (hown : ByteRow w base v l) (hb : l.length + s.length ≤ 1000000000) (hbase : base ≤ w.heap.size) :
    ∃ v' w', (Builtin.append_ #[100, 9] ty #[v, .string (bs s)]).run Tryd.prog w = .ok v' w' ∧ ByteRow w' base v' (l ++ s) ∧ w.grownBy w' v.ownBlock := by
  obtain ⟨i, hi, hz, hsize, hby⟩ := info_parts info_byte
  have hsz := bs_size s
  rcases hown with ⟨rfl, rfl⟩ | ⟨g, cap, cur, fz, rfl, hbg, hg, hfz, hnc, hcm, hcs, htake⟩
  · obtain ⟨v', w', h1, h2, h3, h4⟩ := run_append_own_string (P := Tryd.prog) w base 100 9 ty 5 i Tryd.underlying100 Tryd.underlying9 hi hz hsize hby (.slice none 0 0) 0 [] ⟨rfl, .inl ⟨rfl, rfl⟩⟩ (bs s) (by unfold maxLen; omega) (by omega) hbase
    refine ⟨v', w', h1, ?_, h3⟩
    rw [List.nil_append]
    rcases h2.2 with ⟨h5, h6⟩ | ⟨g, cap, cur, h5, h6, h7, h8, h9, h10, h11⟩
    · exact .inl ⟨h5, List.eq_nil_of_length_eq_zero (by omega)⟩
    · refine .inr ⟨g, cap, cur, (0, 0), by rw [h5]; simp [hsz], h6, h7, .inl rfl, by omega, h9, by omega, ?_⟩
      rw [← strCells_bs]
      simpa [hsz] using h11
  · by_cases hroom : l.length + s.length ≤ cap
    · have hr := run_append_room_stringB (P := Tryd.prog) w 100 9 ty 5 i Tryd.underlying100 Tryd.underlying9 hi hsize g l.length cap cur fz hg hfz (bs s) (by omega) (by omega)
      refine ⟨_, _, hr, .inr ⟨g, cap, _, fz, by simp [hsz], hbg, setRow_heap w g cur _ _ _ hg, ?_, by simpa using hroom, hcm, ?_, ?_⟩, ⟨rfl, rfl, rfl, by simp, fun k _ hk => setRow_other w g k _ (fun e => hk (by simp [Value.ownBlock, e]))⟩⟩
      · rcases hfz with h | h
        · exact .inl h
        · right
          simp only [List.size_toArray, List.length_append, List.length_take, List.length_drop, Array.length_toList, strCells_length]
          omega
      · simp only [List.size_toArray, List.length_append, List.length_take, List.length_drop, Array.length_toList, strCells_length]
        omega
      · rw [htake, strCells_bs, List.append_assoc, ← List.append_assoc, ← cellsB_append, List.take_append_of_le_length (by rw [cellsB_length]; exact Nat.le_refl _), List.take_of_length_le (by rw [cellsB_length]; exact Nat.le_refl _)]
    · have holds : ∀ j u, (cellsB l)[j]? = some u → w.cell? ((⟨g, 0, none⟩ : Addr).add j) = some u := by
        intro j u hu
        rw [Addr.add_lit, Nat.zero_add, cell_of_row w g j _ _ _ hg]
        have hj : j < l.length := by
          have := (List.getElem?_eq_some_iff.1 hu).1
          rwa [cellsB_length] at this
        rw [← htake, List.getElem?_take, if_pos hj] at hu
        simpa using hu
      have hr := run_append_grow_string (P := Tryd.prog) w 100 9 ty 5 i (.int .u8 0) Tryd.underlying100 Tryd.underlying9 hi hz ⟨g, 0, none⟩ l.length cap (cellsB l) (by rw [cellsB_length, hsize, Nat.mul_one]) holds (bs s) (by omega) (by omega) (by rw [hby]; exact growslice_fits (by omega) (by omega))
      have hge := grownCap_ge w (l.length + (bs s).size) cap 5
      have hcmx : grownCap w (l.length + (bs s).size) cap 5 ≤ maxLen := grownCap_le_maxLen w _ cap 5 (by unfold maxLen; omega)
      refine ⟨_, _, hr, .inr ⟨w.heap.size, _, _, (0, 0), by simp [hsz], hbase, heap_alloc_new w.drew _, .inl rfl, ?_, hcmx, ?_, ?_⟩, ⟨rfl, rfl, rfl, by simp, fun k hk _ => Below.heap_alloc w.drew _ k hk⟩⟩
      · rw [List.length_append]; omega
      · have hz1 : (Value.int IntKind.u8 0).cells.size = 1 := rfl
        simp only [Array.size_append, List.size_toArray, size_zeroCells, hz1, cellsB_length, strCells_length]
        omega
      · simp only [Array.toList_append, List.append_assoc]
        rw [strCells_bs, ← List.append_assoc, ← cellsB_append, List.take_append_of_le_length (by rw [cellsB_length]; exact Nat.le_refl _), List.take_of_length_le (by rw [cellsB_length]; exact Nat.le_refl _)]
/-- A disk at block b. -/
structure DiskAt (w : World) (base b : Nat) (d : Dsk) : Prop where
  ge : base ≤ b
  row : ∃ v, w.heap[b]? = some (.cells #[v, .bool d.off, .int .i64 d.cut] 102 (0, 0)) ∧ ByteRow w base v d.b
/-- The blocks that such a disk may write. -/
def DiskS (base : Nat) (w : World) (k : Nat) : Prop := base ≤ k ∧ ∃ cs T z, w.heap[k]? = some (.cells cs T z) ∧ (T = 102 ∨ T = 5)
theorem DiskAt.keeps {S : Nat → Prop} {w w' : World} {base b : Nat} {d : Dsk} (h : DiskAt w base b d) (hk : Keeps S w w') (hs : ∀ k, DiskS base w k → ¬ S k) : DiskAt w' base b d := by
  obtain ⟨hge, v, hb, ho⟩ := h
  refine ⟨hge, v, hk.obj hb (hs b ⟨hge, _, _, _, hb, .inl rfl⟩), ho.keeps hk fun g hg => ?_⟩
  obtain ⟨h1, cs, z, h2⟩ := ho.block g hg
  exact hs g ⟨h1, _, _, _, h2, .inr rfl⟩
theorem DiskAt.below {w w' : World} {base b : Nat} {d : Dsk} (h : DiskAt w base b d) (hb : Below w.heap.size w w') : DiskAt w' base b d :=
  h.keeps (S := fun _ => False) (Keeps.of_below hb) (fun _ _ h => h)
theorem DiskAt.lt {w : World} {base b : Nat} {d : Dsk} (h : DiskAt w base b d) : b < w.heap.size := by
  obtain ⟨_, v, hb, _⟩ := h
  exact (Array.getElem?_eq_some_iff.1 hb).1
theorem DiskAt.at_ {w : World} {base b : Nat} {d : Dsk} (h : DiskAt w base b d) : ∃ a c, w.cell? ⟨b, 0, none⟩ = some (.slice a d.b.length c) ∧ w.cell? ⟨b, 1, none⟩ = some (.bool d.off) ∧ w.cell? ⟨b, 2, none⟩ = some (.int .i64 d.cut) ∧
    ByteRow w base (.slice a d.b.length c) d.b ∧ (∀ i, w.frozen? ⟨b, i, none⟩ = false) ∧ (∀ g, (Value.slice a d.b.length c).ownBlock = some g → g ≠ b) ∧ w.heap[b]? = some (.cells #[.slice a d.b.length c, .bool d.off, .int .i64 d.cut] 102 (0, 0)) := by
  obtain ⟨hge, v, hb, ho⟩ := h
  obtain ⟨a, c, rfl⟩ := ho.sl
  refine ⟨a, c, by rw [cell_of_row w b 0 _ _ _ hb]; rfl, by rw [cell_of_row w b 1 _ _ _ hb]; rfl, by rw [cell_of_row w b 2 _ _ _ hb]; rfl, ho, fun i => frozen_of_row _ _ _ _ _ hb, fun g hg e => ?_, hb⟩
  obtain ⟨h1, cs, z, h2⟩ := ho.block g hg
  subst e
  rw [hb] at h2
  injection h2 with h2
  injection h2 with _ h2 _
  exact absurd h2 (by decide)
end Go.Proofs.YtmjbhglmlbgkmaaDoor
