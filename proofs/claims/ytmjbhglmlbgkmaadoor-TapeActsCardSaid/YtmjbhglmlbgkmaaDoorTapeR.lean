/- Package tape: Read: walked. -/
import Derived.Test.YtmjbhglmlbgkmaaDoorTapeW2
import Derived.Laws.NewBlocks
namespace Go.Proofs.YtmjbhglmlbgkmaaDoor
open Go.RowKit Go.Sort

/-- A row of texts of one's own. -/
def TxRow (w : World) (base : Nat) (v : Value) (L : List (List UInt8)) : Prop := w.ownsRow base 9 1 v L.length (L.map fun s => Value.string (bs s))
theorem TxRow.nil (w : World) (base : Nat) : TxRow w base (.slice none 0 0) [] := World.ownsRow_nil _ _ _ _
theorem TxRow.sl {w : World} {base : Nat} {v : Value} {L : List (List UInt8)} (h : TxRow w base v L) : ∃ a c, v = .slice a L.length c := by
  obtain ⟨_, ⟨rfl, hn⟩ | ⟨g, cap, cur, rfl, _⟩⟩ := h
  · rw [hn]; exact ⟨_, _, rfl⟩
  · exact ⟨_, _, rfl⟩
theorem TxRow.below {w w' : World} {base : Nat} {v : Value} {L : List (List UInt8)} (h : TxRow w base v L) (hb : Below w.heap.size w w') : TxRow w' base v L := ownsRow_keeps h (Keeps.of_below hb) (fun _ _ h => h)
theorem TxRow.at_ {w : World} {base : Nat} {v : Value} {L : List (List UInt8)} (h : TxRow w base v L) (hL : L.length ≤ maxLen) : TextsAt w v L := by
  have h0 := h
  obtain ⟨_, ⟨rfl, hn⟩ | ⟨g, cap, cur, rfl, hb, hg, hc, hm, hsz, ht⟩⟩ := h
  · have : L = [] := List.eq_nil_of_length_eq_zero hn
    subst this
    exact ⟨none, 0, rfl, Nat.zero_le _, Nat.zero_le _, fun i hi => by cases hi⟩
  · refine ⟨_, _, rfl, hL, hc, fun i hi => ⟨g, 0, rfl, ?_⟩⟩
    rw [Nat.zero_add, cell_of_row w g i _ _ _ hg]
    have h1 : (cur.toList.take (L.length * 1))[i]? = (L.map fun s => Value.string (bs s))[i]? := by rw [ht]
    rw [List.getElem?_take, if_pos (by omega)] at h1
    simp only [Array.getElem?_toList] at h1
    rw [h1]
    simp [List.getElem?_eq_getElem hi]
theorem info_str : (Tryd.prog.info? 9).map (fun i => (i.zero, i.size, i.bytes)) = some (some (.string ⟨#[]⟩), 1, 16) := by kernel_rfl
theorem readT_step {l : List (List UInt8)} {t : List UInt8} (hs : ∀ s ∈ l, s.length ≤ 4000) (ht : oneT t = none) : readT (flatR l ++ t) = l := readT_of hs ht
theorem flatR_snoc (l : List (List UInt8)) (s t : List UInt8) : flatR l ++ (recordT s ++ t) = flatR (l ++ [s]) ++ t := by rw [flatR_append]; simp [flatR]
theorem flatR_snoc_len (l : List (List UInt8)) (s : List UInt8) : (flatR (l ++ [s])).length = (flatR l).length + (recordT s).length := by rw [flatR_append]; simp [flatR]
set_option maxHeartbeats 4000000 in
set_option maxRecDepth 100000 in
theorem read_any {E : Nat → Addr} (b : List UInt8) (w : World) (hL : LaidS E w) (hb : b.length ≤ 1000000) :
    Calls Tryd.prog 31 #[.string (bs b)] w fun e w' => ∃ v, e = .returned (.tuple #[v, .int .i64 ((flatR (readT b)).length : Nat)]) ∧ TxRow w' w.heap.size v (readT b) ∧ Below w.heap.size w w' := by
  obtain ⟨i0, hi, hz0, hz1, hz2⟩ := info_parts info_str
  have hsz := bs_size b
  have hon := Lib.hid (fun (t : List UInt8) wx (hx : Below w.heap.size w wx) (ht : t.length ≤ 1000000) => one_any (E := E) t wx (hL.below hx) ht)
  have hre := Lib.hid (fun (t : List UInt8) wx (hx : Below w.heap.size w wx) (ht : t.length ≤ 1000000000) => record_any (E := E) t wx (hL.below hx) ht)
  go_enter Tryd.func31, Tryd.ntmps31
  go_wp2_with fail
  go_loopg [4, 5] (b.length + 1) (fun g8 v i wr => ∃ (l : List (List UInt8)) (t : List UInt8) (k : Nat), i = .int .i64 k ∧ k + t.length = b.length ∧ t.length + 1 ≤ g8 ∧ l.length ≤ k ∧ Hid ((flatR l).length = k ∧ b = flatR l ++ t ∧ ∀ s ∈ l, s.length ≤ 4000) ∧ Hid (TxRow wr w.heap.size v l) ∧ Hid (Below w.heap.size w wr))
  case atStart => exact ⟨[], b, 0, rfl, by simp, by omega, by simp, Lib.hid ⟨rfl, rfl, by simp⟩, Lib.hid (TxRow.nil _ _), Lib.hid (Below.refl _ _)⟩
  case round =>
    obtain ⟨l, t, k, rfl, hkt, hg, hlk, hI, hrow, hK⟩ := hrel
    obtain ⟨a4, c4, rfl⟩ := hrow.out.sl
    have hk0 : (0 : Int) ≤ (k : Int) := by omega
    have hk1 : (k : Int) ≤ (b.length : Int) := by omega
    have hdrop : b.drop k = t := by
      obtain ⟨e1, e2, _⟩ := hI.out
      rw [e2, ← e1, List.drop_left]
    have hex := ext_rest b k b.length rfl
    rw [hdrop] at hex
    have hon1 := Lib.hid (hon.out t wr hK.out (by omega))
    clear hdrop
    cases ho : oneT t with
    | none =>
      have hr := Lib.hid (show readT b = l by obtain ⟨e1, e2, e3⟩ := hI.out; rw [e2]; exact readT_step e3 ho)
      have hfl := Lib.hid (show (flatR (readT b)).length = k by rw [hr.out]; exact hI.out.1)
      rw [oneV_none ho] at hon1
      clear ho
      go_wp2_with fail
      refine hon1.out.mono ?_
      rintro e w1 ⟨rfl, hb1⟩
      have hrow1 := Lib.hid (hrow.out.below hb1)
      have hb1 := Lib.hid (below_trans hK.out hb1)
      go_wp2_with fail
      go_ret2
      exact ⟨_, by rw [hfl.out]; rfl, by rw [hr.out]; exact hrow1.out, hb1.out⟩
    | some s =>
      obtain ⟨hs4, t', rfl⟩ := oneT_some ho
      rw [oneV_some ho] at hon1
      have hrl := recordT_pos s
      have htl : (recordT s ++ t').length = (recordT s).length + t'.length := List.length_append
      have hrec := Lib.hid (fun wx (hx : Below w.heap.size w wx) => hre.out s wx hx (by omega))
      have hI2 := Lib.hid (show (flatR (l ++ [s])).length = k + (recordT s).length ∧ b = flatR (l ++ [s]) ++ t' ∧ ∀ x ∈ l ++ [s], x.length ≤ 4000 by
        obtain ⟨e1, e2, e3⟩ := hI.out
        refine ⟨by rw [flatR_snoc_len, e1], by rw [e2, flatR_snoc], fun x hx => ?_⟩
        rcases List.mem_append.1 hx with h | h
        · exact e3 x h
        · simp at h; subst h; exact hs4)
      have hrs := bs_size (recordT s)
      have hll : (l ++ [s]).length = l.length + 1 := by simp
      rw [htl] at hkt hg
      clear ho htl hI hon
      generalize hrq : recordT s = rq at *
      clear hrq
      have hkw : (k : Int) + (rq.length : Int) ≤ 1000000 := by omega
      go_wp2_with fail
      refine hon1.out.mono ?_
      rintro e w1 ⟨rfl, hb1⟩
      have hrow1 := hrow.out.below hb1
      have hb1 := below_trans hK.out hb1
      have hrow1 := Lib.hid hrow1
      have hb1 := Lib.hid hb1
      have hz1' := hb1.out.size
      go_wp2_with (first
        | (at_builtin; refine wpList_append_own_at _ rfl _ _ 61 rfl w.heap.size 9 i0 (.string ⟨#[]⟩) 1 16 Tryd.underlying61 hi hz0 hz1 hz2 rfl (by decide) _ _ _ rfl (World.ownsRow.alloc hrow1.out _) ⟨w1.heap.size, 0, none⟩ 1 1 [.string (bs s)] rfl ?hl ?c1 ?c2 ?c3 ?c4 ?c5 ?_)
        | go_in)
      case hl => rfl
      case c1 => exact cell_one_new _ _ _
      case c2 => intro u hu; simp at hu; subst hu; rfl
      case c3 => unfold maxLen; omega
      case c4 => omega
      case c5 => rw [World.size_alloc]; omega
      intro v2 w2 hown2 hgrow2 _ _
      have hrow2 : TxRow w2 w.heap.size v2 (l ++ [s]) := by
        unfold TxRow
        rw [List.map_append, List.length_append]
        exact hown2
      have hb2 : Below w.heap.size w w2 := (hb1.out.alloc hb1.out.size _).grown hgrow2 (by rw [World.size_alloc]; omega) (fun k hk => (World.ownsRow.lt hrow1.out k hk).1)
      obtain ⟨a5, c5, rfl⟩ := hrow2.sl
      have hrow2 := Lib.hid hrow2
      have hb2 := Lib.hid hb2
      have hrec2 := Lib.hid (hrec.out w2 hb2.out)
      clear hown2 hgrow2 hrec hon1
      go_wp2_with fail
      refine hrec2.out.mono ?_
      rintro e w3 ⟨rfl, hb3⟩
      have hrow3 := Lib.hid (hrow2.out.below hb3)
      have hb3 := Lib.hid (below_trans hb2.out hb3)
      go_wp2_with fail
      go_roundg (t'.length + 1)
      case measure => omega
      case rel => exact ⟨l ++ [s], t', k + rq.length, by simp, by omega, Nat.le_refl _, by rw [hll]; omega, hI2, (by have h := hrow3.out; rw [hll] at h; exact Lib.hid h), hb3⟩
end Go.Proofs.YtmjbhglmlbgkmaaDoor
