/- The reference's Ask of what was seen: lemmas. -/
import Derived.Test.YtmjbhglmlbgkmaaDoorRefS0
namespace Go.Proofs.YtmjbhglmlbgkmaaDoor
open Go.RowKit Go.Maps

theorem findW_any : ∀ (L : List Wd) (n : List UInt8), (findW L n).isSome = L.any fun p => p.s == n
  | [], _ => rfl
  | p :: L, n => by
    have ih := findW_any L n
    unfold findW at ih ⊢
    rw [List.find?_cons, List.any_cons]
    cases h : p.s == n
    · simpa using ih
    · rfl
theorem kept_snoc (lo : Int) (L : List Wd) (p : Wd) : keptW lo (L ++ [p]) = if p.t < lo then keptW lo L else keptW lo L ++ [p] := by
  unfold keptW
  rw [List.filter_append]
  by_cases h : p.t < lo
  · rw [if_pos h]; simp [h]
  · rw [if_neg h]; simp [h]
theorem take_snocW {L : List Wd} {j : Nat} (h : j < L.length) : L.take (j + 1) = L.take j ++ [L[j]] := by rw [List.take_add_one, List.getElem?_eq_getElem h]; rfl
theorem kept_le (lo : Int) (L : List Wd) (j : Nat) : (keptW lo (L.take j)).length ≤ L.length := by
  refine Nat.le_trans (List.length_filter_le _ _) ?_
  rw [List.length_take]
  exact Nat.min_le_right _ _
theorem flatW_cells {w : World} {g : Nat} {k m : Nat} {L : List Wd} (h : ∀ i u, (flatW L)[i]? = some u → w.cell? ⟨g, i, none⟩ = some u) :
    ∀ i u, (((flatW L).drop (k * 2)).take (m * 2))[i]? = some u → w.cell? ((⟨g, k * 2, none⟩ : Addr).add i) = some u := by
  intro i u hu
  rw [List.getElem?_take] at hu
  split at hu
  · rw [List.getElem?_drop] at hu
    rw [Addr.add_lit]
    exact h _ _ hu
  · cases hu
theorem rowW_cells {w : World} {base g cap n : Nat} {L : List Wd} (h : w.ownsRow base 119 2 (.slice (some ⟨g, 0, none⟩) n cap) n (flatW L)) :
    ∀ i u, (flatW L)[i]? = some u → w.cell? ⟨g, i, none⟩ = some u := by
  obtain ⟨hl, ⟨h1, _⟩ | ⟨g', cap', cur, he, hb, hg, hc, hm, hsz, ht⟩⟩ := h
  · cases h1
  · cases he
    intro i u hu
    rw [cell_of_row w g i _ _ _ hg]
    have hi : i < n * 2 := by
      have := (List.getElem?_eq_some_iff.1 hu).1
      omega
    rw [← ht, List.getElem?_take, if_pos hi] at hu
    simpa using hu
theorem rowW_succ {w : World} {base size n : Nat} {e : TypeId} {v : Value} {xs : List Value} (h : w.ownsRow base e size v (n + 1) xs) : ∃ g c, v = .slice (some ⟨g, 0, none⟩) (n + 1) c ∧ n + 1 ≤ c := by
  obtain ⟨_, ⟨_, h0⟩ | ⟨g, cap, cur, h1, _, _, h2, _⟩⟩ := h
  · omega
  · exact ⟨g, cap, h1, h2⟩
theorem row_slN {w : World} {base n size : Nat} {e : TypeId} {v : Value} {xs : List Value} (h : w.ownsRow base e size v n xs) : ∃ a c, v = .slice a n c := by
  obtain ⟨_, ⟨rfl, hn⟩ | ⟨g, cap, cur, rfl, _⟩⟩ := h
  · rw [hn]; exact ⟨_, _, rfl⟩
  · exact ⟨_, _, rfl⟩
theorem row_drew {w : World} {base n size : Nat} {e : TypeId} {v : Value} {xs : List Value} (h : w.ownsRow base e size v n xs) (m : Nat) : (w.drewN m).ownsRow base e size v n xs :=
  ownsRow_keeps h ((Keeps.refl (fun _ => False) w).drew m) (fun _ _ h => h)
theorem cellW_new (x : World) (a b : Value) (T : TypeId) : (x.alloc (.cells #[a, b] T)).cell? ⟨x.heap.size, 0, none⟩ = some a ∧ (x.alloc (.cells #[a, b] T)).cell? ⟨x.heap.size, 1, none⟩ = some b := by
  have h := heap_alloc_new x (.cells #[a, b] T)
  exact ⟨by rw [cell_of_row _ _ _ _ _ _ h]; rfl, by rw [cell_of_row _ _ _ _ _ _ h]; rfl⟩
theorem less_bsW (a b : List UInt8) : Op.bytesLess (bs a).toList (bs b).toList = decide (a < b) := by rw [bytesLess_eq, toList_data, toList_data, bs_list, bs_list]
/-- What Ask does behind its loops. -/
theorem askR_fin {w w' : World} {base base2 b : Nat} {long : Int} {L K : List Wd} {n : List UInt8} {t : Int} {j : Nat} {v : Value} (hj : lessW K n = j) (hB : SRef w base b long L) (hb : Below base2 w w') (h2 : w.heap.size ≤ base2) (hb2 : base ≤ base2)
    (hown : w'.ownsRow base2 119 2 v (j + 1 + (K.length - j)) (flatW (K.take j) ++ [.string (bs n), .int .i64 t] ++ flatW (K.drop j))) :
    Keeps (SRefS base w) w (w'.setCell ⟨b, 1, none⟩ v) ∧ SRef (w'.setCell ⟨b, 1, none⟩ v) base b long (insW ⟨n, t⟩ K) := by
  have hjl : j ≤ K.length := by rw [← hj]; exact lessW_le _ _
  have hflat : flatW (insW ⟨n, t⟩ K) = flatW (K.take j) ++ [.string (bs n), .int .i64 t] ++ flatW (K.drop j) := by
    rw [insW_take, show lessW K (Wd.mk n t).s = j from hj, flatW_append, List.append_assoc]
    rfl
  refine sref_store hB hb h2 hb2 ?_
  rw [hflat, insW_len, show K.length + 1 = j + 1 + (K.length - j) by omega]
  exact hown
end Go.Proofs.YtmjbhglmlbgkmaaDoor
