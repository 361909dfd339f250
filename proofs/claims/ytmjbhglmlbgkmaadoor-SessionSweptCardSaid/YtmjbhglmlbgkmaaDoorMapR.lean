/- Ranging over a map that is known as a list; delete. -/
import Derived.Test.YtmjbhglmlbgkmaaDoorMapV
import Derived.Maps.RangeWalk
namespace Go.Proofs.YtmjbhglmlbgkmaaDoor
open Go.RowKit Go.MapKept Go.ChangeMaps

/-- What is there once, by its number, is struck by it. -/
theorem perm_strike {α : Type} {f : α → Nat} : ∀ {l : List α}, (l.map f).Nodup → ∀ {e : α}, e ∈ l → l.Perm (e :: l.filter fun x => !(f x == f e))
  | [], _, _, h => by cases h
  | a :: l, hn, e, he => by
    rw [List.map_cons, List.nodup_cons] at hn
    obtain ⟨h1, h2⟩ := hn
    rcases List.mem_cons.1 he with rfl | he
    · have h3 : l.filter (fun x => !(f x == f e)) = l := List.filter_eq_self.2 fun x hx => by
        have : f x ≠ f e := fun h => h1 (h ▸ List.mem_map.2 ⟨x, hx, rfl⟩)
        simpa using this
      rw [List.filter_cons_of_neg (by simp), h3]
    · have h3 : f a ≠ f e := fun h => h1 (h ▸ List.mem_map.2 ⟨e, he, rfl⟩)
      rw [List.filter_cons_of_pos (by simpa using h3)]
      exact ((perm_strike h2 he).cons a).trans (List.Perm.swap e a _)
theorem erase_perm {α : Type} : ∀ {l : List α} {j : Nat} {e : α}, l[j]? = some e → l.Perm (e :: l.eraseIdx j)
  | [], _, _, h => by simp at h
  | a :: l, 0, e, h => by simp at h; subst h; simp
  | a :: l, j + 1, e, h => by
    rw [List.eraseIdx_cons_succ]
    exact ((erase_perm (by simpa using h)).cons a).trans (List.Perm.swap e a _)
def kvOf (e : MapEntry) : Value × Value := (e.key, e.val)
/-- A range over block r's map under way, its iterator at block i: what is still to come. -/
def RangeV (d : TypeDesc) (w : World) (r i : Nat) (l left : List (Value × Value)) : Prop :=
  ∃ es clock since seen c0, w.heap[r]? = some (.map es clock) ∧ Stamped es clock ∧ (∀ x ∈ es.toList, IsKey d x.key) ∧ es.toList.map kvOf = l ∧
    w.heap[i]? = some (.mapIter (some r) since seen c0) ∧ (∀ x ∈ es.toList, x.born < since) ∧ since ≤ c0 ∧ since ≤ clock ∧ (leftOf es seen).toList.map kvOf = left
section
variable {P : Program} {d : TypeDesc} {w w' : World} {r i : Nat} {l left : List (Value × Value)} {T K E : TypeId}
theorem RangeV.mapV (h : RangeV d w r i l left) : MapV d w r l := by
  obtain ⟨es, clock, _, _, _, hb, hs, hk, hl, _⟩ := h
  exact ⟨es, clock, hb, hs, hk, hl⟩
theorem RangeV.lt (h : RangeV d w r i l left) : i < w.heap.size := by
  obtain ⟨es, clock, _, _, _, _, _, _, _, hi, _⟩ := h
  exact (Array.getElem?_eq_some_iff.1 hi).1
theorem RangeV.ne (h : RangeV d w r i l left) : i ≠ r := by
  rintro rfl
  obtain ⟨es, clock, _, _, _, hb, _, _, _, hi, _⟩ := h
  rw [hb] at hi
  cases hi
theorem RangeV.keeps {S : Nat → Prop} (h : RangeV d w r i l left) (hk : Keeps S w w') (h1 : ¬ S r) (h2 : ¬ S i) : RangeV d w' r i l left := by
  obtain ⟨es, clock, since, seen, c0, hb, hs, hkk, hl, hi, rest⟩ := h
  exact ⟨es, clock, since, seen, c0, hk.obj hb h1, hs, hkk, hl, hk.obj hi h2, rest⟩
theorem RangeV.below (h : RangeV d w r i l left) (hb : Below w.heap.size w w') : RangeV d w' r i l left := h.keeps (S := fun _ => False) (Keeps.of_below hb) (fun h => h) (fun h => h)
theorem leftOf_push (es : Array MapEntry) (seen : Array Nat) (b : Nat) : (leftOf es (seen.push b)).toList = (leftOf es seen).toList.filter fun x => !(x.born == b) := by
  unfold leftOf
  rw [Array.toList_filter, Array.toList_filter, List.filter_filter]
  refine List.filter_congr fun x _ => ?_
  rw [contains_push]
  cases seen.contains x.born <;> cases (x.born == b) <;> rfl
/-- 'range m'. -/
theorem MapV.range (hT : P.underlying T = some (.map K E)) (h : MapV d w r l) :
    ∃ o, (Instr.range T (.map (some r))).run P w = .ok (.pointer (some ⟨w.heap.size, 0, none⟩)) (w.alloc o) ∧ RangeV d (w.alloc o) r w.heap.size l l := by
  obtain ⟨es, clock, hb, hs, hk, rfl⟩ := h
  have hlt := (Array.getElem?_eq_some_iff.1 hb).1
  refine ⟨_, run_range_map w T K E r es clock hT hb, es, clock, clock, #[], clock, ((MapKept.heap_alloc w _).2 r hlt).trans hb, hs, hk, rfl, (MapKept.heap_alloc w _).1, ((stamped_iff es clock).1 hs).1, Nat.le_refl _, Nat.le_refl _, ?_⟩
  have : leftOf es #[] = es := by simp [leftOf]
  rw [this]
  rfl
/-- The step. -/
theorem RangeV.next (h : RangeV d w r i l left) :
    (left = [] ∧ ∀ ty, (Instr.next (.pointer (some ⟨i, 0, none⟩)) false ty).run P w = .ok (.tuple #[.bool false]) w) ∨
    (left ≠ [] ∧ ∃ p left' w', left.Perm (p :: left') ∧ (∀ ty, (Instr.next (.pointer (some ⟨i, 0, none⟩)) false ty).run P w = .ok (.tuple #[.bool true, p.1, p.2]) w') ∧
      RangeV d w' r i l left' ∧ Keeps (· = i) w w' ∧ w'.heap.size = w.heap.size ∧ (Instr.entry (.pointer (some ⟨i, 0, none⟩))).run P w' = .ok (.tuple #[p.1, p.2]) w') := by
  have hne := h.ne
  obtain ⟨es, clock, since, seen, c0, hb, hs, hk, rfl, hi, hold, hsc, hsk, rfl⟩ := h
  by_cases h0 : (leftOf es seen).size = 0
  · refine .inl ⟨?_, fun ty => ?_⟩
    · rw [Array.eq_empty_of_size_eq_zero h0]
      rfl
    · rcases run_next_at (P := P) w ty i r since c0 seen es clock hi hb hold hsc with ⟨_, hrun⟩ | ⟨e, he, _⟩
      · exact hrun
      · rw [Array.eq_empty_of_size_eq_zero h0] at he
        cases he
  · refine .inr ⟨?_, ?_⟩
    · intro e
      have := congrArg List.length e
      simp at this
      exact h0 (by rw [this]; rfl)
    · rcases run_next_at (P := P) w 0 i r since c0 seen es clock hi hb hold hsc with ⟨h1, _⟩ | ⟨e, he, w1, hal, hrun⟩
      · exact absurd h1 h0
      · obtain ⟨hem, hes⟩ := mem_left he
        have hr1 : w1.heap[i]? = some (.mapIter (some r) since seen c0) := by rcases hal with rfl | rfl <;> exact hi
        have hb1 : w1.heap[r]? = some (.map es clock) := by rcases hal with rfl | rfl <;> exact hb
        have hset := heap_set (o' := .mapIter (some r) since (seen.push e.born) clock) hr1
        have hb' : (setBlock w1 i (.mapIter (some r) since (seen.push e.born) clock)).heap[r]? = some (.map es clock) := (hset.2 r (fun e1 => hne e1.symm)).trans hb1
        have hnd : ((leftOf es seen).toList.map (·.born)).Nodup := by
          have h1 := ((stamped_iff es clock).1 hs).2.1
          refine List.Sublist.nodup ?_ h1
          unfold leftOf
          rw [Array.toList_filter]
          exact List.filter_sublist.map _
        refine ⟨(e.key, e.val), _, _, ((perm_strike hnd he).map kvOf), fun _ => hrun, ⟨es, clock, since, seen.push e.born, clock, hb', hs, hk, rfl, hset.1, hold, hsk, hsk, by rw [leftOf_push]⟩, ?_, ?_, run_entry_at _ i r since seen es clock e hset.1 hb' hem ((stamped_iff es clock).1 hs).2.1⟩
        · rcases hal with rfl | rfl <;> exact ⟨rfl, rfl, rfl, by simp [setBlock], fun j _ hj => hset.2 j hj⟩
        · rcases hal with rfl | rfl <;> simp [setBlock]
/-- 'delete(m, k)' of a key that is there. -/
theorem run_delete_mem (hT : P.underlying T = some (.map K E)) (hK : P.underlying K = some d) (h : MapV d w r l) {k v : Value} (hkk : IsKey d k) (hm : (k, v) ∈ l) :
    ∃ w', (∀ ty, (Builtin.delete_ #[T, K] ty #[.map (some r), k]).run P w = .ok (.tuple #[]) w') ∧ Keeps (· = r) w w' ∧ w'.heap.size = w.heap.size ∧ ∃ l', l.Perm ((k, v) :: l') ∧ MapV d w' r l' := by
  obtain ⟨es, clock, hb, hs, hk, rfl⟩ := h
  obtain ⟨j, e, h1, hj, h3, h4⟩ := findNow_mem hs hk hkk hm
  have hlt : r < w.heap.size := (Array.getElem?_eq_some_iff.1 hb).1
  have hjl : j < es.size := (Array.getElem?_eq_some_iff.1 hj).1
  have hle : (es.eraseIdxIfInBounds j).toList = es.toList.eraseIdx j := by
    unfold Array.eraseIdxIfInBounds
    rw [dif_pos hjl, Array.toList_eraseIdx]
  refine ⟨setObjAt w r (.map (es.eraseIdxIfInBounds j) clock), fun ty => ?_, Keeps.ofSet _ _ _, by simp [setObjAt], (es.toList.eraseIdx j).map (fun e => (e.key, e.val)), ?_, ?_⟩
  · simp [Builtin.delete_, run_underlying hT, MapKept.run_getObj_map hb, MapKept.run_checkKey hK hkk, MapKept.run_findKey hK h1, MapKept.run_setObj_map _ hb, Result.andThen]
    rfl
  · have h5 := (erase_perm (l := es.toList) (j := j) (e := e) (by simpa using hj)).map (fun e => (e.key, e.val))
    rw [List.map_cons, h3, h4] at h5
    exact h5
  · refine ⟨es.eraseIdxIfInBounds j, clock, by simp [setObjAt, hlt], stamped_erase hs _, fun x hx => ?_, by rw [hle]⟩
    rw [hle] at hx
    exact hk x ((List.eraseIdx_sublist _ _).subset hx)
end
end Go.Proofs.YtmjbhglmlbgkmaaDoor
