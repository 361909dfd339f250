/- The sorted keys of a map: slices.Sorted(maps.Keys(m)) for a map that is known as a list. -/
import Derived.Test.YtmjbhglmlbgkmaaDoorMapV
import Derived.Test.YtmjbhglmlbgkmaaDoorShelf
import Derived.Test.YtmjbhglmlbgkmaaDoorBook
namespace Go.Proofs.YtmjbhglmlbgkmaaDoor
open Go.RowKit Go.MapKept Go.Maps Go.Sort Go.WideElems

def keyBytes : Value → List UInt8
  | .string s => s.data.toList
  | _ => []
/-- How an element is read where only the keys are asked for. -/
def readNone : Value → Option (DataW Unit × List MemPlace) := fun _ => some (.nil, [])
theorem insert_perm (x : Lit × DataW Unit) : ∀ l, (DataW.insert x l).Perm (x :: l)
  | [] => List.Perm.refl _
  | y :: r => by
    unfold DataW.insert
    split
    · exact List.Perm.refl _
    · exact ((insert_perm x r).cons y).trans (List.Perm.swap x y r)
theorem foldr_insert_perm : ∀ l : List (Lit × DataW Unit), (l.foldr DataW.insert []).Perm l
  | [] => List.Perm.refl _
  | x :: l => (insert_perm x _).trans ((foldr_insert_perm l).cons x)
theorem ownsMap_of {w : World} {r : Nat} {l : List (Value × Value)} (h : MapV .string w r l) (hk : ∀ p ∈ l, (keyBytes p.1).length ≤ maxLen) (hn : l.length ≤ maxLen) :
    ∃ D : DataW Unit, w.ownsMap Tryd.prog 9 readNone r l.length D ∧ Maps.size D = l.length ∧ (strKeys D).Perm (l.map fun p => keyBytes p.1) := by
  obtain ⟨es, clock, hb, hs, hkk, rfl⟩ := h
  have hsz : es.size = (es.toList.map fun e => (e.key, e.val)).length := by simp
  have hkey : ∀ x ∈ es.toList, keyOf Tryd.prog 9 x.key = some (.string (keyBytes x.key)) := by
    intro x hx
    have h1 := hkk x hx
    have h2 := hk (x.key, x.val) (List.mem_map.2 ⟨x, hx, rfl⟩)
    obtain ⟨k, v, b⟩ := x
    cases k <;> simp only [IsKey] at h1
    rename_i s
    exact WideMaps.keyOf_string_mk Tryd.underlying9 (by
      have h3 : s.data.toList.length ≤ maxLen := h2
      rwa [Array.length_toList] at h3)
  have hrd : ∀ x ∈ es.toList, WideElems.rd (H := Unit) Tryd.prog 9 readNone x = some (.string (keyBytes x.key), .nil) := by
    intro x hx
    unfold WideElems.rd
    rw [hkey x hx]
    rfl
  refine ⟨.map ((es.toList.map (WideElems.rg Tryd.prog 9 readNone)).foldr DataW.insert []), ⟨es, clock, hb, ⟨by rw [hsz]; exact hn, hs, fun x hx => ⟨_, hrd x hx⟩⟩, by rw [hsz]; exact Nat.le_refl _, rfl⟩, ?_, ?_⟩
  · show (List.foldr DataW.insert [] _).length = _
    rw [(foldr_insert_perm _).length_eq]
    simp
  · unfold strKeys
    refine ((foldr_insert_perm _).map _).trans ?_
    rw [List.map_map, List.map_map]
    refine List.Perm.of_eq (List.map_congr_left fun x hx => ?_)
    simp only [Function.comp, WideElems.rg, hrd x hx]
    rfl
end Go.Proofs.YtmjbhglmlbgkmaaDoor
