/- A map from texts to numbers, as a list and as the library's data: both ways; what maps.DeleteFunc leaves of it. -/
import Derived.Test.YtmjbhglmlbgkmaaDoorKeys
import Derived.Test.YtmjbhglmlbgkmaaDoorTexts
import Derived.Shelf.SlMaps.DeleteFunc
namespace Go.Proofs.YtmjbhglmlbgkmaaDoor
open Go.RowKit Go.MapKept Go.Maps Go.Sort Go.WideElems

def pairVal (p : List UInt8 × Int) : Value × Value := (.string (bs p.1), .int .i64 p.2)
def pairLit (p : List UInt8 × Int) : Lit × DataW Unit := (.string p.1, .lit (.int .i64 p.2))
def backLit : Lit × DataW Unit → List UInt8 × Int
  | (.string s, .lit (.int _ x)) => (s, x)
  | _ => ([], 0)
theorem back_pair (p : List UInt8 × Int) : backLit (pairLit p) = p := rfl
theorem back_map (l : List (List UInt8 × Int)) : (l.map pairLit).map backLit = l := by
  rw [List.map_map]
  exact (List.map_congr_left fun p _ => back_pair p).trans (List.map_id _)
noncomputable def readI : Value → Option (DataW Unit × List MemPlace) := plainElem Tryd.prog 3
theorem readI_of (x : Int) (h : (Lit.int .i64 x).wf = true) : readI (.int .i64 x) = some (.lit (.int .i64 x), []) := by
  unfold readI plainElem
  rw [Tryd.underlying3]
  simp [h]
theorem perm_back {l m : List (List UInt8 × Int)} (h : (l.map pairLit).Perm (m.map pairLit)) : l.Perm m := by
  have := h.map backLit
  rwa [back_map, back_map] at this
theorem ownsMapI_of {w : World} {r : Nat} {l : List (List UInt8 × Int)} (h : MapV .string w r (l.map pairVal)) (hk : ∀ p ∈ l, p.1.length ≤ maxLen ∧ (Lit.int .i64 p.2).wf = true) (hn : l.length ≤ maxLen) :
    ∃ es : List (Lit × DataW Unit), w.ownsMap Tryd.prog 9 readI r l.length (.map es) ∧ es.Perm (l.map pairLit) := by
  obtain ⟨es, clock, hb, hs, hkk, hl⟩ := h
  have hsz : es.size = l.length := by simpa using congrArg List.length hl
  have hrd : ∀ x ∈ es.toList, ∃ p ∈ l, x.key = .string (bs p.1) ∧ x.val = .int .i64 p.2 ∧ rd (H := Unit) Tryd.prog 9 readI x = some (pairLit p) := by
    intro x hx
    have hm : (x.key, x.val) ∈ l.map pairVal := by rw [← hl]; exact List.mem_map.2 ⟨x, hx, rfl⟩
    obtain ⟨p, hp, he⟩ := List.mem_map.1 hm
    have h1 : x.key = .string (bs p.1) := (congrArg Prod.fst he).symm
    have h2 : x.val = .int .i64 p.2 := (congrArg Prod.snd he).symm
    refine ⟨p, hp, h1, h2, ?_⟩
    unfold WideElems.rd
    rw [h1, h2, WideMaps.keyOf_string_mk Tryd.underlying9 (by rw [bs_size]; exact (hk p hp).1), readI_of _ (hk p hp).2]
    rfl
  refine ⟨(es.toList.map (rg Tryd.prog 9 readI)).foldr DataW.insert [], ⟨es, clock, hb, ⟨by rw [hsz]; exact hn, hs, fun x hx => let ⟨p, _, _, _, h⟩ := hrd x hx; ⟨_, h⟩⟩, by rw [hsz]; exact Nat.le_refl _, rfl⟩, ?_⟩
  refine (foldr_insert_perm _).trans (List.Perm.of_eq ?_)
  have h1 : es.toList.map (rg Tryd.prog 9 readI) = (es.toList.map fun e => (e.key, e.val)).map (fun q => pairLit (keyBytes q.1, intOf q.2)) := by
    rw [List.map_map]
    refine List.map_congr_left fun x hx => ?_
    obtain ⟨p, _, h1, h2, h3⟩ := hrd x hx
    simp only [Function.comp, rg, h3, h1, h2]
    rfl
  rw [h1, hl, List.map_map]
  exact List.map_congr_left fun p _ => rfl
theorem mapI_of_owns {w : World} {r n : Nat} {es : List (Lit × DataW Unit)} (h : w.ownsMap Tryd.prog 9 readI r n (.map es)) :
    ∃ l : List (List UInt8 × Int), MapV .string w r (l.map pairVal) ∧ es.Perm (l.map pairLit) := by
  obtain ⟨ms, clock, hb, hF, _, hD⟩ := h
  injection hD with hD
  have hrd : ∀ x ∈ ms.toList, ∃ s a, x.key = .string s ∧ x.val = .int .i64 a ∧ rd (H := Unit) Tryd.prog 9 readI x = some (pairLit (s.data.toList, a)) := by
    intro x hx
    obtain ⟨y, hy⟩ := hF.reads x hx
    unfold WideElems.rd at hy
    cases hk : keyOf Tryd.prog 9 x.key with
    | none => rw [hk] at hy; cases hy
    | some kl =>
      rw [hk] at hy
      obtain ⟨s, hs⟩ := Maps.keyOf_string_inv Tryd.underlying9 hk
      cases hv : readI x.val with
      | none => rw [hv] at hy; cases hy
      | some z =>
        obtain ⟨a, ha, hz, _⟩ := plainElem_int_inv Tryd.underlying3 hv
        refine ⟨s, a, hs, ha, ?_⟩
        unfold WideElems.rd
        rw [hk, hv, hz]
        have hkl : kl = .string s.data.toList := by
          rw [hs] at hk
          simp [keyOf, mapKey, Tryd.underlying9] at hk
          first | exact hk.symm | exact hk.2.symm
        rw [hkl]
        rfl
  refine ⟨ms.toList.map fun e => (keyBytes e.key, intOf e.val), ⟨ms, clock, hb, hF.stamped, fun x hx => ?_, ?_⟩, ?_⟩
  · obtain ⟨s, a, h1, _⟩ := hrd x hx
    rw [h1]
    trivial
  · rw [List.map_map]
    refine List.map_congr_left fun x hx => ?_
    obtain ⟨s, a, h1, h2, _⟩ := hrd x hx
    simp only [Function.comp, h1, h2, pairVal, keyBytes]
    rw [bs_data]
    rfl
  · rw [hD]
    refine (foldr_insert_perm _).trans (List.Perm.of_eq ?_)
    rw [List.map_map]
    refine List.map_congr_left fun x hx => ?_
    obtain ⟨s, a, h1, h2, h3⟩ := hrd x hx
    simp only [Function.comp, rg, h3, h1, h2]
    rfl
end Go.Proofs.YtmjbhglmlbgkmaaDoor
