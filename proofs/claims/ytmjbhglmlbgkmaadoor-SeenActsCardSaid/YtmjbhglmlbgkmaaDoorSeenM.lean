/- What was seen, in memory: a word's look-up, a store, the number; maps.DeleteFunc of those that are gone. -/
import Derived.Test.YtmjbhglmlbgkmaaDoorSeenP
import Derived.Test.YtmjbhglmlbgkmaaDoorMapI
import Derived.Test.YtmjbhglmlbgkmaaDoorShelf2
namespace Go.Proofs.YtmjbhglmlbgkmaaDoor
open Go.RowKit Go.MapKept Go.Maps

def wdPair (p : Wd) : List UInt8 × Int := (p.s, p.t)
def SeenAt (w : World) (b r : Nat) (long : Int) (L : List Wd) : Prop :=
  w.heap[b]? = some (.cells #[.int .i64 long, .map (some r)] 112 (0, 0)) ∧ ∃ l : List (List UInt8 × Int), MapV .string w r (l.map pairVal) ∧ l.Perm (L.map wdPair)
section
variable {w w' : World} {b r : Nat} {long : Int} {L : List Wd}
theorem SeenAt.ne (h : SeenAt w b r long L) : b ≠ r := by
  rintro rfl
  obtain ⟨h1, l, ⟨es, c, h2, _⟩, _⟩ := h
  rw [h1] at h2
  cases h2
theorem SeenAt.at0 (h : SeenAt w b r long L) : w.cell? ⟨b, 0, none⟩ = some (.int .i64 long) := by rw [cell_of_row _ _ _ _ _ _ h.1]; rfl
theorem SeenAt.at1 (h : SeenAt w b r long L) : w.cell? ⟨b, 1, none⟩ = some (.map (some r)) := by rw [cell_of_row _ _ _ _ _ _ h.1]; rfl
theorem SeenAt.keeps {S : Nat → Prop} (h : SeenAt w b r long L) (hk : Keeps S w w') (h1 : ¬ S b) (h2 : ¬ S r) : SeenAt w' b r long L := by
  obtain ⟨hb, l, hm, hp⟩ := h
  exact ⟨hk.obj hb h1, l, hm.keeps hk h2, hp⟩
theorem SeenAt.below (h : SeenAt w b r long L) (hb : Below w.heap.size w w') : SeenAt w' b r long L := h.keeps (S := fun _ => False) (Keeps.of_below hb) (fun h => h) (fun h => h)
theorem SeenAt.lt (h : SeenAt w b r long L) : b < w.heap.size ∧ r < w.heap.size := by
  obtain ⟨hb, l, hm, _⟩ := h
  exact ⟨(Array.getElem?_eq_some_iff.1 hb).1, hm.lt⟩
theorem bs_inj' {a c : List UInt8} (h : bs a = bs c) : a = c := by rw [← bs_list a, h, bs_list]
theorem SeenAt.lookup_some (h : SeenAt w b r long L) {n : List UInt8} {p : Wd} (hf : findW L n = some p) :
    (Instr.lookup 110 (.map (some r)) (.string (bs n)) true).run Tryd.prog w = .ok (.tuple #[.int .i64 p.t, .bool true]) w := by
  obtain ⟨hb, l, hm, hp⟩ := h
  obtain ⟨h1, h2⟩ := findW_some hf
  refine (run_lookup_mem (k := .string (bs n)) Tryd.underlying110 Tryd.underlying9 hm trivial (List.mem_map.2 ⟨wdPair p, hp.mem_iff.2 (List.mem_map.2 ⟨p, h1, rfl⟩), ?_⟩)).1
  rw [← h2]
  rfl
theorem not_mem_of {l : List (List UInt8 × Int)} (hp : l.Perm (L.map wdPair)) {n : List UInt8} (hf : findW L n = none) (v : Value) : (Value.string (bs n), v) ∉ l.map pairVal := by
  intro hm
  obtain ⟨q, hq, he⟩ := List.mem_map.1 hm
  obtain ⟨p, hpL, rfl⟩ := List.mem_map.1 (hp.mem_iff.1 hq)
  have h1 := congrArg Prod.fst he
  simp only [pairVal, wdPair] at h1
  injection h1 with h1
  exact findW_none hf p hpL (bs_inj' h1)
theorem SeenAt.lookup_none (h : SeenAt w b r long L) {n : List UInt8} (hf : findW L n = none) :
    (Instr.lookup 110 (.map (some r)) (.string (bs n)) true).run Tryd.prog w = .ok (.tuple #[.int .i64 0, .bool false]) w := by
  obtain ⟨hb, l, hm, hp⟩ := h
  exact run_lookup_not (k := .string (bs n)) Tryd.underlying110 Tryd.underlying9 hm trivial (not_mem_of hp hf) (by kernel_rfl)
theorem SeenAt.update_none (h : SeenAt w b r long L) {n : List UInt8} (hf : findW L n = none) (t : Int) :
    ∃ w', (Instr.mapUpdate 110 (.map (some r)) (.string (bs n)) (.int .i64 t)).run Tryd.prog w = .ok () w' ∧ Keeps (· = r) w w' ∧ SeenAt w' b r long (insW ⟨n, t⟩ L) := by
  have hne := h.ne
  obtain ⟨hb, l, hm, hp⟩ := h
  obtain ⟨w', hu, hk, _, hm'⟩ := run_update_not (u := .int .i64 t) Tryd.underlying110 Tryd.underlying9 hm (k := .string (bs n)) trivial (not_mem_of hp hf)
  refine ⟨w', hu, hk, hk.obj hb hne, l ++ [(n, t)], ?_, ?_⟩
  · rw [List.map_append]
    exact hm'
  · refine ((hp.append_right _).trans ?_).trans ((insW_perm ⟨n, t⟩ L).map wdPair).symm
    exact List.perm_append_singleton _ _
theorem SeenAt.len (h : SeenAt w b r long L) : ∃ es c, w.heap[r]? = some (.map es c) ∧ es.size = L.length := by
  obtain ⟨_, l, ⟨es, c, hb, _, _, hl⟩, hp⟩ := h
  refine ⟨es, c, hb, ?_⟩
  have h1 := hp.length_eq
  have h2 := congrArg List.length hl
  simp at h1 h2
  omega
theorem SeenAt.run_len (h : SeenAt w b r long L) :
    (Builtin.len_ #[110] 3 #[.map (some r)]).run Tryd.prog w = .ok (.int .i64 L.length) w := by
  obtain ⟨es, c, h1, h2⟩ := h.len
  rw [← h2]
  simp [Builtin.len_, MapKept.run_getObj_map h1, run_underlying Tryd.underlying110, Result.andThen, go_sem]
end
theorem keeps_of_grown {w w' : World} {r : Nat} (h : w.grownBy w' (some r)) : Keeps (· = r) w w' :=
  ⟨h.os, h.tape, h.output, h.size, fun k hk hs => h.block k hk (fun e => hs (by cases e; rfl))⟩
theorem wf_time {t : Int} (h : 0 ≤ t ∧ t ≤ 1000000) : (Lit.int .i64 t).wf = true := by
  have h1 := h.1
  have h2 := h.2
  have e1 : IntKind.i64.min = -9223372036854775808 := by kernel_rfl
  have e2 : IntKind.i64.max = 9223372036854775807 := by kernel_rfl
  simp only [Lit.wf, Bool.and_eq_true, decide_eq_true_eq, e1, e2]
  omega
/-- maps.DeleteFunc of those whose time is below lo. -/
theorem del_seen {w : World} {b r : Nat} {long : Int} {L : List Wd} (g : Nat) (cb : Array Value) (lo : Int) (hS : SeenAt w b r long L) (hG : GoodW L) (hw : ∀ p ∈ L, p.s.length ≤ maxLen)
    (eg : ∀ args w, (callFunc g args).run Tryd.prog w = .ok (.enter g args) w)
    (hdel : ∀ (W : World) (k : List UInt8) (t : Int), Keeps (· = r) w W → Calls Tryd.prog g (#[.string (bs k), .int .i64 t] ++ cb) W fun e w' => e = .returned (.bool (decide (t < lo))) ∧ W.grownBy w' none) :
    Calls Tryd.prog 56 #[.map (some r), .func (.func g) #[] cb] w fun e w' => e = .returned (.tuple #[]) ∧ Keeps (· = r) w w' ∧ SeenAt w' b r long (keptW lo L) := by
  have hne := hS.ne
  obtain ⟨hb, l, hm, hp⟩ := hS
  have hk : ∀ p ∈ l, p.1.length ≤ maxLen ∧ (Lit.int .i64 p.2).wf = true := by
    intro p hpl
    obtain ⟨q, hq, rfl⟩ := List.mem_map.1 (hp.mem_iff.1 hpl)
    exact ⟨hw q hq, wf_time (hG.time q hq)⟩
  have hlen : l.length ≤ maxLen := by
    have := hp.length_eq
    have := hG.many
    simp at *
    unfold maxLen
    omega
  obtain ⟨es, hown, hes⟩ := ownsMapI_of hm hk hlen
  refine (AnyDf.maps_DeleteFunc Tryd.delf56 (string_keyed Tryd.underlying9) readI (fun _ d => match d with | .lit (.int _ x) => decide (x < lo) | _ => false) g cb r l.length (.map es) w eg hown ?_).mono ?_
  · intro W key val kl yd yp hW hkey hval
    obtain ⟨s, hs⟩ := Maps.keyOf_string_inv Tryd.underlying9 hkey
    obtain ⟨a, ha, hz, _⟩ := plainElem_int_inv Tryd.underlying3 hval
    subst hs ha
    obtain ⟨rfl, rfl⟩ := Prod.mk.inj hz
    have := hdel W s.data.toList a (keeps_of_grown hW)
    rwa [bs_data] at this
  · rintro e w' ⟨rfl, hown', hgrow⟩
    have hkeep := keeps_of_grown hgrow
    refine ⟨rfl, hkeep, hkeep.obj hb hne, ?_⟩
    obtain ⟨l', hm', hp'⟩ := mapI_of_owns (es := es.filter _) hown'
    refine ⟨l', hm', ?_⟩
    have h1 : (l.filter fun p => !decide (p.2 < lo)).map pairLit = (l.map pairLit).filter (fun p => !(match p.2 with | .lit (.int _ x) => decide (x < lo) | _ => false)) := by
      rw [List.filter_map]
      rfl
    have h2 := perm_back (hp'.symm.trans ((hes.filter _).trans (List.Perm.of_eq h1.symm)))
    refine h2.trans ((hp.filter _).trans (List.Perm.of_eq ?_))
    unfold keptW
    rw [List.filter_map]
    rfl
end Go.Proofs.YtmjbhglmlbgkmaaDoor
