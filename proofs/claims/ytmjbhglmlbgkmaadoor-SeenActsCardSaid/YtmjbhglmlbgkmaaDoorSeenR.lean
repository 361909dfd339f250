/- Rows of one cell an element, beside what was seen; small lemmas. -/
import Derived.Test.YtmjbhglmlbgkmaaDoorWdArg
import Derived.Test.YtmjbhglmlbgkmaaDoorSaw
import Derived.Test.YtmjbhglmlbgkmaaDoorRowOwn
import Derived.Laws.NewBlocks
import Derived.StillTailTactics
namespace Go.Proofs.YtmjbhglmlbgkmaaDoor
open Go.RowKit Go.MapKept Go.Sort

theorem row_sl {w : World} {base n : Nat} {e : TypeId} {v : Value} {xs : List Value} (h : w.ownsRow base e 1 v n xs) : ∃ a c, v = .slice a n c := by
  obtain ⟨_, ⟨rfl, hn⟩ | ⟨g, cap, cur, rfl, _⟩⟩ := h
  · rw [hn]; exact ⟨_, _, rfl⟩
  · exact ⟨_, _, rfl⟩
theorem row_at {w : World} {base n c : Nat} {e : TypeId} {a : Option Addr} {xs : List Value} (h : w.ownsRow base e 1 (.slice a n c) n xs) (i : Nat) (hi : i < n) : ∃ g o, a = some ⟨g, o, none⟩ ∧ w.cell? ⟨g, o + i, none⟩ = xs[i]? := by
  obtain ⟨_, ⟨he, hn⟩ | ⟨g, cap, cur, he, hb, hg, hc, hm, hsz, ht⟩⟩ := h
  · omega
  · injection he with he
    subst he
    refine ⟨g, 0, rfl, ?_⟩
    rw [Nat.zero_add, cell_of_row w g i _ _ _ hg]
    have h1 : (cur.toList.take (n * 1))[i]? = xs[i]? := by rw [ht]
    rw [List.getElem?_take, if_pos (by omega)] at h1
    simpa only [Array.getElem?_toList] using h1
theorem row_ask {w w' : World} {base n b r : Nat} {e : TypeId} {v : Value} {xs : List Value} {long : Int} {L : List Wd} (h : w.ownsRow base e 1 v n xs) (hS : SeenAt w b r long L) (hk : Keeps (· = r) w w') : w'.ownsRow base e 1 v n xs :=
  ownsRow_keeps h hk (fun g hg he => by
    have he : g = r := he
    subst he
    obtain ⟨_, cs, hc⟩ := ownsRow_block h hg
    obtain ⟨_, l, ⟨es, c, hm, _⟩, _⟩ := hS
    rw [hc] at hm
    cases hm)
theorem row_below {w w' : World} {base n : Nat} {e : TypeId} {v : Value} {xs : List Value} (h : w.ownsRow base e 1 v n xs) (hb : Below w.heap.size w w') : w'.ownsRow base e 1 v n xs := ownsRow_keeps h (Keeps.of_below hb) (fun _ _ h => h)
theorem keeps_grown {w w' : World} {v : Value} (h : w.grownBy w' v.ownBlock) : Keeps (fun k => v.ownBlock = some k) w w' := ⟨h.os, h.tape, h.output, h.size, fun k hk hs => h.block k hk (fun e => hs e.symm)⟩
theorem row_other {w w' : World} {base n n2 : Nat} {e e2 : TypeId} {v v2 : Value} {xs xs2 : List Value} (h : w.ownsRow base e 1 v n xs) (h2 : w.ownsRow base e2 1 v2 n2 xs2) (hne : e ≠ e2) (hg : w.grownBy w' v.ownBlock) : w'.ownsRow base e2 1 v2 n2 xs2 :=
  ownsRow_keeps h2 (keeps_grown hg) (fun g hg2 hg1 => by
    obtain ⟨_, cs, hc⟩ := ownsRow_block h hg1
    obtain ⟨_, cs2, hc2⟩ := ownsRow_block h2 hg2
    rw [hc] at hc2
    injection hc2 with hc2
    injection hc2 with _ hc2
    exact hne hc2)
theorem seen_grown {w w' : World} {base n b r : Nat} {e : TypeId} {v : Value} {xs : List Value} {long : Int} {L : List Wd} (hS : SeenAt w b r long L) (h : w.ownsRow base e 1 v n xs) (hne : e ≠ 112) (hg : w.grownBy w' v.ownBlock) : SeenAt w' b r long L :=
  hS.keeps (keeps_grown hg)
    (fun hb => by
      obtain ⟨_, cs, hc⟩ := ownsRow_block h hb
      obtain ⟨hS, _⟩ := hS
      rw [hc] at hS
      injection hS with hS
      injection hS with _ hS
      exact hne hS)
    (fun hb => by
      obtain ⟨_, cs, hc⟩ := ownsRow_block h hb
      obtain ⟨_, l, ⟨es, c, hm, _⟩, _⟩ := hS
      rw [hc] at hm
      cases hm)
def wS (p : Wd) : Value := .string (bs p.s)
def wT (p : Wd) : Value := .int .i64 p.t
theorem sinfo : (Tryd.prog.info? 9).map (fun i => (i.zero, i.size, i.bytes)) = some (some (.string ⟨#[]⟩), 1, 16) := by kernel_rfl
theorem iinfo : (Tryd.prog.info? 3).map (fun i => (i.zero, i.size, i.bytes)) = some (some (.int .i64 0), 1, 8) := by kernel_rfl
theorem bs_beq (a c : List UInt8) : ((bs a).toList == (bs c).toList) = (a == c) := by rw [toList_data, toList_data, bs_list, bs_list]
end Go.Proofs.YtmjbhglmlbgkmaaDoor
