/- ReadB, Range, Split -/
import Derived.Test.YtcnadjdijolboaaGreatDoorMg3
import Derived.Test.YtcnadjdijolboaaGreatDoorMg9
import Derived.Test.YtcnadjdijolboaaGreatDoorMg5
import Derived.Test.YtcnadjdijolboaaGreatDoorMg17
import Derived.Test.YtcnadjdijolboaaGreatDoorMg18
import Derived.RangeFuncBox
import Derived.RangeFuncLeaves
import Derived.RangeFuncCalls
import Derived.RangeFuncNested
import Derived.Test.YtcnadjdijolboaaGreatDoorMg8
import Derived.Test.YtcnadjdijolboaaGreatDoorShelf6
import Derived.Shelf.Abstract
import Derived.Shelf.RegionOpen
import Derived.WalkKit
import Derived.OwnWalkIn
import Derived.TacticsInMore
import Derived.LoopNIn
import Derived.LoopIn
import Derived.Lib.IndexLaws
import Derived.Lib.IndexBytes
/- Floors are read as they were written; what a join says: plain: no program in sight. -/
namespace Go.Proofs.YtcnadjdijolboaaGreatDoor

theorem small_no {c : UInt8} (h : smallB c = true) : c ≠ 44 ∧ c ≠ 58 := by
  refine ⟨fun e => ?_, fun e => ?_⟩ <;> (rw [e] at h; revert h; decide)
theorem digB_no {c : UInt8} (h : digB c = true) : c ≠ 44 ∧ c ≠ 58 := by
  refine ⟨fun e => ?_, fun e => ?_⟩ <;> (rw [e] at h; revert h; decide)
theorem mid_get (a b : List UInt8) (c : UInt8) (h : a.length < (a ++ c :: b).length) : (a ++ c :: b)[a.length]'h = c := by simp
theorem fore_get (a b : List UInt8) (q : Nat) (hq : q < a.length) (h : q < (a ++ b).length) : (a ++ b)[q]'h = a[q] := List.getElem_append_left hq
theorem who_no {f : Flo} (h : oneF f = 0) : (44 : UInt8) ∉ f.who ∧ (58 : UInt8) ∉ f.who := by
  rcases (oneF_zero h).1 with hw | hw
  · rw [hw]; decide
  · have := ((isName_iff _).1 hw).2.2
    exact ⟨fun hm => (small_no (this _ hm)).1 rfl, fun hm => (small_no (this _ hm)).2 rfl⟩
theorem itoa_no {n : Int} (h0 : 0 ≤ n) : (44 : UInt8) ∉ Lib.itoa n := fun hm => (digB_no (List.all_eq_true.1 (itoa_digits h0) _ hm)).1 rfl
theorem floW_comma {f : Flo} (h : oneF f = 0) : (44 : UInt8) ∉ floW f := by
  unfold floW
  intro hm
  rcases List.mem_append.1 hm with h1 | h1
  · exact (who_no h).1 h1
  · rcases List.mem_cons.1 h1 with h2 | h2
    · cases h2
    · exact itoa_no (by have := (oneF_zero h).2; omega) h2
theorem piece_floW {f : Flo} (h : oneF f = 0) : pieceF (floW f) = some f := by
  obtain ⟨hw, he⟩ := oneF_zero h
  have hk : f.who.length < (floW f).length := by unfold floW; rw [List.length_append, List.length_cons]; omega
  have hc : (floW f)[f.who.length] = 58 := mid_get _ _ _ hk
  have hb : ∀ q (hq : q < (floW f).length), q < f.who.length → (floW f)[q] ≠ 58 := fun q hq hql hh => by
    have : (floW f)[q] = f.who[q] := fore_get _ _ q hql hq
    rw [this] at hh
    exact (who_no h).2 (hh ▸ List.getElem_mem hql)
  have hd : (floW f).drop (f.who.length + 1) = Lib.itoa f.ep := by
    unfold floW
    rw [List.drop_append]
    simp
  have ht : (floW f).take f.who.length = f.who := by
    unfold floW
    rw [List.take_append]
    simp
  rw [cut_yes hk hc hb, hd, ht, number_itoa (by omega) (by omega) (by omega), if_pos rfl]
theorem vals_floW : ∀ L : List Flo, (∀ f ∈ L, oneF f = 0) → allF (L.map floW) ∧ valsF (L.map floW) = L
  | [], _ => ⟨allF_nil, rfl⟩
  | f :: L, h => by
    obtain ⟨h1, h2⟩ := vals_floW L (fun g hg => h g (List.mem_cons_of_mem _ hg))
    have h3 := piece_floW (h f (by simp))
    refine ⟨fun w hw => ?_, ?_⟩
    · rcases List.mem_cons.1 hw with h4 | h4
      · rw [h4, h3]
        exact fun e => by cases e
      · exact h1 w h4
    · unfold valsF at h2 ⊢
      rw [List.map_cons, List.filterMap_cons, h3]
      dsimp only
      rw [h2]
/-- What was written is read. -/
theorem read_text {L : List Flo} (hg : GoodF L) : readF (textL L) = (L, 0, -1) := by
  have hc := check_goodF hg
  unfold textL
  by_cases he : L.isEmpty = true
  · rw [if_pos he, List.isEmpty_iff.1 he]
    unfold readF
    rw [if_pos rfl]
  · rw [if_neg he]
    have hne : L ≠ [] := fun h => he (List.isEmpty_iff.2 h)
    have hcut : cutL 44 (glue 44 (L.map floW)) = L.map floW := cut_glue 44 _ (by simpa using hne) (fun w hw => by
      obtain ⟨f, hf, rfl⟩ := List.mem_map.1 hw
      exact floW_comma (hg.g.one f hf))
    obtain ⟨h1, h2⟩ := vals_floW L hg.g.one
    have hnd : glue 44 (L.map floW) ≠ [45] := fun h => by
      have h3 : cutL 44 [45] = L.map floW := by rw [← h, hcut]
      cases L with
      | nil => exact hne rfl
      | cons f r =>
        have h4 : (floW f) = [45] := by
          have : cutL 44 [(45 : UInt8)] = [[45]] := by decide
          rw [this, List.map_cons] at h3
          injection h3 with h3 _
          exact h3.symm
        have h5 : (floW f).length = 1 := by rw [h4]; rfl
        unfold floW at h5
        rw [List.length_append, List.length_cons] at h5
        have := itoa_pos (n := f.ep) (by have := (oneF_zero (hg.g.one f (by simp))).2; omega)
        omega
    unfold readF
    rw [if_neg hnd, hcut, if_pos h1, h2, hc, if_pos rfl]
/-- A join with itself is there, and is the same. -/
theorem joinF_self {a : List Flo} (h : GoodF a) {r : List Flo × Nat × Int} (hr : JoinF a a r) : r = (a, 0, -1) := by
  have hc := check_goodF h
  cases hr with
  | one h1 => rw [hc] at h1; exact absurd rfl h1
  | two _ h1 => rw [hc] at h1; exact absurd rfl h1
  | full _ _ J hJ hl =>
    have := hJ.self h.g
    subst this
    have := h.len
    omega
  | good _ _ J hJ hl => rw [hJ.self h.g]
/-- The first with the second is the second with the first. -/
theorem joinF_comm {a b : List Flo} {r s : List Flo × Nat × Int} (ha : GoodF a) (hb : GoodF b) (hr : JoinF a b r) (hs : JoinF b a s) : s = r := by
  have hca := check_goodF ha
  have hcb := check_goodF hb
  have key : JoinF b a r := by
    cases hr with
    | one h1 => rw [hca] at h1; exact absurd rfl h1
    | two _ h1 => rw [hcb] at h1; exact absurd rfl h1
    | full h1 h2 J hJ hl => exact .full h2 h1 J hJ.comm hl
    | good h1 h2 J hJ hl => exact .good h2 h1 J hJ.comm hl
  exact hs.one_ans key
/-- Where it goes well: right, and lets pass what both do; joined once more nothing is new. -/
theorem joinF_good {a b : List Flo} {r : List Flo × Nat × Int} (ha : GoodF a) (hb : GoodF b) (hr : JoinF a b r) (h0 : r.2.1 = 0) : GoodF r.1 ∧ r.2.2 = -1 ∧ (∀ n, ofF r.1 n = max (ofF a n) (ofF b n)) ∧ ∀ s, JoinF r.1 b s → s = (r.1, 0, -1) := by
  have hca := check_goodF ha
  have hcb := check_goodF hb
  cases hr with
  | one h1 => rw [hca] at h1; exact absurd rfl h1
  | two _ h1 => rw [hcb] at h1; exact absurd rfl h1
  | full h1 h2 J hJ hl => cases h0
  | good h1 h2 J hJ hl =>
    have hg : GoodF J := ⟨hJ.g, hl⟩
    refine ⟨hg, rfl, hJ.of_, fun s hs => ?_⟩
    have hcJ := check_goodF hg
    cases hs with
    | one h3 => rw [hcJ] at h3; exact absurd rfl h3
    | two _ h3 => rw [hcb] at h3; exact absurd rfl h3
    | full _ _ K hK hl2 =>
      have := hJ.again hK
      subst this
      have := hg.len
      omega
    | good _ _ K hK hl2 => rw [hJ.again hK]
theorem joinF_bad {a b : List Flo} {r : List Flo × Nat × Int} (hr : JoinF a b r) (h0 : r.2.1 ≠ 0) : r.1 = [] := by
  cases hr with
  | one h1 => rfl
  | two _ h1 => rfl
  | full h1 h2 J hJ hl => rfl
  | good h1 h2 J hJ hl => exact absurd rfl h0
/-- Joined with one: raised. -/
theorem joinF_one {a : List Flo} {f : Flo} {r : List Flo × Nat × Int} (hz : (raiseF a f).2.1 = 0) (hr : JoinF a [f] r) : r = raiseF a f := by
  obtain ⟨ha, hf, hu, he⟩ := raiseF_zero hz
  have hca := check_goodF ha
  have hcf : checkF [f] = (0, -1) := check_goodF ⟨⟨by simpa using hf, by simp, fun g hg hs => by
    rw [List.mem_singleton.1 hg] at hs ⊢
    rw [topF_cons, if_neg hs]
    have := (oneF_zero hf).2
    omega⟩, by simp⟩
  rw [he]
  cases hr with
  | one h1 => rw [hca] at h1; exact absurd rfl h1
  | two _ h1 => rw [hcf] at h1; exact absurd rfl h1
  | full h1 h2 J hJ hl =>
    have := hJ.one ha.g hf
    subst this
    have := hu.len
    omega
  | good h1 h2 J hJ hl => rw [hJ.one ha.g hf]
theorem raiseF_rise {a : List Flo} {f : Flo} (hz : (raiseF a f).2.1 = 0) (n : List UInt8) : GoodF (raiseF a f).1 ∧ ¬ ofF (raiseF a f).1 n < ofF a n ∧ ¬ ofF (raiseF a f).1 f.who < f.ep := by
  obtain ⟨ha, hf, hu, he⟩ := raiseF_zero hz
  obtain ⟨_, hq⟩ := upF_all ha.g hf
  rw [he]
  refine ⟨hu, ?_, ?_⟩
  · dsimp only
    rw [hq]
    split <;> omega
  · dsimp only
    rw [hq, if_pos (.inr rfl)]
    omega
end Go.Proofs.YtcnadjdijolboaaGreatDoor

/- A loop over an iterator that keeps one cell of its own: the statement's law, for a function that stands alone (no round around it). -/
namespace Go.Proofs.YtcnadjdijolboaaGreatDoor
open Go.RowKit

/-- What the iterator owes: it yields the pieces in their order; between two rounds it writes its own cell alone. -/
def GivesC {α : Type} (P : Program) (gf : Nat) (lb : Array Value) (enc : α → Value) (B : Addr) (Kp : World → World → Prop) (xs : List α) (w : World) : Prop :=
  ∀ (l : Nat) (J Jx : List α → World → Prop) (W : World), Kp w W →
    (∀ pre A v, J pre A → J pre (A.setCell B v)) → (∀ pre A v, Jx pre A → Jx pre (A.setCell B v)) →
    (∀ pre x A, J pre A → pre ++ [x] <+: xs → YieldAt Fence.wide 0 P l #[enc x] A fun e W' =>
      (e = .returned (.bool true) ∧ J (pre ++ [x]) W' ∧ Kp A W') ∨ (e = .returned (.bool false) ∧ Jx (pre ++ [x]) W')) →
    J [] W → CallsIn Fence.wide 0 P gf (#[.func (.yield l) #[] #[]] ++ lb) W fun e W' => (∃ v, e = .returned v) ∧ (J xs W' ∨ ∃ pre, pre <+: xs ∧ Jx pre W')

/-- How a round is left. -/
def roundC {α : Type} (Kp : World → World → Prop) (I Ix : List α → World → Prop) (xs : List α) (W : World) : Exit → Act → World → Prop
  | .normal, _, W' => KeepsOthers W W' ∧ Kp W W' ∧ I xs W'
  | .ret, _, W' => KeepsOthers W W' ∧ Ix xs W'
  | _, _, _ => False

theorem set_loop {W : World} {k : Nat} {o : Obj} (B : Addr) (v : Value) (h : W.heap[k]? = some o) (ho : o.isCells = false) : (W.setCell B v).heap[k]? = some o := (KeepsOthers.setCell W B v).same k o h ho

theorem wpIn_rangeC {α : Type} {P : Program} {g : Operand} {p : Tmp} {assign body : Code} {Q : Exit → Act → World → Prop} {a : Act} {w : World} {gf : Nat} {lb : Array Value}
    (hg : a.eval g = .func (.func gf) #[] lb) (eg : ∀ args w, (callFunc gf args).run P w = .ok (.enter gf args) w)
    {enc : α → Value} {B : Addr} {Kp : World → World → Prop} {xs : List α} (hit : GivesC P gf lb enc B Kp xs w)
    (hKr : Kp w w) (hKt : ∀ {X Y Z : World}, Kp X Y → Kp Y Z → Kp X Z) (hKa : ∀ (X : World) (o : Obj), Kp X (X.alloc o)) (hKo : ∀ (X : World) (l : Nat) (o o' : Obj), X.heap[l]? = some o → o.isCells = false → Kp X (X.putObj l o'))
    (I Ix : List α → World → Prop) (hI : OwnFrom w.heap.size I) (hIx : OwnFrom w.heap.size Ix) (hIs : ∀ pre X v, I pre X → I pre (X.setCell B v)) (hIxs : ∀ pre X v, Ix pre X → Ix pre (X.setCell B v)) (h0 : I [] w) (a₁ : α → Act)
    (hassign : ∀ (l : Nat) (x : α) (W : World) (K : Act → World → Prop), K (a₁ x) W → assign.wpIn (Fence.wide.inRound l) 0 P (Exit.then K (fun _ _ _ => False)) { tmps := a.tmps.setIfInBounds p (enc x), defers := [] } W)
    (hbody : ∀ (l : Nat) (pre : List α) (x : α) (W : World), I pre W → pre ++ [x] <+: xs → body.wpIn (Fence.wide.inRound l) 0 P (roundC Kp I Ix (pre ++ [x]) W) (a₁ x) W)
    (hdone : ∀ (D : Nat) (W : World), w.heap.size ≤ D → I xs W → W.heap[D]? = some (.deferred (some [])) → Q .normal { a with defers := { target := .collected D, args := #[] } :: a.defers } W)
    (hstop : ∀ (D : Nat) (pre : List α) (W : World), w.heap.size ≤ D → pre <+: xs → Ix pre W → W.heap[D]? = some (.deferred (some [])) → Code.ret.wpIn Fence.wide 0 P Q { a with defers := { target := .collected D, args := #[] } :: a.defers } W) :
    (Code.rangeFunc g #[p] assign body).wpIn Fence.wide 0 P Q a w := by
  refine wpIn_rangeFunc fun fn _ => ?_
  obtain ⟨rc, hrc⟩ : ∃ rc : LoopState → Option Code → Loop, rc = fun st pe => { state := st, pending := pe, fn, tmps := a.tmps, params := #[p], assign, body, defers := w.heap.size } := ⟨_, rfl⟩
  obtain ⟨W1, hW1⟩ : ∃ W1, (w.alloc (.deferred (some []))).alloc (.loop (rc .ready none)) = W1 := ⟨_, rfl⟩
  have hd1 : W1.heap[w.heap.size]? = some (.deferred (some [])) := by
    rw [← hW1]
    exact (Below.heap_alloc _ _ _ (by simp)).trans (World.alloc_heap_new w _)
  have hl1 : W1.heap[w.heap.size + 1]? = some (.loop (rc .ready none)) := by
    rw [← hW1]
    have := World.alloc_heap_new (w.alloc (.deferred (some []))) (.loop (rc .ready none))
    rwa [World.size_alloc] at this
  have hk1 : Kp w W1 := by rw [← hW1]; exact hKt (hKt hKr (hKa _ _)) (hKa _ _)
  have hi1 : I [] W1 := by rw [← hW1]; exact hI.alloc _ (hI.alloc _ h0)
  refine ⟨w.heap.size + 1, [{ target := .collected w.heap.size, args := #[] }], W1, { target := .fn (.func gf) lb, args := #[.func (.yield (w.heap.size + 1)) #[] #[]] }, W1, gf, #[.func (.yield (w.heap.size + 1)) #[] #[]] ++ lb, W1, ?_, ?_, fun _ _ => trivial, ?_, fun h => by simp [Fence.wide] at h, ?_⟩
  · rw [← hW1, hrc]
    exact run_enterLoop_outer _ _ _ _ _
  · simp only [resolve, hg]
    simp [go_sem]
  · simp [invoke, go_sem, eg]
  refine (hit (w.heap.size + 1) (fun pre W => I pre W ∧ W.heap[w.heap.size + 1]? = some (.loop (rc .ready none)) ∧ W.heap[w.heap.size]? = some (.deferred (some [])))
    (fun pre W => Ix pre W ∧ W.heap[w.heap.size + 1]? = some (.loop (rc .done (some .ret))) ∧ W.heap[w.heap.size]? = some (.deferred (some []))) W1 hk1
    (fun pre A v h => ⟨hIs pre A v h.1, set_loop B v h.2.1 rfl, set_loop B v h.2.2 rfl⟩) (fun pre A v h => ⟨hIxs pre A v h.1, set_loop B v h.2.1 rfl, set_loop B v h.2.2 rfl⟩) ?_ ⟨hi1, hl1, hd1⟩).mono ?_
  · rintro pre x W ⟨hi, hl, hd⟩ hpre
    have hlt : w.heap.size + 1 < W.heap.size := (Array.getElem?_eq_some_iff.1 hl).1
    have hy := run_yield (P := P) (args := #[enc x]) hl (by rw [hrc]; rfl)
    rw [hrc] at hy
    have hy : (Instr.yield (w.heap.size + 1) #[enc x]).run P W = .ok (.round (w.heap.size + 1) fn (a.tmps.setIfInBounds p (enc x)) assign body) W := by simpa using hy
    refine ⟨fn, _, assign, body, hy, roundIn_of_wpIn trivial (hassign _ x W _ ⟨_, run_beginRound hl (by rw [hrc]), ?_⟩)⟩
    have hl2 : (W.putObj (w.heap.size + 1) (.loop { rc .ready none with state := .busy })).heap[w.heap.size + 1]? = some (.loop { rc .ready none with state := .busy }) := World.putObj_heap_same hlt
    have hd2 : (W.putObj (w.heap.size + 1) (.loop { rc .ready none with state := .busy })).heap[w.heap.size]? = some (.deferred (some [])) := (World.putObj_heap_other (by omega)).trans hd
    have hk2 : Kp W (W.putObj (w.heap.size + 1) (.loop { rc .ready none with state := .busy })) := hKo _ _ _ _ hl rfl
    refine wpIn_mono (hbody _ pre x _ (hI.putObj _ hi (by omega) hl rfl) hpre) ?_
    rintro e a3 W3 hp
    have hend : ∀ (jump : Option Code), KeepsOthers (W.putObj (w.heap.size + 1) (.loop { rc .ready none with state := .busy })) W3 →
        W3.heap[w.heap.size + 1]? = some (.loop { rc .ready none with state := .busy }) ∧ (Instr.endRound (w.heap.size + 1) jump).run P W3 = .ok (.bool jump.isNone) (W3.putObj (w.heap.size + 1) (.loop (rc (if jump.isNone then .ready else .done) jump))) ∧
        (W3.putObj (w.heap.size + 1) (.loop (rc (if jump.isNone then .ready else .done) jump))).heap[w.heap.size + 1]? = some (.loop (rc (if jump.isNone then .ready else .done) jump)) ∧
        (W3.putObj (w.heap.size + 1) (.loop (rc (if jump.isNone then .ready else .done) jump))).heap[w.heap.size]? = some (.deferred (some [])) := fun jump hk3 => by
      have hl3 := hk3.same _ _ hl2 rfl
      refine ⟨hl3, ?_, World.putObj_heap_same (Array.getElem?_eq_some_iff.1 hl3).1, (World.putObj_heap_other (by omega)).trans (hk3.same _ _ hd2 rfl)⟩
      have := run_endRound (P := P) jump hl3
      rw [hrc] at this ⊢
      exact this
    cases e with
    | normal =>
      obtain ⟨hk3, hp3, hi3⟩ := hp
      obtain ⟨hl3, hr, hl4, hd4⟩ := hend none hk3
      exact ⟨_, _, hr, .inl ⟨rfl, ⟨hI.putObj _ hi3 (by omega) hl3 rfl, hl4, hd4⟩, hKt (hKt hk2 hp3) (hKo _ _ _ _ hl3 rfl)⟩⟩
    | ret =>
      obtain ⟨hk3, hi3⟩ := hp
      obtain ⟨hl3, hr, hl4, hd4⟩ := hend (some .ret) hk3
      exact ⟨_, _, hr, .inr ⟨rfl, hIx.putObj _ hi3 (by omega) hl3 rfl, hl4, hd4⟩⟩
    | exit id => exact hp.elim
    | goto t => exact hp.elim
    | panic ch => exact hp.elim
    | outgrown => exact hp.elim
  · rintro e W2 ⟨⟨v, rfl⟩, ⟨hi, hl, hd⟩ | ⟨pre, hpre, hi, hl, hd⟩⟩
    · refine ⟨none, W2.putObj (w.heap.size + 1) (.loop { rc .ready none with state := .exhausted }), ?_, hdone _ _ (Nat.le_refl _) (hI.putObj _ hi (by omega) hl rfl) ((World.putObj_heap_other (by omega)).trans hd)⟩
      have := run_endLoop (P := P) hl (by rw [hrc]; simp)
      rw [hrc] at this ⊢
      exact this
    · refine ⟨some .ret, W2.putObj (w.heap.size + 1) (.loop { rc .done (some .ret) with state := .exhausted }), ?_, hstop _ pre _ (Nat.le_refl _) hpre (hIx.putObj _ hi (by omega) hl rfl) ((World.putObj_heap_other (by omega)).trans hd)⟩
      have := run_endLoop (P := P) hl (by rw [hrc]; simp)
      rw [hrc] at this ⊢
      exact this
end Go.Proofs.YtcnadjdijolboaaGreatDoor

/- strings.SplitSeq at a comma: what it yields. -/
namespace Go.Proofs.YtcnadjdijolboaaGreatDoor
open Go.RowKit Go.Shelf

/-- A piece, and what is left. -/
theorem cut_index (c : UInt8) (l : List UInt8) : (Lib.indexByte l c = -1 ∧ cutL c l = [l]) ∨ ∃ i : Nat, Lib.indexByte l c = i ∧ i < l.length ∧ cutL c l = l.take i :: cutL c (l.drop (i + 1)) := by
  by_cases h : Lib.indexByte l c = -1
  · refine .inl ⟨h, cutL_none c l fun hm => ?_⟩
    obtain ⟨k, hk⟩ := List.getElem?_of_mem hm
    exact Lib.indexByte_none h k hk
  · have hge := Lib.indexByte_ge l c
    have hi : Lib.indexByte l c = ((Lib.indexByte l c).toNat : Int) := by omega
    obtain ⟨h1, h2⟩ := Lib.indexByte_some hi
    generalize (Lib.indexByte l c).toNat = i at *
    obtain ⟨hlt, he⟩ := List.getElem?_eq_some_iff.1 h1
    refine .inr ⟨i, hi, hlt, ?_⟩
    conv => lhs; rw [show l = l.take i ++ c :: l.drop (i + 1) by rw [← he, ← List.drop_eq_getElem_cons hlt, List.take_append_drop]]
    refine cutL_cut c _ _ fun hm => ?_
    obtain ⟨k, hk⟩ := List.getElem?_of_mem hm
    rw [List.getElem?_take] at hk
    split at hk
    · exact h2 k (by assumption) hk
    · cases hk
/-- Blocks of cells that a round keeps. -/
def KeepB (S : Nat → Prop) (X Y : World) : Prop := ∀ k o, S k → X.heap[k]? = some o → o.isCells = true → Y.heap[k]? = some o
theorem KeepB.refl (S : Nat → Prop) (X : World) : KeepB S X X := fun _ _ _ h _ => h
theorem KeepB.trans {S : Nat → Prop} {X Y Z : World} (h : KeepB S X Y) (k : KeepB S Y Z) : KeepB S X Z := fun i o hi ho hc => k i o hi (h i o hi ho hc) hc
theorem KeepB.alloc (S : Nat → Prop) (X : World) (o : Obj) : KeepB S X (X.alloc o) := fun k _ _ hk _ => (Below.heap_alloc X o k (Array.getElem?_eq_some_iff.1 hk).1).trans hk
theorem KeepB.putObj (S : Nat → Prop) (X : World) (l : Nat) (o o' : Obj) (hl : X.heap[l]? = some o) (ho : o.isCells = false) : KeepB S X (X.putObj l o') := fun k q _ hk hq => by
  have hne : k ≠ l := fun e => by rw [e, hl] at hk; cases hk; rw [ho] at hq; cases hq
  exact (World.putObj_heap_other hne).trans hk
theorem KeepB.below {S : Nat → Prop} {X Y : World} (h : Below X.heap.size X Y) : KeepB S X Y := fun k _ _ hk _ => (h.block k (Array.getElem?_eq_some_iff.1 hk).1).trans hk
theorem KeepB.setCell {S : Nat → Prop} {X : World} {b i : Nat} (v : Value) (h : ¬ S b) : KeepB S X (X.setCell ⟨b, i, none⟩ v) := fun k _ hk ho _ => (heap_setCell_other _ _ _ _ (fun e => h (by subst e; exact hk))).trans ho
/-- One cell. -/
theorem one_cell {w : World} {n : Nat} {v : Value} {T : TypeId} (h : w.heap[n]? = some (.cells #[v] T (0, 0))) : w.cell? ⟨n, 0, none⟩ = some v ∧ w.frozen? ⟨n, 0, none⟩ = false := ⟨by rw [cell_of_row _ _ _ _ _ _ h]; rfl, by simp [World.frozen?, h]⟩
open Classical in
/-- What is left, read off the world: the loop's measure. -/
noncomputable def leftB (b : Nat) (w : World) : Nat := match w.cell? ⟨b, 0, none⟩ with
  | some (.string r) => r.size
  | _ => 0
theorem leftB_eq {b : Nat} {w : World} {r : ByteArray} (h : w.cell? ⟨b, 0, none⟩ = some (.string r)) : leftB b w = r.size := by unfold leftB; rw [h]
theorem index_comma (s : ByteArray) (w : World) : Calls Tryz.prog 83 #[.string s, .string ⟨#[44]⟩] w fun e w' => e = .returned (.int .i64 (Lib.indexByte s.data.toList 44)) ∧ w' = w :=
  Any.strings_Index_one Tryz.indexL s 44 w

set_option maxHeartbeats 4000000 in
set_option maxRecDepth 100000 in
theorem split_gives (s : ByteArray) (b0 b1 b2 : Nat) (w : World) (h01 : b1 ≠ b0) (h02 : b2 ≠ b0) (hs : w.heap[b0]? = some (.cells #[.string s] 9 (0, 0))) (hp : w.heap[b1]? = some (.cells #[.string ⟨#[44]⟩] 9 (0, 0))) (hq : w.heap[b2]? = some (.cells #[.int .i64 0] 3 (0, 0))) (hlen : s.size ≤ 1000000) :
    GivesC Tryz.prog 81 #[.pointer (some ⟨b1, 0, none⟩), .pointer (some ⟨b0, 0, none⟩), .pointer (some ⟨b2, 0, none⟩)] (fun x : List UInt8 => .string (bs x)) ⟨b0, 0, none⟩ (KeepB (fun k => k = b0 ∨ k = b1 ∨ k = b2)) (cutL 44 s.data.toList) w := by
  intro l J Jx W hK hJ hJx hY h0
  have hsS := hK b0 _ (.inl rfl) hs rfl
  have hpS := hK b1 _ (.inr (.inl rfl)) hp rfl
  have hqS := hK b2 _ (.inr (.inr rfl)) hq rfl
  clear hK hs hp hq w
  have c1 := (one_cell hpS).1
  refine callsIn_of_wp Tryz.func81 rfl trivial ?_ rfl
  simp only [Tryz.ntmps81, List.size_toArray, List.length_cons, List.length_nil, Nat.reduceAdd, Nat.reduceSub, Array.replicate_succ, Array.replicate_zero, List.push_toArray, List.append_toArray, List.nil_append, List.cons_append]
  gi_wp2
  gi_loopw [] (fun wr => ∃ (pre : List (List UInt8)) (r : ByteArray), cutL 44 s.data.toList = pre ++ cutL 44 r.data.toList ∧ r.size ≤ 1000000 ∧ wr.heap[b0]? = some (.cells #[.string r] 9 (0, 0)) ∧ wr.heap[b1]? = some (.cells #[.string ⟨#[44]⟩] 9 (0, 0)) ∧ wr.heap[b2]? = some (.cells #[.int .i64 0] 3 (0, 0)) ∧ J pre wr) (fun wr => leftB b0 wr)
  case atStart => exact ⟨[], s, rfl, hlen, hsS, hpS, hqS, h0⟩
  case round =>
    obtain ⟨pre, r, hcut, hlr, hs, hp, hq, hJ0⟩ := hrel
    clear hsS hpS hqS c1 h0
    obtain ⟨c0, f0⟩ := one_cell hs
    have c1 := (one_cell hp).1
    have c2 := (one_cell hq).1
    rcases cut_index 44 r.data.toList with ⟨hix, hcr⟩ | ⟨i, hix, hil, hcr⟩
    · rw [hcr] at hcut
      obtain ⟨fn, tmps, assign, body, hy, hR⟩ := hY pre r.data.toList wr hJ0 (by rw [hcut]; exact List.prefix_refl _)
      have hbr : bs r.data.toList = r := by obtain ⟨⟨d⟩⟩ := r; rfl
      rw [hbr] at hy
      gi_wp2
      refine ⟨trivial, rfl, (callsIn_wide.2 (index_comma _ _)).mono ?_⟩
      rintro e w' ⟨rfl, rfl⟩
      rw [hix]
      gi_wp2
      refine ⟨rfl, hR.mono ?_⟩
      rintro e W3 (⟨rfl, hJ3, _⟩ | ⟨rfl, hJx3⟩)
      · gi_wp2
        go_end0
        exact ⟨⟨_, rfl⟩, .inl (by rw [hcut]; exact hJ3)⟩
      · gi_wp2
        go_end0
        exact ⟨⟨_, rfl⟩, .inr ⟨pre ++ [r.data.toList], by rw [hcut]; exact List.prefix_refl _, hJx3⟩⟩
    · have hsz : r.data.toList.length = r.size := Array.length_toList
      rw [hcr] at hcut
      obtain ⟨fn, tmps, assign, body, hy, hR⟩ := hY pre (r.data.toList.take i) wr hJ0 (by rw [hcut]; exact ⟨_, by rw [List.append_assoc]; rfl⟩)
      have hbr : bs (r.data.toList.take i) = r.extract 0 i := by rw [Lib.extract_eq]; rfl
      rw [hbr] at hy
      have hdr : (r.extract (i + 1) r.size).data.toList = r.data.toList.drop (i + 1) := by
        rw [Lib.extract_eq]
        exact List.take_of_length_le (by rw [List.length_drop]; omega)
      have hds : (r.extract (i + 1) r.size).size = r.size - (i + 1) := by
        have := congrArg List.length hdr
        rw [List.length_drop, hsz] at this
        rw [← this]
        exact Array.length_toList.symm
      have k1 : (0 : Int) ≤ (i : Int) := by omega
      have k2 : (i : Int) ≤ (r.size : Int) := by omega
      have k3 : (0 : Int) ≤ (i : Int) + 1 := by omega
      have k4 : (i : Int) + 1 ≤ (r.size : Int) := by omega
      gi_wp2
      refine ⟨trivial, rfl, (callsIn_wide.2 (index_comma _ _)).mono ?_⟩
      rintro e w' ⟨rfl, rfl⟩
      rw [hix]
      gi_wp2
      refine ⟨rfl, hR.mono ?_⟩
      rintro e W3 (⟨rfl, hJ3, hk3⟩ | ⟨rfl, hJx3⟩)
      · have hs3 := hk3 b0 _ (.inl rfl) hs rfl
        have hp3 := hk3 b1 _ (.inr (.inl rfl)) hp rfl
        have hq3 := hk3 b2 _ (.inr (.inr rfl)) hq rfl
        clear c0 f0 c1 c2
        obtain ⟨c0, f0⟩ := one_cell hs3
        have c1 := (one_cell hp3).1
        gi_wp2
        go_roundw
        case rel => exact ⟨pre ++ [r.data.toList.take i], r.extract (i + 1) r.size, by rw [hcut, hdr, List.append_assoc]; rfl, by rw [hds]; omega, heap_setCell_same _ _ _ _ _ _ hs3, (heap_setCell_other _ _ _ _ h01).trans hp3, (heap_setCell_other _ _ _ _ h02).trans hq3, hJ _ _ _ hJ3⟩
        case measure =>
          rw [leftB_eq (one_cell (heap_setCell_same W3 b0 0 _ _ (.string (r.extract (i + 1) r.size)) hs3)).1, leftB_eq (one_cell hs).1, hds]
          omega
      · gi_wp2
        exact bodyPost_ret (results_none rfl _ _ _) rfl ⟨⟨_, rfl⟩, .inr ⟨_, by rw [hcut]; exact ⟨_, by rw [List.append_assoc]; rfl⟩, hJx3⟩⟩
end Go.Proofs.YtcnadjdijolboaaGreatDoor
