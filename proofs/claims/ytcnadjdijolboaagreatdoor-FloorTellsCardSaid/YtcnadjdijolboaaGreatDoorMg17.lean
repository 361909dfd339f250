/- Range, LibS, Split, ReadP, Word, Number -/
import Derived.RangeFuncBox
import Derived.RangeFuncLeaves
import Derived.RangeFuncCalls
import Derived.RangeFuncNested
import Derived.Test.YtcnadjdijolboaaGreatDoorMg1
import Derived.Test.YtcnadjdijolboaaGreatDoorMg2
import Derived.Lib.SmallJoins
import Derived.Deep.LoopGhost
import Derived.Test.YtcnadjdijolboaaGreatDoorShelf6
import Derived.Shelf.Abstract
import Derived.Shelf.RegionOpen
import Derived.WalkKit
import Derived.OwnWalkIn
import Derived.TacticsInMore
import Derived.LoopNIn
import Derived.LoopIn
import Derived.Lib.IndexLaws
import Derived.Lib.IndexBytes
import Derived.Test.YtcnadjdijolboaaGreatDoorMg3
import Derived.Lib.CutLaws
/- A loop over an iterator that keeps one cell of its own: the statement's law, for a function that stands alone (no round around it). -/
namespace Go.Proofs.YtcnadjdijolboaaGreatDoor
open Go.RowKit

/-- What the iterator owes: it yields the pieces in their order; between two rounds it writes its own cell alone. -/
def GivesC {α : Type} (P : Program) (gf : Nat) (lb : Array Value) (enc : α → Value) (B : Addr) (Kp : World → World → Prop) (xs : List α) (w : World) : Prop :=
  ∀ (l : Nat) (J Jx : List α → World → Prop) (W : World), Kp w W →
    (∀ pre A v, J pre A → J pre (A.setCell B v)) → (∀ pre A v, Jx pre A → Jx pre (A.setCell B v)) →
    (∀ pre x A, J pre A → pre ++ [x] <+: xs → YieldAt Fence.wide 0 P l #[enc x] A fun e W' =>
      (e = .returned (.bool true) ∧ J (pre ++ [x]) W' ∧ Kp A W') ∨ (e = .returned (.bool false) ∧ Jx (pre ++ [x]) W')) →
    J [] W → CallsIn Fence.wide 0 P gf (#[.func (.yield l) #[] #[]] ++ lb) W fun e W' => (∃ v, e = .returned v) ∧ (J xs W' ∨ ∃ pre, pre <+: xs ∧ Jx pre W')

/-- How a round is left. -/
def roundC {α : Type} (Kp : World → World → Prop) (I Ix : List α → World → Prop) (xs : List α) (W : World) : Exit → Act → World → Prop
  | .normal, _, W' => KeepsOthers W W' ∧ Kp W W' ∧ I xs W'
  | .ret, _, W' => KeepsOthers W W' ∧ Ix xs W'
  | _, _, _ => False

theorem set_loop {W : World} {k : Nat} {o : Obj} (B : Addr) (v : Value) (h : W.heap[k]? = some o) (ho : o.isCells = false) : (W.setCell B v).heap[k]? = some o := (KeepsOthers.setCell W B v).same k o h ho

theorem wpIn_rangeC {α : Type} {P : Program} {g : Operand} {p : Tmp} {assign body : Code} {Q : Exit → Act → World → Prop} {a : Act} {w : World} {gf : Nat} {lb : Array Value}
    (hg : a.eval g = .func (.func gf) #[] lb) (eg : ∀ args w, (callFunc gf args).run P w = .ok (.enter gf args) w)
    {enc : α → Value} {B : Addr} {Kp : World → World → Prop} {xs : List α} (hit : GivesC P gf lb enc B Kp xs w)
    (hKr : Kp w w) (hKt : ∀ {X Y Z : World}, Kp X Y → Kp Y Z → Kp X Z) (hKa : ∀ (X : World) (o : Obj), Kp X (X.alloc o)) (hKo : ∀ (X : World) (l : Nat) (o o' : Obj), X.heap[l]? = some o → o.isCells = false → Kp X (X.putObj l o'))
    (I Ix : List α → World → Prop) (hI : OwnFrom w.heap.size I) (hIx : OwnFrom w.heap.size Ix) (hIs : ∀ pre X v, I pre X → I pre (X.setCell B v)) (hIxs : ∀ pre X v, Ix pre X → Ix pre (X.setCell B v)) (h0 : I [] w) (a₁ : α → Act)
    (hassign : ∀ (l : Nat) (x : α) (W : World) (K : Act → World → Prop), K (a₁ x) W → assign.wpIn (Fence.wide.inRound l) 0 P (Exit.then K (fun _ _ _ => False)) { tmps := a.tmps.setIfInBounds p (enc x), defers := [] } W)
    (hbody : ∀ (l : Nat) (pre : List α) (x : α) (W : World), I pre W → pre ++ [x] <+: xs → body.wpIn (Fence.wide.inRound l) 0 P (roundC Kp I Ix (pre ++ [x]) W) (a₁ x) W)
    (hdone : ∀ (D : Nat) (W : World), w.heap.size ≤ D → I xs W → W.heap[D]? = some (.deferred (some [])) → Q .normal { a with defers := { target := .collected D, args := #[] } :: a.defers } W)
    (hstop : ∀ (D : Nat) (pre : List α) (W : World), w.heap.size ≤ D → pre <+: xs → Ix pre W → W.heap[D]? = some (.deferred (some [])) → Code.ret.wpIn Fence.wide 0 P Q { a with defers := { target := .collected D, args := #[] } :: a.defers } W) :
    (Code.rangeFunc g #[p] assign body).wpIn Fence.wide 0 P Q a w := by
  refine wpIn_rangeFunc fun fn _ => ?_
  obtain ⟨rc, hrc⟩ : ∃ rc : LoopState → Option Code → Loop, rc = fun st pe => { state := st, pending := pe, fn, tmps := a.tmps, params := #[p], assign, body, defers := w.heap.size } := ⟨_, rfl⟩
  obtain ⟨W1, hW1⟩ : ∃ W1, (w.alloc (.deferred (some []))).alloc (.loop (rc .ready none)) = W1 := ⟨_, rfl⟩
  have hd1 : W1.heap[w.heap.size]? = some (.deferred (some [])) := by
    rw [← hW1]
    exact (Below.heap_alloc _ _ _ (by simp)).trans (World.alloc_heap_new w _)
  have hl1 : W1.heap[w.heap.size + 1]? = some (.loop (rc .ready none)) := by
    rw [← hW1]
    have := World.alloc_heap_new (w.alloc (.deferred (some []))) (.loop (rc .ready none))
    rwa [World.size_alloc] at this
  have hk1 : Kp w W1 := by rw [← hW1]; exact hKt (hKt hKr (hKa _ _)) (hKa _ _)
  have hi1 : I [] W1 := by rw [← hW1]; exact hI.alloc _ (hI.alloc _ h0)
  refine ⟨w.heap.size + 1, [{ target := .collected w.heap.size, args := #[] }], W1, { target := .fn (.func gf) lb, args := #[.func (.yield (w.heap.size + 1)) #[] #[]] }, W1, gf, #[.func (.yield (w.heap.size + 1)) #[] #[]] ++ lb, W1, ?_, ?_, fun _ _ => trivial, ?_, fun h => by simp [Fence.wide] at h, ?_⟩
  · rw [← hW1, hrc]
    exact run_enterLoop_outer _ _ _ _ _
  · simp only [resolve, hg]
    simp [go_sem]
  · simp [invoke, go_sem, eg]
  refine (hit (w.heap.size + 1) (fun pre W => I pre W ∧ W.heap[w.heap.size + 1]? = some (.loop (rc .ready none)) ∧ W.heap[w.heap.size]? = some (.deferred (some [])))
    (fun pre W => Ix pre W ∧ W.heap[w.heap.size + 1]? = some (.loop (rc .done (some .ret))) ∧ W.heap[w.heap.size]? = some (.deferred (some []))) W1 hk1
    (fun pre A v h => ⟨hIs pre A v h.1, set_loop B v h.2.1 rfl, set_loop B v h.2.2 rfl⟩) (fun pre A v h => ⟨hIxs pre A v h.1, set_loop B v h.2.1 rfl, set_loop B v h.2.2 rfl⟩) ?_ ⟨hi1, hl1, hd1⟩).mono ?_
  · rintro pre x W ⟨hi, hl, hd⟩ hpre
    have hlt : w.heap.size + 1 < W.heap.size := (Array.getElem?_eq_some_iff.1 hl).1
    have hy := run_yield (P := P) (args := #[enc x]) hl (by rw [hrc]; rfl)
    rw [hrc] at hy
    have hy : (Instr.yield (w.heap.size + 1) #[enc x]).run P W = .ok (.round (w.heap.size + 1) fn (a.tmps.setIfInBounds p (enc x)) assign body) W := by simpa using hy
    refine ⟨fn, _, assign, body, hy, roundIn_of_wpIn trivial (hassign _ x W _ ⟨_, run_beginRound hl (by rw [hrc]), ?_⟩)⟩
    have hl2 : (W.putObj (w.heap.size + 1) (.loop { rc .ready none with state := .busy })).heap[w.heap.size + 1]? = some (.loop { rc .ready none with state := .busy }) := World.putObj_heap_same hlt
    have hd2 : (W.putObj (w.heap.size + 1) (.loop { rc .ready none with state := .busy })).heap[w.heap.size]? = some (.deferred (some [])) := (World.putObj_heap_other (by omega)).trans hd
    have hk2 : Kp W (W.putObj (w.heap.size + 1) (.loop { rc .ready none with state := .busy })) := hKo _ _ _ _ hl rfl
    refine wpIn_mono (hbody _ pre x _ (hI.putObj _ hi (by omega) hl rfl) hpre) ?_
    rintro e a3 W3 hp
    have hend : ∀ (jump : Option Code), KeepsOthers (W.putObj (w.heap.size + 1) (.loop { rc .ready none with state := .busy })) W3 →
        W3.heap[w.heap.size + 1]? = some (.loop { rc .ready none with state := .busy }) ∧ (Instr.endRound (w.heap.size + 1) jump).run P W3 = .ok (.bool jump.isNone) (W3.putObj (w.heap.size + 1) (.loop (rc (if jump.isNone then .ready else .done) jump))) ∧
        (W3.putObj (w.heap.size + 1) (.loop (rc (if jump.isNone then .ready else .done) jump))).heap[w.heap.size + 1]? = some (.loop (rc (if jump.isNone then .ready else .done) jump)) ∧
        (W3.putObj (w.heap.size + 1) (.loop (rc (if jump.isNone then .ready else .done) jump))).heap[w.heap.size]? = some (.deferred (some [])) := fun jump hk3 => by
      have hl3 := hk3.same _ _ hl2 rfl
      refine ⟨hl3, ?_, World.putObj_heap_same (Array.getElem?_eq_some_iff.1 hl3).1, (World.putObj_heap_other (by omega)).trans (hk3.same _ _ hd2 rfl)⟩
      have := run_endRound (P := P) jump hl3
      rw [hrc] at this ⊢
      exact this
    cases e with
    | normal =>
      obtain ⟨hk3, hp3, hi3⟩ := hp
      obtain ⟨hl3, hr, hl4, hd4⟩ := hend none hk3
      exact ⟨_, _, hr, .inl ⟨rfl, ⟨hI.putObj _ hi3 (by omega) hl3 rfl, hl4, hd4⟩, hKt (hKt hk2 hp3) (hKo _ _ _ _ hl3 rfl)⟩⟩
    | ret =>
      obtain ⟨hk3, hi3⟩ := hp
      obtain ⟨hl3, hr, hl4, hd4⟩ := hend (some .ret) hk3
      exact ⟨_, _, hr, .inr ⟨rfl, hIx.putObj _ hi3 (by omega) hl3 rfl, hl4, hd4⟩⟩
    | exit id => exact hp.elim
    | goto t => exact hp.elim
    | panic ch => exact hp.elim
    | outgrown => exact hp.elim
  · rintro e W2 ⟨⟨v, rfl⟩, ⟨hi, hl, hd⟩ | ⟨pre, hpre, hi, hl, hd⟩⟩
    · refine ⟨none, W2.putObj (w.heap.size + 1) (.loop { rc .ready none with state := .exhausted }), ?_, hdone _ _ (Nat.le_refl _) (hI.putObj _ hi (by omega) hl rfl) ((World.putObj_heap_other (by omega)).trans hd)⟩
      have := run_endLoop (P := P) hl (by rw [hrc]; simp)
      rw [hrc] at this ⊢
      exact this
    · refine ⟨some .ret, W2.putObj (w.heap.size + 1) (.loop { rc .done (some .ret) with state := .exhausted }), ?_, hstop _ pre _ (Nat.le_refl _) hpre (hIx.putObj _ hi (by omega) hl rfl) ((World.putObj_heap_other (by omega)).trans hd)⟩
      have := run_endLoop (P := P) hl (by rw [hrc]; simp)
      rw [hrc] at this ⊢
      exact this
end Go.Proofs.YtcnadjdijolboaaGreatDoor

/- What the library's variables hold; strconv.Atoi, strconv.Itoa by contracts. -/
namespace Go.Proofs.YtcnadjdijolboaaGreatDoor
open Go.RowKit Go.Sort

/-- The sentinels, and the library's variables. -/
structure LaidS (E : Nat → Addr) (w : World) : Prop where
  laid : Laid E w
  pow : Lib.TabIs Tryz.prog w "internal/strconv.uint64pow10" .u64 Lib.pow10Tab
  syn : ∃ t p, w.var? Tryz.prog "strconv.ErrSyntax" = some #[.iface t p]
  rng : ∃ t p, w.var? Tryz.prog "strconv.ErrRange" = some #[.iface t p]
  mx : ∃ m, w.cell? ⟨16, 0, none⟩ = some (.int .i64 m)
theorem glob_pow : Tryz.prog.globalNamed "internal/strconv.uint64pow10" = some 18 := by kernel_rfl
theorem glob_syn : Tryz.prog.globalNamed "strconv.ErrSyntax" = some 21 := by kernel_rfl
theorem glob_rng : Tryz.prog.globalNamed "strconv.ErrRange" = some 22 := by kernel_rfl
theorem LaidS.below {E : Nat → Addr} {w w' : World} (h : LaidS E w) (hb : Below w.heap.size w w') : LaidS E w' where
  laid := h.laid.below hb
  pow := Joins.tab_stays glob_pow h.pow hb (Nat.le_refl _)
  syn := let ⟨t, p, e⟩ := h.syn; ⟨t, p, Joins.var_stays glob_syn e hb (Nat.le_refl _)⟩
  rng := let ⟨t, p, e⟩ := h.rng; ⟨t, p, Joins.var_stays glob_rng e hb (Nat.le_refl _)⟩
  mx := let ⟨m, e⟩ := h.mx; ⟨m, cell_below hb e⟩

theorem below_grow (w : World) (k : Nat) (os : Array Obj) : Below w.heap.size w (grow (w.drewN k) os) :=
  ⟨rfl, rfl, rfl, by simp [grow], fun i hi => by
    show (w.heap ++ os)[i]? = w.heap[i]?
    rw [Array.getElem?_append_left hi]⟩
set_option maxRecDepth 100000 in
theorem itoa_any {E : Nat → Addr} (n : Int) (h0 : -9223372036854775808 ≤ n) (h1 : n ≤ 9223372036854775807) (w : World) (hL : LaidS E w) :
    Calls Tryz.prog 27 #[.int .i64 n] w fun e w' => e = .returned (.string (bs (Lib.itoa n))) ∧ Below w.heap.size w w' :=
  (show Calls Tryz.prog 27 #[.int .i64 n] w _ from Any.strconv_Itoa Tryz.itoaL n h0 h1 w hL.pow).mono fun e w' ⟨he, k, os, hw⟩ => ⟨he, by rw [hw]; exact below_grow w k os⟩
set_option maxRecDepth 100000 in
theorem atoi_ok (s : ByteArray) (hs : s.size ≤ 140737488355328) (v : Int) (h : Lib.atoiAll s.data.toList = .ok v) (w : World) :
    Calls Tryz.prog 63 #[.string s] w fun e w' => e = .returned (.tuple #[.int .i64 v, .nilIface]) ∧ Below w.heap.size w w' :=
  (show Calls Tryz.prog 63 #[.string s] w _ from Any.strconv_Atoi_ok Tryz.atoiL s (by omega) v h w).mono fun e w' ⟨he, hw⟩ => ⟨he, by
    rcases hw with rfl | ⟨t, rfl⟩
    · exact Below.refl _ _
    · exact Joins.below_bytesWorld _ _ _ _ (Nat.le_refl _)⟩
set_option maxRecDepth 100000 in
theorem atoi_bad {E : Nat → Addr} (s : ByteArray) (hs : s.size ≤ 140737488355328) (h : ∀ v, Lib.atoiAll s.data.toList ≠ .ok v) (w : World) (hL : LaidS E w) :
    Calls Tryz.prog 63 #[.string s] w fun e w' => ∃ n T N, e = .returned (.tuple #[.int .i64 n, .iface T (.pointer (some ⟨N, 0, none⟩))]) ∧ Below w.heap.size w w' := by
  rcases hc : Lib.atoiAll s.data.toList with v | _ | _
  · exact absurd hc (h v)
  · obtain ⟨t, p, hv⟩ := hL.syn
    exact (show Calls Tryz.prog 63 #[.string s] w _ from Any.strconv_Atoi_syntax_var Tryz.atoiL s (by omega) hc t p w hv).mono fun e w' ⟨N, he, _, _, hb⟩ => ⟨_, _, N, he, hb⟩
  · obtain ⟨t, p, hv⟩ := hL.rng
    exact (show Calls Tryz.prog 63 #[.string s] w _ from Any.strconv_Atoi_range_var Tryz.atoiL s (by omega) hc t p w hv).mono fun e w' ⟨N, he, _, _, hb⟩ => ⟨_, _, N, he, hb⟩

theorem atoiAll_ge {l : List UInt8} {v : Int} (h : Lib.atoiAll l = .ok v) : -9223372036854775808 ≤ v ∧ v ≤ 9223372036854775807 := by
  unfold Lib.atoiAll at h
  cases l with
  | nil => cases h
  | cons c r =>
    dsimp only at h
    rcases hm : Lib.parseMag (if c.toNat = 43 ∨ c.toNat = 45 then r else c :: r) with u | _ | _
    · rw [hm] at h
      dsimp only at h
      by_cases hn : c.toNat = 45
      · simp only [hn, not_true_eq_false, false_and, if_false, true_and, if_true] at h
        split at h
        · cases h
        · cases h; omega
      · simp only [hn, not_false_eq_true, true_and, false_and, if_false] at h
        split at h
        · cases h
        · cases h; omega
    · rw [hm] at h; cases h
    · rw [hm] at h; cases h
end Go.Proofs.YtcnadjdijolboaaGreatDoor

/- strings.SplitSeq at a comma: what it yields. -/
namespace Go.Proofs.YtcnadjdijolboaaGreatDoor
open Go.RowKit Go.Shelf

/-- A piece, and what is left. -/
theorem cut_index (c : UInt8) (l : List UInt8) : (Lib.indexByte l c = -1 ∧ cutL c l = [l]) ∨ ∃ i : Nat, Lib.indexByte l c = i ∧ i < l.length ∧ cutL c l = l.take i :: cutL c (l.drop (i + 1)) := by
  by_cases h : Lib.indexByte l c = -1
  · refine .inl ⟨h, cutL_none c l fun hm => ?_⟩
    obtain ⟨k, hk⟩ := List.getElem?_of_mem hm
    exact Lib.indexByte_none h k hk
  · have hge := Lib.indexByte_ge l c
    have hi : Lib.indexByte l c = ((Lib.indexByte l c).toNat : Int) := by omega
    obtain ⟨h1, h2⟩ := Lib.indexByte_some hi
    generalize (Lib.indexByte l c).toNat = i at *
    obtain ⟨hlt, he⟩ := List.getElem?_eq_some_iff.1 h1
    refine .inr ⟨i, hi, hlt, ?_⟩
    conv => lhs; rw [show l = l.take i ++ c :: l.drop (i + 1) by rw [← he, ← List.drop_eq_getElem_cons hlt, List.take_append_drop]]
    refine cutL_cut c _ _ fun hm => ?_
    obtain ⟨k, hk⟩ := List.getElem?_of_mem hm
    rw [List.getElem?_take] at hk
    split at hk
    · exact h2 k (by assumption) hk
    · cases hk
/-- Blocks of cells that a round keeps. -/
def KeepB (S : Nat → Prop) (X Y : World) : Prop := ∀ k o, S k → X.heap[k]? = some o → o.isCells = true → Y.heap[k]? = some o
theorem KeepB.refl (S : Nat → Prop) (X : World) : KeepB S X X := fun _ _ _ h _ => h
theorem KeepB.trans {S : Nat → Prop} {X Y Z : World} (h : KeepB S X Y) (k : KeepB S Y Z) : KeepB S X Z := fun i o hi ho hc => k i o hi (h i o hi ho hc) hc
theorem KeepB.alloc (S : Nat → Prop) (X : World) (o : Obj) : KeepB S X (X.alloc o) := fun k _ _ hk _ => (Below.heap_alloc X o k (Array.getElem?_eq_some_iff.1 hk).1).trans hk
theorem KeepB.putObj (S : Nat → Prop) (X : World) (l : Nat) (o o' : Obj) (hl : X.heap[l]? = some o) (ho : o.isCells = false) : KeepB S X (X.putObj l o') := fun k q _ hk hq => by
  have hne : k ≠ l := fun e => by rw [e, hl] at hk; cases hk; rw [ho] at hq; cases hq
  exact (World.putObj_heap_other hne).trans hk
theorem KeepB.below {S : Nat → Prop} {X Y : World} (h : Below X.heap.size X Y) : KeepB S X Y := fun k _ _ hk _ => (h.block k (Array.getElem?_eq_some_iff.1 hk).1).trans hk
theorem KeepB.setCell {S : Nat → Prop} {X : World} {b i : Nat} (v : Value) (h : ¬ S b) : KeepB S X (X.setCell ⟨b, i, none⟩ v) := fun k _ hk ho _ => (heap_setCell_other _ _ _ _ (fun e => h (by subst e; exact hk))).trans ho
/-- One cell. -/
theorem one_cell {w : World} {n : Nat} {v : Value} {T : TypeId} (h : w.heap[n]? = some (.cells #[v] T (0, 0))) : w.cell? ⟨n, 0, none⟩ = some v ∧ w.frozen? ⟨n, 0, none⟩ = false := ⟨by rw [cell_of_row _ _ _ _ _ _ h]; rfl, by simp [World.frozen?, h]⟩
open Classical in
/-- What is left, read off the world: the loop's measure. -/
noncomputable def leftB (b : Nat) (w : World) : Nat := match w.cell? ⟨b, 0, none⟩ with
  | some (.string r) => r.size
  | _ => 0
theorem leftB_eq {b : Nat} {w : World} {r : ByteArray} (h : w.cell? ⟨b, 0, none⟩ = some (.string r)) : leftB b w = r.size := by unfold leftB; rw [h]
theorem index_comma (s : ByteArray) (w : World) : Calls Tryz.prog 83 #[.string s, .string ⟨#[44]⟩] w fun e w' => e = .returned (.int .i64 (Lib.indexByte s.data.toList 44)) ∧ w' = w :=
  Any.strings_Index_one Tryz.indexL s 44 w

set_option maxHeartbeats 4000000 in
set_option maxRecDepth 100000 in
theorem split_gives (s : ByteArray) (b0 b1 b2 : Nat) (w : World) (h01 : b1 ≠ b0) (h02 : b2 ≠ b0) (hs : w.heap[b0]? = some (.cells #[.string s] 9 (0, 0))) (hp : w.heap[b1]? = some (.cells #[.string ⟨#[44]⟩] 9 (0, 0))) (hq : w.heap[b2]? = some (.cells #[.int .i64 0] 3 (0, 0))) (hlen : s.size ≤ 1000000) :
    GivesC Tryz.prog 81 #[.pointer (some ⟨b1, 0, none⟩), .pointer (some ⟨b0, 0, none⟩), .pointer (some ⟨b2, 0, none⟩)] (fun x : List UInt8 => .string (bs x)) ⟨b0, 0, none⟩ (KeepB (fun k => k = b0 ∨ k = b1 ∨ k = b2)) (cutL 44 s.data.toList) w := by
  intro l J Jx W hK hJ hJx hY h0
  have hsS := hK b0 _ (.inl rfl) hs rfl
  have hpS := hK b1 _ (.inr (.inl rfl)) hp rfl
  have hqS := hK b2 _ (.inr (.inr rfl)) hq rfl
  clear hK hs hp hq w
  have c1 := (one_cell hpS).1
  refine callsIn_of_wp Tryz.func81 rfl trivial ?_ rfl
  simp only [Tryz.ntmps81, List.size_toArray, List.length_cons, List.length_nil, Nat.reduceAdd, Nat.reduceSub, Array.replicate_succ, Array.replicate_zero, List.push_toArray, List.append_toArray, List.nil_append, List.cons_append]
  gi_wp2
  gi_loopw [] (fun wr => ∃ (pre : List (List UInt8)) (r : ByteArray), cutL 44 s.data.toList = pre ++ cutL 44 r.data.toList ∧ r.size ≤ 1000000 ∧ wr.heap[b0]? = some (.cells #[.string r] 9 (0, 0)) ∧ wr.heap[b1]? = some (.cells #[.string ⟨#[44]⟩] 9 (0, 0)) ∧ wr.heap[b2]? = some (.cells #[.int .i64 0] 3 (0, 0)) ∧ J pre wr) (fun wr => leftB b0 wr)
  case atStart => exact ⟨[], s, rfl, hlen, hsS, hpS, hqS, h0⟩
  case round =>
    obtain ⟨pre, r, hcut, hlr, hs, hp, hq, hJ0⟩ := hrel
    clear hsS hpS hqS c1 h0
    obtain ⟨c0, f0⟩ := one_cell hs
    have c1 := (one_cell hp).1
    have c2 := (one_cell hq).1
    rcases cut_index 44 r.data.toList with ⟨hix, hcr⟩ | ⟨i, hix, hil, hcr⟩
    · rw [hcr] at hcut
      obtain ⟨fn, tmps, assign, body, hy, hR⟩ := hY pre r.data.toList wr hJ0 (by rw [hcut]; exact List.prefix_refl _)
      have hbr : bs r.data.toList = r := by obtain ⟨⟨d⟩⟩ := r; rfl
      rw [hbr] at hy
      gi_wp2
      refine ⟨trivial, rfl, (callsIn_wide.2 (index_comma _ _)).mono ?_⟩
      rintro e w' ⟨rfl, rfl⟩
      rw [hix]
      gi_wp2
      refine ⟨rfl, hR.mono ?_⟩
      rintro e W3 (⟨rfl, hJ3, _⟩ | ⟨rfl, hJx3⟩)
      · gi_wp2
        go_end0
        exact ⟨⟨_, rfl⟩, .inl (by rw [hcut]; exact hJ3)⟩
      · gi_wp2
        go_end0
        exact ⟨⟨_, rfl⟩, .inr ⟨pre ++ [r.data.toList], by rw [hcut]; exact List.prefix_refl _, hJx3⟩⟩
    · have hsz : r.data.toList.length = r.size := Array.length_toList
      rw [hcr] at hcut
      obtain ⟨fn, tmps, assign, body, hy, hR⟩ := hY pre (r.data.toList.take i) wr hJ0 (by rw [hcut]; exact ⟨_, by rw [List.append_assoc]; rfl⟩)
      have hbr : bs (r.data.toList.take i) = r.extract 0 i := by rw [Lib.extract_eq]; rfl
      rw [hbr] at hy
      have hdr : (r.extract (i + 1) r.size).data.toList = r.data.toList.drop (i + 1) := by
        rw [Lib.extract_eq]
        exact List.take_of_length_le (by rw [List.length_drop]; omega)
      have hds : (r.extract (i + 1) r.size).size = r.size - (i + 1) := by
        have := congrArg List.length hdr
        rw [List.length_drop, hsz] at this
        rw [← this]
        exact Array.length_toList.symm
      have k1 : (0 : Int) ≤ (i : Int) := by omega
      have k2 : (i : Int) ≤ (r.size : Int) := by omega
      have k3 : (0 : Int) ≤ (i : Int) + 1 := by omega
      have k4 : (i : Int) + 1 ≤ (r.size : Int) := by omega
      gi_wp2
      refine ⟨trivial, rfl, (callsIn_wide.2 (index_comma _ _)).mono ?_⟩
      rintro e w' ⟨rfl, rfl⟩
      rw [hix]
      gi_wp2
      refine ⟨rfl, hR.mono ?_⟩
      rintro e W3 (⟨rfl, hJ3, hk3⟩ | ⟨rfl, hJx3⟩)
      · have hs3 := hk3 b0 _ (.inl rfl) hs rfl
        have hp3 := hk3 b1 _ (.inr (.inl rfl)) hp rfl
        have hq3 := hk3 b2 _ (.inr (.inr rfl)) hq rfl
        clear c0 f0 c1 c2
        obtain ⟨c0, f0⟩ := one_cell hs3
        have c1 := (one_cell hp3).1
        gi_wp2
        go_roundw
        case rel => exact ⟨pre ++ [r.data.toList.take i], r.extract (i + 1) r.size, by rw [hcut, hdr, List.append_assoc]; rfl, by rw [hds]; omega, heap_setCell_same _ _ _ _ _ _ hs3, (heap_setCell_other _ _ _ _ h01).trans hp3, (heap_setCell_other _ _ _ _ h02).trans hq3, hJ _ _ _ hJ3⟩
        case measure =>
          rw [leftB_eq (one_cell (heap_setCell_same W3 b0 0 _ _ (.string (r.extract (i + 1) r.size)) hs3)).1, leftB_eq (one_cell hs).1, hds]
          omega
      · gi_wp2
        exact bodyPost_ret (results_none rfl _ _ _) rfl ⟨⟨_, rfl⟩, .inr ⟨_, by rw [hcut]; exact ⟨_, by rw [List.append_assoc]; rfl⟩, hJx3⟩⟩
end Go.Proofs.YtcnadjdijolboaaGreatDoor

/- Floors that are read: plain: no program in sight. -/
namespace Go.Proofs.YtcnadjdijolboaaGreatDoor

theorem cutL_le (c : UInt8) : ∀ l, (cutL c l).length ≤ l.length + 1
  | [] => by simp [cutL]
  | b :: r => by
    have ih := cutL_le c r
    unfold cutL
    split
    · simp only [List.length_cons]; omega
    · split
      · simp
      · rename_i h t he
        rw [he] at ih
        simp only [List.length_cons] at ih ⊢
        omega
/-- One piece. -/
def pieceF (w : List UInt8) : Option Flo := if (Lib.cut w [58]).2.2 = true ∧ (number (Lib.cut w [58]).2.1 9999999999).2 = true then some ⟨(Lib.cut w [58]).1, (number (Lib.cut w [58]).2.1 9999999999).1⟩ else none
def allF (L : List (List UInt8)) : Prop := ∀ w ∈ L, pieceF w ≠ none
def valsF (L : List (List UInt8)) : List Flo := L.filterMap pieceF
open Classical in
/-- What is answered. -/
noncomputable def readF (s : List UInt8) : List Flo × Nat × Int :=
  if s = [45] then ([], 0, -1) else if allF (cutL 44 s) then (if (checkF (valsF (cutL 44 s))).1 = 0 then (valsF (cutL 44 s), 0, -1) else ([], checkF (valsF (cutL 44 s)))) else ([], 1, -1)
theorem valsF_snoc {L : List (List UInt8)} {w : List UInt8} {f : Flo} (h : pieceF w = some f) : valsF (L ++ [w]) = valsF L ++ [f] := by
  unfold valsF
  rw [List.filterMap_append]
  simp [h]
theorem allF_snoc {L : List (List UInt8)} {w : List UInt8} {f : Flo} (h : allF L) (h2 : pieceF w = some f) : allF (L ++ [w]) := fun x hx => by
  rcases List.mem_append.1 hx with h3 | h3
  · exact h x h3
  · rw [List.mem_singleton.1 h3, h2]
    exact fun e => by cases e
theorem allF_nil : allF [] := fun _ h => by cases h
theorem allF_not {L : List (List UInt8)} {w : List UInt8} (hw : w ∈ L) (h : pieceF w = none) : ¬ allF L := fun ha => ha w hw h
theorem valsF_len (L : List (List UInt8)) : (valsF L).length ≤ L.length := List.length_filterMap_le _ _
theorem cut_len (w : List UInt8) : (Lib.cut w [58]).1.length ≤ w.length ∧ (Lib.cut w [58]).2.1.length ≤ w.length := by
  unfold Lib.cut
  split
  · exact ⟨by simp; omega, by simp⟩
  · exact ⟨Nat.le_refl _, by simp⟩
theorem pieceF_who {w : List UInt8} {f : Flo} (h : pieceF w = some f) : f.who.length ≤ w.length := by
  unfold pieceF at h
  split at h
  · cases h
    exact (cut_len w).1
  · cases h
theorem valsF_who {L : List (List UInt8)} {n : Nat} (h : ∀ w ∈ L, w.length ≤ n) : ∀ f ∈ valsF L, f.who.length ≤ n := fun f hf => by
  obtain ⟨w, hw, he⟩ := List.mem_filterMap.1 hf
  exact Nat.le_trans (pieceF_who he) (h w hw)
end Go.Proofs.YtcnadjdijolboaaGreatDoor

/- seal.Word, by its contract. -/
namespace Go.Proofs.YtcnadjdijolboaaGreatDoor
open Go.RowKit

set_option maxRecDepth 100000 in
theorem trim_word (s : ByteArray) (w : World) (hs : s.size ≤ maxLen) :
    Calls Tryz.prog 77 #[.string s, .string (bs wordCs)] w fun e w' => e = .returned (.string (bs (Lib.trimS s.data.toList wordCs))) ∧ Below w.heap.size w w' :=
  Any.strings_Trim_laid Tryz.trim160 (by kernel_rfl) s (bs wordCs) w hs (by decide) (ascii_of_all (by decide))
end Go.Proofs.YtcnadjdijolboaaGreatDoor

/- seal.Number by its contract. -/
namespace Go.Proofs.YtcnadjdijolboaaGreatDoor
open Go.RowKit Go.Sort

theorem number_none {l : List UInt8} {most : Int} (h : numOf l = none) : number l most = (0, false) := by unfold number; rw [h]
/-- seal.Number of what the law's texts hold. -/
def numRes (l : List UInt8) (most : Int) : Value := .tuple #[.int .i64 (number l most).1, .bool (number l most).2]
set_option maxRecDepth 100000 in
theorem number_any {E : Nat → Addr} (s : ByteArray) (most : Int) (w : World) (hL : LaidS E w) (hs : s.size ≤ 1000000) :
    Calls Tryz.prog 31 #[.string s, .int .i64 most] w fun e w' => e = .returned (numRes s.data.toList most) ∧ Below w.heap.size w w' := by
  have hlen : s.data.toList.length = s.size := Array.length_toList
  rcases hc : Lib.atoiAll s.data.toList with v | _ | _
  · have hat := Lib.hid (atoi_ok s (by omega) v hc w)
    have hvb := atoiAll_ge hc
    obtain ⟨hvb1, hvb2⟩ := hvb
    have hsome : ∀ n, numOf s.data.toList = some n → v = n ∧ s.size ≤ 10 ∧ Lib.itoa v = s.data.toList := fun n hn => by
      obtain ⟨h1, h2, h3, h4⟩ := numOf_some hn
      have := (atoi_good h1 h2).symm.trans hc
      injection this with h5
      rw [h3] at h5
      exact ⟨h5.symm, by omega, by rw [← h5]; exact h4⟩
    by_cases h10 : s.size ≤ 10
    case neg =>
      have hr := Lib.hid (show numRes s.data.toList most = .tuple #[.int .i64 0, .bool false] by
        unfold numRes
        rw [number_none]
        cases hn : numOf s.data.toList with
        | none => rfl
        | some n => exact absurd (hsome n hn).2.1 h10)
      clear hsome hc hlen
      go_enter Tryz.func31, Tryz.ntmps31
      go_wp2_with fail
      refine hat.out.mono ?_
      rintro e w1 ⟨rfl, hb⟩
      go_wp2_with fail
      go_ret2
      exact ⟨by rw [hr.out]; rfl, hb⟩
    by_cases hv0 : v < 0
    · have hr := Lib.hid (show numRes s.data.toList most = .tuple #[.int .i64 0, .bool false] by
        unfold numRes
        rw [number_none]
        cases hn : numOf s.data.toList with
        | none => rfl
        | some n => have := (hsome n hn).1; omega)
      clear hsome hc hlen
      go_enter Tryz.func31, Tryz.ntmps31
      go_wp2_with fail
      refine hat.out.mono ?_
      rintro e w1 ⟨rfl, hb⟩
      go_wp2_with fail
      go_ret2
      exact ⟨by rw [hr.out]; rfl, hb⟩
    by_cases hvm : most < v
    · have hr := Lib.hid (show numRes s.data.toList most = .tuple #[.int .i64 0, .bool false] by
        unfold numRes number
        cases hn : numOf s.data.toList with
        | none => rfl
        | some n =>
          have := (hsome n hn).1
          dsimp only
          rw [if_neg (by omega)])
      clear hsome hc hlen
      go_enter Tryz.func31, Tryz.ntmps31
      go_wp2_with fail
      refine hat.out.mono ?_
      rintro e w1 ⟨rfl, hb⟩
      go_wp2_with fail
      go_ret2
      exact ⟨by rw [hr.out]; rfl, hb⟩
    have hit := Lib.hid (fun wx hx => itoa_any v hvb1 hvb2 wx (hL.below hx))
    by_cases he : Lib.itoa v = s.data.toList
    · have hr := Lib.hid (show numRes s.data.toList most = .tuple #[.int .i64 v, .bool true] by
        obtain ⟨n, rfl⟩ := Int.eq_ofNat_of_zero_le (Int.not_lt.1 hv0)
        unfold numRes number
        rw [← he, numOf_itoa (by rw [he]; omega)]
        dsimp only
        rw [if_pos (by omega)])
      have hbe : ((bs (Lib.itoa v)).toList == s.toList) = true := by rw [toList_data, toList_data, bs_list, he]; exact beq_self_eq_true _
      clear he hsome hc hlen
      go_enter Tryz.func31, Tryz.ntmps31
      go_wp2_with fail
      refine hat.out.mono ?_
      rintro e w1 ⟨rfl, hb⟩
      go_wp2_with fail
      refine (hit.out _ hb).mono ?_
      rintro e w2 ⟨rfl, hb2⟩
      have hb2 := below_trans hb hb2
      go_wp2_with fail
      go_ret2
      exact ⟨by rw [hr.out]; rfl, hb2⟩
    · have hr := Lib.hid (show numRes s.data.toList most = .tuple #[.int .i64 0, .bool false] by
        unfold numRes
        rw [number_none]
        cases hn : numOf s.data.toList with
        | none => rfl
        | some n => exact absurd (hsome n hn).2.2 he)
      have hbe : ((bs (Lib.itoa v)).toList == s.toList) = false := by rw [toList_data, toList_data, bs_list, beq_eq_false_iff_ne]; exact he
      clear he hsome hc hlen
      go_enter Tryz.func31, Tryz.ntmps31
      go_wp2_with fail
      refine hat.out.mono ?_
      rintro e w1 ⟨rfl, hb⟩
      go_wp2_with fail
      refine (hit.out _ hb).mono ?_
      rintro e w2 ⟨rfl, hb2⟩
      have hb2 := below_trans hb hb2
      go_wp2_with fail
      go_ret2
      exact ⟨by rw [hr.out]; rfl, hb2⟩
  · have hat := Lib.hid (atoi_bad s (by omega) (fun v h => by rw [hc] at h; cases h) w hL)
    have hr := Lib.hid (show numRes s.data.toList most = .tuple #[.int .i64 0, .bool false] by
      unfold numRes
      rw [number_none]
      cases hn : numOf s.data.toList with
      | none => rfl
      | some n => obtain ⟨h1, h2, _⟩ := numOf_some hn; rw [atoi_good h1 h2] at hc; cases hc)
    clear hc hlen
    go_enter Tryz.func31, Tryz.ntmps31
    go_wp2_with fail
    refine hat.out.mono ?_
    rintro e w1 ⟨n, T, N, rfl, hb⟩
    go_wp2_with fail
    go_ret2
    exact ⟨by rw [hr.out]; rfl, hb⟩
  · have hat := Lib.hid (atoi_bad s (by omega) (fun v h => by rw [hc] at h; cases h) w hL)
    have hr := Lib.hid (show numRes s.data.toList most = .tuple #[.int .i64 0, .bool false] by
      unfold numRes
      rw [number_none]
      cases hn : numOf s.data.toList with
      | none => rfl
      | some n => obtain ⟨h1, h2, _⟩ := numOf_some hn; rw [atoi_good h1 h2] at hc; cases hc)
    clear hc hlen
    go_enter Tryz.func31, Tryz.ntmps31
    go_wp2_with fail
    refine hat.out.mono ?_
    rintro e w1 ⟨n, T, N, rfl, hb⟩
    go_wp2_with fail
    go_ret2
    exact ⟨by rw [hr.out]; rfl, hb⟩
end Go.Proofs.YtcnadjdijolboaaGreatDoor
