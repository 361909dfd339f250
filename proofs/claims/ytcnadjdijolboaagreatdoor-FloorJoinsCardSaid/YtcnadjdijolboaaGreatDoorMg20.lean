/- ReadW -/
import Derived.Test.YtcnadjdijolboaaGreatDoorMg19
import Derived.Test.YtcnadjdijolboaaGreatDoorMg3
import Derived.Test.YtcnadjdijolboaaGreatDoorMg8
import Derived.Test.YtcnadjdijolboaaGreatDoorMg12
import Derived.Test.YtcnadjdijolboaaGreatDoorMg4
import Derived.Test.YtcnadjdijolboaaGreatDoorShelf2
import Derived.Test.YtcnadjdijolboaaGreatDoorMg16
import Derived.Maps.AppendAt
/- floor.Read: walked. -/
namespace Go.Proofs.YtcnadjdijolboaaGreatDoor
open Go.RowKit Go.Shelf

theorem cutColon_any {E : Nat → Addr} (s : ByteArray) (w : World) (hL : LaidS E w) (hs : s.size ≤ 1000000) :
    Calls Tryz.prog 30 #[.string s, .string ⟨#[58]⟩] w fun e w' => e = .returned (.tuple #[.string (bs (Lib.cut s.data.toList [58]).1), .string (bs (Lib.cut s.data.toList [58]).2.1), .bool (Lib.cut s.data.toList [58]).2.2]) ∧ Below w.heap.size w w' := by
  obtain ⟨m, hm⟩ := hL.mx
  refine (show Calls Tryz.prog 30 #[.string s, .string ⟨#[58]⟩] w _ from Any.strings_Cut Tryz.cutL s ⟨#[58]⟩ m w (by omega) hm).mono ?_
  rintro e w' ⟨rfl, n, rfl⟩
  exact ⟨rfl, below_drawn (Below.refl _ _) n⟩
set_option maxRecDepth 100000 in
theorem splitSeq0_any (s sep : ByteArray) (w : World) :
    Calls Tryz.prog 61 #[.string s, .string sep, .int .i64 0] w fun e w' => e = .returned (.func (.func 81) #[] #[.pointer (some ⟨w.heap.size + 1, 0, none⟩), .pointer (some ⟨w.heap.size, 0, none⟩), .pointer (some ⟨w.heap.size + 1 + 1, 0, none⟩)]) ∧ w' = ((w.alloc (.cells #[.string s] 9)).alloc (.cells #[.string sep] 9)).alloc (.cells #[.int .i64 0] 3) := by
  go_enter Tryz.func61, Tryz.ntmps61
  go_wp2_with fail
  go_ret
  exact ⟨rfl, rfl⟩
set_option maxRecDepth 100000 in
theorem splitSeq_any (s sep : ByteArray) (w : World) :
    Calls Tryz.prog 29 #[.string s, .string sep] w fun e w' => e = .returned (.func (.func 81) #[] #[.pointer (some ⟨w.heap.size + 1, 0, none⟩), .pointer (some ⟨w.heap.size, 0, none⟩), .pointer (some ⟨w.heap.size + 1 + 1, 0, none⟩)]) ∧ w' = ((w.alloc (.cells #[.string s] 9)).alloc (.cells #[.string sep] 9)).alloc (.cells #[.int .i64 0] 3) := by
  go_enter Tryz.func29, Tryz.ntmps29
  go_wp2_with fail
  refine (splitSeq0_any _ _ _).mono ?_
  rintro e w' ⟨rfl, rfl⟩
  go_wp2_with fail
  go_ret
  exact ⟨rfl, rfl⟩
def ReadRes (E : Nat → Addr) (w' : World) (s : List UInt8) (e : Ending) : Prop := ∃ ev v, e = .returned (.tuple #[v, ev]) ∧ FloorsAt w' v (readF s).1 ∧ ErrAt E w' ev (readF s).2.1 (readF s).2.2
theorem rowG_turn {α : Type} {C : Cells α} {W W' : World} {base : Nat} {e : TypeId} {v : Value} {L : List α} {row : Option Nat} (h : RowG C W base e v L) (hg : W.grownBy W' row) (hr : ∀ r, row = some r → ∃ o : Obj, W.heap[r]? = some o ∧ o.isCells = false) : RowG C W' base e v L := by
  refine World.ownsRow.kept h hg ?_
  cases ho : v.ownBlock with
  | none => exact .inl rfl
  | some g =>
    refine .inr fun e' => ?_
    obtain ⟨_, cs, hgb⟩ := h.block ho
    obtain ⟨o, h1, h2⟩ := hr g e'.symm
    rw [hgb] at h1; cases h1; cases h2
theorem boxed_turn {W W' : World} {B : Nat} {t : TypeId} {v : Value} {row : Option Nat} (h : Boxed W B t v) (hg : W.grownBy W' row) (hr : ∀ r, row = some r → ∃ o : Obj, W.heap[r]? = some o ∧ o.isCells = false) : Boxed W' B t v :=
  h.kept hg (fun e' => by obtain ⟨o, h1, h2⟩ := hr B e'.symm; rw [show W.heap[B]? = _ from h] at h1; cases h1; cases h2)
/-- Between two rounds: the results' cells, the row, the iterator's cell. -/
structure ReadI (w : World) (L : List Flo) (W : World) : Prop where
  r0 : Boxed W w.heap.size 22 (.slice none 0 0)
  r1 : Boxed W (w.heap.size + 1) 28 .nilIface
  out : ∃ v, Boxed W (w.heap.size + 1 + 1) 22 v ∧ RowG floC W w.heap.size 24 v L
  it : ∃ v, Boxed W (w.heap.size + 1 + 1 + 1) 9 v
  it1 : ∃ v, Boxed W (w.heap.size + 1 + 1 + 1 + 1) 9 v
  it2 : ∃ v, Boxed W (w.heap.size + 1 + 1 + 1 + 1 + 1) 3 v
  below : Below w.heap.size w W
/-- One more, stored. -/
theorem ReadI.app {w : World} {L M : List Flo} {W w1 : World} {v v' : Value} {tmp : Obj} (h : ReadI w L W) (hv : Boxed W (w.heap.size + 1 + 1) 22 v) (hrow : RowG floC W w.heap.size 24 v L)
    (hown : RowG floC w1 w.heap.size 24 v' M) (hgrow : (W.alloc tmp).grownBy w1 v.ownBlock) :
    Boxed w1 (w.heap.size + 1 + 1) 22 v ∧ ReadI w M (w1.setCell ⟨w.heap.size + 1 + 1, 0, none⟩ v') ∧ KeepsOthers W (w1.setCell ⟨w.heap.size + 1 + 1, 0, none⟩ v') ∧
      KeepB (fun k => k = w.heap.size + 1 + 1 + 1 ∨ k = w.heap.size + 1 + 1 + 1 + 1 ∨ k = w.heap.size + 1 + 1 + 1 + 1 + 1) W (w1.setCell ⟨w.heap.size + 1 + 1, 0, none⟩ v') := by
  obtain ⟨u, hu⟩ := h.it
  obtain ⟨u1, hu1⟩ := h.it1
  obtain ⟨u2, hu2⟩ := h.it2
  obtain ⟨a1, a2, a3, a4, a5⟩ := hv.appended (by decide) hrow h.below.size (by omega) hown hgrow
  have hk : ∀ {B : Nat} {t : TypeId} {x : Value}, t ≠ 24 → B ≠ w.heap.size + 1 + 1 → Boxed W B t x → Boxed (w1.setCell ⟨w.heap.size + 1 + 1, 0, none⟩ v') B t x := fun ht hB hx => ((hx.alloc tmp).kept hgrow (hx.not_row ht hrow)).other hB _
  refine ⟨a1, ⟨hk (by decide) (by omega) h.r0, hk (by decide) (by omega) h.r1, ⟨v', a2, a3⟩, ⟨u, hk (by decide) (by omega) hu⟩, ⟨u1, hk (by decide) (by omega) hu1⟩, ⟨u2, hk (by decide) (by omega) hu2⟩, h.below.trans a5⟩, a4, fun k o hS ho _ => ?_⟩
  rcases hS with rfl | rfl | rfl
  · rw [show W.heap[_]? = _ from hu] at ho; cases ho; exact hk (by decide) (by omega) hu
  · rw [show W.heap[_]? = _ from hu1] at ho; cases ho; exact hk (by decide) (by omega) hu1
  · rw [show W.heap[_]? = _ from hu2] at ho; cases ho; exact hk (by decide) (by omega) hu2
/-- 'append(v, u...)' onto a row of one's own, in a round. -/
theorem wpListIn_appG {α : Type} {F : Fence} {n : Nat} {P : Program} {ops : Array Oper} {rest : List Oper} {o : Oper} {a : Act} {Q : Exit → Act → World → Prop} (C : Cells α) (w : World) (hgd : o.guard = none) (s x : Operand) (t : TypeId)
    (ho : o.op = .call { callee := .builtin .append, args := #[s, x], argTypes := #[t, t] }) (e : TypeId) (z : Value) (bytes : Nat) (ht : P.underlying t = some (.slice e))
    (hinfo : (P.info? e).map (fun i => (i.zero, i.size, i.bytes)) = some (some z, C.k, bytes)) (hzs : z.cells.size = C.k) (hby : bytes ≤ 1000)
    (base : Nat) (v : Value) (L : List α) (hs : a.eval s = v) (hown : RowG C w base e v L) (u : Value) (M : List α) (hM : M ≠ []) (hx : a.eval x = u) (hr : AtG C w u M) (hn : L.length + M.length ≤ 1000000) (hbase : base ≤ w.heap.size)
    (h : ∀ v' w', RowG C w' base e v' (L ++ M) → w.grownBy w' v.ownBlock → wpListIn F n P ops Q rest (a.put o.dst v') w') : wpListIn F n P ops Q (o :: rest) a w := by
  obtain ⟨i, hi, hz0, hz1, hz2⟩ := info_parts hinfo
  obtain ⟨ad, c, rfl, hnone, hcells⟩ := hr.cells
  cases ad with
  | none =>
    obtain ⟨a', c', he, _, _, _, h5⟩ := hr
    cases M with
    | nil => exact absurd rfl hM
    | cons p M =>
      obtain ⟨b, o, h6, _⟩ := h5 0 (by simp)
      cases he
      cases h6
  | some ad =>
    refine wpListIn_append_own w hgd s x t ho base e i z C.k bytes ht hi hz0 hz1 hz2 hzs C.pos v L.length (flatG C L) hs hown ad M.length c (flatG C M) hx (flatG_len C M) (hcells ad rfl) (flatG_one C M) (by unfold maxLen; omega) ?_ hbase ?_
    · have h1 : (L.length + M.length) * bytes ≤ 1000000 * 1000 := Nat.mul_le_mul hn hby
      omega
    · intro v' w' h1 h2 _
      refine h v' w' ?_ h2
      unfold RowG
      rw [List.length_append, flatG_append]
      exact h1
/-- Behind a round that returns. -/
structure ReadX (E : Nat → Addr) (w : World) (W : World) : Prop where
  r0 : Boxed W w.heap.size 22 (.slice none 0 0)
  r1 : Boxed W (w.heap.size + 1) 28 (errV E 1)
  below : Below w.heap.size w W
theorem ReadI.turn {w : World} {L : List Flo} {W W' : World} {row : Option Nat} {B : Nat} (hB : w.heap.size ≤ B) (h : ReadI w L W) (hg : W.grownBy W' row) (hr : ∀ r, row = some r → B ≤ r ∧ ∃ o : Obj, W.heap[r]? = some o ∧ o.isCells = false) : ReadI w L W' := by
  have hr2 := fun r e => (hr r e).2
  obtain ⟨v, hv, hrow⟩ := h.out
  obtain ⟨u, hu⟩ := h.it
  obtain ⟨u1, hu1⟩ := h.it1
  obtain ⟨u2, hu2⟩ := h.it2
  exact ⟨boxed_turn h.r0 hg hr2, boxed_turn h.r1 hg hr2, ⟨v, boxed_turn hv hg hr2, rowG_turn hrow hg hr2⟩, ⟨u, boxed_turn hu hg hr2⟩, ⟨u1, boxed_turn hu1 hg hr2⟩, ⟨u2, boxed_turn hu2 hg hr2⟩, h.below.grown hg h.below.size (fun k e => Nat.le_trans hB (hr k e).1)⟩
theorem ReadX.turn {E : Nat → Addr} {w : World} {W W' : World} {row : Option Nat} {B : Nat} (hB : w.heap.size ≤ B) (h : ReadX E w W) (hg : W.grownBy W' row) (hr : ∀ r, row = some r → B ≤ r ∧ ∃ o : Obj, W.heap[r]? = some o ∧ o.isCells = false) : ReadX E w W' := by
  have hr2 := fun r e => (hr r e).2
  exact ⟨boxed_turn h.r0 hg hr2, boxed_turn h.r1 hg hr2, h.below.grown hg h.below.size (fun k e => Nat.le_trans hB (hr k e).1)⟩
theorem ReadI.step {w : World} {L : List Flo} {W W' : World} (h : ReadI w L W) (hb : Below W.heap.size W W') : ReadI w L W' := by
  have hk : ∀ {B : Nat} {t : TypeId} {v : Value}, Boxed W B t v → Boxed W' B t v := fun hx => heap_down hb hx
  obtain ⟨v, hv, hrow⟩ := h.out
  obtain ⟨u, hu⟩ := h.it
  obtain ⟨u1, hu1⟩ := h.it1
  obtain ⟨u2, hu2⟩ := h.it2
  exact ⟨hk h.r0, hk h.r1, ⟨v, hk hv, hrow.below hb⟩, ⟨u, hk hu⟩, ⟨u1, hk hu1⟩, ⟨u2, hk hu2⟩, below_trans h.below hb⟩
theorem ReadI.set {w : World} {L : List Flo} {W : World} (h : ReadI w L W) (x : Value) : ReadI w L (W.setCell ⟨w.heap.size + 1 + 1 + 1, 0, none⟩ x) := by
  obtain ⟨v, hv, hrow⟩ := h.out
  obtain ⟨u, hu⟩ := h.it
  obtain ⟨u1, hu1⟩ := h.it1
  obtain ⟨u2, hu2⟩ := h.it2
  refine ⟨h.r0.other (by omega) _, h.r1.other (by omega) _, ⟨v, hv.other (by omega) _, hrow.other _ _ fun g hg e => ?_⟩, ⟨x, hu.set x⟩, ⟨u1, hu1.other (by omega) _⟩, ⟨u2, hu2.other (by omega) _⟩, h.below.setCell (by show w.heap.size ≤ w.heap.size + 1 + 1 + 1; omega) _⟩
  obtain ⟨_, cs, hgb⟩ := hrow.block hg
  rw [show g = w.heap.size + 1 + 1 + 1 from e, show W.heap[_]? = _ from hu] at hgb
  simp at hgb
theorem ReadX.set {E : Nat → Addr} {w : World} {W : World} (h : ReadX E w W) (x : Value) : ReadX E w (W.setCell ⟨w.heap.size + 1 + 1 + 1, 0, none⟩ x) :=
  ⟨h.r0.other (by omega) _, h.r1.other (by omega) _, h.below.setCell (by show w.heap.size ≤ w.heap.size + 1 + 1 + 1; omega) _⟩
theorem ReadI.bad {E : Nat → Addr} {w : World} {L : List Flo} {W : World} (h : ReadI w L W) : ReadX E w (((W.setCell ⟨w.heap.size, 0, none⟩ (.slice none 0 0)).setCell ⟨w.heap.size + 1, 0, none⟩ (errV E 1)).drew) :=
  ⟨(h.r0.set _).other (by omega) _, (h.r1.other (by omega) _).set _, ((h.below.setCell (p := ⟨w.heap.size, 0, none⟩) (Nat.le_refl _) _).setCell (p := ⟨w.heap.size + 1, 0, none⟩) (by show w.heap.size ≤ w.heap.size + 1; omega) _).drew⟩
theorem keepsO_set2 {W W2 : World} (h : KeepsOthers W W2) (a b : Addr) (u v : Value) : KeepsOthers W ((W2.setCell a u).setCell b v).drew := ((h.trans (KeepsOthers.setCell _ _ _)).trans (KeepsOthers.setCell _ _ _)).trans (KeepsOthers.drew _)
theorem keepsO_below {W W' : World} (h : Below W.heap.size W W') : KeepsOthers W W' := ⟨h.size, fun k _ hk _ => (h.block k (Array.getElem?_eq_some_iff.1 hk).1).trans hk⟩
theorem RowG.box {α : Type} {C : Cells α} {W : World} {base : Nat} {e t : TypeId} {v u : Value} {L : List α} {B : Nat} (h : RowG C W base e v L) (hb : Boxed W B t u) (ht : t ≠ e) (x : Value) : RowG C (W.setCell ⟨B, 0, none⟩ x) base e v L :=
  h.other _ _ fun g hg eg => by
    obtain ⟨_, cs, hgb⟩ := h.block hg
    rw [show g = B from eg, show W.heap[_]? = _ from hb] at hgb
    injection hgb with hgb
    injection hgb with _ h2
    exact ht h2
theorem ErrAt.box {E : Nat → Addr} {W : World} {v u : Value} {c : Nat} {a : Int} {B : Nat} {t : TypeId} (h : ErrAt E W v c a) (hb : Boxed W B t u) (hu : ∀ z, u ≠ .int .i64 z) (x : Value) : ErrAt E (W.setCell ⟨B, 0, none⟩ x) v c a := by
  rcases h with h | ⟨N, h1, h2, h3, h4⟩
  · exact .inl h
  · have hne : B ≠ N := by
      rintro rfl
      rw [hb.cell] at h3
      exact hu _ (Option.some.inj h3)
    exact .inr ⟨N, h1, h2, (World.cell?_setCell_far _ _ _ _ hne).trans h3, (World.cell?_setCell_far _ _ _ _ hne).trans h4⟩
theorem ErrAt.turn {E : Nat → Addr} {W : World} {v : Value} {c : Nat} {a : Int} {D : Nat} {o : Obj} (h : ErrAt E W v c a) (hD : W.heap[D]? = some o) (ho : o.isCells = false) (o' : Obj) : ErrAt E (W.putObj D o') v c a := by
  rcases h with h | ⟨N, h1, h2, h3, h4⟩
  · exact .inl h
  · have hr : ∀ r, some D = some r → ∃ o : Obj, W.heap[r]? = some o ∧ o.isCells = false := fun r e => by cases e; exact ⟨o, hD, ho⟩
    exact .inr ⟨N, h1, h2, cell_kept h3 (grownBy_putObj' W D o') hr, cell_kept h4 (grownBy_putObj' W D o') hr⟩
attribute [local go_sem] Oper.semAt_some
set_option maxHeartbeats 4000000 in
set_option maxRecDepth 100000 in
theorem read_any {E : Nat → Addr} (s : ByteArray) (w : World) (hL : LaidS E w) (hs : s.size ≤ 1000) :
    Calls Tryz.prog 9 #[.string s] w fun e w' => ReadRes E w' s.data.toList e ∧ Below w.heap.size w w' := by
  have hLw := Lib.hid (fun wx (hx : Below w.heap.size w wx) => hL.below hx)
  have hslen : s.data.toList.length = s.size := Array.length_toList
  have hxl := Lib.hid (show ∀ x ∈ cutL 44 s.data.toList, x.length ≤ 1000 from fun x hx => by have := cutL_len 44 _ x hx; omega)
  have hnl := Lib.hid (show (cutL 44 s.data.toList).length ≤ 1001 by have := cutL_le 44 s.data.toList; omega)
  clear hL
  refine (callsIn_wide (n := 0)).1 ?_
  refine callsIn_of_wp_marks Tryz.func9 rfl trivial ?_ rfl
  simp only [Tryz.ntmps9, List.size_toArray, List.length_cons, List.length_nil, Nat.reduceAdd, Nat.reduceSub, Array.replicate_succ, Array.replicate_zero, List.push_toArray, List.append_toArray, List.nil_append, List.cons_append]
  by_cases h45 : s.data.toList = [45]
  · have hbe : (s.toList == [45]) = true := by rw [toList_data, h45]; rfl
    have hr := Lib.hid (show readF s.data.toList = ([], 0, -1) by unfold readF; rw [if_pos h45])
    clear h45
    gi_wp2
    refine ⟨.tuple #[.slice none 0 0, .nilIface], by simp [results, Tryz.results9, go_sem], ?_⟩
    exact ⟨⟨_, _, rfl, by rw [hr.out]; exact floorsAt_nil _, by rw [hr.out]; exact ErrAt.bare 0⟩, ((Below.refl _ _).alloc (Nat.le_refl _) _).alloc (by simp) _⟩
  have hbe : (s.toList == [45]) = false := by rw [toList_data]; exact beq_eq_false_iff_ne.2 h45
  have hrd1 := Lib.hid (show allF (cutL 44 s.data.toList) → readF s.data.toList = if (checkF (valsF (cutL 44 s.data.toList))).1 = 0 then (valsF (cutL 44 s.data.toList), 0, -1) else ([], checkF (valsF (cutL 44 s.data.toList))) from fun h => by unfold readF; rw [if_neg h45, if_pos h])
  have hrd2 := Lib.hid (show ¬ allF (cutL 44 s.data.toList) → readF s.data.toList = ([], 1, -1) from fun h => by unfold readF; rw [if_neg h45, if_neg h])
  clear h45
  gi_wp2
  refine ⟨trivial, rfl, (callsIn_wide.2 (splitSeq_any _ _ _)).mono ?_⟩
  rintro e w' ⟨rfl, rfl⟩
  gi_wp2
  have b0 := Boxed.new w 22 (.slice none 0 0)
  have b1 := Boxed.new (w.alloc (.cells #[.slice none 0 0] 22)) 28 .nilIface
  have b2 := Boxed.new ((w.alloc (.cells #[.slice none 0 0] 22)).alloc (.cells #[.nilIface] 28)) 22 (.slice none 0 0)
  have b3 := Boxed.new (((w.alloc (.cells #[.slice none 0 0] 22)).alloc (.cells #[.nilIface] 28)).alloc (.cells #[.slice none 0 0] 22)) 9 (.string s)
  have b4 := Boxed.new ((((w.alloc (.cells #[.slice none 0 0] 22)).alloc (.cells #[.nilIface] 28)).alloc (.cells #[.slice none 0 0] 22)).alloc (.cells #[.string s] 9)) 9 (.string ⟨#[44]⟩)
  have b5 := Boxed.new (((((w.alloc (.cells #[.slice none 0 0] 22)).alloc (.cells #[.nilIface] 28)).alloc (.cells #[.slice none 0 0] 22)).alloc (.cells #[.string s] 9)).alloc (.cells #[.string ⟨#[44]⟩] 9)) 3 (.int .i64 0)
  have b0 := ((((b0.alloc (.cells #[.nilIface] 28)).alloc (.cells #[.slice none 0 0] 22)).alloc (.cells #[.string s] 9)).alloc (.cells #[.string ⟨#[44]⟩] 9)).alloc (.cells #[.int .i64 0] 3)
  have b1 := (((b1.alloc (.cells #[.slice none 0 0] 22)).alloc (.cells #[.string s] 9)).alloc (.cells #[.string ⟨#[44]⟩] 9)).alloc (.cells #[.int .i64 0] 3)
  have b2 := ((b2.alloc (.cells #[.string s] 9)).alloc (.cells #[.string ⟨#[44]⟩] 9)).alloc (.cells #[.int .i64 0] 3)
  have b3 := (b3.alloc (.cells #[.string ⟨#[44]⟩] 9)).alloc (.cells #[.int .i64 0] 3)
  have b4 := b4.alloc (.cells #[.int .i64 0] 3)
  have hB0 : Below w.heap.size w ((((((w.alloc (.cells #[.slice none 0 0] 22)).alloc (.cells #[.nilIface] 28)).alloc (.cells #[.slice none 0 0] 22)).alloc (.cells #[.string s] 9)).alloc (.cells #[.string ⟨#[44]⟩] 9)).alloc (.cells #[.int .i64 0] 3)) :=
    (((((((Below.refl w.heap.size w).alloc (Nat.le_refl _) _).alloc (by simp) _).alloc (by simp; omega) _).alloc (by simp; omega) _).alloc (by simp; omega) _).alloc (by simp; omega) _)
  simp only [World.size_alloc] at b1 b2 b3 b4 b5
  generalize ((((((w.alloc (.cells #[.slice none 0 0] 22)).alloc (.cells #[.nilIface] 28)).alloc (.cells #[.slice none 0 0] 22)).alloc (.cells #[.string s] 9)).alloc (.cells #[.string ⟨#[44]⟩] 9)).alloc (.cells #[.int .i64 0] 3)) = W0 at *
  refine wpIn_rangeC (gf := 81) rfl (enters_of Tryz.func81 (by kernel_rfl) rfl) (split_gives s (w.heap.size + 1 + 1 + 1) (w.heap.size + 1 + 1 + 1 + 1) (w.heap.size + 1 + 1 + 1 + 1 + 1) W0 (by omega) (by omega) b3 b4 b5 (by omega))
    (KeepB.refl _ _) KeepB.trans (KeepB.alloc _) (KeepB.putObj _)
    (fun pre W => allF pre ∧ ReadI w (valsF pre) W) (fun pre W => (∃ x ∈ pre, pieceF x = none) ∧ ReadX E w W)
    (fun s A B row h hg hr => ⟨h.1, h.2.turn hB0.size hg hr⟩) (fun s A B row h hg hr => ⟨h.1, h.2.turn hB0.size hg hr⟩) (fun pre X v h => ⟨h.1, h.2.set v⟩) (fun pre X v h => ⟨h.1, h.2.set v⟩)
    ⟨allF_nil, b0, b1, ⟨_, b2, RowG.nil _ _ _⟩, ⟨_, b3⟩, ⟨_, b4⟩, ⟨_, b5⟩, hB0⟩
    (fun x => { tmps := #[.string s, undef, .pointer (some ⟨w.heap.size, 0, none⟩), .pointer (some ⟨w.heap.size + 1, 0, none⟩), .pointer (some ⟨w.heap.size + 1 + 1, 0, none⟩), .string (bs x), undef, undef, undef, undef, undef, undef, .string s, .bool false, .string s, .func (.func 81) #[] #[.pointer (some ⟨w.heap.size + 1 + 1 + 1 + 1, 0, none⟩), .pointer (some ⟨w.heap.size + 1 + 1 + 1, 0, none⟩), .pointer (some ⟨w.heap.size + 1 + 1 + 1 + 1 + 1, 0, none⟩)], .string (bs x), undef, undef, undef, undef, undef, undef, undef, undef, undef, undef, undef, undef, undef, undef, undef, undef, undef, undef, undef, undef, undef, undef, undef, undef, undef, undef, undef, undef, undef, undef], defers := [] }) ?assign ?body ?done ?stop
  case assign =>
    intro l x W K hK
    gi_wp2
    exact hK
  case body =>
    rintro l pre x W ⟨ha, hI⟩ hpre
    have hx : x ∈ cutL 44 s.data.toList := hpre.subset (by simp)
    have hxl0 := hxl.out x hx
    have hpl := hpre.length_le
    rw [List.length_append, List.length_singleton] at hpl
    have hvl := valsF_len pre
    have hnl0 := hnl.out
    obtain ⟨hcl1, hcl2⟩ := cut_len x
    obtain ⟨cw, cd, ci, hcc⟩ : ∃ (cw cd : List UInt8) (ci : Bool), Lib.cut x [58] = (cw, cd, ci) := ⟨_, _, _, rfl⟩
    have hsz : (bs x).size = x.length := List.size_toArray
    have hcut := cutColon_any (bs x) W (hLw.out W hI.below) (by omega)
    have hp : pieceF x = if ci = true ∧ (number cd 9999999999).2 = true then some ⟨cw, (number cd 9999999999).1⟩ else none := by unfold pieceF; rw [hcc]
    rw [bs_list, hcc] at hcut
    rw [hcc] at hcl1 hcl2
    dsimp only at hcut hcl1 hcl2
    have hcut := Lib.hid hcut
    have hsz2 : (bs cd).size = cd.length := List.size_toArray
    have hnum := Lib.hid (fun wx (hx : Below w.heap.size w wx) => number_any (bs cd) 9999999999 wx (hLw.out _ hx) (by omega))
    unfold numRes at hnum
    rw [bs_list] at hnum
    obtain ⟨nv, nb, hnn⟩ : ∃ nv nb, number cd 9999999999 = (nv, nb) := ⟨_, _, rfl⟩
    rw [hnn] at hnum hp
    dsimp only at hnum hp
    have hvl2 : (valsF pre).length ≤ 1001 := by omega
    clear hcc hnn hsz hsz2 hcl1 hcl2 hnl0
    gi_wp2
    refine ⟨trivial, rfl, (CallsIn.inRound l (callsIn_wide.2 hcut.out)).mono ?_⟩
    rintro e w1 ⟨rfl, hb1⟩
    have hI1 := hI.step hb1
    have hnum1 := Lib.hid (hnum.out _ hI1.below)
    have hI1 := Lib.hid hI1
    have hK1 := Lib.hid (keepsO_below hb1)
    have hKb1 := Lib.hid (KeepB.below (S := fun k => k = w.heap.size + 1 + 1 + 1 ∨ k = w.heap.size + 1 + 1 + 1 + 1 ∨ k = w.heap.size + 1 + 1 + 1 + 1 + 1) hb1)
    clear hb1 hnum hcut hI
    gi_wp2
    refine ⟨trivial, rfl, (CallsIn.inRound l (callsIn_wide.2 hnum1.out)).mono ?_⟩
    rintro e w2 ⟨rfl, hb2⟩
    have hI2 := Lib.hid (hI1.out.step hb2)
    have hK2 := Lib.hid (hK1.out.trans (keepsO_below hb2))
    have hKb2 := Lib.hid (hKb1.out.trans (KeepB.below hb2))
    clear hb2 hnum1 hK1 hKb1 hI1
    have bad : ¬ (ci = true ∧ nb = true) → pieceF x = none := fun h => by rw [hp, if_neg h]
    have good : ci = true ∧ nb = true → pieceF x = some ⟨cw, nv⟩ := fun h => by rw [hp, if_pos h]
    clear hp
    cases ci with
    | false =>
      have hpx := Lib.hid (bad (by rintro ⟨h, _⟩; cases h))
      have he := (hLw.out _ hI2.out.below).laid.e1
      simp only [errV] at he
      have c0 := hI2.out.r0.cell
      have f0 := hI2.out.r0.frozen
      have c1 := hI2.out.r1.cell
      have f1 := hI2.out.r1.frozen
      have he2 := (hLw.out _ (hI2.out.below.setCell (p := ⟨w.heap.size, 0, none⟩) (Nat.le_refl _) (.slice none 0 0))).laid.e1
      simp only [errV] at he2
      clear bad good
      gi_wp2
      have mixed : Tryz.prog.follows .mixedOrders = true := by kernel_rfl
      refine wpIn_region_any mixed ?_
      change wpAnyIn _ _ _ _ _ _ _ _ _ (World.drew _)
      refine wpAnyIn_ready (rs := [0, 1]) (by kernel_rfl) (by simp) ?_
      refine AllReadyIn.cons rfl (fun K hK => ?_) (AllReadyIn.cons rfl (fun K hK => ?_) AllReadyIn.nil)
      · go_simp
        refine hK _ _ ?_
        clear hK K
        refine wpAnyIn_ready (rs := [1]) (by kernel_rfl) (by simp) ?_
        refine AllReadyIn.cons rfl (fun K hK => ?_) AllReadyIn.nil
        go_simp
        refine hK _ _ ?_
        clear hK K
        refine wpAnyIn_ready (rs := [2]) (by kernel_rfl) (by simp) ?_
        refine AllReadyIn.cons rfl (fun K hK => ?_) AllReadyIn.nil
        go_simp
        refine hK _ _ ?_
        clear hK K
        refine wpAnyIn_done (by kernel_rfl) ?_ _
        gi_wp2
        exact ⟨keepsO_set2 hK2.out _ _ _ _, ⟨x, by simp, hpx.out⟩, hI2.out.bad⟩
      · go_simp
        refine hK _ _ ?_
        clear hK K
        refine wpAnyIn_ready (rs := [0]) (by kernel_rfl) (by simp) ?_
        refine AllReadyIn.cons rfl (fun K hK => ?_) AllReadyIn.nil
        go_simp
        refine hK _ _ ?_
        clear hK K
        refine wpAnyIn_ready (rs := [2]) (by kernel_rfl) (by simp) ?_
        refine AllReadyIn.cons rfl (fun K hK => ?_) AllReadyIn.nil
        go_simp
        refine hK _ _ ?_
        clear hK K
        refine wpAnyIn_done (by kernel_rfl) ?_ _
        gi_wp2
        exact ⟨keepsO_set2 hK2.out _ _ _ _, ⟨x, by simp, hpx.out⟩, hI2.out.bad⟩
    | true =>
      cases nb with
      | false =>
        have hpx := Lib.hid (bad (by rintro ⟨_, h⟩; cases h))
        have he := (hLw.out _ hI2.out.below).laid.e1
        simp only [errV] at he
        have c0 := hI2.out.r0.cell
        have f0 := hI2.out.r0.frozen
        have c1 := hI2.out.r1.cell
        have f1 := hI2.out.r1.frozen
        have he2 := (hLw.out _ (hI2.out.below.setCell (p := ⟨w.heap.size, 0, none⟩) (Nat.le_refl _) (.slice none 0 0))).laid.e1
        simp only [errV] at he2
        clear bad good
        gi_wp2
        have mixed : Tryz.prog.follows .mixedOrders = true := by kernel_rfl
        refine wpIn_region_any mixed ?_
        change wpAnyIn _ _ _ _ _ _ _ _ _ (World.drew _)
        refine wpAnyIn_ready (rs := [0, 1]) (by kernel_rfl) (by simp) ?_
        refine AllReadyIn.cons rfl (fun K hK => ?_) (AllReadyIn.cons rfl (fun K hK => ?_) AllReadyIn.nil)
        · go_simp
          refine hK _ _ ?_
          clear hK K
          refine wpAnyIn_ready (rs := [1]) (by kernel_rfl) (by simp) ?_
          refine AllReadyIn.cons rfl (fun K hK => ?_) AllReadyIn.nil
          go_simp
          refine hK _ _ ?_
          clear hK K
          refine wpAnyIn_ready (rs := [2]) (by kernel_rfl) (by simp) ?_
          refine AllReadyIn.cons rfl (fun K hK => ?_) AllReadyIn.nil
          go_simp
          refine hK _ _ ?_
          clear hK K
          refine wpAnyIn_done (by kernel_rfl) ?_ _
          gi_wp2
          exact ⟨keepsO_set2 hK2.out _ _ _ _, ⟨x, by simp, hpx.out⟩, hI2.out.bad⟩
        · go_simp
          refine hK _ _ ?_
          clear hK K
          refine wpAnyIn_ready (rs := [0]) (by kernel_rfl) (by simp) ?_
          refine AllReadyIn.cons rfl (fun K hK => ?_) AllReadyIn.nil
          go_simp
          refine hK _ _ ?_
          clear hK K
          refine wpAnyIn_ready (rs := [2]) (by kernel_rfl) (by simp) ?_
          refine AllReadyIn.cons rfl (fun K hK => ?_) AllReadyIn.nil
          go_simp
          refine hK _ _ ?_
          clear hK K
          refine wpAnyIn_done (by kernel_rfl) ?_ _
          gi_wp2
          exact ⟨keepsO_set2 hK2.out _ _ _ _, ⟨x, by simp, hpx.out⟩, hI2.out.bad⟩
      | true =>
        have hpx := Lib.hid (good ⟨rfl, rfl⟩)
        obtain ⟨v, hv, hrow⟩ := hI2.out.out
        have c0 := hv.cell
        have hrow := Lib.hid hrow
        have hbs := hI2.out.below.size
        obtain ⟨av, cv, hsv⟩ := hrow.out.sl
        subst hsv
        clear bad good
        gi_wp2_with (gi_at_builtin; refine wpListIn_appG floC _ rfl _ _ 22 rfl 24 (.agg #[.string ⟨#[]⟩, .int .i64 0]) 24 Tryz.underlying22 info_flo2 rfl (by decide) w.heap.size _ (valsF pre) rfl (RowG.alloc hrow.out _) _ [⟨cw, nv⟩] (by simp) rfl (AtG.new _ _ _ rfl) (by simp; omega) (by simp; omega) ?_)
        intro v' w1 hown' hgrow
        obtain ⟨d1, d2, d3, d4⟩ := hI2.out.app hv hrow.out hown' hgrow
        obtain ⟨av2, cv2, hsv2⟩ := hown'.sl
        rw [List.length_append, List.length_singleton] at hsv2
        subst hsv2
        have d1c := d1.cell
        have d1f := d1.frozen
        have hfin := Lib.hid (show KeepsOthers W (w1.setCell ⟨w.heap.size + 1 + 1, 0, none⟩ (.slice av2 ((valsF pre).length + 1) cv2)) ∧ KeepB (fun k => k = w.heap.size + 1 + 1 + 1 ∨ k = w.heap.size + 1 + 1 + 1 + 1 ∨ k = w.heap.size + 1 + 1 + 1 + 1 + 1) W (w1.setCell ⟨w.heap.size + 1 + 1, 0, none⟩ (.slice av2 ((valsF pre).length + 1) cv2)) ∧ allF (pre ++ [x]) ∧ ReadI w (valsF (pre ++ [x])) (w1.setCell ⟨w.heap.size + 1 + 1, 0, none⟩ (.slice av2 ((valsF pre).length + 1) cv2)) from ⟨hK2.out.trans d3, hKb2.out.trans d4, allF_snoc ha hpx.out, by rw [valsF_snoc hpx.out]; exact d2⟩)
        clear d1 d2 d3 d4 hown' hgrow c0
        gi_wp2
        exact hfin.out
  case done =>
    rintro D W hD ⟨ha, hI⟩ hd
    have hrd := hrd1.out ha
    obtain ⟨v, hv, hrow⟩ := hI.out
    have c0 := hv.cell
    have hat := floorsAt_of (RowG.at_ hrow)
    obtain ⟨av, cv, hsv⟩ := hrow.sl
    subst hsv
    have hck := Lib.hid (check_flo (E := E) _ _ W (hLw.out W hI.below).laid hat (fun f hf => by have := valsF_who (n := 1000) hxl.out f hf; unfold maxLen; omega))
    have hI := Lib.hid hI
    have hvf := Lib.hid hv
    have hrowH := Lib.hid hrow
    clear hrow hat hv
    dsimp only
    gi_wp2
    refine ⟨trivial, rfl, (callsIn_wide.2 hck.out).mono ?_⟩
    rintro e w1 ⟨ev, rfl, he1, hb1⟩
    have hI1 := hI.out.step hb1
    have hrow1 := Lib.hid (hrowH.out.below hb1)
    have hd1 : w1.heap[D]? = some (.deferred (some [])) := heap_down hb1 hd
    have hv1 : Boxed w1 (w.heap.size + 1 + 1) 22 _ := heap_down hb1 hvf.out
    have c0 := hv1.cell
    have c1 := hI1.r0.cell
    have f1 := hI1.r0.frozen
    have c2 := hI1.r1.cell
    have f2 := hI1.r1.frozen
    by_cases hz : (checkF (valsF (cutL 44 s.data.toList))).1 = 0
    · rw [if_pos hz] at hrd
      obtain ⟨rfl, _⟩ := he1.zero hz
      gi_wp2
      have hr : ∀ r, some D = some r → ∃ o : Obj, ((w1.setCell ⟨w.heap.size, 0, none⟩ (.slice av (valsF (cutL 44 s.data.toList)).length cv)).setCell ⟨w.heap.size + 1, 0, none⟩ (.nilIface)).heap[r]? = some o ∧ o.isCells = false := fun r e => by cases e; exact ⟨_, set_loop _ _ (set_loop _ _ hd1 rfl) rfl, rfl⟩
      have hx0 := hI1.r0.set (.slice av (valsF (cutL 44 s.data.toList)).length cv)
      have hx1 := hI1.r1.other (B' := w.heap.size) (by omega) (.slice av (valsF (cutL 44 s.data.toList)).length cv)
      have k0 := (boxed_turn (hx0.other (by omega) (.nilIface)) (grownBy_putObj' _ D (.deferred none)) hr).cell
      have k1 := (boxed_turn (hx1.set (.nilIface)) (grownBy_putObj' _ D (.deferred none)) hr).cell
      refine ⟨by simp, .inl ⟨_, _, rfl, run_takeDeferred (set_loop _ _ (set_loop _ _ hd1 rfl) rfl), ?_⟩⟩
      refine ⟨.tuple #[.slice av (valsF (cutL 44 s.data.toList)).length cv, .nilIface], by simp [results, Tryz.results9, go_sem, k0, k1], ⟨_, _, rfl, by rw [hrd]; exact floorsAt_of (RowG.at_ (rowG_turn ((hrow1.out.box hI1.r0 (by decide) _).box hx1 (by decide) _) (grownBy_putObj' _ D (.deferred none)) hr)), by rw [hrd]; exact ErrAt.bare 0⟩, ?_⟩
      exact ((hI1.below.setCell (p := ⟨w.heap.size, 0, none⟩) (Nat.le_refl _) _).setCell (p := ⟨w.heap.size + 1, 0, none⟩) (by show w.heap.size ≤ w.heap.size + 1; omega) _).grown (grownBy_putObj' _ D (.deferred none)) (by have := hI1.below.size; simp; omega) (fun k e => by cases e; have := hB0.size; omega)
    · rw [if_neg hz] at hrd
      obtain ⟨T1, x1, rfl⟩ := he1.iface hz
      gi_wp2
      have hr : ∀ r, some D = some r → ∃ o : Obj, ((w1.setCell ⟨w.heap.size, 0, none⟩ (.slice none 0 0)).setCell ⟨w.heap.size + 1, 0, none⟩ (.iface T1 (.pointer (some x1)))).heap[r]? = some o ∧ o.isCells = false := fun r e => by cases e; exact ⟨_, set_loop _ _ (set_loop _ _ hd1 rfl) rfl, rfl⟩
      have hx0 := hI1.r0.set (.slice none 0 0)
      have hx1 := hI1.r1.other (B' := w.heap.size) (by omega) (.slice none 0 0)
      have k0 := (boxed_turn (hx0.other (by omega) (.iface T1 (.pointer (some x1)))) (grownBy_putObj' _ D (.deferred none)) hr).cell
      have k1 := (boxed_turn (hx1.set (.iface T1 (.pointer (some x1)))) (grownBy_putObj' _ D (.deferred none)) hr).cell
      refine ⟨by simp, .inl ⟨_, _, rfl, run_takeDeferred (set_loop _ _ (set_loop _ _ hd1 rfl) rfl), ?_⟩⟩
      refine ⟨.tuple #[.slice none 0 0, .iface T1 (.pointer (some x1))], by simp [results, Tryz.results9, go_sem, k0, k1], ⟨_, _, rfl, by rw [hrd]; exact floorsAt_nil _, by rw [hrd]; exact ((he1.box hI1.r0 (fun _ => by simp) _).box hx1 (fun _ => by simp) _).turn (set_loop _ _ (set_loop _ _ hd1 rfl) rfl) rfl _⟩, ?_⟩
      exact ((hI1.below.setCell (p := ⟨w.heap.size, 0, none⟩) (Nat.le_refl _) _).setCell (p := ⟨w.heap.size + 1, 0, none⟩) (by show w.heap.size ≤ w.heap.size + 1; omega) _).grown (grownBy_putObj' _ D (.deferred none)) (by have := hI1.below.size; simp; omega) (fun k e => by cases e; have := hB0.size; omega)
  case stop =>
    rintro D pre W hD hpre ⟨⟨x, hx, hpx⟩, hI⟩ hd
    have hrd := Lib.hid (hrd2.out (allF_not (hpre.subset hx) hpx))
    have c0 := hI.r0.cell
    have c1 := hI.r1.cell
    have hI := Lib.hid hI
    dsimp only
    gi_wp2
    refine ⟨by simp, .inl ⟨_, _, rfl, run_takeDeferred hd, ?_⟩⟩
    have hI2 := hI.out.turn (B := D) (by have := hB0.size; omega) (grownBy_putObj' W D (.deferred none)) (fun r e => by cases e; exact ⟨Nat.le_refl _, _, hd, rfl⟩)
    have k0 := hI2.r0.cell
    have k1 := hI2.r1.cell
    exact ⟨.tuple #[.slice none 0 0, errV E 1], by simp [results, Tryz.results9, go_sem, k0, k1], ⟨_, _, rfl, by rw [hrd.out]; exact floorsAt_nil _, by rw [hrd.out]; exact ErrAt.bare 1⟩, hI2.below⟩
end Go.Proofs.YtcnadjdijolboaaGreatDoor
