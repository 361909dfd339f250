/- RowG, Open, FloArg, FedM, SortK -/
import Derived.Test.YtcnadjdijolboaaGreatDoorMg4
import Derived.Test.YtcnadjdijolboaaGreatDoorMg1
import Derived.Test.YtcnadjdijolboaaGreatDoorMg8
import Derived.Laws.AppendOwnNone
import Derived.Maps.AppendAt
import Derived.OwnWalk
import Derived.RegionTactic
import Derived.Deep.Slices
import Derived.Deep.Fields
import Derived.ChangeSame
import Derived.ProofKit
import Derived.Shelf.GgSortFunc.InsertionK
/- Slices of structs, of however many cells: as lists; rows of one's own; append: lemmas. No program's function. -/
namespace Go.Proofs.YtcnadjdijolboaaGreatDoor
open Go.RowKit

/-- How an element lies in memory. -/
structure Cells (α : Type) where
  k : Nat
  pos : 0 < k
  f : α → List Value
  len : ∀ x, (f x).length = k
  one : ∀ x, ∀ u ∈ f x, u.oneCell' = true
section
variable {α : Type} (C : Cells α)
def flatG : List α → List Value
  | [] => []
  | p :: L => C.f p ++ flatG L
theorem flatG_append : ∀ L M, flatG C (L ++ M) = flatG C L ++ flatG C M
  | [], _ => rfl
  | p :: L, M => by simp only [List.cons_append, flatG, flatG_append L M, List.append_assoc]
theorem flatG_len : ∀ L : List α, (flatG C L).length = L.length * C.k
  | [] => by simp [flatG]
  | p :: L => by simp only [flatG, List.length_append, C.len, flatG_len L, List.length_cons, Nat.add_mul, Nat.one_mul]; omega
theorem flatG_one : ∀ (L : List α), ∀ u ∈ flatG C L, u.oneCell' = true
  | [], u, h => by cases h
  | p :: L, u, h => by
    rcases List.mem_append.1 h with h | h
    · exact C.one p u h
    · exact flatG_one L u h
theorem flatG_get : ∀ (L : List α) (i : Nat) (h : i < L.length) (j : Nat) (_ : j < C.k), (flatG C L)[i * C.k + j]? = (C.f L[i])[j]?
  | p :: L, 0, _, j, hj => by
    rw [Nat.zero_mul, Nat.zero_add]
    show (C.f p ++ flatG C L)[j]? = _
    rw [List.getElem?_append_left (by rw [C.len]; exact hj)]
    rfl
  | p :: L, i + 1, h, j, hj => by
    have := flatG_get L i (by simpa using h) j hj
    show (C.f p ++ flatG C L)[(i + 1) * C.k + j]? = _
    rw [List.getElem?_append_right (by rw [C.len, Nat.add_mul, Nat.one_mul]; omega), C.len, show (i + 1) * C.k + j - C.k = i * C.k + j by rw [Nat.add_mul, Nat.one_mul]; omega]
    exact this
theorem flatG_at {L : List α} {q : Nat} {u : Value} (h : (flatG C L)[q]? = some u) : ∃ i j, ∃ hi : i < L.length, j < C.k ∧ q = i * C.k + j ∧ (C.f L[i])[j]? = some u := by
  have hq := (List.getElem?_eq_some_iff.1 h).1
  rw [flatG_len] at hq
  have hp := C.pos
  have hi : q / C.k < L.length := (Nat.div_lt_iff_lt_mul hp).2 hq
  have hj : q % C.k < C.k := Nat.mod_lt _ hp
  have he : q = q / C.k * C.k + q % C.k := by rw [Nat.mul_comm]; exact (Nat.div_add_mod q C.k).symm
  refine ⟨q / C.k, q % C.k, hi, hj, he, ?_⟩
  rw [← flatG_get C L _ hi _ hj, ← he]
  exact h
theorem flatG_take : ∀ (L : List α) (n : Nat), flatG C (L.take n) = (flatG C L).take (n * C.k)
  | [], _ => by simp [flatG]
  | p :: L, 0 => by simp [flatG]
  | p :: L, n + 1 => by
    show C.f p ++ flatG C (L.take n) = (C.f p ++ flatG C L).take ((n + 1) * C.k)
    rw [flatG_take L n, List.take_append, List.take_of_length_le (l := C.f p) (by rw [C.len, Nat.add_mul, Nat.one_mul]; omega), C.len, show (n + 1) * C.k - C.k = n * C.k by rw [Nat.add_mul, Nat.one_mul]; omega]
theorem flatG_drop : ∀ (L : List α) (n : Nat), flatG C (L.drop n) = (flatG C L).drop (n * C.k)
  | [], _ => by simp [flatG]
  | p :: L, 0 => by simp [flatG]
  | p :: L, n + 1 => by
    show flatG C (L.drop n) = (C.f p ++ flatG C L).drop ((n + 1) * C.k)
    rw [flatG_drop L n, List.drop_append, List.drop_of_length_le (l := C.f p) (by rw [C.len, Nat.add_mul, Nat.one_mul]; omega), C.len, show (n + 1) * C.k - C.k = n * C.k by rw [Nat.add_mul, Nat.one_mul]; omega, List.nil_append]
/-- A slice, as a list. -/
def AtG (w : World) (v : Value) (L : List α) : Prop :=
  ∃ a c, v = .slice a L.length c ∧ L.length ≤ maxLen ∧ L.length ≤ c ∧ (a = none → c = 0) ∧ ∀ i (h : i < L.length), ∃ b o, a = some ⟨b, o, none⟩ ∧ ∀ j u, (C.f L[i])[j]? = some u → w.cell? ⟨b, o + i * C.k + j, none⟩ = some u
/-- A row of one's own. -/
def RowG (w : World) (base : Nat) (e : TypeId) (v : Value) (L : List α) : Prop := w.ownsRow base e C.k v L.length (flatG C L)
variable {C} {w w' : World} {v : Value} {L M : List α}
theorem AtG.below (h : AtG C w v L) (hb : Below w.heap.size w w') : AtG C w' v L := by
  obtain ⟨a, c, h1, h2, h3, h4, h5⟩ := h
  refine ⟨a, c, h1, h2, h3, h4, fun i hi => ?_⟩
  obtain ⟨b, o, h6, h7⟩ := h5 i hi
  exact ⟨b, o, h6, fun j u hu => cell_below hb (h7 j u hu)⟩
theorem AtG.keeps {S : Nat → Prop} (h : AtG C w v L) (hk : Keeps S w w') (hs : ∀ b, v.ownBlock = some b → ¬ S b) : AtG C w' v L := by
  obtain ⟨a, c, rfl, h2, h3, h4, h5⟩ := h
  refine ⟨a, c, rfl, h2, h3, h4, fun i hi => ?_⟩
  obtain ⟨b, o, rfl, h7⟩ := h5 i hi
  exact ⟨b, o, rfl, fun j u hu => hk.cell (h7 j u hu) (hs b rfl)⟩
theorem AtG.nil (w : World) : AtG C w (.slice none 0 0) [] := ⟨none, 0, rfl, Nat.zero_le _, Nat.zero_le _, fun _ => rfl, fun i hi => by cases hi⟩
theorem AtG.sl (h : AtG C w v L) : ∃ a c, v = .slice a L.length c := by
  obtain ⟨a, c, h1, _⟩ := h
  exact ⟨a, c, h1⟩
theorem AtG.len (h : AtG C w v L) : L.length ≤ maxLen := by
  obtain ⟨_, _, _, h1, _⟩ := h
  exact h1
theorem AtG.cells (h : AtG C w v L) : ∃ a c, v = .slice a L.length c ∧ (a = none → c = 0) ∧ ∀ ad, a = some ad → ∀ j u, (flatG C L)[j]? = some u → w.cell? (ad.add j) = some u := by
  obtain ⟨a, c, h1, _, _, h4, h5⟩ := h
  refine ⟨a, c, h1, h4, fun ad had j u hu => ?_⟩
  obtain ⟨i, q, hi, hq, rfl, hu2⟩ := flatG_at C hu
  obtain ⟨b, o, hbo, h7⟩ := h5 i hi
  have := had.symm.trans hbo
  cases this
  rw [Addr.add_lit, ← Nat.add_assoc]
  exact h7 q u hu2
/-- One element that was laid into a block of its own. -/
theorem AtG.new (x : World) (p : α) (T : TypeId) {cs : Array Value} (hc : cs = (C.f p).toArray) : AtG C (x.alloc (.cells cs T)) (.slice (some ⟨x.heap.size, 0, none⟩) 1 1) [p] := by
  subst hc
  have h := heap_alloc_new x (.cells (C.f p).toArray T)
  refine ⟨_, _, rfl, by unfold maxLen; simp, by simp, (fun e => by cases e), fun i hi => ⟨x.heap.size, 0, rfl, fun j u hu => ?_⟩⟩
  have h0 : i = 0 := by simpa using hi
  subst h0
  rw [cell_of_row _ _ _ _ _ _ h, Nat.zero_mul, Nat.zero_add]
  simpa using hu
/-- The first n of a slice. -/
theorem AtG.take {a : Option Addr} {c : Nat} (h : AtG C w (.slice a L.length c) L) {n : Nat} (hn : n ≤ L.length) : AtG C w (.slice a n c) (L.take n) := by
  obtain ⟨a', c', he, h2, h3, h4, h5⟩ := h
  cases he
  have hl : (L.take n).length = n := by rw [List.length_take]; omega
  refine ⟨a, c, by rw [hl], by omega, by omega, h4, fun i hi => ?_⟩
  obtain ⟨b, o, h6, h7⟩ := h5 i (by omega)
  exact ⟨b, o, h6, fun j u hu => h7 j u (by rw [List.getElem_take] at hu; exact hu)⟩
/-- What lies behind the first n. -/
theorem AtG.drop {a : Option Addr} {c : Nat} (h : AtG C w (.slice a L.length c) L) {n : Nat} (hn : n ≤ L.length) : AtG C w (.slice (if c = n then a else a.map (·.add (n * C.k))) (L.length - n) (c - n)) (L.drop n) := by
  obtain ⟨a', c', he, h2, h3, h4, h5⟩ := h
  cases he
  have hl : (L.drop n).length = L.length - n := List.length_drop
  refine ⟨_, _, by rw [hl], by omega, by omega, fun e => ?_, fun i hi => ?_⟩
  · by_cases hc : c = n
    · rw [if_pos hc] at e; have := h4 e; omega
    · rw [if_neg hc] at e
      cases a with
      | none => have := h4 rfl; omega
      | some ad => cases e
  · obtain ⟨b, o, h6, h7⟩ := h5 (n + i) (by omega)
    refine ⟨b, o + n * C.k, ?_, fun j u hu => ?_⟩
    · rw [if_neg (by omega), h6, Option.map_some, Addr.add_lit]
    · rw [List.getElem_drop] at hu
      have := h7 j u hu
      rw [Nat.add_mul, ← Nat.add_assoc] at this
      exact this
variable {base : Nat} {e : TypeId}
theorem RowG.nil (w : World) (base : Nat) (e : TypeId) : RowG C w base e (.slice none 0 0) [] := World.ownsRow_nil _ _ _ _
theorem RowG.keeps {S : Nat → Prop} (h : RowG C w base e v L) (hk : Keeps S w w') (hs : ∀ g, v.ownBlock = some g → ¬ S g) : RowG C w' base e v L := ownsRow_keeps h hk hs
theorem RowG.below (h : RowG C w base e v L) (hb : Below w.heap.size w w') : RowG C w' base e v L := h.keeps (Keeps.of_below (S := fun _ => False) hb) (fun _ _ h => h)
theorem RowG.mono {base' : Nat} (h : RowG C w base e v L) (hb : base' ≤ base) : RowG C w base' e v L := ownsRow_mono h hb
theorem RowG.block (h : RowG C w base e v L) {g : Nat} (hg : v.ownBlock = some g) : base ≤ g ∧ ∃ cs, w.heap[g]? = some (.cells cs e (0, 0)) := ownsRow_block h hg
theorem RowG.drewN (h : RowG C w base e v L) (n : Nat) : RowG C (w.drewN n) base e v L := ownsRow_keeps h ((Keeps.refl (fun _ => False) w).drew n) (fun _ _ h => h)
theorem RowG.alloc (h : RowG C w base e v L) (o : Obj) : RowG C (w.alloc o) base e v L := World.ownsRow.alloc h o
theorem RowG.sl (h : RowG C w base e v L) : ∃ a c, v = .slice a L.length c := by
  obtain ⟨_, ⟨rfl, hn⟩ | ⟨g, cap, cur, rfl, _⟩⟩ := h
  · rw [hn]; exact ⟨_, _, rfl⟩
  · exact ⟨_, _, rfl⟩
theorem RowG.at_ (h : RowG C w base e v L) : AtG C w v L := by
  have h0 := h
  obtain ⟨_, ⟨rfl, hn⟩ | ⟨g, cap, cur, rfl, hbg, hg, hc, hm, hsz, htake⟩⟩ := h
  · exact ⟨none, 0, by rw [hn], by omega, by omega, fun _ => rfl, fun i hi => by omega⟩
  · refine ⟨_, _, rfl, by omega, hc, (fun e => by cases e), fun i hi => ⟨g, 0, rfl, fun j u hu => ?_⟩⟩
    have hj := (List.getElem?_eq_some_iff.1 hu).1
    rw [C.len] at hj
    have h1 := flatG_get C L i hi j hj
    rw [hu] at h1
    have hq := (List.getElem?_eq_some_iff.1 h1).1
    rw [flatG_len] at hq
    rw [cell_of_row w g _ _ _ _ hg, Nat.zero_add]
    rw [← htake, List.getElem?_take, if_pos hq] at h1
    simpa using h1
/-- A row's length, kept by a store into another block. -/
theorem RowG.other (h : RowG C w base e v L) (a : Addr) (u : Value) (hne : ∀ g, v.ownBlock = some g → g ≠ a.block) : RowG C (w.setCell a u) base e v L := ownsRow_other h a u hne
theorem keeps_grown {base : Nat} (h : w.grownBy w' v.ownBlock) : Keeps (fun k => v.ownBlock = some k) w w' := ⟨h.os, h.tape, h.output, h.size, fun k hk hs => h.block k hk (fun e => hs e.symm)⟩
/-- 'append(v, u...)' onto a row of one's own. -/
theorem wpList_appG {P : Program} {ops : Array Oper} {rest : List Oper} {o : Oper} {a : Act} {Q : Exit → Act → World → Prop} (C : Cells α) (w : World) (hgd : o.guard = none) (s x : Operand) (t : TypeId)
    (ho : o.op = .call { callee := .builtin .append, args := #[s, x], argTypes := #[t, t] }) (e : TypeId) (z : Value) (bytes : Nat) (ht : P.underlying t = some (.slice e))
    (hinfo : (P.info? e).map (fun i => (i.zero, i.size, i.bytes)) = some (some z, C.k, bytes)) (hzs : z.cells.size = C.k) (hby : bytes ≤ 1000)
    (base : Nat) (v : Value) (L : List α) (hs : a.eval s = v) (hown : RowG C w base e v L) (u : Value) (M : List α) (hx : a.eval x = u) (hr : AtG C w u M) (hn : L.length + M.length ≤ 1000000) (hbase : base ≤ w.heap.size)
    (h : ∀ v' w', RowG C w' base e v' (L ++ M) → Below base w w' → w.grownBy w' v.ownBlock → (v'.ownBlock = v.ownBlock ∨ v'.ownBlock = some w.heap.size) → wpList P ops Q rest (a.put o.dst v') w') : wpList P ops Q (o :: rest) a w := by
  obtain ⟨i, hi, hz0, hz1, hz2⟩ := info_parts hinfo
  obtain ⟨ad, c, rfl, hnone, hcells⟩ := hr.cells
  cases ad with
  | none =>
    have hc := hnone rfl
    subst hc
    have hM : M = [] := by
      obtain ⟨a', c', he, _, _, _, h5⟩ := hr
      cases M with
      | nil => rfl
      | cons p M =>
        obtain ⟨b, o, h6, _⟩ := h5 0 (by simp)
        cases he
        cases h6
    subst hM
    refine wpList_append_own_none hgd s x t ho base e i C.k ht hi v L.length (flatG C L) hs hown hx (h v w (by rw [List.append_nil]; exact hown) (Below.refl _ _) (World.grownBy.refl _ _) (.inl rfl))
  | some ad =>
    refine wpList_append_own_at w hgd s x t ho base e i z C.k bytes ht hi hz0 hz1 hz2 hzs C.pos v L.length (flatG C L) hs hown ad M.length c (flatG C M) hx (flatG_len C M) (hcells ad rfl) (flatG_one C M) (by unfold maxLen; omega) ?_ hbase ?_
    · have h1 : (L.length + M.length) * bytes ≤ 1000000 * 1000 := Nat.mul_le_mul hn hby
      omega
    · intro v' w' h1 h2 _ h3
      refine h v' w' ?_ ?_ h2 h3
      · unfold RowG
        rw [List.length_append, flatG_append]
        exact h1
      · exact (Below.refl _ _).grown h2 hbase (fun k hk => (World.ownsRow.lt hown k hk).1)
/-- The same at a step of a region that draws its order. -/
theorem step_appG {P : Program} {ops : Array Oper} {o : Oper} {a : Act} {K : Act → World → Prop} {Q : Exit → Act → World → Prop} {B : Prop} (C : Cells α) (w : World) (hgd : o.guard = none) (s x : Operand) (t : TypeId)
    (ho : o.op = .call { callee := .builtin .append, args := #[s, x], argTypes := #[t, t] }) (e : TypeId) (z : Value) (bytes : Nat) (ht : P.underlying t = some (.slice e))
    (hinfo : (P.info? e).map (fun i => (i.zero, i.size, i.bytes)) = some (some z, C.k, bytes)) (hzs : z.cells.size = C.k) (hby : bytes ≤ 1000)
    (base : Nat) (v : Value) (L : List α) (hs : a.eval s = v) (hown : RowG C w base e v L) (u : Value) (M : List α) (hx : a.eval x = u) (hr : AtG C w u M) (hne : M ≠ []) (hn : L.length + M.length ≤ 1000000) (hbase : base ≤ w.heap.size)
    (h : ∀ v' w', RowG C w' base e v' (L ++ M) → Below base w w' → w.grownBy w' v.ownBlock → K (a.put o.dst v') w') :
    if Region.wanted o (yielded ops a.tmps) = true then Oper.wp P o a w K Q else B := by
  obtain ⟨i, hi, hz0, hz1, hz2⟩ := info_parts hinfo
  obtain ⟨ad, c, rfl, hnone, hcells⟩ := hr.cells
  cases ad with
  | none =>
    exfalso
    obtain ⟨a', c', he, _, _, _, h5⟩ := hr
    cases M with
    | nil => exact hne rfl
    | cons p M =>
      obtain ⟨b, o, h6, _⟩ := h5 0 (by simp)
      cases he
      cases h6
  | some ad =>
    have hbb : (L.length + M.length) * bytes ≤ 140737488355328 := by
      have h1 : (L.length + M.length) * bytes ≤ 1000000 * 1000 := Nat.mul_le_mul hn hby
      omega
    obtain ⟨v', w', hrun, h2, h3, _, h5⟩ := run_append_own_at (P := P) w base t o.type e i z C.k bytes ht hi hz0 hz1 hz2 hzs C.pos v L.length (flatG C L) hown ad M.length c (flatG C M) (flatG_len C M) (hcells ad rfl) (flatG_one C M) (by unfold maxLen; omega) hbb hbase
    have hw : Region.wanted o (yielded ops a.tmps) = true := by simp [Region.wanted, hgd]
    rw [if_pos hw]
    unfold Oper.wp execOp
    simp only [ho, resolve, invoke, builtin, Sem.run_bind, Sem.run_pure, Result.andThen_ok, List.map_toArray, List.map_cons, List.map_nil, hs, hx, hrun]
    refine h v' w' ?_ ((Below.refl _ _).grown h3 hbase (fun k hk => (World.ownsRow.lt hown k hk).1)) h3
    unfold RowG
    rw [List.length_append, flatG_append]
    exact h2
end
end Go.Proofs.YtcnadjdijolboaaGreatDoor

/- A slice of structs that came in, opened to its cells. No program in sight. -/
namespace Go.Proofs.YtcnadjdijolboaaGreatDoor
open Go.ChangeShapes Go.WideShapes Go.Deep

theorem list_of {α : Type} {p : Nat → α → Prop} : ∀ (n : Nat), (∀ i, i < n → ∃ x, p i x) → ∃ l : List α, l.length = n ∧ ∀ i (h : i < l.length), p i l[i]
  | 0, _ => ⟨[], rfl, fun i h => by cases h⟩
  | n + 1, h => by
    obtain ⟨l, hl, hp⟩ := list_of n (fun i hi => h i (by omega))
    obtain ⟨x, hx⟩ := h n (by omega)
    refine ⟨l ++ [x], by simp [hl], fun i hi => ?_⟩
    by_cases hlt : i < l.length
    · rw [List.getElem_append_left hlt]; exact hp i hlt
    · have : i = n := by simp [hl] at hi; omega
      subst this
      rw [List.getElem_append_right (by omega)]
      simpa [hl] using hx

theorem cell_plain {w : World} {a : Addr} {k : Nat} {v : Value} (h : w.cell? (a.add k) = some v) : w.cell? ⟨a.block, a.off + k, none⟩ = some v := by
  unfold Addr.add at h
  by_cases hk : k = 0
  · rw [if_pos hk] at h
    subst hk
    obtain ⟨b, o, s⟩ := a
    cases s with
    | none => simpa using h
    | some x =>
      unfold World.cell? at h
      split at h <;> simp at h
  · rw [if_neg hk] at h; exact h
theorem addr_plain {w : World} {a : Addr} {v : Value} (h : w.cell? a = some v) : a = ⟨a.block, a.off, none⟩ := by
  obtain ⟨b, o, s⟩ := a
  cases s with
  | none => rfl
  | some x =>
    unfold World.cell? at h
    split at h <;> simp at h

theorem four_of {α : Type} {l : List α} (h : l.length = 4) : ∃ a b c d, l = [a, b, c, d] := by
  match l, h with
  | [a, b, c, d], _ => exact ⟨a, b, c, d, rfl⟩
section
variable {H : Type} {enc : TypeId × Value → H} {P : Program} {w : World} {base : Nat} {spare : Nat → Bool} {held : Bool}
/-- Each element's cells, and how they are read. -/
theorem slice_cells {t e : TypeId} {fuel : Nat} {cs : List Value} {x : DataW H × List MemPlace} (ht : P.underlying t = some (.slice e)) (h : DataW.trod enc P w base spare held fuel t cs = some x) :
    cs = [.slice none 0 0] ∨ ∃ (a : Addr) (len cap n : Nat), cs = [.slice (some a) len cap] ∧ len ≤ maxLen ∧
      ∀ i, i < len → ∃ (cs' : List Value) (y : DataW H × List MemPlace), cs'.length = P.cellsOf e ∧ (∀ j, j < P.cellsOf e → w.cell? ⟨a.block, a.off + (i * P.cellsOf e + j), none⟩ = cs'[j]?) ∧
        (∀ j, j < P.cellsOf e → i * P.cellsOf e + j = 0 → a = ⟨a.block, a.off, none⟩) ∧ DataW.trod enc P w base spare held n e cs' = some y := by
  rcases open_slice ht h with h0 | ⟨a, len, cap, m, n, D, Pl, hcs, _, hl, hm, hmm, _, hi⟩
  · exact .inl h0.1
  · refine .inr ⟨a, len, cap, n, hcs, by omega, fun i him => ?_⟩
    have : i < m := by rw [hmm]; split <;> omega
    obtain ⟨cs', hc, ht'⟩ := hi i this
    obtain ⟨_, hcl, hat⟩ := World.cells?_some hc
    have hget : ∀ j, j < P.cellsOf e → ∃ v, cs'[j]? = some v ∧ w.cell? (a.add (i * P.cellsOf e + j)) = some v := fun j hj => by
      refine ⟨cs'[j]'(by omega), List.getElem?_eq_getElem (by omega), ?_⟩
      rw [← add_add, hat j hj]
      exact List.getElem?_eq_getElem (by omega)
    refine ⟨cs', _, hcl, fun j hj => ?_, fun j hj h0 => ?_, ht'⟩
    · obtain ⟨v, h1, h2⟩ := hget j hj
      rw [h1]; exact cell_plain h2
    · obtain ⟨v, h1, h2⟩ := hget j hj
      rw [h0] at h2
      exact addr_plain (w := w) (v := v) (by simpa [Addr.add] using h2)
/-- A struct's fields. -/
theorem struct_fields {e : TypeId} {fs : Array Field} {n : Nat} {cs : List Value} {y : DataW H × List MemPlace} (he : P.underlying e = some (.struct fs)) (h : DataW.trod enc P w base spare held n e cs = some y) :
    cs.length = P.cellsOf e ∧ ∃ m, ∀ (j : Nat) (f : Field), fs[j]? = some f → ∃ z, DataW.trod enc P w base spare held m f.type ((cs.drop f.offset).take (P.cellsOf f.type)) = some z := by
  obtain ⟨ys, m, _, _, hcl, hyl, hf⟩ := DataW.trod_struct he h
  refine ⟨hcl, m, fun j f hj => ?_⟩
  have hlt : j < ys.length := by rw [hyl]; exact (Array.getElem?_eq_some_iff.1 hj).1
  exact ⟨ys[j], (hf j f hj).trans (List.getElem?_eq_getElem hlt)⟩
theorem field_one {t : TypeId} {m n j : Nat} {cs : List Value} {v : Value} {z : DataW H × List MemPlace} (h : DataW.trod enc P w base spare held m t ((cs.drop j).take n) = some z) (hn : n = 1) (hv : cs[j]? = some v) : DataW.trod enc P w base spare held m t [v] = some z := by
  obtain ⟨hj, rfl⟩ := List.getElem?_eq_some_iff.1 hv
  rw [hn, List.drop_eq_getElem_cons hj] at h
  exact h
theorem read_int {t : TypeId} {k : IntKind} {n : Nat} {v : Value} {z : DataW H × List MemPlace} (ht : P.underlying t = some (.int k)) (h : DataW.trod enc P w base spare held n t [v] = some z) : ∃ x, v = .int k x ∧ (Lit.int k x).wf = true := by
  obtain ⟨x, h1, _, h3⟩ := DataW.trod_int ht h
  exact ⟨x, by simpa using h1, h3⟩
theorem read_string {t : TypeId} {n : Nat} {v : Value} {z : DataW H × List MemPlace} (ht : P.underlying t = some .string) (h : DataW.trod enc P w base spare held n t [v] = some z) : ∃ s : List UInt8, v = .string (bs s) ∧ s.length ≤ maxLen := by
  obtain ⟨x, h1, _, h3⟩ := DataW.trod_string ht h
  exact ⟨x.data.toList, by rw [bs_data]; simpa using h1, by rw [Array.length_toList]; exact h3⟩
theorem read_bool {t : TypeId} {n : Nat} {v : Value} {z : DataW H × List MemPlace} (ht : P.underlying t = some .bool) (h : DataW.trod enc P w base spare held n t [v] = some z) : ∃ b, v = .bool b := by
  obtain ⟨x, h1, _⟩ := DataW.trod_bool ht h
  exact ⟨x, by simpa using h1⟩
end
end Go.Proofs.YtcnadjdijolboaaGreatDoor

/- Floors that came in. -/
namespace Go.Proofs.YtcnadjdijolboaaGreatDoor
open Go.ChangeShapes Go.WideShapes Go.ChangeAt Go.RowKit Go.ChangeMaps Go.Deep

theorem two_of {α : Type} {l : List α} (h : l.length = 2) : ∃ a b, l = [a, b] := by
  match l, h with
  | [a, b], _ => exact ⟨a, b, rfl⟩
set_option maxRecDepth 100000 in
theorem flo_cells {H : Type} {enc : TypeId × Value → H} {W : World} {base : Nat} {spare : Nat → Bool} {held : Bool} {n : Nat} {cs : List Value} {y : DataW H × List MemPlace}
    (h : DataW.trod enc Tryz.prog W base spare held n 24 cs = some y) : ∃ p : Flo, cs = [.string (bs p.who), .int .i64 p.ep] ∧ p.who.length ≤ maxLen := by
  have hC : Tryz.prog.cellsOf 24 = 2 := by kernel_rfl
  have h1 : Tryz.prog.cellsOf 9 = 1 := by kernel_rfl
  have h2 : Tryz.prog.cellsOf 3 = 1 := by kernel_rfl
  obtain ⟨hcl, m, hf⟩ := struct_fields Tryz.underlying24 h
  obtain ⟨k0, k1, rfl⟩ := two_of (hcl.trans hC)
  obtain ⟨_, z0⟩ := hf 0 _ rfl
  obtain ⟨_, z1⟩ := hf 1 _ rfl
  have z0 := field_one z0 h1 (v := k0) rfl
  have z1 := field_one z1 h2 (v := k1) rfl
  obtain ⟨s0, rfl, l0⟩ := read_string Tryz.underlying9 z0
  obtain ⟨x1, rfl, _⟩ := read_int Tryz.underlying3 z1
  exact ⟨⟨s0, x1⟩, rfl, l0⟩
set_option maxRecDepth 100000 in
theorem flo_arg {H : Type} {enc : TypeId × Value → H} {W : World} {b0 base : Nat} {spare : Nat → Bool} {held : Bool} {v : Value} {d : DataW H} {p : List MemPlace}
    (hv : Value.okWide Tryz.prog W .any b0 24 v) (h : DataW.Trod enc Tryz.prog W base spare held 24 v d p) : ∃ t : Flo, v = t.val ∧ t.who.length ≤ maxLen := by
  obtain ⟨cs, rfl, _⟩ := okWide_struct Tryz.underlying24 hv
  obtain ⟨fuel, hf⟩ := h
  obtain ⟨t, ht, hl⟩ := flo_cells hf
  have ht : cs = #[.string (bs t.who), .int .i64 t.ep] := Array.toList_inj.1 ht
  subst ht
  exact ⟨t, rfl, hl⟩
theorem slice_cap {H : Type} {enc : TypeId × Value → H} {P : Program} {w : World} {base : Nat} {spare : Nat → Bool} {held : Bool} {t e : TypeId} {fuel : Nat} {a : Option Addr} {len cap : Nat} {x : DataW H × List MemPlace} (ht : P.underlying t = some (.slice e)) (h : DataW.trod enc P w base spare held fuel t [.slice a len cap] = some x) : len ≤ cap := by
  rcases open_slice ht h with h0 | ⟨a', len', cap', m, n, D, Pl, hcs, _, hl, hm, hmm, _, hi⟩
  · cases h0.1
    exact Nat.le_refl _
  · cases hcs
    exact hl
set_option maxRecDepth 100000 in
theorem flos_of {H : Type} {enc : TypeId × Value → H} {W : World} {base : Nat} {spare : Nat → Bool} {held : Bool} {fuel : Nat} {a : Option Addr} {len cap : Nat} {x : DataW H × List MemPlace} 
    (h : DataW.trod enc Tryz.prog W base spare held fuel 22 [.slice a len cap] = some x) : ∃ A, FloorsAt W (.slice a len cap) A ∧ ∀ f ∈ A, f.who.length ≤ maxLen := by
  have hcap := slice_cap Tryz.underlying22 h
  rcases slice_cells Tryz.underlying22 h with h0 | ⟨a', len', cap', n, hcs, hm, hi⟩
  · cases h0
    exact ⟨[], ⟨none, 0, rfl, Nat.zero_le _, Nat.zero_le _, fun i hi => by cases hi⟩, fun f hf => by cases hf⟩
  · cases hcs
    have hC : Tryz.prog.cellsOf 24 = 2 := by kernel_rfl
    rw [hC] at hi
    obtain ⟨A, hl, hA⟩ := list_of (p := fun i (q : Flo) => (i = 0 → a' = ⟨a'.block, a'.off, none⟩) ∧ W.cell? ⟨a'.block, a'.off + i * 2, none⟩ = some (.string (bs q.who)) ∧ W.cell? ⟨a'.block, a'.off + i * 2 + 1, none⟩ = some (.int .i64 q.ep) ∧ q.who.length ≤ maxLen) len (fun i hil => by
      obtain ⟨cs, y, hcl, hat, ha, ht⟩ := hi i hil
      obtain ⟨q, rfl, hq⟩ := flo_cells ht
      exact ⟨q, fun h0 => ha 0 (by decide) (by rw [h0]), by simpa using hat 0 (by decide), by simpa [Nat.add_assoc] using hat 1 (by decide), hq⟩)
    subst hl
    refine ⟨A, ⟨some a', cap, rfl, hm, hcap, fun i hil => ?_⟩, fun f hf => ?_⟩
    · exact ⟨a'.block, a'.off, congrArg some ((hA 0 (Nat.lt_of_le_of_lt (Nat.zero_le _) hil)).1 rfl), (hA i hil).2.1, (hA i hil).2.2.1⟩
    · obtain ⟨i, hi2, rfl⟩ := List.getElem_of_mem hf
      exact (hA i hi2).2.2.2
end Go.Proofs.YtcnadjdijolboaaGreatDoor

/- Entries of a feed in memory, and those that came in: no walk. -/
namespace Go.Proofs.YtcnadjdijolboaaGreatDoor
open Go.ChangeShapes Go.WideShapes Go.ChangeAt Go.RowKit Go.ChangeMaps Go.Deep

def Ent.val (e : Ent) : Value := .agg #[.int .i64 e.seq, .int .i64 e.time, .string (bs e.f.who), .int .i64 e.f.ep]
/-- An entry's cells. -/
def entC : Cells Ent where
  k := 4
  pos := by decide
  f := fun e => [.int .i64 e.seq, .int .i64 e.time, .string (bs e.f.who), .int .i64 e.f.ep]
  len := fun _ => rfl
  one := fun e u hu => by
    simp only [List.mem_cons, List.mem_nil_iff, or_false] at hu
    rcases hu with rfl | rfl | rfl | rfl <;> rfl
/-- Floors' cells, likewise. -/
def floC : Cells Flo where
  k := 2
  pos := by decide
  f := Flo.cells
  len := fun _ => rfl
  one := fun e u hu => by
    simp only [Flo.cells, List.mem_cons, List.mem_nil_iff, or_false] at hu
    rcases hu with rfl | rfl <;> rfl
theorem flatF_G : ∀ L, flatF L = flatG floC L
  | [] => rfl
  | f :: L => by
    show Flo.cells f ++ flatF L = floC.f f ++ flatG floC L
    rw [flatF_G L]
    rfl
theorem floRow_G {w : World} {base : Nat} {v : Value} {L : List Flo} : FlRow w base v L ↔ RowG floC w base 24 v L := by
  unfold FlRow RowG
  rw [flatF_G]
  exact Iff.rfl
theorem floorsAt_of {w : World} {v : Value} {L : List Flo} (h : AtG floC w v L) : FloorsAt w v L := by
  obtain ⟨a, c, h1, h2, h3, _, h5⟩ := h
  refine ⟨a, c, h1, h2, h3, fun i hi => ?_⟩
  obtain ⟨b, o, h6, h7⟩ := h5 i hi
  exact ⟨b, o, h6, h7 0 _ rfl, h7 1 _ rfl⟩
def EntsAt (w : World) (v : Value) (L : List Ent) : Prop := AtG entC w v L
theorem EntsAt.below {w w' : World} {v : Value} {L : List Ent} (h : EntsAt w v L) (hb : Below w.heap.size w w') : EntsAt w' v L := AtG.below h hb
/-- Its cells, one by one. -/
theorem EntsAt.get {w : World} {v : Value} {L : List Ent} (h : EntsAt w v L) : ∃ a c, v = .slice a L.length c ∧ L.length ≤ maxLen ∧ L.length ≤ c ∧ ∀ i (h : i < L.length), ∃ b o, a = some ⟨b, o, none⟩ ∧
    w.cell? ⟨b, o + i * 4, none⟩ = some (.int .i64 L[i].seq) ∧ w.cell? ⟨b, o + i * 4 + 1, none⟩ = some (.int .i64 L[i].time) ∧ w.cell? ⟨b, o + i * 4 + 2, none⟩ = some (.string (bs L[i].f.who)) ∧ w.cell? ⟨b, o + i * 4 + 3, none⟩ = some (.int .i64 L[i].f.ep) := by
  obtain ⟨a, c, h1, h2, h3, _, h5⟩ := h
  refine ⟨a, c, h1, h2, h3, fun i hi => ?_⟩
  obtain ⟨b, o, h6, h7⟩ := h5 i hi
  exact ⟨b, o, h6, h7 0 _ rfl, h7 1 _ rfl, h7 2 _ rfl, h7 3 _ rfl⟩
theorem EntsAt.sl {w : World} {v : Value} {L : List Ent} (h : EntsAt w v L) : ∃ a c, v = .slice a L.length c := AtG.sl h
theorem EntsAt.len {w : World} {v : Value} {L : List Ent} (h : EntsAt w v L) : L.length ≤ maxLen := AtG.len h

/-! What came in. -/
theorem three_of {α : Type} {l : List α} (h : l.length = 3) : ∃ a b c, l = [a, b, c] := by
  match l, h with
  | [a, b, c], _ => exact ⟨a, b, c, rfl⟩
end Go.Proofs.YtcnadjdijolboaaGreatDoor

/- Rows of structs that the library sorts: between its words and the rows of one's own: no program in sight. -/
namespace Go.Proofs.YtcnadjdijolboaaGreatDoor
open Go.RowKit Go.Sort Go.Shelf

section
variable {α : Type} [Inhabited α] (C : Cells α)
theorem flatK_flat (L : List α) : flatK C.f C.k L.toArray = (flatG C L).toArray := by
  apply Array.ext_getElem?
  intro t
  have hp := C.pos
  by_cases ht : t < L.length * C.k
  · have hi : t / C.k < L.length := (Nat.div_lt_iff_lt_mul hp).2 ht
    have hj : t % C.k < C.k := Nat.mod_lt _ hp
    have he : t / C.k * C.k + t % C.k = t := by rw [Nat.mul_comm]; exact Nat.div_add_mod t C.k
    have h1 := flatG_get C L (t / C.k) hi (t % C.k) hj
    rw [he] at h1
    have hsz : t < (flatK C.f C.k L.toArray).size := by rw [size_flatK]; simpa using ht
    have h2 := get_flatK C.f C.k L.toArray t (by simpa using ht)
    rw [getElem!_pos _ t hsz] at h2
    rw [Array.getElem?_eq_getElem hsz, h2, List.getElem?_toArray, h1]
    have hi2 : t / C.k < L.toArray.size := by simpa using hi
    rw [getElem!_pos L.toArray _ hi2]
    have hlj : t % C.k < (C.f L[t / C.k]).length := by rw [C.len]; exact hj
    rw [List.getElem?_eq_getElem hlj]
    simp [hlj]
  · rw [Array.getElem?_eq_none (by rw [size_flatK]; simpa using ht), List.getElem?_toArray, List.getElem?_eq_none (by rw [flatG_len]; omega)]
variable {C} {w : World} {base g cap : Nat} {e : TypeId} {L : List α}
theorem holdsK_of (h : RowG C w base e (.slice (some ⟨g, 0, none⟩) L.length cap) L) : HoldsK C.f C.k w g 0 L.toArray ∧ g < w.heap.size ∧ base ≤ g := by
  obtain ⟨_, ⟨h1, _⟩ | ⟨g', cap', cur, h1, hb, hh, h2, h3, h4, h5⟩⟩ := h
  · cases h1
  cases h1
  refine ⟨?_, (Array.getElem?_eq_some_iff.1 hh).1, hb⟩
  unfold HoldsK
  rw [flatK_flat]
  intro j hj
  have hj' : j < (flatG C L).length := by simpa using hj
  refine ⟨?_, by simp [World.frozen?, hh]⟩
  have h6 : (cur.toList.take (L.length * C.k))[j]? = (flatG C L)[j]? := by rw [h5]
  rw [List.getElem?_take_of_lt (by rw [← flatG_len]; exact hj')] at h6
  simp only [World.cell?, hh, Nat.zero_add]
  simp only [Option.isSome_none, Bool.false_eq_true, if_false]
  rw [← Array.getElem?_toList, h6, List.getElem?_eq_getElem hj']
  simp [hj']
theorem row_sorted {n : Nat} {os : Array Obj} {d : Array α} (h : RowG C w base e (.slice (some ⟨g, 0, none⟩) L.length cap) L) (hd : d.size = L.length) :
    RowG C (sortWorldK C.f C.k w g 0 n d os) base e (.slice (some ⟨g, 0, none⟩) L.length cap) d.toList ∧ Keeps (· = g) w (sortWorldK C.f C.k w g 0 n d os) := by
  obtain ⟨_, ⟨h1, _⟩ | ⟨g', cap', cur, h1, hb, hh, h2, h3, h4, h5⟩⟩ := h
  · cases h1
  cases h1
  have hg : g < w.heap.size := (Array.getElem?_eq_some_iff.1 hh).1
  have hf : flatK C.f C.k d = (flatG C d.toList).toArray := by
    have := flatK_flat C d.toList
    simpa using this
  have hfl : (flatG C d.toList).length = L.length * C.k := by rw [flatG_len, Array.length_toList, hd]
  have hh2 : (sortWorldK C.f C.k w g 0 n d os).heap[g]? = some (.cells (putCells id 0 (flatG C d.toList).toArray cur) e (0, 0)) := by
    unfold sortWorldK putRowK
    rw [hf, heap_grow_old _ _ (by simpa [putRow, mapBlock, Sort.ahead] using hg)]
    simp [putRow, mapBlock, Sort.ahead, Array.getElem?_modify, hh, onCells]
  refine ⟨?_, ?_⟩
  · have hdl : d.toList.length = L.length := by simpa using hd
    show World.ownsRow _ base e C.k (.slice (some ⟨g, 0, none⟩) L.length cap) d.toList.length (flatG C d.toList)
    rw [hdl]
    refine ⟨hfl, .inr ⟨g, cap, _, rfl, hb, hh2, h2, h3, by simp [putCells, h4], ?_⟩⟩
    have hlc : L.length * C.k ≤ cur.size := by rw [h4]; exact Nat.mul_le_mul_right _ h2
    apply List.ext_getElem?
    intro j
    by_cases hj : j < L.length * C.k
    · rw [List.getElem?_take_of_lt hj, Array.getElem?_toList]
      have hjf : j < (flatG C d.toList).length := by omega
      simp [putCells, hjf, show j < cur.size by omega]
    · rw [List.getElem?_take_eq_none (by omega), List.getElem?_eq_none (by omega)]
  · refine ⟨rfl, rfl, rfl, by simp [sortWorldK, putRowK, grow, putRow, mapBlock, Sort.ahead], fun k hk hs => ?_⟩
    unfold sortWorldK
    rw [heap_grow_old _ _ (by simpa [putRowK, putRow, mapBlock, Sort.ahead] using hk)]
    have : g ≠ k := fun e => hs e.symm
    simp [putRowK, putRow, mapBlock, Sort.ahead, Array.getElem?_modify, this]
end
end Go.Proofs.YtcnadjdijolboaaGreatDoor
