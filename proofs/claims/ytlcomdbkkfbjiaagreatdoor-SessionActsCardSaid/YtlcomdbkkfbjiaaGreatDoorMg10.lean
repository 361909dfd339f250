/- RowG, SesW, Keys -/
import Derived.Test.YtlcomdbkkfbjiaaGreatDoorMg8
import Derived.Test.YtlcomdbkkfbjiaaGreatDoorMg7
import Derived.Test.YtlcomdbkkfbjiaaGreatDoorMg9
import Derived.Laws.AppendOwnNone
import Derived.Maps.AppendAt
import Derived.OwnWalk
import Derived.RegionTactic
import Derived.Deep.RegionHeld3
import Derived.StillTailTactics
import Derived.IntWalk
import Derived.Test.YtlcomdbkkfbjiaaGreatDoorMg6
import Derived.Test.YtlcomdbkkfbjiaaGreatDoorShelf
import Derived.Test.YtlcomdbkkfbjiaaGreatDoorMg1
import Derived.Sort.KeysCollected
/- Slices of structs, of however many cells: as lists; rows of one's own; append: lemmas. No program's function. -/
namespace Go.Proofs.YtlcomdbkkfbjiaaGreatDoor
open Go.RowKit

/-- How an element lies in memory. -/
structure Cells (α : Type) where
  k : Nat
  pos : 0 < k
  f : α → List Value
  len : ∀ x, (f x).length = k
  one : ∀ x, ∀ u ∈ f x, u.oneCell' = true
section
variable {α : Type} (C : Cells α)
def flatG : List α → List Value
  | [] => []
  | p :: L => C.f p ++ flatG L
theorem flatG_append : ∀ L M, flatG C (L ++ M) = flatG C L ++ flatG C M
  | [], _ => rfl
  | p :: L, M => by simp only [List.cons_append, flatG, flatG_append L M, List.append_assoc]
theorem flatG_len : ∀ L : List α, (flatG C L).length = L.length * C.k
  | [] => by simp [flatG]
  | p :: L => by simp only [flatG, List.length_append, C.len, flatG_len L, List.length_cons, Nat.add_mul, Nat.one_mul]; omega
theorem flatG_one : ∀ (L : List α), ∀ u ∈ flatG C L, u.oneCell' = true
  | [], u, h => by cases h
  | p :: L, u, h => by
    rcases List.mem_append.1 h with h | h
    · exact C.one p u h
    · exact flatG_one L u h
theorem flatG_get : ∀ (L : List α) (i : Nat) (h : i < L.length) (j : Nat) (_ : j < C.k), (flatG C L)[i * C.k + j]? = (C.f L[i])[j]?
  | p :: L, 0, _, j, hj => by
    rw [Nat.zero_mul, Nat.zero_add]
    show (C.f p ++ flatG C L)[j]? = _
    rw [List.getElem?_append_left (by rw [C.len]; exact hj)]
    rfl
  | p :: L, i + 1, h, j, hj => by
    have := flatG_get L i (by simpa using h) j hj
    show (C.f p ++ flatG C L)[(i + 1) * C.k + j]? = _
    rw [List.getElem?_append_right (by rw [C.len, Nat.add_mul, Nat.one_mul]; omega), C.len, show (i + 1) * C.k + j - C.k = i * C.k + j by rw [Nat.add_mul, Nat.one_mul]; omega]
    exact this
theorem flatG_at {L : List α} {q : Nat} {u : Value} (h : (flatG C L)[q]? = some u) : ∃ i j, ∃ hi : i < L.length, j < C.k ∧ q = i * C.k + j ∧ (C.f L[i])[j]? = some u := by
  have hq := (List.getElem?_eq_some_iff.1 h).1
  rw [flatG_len] at hq
  have hp := C.pos
  have hi : q / C.k < L.length := (Nat.div_lt_iff_lt_mul hp).2 hq
  have hj : q % C.k < C.k := Nat.mod_lt _ hp
  have he : q = q / C.k * C.k + q % C.k := by rw [Nat.mul_comm]; exact (Nat.div_add_mod q C.k).symm
  refine ⟨q / C.k, q % C.k, hi, hj, he, ?_⟩
  rw [← flatG_get C L _ hi _ hj, ← he]
  exact h
theorem flatG_take : ∀ (L : List α) (n : Nat), flatG C (L.take n) = (flatG C L).take (n * C.k)
  | [], _ => by simp [flatG]
  | p :: L, 0 => by simp [flatG]
  | p :: L, n + 1 => by
    show C.f p ++ flatG C (L.take n) = (C.f p ++ flatG C L).take ((n + 1) * C.k)
    rw [flatG_take L n, List.take_append, List.take_of_length_le (l := C.f p) (by rw [C.len, Nat.add_mul, Nat.one_mul]; omega), C.len, show (n + 1) * C.k - C.k = n * C.k by rw [Nat.add_mul, Nat.one_mul]; omega]
theorem flatG_drop : ∀ (L : List α) (n : Nat), flatG C (L.drop n) = (flatG C L).drop (n * C.k)
  | [], _ => by simp [flatG]
  | p :: L, 0 => by simp [flatG]
  | p :: L, n + 1 => by
    show flatG C (L.drop n) = (C.f p ++ flatG C L).drop ((n + 1) * C.k)
    rw [flatG_drop L n, List.drop_append, List.drop_of_length_le (l := C.f p) (by rw [C.len, Nat.add_mul, Nat.one_mul]; omega), C.len, show (n + 1) * C.k - C.k = n * C.k by rw [Nat.add_mul, Nat.one_mul]; omega, List.nil_append]
/-- A slice, as a list. -/
def AtG (w : World) (v : Value) (L : List α) : Prop :=
  ∃ a c, v = .slice a L.length c ∧ L.length ≤ maxLen ∧ L.length ≤ c ∧ (a = none → c = 0) ∧ ∀ i (h : i < L.length), ∃ b o, a = some ⟨b, o, none⟩ ∧ ∀ j u, (C.f L[i])[j]? = some u → w.cell? ⟨b, o + i * C.k + j, none⟩ = some u
/-- A row of one's own. -/
def RowG (w : World) (base : Nat) (e : TypeId) (v : Value) (L : List α) : Prop := w.ownsRow base e C.k v L.length (flatG C L)
variable {C} {w w' : World} {v : Value} {L M : List α}
theorem AtG.below (h : AtG C w v L) (hb : Below w.heap.size w w') : AtG C w' v L := by
  obtain ⟨a, c, h1, h2, h3, h4, h5⟩ := h
  refine ⟨a, c, h1, h2, h3, h4, fun i hi => ?_⟩
  obtain ⟨b, o, h6, h7⟩ := h5 i hi
  exact ⟨b, o, h6, fun j u hu => cell_below hb (h7 j u hu)⟩
theorem AtG.keeps {S : Nat → Prop} (h : AtG C w v L) (hk : Keeps S w w') (hs : ∀ b, v.ownBlock = some b → ¬ S b) : AtG C w' v L := by
  obtain ⟨a, c, rfl, h2, h3, h4, h5⟩ := h
  refine ⟨a, c, rfl, h2, h3, h4, fun i hi => ?_⟩
  obtain ⟨b, o, rfl, h7⟩ := h5 i hi
  exact ⟨b, o, rfl, fun j u hu => hk.cell (h7 j u hu) (hs b rfl)⟩
theorem AtG.nil (w : World) : AtG C w (.slice none 0 0) [] := ⟨none, 0, rfl, Nat.zero_le _, Nat.zero_le _, fun _ => rfl, fun i hi => by cases hi⟩
theorem AtG.sl (h : AtG C w v L) : ∃ a c, v = .slice a L.length c := by
  obtain ⟨a, c, h1, _⟩ := h
  exact ⟨a, c, h1⟩
theorem AtG.len (h : AtG C w v L) : L.length ≤ maxLen := by
  obtain ⟨_, _, _, h1, _⟩ := h
  exact h1
theorem AtG.cells (h : AtG C w v L) : ∃ a c, v = .slice a L.length c ∧ (a = none → c = 0) ∧ ∀ ad, a = some ad → ∀ j u, (flatG C L)[j]? = some u → w.cell? (ad.add j) = some u := by
  obtain ⟨a, c, h1, _, _, h4, h5⟩ := h
  refine ⟨a, c, h1, h4, fun ad had j u hu => ?_⟩
  obtain ⟨i, q, hi, hq, rfl, hu2⟩ := flatG_at C hu
  obtain ⟨b, o, hbo, h7⟩ := h5 i hi
  have := had.symm.trans hbo
  cases this
  rw [Addr.add_lit, ← Nat.add_assoc]
  exact h7 q u hu2
/-- One element that was laid into a block of its own. -/
theorem AtG.new (x : World) (p : α) (T : TypeId) {cs : Array Value} (hc : cs = (C.f p).toArray) : AtG C (x.alloc (.cells cs T)) (.slice (some ⟨x.heap.size, 0, none⟩) 1 1) [p] := by
  subst hc
  have h := heap_alloc_new x (.cells (C.f p).toArray T)
  refine ⟨_, _, rfl, by unfold maxLen; simp, by simp, (fun e => by cases e), fun i hi => ⟨x.heap.size, 0, rfl, fun j u hu => ?_⟩⟩
  have h0 : i = 0 := by simpa using hi
  subst h0
  rw [cell_of_row _ _ _ _ _ _ h, Nat.zero_mul, Nat.zero_add]
  simpa using hu
/-- The first n of a slice. -/
theorem AtG.take {a : Option Addr} {c : Nat} (h : AtG C w (.slice a L.length c) L) {n : Nat} (hn : n ≤ L.length) : AtG C w (.slice a n c) (L.take n) := by
  obtain ⟨a', c', he, h2, h3, h4, h5⟩ := h
  cases he
  have hl : (L.take n).length = n := by rw [List.length_take]; omega
  refine ⟨a, c, by rw [hl], by omega, by omega, h4, fun i hi => ?_⟩
  obtain ⟨b, o, h6, h7⟩ := h5 i (by omega)
  exact ⟨b, o, h6, fun j u hu => h7 j u (by rw [List.getElem_take] at hu; exact hu)⟩
/-- What lies behind the first n. -/
theorem AtG.drop {a : Option Addr} {c : Nat} (h : AtG C w (.slice a L.length c) L) {n : Nat} (hn : n ≤ L.length) : AtG C w (.slice (if c = n then a else a.map (·.add (n * C.k))) (L.length - n) (c - n)) (L.drop n) := by
  obtain ⟨a', c', he, h2, h3, h4, h5⟩ := h
  cases he
  have hl : (L.drop n).length = L.length - n := List.length_drop
  refine ⟨_, _, by rw [hl], by omega, by omega, fun e => ?_, fun i hi => ?_⟩
  · by_cases hc : c = n
    · rw [if_pos hc] at e; have := h4 e; omega
    · rw [if_neg hc] at e
      cases a with
      | none => have := h4 rfl; omega
      | some ad => cases e
  · obtain ⟨b, o, h6, h7⟩ := h5 (n + i) (by omega)
    refine ⟨b, o + n * C.k, ?_, fun j u hu => ?_⟩
    · rw [if_neg (by omega), h6, Option.map_some, Addr.add_lit]
    · rw [List.getElem_drop] at hu
      have := h7 j u hu
      rw [Nat.add_mul, ← Nat.add_assoc] at this
      exact this
variable {base : Nat} {e : TypeId}
theorem RowG.nil (w : World) (base : Nat) (e : TypeId) : RowG C w base e (.slice none 0 0) [] := World.ownsRow_nil _ _ _ _
theorem RowG.keeps {S : Nat → Prop} (h : RowG C w base e v L) (hk : Keeps S w w') (hs : ∀ g, v.ownBlock = some g → ¬ S g) : RowG C w' base e v L := ownsRow_keeps h hk hs
theorem RowG.below (h : RowG C w base e v L) (hb : Below w.heap.size w w') : RowG C w' base e v L := h.keeps (Keeps.of_below (S := fun _ => False) hb) (fun _ _ h => h)
theorem RowG.mono {base' : Nat} (h : RowG C w base e v L) (hb : base' ≤ base) : RowG C w base' e v L := ownsRow_mono h hb
theorem RowG.block (h : RowG C w base e v L) {g : Nat} (hg : v.ownBlock = some g) : base ≤ g ∧ ∃ cs, w.heap[g]? = some (.cells cs e (0, 0)) := ownsRow_block h hg
theorem RowG.drewN (h : RowG C w base e v L) (n : Nat) : RowG C (w.drewN n) base e v L := ownsRow_keeps h ((Keeps.refl (fun _ => False) w).drew n) (fun _ _ h => h)
theorem RowG.alloc (h : RowG C w base e v L) (o : Obj) : RowG C (w.alloc o) base e v L := World.ownsRow.alloc h o
theorem RowG.sl (h : RowG C w base e v L) : ∃ a c, v = .slice a L.length c := by
  obtain ⟨_, ⟨rfl, hn⟩ | ⟨g, cap, cur, rfl, _⟩⟩ := h
  · rw [hn]; exact ⟨_, _, rfl⟩
  · exact ⟨_, _, rfl⟩
theorem RowG.at_ (h : RowG C w base e v L) : AtG C w v L := by
  have h0 := h
  obtain ⟨_, ⟨rfl, hn⟩ | ⟨g, cap, cur, rfl, hbg, hg, hc, hm, hsz, htake⟩⟩ := h
  · exact ⟨none, 0, by rw [hn], by omega, by omega, fun _ => rfl, fun i hi => by omega⟩
  · refine ⟨_, _, rfl, by omega, hc, (fun e => by cases e), fun i hi => ⟨g, 0, rfl, fun j u hu => ?_⟩⟩
    have hj := (List.getElem?_eq_some_iff.1 hu).1
    rw [C.len] at hj
    have h1 := flatG_get C L i hi j hj
    rw [hu] at h1
    have hq := (List.getElem?_eq_some_iff.1 h1).1
    rw [flatG_len] at hq
    rw [cell_of_row w g _ _ _ _ hg, Nat.zero_add]
    rw [← htake, List.getElem?_take, if_pos hq] at h1
    simpa using h1
/-- A row's length, kept by a store into another block. -/
theorem RowG.other (h : RowG C w base e v L) (a : Addr) (u : Value) (hne : ∀ g, v.ownBlock = some g → g ≠ a.block) : RowG C (w.setCell a u) base e v L := ownsRow_other h a u hne
theorem keeps_grown {base : Nat} (h : w.grownBy w' v.ownBlock) : Keeps (fun k => v.ownBlock = some k) w w' := ⟨h.os, h.tape, h.output, h.size, fun k hk hs => h.block k hk (fun e => hs e.symm)⟩
/-- 'append(v, u...)' onto a row of one's own. -/
theorem wpList_appG {P : Program} {ops : Array Oper} {rest : List Oper} {o : Oper} {a : Act} {Q : Exit → Act → World → Prop} (C : Cells α) (w : World) (hgd : o.guard = none) (s x : Operand) (t : TypeId)
    (ho : o.op = .call { callee := .builtin .append, args := #[s, x], argTypes := #[t, t] }) (e : TypeId) (z : Value) (bytes : Nat) (ht : P.underlying t = some (.slice e))
    (hinfo : (P.info? e).map (fun i => (i.zero, i.size, i.bytes)) = some (some z, C.k, bytes)) (hzs : z.cells.size = C.k) (hby : bytes ≤ 1000)
    (base : Nat) (v : Value) (L : List α) (hs : a.eval s = v) (hown : RowG C w base e v L) (u : Value) (M : List α) (hx : a.eval x = u) (hr : AtG C w u M) (hn : L.length + M.length ≤ 1000000) (hbase : base ≤ w.heap.size)
    (h : ∀ v' w', RowG C w' base e v' (L ++ M) → Below base w w' → w.grownBy w' v.ownBlock → (v'.ownBlock = v.ownBlock ∨ v'.ownBlock = some w.heap.size) → wpList P ops Q rest (a.put o.dst v') w') : wpList P ops Q (o :: rest) a w := by
  obtain ⟨i, hi, hz0, hz1, hz2⟩ := info_parts hinfo
  obtain ⟨ad, c, rfl, hnone, hcells⟩ := hr.cells
  cases ad with
  | none =>
    have hc := hnone rfl
    subst hc
    have hM : M = [] := by
      obtain ⟨a', c', he, _, _, _, h5⟩ := hr
      cases M with
      | nil => rfl
      | cons p M =>
        obtain ⟨b, o, h6, _⟩ := h5 0 (by simp)
        cases he
        cases h6
    subst hM
    refine wpList_append_own_none hgd s x t ho base e i C.k ht hi v L.length (flatG C L) hs hown hx (h v w (by rw [List.append_nil]; exact hown) (Below.refl _ _) (World.grownBy.refl _ _) (.inl rfl))
  | some ad =>
    refine wpList_append_own_at w hgd s x t ho base e i z C.k bytes ht hi hz0 hz1 hz2 hzs C.pos v L.length (flatG C L) hs hown ad M.length c (flatG C M) hx (flatG_len C M) (hcells ad rfl) (flatG_one C M) (by unfold maxLen; omega) ?_ hbase ?_
    · have h1 : (L.length + M.length) * bytes ≤ 1000000 * 1000 := Nat.mul_le_mul hn hby
      omega
    · intro v' w' h1 h2 _ h3
      refine h v' w' ?_ ?_ h2 h3
      · unfold RowG
        rw [List.length_append, flatG_append]
        exact h1
      · exact (Below.refl _ _).grown h2 hbase (fun k hk => (World.ownsRow.lt hown k hk).1)
/-- The same at a step of a region that draws its order. -/
theorem step_appG {P : Program} {ops : Array Oper} {o : Oper} {a : Act} {K : Act → World → Prop} {Q : Exit → Act → World → Prop} {B : Prop} (C : Cells α) (w : World) (hgd : o.guard = none) (s x : Operand) (t : TypeId)
    (ho : o.op = .call { callee := .builtin .append, args := #[s, x], argTypes := #[t, t] }) (e : TypeId) (z : Value) (bytes : Nat) (ht : P.underlying t = some (.slice e))
    (hinfo : (P.info? e).map (fun i => (i.zero, i.size, i.bytes)) = some (some z, C.k, bytes)) (hzs : z.cells.size = C.k) (hby : bytes ≤ 1000)
    (base : Nat) (v : Value) (L : List α) (hs : a.eval s = v) (hown : RowG C w base e v L) (u : Value) (M : List α) (hx : a.eval x = u) (hr : AtG C w u M) (hne : M ≠ []) (hn : L.length + M.length ≤ 1000000) (hbase : base ≤ w.heap.size)
    (h : ∀ v' w', RowG C w' base e v' (L ++ M) → Below base w w' → w.grownBy w' v.ownBlock → K (a.put o.dst v') w') :
    if Region.wanted o (yielded ops a.tmps) = true then Oper.wp P o a w K Q else B := by
  obtain ⟨i, hi, hz0, hz1, hz2⟩ := info_parts hinfo
  obtain ⟨ad, c, rfl, hnone, hcells⟩ := hr.cells
  cases ad with
  | none =>
    exfalso
    obtain ⟨a', c', he, _, _, _, h5⟩ := hr
    cases M with
    | nil => exact hne rfl
    | cons p M =>
      obtain ⟨b, o, h6, _⟩ := h5 0 (by simp)
      cases he
      cases h6
  | some ad =>
    have hbb : (L.length + M.length) * bytes ≤ 140737488355328 := by
      have h1 : (L.length + M.length) * bytes ≤ 1000000 * 1000 := Nat.mul_le_mul hn hby
      omega
    obtain ⟨v', w', hrun, h2, h3, _, h5⟩ := run_append_own_at (P := P) w base t o.type e i z C.k bytes ht hi hz0 hz1 hz2 hzs C.pos v L.length (flatG C L) hown ad M.length c (flatG C M) (flatG_len C M) (hcells ad rfl) (flatG_one C M) (by unfold maxLen; omega) hbb hbase
    have hw : Region.wanted o (yielded ops a.tmps) = true := by simp [Region.wanted, hgd]
    rw [if_pos hw]
    unfold Oper.wp execOp
    simp only [ho, resolve, invoke, builtin, Sem.run_bind, Sem.run_pure, Result.andThen_ok, List.map_toArray, List.map_cons, List.map_nil, hs, hx, hrun]
    refine h v' w' ?_ ((Below.refl _ _).grown h3 hbase (fun k hk => (World.ownsRow.lt hown k hk).1)) h3
    unfold RowG
    rw [List.length_append, flatG_append]
    exact h2
end
end Go.Proofs.YtlcomdbkkfbjiaaGreatDoor

/- Package session: New, Open, Close, Ask: walked. -/
namespace Go.Proofs.YtlcomdbkkfbjiaaGreatDoor
open Go.RowKit Go.MapKept

/-- The blocks that Open may write. -/
def DeskW (b r k : Nat) : Prop := k = b ∨ k = r
set_option maxRecDepth 100000 in
theorem new_desk (w : World) :
    Calls Tryz.prog 6 #[] w fun e w' => ∃ b r, e = .returned (.pointer (some ⟨b, 0, none⟩)) ∧ Below w.heap.size w w' ∧ w.heap.size ≤ b ∧ w.heap.size ≤ r ∧ DeskS w' b r 1 [] := by
  have hmm := @run_makeMap Tryz.prog
  have hfin : DeskS ((w.alloc (.map #[] 0)).alloc (.cells #[.int .i64 1, .map (some w.heap.size)] 66)) (w.heap.size + 1) w.heap.size 1 [] := by
    refine ⟨?_, [], ?_, List.Perm.refl _⟩
    · have := heap_alloc_new (w.alloc (.map #[] 0)) (.cells #[.int .i64 1, .map (some w.heap.size)] 66)
      rwa [World.size_alloc] at this
    · exact (MapV.new w).below ((Below.refl _ _).alloc (Nat.le_refl _) _)
  have hfin := Lib.hid hfin
  go_enter Tryz.func6, Tryz.ntmps6
  go_wp2
  go_ret
  exact ⟨_, _, rfl, ((Below.refl _ _).alloc (Nat.le_refl _) _).alloc (by simp) _, by omega, Nat.le_refl _, hfin.out⟩
set_option maxHeartbeats 4000000 in
set_option maxRecDepth 100000 in
theorem open_desk {E : Nat → Addr} (b r : Nat) (next : Int) (L : List Ses) (t : Tick) (now : Int) (w : World) (hL : Laid E w) (hD : DeskS w b r next L) (hG : GoodS next L) (hl : TickLen t) (hnx : next ≤ 1000000) :
    Calls Tryz.prog 7 #[.pointer (some ⟨b, 0, none⟩), t.val, .int .i64 now] w fun e w' => e = .returned (.tuple #[.int .i64 (openS next L t now).1.1, errV E (openS next L t now).1.2]) ∧ Keeps (DeskW b r) w w' ∧ DeskS w' b r (openS next L t now).2.1 (openS next L t now).2.2 := by
  have hB : Below w.heap.size w (w.alloc (.cells t.cells 32)) := (Below.refl _ _).alloc (Nat.le_refl _) _
  have hrow := Lib.hid (heap_alloc_new w (.cells t.cells 32))
  have hgt := Lib.hid (good_tick (E := E) t now _ (hL.below hB) hl)
  have hop : openS next L t now = if goodT t now ≠ 0 then ((0, goodT t now), (next, L)) else if 40 ≤ L.length then ((0, 7), (next, L)) else ((next, 0), (next + 1, L ++ [⟨next, t⟩])) := rfl
  have hnew := Lib.hid (show ∀ p ∈ L, p.n ≠ next from fun p hp => by have := (hG.lo p hp).2; omega)
  have h1x := hG.one
  have hmany := hG.many
  have hop := Lib.hid hop
  have hDH := Lib.hid hD
  have hLH := Lib.hid hL
  have htd : t = ⟨t.who, t.svc, t.epoch, t.beg, t.fin, t.serial⟩ := rfl
  generalize goodT t now = c at *
  obtain ⟨who, svc, ep, bg, fn, sr⟩ := t
  dsimp only [Tick.val, Tick.cells] at *
  clear htd hD hL hG
  cases c with
  | succ c =>
    have hr := Lib.hid (hop.out.trans (if_pos (Nat.succ_ne_zero c)))
    rw [errV_succ] at hgt
    go_enter Tryz.func7, Tryz.ntmps7
    go_wp2_with fail
    refine hgt.out.mono ?_
    rintro e w1 ⟨rfl, hb⟩
    have hb := Lib.hid (below_trans hB hb)
    go_wp2_with fail
    go_ret2
    exact ⟨by rw [hr.out]; rfl, Keeps.of_below hb.out, by rw [hr.out]; exact hDH.out.below hb.out⟩
  | zero =>
  have hop := Lib.hid (hop.out.trans (if_neg (by simp)))
  rw [errV_zero] at hgt
  go_enter Tryz.func7, Tryz.ntmps7
  go_wp2_with fail
  refine hgt.out.mono ?_
  rintro e w1 ⟨rfl, hb⟩
  have hrow1 := heap_below hb hrow.out
  have hb := below_trans hB hb
  have hD1 := hDH.out.below hb
  have c1 := hD1.at1
  obtain ⟨c0, hf0⟩ := hD1.at0
  have hln := hD1.run_len
  by_cases h40 : 40 ≤ L.length
  · have hr := Lib.hid (hop.out.trans (if_pos h40))
    have he := (hLH.out.below hb).e7
    have h40i : (40 : Int) ≤ (L.length : Int) := by omega
    have hbd := Lib.hid (fun n => below_drawn hb n)
    have hD1H := Lib.hid hDH
    clear hrow1 hb hD1
    go_wp2_with fail
    go_quiet (fail)
    go_wp2_with fail
    go_ret2
    exact ⟨by rw [hr.out]; rfl, Keeps.of_below (hbd.out _), by rw [hr.out]; exact hDH.out.below (hbd.out _)⟩
  have hr := Lib.hid (hop.out.trans (if_neg h40))
  have h40i : ¬ (40 : Int) ≤ (L.length : Int) := by omega
  have hs2 := IntWalk.i64_in (next + 1) (by omega)
  have hblt := hD1.lt
  have hset := hD1.set0 (next + 1)
  have hbn : w.heap.size ≠ b := by have := hDH.out.lt.1; omega
  have hrow2 : ((w1.setCell ⟨b, 0, none⟩ (.int .i64 (next + 1))).drew).heap[w.heap.size]? = some (.cells #[.string (bs who), .string (bs svc), .int .i64 ep, .int .i64 bg, .int .i64 fn, .int .i64 sr] 32 (0, 0)) := (heap_setCell_other w1 ⟨b, 0, none⟩ _ _ hbn).trans hrow1
  have hsd := hset.below (Below.refl _ _).drew
  obtain ⟨w2, hu, hk2, hD2⟩ := hsd.update (n0 := next) hnew.out ⟨who, svc, ep, bg, fn, sr⟩
  dsimp only [Tick.val] at hu
  have d1 := hsd.at1
  have t0 : ((w1.setCell ⟨b, 0, none⟩ (.int .i64 (next + 1))).drew).cell? ⟨w.heap.size, 0, none⟩ = some (.string (bs who)) := by rw [cell_of_row _ _ _ _ _ _ hrow2]; rfl
  have t1 : ((w1.setCell ⟨b, 0, none⟩ (.int .i64 (next + 1))).drew).cell? ⟨w.heap.size, 1, none⟩ = some (.string (bs svc)) := by rw [cell_of_row _ _ _ _ _ _ hrow2]; rfl
  have t2 : ((w1.setCell ⟨b, 0, none⟩ (.int .i64 (next + 1))).drew).cell? ⟨w.heap.size, 2, none⟩ = some (.int .i64 ep) := by rw [cell_of_row _ _ _ _ _ _ hrow2]; rfl
  have t3 : ((w1.setCell ⟨b, 0, none⟩ (.int .i64 (next + 1))).drew).cell? ⟨w.heap.size, 3, none⟩ = some (.int .i64 bg) := by rw [cell_of_row _ _ _ _ _ _ hrow2]; rfl
  have t4 : ((w1.setCell ⟨b, 0, none⟩ (.int .i64 (next + 1))).drew).cell? ⟨w.heap.size, 4, none⟩ = some (.int .i64 fn) := by rw [cell_of_row _ _ _ _ _ _ hrow2]; rfl
  have t5 : ((w1.setCell ⟨b, 0, none⟩ (.int .i64 (next + 1))).drew).cell? ⟨w.heap.size, 5, none⟩ = some (.int .i64 sr) := by rw [cell_of_row _ _ _ _ _ _ hrow2]; rfl
  have hfin := Lib.hid (show Keeps (DeskW b r) w w2 ∧ DeskS w2 b r (next + 1) (L ++ [⟨next, ⟨who, svc, ep, bg, fn, sr⟩⟩]) from
    ⟨(((Keeps.of_below hb).trans (keeps_setCell (S := DeskW b r) w1 ⟨b, 0, none⟩ _ (.inl rfl))).trans (Keeps.of_below (Below.refl _ _).drew)).trans (hk2.mono fun k h => .inr h), hD2⟩)
  clear hrow1 hrow2 hb hD1 hblt hset hsd hk2 hD2
  go_wp2_with fail
  go_still_tail 6, (by kernel_rfl)
  try change wpStill _ _ (World.drew _) _ _ _
  try (repeat still_step)
  try refine wpStill_nil ?_
  change wpList _ _ _ _ _ (World.drew _)
  go_wp2_with fail
  go_ret2
  exact ⟨by rw [hr.out]; rfl, hfin.out.1, by rw [hr.out]; exact hfin.out.2⟩
set_option maxHeartbeats 4000000 in
set_option maxRecDepth 100000 in
theorem close_desk {E : Nat → Addr} (b r : Nat) (next : Int) (L : List Ses) (n : Int) (w : World) (hL : Laid E w) (hD : DeskS w b r next L) (hG : GoodS next L) :
    Calls Tryz.prog 12 #[.pointer (some ⟨b, 0, none⟩), .int .i64 n] w fun e w' => e = .returned (errV E (closeS L n).1) ∧ Keeps (· = r) w w' ∧ DeskS w' b r next (closeS L n).2 := by
  have c1 := hD.at1
  have hcl : closeS L n = if (findS L n).isSome then (0, L.filter fun p => !(p.n == n)) else (5, L) := rfl
  cases hf : findS L n with
  | none =>
    have hl := hD.lookup_none hf
    dsimp only [noTick, Tick.val] at hl
    have hB : Below w.heap.size w (w.alloc (.cells #[.string (bs []), .string (bs []), .int .i64 0, .int .i64 0, .int .i64 0, .int .i64 0] 32)) := (Below.refl _ _).alloc (Nat.le_refl _) _
    have he := (hL.below hB).e5
    have hr := Lib.hid (hcl.trans (if_neg (by rw [hf]; decide)))
    have hDH := Lib.hid hD
    have hBH := Lib.hid hB
    clear hcl hf hD hB
    go_enter Tryz.func12, Tryz.ntmps12
    go_wp2_with fail
    go_ret
    exact ⟨by rw [hr.out]; rfl, Keeps.of_below hBH.out, by rw [hr.out]; exact hDH.out.below hBH.out⟩
  | some p =>
    obtain ⟨hp, hpn⟩ := findS_some hf
    have hl := hD.lookup_some hf
    have hr := Lib.hid (hcl.trans (if_pos (by rw [hf]; rfl)))
    have hB : Below w.heap.size w (w.alloc (.cells p.t.cells 32)) := (Below.refl _ _).alloc (Nat.le_refl _) _
    have hD1 := hD.below hB
    have d1 := hD1.at1
    obtain ⟨w2, hdel, hk2, hD2⟩ := hD1.delete hG.sorted hp
    rw [hpn] at hdel hD2
    have hfin := Lib.hid (show Keeps (· = r) w w2 ∧ DeskS w2 b r next (L.filter fun q => !(q.n == n)) from ⟨(Keeps.of_below hB).trans hk2, hD2⟩)
    obtain ⟨pn, who, svc, ep, bg, fn, sr⟩ := p
    dsimp only [Tick.val, Tick.cells] at hl d1 hdel
    clear hcl hf hD hB hD1 hk2 hD2 hp hpn
    go_enter Tryz.func12, Tryz.ntmps12
    go_wp2_with fail
    go_ret
    exact ⟨by rw [hr.out]; rfl, hfin.out.1, by rw [hr.out]; exact hfin.out.2⟩
end Go.Proofs.YtlcomdbkkfbjiaaGreatDoor

/- The sorted keys of a map: slices.Sorted(maps.Keys(m)) for a map that is known as a list. -/
namespace Go.Proofs.YtlcomdbkkfbjiaaGreatDoor
open Go.RowKit Go.MapKept Go.Maps Go.Sort Go.WideElems

def keyBytes : Value → List UInt8
  | .string s => s.data.toList
  | _ => []
/-- How an element is read where only the keys are asked for. -/
def readNone : Value → Option (DataW Unit × List MemPlace) := fun _ => some (.nil, [])
theorem insert_perm (x : Lit × DataW Unit) : ∀ l, (DataW.insert x l).Perm (x :: l)
  | [] => List.Perm.refl _
  | y :: r => by
    unfold DataW.insert
    split
    · exact List.Perm.refl _
    · exact ((insert_perm x r).cons y).trans (List.Perm.swap x y r)
theorem foldr_insert_perm : ∀ l : List (Lit × DataW Unit), (l.foldr DataW.insert []).Perm l
  | [] => List.Perm.refl _
  | x :: l => (insert_perm x _).trans ((foldr_insert_perm l).cons x)
theorem ownsMap_of {w : World} {r : Nat} {l : List (Value × Value)} (h : MapV .string w r l) (hk : ∀ p ∈ l, (keyBytes p.1).length ≤ maxLen) (hn : l.length ≤ maxLen) :
    ∃ D : DataW Unit, w.ownsMap Tryz.prog 9 readNone r l.length D ∧ Maps.size D = l.length ∧ (strKeys D).Perm (l.map fun p => keyBytes p.1) := by
  obtain ⟨es, clock, hb, hs, hkk, rfl⟩ := h
  have hsz : es.size = (es.toList.map fun e => (e.key, e.val)).length := by simp
  have hkey : ∀ x ∈ es.toList, keyOf Tryz.prog 9 x.key = some (.string (keyBytes x.key)) := by
    intro x hx
    have h1 := hkk x hx
    have h2 := hk (x.key, x.val) (List.mem_map.2 ⟨x, hx, rfl⟩)
    obtain ⟨k, v, b⟩ := x
    cases k <;> simp only [IsKey] at h1
    rename_i s
    exact WideMaps.keyOf_string_mk Tryz.underlying9 (by
      have h3 : s.data.toList.length ≤ maxLen := h2
      rwa [Array.length_toList] at h3)
  have hrd : ∀ x ∈ es.toList, WideElems.rd (H := Unit) Tryz.prog 9 readNone x = some (.string (keyBytes x.key), .nil) := by
    intro x hx
    unfold WideElems.rd
    rw [hkey x hx]
    rfl
  refine ⟨.map ((es.toList.map (WideElems.rg Tryz.prog 9 readNone)).foldr DataW.insert []), ⟨es, clock, hb, ⟨by rw [hsz]; exact hn, hs, fun x hx => ⟨_, hrd x hx⟩⟩, by rw [hsz]; exact Nat.le_refl _, rfl⟩, ?_, ?_⟩
  · show (List.foldr DataW.insert [] _).length = _
    rw [(foldr_insert_perm _).length_eq]
    simp
  · unfold strKeys
    refine ((foldr_insert_perm _).map _).trans ?_
    rw [List.map_map, List.map_map]
    refine List.Perm.of_eq (List.map_congr_left fun x hx => ?_)
    simp only [Function.comp, WideElems.rg, hrd x hx]
    rfl
end Go.Proofs.YtlcomdbkkfbjiaaGreatDoor
