/- RowG, FloW, Open -/
import Derived.Test.YtkhphdkjnpcnnaaGreatDoorMg7
import Derived.Test.YtkhphdkjnpcnnaaGreatDoorMg4
import Derived.Test.YtkhphdkjnpcnnaaGreatDoorMg8
import Derived.Laws.AppendOwnNone
import Derived.Maps.AppendAt
import Derived.OwnWalk
import Derived.RegionTactic
import Derived.Test.YtkhphdkjnpcnnaaGreatDoorMg2
import Derived.Deep.RegionHeld3
import Derived.Deep.LoopGhost
import Derived.Deep.CutRange
import Derived.Deep.CutBlock
import Derived.Test.YtkhphdkjnpcnnaaGreatDoorMg1
import Derived.Deep.Slices
import Derived.Deep.Fields
import Derived.ChangeSame
/- Slices of structs, of however many cells: as lists; rows of one's own; append: lemmas. No program's function. -/
namespace Go.Proofs.YtkhphdkjnpcnnaaGreatDoor set_option linter.unusedVariables false set_option linter.unusedSimpArgs false
open Go.RowKit

/-- How an element lies in memory. -/
structure Cells (α : Type) where
  k : Nat
  pos : 0 < k
  f : α → List Value
  len : ∀ x, (f x).length = k
  one : ∀ x, ∀ u ∈ f x, u.oneCell' = true
section
variable {α : Type} (C : Cells α)
def flatG : List α → List Value
  | [] => []
  | p :: L => C.f p ++ flatG L
theorem flatG_append : ∀ L M, flatG C (L ++ M) = flatG C L ++ flatG C M
  | [], _ => rfl
  | p :: L, M => by simp only [List.cons_append, flatG, flatG_append L M, List.append_assoc]
theorem flatG_len : ∀ L : List α, (flatG C L).length = L.length * C.k
  | [] => by simp [flatG]
  | p :: L => by simp only [flatG, List.length_append, C.len, flatG_len L, List.length_cons, Nat.add_mul, Nat.one_mul]; omega
theorem flatG_one : ∀ (L : List α), ∀ u ∈ flatG C L, u.oneCell' = true
  | [], u, h => by cases h
  | p :: L, u, h => by
    rcases List.mem_append.1 h with h | h
    · exact C.one p u h
    · exact flatG_one L u h
theorem flatG_get : ∀ (L : List α) (i : Nat) (h : i < L.length) (j : Nat) (_ : j < C.k), (flatG C L)[i * C.k + j]? = (C.f L[i])[j]?
  | p :: L, 0, _, j, hj => by
    rw [Nat.zero_mul, Nat.zero_add]
    show (C.f p ++ flatG C L)[j]? = _
    rw [List.getElem?_append_left (by rw [C.len]; exact hj)]
    rfl
  | p :: L, i + 1, h, j, hj => by
    have := flatG_get L i (by simpa using h) j hj
    show (C.f p ++ flatG C L)[(i + 1) * C.k + j]? = _
    rw [List.getElem?_append_right (by rw [C.len, Nat.add_mul, Nat.one_mul]; omega), C.len, show (i + 1) * C.k + j - C.k = i * C.k + j by rw [Nat.add_mul, Nat.one_mul]; omega]
    exact this
theorem flatG_at {L : List α} {q : Nat} {u : Value} (h : (flatG C L)[q]? = some u) : ∃ i j, ∃ hi : i < L.length, j < C.k ∧ q = i * C.k + j ∧ (C.f L[i])[j]? = some u := by
  have hq := (List.getElem?_eq_some_iff.1 h).1
  rw [flatG_len] at hq
  have hp := C.pos
  have hi : q / C.k < L.length := (Nat.div_lt_iff_lt_mul hp).2 hq
  have hj : q % C.k < C.k := Nat.mod_lt _ hp
  have he : q = q / C.k * C.k + q % C.k := by rw [Nat.mul_comm]; exact (Nat.div_add_mod q C.k).symm
  refine ⟨q / C.k, q % C.k, hi, hj, he, ?_⟩
  rw [← flatG_get C L _ hi _ hj, ← he]
  exact h
theorem flatG_take : ∀ (L : List α) (n : Nat), flatG C (L.take n) = (flatG C L).take (n * C.k)
  | [], _ => by simp [flatG]
  | p :: L, 0 => by simp [flatG]
  | p :: L, n + 1 => by
    show C.f p ++ flatG C (L.take n) = (C.f p ++ flatG C L).take ((n + 1) * C.k)
    rw [flatG_take L n, List.take_append, List.take_of_length_le (l := C.f p) (by rw [C.len, Nat.add_mul, Nat.one_mul]; omega), C.len, show (n + 1) * C.k - C.k = n * C.k by rw [Nat.add_mul, Nat.one_mul]; omega]
theorem flatG_drop : ∀ (L : List α) (n : Nat), flatG C (L.drop n) = (flatG C L).drop (n * C.k)
  | [], _ => by simp [flatG]
  | p :: L, 0 => by simp [flatG]
  | p :: L, n + 1 => by
    show flatG C (L.drop n) = (C.f p ++ flatG C L).drop ((n + 1) * C.k)
    rw [flatG_drop L n, List.drop_append, List.drop_of_length_le (l := C.f p) (by rw [C.len, Nat.add_mul, Nat.one_mul]; omega), C.len, show (n + 1) * C.k - C.k = n * C.k by rw [Nat.add_mul, Nat.one_mul]; omega, List.nil_append]
/-- A slice, as a list. -/
def AtG (w : World) (v : Value) (L : List α) : Prop :=
  ∃ a c, v = .slice a L.length c ∧ L.length ≤ maxLen ∧ L.length ≤ c ∧ (a = none → c = 0) ∧ ∀ i (h : i < L.length), ∃ b o, a = some ⟨b, o, none⟩ ∧ ∀ j u, (C.f L[i])[j]? = some u → w.cell? ⟨b, o + i * C.k + j, none⟩ = some u
/-- A row of one's own. -/
def RowG (w : World) (base : Nat) (e : TypeId) (v : Value) (L : List α) : Prop := w.ownsRow base e C.k v L.length (flatG C L)
variable {C} {w w' : World} {v : Value} {L M : List α}
theorem AtG.below (h : AtG C w v L) (hb : Below w.heap.size w w') : AtG C w' v L := by
  obtain ⟨a, c, h1, h2, h3, h4, h5⟩ := h
  refine ⟨a, c, h1, h2, h3, h4, fun i hi => ?_⟩
  obtain ⟨b, o, h6, h7⟩ := h5 i hi
  exact ⟨b, o, h6, fun j u hu => cell_below hb (h7 j u hu)⟩
theorem AtG.keeps {S : Nat → Prop} (h : AtG C w v L) (hk : Keeps S w w') (hs : ∀ b, v.ownBlock = some b → ¬ S b) : AtG C w' v L := by
  obtain ⟨a, c, rfl, h2, h3, h4, h5⟩ := h
  refine ⟨a, c, rfl, h2, h3, h4, fun i hi => ?_⟩
  obtain ⟨b, o, rfl, h7⟩ := h5 i hi
  exact ⟨b, o, rfl, fun j u hu => hk.cell (h7 j u hu) (hs b rfl)⟩
theorem AtG.nil (w : World) : AtG C w (.slice none 0 0) [] := ⟨none, 0, rfl, Nat.zero_le _, Nat.zero_le _, fun _ => rfl, fun i hi => by cases hi⟩
theorem AtG.sl (h : AtG C w v L) : ∃ a c, v = .slice a L.length c := by
  obtain ⟨a, c, h1, _⟩ := h
  exact ⟨a, c, h1⟩
theorem AtG.len (h : AtG C w v L) : L.length ≤ maxLen := by
  obtain ⟨_, _, _, h1, _⟩ := h
  exact h1
theorem AtG.cells (h : AtG C w v L) : ∃ a c, v = .slice a L.length c ∧ (a = none → c = 0) ∧ ∀ ad, a = some ad → ∀ j u, (flatG C L)[j]? = some u → w.cell? (ad.add j) = some u := by
  obtain ⟨a, c, h1, _, _, h4, h5⟩ := h
  refine ⟨a, c, h1, h4, fun ad had j u hu => ?_⟩
  obtain ⟨i, q, hi, hq, rfl, hu2⟩ := flatG_at C hu
  obtain ⟨b, o, hbo, h7⟩ := h5 i hi
  have := had.symm.trans hbo
  cases this
  rw [Addr.add_lit, ← Nat.add_assoc]
  exact h7 q u hu2
/-- One element that was laid into a block of its own. -/
theorem AtG.new (x : World) (p : α) (T : TypeId) {cs : Array Value} (hc : cs = (C.f p).toArray) : AtG C (x.alloc (.cells cs T)) (.slice (some ⟨x.heap.size, 0, none⟩) 1 1) [p] := by
  subst hc
  have h := heap_alloc_new x (.cells (C.f p).toArray T)
  refine ⟨_, _, rfl, by unfold maxLen; simp, by simp, (fun e => by cases e), fun i hi => ⟨x.heap.size, 0, rfl, fun j u hu => ?_⟩⟩
  have h0 : i = 0 := by simpa using hi
  subst h0
  rw [cell_of_row _ _ _ _ _ _ h, Nat.zero_mul, Nat.zero_add]
  simpa using hu
/-- The first n of a slice. -/
theorem AtG.take {a : Option Addr} {c : Nat} (h : AtG C w (.slice a L.length c) L) {n : Nat} (hn : n ≤ L.length) : AtG C w (.slice a n c) (L.take n) := by
  obtain ⟨a', c', he, h2, h3, h4, h5⟩ := h
  cases he
  have hl : (L.take n).length = n := by rw [List.length_take]; omega
  refine ⟨a, c, by rw [hl], by omega, by omega, h4, fun i hi => ?_⟩
  obtain ⟨b, o, h6, h7⟩ := h5 i (by omega)
  exact ⟨b, o, h6, fun j u hu => h7 j u (by rw [List.getElem_take] at hu; exact hu)⟩
/-- What lies behind the first n. -/
theorem AtG.drop {a : Option Addr} {c : Nat} (h : AtG C w (.slice a L.length c) L) {n : Nat} (hn : n ≤ L.length) : AtG C w (.slice (if c = n then a else a.map (·.add (n * C.k))) (L.length - n) (c - n)) (L.drop n) := by
  obtain ⟨a', c', he, h2, h3, h4, h5⟩ := h
  cases he
  have hl : (L.drop n).length = L.length - n := List.length_drop
  refine ⟨_, _, by rw [hl], by omega, by omega, fun e => ?_, fun i hi => ?_⟩
  · by_cases hc : c = n
    · rw [if_pos hc] at e; have := h4 e; omega
    · rw [if_neg hc] at e
      cases a with
      | none => have := h4 rfl; omega
      | some ad => cases e
  · obtain ⟨b, o, h6, h7⟩ := h5 (n + i) (by omega)
    refine ⟨b, o + n * C.k, ?_, fun j u hu => ?_⟩
    · rw [if_neg (by omega), h6, Option.map_some, Addr.add_lit]
    · rw [List.getElem_drop] at hu
      have := h7 j u hu
      rw [Nat.add_mul, ← Nat.add_assoc] at this
      exact this
variable {base : Nat} {e : TypeId}
theorem RowG.nil (w : World) (base : Nat) (e : TypeId) : RowG C w base e (.slice none 0 0) [] := World.ownsRow_nil _ _ _ _
theorem RowG.keeps {S : Nat → Prop} (h : RowG C w base e v L) (hk : Keeps S w w') (hs : ∀ g, v.ownBlock = some g → ¬ S g) : RowG C w' base e v L := ownsRow_keeps h hk hs
theorem RowG.below (h : RowG C w base e v L) (hb : Below w.heap.size w w') : RowG C w' base e v L := h.keeps (Keeps.of_below (S := fun _ => False) hb) (fun _ _ h => h)
theorem RowG.mono {base' : Nat} (h : RowG C w base e v L) (hb : base' ≤ base) : RowG C w base' e v L := ownsRow_mono h hb
theorem RowG.block (h : RowG C w base e v L) {g : Nat} (hg : v.ownBlock = some g) : base ≤ g ∧ ∃ cs, w.heap[g]? = some (.cells cs e (0, 0)) := ownsRow_block h hg
theorem RowG.drewN (h : RowG C w base e v L) (n : Nat) : RowG C (w.drewN n) base e v L := ownsRow_keeps h ((Keeps.refl (fun _ => False) w).drew n) (fun _ _ h => h)
theorem RowG.alloc (h : RowG C w base e v L) (o : Obj) : RowG C (w.alloc o) base e v L := World.ownsRow.alloc h o
theorem RowG.sl (h : RowG C w base e v L) : ∃ a c, v = .slice a L.length c := by
  obtain ⟨_, ⟨rfl, hn⟩ | ⟨g, cap, cur, rfl, _⟩⟩ := h
  · rw [hn]; exact ⟨_, _, rfl⟩
  · exact ⟨_, _, rfl⟩
theorem RowG.at_ (h : RowG C w base e v L) : AtG C w v L := by
  have h0 := h
  obtain ⟨_, ⟨rfl, hn⟩ | ⟨g, cap, cur, rfl, hbg, hg, hc, hm, hsz, htake⟩⟩ := h
  · exact ⟨none, 0, by rw [hn], by omega, by omega, fun _ => rfl, fun i hi => by omega⟩
  · refine ⟨_, _, rfl, by omega, hc, (fun e => by cases e), fun i hi => ⟨g, 0, rfl, fun j u hu => ?_⟩⟩
    have hj := (List.getElem?_eq_some_iff.1 hu).1
    rw [C.len] at hj
    have h1 := flatG_get C L i hi j hj
    rw [hu] at h1
    have hq := (List.getElem?_eq_some_iff.1 h1).1
    rw [flatG_len] at hq
    rw [cell_of_row w g _ _ _ _ hg, Nat.zero_add]
    rw [← htake, List.getElem?_take, if_pos hq] at h1
    simpa using h1
/-- A row's length, kept by a store into another block. -/
theorem RowG.other (h : RowG C w base e v L) (a : Addr) (u : Value) (hne : ∀ g, v.ownBlock = some g → g ≠ a.block) : RowG C (w.setCell a u) base e v L := ownsRow_other h a u hne
theorem keeps_grown {base : Nat} (h : w.grownBy w' v.ownBlock) : Keeps (fun k => v.ownBlock = some k) w w' := ⟨h.os, h.tape, h.output, h.size, fun k hk hs => h.block k hk (fun e => hs e.symm)⟩
/-- 'append(v, u...)' onto a row of one's own. -/
theorem wpList_appG {P : Program} {ops : Array Oper} {rest : List Oper} {o : Oper} {a : Act} {Q : Exit → Act → World → Prop} (C : Cells α) (w : World) (hgd : o.guard = none) (s x : Operand) (t : TypeId)
    (ho : o.op = .call { callee := .builtin .append, args := #[s, x], argTypes := #[t, t] }) (e : TypeId) (z : Value) (bytes : Nat) (ht : P.underlying t = some (.slice e))
    (hinfo : (P.info? e).map (fun i => (i.zero, i.size, i.bytes)) = some (some z, C.k, bytes)) (hzs : z.cells.size = C.k) (hby : bytes ≤ 1000)
    (base : Nat) (v : Value) (L : List α) (hs : a.eval s = v) (hown : RowG C w base e v L) (u : Value) (M : List α) (hx : a.eval x = u) (hr : AtG C w u M) (hn : L.length + M.length ≤ 1000000) (hbase : base ≤ w.heap.size)
    (h : ∀ v' w', RowG C w' base e v' (L ++ M) → Below base w w' → w.grownBy w' v.ownBlock → (v'.ownBlock = v.ownBlock ∨ v'.ownBlock = some w.heap.size) → wpList P ops Q rest (a.put o.dst v') w') : wpList P ops Q (o :: rest) a w := by
  obtain ⟨i, hi, hz0, hz1, hz2⟩ := info_parts hinfo
  obtain ⟨ad, c, rfl, hnone, hcells⟩ := hr.cells
  cases ad with
  | none =>
    have hc := hnone rfl
    subst hc
    have hM : M = [] := by
      obtain ⟨a', c', he, _, _, _, h5⟩ := hr
      cases M with
      | nil => rfl
      | cons p M =>
        obtain ⟨b, o, h6, _⟩ := h5 0 (by simp)
        cases he
        cases h6
    subst hM
    refine wpList_append_own_none hgd s x t ho base e i C.k ht hi v L.length (flatG C L) hs hown hx (h v w (by rw [List.append_nil]; exact hown) (Below.refl _ _) (World.grownBy.refl _ _) (.inl rfl))
  | some ad =>
    refine wpList_append_own_at w hgd s x t ho base e i z C.k bytes ht hi hz0 hz1 hz2 hzs C.pos v L.length (flatG C L) hs hown ad M.length c (flatG C M) hx (flatG_len C M) (hcells ad rfl) (flatG_one C M) (by unfold maxLen; omega) ?_ hbase ?_
    · have h1 : (L.length + M.length) * bytes ≤ 1000000 * 1000 := Nat.mul_le_mul hn hby
      omega
    · intro v' w' h1 h2 _ h3
      refine h v' w' ?_ ?_ h2 h3
      · unfold RowG
        rw [List.length_append, flatG_append]
        exact h1
      · exact (Below.refl _ _).grown h2 hbase (fun k hk => (World.ownsRow.lt hown k hk).1)
/-- The same at a step of a region that draws its order. -/
theorem step_appG {P : Program} {ops : Array Oper} {o : Oper} {a : Act} {K : Act → World → Prop} {Q : Exit → Act → World → Prop} {B : Prop} (C : Cells α) (w : World) (hgd : o.guard = none) (s x : Operand) (t : TypeId)
    (ho : o.op = .call { callee := .builtin .append, args := #[s, x], argTypes := #[t, t] }) (e : TypeId) (z : Value) (bytes : Nat) (ht : P.underlying t = some (.slice e))
    (hinfo : (P.info? e).map (fun i => (i.zero, i.size, i.bytes)) = some (some z, C.k, bytes)) (hzs : z.cells.size = C.k) (hby : bytes ≤ 1000)
    (base : Nat) (v : Value) (L : List α) (hs : a.eval s = v) (hown : RowG C w base e v L) (u : Value) (M : List α) (hx : a.eval x = u) (hr : AtG C w u M) (hne : M ≠ []) (hn : L.length + M.length ≤ 1000000) (hbase : base ≤ w.heap.size)
    (h : ∀ v' w', RowG C w' base e v' (L ++ M) → Below base w w' → w.grownBy w' v.ownBlock → K (a.put o.dst v') w') :
    if Region.wanted o (yielded ops a.tmps) = true then Oper.wp P o a w K Q else B := by
  obtain ⟨i, hi, hz0, hz1, hz2⟩ := info_parts hinfo
  obtain ⟨ad, c, rfl, hnone, hcells⟩ := hr.cells
  cases ad with
  | none =>
    exfalso
    obtain ⟨a', c', he, _, _, _, h5⟩ := hr
    cases M with
    | nil => exact hne rfl
    | cons p M =>
      obtain ⟨b, o, h6, _⟩ := h5 0 (by simp)
      cases he
      cases h6
  | some ad =>
    have hbb : (L.length + M.length) * bytes ≤ 140737488355328 := by
      have h1 : (L.length + M.length) * bytes ≤ 1000000 * 1000 := Nat.mul_le_mul hn hby
      omega
    obtain ⟨v', w', hrun, h2, h3, _, h5⟩ := run_append_own_at (P := P) w base t o.type e i z C.k bytes ht hi hz0 hz1 hz2 hzs C.pos v L.length (flatG C L) hown ad M.length c (flatG C M) (flatG_len C M) (hcells ad rfl) (flatG_one C M) (by unfold maxLen; omega) hbb hbase
    have hw : Region.wanted o (yielded ops a.tmps) = true := by simp [Region.wanted, hgd]
    rw [if_pos hw]
    unfold Oper.wp execOp
    simp only [ho, resolve, invoke, builtin, Sem.run_bind, Sem.run_pure, Result.andThen_ok, List.map_toArray, List.map_cons, List.map_nil, hs, hx, hrun]
    refine h v' w' ?_ ((Below.refl _ _).grown h3 hbase (fun k hk => (World.ownsRow.lt hown k hk).1)) h3
    unfold RowG
    rw [List.length_append, flatG_append]
    exact h2
end
end Go.Proofs.YtkhphdkjnpcnnaaGreatDoor

/- The walks of package floor: right, all, Check, Of, Passes by contracts. -/
namespace Go.Proofs.YtkhphdkjnpcnnaaGreatDoor set_option linter.unusedVariables false set_option linter.unusedSimpArgs false
open Go.RowKit

def Flo.val (f : Flo) : Value := .agg #[.string (bs f.who), .int .i64 f.ep]
def Flo.cells (f : Flo) : List Value := [.string (bs f.who), .int .i64 f.ep]
/-- A slice of floors. -/
def FloorsAt (w : World) (v : Value) (L : List Flo) : Prop :=
  ∃ a c, v = .slice a L.length c ∧ L.length ≤ maxLen ∧ L.length ≤ c ∧ ∀ i (h : i < L.length), ∃ b o, a = some ⟨b, o, none⟩ ∧ w.cell? ⟨b, o + i * 2, none⟩ = some (.string (bs L[i].who)) ∧ w.cell? ⟨b, o + i * 2 + 1, none⟩ = some (.int .i64 L[i].ep)
theorem FloorsAt.below {w w' : World} {v : Value} {L : List Flo} (h : FloorsAt w v L) (hb : Below w.heap.size w w') : FloorsAt w' v L := by
  obtain ⟨a, c, h1, h2, hcap, h3⟩ := h
  refine ⟨a, c, h1, h2, hcap, fun i hi => ?_⟩
  obtain ⟨b, o, h4, h5, h6⟩ := h3 i hi
  exact ⟨b, o, h4, cell_below hb h5, cell_below hb h6⟩
theorem star_bs : (⟨#[42]⟩ : ByteArray) = bs starW := rfl
theorem who_star (n : List UInt8) : ((bs n).toList == (bs starW).toList) = decide (n = starW) := by
  rw [toList_data, toList_data, bs_list, bs_list]
  by_cases h : n = starW
  · rw [decide_eq_true h, h]; exact beq_self_eq_true _
  · rw [decide_eq_false h, beq_eq_false_iff_ne]; exact h

set_option maxRecDepth 100000 in
theorem right_flo {E : Nat → Addr} (f : Flo) (w : World) (hL : Laid E w) (hl : f.who.length ≤ maxLen) :
    Calls Tryz.prog 104 #[f.val] w fun e w' => e = .returned (errV E (oneF f)) ∧ Below w.heap.size w w' := by
  have hB : Below w.heap.size w (w.alloc (.cells f.cells.toArray 113)) := (Below.refl _ _).alloc (Nat.le_refl _) _
  have hnm := Lib.hid (fun wx => name_any (bs f.who) wx (by rw [bs_size]; exact hl))
  have hone : oneF f = if f.who ≠ starW ∧ isName f.who = false then 4 else if 1 ≤ f.ep ∧ f.ep ≤ 1073741824 then 0 else 2 := rfl
  obtain ⟨who, ep⟩ := f
  dsimp only [Flo.val, Flo.cells] at *
  have c1 : (w.alloc (.cells #[.string (bs who), .int .i64 ep] 113)).cell? ⟨w.heap.size, 1, none⟩ = some (.int .i64 ep) := by simp
  by_cases hs : who = starW
  · have hone := hone.trans (if_neg (fun h => h.1 hs))
    subst hs
    have e1 : ((bs starW).toList == [42]) = true := by rw [toList_data]; rfl
    by_cases h1 : 1 ≤ ep ∧ ep ≤ 1073741824
    · have hr := Lib.hid (hone.trans (if_pos h1))
      obtain ⟨h1, h2⟩ := h1
      clear hone
      go_enter Tryz.func104, Tryz.ntmps104
      go_wp2_with fail
      go_ret
      exact ⟨by rw [hr.out]; rfl, hB⟩
    · have hr := Lib.hid (hone.trans (if_neg h1))
      have he := (hL.below hB).e2
      have h1 : ep < 1 ∨ 1073741824 < ep := by omega
      clear hone
      rcases h1 with h1 | h1
      all_goals
        go_enter Tryz.func104, Tryz.ntmps104
        go_wp2_with fail
        go_ret
        exact ⟨by rw [hr.out]; rfl, hB⟩
  · have e1 : ((bs who).toList == [42]) = false := by rw [toList_data, bs_list, beq_eq_false_iff_ne]; exact hs
    have e2 : ((bs who).toList != [42]) = true := by rw [bne, e1]; rfl
    cases ha : isName who with
    | false =>
      have hr := Lib.hid (hone.trans (if_pos ⟨hs, ha⟩))
      have ha2 := Lib.hid (show isName (bs who).data.toList = false from ha)
      clear hone hs ha
      go_enter Tryz.func104, Tryz.ntmps104
      go_wp2_with fail
      refine (hnm.out _).mono ?_
      rintro e w1 ⟨rfl, hb⟩
      rw [ha2.out]
      have hb := Lib.hid (below_trans hB hb)
      have he := (hL.below hb.out).e4
      clear c1
      go_wp2_with fail
      go_ret
      exact ⟨by rw [hr.out]; rfl, hb.out⟩
    | true =>
      have hone := hone.trans (if_neg (fun h => by rw [ha] at h; exact absurd h.2 (by decide)))
      have ha2 := Lib.hid (show isName (bs who).data.toList = true from ha)
      clear ha hs
      by_cases h1 : 1 ≤ ep ∧ ep ≤ 1073741824
      · have hr := Lib.hid (hone.trans (if_pos h1))
        obtain ⟨h1, h2⟩ := h1
        clear hone
        go_enter Tryz.func104, Tryz.ntmps104
        go_wp2_with fail
        refine (hnm.out _).mono ?_
        rintro e w1 ⟨rfl, hb⟩
        rw [ha2.out]
        have d1 := cell_below hb c1
        have hb := Lib.hid (below_trans hB hb)
        clear c1
        go_wp2_with fail
        go_ret
        exact ⟨by rw [hr.out]; rfl, hb.out⟩
      · have hr := Lib.hid (hone.trans (if_neg h1))
        have h1 : ep < 1 ∨ 1073741824 < ep := by omega
        clear hone
        rcases h1 with h1 | h1
        all_goals
          go_enter Tryz.func104, Tryz.ntmps104
          go_wp2_with fail
          refine (hnm.out _).mono ?_
          rintro e w1 ⟨rfl, hb⟩
          rw [ha2.out]
          have d1 := cell_below hb c1
          have hb := Lib.hid (below_trans hB hb)
          have he := (hL.below hb.out).e2
          clear c1
          go_wp2_with fail
          go_ret
          exact ⟨by rw [hr.out]; rfl, hb.out⟩

set_option maxRecDepth 100000 in
theorem top_flo (v : Value) (L : List Flo) (w : World) (hv : FloorsAt w v L) :
    Calls Tryz.prog 65 #[v] w fun e w' => e = .returned (.int .i64 (topF L)) ∧ w = w' := by
  obtain ⟨a, c, rfl, hlen, _, hc⟩ := hv
  cases L with
  | nil =>
    go_enter Tryz.func65, Tryz.ntmps65
    go_wp2_with fail
    go_ret
    exact ⟨rfl, rfl⟩
  | cons f L =>
    obtain ⟨b, o, rfl, h0, h1⟩ := hc 0 (by simp)
    obtain ⟨who, ep⟩ := f
    simp only [List.getElem_cons_zero, Nat.zero_mul, Nat.add_zero] at h0 h1
    have hn : 0 < (⟨who, ep⟩ :: L : List Flo).length := by simp
    unfold maxLen at hlen
    clear hc
    generalize hm : (⟨who, ep⟩ :: L : List Flo).length = m at *
    clear hm
    by_cases hs : who = starW
    · have e1 : ((bs who).toList == [42]) = true := by rw [hs, toList_data]; rfl
      have hr := Lib.hid (show topF (⟨who, ep⟩ :: L) = ep from if_pos hs)
      clear hs
      go_enter Tryz.func65, Tryz.ntmps65
      go_wp2_with fail
      go_ret
      exact ⟨ret_int hr.out.symm, rfl⟩
    · have e1 : ((bs who).toList == [42]) = false := by rw [toList_data, bs_list, beq_eq_false_iff_ne]; exact hs
      have hr := Lib.hid (show topF (⟨who, ep⟩ :: L) = 0 from if_neg hs)
      clear hs
      go_enter Tryz.func65, Tryz.ntmps65
      go_wp2_with fail
      go_ret
      exact ⟨ret_int hr.out.symm, rfl⟩

set_option maxRecDepth 100000 in
theorem of1_asks (n : List UInt8) (b : Nat) (w : World) (hc : w.cell? ⟨b, 0, none⟩ = some (.string (bs n))) (W : World) (f : Flo) (hb : Below w.heap.size w W) :
    Calls Tryz.prog 64 #[f.val, .pointer (some ⟨b, 0, none⟩)] W fun e w' => e = .returned (.bool (f.who == n)) ∧ Below W.heap.size W w' := by
  have hc := cell_below hb hc
  obtain ⟨who, ep⟩ := f
  dsimp only [Flo.val]
  have hlt := World.block_lt_of_cell? W _ hc
  have hc2 : ∀ o, (W.alloc o).cell? ⟨b, 0, none⟩ = some (.string (bs n)) := fun o => by rw [World.cell?_alloc_lt _ _ _ hlt]; exact hc
  have hbe : ((bs who).toList == (bs n).toList) = (who == n) := by rw [toList_data, toList_data, bs_list, bs_list]
  cases hq : (who == n) with
  | true =>
    rw [hq] at hbe
    clear hq hc
    go_enter Tryz.func64, Tryz.ntmps64
    go_wp2_with fail
    go_ret
    exact ⟨rfl, (Below.refl _ _).alloc (Nat.le_refl _) _⟩
  | false =>
    rw [hq] at hbe
    clear hq hc
    go_enter Tryz.func64, Tryz.ntmps64
    go_wp2_with fail
    go_ret
    exact ⟨rfl, (Below.refl _ _).alloc (Nat.le_refl _) _⟩

/-- What a closure that asks for floors does. -/
def AsksF (g : Nat) (cs : Array Value) (p : Flo → Bool) (w : World) : Prop := ∀ (W : World) (f : Flo), f.who.length ≤ maxLen → Below w.heap.size w W → Calls Tryz.prog g (#[f.val] ++ cs) W fun e w' => e = .returned (.bool (p f)) ∧ Below W.heap.size W w'
/-- The first floor that is asked for (-1: none). -/
def firstF (p : Flo → Bool) (L : List Flo) : Int := if L.findIdx p < L.length then (L.findIdx p : Int) else -1
theorem firstF_of {p : Flo → Bool} {L : List Flo} {j : Nat} (hj : j < L.length) (hb : p L[j] = true) (ha : ∀ i (h : i < L.length), i < j → p L[i] = false) : firstF p L = (j : Int) := by
  have : L.findIdx p = j := (List.findIdx_eq hj).2 ⟨hb, fun i hi => ha i (by omega) hi⟩
  unfold firstF
  rw [this, if_pos hj]
theorem firstF_none {p : Flo → Bool} {L : List Flo} (ha : ∀ i (h : i < L.length), p L[i] = false) : firstF p L = -1 := by
  have : L.findIdx p = L.length := List.findIdx_eq_length.2 fun x hx => by
    obtain ⟨i, hi, rfl⟩ := List.getElem_of_mem hx
    exact ha i hi
  unfold firstF
  rw [this, if_neg (Nat.lt_irrefl _)]
set_option maxHeartbeats 1000000 in
set_option maxRecDepth 100000 in
theorem index_flo (v : Value) (L : List Flo) (g : Nat) (cs : Array Value) (p : Flo → Bool) (w : World) (hv : FloorsAt w v L) (hm : ∀ f ∈ L, f.who.length ≤ maxLen) (hg : AsksF g cs p w) (eg : ∀ args w, (callFunc g args).run Tryz.prog w = .ok (.enter g args) w) :
    Calls Tryz.prog 63 #[v, .func (.func g) #[] cs] w fun e w' => e = .returned (.int .i64 (firstF p L)) ∧ Below w.heap.size w w' := by
  obtain ⟨a, c, rfl, hlen, _, hc⟩ := hv
  unfold maxLen at hlen
  have hc := Lib.hid hc
  have hm := Lib.hid hm
  have hg := Lib.hid hg
  go_enter Tryz.func63, Tryz.ntmps63
  go_wp2_with fail
  go_loopg [8] (L.length + 1) (fun g8 i wr => ∃ j : Nat, i = .int .i64 j ∧ j ≤ L.length ∧ L.length - j + 1 ≤ g8 ∧ Hid (∀ i (h : i < L.length), i < j → p L[i] = false) ∧ Hid (Below w.heap.size w wr))
  case atStart => exact ⟨0, rfl, Nat.zero_le _, by omega, Lib.hid (fun _ _ h => absurd h (Nat.not_lt_zero _)), Lib.hid (Below.refl _ _)⟩
  case round =>
    obtain ⟨j, rfl, hj, hgj, hall, hK⟩ := hrel
    by_cases hlt : j < L.length
    · obtain ⟨b, o, rfl, hc0, hc1⟩ := hc.out j hlt
      have hc0 := cell_below hK.out hc0
      have hc1 := cell_below hK.out hc1
      have hk0 : (0 : Int) ≤ (j : Int) := by omega
      have hk1 : (j : Int) < (L.length : Int) := by omega
      have hgc := Lib.hid (hg.out wr L[j] (hm.out _ (List.getElem_mem hlt)) hK.out)
      cases hb : p L[j] with
      | true =>
        rw [hb] at hgc
        have hr := Lib.hid (show firstF p L = (j : Int) from firstF_of hlt hb hall.out)
        clear hb
        go_wp2_with fail
        refine hgc.out.mono ?_
        rintro e w1 ⟨rfl, hb1⟩
        have hb1 := Lib.hid (hK.out.trans (hb1.mono hK.out.size))
        go_wp2_with fail
        go_ret
        exact ⟨ret_int hr.out.symm, hb1.out⟩
      | false =>
        rw [hb] at hgc
        have hall2 := Lib.hid (show ∀ i (h : i < L.length), i < j + 1 → p L[i] = false from fun i h hi => by
          rcases Nat.lt_succ_iff_lt_or_eq.1 hi with h' | rfl
          · exact hall.out i h h'
          · exact hb)
        clear hb
        go_wp2_with fail
        refine hgc.out.mono ?_
        rintro e w1 ⟨rfl, hb1⟩
        have hb1 := Lib.hid (hK.out.trans (hb1.mono hK.out.size))
        go_wp2_with fail
        go_roundg (L.length - j)
        case measure => omega
        case rel => exact ⟨j + 1, by simp, hlt, by omega, hall2, hb1⟩
    · have hr := Lib.hid (show firstF p L = -1 from firstF_none fun i hi => hall.out i hi (by omega))
      have hge : ¬ ((j : Int) < (L.length : Int)) := by omega
      go_wp2_with fail
      go_ret
      exact ⟨ret_int hr.out.symm, hK.out⟩
end Go.Proofs.YtkhphdkjnpcnnaaGreatDoor

/- A slice of structs that came in, opened to its cells. No program in sight. -/
namespace Go.Proofs.YtkhphdkjnpcnnaaGreatDoor set_option linter.unusedVariables false set_option linter.unusedSimpArgs false
open Go.ChangeShapes Go.WideShapes Go.Deep

theorem list_of {α : Type} {p : Nat → α → Prop} : ∀ (n : Nat), (∀ i, i < n → ∃ x, p i x) → ∃ l : List α, l.length = n ∧ ∀ i (h : i < l.length), p i l[i]
  | 0, _ => ⟨[], rfl, fun i h => by cases h⟩
  | n + 1, h => by
    obtain ⟨l, hl, hp⟩ := list_of n (fun i hi => h i (by omega))
    obtain ⟨x, hx⟩ := h n (by omega)
    refine ⟨l ++ [x], by simp [hl], fun i hi => ?_⟩
    by_cases hlt : i < l.length
    · rw [List.getElem_append_left hlt]; exact hp i hlt
    · have : i = n := by simp [hl] at hi; omega
      subst this
      rw [List.getElem_append_right (by omega)]
      simpa [hl] using hx

theorem cell_plain {w : World} {a : Addr} {k : Nat} {v : Value} (h : w.cell? (a.add k) = some v) : w.cell? ⟨a.block, a.off + k, none⟩ = some v := by
  unfold Addr.add at h
  by_cases hk : k = 0
  · rw [if_pos hk] at h
    subst hk
    obtain ⟨b, o, s⟩ := a
    cases s with
    | none => simpa using h
    | some x =>
      unfold World.cell? at h
      split at h <;> simp at h
  · rw [if_neg hk] at h; exact h
theorem addr_plain {w : World} {a : Addr} {v : Value} (h : w.cell? a = some v) : a = ⟨a.block, a.off, none⟩ := by
  obtain ⟨b, o, s⟩ := a
  cases s with
  | none => rfl
  | some x =>
    unfold World.cell? at h
    split at h <;> simp at h

theorem four_of {α : Type} {l : List α} (h : l.length = 4) : ∃ a b c d, l = [a, b, c, d] := by
  match l, h with
  | [a, b, c, d], _ => exact ⟨a, b, c, d, rfl⟩
section
variable {H : Type} {enc : TypeId × Value → H} {P : Program} {w : World} {base : Nat} {spare : Nat → Bool} {held : Bool}
/-- Each element's cells, and how they are read. -/
theorem slice_cells {t e : TypeId} {fuel : Nat} {cs : List Value} {x : DataW H × List MemPlace} (ht : P.underlying t = some (.slice e)) (h : DataW.trod enc P w base spare held fuel t cs = some x) :
    cs = [.slice none 0 0] ∨ ∃ (a : Addr) (len cap n : Nat), cs = [.slice (some a) len cap] ∧ len ≤ maxLen ∧
      ∀ i, i < len → ∃ (cs' : List Value) (y : DataW H × List MemPlace), cs'.length = P.cellsOf e ∧ (∀ j, j < P.cellsOf e → w.cell? ⟨a.block, a.off + (i * P.cellsOf e + j), none⟩ = cs'[j]?) ∧
        (∀ j, j < P.cellsOf e → i * P.cellsOf e + j = 0 → a = ⟨a.block, a.off, none⟩) ∧ DataW.trod enc P w base spare held n e cs' = some y := by
  rcases open_slice ht h with h0 | ⟨a, len, cap, m, n, D, Pl, hcs, _, hl, hm, hmm, _, hi⟩
  · exact .inl h0.1
  · refine .inr ⟨a, len, cap, n, hcs, by omega, fun i him => ?_⟩
    have : i < m := by rw [hmm]; split <;> omega
    obtain ⟨cs', hc, ht'⟩ := hi i this
    obtain ⟨_, hcl, hat⟩ := World.cells?_some hc
    have hget : ∀ j, j < P.cellsOf e → ∃ v, cs'[j]? = some v ∧ w.cell? (a.add (i * P.cellsOf e + j)) = some v := fun j hj => by
      refine ⟨cs'[j]'(by omega), List.getElem?_eq_getElem (by omega), ?_⟩
      rw [← add_add, hat j hj]
      exact List.getElem?_eq_getElem (by omega)
    refine ⟨cs', _, hcl, fun j hj => ?_, fun j hj h0 => ?_, ht'⟩
    · obtain ⟨v, h1, h2⟩ := hget j hj
      rw [h1]; exact cell_plain h2
    · obtain ⟨v, h1, h2⟩ := hget j hj
      rw [h0] at h2
      exact addr_plain (w := w) (v := v) (by simpa [Addr.add] using h2)
/-- A struct's fields. -/
theorem struct_fields {e : TypeId} {fs : Array Field} {n : Nat} {cs : List Value} {y : DataW H × List MemPlace} (he : P.underlying e = some (.struct fs)) (h : DataW.trod enc P w base spare held n e cs = some y) :
    cs.length = P.cellsOf e ∧ ∃ m, ∀ (j : Nat) (f : Field), fs[j]? = some f → ∃ z, DataW.trod enc P w base spare held m f.type ((cs.drop f.offset).take (P.cellsOf f.type)) = some z := by
  obtain ⟨ys, m, _, _, hcl, hyl, hf⟩ := DataW.trod_struct he h
  refine ⟨hcl, m, fun j f hj => ?_⟩
  have hlt : j < ys.length := by rw [hyl]; exact (Array.getElem?_eq_some_iff.1 hj).1
  exact ⟨ys[j], (hf j f hj).trans (List.getElem?_eq_getElem hlt)⟩
theorem field_one {t : TypeId} {m n j : Nat} {cs : List Value} {v : Value} {z : DataW H × List MemPlace} (h : DataW.trod enc P w base spare held m t ((cs.drop j).take n) = some z) (hn : n = 1) (hv : cs[j]? = some v) : DataW.trod enc P w base spare held m t [v] = some z := by
  obtain ⟨hj, rfl⟩ := List.getElem?_eq_some_iff.1 hv
  rw [hn, List.drop_eq_getElem_cons hj] at h
  exact h
theorem read_int {t : TypeId} {k : IntKind} {n : Nat} {v : Value} {z : DataW H × List MemPlace} (ht : P.underlying t = some (.int k)) (h : DataW.trod enc P w base spare held n t [v] = some z) : ∃ x, v = .int k x ∧ (Lit.int k x).wf = true := by
  obtain ⟨x, h1, _, h3⟩ := DataW.trod_int ht h
  exact ⟨x, by simpa using h1, h3⟩
theorem read_string {t : TypeId} {n : Nat} {v : Value} {z : DataW H × List MemPlace} (ht : P.underlying t = some .string) (h : DataW.trod enc P w base spare held n t [v] = some z) : ∃ s : List UInt8, v = .string (bs s) ∧ s.length ≤ maxLen := by
  obtain ⟨x, h1, _, h3⟩ := DataW.trod_string ht h
  exact ⟨x.data.toList, by rw [bs_data]; simpa using h1, by rw [Array.length_toList]; exact h3⟩
theorem read_bool {t : TypeId} {n : Nat} {v : Value} {z : DataW H × List MemPlace} (ht : P.underlying t = some .bool) (h : DataW.trod enc P w base spare held n t [v] = some z) : ∃ b, v = .bool b := by
  obtain ⟨x, h1, _⟩ := DataW.trod_bool ht h
  exact ⟨x, by simpa using h1⟩
end
end Go.Proofs.YtkhphdkjnpcnnaaGreatDoor
