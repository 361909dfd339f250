/- Plain, Mark0, Book, Texts, Name -/
import Derived.Laws.IdiomStrings
import Derived.WalkSmall
import Derived.Deep.Draws
import Derived.Test.YtcnadjdijolboaaGreatDoorProg
import Derived.WalkKit
import Derived.WalkSpells
import Derived.WalkLawsBesides
import Derived.Lib.Hide
import Derived.Deep.QuietTactic
import Derived.BigQuiet
import Derived.Lib.SlTrimSet
import Derived.Test.YtcnadjdijolboaaGreatDoorShelf
/- Plain definitions and lemmas about marks: no program in sight. -/
namespace Go.Proofs.YtcnadjdijolboaaGreatDoor
open Go.RowKit

/-- Is a number a key? -/
def isKey (k : Int) : Bool := decide (1 ≤ k) && decide (k ≤ 1000000006)
theorem isKey_iff (k : Int) : isKey k = true ↔ 1 ≤ k ∧ k ≤ 1000000006 := by simp [isKey]
theorem isKey_false (k : Int) : isKey k = false ↔ k < 1 ∨ 1000000006 < k := by simp [isKey]; omega

def mstep (k n : Int) (c : UInt8) : Int := (n * 257 + c.toNat + 1 + k) % 1000000007
def mfold (k n : Int) (l : List UInt8) : Int := l.foldl (mstep k) n
theorem mfold_snoc (k n : Int) (l : List UInt8) (c : UInt8) : mfold k n (l ++ [c]) = mstep k (mfold k n l) c := by simp [mfold]
theorem mfold_append (k n : Int) (l m : List UInt8) : mfold k n (l ++ m) = mfold k (mfold k n l) m := by simp [mfold]
theorem mstep_bd (k n : Int) (c : UInt8) : 0 ≤ mstep k n c ∧ mstep k n c < 1000000007 := by unfold mstep; omega
theorem mfold_bd (k : Int) (l : List UInt8) : ∀ n : Int, 0 ≤ n → n < 1000000007 → 0 ≤ mfold k n l ∧ mfold k n l < 1000000007 := by
  induction l with
  | nil => intro n h0 h1; exact ⟨h0, h1⟩
  | cons c l ih => intro n _ _; exact ih _ (mstep_bd k n c).1 (mstep_bd k n c).2
theorem take_snoc (s : ByteArray) (k : Nat) (h : k < s.size) : s.data.toList.take (k + 1) = s.data.toList.take k ++ [s[k]] := by
  rw [List.take_succ_eq_append_getElem (by simpa using h)]; rfl
theorem take_all (s : ByteArray) : s.data.toList.take s.size = s.data.toList := by
  rw [List.take_of_length_le (by simp)]

/-- More of a text: the mark, an error's number. -/
def more (k n : Int) (s : List UInt8) : Int × Nat :=
  if isKey k = true then (if 0 ≤ n ∧ n < 1000000007 then (mfold k n s, 0) else (0, 2)) else (0, 10)
/-- Of a text. -/
def markOf (k : Int) (s : List UInt8) : Int × Nat := if isKey k = true then (mfold k k s, 0) else (0, 10)
theorem more_bd (k n : Int) (s : List UInt8) : 0 ≤ (more k n s).1 ∧ (more k n s).1 < 1000000007 := by
  unfold more
  split
  · split
    · rename_i h; exact mfold_bd k s n h.1 h.2
    · exact ⟨by simp, by simp⟩
  · exact ⟨by simp, by simp⟩
theorem markOf_bd (k : Int) (s : List UInt8) : 0 ≤ (markOf k s).1 ∧ (markOf k s).1 < 1000000007 := by
  unfold markOf
  split
  · rename_i h; have := (isKey_iff k).1 h; exact mfold_bd k s k (by omega) (by omega)
  · exact ⟨by simp, by simp⟩
theorem markOf_more (k : Int) (s : List UInt8) : markOf k s = more k (max k 0 % 1000000007) s := by
  unfold markOf more
  by_cases h : isKey k = true
  · have := (isKey_iff k).1 h
    have e : max k 0 % 1000000007 = k := by omega
    rw [if_pos h, if_pos h, e, if_pos (by omega)]
  · rw [if_neg h, if_neg h]

/-- A text's byte at a place. -/
def byteAt (s : ByteArray) (k : Nat) : UInt8 := s.data.toList.getD k 0
theorem byteAt_eq (s : ByteArray) (k : Nat) (h : k < s.size) : byteAt s k = s[k] := by
  have h' : k < s.data.size := h
  have : s.data[k]? = some s[k] := by rw [Array.getElem?_eq_getElem h']; rfl
  simp [byteAt, this]
theorem take_succ_byte (s : ByteArray) (k : Nat) (h : k < s.size) : s.data.toList.take (k + 1) = s.data.toList.take k ++ [byteAt s k] := by
  rw [take_snoc s k h, byteAt_eq s k h]
/-- A text's bytes, laid as a slice of bytes. -/
theorem bytesRow_cell (w : World) (s : ByteArray) (k : Nat) (h : k < s.size) (e : TypeId) (c : Nat) (f : Nat × Nat) :
    (w.alloc (.cells (bytesRow s c) e f)).cell? ⟨w.heap.size, k, none⟩ = some (.int .u8 ((byteAt s k).toNat : Int)) := by
  rw [World.cell?_alloc_mark, byteAt_eq s k h]
  unfold bytesRow
  have h' : k < s.data.size := h
  rw [Array.getElem?_append_left (by simpa using h)]
  rw [Array.getElem?_map, Array.getElem?_eq_getElem h']
  rfl

theorem mod1 (a b x m : Int) : (a + b * (x % m)) % m = (a + b * x) % m := by
  rw [Int.add_emod, Int.mul_emod, Int.emod_emod_of_dvd _ (Int.dvd_refl _), ← Int.mul_emod, ← Int.add_emod]
theorem mod2 (a b m : Int) : (a % m + b) % m = (a + b) % m := by
  rw [Int.add_emod, Int.emod_emod_of_dvd _ (Int.dvd_refl _), ← Int.add_emod]
theorem mod3 (a b n m : Int) : (a + b % m * n) % m = (a + b * n) % m := by
  rw [Int.mul_comm, mod1, Int.mul_comm]
theorem mod4 (a b c n k m : Int) : (a + b * ((n * 257 + c + 1 + k) % m)) % m = ((a + b * ((c + 1 + k) % m)) % m + b * 257 % m * n) % m := by
  rw [mod1, mod2, mod3, show a + b * ((c + 1 + k) % m) + b * 257 * n = (a + b * 257 * n) + b * ((c + 1 + k) % m) by omega, mod1]
  congr 1
  rw [show n * 257 + c + 1 + k = (c + 1 + k) + 257 * n by omega, Int.mul_add b, ← Int.mul_assoc b]
  omega
/-- What the reference reckons from behind: each byte's part, times the power of all behind it. -/
def msuf (k : Int) : List UInt8 → Int × Int
  | [] => (0, 1)
  | c :: t => (((msuf k t).1 + (msuf k t).2 * (((c.toNat : Int) + 1 + k) % 1000000007)) % 1000000007, (msuf k t).2 * 257 % 1000000007)
theorem msuf_bd (k : Int) : ∀ t, 0 ≤ (msuf k t).1 ∧ (msuf k t).1 < 1000000007 ∧ 0 ≤ (msuf k t).2 ∧ (msuf k t).2 < 1000000007
  | [] => by simp [msuf]
  | c :: t => by simp only [msuf]; omega
theorem mfold_msuf (k : Int) : ∀ (t : List UInt8) (n : Int), 0 ≤ n → n < 1000000007 → mfold k n t = ((msuf k t).1 + (msuf k t).2 * n) % 1000000007
  | [], n, h0, h1 => by simp [msuf, mfold]; omega
  | c :: t, n, _, _ => by
    have ih := mfold_msuf k t (mstep k n c) (mstep_bd k n c).1 (mstep_bd k n c).2
    show mfold k (mstep k n c) t = _
    rw [ih]
    simp only [msuf, mstep]
    generalize (msuf k t).1 = a
    generalize (msuf k t).2 = b
    exact mod4 _ _ _ _ _ _
def rightOf (k : Int) (s : List UInt8) (n : Int) : Nat := if (markOf k s).2 = 0 then (if (markOf k s).1 = n then 0 else 9) else (markOf k s).2
end Go.Proofs.YtcnadjdijolboaaGreatDoor

/- Errors as values, the sentinels' variables, small lemmas, mark.Key. -/
namespace Go.Proofs.YtcnadjdijolboaaGreatDoor
open Go.RowKit

/-- An error by its number (0: nil). -/
def errV (E : Nat → Addr) : Nat → Value
  | 0 => .nilIface
  | c + 1 => .iface 201 (.pointer (some (E (c + 1))))
theorem errV_zero (E : Nat → Addr) : errV E 0 = .nilIface := rfl
theorem errV_succ (E : Nat → Addr) (c : Nat) : errV E (c + 1) = .iface 201 (.pointer (some (E (c + 1)))) := rfl

/-- The sentinels of package api lie at E, each in a row of its own. -/
structure Laid (E : Nat → Addr) (w : World) : Prop where
  e1 : w.cell? ⟨3, 0, none⟩ = some (errV E 1)
  e2 : w.cell? ⟨5, 0, none⟩ = some (errV E 2)
  e3 : w.cell? ⟨2, 0, none⟩ = some (errV E 3)
  e4 : w.cell? ⟨4, 0, none⟩ = some (errV E 4)
  e5 : w.cell? ⟨6, 0, none⟩ = some (errV E 5)
  e6 : w.cell? ⟨7, 0, none⟩ = some (errV E 6)
  e7 : w.cell? ⟨0, 0, none⟩ = some (errV E 7)
  e8 : w.cell? ⟨1, 0, none⟩ = some (errV E 8)
  e9 : w.cell? ⟨8, 0, none⟩ = some (errV E 9)
  e10 : w.cell? ⟨9, 0, none⟩ = some (errV E 10)
  e11 : w.cell? ⟨10, 0, none⟩ = some (errV E 11)
  e12 : w.cell? ⟨11, 0, none⟩ = some (errV E 12)
  e13 : w.cell? ⟨12, 0, none⟩ = some (errV E 13)
  e14 : w.cell? ⟨13, 0, none⟩ = some (errV E 14)
  e15 : w.cell? ⟨14, 0, none⟩ = some (errV E 15)
  e16 : w.cell? ⟨15, 0, none⟩ = some (errV E 16)
theorem cell_below {w w' : World} (hb : Below w.heap.size w w') {a : Addr} {v : Value} (h : w.cell? a = some v) : w'.cell? a = some v :=
  (hb.cell (World.block_lt_of_cell? w a h)).trans h
theorem Laid.below {E : Nat → Addr} {w w' : World} (h : Laid E w) (hb : Below w.heap.size w w') : Laid E w' where
  e1 := cell_below hb h.e1
  e2 := cell_below hb h.e2
  e3 := cell_below hb h.e3
  e4 := cell_below hb h.e4
  e5 := cell_below hb h.e5
  e6 := cell_below hb h.e6
  e7 := cell_below hb h.e7
  e8 := cell_below hb h.e8
  e9 := cell_below hb h.e9
  e10 := cell_below hb h.e10
  e11 := cell_below hb h.e11
  e12 := cell_below hb h.e12
  e13 := cell_below hb h.e13
  e14 := cell_below hb h.e14
  e15 := cell_below hb h.e15
  e16 := cell_below hb h.e16
theorem below_drawn {B : Nat} {a w : World} (h : Below B a w) (n : Nat) : Below B a (w.drewN n) := ⟨h.os, h.tape, h.output, h.size, h.block⟩
theorem below_trans {w w1 w2 : World} (h : Below w.heap.size w w1) (h' : Below w1.heap.size w1 w2) : Below w.heap.size w w2 := h.trans (h'.mono h.size)
theorem ret_int {a b : Int} (h : a = b) : Ending.returned (.int .i64 a) = .returned (.int .i64 b) := by rw [h]
theorem ret_bool {a b : Bool} (h : a = b) : Ending.returned (.bool a) = .returned (.bool b) := by rw [h]
theorem ret_int2 {a b : Int} {v : Value} (h : a = b) : Ending.returned (.tuple #[.int .i64 a, v]) = .returned (.tuple #[.int .i64 b, v]) := by rw [h]
theorem key_any (k : Int) (w : World) :
    Calls Tryz.prog 107 #[.int .i64 k] w fun e w' => e = .returned (.bool (isKey k)) ∧ w = w' := by
  unfold isKey
  by_cases h : 1 ≤ k <;> by_cases h2 : k ≤ 1000000006
  all_goals
    go_enter Tryz.func107, Tryz.ntmps107
    go_wp2
    go_ret
    exact ⟨by simp [h, h2], rfl⟩
end Go.Proofs.YtcnadjdijolboaaGreatDoor

/- Plain definitions and lemmas about names and a book of people: no program in sight. -/
namespace Go.Proofs.YtcnadjdijolboaaGreatDoor

/-- Is a byte a small letter, or a digit? -/
def smallB (c : UInt8) : Bool := (decide (97 ≤ c) && decide (c ≤ 122)) || (decide (48 ≤ c) && decide (c ≤ 57))
/-- Is a text a name? -/
def isName (l : List UInt8) : Bool := decide (1 ≤ l.length) && decide (l.length ≤ 8) && l.all smallB
def smallCs : List UInt8 := [97, 98, 99, 100, 101, 102, 103, 104, 105, 106, 107, 108, 109, 110, 111, 112, 113, 114, 115, 116, 117, 118, 119, 120, 121, 122, 48, 49, 50, 51, 52, 53, 54, 55, 56, 57]
theorem smallCs_contains (c : UInt8) : smallCs.contains c = smallB c := by
  have h : ∀ n, n < 256 → smallCs.contains (UInt8.ofNat n) = smallB (UInt8.ofNat n) := by decide +kernel
  have := h c.toNat (UInt8.toNat_lt c)
  rwa [UInt8.ofNat_toNat] at this
theorem mem_dropWhile_of_not {α : Type} (p : α → Bool) (c : α) : ∀ l : List α, c ∈ l → p c = false → c ∈ l.dropWhile p
  | a :: l, h, hp => by
    rw [List.dropWhile_cons]
    split
    · rename_i ha
      rcases List.mem_cons.1 h with rfl | h
      · rw [hp] at ha; cases ha
      · exact mem_dropWhile_of_not p c l h hp
    · exact h
theorem dropWhile_all {α : Type} (p : α → Bool) : ∀ l : List α, (∀ a ∈ l, p a = true) → l.dropWhile p = []
  | [], _ => rfl
  | a :: l, h => by
    rw [List.dropWhile_cons, if_pos (h a (by simp))]
    exact dropWhile_all p l (fun b hb => h b (by simp [hb]))
theorem trimS_nil_iff (l cs : List UInt8) : Lib.trimS l cs = [] ↔ ∀ c ∈ l, cs.contains c = true := by
  constructor
  · intro h c hc
    cases hcc : cs.contains c with
    | true => rfl
    | false =>
      have h1 : c ∈ Lib.trimRightS l cs := by
        unfold Lib.trimRightS
        rw [List.mem_reverse]
        exact mem_dropWhile_of_not _ c _ (List.mem_reverse.2 hc) hcc
      have h2 : c ∈ Lib.trimS l cs := mem_dropWhile_of_not _ c _ h1 hcc
      rw [h] at h2
      cases h2
  · intro h
    unfold Lib.trimS Lib.trimLeftS Lib.trimRightS
    rw [dropWhile_all _ l.reverse (fun a ha => h a (List.mem_reverse.1 ha))]
    rfl
theorem isName_iff (l : List UInt8) : isName l = true ↔ 1 ≤ l.length ∧ l.length ≤ 8 ∧ ∀ c ∈ l, smallB c = true := by
  simp [isName, and_assoc]

/-- A person of a book. -/
structure Per where
  name : List UInt8
  key : Int
  epoch : Int
  off : Bool
def bs (l : List UInt8) : ByteArray := ⟨l.toArray⟩
theorem bs_list (l : List UInt8) : (bs l).data.toList = l := rfl
theorem bs_data (s : ByteArray) : bs s.data.toList = s := by unfold bs; rw [Array.toArray_toList]
theorem bs_inj {a b : List UInt8} (h : bs a = bs b) : a = b := by rw [← bs_list a, h, bs_list]
def Per.val (p : Per) : Value := .agg #[.string (bs p.name), .int .i64 p.key, .int .i64 p.epoch, .bool p.off]

def SortedP (L : List Per) : Prop := L.Pairwise (fun p q => p.name < q.name)
def findP (L : List Per) (n : List UInt8) : Option Per := L.find? (fun p => p.name == n)
def insP (p : Per) : List Per → List Per
  | [] => [p]
  | q :: r => if q.name < p.name then q :: insP p r else p :: q :: r
def setP (L : List Per) (p : Per) : List Per := L.map (fun q => if q.name = p.name then p else q)

theorem findP_some {L : List Per} {n : List UInt8} {p : Per} (h : findP L n = some p) : p ∈ L ∧ p.name = n :=
  ⟨List.mem_of_find?_eq_some h, by simpa using List.find?_some h⟩
theorem findP_none {L : List Per} {n : List UInt8} (h : findP L n = none) : ∀ p ∈ L, p.name ≠ n := by
  intro p hp
  simpa using List.find?_eq_none.1 h p hp
theorem insP_perm (p : Per) : ∀ L, (insP p L).Perm (p :: L)
  | [] => List.Perm.refl _
  | q :: r => by
    unfold insP
    split
    · exact ((insP_perm p r).cons q).trans (List.Perm.swap p q r)
    · exact List.Perm.refl _
theorem lt_total {a b : List UInt8} (h : ¬ a < b) (hne : a ≠ b) : b < a := by
  rcases Std.lt_trichotomy a b with h1 | h1 | h1
  · exact absurd h1 h
  · exact absurd h1 hne
  · exact h1
theorem insP_sorted (p : Per) : ∀ L, SortedP L → (∀ q ∈ L, q.name ≠ p.name) → SortedP (insP p L)
  | [], _, _ => by simp [insP, SortedP]
  | q :: r, hs, hn => by
    have hs' := List.pairwise_cons.1 hs
    unfold insP
    split
    · rename_i hlt
      refine List.pairwise_cons.2 ⟨fun x hx => ?_, insP_sorted p r hs'.2 (fun x hx => hn x (by simp [hx]))⟩
      rcases List.mem_cons.1 ((insP_perm p r).mem_iff.1 hx) with rfl | h
      · exact hlt
      · exact hs'.1 x h
    · rename_i hlt
      have hpq : p.name < q.name := lt_total hlt (hn q (by simp))
      refine List.pairwise_cons.2 ⟨fun x hx => ?_, hs⟩
      rcases List.mem_cons.1 hx with rfl | h
      · exact hpq
      · exact List.lt_trans hpq (hs'.1 x h)
theorem setP_names (L : List Per) (p : Per) : (setP L p).map Per.name = L.map Per.name := by
  unfold setP
  rw [List.map_map]
  refine List.map_congr_left fun q _ => ?_
  simp only [Function.comp]
  split
  · rename_i h; exact h.symm
  · rfl
theorem sortedP_names {L M : List Per} (h : L.map Per.name = M.map Per.name) (hs : SortedP L) : SortedP M := by
  have : (L.map Per.name).Pairwise (· < ·) := List.pairwise_map.2 hs
  rw [h] at this
  exact List.pairwise_map.1 this
theorem setP_sorted {L : List Per} (p : Per) (hs : SortedP L) : SortedP (setP L p) := sortedP_names (setP_names L p).symm hs
theorem sorted_name_inj {L : List Per} (hs : SortedP L) : ∀ p ∈ L, ∀ q ∈ L, p.name = q.name → p = q := by
  induction L with
  | nil => intro p hp; cases hp
  | cons a L ih =>
    have hs' := List.pairwise_cons.1 hs
    intro p hp q hq h
    rcases List.mem_cons.1 hp with hpa | hp' <;> rcases List.mem_cons.1 hq with hqa | hq'
    · rw [hpa, hqa]
    · exact absurd (hs'.1 q hq') (by rw [← hpa, h]; exact List.lt_irrefl _)
    · exact absurd (hs'.1 p hp') (by rw [← hqa, h]; exact List.lt_irrefl _)
    · exact ih hs'.2 p hp' q hq' h

def addOf (L : List Per) (n : List UInt8) (k : Int) : Nat × List Per :=
  if isName n = false then (4, L) else if isKey k = false then (10, L) else if (findP L n).isSome then (6, L) else if 20 ≤ L.length then (7, L) else (0, insP ⟨n, k, 1, false⟩ L)
def rekeyOf (L : List Per) (n : List UInt8) (k : Int) : Nat × List Per :=
  match findP L n with
  | none => (5, L)
  | some p => if isKey k = false then (10, L) else if p.key = k then (6, L) else if 1073741824 ≤ p.epoch then (2, L) else (0, setP L { p with key := k, epoch := p.epoch + 1 })
def raiseOf (L : List Per) (n : List UInt8) : Int × Nat × List Per :=
  match findP L n with
  | none => (0, 5, L)
  | some p => if 1073741824 ≤ p.epoch then (0, 2, L) else (p.epoch + 1, 0, setP L { p with epoch := p.epoch + 1 })
def offOf (L : List Per) (n : List UInt8) (b : Bool) : Nat × List Per :=
  match findP L n with
  | none => (5, L)
  | some p => if p.off = b then (6, L) else (0, setP L { p with off := b })

/-- What is so of a book at all times. -/
structure GoodB (L : List Per) : Prop where
  sorted : SortedP L
  name : ∀ p ∈ L, isName p.name = true
  key : ∀ p ∈ L, isKey p.key = true
  epoch : ∀ p ∈ L, 1 ≤ p.epoch ∧ p.epoch ≤ 1073741824
  many : L.length ≤ 20
/-- Nobody goes, and epochs only rise. -/
def Rises (L M : List Per) : Prop := ∀ p ∈ L, ∃ q, findP M p.name = some q ∧ p.epoch ≤ q.epoch ∧ (q.key ≠ p.key → q.epoch ≠ p.epoch)
theorem findP_of_mem {L : List Per} (hs : SortedP L) {p : Per} (hp : p ∈ L) : findP L p.name = some p := by
  cases h : findP L p.name with
  | none => exact absurd rfl (findP_none h p hp)
  | some q =>
    obtain ⟨hq, hn⟩ := findP_some h
    rw [sorted_name_inj hs q hq p hp hn]
theorem rises_refl {L : List Per} (hs : SortedP L) : Rises L L := fun p hp => ⟨p, findP_of_mem hs hp, Int.le_refl _, fun h => absurd rfl h⟩
theorem rises_set {L : List Per} (hs : SortedP L) {p : Per} (hp : p ∈ L) (q : Per) (hn : q.name = p.name) (he : p.epoch ≤ q.epoch) (hk : q.key ≠ p.key → q.epoch ≠ p.epoch) : Rises L (setP L q) := by
  intro x hx
  have hm : (if x.name = q.name then q else x) ∈ setP L q := List.mem_map.2 ⟨x, hx, rfl⟩
  by_cases h : x.name = q.name
  · rw [if_pos h] at hm
    have hxp : x = p := sorted_name_inj hs x hx p hp (h.trans hn)
    subst hxp
    exact ⟨q, by rw [h]; exact findP_of_mem (setP_sorted q hs) hm, he, hk⟩
  · rw [if_neg h] at hm
    exact ⟨x, findP_of_mem (setP_sorted q hs) hm, Int.le_refl _, fun h => absurd rfl h⟩
theorem good_set {L : List Per} (h : GoodB L) (q : Per) (hn : isName q.name = true) (hk : isKey q.key = true) (he : 1 ≤ q.epoch ∧ q.epoch ≤ 1073741824) : GoodB (setP L q) := by
  have hmem : ∀ x ∈ setP L q, x = q ∨ x ∈ L := by
    intro x hx
    obtain ⟨y, hy, rfl⟩ := List.mem_map.1 hx
    split
    · exact .inl rfl
    · exact .inr hy
  refine ⟨setP_sorted q h.sorted, fun x hx => ?_, fun x hx => ?_, fun x hx => ?_, by unfold setP; rw [List.length_map]; exact h.many⟩
  · rcases hmem x hx with rfl | h'
    · exact hn
    · exact h.name x h'
  · rcases hmem x hx with rfl | h'
    · exact hk
    · exact h.key x h'
  · rcases hmem x hx with rfl | h'
    · exact he
    · exact h.epoch x h'
theorem add_good {L : List Per} (h : GoodB L) (n : List UInt8) (k : Int) : GoodB (addOf L n k).2 ∧ Rises L (addOf L n k).2 ∧ ((addOf L n k).1 ≠ 0 → (addOf L n k).2 = L) ∧ (addOf L n k).1 ≤ 16 := by
  unfold addOf
  by_cases h1 : isName n = false
  · rw [if_pos h1]; exact ⟨h, rises_refl h.sorted, fun _ => rfl, by simp⟩
  rw [if_neg h1]
  by_cases h2 : isKey k = false
  · rw [if_pos h2]; exact ⟨h, rises_refl h.sorted, fun _ => rfl, by simp⟩
  rw [if_neg h2]
  by_cases h3 : (findP L n).isSome = true
  · rw [if_pos h3]; exact ⟨h, rises_refl h.sorted, fun _ => rfl, by simp⟩
  rw [if_neg h3]
  by_cases h4 : 20 ≤ L.length
  · rw [if_pos h4]; exact ⟨h, rises_refl h.sorted, fun _ => rfl, by simp⟩
  rw [if_neg h4]
  have hnone : findP L n = none := by simpa using h3
  have hperm := insP_perm ⟨n, k, 1, false⟩ L
  have hsort := insP_sorted ⟨n, k, 1, false⟩ L h.sorted (findP_none hnone)
  refine ⟨⟨hsort, fun x hx => ?_, fun x hx => ?_, fun x hx => ?_, ?_⟩, fun x hx => ⟨x, findP_of_mem hsort (hperm.mem_iff.2 (by simp [hx])), Int.le_refl _, fun h => absurd rfl h⟩, fun h => absurd rfl h, Nat.zero_le _⟩
  · rcases List.mem_cons.1 (hperm.mem_iff.1 hx) with rfl | h'
    · simpa using h1
    · exact h.name x h'
  · rcases List.mem_cons.1 (hperm.mem_iff.1 hx) with rfl | h'
    · simpa using h2
    · exact h.key x h'
  · rcases List.mem_cons.1 (hperm.mem_iff.1 hx) with rfl | h'
    · dsimp only; omega
    · exact h.epoch x h'
  · rw [hperm.length_eq, List.length_cons]; omega
theorem rekey_good {L : List Per} (h : GoodB L) (n : List UInt8) (k : Int) : GoodB (rekeyOf L n k).2 ∧ Rises L (rekeyOf L n k).2 ∧ ((rekeyOf L n k).1 ≠ 0 → (rekeyOf L n k).2 = L) ∧ (rekeyOf L n k).1 ≤ 16 := by
  unfold rekeyOf
  cases hf : findP L n with
  | none => exact ⟨h, rises_refl h.sorted, fun _ => rfl, by simp⟩
  | some p =>
    obtain ⟨hp, hn⟩ := findP_some hf
    dsimp only
    by_cases h2 : isKey k = false
    · rw [if_pos h2]; exact ⟨h, rises_refl h.sorted, fun _ => rfl, by simp⟩
    rw [if_neg h2]
    by_cases h3 : p.key = k
    · rw [if_pos h3]; exact ⟨h, rises_refl h.sorted, fun _ => rfl, by simp⟩
    rw [if_neg h3]
    by_cases h4 : 1073741824 ≤ p.epoch
    · rw [if_pos h4]; exact ⟨h, rises_refl h.sorted, fun _ => rfl, by simp⟩
    rw [if_neg h4]
    have he := h.epoch p hp
    exact ⟨good_set h _ (h.name p hp) (by simpa using h2) (by dsimp only; omega), rises_set h.sorted hp _ rfl (by dsimp only; omega) (fun _ => by dsimp only; omega), fun h => absurd rfl h, Nat.zero_le _⟩
theorem raise_good {L : List Per} (h : GoodB L) (n : List UInt8) : GoodB (raiseOf L n).2.2 ∧ Rises L (raiseOf L n).2.2 ∧ ((raiseOf L n).2.1 ≠ 0 → (raiseOf L n).2.2 = L) ∧ (raiseOf L n).2.1 ≤ 16 := by
  unfold raiseOf
  cases hf : findP L n with
  | none => exact ⟨h, rises_refl h.sorted, fun _ => rfl, by simp⟩
  | some p =>
    obtain ⟨hp, hn⟩ := findP_some hf
    dsimp only
    by_cases h4 : 1073741824 ≤ p.epoch
    · rw [if_pos h4]; exact ⟨h, rises_refl h.sorted, fun _ => rfl, by simp⟩
    rw [if_neg h4]
    have he := h.epoch p hp
    exact ⟨good_set h _ (h.name p hp) (h.key p hp) (by dsimp only; omega), rises_set h.sorted hp _ rfl (by dsimp only; omega) (fun _ => by dsimp only; omega), fun h => absurd rfl h, Nat.zero_le _⟩
theorem off_good {L : List Per} (h : GoodB L) (n : List UInt8) (b : Bool) : GoodB (offOf L n b).2 ∧ Rises L (offOf L n b).2 ∧ ((offOf L n b).1 ≠ 0 → (offOf L n b).2 = L) ∧ (offOf L n b).1 ≤ 16 := by
  unfold offOf
  cases hf : findP L n with
  | none => exact ⟨h, rises_refl h.sorted, fun _ => rfl, by simp⟩
  | some p =>
    obtain ⟨hp, hn⟩ := findP_some hf
    dsimp only
    by_cases h3 : p.off = b
    · rw [if_pos h3]; exact ⟨h, rises_refl h.sorted, fun _ => rfl, by simp⟩
    rw [if_neg h3]
    exact ⟨good_set h _ (h.name p hp) (h.key p hp) (h.epoch p hp), rises_set h.sorted hp _ rfl (Int.le_refl _) (fun h => absurd rfl h), fun h => absurd rfl h, Nat.zero_le _⟩
end Go.Proofs.YtcnadjdijolboaaGreatDoor

/- A slice of texts in memory. -/
namespace Go.Proofs.YtcnadjdijolboaaGreatDoor
open Go.RowKit

/-- A slice of texts. -/
def TextsAt (w : World) (v : Value) (N : List (List UInt8)) : Prop :=
  ∃ a c, v = .slice a N.length c ∧ N.length ≤ maxLen ∧ N.length ≤ c ∧ ∀ i (h : i < N.length), ∃ b o, a = some ⟨b, o, none⟩ ∧ w.cell? ⟨b, o + i, none⟩ = some (.string (bs N[i]))
theorem TextsAt.below {w w' : World} {v : Value} {N : List (List UInt8)} (h : TextsAt w v N) (hb : Below w.heap.size w w') : TextsAt w' v N := by
  obtain ⟨a, c, h1, h2, hcap, h3⟩ := h
  refine ⟨a, c, h1, h2, hcap, fun i hi => ?_⟩
  obtain ⟨b, o, h4, h5⟩ := h3 i hi
  exact ⟨b, o, h4, cell_below hb h5⟩
theorem toList_data (s : ByteArray) : s.toList = s.data.toList := ByteArray.toList_eq s
theorem bs_size (n : List UInt8) : (bs n).size = n.length := by simp [bs, ByteArray.size]
end Go.Proofs.YtcnadjdijolboaaGreatDoor

/- seal.Name, by its contract. -/
namespace Go.Proofs.YtcnadjdijolboaaGreatDoor
open Go.RowKit

set_option maxRecDepth 100000 in
theorem trim_small (s : ByteArray) (w : World) (hs : s.size ≤ maxLen) :
    Calls Tryz.prog 77 #[.string s, .string (bs smallCs)] w fun e w' => e = .returned (.string (bs (Lib.trimS s.data.toList smallCs))) ∧ Below w.heap.size w w' :=
  Any.strings_Trim_laid Tryz.trim160 (by kernel_rfl) s (bs smallCs) w hs (by decide) (ascii_of_all (by decide))
set_option maxRecDepth 100000 in
theorem name_any (s : ByteArray) (w : World) (hs : s.size ≤ maxLen) :
    Calls Tryz.prog 56 #[.string s] w fun e w' => e = .returned (.bool (isName s.data.toList)) ∧ Below w.heap.size w w' := by
  have ht := trim_small s w hs
  have hlen : s.data.toList.length = s.size := Array.length_toList
  have htl : s.toList = s.data.toList := toList_data s
  unfold maxLen at hs
  by_cases h0 : s.data.toList = []
  · have hr := Lib.hid (show isName s.data.toList = false by rw [h0]; rfl)
    have hte : s.toList = [] := by rw [htl, h0]
    clear ht hlen htl h0
    go_enter Tryz.func56, Tryz.ntmps56
    go_wp2_with fail
    go_ret
    exact ⟨ret_bool hr.out.symm, Below.refl _ _⟩
  · have hte : s.toList.isEmpty = false := by rw [htl]; simpa using h0
    have h1 : 1 ≤ s.size := by
      rcases Nat.eq_zero_or_pos s.size with h | h
      · exact absurd (List.eq_nil_of_length_eq_zero (hlen.trans h)) h0
      · exact h
    by_cases h8 : s.size ≤ 8
    · have ht := Lib.hid ht
      by_cases hall : Lib.trimS s.data.toList smallCs = []
      · have hr := Lib.hid (show isName s.data.toList = true from (isName_iff _).2 ⟨by omega, by omega, fun c hc => by rw [← smallCs_contains]; exact (trimS_nil_iff _ _).1 hall c hc⟩)
        clear hlen htl h0
        have he : (bs []).toList = [] := by rw [toList_data]; rfl
        go_enter Tryz.func56, Tryz.ntmps56
        go_wp2_with fail
        refine ht.out.mono ?_
        rintro e w1 ⟨rfl, hb⟩
        rw [hall]
        clear hall
        go_wp2_with fail
        go_ret
        exact ⟨ret_bool hr.out.symm, hb⟩
      · have hr := Lib.hid (show isName s.data.toList = false by
          cases hn : isName s.data.toList with
          | false => rfl
          | true =>
            obtain ⟨_, _, h⟩ := (isName_iff _).1 hn
            exact absurd ((trimS_nil_iff _ _).2 (fun c hc => by rw [smallCs_contains]; exact h c hc)) hall)
        clear hlen htl h0
        have he : (bs (Lib.trimS s.data.toList smallCs)).toList.isEmpty = false := by rw [toList_data, bs_list]; simpa using hall
        generalize bs (Lib.trimS s.data.toList smallCs) = t at *
        clear hall
        go_enter Tryz.func56, Tryz.ntmps56
        go_wp2_with fail
        refine ht.out.mono ?_
        rintro e w1 ⟨rfl, hb⟩
        go_wp2_with fail
        go_ret
        exact ⟨ret_bool hr.out.symm, hb⟩
    · have hr := Lib.hid (show isName s.data.toList = false by
        cases hn : isName s.data.toList with
        | false => rfl
        | true => obtain ⟨_, h, _⟩ := (isName_iff _).1 hn; omega)
      clear ht hlen htl h0
      go_enter Tryz.func56, Tryz.ntmps56
      go_wp2_with fail
      go_ret
      exact ⟨ret_bool hr.out.symm, Below.refl _ _⟩
end Go.Proofs.YtcnadjdijolboaaGreatDoor
