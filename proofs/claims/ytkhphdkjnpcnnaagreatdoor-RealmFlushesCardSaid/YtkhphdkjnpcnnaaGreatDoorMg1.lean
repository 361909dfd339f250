/- Plain, Book, SealP -/
import Derived.Laws.IdiomStrings
import Derived.WalkSmall
import Derived.Deep.Draws
import Derived.Lib.SlTrimSet
import Derived.Lib.AtoiAll
import Derived.Lib.ItoaNum
/- Plain definitions and lemmas about marks: no program in sight. -/
namespace Go.Proofs.YtkhphdkjnpcnnaaGreatDoor
open Go.RowKit

/-- Is a number a key? -/
def isKey (k : Int) : Bool := decide (1 ≤ k) && decide (k ≤ 1000000006)
theorem isKey_iff (k : Int) : isKey k = true ↔ 1 ≤ k ∧ k ≤ 1000000006 := by simp [isKey]
theorem isKey_false (k : Int) : isKey k = false ↔ k < 1 ∨ 1000000006 < k := by simp [isKey]; omega

def mstep (k n : Int) (c : UInt8) : Int := (n * 257 + c.toNat + 1 + k) % 1000000007
def mfold (k n : Int) (l : List UInt8) : Int := l.foldl (mstep k) n
theorem mfold_snoc (k n : Int) (l : List UInt8) (c : UInt8) : mfold k n (l ++ [c]) = mstep k (mfold k n l) c := by simp [mfold]
theorem mfold_append (k n : Int) (l m : List UInt8) : mfold k n (l ++ m) = mfold k (mfold k n l) m := by simp [mfold]
theorem mstep_bd (k n : Int) (c : UInt8) : 0 ≤ mstep k n c ∧ mstep k n c < 1000000007 := by unfold mstep; omega
theorem mfold_bd (k : Int) (l : List UInt8) : ∀ n : Int, 0 ≤ n → n < 1000000007 → 0 ≤ mfold k n l ∧ mfold k n l < 1000000007 := by
  induction l with
  | nil => intro n h0 h1; exact ⟨h0, h1⟩
  | cons c l ih => intro n _ _; exact ih _ (mstep_bd k n c).1 (mstep_bd k n c).2
theorem take_snoc (s : ByteArray) (k : Nat) (h : k < s.size) : s.data.toList.take (k + 1) = s.data.toList.take k ++ [s[k]] := by
  rw [List.take_succ_eq_append_getElem (by simpa using h)]; rfl
theorem take_all (s : ByteArray) : s.data.toList.take s.size = s.data.toList := by
  rw [List.take_of_length_le (by simp)]

/-- More of a text: the mark, an error's number. -/
def more (k n : Int) (s : List UInt8) : Int × Nat :=
  if isKey k = true then (if 0 ≤ n ∧ n < 1000000007 then (mfold k n s, 0) else (0, 2)) else (0, 10)
/-- Of a text. -/
def markOf (k : Int) (s : List UInt8) : Int × Nat := if isKey k = true then (mfold k k s, 0) else (0, 10)
theorem more_bd (k n : Int) (s : List UInt8) : 0 ≤ (more k n s).1 ∧ (more k n s).1 < 1000000007 := by
  unfold more
  split
  · split
    · rename_i h; exact mfold_bd k s n h.1 h.2
    · exact ⟨by simp, by simp⟩
  · exact ⟨by simp, by simp⟩
theorem markOf_bd (k : Int) (s : List UInt8) : 0 ≤ (markOf k s).1 ∧ (markOf k s).1 < 1000000007 := by
  unfold markOf
  split
  · rename_i h; have := (isKey_iff k).1 h; exact mfold_bd k s k (by omega) (by omega)
  · exact ⟨by simp, by simp⟩
theorem markOf_more (k : Int) (s : List UInt8) : markOf k s = more k (max k 0 % 1000000007) s := by
  unfold markOf more
  by_cases h : isKey k = true
  · have := (isKey_iff k).1 h
    have e : max k 0 % 1000000007 = k := by omega
    rw [if_pos h, if_pos h, e, if_pos (by omega)]
  · rw [if_neg h, if_neg h]

/-- A text's byte at a place. -/
def byteAt (s : ByteArray) (k : Nat) : UInt8 := s.data.toList.getD k 0
theorem byteAt_eq (s : ByteArray) (k : Nat) (h : k < s.size) : byteAt s k = s[k] := by
  have h' : k < s.data.size := h
  have : s.data[k]? = some s[k] := by rw [Array.getElem?_eq_getElem h']; rfl
  simp [byteAt, this]
theorem take_succ_byte (s : ByteArray) (k : Nat) (h : k < s.size) : s.data.toList.take (k + 1) = s.data.toList.take k ++ [byteAt s k] := by
  rw [take_snoc s k h, byteAt_eq s k h]
/-- A text's bytes, laid as a slice of bytes. -/
theorem bytesRow_cell (w : World) (s : ByteArray) (k : Nat) (h : k < s.size) (e : TypeId) (c : Nat) (f : Nat × Nat) :
    (w.alloc (.cells (bytesRow s c) e f)).cell? ⟨w.heap.size, k, none⟩ = some (.int .u8 ((byteAt s k).toNat : Int)) := by
  rw [World.cell?_alloc_mark, byteAt_eq s k h]
  unfold bytesRow
  have h' : k < s.data.size := h
  rw [Array.getElem?_append_left (by simpa using h)]
  rw [Array.getElem?_map, Array.getElem?_eq_getElem h']
  rfl

theorem mod1 (a b x m : Int) : (a + b * (x % m)) % m = (a + b * x) % m := by
  rw [Int.add_emod, Int.mul_emod, Int.emod_emod_of_dvd _ (Int.dvd_refl _), ← Int.mul_emod, ← Int.add_emod]
theorem mod2 (a b m : Int) : (a % m + b) % m = (a + b) % m := by
  rw [Int.add_emod, Int.emod_emod_of_dvd _ (Int.dvd_refl _), ← Int.add_emod]
theorem mod3 (a b n m : Int) : (a + b % m * n) % m = (a + b * n) % m := by
  rw [Int.mul_comm, mod1, Int.mul_comm]
theorem mod4 (a b c n k m : Int) : (a + b * ((n * 257 + c + 1 + k) % m)) % m = ((a + b * ((c + 1 + k) % m)) % m + b * 257 % m * n) % m := by
  rw [mod1, mod2, mod3, show a + b * ((c + 1 + k) % m) + b * 257 * n = (a + b * 257 * n) + b * ((c + 1 + k) % m) by omega, mod1]
  congr 1
  rw [show n * 257 + c + 1 + k = (c + 1 + k) + 257 * n by omega, Int.mul_add b, ← Int.mul_assoc b]
  omega
/-- What the reference reckons from behind: each byte's part, times the power of all behind it. -/
def msuf (k : Int) : List UInt8 → Int × Int
  | [] => (0, 1)
  | c :: t => (((msuf k t).1 + (msuf k t).2 * (((c.toNat : Int) + 1 + k) % 1000000007)) % 1000000007, (msuf k t).2 * 257 % 1000000007)
theorem msuf_bd (k : Int) : ∀ t, 0 ≤ (msuf k t).1 ∧ (msuf k t).1 < 1000000007 ∧ 0 ≤ (msuf k t).2 ∧ (msuf k t).2 < 1000000007
  | [] => by simp [msuf]
  | c :: t => by simp only [msuf]; omega
theorem mfold_msuf (k : Int) : ∀ (t : List UInt8) (n : Int), 0 ≤ n → n < 1000000007 → mfold k n t = ((msuf k t).1 + (msuf k t).2 * n) % 1000000007
  | [], n, h0, h1 => by simp [msuf, mfold]; omega
  | c :: t, n, _, _ => by
    have ih := mfold_msuf k t (mstep k n c) (mstep_bd k n c).1 (mstep_bd k n c).2
    show mfold k (mstep k n c) t = _
    rw [ih]
    simp only [msuf, mstep]
    generalize (msuf k t).1 = a
    generalize (msuf k t).2 = b
    exact mod4 _ _ _ _ _ _
def rightOf (k : Int) (s : List UInt8) (n : Int) : Nat := if (markOf k s).2 = 0 then (if (markOf k s).1 = n then 0 else 9) else (markOf k s).2
end Go.Proofs.YtkhphdkjnpcnnaaGreatDoor

/- Plain definitions and lemmas about names and a book of people: no program in sight. -/
namespace Go.Proofs.YtkhphdkjnpcnnaaGreatDoor

/-- Is a byte a small letter, or a digit? -/
def smallB (c : UInt8) : Bool := (decide (97 ≤ c) && decide (c ≤ 122)) || (decide (48 ≤ c) && decide (c ≤ 57))
/-- Is a text a name? -/
def isName (l : List UInt8) : Bool := decide (1 ≤ l.length) && decide (l.length ≤ 8) && l.all smallB
def smallCs : List UInt8 := [97, 98, 99, 100, 101, 102, 103, 104, 105, 106, 107, 108, 109, 110, 111, 112, 113, 114, 115, 116, 117, 118, 119, 120, 121, 122, 48, 49, 50, 51, 52, 53, 54, 55, 56, 57]
theorem smallCs_contains (c : UInt8) : smallCs.contains c = smallB c := by
  have h : ∀ n, n < 256 → smallCs.contains (UInt8.ofNat n) = smallB (UInt8.ofNat n) := by decide +kernel
  have := h c.toNat (UInt8.toNat_lt c)
  rwa [UInt8.ofNat_toNat] at this
theorem mem_dropWhile_of_not {α : Type} (p : α → Bool) (c : α) : ∀ l : List α, c ∈ l → p c = false → c ∈ l.dropWhile p
  | a :: l, h, hp => by
    rw [List.dropWhile_cons]
    split
    · rename_i ha
      rcases List.mem_cons.1 h with rfl | h
      · rw [hp] at ha; cases ha
      · exact mem_dropWhile_of_not p c l h hp
    · exact h
theorem dropWhile_all {α : Type} (p : α → Bool) : ∀ l : List α, (∀ a ∈ l, p a = true) → l.dropWhile p = []
  | [], _ => rfl
  | a :: l, h => by
    rw [List.dropWhile_cons, if_pos (h a (by simp))]
    exact dropWhile_all p l (fun b hb => h b (by simp [hb]))
theorem trimS_nil_iff (l cs : List UInt8) : Lib.trimS l cs = [] ↔ ∀ c ∈ l, cs.contains c = true := by
  constructor
  · intro h c hc
    cases hcc : cs.contains c with
    | true => rfl
    | false =>
      have h1 : c ∈ Lib.trimRightS l cs := by
        unfold Lib.trimRightS
        rw [List.mem_reverse]
        exact mem_dropWhile_of_not _ c _ (List.mem_reverse.2 hc) hcc
      have h2 : c ∈ Lib.trimS l cs := mem_dropWhile_of_not _ c _ h1 hcc
      rw [h] at h2
      cases h2
  · intro h
    unfold Lib.trimS Lib.trimLeftS Lib.trimRightS
    rw [dropWhile_all _ l.reverse (fun a ha => h a (List.mem_reverse.1 ha))]
    rfl
theorem isName_iff (l : List UInt8) : isName l = true ↔ 1 ≤ l.length ∧ l.length ≤ 8 ∧ ∀ c ∈ l, smallB c = true := by
  simp [isName, and_assoc]

/-- A person of a book. -/
structure Per where
  name : List UInt8
  key : Int
  epoch : Int
  off : Bool
def bs (l : List UInt8) : ByteArray := ⟨l.toArray⟩
theorem bs_list (l : List UInt8) : (bs l).data.toList = l := rfl
theorem bs_data (s : ByteArray) : bs s.data.toList = s := by unfold bs; rw [Array.toArray_toList]
theorem bs_inj {a b : List UInt8} (h : bs a = bs b) : a = b := by rw [← bs_list a, h, bs_list]
def Per.val (p : Per) : Value := .agg #[.string (bs p.name), .int .i64 p.key, .int .i64 p.epoch, .bool p.off]

def SortedP (L : List Per) : Prop := L.Pairwise (fun p q => p.name < q.name)
def findP (L : List Per) (n : List UInt8) : Option Per := L.find? (fun p => p.name == n)
def insP (p : Per) : List Per → List Per
  | [] => [p]
  | q :: r => if q.name < p.name then q :: insP p r else p :: q :: r
def setP (L : List Per) (p : Per) : List Per := L.map (fun q => if q.name = p.name then p else q)

theorem findP_some {L : List Per} {n : List UInt8} {p : Per} (h : findP L n = some p) : p ∈ L ∧ p.name = n :=
  ⟨List.mem_of_find?_eq_some h, by simpa using List.find?_some h⟩
theorem findP_none {L : List Per} {n : List UInt8} (h : findP L n = none) : ∀ p ∈ L, p.name ≠ n := by
  intro p hp
  simpa using List.find?_eq_none.1 h p hp
theorem insP_perm (p : Per) : ∀ L, (insP p L).Perm (p :: L)
  | [] => List.Perm.refl _
  | q :: r => by
    unfold insP
    split
    · exact ((insP_perm p r).cons q).trans (List.Perm.swap p q r)
    · exact List.Perm.refl _
theorem lt_total {a b : List UInt8} (h : ¬ a < b) (hne : a ≠ b) : b < a := by
  rcases Std.lt_trichotomy a b with h1 | h1 | h1
  · exact absurd h1 h
  · exact absurd h1 hne
  · exact h1
theorem insP_sorted (p : Per) : ∀ L, SortedP L → (∀ q ∈ L, q.name ≠ p.name) → SortedP (insP p L)
  | [], _, _ => by simp [insP, SortedP]
  | q :: r, hs, hn => by
    have hs' := List.pairwise_cons.1 hs
    unfold insP
    split
    · rename_i hlt
      refine List.pairwise_cons.2 ⟨fun x hx => ?_, insP_sorted p r hs'.2 (fun x hx => hn x (by simp [hx]))⟩
      rcases List.mem_cons.1 ((insP_perm p r).mem_iff.1 hx) with rfl | h
      · exact hlt
      · exact hs'.1 x h
    · rename_i hlt
      have hpq : p.name < q.name := lt_total hlt (hn q (by simp))
      refine List.pairwise_cons.2 ⟨fun x hx => ?_, hs⟩
      rcases List.mem_cons.1 hx with rfl | h
      · exact hpq
      · exact List.lt_trans hpq (hs'.1 x h)
theorem setP_names (L : List Per) (p : Per) : (setP L p).map Per.name = L.map Per.name := by
  unfold setP
  rw [List.map_map]
  refine List.map_congr_left fun q _ => ?_
  simp only [Function.comp]
  split
  · rename_i h; exact h.symm
  · rfl
theorem sortedP_names {L M : List Per} (h : L.map Per.name = M.map Per.name) (hs : SortedP L) : SortedP M := by
  have : (L.map Per.name).Pairwise (· < ·) := List.pairwise_map.2 hs
  rw [h] at this
  exact List.pairwise_map.1 this
theorem setP_sorted {L : List Per} (p : Per) (hs : SortedP L) : SortedP (setP L p) := sortedP_names (setP_names L p).symm hs
theorem sorted_name_inj {L : List Per} (hs : SortedP L) : ∀ p ∈ L, ∀ q ∈ L, p.name = q.name → p = q := by
  induction L with
  | nil => intro p hp; cases hp
  | cons a L ih =>
    have hs' := List.pairwise_cons.1 hs
    intro p hp q hq h
    rcases List.mem_cons.1 hp with hpa | hp' <;> rcases List.mem_cons.1 hq with hqa | hq'
    · rw [hpa, hqa]
    · exact absurd (hs'.1 q hq') (by rw [← hpa, h]; exact List.lt_irrefl _)
    · exact absurd (hs'.1 p hp') (by rw [← hqa, h]; exact List.lt_irrefl _)
    · exact ih hs'.2 p hp' q hq' h

def addOf (L : List Per) (n : List UInt8) (k : Int) : Nat × List Per :=
  if isName n = false then (4, L) else if isKey k = false then (10, L) else if (findP L n).isSome then (6, L) else if 20 ≤ L.length then (7, L) else (0, insP ⟨n, k, 1, false⟩ L)
def rekeyOf (L : List Per) (n : List UInt8) (k : Int) : Nat × List Per :=
  match findP L n with
  | none => (5, L)
  | some p => if isKey k = false then (10, L) else if p.key = k then (6, L) else if 1073741824 ≤ p.epoch then (2, L) else (0, setP L { p with key := k, epoch := p.epoch + 1 })
def raiseOf (L : List Per) (n : List UInt8) : Int × Nat × List Per :=
  match findP L n with
  | none => (0, 5, L)
  | some p => if 1073741824 ≤ p.epoch then (0, 2, L) else (p.epoch + 1, 0, setP L { p with epoch := p.epoch + 1 })
def offOf (L : List Per) (n : List UInt8) (b : Bool) : Nat × List Per :=
  match findP L n with
  | none => (5, L)
  | some p => if p.off = b then (6, L) else (0, setP L { p with off := b })

/-- What is so of a book at all times. -/
structure GoodB (L : List Per) : Prop where
  sorted : SortedP L
  name : ∀ p ∈ L, isName p.name = true
  key : ∀ p ∈ L, isKey p.key = true
  epoch : ∀ p ∈ L, 1 ≤ p.epoch ∧ p.epoch ≤ 1073741824
  many : L.length ≤ 20
/-- Nobody goes, and epochs only rise. -/
def Rises (L M : List Per) : Prop := ∀ p ∈ L, ∃ q, findP M p.name = some q ∧ p.epoch ≤ q.epoch ∧ (q.key ≠ p.key → q.epoch ≠ p.epoch)
theorem findP_of_mem {L : List Per} (hs : SortedP L) {p : Per} (hp : p ∈ L) : findP L p.name = some p := by
  cases h : findP L p.name with
  | none => exact absurd rfl (findP_none h p hp)
  | some q =>
    obtain ⟨hq, hn⟩ := findP_some h
    rw [sorted_name_inj hs q hq p hp hn]
theorem rises_refl {L : List Per} (hs : SortedP L) : Rises L L := fun p hp => ⟨p, findP_of_mem hs hp, Int.le_refl _, fun h => absurd rfl h⟩
theorem rises_set {L : List Per} (hs : SortedP L) {p : Per} (hp : p ∈ L) (q : Per) (hn : q.name = p.name) (he : p.epoch ≤ q.epoch) (hk : q.key ≠ p.key → q.epoch ≠ p.epoch) : Rises L (setP L q) := by
  intro x hx
  have hm : (if x.name = q.name then q else x) ∈ setP L q := List.mem_map.2 ⟨x, hx, rfl⟩
  by_cases h : x.name = q.name
  · rw [if_pos h] at hm
    have hxp : x = p := sorted_name_inj hs x hx p hp (h.trans hn)
    subst hxp
    exact ⟨q, by rw [h]; exact findP_of_mem (setP_sorted q hs) hm, he, hk⟩
  · rw [if_neg h] at hm
    exact ⟨x, findP_of_mem (setP_sorted q hs) hm, Int.le_refl _, fun h => absurd rfl h⟩
theorem good_set {L : List Per} (h : GoodB L) (q : Per) (hn : isName q.name = true) (hk : isKey q.key = true) (he : 1 ≤ q.epoch ∧ q.epoch ≤ 1073741824) : GoodB (setP L q) := by
  have hmem : ∀ x ∈ setP L q, x = q ∨ x ∈ L := by
    intro x hx
    obtain ⟨y, hy, rfl⟩ := List.mem_map.1 hx
    split
    · exact .inl rfl
    · exact .inr hy
  refine ⟨setP_sorted q h.sorted, fun x hx => ?_, fun x hx => ?_, fun x hx => ?_, by unfold setP; rw [List.length_map]; exact h.many⟩
  · rcases hmem x hx with rfl | h'
    · exact hn
    · exact h.name x h'
  · rcases hmem x hx with rfl | h'
    · exact hk
    · exact h.key x h'
  · rcases hmem x hx with rfl | h'
    · exact he
    · exact h.epoch x h'
theorem add_good {L : List Per} (h : GoodB L) (n : List UInt8) (k : Int) : GoodB (addOf L n k).2 ∧ Rises L (addOf L n k).2 ∧ ((addOf L n k).1 ≠ 0 → (addOf L n k).2 = L) ∧ (addOf L n k).1 ≤ 16 := by
  unfold addOf
  by_cases h1 : isName n = false
  · rw [if_pos h1]; exact ⟨h, rises_refl h.sorted, fun _ => rfl, by simp⟩
  rw [if_neg h1]
  by_cases h2 : isKey k = false
  · rw [if_pos h2]; exact ⟨h, rises_refl h.sorted, fun _ => rfl, by simp⟩
  rw [if_neg h2]
  by_cases h3 : (findP L n).isSome = true
  · rw [if_pos h3]; exact ⟨h, rises_refl h.sorted, fun _ => rfl, by simp⟩
  rw [if_neg h3]
  by_cases h4 : 20 ≤ L.length
  · rw [if_pos h4]; exact ⟨h, rises_refl h.sorted, fun _ => rfl, by simp⟩
  rw [if_neg h4]
  have hnone : findP L n = none := by simpa using h3
  have hperm := insP_perm ⟨n, k, 1, false⟩ L
  have hsort := insP_sorted ⟨n, k, 1, false⟩ L h.sorted (findP_none hnone)
  refine ⟨⟨hsort, fun x hx => ?_, fun x hx => ?_, fun x hx => ?_, ?_⟩, fun x hx => ⟨x, findP_of_mem hsort (hperm.mem_iff.2 (by simp [hx])), Int.le_refl _, fun h => absurd rfl h⟩, fun h => absurd rfl h, Nat.zero_le _⟩
  · rcases List.mem_cons.1 (hperm.mem_iff.1 hx) with rfl | h'
    · simpa using h1
    · exact h.name x h'
  · rcases List.mem_cons.1 (hperm.mem_iff.1 hx) with rfl | h'
    · simpa using h2
    · exact h.key x h'
  · rcases List.mem_cons.1 (hperm.mem_iff.1 hx) with rfl | h'
    · dsimp only; omega
    · exact h.epoch x h'
  · rw [hperm.length_eq, List.length_cons]; omega
theorem rekey_good {L : List Per} (h : GoodB L) (n : List UInt8) (k : Int) : GoodB (rekeyOf L n k).2 ∧ Rises L (rekeyOf L n k).2 ∧ ((rekeyOf L n k).1 ≠ 0 → (rekeyOf L n k).2 = L) ∧ (rekeyOf L n k).1 ≤ 16 := by
  unfold rekeyOf
  cases hf : findP L n with
  | none => exact ⟨h, rises_refl h.sorted, fun _ => rfl, by simp⟩
  | some p =>
    obtain ⟨hp, hn⟩ := findP_some hf
    dsimp only
    by_cases h2 : isKey k = false
    · rw [if_pos h2]; exact ⟨h, rises_refl h.sorted, fun _ => rfl, by simp⟩
    rw [if_neg h2]
    by_cases h3 : p.key = k
    · rw [if_pos h3]; exact ⟨h, rises_refl h.sorted, fun _ => rfl, by simp⟩
    rw [if_neg h3]
    by_cases h4 : 1073741824 ≤ p.epoch
    · rw [if_pos h4]; exact ⟨h, rises_refl h.sorted, fun _ => rfl, by simp⟩
    rw [if_neg h4]
    have he := h.epoch p hp
    exact ⟨good_set h _ (h.name p hp) (by simpa using h2) (by dsimp only; omega), rises_set h.sorted hp _ rfl (by dsimp only; omega) (fun _ => by dsimp only; omega), fun h => absurd rfl h, Nat.zero_le _⟩
theorem raise_good {L : List Per} (h : GoodB L) (n : List UInt8) : GoodB (raiseOf L n).2.2 ∧ Rises L (raiseOf L n).2.2 ∧ ((raiseOf L n).2.1 ≠ 0 → (raiseOf L n).2.2 = L) ∧ (raiseOf L n).2.1 ≤ 16 := by
  unfold raiseOf
  cases hf : findP L n with
  | none => exact ⟨h, rises_refl h.sorted, fun _ => rfl, by simp⟩
  | some p =>
    obtain ⟨hp, hn⟩ := findP_some hf
    dsimp only
    by_cases h4 : 1073741824 ≤ p.epoch
    · rw [if_pos h4]; exact ⟨h, rises_refl h.sorted, fun _ => rfl, by simp⟩
    rw [if_neg h4]
    have he := h.epoch p hp
    exact ⟨good_set h _ (h.name p hp) (h.key p hp) (by dsimp only; omega), rises_set h.sorted hp _ rfl (by dsimp only; omega) (fun _ => by dsimp only; omega), fun h => absurd rfl h, Nat.zero_le _⟩
theorem off_good {L : List Per} (h : GoodB L) (n : List UInt8) (b : Bool) : GoodB (offOf L n b).2 ∧ Rises L (offOf L n b).2 ∧ ((offOf L n b).1 ≠ 0 → (offOf L n b).2 = L) ∧ (offOf L n b).1 ≤ 16 := by
  unfold offOf
  cases hf : findP L n with
  | none => exact ⟨h, rises_refl h.sorted, fun _ => rfl, by simp⟩
  | some p =>
    obtain ⟨hp, hn⟩ := findP_some hf
    dsimp only
    by_cases h3 : p.off = b
    · rw [if_pos h3]; exact ⟨h, rises_refl h.sorted, fun _ => rfl, by simp⟩
    rw [if_neg h3]
    exact ⟨good_set h _ (h.name p hp) (h.key p hp) (h.epoch p hp), rises_set h.sorted hp _ rfl (Int.le_refl _) (fun h => absurd rfl h), fun h => absurd rfl h, Nat.zero_le _⟩
end Go.Proofs.YtkhphdkjnpcnnaaGreatDoor

/- Plain definitions and lemmas about words, numbers and sealed texts: no program in sight. -/
namespace Go.Proofs.YtkhphdkjnpcnnaaGreatDoor

/-- May a byte stand in a word? -/
def wordB (c : UInt8) : Bool := smallB c || c == 45 || c == 42
/-- Is a text a word? -/
def isWord (l : List UInt8) : Bool := decide (1 ≤ l.length) && decide (l.length ≤ 20) && l.all wordB
theorem isWord_iff (l : List UInt8) : isWord l = true ↔ 1 ≤ l.length ∧ l.length ≤ 20 ∧ ∀ c ∈ l, wordB c = true := by
  simp [isWord, and_assoc]
def wordCs : List UInt8 := smallCs ++ [45, 42]
theorem wordCs_contains (c : UInt8) : wordCs.contains c = wordB c := by
  have h : ∀ n, n < 256 → wordCs.contains (UInt8.ofNat n) = wordB (UInt8.ofNat n) := by decide +kernel
  have := h c.toNat (UInt8.toNat_lt c)
  simpa using this
theorem word_no_space {l : List UInt8} (h : isWord l = true) : (32 : UInt8) ∉ l := by
  intro hm
  have := ((isWord_iff l).1 h).2.2 32 hm
  revert this
  decide

/-! Numbers. -/
def digB (c : UInt8) : Bool := decide (48 ≤ c) && decide (c ≤ 57)
theorem digB_iff (c : UInt8) : digB c = true ↔ 48 ≤ c.toNat ∧ c.toNat ≤ 57 := by
  simp [digB, UInt8.le_iff_toNat_le]
def decVal (l : List UInt8) : Nat := l.foldl (fun n c => n * 10 + (c.toNat - 48)) 0
theorem decVal_snoc (l : List UInt8) (c : UInt8) : decVal (l ++ [c]) = decVal l * 10 + (c.toNat - 48) := by simp [decVal]
/-- Digits, without needless zeros. -/
def goodNum (l : List UInt8) : Bool := l.all digB && (decide (l.head? ≠ some 48) || decide (l.length = 1)) && decide (1 ≤ l.length)
/-- The number of digits without needless zeros, ten at most. -/
def numOf (l : List UInt8) : Option Nat := if goodNum l && decide (l.length ≤ 10) then some (decVal l) else none
/-- .. up to most. -/
def number (l : List UInt8) (most : Int) : Int × Bool := match numOf l with
  | some n => if (n : Int) ≤ most then ((n : Int), true) else (0, false)
  | none => (0, false)

theorem digit_of (d : Nat) (h : d < 10) : digB (UInt8.ofNat (48 + d)) = true ∧ (UInt8.ofNat (48 + d)).toNat - 48 = d := by
  have : ∀ d, d < 10 → digB (UInt8.ofNat (48 + d)) = true ∧ (UInt8.ofNat (48 + d)).toNat - 48 = d := by decide
  exact this d h
theorem ofNat_digit (c : UInt8) (h : digB c = true) : UInt8.ofNat (48 + (c.toNat - 48)) = c := by
  have := (digB_iff c).1 h
  rw [show 48 + (c.toNat - 48) = c.toNat by omega]
  simp
theorem decDigits_ne (u : Nat) : 1 ≤ (Lib.decDigits u).length := by
  rw [Lib.decDigits]
  split
  · simp
  · simp
theorem decVal_decDigits (u : Nat) : decVal (Lib.decDigits u) = u := by
  induction u using Nat.strongRecOn with
  | _ u ih =>
    rw [Lib.decDigits]
    split
    · rename_i h
      have := (digit_of u h).2
      simpa [decVal] using this
    · rw [decVal_snoc, ih (u / 10) (by omega), (digit_of (u % 10) (by omega)).2]
      omega
theorem decDigits_all (u : Nat) : (Lib.decDigits u).all digB = true := by
  induction u using Nat.strongRecOn with
  | _ u ih =>
    rw [Lib.decDigits]
    split
    · rename_i h
      simpa using (digit_of u h).1
    · rw [List.all_append, ih (u / 10) (by omega)]
      simpa using (digit_of (u % 10) (by omega)).1
theorem decDigits_head (u : Nat) : (Lib.decDigits u).head? = some 48 → (Lib.decDigits u).length = 1 := by
  induction u using Nat.strongRecOn with
  | _ u ih =>
    rw [Lib.decDigits]
    split
    · intro _; rfl
    · rename_i h
      intro h0
      have hne := decDigits_ne (u / 10)
      have hh : (Lib.decDigits (u / 10)).head? = some 48 := by
        rw [List.head?_append] at h0
        cases hq : (Lib.decDigits (u / 10)).head? with
        | none => rw [List.head?_eq_none_iff] at hq; rw [hq] at hne; simp at hne
        | some c => rw [hq] at h0; simpa using h0
      have h1 := ih (u / 10) (by omega) hh
      have h2 := decVal_decDigits (u / 10)
      obtain ⟨c, hc⟩ : ∃ c, Lib.decDigits (u / 10) = [c] := List.length_eq_one_iff.1 h1
      rw [hc] at hh h2
      simp at hh
      subst hh
      simp [decVal] at h2
      omega
theorem goodNum_decDigits (u : Nat) : goodNum (Lib.decDigits u) = true := by
  unfold goodNum
  rw [decDigits_all]
  have h := decDigits_head u
  have h1 := decDigits_ne u
  by_cases hh : (Lib.decDigits u).head? = some 48
  · have := h hh; simp [this]
  · simp [hh, h1]
theorem decDigits_decVal : ∀ (n : Nat) (l : List UInt8), l.length = n → goodNum l = true → Lib.decDigits (decVal l) = l := by
  intro n
  induction n with
  | zero =>
    intro l hl hg
    rw [List.length_eq_zero_iff] at hl
    subst hl
    simp [goodNum] at hg
  | succ n ih =>
    intro l hl hg
    obtain ⟨m, c, rfl⟩ : ∃ m c, l = m ++ [c] := by
      rcases List.eq_nil_or_concat l with h | ⟨m, c, h⟩
      · subst h; simp at hl
      · exact ⟨m, c, by simpa using h⟩
    have hml : m.length = n := by simpa using hl
    simp only [goodNum, Bool.and_eq_true, List.all_append, Bool.or_eq_true, decide_eq_true_eq, List.all_cons, List.all_nil, Bool.and_true] at hg
    obtain ⟨⟨⟨hm, hc⟩, hh⟩, _⟩ := hg
    have hcb := (digB_iff c).1 hc
    cases m with
    | nil =>
      rw [Lib.decDigits, dif_pos (by simp [decVal]; omega)]
      simp only [List.nil_append, decVal, List.foldl_cons, List.foldl_nil, Nat.zero_mul, Nat.zero_add]
      rw [ofNat_digit c hc]
    | cons d m =>
      have hgm : goodNum (d :: m) = true := by
        have h0 : ¬ d = 48 := by
          rcases hh with h | h
          · simpa using h
          · simp at h
        simp [goodNum, hm, h0]
      have hi := ih (d :: m) hml hgm
      have hpos : 1 ≤ decVal (d :: m) := by
        rcases Nat.eq_zero_or_pos (decVal (d :: m)) with h | h
        · rw [h] at hi
          rw [Lib.decDigits, dif_pos (by omega)] at hi
          have : d = 48 := by injection hi with hi _; exact hi.symm
          rcases hh with h | h
          · simp [this] at h
          · simp at h
        · exact h
      rw [decVal_snoc]
      rw [Lib.decDigits, dif_neg (by omega)]
      rw [show (decVal (d :: m) * 10 + (c.toNat - 48)) / 10 = decVal (d :: m) by omega, show (decVal (d :: m) * 10 + (c.toNat - 48)) % 10 = c.toNat - 48 by omega, hi, ofNat_digit c hc]
theorem numOf_some {l : List UInt8} {n : Nat} (h : numOf l = some n) : goodNum l = true ∧ l.length ≤ 10 ∧ decVal l = n ∧ Lib.itoa (n : Int) = l := by
  unfold numOf at h
  split at h
  · rename_i hc
    simp only [Bool.and_eq_true, decide_eq_true_eq] at hc
    cases h
    refine ⟨hc.1, hc.2, rfl, ?_⟩
    unfold Lib.itoa
    rw [if_neg (by omega), Int.toNat_natCast]
    exact decDigits_decVal _ l rfl hc.1
  · cases h
theorem numOf_itoa {n : Nat} (h : (Lib.itoa (n : Int)).length ≤ 10) : numOf (Lib.itoa (n : Int)) = some n := by
  have e : Lib.itoa (n : Int) = Lib.decDigits n := by unfold Lib.itoa; rw [if_neg (by omega), Int.toNat_natCast]
  rw [e] at h ⊢
  unfold numOf
  rw [goodNum_decDigits, decide_eq_true h]
  simp [decVal_decDigits]
theorem decVal_from : ∀ (l : List UInt8) (acc : Nat), l.foldl (fun n c => n * 10 + (c.toNat - 48)) acc = acc * 10 ^ l.length + decVal l
  | [], acc => by simp [decVal]
  | c :: l, acc => by
    have h1 := decVal_from l (acc * 10 + (c.toNat - 48))
    have h2 := decVal_from l (0 * 10 + (c.toNat - 48))
    unfold decVal
    simp only [List.foldl_cons]
    rw [h1, h2, List.length_cons, Nat.pow_succ]
    simp only [Nat.zero_mul, Nat.zero_add]
    rw [Nat.add_mul, Nat.mul_assoc, Nat.mul_comm 10, Nat.add_assoc]
theorem decVal_lt : ∀ (l : List UInt8), l.all digB = true → decVal l < 10 ^ l.length
  | [], _ => by simp [decVal]
  | c :: l, h => by
    simp only [List.all_cons, Bool.and_eq_true] at h
    have ih := decVal_lt l h.2
    have hc := (digB_iff c).1 h.1
    have h2 := decVal_from l (0 * 10 + (c.toNat - 48))
    have : decVal (c :: l) = (c.toNat - 48) * 10 ^ l.length + decVal l := by
      unfold decVal
      simp only [List.foldl_cons]
      rw [h2]
      simp [decVal]
    rw [this, List.length_cons, Nat.pow_succ]
    have h3 : (c.toNat - 48) * 10 ^ l.length ≤ 9 * 10 ^ l.length := Nat.mul_le_mul_right _ (by omega)
    omega
theorem parseUint10_good : ∀ (l : List UInt8) (acc : Nat), l.all digB = true → acc * 10 ^ l.length + decVal l < 1000000000000000000 → Lib.parseUint10 acc l = .ok (l.foldl (fun n c => n * 10 + (c.toNat - 48)) acc)
  | [], acc, _, _ => rfl
  | c :: l, acc, h, hlt => by
    simp only [List.all_cons, Bool.and_eq_true] at h
    have hc := (digB_iff c).1 h.1
    have h2 := decVal_from l (0 * 10 + (c.toNat - 48))
    have h4 : decVal (c :: l) = (c.toNat - 48) * 10 ^ l.length + decVal l := by
      unfold decVal
      simp only [List.foldl_cons]
      rw [h2]
      simp [decVal]
    rw [h4, List.length_cons, Nat.pow_succ] at hlt
    have hp : 1 ≤ 10 ^ l.length := Nat.one_le_pow _ _ (by decide)
    have hx : acc * (10 ^ l.length * 10) = acc * 10 * 10 ^ l.length := by rw [Nat.mul_comm (10 ^ l.length), Nat.mul_assoc]
    have hle : (acc * 10 + (c.toNat - 48)) * 10 ^ l.length + decVal l < 1000000000000000000 := by
      rw [Nat.add_mul]; omega
    have hb : acc * 10 + (c.toNat - 48) < 1000000000000000000 := by
      have := Nat.le_mul_of_pos_right (acc * 10 + (c.toNat - 48)) hp
      omega
    simp only [Lib.parseUint10]
    rw [if_pos ⟨hc.1, hc.2⟩, if_neg (by omega), if_neg (by omega), parseUint10_good l _ h.2 hle]
    rfl
theorem atoi_good {l : List UInt8} (hg : goodNum l = true) (hl : l.length ≤ 10) : Lib.atoiAll l = .ok (decVal l : Int) := by
  simp only [goodNum, Bool.and_eq_true, decide_eq_true_eq] at hg
  have hlt := decVal_lt l hg.1.1
  have hp : 10 ^ l.length ≤ 10 ^ 10 := Nat.pow_le_pow_right (by decide) hl
  have hb : decVal l < 10000000000 := Nat.lt_of_lt_of_le hlt hp
  cases l with
  | nil => simp at hg
  | cons c r =>
    have hc := hg.1.1
    simp only [List.all_cons, Bool.and_eq_true] at hc
    have hcb := (digB_iff c).1 hc.1
    unfold Lib.atoiAll
    have hm : Lib.parseMag (c :: r) = .ok (decVal (c :: r)) := by
      unfold Lib.parseMag
      rw [if_neg (by simp), parseUint10_good (c :: r) 0 hg.1.1 (by omega)]
      rfl
    have e1 : ¬ (c.toNat = 43 ∨ c.toNat = 45) := by omega
    have e2 : ¬ (c.toNat = 45) := by omega
    dsimp only
    rw [if_neg e1, hm]
    simp only [e2]
    have e4 : ¬ (¬ False ∧ 9223372036854775808 ≤ decVal (c :: r)) := fun h => absurd h.2 (by omega)
    have e5 : ¬ (False ∧ 9223372036854775808 < decVal (c :: r)) := fun h => h.1
    show (if ¬ False ∧ 9223372036854775808 ≤ decVal (c :: r) then Lib.NumEnd.range else if False ∧ 9223372036854775808 < decVal (c :: r) then Lib.NumEnd.range else Lib.NumEnd.ok (if False then -(decVal (c :: r) : Int) else (decVal (c :: r) : Int))) = _
    rw [if_neg e4, if_neg e5, if_neg (fun h => h)]
theorem decDigits_len : ∀ k u, u < 10 ^ (k + 1) → (Lib.decDigits u).length ≤ k + 1
  | 0, u, h => by
    rw [Lib.decDigits, dif_pos (by omega)]
    simp
  | k + 1, u, h => by
    rw [Lib.decDigits]
    split
    · simp
    · have := decDigits_len k (u / 10) (by rw [Nat.pow_succ] at h; omega)
      simp only [List.length_append, List.length_cons, List.length_nil]
      omega
theorem itoa_len {n : Int} (h0 : -10000000000000000000 < n) (h1 : n < 10000000000000000000) : (Lib.itoa n).length ≤ 20 := by
  unfold Lib.itoa
  split
  · have := decDigits_len 18 n.natAbs (by have : (10 : Nat) ^ (18 + 1) = 10000000000000000000 := by decide
                                          omega)
    simp only [List.length_cons]
    omega
  · have := decDigits_len 18 n.toNat (by have : (10 : Nat) ^ (18 + 1) = 10000000000000000000 := by decide
                                         omega)
    omega
theorem itoa_len10 {n : Int} (h0 : 0 ≤ n) (h1 : n < 10000000000) : (Lib.itoa n).length ≤ 10 := by
  unfold Lib.itoa
  rw [if_neg (by omega)]
  exact decDigits_len 9 n.toNat (by have : (10 : Nat) ^ (9 + 1) = 10000000000 := by decide
                                    omega)
theorem number_bd (l : List UInt8) (most : Int) : 0 ≤ (number l most).1 ∧ (number l most).1 ≤ 9999999999 := by
  unfold number
  cases h : numOf l with
  | none => simp
  | some n =>
    obtain ⟨hg, hl, hv, _⟩ := numOf_some h
    simp only [goodNum, Bool.and_eq_true, decide_eq_true_eq] at hg
    have hlt := decVal_lt l hg.1.1
    have hp : 10 ^ l.length ≤ 10 ^ 10 := Nat.pow_le_pow_right (by decide) hl
    have hb : decVal l < 10000000000 := Nat.lt_of_lt_of_le hlt hp
    show 0 ≤ (if (n : Int) ≤ most then ((n : Int), true) else (0, false)).1 ∧ (if (n : Int) ≤ most then ((n : Int), true) else (0, false)).1 ≤ 9999999999
    by_cases hm : (n : Int) ≤ most
    · rw [if_pos hm]
      exact ⟨Int.natCast_nonneg n, by show (n : Int) ≤ 9999999999; omega⟩
    · rw [if_neg hm]
      simp
end Go.Proofs.YtkhphdkjnpcnnaaGreatDoor
