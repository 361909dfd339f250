/- RlmP, Base, Two -/
import Derived.Test.YtkhphdkjnpcnnaaGreatDoorMg4
import Derived.Test.YtkhphdkjnpcnnaaGreatDoorMg1
import Derived.Test.YtkhphdkjnpcnnaaGreatDoorMg3
import Derived.Test.YtkhphdkjnpcnnaaGreatDoorMg7
import Derived.Test.YtkhphdkjnpcnnaaGreatDoorRows
import Derived.ProofKit
import Derived.LaidMore
import Derived.LaidHandle
import Derived.Stop.Joined
/- Realms: plain definitions and lemmas: no program in sight. -/
namespace Go.Proofs.YtkhphdkjnpcnnaaGreatDoor

/-- A realm: its key, how long tickets are good, its time, the next serial, its people, its feed. -/
structure Rlm where
  key : Int
  long : Int
  time : Int
  serial : Int
  b : List Per
  l : List Ent
def newRlm (key long : Int) : Rlm := ⟨key, long, 0, 1, [], []⟩
/-- The epoch of one who comes now. -/
def starE (L : List Ent) : Int := L.foldl (fun m e => if e.f.who = starW then max m e.f.ep else m) 1
theorem starE_snoc (L : List Ent) (e : Ent) : starE (L ++ [e]) = if e.f.who = starW then max (starE L) e.f.ep else starE L := by
  unfold starE
  rw [List.foldl_append]
  rfl
theorem snoc_ind {α : Type} {P : List α → Prop} (nil : P []) (snoc : ∀ L a, P L → P (L ++ [a])) : ∀ L, P L := fun L => by
  rw [← L.reverse_reverse]
  induction L.reverse with
  | nil => exact nil
  | cons a r ih =>
    rw [List.reverse_cons]
    exact snoc _ _ ih
theorem starE_pos : ∀ L : List Ent, 1 ≤ starE L := by
  intro L
  induction L using snoc_ind with
  | nil => exact Int.le_refl _
  | snoc L e ih =>
    rw [starE_snoc]
    split <;> omega
/-- Flushes only rise. -/
def IncS (L : List Ent) : Prop := ∀ j (h : j < L.length), L[j].f.who = starW → starE (L.take j) ≤ L[j].f.ep
def maxE (B : List Per) : Int := B.foldl (fun m p => max m p.epoch) 0
theorem maxE_snoc (B : List Per) (p : Per) : maxE (B ++ [p]) = max (maxE B) p.epoch := by
  unfold maxE
  rw [List.foldl_append]
  rfl
theorem foldMax_le : ∀ (B : List Per) (m : Int), m ≤ B.foldl (fun m p => max m p.epoch) m ∧ ∀ p ∈ B, p.epoch ≤ B.foldl (fun m p => max m p.epoch) m
  | [], m => ⟨Int.le_refl _, fun p hp => by cases hp⟩
  | q :: B, m => by
    obtain ⟨h1, h2⟩ := foldMax_le B (max m q.epoch)
    refine ⟨by show m ≤ B.foldl _ (max m q.epoch); omega, fun p hp => ?_⟩
    show p.epoch ≤ B.foldl _ (max m q.epoch)
    rcases List.mem_cons.1 hp with rfl | hp
    · omega
    · exact h2 p hp
theorem maxE_le {B : List Per} {p : Per} (h : p ∈ B) : p.epoch ≤ maxE B := (foldMax_le B 0).2 p h
theorem maxE_nonneg (B : List Per) : 0 ≤ maxE B := (foldMax_le B 0).1
/-- What is answered, and what the realm is then. -/
def addM (R : Rlm) (n : List UInt8) (k : Int) : Nat × Rlm := if (addOf R.b n k).1 ≠ 0 then ((addOf R.b n k).1, R) else (0, { R with b := insP ⟨n, k, starE R.l, false⟩ R.b })
def offM (R : Rlm) (n : List UInt8) (o : Bool) : Nat × Rlm := ((offOf R.b n o).1, { R with b := (offOf R.b n o).2 })
def proofM (R : Rlm) (n : List UInt8) : List UInt8 := n ++ 32 :: Lib.itoa R.time
def loginM (R : Rlm) (n : List UInt8) (pr : Int) (svc : List UInt8) : List UInt8 × Nat × Rlm :=
  match findP R.b n, findP R.b svc with
  | some p, some s =>
    if p.off = true ∨ s.off = true then ([], 16, R)
    else if rightOf p.key (proofM R n) pr ≠ 0 then ([], rightOf p.key (proofM R n) pr, R)
    else if 1000000 ≤ R.time ∨ 1073741824 < R.serial then ([], 2, R)
    else ((makeT s.key ⟨n, svc, p.epoch, R.time, min (R.time + R.long) 1000000, R.serial⟩).1, (makeT s.key ⟨n, svc, p.epoch, R.time, min (R.time + R.long) 1000000, R.serial⟩).2,
      if (makeT s.key ⟨n, svc, p.epoch, R.time, min (R.time + R.long) 1000000, R.serial⟩).2 = 0 then { R with serial := R.serial + 1 } else R)
  | _, _ => ([], 5, R)
/-- What is left of a renewal where a ticket was opened. -/
def renewM2 (R : Rlm) (k : Int) (t : Tick) : List UInt8 × Nat × Rlm :=
  match findP R.b t.who with
  | none => ([], 5, R)
  | some p =>
    if p.off = true then ([], 16, R)
    else if t.epoch ≠ p.epoch then ([], 13, R)
    else if (renewT t R.time (R.time + R.long) R.serial).2 ≠ 0 then ([], (renewT t R.time (R.time + R.long) R.serial).2, R)
    else ((makeT k (renewT t R.time (R.time + R.long) R.serial).1).1, (makeT k (renewT t R.time (R.time + R.long) R.serial).1).2, if (makeT k (renewT t R.time (R.time + R.long) R.serial).1).2 = 0 then { R with serial := R.serial + 1 } else R)
def renewM (R : Rlm) (s svc : List UInt8) : List UInt8 × Nat × Rlm :=
  match findP R.b svc with
  | none => ([], 5, R)
  | some k =>
    if k.off = true then ([], 16, R)
    else if (openT k.key s).2 ≠ 0 then ([], (openT k.key s).2, R)
    else if (openT k.key s).1.svc ≠ svc then ([], 4, R)
    else renewM2 R k.key (openT k.key s).1
/-- A book's change, and an entry of it. -/
def changeM (R : Rlm) (who : List UInt8) (n : Int) (B : List Per) : Int × Nat × Rlm :=
  if (addE R.l R.time ⟨who, n⟩).2.1 ≠ 0 then (0, (addE R.l R.time ⟨who, n⟩).2.1, R) else (n, 0, { R with b := B, l := (addE R.l R.time ⟨who, n⟩).1 })
def revokeM (R : Rlm) (name : List UInt8) : Int × Nat × Rlm := if (raiseOf R.b name).2.1 ≠ 0 then (0, (raiseOf R.b name).2.1, R) else changeM R name (raiseOf R.b name).1 (raiseOf R.b name).2.2
def epochOf (B : List Per) (n : List UInt8) : Int := match findP B n with
  | some p => p.epoch
  | none => 0
def rekeyM (R : Rlm) (name : List UInt8) (key : Int) : Int × Nat × Rlm := if (rekeyOf R.b name key).1 ≠ 0 then (0, (rekeyOf R.b name key).1, R) else changeM R name (epochOf (rekeyOf R.b name key).2 name) (rekeyOf R.b name key).2
def flushB (B : List Per) : List Per := B.map fun p => { p with epoch := maxE B + 1 }
def flushM (R : Rlm) : Int × Nat × Rlm := if 1073741824 ≤ maxE R.b then (0, 2, R) else changeM R starW (maxE R.b + 1) (flushB R.b)
def nextM (R : Rlm) (t : Int) : Int × Nat × Rlm := if t < 0 ∨ 1000000 - R.time < t then (0, 2, R) else (R.time + t, 0, { R with time := R.time + t })

/-- What is so of a realm at all times. -/
structure GoodM (R : Rlm) : Prop where
  key : isKey R.key = true
  l0 : 1 ≤ R.long
  l1 : R.long ≤ 1000000
  t0 : 0 ≤ R.time
  t1 : R.time ≤ 1000000
  s0 : 1 ≤ R.serial
  s1 : R.serial ≤ 1073741825
  b : GoodB R.b
  f : checkE R.l = (0, -1)
  inc : IncS R.l
  top : ∀ p ∈ R.b, starE R.l ≤ p.epoch
  none : R.b = [] → starE R.l = 1
  names : ∀ e ∈ R.l, e.f.who = starW ∨ ∃ p ∈ R.b, p.name = e.f.who ∧ e.f.ep ≤ p.epoch
theorem GoodM.new {key long : Int} (hk : isKey key = true) (h0 : 1 ≤ long) (h1 : long ≤ 1000000) : GoodM (newRlm key long) :=
  ⟨hk, h0, h1, Int.le_refl _, show (0 : Int) ≤ 1000000 by decide, Int.le_refl _, show (1 : Int) ≤ 1073741825 by decide, ⟨List.Pairwise.nil, fun p hp => (by cases hp), fun p hp => (by cases hp), fun p hp => (by cases hp), Nat.zero_le _⟩, checkE_nil, fun j h => (by cases h), fun p hp => (by cases hp), fun _ => rfl, fun e he => (by cases he)⟩
theorem starE_le (L : List Ent) : ∀ e ∈ L, e.f.who = starW → e.f.ep ≤ starE L := by
  induction L using snoc_ind with
  | nil => intro e he; cases he
  | snoc L e ih =>
    intro x hx hs
    rw [starE_snoc]
    rcases List.mem_append.1 hx with h | h
    · have := ih x h hs
      split <;> omega
    · rw [List.mem_singleton.1 h] at hs ⊢
      rw [if_pos hs]
      omega
theorem starE_bd {L : List Ent} (h : (checkE L).1 = 0) : starE L ≤ 1073741824 := by
  have hone : ∀ e ∈ L, oneF e.f = 0 := fun e he => by
    obtain ⟨i, hi, rfl⟩ := List.getElem_of_mem he
    have := (time_of h hi).2.2.2
    rwa [getD_get hi] at this
  clear h
  induction L using snoc_ind with
  | nil => decide
  | snoc L e ih =>
    rw [starE_snoc]
    have h1 := ih (fun e he => hone e (List.mem_append_left _ he))
    have h2 := (oneF_zero (hone e (by simp))).2
    split <;> omega
theorem addOf_some {L : List Per} {n : List UInt8} {k : Int} (h : (addOf L n k).1 = 0) : isName n = true ∧ isKey k = true ∧ findP L n = none ∧ L.length < 20 ∧ addOf L n k = (0, insP ⟨n, k, 1, false⟩ L) := by
  unfold addOf at h ⊢
  by_cases h1 : isName n = false
  · rw [if_pos h1] at h; cases h
  rw [if_neg h1] at h ⊢
  by_cases h2 : isKey k = false
  · rw [if_pos h2] at h; cases h
  rw [if_neg h2] at h ⊢
  by_cases h3 : (findP L n).isSome = true
  · rw [if_pos h3] at h; cases h
  rw [if_neg h3] at h ⊢
  by_cases h4 : 20 ≤ L.length
  · rw [if_pos h4] at h; cases h
  rw [if_neg h4]
  exact ⟨by simpa using h1, by simpa using h2, by simpa using h3, by omega, rfl⟩
theorem insP_mem {p x : Per} {L : List Per} : x ∈ insP p L ↔ x = p ∨ x ∈ L := by rw [(insP_perm p L).mem_iff, List.mem_cons]
theorem GoodM.add {R : Rlm} (h : GoodM R) (n : List UInt8) (k : Int) : GoodM (addM R n k).2 ∧ (addM R n k).1 ≤ 16 := by
  unfold addM
  by_cases h0 : (addOf R.b n k).1 = 0
  · rw [if_neg (by simpa using h0)]
    obtain ⟨h1, h2, h3, h4, h5⟩ := addOf_some h0
    have hp := starE_pos R.l
    have hb := starE_bd (L := R.l) (by rw [h.f])
    refine ⟨⟨h.key, h.l0, h.l1, h.t0, h.t1, h.s0, h.s1, ⟨insP_sorted _ R.b h.b.sorted (findP_none h3), fun x hx => ?_, fun x hx => ?_, fun x hx => ?_, ?_⟩, h.f, h.inc, fun x hx => ?_, fun e => ?_, fun e he => ?_⟩, Nat.zero_le _⟩
    · rcases insP_mem.1 hx with rfl | hx
      · exact h1
      · exact h.b.name x hx
    · rcases insP_mem.1 hx with rfl | hx
      · exact h2
      · exact h.b.key x hx
    · rcases insP_mem.1 hx with rfl | hx
      · exact ⟨hp, hb⟩
      · exact h.b.epoch x hx
    · rw [(insP_perm _ R.b).length_eq, List.length_cons]; omega
    · rcases insP_mem.1 hx with rfl | hx
      · exact Int.le_refl _
      · exact h.top x hx
    · have := (insP_perm ⟨n, k, starE R.l, false⟩ R.b).length_eq
      rw [show insP ⟨n, k, starE R.l, false⟩ R.b = [] from e] at this
      cases this
    · rcases h.names e he with h6 | ⟨p, hp, h6⟩
      · exact .inl h6
      · exact .inr ⟨p, insP_mem.2 (.inr hp), h6⟩
  · rw [if_pos h0]
    exact ⟨h, (add_good h.b n k).2.2.2⟩
/-- One person another one: what a book's place in a realm asks. -/
theorem GoodM.book {R : Rlm} (h : GoodM R) {B : List Per} (hB : GoodB B) (hr : ∀ p ∈ R.b, ∃ q ∈ B, q.name = p.name ∧ p.epoch ≤ q.epoch) (hr2 : ∀ q ∈ B, ∃ p ∈ R.b, p.name = q.name ∧ p.epoch ≤ q.epoch) : GoodM { R with b := B } :=
  ⟨h.key, h.l0, h.l1, h.t0, h.t1, h.s0, h.s1, hB, h.f, h.inc, fun q hq => by
    obtain ⟨p, hp, _, h2⟩ := hr2 q hq
    have := h.top p hp
    show starE R.l ≤ q.epoch
    omega, fun e => by
    have hB0 : B = [] := e
    refine h.none ?_
    cases hb : R.b with
    | nil => rfl
    | cons p r =>
      obtain ⟨q, hq, _⟩ := hr p (by rw [hb]; simp)
      rw [hB0] at hq
      exact absurd hq List.not_mem_nil, fun e he => by
    rcases h.names e he with h6 | ⟨p, hp, h6, h7⟩
    · exact .inl h6
    · obtain ⟨q, hq, h8, h9⟩ := hr p hp
      exact .inr ⟨q, hq, h8.trans h6, by omega⟩⟩
theorem setP_pairs {L : List Per} {p q : Per} (hs : SortedP L) (hp : p ∈ L) (hn : q.name = p.name) (he : p.epoch ≤ q.epoch) : (∀ x ∈ L, ∃ y ∈ setP L q, y.name = x.name ∧ x.epoch ≤ y.epoch) ∧ ∀ y ∈ setP L q, ∃ x ∈ L, x.name = y.name ∧ x.epoch ≤ y.epoch := by
  have key : ∀ x ∈ L, (if x.name = q.name then q else x).name = x.name ∧ x.epoch ≤ (if x.name = q.name then q else x).epoch := fun x hx => by
    by_cases h : x.name = q.name
    · rw [if_pos h]
      have := sorted_name_inj hs x hx p hp (h.trans hn)
      exact ⟨h.symm, by rw [this]; exact he⟩
    · rw [if_neg h]
      exact ⟨rfl, Int.le_refl _⟩
  refine ⟨fun x hx => ⟨_, List.mem_map.2 ⟨x, hx, rfl⟩, key x hx⟩, fun y hy => ?_⟩
  obtain ⟨x, hx, rfl⟩ := List.mem_map.1 hy
  exact ⟨x, hx, (key x hx).1.symm, (key x hx).2⟩
theorem self_pairs (L : List Per) : (∀ x ∈ L, ∃ y ∈ L, y.name = x.name ∧ x.epoch ≤ y.epoch) ∧ ∀ y ∈ L, ∃ x ∈ L, x.name = y.name ∧ x.epoch ≤ y.epoch := ⟨fun x hx => ⟨x, hx, rfl, Int.le_refl _⟩, fun x hx => ⟨x, hx, rfl, Int.le_refl _⟩⟩
theorem GoodM.off {R : Rlm} (h : GoodM R) (n : List UInt8) (o : Bool) : GoodM (offM R n o).2 ∧ (offM R n o).1 ≤ 16 := by
  obtain ⟨h1, _, _, h4⟩ := off_good h.b n o
  refine ⟨h.book h1 ?_ ?_, h4⟩
  all_goals
    show ∀ _ ∈ _, _
    unfold offOf
    cases hf : findP R.b n with
    | none => first | exact (self_pairs R.b).1 | exact (self_pairs R.b).2
    | some p =>
      obtain ⟨hp, _⟩ := findP_some hf
      dsimp only
      split
      · first | exact (self_pairs R.b).1 | exact (self_pairs R.b).2
      · first | exact (setP_pairs (q := { p with off := o }) h.b.sorted hp rfl (Int.le_refl _)).1 | exact (setP_pairs (q := { p with off := o }) h.b.sorted hp rfl (Int.le_refl _)).2
theorem GoodM.change {R : Rlm} (h : GoodM R) {who : List UInt8} {n : Int} {B : List Per} (hB : GoodB B) (hr : ∀ p ∈ R.b, ∃ q ∈ B, q.name = p.name ∧ p.epoch ≤ q.epoch) (hr2 : ∀ q ∈ B, ∃ p ∈ R.b, p.name = q.name ∧ p.epoch ≤ q.epoch)
    (hn : (who ≠ starW ∧ ∃ p ∈ B, p.name = who ∧ n ≤ p.epoch) ∨ (who = starW ∧ starE R.l ≤ n ∧ (∀ p ∈ B, n ≤ p.epoch) ∧ (B = [] → n = 1))) : GoodM (changeM R who n B).2.2 ∧ (changeM R who n B).2.1 ≤ 16 := by
  unfold changeM
  by_cases h0 : (addE R.l R.time ⟨who, n⟩).2.1 = 0
  · rw [if_neg (by simpa using h0)]
    obtain ⟨_, _, _, he, hc⟩ := addE_zero h0
    rw [he]
    have hk := h.book hB hr hr2
    refine ⟨⟨h.key, h.l0, h.l1, h.t0, h.t1, h.s0, h.s1, hB, hc, fun j hj hs => ?_, fun p hp => ?_, fun e => ?_, fun e he => ?_⟩, Nat.zero_le _⟩
    · dsimp only at hj hs ⊢
      rw [List.length_append, List.length_singleton] at hj
      by_cases hl : j < R.l.length
      · rw [List.getElem_append_left hl] at hs ⊢
        rw [List.take_append_of_le_length (by omega)]
        exact h.inc j hl hs
      · have hje : j = R.l.length := by omega
        subst hje
        rw [List.getElem_append_right (Nat.le_refl _)] at hs ⊢
        simp only [Nat.sub_self, List.getElem_cons_zero] at hs ⊢
        rw [List.take_left]
        rcases hn with ⟨h1, _⟩ | ⟨_, h2, _⟩
        · exact absurd hs h1
        · exact h2
    · dsimp only
      rw [starE_snoc]
      have := hk.top p hp
      dsimp only at this ⊢
      rcases hn with ⟨h1, _⟩ | ⟨h1, _, h3, _⟩
      · rw [if_neg h1]; exact this
      · rw [if_pos h1]
        have := h3 p hp
        omega
    · dsimp only at e ⊢
      rw [starE_snoc]
      dsimp only
      rcases hn with ⟨_, p, hp, _⟩ | ⟨h1, _, _, h4⟩
      · rw [e] at hp; cases hp
      · rw [if_pos h1, hk.none e, h4 e]; rfl
    · rcases List.mem_append.1 he with h6 | h6
      · exact hk.names e h6
      · rw [List.mem_singleton.1 h6]
        rcases hn with ⟨_, p, hp, h8, h9⟩ | ⟨h1, _⟩
        · exact .inr ⟨p, hp, h8, h9⟩
        · exact .inl h1
  · rw [if_pos h0]
    exact ⟨h, addE_le _ _ _⟩
theorem GoodM.revoke {R : Rlm} (h : GoodM R) (n : List UInt8) : GoodM (revokeM R n).2.2 ∧ (revokeM R n).2.1 ≤ 16 := by
  unfold revokeM
  obtain ⟨h1, _, _, h4⟩ := raise_good h.b n
  by_cases h0 : (raiseOf R.b n).2.1 = 0
  · rw [if_neg (by simpa using h0)]
    unfold raiseOf at h0 h1 ⊢
    cases hf : findP R.b n with
    | none => rw [hf] at h0; cases h0
    | some p =>
      rw [hf] at h0 h1
      dsimp only at h0 h1 ⊢
      obtain ⟨hp, hpn⟩ := findP_some hf
      by_cases h5 : 1073741824 ≤ p.epoch
      · rw [if_pos h5] at h0; cases h0
      rw [if_neg h5] at h1 ⊢
      dsimp only at h1 ⊢
      obtain ⟨hr, hr2⟩ := setP_pairs (q := { p with epoch := p.epoch + 1 }) h.b.sorted hp rfl (by dsimp only; omega)
      refine h.change h1 hr hr2 (.inl ⟨fun e => ?_, ⟨{ p with epoch := p.epoch + 1 }, List.mem_map.2 ⟨p, hp, by rw [if_pos rfl]⟩, hpn, Int.le_refl _⟩⟩)
      have := h.b.name p hp
      rw [hpn, e] at this
      cases this
  · rw [if_pos h0]
    exact ⟨h, h4⟩
theorem rekeyOf_some {L : List Per} {n : List UInt8} {k : Int} (h : (rekeyOf L n k).1 = 0) : ∃ p, findP L n = some p ∧ isKey k = true ∧ p.epoch < 1073741824 ∧ (rekeyOf L n k) = (0, setP L { p with key := k, epoch := p.epoch + 1 }) := by
  unfold rekeyOf at h ⊢
  cases hf : findP L n with
  | none => rw [hf] at h; cases h
  | some p =>
    rw [hf] at h
    dsimp only at h ⊢
    by_cases h2 : isKey k = false
    · rw [if_pos h2] at h; cases h
    rw [if_neg h2] at h ⊢
    by_cases h3 : p.key = k
    · rw [if_pos h3] at h; cases h
    rw [if_neg h3] at h ⊢
    by_cases h4 : 1073741824 ≤ p.epoch
    · rw [if_pos h4] at h; cases h
    rw [if_neg h4]
    exact ⟨p, rfl, by simpa using h2, by omega, rfl⟩
theorem findP_set {L : List Per} {p q : Per} (hs : SortedP L) (hp : p ∈ L) (hn : q.name = p.name) : findP (setP L q) q.name = some q :=
  findP_of_mem (setP_sorted q hs) (List.mem_map.2 ⟨p, hp, by rw [if_pos hn.symm]⟩)
theorem GoodM.rekey {R : Rlm} (h : GoodM R) (n : List UInt8) (k : Int) : GoodM (rekeyM R n k).2.2 ∧ (rekeyM R n k).2.1 ≤ 16 := by
  unfold rekeyM
  obtain ⟨h1, _, _, h4⟩ := rekey_good h.b n k
  by_cases h0 : (rekeyOf R.b n k).1 = 0
  · rw [if_neg (by simpa using h0)]
    obtain ⟨p, hf, _, h5, he⟩ := rekeyOf_some h0
    obtain ⟨hp, hpn⟩ := findP_some hf
    rw [he] at h1 ⊢
    dsimp only at h1 ⊢
    obtain ⟨hr, hr2⟩ := setP_pairs (q := { p with key := k, epoch := p.epoch + 1 }) h.b.sorted hp rfl (by dsimp only; omega)
    have hfe := findP_set (q := { p with key := k, epoch := p.epoch + 1 }) h.b.sorted hp rfl
    have hep : epochOf (setP R.b { p with key := k, epoch := p.epoch + 1 }) n = p.epoch + 1 := by
      unfold epochOf
      rw [← hpn]
      dsimp only at hfe
      rw [hfe]
    rw [hep]
    refine h.change h1 hr hr2 (.inl ⟨fun e => ?_, ⟨{ p with key := k, epoch := p.epoch + 1 }, List.mem_map.2 ⟨p, hp, by rw [if_pos rfl]⟩, hpn, Int.le_refl _⟩⟩)
    have := h.b.name p hp
    rw [hpn, e] at this
    cases this
  · rw [if_pos h0]
    exact ⟨h, h4⟩
theorem GoodM.flush {R : Rlm} (h : GoodM R) : GoodM (flushM R).2.2 ∧ (flushM R).2.1 ≤ 16 := by
  unfold flushM
  by_cases h0 : 1073741824 ≤ maxE R.b
  · rw [if_pos h0]; exact ⟨h, by simp⟩
  · rw [if_neg h0]
    have hnn := maxE_nonneg R.b
    have hnames : (flushB R.b).map Per.name = R.b.map Per.name := by unfold flushB; rw [List.map_map]; rfl
    have hmem : ∀ q ∈ flushB R.b, ∃ p ∈ R.b, q = { p with epoch := maxE R.b + 1 } := fun q hq => by
      obtain ⟨p, hp, rfl⟩ := List.mem_map.1 hq
      exact ⟨p, hp, rfl⟩
    have hB : GoodB (flushB R.b) := ⟨sortedP_names hnames.symm h.b.sorted, fun q hq => by
      obtain ⟨p, hp, rfl⟩ := hmem q hq
      exact h.b.name p hp, fun q hq => by
      obtain ⟨p, hp, rfl⟩ := hmem q hq
      exact h.b.key p hp, fun q hq => by
      obtain ⟨p, hp, rfl⟩ := hmem q hq
      dsimp only
      omega, by unfold flushB; rw [List.length_map]; exact h.b.many⟩
    refine h.change hB (fun p hp => ⟨{ p with epoch := maxE R.b + 1 }, List.mem_map.2 ⟨p, hp, rfl⟩, rfl, by have := maxE_le hp; dsimp only; omega⟩) (fun q hq => ?_) (.inr ⟨rfl, ?_, fun q hq => ?_, fun e => ?_⟩)
    · obtain ⟨p, hp, rfl⟩ := hmem q hq
      exact ⟨p, hp, rfl, by have := maxE_le hp; dsimp only; omega⟩
    · cases hb : R.b with
      | nil => rw [h.none hb]; decide
      | cons p r =>
        have h1 := h.top p (by rw [hb]; simp)
        have h2 := maxE_le (B := R.b) (p := p) (by rw [hb]; simp)
        rw [hb] at h2
        omega
    · obtain ⟨p, hp, rfl⟩ := hmem q hq
      exact Int.le_refl _
    · have : R.b = [] := List.map_eq_nil_iff.1 e
      rw [this]
      rfl
theorem GoodM.next {R : Rlm} (h : GoodM R) (t : Int) : GoodM (nextM R t).2.2 ∧ (nextM R t).2.1 ≤ 16 := by
  unfold nextM
  by_cases h0 : t < 0 ∨ 1000000 - R.time < t
  · rw [if_pos h0]; exact ⟨h, by simp⟩
  · rw [if_neg h0]
    have := h.t0
    exact ⟨⟨h.key, h.l0, h.l1, by dsimp only; omega, by dsimp only; omega, h.s0, h.s1, h.b, h.f, h.inc, h.top, h.none, h.names⟩, Nat.zero_le _⟩
theorem GoodM.more {R : Rlm} (h : GoodM R) (hs : R.serial ≤ 1073741824) : GoodM { R with serial := R.serial + 1 } :=
  ⟨h.key, h.l0, h.l1, h.t0, h.t1, by have := h.s0; dsimp only; omega, by dsimp only; omega, h.b, h.f, h.inc, h.top, h.none, h.names⟩
theorem makeT_serial {k : Int} {t : Tick} (h : (makeT k t).2 = 0) : t.serial ≤ 1073741824 := by
  obtain ⟨_, h2, _⟩ := makeT_zero h
  exact ((tickNum_iff t).1 (tickErr_zero h2).2.2).2.1.2
theorem GoodM.login {R : Rlm} (h : GoodM R) (n : List UInt8) (pr : Int) (svc : List UInt8) : GoodM (loginM R n pr svc).2.2 := by
  unfold loginM
  split
  · split
    · exact h
    · split
      · exact h
      · split
        · exact h
        · dsimp only
          split
          · rename_i hm
            exact h.more (makeT_serial hm)
          · exact h
  · exact h
theorem GoodM.renew {R : Rlm} (h : GoodM R) (s svc : List UInt8) : GoodM (renewM R s svc).2.2 := by
  unfold renewM
  split
  · exact h
  · split
    · exact h
    · split
      · exact h
      · split
        · exact h
        · unfold renewM2
          split
          · exact h
          · split
            · exact h
            · split
              · exact h
              · split
                · exact h
                · dsimp only
                  split
                  · rename_i hm
                    refine h.more ?_
                    have h1 := makeT_serial hm
                    rename_i hr
                    have h2 := (renewT_zero (by simpa using hr)).2.2
                    rw [h2] at h1
                    exact h1
                  · exact h
end Go.Proofs.YtkhphdkjnpcnnaaGreatDoor

/- What every claim of this seat wants: the given condition on package-level variables, read as facts on cells; the row's end behind a call that leaves old memory alone. -/
namespace Go.Proofs.YtkhphdkjnpcnnaaGreatDoor
open Go.ChangeShapes Go.WideShapes Go.ChangeAt Go.RowKit Go.ChangeMaps

theorem types_size : Tryz.prog.types.size = 349 := by kernel_rfl
theorem ownKnob_none : ownKnob Tryz.prog.godebug = none := by kernel_rfl
theorem laidOut_true : laidOutB Tryz.prog = true := by kernel_rfl

theorem trodAll_below {H : Type} {enc : TypeId × Value → H} {W W' : World} (hb : Below W.heap.size W W') : ∀ (ts : List TypeId) (vs : List Value) (ds : List (DataW H)) (ps : List MemPlace),
    (∀ t ∈ ts, Tryz.prog.readableRec t = true ∧ t < Tryz.prog.types.size) → (∀ x ∈ ps, x.block < W.heap.size) →
    DataW.TrodAll enc Tryz.prog W 0 (fun _ => true) true ts vs ds ps → DataW.TrodAll enc Tryz.prog W' 0 (fun b => decide (b < W.heap.size)) true ts vs ds ps
  | [], vs, ds, ps, _, _, h => by
    cases vs <;> cases ds <;> simp_all [DataW.TrodAll]
  | t :: ts, vs, ds, ps, hr, hlt, h => by
    obtain ⟨v, vs', d, ds', p, q, rfl, rfl, rfl, h1, h2⟩ := trodAll_cons h
    have ht := hr t (by simp)
    exact ⟨p, q, Below.trod laidOut_true ht.1 ht.2 h1 hb (fun x hx => hlt x (List.mem_append.2 (.inl hx))),
      trodAll_below hb ts vs' ds' q (fun t ht => hr t (by simp [ht])) (fun x hx => hlt x (List.mem_append.2 (.inr hx))) h2, rfl⟩

/-- The end of a law's row: it returned true, and old memory is as it was. -/
theorem law_post {H : Type} {enc : TypeId × Value → H} {f : Func} {s : ChangeSpec} {fresh hd : Bool} {W W' : World} {args : Array Value} {ds : List (DataW H)} {before : List MemPlace}
    (hvars : s.vars = []) (hrt : f.resultTypes = #[4]) (hr : ∀ t ∈ f.params.toList, Tryz.prog.readableRec t = true ∧ t < Tryz.prog.types.size)
    (hspec : s.fn H ds = { results := [.lit (.bool true)], args := ds })
    (hW : DataW.Whole enc Tryz.prog f.params.toList s.vars false W args.toList ds [] before) (hb : Below W.heap.size W W') :
    s.post enc Tryz.prog f false fresh hd false W args (.bool true) W' := by
  have hlt := fun x hx => hW.lt x hx
  obtain ⟨p, q, hA, hV, rfl, hfz, hnd⟩ := id hW
  have hq : q = [] := by rw [hvars] at hV; exact (trodVars_none hV).2
  subst hq
  refine ⟨ds, [], p ++ [], [], p, [], hW, ?_, ?_, ?_, hb.frame _, fun h => by cases h⟩
  · rw [List.append_nil, hspec, hrt]
    exact trodAll_mk1 (shut_bool Tryz.underlying4 true)
  · rw [List.append_nil, hspec]
    exact trodAll_below hb _ _ _ p hr (fun x hx => hlt x (List.mem_append.2 (.inl hx))) hA
  · rw [List.append_nil, hspec, hvars]
    rfl

/-! The condition on the package-level variables. -/
theorem laidMet_of_H {laid : List (String × DataW Unit)} {W : World} (h : laidMetH Tryz.prog laid W) : laidMet Tryz.prog (laid.filter fun x => x.2.handleName?.isNone) W := by
  unfold laidMetH at h
  split at h
  · rename_i e
    rw [List.filter_eq_self.2]
    · exact h
    · intro x hx
      rw [List.filter_eq_nil_iff] at e
      have := e x hx
      cases hn : x.2.handleName? <;> simp_all
  · exact h.1
theorem handles_of_H {laid : List (String × DataW Unit)} {W : World} (h : laidMetH Tryz.prog laid W) : ∀ x ∈ laid, x.2.handleName?.isSome = true → handlesMet Tryz.prog [x] W := by
  intro x hx hs
  unfold laidMetH at h
  split at h
  · rename_i e
    rw [List.filter_eq_nil_iff] at e
    exact absurd hs (e x hx)
  · rename_i h1 hs1 e
    intro y hy
    obtain rfl := List.mem_singleton.1 hy
    refine h.2 y ?_
    rw [← e]
    exact List.mem_filter.2 ⟨hx, hs⟩
theorem laidVars_mem {W : World} {ps : List MemPlace} : ∀ (l : List (String × DataW Unit)) (ps : List MemPlace), DataW.LaidVars Tryz.prog W l ps → ∀ n d, (n, d) ∈ l →
    ∃ g t cs fuel p, Tryz.prog.globalNamed n = some g ∧ (Tryz.prog.globals[g]?).map (·.type) = some t ∧ W.var? Tryz.prog n = some cs ∧ DataW.trod (fun _ => ()) Tryz.prog W 0 (fun _ => true) false fuel t cs.toList = some (d, p) ∧
      (∀ x ∈ MemPlace.row ⟨g, 0, none⟩ cs.size, x ∈ ps) ∧ ∀ x ∈ p, x ∈ ps
  | [], _, _, n, d, hm => by cases hm
  | (m, e) :: l, ps, h, n, d, hm => by
    obtain ⟨g, t, cs, fuel, p, q, hg, ht, hv, hd, hr, rfl⟩ := h
    rcases List.mem_cons.1 hm with h | h
    · cases h
      exact ⟨g, t, cs, fuel, p, hg, ht, hv, hd, fun x hx => by simp [hx], fun x hx => by simp [hx]⟩
    · obtain ⟨g', t', cs', fuel', p', a1, a2, a3, a4, a5, a6⟩ := laidVars_mem (ps := ps) l q hr n d h
      exact ⟨g', t', cs', fuel', p', a1, a2, a3, a4, fun x hx => by simp [a5 x hx], fun x hx => by simp [a6 x hx]⟩

theorem name_errorString : Tryz.prog.typeName? 3 309 = some "*errors.errorString" := by kernel_rfl
theorem cells_errorString : Tryz.prog.cellsOf 311 = 1 := by kernel_rfl
theorem cells_string : Tryz.prog.cellsOf 9 = 1 := by kernel_rfl
theorem star_errorString : "*" ++ "errors.errorString" = "*errors.errorString" := by decide
theorem row_errorString (u : TypeId) (h : Tryz.prog.typeName? 3 u = some "*errors.errorString") : u = 309 :=
  typeName_ptr_named (nm := "errors.errorString") (by rw [star_errorString]; kernel_rfl) (by kernel_rfl) (by decide) u (by rw [star_errorString]; exact h)

set_option maxRecDepth 100000 in
/-- A sentinel that the condition lists: its variable holds a pointer to a row that holds its text. -/
theorem sentinel_of {W : World} {laid : List (String × DataW Unit)} (h : laidMetH Tryz.prog laid W) (n : String) (text : List UInt8) (g : Nat)
    (hm : (n, .iface "*errors.errorString" (.ptr (.agg [.lit (.string text)]))) ∈ laid) (hg : Tryz.prog.globalNamed n = some g) (ht : (Tryz.prog.globals[g]?).map (·.type) = some 27) :
    ∃ (a : Addr) (s : ByteArray), W.cell? ⟨g, 0, none⟩ = some (.iface 309 (.pointer (some a))) ∧ W.cell? a = some (.string s) ∧ s.data.toList = text ∧ ∃ cs t, W.heap[a.block]? = some (.cells cs t (0, 0)) := by
  obtain ⟨ps, hps, hnd, hrows⟩ := laidMet_of_H h
  obtain ⟨g0, t0, cs0, f0, p0, hg0, ht0, hv0, hd0, hin, hip⟩ := laidVars_mem (ps := ps) _ ps hps n _ (List.mem_filter.2 ⟨hm, rfl⟩)
  obtain rfl := Option.some.inj (hg.symm.trans hg0)
  obtain rfl := Option.some.inj (ht.symm.trans ht0)
  obtain ⟨l0⟩ := cs0
  have ok0 : ∀ u v, l0 = [.iface u v] → Value.okWide Tryz.prog W .any 0 u v := fun u v e => by
    subst e
    exact (hrows g 0 (hin _ (by simp [MemPlace.row]))).2 u v (by simpa using World.var?_cell hg0 hv0 0)
  obtain ⟨a0, s0, rfl, hc0, hs0, hz0, rfl⟩ := errorString_of_trod Tryz.underlying27 row_errorString Tryz.underlying309 Tryz.underlying311 rfl rfl Tryz.underlying9 cells_errorString cells_string hd0 ok0
  obtain ⟨c, t, hb⟩ := (hrows a0.block a0.off (hip _ (by simp [MemPlace.row]))).1
  exact ⟨a0, s0, by simpa using World.var?_cell hg0 hv0 0, hc0, hs0, c, t, hb⟩
end Go.Proofs.YtkhphdkjnpcnnaaGreatDoor

/- Blocks of two cells, written in place. -/
namespace Go.Proofs.YtkhphdkjnpcnnaaGreatDoor
open Go.RowKit

/-- A block of two cells, kept: its cells, and none frozen. -/
theorem two_kept {w0 w1 : World} {n : Nat} {v0 v1 : Value} {T : TypeId} (hb : Below w0.heap.size w0 w1) (h : w0.heap[n]? = some (.cells #[v0, v1] T (0, 0))) :
    (w1.cell? ⟨n, 0, none⟩ = some v0 ∧ w1.cell? ⟨n, 1, none⟩ = some v1) ∧ (w1.frozen? ⟨n, 0, none⟩ = false ∧ w1.frozen? ⟨n, 1, none⟩ = false) := by
  have h1 : w1.heap[n]? = some (.cells #[v0, v1] T (0, 0)) := (hb.block n (Array.getElem?_eq_some_iff.1 h).1).trans h
  refine ⟨⟨?_, ?_⟩, ?_, ?_⟩
  all_goals first
    | (rw [cell_of_row _ _ _ _ _ _ h1]; rfl)
    | exact frozen_of_row _ _ _ _ _ h1
theorem heap_down {w w' : World} (hb : Below w.heap.size w w') {b : Nat} {o : Obj} (h : w.heap[b]? = some o) : w'.heap[b]? = some o :=
  (hb.block b (Array.getElem?_eq_some_iff.1 h).1).trans h
theorem row_set2 {w : World} {n : Nat} {u0 u1 : Value} {T : TypeId} (h : w.heap[n]? = some (.cells #[u0, u1] T (0, 0))) (v0 v1 : Value) :
    ((w.setCell ⟨n, 0, none⟩ v0).setCell ⟨n, 1, none⟩ v1).heap[n]? = some (.cells #[v0, v1] T (0, 0)) := by
  have h0 := heap_setCell_same _ n 0 _ _ v0 h
  exact heap_setCell_same _ n 1 _ _ v1 h0
theorem below_set2 {B : Nat} {a w : World} (h : Below B a w) {n : Nat} (hn : B ≤ n) (v0 v1 : Value) :
    Below B a ((w.setCell ⟨n, 0, none⟩ v0).setCell ⟨n, 1, none⟩ v1) := (h.setCell hn _).setCell hn _
end Go.Proofs.YtkhphdkjnpcnnaaGreatDoor
