/- RlmW, Asks, CodedS, FaultS -/
import Derived.Test.YtkhphdkjnpcnnaaGreatDoorMg21
import Derived.Test.YtkhphdkjnpcnnaaGreatDoorMg24
import Derived.Test.YtkhphdkjnpcnnaaGreatDoorMg25
import Derived.Test.YtkhphdkjnpcnnaaGreatDoorMg29
import Derived.Test.YtkhphdkjnpcnnaaGreatDoorMg36
import Derived.Test.YtkhphdkjnpcnnaaGreatDoorMg40
import Derived.Test.YtkhphdkjnpcnnaaGreatDoorMg41
import Derived.Test.YtkhphdkjnpcnnaaGreatDoorMg20
import Derived.Test.YtkhphdkjnpcnnaaGreatDoorMg10
import Derived.Test.YtkhphdkjnpcnnaaGreatDoorMg9
import Derived.Test.YtkhphdkjnpcnnaaGreatDoorMg19
import Derived.Test.YtkhphdkjnpcnnaaGreatDoorMg12
import Derived.Test.YtkhphdkjnpcnnaaGreatDoorMg8
/- Two realms side by side: what every act of either keeps. -/
namespace Go.Proofs.YtkhphdkjnpcnnaaGreatDoor
open Go.RowKit

/-- The types of the blocks that realms' acts write. -/
def RTy (T : TypeId) : Prop := T = 83 ∨ T = 40 ∨ T = 49 ∨ T = 46
instance (T : TypeId) : Decidable (RTy T) := by unfold RTy; infer_instance
/-- From w to w': nothing below base changes, and no block of another type. -/
structure Ok (base : Nat) (w w' : World) : Prop where
  below : Below base w w'
  kept : ∀ (n : Nat) (cs : Array Value) (T : TypeId) (z : Nat × Nat), w.heap[n]? = some (.cells cs T z) → ¬ RTy T → w'.heap[n]? = some (.cells cs T z)
theorem Ok.trans {base : Nat} {x y z : World} (h : Ok base x y) (k : Ok base y z) : Ok base x z :=
  ⟨h.below.trans k.below, fun n cs T u h1 h2 => k.kept n cs T u (h.kept n cs T u h1 h2) h2⟩
theorem Ok.of_below {base : Nat} {w w' : World} (hb : base ≤ w.heap.size) (h : Below w.heap.size w w') : Ok base w w' :=
  ⟨h.mono hb, fun _ _ _ _ h1 _ => heap_down h h1⟩
theorem Ok.size {base : Nat} {w w' : World} (h : Ok base w w') : w.heap.size ≤ w'.heap.size := h.below.size
/-- The blocks that such acts may write. -/
def OkS (base : Nat) (w : World) (k : Nat) : Prop := base ≤ k ∧ ∀ (cs : Array Value) (T : TypeId) (z : Nat × Nat), w.heap[k]? = some (.cells cs T z) → RTy T
theorem Ok.keeps {base : Nat} {w w' : World} (h : Ok base w w') : Keeps (OkS base w) w w' := ⟨h.below.os, h.below.tape, h.below.output, h.below.size, fun i hi hs => by
  by_cases hb : base ≤ i
  · have : ∃ (cs : Array Value) (T : TypeId) (z : Nat × Nat), w.heap[i]? = some (.cells cs T z) ∧ ¬ RTy T :=
      Classical.byContradiction fun hn => hs ⟨hb, fun cs T z h1 => Classical.byContradiction fun h2 => hn ⟨cs, T, z, h1, h2⟩⟩
    obtain ⟨cs, T, z, h1, h2⟩ := this
    rw [h.kept _ _ _ _ h1 h2, h1]
  · exact h.below.block i (by omega)⟩
theorem FlRow.ok {base b : Nat} {w w' : World} {v : Value} {F : List Flo} (h : FlRow w b v F) (hk : Ok base w w') : FlRow w' b v F :=
  ownsRow_keeps h hk.keeps fun g hg hs => by
    obtain ⟨_, cs, h1⟩ := ownsRow_block h hg
    exact absurd (hs.2 _ _ _ h1) (by decide)
theorem ok_P {base a b r : Nat} {R : Rlm} {w w' : World} (hR : RlmAt w base a b r R) (hb : base ≤ w.heap.size) (hk : Keeps (RlmS a r) w w') : Ok base w w' := by
  refine ⟨hk.below hb fun k hs => ?_, fun n cs T z h1 h2 => hk.obj h1 fun hs => ?_⟩
  · rcases hs with rfl | rfl
    · exact hR.ge
    · exact hR.gr
  · rcases hs with rfl | rfl
    · obtain ⟨vl, g1, _⟩ := hR.blk
      rw [g1] at h1
      injection h1 with h1
      injection h1 with _ h1 _
      exact h2 (.inl h1.symm)
    · obtain ⟨l, ⟨es, c, gr, _⟩, _⟩ := hR.book.map
      rw [gr] at h1
      cases h1
theorem ok_M {base : Nat} {w w' : World} (hb : base ≤ w.heap.size) (hk : Keeps (RRlmS base w) w w') : Ok base w w' := by
  refine ⟨hk.below hb fun k hs => hs.lt.1, fun n cs T z h1 h2 => hk.obj h1 fun hs => ?_⟩
  obtain ⟨_, cs', T', z', h3, h4⟩ := hs
  rw [h1] at h3
  injection h3 with h3
  injection h3 with _ h3 _
  subst h3
  exact h2 (.inr h4)
/-- The program's realm, and the reference's. -/
structure MidR (base a m : Nat) (R R' : Rlm) (w : World) : Prop where
  hb : base ≤ w.heap.size
  p : ∃ b r, RlmAt w base a b r R
  m : ∃ b, RRlmAt w base m b R'
theorem MidR.below {base a m : Nat} {R R' : Rlm} {w w' : World} (h : MidR base a m R R' w) (hb : Below w.heap.size w w') : MidR base a m R R' w' := by
  obtain ⟨h0, ⟨b, r, h1⟩, b', h2⟩ := h
  exact ⟨Nat.le_trans h0 hb.size, ⟨b, r, h1.below hb⟩, b', h2.below hb⟩
theorem MidR.stepP {base a m : Nat} {R R1 R' : Rlm} {w : World} {F : FuncId} {args : Array Value} {v : Value} (h : MidR base a m R R' w)
    (f : ∀ b r, RlmAt w base a b r R → Calls Tryz.prog F args w fun e w' => e = .returned v ∧ (∃ b1 r1, RlmAt w' base a b1 r1 R1) ∧ Keeps (RlmS a r) w w') :
    Calls Tryz.prog F args w fun e w' => e = .returned v ∧ MidR base a m R1 R' w' ∧ Ok base w w' := by
  obtain ⟨hb, ⟨b, r, hp⟩, b', hm⟩ := h
  exact (f b r hp).mono fun e w' ⟨h1, h2, h3⟩ => ⟨h1, ⟨Nat.le_trans hb h3.size, h2, b', hm.foreign hp h3⟩, ok_P hp hb h3⟩
theorem MidR.stepM {base a m : Nat} {R R1 R' : Rlm} {w : World} {F : FuncId} {args : Array Value} {v : Value} (h : MidR base a m R R' w)
    (f : ∀ b, RRlmAt w base m b R' → Calls Tryz.prog F args w fun e w' => e = .returned v ∧ (∃ b1, RRlmAt w' base m b1 R1) ∧ Keeps (RRlmS base w) w w') :
    Calls Tryz.prog F args w fun e w' => e = .returned v ∧ MidR base a m R R1 w' ∧ Ok base w w' := by
  obtain ⟨hb, ⟨b, r, hp⟩, b', hm⟩ := h
  exact (f b' hm).mono fun e w' ⟨h1, h2, h3⟩ => ⟨h1, ⟨Nat.le_trans hb h3.size, ⟨b, r, hp.foreign h3⟩, h2⟩, ok_M hb h3⟩
theorem RlmAt.mono {w : World} {base base' a b r : Nat} {R : Rlm} (h : RlmAt w base a b r R) (hb : base' ≤ base) : RlmAt w base' a b r R := by
  obtain ⟨vl, h1, h2⟩ := h.blk
  exact ⟨Nat.le_trans hb h.ge, Nat.le_trans hb h.gr, ⟨vl, h1, h2.mono hb⟩, h.book⟩
theorem RRlmAt.mono {w : World} {base base' m b : Nat} {R : Rlm} (h : RRlmAt w base m b R) (hb : base' ≤ base) : RRlmAt w base' m b R := by
  obtain ⟨vl, h1, h2⟩ := h.blk
  exact ⟨Nat.le_trans hb h.ge, ⟨vl, h1, h2.mono hb⟩, h.book.mono hb⟩
def newE (k l : Int) : Nat := if isKey k = false then 10 else if l < 1 ∨ 1000000 < l then 2 else 0
theorem newE_code (k l : Int) : newE k l ≤ 16 := by
  unfold newE
  split
  · decide
  split <;> decide
theorem newE_good {k l : Int} (h : newE k l = 0) : GoodM (newRlm k l) := by
  unfold newE at h
  by_cases hk : isKey k = false
  · rw [if_pos hk] at h; cases h
  rw [if_neg hk] at h
  by_cases hl : l < 1 ∨ 1000000 < l
  · rw [if_pos hl] at h; cases h
  exact GoodM.new (by simpa using hk) (by omega) (by omega)
theorem newE_in {k l : Int} {A B C : Prop} (h : if isKey k = false then A else if l < 1 ∨ 1000000 < l then B else C) : (newE k l = 10 ∧ A) ∨ (newE k l = 2 ∧ B) ∨ (newE k l = 0 ∧ C) := by
  unfold newE
  by_cases hk : isKey k = false
  · rw [if_pos hk] at h ⊢
    exact .inl ⟨rfl, h⟩
  rw [if_neg hk] at h ⊢
  by_cases hl : l < 1 ∨ 1000000 < l
  · rw [if_pos hl] at h ⊢
    exact .inr (.inl ⟨rfl, h⟩)
  rw [if_neg hl] at h ⊢
  exact .inr (.inr ⟨rfl, h⟩)
theorem newP_bad {E : Nat → Addr} {k l : Int} (h : newE k l ≠ 0) (w : World) (hL : Laid E w) :
    Calls Tryz.prog 8 #[.int .i64 k, .int .i64 l] w fun e w' => e = .returned (.tuple #[.pointer none, errV E (newE k l)]) ∧ Below w.heap.size w w' :=
  (newM_any k l w hL).mono fun e w' ⟨h1, hb⟩ => ⟨by
    rcases newE_in h1 with ⟨h2, h3⟩ | ⟨h2, h3⟩ | ⟨h2, h3⟩
    · rw [h2]; exact h3
    · rw [h2]; exact h3
    · exact absurd h2 h, hb⟩
theorem newP_good {E : Nat → Addr} {k l : Int} (h : newE k l = 0) (w : World) (hL : Laid E w) :
    Calls Tryz.prog 8 #[.int .i64 k, .int .i64 l] w fun e w' => (∃ a b r, e = .returned (.tuple #[.pointer (some ⟨a, 0, none⟩), .nilIface]) ∧ RlmAt w' w.heap.size a b r (newRlm k l)) ∧ Below w.heap.size w w' :=
  (newM_any k l w hL).mono fun e w' ⟨h1, hb⟩ => ⟨by
    rcases newE_in h1 with ⟨h2, h3⟩ | ⟨h2, h3⟩ | ⟨h2, h3⟩
    · rw [h2] at h; cases h
    · rw [h2] at h; cases h
    · exact h3, hb⟩
theorem newR_bad {k l : Int} (h : newE k l ≠ 0) (w : World) :
    Calls Tryz.prog 9 #[.int .i64 k, .int .i64 l] w fun e w' => e = .returned (.tuple #[.pointer none, .int .i64 (newE k l : Nat)]) ∧ Below w.heap.size w w' :=
  (newRR_any k l w).mono fun e w' ⟨h1, hb⟩ => ⟨by
    rcases newE_in h1 with ⟨h2, h3⟩ | ⟨h2, h3⟩ | ⟨h2, h3⟩
    · rw [h2]; exact h3
    · rw [h2]; exact h3
    · exact absurd h2 h, hb⟩
theorem newR_good {k l : Int} (h : newE k l = 0) (w : World) :
    Calls Tryz.prog 9 #[.int .i64 k, .int .i64 l] w fun e w' => (∃ m b, e = .returned (.tuple #[.pointer (some ⟨m, 0, none⟩), .int .i64 0]) ∧ RRlmAt w' w.heap.size m b (newRlm k l)) ∧ Below w.heap.size w w' :=
  (newRR_any k l w).mono fun e w' ⟨h1, hb⟩ => ⟨by
    rcases newE_in h1 with ⟨h2, h3⟩ | ⟨h2, h3⟩ | ⟨h2, h3⟩
    · rw [h2] at h; cases h
    · rw [h2] at h; cases h
    · exact h3, hb⟩
theorem feed_len {R : Rlm} (hG : GoodM R) : R.l.length ≤ 1000 := by
  by_cases h : 60 < R.l.length
  · have := hG.f
    rw [checkE_full h] at this
    cases this
  · omega
section
variable {E : Nat → Addr} {base a m : Nat} {R R' : Rlm} {w : World}
theorem MidR.addP (h : MidR base a m R R' w) (hL : LaidS E w) (hG : GoodM R) (n : List UInt8) (k : Int) (hn : n.length ≤ maxLen) :
    Calls Tryz.prog 23 #[.pointer (some ⟨a, 0, none⟩), .string (bs n), .int .i64 k] w fun e w' => e = .returned (errV E (addM R n k).1) ∧ MidR base a m (addM R n k).2 R' w' ∧ Ok base w w' :=
  h.stepP fun _ _ hp => (addM_any n k w hL hp hG hn).mono fun _ _ ⟨h1, h2, h3⟩ => ⟨h1, ⟨_, _, h2⟩, h3⟩
theorem MidR.addR (h : MidR base a m R R' w) (hG : GoodM R') (n : List UInt8) (k : Int) (hn : n.length ≤ maxLen) :
    Calls Tryz.prog 36 #[.pointer (some ⟨m, 0, none⟩), .string (bs n), .int .i64 k] w fun e w' => e = .returned (.int .i64 ((addM R' n k).1 : Nat)) ∧ MidR base a m R (addM R' n k).2 w' ∧ Ok base w w' :=
  h.stepM fun _ hm => (addRR_any n k w hm hG hn).mono fun _ _ ⟨h1, h2, h3⟩ => ⟨h1, ⟨_, h2⟩, h3⟩
theorem MidR.offP (h : MidR base a m R R' w) (hL : Laid E w) (n : List UInt8) (o : Bool) :
    Calls Tryz.prog 37 #[.pointer (some ⟨a, 0, none⟩), .string (bs n), .bool o] w fun e w' => e = .returned (errV E (offM R n o).1) ∧ MidR base a m (offM R n o).2 R' w' ∧ Ok base w w' :=
  h.stepP fun _ _ hp => (offM_any n o w hL hp).mono fun _ _ ⟨h1, h2, h3⟩ => ⟨h1, ⟨_, _, h2⟩, h3⟩
theorem MidR.offP2 {b' : Nat} (h : MidR base a m R R' w) (hm : RRlmAt w base m b' R') (hL : Laid E w) (n : List UInt8) (o : Bool) :
    Calls Tryz.prog 37 #[.pointer (some ⟨a, 0, none⟩), .string (bs n), .bool o] w fun e w' => e = .returned (errV E (offM R n o).1) ∧ (MidR base a m (offM R n o).2 R' w' ∧ RRlmAt w' base m b' R') ∧ Ok base w w' := by
  obtain ⟨hb, ⟨b, r, hp⟩, _⟩ := h
  exact (offM_any n o w hL hp).mono fun e w' ⟨h1, h2, h3⟩ => ⟨h1, ⟨⟨Nat.le_trans hb h3.size, ⟨_, _, h2⟩, b', hm.foreign hp h3⟩, hm.foreign hp h3⟩, ok_P hp hb h3⟩
theorem MidR.offR {b' : Nat} (h : MidR base a m R R' w) (hm : RRlmAt w base m b' R') (hG : GoodM R') (n : List UInt8) (o : Bool) :
    Calls Tryz.prog 38 #[.pointer (some ⟨b', 0, none⟩), .string (bs n), .bool o] w fun e w' => e = .returned (.int .i64 ((offM R' n o).1 : Nat)) ∧ (MidR base a m R (offM R' n o).2 w' ∧ RRlmAt w' base m b' (offM R' n o).2) ∧ Ok base w w' := by
  obtain ⟨hb, ⟨b, r, hp⟩, _⟩ := h
  exact (offR_any base b' R'.b n o w hm.book hG.b.sorted hG.b.many).mono fun e w' ⟨h1, h2, h3⟩ => ⟨h1, ⟨⟨Nat.le_trans hb h2.size, ⟨b, r, hp.foreign (keepsM_of h2)⟩, b', hm.book' h2 h3⟩, hm.book' h2 h3⟩, ok_M hb (keepsM_of h2)⟩
theorem MidR.loginP (h : MidR base a m R R' w) (hL : LaidS E w) (hG : GoodM R) (n svc : List UInt8) (pr : Int) (hn : n.length ≤ 1000) (hs : svc.length ≤ 1000) :
    Calls Tryz.prog 12 #[.pointer (some ⟨a, 0, none⟩), .string (bs n), .int .i64 pr, .string (bs svc)] w fun e w' => e = .returned (.tuple #[.string (bs (loginM R n pr svc).1), errV E (loginM R n pr svc).2.1]) ∧ MidR base a m (loginM R n pr svc).2.2 R' w' ∧ Ok base w w' :=
  h.stepP fun _ _ hp => (loginM_any n svc pr w hL hp hG hn hs).mono fun _ _ ⟨h1, h2, h3⟩ => ⟨h1, ⟨_, _, h2⟩, h3⟩
theorem MidR.loginR (h : MidR base a m R R' w) (hG : GoodM R') (n svc : List UInt8) (pr : Int) (hn : n.length ≤ 1000) (hs : svc.length ≤ 1000) :
    Calls Tryz.prog 39 #[.pointer (some ⟨m, 0, none⟩), .string (bs n), .int .i64 pr, .string (bs svc)] w fun e w' => e = .returned (.tuple #[.string (bs (loginM R' n pr svc).1), .int .i64 ((loginM R' n pr svc).2.1 : Nat)]) ∧ MidR base a m R (loginM R' n pr svc).2.2 w' ∧ Ok base w w' :=
  h.stepM fun _ hm => (loginRR_any n svc pr w hm hG hn hs).mono fun _ _ ⟨h1, h2, h3⟩ => ⟨h1, ⟨_, h2⟩, h3⟩
theorem MidR.renewP (h : MidR base a m R R' w) (hL : LaidS E w) (hG : GoodM R) (sv svc : List UInt8) (hn : sv.length ≤ 1000) (hs : svc.length ≤ 1000) :
    Calls Tryz.prog 20 #[.pointer (some ⟨a, 0, none⟩), .string (bs sv), .string (bs svc)] w fun e w' => e = .returned (.tuple #[.string (bs (renewM R sv svc).1), errV E (renewM R sv svc).2.1]) ∧ MidR base a m (renewM R sv svc).2.2 R' w' ∧ Ok base w w' :=
  h.stepP fun _ _ hp => (renewM_any sv svc w hL hp hG hn hs).mono fun _ _ ⟨h1, h2, h3⟩ => ⟨h1, ⟨_, _, h2⟩, h3⟩
theorem MidR.renewR (h : MidR base a m R R' w) (hG : GoodM R') (sv svc : List UInt8) (hn : sv.length ≤ 1000) (hs : svc.length ≤ 1000) :
    Calls Tryz.prog 40 #[.pointer (some ⟨m, 0, none⟩), .string (bs sv), .string (bs svc)] w fun e w' => e = .returned (.tuple #[.string (bs (renewM R' sv svc).1), .int .i64 ((renewM R' sv svc).2.1 : Nat)]) ∧ MidR base a m R (renewM R' sv svc).2.2 w' ∧ Ok base w w' :=
  h.stepM fun _ hm => (renewRR_any sv svc w hm hG hn hs).mono fun _ _ ⟨h1, h2, h3⟩ => ⟨h1, ⟨_, h2⟩, h3⟩
theorem MidR.revokeP (h : MidR base a m R R' w) (hL : LaidS E w) (hG : GoodM R) (n : List UInt8) (hn : n.length ≤ maxLen) :
    Calls Tryz.prog 17 #[.pointer (some ⟨a, 0, none⟩), .string (bs n)] w fun e w' => e = .returned (.tuple #[.int .i64 (revokeM R n).1, errV E (revokeM R n).2.1]) ∧ MidR base a m (revokeM R n).2.2 R' w' ∧ Ok base w w' :=
  h.stepP fun _ _ hp => (revokeM_any n w hL hp hG hn).mono fun _ _ h => h
theorem MidR.revokeR (h : MidR base a m R R' w) (hG : GoodM R') (n : List UInt8) (hn : n.length ≤ maxLen) :
    Calls Tryz.prog 41 #[.pointer (some ⟨m, 0, none⟩), .string (bs n)] w fun e w' => e = .returned (.tuple #[.int .i64 (revokeM R' n).1, .int .i64 ((revokeM R' n).2.1 : Nat)]) ∧ MidR base a m R (revokeM R' n).2.2 w' ∧ Ok base w w' :=
  h.stepM fun _ hm => (revokeRR_any n w hm hG hn).mono fun _ _ h => h
theorem MidR.rekeyP (h : MidR base a m R R' w) (hL : LaidS E w) (hG : GoodM R) (n : List UInt8) (k : Int) (hn : n.length ≤ maxLen) :
    Calls Tryz.prog 42 #[.pointer (some ⟨a, 0, none⟩), .string (bs n), .int .i64 k] w fun e w' => e = .returned (.tuple #[.int .i64 (rekeyM R n k).1, errV E (rekeyM R n k).2.1]) ∧ MidR base a m (rekeyM R n k).2.2 R' w' ∧ Ok base w w' :=
  h.stepP fun _ _ hp => (rekeyM_any n k w hL hp hG hn).mono fun _ _ h => h
theorem MidR.rekeyR (h : MidR base a m R R' w) (hG : GoodM R') (n : List UInt8) (k : Int) (hn : n.length ≤ maxLen) :
    Calls Tryz.prog 43 #[.pointer (some ⟨m, 0, none⟩), .string (bs n), .int .i64 k] w fun e w' => e = .returned (.tuple #[.int .i64 (rekeyM R' n k).1, .int .i64 ((rekeyM R' n k).2.1 : Nat)]) ∧ MidR base a m R (rekeyM R' n k).2.2 w' ∧ Ok base w w' :=
  h.stepM fun _ hm => (rekeyRR_any n k w hm hG hn).mono fun _ _ h => h
theorem MidR.flushP (h : MidR base a m R R' w) (hL : LaidS E w) (hG : GoodM R) :
    Calls Tryz.prog 22 #[.pointer (some ⟨a, 0, none⟩)] w fun e w' => e = .returned (.tuple #[.int .i64 (flushM R).1, errV E (flushM R).2.1]) ∧ MidR base a m (flushM R).2.2 R' w' ∧ Ok base w w' :=
  h.stepP fun _ _ hp => (flushM_any w hL hp hG).mono fun _ _ h => h
theorem MidR.flushR (h : MidR base a m R R' w) (hG : GoodM R') :
    Calls Tryz.prog 44 #[.pointer (some ⟨m, 0, none⟩)] w fun e w' => e = .returned (.tuple #[.int .i64 (flushM R').1, .int .i64 ((flushM R').2.1 : Nat)]) ∧ MidR base a m R (flushM R').2.2 w' ∧ Ok base w w' :=
  h.stepM fun _ hm => (flushRR_any w hm hG).mono fun _ _ h => h
theorem MidR.nextP (h : MidR base a m R R' w) (hL : Laid E w) (hG : GoodM R) (t : Int) :
    Calls Tryz.prog 45 #[.pointer (some ⟨a, 0, none⟩), .int .i64 t] w fun e w' => e = .returned (.tuple #[.int .i64 (nextM R t).1, errV E (nextM R t).2.1]) ∧ MidR base a m (nextM R t).2.2 R' w' ∧ Ok base w w' :=
  h.stepP fun _ _ hp => (nextM_any t w hL hp hG.t0 hG.t1).mono fun _ _ ⟨h1, h2, h3⟩ => ⟨h1, ⟨_, _, h2⟩, h3⟩
theorem MidR.nextR (h : MidR base a m R R' w) (hG : GoodM R') (t : Int) :
    Calls Tryz.prog 46 #[.pointer (some ⟨m, 0, none⟩), .int .i64 t] w fun e w' => e = .returned (.tuple #[.int .i64 (nextM R' t).1, .int .i64 ((nextM R' t).2.1 : Nat)]) ∧ MidR base a m R (nextM R' t).2.2 w' ∧ Ok base w w' :=
  h.stepM fun _ hm => (nextRR_any t w hm hG.t0 hG.t1).mono fun _ _ ⟨h1, h2, h3⟩ => ⟨h1, ⟨_, h2⟩, h3⟩
theorem MidR.proof (h : MidR base a m R R' w) (hG : GoodM R') (q : AskV) (hn : q.a.length ≤ 1000) :
    Calls Tryz.prog 13 #[.pointer (some ⟨m, 0, none⟩), .agg #[.string (bs q.kind), .string (bs q.a), .string (bs q.b), .string (bs q.s), .int .i64 q.n, .bool q.is]] w fun e w' => e = .returned (.int .i64 (proofOf R' q)) ∧ Below w.heap.size w w' := by
  obtain ⟨_, _, b', hm⟩ := h
  exact proofL_any q w hm hG hn
theorem MidR.feed (h : MidR base a m R R' w) (hG : GoodM R) :
    Calls Tryz.prog 16 #[.pointer (some ⟨a, 0, none⟩)] w fun e w' => (∃ v, e = .returned v ∧ RowG entC w' w.heap.size 115 v R.l) ∧ Below w.heap.size w w' := by
  obtain ⟨_, ⟨b, r, hp⟩, _⟩ := h
  exact feedM_any w hp (feed_len hG)
theorem MidR.find (h : MidR base a m R R' w) (hG : GoodM R') (n : List UInt8) : ∃ b, w.cell? ⟨m, 4, none⟩ = some (.pointer (some ⟨b, 0, none⟩)) ∧
    Calls Tryz.prog 11 #[.pointer (some ⟨b, 0, none⟩), .string (bs n)] w fun e w' => e = .returned (.int .i64 (findIx R'.b n)) ∧ Below w.heap.size w w' := by
  obtain ⟨_, _, b, hm⟩ := h
  obtain ⟨_, _, h1, _⟩ := hm.cells
  exact ⟨b, h1.2.2.2.2.1, findR_any base b R'.b n w hm.book (by have := hG.b.many; omega)⟩
theorem MidR.keyAt (h : MidR base a m R R' w) {k : Nat} (hk : k < R'.b.length) : ∃ b g c, w.cell? ⟨m, 4, none⟩ = some (.pointer (some ⟨b, 0, none⟩)) ∧ w.cell? ⟨b, 0, none⟩ = some (.slice (some ⟨g, 0, none⟩) R'.b.length c) ∧ w.cell? ⟨g, k * 4 + 1, none⟩ = some (.int .i64 R'.b[k].key) := by
  obtain ⟨_, _, b, hm⟩ := h
  obtain ⟨_, _, h1, _⟩ := hm.cells
  obtain ⟨g, c, e0, _, ⟨_, e1, _, _⟩, _⟩ := hm.book.cells hk
  exact ⟨b, g, c, h1.2.2.2.2.1, e0, e1⟩
theorem MidR.timeR (h : MidR base a m R R' w) : w.cell? ⟨m, 2, none⟩ = some (.int .i64 R'.time) := by
  obtain ⟨_, _, b, hm⟩ := h
  obtain ⟨_, _, h1, _⟩ := hm.cells
  exact h1.2.2.1
theorem MidR.time (h : MidR base a m R R' w) :
    Calls Tryz.prog 26 #[.pointer (some ⟨a, 0, none⟩)] w fun e w' => e = .returned (.int .i64 R.time) ∧ w = w' := by
  obtain ⟨_, ⟨b, r, hp⟩, _⟩ := h
  exact timeM_any w hp
end
end Go.Proofs.YtkhphdkjnpcnnaaGreatDoor

/- Asks that came in; longAsks: walked. -/
namespace Go.Proofs.YtkhphdkjnpcnnaaGreatDoor
open Go.ChangeShapes Go.WideShapes Go.ChangeAt Go.RowKit Go.ChangeMaps Go.Deep

def askC : Cells AskV where
  k := 6
  pos := by decide
  f := fun m => [.string (bs m.kind), .string (bs m.a), .string (bs m.b), .string (bs m.s), .int .i64 m.n, .bool m.is]
  len := fun _ => rfl
  one := fun e u hu => by
    simp only [List.mem_cons, List.mem_nil_iff, or_false] at hu
    rcases hu with rfl | rfl | rfl | rfl | rfl | rfl <;> rfl
theorem sixL_of {α : Type} {l : List α} (h : l.length = 6) : ∃ a b c d e f, l = [a, b, c, d, e, f] := by
  match l, h with
  | [a, b, c, d, e, f], _ => exact ⟨a, b, c, d, e, f, rfl⟩
/-- Texts that a machine holds. -/
def AskLen (p : AskV) : Prop := p.kind.length ≤ maxLen ∧ p.a.length ≤ maxLen ∧ p.b.length ≤ maxLen ∧ p.s.length ≤ maxLen
set_option maxRecDepth 100000 in
theorem ask_cells {H : Type} {enc : TypeId × Value → H} {W : World} {base : Nat} {spare : Nat → Bool} {held : Bool} {n : Nat} {cs : List Value} {y : DataW H × List MemPlace}
    (h : DataW.trod enc Tryz.prog W base spare held n 36 cs = some y) : ∃ p : AskV, cs = askC.f p ∧ AskLen p := by
  have hC : Tryz.prog.cellsOf 36 = 6 := by kernel_rfl
  have h1 : Tryz.prog.cellsOf 3 = 1 := by kernel_rfl
  have h2 : Tryz.prog.cellsOf 9 = 1 := by kernel_rfl
  have h3 : Tryz.prog.cellsOf 4 = 1 := by kernel_rfl
  obtain ⟨hcl, m, hf⟩ := struct_fields Tryz.underlying36 h
  obtain ⟨k0, k1, k2, k3, k4, k5, rfl⟩ := sixL_of (hcl.trans hC)
  obtain ⟨_, z0⟩ := hf 0 _ rfl
  obtain ⟨_, z1⟩ := hf 1 _ rfl
  obtain ⟨_, z2⟩ := hf 2 _ rfl
  obtain ⟨_, z3⟩ := hf 3 _ rfl
  obtain ⟨_, z4⟩ := hf 4 _ rfl
  obtain ⟨_, z5⟩ := hf 5 _ rfl
  have z0 := field_one z0 h2 (v := k0) rfl
  have z1 := field_one z1 h2 (v := k1) rfl
  have z2 := field_one z2 h2 (v := k2) rfl
  have z3 := field_one z3 h2 (v := k3) rfl
  have z4 := field_one z4 h1 (v := k4) rfl
  have z5 := field_one z5 h3 (v := k5) rfl
  obtain ⟨x0, rfl, l0⟩ := read_string Tryz.underlying9 z0
  obtain ⟨x1, rfl, l1⟩ := read_string Tryz.underlying9 z1
  obtain ⟨x2, rfl, l2⟩ := read_string Tryz.underlying9 z2
  obtain ⟨x3, rfl, l3⟩ := read_string Tryz.underlying9 z3
  obtain ⟨x4, rfl, _⟩ := read_int Tryz.underlying3 z4
  obtain ⟨x5, rfl⟩ := read_bool Tryz.underlying4 z5
  exact ⟨⟨x0, x1, x2, x3, x4, x5⟩, rfl, l0, l1, l2, l3⟩
set_option maxRecDepth 100000 in
theorem asks_of {H : Type} {enc : TypeId × Value → H} {W : World} {base : Nat} {spare : Nat → Bool} {held : Bool} {fuel : Nat} {a : Option Addr} {len cap : Nat} {x : DataW H × List MemPlace}
    (h : DataW.trod enc Tryz.prog W base spare held fuel 22 [.slice a len cap] = some x) : ∃ A, AtG askC W (.slice a len cap) A ∧ ∀ n ∈ A, AskLen n := by
  have hcap := slice_cap Tryz.underlying22 h
  rcases slice_cells Tryz.underlying22 h with h0 | ⟨a', len', cap', n, hcs, hm, hi⟩
  · cases h0
    exact ⟨[], AtG.nil _, fun f hf => by cases hf⟩
  · cases hcs
    have hC : Tryz.prog.cellsOf 36 = 6 := by kernel_rfl
    rw [hC] at hi
    obtain ⟨A, hl, hA⟩ := list_of (p := fun i (q : AskV) => (i = 0 → a' = ⟨a'.block, a'.off, none⟩) ∧ (∀ j u, (askC.f q)[j]? = some u → W.cell? ⟨a'.block, a'.off + i * 6 + j, none⟩ = some u) ∧ AskLen q) len (fun i hil => by
      obtain ⟨cs, y, hcl, hat, ha, ht⟩ := hi i hil
      obtain ⟨q, rfl, hq⟩ := ask_cells ht
      refine ⟨q, fun h0 => ha 0 (by decide) (by rw [h0]), fun j u hu => ?_, hq⟩
      have hj : j < 6 := (List.getElem?_eq_some_iff.1 hu).1
      have := hat j hj
      rw [hu] at this
      simpa [Nat.add_assoc] using this)
    subst hl
    refine ⟨A, ⟨some a', cap, rfl, hm, hcap, (fun e => by cases e), fun i hil => ⟨a'.block, a'.off, congrArg some ((hA 0 (Nat.lt_of_le_of_lt (Nat.zero_le _) hil)).1 rfl), (hA i hil).2.1⟩⟩, fun f hf => ?_⟩
    obtain ⟨i, hi2, rfl⟩ := List.getElem_of_mem hf
    exact (hA i hi2).2.2
def badAsk (m : AskV) : Prop := 20 < m.kind.length ∨ 20 < m.a.length ∨ 20 < m.b.length ∨ 200 < m.s.length
instance (m : AskV) : Decidable (badAsk m) := by unfold badAsk; infer_instance
def longQ (most : Int) (L : List AskV) : Bool := decide (most < (L.length : Int)) || L.any fun m => decide (badAsk m)
theorem longQ_false {most : Int} {L : List AskV} (h : longQ most L = false) : (L.length : Int) ≤ most ∧ ∀ m ∈ L, ¬ badAsk m := by
  unfold longQ at h
  rw [Bool.or_eq_false_iff, List.any_eq_false] at h
  refine ⟨by have := of_decide_eq_false h.1; omega, fun f hf hb => ?_⟩
  have := h.2 f hf
  rw [decide_eq_true hb] at this
  exact this rfl
set_option maxHeartbeats 2000000 in
set_option maxRecDepth 100000 in
theorem longQ_any (x : Value) (A : List AskV) (most : Int) (w : World) (hx : AtG askC w x A) (hm : ∀ n ∈ A, AskLen n) :
    Calls Tryz.prog 7 #[x, .int .i64 most] w fun e w' => e = .returned (.bool (longQ most A)) ∧ w = w' := by
  obtain ⟨a, c, rfl, hml, _, _, ha⟩ := hx
  unfold maxLen at hml
  by_cases h80 : most < (A.length : Int)
  · have hr := Lib.hid (show longQ most A = true by unfold longQ; rw [decide_eq_true h80]; rfl)
    go_enter Tryz.func7, Tryz.ntmps7
    go_wp2_with fail
    go_ret
    exact ⟨ret_bool hr.out.symm, rfl⟩
  · have hr := Lib.hid (show longQ most A = A.any fun m => decide (badAsk m) by unfold longQ; rw [decide_eq_false h80]; rfl)
    go_enter Tryz.func7, Tryz.ntmps7
    go_wp2_with fail
    go_loopw [5] (fun i wr => ∃ j : Nat, j ≤ A.length ∧ i = .int .i64 j ∧ wr = w ∧ Hid (∀ q (h : q < A.length), q < j → ¬ badAsk A[q])) (fun i _ => A.length - (intOf i).toNat)
    case atStart => exact ⟨0, Nat.zero_le _, rfl, rfl, Lib.hid (fun q _ h => by omega)⟩
    case round =>
      obtain ⟨j, hj, rfl, rfl, hall⟩ := hrel
      by_cases hlt : j < A.length
      · obtain ⟨b, o, rfl, hcs⟩ := ha j hlt
        have c0 : wr.cell? ⟨b, o + j * 6, none⟩ = some (.string (bs A[j].kind)) := hcs 0 _ rfl
        have c1 : wr.cell? ⟨b, o + j * 6 + 1, none⟩ = some (.string (bs A[j].a)) := hcs 1 _ rfl
        have c2 : wr.cell? ⟨b, o + j * 6 + 2, none⟩ = some (.string (bs A[j].b)) := hcs 2 _ rfl
        have c3 : wr.cell? ⟨b, o + j * 6 + 3, none⟩ = some (.string (bs A[j].s)) := hcs 3 _ rfl
        clear hcs
        have hs0 := bs_size A[j].kind
        have hs1 := bs_size A[j].a
        have hs2 := bs_size A[j].b
        have hs3 := bs_size A[j].s
        have hmem := List.getElem_mem hlt
        obtain ⟨l0, l1, l2, l3⟩ := hm _ hmem
        unfold maxLen at l0 l1 l2 l3
        by_cases hb : badAsk A[j]
        · have hr2 := Lib.hid (show longQ most A = true by rw [hr.out, List.any_eq_true]; exact ⟨_, hmem, decide_eq_true hb⟩)
          unfold badAsk at hb
          clear hmem
          have hb2 : 20 < A[j].kind.length ∨ (¬ 20 < A[j].kind.length ∧ 20 < A[j].a.length) ∨ (¬ 20 < A[j].kind.length ∧ ¬ 20 < A[j].a.length ∧ 20 < A[j].b.length) ∨ (¬ 20 < A[j].kind.length ∧ ¬ 20 < A[j].a.length ∧ ¬ 20 < A[j].b.length ∧ 200 < A[j].s.length) := by omega
          clear hb
          rcases hb2 with hb | ⟨g1, hb⟩ | ⟨g1, g2, hb⟩ | ⟨g1, g2, g3, hb⟩
          all_goals
            go_wp2
            go_ret
            exact ⟨ret_bool hr2.out.symm, rfl⟩
        · have hall2 := Lib.hid (show ∀ q (h : q < A.length), q < j + 1 → ¬ badAsk A[q] from fun q h hq => by
            rcases Nat.lt_succ_iff_lt_or_eq.1 hq with h' | rfl
            · exact hall.out q h h'
            · exact hb)
          have hb2 : ¬ 20 < A[j].kind.length ∧ ¬ 20 < A[j].a.length ∧ ¬ 20 < A[j].b.length ∧ ¬ 200 < A[j].s.length := by unfold badAsk at hb; omega
          obtain ⟨g1, g2, g3, g4⟩ := hb2
          clear hmem hb
          go_wp2
          exact ⟨⟨j + 1, by omega, by simp, trivial, hall2⟩, by simp [intOf]; omega⟩
      · have hr2 := Lib.hid (show longQ most A = false by
          rw [hr.out, List.any_eq_false]
          intro y hy h
          obtain ⟨q, hq, rfl⟩ := List.getElem_of_mem hy
          exact hall.out q hq (by omega) (of_decide_eq_true h))
        go_wp2
        go_ret
        exact ⟨ret_bool hr2.out.symm, rfl⟩
end Go.Proofs.YtkhphdkjnpcnnaaGreatDoor

/- The law's coded, at an error of its own number. -/
namespace Go.Proofs.YtkhphdkjnpcnnaaGreatDoor
open Go.RowKit

theorem coded_same {E : Nat → Addr} (c : Nat) (w : World) (hL : LaidR E w) (h2 : c ≤ 16) :
    Calls Tryz.prog 21 #[errV E c, .int .i64 (c : Int)] w fun e w' => e = .returned (.bool true) ∧ Below w.heap.size w w' := by
  have h := coded_any (E := E) c (c : Int) w hL h2
  rw [show codedB c (c : Int) = true from decide_eq_true rfl] at h
  exact h
end Go.Proofs.YtkhphdkjnpcnnaaGreatDoor

/- The law's faulted: an error's number and place (for laws without seals). -/
namespace Go.Proofs.YtkhphdkjnpcnnaaGreatDoor
open Go.RowKit

theorem code_at {E : Nat → Addr} (v : Value) (c : Nat) (at_ : Int) (w : World) (hL : LaidR E w) (h : ErrAt E w v c at_) (h2 : c ≤ 16) :
    Calls Tryz.prog 68 #[v] w fun e w' => e = .returned (.tuple #[.int .i64 (c : Int), .int .i64 at_]) ∧ Below w.heap.size w w' := by
  rcases h with ⟨rfl, rfl⟩ | ⟨N, rfl, h1, h3, h4⟩
  · exact code_errV c w hL h2
  · obtain ⟨d, rfl⟩ : ∃ d, c = d + 1 := ⟨c - 1, by omega⟩
    exact code_fault N 0 at_ (d + 1) w hL h1 h2 h3 h4
set_option maxRecDepth 100000 in
theorem faulted_self {E : Nat → Addr} (v : Value) (c : Nat) (at_ : Int) (w : World) (hL : LaidR E w) (h : ErrAt E w v c at_) (h2 : c ≤ 16) :
    Calls Tryz.prog 49 #[v, .agg #[.int .i64 (c : Int), .int .i64 at_]] w fun e w' => e = .returned (.bool true) ∧ Below w.heap.size w w' := by
  have hA : Below w.heap.size w (w.alloc (.cells #[.int .i64 (c : Int), .int .i64 at_] 98)) := (Below.refl _ _).alloc (Nat.le_refl _) _
  have hrow := Lib.hid (heap_alloc_new w (.cells #[.int .i64 (c : Int), .int .i64 at_] 98))
  have hc := Lib.hid (code_at v c at_ _ (hL.below hA) (h.below hA) h2)
  clear h
  go_enter Tryz.func49, Tryz.ntmps49
  go_wp2_with fail
  refine hc.out.mono ?_
  rintro e w1 ⟨rfl, hb1⟩
  have hrr := Lib.hid (heap_down hb1 hrow.out)
  have hb2 := Lib.hid (below_trans hA hb1)
  clear hb1
  obtain ⟨⟨r0, r1⟩, _⟩ := two_kept (Below.refl _ _) hrr.out
  by_cases hz : c = 0
  · subst hz
    go_wp2_with fail
    go_ret
    exact ⟨rfl, hb2.out⟩
  · have hz' : ((c : Int) == 0) = false := by rw [beq_eq_false_iff_ne]; omega
    clear hz
    go_wp2_with fail
    go_ret
    exact ⟨rfl, hb2.out⟩
end Go.Proofs.YtkhphdkjnpcnnaaGreatDoor
