/- AnnT, RlmQ, RefB1 -/
import Derived.Test.YtkhphdkjnpcnnaaGreatDoorMg18
import Derived.Test.YtkhphdkjnpcnnaaGreatDoorMg19
import Derived.Test.YtkhphdkjnpcnnaaGreatDoorMg17
import Derived.Test.YtkhphdkjnpcnnaaGreatDoorMg7
import Derived.Test.YtkhphdkjnpcnnaaGreatDoorMg15
/- The ticket of the closed fact; a ticket's text is short: no program in sight. -/
namespace Go.Proofs.YtkhphdkjnpcnnaaGreatDoor
open Go.RowKit

theorem sealText_len7 (k : Int) {t : Tick} (h : tickErr t = 0) : (sealText k (tickWords t)).length ≤ 221 := by
  have hm := markOf_bd k (glue 32 (tickWords t))
  have hg := glue_len 32 (tickWords t) (fun x hx => ((isWord_iff x).1 (tickWords_words h x hx)).2.1)
  have hi := itoa_len10 hm.1 (by omega)
  rw [tickWords_len] at hg
  unfold sealText
  simp only [List.length_append, List.length_cons]
  omega
/-- The ticket of the closed fact. -/
def annT : Tick := ⟨[97, 110, 110], [100, 111, 111, 114], 1, 0, 9, 1⟩
theorem annT_err : tickErr annT = 0 := by decide
theorem annT_good8 : goodT annT 8 = 0 := by decide
theorem annT_good9 : goodT annT 9 = 12 := by decide
theorem annT_make : makeT 5 annT = (sealText 5 (tickWords annT), 0) := by
  unfold makeT
  rw [if_pos (by decide), if_pos annT_err]
theorem annT_open : openT 5 (sealText 5 (tickWords annT)) = (annT, 0) := openT_make (by decide) annT_err
theorem annT_size : (bs (sealText 5 (tickWords annT))).size ≤ 300 := by
  rw [bs_size]
  have := sealText_len7 5 annT_err
  omega
theorem tickErr_code (t : Tick) : tickErr t ≤ 16 := by
  unfold tickErr
  split
  · split <;> simp
  · simp
theorem ofWords_code (W : List (List UInt8)) : (ofWords W).2 ≤ 16 := by
  by_cases hl : W.length = 7
  · obtain ⟨a, b, c, d, e, f, g, rfl⟩ := seven_of hl
    by_cases ha : a = ticketW
    · subst ha
      cases h0 : numOf d with
      | none => rw [ofWords_none (j := 0) (by decide) h0]; simp
      | some n0 =>
      cases h1 : numOf e with
      | none => rw [ofWords_none (j := 1) (by decide) h1]; simp
      | some n1 =>
      cases h2 : numOf f with
      | none => rw [ofWords_none (j := 2) (by decide) h2]; simp
      | some n2 =>
      cases h3 : numOf g with
      | none => rw [ofWords_none (j := 3) (by decide) h3]; simp
      | some n3 =>
      rw [ofWords_some h0 h1 h2 h3]
      split
      · simp
      · exact tickErr_code _
    · rw [ofWords_first ha]; simp
  · rw [ofWords_len hl]; simp
theorem goodT_code (t : Tick) (now : Int) : goodT t now ≤ 16 := by
  unfold goodT
  split
  · split
    · split
      · simp
      · split <;> simp
    · simp
  · exact tickErr_code t
theorem openT_code (k : Int) (s : List UInt8) : (openT k s).2 ≤ 16 := by
  unfold openT
  split
  · exact ofWords_code _
  · exact openOf_code2 k s
theorem ofWords_ends (W : List (List UInt8)) : ((ofWords W).2 = 0 → tickErr (ofWords W).1 = 0) ∧ ((ofWords W).2 ≠ 0 → (ofWords W).1 = noTick) := by
  by_cases hl : W.length = 7
  · obtain ⟨a, b, c, d, e, f, g, rfl⟩ := seven_of hl
    by_cases ha : a = ticketW
    · subst ha
      cases h0 : numOf d with
      | none => rw [ofWords_none (j := 0) (by decide) h0]; exact ⟨fun h => (by cases h), fun _ => rfl⟩
      | some n0 =>
      cases h1 : numOf e with
      | none => rw [ofWords_none (j := 1) (by decide) h1]; exact ⟨fun h => (by cases h), fun _ => rfl⟩
      | some n1 =>
      cases h2 : numOf f with
      | none => rw [ofWords_none (j := 2) (by decide) h2]; exact ⟨fun h => (by cases h), fun _ => rfl⟩
      | some n2 =>
      cases h3 : numOf g with
      | none => rw [ofWords_none (j := 3) (by decide) h3]; exact ⟨fun h => (by cases h), fun _ => rfl⟩
      | some n3 =>
      rw [ofWords_some h0 h1 h2 h3]
      split
      · rename_i h; exact ⟨fun _ => h, fun h' => absurd rfl h'⟩
      · rename_i h; exact ⟨fun h' => absurd h' h, fun _ => rfl⟩
    · rw [ofWords_first ha]; exact ⟨fun h => (by cases h), fun _ => rfl⟩
  · rw [ofWords_len hl]; exact ⟨fun h => (by cases h), fun _ => rfl⟩
theorem openT_ends (k : Int) (s : List UInt8) : ((openT k s).2 = 0 → tickErr (openT k s).1 = 0) ∧ ((openT k s).2 ≠ 0 → (openT k s).1 = noTick) := by
  unfold openT
  split
  · exact ofWords_ends _
  · rename_i h; exact ⟨fun h' => absurd h' h, fun _ => rfl⟩
theorem tick_len20 {t : Tick} (h : tickErr t = 0) : t.who.length ≤ 1000 ∧ t.svc.length ≤ 1000 := by
  obtain ⟨h1, h2, _⟩ := tickErr_zero h
  have h3 := (isName_iff _).1 h1
  have h4 := (isName_iff _).1 h2
  omega
theorem openT_len (k : Int) (s : List UInt8) : (openT k s).1.who.length ≤ 1000 ∧ (openT k s).1.svc.length ≤ 1000 := by
  by_cases h : (openT k s).2 = 0
  · exact tick_len20 ((openT_ends k s).1 h)
  · rw [(openT_ends k s).2 h]; exact ⟨by decide, by decide⟩
end Go.Proofs.YtkhphdkjnpcnnaaGreatDoor

/- Asks of a realm: plain: no program in sight. -/
namespace Go.Proofs.YtkhphdkjnpcnnaaGreatDoor

/-- An ask. -/
structure AskV where
  kind : List UInt8
  a : List UInt8
  b : List UInt8
  s : List UInt8
  n : Int
  is : Bool
def kAdd : List UInt8 := [97, 100, 100]
def kOff : List UInt8 := [111, 102, 102]
def kLogin : List UInt8 := [108, 111, 103, 105, 110]
def kRenew : List UInt8 := [114, 101, 110, 101, 119]
def kRevoke : List UInt8 := [114, 101, 118, 111, 107, 101]
def kRekey : List UInt8 := [114, 101, 107, 101, 121]
def kFlush : List UInt8 := [102, 108, 117, 115, 104]
def kNext : List UInt8 := [110, 101, 120, 116]
/-- The proof that is asked for. -/
def proofOf (R : Rlm) (q : AskV) : Int := if q.is = true then (match findP R.b q.a with
  | some p => (markOf p.key (proofM R q.a)).1
  | none => q.n) else q.n
/-- A ticket, if there is one; the realm then. -/
def askM (R : Rlm) (q : AskV) (last : List UInt8) : List UInt8 × Rlm :=
  if q.kind = kAdd then ([], (addM R q.a q.n).2)
  else if q.kind = kOff then ([], (offM R q.a q.is).2)
  else if q.kind = kLogin then ((loginM R q.a (proofOf R q) q.b).1, (loginM R q.a (proofOf R q) q.b).2.2)
  else if q.kind = kRenew then ((renewM R (if q.s = [] then last else q.s) q.b).1, (renewM R (if q.s = [] then last else q.s) q.b).2.2)
  else if q.kind = kRevoke then ([], (revokeM R q.a).2.2)
  else if q.kind = kRekey then ([], (rekeyM R q.a q.n).2.2)
  else if q.kind = kFlush then ([], (flushM R).2.2)
  else if q.kind = kNext then ([], (nextM R q.n).2.2)
  else ([], R)
theorem GoodM.ask {R : Rlm} (h : GoodM R) (q : AskV) (last : List UInt8) : GoodM (askM R q last).2 := by
  unfold askM
  generalize (if q.s = [] then last else q.s) = z
  repeat' split
  · exact (h.add _ _).1
  · exact (h.off _ _).1
  · exact h.login _ _ _
  · exact h.renew _ _
  · exact (h.revoke _).1
  · exact (h.rekey _ _).1
  · exact h.flush.1
  · exact (h.next _).1
  · exact h
theorem change_serial (R : Rlm) (who : List UInt8) (n : Int) (B : List Per) : (changeM R who n B).2.2.serial = R.serial := by
  unfold changeM
  split <;> rfl
theorem login_serial (R : Rlm) (n : List UInt8) (pr : Int) (svc : List UInt8) : (loginM R n pr svc).2.2.serial ≤ R.serial + 1 := by
  unfold loginM
  split
  · split
    · dsimp only; omega
    · split
      · dsimp only; omega
      · split
        · dsimp only; omega
        · dsimp only
          split
          · exact Int.le_refl _
          · omega
  · dsimp only; omega
theorem renew_serial (R : Rlm) (s svc : List UInt8) : (renewM R s svc).2.2.serial ≤ R.serial + 1 := by
  unfold renewM
  split
  · dsimp only; omega
  · split
    · dsimp only; omega
    · split
      · dsimp only; omega
      · split
        · dsimp only; omega
        · unfold renewM2
          split
          · dsimp only; omega
          · split
            · dsimp only; omega
            · split
              · dsimp only; omega
              · split
                · dsimp only; omega
                · dsimp only
                  split
                  · exact Int.le_refl _
                  · omega
theorem ask_serial (R : Rlm) (q : AskV) (last : List UInt8) : (askM R q last).2.serial ≤ R.serial + 1 := by
  unfold askM
  generalize (if q.s = [] then last else q.s) = z
  repeat' split
  · show (addM R q.a q.n).2.serial ≤ _
    unfold addM
    split <;> (dsimp only; omega)
  · show R.serial ≤ _
    omega
  · exact login_serial _ _ _ _
  · exact renew_serial _ _ _
  · show (revokeM R q.a).2.2.serial ≤ _
    unfold revokeM
    split
    · dsimp only; omega
    · rw [change_serial]; omega
  · show (rekeyM R q.a q.n).2.2.serial ≤ _
    unfold rekeyM
    split
    · dsimp only; omega
    · rw [change_serial]; omega
  · show (flushM R).2.2.serial ≤ _
    unfold flushM
    split
    · dsimp only; omega
    · rw [change_serial]; omega
  · show (nextM R q.n).2.2.serial ≤ _
    unfold nextM
    split <;> (dsimp only; omega)
  · dsimp only; omega
theorem makeT_len (k : Int) (t : Tick) : (makeT k t).1.length ≤ 221 := by
  by_cases h : (makeT k t).2 = 0
  · obtain ⟨_, h2, h3⟩ := makeT_zero h
    rw [h3]
    exact sealText_len7 k h2
  · rw [makeT_bad h]
    exact Nat.zero_le _
theorem login_len (R : Rlm) (n : List UInt8) (pr : Int) (svc : List UInt8) : (loginM R n pr svc).1.length ≤ 221 := by
  unfold loginM
  repeat' split
  all_goals first | exact makeT_len _ _ | exact Nat.zero_le _
theorem renew_len (R : Rlm) (s svc : List UInt8) : (renewM R s svc).1.length ≤ 221 := by
  unfold renewM renewM2
  repeat' split
  all_goals first | exact makeT_len _ _ | exact Nat.zero_le _
theorem ask_len (R : Rlm) (q : AskV) (last : List UInt8) : (askM R q last).1.length ≤ 221 := by
  unfold askM
  generalize (if q.s = [] then last else q.s) = z
  repeat' split
  all_goals first | exact login_len _ _ _ _ | exact renew_len _ _ _ | exact Nat.zero_le _
theorem makeT_code2 (k : Int) (t : Tick) : (makeT k t).2 ≤ 16 := by
  unfold makeT
  split
  · split
    · exact Nat.zero_le _
    · exact tickErr_code t
  · decide
theorem renewT_code2 (t : Tick) (now til serial : Int) : (renewT t now til serial).2 ≤ 16 := by
  unfold renewT
  split
  · split
    · exact Nat.zero_le _
    · exact tickErr_code _
  · exact goodT_code t now
theorem rightOf_code3 (k : Int) (s : List UInt8) (n : Int) : rightOf k s n ≤ 16 := by
  have hm : (markOf k s).2 ≤ 16 := by unfold markOf; split <;> simp
  unfold rightOf
  split
  · split <;> simp
  · exact hm
theorem login_code (R : Rlm) (n : List UInt8) (pr : Int) (svc : List UInt8) : (loginM R n pr svc).2.1 ≤ 16 := by
  unfold loginM
  repeat' split
  all_goals first | exact makeT_code2 _ _ | exact rightOf_code3 _ _ _ | exact Nat.le_of_ble_eq_true rfl
theorem renew_code (R : Rlm) (s svc : List UInt8) : (renewM R s svc).2.1 ≤ 16 := by
  unfold renewM renewM2
  repeat' split
  all_goals first | exact makeT_code2 _ _ | exact renewT_code2 _ _ _ _ | exact openT_code _ _ | exact Nat.le_of_ble_eq_true rfl
end Go.Proofs.YtkhphdkjnpcnnaaGreatDoor

/- The reference's people, walked: PersonError, Find. -/
namespace Go.Proofs.YtkhphdkjnpcnnaaGreatDoor
open Go.RowKit

set_option maxRecDepth 100000 in
theorem errR_person (n : List UInt8) (k ep : Int) (o : Bool) (w : World) (hn : n.length ≤ maxLen) :
    Calls Tryz.prog 121 #[.agg #[.string (bs n), .int .i64 k, .int .i64 ep, .bool o]] w fun e w' => e = .returned (.int .i64 (checkOf n k ep : Nat)) ∧ Below w.heap.size w w' := by
  have hB : Below w.heap.size w (w.alloc (.cells #[.string (bs n), .int .i64 k, .int .i64 ep, .bool o] 46)) := (Below.refl _ _).alloc (Nat.le_refl _) _
  have hnw := fun wx => isNameR_any (bs n) wx (by rw [bs_size]; exact hn)
  have hkw := fun wx => isKey_any k wx
  rw [bs_list] at hnw
  have c0 : (w.alloc (.cells #[.string (bs n), .int .i64 k, .int .i64 ep, .bool o] 46)).cell? ⟨w.heap.size, 0, none⟩ = some (.string (bs n)) := by simp
  have c1 : (w.alloc (.cells #[.string (bs n), .int .i64 k, .int .i64 ep, .bool o] 46)).cell? ⟨w.heap.size, 1, none⟩ = some (.int .i64 k) := by simp
  have c2 : (w.alloc (.cells #[.string (bs n), .int .i64 k, .int .i64 ep, .bool o] 46)).cell? ⟨w.heap.size, 2, none⟩ = some (.int .i64 ep) := by simp
  have hcase : (isName n = false ∧ isKey k = false ∧ checkOf n k ep = 4) ∨ (isName n = false ∧ isKey k = true ∧ checkOf n k ep = 4) ∨ (isName n = true ∧ isKey k = false ∧ checkOf n k ep = 10) ∨ (isName n = true ∧ isKey k = true ∧ checkOf n k ep = 2 ∧ ep < 1) ∨ (isName n = true ∧ isKey k = true ∧ checkOf n k ep = 2 ∧ 1 ≤ ep ∧ 1073741824 < ep) ∨ (isName n = true ∧ isKey k = true ∧ checkOf n k ep = 0 ∧ 1 ≤ ep ∧ ep ≤ 1073741824) := by
    unfold checkOf
    cases isName n <;> cases isKey k <;> simp
    omega
  generalize checkOf n k ep = r at *
  rcases hcase with ⟨h1, h2, rfl⟩ | ⟨h1, h2, rfl⟩ | ⟨h1, h2, rfl⟩ | ⟨h1, h2, rfl, h3⟩ | ⟨h1, h2, rfl, h3, h4⟩ | ⟨h1, h2, rfl, h3, h4⟩
  all_goals
    rw [h1] at hnw
    rw [h2] at hkw
    clear h1 h2
    have hnH := Lib.hid hnw
    have hkH := Lib.hid hkw
    clear hnw hkw
    go_enter Tryz.func121, Tryz.ntmps121
    go_wp2_with fail
    refine (hnH.out _).mono ?_
    rintro e w' ⟨rfl, rfl⟩
    go_wp2_with fail
    refine (hkH.out _).mono ?_
    rintro e w' ⟨rfl, rfl⟩
    go_wp2_with fail
    go_ret
    exact ⟨rfl, hB⟩

theorem bs_beq_true {l d : List UInt8} (h : l = d) : ((bs l).toList == (bs d).toList) = true := by rw [h]; exact beq_self_eq_true _
theorem bs_beq_ne {l d : List UInt8} (h : l ≠ d) : ((bs l).toList == (bs d).toList) = false := by
  rw [toList_data, toList_data, bs_list, bs_list]
  exact beq_eq_false_iff_ne.2 h
set_option maxRecDepth 100000 in
theorem findR_any (base b : Nat) (L : List Per) (n : List UInt8) (w : World) (hB : RefAt w base b L) (hm : L.length ≤ 1000) :
    Calls Tryz.prog 11 #[.pointer (some ⟨b, 0, none⟩), .string (bs n)] w fun e w' => e = .returned (.int .i64 (findIx L n)) ∧ Below w.heap.size w w' := by
  obtain ⟨v, hc, ho, _, _⟩ := hB.at0
  obtain ⟨⟨a, c, rfl, hm2, ha⟩, _⟩ := persAt_of_ownsRow (by unfold maxLen; omega) ho
  have ha := Lib.hid ha
  clear ho
  go_enter Tryz.func11, Tryz.ntmps11
  go_wp2_with fail
  go_loopw [5] (fun i wr => ∃ (j m : Nat), j ≤ L.length ∧ i = .int .i64 j ∧ wr = w.drewN m ∧ Hid (∀ q (h : q < L.length), q < j → L[q].name ≠ n)) (fun i _ => L.length - (intOf i).toNat)
  case atStart => exact ⟨0, 0, Nat.zero_le _, rfl, rfl, Lib.hid (fun _ _ h => absurd h (Nat.not_lt_zero _))⟩
  case round =>
    obtain ⟨j, m, hj, rfl, rfl, hall⟩ := hrel
    by_cases hlt : j < L.length
    · obtain ⟨bb, o, rfl, h0, _⟩ := ha.out j hlt
      by_cases he : L[j].name = n
      · have hr := Lib.hid (show findIx L n = (j : Int) by unfold findIx; rw [idxP_at hlt hall.out he])
        have e1 := bs_beq_true he
        clear he
        go_wp2_with fail
        go_ret
        exact ⟨ret_int hr.out.symm, below_drawn (Below.refl _ _) _⟩
      · have hall2 := Lib.hid (show ∀ q (h : q < L.length), q < j + 1 → L[q].name ≠ n from fun q h hq => by
          rcases Nat.lt_succ_iff_lt_or_eq.1 hq with h' | rfl
          · exact hall.out q h h'
          · exact he)
        have e1 := bs_beq_ne he
        clear he
        go_wp2_with fail
        exact ⟨⟨j + 1, _, by omega, by simp, rfl, hall2⟩, by simp [intOf]; omega⟩
    · have hr := Lib.hid (show findIx L n = -1 by
        unfold findIx
        rw [idxP_not (fun p hp => by
          obtain ⟨q, hq, rfl⟩ := List.getElem_of_mem hp
          exact hall.out q hq (by omega))])
      have hge : ¬ ((j : Int) < (L.length : Int)) := by omega
      go_wp2_with fail
      go_ret
      exact ⟨ret_int hr.out.symm, below_drawn (Below.refl _ _) _⟩
end Go.Proofs.YtkhphdkjnpcnnaaGreatDoor
