/- RlmX, TickG -/
import Derived.Test.YtkhphdkjnpcnnaaGreatDoorMg11
import Derived.Test.YtkhphdkjnpcnnaaGreatDoorMg12
import Derived.Test.YtkhphdkjnpcnnaaGreatDoorMg3
import Derived.Test.YtkhphdkjnpcnnaaGreatDoorMg4
import Derived.Deep.RegionHeld3
import Derived.Deep.LoopGhost
import Derived.IntWalk
/- Two of a realm; what is asked of one: walked. -/
namespace Go.Proofs.YtkhphdkjnpcnnaaGreatDoor
open Go.RowKit

set_option maxHeartbeats 4000000 in
set_option maxRecDepth 100000 in
theorem two_any {E : Nat → Addr} {base a b r : Nat} {R : Rlm} (n m : List UInt8) (w : World) (hL : Laid E w) (hR : RlmAt w base a b r R) :
    Calls Tryz.prog 50 #[.pointer (some ⟨a, 0, none⟩), .string (bs n), .string (bs m)] w fun e w' => e = .returned (.tuple #[.agg #[.string (bs (getV R.b n).name), .int .i64 (getV R.b n).key, .int .i64 (getV R.b n).epoch, .bool (getV R.b n).off], .agg #[.string (bs (getV R.b m).name), .int .i64 (getV R.b m).key, .int .i64 (getV R.b m).epoch, .bool (getV R.b m).off], errV E (twoC R.b n m)]) ∧ Below w.heap.size w w' := by
  have hA := ((Below.refl w.heap.size w).alloc (Nat.le_refl _) (.cells #[.string ⟨#[]⟩, .int .i64 0, .int .i64 0, .bool false] 46)).alloc (by simp) (.cells #[.string ⟨#[]⟩, .int .i64 0, .int .i64 0, .bool false] 46)
  have hx0 := heap_alloc_new w (.cells #[.string ⟨#[]⟩, .int .i64 0, .int .i64 0, .bool false] 46)
  have hx0 := heap_down ((Below.refl _ _).alloc (Nat.le_refl _) (.cells #[.string ⟨#[]⟩, .int .i64 0, .int .i64 0, .bool false] 46)) hx0
  have hx1 := heap_alloc_new (w.alloc (.cells #[.string ⟨#[]⟩, .int .i64 0, .int .i64 0, .bool false] 46)) (.cells #[.string ⟨#[]⟩, .int .i64 0, .int .i64 0, .bool false] 46)
  rw [World.size_alloc] at hx1
  generalize hw0 : ((w.alloc (.cells #[.string ⟨#[]⟩, .int .i64 0, .int .i64 0, .bool false] 46)).alloc (.cells #[.string ⟨#[]⟩, .int .i64 0, .int .i64 0, .bool false] 46)) = w0 at *
  have hRw := Lib.hid (fun wx (hx : Below w.heap.size w wx) => hR.below hx)
  have hLw := Lib.hid (fun wx (hx : Below w.heap.size w wx) => hL.below hx)
  obtain ⟨al, cl, ⟨_, _, _, _, c4, _⟩, _, _⟩ := (hR.below hA).cells
  have hg := Lib.hid (fun wx n (hx : Below w.heap.size w wx) => get_v (E := E) b r R.b n wx (hL.below hx) (hR.below hx).book)
  have hA := Lib.hid hA
  have hq := Lib.hid (show twoC R.b n m = if getC R.b n ≠ 0 ∨ getC R.b m ≠ 0 then 5 else if (getV R.b n).off = true ∨ (getV R.b m).off = true then 16 else 0 from rfl)
  have hc2 := getC_two R.b n
  have hd2 := getC_two R.b m
  have hg1 := Lib.hid (hg.out w0 n hA.out)
  have hg2 := Lib.hid (fun wx (hx : Below w.heap.size w wx) => hg.out wx m hx)
  clear hL hR hg
  generalize getV R.b n = P at *
  generalize getV R.b m = S at *
  generalize getC R.b n = gc at *
  generalize getC R.b m = gd at *
  generalize twoC R.b n m = oc at *
  obtain ⟨pn, pk, pe, po⟩ := P
  obtain ⟨qn, qk, qe, qo⟩ := S
  dsimp only at *
  have hx0 := Lib.hid hx0
  have hx1 := Lib.hid hx1
  go_enter Tryz.func50, Tryz.ntmps50
  go_wp2_with fail
  clear hw0
  refine hg1.out.mono ?_
  rintro e w1 ⟨rfl, hb⟩
  have hr0 := heap_down hb hx0.out
  have hr1 := heap_down hb hx1.out
  have hx := below_trans hA.out hb
  have hy := below_set4 (n := w.heap.size) hx (Nat.le_refl _) (.string (bs pn)) (.int .i64 pk) (.int .i64 pe) (.bool po)
  obtain ⟨_, f0, f1, f2, f3⟩ := fourC_of hr0
  have hs0 := row_set4 hr0 (.string (bs pn)) (.int .i64 pk) (.int .i64 pe) (.bool po)
  have hs1 := row_other4 hr1 (show w.heap.size + 1 ≠ w.heap.size by omega) (.string (bs pn)) (.int .i64 pk) (.int .i64 pe) (.bool po)
  obtain ⟨al2, cl2, ⟨_, _, _, _, d4, _⟩, _, _⟩ := (hRw.out _ hy).cells
  have hg2 := Lib.hid (hg2.out _ hy)
  have hs0 := Lib.hid hs0
  have hs1 := Lib.hid hs1
  have hy := Lib.hid hy
  clear hb hx hr0 hr1 c4 hg1 hA hx0 hx1
  go_wp2_with fail
  generalize ((((w1.setCell ⟨w.heap.size, 0, none⟩ (.string (bs pn))).setCell ⟨w.heap.size, 1, none⟩ (.int .i64 pk)).setCell ⟨w.heap.size, 2, none⟩ (.int .i64 pe)).setCell ⟨w.heap.size, 3, none⟩ (.bool po)) = w2 at *
  clear f0 f1 f2 f3 d4
  refine hg2.out.mono ?_
  rintro e w3 ⟨rfl, hb⟩
  have hr0 := heap_down hb hs0.out
  have hr1 := heap_down hb hs1.out
  have hx := below_trans hy.out hb
  obtain ⟨_, f0, f1, f2, f3⟩ := fourC_of hr1
  have hy := below_set4 (n := w.heap.size + 1) hx (Nat.le_succ _) (.string (bs qn)) (.int .i64 qk) (.int .i64 qe) (.bool qo)
  have hs1 := row_set4 hr1 (.string (bs qn)) (.int .i64 qk) (.int .i64 qe) (.bool qo)
  have hs0 := row_other4 hr0 (show w.heap.size ≠ w.heap.size + 1 by omega) (.string (bs qn)) (.int .i64 qk) (.int .i64 qe) (.bool qo)
  have he5 := (hLw.out _ hy).e5
  have he16 := (hLw.out _ hy).e16
  obtain ⟨⟨r0, r1, r2, r3⟩, k0, k1, k2, k3⟩ := fourC_of hs0
  obtain ⟨⟨s0, s1, s2, s3⟩, l0, l1, l2, l3⟩ := fourC_of hs1
  have hs0 := Lib.hid hs0
  have hs1 := Lib.hid hs1
  have hy := Lib.hid hy
  clear hb hx hr0 hr1 hg2
  rcases hc2 with rfl | rfl
  · rcases hd2 with rfl | rfl
    · cases po with
      | false =>
        cases qo with
        | false =>
          have hq := hq.out
          rw [if_neg (by decide), if_neg (by decide)] at hq
          subst hq
          have hz0 := heap_down ((Below.refl _ _).drew) (row_other4 (row_set4 hs0.out (.string (bs pn)) (.int .i64 pk) (.int .i64 pe) (.bool false)) (show w.heap.size ≠ w.heap.size + 1 by omega) (.string (bs qn)) (.int .i64 qk) (.int .i64 qe) (.bool false))
          have hz1 := heap_down ((Below.refl _ _).drew) (row_set4 (row_other4 hs1.out (show w.heap.size + 1 ≠ w.heap.size by omega) (.string (bs pn)) (.int .i64 pk) (.int .i64 pe) (.bool false)) (.string (bs qn)) (.int .i64 qk) (.int .i64 qe) (.bool false))
          have hfin := Lib.hid ((below_set4 (below_set4 hy.out (Nat.le_refl _) (.string (bs pn)) (.int .i64 pk) (.int .i64 pe) (.bool false)) (Nat.le_succ _) (.string (bs qn)) (.int .i64 qk) (.int .i64 qe) (.bool false)).drew)
          have hz := Lib.hid (And.intro (fourC_of hz0).1 (fourC_of hz1).1)
          clear hz0 hz1
          simp only [errV]
          go_wp2_with fail
          go_region
          go_wp2_with fail
          obtain ⟨⟨t0, t1, t2, t3⟩, u0, u1, u2, u3⟩ := hz.out
          exact bodyPost_ret (v := .tuple #[.agg #[.string (bs pn), .int .i64 pk, .int .i64 pe, .bool false], .agg #[.string (bs qn), .int .i64 qk, .int .i64 qe, .bool false], errV E 0]) (by simp [results, Tryz.results50, go_sem, errV, t0, t1, t2, t3, u0, u1, u2, u3]) rfl ⟨rfl, hfin.out⟩
        | true =>
          have hq := hq.out
          rw [if_neg (by decide), if_pos (by decide)] at hq
          subst hq
          have hz0 := heap_down ((Below.refl _ _).drew) (row_other4 (row_set4 hs0.out (.string (bs pn)) (.int .i64 pk) (.int .i64 pe) (.bool false)) (show w.heap.size ≠ w.heap.size + 1 by omega) (.string (bs qn)) (.int .i64 qk) (.int .i64 qe) (.bool true))
          have hz1 := heap_down ((Below.refl _ _).drew) (row_set4 (row_other4 hs1.out (show w.heap.size + 1 ≠ w.heap.size by omega) (.string (bs pn)) (.int .i64 pk) (.int .i64 pe) (.bool false)) (.string (bs qn)) (.int .i64 qk) (.int .i64 qe) (.bool true))
          have hfin := Lib.hid ((below_set4 (below_set4 hy.out (Nat.le_refl _) (.string (bs pn)) (.int .i64 pk) (.int .i64 pe) (.bool false)) (Nat.le_succ _) (.string (bs qn)) (.int .i64 qk) (.int .i64 qe) (.bool true)).drew)
          have hz := Lib.hid (And.intro (fourC_of hz0).1 (fourC_of hz1).1)
          clear hz0 hz1
          simp only [errV]
          go_wp2_with fail
          go_region
          go_wp2_with fail
          obtain ⟨⟨t0, t1, t2, t3⟩, u0, u1, u2, u3⟩ := hz.out
          exact bodyPost_ret (v := .tuple #[.agg #[.string (bs pn), .int .i64 pk, .int .i64 pe, .bool false], .agg #[.string (bs qn), .int .i64 qk, .int .i64 qe, .bool true], errV E 16]) (by simp [results, Tryz.results50, go_sem, errV, t0, t1, t2, t3, u0, u1, u2, u3]) rfl ⟨rfl, hfin.out⟩
      | true =>
        have hq := hq.out
        rw [if_neg (by decide), if_pos (.inl rfl)] at hq
        subst hq
        have hz0 := heap_down ((Below.refl _ _).drew) (row_other4 (row_set4 hs0.out (.string (bs pn)) (.int .i64 pk) (.int .i64 pe) (.bool true)) (show w.heap.size ≠ w.heap.size + 1 by omega) (.string (bs qn)) (.int .i64 qk) (.int .i64 qe) (.bool qo))
        have hz1 := heap_down ((Below.refl _ _).drew) (row_set4 (row_other4 hs1.out (show w.heap.size + 1 ≠ w.heap.size by omega) (.string (bs pn)) (.int .i64 pk) (.int .i64 pe) (.bool true)) (.string (bs qn)) (.int .i64 qk) (.int .i64 qe) (.bool qo))
        have hfin := Lib.hid ((below_set4 (below_set4 hy.out (Nat.le_refl _) (.string (bs pn)) (.int .i64 pk) (.int .i64 pe) (.bool true)) (Nat.le_succ _) (.string (bs qn)) (.int .i64 qk) (.int .i64 qe) (.bool qo)).drew)
        have hz := Lib.hid (And.intro (fourC_of hz0).1 (fourC_of hz1).1)
        clear hz0 hz1
        simp only [errV]
        go_wp2_with fail
        go_region
        go_wp2_with fail
        obtain ⟨⟨t0, t1, t2, t3⟩, u0, u1, u2, u3⟩ := hz.out
        exact bodyPost_ret (v := .tuple #[.agg #[.string (bs pn), .int .i64 pk, .int .i64 pe, .bool true], .agg #[.string (bs qn), .int .i64 qk, .int .i64 qe, .bool qo], errV E 16]) (by simp [results, Tryz.results50, go_sem, errV, t0, t1, t2, t3, u0, u1, u2, u3]) rfl ⟨rfl, hfin.out⟩
    · have hq := hq.out
      rw [if_pos (by decide)] at hq
      subst hq
      have hz0 := heap_down ((Below.refl _ _).drew) (row_other4 (row_set4 hs0.out (.string (bs pn)) (.int .i64 pk) (.int .i64 pe) (.bool po)) (show w.heap.size ≠ w.heap.size + 1 by omega) (.string (bs qn)) (.int .i64 qk) (.int .i64 qe) (.bool qo))
      have hz1 := heap_down ((Below.refl _ _).drew) (row_set4 (row_other4 hs1.out (show w.heap.size + 1 ≠ w.heap.size by omega) (.string (bs pn)) (.int .i64 pk) (.int .i64 pe) (.bool po)) (.string (bs qn)) (.int .i64 qk) (.int .i64 qe) (.bool qo))
      have hfin := Lib.hid ((below_set4 (below_set4 hy.out (Nat.le_refl _) (.string (bs pn)) (.int .i64 pk) (.int .i64 pe) (.bool po)) (Nat.le_succ _) (.string (bs qn)) (.int .i64 qk) (.int .i64 qe) (.bool qo)).drew)
      have hz := Lib.hid (And.intro (fourC_of hz0).1 (fourC_of hz1).1)
      clear hz0 hz1
      simp only [errV]
      go_wp2_with fail
      go_region
      go_wp2_with fail
      obtain ⟨⟨t0, t1, t2, t3⟩, u0, u1, u2, u3⟩ := hz.out
      exact bodyPost_ret (v := .tuple #[.agg #[.string (bs pn), .int .i64 pk, .int .i64 pe, .bool po], .agg #[.string (bs qn), .int .i64 qk, .int .i64 qe, .bool qo], errV E 5]) (by simp [results, Tryz.results50, go_sem, errV, t0, t1, t2, t3, u0, u1, u2, u3]) rfl ⟨rfl, hfin.out⟩
  · rcases hd2 with rfl | rfl
    · have hq := hq.out
      rw [if_pos (.inl (by decide))] at hq
      subst hq
      have hz0 := heap_down ((Below.refl _ _).drew) (row_other4 (row_set4 hs0.out (.string (bs pn)) (.int .i64 pk) (.int .i64 pe) (.bool po)) (show w.heap.size ≠ w.heap.size + 1 by omega) (.string (bs qn)) (.int .i64 qk) (.int .i64 qe) (.bool qo))
      have hz1 := heap_down ((Below.refl _ _).drew) (row_set4 (row_other4 hs1.out (show w.heap.size + 1 ≠ w.heap.size by omega) (.string (bs pn)) (.int .i64 pk) (.int .i64 pe) (.bool po)) (.string (bs qn)) (.int .i64 qk) (.int .i64 qe) (.bool qo))
      have hfin := Lib.hid ((below_set4 (below_set4 hy.out (Nat.le_refl _) (.string (bs pn)) (.int .i64 pk) (.int .i64 pe) (.bool po)) (Nat.le_succ _) (.string (bs qn)) (.int .i64 qk) (.int .i64 qe) (.bool qo)).drew)
      have hz := Lib.hid (And.intro (fourC_of hz0).1 (fourC_of hz1).1)
      clear hz0 hz1
      simp only [errV]
      go_wp2_with fail
      go_region
      go_wp2_with fail
      obtain ⟨⟨t0, t1, t2, t3⟩, u0, u1, u2, u3⟩ := hz.out
      exact bodyPost_ret (v := .tuple #[.agg #[.string (bs pn), .int .i64 pk, .int .i64 pe, .bool po], .agg #[.string (bs qn), .int .i64 qk, .int .i64 qe, .bool qo], errV E 5]) (by simp [results, Tryz.results50, go_sem, errV, t0, t1, t2, t3, u0, u1, u2, u3]) rfl ⟨rfl, hfin.out⟩
    · have hq := hq.out
      rw [if_pos (.inl (by decide))] at hq
      subst hq
      have hz0 := heap_down ((Below.refl _ _).drew) (row_other4 (row_set4 hs0.out (.string (bs pn)) (.int .i64 pk) (.int .i64 pe) (.bool po)) (show w.heap.size ≠ w.heap.size + 1 by omega) (.string (bs qn)) (.int .i64 qk) (.int .i64 qe) (.bool qo))
      have hz1 := heap_down ((Below.refl _ _).drew) (row_set4 (row_other4 hs1.out (show w.heap.size + 1 ≠ w.heap.size by omega) (.string (bs pn)) (.int .i64 pk) (.int .i64 pe) (.bool po)) (.string (bs qn)) (.int .i64 qk) (.int .i64 qe) (.bool qo))
      have hfin := Lib.hid ((below_set4 (below_set4 hy.out (Nat.le_refl _) (.string (bs pn)) (.int .i64 pk) (.int .i64 pe) (.bool po)) (Nat.le_succ _) (.string (bs qn)) (.int .i64 qk) (.int .i64 qe) (.bool qo)).drew)
      have hz := Lib.hid (And.intro (fourC_of hz0).1 (fourC_of hz1).1)
      clear hz0 hz1
      simp only [errV]
      go_wp2_with fail
      go_region
      go_wp2_with fail
      obtain ⟨⟨t0, t1, t2, t3⟩, u0, u1, u2, u3⟩ := hz.out
      exact bodyPost_ret (v := .tuple #[.agg #[.string (bs pn), .int .i64 pk, .int .i64 pe, .bool po], .agg #[.string (bs qn), .int .i64 qk, .int .i64 qe, .bool qo], errV E 5]) (by simp [results, Tryz.results50, go_sem, errV, t0, t1, t2, t3, u0, u1, u2, u3]) rfl ⟨rfl, hfin.out⟩

set_option maxRecDepth 100000 in
/-- What a proof is given for. -/
theorem proof_any {E : Nat → Addr} {base a b r : Nat} {R : Rlm} (n : List UInt8) (w : World) (hL : LaidS E w) (hR : RlmAt w base a b r R) (hn : n.length ≤ 1000) (h0 : 0 ≤ R.time) (h1 : R.time ≤ 1000000) :
    Calls Tryz.prog 52 #[.pointer (some ⟨a, 0, none⟩), .string (bs n)] w fun e w' => e = .returned (.string (bs (proofM R n))) ∧ Below w.heap.size w w' := by
  obtain ⟨al, cl, ⟨_, _, c2, _, _, _⟩, _, _⟩ := hR.cells
  have hit := Lib.hid (itoa_any R.time (by omega) (by omega) w hL)
  have hs1 : (bs n).size = n.length := bs_size n
  have hs2 : (bs n ++ (⟨#[32]⟩ : ByteArray)).size = n.length + 1 := by rw [ByteArray.size_append, hs1]; rfl
  have hs3 : (bs n ++ (⟨#[32]⟩ : ByteArray) ++ bs (Lib.itoa R.time)).size ≤ n.length + 21 := by
    rw [ByteArray.size_append, hs2, bs_size]
    have := itoa_len (n := R.time) (by omega) (by omega)
    omega
  have hs4 : (bs (Lib.itoa R.time)).size ≤ 20 := by rw [bs_size]; exact itoa_len (by omega) (by omega)
  have hsA : ¬ 9223372036854775807 < (bs n).size + 1 := by omega
  have hsB : ¬ 9223372036854775807 < (bs n).size + 1 + (bs (Lib.itoa R.time)).size := by omega
  have hfin := Lib.hid (show bs n ++ (⟨#[32]⟩ : ByteArray) ++ bs (Lib.itoa R.time) = bs (proofM R n) by
    rw [show (⟨#[32]⟩ : ByteArray) = bs [32] from rfl, str_add, str_add, List.append_assoc]
    rfl)
  go_enter Tryz.func52, Tryz.ntmps52
  go_wp2_with fail
  refine hit.out.mono ?_
  rintro e w1 ⟨rfl, hb⟩
  have hb := Lib.hid hb
  go_wp2_with fail
  go_ret
  exact ⟨congrArg (fun s => Ending.returned (.string s)) hfin.out, hb.out⟩
end Go.Proofs.YtkhphdkjnpcnnaaGreatDoor

/- The walks of package ticket: Check, Good by contracts. -/
namespace Go.Proofs.YtkhphdkjnpcnnaaGreatDoor
open Go.RowKit

def Tick.val (t : Tick) : Value := .agg #[.string (bs t.who), .string (bs t.svc), .int .i64 t.epoch, .int .i64 t.beg, .int .i64 t.fin, .int .i64 t.serial]
def Tick.cells (t : Tick) : Array Value := #[.string (bs t.who), .string (bs t.svc), .int .i64 t.epoch, .int .i64 t.beg, .int .i64 t.fin, .int .i64 t.serial]
/-- Are a ticket's texts short enough for memory? -/
def TickLen (t : Tick) : Prop := t.who.length ≤ maxLen ∧ t.svc.length ≤ maxLen
def inB (n lo hi : Int) : Bool := decide (lo ≤ n) && decide (n ≤ hi)
theorem tickNum_in (t : Tick) : tickNum t = (inB t.epoch 1 1073741824 && (inB t.serial 1 1073741824 && (inB t.beg 0 1000000 && inB t.fin t.beg 1000000))) := rfl
theorem in_any (n lo hi : Int) (b : Bool) (w : World) (h : inB n lo hi = b) :
    Calls Tryz.prog 137 #[.int .i64 n, .int .i64 lo, .int .i64 hi] w fun e w' => e = .returned (.bool b) ∧ w = w' := by
  subst h
  unfold inB
  by_cases h1 : lo ≤ n <;> by_cases h2 : n ≤ hi
  all_goals
    go_enter Tryz.func137, Tryz.ntmps137
    go_wp2
    go_ret
    exact ⟨by simp [h1, h2], rfl⟩
set_option maxRecDepth 100000 in
theorem check_tick {E : Nat → Addr} (t : Tick) (w : World) (hL : Laid E w) (hl : TickLen t) :
    Calls Tryz.prog 98 #[t.val] w fun e w' => e = .returned (errV E (tickErr t)) ∧ Below w.heap.size w w' := by
  have hB : Below w.heap.size w (w.alloc (.cells t.cells 51)) := (Below.refl _ _).alloc (Nat.le_refl _) _
  have hnw := Lib.hid (fun wx => name_any (bs t.who) wx (by rw [bs_size]; exact hl.1))
  have hns := Lib.hid (fun wx => name_any (bs t.svc) wx (by rw [bs_size]; exact hl.2))
  have hte : ∀ a b c, isName t.who = a → isName t.svc = b → tickNum t = c → tickErr t = if (a && b) = true then (if c = true then 0 else 2) else 4 := by
    intro a b c h1 h2 h3; subst h1; subst h2; subst h3; rfl
  have hnum := tickNum_in t
  obtain ⟨who, svc, ep, bg, fn, sr⟩ := t
  dsimp only [Tick.val, Tick.cells] at *
  have c1 : (w.alloc (.cells #[.string (bs who), .string (bs svc), .int .i64 ep, .int .i64 bg, .int .i64 fn, .int .i64 sr] 51)).cell? ⟨w.heap.size, 1, none⟩ = some (.string (bs svc)) := by simp
  have c2 : (w.alloc (.cells #[.string (bs who), .string (bs svc), .int .i64 ep, .int .i64 bg, .int .i64 fn, .int .i64 sr] 51)).cell? ⟨w.heap.size, 2, none⟩ = some (.int .i64 ep) := by simp
  have c3 : (w.alloc (.cells #[.string (bs who), .string (bs svc), .int .i64 ep, .int .i64 bg, .int .i64 fn, .int .i64 sr] 51)).cell? ⟨w.heap.size, 3, none⟩ = some (.int .i64 bg) := by simp
  have c4 : (w.alloc (.cells #[.string (bs who), .string (bs svc), .int .i64 ep, .int .i64 bg, .int .i64 fn, .int .i64 sr] 51)).cell? ⟨w.heap.size, 4, none⟩ = some (.int .i64 fn) := by simp
  have c5 : (w.alloc (.cells #[.string (bs who), .string (bs svc), .int .i64 ep, .int .i64 bg, .int .i64 fn, .int .i64 sr] 51)).cell? ⟨w.heap.size, 5, none⟩ = some (.int .i64 sr) := by simp
  cases ha : isName who with
  | false =>
    have hr := Lib.hid ((hte false (isName svc) _ ha rfl rfl).trans (show _ = 4 from by rw [Bool.false_and]; rfl))
    have ha2 := Lib.hid (show isName (bs who).data.toList = false from ha)
    clear hte hnum ha c1 c2 c3 c4 c5
    go_enter Tryz.func98, Tryz.ntmps98
    go_wp2_with fail
    refine (hnw.out _).mono ?_
    rintro e w1 ⟨rfl, hb⟩
    rw [ha2.out]
    have hb := Lib.hid (below_trans hB hb)
    have he := (hL.below hb.out).e4
    go_wp2_with fail
    go_ret
    exact ⟨by rw [hr.out]; rfl, hb.out⟩
  | true =>
  have ha2 := Lib.hid (show isName (bs who).data.toList = true from ha)
  cases hb' : isName svc with
  | false =>
    have hr := Lib.hid ((hte true false _ ha hb' rfl).trans (show _ = 4 from rfl))
    have hb2 := Lib.hid (show isName (bs svc).data.toList = false from hb')
    clear hte hnum ha hb'
    go_enter Tryz.func98, Tryz.ntmps98
    go_wp2_with fail
    refine (hnw.out _).mono ?_
    rintro e w1 ⟨rfl, hb⟩
    rw [ha2.out]
    have d1 := cell_below hb c1
    have hb := Lib.hid (below_trans hB hb)
    clear c1 c2 c3 c4 c5
    go_wp2_with fail
    refine (hns.out _).mono ?_
    rintro e w2 ⟨rfl, hb3⟩
    rw [hb2.out]
    have hb3 := Lib.hid (below_trans hb.out hb3)
    have he := (hL.below hb3.out).e4
    clear d1
    go_wp2_with fail
    go_ret
    exact ⟨by rw [hr.out]; rfl, hb3.out⟩
  | true =>
  have hb2 := Lib.hid (show isName (bs svc).data.toList = true from hb')
  cases hA : inB ep 1 1073741824 with
  | false =>
    have hr := Lib.hid ((hte true true false ha hb' (hnum.trans (by rw [hA]; rfl))).trans (show _ = 2 from rfl))
    clear hte hnum ha hb'
    go_enter Tryz.func98, Tryz.ntmps98
    go_wp2_with fail
    refine (hnw.out _).mono ?_
    rintro e w1 ⟨rfl, hb⟩
    rw [ha2.out]
    have d1 := cell_below hb c1
    have d2 := cell_below hb c2
    have d3 := cell_below hb c3
    have d4 := cell_below hb c4
    have d5 := cell_below hb c5
    have hb := Lib.hid (below_trans hB hb)
    clear c1 c2 c3 c4 c5
    go_wp2_with fail
    refine (hns.out _).mono ?_
    rintro e w2 ⟨rfl, hb3⟩
    rw [hb2.out]
    have f2 := cell_below hb3 d2
    have f3 := cell_below hb3 d3
    have f4 := cell_below hb3 d4
    have f5 := cell_below hb3 d5
    have hb3 := Lib.hid (below_trans hb.out hb3)
    clear d1 d2 d3 d4 d5
    have he := (hL.below hb3.out).e2
    go_wp2_with (go_at_call 137; refine (in_any _ _ _ _ _ (by assumption)).mono ?_; rintro e w' ⟨rfl, rfl⟩)
    go_ret
    exact ⟨by rw [hr.out]; rfl, hb3.out⟩
  | true =>
  cases hB2 : inB sr 1 1073741824 with
  | false =>
    have hr := Lib.hid ((hte true true false ha hb' (hnum.trans (by rw [hA, hB2]; rfl))).trans (show _ = 2 from rfl))
    clear hte hnum ha hb'
    go_enter Tryz.func98, Tryz.ntmps98
    go_wp2_with fail
    refine (hnw.out _).mono ?_
    rintro e w1 ⟨rfl, hb⟩
    rw [ha2.out]
    have d1 := cell_below hb c1
    have d2 := cell_below hb c2
    have d3 := cell_below hb c3
    have d4 := cell_below hb c4
    have d5 := cell_below hb c5
    have hb := Lib.hid (below_trans hB hb)
    clear c1 c2 c3 c4 c5
    go_wp2_with fail
    refine (hns.out _).mono ?_
    rintro e w2 ⟨rfl, hb3⟩
    rw [hb2.out]
    have f2 := cell_below hb3 d2
    have f3 := cell_below hb3 d3
    have f4 := cell_below hb3 d4
    have f5 := cell_below hb3 d5
    have hb3 := Lib.hid (below_trans hb.out hb3)
    clear d1 d2 d3 d4 d5
    have he := (hL.below hb3.out).e2
    go_wp2_with (go_at_call 137; refine (in_any _ _ _ _ _ (by assumption)).mono ?_; rintro e w' ⟨rfl, rfl⟩)
    go_ret
    exact ⟨by rw [hr.out]; rfl, hb3.out⟩
  | true =>
  cases hC : inB bg 0 1000000 with
  | false =>
    have hr := Lib.hid ((hte true true false ha hb' (hnum.trans (by rw [hA, hB2, hC]; rfl))).trans (show _ = 2 from rfl))
    clear hte hnum ha hb'
    go_enter Tryz.func98, Tryz.ntmps98
    go_wp2_with fail
    refine (hnw.out _).mono ?_
    rintro e w1 ⟨rfl, hb⟩
    rw [ha2.out]
    have d1 := cell_below hb c1
    have d2 := cell_below hb c2
    have d3 := cell_below hb c3
    have d4 := cell_below hb c4
    have d5 := cell_below hb c5
    have hb := Lib.hid (below_trans hB hb)
    clear c1 c2 c3 c4 c5
    go_wp2_with fail
    refine (hns.out _).mono ?_
    rintro e w2 ⟨rfl, hb3⟩
    rw [hb2.out]
    have f2 := cell_below hb3 d2
    have f3 := cell_below hb3 d3
    have f4 := cell_below hb3 d4
    have f5 := cell_below hb3 d5
    have hb3 := Lib.hid (below_trans hb.out hb3)
    clear d1 d2 d3 d4 d5
    have he := (hL.below hb3.out).e2
    go_wp2_with (go_at_call 137; refine (in_any _ _ _ _ _ (by assumption)).mono ?_; rintro e w' ⟨rfl, rfl⟩)
    go_ret
    exact ⟨by rw [hr.out]; rfl, hb3.out⟩
  | true =>
  cases hD : inB fn bg 1000000 with
  | false =>
    have hr := Lib.hid ((hte true true false ha hb' (hnum.trans (by rw [hA, hB2, hC, hD]; rfl))).trans (show _ = 2 from rfl))
    clear hte hnum ha hb'
    go_enter Tryz.func98, Tryz.ntmps98
    go_wp2_with fail
    refine (hnw.out _).mono ?_
    rintro e w1 ⟨rfl, hb⟩
    rw [ha2.out]
    have d1 := cell_below hb c1
    have d2 := cell_below hb c2
    have d3 := cell_below hb c3
    have d4 := cell_below hb c4
    have d5 := cell_below hb c5
    have hb := Lib.hid (below_trans hB hb)
    clear c1 c2 c3 c4 c5
    go_wp2_with fail
    refine (hns.out _).mono ?_
    rintro e w2 ⟨rfl, hb3⟩
    rw [hb2.out]
    have f2 := cell_below hb3 d2
    have f3 := cell_below hb3 d3
    have f4 := cell_below hb3 d4
    have f5 := cell_below hb3 d5
    have hb3 := Lib.hid (below_trans hb.out hb3)
    clear d1 d2 d3 d4 d5
    have he := (hL.below hb3.out).e2
    go_wp2_with (go_at_call 137; refine (in_any _ _ _ _ _ (by assumption)).mono ?_; rintro e w' ⟨rfl, rfl⟩)
    go_ret
    exact ⟨by rw [hr.out]; rfl, hb3.out⟩
  | true =>
  have hr := Lib.hid ((hte true true true ha hb' (hnum.trans (by rw [hA, hB2, hC, hD]; rfl))).trans (show _ = 0 from rfl))
  clear hte hnum ha hb'
  go_enter Tryz.func98, Tryz.ntmps98
  go_wp2_with fail
  refine (hnw.out _).mono ?_
  rintro e w1 ⟨rfl, hb⟩
  rw [ha2.out]
  have d1 := cell_below hb c1
  have d2 := cell_below hb c2
  have d3 := cell_below hb c3
  have d4 := cell_below hb c4
  have d5 := cell_below hb c5
  have hb := Lib.hid (below_trans hB hb)
  clear c1 c2 c3 c4 c5
  go_wp2_with fail
  refine (hns.out _).mono ?_
  rintro e w2 ⟨rfl, hb3⟩
  rw [hb2.out]
  have f2 := cell_below hb3 d2
  have f3 := cell_below hb3 d3
  have f4 := cell_below hb3 d4
  have f5 := cell_below hb3 d5
  have hb3 := Lib.hid (below_trans hb.out hb3)
  clear d1 d2 d3 d4 d5
  go_wp2_with (go_at_call 137; refine (in_any _ _ _ _ _ (by assumption)).mono ?_; rintro e w' ⟨rfl, rfl⟩)
  go_ret
  exact ⟨by rw [hr.out]; rfl, hb3.out⟩

set_option maxRecDepth 100000 in
theorem good_tick {E : Nat → Addr} (t : Tick) (now : Int) (w : World) (hL : Laid E w) (hl : TickLen t) :
    Calls Tryz.prog 113 #[t.val, .int .i64 now] w fun e w' => e = .returned (errV E (goodT t now)) ∧ Below w.heap.size w w' := by
  have hB : Below w.heap.size w (w.alloc (.cells t.cells 51)) := (Below.refl _ _).alloc (Nat.le_refl _) _
  have hck := Lib.hid (check_tick (E := E) t _ (hL.below hB) hl)
  have hgd : goodT t now = if tickErr t = 0 then (if 0 ≤ now ∧ now ≤ 1000000 then (if now < t.beg then 11 else if t.fin ≤ now then 12 else 0) else 2) else tickErr t := rfl
  generalize tickErr t = c at *
  obtain ⟨who, svc, ep, bg, fn, sr⟩ := t
  dsimp only [Tick.val, Tick.cells] at *
  cases c with
  | succ c =>
    have hr := Lib.hid (hgd.trans (if_neg (Nat.succ_ne_zero c)))
    rw [errV_succ] at hck
    clear hgd
    go_enter Tryz.func113, Tryz.ntmps113
    go_wp2_with fail
    refine hck.out.mono ?_
    rintro e w1 ⟨rfl, hb⟩
    have hb := Lib.hid (below_trans hB hb)
    go_wp2_with fail
    go_ret
    exact ⟨by rw [hr.out]; rfl, hb.out⟩
  | zero =>
  rw [errV_zero] at hck
  have hgd := hgd.trans (if_pos rfl)
  have c3 : (w.alloc (.cells #[.string (bs who), .string (bs svc), .int .i64 ep, .int .i64 bg, .int .i64 fn, .int .i64 sr] 51)).cell? ⟨w.heap.size, 3, none⟩ = some (.int .i64 bg) := by simp
  have c4 : (w.alloc (.cells #[.string (bs who), .string (bs svc), .int .i64 ep, .int .i64 bg, .int .i64 fn, .int .i64 sr] 51)).cell? ⟨w.heap.size, 4, none⟩ = some (.int .i64 fn) := by simp
  by_cases h1 : 0 ≤ now ∧ now ≤ 1000000
  case neg =>
    have hr := Lib.hid (hgd.trans (if_neg h1))
    have hI : inB now 0 1000000 = false := by unfold inB; simp; omega
    clear hgd
    go_enter Tryz.func113, Tryz.ntmps113
    go_wp2_with fail
    refine hck.out.mono ?_
    rintro e w1 ⟨rfl, hb⟩
    have d3 := cell_below hb c3
    have d4 := cell_below hb c4
    have hb := Lib.hid (below_trans hB hb)
    have he := (hL.below hb.out).e2
    clear c3 c4
    go_wp2_with (go_at_call 137; refine (in_any _ _ _ _ _ (by assumption)).mono ?_; rintro e w' ⟨rfl, rfl⟩)
    go_ret
    exact ⟨by rw [hr.out]; rfl, hb.out⟩
  have hgd := hgd.trans (if_pos h1)
  by_cases h2 : now < bg
  case pos =>
    have hr := Lib.hid (hgd.trans (if_pos h2))
    have hI : inB now 0 1000000 = true := by unfold inB; simp; omega
    clear hgd
    go_enter Tryz.func113, Tryz.ntmps113
    go_wp2_with fail
    refine hck.out.mono ?_
    rintro e w1 ⟨rfl, hb⟩
    have d3 := cell_below hb c3
    have d4 := cell_below hb c4
    have hb := Lib.hid (below_trans hB hb)
    have he := (hL.below hb.out).e11
    clear c3 c4
    go_wp2_with (go_at_call 137; refine (in_any _ _ _ _ _ (by assumption)).mono ?_; rintro e w' ⟨rfl, rfl⟩)
    go_ret
    exact ⟨by rw [hr.out]; rfl, hb.out⟩
  have hgd := hgd.trans (if_neg h2)
  by_cases h3 : fn ≤ now
  case pos =>
    have hr := Lib.hid (hgd.trans (if_pos h3))
    have hI : inB now 0 1000000 = true := by unfold inB; simp; omega
    clear hgd
    go_enter Tryz.func113, Tryz.ntmps113
    go_wp2_with fail
    refine hck.out.mono ?_
    rintro e w1 ⟨rfl, hb⟩
    have d3 := cell_below hb c3
    have d4 := cell_below hb c4
    have hb := Lib.hid (below_trans hB hb)
    have he := (hL.below hb.out).e12
    clear c3 c4
    go_wp2_with (go_at_call 137; refine (in_any _ _ _ _ _ (by assumption)).mono ?_; rintro e w' ⟨rfl, rfl⟩)
    go_ret
    exact ⟨by rw [hr.out]; rfl, hb.out⟩
  have hr := Lib.hid (hgd.trans (if_neg h3))
  have hI : inB now 0 1000000 = true := by unfold inB; simp; omega
  clear hgd
  go_enter Tryz.func113, Tryz.ntmps113
  go_wp2_with fail
  refine hck.out.mono ?_
  rintro e w1 ⟨rfl, hb⟩
  have d3 := cell_below hb c3
  have d4 := cell_below hb c4
  have hb := Lib.hid (below_trans hB hb)
  clear c3 c4
  go_wp2_with (go_at_call 137; refine (in_any _ _ _ _ _ (by assumption)).mono ?_; rintro e w' ⟨rfl, rfl⟩)
  go_ret
  exact ⟨by rw [hr.out]; rfl, hb.out⟩

/-- A ticket's block, kept: its cells, and none frozen. -/
theorem tick_kept {w0 w1 : World} {n : Nat} {v0 v1 v2 v3 v4 v5 : Value} {T : TypeId} (hb : Below w0.heap.size w0 w1) (h : w0.heap[n]? = some (.cells #[v0, v1, v2, v3, v4, v5] T (0, 0))) :
    (w1.cell? ⟨n, 0, none⟩ = some v0 ∧ w1.cell? ⟨n, 1, none⟩ = some v1 ∧ w1.cell? ⟨n, 2, none⟩ = some v2 ∧ w1.cell? ⟨n, 3, none⟩ = some v3 ∧ w1.cell? ⟨n, 4, none⟩ = some v4 ∧ w1.cell? ⟨n, 5, none⟩ = some v5) ∧
    (w1.frozen? ⟨n, 0, none⟩ = false ∧ w1.frozen? ⟨n, 1, none⟩ = false ∧ w1.frozen? ⟨n, 2, none⟩ = false ∧ w1.frozen? ⟨n, 3, none⟩ = false ∧ w1.frozen? ⟨n, 4, none⟩ = false ∧ w1.frozen? ⟨n, 5, none⟩ = false) := by
  have h1 : w1.heap[n]? = some (.cells #[v0, v1, v2, v3, v4, v5] T (0, 0)) := (hb.block n (Array.getElem?_eq_some_iff.1 h).1).trans h
  refine ⟨⟨?_, ?_, ?_, ?_, ?_, ?_⟩, ?_, ?_, ?_, ?_, ?_, ?_⟩
  all_goals first
    | (rw [cell_of_row _ _ _ _ _ _ h1]; rfl)
    | exact frozen_of_row _ _ _ _ _ h1
theorem heap_below {w w' : World} (hb : Below w.heap.size w w') {b : Nat} {o : Obj} (h : w.heap[b]? = some o) : w'.heap[b]? = some o :=
  (hb.block b (Array.getElem?_eq_some_iff.1 h).1).trans h
theorem box_at (w : World) (cs : Array Value) (T : TypeId) (o : Obj) : ((w.alloc (.cells cs T)).alloc o).heap[w.heap.size]? = some (.cells cs T (0, 0)) := by
  exact heap_below ((Below.refl _ _).alloc (Nat.le_refl _) o) (heap_alloc_new w _)
theorem box_new (w : World) (cs : Array Value) (T : TypeId) (o : Obj) : ((w.alloc o).alloc (.cells cs T)).heap[w.heap.size + 1]? = some (.cells cs T (0, 0)) := by
  have := heap_alloc_new (w.alloc o) (.cells cs T)
  rwa [World.size_alloc] at this
theorem row_set6 {w : World} {n : Nat} {u0 u1 u2 u3 u4 u5 : Value} {T : TypeId} (h : w.heap[n]? = some (.cells #[u0, u1, u2, u3, u4, u5] T (0, 0))) (v0 v1 v2 v3 v4 v5 : Value) :
    ((((((w.setCell ⟨n, 0, none⟩ v0).setCell ⟨n, 1, none⟩ v1).setCell ⟨n, 2, none⟩ v2).setCell ⟨n, 3, none⟩ v3).setCell ⟨n, 4, none⟩ v4).setCell ⟨n, 5, none⟩ v5).heap[n]? = some (.cells #[v0, v1, v2, v3, v4, v5] T (0, 0)) := by
  have h0 := heap_setCell_same _ n 0 _ _ v0 h
  have h1 := heap_setCell_same _ n 1 _ _ v1 h0
  have h2 := heap_setCell_same _ n 2 _ _ v2 h1
  have h3 := heap_setCell_same _ n 3 _ _ v3 h2
  have h4 := heap_setCell_same _ n 4 _ _ v4 h3
  exact heap_setCell_same _ n 5 _ _ v5 h4
theorem row_set3 {w : World} {n : Nat} {u0 u1 u2 u3 u4 u5 : Value} {T : TypeId} (h : w.heap[n]? = some (.cells #[u0, u1, u2, u3, u4, u5] T (0, 0))) (v3 v4 v5 : Value) :
    (((w.setCell ⟨n, 3, none⟩ v3).setCell ⟨n, 4, none⟩ v4).setCell ⟨n, 5, none⟩ v5).heap[n]? = some (.cells #[u0, u1, u2, v3, v4, v5] T (0, 0)) := by
  have h3 := heap_setCell_same _ n 3 _ _ v3 h
  have h4 := heap_setCell_same _ n 4 _ _ v4 h3
  exact heap_setCell_same _ n 5 _ _ v5 h4
theorem row_other3 {w : World} {n m : Nat} {o : Obj} (h : w.heap[m]? = some o) (hne : m ≠ n) (v3 v4 v5 : Value) :
    (((w.setCell ⟨n, 3, none⟩ v3).setCell ⟨n, 4, none⟩ v4).setCell ⟨n, 5, none⟩ v5).heap[m]? = some o := by
  rw [heap_setCell_other _ _ _ _ hne, heap_setCell_other _ _ _ _ hne, heap_setCell_other _ _ _ _ hne]
  exact h
theorem below_set3 {B : Nat} {a w : World} (h : Below B a w) {n : Nat} (hn : B ≤ n) (v3 v4 v5 : Value) :
    Below B a (((w.setCell ⟨n, 3, none⟩ v3).setCell ⟨n, 4, none⟩ v4).setCell ⟨n, 5, none⟩ v5) :=
  ((h.setCell hn _).setCell hn _).setCell hn _
theorem below_set6 {B : Nat} {a w : World} (h : Below B a w) {n : Nat} (hn : B ≤ n) (v0 v1 v2 v3 v4 v5 : Value) :
    Below B a ((((((w.setCell ⟨n, 0, none⟩ v0).setCell ⟨n, 1, none⟩ v1).setCell ⟨n, 2, none⟩ v2).setCell ⟨n, 3, none⟩ v3).setCell ⟨n, 4, none⟩ v4).setCell ⟨n, 5, none⟩ v5) :=
  (((((h.setCell hn _).setCell hn _).setCell hn _).setCell hn _).setCell hn _).setCell hn _
end Go.Proofs.YtkhphdkjnpcnnaaGreatDoor
