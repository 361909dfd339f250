/- RlmV, LibS, Word, Number, Funcs -/
import Derived.Test.YtkhphdkjnpcnnaaGreatDoorMg10
import Derived.Test.YtkhphdkjnpcnnaaGreatDoorMg4
import Derived.Test.YtkhphdkjnpcnnaaGreatDoorMg2
import Derived.Test.YtkhphdkjnpcnnaaGreatDoorMg1
import Derived.Lib.SmallJoins
import Derived.Deep.LoopGhost
import Derived.Test.YtkhphdkjnpcnnaaGreatDoorMg3
/- Realms: helpers; who is on: walked. -/
namespace Go.Proofs.YtkhphdkjnpcnnaaGreatDoor
open Go.RowKit

theorem fourC_of {w : World} {n : Nat} {v0 v1 v2 v3 : Value} {T : TypeId} (h : w.heap[n]? = some (.cells #[v0, v1, v2, v3] T (0, 0))) :
    (w.cell? ⟨n, 0, none⟩ = some v0 ∧ w.cell? ⟨n, 1, none⟩ = some v1 ∧ w.cell? ⟨n, 2, none⟩ = some v2 ∧ w.cell? ⟨n, 3, none⟩ = some v3) ∧
    (w.frozen? ⟨n, 0, none⟩ = false ∧ w.frozen? ⟨n, 1, none⟩ = false ∧ w.frozen? ⟨n, 2, none⟩ = false ∧ w.frozen? ⟨n, 3, none⟩ = false) := by
  refine ⟨⟨?_, ?_, ?_, ?_⟩, ?_, ?_, ?_, ?_⟩
  all_goals first | (rw [cell_of_row _ _ _ _ _ _ h]; rfl) | (simp [World.frozen?, h])
theorem row_set4 {w : World} {n : Nat} {u0 u1 u2 u3 : Value} {T : TypeId} (h : w.heap[n]? = some (.cells #[u0, u1, u2, u3] T (0, 0))) (v0 v1 v2 v3 : Value) :
    ((((w.setCell ⟨n, 0, none⟩ v0).setCell ⟨n, 1, none⟩ v1).setCell ⟨n, 2, none⟩ v2).setCell ⟨n, 3, none⟩ v3).heap[n]? = some (.cells #[v0, v1, v2, v3] T (0, 0)) := by
  have h0 := heap_setCell_same _ n 0 _ _ v0 h
  have h1 := heap_setCell_same _ n 1 _ _ v1 h0
  have h2 := heap_setCell_same _ n 2 _ _ v2 h1
  exact heap_setCell_same _ n 3 _ _ v3 h2
theorem row_other4 {w : World} {n m : Nat} {o : Obj} (h : w.heap[m]? = some o) (hne : m ≠ n) (v0 v1 v2 v3 : Value) :
    ((((w.setCell ⟨n, 0, none⟩ v0).setCell ⟨n, 1, none⟩ v1).setCell ⟨n, 2, none⟩ v2).setCell ⟨n, 3, none⟩ v3).heap[m]? = some o := by
  rw [heap_setCell_other _ _ _ _ hne, heap_setCell_other _ _ _ _ hne, heap_setCell_other _ _ _ _ hne, heap_setCell_other _ _ _ _ hne]
  exact h
theorem below_set4 {B : Nat} {a w : World} (h : Below B a w) {n : Nat} (hn : B ≤ n) (v0 v1 v2 v3 : Value) :
    Below B a ((((w.setCell ⟨n, 0, none⟩ v0).setCell ⟨n, 1, none⟩ v1).setCell ⟨n, 2, none⟩ v2).setCell ⟨n, 3, none⟩ v3) :=
  (((h.setCell hn _).setCell hn _).setCell hn _).setCell hn _
/-- Who is found. -/
def getV (L : List Per) (n : List UInt8) : Per := (findP L n).getD ⟨[], 0, 0, false⟩
def getC (L : List Per) (n : List UInt8) : Nat := if (findP L n).isSome = true then 0 else 5
def onC (L : List Per) (n : List UInt8) : Nat := if getC L n ≠ 0 then getC L n else if (getV L n).off = true then 16 else 0
def twoC (L : List Per) (n m : List UInt8) : Nat := if getC L n ≠ 0 ∨ getC L m ≠ 0 then 5 else if (getV L n).off = true ∨ (getV L m).off = true then 16 else 0
theorem getC_two (L : List Per) (n : List UInt8) : getC L n = 0 ∨ getC L n = 5 := by unfold getC; split <;> simp
theorem get_v {E : Nat → Addr} (b r : Nat) (L : List Per) (n : List UInt8) (w : World) (hL : Laid E w) (hB : BookAt w b r L) :
    Calls Tryz.prog 90 #[.pointer (some ⟨b, 0, none⟩), .string (bs n)] w fun e w' => e = .returned (.tuple #[.agg #[.string (bs (getV L n).name), .int .i64 (getV L n).key, .int .i64 (getV L n).epoch, .bool (getV L n).off], errV E (getC L n)]) ∧ Below w.heap.size w w' :=
  (get_any b r L n w hL hB).mono fun e w' ⟨h, hb⟩ => ⟨by
    unfold getV getC
    rcases h with ⟨p, hp, rfl⟩ | ⟨hn, rfl⟩
    · rw [hp]; rfl
    · rw [hn]; rfl, hb⟩
set_option maxRecDepth 100000 in
theorem onM_any {E : Nat → Addr} {base a b r : Nat} {R : Rlm} (n : List UInt8) (w : World) (hL : Laid E w) (hR : RlmAt w base a b r R) :
    Calls Tryz.prog 66 #[.pointer (some ⟨a, 0, none⟩), .string (bs n)] w fun e w' => e = .returned (.tuple #[.agg #[.string (bs (getV R.b n).name), .int .i64 (getV R.b n).key, .int .i64 (getV R.b n).epoch, .bool (getV R.b n).off], errV E (onC R.b n)]) ∧ Below w.heap.size w w' := by
  have hA := (Below.refl w.heap.size w).alloc (Nat.le_refl _) (.cells #[.string ⟨#[]⟩, .int .i64 0, .int .i64 0, .bool false] 46)
  have hbx := Lib.hid (heap_alloc_new w (.cells #[.string ⟨#[]⟩, .int .i64 0, .int .i64 0, .bool false] 46))
  obtain ⟨al, cl, ⟨_, _, _, _, c4, _⟩, _, _⟩ := (hR.below hA).cells
  have hg := Lib.hid (get_v (E := E) b r R.b n _ (hL.below hA) (hR.below hA).book)
  have hLw := Lib.hid (fun wx (hx : Below w.heap.size w wx) => hL.below hx)
  have hA := Lib.hid hA
  have hq := Lib.hid (show onC R.b n = if getC R.b n ≠ 0 then getC R.b n else if (getV R.b n).off = true then 16 else 0 from rfl)
  have hc2 := getC_two R.b n
  clear hL hR
  generalize getV R.b n = P at *
  generalize getC R.b n = gc at *
  generalize onC R.b n = oc at *
  obtain ⟨pn, pk, pe, po⟩ := P
  dsimp only at *
  rcases hc2 with rfl | rfl
  · cases po with
    | false =>
      have hq := hq.out
      simp only [ne_eq, not_true_eq_false, if_false, Bool.false_eq_true] at hq
      subst hq
      go_enter Tryz.func66, Tryz.ntmps66
      go_wp2_with fail
      refine hg.out.mono ?_
      rintro e w1 ⟨rfl, hb⟩
      have hrr := heap_down ((Below.refl _ _).alloc (Nat.le_refl _) (.cells #[.string (bs pn), .int .i64 pk, .int .i64 pe, .bool false] 46)) (heap_down hb hbx.out)
      have hx := below_trans hA.out hb
      have hx := hx.alloc hx.size (.cells #[.string (bs pn), .int .i64 pk, .int .i64 pe, .bool false] 46)
      have hfin := Lib.hid (below_set4 (n := w.heap.size) hx (Nat.le_refl _) (.string (bs pn)) (.int .i64 pk) (.int .i64 pe) (.bool false))
      obtain ⟨⟨r0, r1, r2, r3⟩, f0, f1, f2, f3⟩ := fourC_of hrr
      have hrr := Lib.hid hrr
      clear hb hx
      simp only [errV]
      go_wp2_with fail
      obtain ⟨⟨q0, q1, q2, q3⟩, _⟩ := fourC_of (row_set4 hrr.out (.string (bs pn)) (.int .i64 pk) (.int .i64 pe) (.bool false))
      exact bodyPost_ret (v := .tuple #[.agg #[.string (bs pn), .int .i64 pk, .int .i64 pe, .bool false], errV E 0]) (by simp [results, Tryz.results66, go_sem, errV, q0, q1, q2, q3]) rfl ⟨rfl, hfin.out⟩
    | true =>
      have hq := hq.out
      simp only [ne_eq, not_true_eq_false, if_false, if_true] at hq
      subst hq
      go_enter Tryz.func66, Tryz.ntmps66
      go_wp2_with fail
      refine hg.out.mono ?_
      rintro e w1 ⟨rfl, hb⟩
      have hrr := heap_down ((Below.refl _ _).alloc (Nat.le_refl _) (.cells #[.string (bs pn), .int .i64 pk, .int .i64 pe, .bool true] 46)) (heap_down hb hbx.out)
      have hx := below_trans hA.out hb
      have hx := hx.alloc hx.size (.cells #[.string (bs pn), .int .i64 pk, .int .i64 pe, .bool true] 46)
      have hfin := Lib.hid (below_set4 (n := w.heap.size) hx (Nat.le_refl _) (.string (bs pn)) (.int .i64 pk) (.int .i64 pe) (.bool true))
      obtain ⟨⟨r0, r1, r2, r3⟩, f0, f1, f2, f3⟩ := fourC_of hrr
      have he := (hLw.out _ hx).e16
      have hrr := Lib.hid hrr
      clear hb hx
      simp only [errV]
      go_wp2_with fail
      obtain ⟨⟨q0, q1, q2, q3⟩, _⟩ := fourC_of (row_set4 hrr.out (.string (bs pn)) (.int .i64 pk) (.int .i64 pe) (.bool true))
      exact bodyPost_ret (v := .tuple #[.agg #[.string (bs pn), .int .i64 pk, .int .i64 pe, .bool true], errV E 16]) (by simp [results, Tryz.results66, go_sem, errV, q0, q1, q2, q3]) rfl ⟨rfl, hfin.out⟩
  · have hq := hq.out
    rw [if_pos (by decide)] at hq
    subst hq
    go_enter Tryz.func66, Tryz.ntmps66
    go_wp2_with fail
    refine hg.out.mono ?_
    rintro e w1 ⟨rfl, hb⟩
    have hrr := heap_down ((Below.refl _ _).alloc (Nat.le_refl _) (.cells #[.string (bs pn), .int .i64 pk, .int .i64 pe, .bool po] 46)) (heap_down hb hbx.out)
    have hx := below_trans hA.out hb
    have hx := hx.alloc hx.size (.cells #[.string (bs pn), .int .i64 pk, .int .i64 pe, .bool po] 46)
    have hfin := Lib.hid (below_set4 (n := w.heap.size) hx (Nat.le_refl _) (.string (bs pn)) (.int .i64 pk) (.int .i64 pe) (.bool po))
    obtain ⟨⟨r0, r1, r2, r3⟩, f0, f1, f2, f3⟩ := fourC_of hrr
    have hrr := Lib.hid hrr
    clear hb hx
    simp only [errV]
    go_wp2_with fail
    obtain ⟨⟨q0, q1, q2, q3⟩, _⟩ := fourC_of (row_set4 hrr.out (.string (bs pn)) (.int .i64 pk) (.int .i64 pe) (.bool po))
    exact bodyPost_ret (v := .tuple #[.agg #[.string (bs pn), .int .i64 pk, .int .i64 pe, .bool po], errV E 5]) (by simp [results, Tryz.results66, go_sem, errV, q0, q1, q2, q3]) rfl ⟨rfl, hfin.out⟩
set_option maxRecDepth 100000 in
theorem timeM_any {base a b r : Nat} {R : Rlm} (w : World) (hR : RlmAt w base a b r R) :
    Calls Tryz.prog 26 #[.pointer (some ⟨a, 0, none⟩)] w fun e w' => e = .returned (.int .i64 R.time) ∧ w = w' := by
  obtain ⟨al, cl, ⟨_, _, c2, _, _, _⟩, _, _⟩ := hR.cells
  go_enter Tryz.func26, Tryz.ntmps26
  go_wp2_with fail
  go_ret
  exact ⟨rfl, rfl⟩
set_option maxRecDepth 100000 in
theorem nextM_any {E : Nat → Addr} {base a b r : Nat} {R : Rlm} (t : Int) (w : World) (hL : Laid E w) (hR : RlmAt w base a b r R) (h0 : 0 ≤ R.time) (h1 : R.time ≤ 1000000) :
    Calls Tryz.prog 45 #[.pointer (some ⟨a, 0, none⟩), .int .i64 t] w fun e w' => e = .returned (.tuple #[.int .i64 (nextM R t).1, errV E (nextM R t).2.1]) ∧ RlmAt w' base a b r (nextM R t).2.2 ∧ Keeps (RlmS a r) w w' := by
  obtain ⟨al, cl, ⟨_, _, c2, _, _, _⟩, ⟨_, _, f2, _, _, _⟩, _⟩ := hR.cells
  by_cases ht : t < 0 ∨ 1000000 - R.time < t
  · have hq := Lib.hid (show nextM R t = (0, 2, R) by unfold nextM; rw [if_pos ht])
    have he := hL.e2
    have hfin := Lib.hid (fun k => (show RlmAt (w.drewN k) base a b r R ∧ Keeps (RlmS a r) w (w.drewN k) from ⟨hR.below (below_drawn (Below.refl _ _) k), Keeps.of_below (below_drawn (Below.refl _ _) k)⟩))
    clear hR hL
    rw [hq.out]
    dsimp only
    clear hq
    by_cases hn : t < 0
    · clear ht
      go_enter Tryz.func45, Tryz.ntmps45
      go_wp2_with fail
      go_quiet (fail)
      go_wp2_with fail
      go_ret2
      exact ⟨rfl, hfin.out _⟩
    · have ht : 1000000 - R.time < t := by omega
      go_enter Tryz.func45, Tryz.ntmps45
      go_wp2_with fail
      go_quiet (fail)
      go_wp2_with fail
      go_ret2
      exact ⟨rfl, hfin.out _⟩
  · have hq := Lib.hid (show nextM R t = (R.time + t, 0, { R with time := R.time + t }) by unfold nextM; rw [if_neg ht])
    obtain ⟨g1, g2⟩ := hR.timed (R.time + t)
    obtain ⟨al2, cl2, ⟨_, _, d2, _, _, _⟩, _, _⟩ := g1.cells
    have hfin := Lib.hid (And.intro g1 g2)
    dsimp only at d2
    clear hR hL g1 g2
    rw [hq.out]
    dsimp only
    clear hq
    have hn : ¬ t < 0 := by omega
    have hn2 : ¬ 1000000 - R.time < t := by omega
    go_enter Tryz.func45, Tryz.ntmps45
    go_wp2_with fail
    go_ret2
    exact ⟨rfl, hfin.out⟩
set_option maxRecDepth 100000 in
theorem offM_any {E : Nat → Addr} {base a b r : Nat} {R : Rlm} (n : List UInt8) (o : Bool) (w : World) (hL : Laid E w) (hR : RlmAt w base a b r R) :
    Calls Tryz.prog 37 #[.pointer (some ⟨a, 0, none⟩), .string (bs n), .bool o] w fun e w' => e = .returned (errV E (offM R n o).1) ∧ RlmAt w' base a b r (offM R n o).2 ∧ Keeps (RlmS a r) w w' := by
  obtain ⟨al, cl, ⟨_, _, _, _, c4, _⟩, _, _⟩ := hR.cells
  have hg := Lib.hid (off_any (E := E) b r R.b n o w hL hR.book)
  have hR := Lib.hid hR
  go_enter Tryz.func37, Tryz.ntmps37
  go_wp2_with fail
  refine hg.out.mono ?_
  rintro e w1 ⟨rfl, hk, hB⟩
  have hfin := Lib.hid (show RlmAt w1 base a b r { R with b := (offOf R.b n o).2 } ∧ Keeps (RlmS a r) w w1 from ⟨hR.out.book' hk hB, hk.mono fun k hk => .inr hk⟩)
  clear hk hB
  go_wp2_with fail
  go_ret
  exact ⟨rfl, hfin.out⟩
end Go.Proofs.YtkhphdkjnpcnnaaGreatDoor

/- What the library's variables hold; strconv.Atoi, strconv.Itoa by contracts. -/
namespace Go.Proofs.YtkhphdkjnpcnnaaGreatDoor
open Go.RowKit Go.Sort

/-- The sentinels, and the library's variables. -/
structure LaidS (E : Nat → Addr) (w : World) : Prop where
  laid : Laid E w
  pow : Lib.TabIs Tryz.prog w "internal/strconv.uint64pow10" .u64 Lib.pow10Tab
  syn : ∃ t p, w.var? Tryz.prog "strconv.ErrSyntax" = some #[.iface t p]
  rng : ∃ t p, w.var? Tryz.prog "strconv.ErrRange" = some #[.iface t p]
  mx : ∃ m, w.cell? ⟨17, 0, none⟩ = some (.int .i64 m)
theorem glob_pow : Tryz.prog.globalNamed "internal/strconv.uint64pow10" = some 18 := by kernel_rfl
theorem glob_syn : Tryz.prog.globalNamed "strconv.ErrSyntax" = some 19 := by kernel_rfl
theorem glob_rng : Tryz.prog.globalNamed "strconv.ErrRange" = some 20 := by kernel_rfl
theorem LaidS.below {E : Nat → Addr} {w w' : World} (h : LaidS E w) (hb : Below w.heap.size w w') : LaidS E w' where
  laid := h.laid.below hb
  pow := Joins.tab_stays glob_pow h.pow hb (Nat.le_refl _)
  syn := let ⟨t, p, e⟩ := h.syn; ⟨t, p, Joins.var_stays glob_syn e hb (Nat.le_refl _)⟩
  rng := let ⟨t, p, e⟩ := h.rng; ⟨t, p, Joins.var_stays glob_rng e hb (Nat.le_refl _)⟩
  mx := let ⟨m, e⟩ := h.mx; ⟨m, cell_below hb e⟩

theorem below_grow (w : World) (k : Nat) (os : Array Obj) : Below w.heap.size w (grow (w.drewN k) os) :=
  ⟨rfl, rfl, rfl, by simp [grow], fun i hi => by
    show (w.heap ++ os)[i]? = w.heap[i]?
    rw [Array.getElem?_append_left hi]⟩
set_option maxRecDepth 100000 in
theorem itoa_any {E : Nat → Addr} (n : Int) (h0 : -9223372036854775808 ≤ n) (h1 : n ≤ 9223372036854775807) (w : World) (hL : LaidS E w) :
    Calls Tryz.prog 97 #[.int .i64 n] w fun e w' => e = .returned (.string (bs (Lib.itoa n))) ∧ Below w.heap.size w w' :=
  (show Calls Tryz.prog 97 #[.int .i64 n] w _ from Any.strconv_Itoa Tryz.itoaL n h0 h1 w hL.pow).mono fun e w' ⟨he, k, os, hw⟩ => ⟨he, by rw [hw]; exact below_grow w k os⟩
set_option maxRecDepth 100000 in
theorem atoi_ok (s : ByteArray) (hs : s.size ≤ 140737488355328) (v : Int) (h : Lib.atoiAll s.data.toList = .ok v) (w : World) :
    Calls Tryz.prog 146 #[.string s] w fun e w' => e = .returned (.tuple #[.int .i64 v, .nilIface]) ∧ Below w.heap.size w w' :=
  (show Calls Tryz.prog 146 #[.string s] w _ from Any.strconv_Atoi_ok Tryz.atoiL s (by omega) v h w).mono fun e w' ⟨he, hw⟩ => ⟨he, by
    rcases hw with rfl | ⟨t, rfl⟩
    · exact Below.refl _ _
    · exact Joins.below_bytesWorld _ _ _ _ (Nat.le_refl _)⟩
set_option maxRecDepth 100000 in
theorem atoi_bad {E : Nat → Addr} (s : ByteArray) (hs : s.size ≤ 140737488355328) (h : ∀ v, Lib.atoiAll s.data.toList ≠ .ok v) (w : World) (hL : LaidS E w) :
    Calls Tryz.prog 146 #[.string s] w fun e w' => ∃ n T N, e = .returned (.tuple #[.int .i64 n, .iface T (.pointer (some ⟨N, 0, none⟩))]) ∧ Below w.heap.size w w' := by
  rcases hc : Lib.atoiAll s.data.toList with v | _ | _
  · exact absurd hc (h v)
  · obtain ⟨t, p, hv⟩ := hL.syn
    exact (show Calls Tryz.prog 146 #[.string s] w _ from Any.strconv_Atoi_syntax_var Tryz.atoiL s (by omega) hc t p w hv).mono fun e w' ⟨N, he, _, _, hb⟩ => ⟨_, _, N, he, hb⟩
  · obtain ⟨t, p, hv⟩ := hL.rng
    exact (show Calls Tryz.prog 146 #[.string s] w _ from Any.strconv_Atoi_range_var Tryz.atoiL s (by omega) hc t p w hv).mono fun e w' ⟨N, he, _, _, hb⟩ => ⟨_, _, N, he, hb⟩

theorem atoiAll_ge {l : List UInt8} {v : Int} (h : Lib.atoiAll l = .ok v) : -9223372036854775808 ≤ v ∧ v ≤ 9223372036854775807 := by
  unfold Lib.atoiAll at h
  cases l with
  | nil => cases h
  | cons c r =>
    dsimp only at h
    rcases hm : Lib.parseMag (if c.toNat = 43 ∨ c.toNat = 45 then r else c :: r) with u | _ | _
    · rw [hm] at h
      dsimp only at h
      by_cases hn : c.toNat = 45
      · simp only [hn, not_true_eq_false, false_and, if_false, true_and, if_true] at h
        split at h
        · cases h
        · cases h; omega
      · simp only [hn, not_false_eq_true, true_and, false_and, if_false] at h
        split at h
        · cases h
        · cases h; omega
    · rw [hm] at h; cases h
    · rw [hm] at h; cases h
end Go.Proofs.YtkhphdkjnpcnnaaGreatDoor

/- seal.Word, by its contract. -/
namespace Go.Proofs.YtkhphdkjnpcnnaaGreatDoor
open Go.RowKit

set_option maxRecDepth 100000 in
theorem trim_word (s : ByteArray) (w : World) (hs : s.size ≤ maxLen) :
    Calls Tryz.prog 170 #[.string s, .string (bs wordCs)] w fun e w' => e = .returned (.string (bs (Lib.trimS s.data.toList wordCs))) ∧ Below w.heap.size w w' :=
  Any.strings_Trim_laid Tryz.trim160 (by kernel_rfl) s (bs wordCs) w hs (by decide) (ascii_of_all (by decide))
set_option maxRecDepth 100000 in
theorem word_any (s : ByteArray) (w : World) (hs : s.size ≤ maxLen) :
    Calls Tryz.prog 140 #[.string s] w fun e w' => e = .returned (.bool (isWord s.data.toList)) ∧ Below w.heap.size w w' := by
  have ht := trim_word s w hs
  have hlen : s.data.toList.length = s.size := Array.length_toList
  have htl : s.toList = s.data.toList := toList_data s
  unfold maxLen at hs
  by_cases h0 : s.data.toList = []
  · have hr := Lib.hid (show isWord s.data.toList = false by rw [h0]; rfl)
    have hte : s.toList = [] := by rw [htl, h0]
    clear ht hlen htl h0
    go_enter Tryz.func140, Tryz.ntmps140
    go_wp2_with fail
    go_ret
    exact ⟨ret_bool hr.out.symm, Below.refl _ _⟩
  · have hte : s.toList.isEmpty = false := by rw [htl]; simpa using h0
    have h1 : 1 ≤ s.size := by
      rcases Nat.eq_zero_or_pos s.size with h | h
      · exact absurd (List.eq_nil_of_length_eq_zero (hlen.trans h)) h0
      · exact h
    by_cases h8 : s.size ≤ 20
    · have ht := Lib.hid ht
      by_cases hall : Lib.trimS s.data.toList wordCs = []
      · have hr := Lib.hid (show isWord s.data.toList = true from (isWord_iff _).2 ⟨by omega, by omega, fun c hc => by rw [← wordCs_contains]; exact (trimS_nil_iff _ _).1 hall c hc⟩)
        clear hlen htl h0
        have he : (bs []).toList = [] := by rw [toList_data]; rfl
        go_enter Tryz.func140, Tryz.ntmps140
        go_wp2_with fail
        refine ht.out.mono ?_
        rintro e w1 ⟨rfl, hb⟩
        rw [hall]
        clear hall
        go_wp2_with fail
        go_ret
        exact ⟨ret_bool hr.out.symm, hb⟩
      · have hr := Lib.hid (show isWord s.data.toList = false by
          cases hn : isWord s.data.toList with
          | false => rfl
          | true =>
            obtain ⟨_, _, h⟩ := (isWord_iff _).1 hn
            exact absurd ((trimS_nil_iff _ _).2 (fun c hc => by rw [wordCs_contains]; exact h c hc)) hall)
        clear hlen htl h0
        have he : (bs (Lib.trimS s.data.toList wordCs)).toList.isEmpty = false := by rw [toList_data, bs_list]; simpa using hall
        generalize bs (Lib.trimS s.data.toList wordCs) = t at *
        clear hall
        go_enter Tryz.func140, Tryz.ntmps140
        go_wp2_with fail
        refine ht.out.mono ?_
        rintro e w1 ⟨rfl, hb⟩
        go_wp2_with fail
        go_ret
        exact ⟨ret_bool hr.out.symm, hb⟩
    · have hr := Lib.hid (show isWord s.data.toList = false by
        cases hn : isWord s.data.toList with
        | false => rfl
        | true => obtain ⟨_, h, _⟩ := (isWord_iff _).1 hn; omega)
      clear ht hlen htl h0
      go_enter Tryz.func140, Tryz.ntmps140
      go_wp2_with fail
      go_ret
      exact ⟨ret_bool hr.out.symm, Below.refl _ _⟩
end Go.Proofs.YtkhphdkjnpcnnaaGreatDoor

/- seal.Number by its contract. -/
namespace Go.Proofs.YtkhphdkjnpcnnaaGreatDoor
open Go.RowKit Go.Sort

theorem number_none {l : List UInt8} {most : Int} (h : numOf l = none) : number l most = (0, false) := by unfold number; rw [h]
/-- seal.Number of what the law's texts hold. -/
def numRes (l : List UInt8) (most : Int) : Value := .tuple #[.int .i64 (number l most).1, .bool (number l most).2]
set_option maxRecDepth 100000 in
theorem number_any {E : Nat → Addr} (s : ByteArray) (most : Int) (w : World) (hL : LaidS E w) (hs : s.size ≤ 1000000) :
    Calls Tryz.prog 101 #[.string s, .int .i64 most] w fun e w' => e = .returned (numRes s.data.toList most) ∧ Below w.heap.size w w' := by
  have hlen : s.data.toList.length = s.size := Array.length_toList
  rcases hc : Lib.atoiAll s.data.toList with v | _ | _
  · have hat := Lib.hid (atoi_ok s (by omega) v hc w)
    have hvb := atoiAll_ge hc
    obtain ⟨hvb1, hvb2⟩ := hvb
    have hsome : ∀ n, numOf s.data.toList = some n → v = n ∧ s.size ≤ 10 ∧ Lib.itoa v = s.data.toList := fun n hn => by
      obtain ⟨h1, h2, h3, h4⟩ := numOf_some hn
      have := (atoi_good h1 h2).symm.trans hc
      injection this with h5
      rw [h3] at h5
      exact ⟨h5.symm, by omega, by rw [← h5]; exact h4⟩
    by_cases h10 : s.size ≤ 10
    case neg =>
      have hr := Lib.hid (show numRes s.data.toList most = .tuple #[.int .i64 0, .bool false] by
        unfold numRes
        rw [number_none]
        cases hn : numOf s.data.toList with
        | none => rfl
        | some n => exact absurd (hsome n hn).2.1 h10)
      clear hsome hc hlen
      go_enter Tryz.func101, Tryz.ntmps101
      go_wp2_with fail
      refine hat.out.mono ?_
      rintro e w1 ⟨rfl, hb⟩
      go_wp2_with fail
      go_ret2
      exact ⟨by rw [hr.out]; rfl, hb⟩
    by_cases hv0 : v < 0
    · have hr := Lib.hid (show numRes s.data.toList most = .tuple #[.int .i64 0, .bool false] by
        unfold numRes
        rw [number_none]
        cases hn : numOf s.data.toList with
        | none => rfl
        | some n => have := (hsome n hn).1; omega)
      clear hsome hc hlen
      go_enter Tryz.func101, Tryz.ntmps101
      go_wp2_with fail
      refine hat.out.mono ?_
      rintro e w1 ⟨rfl, hb⟩
      go_wp2_with fail
      go_ret2
      exact ⟨by rw [hr.out]; rfl, hb⟩
    by_cases hvm : most < v
    · have hr := Lib.hid (show numRes s.data.toList most = .tuple #[.int .i64 0, .bool false] by
        unfold numRes number
        cases hn : numOf s.data.toList with
        | none => rfl
        | some n =>
          have := (hsome n hn).1
          dsimp only
          rw [if_neg (by omega)])
      clear hsome hc hlen
      go_enter Tryz.func101, Tryz.ntmps101
      go_wp2_with fail
      refine hat.out.mono ?_
      rintro e w1 ⟨rfl, hb⟩
      go_wp2_with fail
      go_ret2
      exact ⟨by rw [hr.out]; rfl, hb⟩
    have hit := Lib.hid (fun wx hx => itoa_any v hvb1 hvb2 wx (hL.below hx))
    by_cases he : Lib.itoa v = s.data.toList
    · have hr := Lib.hid (show numRes s.data.toList most = .tuple #[.int .i64 v, .bool true] by
        obtain ⟨n, rfl⟩ := Int.eq_ofNat_of_zero_le (Int.not_lt.1 hv0)
        unfold numRes number
        rw [← he, numOf_itoa (by rw [he]; omega)]
        dsimp only
        rw [if_pos (by omega)])
      have hbe : ((bs (Lib.itoa v)).toList == s.toList) = true := by rw [toList_data, toList_data, bs_list, he]; exact beq_self_eq_true _
      clear he hsome hc hlen
      go_enter Tryz.func101, Tryz.ntmps101
      go_wp2_with fail
      refine hat.out.mono ?_
      rintro e w1 ⟨rfl, hb⟩
      go_wp2_with fail
      refine (hit.out _ hb).mono ?_
      rintro e w2 ⟨rfl, hb2⟩
      have hb2 := below_trans hb hb2
      go_wp2_with fail
      go_ret2
      exact ⟨by rw [hr.out]; rfl, hb2⟩
    · have hr := Lib.hid (show numRes s.data.toList most = .tuple #[.int .i64 0, .bool false] by
        unfold numRes
        rw [number_none]
        cases hn : numOf s.data.toList with
        | none => rfl
        | some n => exact absurd (hsome n hn).2.2 he)
      have hbe : ((bs (Lib.itoa v)).toList == s.toList) = false := by rw [toList_data, toList_data, bs_list, beq_eq_false_iff_ne]; exact he
      clear he hsome hc hlen
      go_enter Tryz.func101, Tryz.ntmps101
      go_wp2_with fail
      refine hat.out.mono ?_
      rintro e w1 ⟨rfl, hb⟩
      go_wp2_with fail
      refine (hit.out _ hb).mono ?_
      rintro e w2 ⟨rfl, hb2⟩
      have hb2 := below_trans hb hb2
      go_wp2_with fail
      go_ret2
      exact ⟨by rw [hr.out]; rfl, hb2⟩
  · have hat := Lib.hid (atoi_bad s (by omega) (fun v h => by rw [hc] at h; cases h) w hL)
    have hr := Lib.hid (show numRes s.data.toList most = .tuple #[.int .i64 0, .bool false] by
      unfold numRes
      rw [number_none]
      cases hn : numOf s.data.toList with
      | none => rfl
      | some n => obtain ⟨h1, h2, _⟩ := numOf_some hn; rw [atoi_good h1 h2] at hc; cases hc)
    clear hc hlen
    go_enter Tryz.func101, Tryz.ntmps101
    go_wp2_with fail
    refine hat.out.mono ?_
    rintro e w1 ⟨n, T, N, rfl, hb⟩
    go_wp2_with fail
    go_ret2
    exact ⟨by rw [hr.out]; rfl, hb⟩
  · have hat := Lib.hid (atoi_bad s (by omega) (fun v h => by rw [hc] at h; cases h) w hL)
    have hr := Lib.hid (show numRes s.data.toList most = .tuple #[.int .i64 0, .bool false] by
      unfold numRes
      rw [number_none]
      cases hn : numOf s.data.toList with
      | none => rfl
      | some n => obtain ⟨h1, h2, _⟩ := numOf_some hn; rw [atoi_good h1 h2] at hc; cases hc)
    clear hc hlen
    go_enter Tryz.func101, Tryz.ntmps101
    go_wp2_with fail
    refine hat.out.mono ?_
    rintro e w1 ⟨n, T, N, rfl, hb⟩
    go_wp2_with fail
    go_ret2
    exact ⟨by rw [hr.out]; rfl, hb⟩
end Go.Proofs.YtkhphdkjnpcnnaaGreatDoor

/- slices.IndexFunc and ContainsFunc at texts, where a text that is no word is looked for. -/
namespace Go.Proofs.YtkhphdkjnpcnnaaGreatDoor
open Go.RowKit

/-- What a function that asks for a text that is no word does. -/
def IsBad (g : Nat) (B : Nat) (w : World) : Prop := ∀ (W : World) (s : List UInt8), s.length ≤ maxLen → Below B w W → Calls Tryz.prog g #[.string (bs s)] W fun e w' => e = .returned (.bool (badP s)) ∧ Below W.heap.size W w'
set_option maxRecDepth 100000 in
theorem make1_bad (w : World) : IsBad 139 w.heap.size w := by
  intro W s hs _
  have hw := Lib.hid (word_any (bs s) W (by rw [bs_size]; exact hs))
  unfold badP
  cases hc : isWord s with
  | true =>
    have hc2 := Lib.hid (show isWord (bs s).data.toList = true from hc)
    clear hc
    go_enter Tryz.func139, Tryz.ntmps139
    go_wp2_with fail
    refine hw.out.mono ?_
    rintro e w1 ⟨rfl, hb⟩
    rw [hc2.out]
    go_wp2_with fail
    go_ret
    exact ⟨rfl, hb⟩
  | false =>
    have hc2 := Lib.hid (show isWord (bs s).data.toList = false from hc)
    clear hc
    go_enter Tryz.func139, Tryz.ntmps139
    go_wp2_with fail
    refine hw.out.mono ?_
    rintro e w1 ⟨rfl, hb⟩
    rw [hc2.out]
    go_wp2_with fail
    go_ret
    exact ⟨rfl, hb⟩
set_option maxRecDepth 100000 in
theorem look1_bad (w : World) : IsBad 145 w.heap.size w := by
  intro W s hs _
  have hw := Lib.hid (word_any (bs s) W (by rw [bs_size]; exact hs))
  unfold badP
  cases hc : isWord s with
  | true =>
    have hc2 := Lib.hid (show isWord (bs s).data.toList = true from hc)
    clear hc
    go_enter Tryz.func145, Tryz.ntmps145
    go_wp2_with fail
    refine hw.out.mono ?_
    rintro e w1 ⟨rfl, hb⟩
    rw [hc2.out]
    go_wp2_with fail
    go_ret
    exact ⟨rfl, hb⟩
  | false =>
    have hc2 := Lib.hid (show isWord (bs s).data.toList = false from hc)
    clear hc
    go_enter Tryz.func145, Tryz.ntmps145
    go_wp2_with fail
    refine hw.out.mono ?_
    rintro e w1 ⟨rfl, hb⟩
    rw [hc2.out]
    go_wp2_with fail
    go_ret
    exact ⟨rfl, hb⟩

set_option maxHeartbeats 1000000 in
set_option maxRecDepth 100000 in
theorem index_any (v : Value) (W : List (List UInt8)) (g : Nat) (w : World) (hv : TextsAt w v W) (hm : ∀ x ∈ W, x.length ≤ maxLen) (hg : IsBad g w.heap.size w) (eg : ∀ args w, (callFunc g args).run Tryz.prog w = .ok (.enter g args) w) :
    Calls Tryz.prog 138 #[v, .func (.func g) #[] #[]] w fun e w' => e = .returned (.int .i64 (badIdx W)) ∧ Below w.heap.size w w' := by
  obtain ⟨a, c, rfl, hlen, _, hc⟩ := hv
  unfold maxLen at hlen
  have hc := Lib.hid hc
  have hm := Lib.hid hm
  have hg := Lib.hid hg
  go_enter Tryz.func138, Tryz.ntmps138
  go_wp2_with fail
  go_loopg [8] (W.length + 1) (fun g8 i wr => ∃ j : Nat, i = .int .i64 j ∧ j ≤ W.length ∧ W.length - j + 1 ≤ g8 ∧ Hid (∀ i (h : i < W.length), i < j → isWord W[i] = true) ∧ Hid (Below w.heap.size w wr))
  case atStart => exact ⟨0, rfl, Nat.zero_le _, by omega, Lib.hid (fun _ _ h => absurd h (Nat.not_lt_zero _)), Lib.hid (Below.refl _ _)⟩
  case round =>
    obtain ⟨j, rfl, hj, hgj, hall, hK⟩ := hrel
    by_cases hlt : j < W.length
    · obtain ⟨b, o, rfl, hcell⟩ := hc.out j hlt
      have hcell := cell_below hK.out hcell
      have hk0 : (0 : Int) ≤ (j : Int) := by omega
      have hk1 : (j : Int) < (W.length : Int) := by omega
      have hgc := Lib.hid (hg.out wr W[j] (hm.out _ (List.getElem_mem hlt)) hK.out)
      cases hb : badP W[j] with
      | true =>
        rw [hb] at hgc
        have hr := Lib.hid (show badIdx W = (j : Int) from badIdx_of hlt (by unfold badP at hb; simpa using hb) hall.out)
        clear hb
        go_wp2_with fail
        refine hgc.out.mono ?_
        rintro e w1 ⟨rfl, hb1⟩
        have hb1 := Lib.hid (hK.out.trans (hb1.mono hK.out.size))
        go_wp2_with fail
        go_ret
        exact ⟨ret_int hr.out.symm, hb1.out⟩
      | false =>
        rw [hb] at hgc
        have hall2 := Lib.hid (show ∀ i (h : i < W.length), i < j + 1 → isWord W[i] = true from fun i h hi => by
          rcases Nat.lt_succ_iff_lt_or_eq.1 hi with h' | rfl
          · exact hall.out i h h'
          · unfold badP at hb; simpa using hb)
        clear hb
        go_wp2_with fail
        refine hgc.out.mono ?_
        rintro e w1 ⟨rfl, hb1⟩
        have hb1 := Lib.hid (hK.out.trans (hb1.mono hK.out.size))
        go_wp2_with fail
        go_roundg (W.length - j)
        case measure => omega
        case rel => exact ⟨j + 1, by simp, hlt, by omega, hall2, hb1⟩
    · have hr := Lib.hid (show badIdx W = -1 from badIdx_none fun i hi => hall.out i hi (by omega))
      have hge : ¬ ((j : Int) < (W.length : Int)) := by omega
      go_wp2_with fail
      go_ret
      exact ⟨ret_int hr.out.symm, hK.out⟩
set_option maxRecDepth 100000 in
theorem contains_any (v : Value) (W : List (List UInt8)) (g : Nat) (w : World) (hv : TextsAt w v W) (hm : ∀ x ∈ W, x.length ≤ maxLen) (hg : IsBad g w.heap.size w) (eg : ∀ args w, (callFunc g args).run Tryz.prog w = .ok (.enter g args) w) :
    Calls Tryz.prog 144 #[v, .func (.func g) #[] #[]] w fun e w' => e = .returned (.bool (decide (0 ≤ badIdx W))) ∧ Below w.heap.size w w' := by
  have hi := Lib.hid (index_any v W g w hv hm hg eg)
  rcases badIdx_cases W with ⟨h, _⟩ | ⟨j, _, h, _⟩
  · have hr := Lib.hid (show decide (0 ≤ badIdx W) = false by rw [h]; rfl)
    have h := Lib.hid h
    rw [h.out] at hi
    go_enter Tryz.func144, Tryz.ntmps144
    go_wp2_with fail
    refine hi.out.mono ?_
    rintro e w1 ⟨rfl, hb⟩
    go_wp2_with fail
    go_ret
    exact ⟨ret_bool hr.out.symm, hb⟩
  · have hr := Lib.hid (show decide (0 ≤ badIdx W) = true by rw [h]; exact decide_eq_true (by omega))
    rw [h] at hi
    clear h
    have h0 : (0 : Int) ≤ (j : Int) := by omega
    go_enter Tryz.func144, Tryz.ntmps144
    go_wp2_with fail
    refine hi.out.mono ?_
    rintro e w1 ⟨rfl, hb⟩
    go_wp2_with fail
    go_ret
    exact ⟨ret_bool hr.out.symm, hb⟩
end Go.Proofs.YtkhphdkjnpcnnaaGreatDoor
