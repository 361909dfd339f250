/- SesK, LibS, Word, Number, Funcs, Make, Look, TickW, TickR -/
import Derived.Test.YtlcomdbkkfbjiaaGreatDoorMg10
import Derived.Test.YtlcomdbkkfbjiaaGreatDoorMg8
import Derived.RegionTactic
import Derived.ChangeAlike
import Derived.Test.YtlcomdbkkfbjiaaGreatDoorMg7
import Derived.Test.YtlcomdbkkfbjiaaGreatDoorMg2
import Derived.Test.YtlcomdbkkfbjiaaGreatDoorMg1
import Derived.Lib.SmallJoins
import Derived.Deep.LoopGhost
import Derived.Test.YtlcomdbkkfbjiaaGreatDoorMg3
import Derived.Test.YtlcomdbkkfbjiaaGreatDoorMg11
import Derived.Deep.RegionHeld3
import Derived.Test.YtlcomdbkkfbjiaaGreatDoorMg9
/- Package session: Ask: walked. -/
namespace Go.Proofs.YtlcomdbkkfbjiaaGreatDoor
open Go.RowKit Go.MapKept

set_option maxHeartbeats 4000000 in
set_option maxRecDepth 100000 in
theorem ask_desk {E : Nat → Addr} (b r : Nat) (next : Int) (L : List Ses) (n now : Int) (w : World) (hL : Laid E w) (hD : DeskS w b r next L) (hG : GoodS next L) :
    Calls Tryz.prog 10 #[.pointer (some ⟨b, 0, none⟩), .int .i64 n, .int .i64 now] w fun e w' => e = .returned (.tuple #[(askSs L n now).1.val, errV E (askSs L n now).2]) ∧ Below w.heap.size w w' := by
  have hA1 : Below w.heap.size w (w.alloc (.cells #[.string ⟨#[]⟩, .string ⟨#[]⟩, .int .i64 0, .int .i64 0, .int .i64 0, .int .i64 0] 32)) := (Below.refl _ _).alloc (Nat.le_refl _) _
  have hbr := heap_alloc_new w (.cells #[.string ⟨#[]⟩, .string ⟨#[]⟩, .int .i64 0, .int .i64 0, .int .i64 0, .int .i64 0] 32)
  have hD1 := hD.below hA1
  have hL1 := hL.below hA1
  have c1 := hD1.at1
  have hask : askSs L n now = match findS L n with
    | none => (noTick, 5)
    | some p => if goodT p.t now = 0 then (p.t, 0) else (noTick, goodT p.t now) := rfl
  cases hf : findS L n with
  | none =>
    rw [hf] at hask
    dsimp only at hask
    have hl : (Instr.lookup 64 (.map (some r)) (.int .i64 n) true).run Tryz.prog (w.alloc (.cells #[.string ⟨#[]⟩, .string ⟨#[]⟩, .int .i64 0, .int .i64 0, .int .i64 0, .int .i64 0] 32)) = .ok (.tuple #[.agg #[.string ⟨#[]⟩, .string ⟨#[]⟩, .int .i64 0, .int .i64 0, .int .i64 0, .int .i64 0], .bool false]) _ := hD1.lookup_none hf
    have hA2 := (Below.refl (w.alloc (.cells #[.string ⟨#[]⟩, .string ⟨#[]⟩, .int .i64 0, .int .i64 0, .int .i64 0, .int .i64 0] 32)).heap.size _).alloc (Nat.le_refl _) (.cells #[.string ⟨#[]⟩, .string ⟨#[]⟩, .int .i64 0, .int .i64 0, .int .i64 0, .int .i64 0] 32)
    have he := (hL1.below hA2).e5
    have hB := Lib.hid (below_trans hA1 hA2)
    have hr := Lib.hid hask
    simp only [errV] at he
    clear hask hf hD hD1 hL hL1 hA1 hA2 hbr hG
    go_enter Tryz.func10, Tryz.ntmps10
    go_wp2_with fail
    go_region
    all_goals
      go_wp2_with fail
      exact bodyPost_ret (v := .tuple #[.agg #[.string ⟨#[]⟩, .string ⟨#[]⟩, .int .i64 0, .int .i64 0, .int .i64 0, .int .i64 0], errV E 5]) (by simp [results, Tryz.results10, go_sem, errV]) rfl ⟨by rw [hr.out]; rfl, hB.out.drew⟩
  | some p =>
    rw [hf] at hask
    dsimp only at hask
    obtain ⟨hp, hpn⟩ := findS_some hf
    have htk := hG.tick p hp
    have hl := hD1.lookup_some hf
    have hA2 := (Below.refl (w.alloc (.cells #[.string ⟨#[]⟩, .string ⟨#[]⟩, .int .i64 0, .int .i64 0, .int .i64 0, .int .i64 0] 32)).heap.size _).alloc (Nat.le_refl _) (.cells p.t.cells 32)
    have hbt := heap_alloc_new (w.alloc (.cells #[.string ⟨#[]⟩, .string ⟨#[]⟩, .int .i64 0, .int .i64 0, .int .i64 0, .int .i64 0] 32)) (.cells p.t.cells 32)
    rw [World.size_alloc] at hbt
    have hbr2 := Lib.hid (heap_below hA2 hbr)
    have hbtH := Lib.hid hbt
    have hgd := Lib.hid (good_tick (E := E) p.t now _ (hL1.below hA2) (by
      have := tick_size htk
      constructor <;> (unfold maxLen; omega)))
    have hB := Lib.hid (below_trans hA1 hA2)
    clear hf hD hD1 hL hL1 hA1 hA2 hbr hbt hG hp hpn htk
    generalize goodT p.t now = c at *
    obtain ⟨pn, who, svc, ep, bg, fn, sr⟩ := p
    dsimp only [Tick.val, Tick.cells] at *
    cases c with
    | succ c =>
      have hr := Lib.hid (hask.trans (if_neg (Nat.succ_ne_zero c)))
      rw [errV_succ] at hgd
      clear hask
      go_enter Tryz.func10, Tryz.ntmps10
      go_wp2_with fail
      refine hgd.out.mono ?_
      rintro e w3 ⟨rfl, hb3⟩
      have hrr3 := Lib.hid (heap_below hb3 hbr2.out)
      have hb := Lib.hid (below_trans hB.out hb3)
      obtain ⟨⟨r0, r1, r2, r3, r4, r5⟩, f0, f1, f2, f3, f4, f5⟩ := tick_kept (Below.refl _ _) hrr3.out
      have hfin := Lib.hid (below_set6 (n := w.heap.size) hb.out (Nat.le_refl _) (.string ⟨#[]⟩) (.string ⟨#[]⟩) (.int .i64 0) (.int .i64 0) (.int .i64 0) (.int .i64 0))
      clear hb3
      go_wp2_with fail
      obtain ⟨⟨q0, q1, q2, q3, q4, q5⟩, _⟩ := tick_kept (Below.refl _ _) (row_set6 hrr3.out (.string ⟨#[]⟩) (.string ⟨#[]⟩) (.int .i64 0) (.int .i64 0) (.int .i64 0) (.int .i64 0))
      exact bodyPost_ret (v := .tuple #[.agg #[.string ⟨#[]⟩, .string ⟨#[]⟩, .int .i64 0, .int .i64 0, .int .i64 0, .int .i64 0], errV E (c + 1)]) (by simp [results, Tryz.results10, go_sem, errV, q0, q1, q2, q3, q4, q5]) rfl ⟨by rw [hr.out]; rfl, hfin.out⟩
    | zero =>
      have hr := Lib.hid (hask.trans (if_pos rfl))
      rw [errV_zero] at hgd
      clear hask
      go_enter Tryz.func10, Tryz.ntmps10
      go_wp2_with fail
      refine hgd.out.mono ?_
      rintro e w3 ⟨rfl, hb3⟩
      have hrr3 := Lib.hid (heap_below hb3 hbr2.out)
      have htt3 := heap_below hb3 hbtH.out
      have hb := Lib.hid (below_trans hB.out hb3)
      obtain ⟨⟨r0, r1, r2, r3, r4, r5⟩, f0, f1, f2, f3, f4, f5⟩ := tick_kept (Below.refl _ _) hrr3.out
      obtain ⟨⟨t0, t1, t2, t3, t4, t5⟩, _⟩ := tick_kept (Below.refl _ _) htt3
      have hfin := Lib.hid (below_set6 (n := w.heap.size) hb.out (Nat.le_refl _) (.string (bs who)) (.string (bs svc)) (.int .i64 ep) (.int .i64 bg) (.int .i64 fn) (.int .i64 sr))
      clear hb3 htt3
      go_wp2_with fail
      obtain ⟨⟨q0, q1, q2, q3, q4, q5⟩, _⟩ := tick_kept (Below.refl _ _) (row_set6 hrr3.out (.string (bs who)) (.string (bs svc)) (.int .i64 ep) (.int .i64 bg) (.int .i64 fn) (.int .i64 sr))
      exact bodyPost_ret (v := .tuple #[.agg #[.string (bs who), .string (bs svc), .int .i64 ep, .int .i64 bg, .int .i64 fn, .int .i64 sr], .nilIface]) (by simp [results, Tryz.results10, go_sem, q0, q1, q2, q3, q4, q5]) rfl ⟨by rw [hr.out]; rfl, hfin.out⟩
end Go.Proofs.YtlcomdbkkfbjiaaGreatDoor

/- What the library's variables hold; strconv.Atoi, strconv.Itoa by contracts. -/
namespace Go.Proofs.YtlcomdbkkfbjiaaGreatDoor
open Go.RowKit Go.Sort

/-- The sentinels, and the library's variables. -/
structure LaidS (E : Nat → Addr) (w : World) : Prop where
  laid : Laid E w
  pow : Lib.TabIs Tryz.prog w "internal/strconv.uint64pow10" .u64 Lib.pow10Tab
  syn : ∃ t p, w.var? Tryz.prog "strconv.ErrSyntax" = some #[.iface t p]
  rng : ∃ t p, w.var? Tryz.prog "strconv.ErrRange" = some #[.iface t p]
  mx : ∃ m, w.cell? ⟨19, 0, none⟩ = some (.int .i64 m)
theorem below_grow (w : World) (k : Nat) (os : Array Obj) : Below w.heap.size w (grow (w.drewN k) os) :=
  ⟨rfl, rfl, rfl, by simp [grow], fun i hi => by
    show (w.heap ++ os)[i]? = w.heap[i]?
    rw [Array.getElem?_append_left hi]⟩
theorem atoiAll_ge {l : List UInt8} {v : Int} (h : Lib.atoiAll l = .ok v) : -9223372036854775808 ≤ v ∧ v ≤ 9223372036854775807 := by
  unfold Lib.atoiAll at h
  cases l with
  | nil => cases h
  | cons c r =>
    dsimp only at h
    rcases hm : Lib.parseMag (if c.toNat = 43 ∨ c.toNat = 45 then r else c :: r) with u | _ | _
    · rw [hm] at h
      dsimp only at h
      by_cases hn : c.toNat = 45
      · simp only [hn, not_true_eq_false, false_and, if_false, true_and, if_true] at h
        split at h
        · cases h
        · cases h; omega
      · simp only [hn, not_false_eq_true, true_and, false_and, if_false] at h
        split at h
        · cases h
        · cases h; omega
    · rw [hm] at h; cases h
    · rw [hm] at h; cases h
end Go.Proofs.YtlcomdbkkfbjiaaGreatDoor

/- seal.Word, by its contract. -/
namespace Go.Proofs.YtlcomdbkkfbjiaaGreatDoor
open Go.RowKit

set_option maxRecDepth 100000 in
theorem trim_word (s : ByteArray) (w : World) (hs : s.size ≤ maxLen) :
    Calls Tryz.prog 74 #[.string s, .string (bs wordCs)] w fun e w' => e = .returned (.string (bs (Lib.trimS s.data.toList wordCs))) ∧ Below w.heap.size w w' :=
  Any.strings_Trim_laid Tryz.trim160 (by kernel_rfl) s (bs wordCs) w hs (by decide) (ascii_of_all (by decide))
end Go.Proofs.YtlcomdbkkfbjiaaGreatDoor

/- seal.Number by its contract. -/
namespace Go.Proofs.YtlcomdbkkfbjiaaGreatDoor
open Go.RowKit Go.Sort

theorem number_none {l : List UInt8} {most : Int} (h : numOf l = none) : number l most = (0, false) := by unfold number; rw [h]
/-- seal.Number of what the law's texts hold. -/
def numRes (l : List UInt8) (most : Int) : Value := .tuple #[.int .i64 (number l most).1, .bool (number l most).2]
end Go.Proofs.YtlcomdbkkfbjiaaGreatDoor

/- slices.IndexFunc and ContainsFunc at texts, where a text that is no word is looked for. -/
namespace Go.Proofs.YtlcomdbkkfbjiaaGreatDoor
open Go.RowKit

/-- What a function that asks for a text that is no word does. -/
def IsBad (g : Nat) (B : Nat) (w : World) : Prop := ∀ (W : World) (s : List UInt8), s.length ≤ maxLen → Below B w W → Calls Tryz.prog g #[.string (bs s)] W fun e w' => e = .returned (.bool (badP s)) ∧ Below W.heap.size W w'
end Go.Proofs.YtlcomdbkkfbjiaaGreatDoor

/- seal.Make by its contract. -/
namespace Go.Proofs.YtlcomdbkkfbjiaaGreatDoor
open Go.RowKit

theorem ret_str2 {a b : ByteArray} {v : Value} (h : a = b) : Ending.returned (.tuple #[.string a, v]) = .returned (.tuple #[.string b, v]) := by rw [h]
theorem str_add (a b : List UInt8) : bs a ++ bs b = bs (a ++ b) := by
  apply ByteArray.ext
  simp [bs]
end Go.Proofs.YtlcomdbkkfbjiaaGreatDoor

/- seal.look, Look and Open by contracts. -/
namespace Go.Proofs.YtlcomdbkkfbjiaaGreatDoor
open Go.RowKit

theorem textsAt_nil (w : World) : TextsAt w (.slice none 0 0) [] := ⟨none, 0, rfl, Nat.zero_le _, Nat.zero_le _, fun i hi => by cases hi⟩
end Go.Proofs.YtlcomdbkkfbjiaaGreatDoor

/- The walks of package ticket: Renew by contract. -/
namespace Go.Proofs.YtlcomdbkkfbjiaaGreatDoor
open Go.RowKit

end Go.Proofs.YtlcomdbkkfbjiaaGreatDoor

/- The reference's tickets: TicketError, GoodError, RenewOf. -/
namespace Go.Proofs.YtlcomdbkkfbjiaaGreatDoor
open Go.RowKit

theorem tickErr_two {t : Tick} (h1 : isName t.who = true) (h2 : isName t.svc = true) (h : ¬ ((1 ≤ t.epoch ∧ t.epoch ≤ 1073741824) ∧ (1 ≤ t.serial ∧ t.serial ≤ 1073741824) ∧ (0 ≤ t.beg ∧ t.beg ≤ 1000000) ∧ t.beg ≤ t.fin ∧ t.fin ≤ 1000000)) : tickErr t = 2 := by
  unfold tickErr
  rw [h1, h2]
  rw [if_pos (show (true && true) = true from rfl), if_neg]
  exact fun e => h ((tickNum_iff t).1 e)
theorem tickErr_ok {t : Tick} (h1 : isName t.who = true) (h2 : isName t.svc = true) (h : (1 ≤ t.epoch ∧ t.epoch ≤ 1073741824) ∧ (1 ≤ t.serial ∧ t.serial ≤ 1073741824) ∧ (0 ≤ t.beg ∧ t.beg ≤ 1000000) ∧ t.beg ≤ t.fin ∧ t.fin ≤ 1000000) : tickErr t = 0 := by
  unfold tickErr
  rw [h1, h2]
  rw [if_pos (show (true && true) = true from rfl), if_pos ((tickNum_iff t).2 h)]
theorem tickErr_four {t : Tick} (h : isName t.who = false ∨ isName t.svc = false) : tickErr t = 4 := by
  unfold tickErr
  rw [if_neg]
  rcases h with h | h
  · rw [h]; simp
  · rw [h]; simp
set_option maxHeartbeats 1000000 in
set_option maxRecDepth 100000 in
theorem errR_tick (t : Tick) (w : World) (hl : TickLen t) :
    Calls Tryz.prog 38 #[t.val] w fun e w' => e = .returned (.int .i64 (tickErr t : Nat)) ∧ Below w.heap.size w w' := by
  have hB : Below w.heap.size w (w.alloc (.cells t.cells 32)) := (Below.refl _ _).alloc (Nat.le_refl _) _
  have hnw := fun wx => isNameR_any (bs t.who) wx (by rw [bs_size]; exact hl.1)
  have hns := fun wx => isNameR_any (bs t.svc) wx (by rw [bs_size]; exact hl.2)
  rw [bs_list] at hnw hns
  have h4 := @tickErr_four t
  have h2 := @tickErr_two t
  have h0 := @tickErr_ok t
  generalize tickErr t = r at *
  obtain ⟨who, svc, ep, bg, fn, sr⟩ := t
  dsimp only [Tick.val, Tick.cells] at *
  have hcs := Lib.hid (tick_kept (Below.refl _ _) (heap_alloc_new w (.cells #[.string (bs who), .string (bs svc), .int .i64 ep, .int .i64 bg, .int .i64 fn, .int .i64 sr] 32)))
  cases ha : isName who with
  | false =>
    have hr := Lib.hid (h4 (.inl ha))
    rw [ha] at hnw
    have hnwH := Lib.hid hnw
    have hnsH := Lib.hid hns
    clear h4 h2 h0 ha hnw hns
    cases hb : isName svc
    all_goals
      rw [hb] at hnsH
      clear hb
      obtain ⟨⟨c0, c1, c2, c3, c4, c5⟩, _⟩ := hcs.out
      go_enter Tryz.func38, Tryz.ntmps38
      go_wp2_with fail
      refine (hnwH.out _).mono ?_
      rintro e w' ⟨rfl, rfl⟩
      go_wp2_with fail
      refine (hnsH.out _).mono ?_
      rintro e w' ⟨rfl, rfl⟩
      go_wp2_with fail
      go_ret
      exact ⟨by rw [hr.out]; rfl, hB⟩
  | true =>
  rw [ha] at hnw
  have hnwH := Lib.hid hnw
  clear hnw
  cases hb : isName svc with
  | false =>
    have hr := Lib.hid (h4 (.inr hb))
    rw [hb] at hns
    have hnsH := Lib.hid hns
    clear h4 h2 h0 ha hb hns
    obtain ⟨⟨c0, c1, c2, c3, c4, c5⟩, _⟩ := hcs.out
    go_enter Tryz.func38, Tryz.ntmps38
    go_wp2_with fail
    refine (hnwH.out _).mono ?_
    rintro e w' ⟨rfl, rfl⟩
    go_wp2_with fail
    refine (hnsH.out _).mono ?_
    rintro e w' ⟨rfl, rfl⟩
    go_wp2_with fail
    go_ret
    exact ⟨by rw [hr.out]; rfl, hB⟩
  | true =>
  rw [hb] at hns
  have hnsH := Lib.hid hns
  have h2H := Lib.hid (h2 ha hb)
  have h0H := Lib.hid (h0 ha hb)
  clear h4 h2 h0 ha hb hns
  have hcase : ep < 1 ∨ (1 ≤ ep ∧ 1073741824 < ep) ∨ (1 ≤ ep ∧ ep ≤ 1073741824 ∧ sr < 1) ∨ (1 ≤ ep ∧ ep ≤ 1073741824 ∧ 1 ≤ sr ∧ 1073741824 < sr) ∨ (1 ≤ ep ∧ ep ≤ 1073741824 ∧ 1 ≤ sr ∧ sr ≤ 1073741824 ∧ bg < 0) ∨ (1 ≤ ep ∧ ep ≤ 1073741824 ∧ 1 ≤ sr ∧ sr ≤ 1073741824 ∧ 0 ≤ bg ∧ 1000000 < bg) ∨ (1 ≤ ep ∧ ep ≤ 1073741824 ∧ 1 ≤ sr ∧ sr ≤ 1073741824 ∧ 0 ≤ bg ∧ bg ≤ 1000000 ∧ fn < bg) ∨ (1 ≤ ep ∧ ep ≤ 1073741824 ∧ 1 ≤ sr ∧ sr ≤ 1073741824 ∧ 0 ≤ bg ∧ bg ≤ 1000000 ∧ bg ≤ fn ∧ 1000000 < fn) ∨ (1 ≤ ep ∧ ep ≤ 1073741824 ∧ 1 ≤ sr ∧ sr ≤ 1073741824 ∧ 0 ≤ bg ∧ bg ≤ 1000000 ∧ bg ≤ fn ∧ fn ≤ 1000000) := by omega
  rcases hcase with x1 | ⟨x1, x2⟩ | ⟨x1, x2, x3⟩ | ⟨x1, x2, x3, x4⟩ | ⟨x1, x2, x3, x4, x5⟩ | ⟨x1, x2, x3, x4, x5, x6⟩ | ⟨x1, x2, x3, x4, x5, x6, x7⟩ | ⟨x1, x2, x3, x4, x5, x6, x7, x8⟩ | ⟨x1, x2, x3, x4, x5, x6, x7, x8⟩
  all_goals
    have hr : Hid (r = 2) ∨ Hid (r = 0) := by first | exact .inl (Lib.hid (h2H.out (by omega))) | exact .inr (Lib.hid (h0H.out (by omega)))
    obtain ⟨⟨c0, c1, c2, c3, c4, c5⟩, _⟩ := hcs.out
    go_enter Tryz.func38, Tryz.ntmps38
    go_wp2_with fail
    refine (hnwH.out _).mono ?_
    rintro e w' ⟨rfl, rfl⟩
    go_wp2_with fail
    refine (hnsH.out _).mono ?_
    rintro e w' ⟨rfl, rfl⟩
    go_wp2_with fail
    go_ret
    refine ⟨?_, hB⟩
    rcases hr with hr | hr
    all_goals first | (rw [hr.out]; rfl) | (exfalso; first | (have := h0H.out (by omega); have := hr.out; omega) | (have := h2H.out (by omega); have := hr.out; omega))

set_option maxRecDepth 100000 in
theorem goodR_tick (t : Tick) (now : Int) (w : World) (hl : TickLen t) :
    Calls Tryz.prog 25 #[t.val, .int .i64 now] w fun e w' => e = .returned (.int .i64 (goodT t now : Nat)) ∧ Below w.heap.size w w' := by
  have hB : Below w.heap.size w (w.alloc (.cells t.cells 32)) := (Below.refl _ _).alloc (Nat.le_refl _) _
  have hbt := Lib.hid (heap_alloc_new w (.cells t.cells 32))
  have hck := Lib.hid (errR_tick t (w.alloc (.cells t.cells 32)) hl)
  have hgd : goodT t now = if tickErr t = 0 then (if 0 ≤ now ∧ now ≤ 1000000 then (if now < t.beg then 11 else if t.fin ≤ now then 12 else 0) else 2) else tickErr t := rfl
  generalize tickErr t = c at *
  obtain ⟨who, svc, ep, bg, fn, sr⟩ := t
  dsimp only [Tick.val, Tick.cells] at *
  cases c with
  | succ c =>
    have hr := Lib.hid (hgd.trans (if_neg (Nat.succ_ne_zero c)))
    clear hgd
    go_enter Tryz.func25, Tryz.ntmps25
    go_wp2_with fail
    refine hck.out.mono ?_
    rintro e w1 ⟨rfl, hb⟩
    have hbH := Lib.hid (below_trans hB hb)
    clear hb
    go_wp2_with fail
    go_ret
    exact ⟨by rw [hr.out]; rfl, hbH.out⟩
  | zero =>
  have hgdH := Lib.hid (hgd.trans (if_pos rfl))
  clear hgd
  have hcase : now < 0 ∨ (0 ≤ now ∧ 1000000 < now) ∨ (0 ≤ now ∧ now ≤ 1000000 ∧ now < bg) ∨ (0 ≤ now ∧ now ≤ 1000000 ∧ bg ≤ now ∧ fn ≤ now) ∨ (0 ≤ now ∧ now ≤ 1000000 ∧ bg ≤ now ∧ now < fn) := by omega
  rcases hcase with x1 | ⟨x1, x2⟩ | ⟨x1, x2, x3⟩ | ⟨x1, x2, x3, x4⟩ | ⟨x1, x2, x3, x4⟩
  all_goals
    go_enter Tryz.func25, Tryz.ntmps25
    go_wp2_with fail
    refine hck.out.mono ?_
    rintro e w1 ⟨rfl, hb⟩
    obtain ⟨⟨c0, c1, c2, c3, c4, c5⟩, _⟩ := tick_kept hb hbt.out
    have hbH := Lib.hid (below_trans hB hb)
    clear hb
    go_wp2_with fail
    go_ret
    refine ⟨?_, hbH.out⟩
    have e := hgdH.out
    first
      | (rw [e, if_neg (by omega)]; rfl)
      | (rw [e, if_pos (by omega), if_pos (by omega)]; rfl)
      | (rw [e, if_pos (by omega), if_neg (by omega), if_pos (by omega)]; rfl)
      | (rw [e, if_pos (by omega), if_neg (by omega), if_neg (by omega)]; rfl)

theorem row_set2b {w : World} {n : Nat} {u0 u1 u2 u3 u4 u5 : Value} {T : TypeId} (h : w.heap[n]? = some (.cells #[u0, u1, u2, u3, u4, u5] T (0, 0))) (v3 v5 : Value) :
    ((w.setCell ⟨n, 3, none⟩ v3).setCell ⟨n, 5, none⟩ v5).heap[n]? = some (.cells #[u0, u1, u2, v3, u4, v5] T (0, 0)) := by
  have h3 := heap_setCell_same _ n 3 _ _ v3 h
  exact heap_setCell_same _ n 5 _ _ v5 h3
theorem row_other2b {w : World} {n m : Nat} {o : Obj} (h : w.heap[m]? = some o) (hne : m ≠ n) (v3 v5 : Value) :
    ((w.setCell ⟨n, 3, none⟩ v3).setCell ⟨n, 5, none⟩ v5).heap[m]? = some o := by
  rw [heap_setCell_other _ _ _ _ hne, heap_setCell_other _ _ _ _ hne]
  exact h
theorem below_set2b {B : Nat} {a w : World} (h : Below B a w) {n : Nat} (hn : B ≤ n) (v3 v5 : Value) :
    Below B a ((w.setCell ⟨n, 3, none⟩ v3).setCell ⟨n, 5, none⟩ v5) := (h.setCell hn _).setCell hn _
end Go.Proofs.YtlcomdbkkfbjiaaGreatDoor
