/- RefE4, News, NewsA -/
import Derived.Test.YtadnjdchjoechaaGreatDoorMg23
import Derived.Test.YtadnjdchjoechaaGreatDoorMg19
import Derived.Test.YtadnjdchjoechaaGreatDoorMg14
import Derived.Test.YtadnjdchjoechaaGreatDoorMg16
import Derived.Test.YtadnjdchjoechaaGreatDoorMg5
import Derived.Test.YtadnjdchjoechaaGreatDoorMg17
import Derived.Deep.CutRange
import Derived.Deep.CutBlock
import Derived.Deep.RegionHeld3
import Derived.Test.YtadnjdchjoechaaGreatDoorMg6
/- The reference's feeds: HeadOf: walked. -/
namespace Go.Proofs.YtadnjdchjoechaaGreatDoor
open Go.RowKit

/-- What is answered: a text, a fault. -/
def HeadRes (r : List UInt8 × Nat × Int) (e : Ending) : Prop := e = .returned (.tuple #[.string (bs r.1), faultF r.2.1 r.2.2])
theorem HeadRes.mk {r : List UInt8 × Nat × Int} {L : List UInt8} {c : Nat} {a z : Int} {x : ByteArray} (hr : r = (L, c, a)) (hx : x = bs L) (hz : z = (c : Int)) : HeadRes r (.returned (.tuple #[.string x, .agg #[.int .i64 z, .int .i64 a]])) := by
  subst hr hx hz
  rfl
set_option maxHeartbeats 8000000 in
set_option maxRecDepth 100000 in
theorem headR_any (k : Int) (v : Value) (L : List Ent) (time : Int) (w : World) (hv : EntsAt w v L) (hm : ∀ e ∈ L, e.f.who.length ≤ maxLen) :
    Calls Tryz.prog 36 #[.int .i64 k, v, .int .i64 time] w fun e w' => HeadRes (headOf k L time) e ∧ Below w.heap.size w w' := by
  have hB0 : FBox w (w.alloc (.cells #[.int .i64 0, .int .i64 0] 87)) := ⟨heap_alloc_new w _, (Below.refl _ _).alloc (Nat.le_refl _) _⟩
  have hB0H := Lib.hid hB0
  by_cases hk : isKey k = true
  case neg =>
    have hk : isKey k = false := by simpa using hk
    have hr := Lib.hid (show headOf k L time = ([], 10, -1) by unfold headOf; rw [if_pos hk])
    have hba := Lib.hid (bareF_any 10 (w.alloc (.cells #[.int .i64 0, .int .i64 0] 87)))
    clear hv hm hB0
    go_enter Tryz.func36, Tryz.ntmps36
    go_wp2_with (go_at_call 24; refine (isKey_any _ _).mono ?_; rintro e w' ⟨rfl, rfl⟩)
    refine hba.out.mono ?_
    rintro e w1 ⟨rfl, hb1⟩
    have hB1 := hB0H.out.below hb1
    obtain ⟨⟨r0, r1⟩, f0, f1⟩ := hB1.cells
    have hfl := Lib.hid (hB1.set (.int .i64 10) (.int .i64 (-1)))
    clear hb1 hB1
    go_wp2_with fail
    exact bodyPost_ret (v := .tuple #[.string ⟨#[]⟩, .agg #[.int .i64 10, .int .i64 (-1)]]) (by simp [results, Tryz.results36, go_sem, hfl.out.1]) rfl ⟨HeadRes.mk hr.out rfl rfl, hfl.out.2⟩
  have hfl := Lib.hid (floorsR_ent v L (w.alloc (.cells #[.int .i64 0, .int .i64 0] 87)) (AtG.below hv hB0.2) hm)
  have hkH := Lib.hid hk
  have hprev := fun q (hq : L.length = q + 1) => (show ∃ b o c, v = .slice (some ⟨b, o, none⟩) L.length c ∧ w.cell? ⟨b, o + q * 4 + 1, none⟩ = some (.int .i64 (wasE L L.length)) from by
    obtain ⟨a, c, rfl, _, _, hc⟩ := EntsAt.get hv
    obtain ⟨b', o', rfl, _, p1, _⟩ := hc q (by omega)
    refine ⟨b', o', c, rfl, ?_⟩
    rw [p1]
    unfold wasE
    rw [if_neg (by omega), show L.length - 1 = q by omega, getD_get (by omega)])
  obtain ⟨a0, c0, hv0⟩ := AtG.sl hv
  have hlen := AtG.len hv
  unfold maxLen at hlen
  clear hB0
  by_cases hf : (floorsE L).2.1 = 0
  case neg =>
    have hr := headOf_err (time := time) hk hf
    obtain ⟨O, z, a1, hza⟩ : ∃ O z a1, floorsE L = (O, z, a1) := ⟨_, _, _, rfl⟩
    have hfl := hfl.out
    unfold RaiRes at hfl
    rw [hza] at hfl hr hf
    dsimp only [faultF] at hfl hr hf
    have hr := Lib.hid hr
    have hz1 : (0 : Int) < (z : Int) := by omega
    generalize hzd : (z : Int) = zi at *
    have hzd := Lib.hid hzd
    have hfl := Lib.hid hfl
    subst hv0
    clear hf hprev hv hm hza
    go_enter Tryz.func36, Tryz.ntmps36
    go_wp2_with (go_at_call 24; refine (isKey_any _ _).mono ?_; rintro e w' ⟨rfl, rfl⟩)
    refine hfl.out.mono ?_
    rintro e w1 ⟨⟨v9, rfl, hv9⟩, hb1⟩
    obtain ⟨a9, c9, hs9, _⟩ := hv9
    subst hs9
    have hB1 := (hB0H.out.below hb1).below ((Below.refl _ _).alloc (Nat.le_refl _) (.cells #[.int .i64 zi, .int .i64 a1] 87))
    obtain ⟨⟨r0, r1⟩, f0, f1⟩ := hB1.cells
    have hB1H := Lib.hid hB1
    clear hb1 hB1
    go_wp2_with fail
    go_region
    all_goals
      go_wp2_with fail
      have hR := hB1H.out.set (.int .i64 zi) (.int .i64 a1)
      have hR0 := set2_first hB1H.out.1 (.int .i64 zi)
      exact bodyPost_ret (v := .tuple #[.string ⟨#[]⟩, .agg #[.int .i64 zi, .int .i64 a1]]) (by simp [results, Tryz.results36, go_sem, hR.1, hR0]) rfl ⟨HeadRes.mk hr.out rfl hzd.out.symm, hR.2.drew⟩
  obtain ⟨_, _, hfe, hgd⟩ := floorsE_zero hf
  have hl60 := (checkE_zero (L := L) (by rw [(floorsE_zero hf).1])).1
  have hwas0 : L.length = 0 → wasE L L.length = 0 := fun h => by unfold wasE; rw [if_pos h]
  have hrT := Lib.hid (fun h => headOf_time (time := time) hk hf h)
  have hrK := Lib.hid (fun h => headOf_ok (time := time) hk hf h)
  have hfl := hfl.out
  unfold RaiRes at hfl
  have hF2 : floorsE L = ((floorsE L).1, 0, -1) := by rw [hfe]
  have hsum := fun (u : Value) wx (hx : FloorsAt wx u (floorsE L).1) => sumR_flo u (floorsE L).1 wx hx (fun f h => who_len ((floorsE_good hf).g.one f h))
  have hsd := sumF_bd (floorsE L).1
  rw [show (floorsE L).2 = (0, -1) by rw [hfe]] at hfl
  dsimp only [faultF] at hfl
  have hwords := Lib.hid (fun (h0 : 0 ≤ time) (h1 : time ≤ 1000000) => headWords_words (n := (L.length : Int)) (time := time) (sum := sumF (floorsE L).1) (by omega) (by omega) hsd)
  generalize (floorsE L).1 = O at *
  generalize wasE L L.length = was at *
  generalize sumF O = sm at *
  have hfl := Lib.hid hfl
  have hsum := Lib.hid hsum
  obtain ⟨n, hn⟩ : ∃ n, L.length = n := ⟨_, rfl⟩
  rw [hn] at hv0 hprev hl60 hrK hwords hwas0 hlen
  clear hf hm hv hn hfe hF2 hgd
  by_cases ht : time < 0 ∨ 1000000 < time ∨ time < was
  · have hr := Lib.hid (hrT.out ht)
    clear hrT hrK hwords hsum hsd
    by_cases ht0 : time < 0
    · clear hprev hwas0 ht
      subst hv0
      go_enter Tryz.func36, Tryz.ntmps36
      go_wp2_with (go_at_call 24; refine (isKey_any _ _).mono ?_; rintro e w' ⟨rfl, rfl⟩)
      refine hfl.out.mono ?_
      rintro e w1 ⟨⟨v9, rfl, hv9⟩, hb1⟩
      have hv9H := Lib.hid hv9
      obtain ⟨a9, c9, hs9, _⟩ := hv9
      subst hs9
      have hB1 := hB0H.out.below hb1
      have hB1A := Lib.hid (fun o => hB1.below ((Below.refl _ _).alloc (Nat.le_refl _) o))
      clear hB1
      have hba := Lib.hid (fun wx => bareF_any 2 wx)
      clear hb1
      go_wp2_with fail
      refine (hba.out _).mono ?_
      rintro e w2 ⟨rfl, hb2⟩
      have hB2 := (hB1A.out _).below hb2
      obtain ⟨⟨r0, r1⟩, f0, f1⟩ := hB2.cells
      have hset := Lib.hid (hB2.set (.int .i64 2) (.int .i64 (-1)))
      clear hb2 hB2
      go_wp2_with fail
      exact bodyPost_ret (v := .tuple #[.string ⟨#[]⟩, .agg #[.int .i64 2, .int .i64 (-1)]]) (by simp [results, Tryz.results36, go_sem, hset.out.1]) rfl ⟨HeadRes.mk hr.out rfl rfl, hset.out.2⟩
    by_cases ht1 : 1000000 < time
    · clear hprev hwas0 ht
      subst hv0
      go_enter Tryz.func36, Tryz.ntmps36
      go_wp2_with (go_at_call 24; refine (isKey_any _ _).mono ?_; rintro e w' ⟨rfl, rfl⟩)
      refine hfl.out.mono ?_
      rintro e w1 ⟨⟨v9, rfl, hv9⟩, hb1⟩
      have hv9H := Lib.hid hv9
      obtain ⟨a9, c9, hs9, _⟩ := hv9
      subst hs9
      have hB1 := hB0H.out.below hb1
      have hB1A := Lib.hid (fun o => hB1.below ((Below.refl _ _).alloc (Nat.le_refl _) o))
      clear hB1
      have hba := Lib.hid (fun wx => bareF_any 2 wx)
      clear hb1
      go_wp2_with fail
      refine (hba.out _).mono ?_
      rintro e w2 ⟨rfl, hb2⟩
      have hB2 := (hB1A.out _).below hb2
      obtain ⟨⟨r0, r1⟩, f0, f1⟩ := hB2.cells
      have hset := Lib.hid (hB2.set (.int .i64 2) (.int .i64 (-1)))
      clear hb2 hB2
      go_wp2_with fail
      exact bodyPost_ret (v := .tuple #[.string ⟨#[]⟩, .agg #[.int .i64 2, .int .i64 (-1)]]) (by simp [results, Tryz.results36, go_sem, hset.out.1]) rfl ⟨HeadRes.mk hr.out rfl rfl, hset.out.2⟩
    · have ht2 : time < was := by omega
      have hn0 : n ≠ 0 := fun h => by have := hwas0 h; omega
      obtain ⟨q, rfl⟩ : ∃ q, n = q + 1 := ⟨n - 1, by omega⟩
      obtain ⟨b, o, c, hv1, p1⟩ := hprev q rfl
      clear hprev hwas0 ht hn0 hv0
      subst hv1
      have p1H := Lib.hid p1
      have hq0 : (0 : Int) ≤ (q : Int) := by omega
      have hq1 : (q : Int) < (q : Int) + 1 := by omega
      clear p1
      go_enter Tryz.func36, Tryz.ntmps36
      go_wp2_with (go_at_call 24; refine (isKey_any _ _).mono ?_; rintro e w' ⟨rfl, rfl⟩)
      refine hfl.out.mono ?_
      rintro e w1 ⟨⟨v9, rfl, hv9⟩, hb1⟩
      have hv9H := Lib.hid hv9
      obtain ⟨a9, c9, hs9, _⟩ := hv9
      subst hs9
      have hB1 := hB0H.out.below hb1
      have hB1A := Lib.hid (fun o => hB1.below ((Below.refl _ _).alloc (Nat.le_refl _) o))
      clear hB1
      have hba := Lib.hid (fun wx => bareF_any 2 wx)
      have p1 := fun o => cell_below (below_trans (hB1A.out o).2 (Below.refl _ _)) p1H.out
      have p1 := p1 (.cells #[.int .i64 0, .int .i64 (-1)] 87)
      clear hb1
      go_wp2_with fail
      refine (hba.out _).mono ?_
      rintro e w2 ⟨rfl, hb2⟩
      have hB2 := (hB1A.out _).below hb2
      obtain ⟨⟨r0, r1⟩, f0, f1⟩ := hB2.cells
      have hset := Lib.hid (hB2.set (.int .i64 2) (.int .i64 (-1)))
      clear hb2 hB2
      go_wp2_with fail
      exact bodyPost_ret (v := .tuple #[.string ⟨#[]⟩, .agg #[.int .i64 2, .int .i64 (-1)]]) (by simp [results, Tryz.results36, go_sem, hset.out.1]) rfl ⟨HeadRes.mk hr.out rfl rfl, hset.out.2⟩
  have hr := Lib.hid (hrK.out ht)
  have ht0 : ¬ time < 0 := fun h => ht (.inl h)
  have ht1 : ¬ 1000000 < time := fun h => ht (.inr (.inl h))
  have ht2 : ¬ time < was := fun h => ht (.inr (.inr h))
  have hwords := Lib.hid (hwords.out (by omega) (by omega))
  have hnews := Lib.hid (fun (x : World) => textsAt_of (AtG.newL (C := strC) x (headWords n time sm) 9 (cs := #[.string ⟨#[104, 101, 97, 100]⟩, .string (bs (Lib.itoa n)), .string (bs (Lib.itoa time)), .string (bs (Lib.itoa sm))]) rfl (by unfold maxLen; simp [headWords])))
  have hd1 := Lib.hid (fun wx => decimal_any (n : Int) wx (by omega) (by omega))
  have hd2 := Lib.hid (fun wx => decimal_any time wx (by omega) (by omega))
  have hd3 := Lib.hid (fun wx => decimal_any sm wx (by omega) (by omega))
  have hse := fun vx wx (hvx : TextsAt wx vx (headWords n time sm)) => sealR_any k vx (headWords n time sm) wx hvx (fun x hx => by have := ((isWord_iff x).1 (hwords.out x hx)).2.1; unfold maxLen; omega)
  rw [makeOf_good hkH.out (by simp [headWords]) (by simp [headWords]) hwords.out] at hse
  unfold sealV faultV at hse
  dsimp only at hse
  have hse := Lib.hid hse
  have hwl : headWords n time sm = headWords n time sm := rfl
  clear hrT hrK ht hsd hwl
  by_cases hn0 : n = 0
  · subst hn0
    clear hprev hwas0
    subst hv0
    go_enter Tryz.func36, Tryz.ntmps36
    go_wp2_with (go_at_call 24; refine (isKey_any _ _).mono ?_; rintro e w' ⟨rfl, rfl⟩)
    refine hfl.out.mono ?_
    rintro e w1 ⟨⟨v9, rfl, hv9⟩, hb1⟩
    have hv9H := Lib.hid hv9
    obtain ⟨a9, c9, hs9, _⟩ := hv9
    subst hs9
    have hB1 := hB0H.out.below hb1
    have hB1A := Lib.hid (fun o => hB1.below ((Below.refl _ _).alloc (Nat.le_refl _) o))
    clear hB1
    have hv9A := Lib.hid (fun o => hv9H.out.below ((Below.refl _ _).alloc (Nat.le_refl _) o))
    clear hb1
    go_wp2_with fail
    refine (hd1.out _).mono ?_
    rintro e w2 ⟨rfl, hb2⟩
    have hB2 := Lib.hid ((hB1A.out _).below hb2)
    have hv2 := Lib.hid ((hv9A.out _).below hb2)
    clear hb2
    go_wp2_with fail
    refine (hd2.out _).mono ?_
    rintro e w3 ⟨rfl, hb3⟩
    have hB3 := Lib.hid (hB2.out.below hb3)
    have hv3 := Lib.hid (hv2.out.below hb3)
    clear hb3
    go_wp2_with fail
    refine (hsum.out _ _ hv3.out).mono ?_
    rintro e w4 ⟨rfl, hb4⟩
    have hB4 := Lib.hid (hB3.out.below hb4)
    clear hb4
    go_wp2_with fail
    refine (hd3.out _).mono ?_
    rintro e w5 ⟨rfl, hb5⟩
    have hB5 := Lib.hid (fun o => (hB4.out.below hb5).below ((Below.refl _ _).alloc (Nat.le_refl _) o))
    clear hb5
    go_wp2_with fail
    refine (hse.out _ _ (hnews.out _)).mono ?_
    rintro e w6 ⟨rfl, hb6⟩
    have hB6 := (hB5.out _).below hb6
    obtain ⟨⟨r0, r1⟩, f0, f1⟩ := hB6.cells
    have hset := Lib.hid (hB6.set (.int .i64 0) (.int .i64 (-1)))
    clear hb6 hB6
    go_wp2_with fail
    exact bodyPost_ret (v := .tuple #[.string (bs (sealText k (headWords (0 : Nat) time sm))), .agg #[.int .i64 0, .int .i64 (-1)]]) (by simp [results, Tryz.results36, go_sem, hset.out.1]) rfl ⟨HeadRes.mk hr.out rfl rfl, hset.out.2⟩
  · obtain ⟨q, rfl⟩ : ∃ q, n = q + 1 := ⟨n - 1, by omega⟩
    obtain ⟨b, o, c, hv1, p1⟩ := hprev q rfl
    clear hprev hwas0 hn0 hv0
    subst hv1
    have p1H := Lib.hid p1
    have hq0 : (0 : Int) ≤ (q : Int) := by omega
    have hq1 : (q : Int) < (q : Int) + 1 := by omega
    clear p1
    go_enter Tryz.func36, Tryz.ntmps36
    go_wp2_with (go_at_call 24; refine (isKey_any _ _).mono ?_; rintro e w' ⟨rfl, rfl⟩)
    refine hfl.out.mono ?_
    rintro e w1 ⟨⟨v9, rfl, hv9⟩, hb1⟩
    have hv9H := Lib.hid hv9
    obtain ⟨a9, c9, hs9, _⟩ := hv9
    subst hs9
    have hB1 := hB0H.out.below hb1
    have hB1A := Lib.hid (fun o => hB1.below ((Below.refl _ _).alloc (Nat.le_refl _) o))
    clear hB1
    have hv9A := Lib.hid (fun o => hv9H.out.below ((Below.refl _ _).alloc (Nat.le_refl _) o))
    have p1 := cell_below (hB1A.out (.cells #[.int .i64 0, .int .i64 (-1)] 87)).2 p1H.out
    clear hb1
    go_wp2_with fail
    refine (hd1.out _).mono ?_
    rintro e w2 ⟨rfl, hb2⟩
    have hB2 := Lib.hid ((hB1A.out _).below hb2)
    have hv2 := Lib.hid ((hv9A.out _).below hb2)
    clear hb2
    go_wp2_with fail
    refine (hd2.out _).mono ?_
    rintro e w3 ⟨rfl, hb3⟩
    have hB3 := Lib.hid (hB2.out.below hb3)
    have hv3 := Lib.hid (hv2.out.below hb3)
    clear hb3
    go_wp2_with fail
    refine (hsum.out _ _ hv3.out).mono ?_
    rintro e w4 ⟨rfl, hb4⟩
    have hB4 := Lib.hid (hB3.out.below hb4)
    clear hb4
    go_wp2_with fail
    refine (hd3.out _).mono ?_
    rintro e w5 ⟨rfl, hb5⟩
    have hB5 := Lib.hid (fun o => (hB4.out.below hb5).below ((Below.refl _ _).alloc (Nat.le_refl _) o))
    clear hb5
    go_wp2_with fail
    refine (hse.out _ _ (hnews.out _)).mono ?_
    rintro e w6 ⟨rfl, hb6⟩
    have hB6 := (hB5.out _).below hb6
    obtain ⟨⟨r0, r1⟩, f0, f1⟩ := hB6.cells
    have hset := Lib.hid (hB6.set (.int .i64 0) (.int .i64 (-1)))
    clear hb6 hB6
    go_wp2_with fail
    exact bodyPost_ret (v := .tuple #[.string (bs (sealText k (headWords ((q + 1 : Nat) : Int) time sm))), .agg #[.int .i64 0, .int .i64 (-1)]]) (by simp [results, Tryz.results36, go_sem, hset.out.1]) rfl ⟨HeadRes.mk hr.out rfl rfl, hset.out.2⟩
end Go.Proofs.YtadnjdchjoechaaGreatDoor

/- News of a feed: NewsOf, longNews: walked; news that came in. -/
namespace Go.Proofs.YtadnjdchjoechaaGreatDoor
open Go.RowKit

theorem drew_heap (w : World) : w.drew.heap = w.heap := rfl
theorem new_down {w w' : World} {o : Obj} (hb : Below (w.alloc o).heap.size (w.alloc o) w') : w'.heap[w.heap.size]? = some o := heap_down hb (heap_alloc_new w o)
theorem new_downD {w w' : World} {o : Obj} (hb : Below (w.alloc o).drew.heap.size (w.alloc o).drew w') : w'.heap[w.heap.size]? = some o := heap_down hb (show (w.alloc o).heap[w.heap.size]? = some o from heap_alloc_new w o)
def News.val (n : News) : Value := .agg #[.int .i64 n.many, .int .i64 n.frm, .int .i64 n.time, .int .i64 n.key, .string (bs n.text)]
/-- What is answered: a text, entries. -/
def NewsRes (w' : World) (hd : List UInt8) (M : List Ent) (e : Ending) : Prop := ∃ v', e = .returned (.tuple #[.string (bs hd), v']) ∧ EntsAt w' v' M
theorem NewsRes.mk {w' : World} {hd H : List UInt8} {M : List Ent} {v : Value} {x : ByteArray} (h : hd = H) (hx : x = bs H) (hv : EntsAt w' v M) : NewsRes w' hd M (.returned (.tuple #[.string x, v])) := by
  subst h hx
  exact ⟨v, rfl, hv⟩
set_option maxHeartbeats 8000000 in
set_option maxRecDepth 100000 in
theorem newsOf_any (v : Value) (L : List Ent) (n : News) (w : World) (hv : EntsAt w v L) (hm : ∀ e ∈ L, e.f.who.length ≤ maxLen) (hl : L.length ≤ 1000) (ht : n.text.length ≤ maxLen) :
    Calls Tryz.prog 11 #[v, n.val] w fun e w' => NewsRes w' (newsHead L n) (newsEnts L n) e ∧ Below w.heap.size w w' := by
  have hvH := Lib.hid (fun wx (hx : Below w.heap.size w wx) => (show EntsAt wx v L from AtG.below hv hx))
  obtain ⟨a0, c0, hv0⟩ := AtG.sl hv
  have hcap : L.length ≤ c0 := by
    obtain ⟨_, _, he, _, h, _⟩ := hv
    rw [hv0] at he
    cases he
    exact h
  have hmu : newsMany L n = if n.many < 0 ∨ (L.length : Int) < n.many then L.length else n.many.toNat := rfl
  have hfu : newsFrom L n = if n.frm < 0 ∨ (newsMany L n : Int) < n.frm then newsMany L n else n.frm.toNat := rfl
  have hml := newsMany_le L n
  have hfl := newsFrom_le L n
  have hhu : newsHead L n = if n.text = [] then (headOf n.key (L.take (newsMany L n)) n.time).1 else n.text := rfl
  have heu : newsEnts L n = (L.take (newsMany L n)).drop (newsFrom L n) := rfl
  obtain ⟨mn, fr, tm, ky, tx⟩ := n
  dsimp only [News.val] at *
  generalize newsMany L ⟨mn, fr, tm, ky, tx⟩ = m at *
  generalize newsFrom L ⟨mn, fr, tm, ky, tx⟩ = f at *
  generalize newsHead L ⟨mn, fr, tm, ky, tx⟩ = hd at *
  generalize newsEnts L ⟨mn, fr, tm, ky, tx⟩ = M at *
  have hmH := Lib.hid hm
  have heuH := Lib.hid heu
  have hhuH := Lib.hid hhu
  have hbox := heap_alloc_new w (.cells #[.int .i64 mn, .int .i64 fr, .int .i64 tm, .int .i64 ky, .string (bs tx)] 38)
  have hB0 : Below w.heap.size w (w.alloc (.cells #[.int .i64 mn, .int .i64 fr, .int .i64 tm, .int .i64 ky, .string (bs tx)] 38)) := (Below.refl _ _).alloc (Nat.le_refl _) _
  have hboxH := Lib.hid hbox
  have hB0H := Lib.hid hB0
  have hmuH := Lib.hid hmu
  have hfuH := Lib.hid hfu
  clear hm hv hmu hfu hB0 hbox heu hhu
  subst hv0
  go_enter Tryz.func11, Tryz.ntmps11
  go_upto_region 2 with fail
  generalize hW : w.alloc (.cells #[.int .i64 mn, .int .i64 fr, .int .i64 tm, .int .i64 ky, .string (bs tx)] 38) = W at *
  obtain ⟨⟨k0, k1, k2, k3, k4⟩, hfz⟩ := fol_cells hboxH.out
  clear hW hfz
  go_cut [19] from 12 to 19 (fun s19 wx => s19 = .bool (decide (mn < 0 ∨ (L.length : Int) < mn)) ∧ W = wx)
  case first =>
    by_cases h1 : mn < 0
    · have hm1 := Lib.hid (show decide (mn < 0 ∨ (L.length : Int) < mn) = true from decide_eq_true (.inl h1))
      go_wp2_with fail
      go_meet
      exact ⟨by rw [hm1.out], rfl⟩
    by_cases h2 : (L.length : Int) < mn
    · have hm1 := Lib.hid (show decide (mn < 0 ∨ (L.length : Int) < mn) = true from decide_eq_true (.inr h2))
      go_wp2_with fail
      go_meet
      exact ⟨by rw [hm1.out], rfl⟩
    · have hm1 := Lib.hid (show decide (mn < 0 ∨ (L.length : Int) < mn) = false from decide_eq_false (by omega))
      go_wp2_with fail
      go_meet
      exact ⟨by rw [hm1.out], rfl⟩
  obtain ⟨rfl, rfl⟩ := hcut
  have hb1 : ∃ b, decide (mn < 0 ∨ (L.length : Int) < mn) = b := ⟨_, rfl⟩
  obtain ⟨b19, hb1⟩ := hb1
  rw [hb1]
  have hb1 := Lib.hid hb1
  go_upto_if 19 with fail
  go_cut [6] from 20 to 21 (fun s6 wx => s6 = .int .i64 m ∧ W = wx)
  case first =>
    cases b19 with
    | true =>
      have hm1 := Lib.hid (show m = L.length by rw [hmuH.out, if_pos (of_decide_eq_true hb1.out)])
      go_wp2_with fail
      go_meet
      exact ⟨by rw [hm1.out], rfl⟩
    | false =>
      have hm1 := Lib.hid (show (m : Int) = mn by
        have := of_decide_eq_false hb1.out
        rw [hmuH.out, if_neg this]; omega)
      go_wp2_with fail
      go_meet
      exact ⟨by rw [hm1.out], rfl⟩
  obtain ⟨rfl, rfl⟩ := hcut
  clear hb1 hmuH
  go_upto_region 5 with fail
  go_cut [30] from 24 to 30 (fun s30 wx => s30 = .bool (decide (fr < 0 ∨ (m : Int) < fr)) ∧ W = wx)
  case first =>
    by_cases h1 : fr < 0
    · have hm1 := Lib.hid (show decide (fr < 0 ∨ (m : Int) < fr) = true from decide_eq_true (.inl h1))
      go_wp2_with fail
      go_meet
      exact ⟨by rw [hm1.out], rfl⟩
    by_cases h2 : (m : Int) < fr
    · have hm1 := Lib.hid (show decide (fr < 0 ∨ (m : Int) < fr) = true from decide_eq_true (.inr h2))
      go_wp2_with fail
      go_meet
      exact ⟨by rw [hm1.out], rfl⟩
    · have hm1 := Lib.hid (show decide (fr < 0 ∨ (m : Int) < fr) = false from decide_eq_false (by omega))
      go_wp2_with fail
      go_meet
      exact ⟨by rw [hm1.out], rfl⟩
  obtain ⟨rfl, rfl⟩ := hcut
  have hb1 : ∃ b, decide (fr < 0 ∨ (m : Int) < fr) = b := ⟨_, rfl⟩
  obtain ⟨b30, hb1⟩ := hb1
  rw [hb1]
  have hb1 := Lib.hid hb1
  go_upto_if 30 with fail
  go_cut [7] from 31 to 31 (fun s7 wx => s7 = .int .i64 f ∧ W = wx)
  case first =>
    cases b30 with
    | true =>
      have hm1 := Lib.hid (show f = m by rw [hfuH.out, if_pos (of_decide_eq_true hb1.out)])
      go_wp2_with fail
      go_meet
      exact ⟨by rw [hm1.out], rfl⟩
    | false =>
      have hm1 := Lib.hid (show (f : Int) = fr by
        have := of_decide_eq_false hb1.out
        rw [hfuH.out, if_neg this]; omega)
      go_wp2_with fail
      go_meet
      exact ⟨by rw [hm1.out], rfl⟩
  obtain ⟨rfl, rfl⟩ := hcut
  clear hb1 hfuH
  have hcm : m ≤ c0 := Nat.le_trans hml hcap
  have hhd := Lib.hid (fun wx (hx : Below w.heap.size w wx) => (show Calls Tryz.prog 36 #[.int .i64 ky, .slice a0 m c0, .int .i64 tm] wx (fun e w' => e = .returned (.tuple #[.string (bs (headOf ky (L.take m) tm).1), .agg #[.int .i64 ((headOf ky (L.take m) tm).2.1 : Nat), .int .i64 (headOf ky (L.take m) tm).2.2]]) ∧ Below wx.heap.size wx w') from headR_any ky _ (L.take m) tm wx (AtG.take (hvH.out wx hx) hml) (fun e he => hmH.out e (List.mem_of_mem_take he))))
  have hkS := Lib.hid (fun (wx : World) (hx : Below W.heap.size W wx) => (show Below W.heap.size W wx ∧ wx.cell? ⟨w.heap.size, 2, none⟩ = some (.int .i64 tm) ∧ wx.cell? ⟨w.heap.size, 3, none⟩ = some (.int .i64 ky) from ⟨hx, cell_below hx k2, cell_below hx k3⟩))
  have hS : Below W.heap.size W W := Below.refl _ _
  have hBW := Lib.hid (fun wx (hx : Below W.heap.size W wx) => below_trans hB0H.out hx)
  obtain ⟨H, hH⟩ : ∃ H, (headOf ky (L.take m) tm).1 = H := ⟨_, rfl⟩
  rw [hH] at hhd
  have hhu2 := hhuH.out
  rw [hH] at hhu2
  have hhuK := Lib.hid hhu2
  clear hhu2 hhuH
  generalize ((headOf ky (L.take m) tm).2.1 : Nat) = hc at *
  generalize (headOf ky (L.take m) tm).2.2 = ha at *
  generalize hci : ((hc : Nat) : Int) = hci at *
  clear hH hci
  go_upto_region 7 with fail
  go_cut [8, 9] from 32 to 42 (fun s8 _ wx => s8 = .string (bs H) ∧ Hid (Below W.heap.size W wx))
  case first =>
    have hF : True := trivial
    go_region_held3 (fun w' => Below W.heap.size W w' ∧ w'.cell? ⟨w.heap.size, 2, none⟩ = some (.int .i64 tm) ∧ w'.cell? ⟨w.heap.size, 3, none⟩ = some (.int .i64 ky))
      ((refine hkS.out _ ?_; (first | exact hS | exact below_set2 hS (by omega) _ _ | exact hS.drew | exact hS.alloc hS.size _ | exact (hS.alloc hS.size _).drew | exact hS.drew.alloc hS.drew.size _)))
      ((go_at_call 36; refine (hhd.out _ (hBW.out _ (by (first | exact hS | exact hS.drew | exact hS.alloc hS.size _ | exact (hS.alloc hS.size _).drew | exact hS.drew.alloc hS.drew.size _)))).mono ?_; rintro e w' ⟨rfl, hbx⟩; have hS : Below W.heap.size W w' := below_trans (by (first | exact hS | exact hS.drew | exact hS.alloc hS.size _ | exact (hS.alloc hS.size _).drew | exact hS.drew.alloc hS.drew.size _)) hbx; have hz : W.heap.size ≤ w'.heap.size := hS.size; (first | (have hF : w'.heap[_]? = some (Obj.cells #[Value.int .i64 0, Value.int .i64 0] 87 (0, 0)) := new_down hbx) | (have hF : w'.heap[_]? = some (Obj.cells #[Value.int .i64 0, Value.int .i64 0] 87 (0, 0)) := new_downD hbx) | skip); (first | (have hK2 := two_kept (Below.refl _ _) hF; (try simp only [World.size_alloc] at hK2); (try simp only [drew_heap] at hK2); obtain ⟨⟨r0, r1⟩, f0, f1⟩ := hK2) | skip)))
    all_goals
      go_wp2_with fail
      go_meet
      exact ⟨rfl, Lib.hid (And.left (by assumption : Below W.heap.size W _ ∧ _))⟩
  obtain ⟨rfl, hWc⟩ := hcut
  clear hS hkS k0 k1 k2 k3 hhd
  have k4 := cell_below hWc.out k4
  have hfin := Lib.hid (fun n => (show Below w.heap.size w (wc.drewN n) from below_drawn (hBW.out _ hWc.out) n))
  have hrow := Lib.hid (fun wx (hx : Below w.heap.size w wx) => AtG.drop (n := f) (ents_cut (hvH.out wx hx) hml) (by rw [List.length_take]; omega))
  have htl : (L.take m).length = m := by rw [List.length_take]; omega
  rw [htl] at hrow
  have hEnd : ∃ av, Hid (∀ wx, Below w.heap.size w wx → EntsAt wx av M) ∧ ((c0 = f ∧ m = f ∧ av = .slice a0 0 0) ∨ (¬ c0 = f ∧ av = .slice (Option.map (fun x => x.add (f * 4)) a0) (m - f) (c0 - f))) := by
    by_cases hcf : c0 = f
    · refine ⟨_, Lib.hid (fun wx hx => ?_), .inl ⟨hcf, by omega, rfl⟩⟩
      have h := hrow.out wx hx
      rw [if_pos hcf, show m - f = 0 by omega, show c0 - f = 0 by omega] at h
      rw [heuH.out]
      exact h
    · refine ⟨_, Lib.hid (fun wx hx => ?_), .inr ⟨hcf, rfl⟩⟩
      have h := hrow.out wx hx
      rw [if_neg hcf] at h
      rw [heuH.out]
      exact h
  clear hrow htl heuH
  obtain ⟨av, hav, hcs⟩ := hEnd
  have htx : tx = [] ∨ tx ≠ [] := Classical.em _
  rcases htx with htx | htx
  case' inl =>
    have hh0 := hhuK.out
    rw [if_pos htx] at hh0
    have hh := Lib.hid hh0
    clear hh0
    subst htx
    rw [show bs [] = (⟨#[]⟩ : ByteArray) from rfl] at k4
  case' inr =>
    have hh0 := hhuK.out
    rw [if_neg htx] at hh0
    have hh := Lib.hid hh0
    clear hh0
    have htx2 : ¬ (bs tx).toList = [] := by rw [toList_data, bs_list]; exact htx
    have htx3 : (!(bs tx).toList.isEmpty) = true := by rw [toList_data, bs_list]; cases tx with | nil => exact absurd rfl htx | cons => rfl
    have htx4 : ((bs tx).toList == []) = false := beq_eq_false_iff_ne.2 htx2
    clear htx
  all_goals
    clear hhuK
    rcases hcs with ⟨h1, h2, rfl⟩ | ⟨h1, rfl⟩
    · obtain rfl : m = f := h2
      obtain rfl : m = c0 := h1.symm
      clear hcap hfl hcm
      go_upto_region 10 with fail
      go_quiet (fail)
      go_wp2_with fail
      go_ret2
      exact ⟨NewsRes.mk hh.out rfl (hav.out _ (hfin.out _)), hfin.out _⟩
    · go_upto_region 10 with fail
      go_quiet (fail)
      go_wp2_with fail
      go_ret2
      exact ⟨NewsRes.mk hh.out rfl (hav.out _ (hfin.out _)), hfin.out _⟩
end Go.Proofs.YtadnjdchjoechaaGreatDoor

/- News that came in; longNews: walked. -/
namespace Go.Proofs.YtadnjdchjoechaaGreatDoor
open Go.ChangeShapes Go.WideShapes Go.ChangeAt Go.RowKit Go.ChangeMaps Go.Deep

def newsC : Cells News where
  k := 5
  pos := by decide
  f := fun n => [.int .i64 n.many, .int .i64 n.frm, .int .i64 n.time, .int .i64 n.key, .string (bs n.text)]
  len := fun _ => rfl
  one := fun e u hu => by
    simp only [List.mem_cons, List.mem_nil_iff, or_false] at hu
    rcases hu with rfl | rfl | rfl | rfl | rfl <;> rfl
theorem five_of' {α : Type} {l : List α} (h : l.length = 5) : ∃ a b c d e, l = [a, b, c, d, e] := by
  match l, h with
  | [a, b, c, d, e], _ => exact ⟨a, b, c, d, e, rfl⟩
set_option maxRecDepth 100000 in
theorem news_cells {H : Type} {enc : TypeId × Value → H} {W : World} {base : Nat} {spare : Nat → Bool} {held : Bool} {n : Nat} {cs : List Value} {y : DataW H × List MemPlace}
    (h : DataW.trod enc Tryz.prog W base spare held n 38 cs = some y) : ∃ p : News, cs = newsC.f p ∧ p.text.length ≤ maxLen := by
  have hC : Tryz.prog.cellsOf 38 = 5 := by kernel_rfl
  have h1 : Tryz.prog.cellsOf 3 = 1 := by kernel_rfl
  have h2 : Tryz.prog.cellsOf 9 = 1 := by kernel_rfl
  obtain ⟨hcl, m, hf⟩ := struct_fields Tryz.underlying38 h
  obtain ⟨k0, k1, k2, k3, k4, rfl⟩ := five_of' (hcl.trans hC)
  obtain ⟨_, z0⟩ := hf 0 _ rfl
  obtain ⟨_, z1⟩ := hf 1 _ rfl
  obtain ⟨_, z2⟩ := hf 2 _ rfl
  obtain ⟨_, z3⟩ := hf 3 _ rfl
  obtain ⟨_, z4⟩ := hf 4 _ rfl
  have z0 := field_one z0 h1 (v := k0) rfl
  have z1 := field_one z1 h1 (v := k1) rfl
  have z2 := field_one z2 h1 (v := k2) rfl
  have z3 := field_one z3 h1 (v := k3) rfl
  have z4 := field_one z4 h2 (v := k4) rfl
  obtain ⟨x0, rfl, _⟩ := read_int Tryz.underlying3 z0
  obtain ⟨x1, rfl, _⟩ := read_int Tryz.underlying3 z1
  obtain ⟨x2, rfl, _⟩ := read_int Tryz.underlying3 z2
  obtain ⟨x3, rfl, _⟩ := read_int Tryz.underlying3 z3
  obtain ⟨s4, rfl, l4⟩ := read_string Tryz.underlying9 z4
  exact ⟨⟨x0, x1, x2, x3, s4⟩, rfl, l4⟩
def longN (L : List News) : Bool := decide (30 < L.length) || L.any fun n => decide (200 < n.text.length)
theorem longN_false {L : List News} (h : longN L = false) : L.length ≤ 30 ∧ ∀ n ∈ L, n.text.length ≤ 200 := by
  unfold longN at h
  rw [Bool.or_eq_false_iff, List.any_eq_false] at h
  refine ⟨by have := of_decide_eq_false h.1; omega, fun f hf => ?_⟩
  have := h.2 f hf
  simp at this
  exact this
end Go.Proofs.YtadnjdchjoechaaGreatDoor
