/- SesX -/
import Derived.Test.YtlcomdbkkfbjiaaGreatDoorMg19
import Derived.Test.YtlcomdbkkfbjiaaGreatDoorMg20
import Derived.Test.YtlcomdbkkfbjiaaGreatDoorMg21
import Derived.Test.YtlcomdbkkfbjiaaGreatDoorMg23
import Derived.Test.YtlcomdbkkfbjiaaGreatDoorMg25
import Derived.Deep.CutRange
import Derived.Deep.CutBlock
import Derived.Deep.RegionHeld3
import Derived.Outline
/- SessionActs, walked. -/
namespace Go.Proofs.YtlcomdbkkfbjiaaGreatDoor
open Go.RowKit Go.MapKept Go.Maps

/-- Both desks, and that nothing older changed. -/
structure S9 (base b r rb : Nat) (w0 w : World) (next : Int) (L : List Ses) : Prop where
  dk : DeskS w b r next L
  rf : DRef w base rb (next - 1) L
  bl : Below base w0 w
  sz : base ≤ w.heap.size
section
variable {base b r rb : Nat} {w0 w w' : World} {next next' : Int} {L L' : List Ses}
theorem S9.below (h : S9 base b r rb w0 w next L) (hb : Below w.heap.size w w') : S9 base b r rb w0 w' next L := ⟨h.dk.below hb, h.rf.below hb, h.bl.trans (hb.mono h.sz), Nat.le_trans h.sz hb.size⟩
theorem S9.drew1 (h : S9 base b r rb w0 w next L) : S9 base b r rb w0 w.drew next L := h.below (Below.refl _ _).drew
end
/-- The program's desk moved ahead. -/
structure S10 (base b r rb : Nat) (w0 w : World) (next : Int) (L : List Ses) (next' : Int) (L' : List Ses) : Prop where
  dk : DeskS w b r next' L'
  rf : DRef w base rb (next - 1) L
  bl : Below base w0 w
  sz : base ≤ w.heap.size
section
variable {base b r rb : Nat} {w0 w w' : World} {next next' : Int} {L L' : List Ses}
theorem S10.below (h : S10 base b r rb w0 w next L next' L') (hb : Below w.heap.size w w') : S10 base b r rb w0 w' next L next' L' := ⟨h.dk.below hb, h.rf.below hb, h.bl.trans (hb.mono h.sz), Nat.le_trans h.sz hb.size⟩
theorem S10.drew1 (h : S10 base b r rb w0 w next L next' L') : S10 base b r rb w0 w.drew next L next' L' := h.below (Below.refl _ _).drew
theorem S9.desk (h : S9 base b r rb w0 w next L) (hk : Keeps (DeskW b r) w w') (hd : DeskS w' b r next' L') (hbb : base ≤ b) (hrr : base ≤ r) : S10 base b r rb w0 w' next L next' L' :=
  ⟨hd, h.rf.keeps hk (fun k hR e => by
    rcases e with rfl | rfl
    · exact h.dk.off_ref.1 hR
    · exact h.dk.off_ref.2 hR), h.bl.trans (hk.below h.sz (fun k e => by rcases e with rfl | rfl <;> assumption)), Nat.le_trans h.sz hk.size⟩
theorem S10.ref (h : S10 base b r rb w0 w next L next' L') (hk : Keeps (DRefS base w) w w') (hd : DRef w' base rb (next' - 1) L') : S9 base b r rb w0 w' next' L' :=
  ⟨h.dk.keeps hk h.dk.off_ref.1 h.dk.off_ref.2, hd, h.bl.trans (hk.below h.sz (fun k e => e.lt.1)), Nat.le_trans h.sz hk.size⟩
end
/-- A deal's box. -/
def DBox (w : World) (g : Nat) (d : Deal) (u : Value) : Prop := w.heap[g]? = some (.cells #[.string (bs d.k), .string (bs d.t.who), .string (bs d.t.svc), .int .i64 d.t.epoch, .int .i64 d.t.beg, .int .i64 d.t.fin, .int .i64 d.t.serial, .int .i64 d.n, .int .i64 d.now, u] 35 (0, 0))
theorem DBox.cells {w : World} {g : Nat} {d : Deal} {u : Value} (h : DBox w g d u) : w.cell? ⟨g, 0, none⟩ = some (.string (bs d.k)) ∧ w.cell? ⟨g, 1, none⟩ = some (.string (bs d.t.who)) ∧ w.cell? ⟨g, 2, none⟩ = some (.string (bs d.t.svc)) ∧ w.cell? ⟨g, 3, none⟩ = some (.int .i64 d.t.epoch) ∧
    w.cell? ⟨g, 4, none⟩ = some (.int .i64 d.t.beg) ∧ w.cell? ⟨g, 5, none⟩ = some (.int .i64 d.t.fin) ∧ w.cell? ⟨g, 6, none⟩ = some (.int .i64 d.t.serial) ∧ w.cell? ⟨g, 7, none⟩ = some (.int .i64 d.n) ∧ w.cell? ⟨g, 8, none⟩ = some (.int .i64 d.now) ∧ w.cell? ⟨g, 9, none⟩ = some u := by
  refine ⟨?_, ?_, ?_, ?_, ?_, ?_, ?_, ?_, ?_, ?_⟩
  all_goals (rw [cell_of_row _ _ _ _ _ _ h]; rfl)
theorem DBox.below {w w' : World} {g : Nat} {d : Deal} {u : Value} (h : DBox w g d u) (hb : Below w.heap.size w w') : DBox w' g d u := heap_below hb h
theorem DBox.desk {w w' : World} {g b r : Nat} {d : Deal} {u : Value} {next : Int} {L : List Ses} (h : DBox w g d u) (hD : DeskS w b r next L) (hk : Keeps (DeskW b r) w w') : DBox w' g d u := hk.obj h (by
  obtain ⟨hb, l, ⟨es, c, hr, _⟩, _⟩ := hD
  unfold DBox at h
  rintro (rfl | rfl)
  · rw [h] at hb
    injection hb with hb
    injection hb with _ hb _
    revert hb
    decide
  · rw [h] at hr
    cases hr)
theorem DBox.ref {base : Nat} {w w' : World} {g : Nat} {d : Deal} {u : Value} (h : DBox w g d u) (hk : Keeps (DRefS base w) w w') : DBox w' g d u := hk.obj h (by
  rintro ⟨_, cs, T, z, h1, h2⟩
  unfold DBox at h
  rw [h] at h1
  injection h1 with h1
  injection h1 with _ h1 _
  subst h1
  revert h2
  decide)
theorem floors_desk {w w' : World} {b r : Nat} {u : Value} {F : List Flo} {next : Int} {L : List Ses} {w0 : World} (h : FloorsAt w0 u F) (hb : Below w0.heap.size w0 w') : FloorsAt w' u F := h.below hb
theorem goodT_le (t : Tick) (now : Int) : goodT t now ≤ 16 := by
  unfold goodT
  have hte : tickErr t ≤ 4 := by
    unfold tickErr
    split
    · split <;> omega
    · omega
  split
  · split
    · split
      · omega
      · split <;> omega
    · omega
  · omega
theorem openS_le (next : Int) (L : List Ses) (t : Tick) (now : Int) : (openS next L t now).1.2 ≤ 16 := by
  unfold openS
  split
  · exact goodT_le t now
  · split <;> simp
theorem askS_le (L : List Ses) (n now : Int) : (askSs L n now).2 ≤ 16 := by
  unfold askSs
  split
  · simp
  · split
    · simp
    · exact goodT_le _ now
theorem closeS_le (L : List Ses) (n : Int) : (closeS L n).1 ≤ 16 := by unfold closeS; split <;> simp
theorem sweepS_le (F : List Flo) (now : Int) (L : List Ses) : (sweepS F now L).2.1.1 ≤ 16 := by
  unfold sweepS
  split
  · unfold checkF
    split
    · simp
    · split
      · simp
      · unfold errAtF errF oneF
        dsimp only
        repeat' split
        all_goals omega
  · split <;> simp
theorem IntRow.off_b {w : World} {base rb : Nat} {v : Value} {zs : List Int} {base2 : Nat} {many : Int} {L : List Ses} (h : IntRow w base v zs) (hr : DRef w base2 rb many L) : ∀ g, v.ownBlock = some g → ¬ g = rb := by
  rintro g hg rfl
  obtain ⟨_, cs, h1⟩ := h.block g hg
  obtain ⟨_, u, h2, _⟩ := hr
  rw [h1] at h2
  injection h2 with h2
  injection h2 with _ h2 _
  revert h2
  decide
theorem DRef.sl {w : World} {base b : Nat} {many : Int} {L : List Ses} (h : DRef w base b many L) : ∃ a n c, w.cell? ⟨b, 1, none⟩ = some (.slice a n c) := by
  obtain ⟨_, _, v, c1, hown⟩ := h.at0
  obtain ⟨a, c, rfl⟩ := (sesRow_G.1 hown).sl
  exact ⟨a, _, c, c1⟩
theorem ErrAt.off_b {E : Nat → Addr} {w w' : World} {ev : Value} {c : Nat} {at_ : Int} {base rb : Nat} {many : Int} {L : List Ses} (h : ErrAt E w ev c at_) (hr : DRef w base rb many L) (hk : Keeps (· = rb) w w') : ErrAt E w' ev c at_ := by
  rcases h with h | ⟨N, h1, h2, h3, h4⟩
  · exact .inl h
  · obtain ⟨a, n, c', hs⟩ := hr.sl
    have hne : ¬ N = rb := by
      rintro rfl
      rw [Nat.zero_add, hs] at h4
      cases c <;> cases h4
    exact .inr ⟨N, h1, h2, hk.cell h3 hne, hk.cell h4 hne⟩
theorem kind_false {l d : List UInt8} (h : ¬ bs l = bs d) : ((bs l).toList == d) = false := by
  rw [toList_data, bs_list, beq_eq_false_iff_ne]
  intro e
  exact h (by rw [e])
theorem kind_true {l d : List UInt8} (h : bs l = bs d) : ((bs l).toList == d) = true := by
  rw [toList_data, bs_list, bs_inj2 h]
  exact beq_self_eq_true _
theorem S9.row {base b r rb : Nat} {w0 w w' : World} {next next' : Int} {L L' : List Ses} (h : S9 base b r rb w0 w next L) (hk : Keeps (· = r) w w') (hd : DeskS w' b r next' L') (hbb : base ≤ b) (hrr : base ≤ r) : S10 base b r rb w0 w' next L next' L' :=
  h.desk (hk.mono fun _ e => .inr e) hd hbb hrr
set_option maxHeartbeats 16000000 in
set_option maxRecDepth 100000 in
theorem sessionActs_any {E : Nat → Addr} (x : Value) (A : List Deal) (w : World) (hL : LaidR E w) (hx : DealsAt w x A) (hm : ∀ d ∈ A, DealLen d) :
    Calls Tryz.prog 3 #[x] w fun e w' => e = .returned (.bool true) ∧ Below w.heap.size w w' := by
  have hop := Lib.hid (opened_any (E := E) w hL.laid)
  have hld := Lib.hid (fun wx (hb : Below w.heap.size w wx) => longDeals_any x A wx (hx.below hb) hm)
  have hLH := Lib.hid hL
  have hxH := Lib.hid hx
  have hmH := Lib.hid hm
  obtain ⟨a, c, rfl, hml, _, _⟩ := id hx
  unfold maxLen at hml
  clear hL hx hm
  go_enter Tryz.func3, Tryz.ntmps3
  go_wp2_with fail
  refine hop.out.mono ?_
  rintro e w1 ⟨rfl, hb1⟩
  have hld := Lib.hid (hld.out _ hb1)
  have hb1 := Lib.hid hb1
  clear hop
  go_wp2_with fail
  refine hld.out.mono ?_
  rintro e w2 ⟨⟨bb, rfl, h80⟩, hb2⟩
  have hb2 := Lib.hid (below_trans hb1.out hb2)
  clear hld
  cases bb with
  | true =>
    clear h80
    go_wp2_with fail
    go_ret
    exact ⟨rfl, hb2.out⟩
  | false =>
  obtain ⟨h80a, h25a⟩ := h80 rfl
  have h25 := Lib.hid h25a
  clear hb1 h25a h80
  go_wp2_with fail
  refine (new_desk _).mono ?_
  rintro e w4 ⟨b, r, rfl, hb4, hbb, hrr, hD4⟩
  have hb4A := hb4.alloc hb4.size (.cells #[.int .i64 0, .slice none 0 0] 30)
  have hA4 : Below w4.heap.size w4 (w4.alloc (.cells #[.int .i64 0, .slice none 0 0] 30)) := (Below.refl _ _).alloc (Nat.le_refl _) _
  have hS0 : S9 w2.heap.size b r w4.heap.size w2 (w4.alloc (.cells #[.int .i64 0, .slice none 0 0] 30)) 1 [] :=
    ⟨hD4.below hA4, ⟨hb4.size, _, heap_alloc_new w4 _, World.ownsRow_nil _ _ _ _⟩, hb4A, hb4A.size⟩
  have hS0 := Lib.hid hS0
  have hxB := Lib.hid (hxH.out.below hb2.out)
  have hLB := Lib.hid (hLH.out.below hb2.out)
  clear hb4 hb4A hA4 hD4
  go_wp2_with fail
  generalize hbs : w2.heap.size = base at *
  have hbs1 : base ≤ w2.heap.size := by omega
  have hbs2 : w2.heap.size ≤ base := by omega
  clear hbs
  generalize w4.heap.size = rb at *
  go_loopg [6] (A.length + 1) (fun g i wr => ∃ (j : Nat) (next : Int) (L : List Ses), i = .int .i64 j ∧ j ≤ A.length ∧ A.length - j + 1 ≤ g ∧ next ≤ j + 1 ∧ Hid (S9 base b r rb w2 wr next L ∧ GoodS next L))
  case atStart => exact ⟨0, 1, [], rfl, Nat.zero_le _, by omega, by omega, Lib.hid ⟨hS0.out, good_new⟩⟩
  case round =>
    obtain ⟨j, next, L, rfl, hj, hg, hnj, hSG⟩ := hrel
    by_cases hlt : j < A.length
    · obtain ⟨_, _, he, _, _, hcx⟩ := hxB.out
      cases he
      obtain ⟨bx, ox, rfl, hd0⟩ := hcx j hlt
      have hlen := hmH.out _ (List.getElem_mem hlt)
      have hf25 := h25.out j hlt
      obtain ⟨q, hqd⟩ : ∃ q, A[j] = q := ⟨_, rfl⟩
      rw [hqd] at hd0 hlen hf25
      clear hcx hqd
      have hbl := hSG.out.1.bl.mono hbs2
      have hd := hd0.below hbl
      obtain ⟨c0, c1, c2, c3, c4, c5, c6, c7, c8, _⟩ := hd
      obtain ⟨u, c9, hFu0, hun⟩ := hd0.f
      have c9 := cell_below hbl c9
      have hFu := hFu0.below hbl
      have hFx := Lib.hid (fun wx (h : Below base w2 wx) => hFu0.below (h.mono hbs2))
      have hlT := hlen.t
      have hlF := hlen.f
      have hk0 : (0 : Int) ≤ (j : Int) := by omega
      have hk1 : (j : Int) < (A.length : Int) := by omega
      have hA1 : Below wr.heap.size wr (wr.alloc (.cells #[.string (bs q.k), .string (bs q.t.who), .string (bs q.t.svc), .int .i64 q.t.epoch, .int .i64 q.t.beg, .int .i64 q.t.fin, .int .i64 q.t.serial, .int .i64 q.n, .int .i64 q.now, u] 35)) := (Below.refl _ _).alloc (Nat.le_refl _) _
      have hbox : DBox (wr.alloc (.cells #[.string (bs q.k), .string (bs q.t.who), .string (bs q.t.svc), .int .i64 q.t.epoch, .int .i64 q.t.beg, .int .i64 q.t.fin, .int .i64 q.t.serial, .int .i64 q.n, .int .i64 q.now, u] 35)) wr.heap.size q u := heap_alloc_new _ _
      have hS1 := Lib.hid (hSG.out.1.below hA1)
      have hG1 := Lib.hid hSG.out.2
      have hFu1 := Lib.hid (hFu.below hA1)
      have hunH := Lib.hid hun
      have hboxH := Lib.hid hbox
      have hrs : base ≤ wr.heap.size := hSG.out.1.sz
      clear hd0 hlen hA1 hbox hun hFu hFu0 hSG hbl
      obtain ⟨qk, ⟨who, svc, ep, bg, fn, sr⟩, qn, qnow, qf⟩ := q
      dsimp only at c0 c1 c2 c3 c4 c5 c6 c7 c8 hlT hlF hf25
      obtain ⟨auF, cuF, hua⟩ : ∃ a c, u = .slice a qf.length c := by
        obtain ⟨a, c, h, _⟩ := hFu1.out
        exact ⟨a, c, h⟩
      subst hua
      dsimp only at hS1 hboxH
      go_upto_region 13 with fail
      clear c0 c1 c2 c3 c4 c5 c6 c7 c8 c9
      generalize hbd : wr.heap.size = box at *
      generalize wr.alloc (.cells #[.string (bs qk), .string (bs who), .string (bs svc), .int .i64 ep, .int .i64 bg, .int .i64 fn, .int .i64 sr, .int .i64 qn, .int .i64 qnow, .slice auF qf.length cuF] 35) = W at *
      clear hbd hrs
      obtain ⟨g0, g1, g2, g3, g4, g5, g6, g7, g8, g9⟩ := hboxH.out.cells
      dsimp only at g0 g1 g2 g3 g4 g5 g6 g7 g8 g9
      have hLw := Lib.hid (fun wx (h : Below base w2 wx) => hLB.out.below (h.mono hbs2))
      have hbb2 : base ≤ b := by omega
      have hrr2 : base ≤ r := by omega
      have hnx0 := hG1.out.one
      have hm40 := hG1.out.many
      go_upto_block 2 with fail
      go_cut [8, 9, 10, 11, 12, 13, 14, 15, 16, 17, 18, 19, 20] from 47 to 140 (fun s8 _ _ _ _ _ _ _ _ _ _ _ _ wx => s8 = .bool true ∧ ∃ (nx : Int) (L' : List Ses), nx ≤ next + 1 ∧ Hid (S9 base b r rb w2 wx nx L' ∧ GoodS nx L'))
      case first =>
        by_cases k1 : bs qk = ⟨#[111, 112, 101, 110]⟩
        · have k1b : ((bs qk).toList == [111, 112, 101, 110]) = true := kind_true (d := [111, 112, 101, 110]) k1
          clear k1
          have hgo := open_good hG1.out ⟨who, svc, ep, bg, fn, sr⟩ qnow
          have hole := openS_le next L ⟨who, svc, ep, bg, fn, sr⟩ qnow
          have hA := open_desk (E := E) b r next L ⟨who, svc, ep, bg, fn, sr⟩ qnow W (hLw.out _ hS1.out.bl).laid hS1.out.dk hG1.out hlT (by omega)
          have hR := fun (wx : World) (nx : Int) (L' : List Ses) (h : S10 base b r rb w2 wx next L nx L') => openR_desk base rb (next - 1) L ⟨who, svc, ep, bg, fn, sr⟩ qnow wx h.rf hm40 (by omega) (by omega) hlT h.sz
          rw [show next - 1 + 1 = next by omega] at hR
          generalize openS next L ⟨who, svc, ep, bg, fn, sr⟩ qnow = res at *
          obtain ⟨⟨nn, cd⟩, nx, L'⟩ := res
          dsimp only [Tick.val] at hgo hole hA hR
          obtain ⟨hG', _, _, hn2, _⟩ := hgo
          have hG' := Lib.hid hG'
          have hA := Lib.hid hA
          have hR := Lib.hid hR
          go_wp2_with fail
          refine hA.out.mono ?_
          rintro e w5 ⟨rfl, hk5, hd5⟩
          have hS5 := Lib.hid (hS1.out.desk hk5 hd5 hbb2 hrr2)
          have hbox5 := hboxH.out.desk hS1.out.dk hk5
          obtain ⟨_, f1, f2, f3, f4, f5, f6, f7, f8, _⟩ := hbox5.cells
          dsimp only at f1 f2 f3 f4 f5 f6 f7 f8
          clear g0 g1 g2 g3 g4 g5 g6 g7 g8 g9 hk5 hd5 hA
          go_wp2_with fail
          refine (hR.out _ _ _ hS5.out).mono ?_
          rintro e w6 ⟨rfl, hk6, hd6⟩
          have hS6 := Lib.hid (hS5.out.ref hk6 hd6)
          clear hk6 hd6 hR f1 f2 f3 f4 f5 f6 f7 f8 hbox5
          go_wp2_with fail
          refine (coded3_same (E := E) cd _ (hLw.out _ hS6.out.bl) hole).mono ?_
          rintro e w7 ⟨rfl, hb7⟩
          have hS7 := Lib.hid (hS6.out.below hb7)
          clear hb7
          go_wp2_with fail
          go_meet
          exact ⟨by simp, nx, L', by omega, Lib.hid ⟨hS7.out, hG'.out⟩⟩
        have k1b : ((bs qk).toList == [111, 112, 101, 110]) = false := kind_false (d := [111, 112, 101, 110]) k1
        by_cases k2 : bs qk = ⟨#[97, 115, 107]⟩
        · have k2b : ((bs qk).toList == [97, 115, 107]) = true := kind_true (d := [97, 115, 107]) k2
          clear k1 k2
          have hak := askS_le L qn qnow
          have hA := ask_desk (E := E) b r next L qn qnow W (hLw.out _ hS1.out.bl).laid hS1.out.dk hG1.out
          have hR := fun (wx : World) (h : S9 base b r rb w2 wx next L) => askR_desk base rb (next - 1) L qn qnow wx h.rf hm40 hG1.out.tick
          unfold AskRes at hR
          generalize askSs L qn qnow = res at *
          obtain ⟨⟨rw, rsv, rep, rbg, rfn, rsr⟩, cd⟩ := res
          dsimp only [Tick.val] at hak hA hR
          have hA := Lib.hid hA
          have hR := Lib.hid hR
          go_wp2_with fail
          refine hA.out.mono ?_
          rintro e w5 ⟨rfl, hb5⟩
          have hS5 := hS1.out.below hb5
          have hbox5 := hboxH.out.below hb5
          have hA5 : Below w5.heap.size w5 (w5.alloc (.cells #[.string (bs rw), .string (bs rsv), .int .i64 rep, .int .i64 rbg, .int .i64 rfn, .int .i64 rsr] 32)) := (Below.refl _ _).alloc (Nat.le_refl _) _
          have hx5 := heap_alloc_new w5 (.cells #[.string (bs rw), .string (bs rsv), .int .i64 rep, .int .i64 rbg, .int .i64 rfn, .int .i64 rsr] 32)
          have hS6 := Lib.hid (hS5.below hA5)
          obtain ⟨_, f1, f2, f3, f4, f5, f6, f7, f8, _⟩ := (hbox5.below hA5).cells
          dsimp only at f7 f8
          have hR6 := Lib.hid (hR.out _ hS6.out)
          have hx5 := Lib.hid hx5
          clear g0 g1 g2 g3 g4 g5 g6 g7 g8 g9 hb5 hA hS5 hbox5 hA5 f1 f2 f3 f4 f5 f6 hR
          go_wp2_with fail
          refine hR6.out.mono ?_
          rintro e w7 ⟨rfl, hb7⟩
          have hA7 : Below w7.heap.size w7 (w7.alloc (.cells #[.string (bs rw), .string (bs rsv), .int .i64 rep, .int .i64 rbg, .int .i64 rfn, .int .i64 rsr] 32)) := (Below.refl _ _).alloc (Nat.le_refl _) _
          have hx7 := heap_alloc_new w7 (.cells #[.string (bs rw), .string (bs rsv), .int .i64 rep, .int .i64 rbg, .int .i64 rfn, .int .i64 rsr] 32)
          have hx57 := heap_below hA7 (heap_below hb7 hx5.out)
          have hS8 := Lib.hid ((hS6.out.below hb7).below hA7)
          have hx7 := Lib.hid hx7
          have hx57 := Lib.hid hx57
          clear hb7 hA7 hS6 f7 f8 hR6
          go_wp2_with fail
          refine (coded3_same (E := E) cd _ (hLw.out _ hS8.out.bl) hak).mono ?_
          rintro e w9 ⟨rfl, hb9⟩
          have hS9 := Lib.hid (hS8.out.below hb9)
          obtain ⟨⟨y0, y1, y2, y3, y4, y5⟩, _⟩ := tick_kept hb9 hx7.out
          obtain ⟨⟨z0, z1, z2, z3, z4, z5⟩, _⟩ := tick_kept hb9 hx57.out
          clear hb9
          go_wp2_with fail
          go_meet
          exact ⟨by simp, next, L, by omega, Lib.hid ⟨hS9.out, hG1.out⟩⟩
        have k2b : ((bs qk).toList == [97, 115, 107]) = false := kind_false (d := [97, 115, 107]) k2
        by_cases k3 : bs qk = ⟨#[99, 108, 111, 115, 101]⟩
        · have k3b : ((bs qk).toList == [99, 108, 111, 115, 101]) = true := kind_true (d := [99, 108, 111, 115, 101]) k3
          clear k1 k2 k3
          have hcle := closeS_le L qn
          have hgc := Lib.hid (close_good hG1.out qn).1
          have hA := fun (wx : World) (h : S9 base b r rb w2 wx next L) => close_desk (E := E) b r next L qn wx (hLw.out _ h.bl).laid h.dk hG1.out
          have hR := fun (wx : World) (nx : Int) (L' : List Ses) (h : S10 base b r rb w2 wx next L nx L') => closeR_desk base rb (next - 1) L qn wx h.rf hm40 h.sz
          generalize closeS L qn = res at *
          obtain ⟨cd, L'⟩ := res
          dsimp only at hcle hgc hA hR
          have hA2 : ∀ (wx : World), S9 base b r rb w2 wx next L ∧ DBox wx box ⟨qk, ⟨who, svc, ep, bg, fn, sr⟩, qn, qnow, qf⟩ (.slice auF qf.length cuF) → Calls Tryz.prog 12 #[.pointer (some ⟨b, 0, none⟩), .int .i64 qn] wx fun e w' => e = .returned (errV E cd) ∧ S10 base b r rb w2 w' next L next L' ∧ DBox w' box ⟨qk, ⟨who, svc, ep, bg, fn, sr⟩, qn, qnow, qf⟩ (.slice auF qf.length cuF) := fun wx h =>
            (hA wx h.1).mono fun e w' ⟨he, hk, hd⟩ => ⟨he, h.1.row hk hd hbb2 hrr2, h.2.desk h.1.dk (hk.mono fun _ e => .inr e)⟩
          have hA2 := Lib.hid hA2
          have hR2 : ∀ (wx : World), S10 base b r rb w2 wx next L next L' ∧ DBox wx box ⟨qk, ⟨who, svc, ep, bg, fn, sr⟩, qn, qnow, qf⟩ (.slice auF qf.length cuF) → Calls Tryz.prog 13 #[.pointer (some ⟨rb, 0, none⟩), .int .i64 qn] wx fun e w' => e = .returned (.int .i64 (cd : Int)) ∧ S9 base b r rb w2 w' next L' ∧ DBox w' box ⟨qk, ⟨who, svc, ep, bg, fn, sr⟩, qn, qnow, qf⟩ (.slice auF qf.length cuF) := fun wx h =>
            (hR wx next L' h.1).mono fun e w' ⟨he, hk, hd⟩ => ⟨he, h.1.ref hk hd, h.2.ref hk⟩
          have hR2 := Lib.hid hR2
          have hC2 : ∀ (wx : World), S9 base b r rb w2 wx next L' ∧ DBox wx box ⟨qk, ⟨who, svc, ep, bg, fn, sr⟩, qn, qnow, qf⟩ (.slice auF qf.length cuF) → Calls Tryz.prog 9 #[errV E cd, .int .i64 (cd : Int)] wx fun e w' => e = .returned (.bool true) ∧ S9 base b r rb w2 w' next L' ∧ DBox w' box ⟨qk, ⟨who, svc, ep, bg, fn, sr⟩, qn, qnow, qf⟩ (.slice auF qf.length cuF) := fun wx h =>
            (coded3_same (E := E) cd wx (hLw.out _ h.1.bl) hcle).mono fun e w' ⟨he, hb⟩ => ⟨he, h.1.below hb, h.2.below hb⟩
          have hC2 := Lib.hid hC2
          have hT0 : S9 base b r rb w2 W.drew next L ∧ DBox W.drew box ⟨qk, ⟨who, svc, ep, bg, fn, sr⟩, qn, qnow, qf⟩ (.slice auF qf.length cuF) := ⟨hS1.out.drew1, hboxH.out.below (Below.refl _ _).drew⟩
          have hT1 : S9 base b r rb w2 W next L ∧ DBox W box ⟨qk, ⟨who, svc, ep, bg, fn, sr⟩, qn, qnow, qf⟩ (.slice auF qf.length cuF) := ⟨hS1.out, hboxH.out⟩
          clear hA hR
          go_wp2_with fail
          go_region_held3 (fun w' => w'.cell? ⟨box, 7, none⟩ = some (.int .i64 qn))
            ((first | exact hT4.2.cells.2.2.2.2.2.2.2.1 | exact hT3.2.cells.2.2.2.2.2.2.2.1 | exact hT2.2.cells.2.2.2.2.2.2.2.1 | exact hT0.2.cells.2.2.2.2.2.2.2.1))
            (first | (go_at_call 12; refine (hA2.out _ (by (first | exact hT0 | exact hT1))).mono ?_; rintro e w' ⟨rfl, hT2⟩) | (go_at_call 13; refine (hR2.out _ hT2).mono ?_; rintro e w' ⟨rfl, hT3⟩) | (go_at_call 9; refine (hC2.out _ hT3).mono ?_; rintro e w' ⟨rfl, hT4⟩))
          all_goals
            go_wp2_with fail
            go_meet
            exact ⟨rfl, next, L', by omega, Lib.hid ⟨hT4.1, hgc.out⟩⟩
        have k3b : ((bs qk).toList == [99, 108, 111, 115, 101]) = false := kind_false (d := [99, 108, 111, 115, 101]) k3
        clear k1 k2 k3
        have hsle := sweepS_le qf qnow L
        have hsg := Lib.hid (sweep_good hG1.out qf qnow)
        have hmFl : ∀ f ∈ qf, f.who.length ≤ maxLen := hlF
        have hOw := Lib.hid (fun (wx : World) (h : Below base w2 wx) (hb : FloorsAt wx (.slice auF qf.length cuF) qf) => own_flo _ qf wx (floorsG hb hunH.out) (by omega))
        have hA := fun (wx : World) (v : Value) (h : S9 base b r rb w2 wx next L) (hv : FloorsAt wx v qf) => sweep_desk (E := E) b r next L v qf qnow wx (hLw.out _ h.bl).laid h.dk hG1.out hv hmFl
        have hR := fun (wx : World) (nx : Int) (L' : List Ses) (h : S10 base b r rb w2 wx next L nx L') (hv : FloorsAt wx (.slice auF qf.length cuF) qf) => sweepR_desk base rb (next - 1) L _ qf qnow wx h.rf hm40 hG1.out.tick hv hmFl h.sz
        have hnl : (sweepS qf qnow L).1.length ≤ 40 := by
          unfold sweepS
          split
          · simp
          · split
            · simp
            · rw [nums_len']; exact Nat.le_trans (List.length_filter_le _ _) hm40
        generalize sweepS qf qnow L = res at *
        obtain ⟨G, ⟨cd, at_⟩, L'⟩ := res
        dsimp only at hsle hsg hA hR hnl
        unfold SweepRes at hA
        unfold SweepResR at hR
        dsimp only [faultF] at hA hR
        have hOw2 : ∀ (wx : World), S9 base b r rb w2 wx next L ∧ DBox wx box ⟨qk, ⟨who, svc, ep, bg, fn, sr⟩, qn, qnow, qf⟩ (.slice auF qf.length cuF) → Calls Tryz.prog 15 #[.slice auF qf.length cuF] wx fun e w' => ∃ a1 c1, e = .returned (.slice a1 qf.length c1) ∧ (S9 base b r rb w2 w' next L ∧ DBox w' box ⟨qk, ⟨who, svc, ep, bg, fn, sr⟩, qn, qnow, qf⟩ (.slice auF qf.length cuF)) ∧ FloorsAt w' (.slice a1 qf.length c1) qf := fun wx h =>
          (hOw.out wx h.1.bl (hFx.out _ h.1.bl)).mono fun e w' ⟨v', he, hrow, hb⟩ => by
            obtain ⟨a1, c1, hv1⟩ := (floRow_G.1 hrow).sl
            subst hv1
            exact ⟨a1, c1, he, ⟨h.1.below hb, h.2.below hb⟩, hrow.at_ (by unfold maxLen; omega)⟩
        have hOw2 := Lib.hid hOw2
        have hA2 : ∀ (wx : World) (v : Value), (S9 base b r rb w2 wx next L ∧ DBox wx box ⟨qk, ⟨who, svc, ep, bg, fn, sr⟩, qn, qnow, qf⟩ (.slice auF qf.length cuF)) → FloorsAt wx v qf → Calls Tryz.prog 14 #[.pointer (some ⟨b, 0, none⟩), v, .int .i64 qnow] wx fun e w' => ∃ a2 c2 ev, e = .returned (.tuple #[.slice a2 G.length c2, ev]) ∧ (S10 base b r rb w2 w' next L next L' ∧ DBox w' box ⟨qk, ⟨who, svc, ep, bg, fn, sr⟩, qn, qnow, qf⟩ (.slice auF qf.length cuF)) ∧ IntRow w' 0 (.slice a2 G.length c2) G ∧ ErrAt E w' ev cd at_ := fun wx v h hv =>
          (hA wx v h.1 hv).mono fun e w' ⟨⟨v', ev, he, hrow, hev⟩, hk, hd⟩ => by
            obtain ⟨a2, c2, hv2⟩ := hrow.sl
            subst hv2
            exact ⟨a2, c2, ev, he, ⟨h.1.row hk hd hbb2 hrr2, h.2.desk h.1.dk (hk.mono fun _ e => .inr e)⟩, hrow.mono (Nat.zero_le _), hev⟩
        have hA2 := Lib.hid hA2
        have hR2 := Lib.hid hR
        have hT0 : S9 base b r rb w2 W.drew next L ∧ DBox W.drew box ⟨qk, ⟨who, svc, ep, bg, fn, sr⟩, qn, qnow, qf⟩ (.slice auF qf.length cuF) := ⟨hS1.out.drew1, hboxH.out.below (Below.refl _ _).drew⟩
        have hT1 : S9 base b r rb w2 W next L ∧ DBox W box ⟨qk, ⟨who, svc, ep, bg, fn, sr⟩, qn, qnow, qf⟩ (.slice auF qf.length cuF) := ⟨hS1.out, hboxH.out⟩
        clear hA hR hOw
        go_wp2_with fail
        go_region_held3 (fun w' => w'.cell? ⟨box, 8, none⟩ = some (.int .i64 qnow) ∧ w'.cell? ⟨box, 9, none⟩ = some (.slice auF qf.length cuF))
          ((first | exact hT3.2.cells.2.2.2.2.2.2.2.2 | exact hT2.2.cells.2.2.2.2.2.2.2.2 | exact hT0.2.cells.2.2.2.2.2.2.2.2))
          (first | (go_at_call 15; refine (hOw2.out _ (by (first | exact hT0 | exact hT1))).mono ?_; rintro e w' ⟨a1, c1, rfl, hT2, hv2⟩) | (go_at_call 14; refine (hA2.out _ _ hT2 hv2).mono ?_; rintro e w' ⟨a2, c2, ev, rfl, hT3, hrow3, hev3⟩))
        all_goals
          have hT3H := Lib.hid hT3
          have hrow3H := Lib.hid hrow3
          have hev3H := Lib.hid hev3
          obtain ⟨f8, f9⟩ := hT3.2.cells.2.2.2.2.2.2.2.2
          dsimp only at f8 f9
          have hRw := Lib.hid (hR2.out _ _ _ hT3.1 (hFx.out _ hT3.1.bl))
          clear hT0 hT1 hT2 hv2 hT3 hrow3 hev3 g0 g1 g2 g3 g4 g5 g6 g7 g8 g9
          go_wp2_with fail
          refine hRw.out.mono ?_
          rintro e w6 ⟨⟨v6, rfl, hrow6⟩, hk6, hd6⟩
          have hself := hT3H.out.1.rf.self
          have hS6 := hT3H.out.1.ref (hk6.mono fun k e => by rw [e]; exact hself) hd6
          have hrow36 := hrow3H.out.keeps hk6 (hrow3H.out.off_b hT3H.out.1.rf)
          have hev36 := hev3H.out.off_b hT3H.out.1.rf hk6
          obtain ⟨a6, c6, hv6⟩ := hrow6.sl
          subst hv6
          have hA6 : Below w6.heap.size w6 (w6.alloc (.cells #[.int .i64 (cd : Int), .int .i64 at_] 54)) := (Below.refl _ _).alloc (Nat.le_refl _) _
          have hS7 := Lib.hid (hS6.below hA6)
          have hfl := Lib.hid (faulted3_self (E := E) ev cd at_ _ (hLw.out _ (hS6.below hA6).bl) (hev36.below hA6) hsle)
          have hr1 := Lib.hid (hrow36.below hA6)
          have hr2 := Lib.hid (hrow6.below hA6)
          clear hk6 hd6 hself hS6 hrow36 hev36 hrow6 hA6 f8 f9 hRw
          go_wp2_with fail
          refine hfl.out.mono ?_
          rintro e w8 ⟨rfl, hb8⟩
          have hS8 := Lib.hid (hS7.out.below hb8)
          have hsm := sameInts_any _ _ _ _ w8 ((hr1.out.below hb8).nums (by unfold maxLen; omega)) ((hr2.out.below hb8).nums (by unfold maxLen; omega))
          rw [decide_eq_true rfl] at hsm
          have hsmH := Lib.hid hsm
          clear hb8 hfl hsm
          go_wp2_with fail
          refine hsmH.out.mono ?_
          rintro e w9 ⟨rfl, hb9⟩
          have hS9 := Lib.hid (hS8.out.below hb9)
          clear hb9
          go_wp2_with fail
          go_meet
          exact ⟨rfl, next, L', by omega, Lib.hid ⟨hS9.out, hsg.out⟩⟩
      obtain ⟨rfl, nx, L', hnx, hSG'⟩ := hcut
      clear hS1 hG1 g0 g1 g2 g3 g4 g5 g6 g7 g8 g9 hboxH hFu1
      go_wp2_with fail
      go_roundg (A.length - j)
      case measure => omega
      case rel => exact ⟨j + 1, nx, L', by simp, hlt, by omega, by omega, hSG'⟩
    · have hge : ¬ ((j : Int) < (A.length : Int)) := by omega
      have hS := Lib.hid hSG.out.1
      have hG := Lib.hid hSG.out.2
      have hm40 := hG.out.many
      have hn40 := nums_len' L
      have hlnS : (numsS L).length = L.length := by simp [numsS]
      have hnx1 : next ≤ 1000000 := by omega
      have hcp := Lib.hid (copy_desk b r next L wr hS.out.dk)
      have hAl := Lib.hid (fun (wx : World) (b' r' : Nat) (h : DeskS wx b' r' next L) => all_desk b' r' next L wx h hG.out hnx1)
      have hAR := Lib.hid (fun (wx : World) (h : DRef wx base rb (next - 1) L) => allR_desk base rb (next - 1) L wx h hm40)
      have hSm := Lib.hid (fun (wx : World) (a1 a2 : Option Addr) (c1 c2 : Nat) (h1 : IntRow wx 0 (.slice a1 (numsS L).length c1) (numsS L)) (h2 : IntRow wx 0 (.slice a2 (numsS L).length c2) (numsS L)) => sameInts_any _ _ _ _ wx (h1.nums (by unfold maxLen; omega)) (h2.nums (by unfold maxLen; omega)))
      clear hSG
      go_wp2_with fail
      refine hcp.out.mono ?_
      rintro e w5 ⟨b2, r2, rfl, hd2, hb5, _⟩
      have hS5 := Lib.hid (hS.out.below hb5)
      have hd2H := Lib.hid hd2
      have ha5 := Lib.hid (hAl.out _ _ _ (hS.out.below hb5).dk)
      clear hb5 hcp hd2
      go_wp2_with fail
      refine ha5.out.mono ?_
      rintro e w6 ⟨v6, rfl, hrow6, hb6⟩
      have hS6 := Lib.hid (hS5.out.below hb6)
      have hd6 := Lib.hid (hd2H.out.below hb6)
      obtain ⟨a6, c6, hv6⟩ := hrow6.sl
      subst hv6
      have hrow6H := Lib.hid (hrow6.mono (Nat.zero_le _))
      have ha6 := Lib.hid (hAR.out _ (hS5.out.below hb6).rf)
      clear hb6 hrow6 ha5
      go_wp2_with fail
      refine ha6.out.mono ?_
      rintro e w7 ⟨v7, rfl, hrow7, hb7⟩
      have hS7 := Lib.hid (hS6.out.below hb7)
      have hd7 := Lib.hid (hd6.out.below hb7)
      obtain ⟨a7, c7, hv7⟩ := hrow7.sl
      subst hv7
      have hs7 := hSm.out _ _ _ _ _ (hrow6H.out.below hb7) (hrow7.mono (Nat.zero_le _))
      simp only [decide_true, hlnS] at hs7
      have hs7H := Lib.hid hs7
      clear hb7 hrow7 ha6 hs7
      go_wp2_with fail
      refine hs7H.out.mono ?_
      rintro e w8 ⟨rfl, hb8⟩
      have hS8 := Lib.hid (hS7.out.below hb8)
      have ha8 := Lib.hid (hAl.out _ _ _ (hd7.out.below hb8))
      clear hb8 hs7H
      go_wp2_with fail
      refine ha8.out.mono ?_
      rintro e w9 ⟨v9, rfl, hrow9, hb9⟩
      have hS9 := Lib.hid (hS8.out.below hb9)
      obtain ⟨a9, c9, hv9⟩ := hrow9.sl
      subst hv9
      have hrow9H := Lib.hid (hrow9.mono (Nat.zero_le _))
      have ha9 := Lib.hid (hAR.out _ (hS8.out.below hb9).rf)
      clear hb9 hrow9 ha8
      go_wp2_with fail
      refine ha9.out.mono ?_
      rintro e w10 ⟨v10, rfl, hrow10, hb10⟩
      have hS10 := Lib.hid (hS9.out.below hb10)
      obtain ⟨a10, c10, hv10⟩ := hrow10.sl
      subst hv10
      have hs10 := hSm.out _ _ _ _ _ (hrow9H.out.below hb10) (hrow10.mono (Nat.zero_le _))
      simp only [decide_true, hlnS] at hs10
      have hs10H := Lib.hid hs10
      clear hb10 hrow10 ha9 hs10
      go_wp2_with fail
      refine hs10H.out.mono ?_
      rintro e w11 ⟨rfl, hb11⟩
      have hfin := Lib.hid (below_trans hb2.out ((hS10.out.below hb11).bl.mono hbs2))
      clear hb11
      go_wp2_with fail
      go_ret
      exact ⟨rfl, hfin.out⟩
end Go.Proofs.YtlcomdbkkfbjiaaGreatDoor
