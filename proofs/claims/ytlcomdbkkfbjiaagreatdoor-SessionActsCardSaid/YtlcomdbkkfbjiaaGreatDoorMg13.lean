/- SesS -/
import Derived.Test.YtlcomdbkkfbjiaaGreatDoorMg11
import Derived.Test.YtlcomdbkkfbjiaaGreatDoorMg12
import Derived.Deep.CutRange
import Derived.Deep.CutBlock
import Derived.Laws.NewBlocks
/- Package session: Sweep: walked. -/
namespace Go.Proofs.YtlcomdbkkfbjiaaGreatDoor
open Go.RowKit Go.MapKept Go.Maps Go.Sort

theorem IntRow.block {w : World} {base : Nat} {v : Value} {zs : List Int} (h : IntRow w base v zs) : ∀ g, v.ownBlock = some g → base ≤ g ∧ ∃ cs, w.heap[g]? = some (.cells cs 3 (0, 0)) := fun _ hg => ownsRow_block h hg
theorem IntRow.off_iter {w : World} {base i r : Nat} {v : Value} {zs : List Int} {l left : List (Value × Value)} (h : IntRow w base v zs) (hr : RangeV (.int .i64) w r i l left) : ∀ g, v.ownBlock = some g → ¬ g = i := by
  rintro g hg rfl
  obtain ⟨_, cs, h1⟩ := h.block g hg
  obtain ⟨es, clock, since, seen, c0, _, _, _, _, hi, _⟩ := hr
  rw [h1] at hi
  cases hi
theorem IntRow.off_map {w : World} {base r : Nat} {v : Value} {zs : List Int} {l : List (Value × Value)} (h : IntRow w base v zs) (hr : MapV (.int .i64) w r l) : ∀ g, v.ownBlock = some g → ¬ g = r := by
  rintro g hg rfl
  obtain ⟨_, cs, h1⟩ := h.block g hg
  obtain ⟨es, clock, hi, _⟩ := hr
  rw [h1] at hi
  cases hi
theorem IntRow.off_desk {w : World} {base b r : Nat} {v : Value} {zs : List Int} {next : Int} {L : List Ses} (h : IntRow w base v zs) (hD : DeskS w b r next L) : (∀ g, v.ownBlock = some g → ¬ g = r) ∧ (∀ g, v.ownBlock = some g → ¬ g = b) := by
  obtain ⟨hb, l, hm, _⟩ := hD
  refine ⟨h.off_map hm, ?_⟩
  rintro g hg rfl
  obtain ⟨_, cs, h1⟩ := h.block g hg
  rw [h1] at hb
  injection hb with hb
  injection hb with _ hb _
  revert hb
  decide
theorem RangeV.row {w w' : World} {base i r : Nat} {v : Value} {zs : List Int} {l left : List (Value × Value)} (hr : RangeV (.int .i64) w r i l left) (h : IntRow w base v zs) (hk : Keeps (fun k => v.ownBlock = some k) w w') : RangeV (.int .i64) w' r i l left :=
  hr.keeps hk (fun e => h.off_map hr.mapV _ e rfl) (fun e => h.off_iter hr _ e rfl)
theorem keeps_grownI {w w' : World} {v : Value} (h : w.grownBy w' v.ownBlock) : Keeps (fun k => v.ownBlock = some k) w w' := ⟨h.os, h.tape, h.output, h.size, fun k hk hs => h.block k hk (fun e => hs e.symm)⟩
theorem info_int : (Tryz.prog.info? 3).map (fun i => (i.zero, i.size, i.bytes)) = some (some (.int .i64 0), 1, 8) := by kernel_rfl
theorem mem_filterS {L : List Ses} (hs : SortedS L) (f : Ses → Bool) {p : Ses} (hp : p ∈ L) : p.n ∈ numsS (L.filter f) ↔ f p = true := by
  unfold numsS
  rw [List.mem_map]
  constructor
  · rintro ⟨q, hq, e⟩
    obtain ⟨h1, h2⟩ := List.mem_filter.1 hq
    rwa [sortedS_inj hs q h1 p hp e] at h2
  · exact fun h => ⟨p, List.mem_filter.2 ⟨hp, h⟩, rfl⟩
/-- What is left behind some deletions. -/
def leftS (L : List Ses) (N : List Int) : List Ses := L.filter fun q => !decide (q.n ∈ N)
theorem leftS_nil (L : List Ses) : leftS L [] = L := by simp [leftS]
theorem leftS_snoc (L : List Ses) (N : List Int) (n : Int) : (leftS L N).filter (fun q => !(q.n == n)) = leftS L (N ++ [n]) := by
  unfold leftS
  rw [List.filter_filter]
  refine List.filter_congr fun q _ => ?_
  by_cases h1 : q.n = n <;> by_cases h2 : q.n ∈ N <;> simp [h1, h2]
theorem leftS_all {L : List Ses} (hs : SortedS L) (f : Ses → Bool) : leftS L (numsS (L.filter f)) = L.filter fun q => !f q := by
  unfold leftS
  refine List.filter_congr fun q hq => ?_
  have := mem_filterS hs f hq
  cases h : f q <;> simp [this, h]
theorem filter_snocS (f : Ses → Bool) (L : List Ses) (q : Ses) : numsS ((L ++ [q]).filter f) = if f q = true then numsS (L.filter f) ++ [q.n] else numsS (L.filter f) := by
  unfold numsS
  rw [List.filter_append]
  cases h : f q <;> simp [h]
theorem sweep_check {F : List Flo} {now : Int} {L : List Ses} (h : (checkF F).1 ≠ 0) : sweepS F now L = ([], checkF F, L) := by unfold sweepS; rw [if_pos h]
theorem sweep_time {F : List Flo} {now : Int} {L : List Ses} (h : (checkF F).1 = 0) (h2 : now < 0 ∨ 1000000 < now) : sweepS F now L = ([], (2, -1), L) := by unfold sweepS; rw [if_neg (by simpa using h), if_pos h2]
theorem sweep_ok {F : List Flo} {now : Int} {L : List Ses} (h : (checkF F).1 = 0) (h2 : ¬ (now < 0 ∨ 1000000 < now)) : sweepS F now L = (numsS (L.filter (badS F now)), (0, -1), L.filter fun p => !badS F now p) := by unfold sweepS; rw [if_neg (by simpa using h), if_neg h2]
/-- What Sweep hands back. -/
def SweepRes (E : Nat → Addr) (base : Nat) (w' : World) (r : List Int × (Nat × Int) × List Ses) (e : Ending) : Prop := ∃ v ev, e = .returned (.tuple #[v, ev]) ∧ IntRow w' base v r.1 ∧ ErrAt E w' ev r.2.1.1 r.2.1.2
theorem SweepRes.mk {E : Nat → Addr} {base : Nat} {w' : World} {r : List Int × (Nat × Int) × List Ses} {v ev : Value} {zs : List Int} {c : Nat} {a : Int} {L : List Ses} (hr : r = (zs, (c, a), L)) (hv : IntRow w' base v zs) (he : ErrAt E w' ev c a) : SweepRes E base w' r (.returned (.tuple #[v, ev])) := by
  subst hr
  exact ⟨v, ev, rfl, hv, he⟩
set_option maxHeartbeats 8000000 in
set_option maxRecDepth 100000 in
theorem sweep_desk {E : Nat → Addr} (b r : Nat) (next : Int) (L : List Ses) (v : Value) (F : List Flo) (now : Int) (w : World) (hL : Laid E w) (hD : DeskS w b r next L) (hG : GoodS next L) (hv : FloorsAt w v F) (hm : ∀ f ∈ F, f.who.length ≤ maxLen) :
    Calls Tryz.prog 14 #[.pointer (some ⟨b, 0, none⟩), v, .int .i64 now] w fun e w' => SweepRes E w.heap.size w' (sweepS F now L) e ∧ Keeps (· = r) w w' ∧ DeskS w' b r next (sweepS F now L).2.2 := by
  obtain ⟨i0, hi, hz0, hz1, hz2⟩ := info_parts info_int
  have hck := Lib.hid (check_flo (E := E) v F w hL hv hm)
  have hLH := Lib.hid hL
  have hDH := Lib.hid hD
  have hGH := Lib.hid hG
  have hmany := hG.many
  have hgood := Lib.hid (fun (t : Tick) (ht : tickErr t = 0) wx (hx : Below w.heap.size w wx) => good_tick (E := E) t now wx (hL.below hx) (by
    have := tick_size ht
    constructor <;> (unfold maxLen; omega)))
  have hpass := Lib.hid (fun (n : List UInt8) (e0 : Int) wx (hx : Below w.heap.size w wx) => passes_flo v F n e0 wx (hv.below hx) hm)
  have hbad : ∀ p, badS F now p = (decide (goodT p.t now ≠ 0) || !decide (ofF F p.t.who ≤ p.t.epoch)) := fun _ => rfl
  have hbad := Lib.hid hbad
  obtain ⟨a, c, rfl, hlen, hcap, _⟩ := id hv
  unfold maxLen at hlen
  clear hL hD hG hv hm
  go_enter Tryz.func14, Tryz.ntmps14
  go_wp2_with fail
  refine hck.out.mono ?_
  rintro e w1 ⟨ev, rfl, hev, hb1⟩
  clear hck
  by_cases hc : (checkF F).1 = 0
  case neg =>
    have hr := Lib.hid (sweep_check (now := now) (L := L) hc)
    obtain ⟨T, x, hevv⟩ := hev.iface hc
    subst hevv
    have hev := Lib.hid hev
    have hb1 := Lib.hid hb1
    clear hc
    go_wp2_with fail
    go_ret2
    exact ⟨SweepRes.mk hr.out (IntRow.nil _ _) hev.out, Keeps.of_below hb1.out, by rw [hr.out]; exact hDH.out.below hb1.out⟩
  obtain ⟨hevv, _⟩ := hev.zero hc
  subst hevv
  have hcH := Lib.hid hc
  clear hc hev
  by_cases ht : now < 0 ∨ 1000000 < now
  · have hr := Lib.hid (sweep_time (L := L) hcH.out ht)
    have he := (hLH.out.below hb1).e2
    have hbd := Lib.hid (fun n => below_drawn hb1 n)
    have hor : now < 0 ∨ ¬ now < 0 ∧ 1000000 < now := by omega
    clear ht hb1
    rcases hor with h0 | ⟨h0, h1⟩
    all_goals
      go_wp2_with fail
      go_quiet (fail)
      go_wp2_with fail
      go_ret2
      exact ⟨SweepRes.mk hr.out (IntRow.nil _ _) (ErrAt.bare 2), Keeps.of_below (hbd.out _), by rw [hr.out]; exact hDH.out.below (hbd.out _)⟩
  have hr := Lib.hid (sweep_ok (L := L) hcH.out ht)
  have ht0 : ¬ now < 0 := by omega
  have ht1 : ¬ 1000000 < now := by omega
  clear ht
  have hD1 := hDH.out.below hb1
  have c1 := hD1.at1
  obtain ⟨hrowb, l, hl, hpl⟩ := id hD1
  obtain ⟨o, hrange, hrng⟩ := hl.range Tryz.underlying64
  have hbA := (Below.refl w1.heap.size w1).alloc (Nat.le_refl _) o
  have hb2 := Lib.hid (below_trans hb1 hbA)
  have hpl := Lib.hid hpl
  have hrng := Lib.hid hrng
  have hD2 := Lib.hid (hD1.below hbA)
  have hszA : w1.heap.size + 1 = (w1.alloc o).heap.size := by rw [World.size_alloc]
  have hszA := Lib.hid hszA
  have hits : w.heap.size ≤ w1.heap.size := hb1.size
  clear hbA hb1 hD1 hrowb hl
  go_wp2_with fail
  try go_frame
  generalize hit : w1.heap.size = it at *
  generalize w1.alloc o = W at *
  clear hit hrange c1
  go_loopg [9] (l.length + 1) (fun g v9 wr => ∃ (dn ls : List Ses), ls.length + 1 ≤ g ∧ dn.length + ls.length ≤ 40 ∧ Hid ((dn ++ ls).Perm L) ∧ Hid (IntRow wr w.heap.size v9 (numsS (dn.filter (badS F now)))) ∧ Hid (RangeV (.int .i64) wr r it (l.map sesPair) (ls.map sesPair)) ∧ Hid (Below w.heap.size w wr))
  case atStart => exact ⟨[], l, Nat.le_refl _, by have := hpl.out.length_eq; simp; omega, Lib.hid hpl.out, Lib.hid (IntRow.nil _ _), hrng, hb2⟩
  case round =>
    obtain ⟨dn, ls, hg, h40, hpm, hrow, hrn, hK⟩ := hrel
    obtain ⟨a9, c9, rfl⟩ := hrow.out.sl
    have hitr := hrn.out.lt
    rcases hrn.out.next (P := Tryz.prog) with ⟨hnil, hnx⟩ | ⟨hne, p, left', w2, hperm, hnx, hrn2, hk2, hsz2, hen⟩
    · have hnx := hnx
      have hls : ls = [] := by simpa using hnil
      subst hls
      have hpm2 := Lib.hid (show dn.Perm L by have := hpm.out; rwa [List.append_nil] at this)
      have hN := Lib.hid (show (numsS (dn.filter (badS F now))).Perm (numsS (L.filter (badS F now))) from ((hpm2.out.filter _).map _))
      have hDr := hDH.out.below hK.out
      have hzl : (numsS (dn.filter (badS F now))).length < 4611686018427387904 := by
        have h1 : (numsS (dn.filter (badS F now))).length ≤ dn.length := by unfold numsS; rw [List.length_map]; exact List.length_filter_le _ _
        omega
      have hso := sort_row hrow.out hzl
      rw [mergeSort_nums (nums_sorted (hGH.out.sorted.filter _)) hN.out] at hso
      have hso := Lib.hid hso
      have hoff := hrow.out.off_desk hDr
      have hlN : (numsS (dn.filter (badS F now))).length = (numsS (L.filter (badS F now))).length := hN.out.length_eq
      have hmN := Lib.hid (fun (k : Nat) (hk : k < (numsS (L.filter (badS F now))).length) => (show ∃ p ∈ leftS L ((numsS (L.filter (badS F now))).take k), p.n = (numsS (L.filter (badS F now)))[k] from by
        have hmem := List.getElem_mem hk
        obtain ⟨p, hp, hpn⟩ := List.mem_map.1 hmem
        refine ⟨p, List.mem_filter.2 ⟨(List.mem_filter.1 hp).1, ?_⟩, hpn⟩
        have hsrt := nums_sorted (hGH.out.sorted.filter (badS F now))
        rw [hpn]
        have hnot : (numsS (L.filter (badS F now)))[k] ∉ (numsS (L.filter (badS F now))).take k := by
          intro hx
          obtain ⟨i, hi, hie⟩ := List.getElem_of_mem hx
          rw [List.length_take] at hi
          rw [List.getElem_take] at hie
          have := List.pairwise_iff_getElem.1 hsrt i k (by omega) hk (by omega)
          omega
        simpa using hnot))
      have hall := Lib.hid (leftS_all hGH.out.sorted (badS F now))
      have hml : (numsS (L.filter (badS F now))).length ≤ 40 := by
        have h1 : (numsS (L.filter (badS F now))).length ≤ L.length := by unfold numsS; rw [List.length_map]; exact List.length_filter_le _ _
        omega
      have hrowH := Lib.hid hrow.out
      generalize numsS (L.filter (badS F now)) = N at *
      generalize hzs : numsS (dn.filter (badS F now)) = zs at *
      have hzsH := Lib.hid hzs
      have hlNH := Lib.hid hlN
      clear hzs hrow hlN
      go_wp2_with fail
      refine hso.out.mono ?_
      rintro e w5 ⟨rfl, hrow5, hk5⟩
      have hb5 : Below w.heap.size w w5 := hK.out.trans (hk5.below hK.out.size (fun k e => (hrowH.out.block _ e).1))
      have hD5 := hDr.keeps hk5 (fun e => hoff.2 _ e rfl) (fun e => hoff.1 _ e rfl)
      have hD5 := Lib.hid (show DeskS w5 b r next (leftS L (N.take 0)) by rw [List.take_zero, leftS_nil]; exact hD5)
      have hrow5 := Lib.hid hrow5
      have hk5 := Lib.hid (Keeps.of_below (S := (· = r)) hb5)
      clear hso hoff hDr hb5 hN hrowH hzl hrn hK
      go_wp2_with fail
      go_loopg [57] (zs.length + 1) (fun g i wx => ∃ k : Nat, i = .int .i64 k ∧ k ≤ zs.length ∧ zs.length - k + 1 ≤ g ∧ Hid (DeskS wx b r next (leftS L (N.take k))) ∧ Hid (IntRow wx w.heap.size (.slice a9 zs.length c9) N) ∧ Hid (Keeps (· = r) w wx))
      case atStart => exact ⟨0, rfl, Nat.zero_le _, by omega, hD5, hrow5, hk5⟩
      case round =>
        obtain ⟨k, rfl, hk, hg2, hDx, hrx, hkx⟩ := hrel
        by_cases hlt : k < zs.length
        · have hltN : k < N.length := by have := hlNH.out; omega
          obtain ⟨p, hp, hpn⟩ := hmN.out k hltN
          obtain ⟨g8, o8, rfl, hc8⟩ := IntRow.at_ (c := c9) (a := a9) (by have h := hrx.out; rw [hlNH.out] at h; exact h) k hltN
          have c1 := hDx.out.at1
          obtain ⟨w7, hdel, hk7, hD7⟩ := hDx.out.delete (hGH.out.sorted.filter _) hp
          rw [hpn] at hdel hD7
          rw [leftS_snoc] at hD7
          have htk : N.take (k + 1) = N.take k ++ [N[k]] := by rw [List.take_add_one, List.getElem?_eq_getElem hltN]; rfl
          rw [← htk] at hD7
          have hr7 := Lib.hid (hrx.out.keeps hk7 (hrx.out.off_desk hDx.out).1)
          have hk7 := Lib.hid (hkx.out.trans hk7)
          have hD7 := Lib.hid hD7
          have hk0 : (0 : Int) ≤ (k : Int) := by omega
          have hk1 : (k : Int) < (zs.length : Int) := by omega
          clear hp hpn htk
          generalize N[k] = nk at *
          go_wp2_with fail
          go_roundg (zs.length - k)
          case measure => omega
          case rel => exact ⟨k + 1, by simp, hlt, by omega, hD7, hr7, hk7⟩
        · have hke : k = N.length := by have := hlNH.out; omega
          have hge : ¬ ((k : Int) < (zs.length : Int)) := by omega
          have hDf := Lib.hid (show DeskS _ b r next (L.filter fun p => !badS F now p) by
            have h := hDx.out
            rw [hke, List.take_length, hall.out] at h
            exact h)
          clear hke
          go_wp2_with fail
          go_ret2
          exact ⟨SweepRes.mk hr.out hrx.out (ErrAt.bare 0), hkx.out, by rw [hr.out]; exact hDf.out⟩
    · obtain ⟨ls2, hls2, hlp⟩ := perm_map_back hperm.symm
      match ls2, hls2 with
      | q :: ls', hls2 =>
      rw [List.map_cons] at hls2
      injection hls2 with hq hleft
      subst hleft
      subst hq
      have hqL : q ∈ L := hpm.out.mem_iff.1 (List.mem_append.2 (.inr (hlp.mem_iff.1 (by simp))))
      have hpm2 := Lib.hid (show ((dn ++ [q]) ++ ls').Perm L by
        rw [List.append_assoc]
        exact ((hlp.append_left dn)).trans hpm.out)
      have hln := hlp.length_eq
      rw [List.length_cons] at hln
      have htk := hGH.out.tick q hqL
      have hrow2 := hrow.out.keeps hk2 (hrow.out.off_iter hrn.out)
      have hK2 : Below w.heap.size w w2 := hK.out.trans (hk2.below hK.out.size (fun k e => by rw [e]; exact hits))
      have hsn := Lib.hid (filter_snocS (badS F now) dn q)
      have hbq := hbad.out q
      obtain ⟨qn, who, svc, ep, bg, fn, sr⟩ := q
      dsimp only [sesPair, Tick.val] at hnx hen
      clear hsz2
      have hA3 := (Below.refl w2.heap.size w2).alloc (Nat.le_refl _) (.cells #[.string (bs who), .string (bs svc), .int .i64 ep, .int .i64 bg, .int .i64 fn, .int .i64 sr] 32)
      have hbox := heap_alloc_new w2 (.cells #[.string (bs who), .string (bs svc), .int .i64 ep, .int .i64 bg, .int .i64 fn, .int .i64 sr] 32)
      have hK3 := below_trans hK2 hA3
      have hrow3 := Lib.hid (hrow2.below hA3)
      have hrn3 := Lib.hid (hrn2.below hA3)
      have hgd := hgood.out ⟨who, svc, ep, bg, fn, sr⟩ htk _ hK3
      dsimp only [Tick.val] at hgd hbq
      have hgd := Lib.hid hgd
      have hK3 := Lib.hid hK3
      have hboxH := Lib.hid hbox
      have hbqH := Lib.hid hbq
      clear hperm hk2 hrow2 hrn2 hK2 hrow hrn hK hA3 hbox hlp hpm hqL htk hne hbq
      go_upto_region 10 with fail
      generalize w2.alloc (.cells #[.string (bs who), .string (bs svc), .int .i64 ep, .int .i64 bg, .int .i64 fn, .int .i64 sr] 32) = w3 at *
      go_cut [48] from 31 to 52 (fun s48 wx => s48 = .bool (badS F now ⟨qn, ⟨who, svc, ep, bg, fn, sr⟩⟩) ∧ Hid (Below w3.heap.size w3 wx))
      case first =>
        obtain ⟨⟨r0, r1, r2, r3, r4, r5⟩, f0, f1, f2, f3, f4, f5⟩ := tick_kept (Below.refl _ _) hboxH.out
        generalize goodT ⟨who, svc, ep, bg, fn, sr⟩ now = cd at *
        cases cd with
        | succ cd =>
          have hbt := Lib.hid (show badS F now ⟨qn, ⟨who, svc, ep, bg, fn, sr⟩⟩ = true by rw [hbqH.out]; simp)
          rw [errV_succ] at hgd
          go_wp2_with fail
          refine hgd.out.mono ?_
          rintro e w4 ⟨rfl, hb4⟩
          have hb4 := Lib.hid hb4
          go_wp2_with fail
          go_meet
          exact ⟨by rw [hbt.out], hb4⟩
        | zero =>
          have hbt := Lib.hid (show badS F now ⟨qn, ⟨who, svc, ep, bg, fn, sr⟩⟩ = !decide (ofF F who ≤ ep) by rw [hbqH.out]; simp)
          rw [errV_zero] at hgd
          go_wp2_with fail
          refine hgd.out.mono ?_
          rintro e w4 ⟨rfl, hb4⟩
          obtain ⟨⟨s0, s1, s2, _⟩, _⟩ := tick_kept (Below.refl _ _) (heap_below hb4 hboxH.out)
          have hps := Lib.hid (hpass.out who ep w4 (below_trans hK3.out hb4))
          have hb4 := Lib.hid hb4
          clear r0 r1 r2 r3 r4 r5 f0 f1 f2 f3 f4 f5
          go_wp2_with fail
          refine hps.out.mono ?_
          rintro e w5 ⟨rfl, hb5⟩
          have hb5 := Lib.hid (below_trans hb4.out hb5)
          go_wp2_with fail
          go_meet
          exact ⟨by rw [hbt.out], hb5⟩
      obtain ⟨rfl, hb4⟩ := hcut
      have hrow4 := Lib.hid (hrow3.out.below hb4.out)
      have hrn4 := Lib.hid (hrn3.out.below hb4.out)
      have hK4 := Lib.hid (below_trans hK3.out hb4.out)
      clear hb4 hrow3 hrn3 hK3 hgd hboxH hbqH
      generalize wc = w4 at *
      generalize badS F now ⟨qn, ⟨who, svc, ep, bg, fn, sr⟩⟩ = bb at *
      have hzl : (numsS (dn.filter (badS F now))).length ≤ 40 := by
        have h1 : (numsS (dn.filter (badS F now))).length ≤ dn.length := by unfold numsS; rw [List.length_map]; exact List.length_filter_le _ _
        omega
      have hs4 : w.heap.size ≤ w4.heap.size := hK4.out.size
      have hlen2 : (dn ++ [(⟨qn, ⟨who, svc, ep, bg, fn, sr⟩⟩ : Ses)]).length = dn.length + 1 := by simp
      generalize hzn : numsS ((dn ++ [(⟨qn, ⟨who, svc, ep, bg, fn, sr⟩⟩ : Ses)]).filter (badS F now)) = zn at *
      generalize numsS (dn.filter (badS F now)) = zs at *
      have hznH := Lib.hid hzn
      have hlen2H := Lib.hid hlen2
      clear hzn hlen2
      cases bb with
      | false =>
        have e := hsn.out.trans (if_neg (by decide))
        have hR := Lib.hid (show IntRow w4 w.heap.size (.slice a9 zs.length c9) zn by rw [e]; exact hrow4.out)
        clear e
        go_wp2_with fail
        go_roundg ls.length
        case measure => omega
        case rel => exact ⟨dn ++ [⟨qn, ⟨who, svc, ep, bg, fn, sr⟩⟩], ls', by omega, by rw [hlen2H.out]; omega, hpm2, by rw [hznH.out]; exact hR, hrn4, hK4⟩
      | true =>
        have e := Lib.hid (hsn.out.trans (if_pos rfl))
        go_wp2_with (first
          | (at_builtin; refine wpList_append_own_at _ rfl _ _ 49 rfl w.heap.size 3 i0 (.int .i64 0) 1 8 Tryz.underlying49 hi hz0 hz1 hz2 rfl (by decide) _ _ _ rfl (World.ownsRow.alloc hrow4.out _) ⟨w4.heap.size, 0, none⟩ 1 1 [.int .i64 qn] rfl ?hl ?c1 ?c2 ?c3 ?c4 ?c5 ?_)
          | go_in)
        try case hl => rfl
        try case c1 => exact cell_one_new _ _ _
        try case c2 => first | rfl | (intro u hu; simp at hu; subst hu; rfl)
        try case c3 => unfold maxLen; omega
        try case c4 => omega
        try case c5 => first | omega | (rw [World.size_alloc]; omega)
        intro v6 w6 hown6 hgrow6 _ _
        have hA4 := (Below.refl w4.heap.size w4).alloc (Nat.le_refl _) (.cells #[.int .i64 qn] 3)
        have hrow6 : IntRow w6 w.heap.size v6 zn := by
          rw [e.out]
          unfold IntRow
          rw [List.map_append, List.length_append]
          exact hown6
        have hrn6 := Lib.hid ((hrn4.out.below hA4).row (hrow4.out.below hA4) (keeps_grownI hgrow6))
        have hK6 := Lib.hid (show Below w.heap.size w w6 from (hK4.out.alloc hs4 _).grown hgrow6 (by rw [World.size_alloc]; omega) (fun k hk => (World.ownsRow.lt hrow4.out k hk).1))
        obtain ⟨a6, c6, hv6⟩ := hrow6.sl
        subst hv6
        have hrow6 := Lib.hid hrow6
        clear hown6 hgrow6 hA4 hrow4 hrn4 hK4
        go_wp2_with fail
        go_roundg ls.length
        case measure => omega
        case rel => exact ⟨dn ++ [⟨qn, ⟨who, svc, ep, bg, fn, sr⟩⟩], ls', by omega, by rw [hlen2H.out]; omega, hpm2, by rw [hznH.out]; exact hrow6, hrn6, hK6⟩
end Go.Proofs.YtlcomdbkkfbjiaaGreatDoor
