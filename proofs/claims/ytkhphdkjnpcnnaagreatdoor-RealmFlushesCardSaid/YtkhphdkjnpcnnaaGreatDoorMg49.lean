/- RlmL, RealmX -/
import Derived.Test.YtkhphdkjnpcnnaaGreatDoorMg45
import Derived.Test.YtkhphdkjnpcnnaaGreatDoorMg29
import Derived.Test.YtkhphdkjnpcnnaaGreatDoorMg27
import Derived.Test.YtkhphdkjnpcnnaaGreatDoorMg10
/- What RealmRevokes and RealmFlushes say: plain: no program in sight. -/
namespace Go.Proofs.YtkhphdkjnpcnnaaGreatDoor

theorem revoke_some {R : Rlm} {n : List UInt8} (h : (revokeM R n).2.1 = 0) : ∃ p, findP R.b n = some p ∧ p.epoch < 1073741824 ∧
    revokeM R n = (p.epoch + 1, 0, { R with b := setP R.b { p with epoch := p.epoch + 1 }, l := R.l ++ [⟨(R.l.length : Int) + 1, R.time, ⟨n, p.epoch + 1⟩⟩] }) := by
  unfold revokeM at h ⊢
  by_cases h0 : (raiseOf R.b n).2.1 = 0
  · rw [if_neg (by simpa using h0)] at h ⊢
    unfold raiseOf at h h0 ⊢
    cases hp : findP R.b n with
    | none => rw [hp] at h0; cases h0
    | some p =>
      rw [hp] at h h0
      dsimp only at h h0 ⊢
      by_cases h1 : 1073741824 ≤ p.epoch
      · rw [if_pos h1] at h0; cases h0
      rw [if_neg h1] at h ⊢
      dsimp only at h ⊢
      unfold changeM at h ⊢
      by_cases h2 : (addE R.l R.time ⟨n, p.epoch + 1⟩).2.1 = 0
      · rw [if_neg (by simpa using h2)]
        obtain ⟨_, _, _, h3, _⟩ := addE_zero h2
        rw [h3]
        exact ⟨p, rfl, by omega, rfl⟩
      · rw [if_pos h2] at h; exact absurd h h2
  · rw [if_pos h0] at h; exact absurd h h0
theorem revoke_bad {R : Rlm} {n : List UInt8} (h : (revokeM R n).2.1 ≠ 0) : (revokeM R n).1 = 0 := by
  unfold revokeM at h ⊢
  split
  · rfl
  · rename_i h0
    rw [if_neg h0] at h
    unfold changeM at h ⊢
    split
    · rfl
    · rename_i h1
      rw [if_neg h1] at h
      exact absurd rfl h
theorem flush_some {R : Rlm} (h : (flushM R).2.1 = 0) : maxE R.b < 1073741824 ∧ flushM R = (maxE R.b + 1, 0, { R with b := flushB R.b, l := R.l ++ [⟨(R.l.length : Int) + 1, R.time, ⟨starW, maxE R.b + 1⟩⟩] }) := by
  unfold flushM at h ⊢
  by_cases h0 : 1073741824 ≤ maxE R.b
  · rw [if_pos h0] at h; cases h
  rw [if_neg h0] at h ⊢
  unfold changeM at h ⊢
  by_cases h2 : (addE R.l R.time ⟨starW, maxE R.b + 1⟩).2.1 = 0
  · rw [if_neg (by simpa using h2)]
    obtain ⟨_, _, _, h3, _⟩ := addE_zero h2
    rw [h3]
    exact ⟨by omega, rfl⟩
  · rw [if_pos h2] at h; exact absurd h h2
theorem flush_bad {R : Rlm} (h : (flushM R).2.1 ≠ 0) : (flushM R).1 = 0 := by
  unfold flushM at h ⊢
  split
  · rfl
  · rename_i h0
    rw [if_neg h0] at h
    unfold changeM at h ⊢
    split
    · rfl
    · rename_i h1
      rw [if_neg h1] at h
      exact absurd rfl h
theorem findP_eq_none {L : List Per} {n : List UInt8} (h : ∀ p ∈ L, p.name ≠ n) : findP L n = none := by
  cases hf : findP L n with
  | none => rfl
  | some p =>
    obtain ⟨hp, hn⟩ := findP_some hf
    exact absurd hn (h p hp)
theorem findP_setP {L : List Per} {q : Per} (hs : SortedP L) (hq : ∃ p ∈ L, p.name = q.name) (n : List UInt8) : findP (setP L q) n = if n = q.name then some q else findP L n := by
  by_cases hn : n = q.name
  · rw [if_pos hn, hn]
    obtain ⟨p, hp, hpn⟩ := hq
    exact findP_set hs hp hpn.symm
  · rw [if_neg hn]
    cases hf : findP L n with
    | none =>
      refine findP_eq_none fun x hx => ?_
      obtain ⟨y, hy, rfl⟩ := List.mem_map.1 hx
      split
      · exact fun e => hn e.symm
      · exact findP_none hf y hy
    | some x =>
      obtain ⟨hx, hxn⟩ := findP_some hf
      have hm : x ∈ setP L q := List.mem_map.2 ⟨x, hx, by rw [if_neg (fun e => hn (hxn.symm.trans e))]⟩
      rw [← hxn]
      exact findP_of_mem (setP_sorted q hs) hm
theorem findP_flush {L : List Per} (hs : SortedP L) {n : List UInt8} {x : Per} (h : findP L n = some x) : findP (flushB L) n = some { x with epoch := maxE L + 1 } := by
  obtain ⟨hx, hxn⟩ := findP_some h
  have hnames : (flushB L).map Per.name = L.map Per.name := by unfold flushB; rw [List.map_map]; rfl
  have := findP_of_mem (sortedP_names hnames.symm hs) (p := { x with epoch := maxE L + 1 }) (List.mem_map.2 ⟨x, hx, rfl⟩)
  rw [← hxn]
  exact this
/-- Behind a revoke: what RealmRevokes looks at. -/
theorem revokes_facts {R R1 : Rlm} (hG : GoodM R) (hR1 : R1 = { R with serial := R.serial + 1 }) (hG1 : GoodM R1) {a b : List UInt8} {p s : Per} (hp : findP R.b a = some p) (hs : findP R.b b = some s) (ho : p.off = false) (hos : s.off = false) (ht : R.time < 1000000)
    (hk : isKey s.key = true) (he : tickErr (tickM R a b p) = 0) (hz : (revokeM R1 a).2.1 = 0) :
    ∃ F F2, floorsE R1.l = (F, 0, -1) ∧ GoodF F ∧ (revokeM R1 a).1 = p.epoch + 1 ∧ GoodM (revokeM R1 a).2.2 ∧ floorsE (revokeM R1 a).2.2.l = (F2, 0, -1) ∧ GoodF F2 ∧ ofF F a ≤ p.epoch ∧ ofF F2 a = p.epoch + 1 ∧
      renewM (revokeM R1 a).2.2 (sealText s.key (tickWords (tickM R a b p))) b = ([], 13, (revokeM R1 a).2.2) ∧
      (loginM (revokeM R1 a).2.2 a (markOf p.key (proofM R a)).1 b = ([], 2, (revokeM R1 a).2.2) ∨
       ∃ t2, (loginM (revokeM R1 a).2.2 a (markOf p.key (proofM R a)).1 b).1 = sealText s.key (tickWords t2) ∧ (loginM (revokeM R1 a).2.2 a (markOf p.key (proofM R a)).1 b).2.1 = 0 ∧ openT s.key (sealText s.key (tickWords t2)) = (t2, 0) ∧ t2.epoch = p.epoch + 1 ∧ R.serial < t2.serial) := by
  obtain ⟨hpm, hpn⟩ := findP_some hp
  obtain ⟨hsm, hsn⟩ := findP_some hs
  obtain ⟨F, f1, f2, f3⟩ := hG1.floors
  have hG2 := (hG1.revoke a).1
  obtain ⟨F2, g1, g2, g3⟩ := hG2.floors
  obtain ⟨p', hp', hlt, hrv⟩ := revoke_some hz
  have hpp : p' = p := by
    have : findP R1.b a = some p := by rw [hR1]; exact hp
    rw [this] at hp'
    exact (Option.some.inj hp').symm
  subst hpp
  rw [hrv] at hG2 g1 g3 ⊢
  dsimp only at hG2 g1 g3 ⊢
  have hb1 : R1.b = R.b := by rw [hR1]
  have ht1 : R1.time = R.time := by rw [hR1]
  have hs1 : R1.serial = R.serial + 1 := by rw [hR1]
  have hup := hG1.up_le (p := p') (by rw [hb1]; exact hpm)
  rw [hpn] at hup
  have hfp : ∀ n, findP (setP R1.b { p' with epoch := p'.epoch + 1 }) n = if n = p'.name then some { p' with epoch := p'.epoch + 1 } else findP R1.b n := fun n => findP_setP (q := { p' with epoch := p'.epoch + 1 }) hG1.b.sorted ⟨p', by rw [hb1]; exact hpm, rfl⟩ n
  have hpa : findP (setP R1.b { p' with epoch := p'.epoch + 1 }) a = some { p' with epoch := p'.epoch + 1 } := by rw [hfp, if_pos hpn.symm]
  obtain ⟨s2, hs2, hs3, hs4⟩ : ∃ s2, findP (setP R1.b { p' with epoch := p'.epoch + 1 }) b = some s2 ∧ s2.key = s.key ∧ s2.off = false := by
    rw [hfp]
    by_cases hab : b = p'.name
    · rw [if_pos hab]
      have : s = p' := by
        have h1 : findP R.b b = some p' := by rw [hab, hpn]; exact hp
        rw [hs] at h1
        exact Option.some.inj h1
      exact ⟨_, rfl, by rw [this], ho⟩
    · rw [if_neg hab, hb1]
      exact ⟨s, hs, rfl, hos⟩
  refine ⟨F, F2, f1, f2, rfl, hG2, g1, g2, by rw [f3]; exact hup, ?_, ?_, ?_⟩
  · rw [g3, upTo_snoc]
    dsimp only
    rw [if_pos (.inr rfl)]
    omega
  · unfold renewM
    dsimp only
    rw [hs2]
    dsimp only
    rw [if_neg (by rw [hs4]; decide), hs3, openT_make hk he]
    dsimp only
    rw [if_neg (by simp), if_neg (by show ¬ (tickM R a b p').svc ≠ b; exact fun h => h rfl)]
    unfold renewM2
    dsimp only
    rw [show (tickM R a b p').who = a from rfl, hpa]
    dsimp only
    rw [if_neg (by rw [ho]; decide), if_pos (by show p'.epoch ≠ p'.epoch + 1; omega)]
  · have hpr : ∀ q : Rlm, q.time = R.time → rightOf p'.key (proofM q a) (markOf p'.key (proofM R a)).1 = 0 := fun q hq => by
      have h1 : proofM q a = proofM R a := by unfold proofM; rw [hq]
      rw [h1]
      unfold rightOf
      have h2 : (markOf p'.key (proofM R a)).2 = 0 := by
        unfold markOf
        have := hG.b.key p' hpm
        simp [this]
      rw [if_pos h2, if_pos rfl]
    by_cases hser : 1073741824 < R1.serial
    · exact .inl (login_late (p := { p' with epoch := p'.epoch + 1 }) (s := s2) hpa hs2 ho hs4 (hpr _ ht1) hser)
    · obtain ⟨l1, l2, l3⟩ := login_can (R := { R1 with b := setP R1.b { p' with epoch := p'.epoch + 1 }, l := R1.l ++ [⟨(R1.l.length : Int) + 1, R1.time, ⟨a, p'.epoch + 1⟩⟩] }) (p := { p' with epoch := p'.epoch + 1 }) (s := s2) hpa hs2 ho hs4 (hpr _ ht1) (by rw [ht1]; exact ht) (by dsimp only; omega) hG2
      refine .inr ⟨_, by rw [l1, hs3], by rw [l1], openT_make hk l2, rfl, ?_⟩
      show R.serial < R1.serial
      omega
theorem findP_ins {L : List Per} {q : Per} (hs : SortedP L) (hn : findP L q.name = none) {n : List UInt8} {x : Per} (h : findP L n = some x) : findP (insP q L) n = some x := by
  obtain ⟨hx, hxn⟩ := findP_some h
  rw [← hxn]
  exact findP_of_mem (insP_sorted q L hs (findP_none hn)) (insP_mem.2 (.inr hx))
/-- Behind a flush: what RealmFlushes looks at. -/
theorem flushes_facts {R R1 : Rlm} (hG : GoodM R) (hR1 : R1 = { R with serial := R.serial + 1 }) (hG1 : GoodM R1) {a b : List UInt8} {p s : Per} (hp : findP R.b a = some p) (hs : findP R.b b = some s) (hos : s.off = false) (ht : R.time < 1000000) (hser : R.serial + 1 ≤ 1073741824) (hz : (flushM R1).2.1 = 0) :
    ∃ F, GoodM (flushM R1).2.2 ∧ floorsE (flushM R1).2.2.l = (F, 0, -1) ∧ GoodF F ∧ ¬ ofF F a ≤ p.epoch ∧ ofF F starW = (flushM R1).1 ∧
      ∀ c, (addM (flushM R1).2.2 c 9).1 = 0 → ∃ t2, loginM (addM (flushM R1).2.2 c 9).2 c (markOf 9 (proofM R c)).1 b = (sealText s.key (tickWords t2), 0, { (addM (flushM R1).2.2 c 9).2 with serial := R.serial + 2 }) ∧
        openT s.key (sealText s.key (tickWords t2)) = (t2, 0) ∧ t2.who = c ∧ ofF F c ≤ t2.epoch := by
  obtain ⟨hpm, hpn⟩ := findP_some hp
  have hG2 := hG1.flush.1
  obtain ⟨F, g1, g2, g3⟩ := hG2.floors
  obtain ⟨hlt, hfl⟩ := flush_some hz
  rw [hfl] at hG2 g1 g3 ⊢
  dsimp only at hG2 g1 g3 ⊢
  have hb1 : R1.b = R.b := by rw [hR1]
  have hl1 : R1.l = R.l := by rw [hR1]
  have ht1 : R1.time = R.time := by rw [hR1]
  have hs1 : R1.serial = R.serial + 1 := by rw [hR1]
  have hmx := maxE_le (B := R1.b) (p := p) (by rw [hb1]; exact hpm)
  have hst := hG1.star_le
  refine ⟨F, hG2, g1, g2, ?_, ?_, fun c hc => ?_⟩
  · rw [g3, upTo_snoc, if_pos (.inl rfl)]
    dsimp only
    omega
  · rw [g3, upTo_snoc, if_pos (.inl rfl)]
    dsimp only
    have := hG1.up_new (c := starW) (fun q hq e => by
      have := hG1.b.name q hq
      rw [e] at this
      cases this)
    omega
  · unfold addM at hc
    by_cases ha : (addOf (flushB R1.b) c 9).1 = 0
    · obtain ⟨a1, a2, a3, a4, _⟩ := addOf_some ha
      have hadd : addM { R1 with b := flushB R1.b, l := R1.l ++ [⟨(R1.l.length : Int) + 1, R1.time, ⟨starW, maxE R1.b + 1⟩⟩] } c 9 = (0, { R1 with b := insP ⟨c, 9, starE (R1.l ++ [⟨(R1.l.length : Int) + 1, R1.time, ⟨starW, maxE R1.b + 1⟩⟩]), false⟩ (flushB R1.b), l := R1.l ++ [⟨(R1.l.length : Int) + 1, R1.time, ⟨starW, maxE R1.b + 1⟩⟩] }) := by
        unfold addM
        dsimp only
        rw [if_neg (by simpa using ha)]
      have hG3 := (hG2.add c 9).1
      rw [hadd] at hG3 ⊢
      dsimp only at hG3 ⊢
      have hstar : starE (R1.l ++ [⟨(R1.l.length : Int) + 1, R1.time, ⟨starW, maxE R1.b + 1⟩⟩]) = maxE R1.b + 1 := by
        rw [starE_snoc, if_pos rfl]
        dsimp only
        omega
      rw [hstar] at hG3 ⊢
      have hsb : findP (flushB R1.b) b = some { s with epoch := maxE R1.b + 1 } := findP_flush hG1.b.sorted (by rw [hb1]; exact hs)
      have hq1 : findP (insP ⟨c, 9, maxE R1.b + 1, false⟩ (flushB R1.b)) c = some ⟨c, 9, maxE R1.b + 1, false⟩ := findP_of_mem (insP_sorted _ _ hG2.b.sorted (findP_none a3)) (insP_mem.2 (.inl rfl))
      have hq2 : findP (insP ⟨c, 9, maxE R1.b + 1, false⟩ (flushB R1.b)) b = some { s with epoch := maxE R1.b + 1 } := findP_ins (q := ⟨c, 9, maxE R1.b + 1, false⟩) hG2.b.sorted a3 hsb
      obtain ⟨l1, l2, l3⟩ := login_can (R := { R1 with b := insP ⟨c, 9, maxE R1.b + 1, false⟩ (flushB R1.b), l := R1.l ++ [⟨(R1.l.length : Int) + 1, R1.time, ⟨starW, maxE R1.b + 1⟩⟩] }) (n := c) (svc := b) (pr := (markOf 9 (proofM R c)).1) hq1 hq2 rfl hos (by
        have : proofM { R1 with b := insP ⟨c, 9, maxE R1.b + 1, false⟩ (flushB R1.b), l := R1.l ++ [⟨(R1.l.length : Int) + 1, R1.time, ⟨starW, maxE R1.b + 1⟩⟩] } c = proofM R c := by unfold proofM; dsimp only; rw [ht1]
        rw [this]
        exact right_self (show isKey 9 = true by decide) _) (by rw [ht1]; exact ht) (by dsimp only; omega) hG3
      dsimp only at l1 l2 l3
      refine ⟨_, by rw [l1, hs1, Int.add_assoc] <;> rfl, openT_make l3 l2, rfl, ?_⟩
      rw [g3, upTo_snoc, if_pos (.inl rfl)]
      dsimp only
      have hup := hG1.up_new (c := c) (fun q hq e => by
        refine findP_none a3 { q with epoch := maxE R1.b + 1 } (List.mem_map.2 ⟨q, hq, rfl⟩) ?_
        exact e)
      show max (upTo R1.l c 0) (maxE R1.b + 1) ≤ maxE R1.b + 1
      omega
    · dsimp only at hc
      rw [if_pos ha] at hc
      exact absurd hc ha
end Go.Proofs.YtkhphdkjnpcnnaaGreatDoor

/- What the laws of the realm share. -/
namespace Go.Proofs.YtkhphdkjnpcnnaaGreatDoor
open Go.RowKit

theorem idx_of {L : List Per} {n : List UInt8} {s : Per} (h : findP L n = some s) : ∃ k, ∃ hk : k < L.length, findIx L n = (k : Int) ∧ L[k] = s := by
  cases hi : idxP L n with
  | none =>
    rw [(idxP_none hi).1] at h
    cases h
  | some k =>
    obtain ⟨hk, hf, _⟩ := idxP_some hi
    rw [h] at hf
    exact ⟨k, hk, findIx_some hi, (Option.some.inj hf).symm⟩
theorem floors_res {E : Nat → Addr} {base : Nat} {w' : World} {r : List Flo × Nat × Int} {F : List Flo} {e : Ending} (h : RaiseRes E base w' r e) (hr : r = (F, 0, -1)) : ∃ v, e = .returned (.tuple #[v, .nilIface]) ∧ FlRow w' base v F := by
  obtain ⟨v, ev, h1, h2, h3⟩ := h
  rw [hr] at h2 h3
  obtain ⟨rfl, _⟩ := h3.zero rfl
  exact ⟨v, h1, h2⟩
theorem goodF_names {F : List Flo} (h : GoodF F) : ∀ f ∈ F, f.who.length ≤ maxLen := fun f hf => who_len (h.g.one f hf)
theorem flo_at {w : World} {base : Nat} {v : Value} {F : List Flo} (h : FlRow w base v F) (hg : GoodF F) : FloorsAt w v F := h.at_ (by have := hg.len; unfold maxLen; omega)
end Go.Proofs.YtkhphdkjnpcnnaaGreatDoor
