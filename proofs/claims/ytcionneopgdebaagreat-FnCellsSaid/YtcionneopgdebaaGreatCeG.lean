/-
  Some texts of this proof in one: CeG CeI CeJ. Each part tells what it proves. By an AI agent.
-/
import Derived.Test.YtcionneopgdebaaGreatCeE
import Derived.Test.YtcionneopgdebaaGreatRowI
import Derived.Deep.QuietTactic

/-
  The cell of three terms: the reference's. By an AI agent.
-/
namespace Go.Proofs.YtcionneopgdebaaGreat
open Go.RowKit

set_option maxHeartbeats 3200000 in
set_option maxRecDepth 100000 in
theorem ceCell_c (bl ol cap : Nat) (L : List Tm) (a b c : Nat) (w : World) (hr : RdT w (some ⟨bl, ol, none⟩) L) (ha : a < L.length) (hb : b < L.length) (hc : c < L.length) (hp : ∀ k, k < L.length → termB (tmAt L k) = true) (hl : L.length ≤ 12) (hT : trnL L a b c ≠ 0) :
    Calls Tryz.prog 53 #[.slice (some ⟨bl, ol, none⟩) L.length cap, .int .i64 a, .int .i64 b, .int .i64 c] w fun e w' => ∃ v, e = .returned v ∧ RowI w' w.heap.size v (if lowB L a b c L.length = true then celL L a b c else []) ∧ Below w.heap.size w w' := by
  have hbl : bl < w.heap.size := by obtain ⟨b', o', e, h, _⟩ := hr a ha; cases e; exact h
  obtain ⟨ka0, ka1, ka2⟩ := RdT.at hr ha
  obtain ⟨kb0, kb1, kb2⟩ := RdT.at hr hb
  obtain ⟨kc0, kc1, kc2⟩ := RdT.at hr hc
  have HR := Lib.hid hr
  have HC := Lib.hid (fun t (ht : t < L.length) (w : World) => (ceAbove_c (tmAt L a) (tmAt L b) (tmAt L c) (tmAt L t) w (hp a ha) (hp b hb) (hp c hc) (hp t ht)).mono fun e w' ⟨h1, h2⟩ => (show e = Ending.returned (Value.int IntKind.i64 (hgtL L a b c t)) ∧ Below w.heap.size w w' from ⟨by rw [h1, hgt_sign (by unfold trnL at hT; split; rfl; split; rfl; omega)]; rfl, h2⟩))
  have HLOW := Lib.hid (fun k (hk : k < L.length) (h0 : lowB L a b c k = true) (h : hgtL L a b c k < 0) => show lowB L a b c L.length = false from by
    have : ∀ j, k + 1 + j ≤ L.length → lowB L a b c (k + 1 + j) = false := fun j => by
      induction j with
      | zero => intro _; show (lowB L a b c k && decide (0 ≤ hgtL L a b c k)) = false; rw [decide_eq_false (by omega), Bool.and_false]
      | succ j ih => intro hj; show (lowB L a b c (k + 1 + j) && _) = false; rw [ih (by omega), Bool.false_and]
    have := this (L.length - (k + 1)) (by omega)
    rw [show k + 1 + (L.length - (k + 1)) = L.length by omega] at this
    exact this)
  obtain ⟨n, hn⟩ : ∃ n, L.length = n := ⟨_, rfl⟩
  unfold celL
  rw [hn] at ha hb hc hl HC HLOW ⊢
  have HN := Lib.hid hn
  clear hn hr hp hT
  unfold tmAt at HC
  generalize L.getD a default = o at *
  generalize L.getD b default = u at *
  generalize L.getD c default = v at *
  have i1 : (0 : Int) ≤ (a : Int) := by omega
  have i2 : (a : Int) < (n : Int) := by omega
  have i3 : (0 : Int) ≤ (b : Int) := by omega
  have i4 : (b : Int) < (n : Int) := by omega
  have i5 : (0 : Int) ≤ (c : Int) := by omega
  have i6 : (c : Int) < (n : Int) := by omega
  obtain ⟨RES, hRES⟩ : ∃ X, (if lowB L a b c n = true then onL3 L a b c n else []) = X := ⟨_, rfl⟩
  rw [hRES]
  have HRES := Lib.hid hRES; clear hRES
  go_enter Tryz.func53, Tryz.ntmps53
  go_wp2_with fail
  go_loopw [9, 15] (fun s i wr => ∃ (k : Nat) (xs : List Int), k ≤ n ∧ i = .int .i64 k ∧ (lowB L a b c k = true ∧ onL3 L a b c k = xs) ∧ RowI wr w.heap.size s xs ∧ Below w.heap.size w wr) (fun _ i _ => n - (intOf i).toNat)
  case atStart => exact ⟨0, [], Nat.zero_le _, rfl, ⟨rfl, rfl⟩, RowI.nil _ _, Below.refl _ _⟩
  case round =>
    obtain ⟨wE, rfl⟩ : ∃ x : World, x = wr := ⟨_, rfl⟩
    obtain ⟨k, xs, hk, rfl, hlow, hrow, hbel⟩ := hrel
    have HLW := Lib.hid hlow; have HRW := Lib.hid hrow
    have hsz := hbel.size
    obtain ⟨adx, cpx, rfl, hrdx⟩ := hrow.shape
    have hxl : xs.length ≤ 12 := by rw [← hlow.2]; have := onL3_len L a b c k; omega
    obtain ⟨nx, hnx⟩ : ∃ nx, xs.length = nx := ⟨_, rfl⟩
    rw [hnx] at HRW hxl ⊢
    have HNX := Lib.hid hnx
    clear hlow hrow hrdx hnx
    by_cases hlt : k < n
    case neg =>
      obtain rfl : k = n := by omega
      have HE := Lib.hid (show RES = xs from by rw [← HRES.out, if_pos HLW.out.1]; exact HLW.out.2)
      go_wp2_with fail
      go_ret
      exact ⟨_, rfl, by rw [HE.out]; exact HRW.out, hbel⟩
    case pos =>
      obtain ⟨kt0, kt1, kt2⟩ := RdT.at HR.out (j := k) (by rw [HN.out]; exact hlt)
      have kt0 := bcell hbel hbl kt0
      have kt1 := bcell hbel hbl kt1
      have kt2 := bcell hbel hbl kt2
      have CT := Lib.hid (fun w => HC.out k hlt w)
      obtain ⟨T, hT⟩ : ∃ T, L.getD k default = T := ⟨_, rfl⟩
      rw [hT] at kt0 kt1 kt2 CT
      obtain ⟨H, hH⟩ : ∃ H, hgtL L a b c k = H := ⟨_, rfl⟩
      rw [hH] at CT
      have HH := Lib.hid hH
      clear hT hH
      have x1 : (0 : Int) ≤ (k : Int) := by omega
      have x2 : (k : Int) < (n : Int) := by omega
      obtain ⟨wB, hwB⟩ : ∃ y, wE.alloc (.cells #[.int .i64 T.i, .int .i64 T.j, .int .i64 T.c] 73) = y := ⟨_, rfl⟩
      obtain ⟨q, hq⟩ : ∃ q, wE.heap.size = q := ⟨_, rfl⟩
      have hO : Own wB q 73 [.int .i64 T.i, .int .i64 T.j, .int .i64 T.c] := by rw [← hwB]; exact Own.newHG wE _ _ rfl hq
      have hbB : Below w.heap.size w wB := by rw [← hwB]; exact bal_alloc hbel
      have m0 := bcell hbB hbl ka0; have m1 := bcell hbB hbl ka1; have m2 := bcell hbB hbl ka2
      have m3 := bcell hbB hbl kb0; have m4 := bcell hbB hbl kb1; have m5 := bcell hbB hbl kb2
      have m6 := bcell hbB hbl kc0; have m7 := bcell hbB hbl kc1; have m8 := bcell hbB hbl kc2
      have m9 := hO.cell? (i := 0) rfl; have m10 := hO.cell? (i := 1) rfl; have m11 := hO.cell? (i := 2) rfl
      have lB : bl < wB.heap.size := Nat.lt_of_lt_of_le hbl hbB.size
      have lQ := hO.lt
      clear ka0 ka1 ka2 kb0 kb1 kb2 kc0 kc1 kc2 hO
      have HRB := Lib.hid (show RowI wB w.heap.size (.slice adx nx cpx) xs from by rw [← hwB]; exact HRW.out.below ((Below.refl _ _).alloc (Nat.le_refl _) _))
      go_wp2_with fail
      try rw [hwB]
      try rw [hq]
      go_region_held3 (fun w' => w'.cell? ⟨bl, ol + a * 3, none⟩ = some (.int .i64 o.i) ∧ w'.cell? ⟨bl, ol + a * 3 + 1, none⟩ = some (.int .i64 o.j) ∧ w'.cell? ⟨bl, ol + a * 3 + 2, none⟩ = some (.int .i64 o.c) ∧ w'.cell? ⟨bl, ol + b * 3, none⟩ = some (.int .i64 u.i) ∧ w'.cell? ⟨bl, ol + b * 3 + 1, none⟩ = some (.int .i64 u.j) ∧ w'.cell? ⟨bl, ol + b * 3 + 2, none⟩ = some (.int .i64 u.c) ∧ w'.cell? ⟨bl, ol + c * 3, none⟩ = some (.int .i64 v.i) ∧ w'.cell? ⟨bl, ol + c * 3 + 1, none⟩ = some (.int .i64 v.j) ∧ w'.cell? ⟨bl, ol + c * 3 + 2, none⟩ = some (.int .i64 v.c) ∧ w'.cell? ⟨q, 0, none⟩ = some (.int .i64 T.i) ∧ w'.cell? ⟨q, 1, none⟩ = some (.int .i64 T.j) ∧ w'.cell? ⟨q, 2, none⟩ = some (.int .i64 T.c)) (exact ⟨by assumption, by assumption, by assumption, by assumption, by assumption, by assumption, by assumption, by assumption, by assumption, by assumption, by assumption, by assumption⟩)
        (first | (go_at_call 81; (with_reducible refine (CT.out _).mono ?_); rintro e W1 ⟨rfl, hw1⟩; have n0 := bcell hw1 lB m0; have n1 := bcell hw1 lB m1; have n2 := bcell hw1 lB m2; have n3 := bcell hw1 lB m3; have n4 := bcell hw1 lB m4; have n5 := bcell hw1 lB m5; have n6 := bcell hw1 lB m6; have n7 := bcell hw1 lB m7; have n8 := bcell hw1 lB m8; have n9 := bcell hw1 lQ m9; have n10 := bcell hw1 lQ m10; have n11 := bcell hw1 lQ m11))
      have hbW := ball hbB ((Below.refl _ _).drew.trans hw1)
      have HRC := Lib.hid (HRB.out.below ((Below.refl _ _).drew.trans hw1))
      have hbW2 := hbW.size
      clear m0 m1 m2 m3 m4 m5 m6 m7 m8 m9 m10 m11 n0 n1 n2 n3 n4 n5 n6 n7 n8 n9 n10 n11 kt0 kt1 kt2
      rcases Int.lt_trichotomy H 0 with h | h | h
      · have d1 : decide (H < 0) = true := decide_eq_true h
        have HE := Lib.hid (show RES = [] from by rw [← HRES.out, HLOW.out k hlt HLW.out.1 (by rw [HH.out]; exact h)]; rfl)
        go_wp2_with fail
        go_ret
        exact ⟨_, rfl, by rw [HE.out]; exact RowI.nil _ _, hbW⟩
      · subst h
        have HS := Lib.hid (show lowB L a b c (k + 1) = true ∧ onL3 L a b c (k + 1) = xs ++ [(k : Int)] from ⟨by show (lowB L a b c k && decide (0 ≤ hgtL L a b c k)) = true; rw [HLW.out.1, HH.out]; rfl, by show (if hgtL L a b c k = 0 then _ else _) = _; rw [if_pos HH.out, HLW.out.2]⟩)
        go_wp2_with (at_builtin; refine wpList_appN rfl _ _ rfl w.heap.size _ 0 1 _ xs [(k : Int)] (nx + 1) (by rw [HNX.out]; rfl) rfl rfl (HRC.out.below ((Below.refl _ _).alloc (Nat.le_refl _) _)) (rdI_one _ _ _ rfl) (by rw [HNX.out]; omega) (by simp) (by simp; omega) ?_; intro v5 wm hown hsh hbm hgr)
        have hb3 := (bal_alloc (o := .cells #[.int .i64 (k : Int)] 3) hbW).trans hbm
        have HO5 := Lib.hid hown; clear hown hsh hgr hbm
        go_wp2_with fail
        go_roundw
        case rel => exact ⟨k + 1, xs ++ [(k : Int)], by omega, by go_num, HS.out, HO5.out, hb3⟩
        case measure => simp [intOf]; omega
      · have d1 : decide (H < 0) = false := decide_eq_false (by omega)
        have d2 : (H == 0) = false := beq_eq_false_iff_ne.2 (by omega)
        have HS := Lib.hid (show lowB L a b c (k + 1) = true ∧ onL3 L a b c (k + 1) = xs from ⟨by show (lowB L a b c k && decide (0 ≤ hgtL L a b c k)) = true; rw [HLW.out.1, HH.out, decide_eq_true (by omega)]; rfl, by show (if hgtL L a b c k = 0 then _ else _) = _; rw [if_neg (by rw [HH.out]; omega)]; exact HLW.out.2⟩)
        go_wp2_with fail
        go_roundw
        case rel => exact ⟨k + 1, xs, by omega, by go_num, HS.out, HRC.out, hbW⟩
        case measure => simp [intOf]; omega
end Go.Proofs.YtcionneopgdebaaGreat

/-
  The cell of three terms: the program's. By an AI agent.
-/
namespace Go.Proofs.YtcionneopgdebaaGreat
open Go.RowKit

theorem low_no {L : List Tm} {a b c k : Nat} (hk : k < L.length) (h : hgtL L a b c k < 0) : lowB L a b c L.length = false := by
  have : ∀ j, k + 1 + j ≤ L.length → lowB L a b c (k + 1 + j) = false := fun j => by
    induction j with
    | zero => intro _; show (lowB L a b c k && decide (0 ≤ hgtL L a b c k)) = false; rw [decide_eq_false (by omega), Bool.and_false]
    | succ j ih => intro hj; show (lowB L a b c (k + 1 + j) && _) = false; rw [ih (by omega), Bool.false_and]
  have := this (L.length - (k + 1)) (by omega)
  rw [show k + 1 + (L.length - (k + 1)) = L.length by omega] at this
  exact this
theorem rowI_low {w : World} {B B' : Nat} {v : Value} {xs : List Int} (h : RowI w B v xs) (hB : B' ≤ B) : RowI w B' v xs := by
  rcases h with ⟨h1, h2 | ⟨g, cap, cur, h2, h3, h4⟩⟩
  · exact ⟨h1, Or.inl h2⟩
  · exact ⟨h1, Or.inr ⟨g, cap, cur, h2, Nat.le_trans hB h3, h4⟩⟩
/-- What cellOf gives. -/
def CelR (B : Bool) (X : List Int) (w : World) (e : Ending) (w' : World) : Prop := ∃ v, e = .returned (.tuple #[v, .bool B]) ∧ RowI w' w.heap.size v (if B = true then X else []) ∧ Below w.heap.size w w'
theorem CelR.no {w w' : World} (X : List Int) (hb : Below w.heap.size w w') : CelR false X w (.returned (.tuple #[.slice none 0 0, .bool false])) w' := ⟨_, rfl, RowI.nil _ _, hb⟩
theorem CelR.yes {w w' : World} {v : Value} {X : List Int} (h : RowI w' w.heap.size v X) (hb : Below w.heap.size w w') : CelR true X w (.returned (.tuple #[v, .bool true])) w' := ⟨_, rfl, h, hb⟩

set_option maxHeartbeats 3200000 in
set_option maxRecDepth 100000 in
theorem cellOf_c (S bl ol cap bp op cpp : Nat) (L : List Tm) (a b c : Nat) (w : World) (hr : RdT w (some ⟨bl, ol, none⟩) L) (hS : S < w.heap.size) (k0 : w.cell? ⟨S, 0, none⟩ = some (.slice (some ⟨bl, ol, none⟩) L.length cap)) (k1 : w.cell? ⟨S, 1, none⟩ = some (.slice (some ⟨bp, op, none⟩) L.length cpp)) (hbp : bp < w.heap.size)
    (hpt : ∀ j, j < L.length → w.cell? ⟨bp, op + j * 2, none⟩ = some (.int .i64 (tmAt L j).i) ∧ w.cell? ⟨bp, op + j * 2 + 1, none⟩ = some (.int .i64 (tmAt L j).j)) (ha : a < L.length) (hb : b < L.length) (hc : c < L.length) (hp : ∀ k, k < L.length → termB (tmAt L k) = true) (hl : L.length ≤ 12) :
    Calls Tryz.prog 73 #[.pointer (some ⟨S, 0, none⟩), .int .i64 a, .int .i64 b, .int .i64 c] w (CelR (celB L a b c) (celL L a b c) w) := by
  obtain ⟨p0, p1⟩ := hpt a ha
  obtain ⟨q0, q1⟩ := hpt b hb
  obtain ⟨r0, r1⟩ := hpt c hc
  have hta := termB_t (hp a ha); have htb := termB_t (hp b hb); have htc := termB_t (hp c hc)
  have HAB := Lib.hid (fun t (ht : t < L.length) w (h : RdT w (some ⟨bl, ol, none⟩) L) => above_c bl ol cap L a b c t w h ha hb hc ht hp hl)
  have HR := Lib.hid hr
  have CT := Lib.hid (fun w => turn_c (pnt (tmAt L a)) (pnt (tmAt L b)) (pnt (tmAt L c)) w ⟨by show _ ≤ (tmAt L a).i; omega, by show (tmAt L a).i ≤ _; omega, by show _ ≤ (tmAt L a).j; omega, by show (tmAt L a).j ≤ _; omega⟩ ⟨by show _ ≤ (tmAt L b).i; omega, by show (tmAt L b).i ≤ _; omega, by show _ ≤ (tmAt L b).j; omega, by show (tmAt L b).j ≤ _; omega⟩ ⟨by show _ ≤ (tmAt L c).i; omega, by show (tmAt L c).i ≤ _; omega, by show _ ≤ (tmAt L c).j; omega, by show (tmAt L c).j ≤ _; omega⟩)
  have HBDA := Lib.hid (fun t (ht : t < L.length) => show -1000000000 ≤ abvI (tmAt L a) (tmAt L b) (tmAt L c) (tmAt L t) ∧ abvI (tmAt L a) (tmAt L b) (tmAt L c) (tmAt L t) ≤ 1000000000 * 2 from by
    have h4 := termB_t (hp t ht)
    have bX : ∀ {a b c : Tm}, (0 ≤ a.i ∧ a.i ≤ 6) ∧ (0 ≤ a.j ∧ a.j ≤ 6) → (0 ≤ b.i ∧ b.i ≤ 6) ∧ (0 ≤ b.j ∧ b.j ≤ 6) → (0 ≤ c.i ∧ c.i ≤ 6) ∧ (0 ≤ c.j ∧ c.j ≤ 6) → -80 ≤ turnZ (pnt a) (pnt b) (pnt c) ∧ turnZ (pnt a) (pnt b) (pnt c) ≤ 80 := fun {a b c} ha hb hc => by
      have h1 := mulb (K := 6) (M := 6) (by omega) (show -6 ≤ b.i - a.i ∧ b.i - a.i ≤ 6 by omega) (show -6 ≤ c.j - a.j ∧ c.j - a.j ≤ 6 by omega)
      have h2 := mulb (K := 6) (M := 6) (by omega) (show -6 ≤ b.j - a.j ∧ b.j - a.j ≤ 6 by omega) (show -6 ≤ c.i - a.i ∧ c.i - a.i ≤ 6 by omega)
      unfold turnZ pnt
      simp only
      omega
    have b1 := mulb (K := 2000000) (M := 80) (by omega) (show -2000000 ≤ (tmAt L t).c - (tmAt L a).c ∧ (tmAt L t).c - (tmAt L a).c ≤ 2000000 by omega) (bX (a := tmAt L a) (b := tmAt L b) (c := tmAt L c) (by omega) (by omega) (by omega))
    have b2 := mulb (K := 2000000) (M := 80) (by omega) (show -2000000 ≤ (tmAt L b).c - (tmAt L a).c ∧ (tmAt L b).c - (tmAt L a).c ≤ 2000000 by omega) (bX (a := tmAt L a) (b := tmAt L t) (c := tmAt L c) (by omega) (by omega) (by omega))
    have b3 := mulb (K := 2000000) (M := 80) (by omega) (show -2000000 ≤ (tmAt L c).c - (tmAt L a).c ∧ (tmAt L c).c - (tmAt L a).c ≤ 2000000 by omega) (bX (a := tmAt L a) (b := tmAt L b) (c := tmAt L t) (by omega) (by omega) (by omega))
    unfold abvI
    omega)
  obtain ⟨T, hT⟩ : ∃ T, trnL L a b c = T := ⟨_, rfl⟩
  have HT := Lib.hid hT
  rw [show turnZ (pnt (tmAt L a)) (pnt (tmAt L b)) (pnt (tmAt L c)) = T from hT] at CT
  obtain ⟨RB, hRB⟩ : ∃ B, celB L a b c = B := ⟨_, rfl⟩
  obtain ⟨RX, hRX⟩ : ∃ X, celL L a b c = X := ⟨_, rfl⟩
  rw [hRB, hRX]
  have HRB := Lib.hid hRB; have HRX := Lib.hid hRX
  have HHG := Lib.hid (fun t => show hgtL L a b c t = if T < 0 then -abvI (tmAt L a) (tmAt L b) (tmAt L c) (tmAt L t) else abvI (tmAt L a) (tmAt L b) (tmAt L c) (tmAt L t) from by rw [← hT]; rfl)
  have HNO := Lib.hid (fun k (hk : k < L.length) (h : hgtL L a b c k < 0) => show RB = false from by rw [← hRB]; unfold celB; rw [low_no hk h, Bool.and_false])
  have HYES := Lib.hid (fun (h : T ≠ 0) (h2 : lowB L a b c L.length = true) => show RB = true from by rw [← hRB]; unfold celB; rw [h2, hT, decide_eq_true h]; rfl)
  have HZ := Lib.hid (fun (h : T = 0) => show RB = false from by rw [← hRB]; unfold celB; rw [hT, decide_eq_false (fun g => g h)]; rfl)
  clear hT hRB hRX hr hp hpt hta htb htc
  obtain ⟨n, hn⟩ : ∃ n, L.length = n := ⟨_, rfl⟩
  rw [hn] at ha hb hc hl HAB HBDA HNO HYES k0 k1
  have HRX2 := Lib.hid (show onL3 L a b c n = RX from by rw [← hn]; exact HRX.out)
  have HN := Lib.hid hn
  clear hn HRX
  unfold ptV pnt at CT
  simp only at CT
  generalize tmAt L a = o at *
  generalize tmAt L b = u at *
  generalize tmAt L c = v at *
  have i1 : (0 : Int) ≤ (a : Int) := by omega
  have i2 : (a : Int) < (n : Int) := by omega
  have i3 : (0 : Int) ≤ (b : Int) := by omega
  have i4 : (b : Int) < (n : Int) := by omega
  have i5 : (0 : Int) ≤ (c : Int) := by omega
  have i6 : (c : Int) < (n : Int) := by omega
  have HK0 := Lib.hid k0
  go_enter Tryz.func73, Tryz.ntmps73
  go_wp2_with fail
  go_region_held3 (fun w' => w'.cell? ⟨S, 1, none⟩ = some (.slice (some ⟨bp, op, none⟩) n cpp) ∧ w'.cell? ⟨bp, op + a * 2, none⟩ = some (.int .i64 o.i) ∧ w'.cell? ⟨bp, op + a * 2 + 1, none⟩ = some (.int .i64 o.j) ∧ w'.cell? ⟨bp, op + b * 2, none⟩ = some (.int .i64 u.i) ∧ w'.cell? ⟨bp, op + b * 2 + 1, none⟩ = some (.int .i64 u.j) ∧ w'.cell? ⟨bp, op + c * 2, none⟩ = some (.int .i64 v.i) ∧ w'.cell? ⟨bp, op + c * 2 + 1, none⟩ = some (.int .i64 v.j)) (exact ⟨by assumption, by assumption, by assumption, by assumption, by assumption, by assumption, by assumption⟩)
    (first | (go_at_call 86; (with_reducible refine (CT.out _).mono ?_); rintro e W1 ⟨rfl, hw1⟩; have n0 := bcell hw1 hS k1; have n1 := bcell hw1 hbp p0; have n2 := bcell hw1 hbp p1; have n3 := bcell hw1 hbp q0; have n4 := bcell hw1 hbp q1; have n5 := bcell hw1 hbp r0; have n6 := bcell hw1 hbp r1))
  have hbW : Below w.heap.size w W1 := (Below.refl _ _).drew.trans hw1
  have k0 := bcell hbW hS k0
  clear n0 n1 n2 n3 n4 n5 n6 p0 p1 q0 q1 r0 r1 k1 CT hw1
  by_cases hT0 : T = 0
  case pos =>
    have d1 : (T == 0) = true := by rw [hT0]; rfl
    have HE := Lib.hid (HZ.out hT0)
    clear hT0
    go_wp2_with fail
    exact bodyPost_ret (v := .tuple #[.slice none 0 0, .bool false]) (by simp [results, Tryz.results73, go_sem]) rfl (by rw [HE.out]; exact CelR.no _ hbW)
  case neg =>
    have d1 : (T == 0) = false := beq_eq_false_iff_ne.2 hT0
    obtain ⟨tn, htn⟩ : ∃ tn, decide (T < 0) = tn := ⟨_, rfl⟩
    have HTN := Lib.hid htn
    have k0 := cell_alloc' (o := .cells #[] 3) k0
    obtain ⟨wA, hwA⟩ : ∃ y, W1.alloc (.cells #[] 3) = y := ⟨_, rfl⟩
    obtain ⟨E0, hE0⟩ : ∃ y, W1.heap.size = y := ⟨_, rfl⟩
    have hrow0 : RowI wA w.heap.size (.slice (some ⟨E0, 0, none⟩) 0 0) [] := by rw [← hwA, ← hE0]; exact rowI_low (row_empty W1 3) hbW.size
    have hbA : Below w.heap.size w wA := by rw [← hwA]; exact bal_alloc hbW
    rw [hwA] at k0
    have HROW := Lib.hid hrow0; clear hrow0
    have hSA : S < wA.heap.size := Nat.lt_of_lt_of_le hS hbA.size
    go_wp2_with fail
    try rw [hwA]
    try rw [hE0]
    go_loopw [11, 44] (fun s i wr => ∃ (k : Nat) (xs : List Int), k ≤ n ∧ i = .int .i64 k ∧ (lowB L a b c k = true ∧ onL3 L a b c k = xs) ∧ RowI wr w.heap.size s xs ∧ Below w.heap.size w wr) (fun _ i _ => n - (intOf i).toNat)
    case atStart => exact ⟨0, [], Nat.zero_le _, rfl, ⟨rfl, rfl⟩, HROW.out, hbA⟩
    case round =>
      obtain ⟨wE, rfl⟩ : ∃ x : World, x = wr := ⟨_, rfl⟩
      obtain ⟨k, xs, hk, rfl, hlow, hrow, hbel⟩ := hrel
      clear k0
      have HLW := Lib.hid hlow; have HRW := Lib.hid hrow
      have hsz := hbel.size
      obtain ⟨adx, cpx, rfl, hrdx⟩ := hrow.shape
      have hxl : xs.length ≤ 12 := by rw [← hlow.2]; have := onL3_len L a b c k; omega
      obtain ⟨nx, hnx⟩ : ∃ nx, xs.length = nx := ⟨_, rfl⟩
      rw [hnx] at HRW hxl ⊢
      have HNX := Lib.hid hnx
      clear hlow hrow hrdx hnx
      by_cases hlt : k < n
      case neg =>
        obtain rfl : k = n := by omega
        have HE := Lib.hid (HYES.out hT0 HLW.out.1)
        have HX := Lib.hid (HRX2.out.symm.trans HLW.out.2)
        go_wp2_with fail
        exact bodyPost_ret (v := .tuple #[.slice adx nx cpx, .bool true]) (by simp [results, Tryz.results73, go_sem]) rfl (by rw [HE.out, HX.out]; exact CelR.yes HRW.out hbel)
      case pos =>
        have k9 := bcell hbel hS HK0.out
        have CA := Lib.hid (HAB.out k hlt wE (HR.out.below hbel))
        have hbd := HBDA.out k hlt
        have hhg := HHG.out k
        generalize tmAt L k = t at CA hbd hhg
        generalize abvI o u v t = A at CA hbd hhg
        cases tn
        case true =>
          have hTn : T < 0 := of_decide_eq_true htn
          rw [if_pos hTn] at hhg
          obtain ⟨H, hH⟩ : ∃ H, -A = H := ⟨_, rfl⟩
          have e1 : IntKind.i64.wrap (-A) = H := by rw [← hH]; exact i64_small (by omega) (by omega)
          rw [hH] at hhg
          have HH := Lib.hid hhg
          clear hhg hH hbd
          go_wp2_with fail
          refine CA.out.mono ?_
          rintro e w3 ⟨rfl, hw3⟩
          have hbX := ball hbel hw3
          have hbX2 := hbX.size
          have HRC := Lib.hid (HRW.out.below hw3)
          clear k9 CA
          rcases Int.lt_trichotomy H 0 with h | h | h
          · have d1 : decide (H < 0) = true := decide_eq_true h
            have HE := Lib.hid (HNO.out k hlt (by rw [HH.out]; exact h))
            go_wp2_with fail
            exact bodyPost_ret (v := .tuple #[.slice none 0 0, .bool false]) (by simp [results, Tryz.results73, go_sem]) rfl (by rw [HE.out]; exact CelR.no _ hbX)
          · subst h
            have HS := Lib.hid (show lowB L a b c (k + 1) = true ∧ onL3 L a b c (k + 1) = xs ++ [(k : Int)] from ⟨by show (lowB L a b c k && decide (0 ≤ hgtL L a b c k)) = true; rw [HLW.out.1, HH.out]; rfl, by show (if hgtL L a b c k = 0 then _ else _) = _; rw [if_pos HH.out, HLW.out.2]⟩)
            go_wp2_with (at_builtin; refine wpList_appN rfl _ _ rfl w.heap.size _ 0 1 _ xs [(k : Int)] (nx + 1) (by rw [HNX.out]; rfl) rfl rfl (HRC.out.below ((Below.refl _ _).alloc (Nat.le_refl _) _)) (rdI_one _ _ _ rfl) (by rw [HNX.out]; omega) (by simp) (by simp; omega) ?_; intro v5 wm hown hsh hbm hgr)
            have hb3 := (bal_alloc (o := .cells #[.int .i64 (k : Int)] 3) hbX).trans hbm
            have HO5 := Lib.hid hown; clear hown hsh hgr hbm
            go_wp2_with fail
            go_roundw
            case rel => exact ⟨k + 1, xs ++ [(k : Int)], by omega, by go_num, HS.out, HO5.out, hb3⟩
            case measure => simp [intOf]; omega
          · have d1 : decide (H < 0) = false := decide_eq_false (by omega)
            have d2 : (H == 0) = false := beq_eq_false_iff_ne.2 (by omega)
            have HS := Lib.hid (show lowB L a b c (k + 1) = true ∧ onL3 L a b c (k + 1) = xs from ⟨by show (lowB L a b c k && decide (0 ≤ hgtL L a b c k)) = true; rw [HLW.out.1, HH.out, decide_eq_true (by omega)]; rfl, by show (if hgtL L a b c k = 0 then _ else _) = _; rw [if_neg (by rw [HH.out]; omega)]; exact HLW.out.2⟩)
            go_wp2_with fail
            go_roundw
            case rel => exact ⟨k + 1, xs, by omega, by go_num, HS.out, HRC.out, hbX⟩
            case measure => simp [intOf]; omega
        case false =>
          have hTn : ¬ T < 0 := of_decide_eq_false htn
          rw [if_neg hTn] at hhg
          obtain ⟨H, rfl⟩ : ∃ H, H = A := ⟨_, rfl⟩
          have HH := Lib.hid hhg
          clear hhg hbd
          go_wp2_with fail
          refine CA.out.mono ?_
          rintro e w3 ⟨rfl, hw3⟩
          have hbX := ball hbel hw3
          have hbX2 := hbX.size
          have HRC := Lib.hid (HRW.out.below hw3)
          clear k9 CA
          rcases Int.lt_trichotomy H 0 with h | h | h
          · have d1 : decide (H < 0) = true := decide_eq_true h
            have HE := Lib.hid (HNO.out k hlt (by rw [HH.out]; exact h))
            go_wp2_with fail
            exact bodyPost_ret (v := .tuple #[.slice none 0 0, .bool false]) (by simp [results, Tryz.results73, go_sem]) rfl (by rw [HE.out]; exact CelR.no _ hbX)
          · subst h
            have HS := Lib.hid (show lowB L a b c (k + 1) = true ∧ onL3 L a b c (k + 1) = xs ++ [(k : Int)] from ⟨by show (lowB L a b c k && decide (0 ≤ hgtL L a b c k)) = true; rw [HLW.out.1, HH.out]; rfl, by show (if hgtL L a b c k = 0 then _ else _) = _; rw [if_pos HH.out, HLW.out.2]⟩)
            go_wp2_with (at_builtin; refine wpList_appN rfl _ _ rfl w.heap.size _ 0 1 _ xs [(k : Int)] (nx + 1) (by rw [HNX.out]; rfl) rfl rfl (HRC.out.below ((Below.refl _ _).alloc (Nat.le_refl _) _)) (rdI_one _ _ _ rfl) (by rw [HNX.out]; omega) (by simp) (by simp; omega) ?_; intro v5 wm hown hsh hbm hgr)
            have hb3 := (bal_alloc (o := .cells #[.int .i64 (k : Int)] 3) hbX).trans hbm
            have HO5 := Lib.hid hown; clear hown hsh hgr hbm
            go_wp2_with fail
            go_roundw
            case rel => exact ⟨k + 1, xs ++ [(k : Int)], by omega, by go_num, HS.out, HO5.out, hb3⟩
            case measure => simp [intOf]; omega
          · have d1 : decide (H < 0) = false := decide_eq_false (by omega)
            have d2 : (H == 0) = false := beq_eq_false_iff_ne.2 (by omega)
            have HS := Lib.hid (show lowB L a b c (k + 1) = true ∧ onL3 L a b c (k + 1) = xs from ⟨by show (lowB L a b c k && decide (0 ≤ hgtL L a b c k)) = true; rw [HLW.out.1, HH.out, decide_eq_true (by omega)]; rfl, by show (if hgtL L a b c k = 0 then _ else _) = _; rw [if_neg (by rw [HH.out]; omega)]; exact HLW.out.2⟩)
            go_wp2_with fail
            go_roundw
            case rel => exact ⟨k + 1, xs, by omega, by go_num, HS.out, HRC.out, hbX⟩
            case measure => simp [intOf]; omega
end Go.Proofs.YtcionneopgdebaaGreat

/-
  Equal lists of numbers: l1Same and slices.Equal (picked from WyB and EgG) By an AI agent.
-/
namespace Go.Proofs.YtcionneopgdebaaGreat
open Go.RowKit

set_option maxHeartbeats 1600000 in
theorem l1Same_c (ad : Option Addr) (cap : Nat) (l : List Int) (ad2 : Option Addr) (cap2 : Nat) (m : List Int) (w : World) (hl : l.length ≤ 1048576) (h1 : RdI w ad l) (h2 : RdI w ad2 m) :
    Calls Tryz.prog 83 #[.slice ad l.length cap, .slice ad2 m.length cap2] w fun e w' => e = .returned (.bool (decide (l = m))) ∧ Below w.heap.size w w' := by
  have H1 := Lib.hid h1; clear h1
  have H2 := Lib.hid h2; clear h2
  by_cases hlm : l.length = m.length
  case neg =>
    have hd0 : ((l.length : Int) != (m.length : Int)) = true := bne_iff_ne.2 (by omega)
    have hlm2 : ((l.length : Int) == (m.length : Int)) = false := beq_eq_false_iff_ne.2 (by omega)
    have hres : decide (l = m) = false := decide_eq_false (fun e => hlm (by rw [e]))
    rw [hres]
    clear hlm hres
    go_enter Tryz.func83, Tryz.ntmps83
    go_wp2_with fail
    go_ret
    exact ⟨rfl, Below.refl _ _⟩
  case pos =>
    obtain ⟨N, hN⟩ : ∃ N, l.length = N := ⟨_, rfl⟩
    have hM : m.length = N := by omega
    rw [hN, hM]
    have HN := Lib.hid hN; have HM := Lib.hid hM
    have hN2 : N ≤ 1048576 := by omega
    clear hN hM hlm hl
    have hd0 : ((N : Int) != (N : Int)) = false := by simp
    go_enter Tryz.func83, Tryz.ntmps83
    go_wp2_with fail
    clear hd0
    go_loopw [13] (fun i wr => ∃ k : Nat, k ≤ N ∧ i = .int .i64 k ∧ (∀ j, j < k → l.getD j 0 = m.getD j 0) ∧ Below w.heap.size w wr) (fun i _ => N - (intOf i).toNat)
    case atStart => exact ⟨0, Nat.zero_le _, rfl, fun j hj => by omega, Below.refl _ _⟩
    case round =>
      obtain ⟨k, hk, rfl, hlow, hbel⟩ := hrel
      have HLow := Lib.hid hlow; clear hlow
      obtain ⟨wo, rfl⟩ : ∃ wo : World, wo = wr := ⟨_, rfl⟩
      by_cases hlt : k < N
      · obtain ⟨b1, o1, rfl, hb1, c1⟩ := H1.out k (by have := HN.out; omega)
        obtain ⟨b2, o2, rfl, hb2, c2⟩ := H2.out k (by have := HM.out; omega)
        have k1 := bcell hbel hb1 c1
        have k2 := bcell hbel hb2 c2
        have x1 : (0 : Int) ≤ (k : Int) := by omega
        have x2 : (k : Int) < (N : Int) := by omega
        clear c1 c2
        by_cases he : l.getD k 0 = m.getD k 0
        · have HE := Lib.hid he
          generalize l.getD k 0 = a at k1 he
          generalize m.getD k 0 = b at k2 he
          have hd1 : (a == b) = true := by simpa using he
          have hd2 : (a != b) = false := by simp [he]
          clear he
          go_wp2_with fail
          go_quiet (fail)
          go_wp2_with fail
          go_roundw
          case rel =>
            refine ⟨k + 1, by omega, by go_num, fun j hj => ?_, bdrewN hbel _⟩
            by_cases e : j = k
            · subst e; exact HE.out
            · exact HLow.out j (by omega)
          case measure => simp [intOf]; omega
        · have HE := Lib.hid he
          generalize l.getD k 0 = a at k1 he
          generalize m.getD k 0 = b at k2 he
          have hd1 : (a == b) = false := by simpa using he
          have hd2 : (a != b) = true := by simpa using he
          clear he
          go_wp2_with fail
          go_quiet (fail)
          go_wp2_with fail
          go_ret
          exact ⟨ret_bool (decide_eq_false (fun e => HE.out (by rw [e]))).symm, bdrewN hbel _⟩
      · have he : k = N := by omega
        subst he
        go_wp2_with fail
        go_ret
        refine ⟨ret_bool (decide_eq_true ?_).symm, hbel⟩
        apply List.ext_getElem (by rw [HN.out, HM.out])
        intro i hi hi2
        have := HLow.out i (by have := HN.out; omega)
        simpa [List.getD, hi, hi2] using this
set_option maxHeartbeats 1600000 in
theorem eqI_c (ad : Option Addr) (cap : Nat) (l : List Int) (ad2 : Option Addr) (cap2 : Nat) (m : List Int) (w : World) (hl : l.length ≤ 1048576) (h1 : RdI w ad l) (h2 : RdI w ad2 m) :
    Calls Tryz.prog 77 #[.slice ad l.length cap, .slice ad2 m.length cap2] w fun e w' => e = .returned (.bool (decide (l = m))) ∧ Below w.heap.size w w' := by
  have H1 := Lib.hid h1; clear h1
  have H2 := Lib.hid h2; clear h2
  by_cases hlm : l.length = m.length
  case neg =>
    have hd0 : ((l.length : Int) != (m.length : Int)) = true := bne_iff_ne.2 (by omega)
    have hlm2 : ((l.length : Int) == (m.length : Int)) = false := beq_eq_false_iff_ne.2 (by omega)
    have hres : decide (l = m) = false := decide_eq_false (fun e => hlm (by rw [e]))
    rw [hres]
    clear hlm hres
    go_enter Tryz.func77, Tryz.ntmps77
    go_wp2_with fail
    go_ret
    exact ⟨rfl, Below.refl _ _⟩
  case pos =>
    obtain ⟨N, hN⟩ : ∃ N, l.length = N := ⟨_, rfl⟩
    have hM : m.length = N := by omega
    rw [hN, hM]
    have HN := Lib.hid hN; have HM := Lib.hid hM
    have hN2 : N ≤ 1048576 := by omega
    clear hN hM hlm hl
    have hd0 : ((N : Int) != (N : Int)) = false := by simp
    go_enter Tryz.func77, Tryz.ntmps77
    go_wp2_with fail
    clear hd0
    go_loopw [13] (fun i wr => ∃ k : Nat, k ≤ N ∧ i = .int .i64 k ∧ (∀ j, j < k → l.getD j 0 = m.getD j 0) ∧ Below w.heap.size w wr) (fun i _ => N - (intOf i).toNat)
    case atStart => exact ⟨0, Nat.zero_le _, rfl, fun j hj => by omega, Below.refl _ _⟩
    case round =>
      obtain ⟨k, hk, rfl, hlow, hbel⟩ := hrel
      have HLow := Lib.hid hlow; clear hlow
      obtain ⟨wo, rfl⟩ : ∃ wo : World, wo = wr := ⟨_, rfl⟩
      by_cases hlt : k < N
      · obtain ⟨b1, o1, rfl, hb1, c1⟩ := H1.out k (by have := HN.out; omega)
        obtain ⟨b2, o2, rfl, hb2, c2⟩ := H2.out k (by have := HM.out; omega)
        have k1 := bcell hbel hb1 c1
        have k2 := bcell hbel hb2 c2
        have x1 : (0 : Int) ≤ (k : Int) := by omega
        have x2 : (k : Int) < (N : Int) := by omega
        clear c1 c2
        by_cases he : l.getD k 0 = m.getD k 0
        · have HE := Lib.hid he
          generalize l.getD k 0 = a at k1 he
          generalize m.getD k 0 = b at k2 he
          have hd1 : (a == b) = true := by simpa using he
          have hd2 : (a != b) = false := by simp [he]
          clear he
          go_wp2_with fail
          go_quiet (fail)
          go_wp2_with fail
          go_roundw
          case rel =>
            refine ⟨k + 1, by omega, by go_num, fun j hj => ?_, bdrewN hbel _⟩
            by_cases e : j = k
            · subst e; exact HE.out
            · exact HLow.out j (by omega)
          case measure => simp [intOf]; omega
        · have HE := Lib.hid he
          generalize l.getD k 0 = a at k1 he
          generalize m.getD k 0 = b at k2 he
          have hd1 : (a == b) = false := by simpa using he
          have hd2 : (a != b) = true := by simpa using he
          clear he
          go_wp2_with fail
          go_quiet (fail)
          go_wp2_with fail
          go_ret
          exact ⟨ret_bool (decide_eq_false (fun e => HE.out (by rw [e]))).symm, bdrewN hbel _⟩
      · have he : k = N := by omega
        subst he
        go_wp2_with fail
        go_ret
        refine ⟨ret_bool (decide_eq_true ?_).symm, hbel⟩
        apply List.ext_getElem (by rw [HN.out, HM.out])
        intro i hi hi2
        have := HLow.out i (by have := HN.out; omega)
        simpa [List.getD, hi, hi2] using this
end Go.Proofs.YtcionneopgdebaaGreat
