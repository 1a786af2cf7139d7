/-
  The mean of a circuit: the program's. By an AI agent.
-/
import Derived.Test.YtjkfighooijblaaGreatEgF
import Derived.Test.YtjkfighooijblaaGreatEgQ
import Derived.Test.YtjkfighooijblaaGreatWyT
namespace Go.Proofs.YtjkfighooijblaaGreat
open Go.RowKit

/-- a circuit that begins anywhere. -/
structure Cr0 (n : Nat) (m : Nat → Nat → Int) (c : List Int) : Prop where
  pth : Pth n m c
  shut : m (laV c) (vx c 0) ≠ 1000000000
theorem Cr0.arc {n : Nat} {m : Nat → Nat → Int} {c : List Int} (h : Cr0 n m c) {t : Nat} (ht : t < c.length) : m (vx c t) (nxV c t) ≠ 1000000000 := by
  unfold nxV
  by_cases e : t + 1 < c.length
  · rw [if_pos e]; exact stB_t.1 h.pth.st t (by omega)
  · rw [if_neg e]
    have := h.shut
    unfold laV at this
    rwa [show c.length - 1 = t by omega] at this
theorem cy0_sum {n : Nat} {m : Nat → Nat → Int} {c : List Int} (hm : ∀ a b, a < n → b < n → numB (m a b) = true) (hn6 : n ≤ 6) (h : Cr0 n m c) : cyC m c = sumC m c ∧ -6000000 ≤ sumC m c ∧ sumC m c ≤ 6000000 := by
  have hp := h.pth.pos
  have hl := h.pth.len
  obtain ⟨q, hq⟩ : ∃ q, c.length = q + 1 := ⟨c.length - 1, by omega⟩
  have hb : ∀ t, t < c.length → -1000000 ≤ m (vx c t) (nxV c t) ∧ m (vx c t) (nxV c t) ≤ 1000000 := fun t ht => by
    have h1 : nxV c t < n := by
      unfold nxV
      split
      · exact (vt_at h.pth.vt (by omega)).2
      · exact h.pth.hd
    have h2 := numB_t (hm _ _ (vt_at h.pth.vt ht).2 h1)
    have h3 := h.arc ht
    omega
  obtain ⟨h1, h2, h3⟩ := coF_sum (m := m) (l := c) (fun t ht => by
    have g1 := h.arc (t := t) (by omega)
    have g2 := hb t (by omega)
    unfold nxV at g1 g2
    rw [if_pos ht] at g1 g2
    exact ⟨g1, g2⟩) q (by omega) (by omega)
  have h4 : smN (fun t => m (vx c t) (vx c (t + 1))) q = smN (fun t => m (vx c t) (nxV c t)) q := smN_congr fun t ht => by
    unfold nxV
    rw [if_pos (by omega)]
  have h5 : nxV c q = vx c 0 := by unfold nxV; rw [if_neg (by omega)]
  have h6 := hb q (by omega)
  have h7 := h.shut
  unfold laV at h7
  rw [hq, Nat.add_sub_cancel] at h7
  have e : cyC m c = coF m c q + m (vx c q) (vx c 0) := by
    unfold cyC laV
    rw [hq, Nat.add_sub_cancel]
    exact prodZ_fin (by omega) h7
  have e2 : sumC m c = smN (fun t => m (vx c t) (nxV c t)) q + m (vx c q) (nxV c q) := by
    unfold sumC
    rw [hq]
    rfl
  rw [h5] at e2 h6
  omega
theorem Cir.cr0 {n : Nat} {m : Nat → Nat → Int} {c : List Int} (h : Cir n m c) : Cr0 n m c := ⟨h.pth, h.shut⟩
theorem frB_low {n d : Int} (hn : -1000000000 ≤ n ∧ n ≤ 1000000000) (hd : 1 ≤ d ∧ d ≤ 1000000000) : frB (lowF n d) = true := by
  obtain ⟨s, h1, h2, h3, h4, h5, h6⟩ := low_spec (n := n) (d := d) (by omega)
  refine frB_t.2 ⟨?_, ?_, h6⟩
  · have := tdiv_bd n (sgG n d)
    unfold lowF
    simp only
    omega
  · have := tdiv_bd d (sgG n d)
    refine ⟨h5, ?_⟩
    unfold lowF
    simp only
    omega
/-- the mean of a circuit in lowest terms. -/
def meC (m : Nat → Nat → Int) (c : List Int) : Fr := lowF (sumC m c) (c.length : Int)
theorem meC_frB {n : Nat} {m : Nat → Nat → Int} {c : List Int} (hm : ∀ a b, a < n → b < n → numB (m a b) = true) (hn6 : n ≤ 6) (h : Cr0 n m c) : frB (meC m c) = true := by
  have h1 := (cy0_sum hm hn6 h).2
  have h2 := h.pth.pos
  have h3 := h.pth.len
  exact frB_low (by omega) (by omega)
theorem me_lt {n : Nat} {m : Nat → Nat → Int} {a b : List Int} (ha : Cr0 n m a) (hb : Cr0 n m b) : cmpF (meC m a) (meC m b) < 0 ↔ ltC m a b := by
  have h1 := ha.pth.pos
  have h2 := hb.pth.pos
  have h3 := low_lt (n1 := sumC m a) (d1 := (a.length : Int)) (n2 := sumC m b) (d2 := (b.length : Int)) (by omega) (by omega)
  unfold meC ltC
  rw [← h3]
  unfold cmpF
  generalize (lowF (sumC m a) (a.length : Int)).n * (lowF (sumC m b) (b.length : Int)).d = X
  generalize (lowF (sumC m b) (b.length : Int)).n * (lowF (sumC m a) (a.length : Int)).d = Y
  split
  · omega
  · split <;> omega
theorem me_eq {n : Nat} {m : Nat → Nat → Int} {a b : List Int} (hm : ∀ a b, a < n → b < n → numB (m a b) = true) (hn6 : n ≤ 6) (ha : Cr0 n m a) (hb : Cr0 n m b) : meC m a = meC m b ↔ eqC m a b := by
  have h1 := ha.pth.pos
  have h2 := hb.pth.pos
  exact low_eq (by omega) (by omega) (meC_frB hm hn6 hb)

set_option maxHeartbeats 800000 in
set_option maxRecDepth 100000 in
theorem meanOf_c (n : Nat) (ad : Option Addr) (cap : Nat) (m : Nat → Nat → Int) (adw : Option Addr) (capw : Nat) (l : List Int) (w : World) (hr : RdM w ad (toM n m)) (hw : RdI w adw l) (hn : 1 ≤ n ∧ n ≤ 6) (hp : Cr0 n m l) (hnum : ∀ a b, a < n → b < n → numB (m a b) = true) :
    Calls Tryz.prog 61 #[.slice ad n cap, .slice adw l.length capw] w fun e w' => e = .returned (frV (meC m l)) ∧ Below w.heap.size w w' := by
  have hb0 : Below w.heap.size w (w.alloc (.cells #[.int .i64 0, .int .i64 0] 30)) := bal_alloc (Below.refl _ _)
  have o0 := FrO.new w 0 0 rfl
  have C1 := Lib.hid (costOfCircuit_c n ad cap m adw capw l _ (hr.below hb0) (hw.below hb0) hn hp.pth hnum)
  have hs := cy0_sum hnum hn.2 hp
  have h2 := hp.pth.pos
  have h3 := hp.pth.len
  have C2 := Lib.hid (fun w => lowest_c (cyC m l) (l.length : Int) w (by omega) (by omega) (by omega))
  rw [hs.1] at C1 C2
  rw [show lowF (sumC m l) (l.length : Int) = meC m l from rfl] at C2
  clear hr hw hp hnum hs h2 h3
  generalize sumC m l = S at C1 C2
  generalize meC m l = F at C2 ⊢
  generalize l.length = N at C1 C2 ⊢
  obtain ⟨a, b⟩ := F
  unfold frV at *
  simp only at C2 ⊢
  go_enter Tryz.func61, Tryz.ntmps61
  go_wp2_with fail
  refine C1.out.mono ?_
  rintro e w1 ⟨rfl, hb1⟩
  have o1 := o0.below hb1
  have hb1 := ball hb0 hb1
  go_wp2_with fail
  refine (C2.out _).mono ?_
  rintro e w2 ⟨rfl, hb2⟩
  have o2 := o1.below hb2
  have hb2 := ball hb1 hb2
  obtain ⟨x0, x1⟩ := o2.at
  obtain ⟨y0, y1⟩ := o2.fr
  go_wp2_with fail
  obtain ⟨W, hW, ⟨q0, q1⟩, hB⟩ := fr2_end (a := a) (b := b) o2 hb2 (by omega)
  unfold fr2 at hW
  rw [hW]
  exact bodyPost_ret (v := .agg #[.int .i64 a, .int .i64 b]) (by simp [results, Tryz.results61, go_sem, q0, q1]) rfl ⟨rfl, hB⟩
end Go.Proofs.YtjkfighooijblaaGreat
