/-
  The edges of a polygon and the sum of their divisors: program and reference. By an AI agent.
-/
import Derived.Test.YtpnnmdkhkjenmaaBnd
import Derived.Test.YtpnnmdkhkjenmaaApp
namespace Go.Proofs.Ytpnnmdkhkjenmaa
open Go.RowKit

set_option maxHeartbeats 1600000 in
theorem edges_c (ad : Option Addr) (cap : Nat) (l : List Pt) (w : World) (hr : RdP w ad l) (hl : l.length ≤ 50000) (h1 : l.length ≠ 1) (hs : AllSh l) :
    Calls Try.prog 30 #[.slice ad l.length cap] w fun e w' => ∃ v, e = .returned v ∧ RowP w' w.heap.size v (edgesP l) ∧ Below w.heap.size w w' := by
  have HR := Lib.hid hr; clear hr
  have e1 : ((l.length : Int) == 1) = false := beq_eq_false_iff_ne.2 (by omega)
  unfold edgesP
  go_enter Try.func30, Try.ntmps30
  go_wp2_with fail
  go_loopw [3, 13] (fun v i wr => ∃ k : Nat, k ≤ l.length ∧ i = .int .i64 k ∧ RowP wr w.heap.size v (tab k (edgeP l)) ∧ Below w.heap.size w wr) (fun _ i _ => l.length - (intOf i).toNat)
  case atStart => exact ⟨0, Nat.zero_le _, rfl, rowP_empty w, (Below.refl _ _).alloc (Nat.le_refl _) _⟩
  case round =>
    obtain ⟨wE, rfl⟩ : ∃ x : World, x = wr := ⟨_, rfl⟩
    obtain ⟨k, hk, rfl, hrow, hbel⟩ := hrel
    have HO := Lib.hid hrow; clear hrow
    by_cases hlt : k < l.length
    case neg =>
      obtain rfl : k = l.length := by omega
      go_wp2_with fail
      go_ret
      exact ⟨_, rfl, HO.out, hbel⟩
    case pos =>
      obtain ⟨b, off, rfl, hb, c0, c1⟩ := HR.out k hlt
      have d0 := bcell hbel hb c0
      have d1 := bcell hbel hb c1
      clear c0 c1
      have hst := tab_succ k (edgeP l)
      rw [show edgeP l k = subP (nextP l k) (l.getD k default) from rfl] at hst
      have htl := Lib.hid (tab_length k (edgeP l))
      have cn := fun w h => next_c (some ⟨b, off, none⟩) cap l k w h (by omega) hlt
      have cc := fun w => minus_c (nextP l k) (l.getD k default) w (nextP_sh hs (i := k) (by omega)).sm (hs.at hlt).sm
      generalize subP (nextP l k) (l.getD k default) = z at hst cc
      generalize nextP l k = q at cn cc
      generalize l.getD k default = p at d0 d1 cc
      obtain ⟨o, ho⟩ : ∃ o, tab k (edgeP l) = o := ⟨_, rfl⟩
      rw [ho] at HO hst htl
      obtain ⟨px, py⟩ := p
      obtain ⟨qx, qy⟩ := q
      obtain ⟨zx, zy⟩ := z
      unfold ptV at cn cc
      simp only at d0 d1 cn cc
      have HST := Lib.hid hst; have CN := Lib.hid cn; have CC := Lib.hid cc; clear hst cn cc ho
      obtain ⟨adv, capv, rfl, hc1, hc2⟩ := HO.out.shape
      go_wp2_with fail
      obtain ⟨wB, hwB⟩ : ∃ x, wE.alloc (.cells #[.int .i64 px, .int .i64 py] 33) = x := ⟨_, rfl⟩
      have hEB : Below wE.heap.size wE wB := by rw [← hwB]; exact (Below.refl _ _).alloc (Nat.le_refl _) _
      have b0 : wB.cell? ⟨wE.heap.size, 0, none⟩ = some (.int .i64 px) := by rw [← hwB]; simp [go_sem]
      have b1 : wB.cell? ⟨wE.heap.size, 1, none⟩ = some (.int .i64 py) := by rw [← hwB]; simp [go_sem]
      have bl : wE.heap.size < wB.heap.size := by rw [← hwB]; simp
      rw [hwB]
      clear hwB d0 d1
      have hbB := (ball hbel hEB).trans (Below.refl w.heap.size _).drew
      have HRB := Lib.hid (HR.out.below (hbB))
      have HOB := Lib.hid ((HO.out.below hEB).below (Below.refl _ _).drew)
      go_region_held3 (fun w' => w'.cell? ⟨wE.heap.size, 0, none⟩ = some (.int .i64 px) ∧ w'.cell? ⟨wE.heap.size, 1, none⟩ = some (.int .i64 py)) (first | exact ⟨by assumption, by assumption⟩ | exact ⟨bcell ((Below.refl _ _).alloc (Nat.le_refl _) _) lW2 m3, bcell ((Below.refl _ _).alloc (Nat.le_refl _) _) lW2 m4⟩)
        (first
          | (go_at_call 32; (with_reducible refine (CN.out _ HRB.out).mono ?_); rintro e W1 ⟨rfl, hw1⟩; have m1 := bcell hw1 bl b0; have m2 := bcell hw1 bl b1; have n1 := hw1.size)
          | (go_at_call 28; (with_reducible refine (CC.out _).mono ?_); rintro e W2 ⟨rfl, hw2⟩; have m3 := bcell hw2 (Nat.lt_of_lt_of_le bl n1) m1; have m4 := bcell hw2 (Nat.lt_of_lt_of_le bl n1) m2; have n2 := hw2.size; have lW2 := Nat.lt_of_lt_of_le (Nat.lt_of_lt_of_le bl n1) n2; have hbW := ball (ball hbB hw1) hw2; have HO2 := Lib.hid ((HOB.out.below hw1).below hw2); have nB := hbW.size)
          | (refine step_app (by rfl) _ _ (by rfl) w.heap.size (.slice adv o.length capv) (.slice (some ⟨_, 0, none⟩) 1 1) _ [⟨zx, zy⟩] (by rfl) (by rfl) (by (with_reducible repeat (first | exact HO2.out | apply RowP.alloc' | apply RowP.drew'))) (by (with_reducible repeat (first | exact readsP_one _ _ _ _ (by simp) | apply ReadsP.alloc' | apply ReadsP.drew'))) (by have := htl.out; omega) (by simp) (by first | exact nB | ((try simp) <;> omega)) ?_; intro v3 w3 hown3 hb3 hg3; have m5 := (World.grownBy.cell_far hg3 ⟨wE.heap.size, 0, none⟩ (Nat.lt_of_lt_of_le lW2 (by simp)) (fun e => Nat.lt_irrefl _ (HO.out.lt _ e.symm).2)).trans (bcell ((Below.refl _ _).alloc (Nat.le_refl _) _) lW2 m3); have m6 := (World.grownBy.cell_far hg3 ⟨wE.heap.size, 1, none⟩ (Nat.lt_of_lt_of_le lW2 (by simp)) (fun e => Nat.lt_irrefl _ (HO.out.lt _ e.symm).2)).trans (bcell ((Below.refl _ _).alloc (Nat.le_refl _) _) lW2 m4)))
      go_wp2_with fail
      go_roundw
      case rel => exact ⟨k + 1, by omega, by go_num, by rw [HST.out]; exact hown3, (hbW.alloc nB _).trans hb3⟩
      case measure => simp [intOf]; omega

end Go.Proofs.Ytpnnmdkhkjenmaa
