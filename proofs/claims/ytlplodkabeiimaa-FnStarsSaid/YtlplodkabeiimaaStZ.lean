/-
  What the law of stars wants: plain laws, and contracts in one shape. By an AI agent.
-/
import Derived.Test.YtlplodkabeiimaaStY
import Derived.Deep.QuietTactic
namespace Go.Proofs.Ytlplodkabeiimaa
open Go.RowKit

/-! ### plain -/
theorem add_true {a b : List Ry} (h : addB a b = true) : starB a = true ∧ starB b = true ∧ starB (addR a b) = true := by
  unfold addB at h
  simp only [Bool.and_eq_true] at h
  exact ⟨h.1.1, h.1.2, h.2⟩
theorem add_sums (a b : List Ry) : sxR (addR a b) = sxR a + sxR b ∧ syR (addR a b) = syR a + syR b := puts_sum b a
theorem star_bd {l : List Ry} (h : starB l = true) : (-4000 ≤ sxR l ∧ sxR l ≤ 4000) ∧ -4000 ≤ syR l ∧ syR l ≤ 4000 := by
  obtain ⟨h1, h2, _⟩ := star_of h
  have := sum_b h2
  omega
theorem miss_bal (l : List Ry) : balB (addR l [missR l]) = true := by
  have h := miss_sum l
  unfold balB addR fputs missR
  simp only [Bool.and_eq_true, beq_iff_eq]
  exact h
theorem miss_true {l : List Ry} (h : missB l = true) : starB l = true ∧ balB l = false := by
  unfold missB at h
  simp only [Bool.and_eq_true, Bool.not_eq_true'] at h
  exact ⟨h.1.1, h.1.2⟩
theorem bal_eq {l m : List Ry} (h : (sxR l = 0 ∧ syR l = 0) ↔ (sxR m = 0 ∧ syR m = 0)) : balB l = balB m := by
  unfold balB
  rw [Bool.eq_iff_iff]
  simpa only [Bool.and_eq_true, beq_iff_eq] using h
theorem map_true {a b c d : Int} {l : List Ry} (h : mpsB a b c d l = true) : starB l = true ∧ starB (fputs (l.map (mapR a b c d)) []) = true ∧ (a * d - b * c = 1 ∨ a * d - b * c = -1) := by
  unfold mpsB at h
  simp only [Bool.and_eq_true] at h
  refine ⟨h.1.1, h.2, ?_⟩
  have := of_decide_eq_true (show decide ((a * d - b * c).natAbs = 1) = true from h.1.2.2)
  omega
theorem map_bal {a b c d : Int} {l : List Ry} (h : mpsB a b c d l = true) : balB (fputs (l.map (mapR a b c d)) []) = balB l := by
  obtain ⟨_, _, hd⟩ := map_true h
  have h1 := puts_sum (l.map (mapR a b c d)) []
  have h2 := map_sum a b c d l
  refine bal_eq ?_
  rw [show fputs (l.map (mapR a b c d)) [] = (l.map (mapR a b c d)).foldl (fun l r => putR r l) [] from rfl, h1.1, h1.2, h2.1, h2.2]
  simp only [sxR, syR, Int.zero_add]
  exact det_zero hd
theorem map_len {a b c d : Int} {l : List Ry} (h : mpsB a b c d l = true) : (fputs (l.map (mapR a b c d)) []).length = l.length := by
  obtain ⟨h1, _, hd⟩ := map_true h
  obtain ⟨_, _, hst⟩ := star_of h1
  rw [show fputs (l.map (mapR a b c d)) [] = (l.map (mapR a b c d)).foldl (fun l r => putR r l) [] from rfl, ← map_put hd hst (srtR_sorted _) (srtR_perm _), srtR_len, List.length_map]
theorem scl_true {k : Int} {l : List Ry} (h : scaB k l = true) : starB l = true ∧ starB (sclR k l) = true ∧ 1 ≤ k := by
  unfold scaB at h
  simp only [Bool.and_eq_true] at h
  exact ⟨h.1.1, h.2, (inB_t.1 h.1.2).1⟩
theorem scl_bal {k : Int} {l : List Ry} (h : scaB k l = true) : balB (sclR k l) = balB l := bal_eq (scl_zero (scl_true h).2.2 l)
theorem steps_bd {x y : Int} (h : stepsB x y = true) : (-20 ≤ x ∧ x ≤ 20) ∧ -20 ≤ y ∧ y ≤ 20 := steps_of h

/-! ### contracts in one shape -/
def onB (B : Bool) (S : List Ry) : List Ry := if B = true then S else []
def UniR (B : Bool) (S : List Ry) (n : Nat) (w : World) (e : Ending) (w' : World) : Prop := ∃ ad cap, e = .returned (.tuple #[.slice ad n cap, .bool B]) ∧ RdY w' ad S ∧ SY ad n cap ∧ Below w.heap.size w w'
theorem StarR.uni {w w' : World} {e : Ending} {B B' : Bool} {S S' : List Ry} {n : Nat} (h : StarR w' e B S ∧ Below w.heap.size w w') (hB : B = B') (hS : onB B' S = S') (hn : S'.length = n) : UniR B' S' n w e w' := by
  subst hB; subst hS; subst hn
  obtain ⟨⟨ad, cap, rfl, h1⟩, hb⟩ := h
  unfold onB toldV
  cases B
  · exact ⟨none, 0, rfl, RdY.nil _ _, SY.nil, hb⟩
  · exact ⟨ad, cap, rfl, (h1 rfl).1, (h1 rfl).2, hb⟩

set_option maxHeartbeats 800000 in
theorem pSame_c (ad1 ad2 : Option Addr) (c1 c2 n : Nat) (l : List Ry) (hn : l.length = n) (hb : n ≤ 1048576) (w : World) (hr1 : RdY w ad1 l) (hr2 : RdY w ad2 l) :
    Calls Try.prog 8 #[.slice ad1 n c1, .slice ad2 n c2] w fun e w' => e = .returned (.bool true) ∧ Below w.heap.size w w' := by
  have HN := Lib.hid hn; have H1 := Lib.hid hr1; have H2 := Lib.hid hr2
  clear hn hr1 hr2
  go_enter Try.func8, Try.ntmps8
  go_wp2_with fail
  go_loopw [13] (fun i wr => ∃ j : Nat, j ≤ n ∧ i = .int .i64 j ∧ Below w.heap.size w wr) (fun i _ => n - (intOf i).toNat)
  case atStart => exact ⟨0, Nat.zero_le _, rfl, Below.refl _ _⟩
  case round =>
    obtain ⟨wE, rfl⟩ : ∃ x : World, x = wr := ⟨_, rfl⟩
    obtain ⟨j, hj, rfl, hbel⟩ := hrel
    by_cases hlt : j < n
    case neg =>
      go_wp2_with fail
      go_ret
      exact ⟨rfl, hbel⟩
    case pos =>
      obtain ⟨b1, o1, rfl, hb1, x0, x1, x2⟩ := H1.out j (by rw [HN.out]; exact hlt)
      obtain ⟨b2, o2, rfl, hb2, y0, y1, y2⟩ := H2.out j (by rw [HN.out]; exact hlt)
      have x0 := bcell hbel hb1 x0
      have x1 := bcell hbel hb1 x1
      have x2 := bcell hbel hb1 x2
      have y0 := bcell hbel hb2 y0
      have y1 := bcell hbel hb2 y1
      have y2 := bcell hbel hb2 y2
      generalize l.getD j default = r at x0 x1 x2 y0 y1 y2
      obtain ⟨rx, ry, rw'⟩ := r
      simp only at x0 x1 x2 y0 y1 y2
      have z1 : (0 : Int) ≤ (j : Int) := by omega
      have z2 : (j : Int) < (n : Int) := by omega
      go_wp2_with fail
      go_quiet (fail)
      go_wp2_with fail
      go_roundw
      case rel => exact ⟨j + 1, by omega, by go_num, bdrewN hbel nq⟩
      case measure => simp [intOf]; omega

end Go.Proofs.Ytlplodkabeiimaa
