/-
  Plane polynomials: plGood of the reference. Printed by gen_ceD.py. By an AI agent.
-/
import Derived.Test.YtcionneopgdebaaGreatCeA
import Derived.Test.YtcionneopgdebaaGreatSkip
namespace Go.Proofs.YtcionneopgdebaaGreat
open Go.RowKit

set_option maxHeartbeats 3200000 in
set_option maxRecDepth 100000 in
theorem plGood_c (ad : Option Addr) (cap : Nat) (L : List Tm) (w : World) (hr : RdT w ad L) (hl : L.length ≤ 1048576) :
    Calls Tryz.prog 26 #[.slice ad L.length cap] w fun e w' => e = .returned (.bool (planeB L)) ∧ Below w.heap.size w w' := by
  have HR := Lib.hid hr; clear hr
  have CW := Lib.hid (fun w => l1In_any (L.length : Int) 1 12 w)
  obtain ⟨n, hn⟩ : ∃ n, L.length = n := ⟨_, rfl⟩
  have HN := Lib.hid hn
  rw [hn] at CW hl ⊢
  clear hn
  go_enter Tryz.func26, Tryz.ntmps26
  go_wp2_with fail
  go_loopw [7] (fun i wr => ∃ k : Nat, k ≤ n ∧ i = .int .i64 k ∧ plnK L k = true ∧ Below w.heap.size w wr) (fun i _ => n - (intOf i).toNat)
  case atStart => exact ⟨0, Nat.zero_le _, rfl, rfl, Below.refl _ _⟩
  case round =>
    obtain ⟨wE, rfl⟩ : ∃ x : World, x = wr := ⟨_, rfl⟩
    obtain ⟨k, hk, rfl, hpl, hbel⟩ := hrel
    have HPL := Lib.hid hpl; clear hpl
    have hsz := hbel.size
    by_cases hlt : k < n
    case neg =>
      obtain rfl : k = n := by omega
      have HE := Lib.hid (show planeB L = inB (k : Int) 1 12 from by unfold planeB; rw [HN.out, HPL.out, Bool.and_true])
      go_wp2_with fail
      refine (CW.out _).mono ?_
      rintro e w3 ⟨rfl, rfl⟩
      go_wp2_with fail
      go_ret
      exact ⟨by rw [HE.out]; rfl, hbel⟩
    case pos =>
      obtain ⟨b, off, rfl, hb, c0, c1, c2⟩ := HR.out k (by rw [HN.out]; exact hlt)
      have d0 := bcell hbel hb c0
      have d1 := bcell hbel hb c1
      have d2 := bcell hbel hb c2
      clear c0 c1 c2
      have hbE : b < wE.heap.size := Nat.lt_of_lt_of_le hb hbel.size
      have x1 : (0 : Int) ≤ (k : Int) := by omega
      have x2 : (k : Int) < (n : Int) := by omega
      obtain ⟨T, hT⟩ : ∃ T, tmAt L k = T := ⟨_, rfl⟩
      have hT2 : L.getD k default = T := hT
      rw [hT2] at d0 d1 d2
      have HT := Lib.hid hT
      clear hT hT2
      have RC := Lib.hid (fun w => plTerm_c T w)
      obtain ⟨u, hu⟩ : ∃ x, termB T = x := ⟨_, rfl⟩
      rw [hu] at RC
      have HU := Lib.hid hu; clear hu
      obtain ⟨wB, hwB⟩ : ∃ x : World, wE.alloc (.cells #[.int .i64 T.i, .int .i64 T.j, .int .i64 T.c] 73) = x := ⟨_, rfl⟩
      have hEB : Below wE.heap.size wE wB := by rw [← hwB]; exact (Below.refl _ _).alloc (Nat.le_refl _) _
      have b0 : wB.cell? ⟨wE.heap.size, 0, none⟩ = some (.int .i64 T.i) := by rw [← hwB]; simp [go_sem]
      have b1 : wB.cell? ⟨wE.heap.size, 1, none⟩ = some (.int .i64 T.j) := by rw [← hwB]; simp [go_sem]
      have b2 : wB.cell? ⟨wE.heap.size, 2, none⟩ = some (.int .i64 T.c) := by rw [← hwB]; simp [go_sem]
      have bl : wE.heap.size < wB.heap.size := by rw [← hwB]; simp
      have hbB := ball hbel hEB
      cases u
      case false =>
        have HE := Lib.hid (show planeB L = false from plane_no (by rw [HN.out]; exact hlt) (by rw [plnK_step HPL.out (u := false) (v := _) (by rw [HT.out]; exact HU.out) rfl]; rfl))
        go_wp2_with fail
        try rw [hwB]
        have d3 := bcell ((Below.refl wB.heap.size wB).drew) bl b0
        have d4 := bcell ((Below.refl wB.heap.size wB).drew) bl b1
        have d5 := bcell ((Below.refl wB.heap.size wB).drew) bl b2
        refine wp_region_noPanic ?_
        refine wp_region_held_drew (S := (fun w' => w'.cell? ⟨wE.heap.size, 0, none⟩ = some (.int .i64 T.i) ∧ w'.cell? ⟨wE.heap.size, 1, none⟩ = some (.int .i64 T.j) ∧ w'.cell? ⟨wE.heap.size, 2, none⟩ = some (.int .i64 T.c))) (by kernel_rfl) ?_ (fun hHeld => ?_)
        · (try dsimp only); exact ⟨by assumption, by assumption, by assumption⟩
        refine wpAnyH_take (i := 0) (oi := ⟨some 12, _, _, _, _, _⟩) (v := .agg #[.int .i64 T.i, .int .i64 T.j, .int .i64 T.c]) rfl (by kernel_rfl) (by kernel_rfl) (by kernel_rfl) (fun _ _ _ h => h) (Or.inl ⟨by rfl, fun w hSw => ?_⟩) hHeld ?_
        · (try dsimp only at hSw); go_simp
        try simp only [Act.put, List.setIfInBounds_toArray, List.set_cons_zero, List.set_cons_succ]
        refine wpAnyH_ready (rs := [1]) (by kernel_rfl) (by simp) ?_
        refine AllReadyH.cons (o := ⟨some 13, _, _, _, _, _⟩) rfl (fun K hK => ?_) AllReadyH.nil
        go_simp
        ((with_reducible refine (RC.out _).mono ?_); rintro e W1 ⟨rfl, hw1⟩; have m0 := bcell hw1 bl d3; have m1 := bcell hw1 bl d4; have m2 := bcell hw1 bl d5)
        clear hHeld
        refine hK.out _ _ ?_ (fun hHeld => ?_)
        · (try dsimp only); exact ⟨by assumption, by assumption, by assumption⟩
        clear hK K
        try simp only [Act.put, List.setIfInBounds_toArray, List.set_cons_zero, List.set_cons_succ]
        refine wpAnyH_take (i := 2) (oi := ⟨some 14, _, _, _, _, _⟩) (v := .bool true) rfl (by kernel_rfl) (by kernel_rfl) (by kernel_rfl) (fun _ _ _ h => h) (Or.inl ⟨by rfl, fun w hSw => ?_⟩) hHeld ?_
        · (try dsimp only at hSw); go_simp
        try simp only [Act.put, List.setIfInBounds_toArray, List.set_cons_zero, List.set_cons_succ]
        refine wpAnyH_take (i := 3) (oi := ⟨some 15, _, _, _, _, _⟩) (v := .bool true) rfl (by kernel_rfl) (by kernel_rfl) (by kernel_rfl) (fun _ _ _ h => h) (Or.inl ⟨by rfl, fun w hSw => ?_⟩) hHeld ?_
        · (try dsimp only at hSw); go_simp
        try simp only [Act.put, List.setIfInBounds_toArray, List.set_cons_zero, List.set_cons_succ]
        refine wpAnyH_skip 4 16 (by kernel_rfl) (by kernel_rfl) (by kernel_rfl) (by kernel_rfl) (fun _ _ _ h => h) hHeld ?_
        try simp only [Act.put, List.setIfInBounds_toArray, List.set_cons_zero, List.set_cons_succ]
        refine wpAnyH_skip 5 17 (by kernel_rfl) (by kernel_rfl) (by kernel_rfl) (by kernel_rfl) (fun _ _ _ h => h) hHeld ?_
        try simp only [Act.put, List.setIfInBounds_toArray, List.set_cons_zero, List.set_cons_succ]
        refine wpAnyH_skip 6 18 (by kernel_rfl) (by kernel_rfl) (by kernel_rfl) (by kernel_rfl) (fun _ _ _ h => h) hHeld ?_
        try simp only [Act.put, List.setIfInBounds_toArray, List.set_cons_zero, List.set_cons_succ]
        refine wpAnyH_skip 7 19 (by kernel_rfl) (by kernel_rfl) (by kernel_rfl) (by kernel_rfl) (fun _ _ _ h => h) hHeld ?_
        try simp only [Act.put, List.setIfInBounds_toArray, List.set_cons_zero, List.set_cons_succ]
        refine wpAnyH_skip 8 20 (by kernel_rfl) (by kernel_rfl) (by kernel_rfl) (by kernel_rfl) (fun _ _ _ h => h) hHeld ?_
        try simp only [Act.put, List.setIfInBounds_toArray, List.set_cons_zero, List.set_cons_succ]
        refine wpAnyH_skip 9 21 (by kernel_rfl) (by kernel_rfl) (by kernel_rfl) (by kernel_rfl) (fun _ _ _ h => h) hHeld ?_
        try simp only [Act.put, List.setIfInBounds_toArray, List.set_cons_zero, List.set_cons_succ]
        refine wpAnyH_skip 10 22 (by kernel_rfl) (by kernel_rfl) (by kernel_rfl) (by kernel_rfl) (fun _ _ _ h => h) hHeld ?_
        try simp only [Act.put, List.setIfInBounds_toArray, List.set_cons_zero, List.set_cons_succ]
        refine wpAnyH_skip 11 23 (by kernel_rfl) (by kernel_rfl) (by kernel_rfl) (by kernel_rfl) (fun _ _ _ h => h) hHeld ?_
        try simp only [Act.put, List.setIfInBounds_toArray, List.set_cons_zero, List.set_cons_succ]
        refine wpAnyH_skip 12 24 (by kernel_rfl) (by kernel_rfl) (by kernel_rfl) (by kernel_rfl) (fun _ _ _ h => h) hHeld ?_
        try simp only [Act.put, List.setIfInBounds_toArray, List.set_cons_zero, List.set_cons_succ]
        refine wpAnyH_skip 13 25 (by kernel_rfl) (by kernel_rfl) (by kernel_rfl) (by kernel_rfl) (fun _ _ _ h => h) hHeld ?_
        try simp only [Act.put, List.setIfInBounds_toArray, List.set_cons_zero, List.set_cons_succ]
        refine wpAnyH_skip 14 26 (by kernel_rfl) (by kernel_rfl) (by kernel_rfl) (by kernel_rfl) (fun _ _ _ h => h) hHeld ?_
        try simp only [Act.put, List.setIfInBounds_toArray, List.set_cons_zero, List.set_cons_succ]
        refine wpAnyH_skip 15 27 (by kernel_rfl) (by kernel_rfl) (by kernel_rfl) (by kernel_rfl) (fun _ _ _ h => h) hHeld ?_
        try simp only [Act.put, List.setIfInBounds_toArray, List.set_cons_zero, List.set_cons_succ]
        refine wpAnyH_take (i := 16) (oi := ⟨some 28, _, _, _, _, _⟩) (v := .bool true) rfl (by kernel_rfl) (by kernel_rfl) (by kernel_rfl) (fun _ _ _ h => h) (Or.inl ⟨by rfl, fun w hSw => ?_⟩) hHeld ?_
        · (try dsimp only at hSw); go_simp
        try simp only [Act.put, List.setIfInBounds_toArray, List.set_cons_zero, List.set_cons_succ]
        refine wpAnyH_done (by kernel_rfl) ?_ _
        refine NoPanic.normal ?_
        go_wp2_with fail
        go_ret
        exact ⟨by rw [HE.out]; rfl, ball (hbB.trans (Below.refl _ _).drew) hw1⟩
      case true =>
        by_cases hk0 : k = 0
        case pos =>
          have HS := Lib.hid (show plnK L (k + 1) = true from by rw [plnK_step HPL.out (u := true) (v := true) (by rw [HT.out]; exact HU.out) (by rw [hk0]; rfl)]; rfl)
          have g1 : decide (0 < (k : Int)) = false := decide_eq_false (by omega)
          have g1' : decide (0 < k) = false := decide_eq_false (by omega)
          clear hk0
          go_wp2_with fail
          try rw [hwB]
          have d3 := bcell ((Below.refl wB.heap.size wB).drew) bl b0
          have d4 := bcell ((Below.refl wB.heap.size wB).drew) bl b1
          have d5 := bcell ((Below.refl wB.heap.size wB).drew) bl b2
          refine wp_region_noPanic ?_
          refine wp_region_held_drew (S := (fun w' => w'.cell? ⟨wE.heap.size, 0, none⟩ = some (.int .i64 T.i) ∧ w'.cell? ⟨wE.heap.size, 1, none⟩ = some (.int .i64 T.j) ∧ w'.cell? ⟨wE.heap.size, 2, none⟩ = some (.int .i64 T.c))) (by kernel_rfl) ?_ (fun hHeld => ?_)
          · (try dsimp only); exact ⟨by assumption, by assumption, by assumption⟩
          refine wpAnyH_take (i := 0) (oi := ⟨some 12, _, _, _, _, _⟩) (v := .agg #[.int .i64 T.i, .int .i64 T.j, .int .i64 T.c]) rfl (by kernel_rfl) (by kernel_rfl) (by kernel_rfl) (fun _ _ _ h => h) (Or.inl ⟨by rfl, fun w hSw => ?_⟩) hHeld ?_
          · (try dsimp only at hSw); go_simp
          try simp only [Act.put, List.setIfInBounds_toArray, List.set_cons_zero, List.set_cons_succ]
          refine wpAnyH_ready (rs := [1]) (by kernel_rfl) (by simp) ?_
          refine AllReadyH.cons (o := ⟨some 13, _, _, _, _, _⟩) rfl (fun K hK => ?_) AllReadyH.nil
          go_simp
          ((with_reducible refine (RC.out _).mono ?_); rintro e W1 ⟨rfl, hw1⟩; have m0 := bcell hw1 bl d3; have m1 := bcell hw1 bl d4; have m2 := bcell hw1 bl d5)
          clear hHeld
          refine hK.out _ _ ?_ (fun hHeld => ?_)
          · (try dsimp only); exact ⟨by assumption, by assumption, by assumption⟩
          clear hK K
          try simp only [Act.put, List.setIfInBounds_toArray, List.set_cons_zero, List.set_cons_succ]
          refine wpAnyH_take (i := 2) (oi := ⟨some 14, _, _, _, _, _⟩) (v := .bool false) rfl (by kernel_rfl) (by kernel_rfl) (by kernel_rfl) (fun _ _ _ h => h) (Or.inl ⟨by rfl, fun w hSw => ?_⟩) hHeld ?_
          · (try dsimp only at hSw); go_simp
          try simp only [Act.put, List.setIfInBounds_toArray, List.set_cons_zero, List.set_cons_succ]
          refine wpAnyH_take (i := 3) (oi := ⟨some 15, _, _, _, _, _⟩) (v := .bool false) rfl (by kernel_rfl) (by kernel_rfl) (by kernel_rfl) (fun _ _ _ h => h) (Or.inl ⟨by rfl, fun w hSw => ?_⟩) hHeld ?_
          · (try dsimp only at hSw); go_simp
          try simp only [Act.put, List.setIfInBounds_toArray, List.set_cons_zero, List.set_cons_succ]
          refine wpAnyH_take (i := 4) (oi := ⟨some 16, _, _, _, _, _⟩) (v := .int .i64 (k : Int)) rfl (by kernel_rfl) (by kernel_rfl) (by kernel_rfl) (fun _ _ _ h => h) (Or.inl ⟨by rfl, fun w hSw => ?_⟩) hHeld ?_
          · (try dsimp only at hSw); go_simp
          try simp only [Act.put, List.setIfInBounds_toArray, List.set_cons_zero, List.set_cons_succ]
          refine wpAnyH_take (i := 5) (oi := ⟨some 17, _, _, _, _, _⟩) (v := .bool false) rfl (by kernel_rfl) (by kernel_rfl) (by kernel_rfl) (fun _ _ _ h => h) (Or.inl ⟨by rfl, fun w hSw => ?_⟩) hHeld ?_
          · (try dsimp only at hSw); go_simp
          try simp only [Act.put, List.setIfInBounds_toArray, List.set_cons_zero, List.set_cons_succ]
          refine wpAnyH_take (i := 6) (oi := ⟨some 18, _, _, _, _, _⟩) (v := .bool false) rfl (by kernel_rfl) (by kernel_rfl) (by kernel_rfl) (fun _ _ _ h => h) (Or.inl ⟨by rfl, fun w hSw => ?_⟩) hHeld ?_
          · (try dsimp only at hSw); go_simp
          try simp only [Act.put, List.setIfInBounds_toArray, List.set_cons_zero, List.set_cons_succ]
          refine wpAnyH_skip 7 19 (by kernel_rfl) (by kernel_rfl) (by kernel_rfl) (by kernel_rfl) (fun _ _ _ h => h) hHeld ?_
          try simp only [Act.put, List.setIfInBounds_toArray, List.set_cons_zero, List.set_cons_succ]
          refine wpAnyH_skip 8 20 (by kernel_rfl) (by kernel_rfl) (by kernel_rfl) (by kernel_rfl) (fun _ _ _ h => h) hHeld ?_
          try simp only [Act.put, List.setIfInBounds_toArray, List.set_cons_zero, List.set_cons_succ]
          refine wpAnyH_skip 9 21 (by kernel_rfl) (by kernel_rfl) (by kernel_rfl) (by kernel_rfl) (fun _ _ _ h => h) hHeld ?_
          try simp only [Act.put, List.setIfInBounds_toArray, List.set_cons_zero, List.set_cons_succ]
          refine wpAnyH_skip 10 22 (by kernel_rfl) (by kernel_rfl) (by kernel_rfl) (by kernel_rfl) (fun _ _ _ h => h) hHeld ?_
          try simp only [Act.put, List.setIfInBounds_toArray, List.set_cons_zero, List.set_cons_succ]
          refine wpAnyH_skip 11 23 (by kernel_rfl) (by kernel_rfl) (by kernel_rfl) (by kernel_rfl) (fun _ _ _ h => h) hHeld ?_
          try simp only [Act.put, List.setIfInBounds_toArray, List.set_cons_zero, List.set_cons_succ]
          refine wpAnyH_skip 12 24 (by kernel_rfl) (by kernel_rfl) (by kernel_rfl) (by kernel_rfl) (fun _ _ _ h => h) hHeld ?_
          try simp only [Act.put, List.setIfInBounds_toArray, List.set_cons_zero, List.set_cons_succ]
          refine wpAnyH_skip 13 25 (by kernel_rfl) (by kernel_rfl) (by kernel_rfl) (by kernel_rfl) (fun _ _ _ h => h) hHeld ?_
          try simp only [Act.put, List.setIfInBounds_toArray, List.set_cons_zero, List.set_cons_succ]
          refine wpAnyH_skip 14 26 (by kernel_rfl) (by kernel_rfl) (by kernel_rfl) (by kernel_rfl) (fun _ _ _ h => h) hHeld ?_
          try simp only [Act.put, List.setIfInBounds_toArray, List.set_cons_zero, List.set_cons_succ]
          refine wpAnyH_take (i := 15) (oi := ⟨some 27, _, _, _, _, _⟩) (v := .bool false) rfl (by kernel_rfl) (by kernel_rfl) (by kernel_rfl) (fun _ _ _ h => h) (Or.inl ⟨by rfl, fun w hSw => ?_⟩) hHeld ?_
          · (try dsimp only at hSw); go_simp
          try simp only [Act.put, List.setIfInBounds_toArray, List.set_cons_zero, List.set_cons_succ]
          refine wpAnyH_take (i := 16) (oi := ⟨some 28, _, _, _, _, _⟩) (v := .bool false) rfl (by kernel_rfl) (by kernel_rfl) (by kernel_rfl) (fun _ _ _ h => h) (Or.inl ⟨by rfl, fun w hSw => ?_⟩) hHeld ?_
          · (try dsimp only at hSw); go_simp
          try simp only [Act.put, List.setIfInBounds_toArray, List.set_cons_zero, List.set_cons_succ]
          refine wpAnyH_done (by kernel_rfl) ?_ _
          refine NoPanic.normal ?_
          go_wp2_with fail
          go_roundw
          case rel => exact ⟨k + 1, by omega, by go_num, HS.out, ball (hbB.trans (Below.refl _ _).drew) hw1⟩
          case measure => simp [intOf]; omega
        case neg =>
          obtain ⟨j, hj⟩ : ∃ j, k = j + 1 := ⟨k - 1, by omega⟩
          have hjl : j < n := by omega
          have e0 : (k : Int) - 1 = (j : Int) := by omega
          have g1 : decide (0 < (k : Int)) = true := decide_eq_true (by omega)
          have g1' : decide (0 < k) = true := decide_eq_true (by omega)
          have g1'' : 0 < k := by omega
          have x3 : (0 : Int) ≤ (j : Int) := by omega
          have x4 : (j : Int) < (n : Int) := by omega
          have HJ := Lib.hid hj; clear hj
          have e1 : IntKind.i64.wrap (j : Int) = (j : Int) := i64_small (by omega) (by omega)
          obtain ⟨q0, q1, q2⟩ := RdT.at HR.out (j := j) (by rw [HN.out]; omega)
          have q0 := bcell (ball hbel hEB) hb q0
          have q1 := bcell (ball hbel hEB) hb q1
          have q2 := bcell (ball hbel hEB) hb q2
          have hbw : b < wB.heap.size := Nat.lt_of_lt_of_le hbE hEB.size
          obtain ⟨U, hp⟩ : ∃ x, tmAt L j = x := ⟨_, rfl⟩
          have hp2 : L.getD j default = U := hp
          rw [hp2] at q0 q1 q2
          have HS := Lib.hid (show plnK L (k + 1) = befT U T from by rw [plnK_step HPL.out (u := true) (v := befT U T) (by rw [HT.out]; exact HU.out) (by rw [HJ.out, Nat.add_sub_cancel, hp, ← HJ.out, HT.out, decide_eq_false hk0]; rfl)]; rfl)
          have CC := Lib.hid (fun w => plBefore_c U T w)
          clear hp hp2 hk0
          cases hbf : befT U T
          case true =>
            rw [hbf] at CC
            have HS2 := Lib.hid (HS.out.trans hbf)
            clear hbf
            go_wp2_with fail
            try rw [hwB]
            first
              | go_region_held3 (fun w' => (w'.cell? ⟨wE.heap.size, 0, none⟩ = some (.int .i64 T.i) ∧ w'.cell? ⟨wE.heap.size, 1, none⟩ = some (.int .i64 T.j) ∧ w'.cell? ⟨wE.heap.size, 2, none⟩ = some (.int .i64 T.c)) ∧ w'.cell? ⟨b, off + j * 3, none⟩ = some (.int .i64 U.i) ∧ w'.cell? ⟨b, off + j * 3 + 1, none⟩ = some (.int .i64 U.j) ∧ w'.cell? ⟨b, off + j * 3 + 2, none⟩ = some (.int .i64 U.c)) (exact ⟨⟨by assumption, by assumption, by assumption⟩, by assumption, by assumption, by assumption⟩)
                  (first
                  | (go_at_call 49; (with_reducible refine (RC.out _).mono ?_); rintro e W1 ⟨rfl, hw1⟩; have m0 := bcell hw1 bl b0; have m1 := bcell hw1 bl b1; have m2 := bcell hw1 bl b2; have m3 := bcell hw1 hbw q0; have m4 := bcell hw1 hbw q1; have m5 := bcell hw1 hbw q2; have n1 := hw1.size)
                  | (go_at_call 50; (with_reducible refine (CC.out _).mono ?_); rintro e W2 ⟨rfl, hw2⟩; have k0 := bcell hw2 (Nat.lt_of_lt_of_le bl n1) m0; have k1 := bcell hw2 (Nat.lt_of_lt_of_le bl n1) m1; have k2 := bcell hw2 (Nat.lt_of_lt_of_le bl n1) m2; have k3 := bcell hw2 (Nat.lt_of_lt_of_le hbw n1) m3; have k4 := bcell hw2 (Nat.lt_of_lt_of_le hbw n1) m4; have k5 := bcell hw2 (Nat.lt_of_lt_of_le hbw n1) m5))
            go_wp2_with fail
            go_roundw
            case rel => exact ⟨k + 1, by omega, by go_num, HS2.out, ball (ball (hbB.trans (Below.refl _ _).drew) hw1) hw2⟩
            case measure => simp [intOf]; omega
          case false =>
            rw [hbf] at CC
            have HE := Lib.hid (show planeB L = false from plane_no (by rw [HN.out]; exact hlt) (HS.out.trans hbf))
            clear hbf
            go_wp2_with fail
            try rw [hwB]
            first
              | go_region_held3 (fun w' => (w'.cell? ⟨wE.heap.size, 0, none⟩ = some (.int .i64 T.i) ∧ w'.cell? ⟨wE.heap.size, 1, none⟩ = some (.int .i64 T.j) ∧ w'.cell? ⟨wE.heap.size, 2, none⟩ = some (.int .i64 T.c)) ∧ w'.cell? ⟨b, off + j * 3, none⟩ = some (.int .i64 U.i) ∧ w'.cell? ⟨b, off + j * 3 + 1, none⟩ = some (.int .i64 U.j) ∧ w'.cell? ⟨b, off + j * 3 + 2, none⟩ = some (.int .i64 U.c)) (exact ⟨⟨by assumption, by assumption, by assumption⟩, by assumption, by assumption, by assumption⟩)
                  (first
                  | (go_at_call 49; (with_reducible refine (RC.out _).mono ?_); rintro e W1 ⟨rfl, hw1⟩; have m0 := bcell hw1 bl b0; have m1 := bcell hw1 bl b1; have m2 := bcell hw1 bl b2; have m3 := bcell hw1 hbw q0; have m4 := bcell hw1 hbw q1; have m5 := bcell hw1 hbw q2; have n1 := hw1.size)
                  | (go_at_call 50; (with_reducible refine (CC.out _).mono ?_); rintro e W2 ⟨rfl, hw2⟩; have k0 := bcell hw2 (Nat.lt_of_lt_of_le bl n1) m0; have k1 := bcell hw2 (Nat.lt_of_lt_of_le bl n1) m1; have k2 := bcell hw2 (Nat.lt_of_lt_of_le bl n1) m2; have k3 := bcell hw2 (Nat.lt_of_lt_of_le hbw n1) m3; have k4 := bcell hw2 (Nat.lt_of_lt_of_le hbw n1) m4; have k5 := bcell hw2 (Nat.lt_of_lt_of_le hbw n1) m5))
            go_wp2_with fail
            go_ret
            exact ⟨by rw [HE.out]; rfl, ball (ball (hbB.trans (Below.refl _ _).drew) hw1) hw2⟩
end Go.Proofs.YtcionneopgdebaaGreat
