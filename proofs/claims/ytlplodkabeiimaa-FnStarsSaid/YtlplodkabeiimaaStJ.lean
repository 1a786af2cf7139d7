/-
  Whether rays are a star: program and reference. Printed by gen_stJ.py.
-/
import Derived.Test.YtlplodkabeiimaaStI
import Derived.Test.YtlplodkabeiimaaSkip
namespace Go.Proofs.Ytlplodkabeiimaa
open Go.RowKit
open RaySort (Bd compareRays_g)

theorem cmp_bef (p q : Ry) : (if p.x = q.x then p.y - q.y else p.x - q.x) < 0 ↔ bef p q := by
  unfold bef
  split <;> omega
theorem cmp_same (p q : Ry) : (if p.x = q.x then p.y - q.y else p.x - q.x) = 0 ↔ sameD p q := by
  unfold sameD
  split <;> omega


set_option maxHeartbeats 1600000 in
set_option maxRecDepth 100000 in
theorem isStar_c (ad : Option Addr) (cap : Nat) (l : List Ry) (w : World) (hr : RdY w ad l) (hl : l.length ≤ 1048576) :
    Calls Try.prog 27 #[.slice ad l.length cap] w fun e w' => e = .returned (.bool (starB l)) ∧ Below w.heap.size w w' := by
  have HR := Lib.hid hr; clear hr
  by_cases hlen : 10 < l.length
  case pos =>
    rw [star_long hlen]
    go_enter Try.func27, Try.ntmps27
    go_wp2_with fail
    go_ret
    exact ⟨rfl, Below.refl _ _⟩
  case neg =>
  obtain ⟨D, hD⟩ : ∃ D, starB l = D := ⟨_, rfl⟩
  rw [hD]
  have HD := Lib.hid hD; clear hD
  go_enter Try.func27, Try.ntmps27
  go_wp2_with fail
  go_loopw [10] (fun i wr => ∃ k : Nat, k ≤ l.length ∧ i = .int .i64 k ∧ GdR l k ∧ Below w.heap.size w wr) (fun i _ => l.length - (intOf i).toNat)
  case atStart => exact ⟨0, Nat.zero_le _, rfl, gd_zero l, Below.refl _ _⟩
  case round =>
    obtain ⟨wE, rfl⟩ : ∃ x : World, x = wr := ⟨_, rfl⟩
    obtain ⟨k, hk, rfl, hg, hbel⟩ := hrel
    have HG := Lib.hid hg; clear hg
    by_cases hlt : k < l.length
    case neg =>
      obtain rfl : k = l.length := by omega
      obtain rfl : D = true := HD.out.symm.trans ((gd_all HG.out).trans (decide_eq_true (by omega)))
      go_wp2_with fail
      go_ret
      exact ⟨rfl, hbel⟩
    case pos =>
      obtain ⟨b, off, rfl, hb, c0, c1, c2⟩ := HR.out k hlt
      have d0 := bcell hbel hb c0
      have d1 := bcell hbel hb c1
      have d2 := bcell hbel hb c2
      clear c0 c1 c2
      have hbE : b < wE.heap.size := Nat.lt_of_lt_of_le hb hbel.size
      have x1 : (0 : Int) ≤ (k : Int) := by omega
      have x2 : (k : Int) < (l.length : Int) := by omega
      obtain ⟨r, hr⟩ : ∃ x, l.getD k default = x := ⟨_, rfl⟩
      rw [hr] at d0 d1 d2
      have HRR := Lib.hid hr; clear hr
      have RC := Lib.hid (fun w => isRay_c r w)
      obtain ⟨u, hu⟩ : ∃ x, ryB r = x := ⟨_, rfl⟩
      rw [hu] at RC
      have HU := Lib.hid hu; clear hu
      obtain ⟨wB, hwB⟩ : ∃ x : World, wE.alloc (.cells #[.int .i64 r.x, .int .i64 r.y, .int .i64 r.w] 35) = x := ⟨_, rfl⟩
      have hEB : Below wE.heap.size wE wB := by rw [← hwB]; exact (Below.refl _ _).alloc (Nat.le_refl _) _
      have b0 : wB.cell? ⟨wE.heap.size, 0, none⟩ = some (.int .i64 r.x) := by rw [← hwB]; simp [go_sem]
      have b1 : wB.cell? ⟨wE.heap.size, 1, none⟩ = some (.int .i64 r.y) := by rw [← hwB]; simp [go_sem]
      have b2 : wB.cell? ⟨wE.heap.size, 2, none⟩ = some (.int .i64 r.w) := by rw [← hwB]; simp [go_sem]
      have bl : wE.heap.size < wB.heap.size := by rw [← hwB]; simp
      have hbB := ball hbel hEB
      cases u
      case false =>
        obtain rfl : D = false := HD.out.symm.trans (star_ray hlt (by rw [HRR.out]; exact HU.out))
        unfold ryV at RC
        go_wp2_with fail
        try rw [hwB]
        have d3 := bcell ((Below.refl wB.heap.size wB).drew) bl b0
        have d4 := bcell ((Below.refl wB.heap.size wB).drew) bl b1
        have d5 := bcell ((Below.refl wB.heap.size wB).drew) bl b2
        refine wp_region_noPanic ?_
        refine wp_region_held_drew (S := (fun w' => w'.cell? ⟨wE.heap.size, 0, none⟩ = some (.int .i64 r.x) ∧ w'.cell? ⟨wE.heap.size, 1, none⟩ = some (.int .i64 r.y) ∧ w'.cell? ⟨wE.heap.size, 2, none⟩ = some (.int .i64 r.w))) (by kernel_rfl) ?_ (fun hHeld => ?_)
        · (try dsimp only); exact ⟨by assumption, by assumption, by assumption⟩
        refine wpAnyH_take (i := 0) (oi := ⟨some 15, _, _, _, _, _⟩) (v := .agg #[.int .i64 r.x, .int .i64 r.y, .int .i64 r.w]) rfl (by kernel_rfl) (by kernel_rfl) (by kernel_rfl) (fun _ _ _ h => h) (Or.inl ⟨by rfl, fun w hSw => ?_⟩) hHeld ?_
        · (try dsimp only at hSw); go_simp
        try simp only [Act.put, List.setIfInBounds_toArray, List.set_cons_zero, List.set_cons_succ]
        refine wpAnyH_ready (rs := [1]) (by kernel_rfl) (by simp) ?_
        refine AllReadyH.cons (o := ⟨some 16, _, _, _, _, _⟩) rfl (fun K hK => ?_) AllReadyH.nil
        go_simp
        ((with_reducible refine (RC.out _).mono ?_); rintro e W1 ⟨rfl, hw1⟩; have m0 := bcell hw1 bl d3; have m1 := bcell hw1 bl d4; have m2 := bcell hw1 bl d5)
        clear hHeld
        refine hK.out _ _ ?_ (fun hHeld => ?_)
        · (try dsimp only); exact ⟨by assumption, by assumption, by assumption⟩
        clear hK K
        try simp only [Act.put, List.setIfInBounds_toArray, List.set_cons_zero, List.set_cons_succ]
        refine wpAnyH_take (i := 2) (oi := ⟨some 17, _, _, _, _, _⟩) (v := .bool true) rfl (by kernel_rfl) (by kernel_rfl) (by kernel_rfl) (fun _ _ _ h => h) (Or.inl ⟨by rfl, fun w hSw => ?_⟩) hHeld ?_
        · (try dsimp only at hSw); go_simp
        try simp only [Act.put, List.setIfInBounds_toArray, List.set_cons_zero, List.set_cons_succ]
        refine wpAnyH_take (i := 3) (oi := ⟨some 18, _, _, _, _, _⟩) (v := .bool true) rfl (by kernel_rfl) (by kernel_rfl) (by kernel_rfl) (fun _ _ _ h => h) (Or.inl ⟨by rfl, fun w hSw => ?_⟩) hHeld ?_
        · (try dsimp only at hSw); go_simp
        try simp only [Act.put, List.setIfInBounds_toArray, List.set_cons_zero, List.set_cons_succ]
        refine wpAnyH_skip 4 19 (by kernel_rfl) (by kernel_rfl) (by kernel_rfl) (by kernel_rfl) (fun _ _ _ h => h) hHeld ?_
        try simp only [Act.put, List.setIfInBounds_toArray, List.set_cons_zero, List.set_cons_succ]
        refine wpAnyH_skip 5 20 (by kernel_rfl) (by kernel_rfl) (by kernel_rfl) (by kernel_rfl) (fun _ _ _ h => h) hHeld ?_
        try simp only [Act.put, List.setIfInBounds_toArray, List.set_cons_zero, List.set_cons_succ]
        refine wpAnyH_skip 6 21 (by kernel_rfl) (by kernel_rfl) (by kernel_rfl) (by kernel_rfl) (fun _ _ _ h => h) hHeld ?_
        try simp only [Act.put, List.setIfInBounds_toArray, List.set_cons_zero, List.set_cons_succ]
        refine wpAnyH_skip 7 22 (by kernel_rfl) (by kernel_rfl) (by kernel_rfl) (by kernel_rfl) (fun _ _ _ h => h) hHeld ?_
        try simp only [Act.put, List.setIfInBounds_toArray, List.set_cons_zero, List.set_cons_succ]
        refine wpAnyH_skip 8 23 (by kernel_rfl) (by kernel_rfl) (by kernel_rfl) (by kernel_rfl) (fun _ _ _ h => h) hHeld ?_
        try simp only [Act.put, List.setIfInBounds_toArray, List.set_cons_zero, List.set_cons_succ]
        refine wpAnyH_skip 9 24 (by kernel_rfl) (by kernel_rfl) (by kernel_rfl) (by kernel_rfl) (fun _ _ _ h => h) hHeld ?_
        try simp only [Act.put, List.setIfInBounds_toArray, List.set_cons_zero, List.set_cons_succ]
        refine wpAnyH_skip 10 25 (by kernel_rfl) (by kernel_rfl) (by kernel_rfl) (by kernel_rfl) (fun _ _ _ h => h) hHeld ?_
        try simp only [Act.put, List.setIfInBounds_toArray, List.set_cons_zero, List.set_cons_succ]
        refine wpAnyH_skip 11 26 (by kernel_rfl) (by kernel_rfl) (by kernel_rfl) (by kernel_rfl) (fun _ _ _ h => h) hHeld ?_
        try simp only [Act.put, List.setIfInBounds_toArray, List.set_cons_zero, List.set_cons_succ]
        refine wpAnyH_skip 12 27 (by kernel_rfl) (by kernel_rfl) (by kernel_rfl) (by kernel_rfl) (fun _ _ _ h => h) hHeld ?_
        try simp only [Act.put, List.setIfInBounds_toArray, List.set_cons_zero, List.set_cons_succ]
        refine wpAnyH_skip 13 28 (by kernel_rfl) (by kernel_rfl) (by kernel_rfl) (by kernel_rfl) (fun _ _ _ h => h) hHeld ?_
        try simp only [Act.put, List.setIfInBounds_toArray, List.set_cons_zero, List.set_cons_succ]
        refine wpAnyH_skip 14 29 (by kernel_rfl) (by kernel_rfl) (by kernel_rfl) (by kernel_rfl) (fun _ _ _ h => h) hHeld ?_
        try simp only [Act.put, List.setIfInBounds_toArray, List.set_cons_zero, List.set_cons_succ]
        refine wpAnyH_skip 15 30 (by kernel_rfl) (by kernel_rfl) (by kernel_rfl) (by kernel_rfl) (fun _ _ _ h => h) hHeld ?_
        try simp only [Act.put, List.setIfInBounds_toArray, List.set_cons_zero, List.set_cons_succ]
        refine wpAnyH_take (i := 16) (oi := ⟨some 31, _, _, _, _, _⟩) (v := .bool true) rfl (by kernel_rfl) (by kernel_rfl) (by kernel_rfl) (fun _ _ _ h => h) (Or.inl ⟨by rfl, fun w hSw => ?_⟩) hHeld ?_
        · (try dsimp only at hSw); go_simp
        try simp only [Act.put, List.setIfInBounds_toArray, List.set_cons_zero, List.set_cons_succ]
        refine wpAnyH_done (by kernel_rfl) ?_ _
        refine NoPanic.normal ?_
        go_wp2_with fail
        go_ret
        exact ⟨rfl, ball (hbB.trans (Below.refl _ _).drew) hw1⟩
      case true =>
        by_cases hk0 : k = 0
        case pos =>
          have HG1 := Lib.hid (gd_next hlt HG.out (by rw [HRR.out]; exact HU.out) (Or.inl hk0))
          have g1 : decide (0 < (k : Int)) = false := decide_eq_false (by omega)
          have g1' : decide (0 < k) = false := decide_eq_false (by omega)
          clear hk0
          unfold ryV at RC
          go_wp2_with fail
          try rw [hwB]
          have d3 := bcell ((Below.refl wB.heap.size wB).drew) bl b0
          have d4 := bcell ((Below.refl wB.heap.size wB).drew) bl b1
          have d5 := bcell ((Below.refl wB.heap.size wB).drew) bl b2
          refine wp_region_noPanic ?_
          refine wp_region_held_drew (S := (fun w' => w'.cell? ⟨wE.heap.size, 0, none⟩ = some (.int .i64 r.x) ∧ w'.cell? ⟨wE.heap.size, 1, none⟩ = some (.int .i64 r.y) ∧ w'.cell? ⟨wE.heap.size, 2, none⟩ = some (.int .i64 r.w))) (by kernel_rfl) ?_ (fun hHeld => ?_)
          · (try dsimp only); exact ⟨by assumption, by assumption, by assumption⟩
          refine wpAnyH_take (i := 0) (oi := ⟨some 15, _, _, _, _, _⟩) (v := .agg #[.int .i64 r.x, .int .i64 r.y, .int .i64 r.w]) rfl (by kernel_rfl) (by kernel_rfl) (by kernel_rfl) (fun _ _ _ h => h) (Or.inl ⟨by rfl, fun w hSw => ?_⟩) hHeld ?_
          · (try dsimp only at hSw); go_simp
          try simp only [Act.put, List.setIfInBounds_toArray, List.set_cons_zero, List.set_cons_succ]
          refine wpAnyH_ready (rs := [1]) (by kernel_rfl) (by simp) ?_
          refine AllReadyH.cons (o := ⟨some 16, _, _, _, _, _⟩) rfl (fun K hK => ?_) AllReadyH.nil
          go_simp
          ((with_reducible refine (RC.out _).mono ?_); rintro e W1 ⟨rfl, hw1⟩; have m0 := bcell hw1 bl d3; have m1 := bcell hw1 bl d4; have m2 := bcell hw1 bl d5)
          clear hHeld
          refine hK.out _ _ ?_ (fun hHeld => ?_)
          · (try dsimp only); exact ⟨by assumption, by assumption, by assumption⟩
          clear hK K
          try simp only [Act.put, List.setIfInBounds_toArray, List.set_cons_zero, List.set_cons_succ]
          refine wpAnyH_take (i := 2) (oi := ⟨some 17, _, _, _, _, _⟩) (v := .bool false) rfl (by kernel_rfl) (by kernel_rfl) (by kernel_rfl) (fun _ _ _ h => h) (Or.inl ⟨by rfl, fun w hSw => ?_⟩) hHeld ?_
          · (try dsimp only at hSw); go_simp
          try simp only [Act.put, List.setIfInBounds_toArray, List.set_cons_zero, List.set_cons_succ]
          refine wpAnyH_take (i := 3) (oi := ⟨some 18, _, _, _, _, _⟩) (v := .bool false) rfl (by kernel_rfl) (by kernel_rfl) (by kernel_rfl) (fun _ _ _ h => h) (Or.inl ⟨by rfl, fun w hSw => ?_⟩) hHeld ?_
          · (try dsimp only at hSw); go_simp
          try simp only [Act.put, List.setIfInBounds_toArray, List.set_cons_zero, List.set_cons_succ]
          refine wpAnyH_take (i := 4) (oi := ⟨some 19, _, _, _, _, _⟩) (v := .int .i64 (k : Int)) rfl (by kernel_rfl) (by kernel_rfl) (by kernel_rfl) (fun _ _ _ h => h) (Or.inl ⟨by rfl, fun w hSw => ?_⟩) hHeld ?_
          · (try dsimp only at hSw); go_simp
          try simp only [Act.put, List.setIfInBounds_toArray, List.set_cons_zero, List.set_cons_succ]
          refine wpAnyH_take (i := 5) (oi := ⟨some 20, _, _, _, _, _⟩) (v := .bool false) rfl (by kernel_rfl) (by kernel_rfl) (by kernel_rfl) (fun _ _ _ h => h) (Or.inl ⟨by rfl, fun w hSw => ?_⟩) hHeld ?_
          · (try dsimp only at hSw); go_simp
          try simp only [Act.put, List.setIfInBounds_toArray, List.set_cons_zero, List.set_cons_succ]
          refine wpAnyH_take (i := 6) (oi := ⟨some 21, _, _, _, _, _⟩) (v := .bool false) rfl (by kernel_rfl) (by kernel_rfl) (by kernel_rfl) (fun _ _ _ h => h) (Or.inl ⟨by rfl, fun w hSw => ?_⟩) hHeld ?_
          · (try dsimp only at hSw); go_simp
          try simp only [Act.put, List.setIfInBounds_toArray, List.set_cons_zero, List.set_cons_succ]
          refine wpAnyH_skip 7 22 (by kernel_rfl) (by kernel_rfl) (by kernel_rfl) (by kernel_rfl) (fun _ _ _ h => h) hHeld ?_
          try simp only [Act.put, List.setIfInBounds_toArray, List.set_cons_zero, List.set_cons_succ]
          refine wpAnyH_skip 8 23 (by kernel_rfl) (by kernel_rfl) (by kernel_rfl) (by kernel_rfl) (fun _ _ _ h => h) hHeld ?_
          try simp only [Act.put, List.setIfInBounds_toArray, List.set_cons_zero, List.set_cons_succ]
          refine wpAnyH_skip 9 24 (by kernel_rfl) (by kernel_rfl) (by kernel_rfl) (by kernel_rfl) (fun _ _ _ h => h) hHeld ?_
          try simp only [Act.put, List.setIfInBounds_toArray, List.set_cons_zero, List.set_cons_succ]
          refine wpAnyH_skip 10 25 (by kernel_rfl) (by kernel_rfl) (by kernel_rfl) (by kernel_rfl) (fun _ _ _ h => h) hHeld ?_
          try simp only [Act.put, List.setIfInBounds_toArray, List.set_cons_zero, List.set_cons_succ]
          refine wpAnyH_skip 11 26 (by kernel_rfl) (by kernel_rfl) (by kernel_rfl) (by kernel_rfl) (fun _ _ _ h => h) hHeld ?_
          try simp only [Act.put, List.setIfInBounds_toArray, List.set_cons_zero, List.set_cons_succ]
          refine wpAnyH_skip 12 27 (by kernel_rfl) (by kernel_rfl) (by kernel_rfl) (by kernel_rfl) (fun _ _ _ h => h) hHeld ?_
          try simp only [Act.put, List.setIfInBounds_toArray, List.set_cons_zero, List.set_cons_succ]
          refine wpAnyH_skip 13 28 (by kernel_rfl) (by kernel_rfl) (by kernel_rfl) (by kernel_rfl) (fun _ _ _ h => h) hHeld ?_
          try simp only [Act.put, List.setIfInBounds_toArray, List.set_cons_zero, List.set_cons_succ]
          refine wpAnyH_skip 14 29 (by kernel_rfl) (by kernel_rfl) (by kernel_rfl) (by kernel_rfl) (fun _ _ _ h => h) hHeld ?_
          try simp only [Act.put, List.setIfInBounds_toArray, List.set_cons_zero, List.set_cons_succ]
          refine wpAnyH_take (i := 15) (oi := ⟨some 30, _, _, _, _, _⟩) (v := .bool false) rfl (by kernel_rfl) (by kernel_rfl) (by kernel_rfl) (fun _ _ _ h => h) (Or.inl ⟨by rfl, fun w hSw => ?_⟩) hHeld ?_
          · (try dsimp only at hSw); go_simp
          try simp only [Act.put, List.setIfInBounds_toArray, List.set_cons_zero, List.set_cons_succ]
          refine wpAnyH_take (i := 16) (oi := ⟨some 31, _, _, _, _, _⟩) (v := .bool false) rfl (by kernel_rfl) (by kernel_rfl) (by kernel_rfl) (fun _ _ _ h => h) (Or.inl ⟨by rfl, fun w hSw => ?_⟩) hHeld ?_
          · (try dsimp only at hSw); go_simp
          try simp only [Act.put, List.setIfInBounds_toArray, List.set_cons_zero, List.set_cons_succ]
          refine wpAnyH_done (by kernel_rfl) ?_ _
          refine NoPanic.normal ?_
          go_wp2_with fail
          go_roundw
          case rel => exact ⟨k + 1, by omega, by go_num, HG1.out, ball (hbB.trans (Below.refl _ _).drew) hw1⟩
          case measure => simp [intOf]; omega
        case neg =>
          obtain ⟨j, hj⟩ : ∃ j, k = j + 1 := ⟨k - 1, by omega⟩
          have hjl : j < l.length := by omega
          have e0 : (k : Int) - 1 = (j : Int) := by omega
          have g1 : decide (0 < (k : Int)) = true := decide_eq_true (by omega)
          have g1' : decide (0 < k) = true := decide_eq_true (by omega)
          have g1'' : 0 < k := by omega
          have x3 : (0 : Int) ≤ (j : Int) := by omega
          have x4 : (j : Int) < (l.length : Int) := by omega
          have HJ := Lib.hid hj; clear hj
          have e1 : IntKind.i64.wrap (j : Int) = (j : Int) := i64_small (by omega) (by omega)
          obtain ⟨q0, q1, q2⟩ := HR.out.at (show j < l.length by omega)
          have q0 := bcell (ball hbel hEB) hb q0
          have q1 := bcell (ball hbel hEB) hb q1
          have q2 := bcell (ball hbel hEB) hb q2
          have hbw : b < wB.heap.size := Nat.lt_of_lt_of_le hbE hEB.size
          obtain ⟨p, hp⟩ : ∃ x, l.getD j default = x := ⟨_, rfl⟩
          rw [hp] at q0 q1 q2
          have HPP := Lib.hid hp; clear hp
          have hpB : ryB p = true := by
            rw [← HPP.out, List.getD_eq_getElem?_getD, List.getElem?_eq_getElem (show j < l.length by omega), Option.getD_some]
            refine List.all_eq_true.1 HG.out.1 _ ?_
            rw [show l[j]'(by omega) = (l.take k)[j]'(by have := HJ.out; rw [List.length_take]; omega) by rw [List.getElem_take]]
            exact List.getElem_mem _
          have CC := Lib.hid (fun w => compareRays_g p r w (ry_bd hpB) (ry_bd HU.out))
          unfold ryV at RC CC
          generalize hC : (if p.x = r.x then p.y - r.y else p.x - r.x) = C at CC
          by_cases hbf : bef p r
          case pos =>
            have HG1 := Lib.hid (gd_next hlt HG.out (by rw [HRR.out]; exact HU.out) (Or.inr (by rw [HRR.out, show k - 1 = j by have := HJ.out; omega, HPP.out]; exact hbf)))
            have g2 : decide (0 ≤ C) = false := decide_eq_false (by rw [← hC]; have := (cmp_bef p r).2 hbf; omega)
            clear hC hbf hpB
            go_wp2_with fail
            try rw [hwB]
            first
              | go_region_held3 (fun w' => (w'.cell? ⟨wE.heap.size, 0, none⟩ = some (.int .i64 r.x) ∧ w'.cell? ⟨wE.heap.size, 1, none⟩ = some (.int .i64 r.y) ∧ w'.cell? ⟨wE.heap.size, 2, none⟩ = some (.int .i64 r.w)) ∧ w'.cell? ⟨b, off + j * 3, none⟩ = some (.int .i64 p.x) ∧ w'.cell? ⟨b, off + j * 3 + 1, none⟩ = some (.int .i64 p.y) ∧ w'.cell? ⟨b, off + j * 3 + 2, none⟩ = some (.int .i64 p.w)) (exact ⟨⟨by assumption, by assumption, by assumption⟩, by assumption, by assumption, by assumption⟩)
                  (first
                  | (go_at_call 39; (with_reducible refine (RC.out _).mono ?_); rintro e W1 ⟨rfl, hw1⟩; have m0 := bcell hw1 bl b0; have m1 := bcell hw1 bl b1; have m2 := bcell hw1 bl b2; have m3 := bcell hw1 hbw q0; have m4 := bcell hw1 hbw q1; have m5 := bcell hw1 hbw q2; have n1 := hw1.size)
                  | (go_at_call 30; (with_reducible refine (CC.out _).mono ?_); rintro e W2 ⟨rfl, hw2⟩; have k0 := bcell hw2 (Nat.lt_of_lt_of_le bl n1) m0; have k1 := bcell hw2 (Nat.lt_of_lt_of_le bl n1) m1; have k2 := bcell hw2 (Nat.lt_of_lt_of_le bl n1) m2; have k3 := bcell hw2 (Nat.lt_of_lt_of_le hbw n1) m3; have k4 := bcell hw2 (Nat.lt_of_lt_of_le hbw n1) m4; have k5 := bcell hw2 (Nat.lt_of_lt_of_le hbw n1) m5))
            go_wp2_with fail
            go_roundw
            case rel => exact ⟨k + 1, by omega, by go_num, HG1.out, ball (ball (hbB.trans (Below.refl _ _).drew) hw1) hw2⟩
            case measure => simp [intOf]; omega
          case neg =>
            obtain rfl : D = false := HD.out.symm.trans (star_bef (k := j) (by have := HJ.out; omega) (by rw [HPP.out, show j + 1 = k by have := HJ.out; omega, HRR.out]; exact hbf))
            have g2 : decide (0 ≤ C) = true := decide_eq_true (by rw [← hC]; have := mt (cmp_bef p r).1 hbf; omega)
            clear hC hbf hpB
            go_wp2_with fail
            try rw [hwB]
            first
              | go_region_held3 (fun w' => (w'.cell? ⟨wE.heap.size, 0, none⟩ = some (.int .i64 r.x) ∧ w'.cell? ⟨wE.heap.size, 1, none⟩ = some (.int .i64 r.y) ∧ w'.cell? ⟨wE.heap.size, 2, none⟩ = some (.int .i64 r.w)) ∧ w'.cell? ⟨b, off + j * 3, none⟩ = some (.int .i64 p.x) ∧ w'.cell? ⟨b, off + j * 3 + 1, none⟩ = some (.int .i64 p.y) ∧ w'.cell? ⟨b, off + j * 3 + 2, none⟩ = some (.int .i64 p.w)) (exact ⟨⟨by assumption, by assumption, by assumption⟩, by assumption, by assumption, by assumption⟩)
                  (first
                  | (go_at_call 39; (with_reducible refine (RC.out _).mono ?_); rintro e W1 ⟨rfl, hw1⟩; have m0 := bcell hw1 bl b0; have m1 := bcell hw1 bl b1; have m2 := bcell hw1 bl b2; have m3 := bcell hw1 hbw q0; have m4 := bcell hw1 hbw q1; have m5 := bcell hw1 hbw q2; have n1 := hw1.size)
                  | (go_at_call 30; (with_reducible refine (CC.out _).mono ?_); rintro e W2 ⟨rfl, hw2⟩; have k0 := bcell hw2 (Nat.lt_of_lt_of_le bl n1) m0; have k1 := bcell hw2 (Nat.lt_of_lt_of_le bl n1) m1; have k2 := bcell hw2 (Nat.lt_of_lt_of_le bl n1) m2; have k3 := bcell hw2 (Nat.lt_of_lt_of_le hbw n1) m3; have k4 := bcell hw2 (Nat.lt_of_lt_of_le hbw n1) m4; have k5 := bcell hw2 (Nat.lt_of_lt_of_le hbw n1) m5))
            go_wp2_with fail
            go_ret
            exact ⟨rfl, ball (ball (hbB.trans (Below.refl _ _).drew) hw1) hw2⟩
      

end Go.Proofs.Ytlplodkabeiimaa
