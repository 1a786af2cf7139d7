/-
  The roots of a polynomial: program and reference. Printed by gen_rtR.py.
-/
import Derived.Test.YtekhmjhbdoigoaaRtM
import Derived.Test.YtekhmjhbdoigoaaFrK
import Derived.Test.YtekhmjhbdoigoaaFrS
namespace Go.Proofs.Ytekhmjhbdoigoaa
open Go.RowKit
set_option maxHeartbeats 6400000 in
set_option maxRecDepth 100000 in
theorem roots_c (ad : Option Addr) (cap : Nat) (p : List Int) (w : World) (hr : RdI w ad p) (hp : polyB p = true) :
    Calls Try.prog 59 #[.slice ad p.length cap] w fun e w' => ∃ v, e = .returned v ∧ RowR w' w.heap.size v (rootsP p) ∧ Below w.heap.size w w' := by
  obtain ⟨h1, h13, hcf, hsf⟩ := cor_facts hp
  have hpl := (polyB_t hp).1
  have cc := fun w hr => corners_c ad cap p w hr hp
  have hrl := rootsP_len p
  obtain ⟨C, hC⟩ : ∃ C, corP p = C := ⟨_, rfl⟩
  rw [hC] at hrl h1 h13
  simp only [hC] at cc hcf hsf
  obtain ⟨RS, hRS⟩ : ∃ RS, rootsP p = RS := ⟨_, rfl⟩
  rw [hRS] at hrl ⊢
  simp only [hRS] at hsf
  have HR := Lib.hid hr; have CC := Lib.hid cc; have HCF := Lib.hid hcf; have HSF := Lib.hid hsf; clear hr cc hcf hsf hp hC hRS
  go_enter Try.func59, Try.ntmps59
  go_wp2_with fail
  refine (CC.out w HR.out).mono ?_
  rintro e w1 ⟨v1, rfl, hrow, hw1⟩
  obtain ⟨adC, capC, rfl, hrdC⟩ := hrow.shape
  rw [natL_len]
  obtain ⟨m, hm⟩ : ∃ m, C.length = m + 1 := ⟨C.length - 1, by omega⟩
  obtain ⟨N, hN⟩ : ∃ N, C.length = N := ⟨_, rfl⟩
  have HRC := Lib.hid hrdC; have HNL := Lib.hid hN; clear hrow hrdC
  rw [hN] at hm h1 h13 hrl ⊢
  have en : (N : Int) - 1 = (m : Int) := by omega
  have wn : IntKind.i64.wrap (m : Int) = (m : Int) := i64_small (by omega) (by omega)
  have hm12 : m ≤ 12 := by omega
  have HM := Lib.hid hm
  have HRL := Lib.hid (show RS.length = m by omega)
  clear hN hm h1 h13 hrl
  go_wp2_with fail
  go_loopw [4, 5] (fun v n wr => ∃ nn : Nat, nn ≤ m ∧ n = .int .i64 nn ∧ RowR wr w1.heap.size v (RS.take (m - nn)) ∧ Below w1.heap.size w1 wr) (fun _ n _ => (intOf n).toNat)
  case atStart => exact ⟨m, Nat.le_refl _, rfl, by rw [Nat.sub_self]; exact rowR_empty w1, (Below.refl _ _).alloc (Nat.le_refl _) _⟩
  case round =>
    obtain ⟨wE, rfl⟩ : ∃ x : World, x = wr := ⟨_, rfl⟩
    obtain ⟨nn, hnn, rfl, hrow, hbel⟩ := hrel
    have HO := Lib.hid hrow; clear hrow
    have hbw := ball hw1 hbel
    by_cases hz : nn = 0
    case pos =>
      subst hz
      have hRO := HO.out.mono hw1.size
      rw [Nat.sub_zero, ← HRL.out, List.take_length] at hRO
      have HRO := Lib.hid hRO; clear hRO HO
      go_wp2_with fail
      go_ret
      exact ⟨_, rfl, HRO.out, hbw⟩
    case neg =>
      obtain ⟨q, hq⟩ : ∃ q, nn = q + 1 := ⟨nn - 1, by omega⟩
      have hNm := HM.out
      have hCl := HNL.out
      have f1 := HCF.out q (by omega)
      have f2 := HCF.out nn (by omega)
      have f3 := HSF.out q (by omega)
      rw [hCl, show N - 2 - q = m - nn by omega, ← hq] at f3
      obtain ⟨bC, offC, rfl, hbC, c1⟩ := HRC.out q (by rw [natL_len]; omega)
      have c2 := HRC.out.at (j := nn) (by rw [natL_len]; omega)
      rw [natL_getD (by omega)] at c1 c2
      have d1 := bcell hbel (p := ⟨bC, offC + q, none⟩) hbC c1
      have d2 := bcell hbel (p := ⟨bC, offC + nn, none⟩) hbC c2
      obtain ⟨i, hi⟩ : ∃ i, C.getD q 0 = i := ⟨_, rfl⟩
      obtain ⟨k, hk⟩ : ∃ k, C.getD nn 0 = k := ⟨_, rfl⟩
      rw [hi] at d1 f1 f3
      rw [hk] at d2 f2 f3
      obtain ⟨hik, hroot⟩ := f3
      have htk : RS.take (m - q) = RS.take (m - nn) ++ [rootOf (cof p) i k] := by
        rw [show m - q = (m - nn) + 1 by omega, List.take_succ_eq_append_getElem (by have := HRL.out; omega), ← hroot, List.getD_eq_getElem?_getD, List.getElem?_eq_getElem (by have := HRL.out; omega)]
        rfl
      unfold rootOf at htk
      obtain ⟨b, off, rfl, hb, e1⟩ := HR.out i f1.1
      have e2 := HR.out.at (j := k) f2.1
      have hbE := hbw.size
      have ra := bcell hbw (p := ⟨b, off + i, none⟩) hb e1
      have rb := bcell hbw (p := ⟨b, off + k, none⟩) hb e2
      rw [show p.getD i 0 = cof p i from rfl] at ra
      rw [show p.getD k 0 = cof p k from rfl] at rb
      have b1 := f1.2.2
      have b2 := f2.2.2
      obtain ⟨ci, hci⟩ : ∃ z, cof p i = z := ⟨_, rfl⟩
      obtain ⟨ck, hck⟩ : ∃ z, cof p k = z := ⟨_, rfl⟩
      rw [hci] at ra b1 htk
      rw [hck] at rb b2 htk
      have hi13 : i < 13 := by have := f1.1; omega
      have hk13 : k < 13 := by have := f2.1; omega
      have cl := fun w => lowest_c (ci - ck) ((k : Int) - (i : Int)) w (by omega) (by omega) (by omega)
      generalize lowF (ci - ck) ((k : Int) - (i : Int)) = F at cl htk
      obtain ⟨X, Y⟩ := F
      unfold frV at cl
      simp only at cl
      have w1' : IntKind.i64.wrap (ci - ck) = ci - ck := i64_small (by omega) (by omega)
      have w2' : IntKind.i64.wrap ((k : Int) - (i : Int)) = (k : Int) - (i : Int) := i64_small (by omega) (by omega)
      have eq2 : (nn : Int) - 1 = (q : Int) := by omega
      have wq : IntKind.i64.wrap (q : Int) = (q : Int) := i64_small (by omega) (by omega)
      have y1 : (0 : Int) ≤ (q : Int) := by omega
      have y2 : (q : Int) < (N : Int) := by omega
      have y3 : (nn : Int) < (N : Int) := by omega
      have y4 : (0 : Int) ≤ (nn : Int) := by omega
      have y5 : (0 : Int) ≤ (i : Int) := by omega
      have y6 : (i : Int) < (p.length : Int) := by have := f1.1; omega
      have y7 : (0 : Int) ≤ (k : Int) := by omega
      have y8 : (k : Int) < (p.length : Int) := by have := f2.1; omega
      have g0 : decide ((0 : Int) < (nn : Int)) = true := decide_eq_true (by omega)
      have HQ := Lib.hid hq
      have hqm : q + 1 ≤ m := by omega
      have CL := Lib.hid cl; have HTK := Lib.hid htk
      have hbl : b < wE.heap.size := Nat.lt_of_lt_of_le hb hbE
      obtain ⟨adv, capv, rfl, -, -⟩ := HO.out.shape
      have htl : (RS.take (m - nn)).length ≤ 12 := by rw [List.length_take]; omega
      obtain ⟨L, hL⟩ : ∃ L, RS.take (m - nn) = L := ⟨_, rfl⟩
      rw [hL] at HO HTK htl ⊢
      have hbw1 := hw1.size
      clear c1 c2 e1 e2 f1 f2 hci hck hi hk b1 b2 cl htk hroot hL hNm hCl hq hz
      go_wp2_with fail
      go_quiet (fail)
      have hbq := bdrewN (Below.refl wE.heap.size wE) nq
      have ra2 := bcell hbq (p := ⟨b, off + i, none⟩) hbl ra
      have rb2 := bcell hbq (p := ⟨b, off + k, none⟩) hbl rb
      have HOG := Lib.hid (RowR.below HO.out hbq)
      have hbG := bdrewN hbel nq
      have hblG : b < (wE.drewN nq).heap.size := Nat.lt_of_lt_of_le hbl hbq.size
      clear ra rb d1 d2 HO hbq
      generalize wE.drewN nq = wG at ra2 rb2 HOG hbG hblG ⊢
      have nB := hbG.size
      go_wp2_with fail
      go_region_held3 (fun w' => w'.cell? ⟨b, off + i, none⟩ = some (.int .i64 ci) ∧ w'.cell? ⟨b, off + k, none⟩ = some (.int .i64 ck)) (with_reducible repeat' (first | apply And.intro | assumption | apply cell_alloc' | apply cell_drew'))
        (first
          | (go_at_call 63; (with_reducible refine (CL.out _).mono ?_); rintro e W1 ⟨rfl, hw2⟩; have m1 := bcell hw2 hblG ra2; have m2 := bcell hw2 hblG rb2; have HO1 := Lib.hid (RowR.below (by with_reducible (first | exact HOG.out | exact RowR.drew' HOG.out)) hw2); have hb1 := ball (by with_reducible (first | exact hbG | exact hbG.drew)) hw2; have n1 := hb1.size; have bl1 := Nat.lt_of_lt_of_le hblG hw2.size)
          | (refine step_appR (by rfl) _ _ (by rfl) w1.heap.size (.slice adv L.length capv) _ L ⟨⟨X, Y⟩, (k : Int) - (i : Int)⟩ _ (by rfl) (by rfl) (by rfl) (by (with_reducible repeat (first | exact HO1.out | apply RowR.alloc' | apply RowR.drew'))) (by first | exact news_root _ _ _ _ _ rfl | exact news_root _ _ _ _ _ (by simp)) (by omega) (by first | exact n1 | ((try simp) <;> omega)) ?_; intro v3 w3 hown3 hb3 hg3; have m5 := (World.grownBy.cell_far hg3 ⟨b, off + i, none⟩ (Nat.lt_of_lt_of_le bl1 (by simp)) (fun e => by have := (HO1.out.lt _ e.symm).1; simp at this; omega)).trans (cell_alloc' m1); have m6 := (World.grownBy.cell_far hg3 ⟨b, off + k, none⟩ (Nat.lt_of_lt_of_le bl1 (by simp)) (fun e => by have := (HO1.out.lt _ e.symm).1; simp at this; omega)).trans (cell_alloc' m2)))
      all_goals
        go_wp2_with fail
        go_roundw
        case rel => exact ⟨q, by omega, rfl, by rw [HTK.out]; exact hown3, (hb1.alloc n1 _).trans hb3⟩
        case measure => (have := HQ.out; simp [intOf]; omega)
set_option maxHeartbeats 6400000 in
set_option maxRecDepth 100000 in
theorem rtRoots_c (ad : Option Addr) (cap : Nat) (p : List Int) (w : World) (hr : RdI w ad p) (hp : polyB p = true) :
    Calls Try.prog 74 #[.slice ad p.length cap] w fun e w' => ∃ v, e = .returned v ∧ RowR w' w.heap.size v (rootsP p) ∧ Below w.heap.size w w' := by
  obtain ⟨h1, h13, hcf, hsf⟩ := cor_facts hp
  have hpl := (polyB_t hp).1
  have cc := fun w hr => rtCorners_c ad cap p w hr hp
  have hrl := rootsP_len p
  obtain ⟨C, hC⟩ : ∃ C, corP p = C := ⟨_, rfl⟩
  rw [hC] at hrl h1 h13
  simp only [hC] at cc hcf hsf
  obtain ⟨RS, hRS⟩ : ∃ RS, rootsP p = RS := ⟨_, rfl⟩
  rw [hRS] at hrl ⊢
  simp only [hRS] at hsf
  have HR := Lib.hid hr; have CC := Lib.hid cc; have HCF := Lib.hid hcf; have HSF := Lib.hid hsf; clear hr cc hcf hsf hp hC hRS
  obtain ⟨iR, hiR0, hiR1, hiR2, hiR3⟩ := info_parts Try.infoR
  go_enter Try.func74, Try.ntmps74
  go_wp2_with fail
  refine (CC.out w HR.out).mono ?_
  rintro e w1 ⟨v1, rfl, hrow, hw1⟩
  obtain ⟨adC, capC, rfl, hrdC⟩ := hrow.shape
  rw [natL_len]
  obtain ⟨m, hm⟩ : ∃ m, C.length = m + 1 := ⟨C.length - 1, by omega⟩
  obtain ⟨N, hN⟩ : ∃ N, C.length = N := ⟨_, rfl⟩
  have HRC := Lib.hid hrdC; have HNL := Lib.hid hN; clear hrow hrdC
  rw [hN] at hm h1 h13 hrl ⊢
  have en : (N : Int) - 1 = (m : Int) := by omega
  have wn : IntKind.i64.wrap (m : Int) = (m : Int) := i64_small (by omega) (by omega)
  have hm12 : m ≤ 12 := by omega
  have HM := Lib.hid hm
  have HRL := Lib.hid (show RS.length = m by omega)
  clear hN hm h1 h13 hrl
  go_wp2_with fail
  go_loopw [3, 5] (fun v n wr => ∃ nn : Nat, nn ≤ m ∧ n = .int .i64 nn ∧ RowR wr w1.heap.size v (RS.take (m - nn)) ∧ Below w1.heap.size w1 wr) (fun _ n _ => (intOf n).toNat)
  case atStart => exact ⟨m, Nat.le_refl _, rfl, by rw [Nat.sub_self]; exact RowR.nil _ _, Below.refl _ _⟩
  case round =>
    obtain ⟨wE, rfl⟩ : ∃ x : World, x = wr := ⟨_, rfl⟩
    obtain ⟨nn, hnn, rfl, hrow, hbel⟩ := hrel
    have HO := Lib.hid hrow; clear hrow
    have hbw := ball hw1 hbel
    by_cases hz : nn = 0
    case pos =>
      subst hz
      have hRO := HO.out.mono hw1.size
      rw [Nat.sub_zero, ← HRL.out, List.take_length] at hRO
      have HRO := Lib.hid hRO; clear hRO HO
      go_wp2_with fail
      go_ret
      exact ⟨_, rfl, HRO.out, hbw⟩
    case neg =>
      obtain ⟨q, hq⟩ : ∃ q, nn = q + 1 := ⟨nn - 1, by omega⟩
      have hNm := HM.out
      have hCl := HNL.out
      have f1 := HCF.out q (by omega)
      have f2 := HCF.out nn (by omega)
      have f3 := HSF.out q (by omega)
      rw [hCl, show N - 2 - q = m - nn by omega, ← hq] at f3
      obtain ⟨bC, offC, rfl, hbC, c1⟩ := HRC.out q (by rw [natL_len]; omega)
      have c2 := HRC.out.at (j := nn) (by rw [natL_len]; omega)
      rw [natL_getD (by omega)] at c1 c2
      have d1 := bcell hbel (p := ⟨bC, offC + q, none⟩) hbC c1
      have d2 := bcell hbel (p := ⟨bC, offC + nn, none⟩) hbC c2
      obtain ⟨i, hi⟩ : ∃ i, C.getD q 0 = i := ⟨_, rfl⟩
      obtain ⟨k, hk⟩ : ∃ k, C.getD nn 0 = k := ⟨_, rfl⟩
      rw [hi] at d1 f1 f3
      rw [hk] at d2 f2 f3
      obtain ⟨hik, hroot⟩ := f3
      have htk : RS.take (m - q) = RS.take (m - nn) ++ [rootOf (cof p) i k] := by
        rw [show m - q = (m - nn) + 1 by omega, List.take_succ_eq_append_getElem (by have := HRL.out; omega), ← hroot, List.getD_eq_getElem?_getD, List.getElem?_eq_getElem (by have := HRL.out; omega)]
        rfl
      unfold rootOf at htk
      obtain ⟨b, off, rfl, hb, e1⟩ := HR.out i f1.1
      have e2 := HR.out.at (j := k) f2.1
      have hbE := hbw.size
      have ra := bcell hbw (p := ⟨b, off + i, none⟩) hb e1
      have rb := bcell hbw (p := ⟨b, off + k, none⟩) hb e2
      rw [show p.getD i 0 = cof p i from rfl] at ra
      rw [show p.getD k 0 = cof p k from rfl] at rb
      have b1 := f1.2.2
      have b2 := f2.2.2
      obtain ⟨ci, hci⟩ : ∃ z, cof p i = z := ⟨_, rfl⟩
      obtain ⟨ck, hck⟩ : ∃ z, cof p k = z := ⟨_, rfl⟩
      rw [hci] at ra b1 htk
      rw [hck] at rb b2 htk
      have hi13 : i < 13 := by have := f1.1; omega
      have hk13 : k < 13 := by have := f2.1; omega
      have cl := fun w => frMake_c (ci - ck) ((k : Int) - (i : Int)) w (by omega) (by omega)
      have hmk := root_good (c := cof p) hik (by omega) (by rw [hci]; exact b1) (by rw [hck]; exact b2)
      unfold rootOf at hmk
      rw [hci, hck] at hmk
      have hmk2 : mkB (ci - ck) ((k : Int) - (i : Int)) = true := mkB_t.2 ⟨by omega, hmk⟩
      rw [hmk2, frR_t] at cl
      clear hmk hmk2
      generalize lowF (ci - ck) ((k : Int) - (i : Int)) = F at cl htk
      obtain ⟨X, Y⟩ := F
      unfold frV at cl
      simp only at cl
      have w1' : IntKind.i64.wrap (ci - ck) = ci - ck := i64_small (by omega) (by omega)
      have w2' : IntKind.i64.wrap ((k : Int) - (i : Int)) = (k : Int) - (i : Int) := i64_small (by omega) (by omega)
      have eq2 : (nn : Int) - 1 = (q : Int) := by omega
      have wq : IntKind.i64.wrap (q : Int) = (q : Int) := i64_small (by omega) (by omega)
      have y1 : (0 : Int) ≤ (q : Int) := by omega
      have y2 : (q : Int) < (N : Int) := by omega
      have y3 : (nn : Int) < (N : Int) := by omega
      have y4 : (0 : Int) ≤ (nn : Int) := by omega
      have y5 : (0 : Int) ≤ (i : Int) := by omega
      have y6 : (i : Int) < (p.length : Int) := by have := f1.1; omega
      have y7 : (0 : Int) ≤ (k : Int) := by omega
      have y8 : (k : Int) < (p.length : Int) := by have := f2.1; omega
      have g0 : decide ((0 : Int) < (nn : Int)) = true := decide_eq_true (by omega)
      have HQ := Lib.hid hq
      have hqm : q + 1 ≤ m := by omega
      have CL := Lib.hid cl; have HTK := Lib.hid htk
      have hbl : b < wE.heap.size := Nat.lt_of_lt_of_le hb hbE
      obtain ⟨adv, capv, rfl, -, -⟩ := HO.out.shape
      have htl : (RS.take (m - nn)).length ≤ 12 := by rw [List.length_take]; omega
      obtain ⟨L, hL⟩ : ∃ L, RS.take (m - nn) = L := ⟨_, rfl⟩
      rw [hL] at HO HTK htl ⊢
      have hbw1 := hw1.size
      clear c1 c2 e1 e2 f1 f2 hci hck hi hk b1 b2 cl htk hroot hL hNm hCl hq hz
      go_wp2_with fail
      go_quiet (fail)
      have hbq := bdrewN (Below.refl wE.heap.size wE) nq
      have ra2 := bcell hbq (p := ⟨b, off + i, none⟩) hbl ra
      have rb2 := bcell hbq (p := ⟨b, off + k, none⟩) hbl rb
      have HOG := Lib.hid (RowR.below HO.out hbq)
      have hbG := bdrewN hbel nq
      have hblG : b < (wE.drewN nq).heap.size := Nat.lt_of_lt_of_le hbl hbq.size
      clear ra rb d1 d2 HO hbq
      generalize wE.drewN nq = wG at ra2 rb2 HOG hbG hblG ⊢
      have nB := hbG.size
      go_wp2_with fail
      have hsz1 : wG.heap.size ≤ (wG.drew.alloc (.cells #[.int .i64 0, .int .i64 0] 38)).heap.size := (bal_alloc (o := (.cells #[.int .i64 0, .int .i64 0] 38)) (Below.refl wG.heap.size wG).drew).size
      have rA := cell_alloc' (o := (.cells #[.int .i64 0, .int .i64 0] 38)) (cell_drew' ra2)
      have rB := cell_alloc' (o := (.cells #[.int .i64 0, .int .i64 0] 38)) (cell_drew' rb2)
      have hOA : RowR (wG.drew.alloc (.cells #[.int .i64 0, .int .i64 0] 38)) _ _ _ := RowR.alloc' (RowR.drew' HOG.out)
      have hbA0 := bal_alloc (o := (.cells #[.int .i64 0, .int .i64 0] 38)) (Below.refl wG.heap.size wG).drew
      have oA : FrO (wG.drew.alloc (.cells #[.int .i64 0, .int .i64 0] 38)) wG.heap.size ⟨0, 0⟩ := FrO.new wG.drew 0 0 rfl
      go_region_held3 (fun w' => w'.cell? ⟨b, off + i, none⟩ = some (.int .i64 ci) ∧ w'.cell? ⟨b, off + k, none⟩ = some (.int .i64 ck)) (with_reducible repeat' (first | apply And.intro | assumption | (apply cell_set' (Nat.ne_of_lt hblG)) | apply cell_alloc' | apply cell_drew'))
        (first
          | (go_at_call 82; (with_reducible refine (CL.out _).mono ?_); rintro e W1 ⟨rfl, hw2⟩; (first | (have m1 := bcell hw2 hblG ra2; have m2 := bcell hw2 hblG rb2; have HO1 := Lib.hid (RowR.below (by with_reducible (first | exact HOG.out | exact RowR.drew' HOG.out)) hw2); have hbG1 : Below wG.heap.size wG W1 := ball (Below.refl wG.heap.size wG).drew hw2) | (have m1 := bcell hw2 (Nat.lt_of_lt_of_le hblG hsz1) rA; have m2 := bcell hw2 (Nat.lt_of_lt_of_le hblG hsz1) rB; have HO1 := Lib.hid (RowR.below hOA hw2); have hbG1 : Below wG.heap.size wG W1 := hbA0.trans (hw2.mono hbA0.size); have o1 := FrO.below oA hw2; obtain ⟨x0, x1⟩ := o1.at; obtain ⟨z0, z1⟩ := o1.fr))))
      all_goals
        first
          | (have hbB := fr2_below (g := wG.heap.size) (a := X) (b := Y) hbG1 (Nat.le_refl _)
             have oB := FrO.set o1 X Y
             unfold fr2 at hbB oB
             generalize (W1.setCell ⟨wG.heap.size, 0, none⟩ (.int .i64 X)).setCell ⟨wG.heap.size, 1, none⟩ (.int .i64 Y) = WZ at hbB oB ⊢
             clear x0 x1 z0 z1 o1)
          | (have hbB := bal_alloc (o := (.cells #[.int .i64 X, .int .i64 Y] 38)) hbG1
             have oB := FrO.new W1 X Y rfl
             generalize W1.alloc (.cells #[.int .i64 X, .int .i64 Y] 38) = WZ at hbB oB ⊢)
        have HOZ := Lib.hid (RowR.below HOG.out hbB)
        have hbZ := ball hbG hbB
        have nZ := hbZ.size
        obtain ⟨x0, x1⟩ := oB.at
        clear m1 m2 HO1 hw2 rA rB hOA oA ra2 rb2
        go_wp2_with (at_builtin; refine wpList_append_lies _ rfl _ _ 67 rfl w1.heap.size 70 iR _ 3 24 Try.underlying67 hiR0 hiR1 hiR2 hiR3 rfl (by omega) (.slice adv L.length capv) L.length (rtsV L) rfl (HOZ.out.alloc _) ⟨WZ.heap.size, 0, none⟩ 1 1 [.int .i64 X, .int .i64 Y, .int .i64 ((k : Int) - (i : Int))] rfl rfl (World.news_of_block (cs := #[.int .i64 X, .int .i64 Y, .int .i64 ((k : Int) - (i : Int))]) (t := 70) (fr := (0, 0)) (heap_alloc_new _ _)) (by simp [Value.oneCell']) (by omega) (by unfold maxLen; omega) (by omega) (by simp; omega) (WZ.heap.size + 1) (by simp) ?_; intro g5 cap5 wm hown hgrow hat hlt5; clear hat)
        have hbm := app_below hbZ nZ HOZ.out hgrow
        go_roundw
        case rel => exact ⟨q, by omega, rfl, by rw [HTK.out]; exact row_congr hown (by simp) (by simp [rtsV]), hbm⟩
        case measure => (have := HQ.out; simp [intOf]; omega)

end Go.Proofs.Ytekhmjhbdoigoaa
