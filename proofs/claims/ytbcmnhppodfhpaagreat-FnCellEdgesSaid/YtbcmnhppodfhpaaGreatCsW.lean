/-
  Small calls of the law of the cells' edges, and what it asks, plain. By an AI agent.
-/
import Derived.Test.YtbcmnhppodfhpaaGreatCsU
import Derived.Test.YtbcmnhppodfhpaaGreatCsT
import Derived.Test.YtbcmnhppodfhpaaGreatCsK
import Derived.Test.YtbcmnhppodfhpaaGreatCsB
import Derived.Test.YtbcmnhppodfhpaaGreatCpC
import Derived.Test.YtbcmnhppodfhpaaGreatCpZ
import Derived.Deep.QuietTactic
namespace Go.Proofs.YtbcmnhppodfhpaaGreat
open Go.RowKit

set_option maxHeartbeats 1600000 in
theorem sameIE_c (ad : Option Addr) (cap : Nat) (l : List Int) (ad2 : Option Addr) (cap2 : Nat) (m : List Int) (w : World) (hl : l.length ≤ 1048576) (h1 : RdI w ad l) (h2 : RdI w ad2 m) :
    Calls Tryz.prog 38 #[.slice ad l.length cap, .slice ad2 m.length cap2] w fun e w' => e = .returned (.bool (decide (l = m))) ∧ Below w.heap.size w w' := by
  have H1 := Lib.hid h1; clear h1
  have H2 := Lib.hid h2; clear h2
  by_cases hlm : l.length = m.length
  case neg =>
    have hd0 : ((l.length : Int) != (m.length : Int)) = true := bne_iff_ne.2 (by omega)
    have hlm2 : ((l.length : Int) == (m.length : Int)) = false := beq_eq_false_iff_ne.2 (by omega)
    have hres : decide (l = m) = false := decide_eq_false (fun e => hlm (by rw [e]))
    rw [hres]
    clear hlm hres
    go_enter Tryz.func38, Tryz.ntmps38
    go_wp2_with fail
    go_ret
    exact ⟨rfl, Below.refl _ _⟩
  case pos =>
    obtain ⟨N, hN⟩ : ∃ N, l.length = N := ⟨_, rfl⟩
    have hM : m.length = N := by omega
    rw [hN, hM]
    have HN := Lib.hid hN; have HM := Lib.hid hM
    have hN2 : N ≤ 1048576 := by omega
    clear hN hM hlm hl
    have hd0 : ((N : Int) != (N : Int)) = false := by simp
    go_enter Tryz.func38, Tryz.ntmps38
    go_wp2_with fail
    clear hd0
    go_loopw [13] (fun i wr => ∃ k : Nat, k ≤ N ∧ i = .int .i64 k ∧ (∀ j, j < k → l.getD j 0 = m.getD j 0) ∧ Below w.heap.size w wr) (fun i _ => N - (intOf i).toNat)
    case atStart => exact ⟨0, Nat.zero_le _, rfl, fun j hj => by omega, Below.refl _ _⟩
    case round =>
      obtain ⟨k, hk, rfl, hlow, hbel⟩ := hrel
      have HLow := Lib.hid hlow; clear hlow
      obtain ⟨wo, rfl⟩ : ∃ wo : World, wo = wr := ⟨_, rfl⟩
      by_cases hlt : k < N
      · obtain ⟨b1, o1, rfl, hb1, c1⟩ := H1.out k (by have := HN.out; omega)
        obtain ⟨b2, o2, rfl, hb2, c2⟩ := H2.out k (by have := HM.out; omega)
        have k1 := bcell hbel hb1 c1
        have k2 := bcell hbel hb2 c2
        have x1 : (0 : Int) ≤ (k : Int) := by omega
        have x2 : (k : Int) < (N : Int) := by omega
        clear c1 c2
        by_cases he : l.getD k 0 = m.getD k 0
        · have HE := Lib.hid he
          generalize l.getD k 0 = a at k1 he
          generalize m.getD k 0 = b at k2 he
          have hd1 : (a == b) = true := by simpa using he
          have hd2 : (a != b) = false := by simp [he]
          clear he
          go_wp2_with fail
          go_quiet (fail)
          go_wp2_with fail
          go_roundw
          case rel =>
            refine ⟨k + 1, by omega, by go_num, fun j hj => ?_, bdrewN hbel _⟩
            by_cases e : j = k
            · subst e; exact HE.out
            · exact HLow.out j (by omega)
          case measure => simp [intOf]; omega
        · have HE := Lib.hid he
          generalize l.getD k 0 = a at k1 he
          generalize m.getD k 0 = b at k2 he
          have hd1 : (a == b) = false := by simpa using he
          have hd2 : (a != b) = true := by simpa using he
          clear he
          go_wp2_with fail
          go_quiet (fail)
          go_wp2_with fail
          go_ret
          exact ⟨ret_bool (decide_eq_false (fun e => HE.out (by rw [e]))).symm, bdrewN hbel _⟩
      · have he : k = N := by omega
        subst he
        go_wp2_with fail
        go_ret
        refine ⟨ret_bool (decide_eq_true ?_).symm, hbel⟩
        apply List.ext_getElem (by rw [HN.out, HM.out])
        intro i hi hi2
        have := HLow.out i (by have := HN.out; omega)
        simpa [List.getD, hi, hi2] using this
set_option maxHeartbeats 800000 in
theorem sameI_c (ad : Option Addr) (cap : Nat) (ad' : Option Addr) (cap' : Nat) (xs : List Int) (w : World) (hl : xs.length ≤ 1048576) (hr : RdI w ad xs) (hr' : RdI w ad' xs) :
    Calls Tryz.prog 38 #[.slice ad xs.length cap, .slice ad' xs.length cap'] w fun e w' => e = .returned (.bool true) ∧ Below w.heap.size w w' := by
  have HR := Lib.hid hr; clear hr
  have HR' := Lib.hid hr'; clear hr'
  go_enter Tryz.func38, Tryz.ntmps38
  go_wp2_with fail
  go_loopw [13] (fun i wr => ∃ k : Nat, k ≤ xs.length ∧ i = .int .i64 k ∧ Below w.heap.size w wr) (fun i _ => xs.length - (intOf i).toNat)
  case atStart => exact ⟨0, Nat.zero_le _, rfl, Below.refl _ _⟩
  case round =>
    obtain ⟨k, hk, rfl, hbel⟩ := hrel
    by_cases hlt : k < xs.length
    · obtain ⟨b, off, rfl, hb, c⟩ := HR.out k hlt
      obtain ⟨b', off', rfl, hb', c'⟩ := HR'.out k hlt
      have d := bcell hbel hb c
      have d' := bcell hbel hb' c'
      clear c c'
      generalize xs.getD k 0 = x at d d'
      have x1 : (0 : Int) ≤ (k : Int) := by omega
      have x2 : (k : Int) < (xs.length : Int) := by omega
      go_wp2_with fail
      go_quiet (fail)
      go_wp2_with fail
      go_roundw
      case rel => exact ⟨k + 1, by omega, by go_num, bdrewN hbel _⟩
      case measure => simp [intOf]; omega
    · go_wp2_with fail
      go_ret
      exact ⟨rfl, hbel⟩
set_option maxHeartbeats 800000 in
set_option maxRecDepth 100000 in
theorem sameM_c (ad : Option Addr) (cap : Nat) (ad' : Option Addr) (cap' : Nat) (M : List (List Int)) (w : World) (hl : M.length ≤ 1048576) (hl2 : ∀ i, i < M.length → (M.getD i []).length ≤ 1000) (hr : RdM w ad M) (hr' : RdM w ad' M) :
    Calls Tryz.prog 14 #[.slice ad M.length cap, .slice ad' M.length cap'] w fun e w' => e = .returned (.bool true) ∧ Below w.heap.size w w' := by
  have HR := Lib.hid hr; clear hr
  have HR' := Lib.hid hr'; clear hr'
  have HL2 := Lib.hid hl2; clear hl2
  go_enter Tryz.func14, Tryz.ntmps14
  go_wp2_with fail
  go_loopw [13] (fun i wr => ∃ k : Nat, k ≤ M.length ∧ i = .int .i64 k ∧ Below w.heap.size w wr) (fun i _ => M.length - (intOf i).toNat)
  case atStart => exact ⟨0, Nat.zero_le _, rfl, Below.refl _ _⟩
  case round =>
    obtain ⟨wE, rfl⟩ : ∃ x : World, x = wr := ⟨_, rfl⟩
    obtain ⟨k, hk, rfl, hbel⟩ := hrel
    by_cases hlt : k < M.length
    · obtain ⟨b, off, a1, c1, rfl, hb, k1, r1⟩ := HR.out k hlt
      obtain ⟨b', off', a2, c2, rfl, hb', k2, r2⟩ := HR'.out k hlt
      have k1 := bcell hbel hb k1
      have k2 := bcell hbel hb' k2
      have hkl := HL2.out k hlt
      have R1 := r1.below hbel
      have R2 := r2.below hbel
      generalize M.getD k [] = xs at k1 k2 R1 R2 hkl
      have CS := Lib.hid (fun u (hb : Below wE.heap.size wE u) => sameI_c a1 c1 a2 c2 xs u (by omega) (R1.below hb) (R2.below hb))
      have x1 : (0 : Int) ≤ (k : Int) := by omega
      have x2 : (k : Int) < (M.length : Int) := by omega
      clear R1 R2 r1 r2 hkl
      go_wp2_with fail
      refine wp_region_still_tail 8 (by kernel_rfl) (by kernel_rfl) ?_
      simp only [List.take_succ_cons, List.take_zero, List.drop_succ_cons, List.drop_zero]
      repeat still_step
      refine wpStill_nil ?_
      change wpList _ _ _ _ _ wE.drew
      go_wp2_with fail
      refine (CS.out _ (Below.refl _ _).drew).mono ?_
      rintro e w2 ⟨rfl, hb2⟩
      have hb3 := ball hbel.drew hb2
      clear hb2
      go_wp2_with fail
      go_roundw
      case rel => exact ⟨k + 1, by omega, by go_num, hb3⟩
      case measure => simp [intOf]; omega
    · go_wp2_with fail
      go_ret
      exact ⟨rfl, hbel⟩
set_option maxHeartbeats 800000 in
set_option maxRecDepth 100000 in
theorem pHas_c (ad : Option Addr) (cap : Nat) (M : List (List Int)) (adx : Option Addr) (cx : Nat) (x : List Int) (w : World) (hl : M.length ≤ 1048576) (hxl : x.length ≤ 1000) (hr : RdM w ad M) (hx : RdI w adx x) (hin : x ∈ M) :
    Calls Tryz.prog 15 #[.slice ad M.length cap, .slice adx x.length cx] w fun e w' => e = .returned (.bool true) ∧ Below w.heap.size w w' := by
  have HR := Lib.hid hr; have HX := Lib.hid hx; clear hr hx
  have HIN := Lib.hid (show ∃ j, j < M.length ∧ M.getD j [] = x from by
    obtain ⟨j, hj, e⟩ := List.getElem_of_mem hin
    exact ⟨j, hj, by rw [List.getD_eq_getElem?_getD, List.getElem?_eq_getElem hj]; exact e⟩)
  clear hin
  obtain ⟨n, hn⟩ : ∃ z, M.length = z := ⟨_, rfl⟩
  have HN := Lib.hid hn
  rw [hn] at HIN hl ⊢
  clear hn
  go_enter Tryz.func15, Tryz.ntmps15
  go_wp2_with fail
  go_loopw [9] (fun i wr => ∃ k : Nat, k ≤ n ∧ i = .int .i64 k ∧ (∀ j, j < k → M.getD j [] ≠ x) ∧ Below w.heap.size w wr) (fun i _ => n - (intOf i).toNat)
  case atStart => exact ⟨0, Nat.zero_le _, rfl, fun j hj => by omega, Below.refl _ _⟩
  case round =>
    obtain ⟨wE, rfl⟩ : ∃ z : World, z = wr := ⟨_, rfl⟩
    obtain ⟨k, hk, rfl, hlow, hbel⟩ := hrel
    have HLow := Lib.hid hlow; clear hlow
    by_cases hlt : k < n
    case neg =>
      exfalso
      obtain ⟨j, hj, e⟩ := HIN.out
      exact HLow.out j (by omega) e
    case pos =>
      obtain ⟨b1, o1, a1, c1, rfl, hbb1, k1, r1⟩ := (HR.out.below hbel) k (by rw [HN.out]; exact hlt)
      have C := sameIE_c adx cx x a1 c1 (M.getD k []) wE (by omega) (HX.out.below hbel) r1
      have HL2 := Lib.hid (fun (h : M.getD k [] ≠ x) => show ∀ j, j < k + 1 → M.getD j [] ≠ x from fun j hj => by
        by_cases e : j = k
        · subst e; exact h
        · exact HLow.out j (by omega))
      have x1 : (0 : Int) ≤ (k : Int) := by omega
      have x2 : (k : Int) < (n : Int) := by omega
      clear r1
      generalize M.getD k [] = y at k1 C HL2
      by_cases he : x = y
      case pos =>
        rw [decide_eq_true he] at C
        have C := Lib.hid C
        clear he
        generalize x.length = nx at C ⊢
        go_wp2_with fail
        refine C.out.mono ?_
        rintro e w8 ⟨rfl, hb8⟩
        have hbN := ball hbel hb8
        go_wp2_with fail
        go_ret
        exact ⟨rfl, hbN⟩
      case neg =>
        have HL3 := Lib.hid (HL2.out (fun e => he e.symm))
        rw [decide_eq_false he] at C
        have C := Lib.hid C
        clear he
        go_wp2_with fail
        refine C.out.mono ?_
        rintro e w8 ⟨rfl, hb8⟩
        have hbN := ball hbel hb8
        go_wp2_with fail
        go_roundw
        case rel => exact ⟨k + 1, by omega, by go_num, HL3.out, hbN⟩
        case measure => simp [intOf]; omega

/-! ### what the law asks -/
theorem inn_in {L : List Tm} {j : Nat} (hj : j < (innA L).length) : (innA L).getD j [] ∈ edgA L := by
  have h : (innA L).getD j [] ∈ innA L := by rw [List.getD_eq_getElem?_getD, List.getElem?_eq_getElem hj]; exact List.getElem_mem _
  unfold innA at h
  exact (List.mem_filter.1 h).1
theorem inn_len (L : List Tm) : (innA L).length ≤ (edgA L).length := List.length_filter_le _ _
theorem lenE_pos {L : List Tm} (hd : Dist L) {a b : Int} (h : hasE L a b = true) : 1 ≤ lenE L a b := by
  obtain ⟨h0, h1, h2⟩ := hasE_in hd h
  unfold lenE gcdN
  have hne : ¬ ((tmAt L b.toNat).i - (tmAt L a.toNat).i = 0 ∧ (tmAt L b.toNat).j - (tmAt L a.toNat).j = 0) := fun ⟨e1, e2⟩ => by
    have := hd a.toNat b.toNat (by omega) (by omega) (pt_ext (by show (tmAt L a.toNat).i = (tmAt L b.toNat).i; omega) (by show (tmAt L a.toNat).j = (tmAt L b.toNat).j; omega))
    omega
  have : 0 < Int.gcd ((tmAt L b.toNat).i - (tmAt L a.toNat).i) ((tmAt L b.toNat).j - (tmAt L a.toNat).j) := by
    rw [Int.gcd_pos_iff]
    omega
  omega
theorem smooth_tri {L : List Tm} (hd : Dist L) (h : smoB L = true) : triB L = true := by
  unfold smoB areL at h
  rw [Bool.and_eq_true, Bool.not_eq_true', List.any_eq_false] at h
  unfold triB
  rw [Bool.not_eq_true', List.any_eq_false]
  intro C hC
  have h1 := h.2 (areaP (hulX L C)) (List.mem_map.2 ⟨C, hC, rfl⟩)
  have h1 : areaP (hulX L C) = 1 := by simpa using h1
  have := cell_three (celA_g hC) hd h1
  simp [this]
theorem smc_symm (a b : List Tm) : smcB a b = smcB b a := by
  unfold smcB
  congr 1
  · exact decide_eq_decide.2 ⟨Eq.symm, Eq.symm⟩
  · exact decide_eq_decide.2 ⟨Eq.symm, Eq.symm⟩
theorem smc_move (x y : Int) (L : List Tm) : smcB L (mvP x y L) = true := by
  unfold smcB
  rw [celA_move, mvP_len, ptsL_move x y L _ (Nat.le_refl _)]
  simp
theorem smc_back (a b : List Tm) : (planeB b && (planeB a && smcB b a)) = (planeB a && (planeB b && smcB a b)) ∧ (planeB b && planeB a) = (planeB a && planeB b) := by
  rw [smc_symm b a]
  cases planeB a <;> cases planeB b <;> simp
end Go.Proofs.YtbcmnhppodfhpaaGreat
