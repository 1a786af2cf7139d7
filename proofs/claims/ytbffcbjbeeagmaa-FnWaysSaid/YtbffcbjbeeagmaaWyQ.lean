/-
  Vertices to which ways cost at most a number: program and reference. Printed by gen_wyQ.py. By an AI agent.
-/
import Derived.Test.YtbffcbjbeeagmaaWyN
namespace Go.Proofs.Ytbffcbjbeeagmaa
open Go.RowKit

def wiL (f : Nat → Int) (mo : Int) : Nat → List Int
  | 0 => []
  | k + 1 => if f k ≤ mo then wiL f mo k ++ [(k : Int)] else wiL f mo k
theorem wiL_len (f : Nat → Int) (mo : Int) : ∀ k, (wiL f mo k).length ≤ k
  | 0 => Nat.le_refl _
  | k + 1 => by
    have := wiL_len f mo k
    unfold wiL
    split
    · rw [List.length_append, List.length_singleton]; omega
    · omega
def wiB (M : List (List Int)) (f mo : Int) : Bool := sqB M && (inB f 0 ((M.length : Int) - 1) && (finB mo && cosB M))
def wiX (M : List (List Int)) (f mo : Int) : List Int := wiL (bf M.length (entM M) M.length f.toNat) mo M.length
set_option maxHeartbeats 800000 in
theorem poFin_c (n : Int) (w : World) :
    Calls Try.prog 79 #[.int .i64 n] w fun e w' => e = .returned (.bool (finB n)) ∧ w = w' := by
  have c := Lib.hid (fun w => l1In_any n (-1000000) 1000000 w)
  unfold finB
  generalize inB n (-1000000) 1000000 = u at c ⊢
  go_enter Try.func79, Try.ntmps79
  go_wp2_with fail
  refine (c.out _).mono ?_
  rintro e w' ⟨rfl, rfl⟩
  go_wp2_with fail
  go_ret
  exact ⟨rfl, rfl⟩

set_option maxHeartbeats 3200000 in
set_option maxRecDepth 100000 in
theorem iWithinCost_c (ad : Option Addr) (cap : Nat) (M : List (List Int)) (f mo : Int) (w : World) (hr : RdM w ad M) (hl : smM M) :
    Calls Try.prog 31 #[.slice ad M.length cap, .int .i64 f, .int .i64 mo] w (LisR (wiB M f mo) (wiX M f mo) w) := by
  have C1 := Lib.hid (isSquare_c ad cap M w hr (by have := hl.1; omega) (fun i hi => by have := hl.2 i hi; omega))
  have C2 := Lib.hid (fun u => areVertices_c ad M.length cap (some ⟨u.heap.size, 0, none⟩) 1 [f] (u.alloc (.cells #[.int .i64 f] 3)) (by have := hl.1; omega) (by simp) (rdI_one u u.heap.size f rfl))
  rw [show vtB M.length [f] = inB f 0 ((M.length : Int) - 1) by simp [vtB, allB]] at C2
  have C3 := Lib.hid (fun w => isFinite_c mo w)
  rw [show inB mo (-1000000) 1000000 = finB mo from rfl] at C3
  have C4 := Lib.hid (fun u (hb : Below w.heap.size w u) => iWayCosts_c ad cap M u (hr.below hb) hl)
  have hcos : sqB M = false → cosB M = false := fun h => by unfold cosB okW; rw [h]; rfl
  have hdis : disM M = toM M.length (bf M.length (entM M) M.length) := rfl
  have hin : inB f 0 ((M.length : Int) - 1) = true → ∃ a : Nat, f = (a : Int) ∧ a < M.length := fun h => by have := inB_t.1 h; exact ⟨f.toNat, by omega, by omega⟩
  unfold wiB wiX
  generalize hA : inB f 0 ((M.length : Int) - 1) = A at C2 hin ⊢
  clear hA
  generalize finB mo = B at C3 ⊢
  rw [hdis] at C4
  generalize bf M.length (entM M) M.length = D at C4 hdis ⊢
  have HSQ := Lib.hid (fun (h : sqB M = true) => (sq_facts h).1)
  generalize cosB M = C at C4 hcos ⊢
  generalize sqB M = S at C1 HSQ hcos ⊢
  have hnb := hl.1
  clear hr hl hdis
  generalize M.length = n at C1 C2 C4 HSQ hin hnb ⊢
  cases S
  · clear C2 C3 C4
    go_enter Try.func31, Try.ntmps31
    go_wp2_with fail
    refine C1.out.mono ?_
    rintro e w1 ⟨rfl, hb1⟩
    go_wp2_with fail
    exact bodyPost_ret (v := .tuple #[.slice none 0 0, .bool false]) (by simp [results, Try.results31, go_sem]) rfl (LisR.no _ hb1)
  · rw [Bool.true_and]
    have hn := HSQ.out rfl
    clear HSQ hcos
    cases A
    · clear C3 C4
      go_enter Try.func31, Try.ntmps31
      go_wp2_with fail
      refine C1.out.mono ?_
      rintro e w1 ⟨rfl, hb1⟩
      go_wp2_with fail
      refine (C2.out _).mono ?_
      rintro e w2 ⟨rfl, hb2⟩
      have hb2 := (bal_alloc hb1).trans (hb2.mono (bal_alloc hb1).size)
      go_wp2_with fail
      exact bodyPost_ret (v := .tuple #[.slice none 0 0, .bool false]) (by simp [results, Try.results31, go_sem]) rfl (LisR.no _ hb2)
    · rw [Bool.true_and]
      obtain ⟨a, rfl, han⟩ := hin rfl
      clear hin
      cases B
      · clear C4
        go_enter Try.func31, Try.ntmps31
        go_wp2_with fail
        refine C1.out.mono ?_
        rintro e w1 ⟨rfl, hb1⟩
        go_wp2_with fail
        refine (C2.out _).mono ?_
        rintro e w2 ⟨rfl, hb2⟩
        have hb2 := (bal_alloc hb1).trans (hb2.mono (bal_alloc hb1).size)
        go_wp2_with fail
        refine (C3.out _).mono ?_
        rintro e w3 ⟨rfl, rfl⟩
        go_wp2_with fail
        exact bodyPost_ret (v := .tuple #[.slice none 0 0, .bool false]) (by simp [results, Try.results31, go_sem]) rfl (LisR.no _ hb2)
      · rw [Bool.true_and]
        cases C
        · go_enter Try.func31, Try.ntmps31
          go_wp2_with fail
          refine C1.out.mono ?_
          rintro e w1 ⟨rfl, hb1⟩
          go_wp2_with fail
          refine (C2.out _).mono ?_
          rintro e w2 ⟨rfl, hb2⟩
          have hb2 := (bal_alloc hb1).trans (hb2.mono (bal_alloc hb1).size)
          go_wp2_with fail
          refine (C3.out _).mono ?_
          rintro e w3 ⟨rfl, rfl⟩
          go_wp2_with fail
          refine (C4.out _ hb2).mono ?_
          rintro e w4 ⟨ad4, cap4, rfl, _, hb4⟩
          go_wp2_with fail
          exact bodyPost_ret (v := .tuple #[.slice none 0 0, .bool false]) (by simp [results, Try.results31, go_sem]) rfl (LisR.no _ (ball hb2 hb4))
        · go_enter Try.func31, Try.ntmps31
          go_wp2_with fail
          refine C1.out.mono ?_
          rintro e w1 ⟨rfl, hb1⟩
          go_wp2_with fail
          refine (C2.out _).mono ?_
          rintro e w2 ⟨rfl, hb2⟩
          have hb2 := (bal_alloc hb1).trans (hb2.mono (bal_alloc hb1).size)
          go_wp2_with fail
          refine (C3.out _).mono ?_
          rintro e w3 ⟨rfl, rfl⟩
          go_wp2_with fail
          refine (C4.out _ hb2).mono ?_
          rintro e w4 ⟨ad4, cap4, rfl, hrd, hb4⟩
          have hb5 := ball hb2 hb4
          rw [show onM true (toM n D) = toM n D from rfl] at hrd ⊢
          rw [toM_len]
          obtain ⟨bM, oM, rfl, hbM, hrow⟩ := hrd.rowF (by omega)
          obtain ⟨b2, o2, c2, e2, hl2, hc2⟩ := hrow a han
          have HC2 := Lib.hid hc2
          have x5 : (0 : Int) ≤ (a : Int) := by omega
          have x6 : (a : Int) < (n : Int) := by omega
          have e2' := cell_alloc' (o := .cells #[] 3) e2
          have HO := Lib.hid (rowI_new w4 w4.heap.size w4.heap.size (Nat.le_refl _) rfl)
          clear hrow hc2 e2 hrd hb1 hb2 hb4 C1 C2 C3 C4 han
          go_wp2_with fail
          go_loopw [10, 41] (fun v i wr => ∃ j : Nat, j ≤ n ∧ i = .int .i64 j ∧ RowI wr w4.heap.size v (wiL (D a) mo j) ∧ Below w4.heap.size w4 wr) (fun _ i _ => n - (intOf i).toNat)
          case atStart => exact ⟨0, Nat.zero_le _, rfl, HO.out, bal_alloc (Below.refl _ _)⟩
          case round =>
            obtain ⟨wJ, rfl⟩ : ∃ x : World, x = wr := ⟨_, rfl⟩
            obtain ⟨j, hj, rfl, hrow, hbj⟩ := hrel
            obtain ⟨adr, car, rfl, hrd⟩ := hrow.shape
            have HO9 := Lib.hid hrow; have HRD := Lib.hid hrd
            have hszi := hbj.size
            have hlen := wiL_len (D a) mo j
            clear hrow hrd
            by_cases hlj : j < n
            case neg =>
              obtain rfl : j = n := by omega
              go_wp2_with fail
              exact bodyPost_ret (v := .tuple #[.slice adr (wiL (D a) mo j).length car, .bool true]) (by simp [results, Try.results31, go_sem]) rfl (LisR.yes HRD.out rfl (ball hb5 hbj))
            case pos =>
              have k1 := bcell hbj hl2 (HC2.out j hlj)
              have x1 : (0 : Int) ≤ (j : Int) := by omega
              have x2 : (j : Int) < (n : Int) := by omega
              have HSN := Lib.hid (show wiL (D a) mo (j + 1) = if D a j ≤ mo then wiL (D a) mo j ++ [(j : Int)] else wiL (D a) mo j from rfl)
              generalize wiL (D a) mo j = R at HO9 HRD HSN hlen ⊢
              generalize D a j = X at k1 HSN
              by_cases hx : X ≤ mo
              · have g1 : decide (X ≤ mo) = true := decide_eq_true hx
                have hsn := HSN.out
                rw [if_pos hx] at hsn
                have HSJ := Lib.hid hsn
                clear hsn HSN
                go_wp2_with (at_builtin; refine wpList_appN rfl _ _ rfl w4.heap.size _ 0 1 _ R [(j : Int)] (R.length + 1) rfl rfl rfl (RowI.alloc' HO9.out) (rdI_one _ _ _ rfl) (by omega) (by simp) (by simp; omega) ?_; intro v5 wm hown hsh hbm hgr)
                have hb8 := (bal_alloc (o := .cells #[.int .i64 (j : Int)] 3) hbj).trans hbm
                rw [← HSJ.out] at hown
                have HO5 := Lib.hid hown; clear hown hsh hgr hbm
                go_wp2_with fail
                go_roundw
                case rel => exact ⟨j + 1, by omega, by go_num, HO5.out, hb8⟩
                case measure => simp [intOf]; omega
              · have g1 : decide (X ≤ mo) = false := decide_eq_false hx
                have hsn := HSN.out
                rw [if_neg hx] at hsn
                have HSJ := Lib.hid hsn
                clear hsn HSN
                go_wp2_with fail
                go_roundw
                case rel => exact ⟨j + 1, by omega, by go_num, by rw [HSJ.out]; exact HO9.out, hbj⟩
                case measure => simp [intOf]; omega

set_option maxHeartbeats 3200000 in
set_option maxRecDepth 100000 in
theorem sWithinCost_c (ad : Option Addr) (cap : Nat) (M : List (List Int)) (f mo : Int) (w : World) (hr : RdM w ad M) (hl : smM M) :
    Calls Try.prog 32 #[.slice ad M.length cap, .int .i64 f, .int .i64 mo] w (LisR (wiB M f mo) (wiX M f mo) w) := by
  have C1 := Lib.hid (mxSquare_c ad cap M w hr (by have := hl.1; omega) (fun i hi => by have := hl.2 i hi; omega))
  have C2 := Lib.hid (fun w => l1In_any f 0 ((M.length : Int) - 1) w)
  obtain ⟨N1, hN1⟩ : ∃ N1, (M.length : Int) - 1 = N1 := ⟨_, rfl⟩
  have e0 : IntKind.i64.wrap ((M.length : Int) - 1) = N1 := by rw [i64_small (by have := hl.1; omega) (by have := hl.1; omega)]; exact hN1
  have C3 := Lib.hid (fun w => poFin_c mo w)
  have C4 := Lib.hid (fun (hs : sqB M = true) u (hb : Below w.heap.size w u) => wyCosts2_c ad cap M u (hr.below hb) hs)
  have hcos : sqB M = false → cosB M = false := fun h => by unfold cosB okW; rw [h]; rfl
  have hdis : disM M = toM M.length (bf M.length (entM M) M.length) := rfl
  have hin : inB f 0 ((M.length : Int) - 1) = true → ∃ a : Nat, f = (a : Int) ∧ a < M.length := fun h => by have := inB_t.1 h; exact ⟨f.toNat, by omega, by omega⟩
  unfold wiB wiX
  rw [hN1] at C2 hin ⊢
  clear hN1
  generalize hA : inB f 0 N1 = A at C2 hin ⊢
  clear hA
  generalize finB mo = B at C3 ⊢
  have hco : cosB M = (okW M && nmB (toM M.length (bf M.length (entM M) M.length))) := rfl
  have HSQ := Lib.hid (fun (h : sqB M = true) => (sq_facts h).1)
  rw [hdis] at C4
  generalize bf M.length (entM M) M.length = D at C4 hdis hco ⊢
  have CG := Lib.hid (fun av cv u (h : RdM u av (toM M.length D)) => wyGood_c av cv (toM M.length D) u h (by rw [toM_len]; have := hl.1; omega) (fun i hi => by rw [toM_len] at hi; rw [toM_row _ hi, tab_length]; have := hl.1; omega))
  generalize cosB M = C at hco hcos ⊢
  generalize okW M = K at C4 hco
  generalize sqB M = S at C1 C4 HSQ hcos ⊢
  have hnb := hl.1
  clear hr hl hdis
  rw [toM_len] at CG
  generalize nmB (toM M.length D) = G at CG hco
  generalize M.length = n at C1 C4 CG HSQ hin hnb e0 ⊢
  cases S
  · clear C2 C3 C4
    go_enter Try.func32, Try.ntmps32
    go_wp2_with fail
    refine C1.out.mono ?_
    rintro e w1 ⟨rfl, rfl⟩
    go_wp2_with fail
    have hb1 := Below.refl w.heap.size w
    exact bodyPost_ret (v := .tuple #[.slice none 0 0, .bool false]) (by simp [results, Try.results32, go_sem]) rfl (LisR.no _ hb1)
  · rw [Bool.true_and]
    have hn := HSQ.out rfl
    clear HSQ hcos
    cases A
    · clear C3 C4
      go_enter Try.func32, Try.ntmps32
      go_wp2_with fail
      refine C1.out.mono ?_
      rintro e w1 ⟨rfl, rfl⟩
      go_wp2_with fail
      have hb1 := Below.refl w.heap.size w
      refine (C2.out _).mono ?_
      rintro e w2 ⟨rfl, rfl⟩
      have hb2 := hb1
      go_wp2_with fail
      exact bodyPost_ret (v := .tuple #[.slice none 0 0, .bool false]) (by simp [results, Try.results32, go_sem]) rfl (LisR.no _ hb2)
    · rw [Bool.true_and]
      obtain ⟨a, rfl, han⟩ := hin rfl
      clear hin
      cases B
      · clear C4
        go_enter Try.func32, Try.ntmps32
        go_wp2_with fail
        refine C1.out.mono ?_
        rintro e w1 ⟨rfl, rfl⟩
        go_wp2_with fail
        have hb1 := Below.refl w.heap.size w
        refine (C2.out _).mono ?_
        rintro e w2 ⟨rfl, rfl⟩
        have hb2 := hb1
        go_wp2_with fail
        refine (C3.out _).mono ?_
        rintro e w3 ⟨rfl, rfl⟩
        go_wp2_with fail
        exact bodyPost_ret (v := .tuple #[.slice none 0 0, .bool false]) (by simp [results, Try.results32, go_sem]) rfl (LisR.no _ hb2)
      · rw [Bool.true_and]
        rw [Int.toNat_natCast]
        have C5 := Lib.hid (C4.out rfl)
        clear C4
        cases K
        · obtain rfl : C = false := hco
          go_enter Try.func32, Try.ntmps32
          go_wp2_with fail
          refine C1.out.mono ?_
          rintro e w1 ⟨rfl, rfl⟩
          go_wp2_with fail
          have hb1 := Below.refl w.heap.size w
          refine (C2.out _).mono ?_
          rintro e w2 ⟨rfl, rfl⟩
          have hb2 := hb1
          go_wp2_with fail
          refine (C3.out _).mono ?_
          rintro e w3 ⟨rfl, rfl⟩
          go_wp2_with fail
          refine (C5.out _ hb2).mono ?_
          rintro e w4 ⟨av, cv, rfl, _, hb4⟩
          go_wp2_with fail
          exact bodyPost_ret (v := .tuple #[.slice none 0 0, .bool false]) (by simp [results, Try.results32, go_sem]) rfl (LisR.no _ (ball hb2 hb4))
        · obtain rfl : C = G := hco.trans (Bool.true_and _)
          clear hco
          cases C
          · go_enter Try.func32, Try.ntmps32
            go_wp2_with fail
            refine C1.out.mono ?_
            rintro e w1 ⟨rfl, rfl⟩
            go_wp2_with fail
            have hb1 := Below.refl w.heap.size w
            refine (C2.out _).mono ?_
            rintro e w2 ⟨rfl, rfl⟩
            have hb2 := hb1
            go_wp2_with fail
            refine (C3.out _).mono ?_
            rintro e w3 ⟨rfl, rfl⟩
            go_wp2_with fail
            refine (C5.out _ hb2).mono ?_
            rintro e w4 ⟨av, cv, rfl, ⟨vs, hm⟩, hb4⟩
            have hb5 := ball hb2 hb4
            have CG1 := Lib.hid (CG.out av cv w4 hm.rd)
            clear hm
            go_wp2_with fail
            refine CG1.out.mono ?_
            rintro e w5 ⟨rfl, rfl⟩
            go_wp2_with fail
            exact bodyPost_ret (v := .tuple #[.slice none 0 0, .bool false]) (by simp [results, Try.results32, go_sem]) rfl (LisR.no _ hb5)
          · go_enter Try.func32, Try.ntmps32
            go_wp2_with fail
            refine C1.out.mono ?_
            rintro e w1 ⟨rfl, rfl⟩
            go_wp2_with fail
            have hb1 := Below.refl w.heap.size w
            refine (C2.out _).mono ?_
            rintro e w2 ⟨rfl, rfl⟩
            have hb2 := hb1
            go_wp2_with fail
            refine (C3.out _).mono ?_
            rintro e w3 ⟨rfl, rfl⟩
            go_wp2_with fail
            refine (C5.out _ hb2).mono ?_
            rintro e w4 ⟨av, cv, rfl, ⟨vs, hm⟩, hb4⟩
            have hb5 := ball hb2 hb4
            have hrd := hm.rd
            have CG1 := Lib.hid (CG.out av cv w4 hrd)
            obtain ⟨bM, oM, rfl, hbM, hrow⟩ := hrd.rowF (by omega)
            obtain ⟨b2, o2, c2, e2, hl2, hc2⟩ := hrow a han
            have HC2 := Lib.hid hc2
            have x5 : (0 : Int) ≤ (a : Int) := by omega
            have x6 : (a : Int) < (n : Int) := by omega
            clear hrow hc2 hrd hm hb1 hb2 hb4 C1 C2 C3 C5 han CG
            go_wp2_with fail
            refine CG1.out.mono ?_
            rintro e w5 ⟨rfl, rfl⟩
            go_wp2_with fail
            go_loopw [10, 46] (fun v i wr => ∃ j : Nat, j ≤ n ∧ i = .int .i64 j ∧ RowI wr w4.heap.size v (wiL (D a) mo j) ∧ Below w4.heap.size w4 wr) (fun _ i _ => n - (intOf i).toNat)
            case atStart => exact ⟨0, Nat.zero_le _, rfl, RowI.nil _ _, Below.refl _ _⟩
            case round =>
              obtain ⟨wJ, rfl⟩ : ∃ x : World, x = wr := ⟨_, rfl⟩
              obtain ⟨j, hj, rfl, hrow, hbj⟩ := hrel
              obtain ⟨adr, car, rfl, hrd⟩ := hrow.shape
              have HO9 := Lib.hid hrow; have HRD := Lib.hid hrd
              have hszi := hbj.size
              have hlen := wiL_len (D a) mo j
              clear hrow hrd
              by_cases hlj : j < n
              case neg =>
                obtain rfl : j = n := by omega
                go_wp2_with fail
                exact bodyPost_ret (v := .tuple #[.slice adr (wiL (D a) mo j).length car, .bool true]) (by simp [results, Try.results32, go_sem]) rfl (LisR.yes HRD.out rfl (ball hb5 hbj))
              case pos =>
                have k1 := bcell hbj hl2 (HC2.out j hlj)
                have x1 : (0 : Int) ≤ (j : Int) := by omega
                have x2 : (j : Int) < (n : Int) := by omega
                have HSN := Lib.hid (show wiL (D a) mo (j + 1) = if D a j ≤ mo then wiL (D a) mo j ++ [(j : Int)] else wiL (D a) mo j from rfl)
                generalize wiL (D a) mo j = R at HO9 HRD HSN hlen ⊢
                generalize D a j = X at k1 HSN
                by_cases hx : X ≤ mo
                · have g1 : decide (X ≤ mo) = true := decide_eq_true hx
                  have hsn := HSN.out
                  rw [if_pos hx] at hsn
                  have HSJ := Lib.hid hsn
                  clear hsn HSN
                  go_wp2_with (at_builtin; refine wpList_appN rfl _ _ rfl w4.heap.size _ 0 1 _ R [(j : Int)] (R.length + 1) rfl rfl rfl (RowI.alloc' HO9.out) (rdI_one _ _ _ rfl) (by omega) (by simp) (by simp; omega) ?_; intro v5 wm hown hsh hbm hgr)
                  have hb8 := (bal_alloc (o := .cells #[.int .i64 (j : Int)] 3) hbj).trans hbm
                  rw [← HSJ.out] at hown
                  have HO5 := Lib.hid hown; clear hown hsh hgr hbm
                  go_wp2_with fail
                  go_roundw
                  case rel => exact ⟨j + 1, by omega, by go_num, HO5.out, hb8⟩
                  case measure => simp [intOf]; omega
                · have g1 : decide (X ≤ mo) = false := decide_eq_false hx
                  have hsn := HSN.out
                  rw [if_neg hx] at hsn
                  have HSJ := Lib.hid hsn
                  clear hsn HSN
                  go_wp2_with fail
                  go_roundw
                  case rel => exact ⟨j + 1, by omega, by go_num, by rw [HSJ.out]; exact HO9.out, hbj⟩
                  case measure => simp [intOf]; omega

end Go.Proofs.Ytbffcbjbeeagmaa
