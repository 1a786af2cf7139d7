/-
  The walk of 'laws.FnNumbers': it returns true. Printed by gen_lawN.py.
-/
import Derived.Test.YtgicdaomlgepjaaDoorNumP
import Derived.Test.YtgicdaomlgepjaaDoorDrawM
import Derived.Test.YtgicdaomlgepjaaDoorBig
import Derived.Deep.DeepCutAuto
namespace Go.Proofs.YtgicdaomlgepjaaDoor
open Go.RowKit

set_option maxHeartbeats 400000 in
theorem iIsNumber_c (n : Int) (w : World) :
    Calls Tryd.prog 12 #[.int .i64 n] w fun e w' => e = .returned (.bool (numB n)) ∧ w = w' := by
  have c := Lib.hid (fun w => isNumber_c n w)
  generalize numB n = u at c ⊢
  go_enter Tryd.func12, Tryd.ntmps12
  go_wp2_with fail
  refine (c.out _).mono ?_
  rintro e w' ⟨rfl, rfl⟩
  go_wp2_with fail
  go_ret
  exact ⟨rfl, rfl⟩
theorem binOp_int_neq' (x y : Int) : binOp .neq 3 (.int .i64 x) (.int .i64 y) = pure (.bool (x != y)) := by simp [binOp, Op.intCmp]
theorem binOp_int_gtr' (x y : Int) : binOp .gtr 3 (.int .i64 x) (.int .i64 y) = pure (.bool (decide (y < x))) := by simp [binOp, Op.intCmp]
theorem strV_list (l : List UInt8) : ∃ s : ByteArray, strV l = .string s ∧ s.toList = l ∧ s.size = l.length := ⟨⟨l.toArray⟩, rfl, ByteArray.toList_mk l, by simp [ByteArray.size]⟩

set_option maxHeartbeats 64000000 in
set_option maxRecDepth 100000 in
theorem lawNumbers_any (ad0 : Option Addr) (n0 cap0 : Nat) (ad1 : Option Addr) (n1 cap1 : Nat) (w : World) (hm0 : n0 ≤ 9223372036854775807) (hr0 : RdB w ad0 n0) (hm1 : n1 ≤ 9223372036854775807) (hr1 : RdB w ad1 n1) (hls : LaidS w) :
    Calls Tryd.prog 3 #[.slice ad0 n0 cap0, .slice ad1 n1 cap1] w fun e w' => e = .returned (.bool true) ∧ Below w.heap.size w w' := by
  have bw0 := Below.refl w.heap.size w
  have cbig := Lib.hid (fun w => big_c ad0 n0 cap0 ad1 n1 cap1 w hm0)
  generalize bigB n0 n1 = tb at cbig
  have K1 := Lib.hid hr0; clear hr0
  have K2 := Lib.hid hr1; clear hr1
  have K3 := Lib.hid hls; clear hls
  cases tb
  case true =>
    go_enter Tryd.func3, Tryd.ntmps3
    go_wp2_with fail
    refine (cbig.out _).mono ?_
    rintro e w' ⟨rfl, rfl⟩
    go_wp2_with fail
    go_ret
    exact ⟨rfl, bw0⟩
  case false =>
    go_enter Tryd.func3, Tryd.ntmps3
    go_wp2_with fail
    refine (cbig.out _).mono ?_
    rintro e w' ⟨rfl, rfl⟩
    go_wp2_with fail
    refine (drawTropProduct_c ad0 n0 cap0 _ hm0 K1.out).mono ?_
    rintro e w4 ⟨a, b, rfl, hb5⟩
    have K6 := Lib.hid (K1.out.below hb5); clear K1
    have K7 := Lib.hid (K2.out.below hb5); clear K2
    have K8 := Lib.hid (K3.out.below hb5); clear K3
    have bw9 := ball bw0 hb5
    clear bw0
    clear hb5
    have c1 := fun w => iTropProduct_c a b w
    have c2 := fun w => sTropProduct_c a b w
    have c3 := fun w => iTropSum_c a b w
    have c4 := fun w => sTropSum_c a b w
    have c5 := fun w => iTropQuotient_c a b w
    have c6 := fun w => sTropQuotient_c a b w
    have c7 := fun w => iIsNumber_c a w
    have c8 := fun w => iIsNumber_c b w
    have c9 := fun w hL => iNumberText_c a w hL
    have c10 := fun w => sNumberText_c a w
    unfold txtR at c9 c10
    obtain ⟨ts, hts, htl, htz⟩ := strV_list (if numB a = true then numTxt a else [])
    rw [hts] at c9 c10
    obtain ⟨o, ho⟩ : ∃ o, okAB a b = o := ⟨_, rfl⟩
    have hsum : (sumR a b).2 = o := (sumR_ok a b).trans ho
    have hsv : o = true → (sumR a b).1 = leastZ a b := fun h => by unfold sumR; rw [if_pos (by rw [ho]; exact h)]
    have hok1 := fun h => prodR_ok (a := a) (b := b) h
    have hundo := fun h hb => quot_undo (a := a) (b := b) h hb
    have hcm := prodR_comm b a
    obtain ⟨u, hu⟩ : ∃ u, numB a = u := ⟨_, rfl⟩
    obtain ⟨v, hv⟩ : ∃ v, numB b = v := ⟨_, rfl⟩
    have huv : (u && v) = o := by rw [← hu, ← hv]; exact ho
    have hbk := fun h => parse_back (n := a) h
    have hlen := fun h => numTxt_len (n := a) h
    rw [hu] at c7 c9 c10 htl htz hbk hlen
    rw [hv] at c8
    unfold pairR pairV at c1 c2 c3 c4 c5 c6
    rw [hsum] at c3 c4
    obtain ⟨s, hs⟩ : ∃ s, (sumR a b).1 = s := ⟨_, rfl⟩
    rw [hs] at c3 c4 hsv
    obtain ⟨SV, hSV⟩ : ∃ SV, Value.int .i64 s = SV := ⟨_, rfl⟩
    rw [hSV] at c3 c4
    have r0 : binOp .neq 3 SV SV = pure (.bool false) := by rw [← hSV]; simp [binOp_int_neq']
    have r9 : ∀ x y V, eqGuard .neq 3 x y SV V = pure () := by intro x y V; rw [← hSV]; cases V <;> rfl
    have HSVV := Lib.hid hSV; clear hSV
    obtain ⟨p, hp⟩ : ∃ p, (prodR a b).1 = p := ⟨_, rfl⟩
    obtain ⟨ok, hok⟩ : ∃ ok, (prodR a b).2 = ok := ⟨_, rfl⟩
    rw [hp, hok] at c1 c2 hok1
    rw [hok] at hundo
    obtain ⟨q, hq⟩ : ∃ q, (quotR a b).1 = q := ⟨_, rfl⟩
    obtain ⟨qk, hqk⟩ : ∃ qk, (quotR a b).2 = qk := ⟨_, rfl⟩
    rw [hq, hqk] at c5 c6
    have HPQ := Lib.hid (And.intro hcm (And.intro hp hok))
    have HUV := Lib.hid huv; have HSV := Lib.hid hsv; have HOK1 := Lib.hid hok1; have HUNDO := Lib.hid hundo; have HBK := Lib.hid hbk; have HLEN := Lib.hid hlen; have HTL := Lib.hid htl; have HTZ := Lib.hid htz; have HOA := Lib.hid ho
    have C1 := Lib.hid c1; have C2 := Lib.hid c2; have C3 := Lib.hid c3; have C4 := Lib.hid c4; have C5 := Lib.hid c5; have C6 := Lib.hid c6; have C7 := Lib.hid c7; have C8 := Lib.hid c8; have C9 := Lib.hid c9; have C10 := Lib.hid c10
    clear c1 c2 c3 c4 c5 c6 c7 c8 c9 c10 hts ho hsum hsv hok1 hundo hcm hu hv huv hbk hlen htl htz hs hp hok hq hqk
    go_wp2_with fail
    refine (C1.out _).mono ?_
    rintro e w10 ⟨rfl, hb11⟩
    have K12 := Lib.hid (K6.out.below hb11); clear K6
    have K13 := Lib.hid (K7.out.below hb11); clear K7
    have K14 := Lib.hid (K8.out.below hb11); clear K8
    have bw15 := ball bw9 hb11
    clear bw9
    clear hb11
    go_wp2_with fail
    refine (C2.out _).mono ?_
    rintro e w16 ⟨rfl, hb17⟩
    have K18 := Lib.hid (K12.out.below hb17); clear K12
    have K19 := Lib.hid (K13.out.below hb17); clear K13
    have K20 := Lib.hid (K14.out.below hb17); clear K14
    have bw21 := ball bw15 hb17
    clear bw15
    clear hb17
    go_wp2_with fail
    refine (C3.out _).mono ?_
    rintro e w22 ⟨rfl, hb23⟩
    have K24 := Lib.hid (K18.out.below hb23); clear K18
    have K25 := Lib.hid (K19.out.below hb23); clear K19
    have K26 := Lib.hid (K20.out.below hb23); clear K20
    have bw27 := ball bw21 hb23
    clear bw21
    clear hb23
    go_wp2_with fail
    refine (C4.out _).mono ?_
    rintro e w28 ⟨rfl, hb29⟩
    have K30 := Lib.hid (K24.out.below hb29); clear K24
    have K31 := Lib.hid (K25.out.below hb29); clear K25
    have K32 := Lib.hid (K26.out.below hb29); clear K26
    have bw33 := ball bw27 hb29
    clear bw27
    clear hb29
    go_wp2_with fail
    refine (C5.out _).mono ?_
    rintro e w34 ⟨rfl, hb35⟩
    have K36 := Lib.hid (K30.out.below hb35); clear K30
    have K37 := Lib.hid (K31.out.below hb35); clear K31
    have K38 := Lib.hid (K32.out.below hb35); clear K32
    have bw39 := ball bw33 hb35
    clear bw33
    clear hb35
    go_wp2_with fail
    refine (C6.out _).mono ?_
    rintro e w40 ⟨rfl, hb41⟩
    have K42 := Lib.hid (K36.out.below hb41); clear K36
    have K43 := Lib.hid (K37.out.below hb41); clear K37
    have K44 := Lib.hid (K38.out.below hb41); clear K38
    have bw45 := ball bw39 hb41
    clear bw39
    clear hb41
    clear K42
    go_upto_region 10 with fail
    go_cut [132] from 132 to 132 (fun s wc => s = .bool false ∧ w40 = wc)
    case first =>
      by_cases hbad : ok = true ∧ o = false
      case pos =>
        exfalso
        have h1 := (HOK1.out hbad.1).1
        rw [HOA.out, hbad.2] at h1
        exact absurd h1 (by simp)
      case neg =>
        have huv := HUV.out
        subst huv
        have HB := Lib.hid hbad; clear hbad
        cases u
        case false =>
          cases ok
          case true => exact absurd ⟨rfl, rfl⟩ HB.out
          case false =>
            go_wp2_with fail
            refine (C7.out _).mono ?_
            rintro e w' ⟨rfl, rfl⟩
            go_wp2_with fail
            go_meet
            exact ⟨rfl, rfl⟩
        case true =>
          cases v
          case false =>
            cases ok
            case true => exact absurd ⟨rfl, rfl⟩ HB.out
            case false =>
              go_wp2_with fail
              refine (C7.out _).mono ?_
              rintro e w' ⟨rfl, rfl⟩
              go_wp2_with fail
              refine (C8.out _).mono ?_
              rintro e w' ⟨rfl, rfl⟩
              go_wp2_with fail
              go_meet
              exact ⟨rfl, rfl⟩
          case true =>
            cases ok
            all_goals
              go_wp2_with fail
              refine (C7.out _).mono ?_
              rintro e w' ⟨rfl, rfl⟩
              go_wp2_with fail
              refine (C8.out _).mono ?_
              rintro e w' ⟨rfl, rfl⟩
              go_wp2_with fail
              go_meet
              exact ⟨rfl, rfl⟩
    case rest =>
      obtain ⟨rfl, rfl⟩ := hcut
      clear C1 C2 C3 C4 C5 C6 C7 C8
      go_upto_if 133 with fail
      go_cut [] from 133 to 133 (fun wc => Below w40.heap.size w40 wc)
      case first =>
        cases ok
        case false =>
          go_wp2_with fail
          go_meet
          exact Below.refl _ _
        case true =>
          obtain ⟨hcm, hp, hok⟩ := HPQ.out
          obtain ⟨k1, k2, k3⟩ := HOK1.out rfl
          have d1 := fun w => iTropProduct_c b a w
          rw [hcm] at d1
          unfold pairR pairV at d1
          rw [hp, hok] at d1
          have d2 := fun w => iIsNumber_c p w
          have hnp : numB p = true := by rw [k3]; exact k2
          rw [hnp] at d2
          clear hnp
          have hund := HUNDO.out rfl
          rw [← k3] at hund
          have D1 := Lib.hid d1; have D2 := Lib.hid d2; have HUND := Lib.hid hund
          clear d1 d2 hund hcm hp hok k1 k2 k3
          go_wp2_with fail
          refine (D1.out _).mono ?_
          rintro e wa ⟨rfl, hba⟩
          go_wp2_with fail
          refine (D2.out _).mono ?_
          rintro e w' ⟨rfl, rfl⟩
          by_cases hb : b = 1000000000
          case pos =>
            have hib : (b == 1000000000) = true := beq_iff_eq.2 hb
            have HI := Lib.hid hb; clear hb
            go_wp2_with fail
            go_meet
            exact hba
          case neg =>
            have hib : (b == 1000000000) = false := beq_eq_false_iff_ne.2 hb
            have d3 := fun w => iTropQuotient_c p b w
            rw [HUND.out hb] at d3
            unfold pairR pairV at d3
            have D3 := Lib.hid d3; have HI := Lib.hid hb; clear d3 hb
            go_wp2_with fail
            refine (D3.out _).mono ?_
            rintro e wb ⟨rfl, hbb⟩
            go_wp2_with fail
            go_meet
            exact ball hba hbb
      case rest =>
        obtain ⟨wv, rfl⟩ : ∃ wv : World, wv = wc := ⟨_, rfl⟩
        have K46 := Lib.hid (K43.out.below hcut); clear K43
        have K47 := Lib.hid (K44.out.below hcut); clear K44
        have bw48 := ball bw45 hcut
        clear bw45
        clear hcut
        go_upto_region 20 with fail
        go_cut [187] from 187 to 187 (fun s wc => s = .bool false ∧ wv = wc)
        case first =>
          cases o
          case false =>
            go_wp2_with fail
            go_meet
            exact ⟨rfl, rfl⟩
          case true =>
            have hs := HSV.out rfl
            have hl := leastZ_ok a b
            rw [← hs] at hl
            have g1 : decide (a < s) = false := decide_eq_false (by omega)
            have g2 : decide (b < s) = false := decide_eq_false (by omega)
            have r3 : binOp .gtr 3 SV (.int .i64 a) = pure (.bool false) := by rw [← HSVV.out, binOp_int_gtr', decide_eq_false (by omega)]
            have r4 : binOp .gtr 3 SV (.int .i64 b) = pure (.bool false) := by rw [← HSVV.out, binOp_int_gtr', decide_eq_false (by omega)]
            by_cases hsa : s = a
            case pos =>
              have r1 : binOp .neq 3 SV (.int .i64 a) = pure (.bool false) := by rw [← HSVV.out, binOp_int_neq', hsa]; simp
              clear hsa hs hl
              go_wp2_with fail
              go_meet
              exact ⟨rfl, rfl⟩
            case neg =>
              have hsb : s = b := by rcases hl.1 with h | h <;> first | exact absurd h hsa | exact h
              have r1 : binOp .neq 3 SV (.int .i64 a) = pure (.bool true) := by rw [← HSVV.out, binOp_int_neq', show (s != a) = true from by simp [hsa]]
              have r2 : binOp .neq 3 SV (.int .i64 b) = pure (.bool false) := by rw [← HSVV.out, binOp_int_neq', hsb]; simp
              clear hsa hsb hs hl
              go_wp2_with fail
              go_meet
              exact ⟨rfl, rfl⟩
        case rest =>
          obtain ⟨rfl, rfl⟩ := hcut
          clear HSV HOK1 HUNDO HPQ HUV HOA HSVV r0 r9
          go_wp2_with fail
          refine (drawTropPower_c ad1 n1 cap1 _ hm1 K46.out).mono ?_
          rintro e w49 ⟨n, k, rfl, hb50⟩
          have K51 := Lib.hid (K46.out.below hb50); clear K46
          have K52 := Lib.hid (K47.out.below hb50); clear K47
          have bw53 := ball bw48 hb50
          clear bw48
          clear hb50
          have c1 := fun w => iTropPower_c n k w
          have c2 := fun w => sTropPower_c n k w
          have hst := fun h hk => pow_step (n := n) (k := k) h hk
          unfold pairR pairV at c1 c2
          obtain ⟨x, hx⟩ : ∃ x, (powR n k).1 = x := ⟨_, rfl⟩
          obtain ⟨f5, hf5⟩ : ∃ f, (powR n k).2 = f := ⟨_, rfl⟩
          rw [hx, hf5] at c1 c2
          rw [hf5] at hst
          have hpr : powR n k = (x, f5) := by rw [← hx, ← hf5]
          have C1 := Lib.hid c1; have C2 := Lib.hid c2; have HST := Lib.hid hst; have HPR := Lib.hid hpr; clear c1 c2 hst hpr hx hf5
          obtain ⟨fk, hfk⟩ : ∃ fk, (f5 && decide (0 < k)) = fk := ⟨_, rfl⟩
          have HFK := Lib.hid hfk; clear hfk
          go_wp2_with fail
          refine (C1.out _).mono ?_
          rintro e w54 ⟨rfl, hb55⟩
          have K56 := Lib.hid (K51.out.below hb55); clear K51
          have K57 := Lib.hid (K52.out.below hb55); clear K52
          have bw58 := ball bw53 hb55
          clear bw53
          clear hb55
          go_wp2_with fail
          refine (C2.out _).mono ?_
          rintro e w59 ⟨rfl, hb60⟩
          have K61 := Lib.hid (K56.out.below hb60); clear K56
          have K62 := Lib.hid (K57.out.below hb60); clear K57
          have bw63 := ball bw58 hb60
          clear bw58
          clear hb60
          clear C1 C2
          go_upto_region 27 with fail
          go_cut [217] from 217 to 217 (fun s wc => s = .bool fk ∧ w59 = wc)
          case first =>
            have hfk := HFK.out
            subst hfk
            cases f5
            all_goals
              go_wp2_with fail
              go_meet
              exact ⟨by simp, rfl⟩
          case rest =>
            obtain ⟨rfl, rfl⟩ := hcut
            go_upto_if 217 with fail
            go_cut [] from 217 to 217 (fun wc => Below w59.heap.size w59 wc)
            case first =>
              cases fk
              case false =>
                go_wp2_with fail
                go_meet
                exact Below.refl _ _
              case true =>
                obtain ⟨h1, h2⟩ := Bool.and_eq_true_iff.1 HFK.out
                subst h1
                have hk := of_decide_eq_true h2
                obtain ⟨h3, h4⟩ := HST.out rfl hk
                rw [HPR.out] at h4
                have hkb : k ≤ 20 := by
                  have h5 := HPR.out
                  unfold powR at h5
                  by_cases hc : numB n = true ∧ inB k 0 20 = true
                  · exact (inB_t.1 hc.2).2
                  · rw [if_neg hc] at h5; injection h5 with _ h6; exact absurd h6 (by simp)
                have d1 := fun w => iTropPower_c n (k - 1) w
                unfold pairR pairV at d1
                rw [h3] at d1
                have d2 := fun w => iTropProduct_c (powR n (k - 1)).1 n w
                rw [h4] at d2
                unfold pairR pairV at d2
                generalize (powR n (k - 1)).1 = y at d1 d2
                have wk : IntKind.i64.wrap (k - 1) = k - 1 := i64_small (by omega) (by omega)
                have D1 := Lib.hid d1; have D2 := Lib.hid d2; clear d1 d2 h2 h3 h4 hk hkb
                go_wp2_with fail
                refine (D1.out _).mono ?_
                rintro e wa ⟨rfl, hba⟩
                go_wp2_with fail
                refine (D2.out _).mono ?_
                rintro e wb ⟨rfl, hbb⟩
                go_wp2_with fail
                go_meet
                exact ball hba hbb
            case rest =>
              obtain ⟨wx, rfl⟩ : ∃ wx : World, wx = wc := ⟨_, rfl⟩
              have K64 := Lib.hid (K61.out.below hcut); clear K61
              have K65 := Lib.hid (K62.out.below hcut); clear K62
              have bw66 := ball bw63 hcut
              clear bw63
              clear hcut
              clear HST HPR HFK
              go_wp2_with fail
              refine (C9.out _ K65.out).mono ?_
              rintro e w67 ⟨rfl, hb68⟩
              have K69 := Lib.hid (K64.out.below hb68); clear K64
              have K70 := Lib.hid (K65.out.below hb68); clear K65
              have bw71 := ball bw66 hb68
              clear bw66
              clear hb68
              go_wp2_with fail
              refine (C10.out _).mono ?_
              rintro e w72 ⟨rfl, hb73⟩
              have K74 := Lib.hid (K69.out.below hb73); clear K69
              have K75 := Lib.hid (K70.out.below hb73); clear K70
              have bw76 := ball bw71 hb73
              clear bw71
              clear hb73
              go_wp2_with fail
              refine (drawParseNumber_c ad1 n1 cap1 _ hm1 K74.out).mono ?_
              rintro e w77 ⟨z, rfl, hz, hb78⟩
              have K79 := Lib.hid (K74.out.below hb78); clear K74
              have K80 := Lib.hid (K75.out.below hb78); clear K75
              have bw81 := ball bw76 hb78
              clear bw76
              clear hb78
              have c1 := fun w hL => iParseNumber_c z w (by omega) hL
              have c2 := fun w => sParseNumber_c z w (by omega)
              rw [parse_same] at c2
              unfold pairQ at c1 c2
              generalize parseR z.toList = r at c1 c2
              have C1 := Lib.hid c1; have C2 := Lib.hid c2; clear c1 c2
              go_wp2_with fail
              refine (C1.out _ K80.out).mono ?_
              rintro e w82 ⟨rfl, hb83⟩
              have K84 := Lib.hid (K79.out.below hb83); clear K79
              have K85 := Lib.hid (K80.out.below hb83); clear K80
              have bw86 := ball bw81 hb83
              clear bw81
              clear hb83
              go_wp2_with fail
              refine (C2.out _).mono ?_
              rintro e w87 ⟨rfl, hb88⟩
              have K89 := Lib.hid (K84.out.below hb88); clear K84
              have K90 := Lib.hid (K85.out.below hb88); clear K85
              have bw91 := ball bw86 hb88
              clear bw86
              clear hb88
              cases u
              case false =>
                go_wp2_with fail
                go_ret
                exact ⟨rfl, bw91⟩
              case true =>
                have hl := HTL.out
                have hz2 := HTZ.out
                rw [if_pos rfl] at hl hz2
                have hle := HLEN.out rfl
                have c3 := fun w hL => iParseNumber_c ts w (by omega) hL
                rw [hl, HBK.out rfl] at c3
                unfold pairQ at c3
                have C3 := Lib.hid c3; clear c3 hl hz2 hle
                go_wp2_with fail
                refine (C3.out _ K90.out).mono ?_
                rintro e wz ⟨rfl, hbz⟩
                go_wp2_with fail
                go_ret
                exact ⟨ret_bool (by simp), ball bw91 hbz⟩

end Go.Proofs.YtgicdaomlgepjaaDoor
