/-
  'laws.FnWinnable' returns true at every input and leaves its arguments as they were: no condition. Printed by gen_lawW.py.
-/
import Derived.Test.YtmhmdbmiimpbnaaGamesO
import Derived.Test.YtmhmdbmiimpbnaaDrawK
import Derived.Test.YtmhmdbmiimpbnaaOpenB
import Derived.Deep.DeepCutAuto
namespace Go.Proofs.Ytmhmdbmiimpbnaa
open Go.ChangeShapes Go.WideShapes Go.ChangeAt Go.RowKit

theorem win_g (n : Int) (ls : List Lk) (d : List Int) : isWinnableR n ls d = (askB n ls d 0 && winB n ls d, askB n ls d 0) := by unfold isWinnableR; cases askB n ls d 0 <;> rfl
theorem won_g (n : Int) (ls : List Lk) (d : List Int) : wonR n ls d = ((wonR n ls d).1, askB n ls d 0 && winB n ls d) := by unfold wonR; cases askB n ls d 0 <;> cases winB n ls d <;> rfl
theorem lack_g (n : Int) (ls : List Lk) (d : List Int) (q : Int) : lackingR n ls d q = ((lackingR n ls d q).1, askB n ls d q) := by unfold lackingR; cases askB n ls d q <;> rfl
theorem eqv_g (n : Int) (ls : List Lk) (x y : List Int) : equivR n ls x y = ((equivR n ls x y).1, askB n ls x 0 && askB n ls y 0) := by unfold equivR; cases askB n ls x 0 <;> cases askB n ls y 0 <;> rfl
theorem ask_all {n : Int} {ls : List Lk} {d : List Int} {q : Int} (h : askB n ls d q = true) : ∀ x ∈ d, -1000000000000 ≤ x ∧ x ≤ 1000000000000 := fun x hx => by
  obtain ⟨_, _, _, hda⟩ := gameB_t (askB_t h).1
  obtain ⟨j, hj, rfl⟩ := List.getElem_of_mem hx
  have := allB_t.1 hda j hj
  rw [List.getD_eq_getElem?_getD, List.getElem?_eq_getElem hj, Option.getD_some] at this
  omega

set_option maxHeartbeats 64000000 in
set_option maxRecDepth 100000 in
theorem lawWinnable_any (ad0 : Option Addr) (n0 cap0 : Nat) (ad1 : Option Addr) (n1 cap1 : Nat) (w : World) (hm0 : n0 ≤ 9223372036854775807) (hr0 : RdB w ad0 n0) (hm1 : n1 ≤ 9223372036854775807) (hr1 : RdB w ad1 n1) :
    Calls Try.prog 4 #[.slice ad0 n0 cap0, .slice ad1 n1 cap1] w fun e w' => e = .returned (.bool true) ∧ Below w.heap.size w w' := by
  have bw0 := Below.refl w.heap.size w
  have K1 := Lib.hid hr0; clear hr0
  have K2 := Lib.hid hr1; clear hr1
  obtain ⟨tb, htb⟩ : ∃ tb : Bool, decide (1048576 < wrap64 ((n0 : Int) + (n1 : Int))) = tb := ⟨_, rfl⟩
  cases tb
  case true =>
    go_enter Try.func4, Try.ntmps4
    go_wp2_with fail
    go_ret
    exact ⟨rfl, bw0⟩
  case false =>
    go_enter Try.func4, Try.ntmps4
    go_wp2_with fail
    refine (drawIsWinnable_c ad0 n0 cap0 _ hm0 K1.out).mono ?_
    rintro e w3 ⟨m, adl, capl, ls, u, d, rfl, ⟨hm1', hm2', hls, hdl, hsm⟩, hrl, hrv, hb4⟩
    have K5 := Lib.hid (K1.out.below hb4); clear K1
    have K6 := Lib.hid (K2.out.below hb4); clear K2
    have bw7 := ball bw0 hb4
    clear bw0
    clear hb4
    clear htb
    obtain ⟨add, capd, rfl, hrd⟩ := hrv
    have HSM := Lib.hid hsm; clear hsm
    have K8 := Lib.hid hrl; clear hrl
    have K9 := Lib.hid hrd; clear hrd
    have c1 := fun w h h' => implWin_o m adl capl ls add capd d w (by omega) h (by omega) h'
    have c2 := fun w h h' => specWin_o m adl capl ls add capd d w (by omega) h (by omega) h'
    have c3 := fun w h h' => implWon_o m adl capl ls add capd d w (by omega) h (by omega) h'
    have c4 := fun w h h' => specWon_o m adl capl ls add capd d w (by omega) h (by omega) h'
    rw [win_g] at c1 c2
    rw [won_g] at c3 c4
    have hwl := wonR_len m ls d
    have hwn := Lib.hid (won_nn (n := m) (ls := ls) (d := d))
    have hak := Lib.hid (show askB m ls d 0 = askB m ls d 0 from rfl)
    have hwb := Lib.hid (show winB m ls d = winB m ls d from rfl)
    generalize (wonR m ls d).1 = chips at c3 c4 hwl hwn
    obtain ⟨ak, hak⟩ : ∃ ak, askB m ls d 0 = ak := ⟨_, rfl⟩
    obtain ⟨wn, hwb⟩ : ∃ wn, winB m ls d = wn := ⟨_, rfl⟩
    rw [hak, hwb] at c1 c2 c3 c4
    have HAK := Lib.hid hak; clear hak
    have HWB := Lib.hid hwb; clear hwb
    have C1 := Lib.hid c1; have C2 := Lib.hid c2; have C3 := Lib.hid c3; have C4 := Lib.hid c4
    clear c1 c2 c3 c4
    go_wp2_with fail
    refine (C1.out _ K8.out K9.out).mono ?_
    rintro e w10 ⟨rfl, hb11⟩
    have K12 := Lib.hid (K5.out.below hb11); clear K5
    have K13 := Lib.hid (K6.out.below hb11); clear K6
    have K14 := Lib.hid (K8.out.below hb11); clear K8
    have K15 := Lib.hid (K9.out.below hb11); clear K9
    have bw16 := ball bw7 hb11
    clear bw7
    clear hb11
    go_wp2_with fail
    refine (C2.out _ K14.out K15.out).mono ?_
    rintro e w17 ⟨rfl, hb18⟩
    have K19 := Lib.hid (K12.out.below hb18); clear K12
    have K20 := Lib.hid (K13.out.below hb18); clear K13
    have K21 := Lib.hid (K14.out.below hb18); clear K14
    have K22 := Lib.hid (K15.out.below hb18); clear K15
    have bw23 := ball bw16 hb18
    clear bw16
    clear hb18
    go_wp2_with fail
    refine (C3.out _ K21.out K22.out).mono ?_
    rintro e w24 ⟨v3, rfl, hv3, hb25⟩
    have K26 := Lib.hid (K19.out.below hb25); clear K19
    have K27 := Lib.hid (K20.out.below hb25); clear K20
    have K28 := Lib.hid (K21.out.below hb25); clear K21
    have K29 := Lib.hid (K22.out.below hb25); clear K22
    have bw30 := ball bw23 hb25
    clear bw23
    clear hb25
    have K31 := Lib.hid hv3; clear hv3
    go_wp2_with fail
    refine (C4.out _ K28.out K29.out).mono ?_
    rintro e w32 ⟨v4, rfl, hv4, hb33⟩
    have K34 := Lib.hid (K26.out.below hb33); clear K26
    have K35 := Lib.hid (K27.out.below hb33); clear K27
    have K36 := Lib.hid (K28.out.below hb33); clear K28
    have K37 := Lib.hid (K29.out.below hb33); clear K29
    have K38 := Lib.hid (K31.out.below hb33); clear K31
    have bw39 := ball bw30 hb33
    clear bw30
    clear hb33
    obtain ⟨ad4, cap4, rfl, hr4⟩ := hv4.rdV
    clear hv4
    have K40 := Lib.hid hr4; clear hr4
    go_upto_region 8 with fail
    go_cut [112] from 112 to 112 (fun s wc => s = .bool false ∧ Below w32.heap.size w32 wc)
    case first =>
      cases ak <;> cases wn
      all_goals
        go_wp2_with fail
        refine (qInts_v _ _ chips _ hwl K38.out.rdV ⟨ad4, cap4, rfl, K40.out⟩).mono ?_
        rintro e wq ⟨rfl, hbq⟩
        go_wp2_with fail
        go_meet
        exact ⟨rfl, hbq⟩
    case rest =>
      obtain ⟨rfl, hbc⟩ := hcut
      obtain ⟨wv, rfl⟩ : ∃ wv : World, wv = wc := ⟨_, rfl⟩
      have K41 := Lib.hid (K34.out.below hbc); clear K34
      have K42 := Lib.hid (K35.out.below hbc); clear K35
      have K43 := Lib.hid (K36.out.below hbc); clear K36
      have K44 := Lib.hid (K37.out.below hbc); clear K37
      have K45 := Lib.hid (K38.out.below hbc); clear K38
      have K46 := Lib.hid (K40.out.below hbc); clear K40
      have bw47 := ball bw39 hbc
      clear bw39
      clear hbc
      clear K41
      clear K45
      clear C1 C2 C3 C4
      go_upto_if 113 with fail
      go_cut [] from 113 to 113 (fun wc => Below wv.heap.size wv wc)
      case first =>
        cases ak
        case false =>
          go_wp2_with fail
          go_meet
          exact Below.refl _ _
        case true =>
          obtain ⟨g, hn1, hn2, _, _, hdN, hg, hc, hgm⟩ := ask_gr HAK.out
          obtain ⟨N, rfl⟩ : ∃ N : Nat, m = N := ⟨m.toNat, by omega⟩
          rw [Int.toNat_natCast] at hdN g
          obtain ⟨a, rfl⟩ := rd_some K44.out (by omega)
          have HGM := Lib.hid hgm; clear hgm hg hc g hm1' hm2'
          have HDN := Lib.hid hdN; clear hdN
          obtain ⟨iI, hiI0, hiI1, hiI2, hiI3⟩ := info_parts Try.infoI
          go_wp2_with fail
          go_loopw [16] (fun i wr => ∃ q : Nat, q ≤ N ∧ i = .int .i64 q ∧ Below wv.heap.size wv wr) (fun i _ => N - (intOf i).toNat)
          case atStart => exact ⟨0, by omega, rfl, Below.refl _ _⟩
          case round =>
            obtain ⟨q, hq, rfl, hbel⟩ := hrel
            by_cases hlt : q < N
            case neg =>
              go_wp2_with fail
              go_meet
              exact hbel
            case pos =>
              have hask := ask_q (q := (q : Int)) HGM.out (by omega) (by omega)
              have hlw := lack_win hask
              have d1 := fun w h h' => implLack_o N adl capl ls (some a) capd d q w (by omega) h (by omega) h'
              have d2 := fun w h h' => specLack_o N adl capl ls (some a) capd d q w (by omega) h (by omega) h'
              rw [lack_g, hask] at d1 d2
              have hle := lend_win (q := q) hask
              generalize hyy : d.getD q 0 = y at hle
              have HY := Lib.hid hyy; clear hyy
              have hk0 := hlw.2.1
              have hk1 := hlw.2.2.1
              have hlz := hlw.1
              rw [HWB.out] at hlz
              clear hlw hask
              generalize (lackingR N ls d q).1 = k at d1 d2 hk0 hk1 hlz hle
              have hlend := Lib.hid hle; clear hle
              have hkz : (k == 0) = wn := by rw [← hlz]; rfl
              clear hlz
              have D1 := Lib.hid d1; have D2 := Lib.hid d2; clear d1 d2
              have KL := Lib.hid (K43.out.below hbel)
              have KD := Lib.hid (K44.out.below hbel)
              have bwr := hbel
              clear hbel
              go_wp2_with fail
              refine (D1.out _ KL.out KD.out).mono ?_
              rintro e w48 ⟨rfl, hb49⟩
              have K50 := Lib.hid (KL.out.below hb49); clear KL
              have K51 := Lib.hid (KD.out.below hb49); clear KD
              have bw52 := ball bwr hb49
              clear bwr
              clear hb49
              go_wp2_with fail
              refine (D2.out _ K50.out K51.out).mono ?_
              rintro e w53 ⟨rfl, hb54⟩
              have K55 := Lib.hid (K50.out.below hb54); clear K50
              have K56 := Lib.hid (K51.out.below hb54); clear K51
              have bw57 := ball bw52 hb54
              clear bw52
              clear hb54
              have HO := Lib.hid (row_empty w53 3)
              have hbe : Below w53.heap.size w53 (w53.alloc (.cells #[] 3)) := (Below.refl _ _).alloc (Nat.le_refl _) _
              have HN := Lib.hid (K56.out.below hbe).news
              have hd0 : 0 < d.length := by have := HDN.out; omega
              have hwz : (wn != (k == 0)) = false := by rw [hkz]; cases wn <;> rfl
              go_upto_region 19 with (at_builtin; refine wpList_append_lies _ rfl _ _ 30 rfl w53.heap.size 3 iI _ 1 8 Try.underlying30 hiI0 hiI1 hiI2 hiI3 rfl (by omega) (.slice (some ⟨w53.heap.size, 0, none⟩) 0 0) 0 [] rfl HO.out a d.length capd (ints d) rfl (by rw [ints_length]; omega) HN.out (ints_oneCell d) hd0 (by unfold maxLen; omega) (by omega) (by simp) (w53.heap.size + 1) (by simp) ?_; intro gm capm wm hown hgrow hat hltx; clear hat)
              have hbm : Below w53.heap.size w53 wm := hbe.grown hgrow (by simp) (fun q e => by simp [Value.ownBlock] at e; omega)
              have HRW := Lib.hid (show RowI wm w53.heap.size (.slice (some ⟨gm, 0, none⟩) d.length capm) d from by simpa [RowI] using hown)
              clear hown hgrow
              have fz := World.ownsRow.frozenAt HRW.out q
              have cz := World.ownsRow.cellAt HRW.out q (by have := HDN.out; omega)
              rw [ints_get (show q < d.length by have := HDN.out; omega), HY.out] at cz
              have hyk := HSM.out.take (k := q) (by have := HDN.out; omega)
              rw [HY.out] at hyk
              have HST := Lib.hid (fun x => RowI.set HRW.out q x)
              have hgm : w53.heap.size ≤ gm := by
                have h := World.ownsRow.lt HRW.out gm rfl
                exact h.1
              have hx1 : (0 : Int) ≤ (q : Int) := by omega
              have hx2 : (q : Int) < (d.length : Int) := by have := HDN.out; omega
              have hadd : IntKind.i64.wrap (y + k) = y + k := i64_small (by omega) (by omega)
              have hls2 := Lib.hid (HST.out (y + k))
              have hlen2 : (d.set q (y + k)).length = d.length := List.length_set
              have e1 := fun w h h' => implWin_o N adl capl ls (some ⟨gm, 0, none⟩) capm (d.set q (y + k)) w (by omega) h (by omega) h'
              rw [win_g, hlen2] at e1
              have hbs : Below w53.heap.size w53 (wm.setCell ⟨gm, q, none⟩ (.int .i64 (y + k))) := hbm.setCell (p := ⟨gm, q, none⟩) hgm _
              have hrd2 := Lib.hid (RowI.rdc hls2.out)
              have hrl2 := Lib.hid (K55.out.below hbs)
              have hlw2 := Lib.hid (show askB N ls (d.set q (y + k)) 0 = true → winB N ls (d.set q (y + k)) = true from hlend.out)
              generalize askB N ls (d.set q (y + k)) 0 = kn at e1 hlw2
              generalize winB N ls (d.set q (y + k)) = wo at e1 hlw2
              clear hlen2 hls2 hlend HST
              generalize d.set q (y + k) = d2 at e1 hrd2
              have hkw : (kn && wo) = kn := by
                cases kn
                · rfl
                · simp [hlw2.out]
              rw [hkw] at e1
              clear hkw hlw2
              have E1 := Lib.hid e1; clear e1
              go_wp2_with fail
              refine (E1.out _ hrl2.out hrd2.out).mono ?_
              rintro e wx ⟨rfl, hbx⟩
              have HBX := Lib.hid (ball (ball bw57 hbs) hbx); clear hbx hadd
              go_upto_region 21 with fail
              go_cut [173] from 173 to 173 (fun s wc => s = .bool false ∧ wx = wc)
              case first =>
                cases kn
                all_goals
                  go_wp2_with fail
                  go_meet
                  exact ⟨rfl, rfl⟩
              case rest =>
                obtain ⟨rfl, rfl⟩ := hcut
                go_wp2_with fail
                go_roundw
                case rel => (repeat apply Exists.intro); exact ⟨⟨q + 1, by omega, by go_num, HBX.out⟩, rfl⟩
                case measure => simp [intOf]; omega
      case rest =>
        obtain ⟨wv2, rfl⟩ : ∃ wv : World, wv = wc := ⟨_, rfl⟩
        have K58 := Lib.hid (K42.out.below hcut); clear K42
        have K59 := Lib.hid (K43.out.below hcut); clear K43
        have K60 := Lib.hid (K44.out.below hcut); clear K44
        have K61 := Lib.hid (K46.out.below hcut); clear K46
        have bw62 := ball bw47 hcut
        clear bw47
        clear hcut
        go_wp2_with fail
        go_loopw [176] (fun i wr => ∃ k : Nat, k ≤ chips.length ∧ i = .int .i64 k ∧ Below wv2.heap.size wv2 wr) (fun i _ => chips.length - (intOf i).toNat)
        case atStart => exact ⟨0, by omega, rfl, Below.refl _ _⟩
        case round =>
          obtain ⟨k, hk, rfl, hbel⟩ := hrel
          by_cases hlt : k < chips.length
          case pos =>
            obtain ⟨b, off, rfl, hb, hc⟩ := K61.out k hlt
            have d1 := bcell hbel hb hc
            have hx := hwn.out (chips.getD k 0) (by rw [List.getD_eq_getElem?_getD, List.getElem?_eq_getElem hlt, Option.getD_some]; exact List.getElem_mem _)
            generalize chips.getD k 0 = x at d1 hx
            clear hc
            go_wp2_with fail
            go_roundw
            case rel => exact ⟨k + 1, by omega, by go_num, hbel⟩
            case measure => simp [intOf]; omega
          case neg =>
            obtain ⟨wo, rfl⟩ : ∃ wo : World, wo = wr := ⟨_, rfl⟩
            clear K59
            clear K60
            clear K61
            have K63 := Lib.hid (K58.out.below hbel); clear K58
            have bw64 := ball bw62 hbel
            clear bw62
            clear hbel
            clear HSM HAK HWB hwn
            go_wp2_with fail
            refine (drawAreEquivalent_c ad1 n1 cap1 _ hm1 K63.out).mono ?_
            rintro e w65 ⟨m2, adl2, capl2, ls2, u2, a2, u3, b2, rfl, ⟨_, _, hls2, hdl2, _⟩, hdl3, hrl2, hrv2, hrv3, hb66⟩
            have K67 := Lib.hid (K63.out.below hb66); clear K63
            have bw68 := ball bw64 hb66
            clear bw64
            clear hb66
            obtain ⟨ada, capa, rfl, hra⟩ := hrv2
            obtain ⟨adb, capb, rfl, hrb⟩ := hrv3
            have K69 := Lib.hid hrl2; clear hrl2
            have K70 := Lib.hid hra; clear hra
            have K71 := Lib.hid hrb; clear hrb
            have e1 := fun w h h' h2 => implEqv_o m2 adl2 capl2 ls2 ada capa a2 adb capb b2 w (by omega) h (by omega) h' (by omega) h2
            have e2 := fun w h h' h2 => specEqv_o m2 adl2 capl2 ls2 ada capa a2 adb capb b2 w (by omega) h (by omega) h' (by omega) h2
            have hew := Lib.hid (eqv_win (n := m2) (ls := ls2) (x := a2) (y := b2))
            have heq := Lib.hid (show equivR m2 ls2 a2 b2 = equivR m2 ls2 a2 b2 from rfl)
            generalize equivR m2 ls2 a2 b2 = r2 at e1 e2 hew
            clear heq
            obtain ⟨eq, kq⟩ := r2
            have E1 := Lib.hid e1; have E2 := Lib.hid e2; clear e1 e2
            go_wp2_with fail
            refine (E1.out _ K69.out K70.out K71.out).mono ?_
            rintro e w72 ⟨rfl, hb73⟩
            have K74 := Lib.hid (K67.out.below hb73); clear K67
            have K75 := Lib.hid (K69.out.below hb73); clear K69
            have K76 := Lib.hid (K70.out.below hb73); clear K70
            have K77 := Lib.hid (K71.out.below hb73); clear K71
            have bw78 := ball bw68 hb73
            clear bw68
            clear hb73
            go_wp2_with fail
            refine (E2.out _ K75.out K76.out K77.out).mono ?_
            rintro e w79 ⟨rfl, hb80⟩
            have K81 := Lib.hid (K74.out.below hb80); clear K74
            have K82 := Lib.hid (K75.out.below hb80); clear K75
            have K83 := Lib.hid (K76.out.below hb80); clear K76
            have K84 := Lib.hid (K77.out.below hb80); clear K77
            have bw85 := ball bw78 hb80
            clear bw78
            clear hb80
            go_wp2_with fail
            refine (drawLackingAt_c ad1 n1 cap1 _ hm1 K81.out).mono ?_
            rintro e w86 ⟨m4, adl4, capl4, ls4, u4, d4, q4, rfl, ⟨_, _, hls4, hdl4, _⟩, hrl4, hrv4, hb87⟩
            have K88 := Lib.hid (K81.out.below hb87); clear K81
            have K89 := Lib.hid (K82.out.below hb87); clear K82
            have K90 := Lib.hid (K83.out.below hb87); clear K83
            have K91 := Lib.hid (K84.out.below hb87); clear K84
            have bw92 := ball bw85 hb87
            clear bw85
            clear hb87
            obtain ⟨add4, capd4, rfl, hrd4⟩ := hrv4
            have K93 := Lib.hid hrl4; clear hrl4
            have K94 := Lib.hid hrd4; clear hrd4
            have e3 := fun w h h' => implLack_o m4 adl4 capl4 ls4 add4 capd4 d4 q4 w (by omega) h (by omega) h'
            have e4 := fun w h h' => specLack_o m4 adl4 capl4 ls4 add4 capd4 d4 q4 w (by omega) h (by omega) h'
            generalize lackingR m4 ls4 d4 q4 = r4 at e3 e4
            obtain ⟨k4, f4⟩ := r4
            have E3 := Lib.hid e3; have E4 := Lib.hid e4; clear e3 e4 E1 E2
            go_wp2_with fail
            refine (E3.out _ K93.out K94.out).mono ?_
            rintro e w95 ⟨rfl, hb96⟩
            have K97 := Lib.hid (K88.out.below hb96); clear K88
            have K98 := Lib.hid (K89.out.below hb96); clear K89
            have K99 := Lib.hid (K90.out.below hb96); clear K90
            have K100 := Lib.hid (K91.out.below hb96); clear K91
            have K101 := Lib.hid (K93.out.below hb96); clear K93
            have K102 := Lib.hid (K94.out.below hb96); clear K94
            have bw103 := ball bw92 hb96
            clear bw92
            clear hb96
            go_wp2_with fail
            refine (E4.out _ K101.out K102.out).mono ?_
            rintro e w104 ⟨rfl, hb105⟩
            have K106 := Lib.hid (K97.out.below hb105); clear K97
            have K107 := Lib.hid (K98.out.below hb105); clear K98
            have K108 := Lib.hid (K99.out.below hb105); clear K99
            have K109 := Lib.hid (K100.out.below hb105); clear K100
            have K110 := Lib.hid (K101.out.below hb105); clear K101
            have K111 := Lib.hid (K102.out.below hb105); clear K102
            have bw112 := ball bw103 hb105
            clear bw103
            clear hb105
            clear K106
            clear K110
            clear K111
            clear E3 E4 hls4 hdl4
            go_upto_region 35 with fail
            go_cut [246] from 246 to 246 (fun s wc => s = .bool false ∧ w104 = wc)
            case first =>
              cases eq <;> cases kq <;> cases f4
              all_goals
                go_wp2_with fail
                go_meet
                exact ⟨rfl, rfl⟩
            case rest =>
              obtain ⟨rfl, rfl⟩ := hcut
              cases eq
              case false =>
                cases kq
                all_goals
                  go_wp2_with fail
                  go_ret
                  exact ⟨rfl, bw112⟩
              case true =>
                obtain ⟨hk1, ha1, ha2, hww, hss⟩ := hew.out rfl
                subst hk1
                have hab := Lib.hid (ask_all ha1)
                have hbb := Lib.hid (ask_all ha2)
                have f1 := fun w h h' => implWin_o m2 adl2 capl2 ls2 ada capa a2 w (by omega) h (by omega) h'
                have f2 := fun w h h' => implWin_o m2 adl2 capl2 ls2 adb capb b2 w (by omega) h (by omega) h'
                rw [win_g, ha1, Bool.true_and] at f1
                rw [win_g, ha2, Bool.true_and, ← hww] at f2
                have g1 := fun w h => qSum_v (.slice ada a2.length capa) a2 w (by omega) hab.out h
                have g2 := fun w h => qSum_v (.slice adb b2.length capb) b2 w (by omega) hbb.out h
                rw [← hss] at g2
                generalize winB m2 ls2 a2 = wn2 at f1 f2
                generalize isum a2 = s2 at g1 g2
                have F1 := Lib.hid f1; have F2 := Lib.hid f2; have G1 := Lib.hid g1; have G2 := Lib.hid g2; clear f1 f2 g1 g2 hew ha1 ha2 hww hss hab hbb
                go_wp2_with fail
                refine (F1.out _ K107.out K108.out).mono ?_
                rintro e w113 ⟨rfl, hb114⟩
                have K115 := Lib.hid (K107.out.below hb114); clear K107
                have K116 := Lib.hid (K108.out.below hb114); clear K108
                have K117 := Lib.hid (K109.out.below hb114); clear K109
                have bw118 := ball bw112 hb114
                clear bw112
                clear hb114
                go_wp2_with fail
                refine (F2.out _ K115.out K117.out).mono ?_
                rintro e w119 ⟨rfl, hb120⟩
                have K121 := Lib.hid (K115.out.below hb120); clear K115
                have K122 := Lib.hid (K116.out.below hb120); clear K116
                have K123 := Lib.hid (K117.out.below hb120); clear K117
                have bw124 := ball bw118 hb120
                clear bw118
                clear hb120
                cases wn2
                all_goals
                  go_wp2_with fail
                  refine (G1.out _ ⟨ada, capa, rfl, K122.out⟩).mono ?_
                  rintro e w' ⟨rfl, rfl⟩
                  go_wp2_with fail
                  refine (G2.out _ ⟨adb, capb, rfl, K123.out⟩).mono ?_
                  rintro e w' ⟨rfl, rfl⟩
                  go_wp2_with fail
                  go_ret
                  exact ⟨rfl, bw124⟩

end Go.Proofs.Ytmhmdbmiimpbnaa
