/-
  'laws.FnReduced' returns true at every input and leaves its arguments as they were: no condition. Printed by gen_lawR.py.
-/
import Derived.Test.YtmhmdbmiimpbnaaGamesO
import Derived.Test.YtmhmdbmiimpbnaaDrawK
import Derived.Test.YtmhmdbmiimpbnaaOpenB
import Derived.Test.YtmhmdbmiimpbnaaSame
import Derived.Deep.DeepCutAuto
namespace Go.Proofs.Ytmhmdbmiimpbnaa
open Go.ChangeShapes Go.WideShapes Go.ChangeAt Go.RowKit

theorem chips_g (n : Int) (ls : List Lk) (d : List Int) (q : Int) : reduceChipsR n ls d q = ((reduceChipsR n ls d q).1, askB n ls d q) := by unfold reduceChipsR; cases askB n ls d q <;> rfl
theorem script_g (n : Int) (ls : List Lk) (d : List Int) (q : Int) : reducingScriptR n ls d q = ((reducingScriptR n ls d q).1, askB n ls d q) := by unfold reducingScriptR; cases askB n ls d q <;> rfl
theorem reduced_g (n : Int) (ls : List Lk) (d : List Int) (q : Int) : reducedR n ls d q = ((reducedR n ls d q).1, askB n ls d q) := by unfold reducedR; cases askB n ls d q <;> rfl
theorem burnt_g (n : Int) (ls : List Lk) (d : List Int) (q : Int) : burntR n ls d q = ((burntR n ls d q).1, askB n ls d q && !owesB n.toNat q.toNat (fd d)) := by unfold burntR; cases askB n ls d q <;> cases owesB n.toNat q.toNat (fd d) <;> rfl
theorem sets_g (n : Int) (ls : List Lk) (d : List Int) (q : Int) : legalSetsR n ls d q = ((legalSetsR n ls d q).1, askB n ls d q && !owesB n.toNat q.toNat (fd d)) := by unfold legalSetsR; cases askB n ls d q <;> cases owesB n.toNat q.toNat (fd d) <;> rfl
theorem fire_eq {n : Int} {ls : List Lk} {d s : List Int} (h : (fireScriptR n ls d s).2 = true) : (fireScriptR n ls d s).1 = resF n ls d s := by
  unfold fireScriptR tellR at h ⊢
  split at h
  · rename_i h1
    rw [if_pos h1]
    split at h
    · rename_i h2; rw [if_pos h2]
    · simp at h
  · simp at h
theorem red_bd {n : Int} {ls : List Lk} {d : List Int} {q : Int} (h : askB n ls d q = true) : ∀ x ∈ (reduceChipsR n ls d q).1, -1000000000000 ≤ x ∧ x ≤ 1000000000000 := by
  obtain ⟨a, b, he, ha⟩ := red_all h
  unfold reduceChipsR
  rw [if_pos h, he]
  intro x hx
  obtain ⟨j, hj, rfl⟩ := List.mem_map.1 hx
  have hj := List.mem_range.1 hj
  by_cases e : j = q.toNat
  · subst e; have := ha.bd; omega
  · have := ha.lo j hj e; omega
theorem chips_bd {n : Int} {ls : List Lk} {d : List Int} {q : Int} (h : askB n ls d q = true) : ∀ x ∈ d, -1000000000000 ≤ x ∧ x ≤ 1000000000000 := fun x hx => by
  obtain ⟨_, _, _, hda⟩ := gameB_t (askB_t h).1
  obtain ⟨j, hj, rfl⟩ := List.getElem_of_mem hx
  have := allB_t.1 hda j hj
  rw [List.getD_eq_getElem?_getD, List.getElem?_eq_getElem hj, Option.getD_some] at this
  omega
theorem burn_all {n : Int} {ls : List Lk} {d : List Int} {q : Int} (h : askB n ls d q = true) (ho : owesB n.toNat q.toNat (fd d) = false) : q ∈ (burntR n ls d q).1 ∧ (reducedR n ls d q).1 = (((burntR n ls d q).1.length : Int) == n) ∧ (reducedR n ls d q).1 = (((legalSetsR n ls d q).1.length : Int) == 0) := by
  obtain ⟨g, hn1, hn2, hq0, hq1, hl, hg, hc, hgm⟩ := ask_gr h
  unfold burntR reducedR legalSetsR
  rw [if_pos ⟨h, ho⟩, if_pos h, if_pos ⟨h, ho⟩, ho]
  simp only [Bool.not_false, Bool.true_and]
  refine ⟨selF_mem.2 ⟨q.toNat, by omega, by omega, burnB_q _ _⟩, ?_, ?_⟩
  · rw [← full_len, Bool.eq_iff_iff, decide_eq_true_iff, beq_iff_eq]; omega
  · rw [Bool.eq_iff_iff, full_legal g (show q.toNat < n.toNat by omega), beq_iff_eq, ← List.length_eq_zero_iff]; omega

set_option maxHeartbeats 64000000 in
set_option maxRecDepth 100000 in
theorem lawReduced_any (ad0 : Option Addr) (n0 cap0 : Nat) (ad1 : Option Addr) (n1 cap1 : Nat) (w : World) (hm0 : n0 ≤ 9223372036854775807) (hr0 : RdB w ad0 n0) (hm1 : n1 ≤ 9223372036854775807) (hr1 : RdB w ad1 n1) :
    Calls Try.prog 5 #[.slice ad0 n0 cap0, .slice ad1 n1 cap1] w fun e w' => e = .returned (.bool true) ∧ Below w.heap.size w w' := by
  have bw0 := Below.refl w.heap.size w
  have K1 := Lib.hid hr0; clear hr0
  have K2 := Lib.hid hr1; clear hr1
  obtain ⟨tb, htb⟩ : ∃ tb : Bool, decide (1048576 < wrap64 ((n0 : Int) + (n1 : Int))) = tb := ⟨_, rfl⟩
  cases tb
  case true =>
    go_enter Try.func5, Try.ntmps5
    go_wp2_with fail
    go_ret
    exact ⟨rfl, bw0⟩
  case false =>
    go_enter Try.func5, Try.ntmps5
    go_wp2_with fail
    refine (drawReduceChips_c ad0 n0 cap0 _ hm0 K1.out).mono ?_
    rintro e w3 ⟨m, adl, capl, ls, u, d, q, rfl, ⟨hm1', hm2', hls, hdl, hsm⟩, hrl, hrv, hb4⟩
    have K5 := Lib.hid (K1.out.below hb4); clear K1
    have K6 := Lib.hid (K2.out.below hb4); clear K2
    have bw7 := ball bw0 hb4
    clear bw0
    clear hb4
    clear htb hsm
    obtain ⟨add, capd, rfl, hrd⟩ := hrv
    have K8 := Lib.hid hrl; clear hrl
    have K9 := Lib.hid hrd; clear hrd
    have c1 := fun w h h' => implChips_o m adl capl ls add capd d q w (by omega) h (by omega) h'
    have c2 := fun w h h' => specChips_o m adl capl ls add capd d q w (by omega) h (by omega) h'
    have c3 := fun w h h' => implScript_o m adl capl ls add capd d q w (by omega) h (by omega) h'
    have c4 := fun w h h' => specScript_o m adl capl ls add capd d q w (by omega) h (by omega) h'
    rw [chips_g] at c1 c2
    rw [script_g] at c3 c4
    have hrlen := reduceChipsR_len m ls d q
    have hslen := reducingScriptR_len m ls d q
    have hall := Lib.hid (red_more (n := m) (ls := ls) (d := d) (q := q))
    have hfire := Lib.hid (red_fire (n := m) (ls := ls) (d := d) (q := q))
    have his := Lib.hid (red_is (n := m) (ls := ls) (d := d) (q := q))
    have hsame := Lib.hid (red_same (n := m) (ls := ls) (d := d) (q := q))
    have hbd := Lib.hid (red_bd (n := m) (ls := ls) (d := d) (q := q))
    generalize (reduceChipsR m ls d q).1 = r at c1 c2 hrlen hall hfire his hsame hbd
    generalize (reducingScriptR m ls d q).1 = sc at c3 c4 hslen hall hfire
    obtain ⟨ak, hak⟩ : ∃ ak, askB m ls d q = ak := ⟨_, rfl⟩
    rw [hak] at c1 c2 c3 c4
    have HAK := Lib.hid hak; clear hak
    have C1 := Lib.hid c1; have C2 := Lib.hid c2; have C3 := Lib.hid c3; have C4 := Lib.hid c4
    clear c1 c2 c3 c4
    go_wp2_with fail
    refine (C1.out _ K8.out K9.out).mono ?_
    rintro e w10 ⟨v1, rfl, hv1, hb11⟩
    have K12 := Lib.hid (K5.out.below hb11); clear K5
    have K13 := Lib.hid (K6.out.below hb11); clear K6
    have K14 := Lib.hid (K8.out.below hb11); clear K8
    have K15 := Lib.hid (K9.out.below hb11); clear K9
    have bw16 := ball bw7 hb11
    clear bw7
    clear hb11
    obtain ⟨adx1, capx1, rfl, hr1⟩ := hv1.rdV
    clear hv1
    have K17 := Lib.hid hr1; clear hr1
    go_wp2_with fail
    refine (C2.out _ K14.out K15.out).mono ?_
    rintro e w18 ⟨v2, rfl, hv2, hb19⟩
    have K20 := Lib.hid (K12.out.below hb19); clear K12
    have K21 := Lib.hid (K13.out.below hb19); clear K13
    have K22 := Lib.hid (K14.out.below hb19); clear K14
    have K23 := Lib.hid (K15.out.below hb19); clear K15
    have K24 := Lib.hid (K17.out.below hb19); clear K17
    have bw25 := ball bw16 hb19
    clear bw16
    clear hb19
    obtain ⟨adx2, capx2, rfl, hr2⟩ := hv2.rdV
    clear hv2
    have K26 := Lib.hid hr2; clear hr2
    go_wp2_with fail
    refine (C3.out _ K22.out K23.out).mono ?_
    rintro e w27 ⟨v3, rfl, hv3, hb28⟩
    have K29 := Lib.hid (K20.out.below hb28); clear K20
    have K30 := Lib.hid (K21.out.below hb28); clear K21
    have K31 := Lib.hid (K22.out.below hb28); clear K22
    have K32 := Lib.hid (K23.out.below hb28); clear K23
    have K33 := Lib.hid (K24.out.below hb28); clear K24
    have K34 := Lib.hid (K26.out.below hb28); clear K26
    have bw35 := ball bw25 hb28
    clear bw25
    clear hb28
    obtain ⟨adx3, capx3, rfl, hr3⟩ := hv3.rdV
    clear hv3
    have K36 := Lib.hid hr3; clear hr3
    go_wp2_with fail
    refine (C4.out _ K31.out K32.out).mono ?_
    rintro e w37 ⟨v4, rfl, hv4, hb38⟩
    have K39 := Lib.hid (K29.out.below hb38); clear K29
    have K40 := Lib.hid (K30.out.below hb38); clear K30
    have K41 := Lib.hid (K31.out.below hb38); clear K31
    have K42 := Lib.hid (K32.out.below hb38); clear K32
    have K43 := Lib.hid (K33.out.below hb38); clear K33
    have K44 := Lib.hid (K34.out.below hb38); clear K34
    have K45 := Lib.hid (K36.out.below hb38); clear K36
    have bw46 := ball bw35 hb38
    clear bw35
    clear hb38
    obtain ⟨adx4, capx4, rfl, hr4⟩ := hv4.rdV
    clear hv4
    have K47 := Lib.hid hr4; clear hr4
    clear C1 C2 C3 C4
    go_upto_region 8 with fail
    go_cut [110] from 110 to 110 (fun s wc => s = .bool false ∧ Below w37.heap.size w37 wc)
    case first =>
      cases ak
      all_goals
        go_wp2_with fail
        refine (qInts_v _ _ r _ hrlen ⟨adx1, capx1, rfl, K43.out⟩ ⟨adx2, capx2, rfl, K44.out⟩).mono ?_
        rintro e wq ⟨rfl, hbq⟩
        go_wp2_with fail
        refine (qInts_v _ _ sc _ hslen ⟨adx3, capx3, rfl, K45.out.below hbq⟩ ⟨adx4, capx4, rfl, K47.out.below hbq⟩).mono ?_
        rintro e wq2 ⟨rfl, hbq2⟩
        go_wp2_with fail
        go_meet
        exact ⟨rfl, ball hbq hbq2⟩
    case rest =>
      obtain ⟨rfl, hbc⟩ := hcut
      obtain ⟨wv, rfl⟩ : ∃ wv : World, wv = wc := ⟨_, rfl⟩
      have K48 := Lib.hid (K39.out.below hbc); clear K39
      have K49 := Lib.hid (K40.out.below hbc); clear K40
      have K50 := Lib.hid (K41.out.below hbc); clear K41
      have K51 := Lib.hid (K42.out.below hbc); clear K42
      have K52 := Lib.hid (K43.out.below hbc); clear K43
      have K53 := Lib.hid (K44.out.below hbc); clear K44
      have K54 := Lib.hid (K45.out.below hbc); clear K45
      have K55 := Lib.hid (K47.out.below hbc); clear K47
      have bw56 := ball bw46 hbc
      clear bw46
      clear hbc
      go_upto_if 111 with fail
      go_cut [] from 111 to 111 (fun wc => Below wv.heap.size wv wc)
      case first =>
        cases ak
        case false =>
          go_wp2_with fail
          go_meet
          exact Below.refl _ _
        case true =>
          clear K48
          clear K49
          obtain ⟨g, hn1, hn2, hq0, hq1, hdN, hg, hc, hgm⟩ := ask_gr HAK.out
          clear g hg hc hgm
          obtain ⟨N, rfl⟩ : ∃ N : Nat, m = N := ⟨m.toNat, by omega⟩
          obtain ⟨Q, rfl⟩ : ∃ Q : Nat, q = Q := ⟨q.toNat, by omega⟩
          obtain ⟨hsum, hs0, hnn, hrl2, hsl2⟩ := hall.out HAK.out
          rw [Int.toNat_natCast] at hdN hrl2 hsl2
          rw [Int.toNat_natCast] at hs0
          obtain ⟨a, rfl⟩ := rd_some K51.out (by omega)
          obtain ⟨a3, rfl⟩ := rd_some K54.out (by omega)
          have HNN := Lib.hid hnn; clear hnn
          have f1 := fun w h h' h2 => implFireScript_c N adl capl ls a capd d a3 capx3 sc w (by omega) h (by omega) h' (by omega) h2
          have hfs := Lib.hid (fun h => (fire_eq (n := N) (ls := ls) (d := d) (s := sc) h).trans (hfire.out HAK.out))
          have hfl := fireScriptR_len N ls d sc
          have his2 := Lib.hid (his.out HAK.out)
          have hsame2 := Lib.hid (hsame.out HAK.out)
          have hrb := Lib.hid (hbd.out HAK.out)
          have hdb := Lib.hid (chips_bd HAK.out)
          have f2 := fun w h h' => implReduced_o N adl capl ls adx1 capx1 r Q w (by omega) h (by omega) h'
          have f3 := fun w h h' h2 => implEqv_o N adl capl ls (some a) capd d adx1 capx1 r w (by omega) h (by omega) h' (by omega) h2
          clear hall hfire his hsame hbd
          generalize fireScriptR N ls d sc = fp at f1 hfs hfl
          generalize reducedR N ls r Q = rp at f2 his2
          generalize equivR N ls d r = ep at f3 hsame2
          obtain ⟨fs, kf⟩ := fp
          obtain ⟨ib, kb⟩ := rp
          obtain ⟨eb, ke⟩ := ep
          have F1 := Lib.hid f1; have F2 := Lib.hid f2; have F3 := Lib.hid f3; clear f1 f2 f3
          have g4 := fun w h => qSum_v (.slice adx2 r.length capx2) r w (by omega) hrb.out h
          have g5 := fun w h => qSum_v (.slice (some a) d.length capd) d w (by omega) hdb.out h
          rw [hsum] at g4
          generalize isum d = sm at g4 g5 hsum
          have G4 := Lib.hid g4; have G5 := Lib.hid g5; clear g4 g5 hrb hdb hsum
          have HS0 := Lib.hid hs0
          have hQN : Q < N := by omega
          have HDN := Lib.hid hdN; have HRL := Lib.hid hrl2; have HSL := Lib.hid hsl2
          clear hs0 HAK hm1' hm2' hq0 hq1 hdN hrl2 hsl2
          go_wp2_with fail
          refine (F1.out _ K50.out K51.out K54.out).mono ?_
          rintro e w57 ⟨v5, rfl, hv5, hb58⟩
          have K59 := Lib.hid (K50.out.below hb58); clear K50
          have K60 := Lib.hid (K51.out.below hb58); clear K51
          have K61 := Lib.hid (K52.out.below hb58); clear K52
          have K62 := Lib.hid (K53.out.below hb58); clear K53
          have K63 := Lib.hid (K54.out.below hb58); clear K54
          have K64 := Lib.hid (K55.out.below hb58); clear K55
          have bw65 := hb58
          clear hb58
          have K66 := Lib.hid hv5; clear hv5
          go_wp2_with fail
          refine (F2.out _ K59.out K61.out).mono ?_
          rintro e w67 ⟨rfl, hb68⟩
          have K69 := Lib.hid (K59.out.below hb68); clear K59
          have K70 := Lib.hid (K60.out.below hb68); clear K60
          have K71 := Lib.hid (K61.out.below hb68); clear K61
          have K72 := Lib.hid (K62.out.below hb68); clear K62
          have K73 := Lib.hid (K63.out.below hb68); clear K63
          have K74 := Lib.hid (K64.out.below hb68); clear K64
          have K75 := Lib.hid (K66.out.below hb68); clear K66
          have bw76 := ball bw65 hb68
          clear bw65
          clear hb68
          go_wp2_with fail
          refine (F3.out _ K69.out K70.out K71.out).mono ?_
          rintro e w77 ⟨rfl, hb78⟩
          have K79 := Lib.hid (K69.out.below hb78); clear K69
          have K80 := Lib.hid (K70.out.below hb78); clear K70
          have K81 := Lib.hid (K71.out.below hb78); clear K71
          have K82 := Lib.hid (K72.out.below hb78); clear K72
          have K83 := Lib.hid (K73.out.below hb78); clear K73
          have K84 := Lib.hid (K74.out.below hb78); clear K74
          have K85 := Lib.hid (K75.out.below hb78); clear K75
          have bw86 := ball bw76 hb78
          clear bw76
          clear hb78
          clear F1 F2 F3
          clear K79
          clear K81
          clear K83
          go_upto_region 14 with fail
          go_cut [170] from 170 to 170 (fun s wc => s = .bool false ∧ Below w77.heap.size w77 wc)
          case first =>
            obtain ⟨b4, off4, rfl, hb4, hc4⟩ := K84.out Q (by have := HSL.out; omega)
            rw [HS0.out] at hc4
            have x1 : (0 : Int) ≤ (Q : Int) := by omega
            have x2 : (Q : Int) < (sc.length : Int) := by have := HSL.out; omega
            have hib : Hid (kb = true → ib = true) := Lib.hid his2.out
            have heb : Hid (ke = true → eb = true) := Lib.hid hsame2.out
            have hfe : Hid (kf = true → fs = r) := Lib.hid hfs.out
            clear his2 hsame2 hfs
            cases kf
            case false =>
              clear hfe
              cases kb <;> cases ke
              all_goals
                try (obtain rfl := hib.out rfl)
                try (obtain rfl := heb.out rfl)
                clear hib heb
                go_wp2_with fail
                refine (G4.out _ ⟨adx2, capx2, rfl, K82.out⟩).mono ?_
                rintro e w' ⟨rfl, rfl⟩
                go_wp2_with fail
                refine (G5.out _ ⟨some a, capd, rfl, K80.out⟩).mono ?_
                rintro e w' ⟨rfl, rfl⟩
                go_wp2_with fail
                go_meet
                exact ⟨rfl, Below.refl _ _⟩
            case true =>
              obtain rfl := hfe.out rfl
              clear hfe
              cases kb <;> cases ke
              all_goals
                try (obtain rfl := hib.out rfl)
                try (obtain rfl := heb.out rfl)
                clear hib heb
                go_wp2_with fail
                refine (qInts_v _ _ fs _ (by omega) K85.out.rdV ⟨adx2, capx2, rfl, K82.out⟩).mono ?_
                rintro e wq ⟨rfl, hbq⟩
                have d4 := bcell hbq hb4 hc4
                clear hc4
                go_wp2_with fail
                refine (G4.out _ ⟨adx2, capx2, rfl, K82.out.below hbq⟩).mono ?_
                rintro e w' ⟨rfl, rfl⟩
                go_wp2_with fail
                refine (G5.out _ ⟨some a, capd, rfl, K80.out.below hbq⟩).mono ?_
                rintro e w' ⟨rfl, rfl⟩
                go_wp2_with fail
                go_meet
                exact ⟨rfl, hbq⟩
          case rest =>
            clear K80
            clear K84
            clear K85
            obtain ⟨rfl, hbc⟩ := hcut
            obtain ⟨wl, rfl⟩ : ∃ wl : World, wl = wc := ⟨_, rfl⟩
            clear his2 hsame2 hfs G4 G5 HS0 hfl
            have K87 := Lib.hid (K82.out.below hbc); clear K82
            have bw88 := ball bw86 hbc
            clear bw86
            clear hbc
            go_wp2_with fail
            go_loopw [173] (fun i wr => ∃ k : Nat, k ≤ r.length ∧ i = .int .i64 k ∧ Below wl.heap.size wl wr) (fun i _ => r.length - (intOf i).toNat)
            case atStart => exact ⟨0, by omega, rfl, Below.refl _ _⟩
            case round =>
              obtain ⟨k, hk, rfl, hbel⟩ := hrel
              by_cases hlt : k < r.length
              case pos =>
                obtain ⟨b, off, rfl, hb, hc⟩ := K87.out k hlt
                have d1 := bcell hbel hb hc
                have hx := HNN.out k (by have := HRL.out; omega)
                generalize r.getD k 0 = x at d1 hx
                clear hc
                by_cases hkq : k = Q
                case pos =>
                  subst hkq
                  clear hx
                  go_wp2_with fail
                  go_roundw
                  case rel => exact ⟨k + 1, by omega, by go_num, hbel⟩
                  case measure => simp [intOf]; omega
                case neg =>
                  have e1 : ((k : Int) == (Q : Int)) = false := by simp; omega
                  have hx0 : (0 : Int) ≤ x := hx (by omega)
                  clear hx
                  go_wp2_with fail
                  go_roundw
                  case rel => exact ⟨k + 1, by omega, by go_num, hbel⟩
                  case measure => simp [intOf]; omega
              case neg =>
                go_wp2_with fail
                go_meet
                exact ball bw88 hbel
      case rest =>
        clear K48
        clear K50
        clear K51
        clear K52
        clear K53
        clear K54
        clear K55
        obtain ⟨wv2, rfl⟩ : ∃ wv : World, wv = wc := ⟨_, rfl⟩
        have K89 := Lib.hid (K49.out.below hcut); clear K49
        have bw90 := ball bw56 hcut
        clear bw56
        clear hcut
        clear hall hfire his hsame hbd HAK hrlen hslen
        go_wp2_with fail
        refine (drawIsReduced_c ad1 n1 cap1 _ hm1 K89.out).mono ?_
        rintro e w91 ⟨m2, adl2, capl2, ls2, u2, d2, q2, rfl, ⟨hm3', hm4', hls2, hdl2, _⟩, hrl2, hrv2, hb92⟩
        have K93 := Lib.hid (K89.out.below hb92); clear K89
        have bw94 := ball bw90 hb92
        clear bw90
        clear hb92
        clear K93
        obtain ⟨add2, capd2, rfl, hrd2⟩ := hrv2
        have K95 := Lib.hid hrl2; clear hrl2
        have K96 := Lib.hid hrd2; clear hrd2
        have c1 := fun w h h' => implReduced_o m2 adl2 capl2 ls2 add2 capd2 d2 q2 w (by omega) h (by omega) h'
        have c2 := fun w h h' => specReduced_o m2 adl2 capl2 ls2 add2 capd2 d2 q2 w (by omega) h (by omega) h'
        rw [reduced_g] at c1 c2
        have c3 := fun w h h' => implBurnt_o m2 adl2 capl2 ls2 add2 capd2 d2 q2 w (by omega) h (by omega) h'
        have c4 := fun w h h' => specBurnt_o m2 adl2 capl2 ls2 add2 capd2 d2 q2 w (by omega) h (by omega) h'
        rw [burnt_g] at c3 c4
        have c5 := fun w h h' => implSets_o m2 adl2 capl2 ls2 add2 capd2 d2 q2 w (by omega) h (by omega) h'
        have c6 := fun w h h' => specSets_o m2 adl2 capl2 ls2 add2 capd2 d2 q2 w (by omega) h (by omega) h'
        rw [sets_g] at c5 c6
        have hba := Lib.hid (burn_all (n := m2) (ls := ls2) (d := d2) (q := q2))
        have hbl := burntR_len m2 ls2 d2 q2
        have hsm := Lib.hid (legalSetsR_small m2 ls2 d2 q2)
        generalize (reducedR m2 ls2 d2 q2).1 = ib at c1 c2 hba
        generalize (burntR m2 ls2 d2 q2).1 = bl at c3 c4 hba hbl
        generalize (legalSetsR m2 ls2 d2 q2).1 = rows at c5 c6 hba hsm
        generalize askB m2 ls2 d2 q2 = ak2 at c1 c2 c3 c4 c5 c6 hba
        generalize owesB m2.toNat q2.toNat (fd d2) = ow at c3 c4 c5 c6 hba
        have hk5 := Lib.hid (show (ak2 && !ow) = true → ak2 = true ∧ q2 ∈ bl ∧ ib = ((bl.length : Int) == m2) ∧ ib = ((rows.length : Int) == 0) from fun h => by
          obtain ⟨h1, h2⟩ := Bool.and_eq_true_iff.1 h
          exact ⟨h1, hba.out h1 (by simpa using h2)⟩)
        generalize (ak2 && !ow) = k5 at c3 c4 c5 c6 hk5
        have C1 := Lib.hid c1; have C2 := Lib.hid c2; have C3 := Lib.hid c3; have C4 := Lib.hid c4; have C5 := Lib.hid c5; have C6 := Lib.hid c6
        clear c1 c2 c3 c4 c5 c6 hba
        go_wp2_with fail
        refine (C1.out _ K95.out K96.out).mono ?_
        rintro e w97 ⟨rfl, hb98⟩
        have K99 := Lib.hid (K95.out.below hb98); clear K95
        have K100 := Lib.hid (K96.out.below hb98); clear K96
        have bw101 := ball bw94 hb98
        clear bw94
        clear hb98
        go_wp2_with fail
        refine (C2.out _ K99.out K100.out).mono ?_
        rintro e w102 ⟨rfl, hb103⟩
        have K104 := Lib.hid (K99.out.below hb103); clear K99
        have K105 := Lib.hid (K100.out.below hb103); clear K100
        have bw106 := ball bw101 hb103
        clear bw101
        clear hb103
        go_wp2_with fail
        refine (C3.out _ K104.out K105.out).mono ?_
        rintro e w107 ⟨v3, rfl, hv3, hb108⟩
        have K109 := Lib.hid (K104.out.below hb108); clear K104
        have K110 := Lib.hid (K105.out.below hb108); clear K105
        have bw111 := ball bw106 hb108
        clear bw106
        clear hb108
        have K112 := Lib.hid hv3; clear hv3
        go_wp2_with fail
        refine (C4.out _ K109.out K110.out).mono ?_
        rintro e w113 ⟨v4, rfl, hv4, hb114⟩
        have K115 := Lib.hid (K109.out.below hb114); clear K109
        have K116 := Lib.hid (K110.out.below hb114); clear K110
        have K117 := Lib.hid (K112.out.below hb114); clear K112
        have bw118 := ball bw111 hb114
        clear bw111
        clear hb114
        obtain ⟨ady4, capy4, rfl, hr4⟩ := hv4.rdV
        clear hv4
        have K119 := Lib.hid hr4; clear hr4
        go_wp2_with fail
        refine (C5.out _ K115.out K116.out).mono ?_
        rintro e w120 ⟨v5, rfl, hv5, hb121⟩
        have K122 := Lib.hid (K115.out.below hb121); clear K115
        have K123 := Lib.hid (K116.out.below hb121); clear K116
        have K124 := Lib.hid (K117.out.below hb121); clear K117
        have K125 := Lib.hid (K119.out.below hb121); clear K119
        have bw126 := ball bw118 hb121
        clear bw118
        clear hb121
        have K127 := Lib.hid hv5; clear hv5
        go_wp2_with fail
        refine (C6.out _ K122.out K123.out).mono ?_
        rintro e w128 ⟨v6, rfl, hv6, hb129⟩
        have K130 := Lib.hid (K122.out.below hb129); clear K122
        have K131 := Lib.hid (K123.out.below hb129); clear K123
        have K132 := Lib.hid (K124.out.below hb129); clear K124
        have K133 := Lib.hid (K125.out.below hb129); clear K125
        have K134 := Lib.hid (K127.out.below hb129); clear K127
        have bw135 := ball bw126 hb129
        clear bw126
        clear hb129
        obtain ⟨ady6, capy6, rfl, _⟩ := hv6.rdR
        have K136 := Lib.hid hv6; clear hv6
        clear C1 C2 C3 C4 C5 C6
        clear K130
        clear K131
        go_upto_region 29 with fail
        go_cut [282] from 282 to 282 (fun s wc => s = .bool false ∧ Below w128.heap.size w128 wc)
        case first =>
          cases ak2 <;> cases k5
          case false.true => exact absurd (hk5.out rfl).1 (by simp)
          all_goals
            clear hk5
            go_wp2_with fail
            refine (qInts_v _ _ bl _ hbl K132.out.rdV ⟨ady4, capy4, rfl, K133.out⟩).mono ?_
            rintro e wq ⟨rfl, hbq⟩
            go_wp2_with fail
            refine (qLists_v _ _ rows _ hsm.out (K134.out.below hbq).rdR (K136.out.below hbq).rdR).mono ?_
            rintro e wq2 ⟨rfl, hbq2⟩
            go_wp2_with fail
            go_meet
            exact ⟨rfl, ball hbq hbq2⟩
        case rest =>
          clear K132
          clear K134
          clear K136
          obtain ⟨rfl, hbc⟩ := hcut
          obtain ⟨wz, rfl⟩ : ∃ wz : World, wz = wc := ⟨_, rfl⟩
          have K137 := Lib.hid (K133.out.below hbc); clear K133
          have bw138 := ball bw135 hbc
          clear bw135
          clear hbc
          cases k5
          case false =>
            go_wp2_with fail
            go_ret
            exact ⟨rfl, bw138⟩
          case true =>
            obtain ⟨_, hmem, hi1, hi2⟩ := hk5.out rfl
            have cq := fun w h => qHas_v (.slice ady4 bl.length capy4) bl q2 w (by omega) h
            rw [decide_eq_true hmem] at cq
            have CQ := Lib.hid cq; clear cq hmem
            have e1 : (ib == ((bl.length : Int) == m2)) = true := by rw [← hi1]; cases ib <;> rfl
            have e2 : (ib == ((rows.length : Int) == 0)) = true := by rw [← hi2]; cases ib <;> rfl
            clear hi1 hi2 hk5
            go_wp2_with fail
            refine (CQ.out _ ⟨ady4, capy4, rfl, K137.out⟩).mono ?_
            rintro e w' ⟨rfl, rfl⟩
            go_wp2_with fail
            go_ret
            exact ⟨rfl, bw138⟩

end Go.Proofs.Ytmhmdbmiimpbnaa
