/-
  The walk of 'laws.FnLineMeetings': it returns true. Printed by gen_lawM.py.
-/
import Derived.Test.YtbkfgaibcoekgaaDoorLineJ
import Derived.Test.YtbkfgaibcoekgaaDoorLineM
import Derived.Deep.DeepCutAuto
namespace Go.Proofs.YtbkfgaibcoekgaaDoor
open Go.RowKit

theorem mv_form (l : Ln) (x y : Int) : ∃ b k, mvR l x y = .tuple #[lnV b, .bool k] ∧ (k = true → b = moveL l x y ∧ lnB l = true ∧ askP x y = true ∧ lnB b = true) := by
  unfold mvR lnR
  cases h : (lnB l && askP x y)
  · exact ⟨Ln.z, false, rfl, by simp⟩
  · obtain ⟨h1, h2⟩ := Bool.and_eq_true_iff.1 h
    cases g : lnB (moveL l x y)
    · exact ⟨Ln.z, false, rfl, by simp⟩
    · exact ⟨moveL l x y, true, rfl, fun _ => ⟨rfl, h1, h2, g⟩⟩
theorem ptV3_form (x y : Int) (k : Bool) : ∃ p q o, ptV3 x y k = .tuple #[.int .i64 p, .int .i64 q, .bool o] ∧ (o = true → p = x ∧ q = y ∧ askP x y = true) := by
  unfold ptV3
  cases h : (k && askP x y)
  · exact ⟨0, 0, false, rfl, by simp⟩
  · exact ⟨x, y, true, rfl, fun _ => ⟨rfl, rfl, (Bool.and_eq_true_iff.1 h).2⟩⟩
theorem parse_form (l : List UInt8) : ∃ b k, parseV l = .tuple #[lnV b, .bool k] := ⟨_, _, rfl⟩
theorem strV_list (l : List UInt8) : ∃ s : ByteArray, strV l = .string s ∧ s.toList = l ∧ s.size = l.length := ⟨⟨l.toArray⟩, rfl, ByteArray.toList_mk l, by simp [ByteArray.size]⟩

set_option maxHeartbeats 64000000 in
set_option maxRecDepth 100000 in
theorem lawLineMeetings_any (ad0 : Option Addr) (n0 cap0 : Nat) (ad1 : Option Addr) (n1 cap1 : Nat) (w : World) (hm0 : n0 ≤ 9223372036854775807) (hr0 : RdB w ad0 n0) (hm1 : n1 ≤ 9223372036854775807) (hr1 : RdB w ad1 n1) (hls : LaidL w) :
    Calls Tryd.prog 3 #[.slice ad0 n0 cap0, .slice ad1 n1 cap1] w fun e w' => e = .returned (.bool true) ∧ Below w.heap.size w w' := by
  have bw0 := Below.refl w.heap.size w
  have K1 := Lib.hid hr0; clear hr0
  have K2 := Lib.hid hr1; clear hr1
  have K3 := Lib.hid hls; clear hls
  obtain ⟨tb, htb⟩ : ∃ tb : Bool, decide (1048576 < wrap64 ((n0 : Int) + (n1 : Int))) = tb := ⟨_, rfl⟩
  cases tb
  case true =>
    go_enter Tryd.func3, Tryd.ntmps3
    go_wp2_with fail
    go_ret
    exact ⟨rfl, bw0⟩
  case false =>
    go_enter Tryd.func3, Tryd.ntmps3
    go_wp2_with fail
    refine (drawMeetingPoint_c ad0 n0 cap0 _ hm0 K1.out).mono ?_
    rintro e w4 ⟨l, m, rfl, hb5⟩
    have K6 := Lib.hid (K1.out.below hb5); clear K1
    have K7 := Lib.hid (K2.out.below hb5); clear K2
    have K8 := Lib.hid (K3.out.below hb5); clear K3
    have bw9 := ball bw0 hb5
    clear bw0
    clear hb5
    have c1 := fun w => iMeetingPoint_c l m w
    have c2 := fun w => sMeetingPoint_c l m w
    have c3 := fun w => iSameLine_c l m w
    have c4 := fun w => sSameLine_c l m w
    have c5 := fun w hL => iLineText_c l w hL
    have c6 := fun w => sLineText_c l w
    have c7 := fun w => iIsLine_c l w
    have c8 := fun w => iIsLine_c m w
    have hon := meet_on l m
    have c9 := fun w => isOnLine_c l (meetX l m) (meetY l m) w
    have c10 := fun w => isOnLine_c m (meetX l m) (meetY l m) w
    have c11 := fun w h hL => iParseLine_c (lineTxt l) w (PB_txt h) hL
    have hpt := fun h => parse_txt (L := l) h
    unfold onR at c9 c10
    unfold parseV at c11
    rw [hon.1] at c9
    rw [hon.2] at c10
    clear hon
    generalize lnB l = u at c1 c2 c3 c4 c5 c6 c7 c9 c11 hpt
    generalize lnB m = v at c1 c2 c3 c4 c8 c10
    unfold ptV3 at c1 c2
    generalize askP (meetX l m) (meetY l m) = kk at c1 c2 c9 c10
    generalize meetX l m = X at c1 c2 c9 c10
    generalize meetY l m = Y at c1 c2 c9 c10
    generalize sameB l m = sm at c3 c4
    generalize parseB (lineTxt l) = pb at c11 hpt
    generalize numsL (lineTxt l) = nl at c11 hpt
    generalize lineTxt l = T at c5 c6 c11
    obtain ⟨la, lb, lc⟩ := l
    obtain ⟨ma, mb, mc⟩ := m
    unfold lnV
    unfold lnV at c1 c2 c3 c4 c5 c6 c7 c8 c9 c10
    unfold strV at c5 c6
    simp only at c1 c2 c3 c4 c5 c6 c7 c8 c9 c10 ⊢
    obtain ⟨ok, hok⟩ : ∃ ok, (u && v && kk) = ok := ⟨_, rfl⟩
    rw [hok] at c1 c2
    have hxx := Lib.hid (fun (h : ok = true) => show (if ok = true then X else 0) = X from if_pos h)
    have hyy := Lib.hid (fun (h : ok = true) => show (if ok = true then Y else 0) = Y from if_pos h)
    generalize (if ok = true then X else 0) = XX at c1 c2 hxx
    generalize (if ok = true then Y else 0) = YY at c1 c2 hyy
    generalize (if (u && v) = true then sm else false) = S at c3 c4
    have htt := Lib.hid (fun (h : u = true) => show (⟨(if u = true then T else []).toArray⟩ : ByteArray) = ⟨T.toArray⟩ by rw [if_pos h])
    generalize (⟨(if u = true then T else []).toArray⟩ : ByteArray) = TT at c5 c6 htt
    have HOK := Lib.hid hok; clear hok
    have C1 := Lib.hid c1; clear c1
    have C2 := Lib.hid c2; clear c2
    have C3 := Lib.hid c3; clear c3
    have C4 := Lib.hid c4; clear c4
    have C5 := Lib.hid c5; clear c5
    have C6 := Lib.hid c6; clear c6
    have C7 := Lib.hid c7; clear c7
    have C8 := Lib.hid c8; clear c8
    have C9 := Lib.hid c9; clear c9
    have C10 := Lib.hid c10; clear c10
    have C11 := Lib.hid c11; clear c11
    have HPT := Lib.hid hpt; clear hpt
    have hol := (LnO.new w4 la lb lc rfl).alloc (.cells #[.int .i64 ma, .int .i64 mb, .int .i64 mc] 24)
    have hom := LnO.new (g := w4.heap.size + 1) (w4.alloc (.cells #[.int .i64 la, .int .i64 lb, .int .i64 lc] 24)) ma mb mc (by simp)
    have hbx := ((Below.refl w4.heap.size w4).alloc (Nat.le_refl _) (.cells #[.int .i64 la, .int .i64 lb, .int .i64 lc] 24)).alloc (by simp) (.cells #[.int .i64 ma, .int .i64 mb, .int .i64 mc] 24)
    go_wp2_with fail
    have K10 := Lib.hid (K6.out.below hbx); clear K6
    have K11 := Lib.hid (K7.out.below hbx); clear K7
    have K12 := Lib.hid (K8.out.below hbx); clear K8
    have bw13 := ball bw9 hbx
    clear bw9
    clear hbx
    have K14 := Lib.hid hol; clear hol
    have K15 := Lib.hid hom; clear hom
    refine (C1.out _).mono ?_
    rintro e w16 ⟨rfl, hb17⟩
    have K18 := Lib.hid (K10.out.below hb17); clear K10
    have K19 := Lib.hid (K11.out.below hb17); clear K11
    have K20 := Lib.hid (K12.out.below hb17); clear K12
    have K21 := Lib.hid (K14.out.below hb17); clear K14
    have K22 := Lib.hid (K15.out.below hb17); clear K15
    have bw23 := ball bw13 hb17
    clear bw13
    clear hb17
    obtain ⟨x0, x1, x2⟩ := K21.out.at
    obtain ⟨y0, y1, y2⟩ := K22.out.at
    go_wp2_with fail
    refine (C2.out _).mono ?_
    rintro e w24 ⟨rfl, hb25⟩
    have K26 := Lib.hid (K18.out.below hb25); clear K18
    have K27 := Lib.hid (K19.out.below hb25); clear K19
    have K28 := Lib.hid (K20.out.below hb25); clear K20
    have K29 := Lib.hid (K21.out.below hb25); clear K21
    have K30 := Lib.hid (K22.out.below hb25); clear K22
    have bw31 := ball bw23 hb25
    clear bw23
    clear hb25
    clear x0 x1 x2 y0 y1 y2
    obtain ⟨x0, x1, x2⟩ := K29.out.at
    obtain ⟨y0, y1, y2⟩ := K30.out.at
    go_wp2_with fail
    refine (C3.out _).mono ?_
    rintro e w32 ⟨rfl, hb33⟩
    have K34 := Lib.hid (K26.out.below hb33); clear K26
    have K35 := Lib.hid (K27.out.below hb33); clear K27
    have K36 := Lib.hid (K28.out.below hb33); clear K28
    have K37 := Lib.hid (K29.out.below hb33); clear K29
    have K38 := Lib.hid (K30.out.below hb33); clear K30
    have bw39 := ball bw31 hb33
    clear bw31
    clear hb33
    clear x0 x1 x2 y0 y1 y2
    obtain ⟨x0, x1, x2⟩ := K37.out.at
    obtain ⟨y0, y1, y2⟩ := K38.out.at
    go_wp2_with fail
    refine (C4.out _).mono ?_
    rintro e w40 ⟨rfl, hb41⟩
    have K42 := Lib.hid (K34.out.below hb41); clear K34
    have K43 := Lib.hid (K35.out.below hb41); clear K35
    have K44 := Lib.hid (K36.out.below hb41); clear K36
    have K45 := Lib.hid (K37.out.below hb41); clear K37
    have K46 := Lib.hid (K38.out.below hb41); clear K38
    have bw47 := ball bw39 hb41
    clear bw39
    clear hb41
    clear x0 x1 x2 y0 y1 y2
    obtain ⟨x0, x1, x2⟩ := K45.out.at
    obtain ⟨y0, y1, y2⟩ := K46.out.at
    go_wp2_with fail
    refine (C5.out _ K44.out.s).mono ?_
    rintro e w48 ⟨rfl, hb49⟩
    have K50 := Lib.hid (K42.out.below hb49); clear K42
    have K51 := Lib.hid (K43.out.below hb49); clear K43
    have K52 := Lib.hid (K44.out.below hb49); clear K44
    have K53 := Lib.hid (K45.out.below hb49); clear K45
    have K54 := Lib.hid (K46.out.below hb49); clear K46
    have bw55 := ball bw47 hb49
    clear bw47
    clear hb49
    clear x0 x1 x2 y0 y1 y2
    obtain ⟨x0, x1, x2⟩ := K53.out.at
    obtain ⟨y0, y1, y2⟩ := K54.out.at
    go_wp2_with fail
    refine (C6.out _).mono ?_
    rintro e w56 ⟨rfl, hb57⟩
    have K58 := Lib.hid (K50.out.below hb57); clear K50
    have K59 := Lib.hid (K51.out.below hb57); clear K51
    have K60 := Lib.hid (K52.out.below hb57); clear K52
    have K61 := Lib.hid (K53.out.below hb57); clear K53
    have K62 := Lib.hid (K54.out.below hb57); clear K54
    have bw63 := ball bw55 hb57
    clear bw55
    clear hb57
    clear x0 x1 x2 y0 y1 y2
    clear C1 C2 C3 C4 C5 C6
    go_upto_region 10 with fail
    go_cut [140] from 140 to 140 (fun s wc => s = .bool false ∧ Below w56.heap.size w56 wc)
    case first =>
      cases u
      case false =>
        obtain ⟨x0, x1, x2⟩ := K61.out.at
        obtain ⟨y0, y1, y2⟩ := K62.out.at
        go_wp2_with fail
        refine (C7.out _).mono ?_
        rintro e w64 ⟨rfl, hb65⟩
        have K66 := Lib.hid (K58.out.below hb65); clear K58
        have K67 := Lib.hid (K59.out.below hb65); clear K59
        have K68 := Lib.hid (K60.out.below hb65); clear K60
        have K69 := Lib.hid (K61.out.below hb65); clear K61
        have K70 := Lib.hid (K62.out.below hb65); clear K62
        have bw71 := hb65
        clear hb65
        clear x0 x1 x2 y0 y1 y2
        obtain ⟨x0, x1, x2⟩ := K69.out.at
        obtain ⟨y0, y1, y2⟩ := K70.out.at
        go_wp2_with fail
        refine (C7.out _).mono ?_
        rintro e w72 ⟨rfl, hb73⟩
        have K74 := Lib.hid (K66.out.below hb73); clear K66
        have K75 := Lib.hid (K67.out.below hb73); clear K67
        have K76 := Lib.hid (K68.out.below hb73); clear K68
        have K77 := Lib.hid (K69.out.below hb73); clear K69
        have K78 := Lib.hid (K70.out.below hb73); clear K70
        have bw79 := ball bw71 hb73
        clear bw71
        clear hb73
        all_goals
          go_wp2_with fail
          go_meet
          exact ⟨rfl, bw79⟩
      case true =>
        obtain ⟨x0, x1, x2⟩ := K61.out.at
        obtain ⟨y0, y1, y2⟩ := K62.out.at
        go_wp2_with fail
        refine (C7.out _).mono ?_
        rintro e w80 ⟨rfl, hb81⟩
        have K82 := Lib.hid (K58.out.below hb81); clear K58
        have K83 := Lib.hid (K59.out.below hb81); clear K59
        have K84 := Lib.hid (K60.out.below hb81); clear K60
        have K85 := Lib.hid (K61.out.below hb81); clear K61
        have K86 := Lib.hid (K62.out.below hb81); clear K62
        have bw87 := hb81
        clear hb81
        clear x0 x1 x2 y0 y1 y2
        obtain ⟨x0, x1, x2⟩ := K85.out.at
        obtain ⟨y0, y1, y2⟩ := K86.out.at
        go_wp2_with fail
        refine (C8.out _).mono ?_
        rintro e w88 ⟨rfl, hb89⟩
        have K90 := Lib.hid (K82.out.below hb89); clear K82
        have K91 := Lib.hid (K83.out.below hb89); clear K83
        have K92 := Lib.hid (K84.out.below hb89); clear K84
        have K93 := Lib.hid (K85.out.below hb89); clear K85
        have K94 := Lib.hid (K86.out.below hb89); clear K86
        have bw95 := ball bw87 hb89
        clear bw87
        clear hb89
        clear x0 x1 x2 y0 y1 y2
        obtain ⟨x0, x1, x2⟩ := K93.out.at
        obtain ⟨y0, y1, y2⟩ := K94.out.at
        go_wp2_with fail
        refine (C7.out _).mono ?_
        rintro e w96 ⟨rfl, hb97⟩
        have K98 := Lib.hid (K90.out.below hb97); clear K90
        have K99 := Lib.hid (K91.out.below hb97); clear K91
        have K100 := Lib.hid (K92.out.below hb97); clear K92
        have K101 := Lib.hid (K93.out.below hb97); clear K93
        have K102 := Lib.hid (K94.out.below hb97); clear K94
        have bw103 := ball bw95 hb97
        clear bw95
        clear hb97
        all_goals
          go_wp2_with fail
          go_meet
          exact ⟨rfl, bw103⟩
    case rest =>
      obtain ⟨rfl, hbc⟩ := hcut
      obtain ⟨wv, rfl⟩ : ∃ wv : World, wv = wc := ⟨_, rfl⟩
      have K104 := Lib.hid (K58.out.below hbc); clear K58
      have K105 := Lib.hid (K59.out.below hbc); clear K59
      have K106 := Lib.hid (K60.out.below hbc); clear K60
      have K107 := Lib.hid (K61.out.below hbc); clear K61
      have K108 := Lib.hid (K62.out.below hbc); clear K62
      have bw109 := ball bw63 hbc
      clear bw63
      clear hbc
      go_upto_if 141 with fail
      go_cut [] from 141 to 141 (fun wc => Below wv.heap.size wv wc)
      case first =>
        cases ok
        case false =>
          go_wp2_with fail
          go_meet
          exact Below.refl _ _
        case true =>
          obtain rfl := hxx.out rfl
          obtain rfl := hyy.out rfl
          obtain ⟨rfl, rfl, rfl⟩ : u = true ∧ v = true ∧ kk = true := by
            have h := HOK.out
            revert h
            cases u <;> cases v <;> cases kk <;> simp
          simp only [Bool.and_self] at C9 C10
          obtain ⟨x0, x1, x2⟩ := K107.out.at
          obtain ⟨y0, y1, y2⟩ := K108.out.at
          go_wp2_with fail
          refine (C9.out _).mono ?_
          rintro e w110 ⟨rfl, hb111⟩
          have K112 := Lib.hid (K104.out.below hb111); clear K104
          have K113 := Lib.hid (K105.out.below hb111); clear K105
          have K114 := Lib.hid (K106.out.below hb111); clear K106
          have K115 := Lib.hid (K107.out.below hb111); clear K107
          have K116 := Lib.hid (K108.out.below hb111); clear K108
          have bw117 := hb111
          clear hb111
          clear x0 x1 x2 y0 y1 y2
          obtain ⟨x0, x1, x2⟩ := K115.out.at
          obtain ⟨y0, y1, y2⟩ := K116.out.at
          go_wp2_with fail
          refine (C10.out _).mono ?_
          rintro e w118 ⟨rfl, hb119⟩
          have K120 := Lib.hid (K112.out.below hb119); clear K112
          have K121 := Lib.hid (K113.out.below hb119); clear K113
          have K122 := Lib.hid (K114.out.below hb119); clear K114
          have K123 := Lib.hid (K115.out.below hb119); clear K115
          have K124 := Lib.hid (K116.out.below hb119); clear K116
          have bw125 := ball bw117 hb119
          clear bw117
          clear hb119
          go_wp2_with fail
          go_meet
          exact bw125
      case rest =>
        have hbc := hcut
        obtain ⟨wu, rfl⟩ : ∃ wu : World, wu = wc := ⟨_, rfl⟩
        have K126 := Lib.hid (K104.out.below hbc); clear K104
        have K127 := Lib.hid (K105.out.below hbc); clear K105
        have K128 := Lib.hid (K106.out.below hbc); clear K106
        have K129 := Lib.hid (K107.out.below hbc); clear K107
        have K130 := Lib.hid (K108.out.below hbc); clear K108
        have bw131 := ball bw109 hbc
        clear bw109
        clear hbc
        go_upto_if 170 with fail
        go_cut [] from 170 to 170 (fun wc => Below wu.heap.size wu wc)
        case first =>
          cases u
          case false =>
            go_wp2_with fail
            go_meet
            exact Below.refl _ _
          case true =>
            obtain rfl := htt.out rfl
            obtain ⟨rfl, rfl⟩ := HPT.out rfl
            have c12 := C11.out
            unfold lnV at c12
            simp only [if_true] at c12
            have C12 := Lib.hid c12; clear c12
            go_wp2_with fail
            refine (C12.out _ trivial K128.out).mono ?_
            rintro e w132 ⟨rfl, hb133⟩
            have K134 := Lib.hid (K126.out.below hb133); clear K126
            have K135 := Lib.hid (K127.out.below hb133); clear K127
            have K136 := Lib.hid (K128.out.below hb133); clear K128
            have K137 := Lib.hid (K129.out.below hb133); clear K129
            have K138 := Lib.hid (K130.out.below hb133); clear K130
            have bw139 := hb133
            clear hb133
            obtain ⟨x0, x1, x2⟩ := K137.out.at
            have hne : w4.heap.size ≠ w132.heap.size := Nat.ne_of_lt (LnO.lt K137.out)
            have z0 := cell_alloc' (o := (.cells #[.int .i64 la, .int .i64 lb, .int .i64 lc] 24)) x0
            have z1 := cell_alloc' (o := (.cells #[.int .i64 la, .int .i64 lb, .int .i64 lc] 24)) x1
            have z2 := cell_alloc' (o := (.cells #[.int .i64 la, .int .i64 lb, .int .i64 lc] 24)) x2
            have hbn := bal_alloc (o := (.cells #[.int .i64 la, .int .i64 lb, .int .i64 lc] 24)) (Below.refl w132.heap.size w132)
            go_wp2_with fail
            go_meet
            exact bal_alloc bw139
        case rest =>
          have hbc := hcut
          obtain ⟨wt, rfl⟩ : ∃ wt : World, wt = wc := ⟨_, rfl⟩
          have K140 := Lib.hid (K126.out.below hbc); clear K126
          have K141 := Lib.hid (K127.out.below hbc); clear K127
          have K142 := Lib.hid (K128.out.below hbc); clear K128
          have K143 := Lib.hid (K129.out.below hbc); clear K129
          have K144 := Lib.hid (K130.out.below hbc); clear K130
          have bw145 := ball bw131 hbc
          clear bw131
          clear hbc
          clear K140
          clear K143
          clear K144
          go_wp2_with fail
          refine (drawMoveLine_c ad1 n1 cap1 _ hm1 K141.out).mono ?_
          rintro e w146 ⟨a, dx, dy, rfl, hb147⟩
          have K148 := Lib.hid (K141.out.below hb147); clear K141
          have K149 := Lib.hid (K142.out.below hb147); clear K142
          have bw150 := ball bw145 hb147
          clear bw145
          clear hb147
          obtain ⟨bl, five, hmv, h5⟩ := mv_form a dx dy
          have d1 := fun w => iMoveLine_c a dx dy w
          have d2 := fun w => sMoveLine_c a dx dy w
          rw [hmv] at d1 d2
          have d3 := fun w => centerOf_c a w
          have d4 := fun w => centerOf_c bl w
          obtain ⟨p, q, k1, hf1, hp1⟩ := ptV3_form (a.c - a.a) (a.c - a.b) (lnB a)
          obtain ⟨r, t, k2, hf2, hp2⟩ := ptV3_form (bl.c - bl.a) (bl.c - bl.b) (lnB bl)
          rw [hf1] at d3
          rw [hf2] at d4
          have hlaw : five = true → k1 = true → k2 = true → (p + dx = r ∧ q + dy = t) ∧ IntKind.i64.wrap (p + dx) = p + dx ∧ IntKind.i64.wrap (q + dy) = q + dy := fun e5 e1 e2 => by
            obtain ⟨rfl, _, hxy, _⟩ := h5 e5
            obtain ⟨rfl, rfl, hpq⟩ := hp1 e1
            obtain ⟨rfl, rfl, _⟩ := hp2 e2
            have b1 := askP_bd hxy
            have b2 := askP_bd hpq
            exact ⟨by simp only [moveL]; omega, i64_small (by omega) (by omega), i64_small (by omega) (by omega)⟩
          clear h5 hp1 hp2 hf1 hf2 hmv
          obtain ⟨aa, ab, ac⟩ := a
          obtain ⟨ba, bb, bc⟩ := bl
          unfold lnV
          unfold lnV at d1 d2 d3 d4
          simp only at d1 d2 d3 d4 ⊢
          have HLAW := Lib.hid hlaw; clear hlaw
          have D1 := Lib.hid d1; clear d1
          have D2 := Lib.hid d2; clear d2
          have D3 := Lib.hid d3; clear d3
          have D4 := Lib.hid d4; clear d4
          have hnl := LnO.new w146 aa ab ac rfl
          have hbx := (Below.refl w146.heap.size w146).alloc (Nat.le_refl _) (.cells #[.int .i64 aa, .int .i64 ab, .int .i64 ac] 24)
          go_wp2_with fail
          have K151 := Lib.hid (K148.out.below hbx); clear K148
          have K152 := Lib.hid (K149.out.below hbx); clear K149
          have bw153 := ball bw150 hbx
          clear bw150
          clear hbx
          have K154 := Lib.hid hnl; clear hnl
          refine (D1.out _).mono ?_
          rintro e w155 ⟨rfl, hb156⟩
          have K157 := Lib.hid (K151.out.below hb156); clear K151
          have K158 := Lib.hid (K152.out.below hb156); clear K152
          have K159 := Lib.hid (K154.out.below hb156); clear K154
          have bw160 := ball bw153 hb156
          clear bw153
          clear hb156
          have hneOA : w146.heap.size ≠ w155.heap.size := Nat.ne_of_lt (LnO.lt K159.out)
          obtain ⟨zOA0, zOA1, zOA2⟩ := (LnO.alloc K159.out (.cells #[.int .i64 ba, .int .i64 bb, .int .i64 bc] 24)).at
          have hnl := LnO.new w155 ba bb bc rfl
          have hbx := (Below.refl w155.heap.size w155).alloc (Nat.le_refl _) (.cells #[.int .i64 ba, .int .i64 bb, .int .i64 bc] 24)
          go_wp2_with fail
          have K161 := Lib.hid (K157.out.below hbx); clear K157
          have K162 := Lib.hid (K158.out.below hbx); clear K158
          have K163 := Lib.hid (K159.out.below hbx); clear K159
          have bw164 := ball bw160 hbx
          clear bw160
          clear hbx
          have K165 := Lib.hid hnl; clear hnl
          refine (D2.out _).mono ?_
          rintro e w166 ⟨rfl, hb167⟩
          have K168 := Lib.hid (K161.out.below hb167); clear K161
          have K169 := Lib.hid (K162.out.below hb167); clear K162
          have K170 := Lib.hid (K163.out.below hb167); clear K163
          have K171 := Lib.hid (K165.out.below hb167); clear K165
          have bw172 := ball bw164 hb167
          clear bw164
          clear hb167
          clear zOA0 zOA1 zOA2 hneOA
          have hnl := LnO.new w166 ba bb bc rfl
          have hbx := (Below.refl w166.heap.size w166).alloc (Nat.le_refl _) (.cells #[.int .i64 ba, .int .i64 bb, .int .i64 bc] 24)
          go_wp2_with fail
          have K173 := Lib.hid (K168.out.below hbx); clear K168
          have K174 := Lib.hid (K169.out.below hbx); clear K169
          have K175 := Lib.hid (K170.out.below hbx); clear K170
          have K176 := Lib.hid (K171.out.below hbx); clear K171
          have bw177 := ball bw172 hbx
          clear bw172
          clear hbx
          have K178 := Lib.hid hnl; clear hnl
          refine (drawParseLine_c ad1 n1 cap1 _ hm1 K173.out).mono ?_
          rintro e w179 ⟨sc, rfl, hsc, hb180⟩
          have K181 := Lib.hid (K173.out.below hb180); clear K173
          have K182 := Lib.hid (K174.out.below hb180); clear K174
          have K183 := Lib.hid (K175.out.below hb180); clear K175
          have K184 := Lib.hid (K176.out.below hb180); clear K176
          have K185 := Lib.hid (K178.out.below hb180); clear K178
          have bw186 := ball bw177 hb180
          clear bw177
          clear hb180
          have hsl := ByteArray.toList_mk sc.toList
          have hsz : sc.toList.length ≤ 18 := by rw [len_str]; exact hsc
          have e1 := fun w hL => iParseLine_c sc.toList w (PB_short hsz) hL
          have e2 := fun w => sParseLine_c sc w (by omega)
          rw [parse_eq] at e2
          rw [show (⟨sc.toList.toArray⟩ : ByteArray) = sc from ByteArray.ext (by rw [ByteArray.toList_eq])] at e1
          obtain ⟨pl, pk, hpv⟩ := parse_form sc.toList
          rw [hpv] at e1 e2
          clear hsl hsz hsc hpv
          obtain ⟨pa, pb', pc⟩ := pl
          unfold lnV at e1 e2
          simp only at e1 e2
          have E1 := Lib.hid e1; have E2 := Lib.hid e2; clear e1 e2
          go_wp2_with fail
          refine (E1.out _ K182.out).mono ?_
          rintro e w187 ⟨rfl, hb188⟩
          have K189 := Lib.hid (K181.out.below hb188); clear K181
          have K190 := Lib.hid (K182.out.below hb188); clear K182
          have K191 := Lib.hid (K183.out.below hb188); clear K183
          have K192 := Lib.hid (K184.out.below hb188); clear K184
          have K193 := Lib.hid (K185.out.below hb188); clear K185
          have bw194 := ball bw186 hb188
          clear bw186
          clear hb188
          have hnl := LnO.new w187 pa pb' pc rfl
          have hbx := (Below.refl w187.heap.size w187).alloc (Nat.le_refl _) (.cells #[.int .i64 pa, .int .i64 pb', .int .i64 pc] 24)
          go_wp2_with fail
          have K195 := Lib.hid (K189.out.below hbx); clear K189
          have K196 := Lib.hid (K190.out.below hbx); clear K190
          have K197 := Lib.hid (K191.out.below hbx); clear K191
          have K198 := Lib.hid (K192.out.below hbx); clear K192
          have K199 := Lib.hid (K193.out.below hbx); clear K193
          have bw200 := ball bw194 hbx
          clear bw194
          clear hbx
          have K201 := Lib.hid hnl; clear hnl
          refine (E2.out _).mono ?_
          rintro e w202 ⟨rfl, hb203⟩
          have K204 := Lib.hid (K195.out.below hb203); clear K195
          have K205 := Lib.hid (K196.out.below hb203); clear K196
          have K206 := Lib.hid (K197.out.below hb203); clear K197
          have K207 := Lib.hid (K198.out.below hb203); clear K198
          have K208 := Lib.hid (K199.out.below hb203); clear K199
          have K209 := Lib.hid (K201.out.below hb203); clear K201
          have bw210 := ball bw200 hb203
          clear bw200
          clear hb203
          have hnl := LnO.new w202 pa pb' pc rfl
          have hbx := (Below.refl w202.heap.size w202).alloc (Nat.le_refl _) (.cells #[.int .i64 pa, .int .i64 pb', .int .i64 pc] 24)
          go_upto_region 27 with fail
          have K211 := Lib.hid (K204.out.below hbx); clear K204
          have K212 := Lib.hid (K205.out.below hbx); clear K205
          have K213 := Lib.hid (K206.out.below hbx); clear K206
          have K214 := Lib.hid (K207.out.below hbx); clear K207
          have K215 := Lib.hid (K208.out.below hbx); clear K208
          have K216 := Lib.hid (K209.out.below hbx); clear K209
          have bw217 := ball bw210 hbx
          clear bw210
          clear hbx
          have K218 := Lib.hid hnl; clear hnl
          generalize (w202.alloc (.cells #[.int .i64 pa, .int .i64 pb', .int .i64 pc] 24)) = wz at K211 K212 K213 K214 K215 K216 K218 bw217 ⊢
          obtain ⟨x0, x1, x2⟩ := K214.out.at
          obtain ⟨y0, y1, y2⟩ := K215.out.at
          obtain ⟨z0, z1, z2⟩ := K216.out.at
          obtain ⟨t0, t1, t2⟩ := K218.out.at
          go_cut [232] from 232 to 232 (fun s wc => s = .bool false ∧ wz = wc)
          case first =>
            go_wp2_with fail
            go_meet
            exact ⟨rfl, rfl⟩
          case rest =>
            obtain ⟨rfl, rfl⟩ := hcut
            clear x0 x1 x2 y0 y1 y2 z0 z1 z2 t0 t1 t2
            go_upto_if 233 with fail
            go_cut [] from 233 to 233 (fun wc => Below wz.heap.size wz wc)
            case first =>
              cases five
              case false =>
                go_wp2_with fail
                go_meet
                exact Below.refl _ _
              case true =>
                obtain ⟨x0, x1, x2⟩ := K213.out.at
                obtain ⟨y0, y1, y2⟩ := K214.out.at
                go_wp2_with fail
                refine (D3.out _).mono ?_
                rintro e w219 ⟨rfl, hb220⟩
                have K221 := Lib.hid (K211.out.below hb220); clear K211
                have K222 := Lib.hid (K212.out.below hb220); clear K212
                have K223 := Lib.hid (K213.out.below hb220); clear K213
                have K224 := Lib.hid (K214.out.below hb220); clear K214
                have K225 := Lib.hid (K215.out.below hb220); clear K215
                have K226 := Lib.hid (K216.out.below hb220); clear K216
                have K227 := Lib.hid (K218.out.below hb220); clear K218
                have bw228 := hb220
                clear hb220
                clear x0 x1 x2 y0 y1 y2
                obtain ⟨x0, x1, x2⟩ := K223.out.at
                obtain ⟨y0, y1, y2⟩ := K224.out.at
                go_wp2_with fail
                refine (D4.out _).mono ?_
                rintro e w229 ⟨rfl, hb230⟩
                have K231 := Lib.hid (K221.out.below hb230); clear K221
                have K232 := Lib.hid (K222.out.below hb230); clear K222
                have K233 := Lib.hid (K223.out.below hb230); clear K223
                have K234 := Lib.hid (K224.out.below hb230); clear K224
                have K235 := Lib.hid (K225.out.below hb230); clear K225
                have K236 := Lib.hid (K226.out.below hb230); clear K226
                have K237 := Lib.hid (K227.out.below hb230); clear K227
                have bw238 := ball bw228 hb230
                clear bw228
                clear hb230
                clear x0 x1 x2 y0 y1 y2
                cases k1
                case false =>
                  go_wp2_with fail
                  go_meet
                  exact bw238
                case true =>
                  cases k2
                  case false =>
                    go_wp2_with fail
                    go_meet
                    exact bw238
                  case true =>
                    obtain ⟨⟨rfl, rfl⟩, hw1, hw2⟩ := HLAW.out (by trivial) (by trivial) (by trivial)
                    go_wp2_with fail
                    go_meet
                    exact bw238
            case rest =>
              have hbc := hcut
              go_wp2_with fail
              go_ret
              exact ⟨rfl, ball bw217 hbc⟩

end Go.Proofs.YtbkfgaibcoekgaaDoor
