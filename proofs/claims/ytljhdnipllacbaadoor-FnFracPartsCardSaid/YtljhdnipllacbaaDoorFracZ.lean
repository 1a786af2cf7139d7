/-
  The walk of 'laws.FnFracParts': it returns true. Printed by gen_lawF.py.
-/
import Derived.Test.YtljhdnipllacbaaDoorFrU
import Derived.Test.YtljhdnipllacbaaDoorFrE
import Derived.Deep.DeepCutAuto
import Derived.Deep.QuietTactic
namespace Go.Proofs.YtljhdnipllacbaaDoor
open Go.RowKit

theorem undo_c (f g : Fr) (w : World) (hk : mulB f g = true) (hn : g.n ≠ 0) :
    Calls Tryd.prog 7 #[frV (if mulB f g = true then lowF (f.n * g.n) (f.d * g.d) else Fr.z), frV g] w fun e w' => e = .returned (.tuple #[frV f, .bool true]) ∧ Below w.heap.size w w' := by
  rw [if_pos hk]
  obtain ⟨h1, h2⟩ := mul_undo hk hn
  have c := iDivideFracs_c (lowF (f.n * g.n) (f.d * g.d)) g w
  rw [h1, h2, frR_t] at c
  exact c
theorem back_c (f : Fr) (w : World) (hk : frB f = true) (hL : LaidL w) :
    Calls Tryd.prog 16 #[.string ⟨(if frB f = true then frTxt f else []).toArray⟩] w fun e w' => e = .returned (.tuple #[frV f, .bool true]) ∧ Below w.heap.size w w' := by
  rw [if_pos hk]
  obtain ⟨h1, h2⟩ := fpar_txt hk
  have c := iParseFrac_c (frTxt f) w (PF_txt hk) hL
  rw [h1, h2, frR_t] at c
  exact c
theorem flo_facts (f : Fr) (h : frB f = true) (X Y : Int) (hX : (if frB f = true then floZ f.n f.d else 0) = X) (hY : (if frB f = true then ceiZ f.n f.d else 0) = Y) :
    (IntKind.i64.wrap (X * f.d) = X * f.d ∧ ¬ f.n < X * f.d) ∧ (IntKind.i64.wrap (X + 1) = X + 1 ∧ IntKind.i64.wrap ((X + 1) * f.d) = (X + 1) * f.d ∧ ¬ (X + 1) * f.d ≤ f.n) ∧ (IntKind.i64.wrap (Y - X) = Y - X ∧ ¬ 1 < Y - X) ∧ ((Y = X ∧ f.d = 1) ∨ (Y ≠ X ∧ f.d ≠ 1)) := by
  rw [if_pos h] at hX hY
  obtain ⟨hn, hd, _⟩ := frB_t.1 h
  have h1 := flo_bd (n := f.n) (d := f.d) (by omega)
  have h2 := flo_abs (n := f.n) (d := f.d) (by omega) hn
  obtain ⟨h3, h4⟩ := ceil_flo h
  rw [hX] at h1 h2 h3 h4
  rw [hY] at h3 h4
  have m1 := mulb9 (k := X) (m := f.d) h2 (by omega)
  have m2 : (X + 1) * f.d = X * f.d + f.d := by rw [Int.add_mul, Int.one_mul]
  refine ⟨⟨i64_small (by omega) (by omega), by omega⟩, ⟨i64_small (by omega) (by omega), i64_small (by omega) (by omega), by omega⟩, ⟨i64_small (by omega) (by omega), by omega⟩, ?_⟩
  by_cases hq : Y = X
  · exact Or.inl ⟨hq, h4.1 hq⟩
  · exact Or.inr ⟨hq, fun e => hq (h4.2 e)⟩
theorem mean_facts (xs : List Int) (h : meanB xs = true) : ∃ Z, IntKind.i64.wrap (isum xs * (if meanB xs = true then lowF (isum xs) xs.length else Fr.z).d) = Z ∧ IntKind.i64.wrap ((xs.length : Int) * (if meanB xs = true then lowF (isum xs) xs.length else Fr.z).n) = Z := by
  rw [if_pos h, ← mean_sum h]
  exact ⟨_, rfl, rfl⟩

set_option maxHeartbeats 1600000 in
theorem qSum_c (ad : Option Addr) (cap : Nat) (xs : List Int) (w : World) (hr : RdI w ad xs) (hl : xs.length ≤ 40) (hall : xs.all finB' = true) :
    Calls Tryd.prog 22 #[.slice ad xs.length cap] w fun e w' => e = .returned (.int .i64 (isum xs)) ∧ w = w' := by
  have hab := Lib.hid (fun k => show -1000000000 ≤ isum (xs.take k) ∧ isum (xs.take k) ≤ 1000000000 from by
    have h1 := isum_bd (xs := xs.take k) (List.all_eq_true.2 (fun x hx => List.all_eq_true.1 hall x (List.mem_of_mem_take hx)))
    have h2 : (xs.take k).length ≤ xs.length := by rw [List.length_take]; omega
    omega)
  have HR := Lib.hid hr; clear hr hall
  go_enter Tryd.func22, Tryd.ntmps22
  go_wp2_with fail
  go_loopw [3, 8] (fun s i wr => ∃ j : Nat, j ≤ xs.length ∧ i = .int .i64 j ∧ s = .int .i64 (isum (xs.take j)) ∧ w = wr) (fun _ i _ => xs.length - (intOf i).toNat)
  case atStart => exact ⟨0, Nat.zero_le _, rfl, rfl, rfl⟩
  case round =>
    obtain ⟨j, hj, rfl, rfl, rfl⟩ := hrel
    by_cases hlt : j < xs.length
    case pos =>
      obtain ⟨b, off, rfl, hbb, c0⟩ := HR.out j hlt
      have hsn : isum (xs.take (j + 1)) = isum (xs.take j) + xs.getD j 0 := by rw [take_snoc xs j 0 (by omega), isum_snoc]
      have hb1 := hab.out (j + 1)
      rw [hsn] at hb1
      have HS := Lib.hid hsn; clear hsn
      generalize xs.getD j 0 = x at c0 hb1 HS
      generalize isum (xs.take j) = y at hb1 HS ⊢
      have e1 : IntKind.i64.wrap (y + x) = y + x := i64_small (by omega) (by omega)
      go_wp2_with fail
      go_roundw
      case rel => exact ⟨j + 1, by omega, by go_num, by rw [HS.out], trivial⟩
      case measure => simp [intOf]; omega
    case neg =>
      obtain rfl : j = xs.length := by omega
      rw [List.take_length]
      go_wp2_with fail
      go_ret
      exact ⟨rfl, rfl⟩

set_option maxHeartbeats 64000000 in
set_option maxRecDepth 100000 in
theorem lawFracParts_any (ad0 : Option Addr) (n0 cap0 : Nat) (ad1 : Option Addr) (n1 cap1 : Nat) (w : World) (hm0 : n0 ≤ 9223372036854775807) (hr0 : RdB w ad0 n0) (hm1 : n1 ≤ 9223372036854775807) (hr1 : RdB w ad1 n1) (hls : LaidL w) :
    Calls Tryd.prog 3 #[.slice ad0 n0 cap0, .slice ad1 n1 cap1] w fun e w' => e = .returned (.bool true) ∧ Below w.heap.size w w' := by
  have bw0 := Below.refl w.heap.size w
  have K1 := Lib.hid hr0; clear hr0
  have K2 := Lib.hid hr1; clear hr1
  have K3 := Lib.hid hls; clear hls
  obtain ⟨tb, htb⟩ : ∃ tb : Bool, decide (1048576 < wrap64 ((n0 : Int) + (n1 : Int))) = tb := ⟨_, rfl⟩
  cases tb
  case true =>
    go_enter Tryd.func3, Tryd.ntmps3
    go_wp2_with fail
    go_ret
    exact ⟨rfl, bw0⟩
  case false =>
    go_enter Tryd.func3, Tryd.ntmps3
    go_wp2_with fail
    refine (drawMultiplyFracs_c ad0 n0 cap0 _ hm0 K1.out).mono ?_
    rintro e w4 ⟨f, g, rfl, hb5⟩
    have K6 := Lib.hid (K1.out.below hb5); clear K1
    have K7 := Lib.hid (K2.out.below hb5); clear K2
    have K8 := Lib.hid (K3.out.below hb5); clear K3
    have bw9 := ball bw0 hb5
    clear bw0
    clear hb5
    have c1 := fun w => iMultiplyFracs_c f g w
    have c2 := fun w => sMultiplyFracs_c f g w
    have c3 := fun w => iDivideFracs_c f g w
    have c4 := fun w => sDivideFracs_c f g w
    have c5 := fun w => iFloorFrac_c f w
    have c6 := fun w => sFloorFrac_c f w
    have c7 := fun w => iCeilFrac_c f w
    have c8 := fun w => sCeilFrac_c f w
    have c9 := fun w hL => iFracText_c f w hL
    have c10 := fun w => sFracText_c f w
    have c11 := fun w => iIsFrac_c f w
    have c12 := fun w hk hn => undo_c f g w hk hn
    have c13 := fun w hk hL => back_c f w hk hL
    obtain ⟨X, hX⟩ : ∃ X, (if frB f = true then floZ f.n f.d else 0) = X := ⟨_, rfl⟩
    obtain ⟨Y, hY⟩ : ∃ Y, (if frB f = true then ceiZ f.n f.d else 0) = Y := ⟨_, rfl⟩
    have hfl := fun h => flo_facts f h X Y hX hY
    rw [hX] at c5 c6
    rw [hY] at c7 c8
    clear hX hY
    unfold frR at c1 c2 c3 c4
    unfold strV at c9 c10
    generalize (if mulB f g = true then lowF (f.n * g.n) (f.d * g.d) else Fr.z) = P at c1 c2 c12
    generalize mulB f g = km at c1 c2 c12
    generalize (if divB f g = true then lowF (f.n * g.d) (f.d * g.n) else Fr.z) = D at c3 c4
    generalize divB f g = kd at c3 c4
    generalize (⟨(if frB f = true then frTxt f else []).toArray⟩ : ByteArray) = T at c9 c10 c13
    generalize frB f = u at c5 c6 c7 c8 c9 c10 c11 c13 hfl
    obtain ⟨fa, fb⟩ := f
    obtain ⟨ga, gb⟩ := g
    obtain ⟨pa, pb⟩ := P
    obtain ⟨da, db⟩ := D
    unfold frV
    unfold frV at c1 c2 c3 c4 c5 c6 c7 c8 c9 c10 c11 c12 c13
    simp only at c1 c2 c3 c4 c5 c6 c7 c8 c9 c10 c11 c12 c13 hfl ⊢
    have HFL := Lib.hid hfl; clear hfl
    have C1 := Lib.hid c1; clear c1
    have C2 := Lib.hid c2; clear c2
    have C3 := Lib.hid c3; clear c3
    have C4 := Lib.hid c4; clear c4
    have C5 := Lib.hid c5; clear c5
    have C6 := Lib.hid c6; clear c6
    have C7 := Lib.hid c7; clear c7
    have C8 := Lib.hid c8; clear c8
    have C9 := Lib.hid c9; clear c9
    have C10 := Lib.hid c10; clear c10
    have C11 := Lib.hid c11; clear c11
    have C12 := Lib.hid c12; clear c12
    have C13 := Lib.hid c13; clear c13
    have hol := (FrO.new w4 fa fb rfl).alloc (.cells #[.int .i64 ga, .int .i64 gb] 24)
    have hom := FrO.new (g := w4.heap.size + 1) (w4.alloc (.cells #[.int .i64 fa, .int .i64 fb] 24)) ga gb (by simp)
    have hbx := ((Below.refl w4.heap.size w4).alloc (Nat.le_refl _) (.cells #[.int .i64 fa, .int .i64 fb] 24)).alloc (by simp) (.cells #[.int .i64 ga, .int .i64 gb] 24)
    go_wp2_with fail
    have K10 := Lib.hid (K6.out.below hbx); clear K6
    have K11 := Lib.hid (K7.out.below hbx); clear K7
    have K12 := Lib.hid (K8.out.below hbx); clear K8
    have bw13 := ball bw9 hbx
    clear bw9
    clear hbx
    have K14 := Lib.hid hol; clear hol
    have K15 := Lib.hid hom; clear hom
    refine (C1.out _).mono ?_
    rintro e w16 ⟨rfl, hb17⟩
    have K18 := Lib.hid (K10.out.below hb17); clear K10
    have K19 := Lib.hid (K11.out.below hb17); clear K11
    have K20 := Lib.hid (K12.out.below hb17); clear K12
    have K21 := Lib.hid (K14.out.below hb17); clear K14
    have K22 := Lib.hid (K15.out.below hb17); clear K15
    have bw23 := ball bw13 hb17
    clear bw13
    clear hb17
    have hneOF := Nat.ne_of_lt (FrO.lt K21.out)
    obtain ⟨zOF0, zOF1⟩ := (FrO.alloc K21.out (.cells #[.int .i64 pa, .int .i64 pb] 24)).at
    have hneOG := Nat.ne_of_lt (FrO.lt K22.out)
    obtain ⟨zOG0, zOG1⟩ := (FrO.alloc K22.out (.cells #[.int .i64 pa, .int .i64 pb] 24)).at
    have hnl := FrO.new w16 pa pb rfl
    have hbx := (Below.refl w16.heap.size w16).alloc (Nat.le_refl _) (.cells #[.int .i64 pa, .int .i64 pb] 24)
    go_wp2_with fail
    have K24 := Lib.hid (K18.out.below hbx); clear K18
    have K25 := Lib.hid (K19.out.below hbx); clear K19
    have K26 := Lib.hid (K20.out.below hbx); clear K20
    have K27 := Lib.hid (K21.out.below hbx); clear K21
    have K28 := Lib.hid (K22.out.below hbx); clear K22
    have bw29 := ball bw23 hbx
    clear bw23
    clear hbx
    have K30 := Lib.hid hnl; clear hnl
    clear hneOF zOF0 zOF1 hneOG zOG0 zOG1
    refine (C2.out _).mono ?_
    rintro e w31 ⟨rfl, hb32⟩
    have K33 := Lib.hid (K24.out.below hb32); clear K24
    have K34 := Lib.hid (K25.out.below hb32); clear K25
    have K35 := Lib.hid (K26.out.below hb32); clear K26
    have K36 := Lib.hid (K27.out.below hb32); clear K27
    have K37 := Lib.hid (K28.out.below hb32); clear K28
    have K38 := Lib.hid (K30.out.below hb32); clear K30
    have bw39 := ball bw29 hb32
    clear bw29
    clear hb32
    have hneOF := Nat.ne_of_lt (FrO.lt K36.out)
    obtain ⟨zOF0, zOF1⟩ := (FrO.alloc K36.out (.cells #[.int .i64 pa, .int .i64 pb] 24)).at
    have hneOG := Nat.ne_of_lt (FrO.lt K37.out)
    obtain ⟨zOG0, zOG1⟩ := (FrO.alloc K37.out (.cells #[.int .i64 pa, .int .i64 pb] 24)).at
    have hnl := FrO.new w31 pa pb rfl
    have hbx := (Below.refl w31.heap.size w31).alloc (Nat.le_refl _) (.cells #[.int .i64 pa, .int .i64 pb] 24)
    go_wp2_with fail
    have K40 := Lib.hid (K33.out.below hbx); clear K33
    have K41 := Lib.hid (K34.out.below hbx); clear K34
    have K42 := Lib.hid (K35.out.below hbx); clear K35
    have K43 := Lib.hid (K36.out.below hbx); clear K36
    have K44 := Lib.hid (K37.out.below hbx); clear K37
    have K45 := Lib.hid (K38.out.below hbx); clear K38
    have bw46 := ball bw39 hbx
    clear bw39
    clear hbx
    have K47 := Lib.hid hnl; clear hnl
    clear hneOF zOF0 zOF1 hneOG zOG0 zOG1
    refine (C3.out _).mono ?_
    rintro e w48 ⟨rfl, hb49⟩
    have K50 := Lib.hid (K40.out.below hb49); clear K40
    have K51 := Lib.hid (K41.out.below hb49); clear K41
    have K52 := Lib.hid (K42.out.below hb49); clear K42
    have K53 := Lib.hid (K43.out.below hb49); clear K43
    have K54 := Lib.hid (K44.out.below hb49); clear K44
    have K55 := Lib.hid (K45.out.below hb49); clear K45
    have K56 := Lib.hid (K47.out.below hb49); clear K47
    have bw57 := ball bw46 hb49
    clear bw46
    clear hb49
    have hneOF := Nat.ne_of_lt (FrO.lt K53.out)
    obtain ⟨zOF0, zOF1⟩ := (FrO.alloc K53.out (.cells #[.int .i64 da, .int .i64 db] 24)).at
    have hneOG := Nat.ne_of_lt (FrO.lt K54.out)
    obtain ⟨zOG0, zOG1⟩ := (FrO.alloc K54.out (.cells #[.int .i64 da, .int .i64 db] 24)).at
    have hnl := FrO.new w48 da db rfl
    have hbx := (Below.refl w48.heap.size w48).alloc (Nat.le_refl _) (.cells #[.int .i64 da, .int .i64 db] 24)
    go_wp2_with fail
    have K58 := Lib.hid (K50.out.below hbx); clear K50
    have K59 := Lib.hid (K51.out.below hbx); clear K51
    have K60 := Lib.hid (K52.out.below hbx); clear K52
    have K61 := Lib.hid (K53.out.below hbx); clear K53
    have K62 := Lib.hid (K54.out.below hbx); clear K54
    have K63 := Lib.hid (K55.out.below hbx); clear K55
    have K64 := Lib.hid (K56.out.below hbx); clear K56
    have bw65 := ball bw57 hbx
    clear bw57
    clear hbx
    have K66 := Lib.hid hnl; clear hnl
    clear hneOF zOF0 zOF1 hneOG zOG0 zOG1
    refine (C4.out _).mono ?_
    rintro e w67 ⟨rfl, hb68⟩
    have K69 := Lib.hid (K58.out.below hb68); clear K58
    have K70 := Lib.hid (K59.out.below hb68); clear K59
    have K71 := Lib.hid (K60.out.below hb68); clear K60
    have K72 := Lib.hid (K61.out.below hb68); clear K61
    have K73 := Lib.hid (K62.out.below hb68); clear K62
    have K74 := Lib.hid (K63.out.below hb68); clear K63
    have K75 := Lib.hid (K64.out.below hb68); clear K64
    have K76 := Lib.hid (K66.out.below hb68); clear K66
    have bw77 := ball bw65 hb68
    clear bw65
    clear hb68
    have hneOF := Nat.ne_of_lt (FrO.lt K72.out)
    obtain ⟨zOF0, zOF1⟩ := (FrO.alloc K72.out (.cells #[.int .i64 da, .int .i64 db] 24)).at
    have hnl := FrO.new w67 da db rfl
    have hbx := (Below.refl w67.heap.size w67).alloc (Nat.le_refl _) (.cells #[.int .i64 da, .int .i64 db] 24)
    go_wp2_with fail
    have K78 := Lib.hid (K69.out.below hbx); clear K69
    have K79 := Lib.hid (K70.out.below hbx); clear K70
    have K80 := Lib.hid (K71.out.below hbx); clear K71
    have K81 := Lib.hid (K72.out.below hbx); clear K72
    have K82 := Lib.hid (K73.out.below hbx); clear K73
    have K83 := Lib.hid (K74.out.below hbx); clear K74
    have K84 := Lib.hid (K75.out.below hbx); clear K75
    have K85 := Lib.hid (K76.out.below hbx); clear K76
    have bw86 := ball bw77 hbx
    clear bw77
    clear hbx
    have K87 := Lib.hid hnl; clear hnl
    clear hneOF zOF0 zOF1
    refine (C5.out _).mono ?_
    rintro e w88 ⟨rfl, hb89⟩
    have K90 := Lib.hid (K78.out.below hb89); clear K78
    have K91 := Lib.hid (K79.out.below hb89); clear K79
    have K92 := Lib.hid (K80.out.below hb89); clear K80
    have K93 := Lib.hid (K81.out.below hb89); clear K81
    have K94 := Lib.hid (K82.out.below hb89); clear K82
    have K95 := Lib.hid (K83.out.below hb89); clear K83
    have K96 := Lib.hid (K84.out.below hb89); clear K84
    have K97 := Lib.hid (K85.out.below hb89); clear K85
    have K98 := Lib.hid (K87.out.below hb89); clear K87
    have bw99 := ball bw86 hb89
    clear bw86
    clear hb89
    obtain ⟨x0, x1⟩ := K93.out.at
    go_wp2_with fail
    refine (C6.out _).mono ?_
    rintro e w100 ⟨rfl, hb101⟩
    have K102 := Lib.hid (K90.out.below hb101); clear K90
    have K103 := Lib.hid (K91.out.below hb101); clear K91
    have K104 := Lib.hid (K92.out.below hb101); clear K92
    have K105 := Lib.hid (K93.out.below hb101); clear K93
    have K106 := Lib.hid (K94.out.below hb101); clear K94
    have K107 := Lib.hid (K95.out.below hb101); clear K95
    have K108 := Lib.hid (K96.out.below hb101); clear K96
    have K109 := Lib.hid (K97.out.below hb101); clear K97
    have K110 := Lib.hid (K98.out.below hb101); clear K98
    have bw111 := ball bw99 hb101
    clear bw99
    clear hb101
    clear x0 x1
    obtain ⟨x0, x1⟩ := K105.out.at
    go_wp2_with fail
    refine (C7.out _).mono ?_
    rintro e w112 ⟨rfl, hb113⟩
    have K114 := Lib.hid (K102.out.below hb113); clear K102
    have K115 := Lib.hid (K103.out.below hb113); clear K103
    have K116 := Lib.hid (K104.out.below hb113); clear K104
    have K117 := Lib.hid (K105.out.below hb113); clear K105
    have K118 := Lib.hid (K106.out.below hb113); clear K106
    have K119 := Lib.hid (K107.out.below hb113); clear K107
    have K120 := Lib.hid (K108.out.below hb113); clear K108
    have K121 := Lib.hid (K109.out.below hb113); clear K109
    have K122 := Lib.hid (K110.out.below hb113); clear K110
    have bw123 := ball bw111 hb113
    clear bw111
    clear hb113
    clear x0 x1
    obtain ⟨x0, x1⟩ := K117.out.at
    go_wp2_with fail
    refine (C8.out _).mono ?_
    rintro e w124 ⟨rfl, hb125⟩
    have K126 := Lib.hid (K114.out.below hb125); clear K114
    have K127 := Lib.hid (K115.out.below hb125); clear K115
    have K128 := Lib.hid (K116.out.below hb125); clear K116
    have K129 := Lib.hid (K117.out.below hb125); clear K117
    have K130 := Lib.hid (K118.out.below hb125); clear K118
    have K131 := Lib.hid (K119.out.below hb125); clear K119
    have K132 := Lib.hid (K120.out.below hb125); clear K120
    have K133 := Lib.hid (K121.out.below hb125); clear K121
    have K134 := Lib.hid (K122.out.below hb125); clear K122
    have bw135 := ball bw123 hb125
    clear bw123
    clear hb125
    clear x0 x1
    obtain ⟨x0, x1⟩ := K129.out.at
    go_wp2_with fail
    refine (C9.out _ K128.out.s).mono ?_
    rintro e w136 ⟨rfl, hb137⟩
    have K138 := Lib.hid (K126.out.below hb137); clear K126
    have K139 := Lib.hid (K127.out.below hb137); clear K127
    have K140 := Lib.hid (K128.out.below hb137); clear K128
    have K141 := Lib.hid (K129.out.below hb137); clear K129
    have K142 := Lib.hid (K130.out.below hb137); clear K130
    have K143 := Lib.hid (K131.out.below hb137); clear K131
    have K144 := Lib.hid (K132.out.below hb137); clear K132
    have K145 := Lib.hid (K133.out.below hb137); clear K133
    have K146 := Lib.hid (K134.out.below hb137); clear K134
    have bw147 := ball bw135 hb137
    clear bw135
    clear hb137
    clear x0 x1
    obtain ⟨x0, x1⟩ := K141.out.at
    go_wp2_with fail
    refine (C10.out _).mono ?_
    rintro e w148 ⟨rfl, hb149⟩
    have K150 := Lib.hid (K138.out.below hb149); clear K138
    have K151 := Lib.hid (K139.out.below hb149); clear K139
    have K152 := Lib.hid (K140.out.below hb149); clear K140
    have K153 := Lib.hid (K141.out.below hb149); clear K141
    have K154 := Lib.hid (K142.out.below hb149); clear K142
    have K155 := Lib.hid (K143.out.below hb149); clear K143
    have K156 := Lib.hid (K144.out.below hb149); clear K144
    have K157 := Lib.hid (K145.out.below hb149); clear K145
    have K158 := Lib.hid (K146.out.below hb149); clear K146
    have bw159 := ball bw147 hb149
    clear bw147
    clear hb149
    clear x0 x1
    clear C1 C2 C3 C4 C5 C6 C7 C8 C9 C10
    obtain ⟨x0, x1⟩ := K153.out.at
    obtain ⟨y0, y1⟩ := K155.out.at
    obtain ⟨z0, z1⟩ := K156.out.at
    obtain ⟨s0, s1⟩ := K157.out.at
    obtain ⟨t0, t1⟩ := K158.out.at
    go_wp2_with fail
    refine (C11.out _).mono ?_
    rintro e w160 ⟨rfl, hb161⟩
    have K162 := Lib.hid (K150.out.below hb161); clear K150
    have K163 := Lib.hid (K151.out.below hb161); clear K151
    have K164 := Lib.hid (K152.out.below hb161); clear K152
    have K165 := Lib.hid (K153.out.below hb161); clear K153
    have K166 := Lib.hid (K154.out.below hb161); clear K154
    have K167 := Lib.hid (K155.out.below hb161); clear K155
    have K168 := Lib.hid (K156.out.below hb161); clear K156
    have K169 := Lib.hid (K157.out.below hb161); clear K157
    have K170 := Lib.hid (K158.out.below hb161); clear K158
    have bw171 := ball bw159 hb161
    clear bw159
    clear hb161
    clear x0 x1 y0 y1 z0 z1 s0 s1 t0 t1
    clear K162
    clear K168
    clear K169
    clear K170
    clear C11
    obtain ⟨gz, hgz⟩ : ∃ b, (ga != 0) = b := ⟨_, rfl⟩
    have hgz2 : (!(ga == 0)) = gz := hgz
    go_upto_region 16 with fail
    obtain ⟨wq, hwq⟩ : ∃ wq, w160 = wq := ⟨_, rfl⟩
    rw [hwq] at K163 K164 K165 K166 K167 bw171 ⊢
    clear hwq
    go_cut [175] from 175 to 175 (fun s wc => s = .bool (km && gz) ∧ wq = wc)
    case first =>
      obtain ⟨g0, g1⟩ := K166.out.at
      cases km
      all_goals
        go_wp2_with fail
        go_meet
        exact ⟨rfl, rfl⟩
    case rest =>
      obtain ⟨rfl, rfl⟩ := hcut
      obtain ⟨kg, hkg⟩ : ∃ b, (km && gz) = b := ⟨_, rfl⟩
      rw [hkg]
      have HKG := Lib.hid hkg; clear hkg
      have HGZ := Lib.hid hgz; clear hgz hgz2
      go_upto_if 175 with fail
      go_cut [] from 175 to 175 (fun wc => Below wq.heap.size wq wc)
      case first =>
        cases kg
        case false =>
          go_wp2_with fail
          go_meet
          exact Below.refl _ _
        case true =>
          obtain ⟨rfl, rfl⟩ := Bool.and_eq_true_iff.1 HKG.out
          have hg0 : ga ≠ 0 := by have := HGZ.out; simpa using this
          have D12 := Lib.hid (fun w => C12.out w rfl hg0)
          clear C12 hg0
          obtain ⟨x0, x1⟩ := K167.out.at
          obtain ⟨y0, y1⟩ := K166.out.at
          go_wp2_with fail
          refine (D12.out _).mono ?_
          rintro e w172 ⟨rfl, hb173⟩
          have K174 := Lib.hid (K163.out.below hb173); clear K163
          have K175 := Lib.hid (K164.out.below hb173); clear K164
          have K176 := Lib.hid (K165.out.below hb173); clear K165
          have K177 := Lib.hid (K166.out.below hb173); clear K166
          have K178 := Lib.hid (K167.out.below hb173); clear K167
          have bw179 := hb173
          clear hb173
          clear x0 x1 y0 y1
          have hneOF := Nat.ne_of_lt (FrO.lt K176.out)
          obtain ⟨zOF0, zOF1⟩ := (FrO.alloc K176.out (.cells #[.int .i64 fa, .int .i64 fb] 24)).at
          go_wp2_with fail
          go_meet
          exact bal_alloc bw179
      case rest =>
        have hbc := hcut
        obtain ⟨wt, rfl⟩ : ∃ wt : World, wt = wc := ⟨_, rfl⟩
        have K180 := Lib.hid (K163.out.below hbc); clear K163
        have K181 := Lib.hid (K164.out.below hbc); clear K164
        have K182 := Lib.hid (K165.out.below hbc); clear K165
        have K183 := Lib.hid (K166.out.below hbc); clear K166
        have K184 := Lib.hid (K167.out.below hbc); clear K167
        have bw185 := ball bw171 hbc
        clear bw171
        clear hbc
        clear K183
        clear K184
        clear C12 HKG HGZ
        go_upto_if 189 with fail
        go_cut [] from 189 to 189 (fun wc => Below wt.heap.size wt wc)
        case first =>
          cases u
          case false =>
            go_wp2_with fail
            go_meet
            exact Below.refl _ _
          case true =>
            have D13 := Lib.hid (fun w hL => C13.out w rfl hL)
            obtain ⟨⟨e1, e2⟩, ⟨e3, e4, e5⟩, ⟨e6, e7⟩, e8⟩ := HFL.out rfl
            have i1 : decide (fa < X * fb) = false := decide_eq_false (by first | exact e2 | exact Int.not_lt.2 e2)
            have i2 : decide ((X + 1) * fb ≤ fa) = false := decide_eq_false (by first | exact e5 | exact Int.not_le.2 e5)
            have i3 : decide (1 < Y - X) = false := decide_eq_false (by first | exact e7 | exact Int.not_lt.2 e7)
            clear C13 e2 e5 e7
            go_wp2_with fail
            refine (D13.out _ K181.out).mono ?_
            rintro e w186 ⟨rfl, hb187⟩
            have K188 := Lib.hid (K180.out.below hb187); clear K180
            have K189 := Lib.hid (K181.out.below hb187); clear K181
            have K190 := Lib.hid (K182.out.below hb187); clear K182
            have bw191 := hb187
            clear hb187
            have hneOF := Nat.ne_of_lt (FrO.lt K190.out)
            obtain ⟨zOF0, zOF1⟩ := (FrO.alloc K190.out (.cells #[.int .i64 fa, .int .i64 fb] 24)).at
            rcases e8 with ⟨h1, h2⟩ | ⟨h1, h2⟩
            · have j1 : (Y == X) = true := beq_iff_eq.2 h1
              have j2 : (fb == 1) = true := beq_iff_eq.2 h2
              clear h1 h2
              go_wp2_with fail
              go_meet
              exact bal_alloc bw191
            · have j1 : (Y == X) = false := beq_eq_false_iff_ne.2 h1
              have j2 : (fb == 1) = false := beq_eq_false_iff_ne.2 h2
              clear h1 h2
              go_wp2_with fail
              go_meet
              exact bal_alloc bw191
        case rest =>
          have hbc := hcut
          obtain ⟨wu, rfl⟩ : ∃ wu : World, wu = wc := ⟨_, rfl⟩
          have K192 := Lib.hid (K180.out.below hbc); clear K180
          have K193 := Lib.hid (K181.out.below hbc); clear K181
          have K194 := Lib.hid (K182.out.below hbc); clear K182
          have bw195 := ball bw185 hbc
          clear bw185
          clear hbc
          clear K194
          clear C13 HFL
          go_wp2_with fail
          refine (drawMean_c ad1 n1 cap1 _ hm1 K192.out).mono ?_
          rintro e w196 ⟨vx, xs, rfl, hlx, hrow, hb197⟩
          have K198 := Lib.hid (K192.out.below hb197); clear K192
          have K199 := Lib.hid (K193.out.below hb197); clear K193
          have bw200 := ball bw195 hb197
          clear bw195
          clear hb197
          obtain ⟨adx, capx, rfl, hrx⟩ := hrow.shape
          clear hrow
          have d1 := fun w h => iMeanOfNumbers_c adx capx xs w h (by omega)
          have d2 := fun w h => sMeanOfNumbers_c adx capx xs w h (by omega)
          have hfa := fun h => mean_facts xs h
          have hq := fun (h : meanB xs = true) w hr => qSum_c adx capx xs w hr (by have := inB_t.1 (Bool.and_eq_true_iff.1 (Bool.and_eq_true_iff.1 h).1).1; omega) (Bool.and_eq_true_iff.1 (Bool.and_eq_true_iff.1 h).1).2
          unfold frR at d1 d2
          generalize (if meanB xs = true then lowF (isum xs) xs.length else Fr.z) = M at d1 d2 hfa
          generalize meanB xs = kn at d1 d2 hfa hq
          generalize isum xs = sx at hfa hq
          obtain ⟨ma, mb⟩ := M
          unfold frV at d1 d2
          simp only at d1 d2 hfa
          generalize hNx : xs.length = N at d1 d2 hfa hq hlx ⊢
          have D1 := Lib.hid d1; have D2 := Lib.hid d2; have HFA := Lib.hid hfa; have HQ := Lib.hid hq; clear d1 d2 hfa hq hNx
          have K201 := Lib.hid hrx; clear hrx
          go_wp2_with fail
          refine (D1.out _ K201.out).mono ?_
          rintro e w202 ⟨rfl, hb203⟩
          have K204 := Lib.hid (K198.out.below hb203); clear K198
          have K205 := Lib.hid (K199.out.below hb203); clear K199
          have K206 := Lib.hid (K201.out.below hb203); clear K201
          have bw207 := ball bw200 hb203
          clear bw200
          clear hb203
          have hnl := FrO.new w202 ma mb rfl
          have hbx := (Below.refl w202.heap.size w202).alloc (Nat.le_refl _) (.cells #[.int .i64 ma, .int .i64 mb] 24)
          go_wp2_with fail
          have K208 := Lib.hid (K204.out.below hbx); clear K204
          have K209 := Lib.hid (K205.out.below hbx); clear K205
          have K210 := Lib.hid (K206.out.below hbx); clear K206
          have bw211 := ball bw207 hbx
          clear bw207
          clear hbx
          have K212 := Lib.hid hnl; clear hnl
          refine (D2.out _ K210.out).mono ?_
          rintro e w213 ⟨rfl, hb214⟩
          have K215 := Lib.hid (K208.out.below hb214); clear K208
          have K216 := Lib.hid (K209.out.below hb214); clear K209
          have K217 := Lib.hid (K210.out.below hb214); clear K210
          have K218 := Lib.hid (K212.out.below hb214); clear K212
          have bw219 := ball bw211 hb214
          clear bw211
          clear hb214
          have hnl := FrO.new w213 ma mb rfl
          have hbx := (Below.refl w213.heap.size w213).alloc (Nat.le_refl _) (.cells #[.int .i64 ma, .int .i64 mb] 24)
          go_wp2_with fail
          have K220 := Lib.hid (K215.out.below hbx); clear K215
          have K221 := Lib.hid (K216.out.below hbx); clear K216
          have K222 := Lib.hid (K217.out.below hbx); clear K217
          have K223 := Lib.hid (K218.out.below hbx); clear K218
          have bw224 := ball bw219 hbx
          clear bw219
          clear hbx
          have K225 := Lib.hid hnl; clear hnl
          refine (drawParseFrac_c ad1 n1 cap1 _ hm1 K220.out).mono ?_
          rintro e w226 ⟨sc, rfl, hsc, hb227⟩
          have K228 := Lib.hid (K220.out.below hb227); clear K220
          have K229 := Lib.hid (K221.out.below hb227); clear K221
          have K230 := Lib.hid (K222.out.below hb227); clear K222
          have K231 := Lib.hid (K223.out.below hb227); clear K223
          have K232 := Lib.hid (K225.out.below hb227); clear K225
          have bw233 := ball bw224 hb227
          clear bw224
          clear hb227
          have hsl := ByteArray.toList_mk sc.toList
          have hsz : sc.toList.length ≤ 18 := by rw [len_str]; exact hsc
          have e1 := fun w hL => iParseFrac_c sc.toList w (PF_short hsz) hL
          have e2 := fun w => sParseFrac_c sc w (by omega)
          obtain ⟨q1, q2⟩ := fpar_eq sc.toList
          have hv : frR (parW sc.toList) (fparW sc.toList) = frR (fparF sc.toList) (fparB sc.toList) := by
            rw [q1]
            cases h : fparB sc.toList
            · rfl
            · rw [q2 h]
          rw [hv] at e2
          rw [show (⟨sc.toList.toArray⟩ : ByteArray) = sc from ByteArray.ext (by rw [ByteArray.toList_eq])] at e1
          unfold frR at e1 e2
          generalize (if fparB sc.toList = true then fparF sc.toList else Fr.z) = R at e1 e2
          generalize fparB sc.toList = kr at e1 e2
          clear hsl hsz hsc hv q1 q2
          obtain ⟨ra, rb⟩ := R
          unfold frV at e1 e2
          simp only at e1 e2
          have E1 := Lib.hid e1; have E2 := Lib.hid e2; clear e1 e2
          go_wp2_with fail
          refine (E1.out _ K229.out).mono ?_
          rintro e w234 ⟨rfl, hb235⟩
          have K236 := Lib.hid (K228.out.below hb235); clear K228
          have K237 := Lib.hid (K229.out.below hb235); clear K229
          have K238 := Lib.hid (K230.out.below hb235); clear K230
          have K239 := Lib.hid (K231.out.below hb235); clear K231
          have K240 := Lib.hid (K232.out.below hb235); clear K232
          have bw241 := ball bw233 hb235
          clear bw233
          clear hb235
          have hnl := FrO.new w234 ra rb rfl
          have hbx := (Below.refl w234.heap.size w234).alloc (Nat.le_refl _) (.cells #[.int .i64 ra, .int .i64 rb] 24)
          go_wp2_with fail
          have K242 := Lib.hid (K236.out.below hbx); clear K236
          have K243 := Lib.hid (K237.out.below hbx); clear K237
          have K244 := Lib.hid (K238.out.below hbx); clear K238
          have K245 := Lib.hid (K239.out.below hbx); clear K239
          have K246 := Lib.hid (K240.out.below hbx); clear K240
          have bw247 := ball bw241 hbx
          clear bw241
          clear hbx
          have K248 := Lib.hid hnl; clear hnl
          refine (E2.out _).mono ?_
          rintro e w249 ⟨rfl, hb250⟩
          have K251 := Lib.hid (K242.out.below hb250); clear K242
          have K252 := Lib.hid (K243.out.below hb250); clear K243
          have K253 := Lib.hid (K244.out.below hb250); clear K244
          have K254 := Lib.hid (K245.out.below hb250); clear K245
          have K255 := Lib.hid (K246.out.below hb250); clear K246
          have K256 := Lib.hid (K248.out.below hb250); clear K248
          have bw257 := ball bw247 hb250
          clear bw247
          clear hb250
          have hnl := FrO.new w249 ra rb rfl
          have hbx := (Below.refl w249.heap.size w249).alloc (Nat.le_refl _) (.cells #[.int .i64 ra, .int .i64 rb] 24)
          go_upto_region 30 with fail
          have K258 := Lib.hid (K251.out.below hbx); clear K251
          have K259 := Lib.hid (K252.out.below hbx); clear K252
          have K260 := Lib.hid (K253.out.below hbx); clear K253
          have K261 := Lib.hid (K254.out.below hbx); clear K254
          have K262 := Lib.hid (K255.out.below hbx); clear K255
          have K263 := Lib.hid (K256.out.below hbx); clear K256
          have bw264 := ball bw257 hbx
          clear bw257
          clear hbx
          have K265 := Lib.hid hnl; clear hnl
          generalize (w249.alloc (.cells #[.int .i64 ra, .int .i64 rb] 24)) = wz at K258 K259 K260 K261 K262 K263 K265 bw264 ⊢
          obtain ⟨x0, x1⟩ := K261.out.at
          obtain ⟨y0, y1⟩ := K262.out.at
          obtain ⟨z0, z1⟩ := K263.out.at
          obtain ⟨t0, t1⟩ := K265.out.at
          cases kn
          case false =>
            go_wp2_with fail
            go_quiet (fail)
            go_wp2_with fail
            go_ret
            exact ⟨rfl, bdrewN bw264 _⟩
          case true =>
            obtain ⟨Z, hz1, hz2⟩ := HFA.out rfl
            have hq := Lib.hid (fun n => HQ.out rfl (wz.drewN n) (K260.out.below (bdrewN (Below.refl _ _) n)))
            go_wp2_with fail
            go_quiet ((go_at_call 22; exact Calls.quiet_of_same ((hq.out _).mono (fun e w' h => ⟨h.1, h.2.symm⟩))))
            go_wp2_with fail
            go_ret
            exact ⟨rfl, bdrewN bw264 _⟩

end Go.Proofs.YtljhdnipllacbaaDoor
