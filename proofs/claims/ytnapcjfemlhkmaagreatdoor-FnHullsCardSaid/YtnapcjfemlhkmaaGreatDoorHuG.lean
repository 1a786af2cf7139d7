/-
  The reference's pyHas at two points. Printed by gen_huG.py. By an AI agent.
-/
import Derived.Test.YtnapcjfemlhkmaaGreatDoorHuC
import Derived.Test.YtnapcjfemlhkmaaGreatDoorRegJ
import Derived.Test.YtnapcjfemlhkmaaGreatDoorArA
namespace Go.Proofs.YtnapcjfemlhkmaaGreatDoor
open Go.RowKit


structure HpI (b off cap g : Nat) (ax ay cx cy px py T x1 x2 x3 x4 m1 m2 : Int) (u1 u2 u3 : Bool) (W : World) (L : Nat → Bool) (w : World) (s4 s18 s19 s20 s21 s22 s23 s24 s25 s26 s27 s28 s29 s30 s31 s32 s33 s34 s35 s36 s37 s38 s39 s40 s41 s42 s43 s44 s45 s46 s47 s48 s49 s50 s51 s52 s53 s54 s55 s56 s57 s58 s59 s60 s61 s62 : Value) : Prop where
  bel : Below W.heap.size W w
  p0 : L 0 = true → s18 = .slice (some ⟨b, off, none⟩) 2 cap
  p1 : L 1 = true → s19 = .pointer (some ⟨b, off, none⟩)
  p2 : L 2 = true → s20 = .agg #[.int .i64 ax, .int .i64 ay]
  p3 : L 3 = true → s21 = .slice (some ⟨b, off, none⟩) 2 cap
  p4 : L 4 = true → s22 = .pointer (some ⟨b, off + 2, none⟩)
  p5 : L 5 = true → s23 = .agg #[.int .i64 cx, .int .i64 cy]
  p6 : L 6 = true → s24 = .agg #[.int .i64 px, .int .i64 py]
  p7 : L 7 = true → s25 = .int .i64 T
  p8 : L 8 = true → s26 = .bool false
  p9 : L 9 = true → s27 = .bool false
  p10 : L 10 = true → s28 = undef
  p11 : L 11 = true → s29 = undef
  p12 : L 12 = true → s30 = undef
  p13 : L 13 = true → s31 = undef
  p14 : L 14 = true → s32 = undef
  p15 : L 15 = true → s33 = undef
  p16 : L 16 = true → s34 = undef
  p17 : L 17 = true → s35 = undef
  p18 : L 18 = true → s36 = undef
  p19 : L 19 = true → s37 = undef
  p20 : L 20 = true → s38 = undef
  p21 : L 21 = true → s39 = undef
  p22 : L 22 = true → s40 = undef
  p23 : L 23 = true → s41 = undef
  p24 : L 24 = true → s42 = undef
  p25 : L 25 = true → s43 = undef
  p26 : L 26 = true → s44 = .bool false
  p27 : L 27 = true → s45 = .bool false
  p28 : L 28 = true → s46 = undef
  p29 : L 29 = true → s47 = undef
  p30 : L 30 = true → s48 = undef
  p31 : L 31 = true → s49 = undef
  p32 : L 32 = true → s50 = undef
  p33 : L 33 = true → s51 = undef
  p34 : L 34 = true → s52 = undef
  p35 : L 35 = true → s53 = undef
  p36 : L 36 = true → s54 = undef
  p37 : L 37 = true → s55 = undef
  p38 : L 38 = true → s56 = undef
  p39 : L 39 = true → s57 = undef
  p40 : L 40 = true → s58 = undef
  p41 : L 41 = true → s59 = undef
  p42 : L 42 = true → s60 = undef
  p43 : L 43 = true → s61 = undef
  p44 : L 44 = true → s62 = .bool false
  p45 : L 45 = true → s4 = .bool false
theorem HpI.mono {b off cap g : Nat} {ax ay cx cy px py T x1 x2 x3 x4 m1 m2 : Int} {u1 u2 u3 : Bool} {W w w' : World} {L : Nat → Bool} {s4 s18 s19 s20 s21 s22 s23 s24 s25 s26 s27 s28 s29 s30 s31 s32 s33 s34 s35 s36 s37 s38 s39 s40 s41 s42 s43 s44 s45 s46 s47 s48 s49 s50 s51 s52 s53 s54 s55 s56 s57 s58 s59 s60 s61 s62 : Value} (h : HpI b off cap g ax ay cx cy px py T x1 x2 x3 x4 m1 m2 u1 u2 u3 W L w s4 s18 s19 s20 s21 s22 s23 s24 s25 s26 s27 s28 s29 s30 s31 s32 s33 s34 s35 s36 s37 s38 s39 s40 s41 s42 s43 s44 s45 s46 s47 s48 s49 s50 s51 s52 s53 s54 s55 s56 s57 s58 s59 s60 s61 s62) (hb : Below w.heap.size w w') : HpI b off cap g ax ay cx cy px py T x1 x2 x3 x4 m1 m2 u1 u2 u3 W L w' s4 s18 s19 s20 s21 s22 s23 s24 s25 s26 s27 s28 s29 s30 s31 s32 s33 s34 s35 s36 s37 s38 s39 s40 s41 s42 s43 s44 s45 s46 s47 s48 s49 s50 s51 s52 s53 s54 s55 s56 s57 s58 s59 s60 s61 s62 :=
  ⟨ball h.bel hb, (fun e => h.p0 e), (fun e => h.p1 e), (fun e => h.p2 e), (fun e => h.p3 e), (fun e => h.p4 e), (fun e => h.p5 e), (fun e => h.p6 e), (fun e => h.p7 e), (fun e => h.p8 e), (fun e => h.p9 e), (fun e => h.p10 e), (fun e => h.p11 e), (fun e => h.p12 e), (fun e => h.p13 e), (fun e => h.p14 e), (fun e => h.p15 e), (fun e => h.p16 e), (fun e => h.p17 e), (fun e => h.p18 e), (fun e => h.p19 e), (fun e => h.p20 e), (fun e => h.p21 e), (fun e => h.p22 e), (fun e => h.p23 e), (fun e => h.p24 e), (fun e => h.p25 e), (fun e => h.p26 e), (fun e => h.p27 e), (fun e => h.p28 e), (fun e => h.p29 e), (fun e => h.p30 e), (fun e => h.p31 e), (fun e => h.p32 e), (fun e => h.p33 e), (fun e => h.p34 e), (fun e => h.p35 e), (fun e => h.p36 e), (fun e => h.p37 e), (fun e => h.p38 e), (fun e => h.p39 e), (fun e => h.p40 e), (fun e => h.p41 e), (fun e => h.p42 e), (fun e => h.p43 e), (fun e => h.p44 e), (fun e => h.p45 e)⟩
set_option maxHeartbeats 6400000 in
set_option maxRecDepth 100000 in
theorem pyHas_Hp (b off cap : Nat) (ax ay cx cy px py T x1 x2 x3 x4 m1 m2 : Int) (u1 u2 u3 : Bool) (w : World) (hr : RdP w (some ⟨b, off, none⟩) [⟨ax, ay⟩, ⟨cx, cy⟩])
    (ct : ∀ w, Calls Tryz.prog 77 #[.agg #[.int .i64 ax, .int .i64 ay], .agg #[.int .i64 cx, .int .i64 cy], .agg #[.int .i64 px, .int .i64 py]] w fun e w' => e = .returned (.int .i64 T) ∧ Below w.heap.size w w')
    (hT : (T == 0) = false) (_h1 : IntKind.i64.wrap (px - ax) = x1) (_h2 : IntKind.i64.wrap (px - cx) = x2) (_h3 : IntKind.i64.wrap (x1 * x2) = m1) (_h4 : decide (m1 ≤ 0) = u2)
    (_h5 : IntKind.i64.wrap (py - ay) = x3) (_h6 : IntKind.i64.wrap (py - cy) = x4) (_h7 : IntKind.i64.wrap (x3 * x4) = m2) (_h8 : decide (m2 ≤ 0) = u3) :
    Calls Tryz.prog 52 #[.slice (some ⟨b, off, none⟩) 2 cap, .agg #[.int .i64 px, .int .i64 py]] w fun e w' => e = .returned (.bool false) ∧ Below w.heap.size w w' := by
  have CT := Lib.hid ct; clear ct
  obtain ⟨c0, c1⟩ := hr.at (j := 0) (by simp)
  obtain ⟨c2, c3⟩ := hr.at (j := 1) (by simp)
  obtain ⟨b', off', eb, hbl⟩ := hr.some (by simp)
  obtain ⟨rfl, rfl⟩ : b = b' ∧ off = off' := by simpa using eb
  clear eb hr
  simp only [List.getD_cons_zero, List.getD_cons_succ, Nat.zero_mul, Nat.add_zero, Nat.one_mul] at c0 c1 c2 c3
  have hb0 : Below w.heap.size w (w.alloc (.cells #[.int .i64 px, .int .i64 py] 30)) := (Below.refl _ _).alloc (Nat.le_refl _) _
  have hbl1 : b < (w.alloc (.cells #[.int .i64 px, .int .i64 py] 30)).heap.size := Nat.lt_of_lt_of_le hbl hb0.size
  obtain ⟨g, hg⟩ : ∃ g, w.heap.size = g := ⟨_, rfl⟩
  have o0 := PtO.new w px py hg.symm
  obtain ⟨x0', x1'⟩ := o0.at
  have Fa0 := Lib.hid (And.intro hbl1 (bcell hb0 hbl c0))
  have Fa1 := Lib.hid (And.intro hbl1 (bcell hb0 hbl c1))
  have Fc0 := Lib.hid (And.intro hbl1 (bcell hb0 hbl c2))
  have Fc1 := Lib.hid (And.intro hbl1 (bcell hb0 hbl c3))
  have Fp0 := Lib.hid (And.intro o0.lt x0')
  have Fp1 := Lib.hid (And.intro o0.lt x1')
  clear x0' x1' o0 c0 c1 c2 c3 hbl hbl1
  have HB0 := Lib.hid hb0; clear hb0
  go_enter Tryz.func52, Tryz.ntmps52
  go_wp2_with fail
  try simp only [hg]
  have HG := Lib.hid hg
  generalize w.alloc (.cells #[.int .i64 px, .int .i64 py] 30) = W at Fa0 Fa1 Fc0 Fc1 Fp0 Fp1 HB0 ⊢
  clear hg
  refine wp_region_inv (fun L ac w' => ∃ s4 s18 s19 s20 s21 s22 s23 s24 s25 s26 s27 s28 s29 s30 s31 s32 s33 s34 s35 s36 s37 s38 s39 s40 s41 s42 s43 s44 s45 s46 s47 s48 s49 s50 s51 s52 s53 s54 s55 s56 s57 s58 s59 s60 s61 s62, ac = { tmps := #[.slice (some ⟨b, off, none⟩) 2 cap, .agg #[.int .i64 px, .int .i64 py], undef, .pointer (some ⟨g, 0, none⟩), s4, undef, undef, .slice (some ⟨b, off, none⟩) 2 cap, .int .i64 2, .bool false, undef, undef, undef, undef, undef, .slice (some ⟨b, off, none⟩) 2 cap, .int .i64 2, .bool true, s18, s19, s20, s21, s22, s23, s24, s25, s26, s27, s28, s29, s30, s31, s32, s33, s34, s35, s36, s37, s38, s39, s40, s41, s42, s43, s44, s45, s46, s47, s48, s49, s50, s51, s52, s53, s54, s55, s56, s57, s58, s59, s60, s61, s62, undef, undef, undef, undef, undef, undef, undef, undef, undef, undef, undef, undef, undef, undef, undef, undef, undef, undef, undef, undef], defers := [] } ∧ HpI b off cap g ax ay cx cy px py T x1 x2 x3 x4 m1 m2 u1 u2 u3 W L w' s4 s18 s19 s20 s21 s22 s23 s24 s25 s26 s27 s28 s29 s30 s31 s32 s33 s34 s35 s36 s37 s38 s39 s40 s41 s42 s43 s44 s45 s46 s47 s48 s49 s50 s51 s52 s53 s54 s55 s56 s57 s58 s59 s60 s61 s62) (by kernel_rfl) (by kernel_rfl) ?_ ?_ ?_
  · exact ⟨_, _, _, _, _, _, _, _, _, _, _, _, _, _, _, _, _, _, _, _, _, _, _, _, _, _, _, _, _, _, _, _, _, _, _, _, _, _, _, _, _, _, _, _, _, _, rfl, (Below.refl _ _).drew, (fun e => by cases e), (fun e => by cases e), (fun e => by cases e), (fun e => by cases e), (fun e => by cases e), (fun e => by cases e), (fun e => by cases e), (fun e => by cases e), (fun e => by cases e), (fun e => by cases e), (fun e => by cases e), (fun e => by cases e), (fun e => by cases e), (fun e => by cases e), (fun e => by cases e), (fun e => by cases e), (fun e => by cases e), (fun e => by cases e), (fun e => by cases e), (fun e => by cases e), (fun e => by cases e), (fun e => by cases e), (fun e => by cases e), (fun e => by cases e), (fun e => by cases e), (fun e => by cases e), (fun e => by cases e), (fun e => by cases e), (fun e => by cases e), (fun e => by cases e), (fun e => by cases e), (fun e => by cases e), (fun e => by cases e), (fun e => by cases e), (fun e => by cases e), (fun e => by cases e), (fun e => by cases e), (fun e => by cases e), (fun e => by cases e), (fun e => by cases e), (fun e => by cases e), (fun e => by cases e), (fun e => by cases e), (fun e => by cases e), (fun e => by cases e), (fun e => by cases e)⟩
  · rintro L ac w' ⟨s4, s18, s19, s20, s21, s22, s23, s24, s25, s26, s27, s28, s29, s30, s31, s32, s33, s34, s35, s36, s37, s38, s39, s40, s41, s42, s43, s44, s45, s46, s47, s48, s49, s50, s51, s52, s53, s54, s55, s56, s57, s58, s59, s60, s61, s62, rfl, H⟩ hL
    obtain rfl := H.p45 (hL 45 (by decide))
    have HREL := Lib.hid (show Below w.heap.size w w' from ball HB0.out H.bel)
    clear H hL 
    go_wp2_with fail
    go_ret
    exact ⟨rfl, HREL.out⟩
  · rintro i L ac w' ⟨s4, s18, s19, s20, s21, s22, s23, s24, s25, s26, s27, s28, s29, s30, s31, s32, s33, s34, s35, s36, s37, s38, s39, s40, s41, s42, s43, s44, s45, s46, s47, s48, s49, s50, s51, s52, s53, s54, s55, s56, s57, s58, s59, s60, s61, s62, rfl, H⟩ hi hL hw
    have hi : i < 46 := hi
    have HH := Lib.hid H; have HWt := Lib.hid hw
    clear H hw
    rcases (show i = 0 ∨ i = 1 ∨ i = 2 ∨ i = 3 ∨ i = 4 ∨ i = 5 ∨ i = 6 ∨ i = 7 ∨ i = 8 ∨ i = 9 ∨ i = 10 ∨ i = 11 ∨ i = 12 ∨ i = 13 ∨ i = 14 ∨ i = 15 ∨ i = 16 ∨ i = 17 ∨ i = 18 ∨ i = 19 ∨ i = 20 ∨ i = 21 ∨ i = 22 ∨ i = 23 ∨ i = 24 ∨ i = 25 ∨ i = 26 ∨ i = 27 ∨ i = 28 ∨ i = 29 ∨ i = 30 ∨ i = 31 ∨ i = 32 ∨ i = 33 ∨ i = 34 ∨ i = 35 ∨ i = 36 ∨ i = 37 ∨ i = 38 ∨ i = 39 ∨ i = 40 ∨ i = 41 ∨ i = 42 ∨ i = 43 ∨ i = 44 ∨ i = 45 by omega) with rfl | rfl | rfl | rfl | rfl | rfl | rfl | rfl | rfl | rfl | rfl | rfl | rfl | rfl | rfl | rfl | rfl | rfl | rfl | rfl | rfl | rfl | rfl | rfl | rfl | rfl | rfl | rfl | rfl | rfl | rfl | rfl | rfl | rfl | rfl | rfl | rfl | rfl | rfl | rfl | rfl | rfl | rfl | rfl | rfl | rfl
    · refine' wpOp_step (o := ?oHp_0) ?hoHp_0 (fun K hK => ?stHp_0)
      case hoHp_0 => rfl
      case stHp_0 =>
        have HK := Lib.hid hK; clear hK
        go_simp
        refine HK.out _ _ ⟨_, _, _, _, _, _, _, _, _, _, _, _, _, _, _, _, _, _, _, _, _, _, _, _, _, _, _, _, _, _, _, _, _, _, _, _, _, _, _, _, _, _, _, _, _, _, rfl, ?_⟩
        have h := HH.out
        exact ⟨h.bel, (fun _ => rfl), (fun e => h.p1 e), (fun e => h.p2 e), (fun e => h.p3 e), (fun e => h.p4 e), (fun e => h.p5 e), (fun e => h.p6 e), (fun e => h.p7 e), (fun e => h.p8 e), (fun e => h.p9 e), (fun e => h.p10 e), (fun e => h.p11 e), (fun e => h.p12 e), (fun e => h.p13 e), (fun e => h.p14 e), (fun e => h.p15 e), (fun e => h.p16 e), (fun e => h.p17 e), (fun e => h.p18 e), (fun e => h.p19 e), (fun e => h.p20 e), (fun e => h.p21 e), (fun e => h.p22 e), (fun e => h.p23 e), (fun e => h.p24 e), (fun e => h.p25 e), (fun e => h.p26 e), (fun e => h.p27 e), (fun e => h.p28 e), (fun e => h.p29 e), (fun e => h.p30 e), (fun e => h.p31 e), (fun e => h.p32 e), (fun e => h.p33 e), (fun e => h.p34 e), (fun e => h.p35 e), (fun e => h.p36 e), (fun e => h.p37 e), (fun e => h.p38 e), (fun e => h.p39 e), (fun e => h.p40 e), (fun e => h.p41 e), (fun e => h.p42 e), (fun e => h.p43 e), (fun e => h.p44 e), (fun e => h.p45 e)⟩
    · refine' wpOp_step (o := ?oHp_1) ?hoHp_1 (fun K hK => ?stHp_1)
      case hoHp_1 => rfl
      case stHp_1 =>
        have HK := Lib.hid hK; clear hK
        obtain rfl := HH.out.p0 (HWt.out 0 (by kernel_rfl))
        go_simp
        refine HK.out _ _ ⟨_, _, _, _, _, _, _, _, _, _, _, _, _, _, _, _, _, _, _, _, _, _, _, _, _, _, _, _, _, _, _, _, _, _, _, _, _, _, _, _, _, _, _, _, _, _, rfl, ?_⟩
        have h := HH.out
        exact ⟨h.bel, (fun e => h.p0 e), (fun _ => rfl), (fun e => h.p2 e), (fun e => h.p3 e), (fun e => h.p4 e), (fun e => h.p5 e), (fun e => h.p6 e), (fun e => h.p7 e), (fun e => h.p8 e), (fun e => h.p9 e), (fun e => h.p10 e), (fun e => h.p11 e), (fun e => h.p12 e), (fun e => h.p13 e), (fun e => h.p14 e), (fun e => h.p15 e), (fun e => h.p16 e), (fun e => h.p17 e), (fun e => h.p18 e), (fun e => h.p19 e), (fun e => h.p20 e), (fun e => h.p21 e), (fun e => h.p22 e), (fun e => h.p23 e), (fun e => h.p24 e), (fun e => h.p25 e), (fun e => h.p26 e), (fun e => h.p27 e), (fun e => h.p28 e), (fun e => h.p29 e), (fun e => h.p30 e), (fun e => h.p31 e), (fun e => h.p32 e), (fun e => h.p33 e), (fun e => h.p34 e), (fun e => h.p35 e), (fun e => h.p36 e), (fun e => h.p37 e), (fun e => h.p38 e), (fun e => h.p39 e), (fun e => h.p40 e), (fun e => h.p41 e), (fun e => h.p42 e), (fun e => h.p43 e), (fun e => h.p44 e), (fun e => h.p45 e)⟩
    · refine' wpOp_step (o := ?oHp_2) ?hoHp_2 (fun K hK => ?stHp_2)
      case hoHp_2 => rfl
      case stHp_2 =>
        have HK := Lib.hid hK; clear hK
        obtain rfl := HH.out.p1 (HWt.out 1 (by kernel_rfl))
        have q0 := bcellP HH.out.bel Fa0.out
        have q1 := bcellP HH.out.bel Fa1.out
        go_simp
        refine HK.out _ _ ⟨_, _, _, _, _, _, _, _, _, _, _, _, _, _, _, _, _, _, _, _, _, _, _, _, _, _, _, _, _, _, _, _, _, _, _, _, _, _, _, _, _, _, _, _, _, _, rfl, ?_⟩
        have h := HH.out
        exact ⟨h.bel, (fun e => h.p0 e), (fun e => h.p1 e), (fun _ => rfl), (fun e => h.p3 e), (fun e => h.p4 e), (fun e => h.p5 e), (fun e => h.p6 e), (fun e => h.p7 e), (fun e => h.p8 e), (fun e => h.p9 e), (fun e => h.p10 e), (fun e => h.p11 e), (fun e => h.p12 e), (fun e => h.p13 e), (fun e => h.p14 e), (fun e => h.p15 e), (fun e => h.p16 e), (fun e => h.p17 e), (fun e => h.p18 e), (fun e => h.p19 e), (fun e => h.p20 e), (fun e => h.p21 e), (fun e => h.p22 e), (fun e => h.p23 e), (fun e => h.p24 e), (fun e => h.p25 e), (fun e => h.p26 e), (fun e => h.p27 e), (fun e => h.p28 e), (fun e => h.p29 e), (fun e => h.p30 e), (fun e => h.p31 e), (fun e => h.p32 e), (fun e => h.p33 e), (fun e => h.p34 e), (fun e => h.p35 e), (fun e => h.p36 e), (fun e => h.p37 e), (fun e => h.p38 e), (fun e => h.p39 e), (fun e => h.p40 e), (fun e => h.p41 e), (fun e => h.p42 e), (fun e => h.p43 e), (fun e => h.p44 e), (fun e => h.p45 e)⟩
    · refine' wpOp_step (o := ?oHp_3) ?hoHp_3 (fun K hK => ?stHp_3)
      case hoHp_3 => rfl
      case stHp_3 =>
        have HK := Lib.hid hK; clear hK
        go_simp
        refine HK.out _ _ ⟨_, _, _, _, _, _, _, _, _, _, _, _, _, _, _, _, _, _, _, _, _, _, _, _, _, _, _, _, _, _, _, _, _, _, _, _, _, _, _, _, _, _, _, _, _, _, rfl, ?_⟩
        have h := HH.out
        exact ⟨h.bel, (fun e => h.p0 e), (fun e => h.p1 e), (fun e => h.p2 e), (fun _ => rfl), (fun e => h.p4 e), (fun e => h.p5 e), (fun e => h.p6 e), (fun e => h.p7 e), (fun e => h.p8 e), (fun e => h.p9 e), (fun e => h.p10 e), (fun e => h.p11 e), (fun e => h.p12 e), (fun e => h.p13 e), (fun e => h.p14 e), (fun e => h.p15 e), (fun e => h.p16 e), (fun e => h.p17 e), (fun e => h.p18 e), (fun e => h.p19 e), (fun e => h.p20 e), (fun e => h.p21 e), (fun e => h.p22 e), (fun e => h.p23 e), (fun e => h.p24 e), (fun e => h.p25 e), (fun e => h.p26 e), (fun e => h.p27 e), (fun e => h.p28 e), (fun e => h.p29 e), (fun e => h.p30 e), (fun e => h.p31 e), (fun e => h.p32 e), (fun e => h.p33 e), (fun e => h.p34 e), (fun e => h.p35 e), (fun e => h.p36 e), (fun e => h.p37 e), (fun e => h.p38 e), (fun e => h.p39 e), (fun e => h.p40 e), (fun e => h.p41 e), (fun e => h.p42 e), (fun e => h.p43 e), (fun e => h.p44 e), (fun e => h.p45 e)⟩
    · refine' wpOp_step (o := ?oHp_4) ?hoHp_4 (fun K hK => ?stHp_4)
      case hoHp_4 => rfl
      case stHp_4 =>
        have HK := Lib.hid hK; clear hK
        obtain rfl := HH.out.p3 (HWt.out 3 (by kernel_rfl))
        go_simp
        refine HK.out _ _ ⟨_, _, _, _, _, _, _, _, _, _, _, _, _, _, _, _, _, _, _, _, _, _, _, _, _, _, _, _, _, _, _, _, _, _, _, _, _, _, _, _, _, _, _, _, _, _, rfl, ?_⟩
        have h := HH.out
        exact ⟨h.bel, (fun e => h.p0 e), (fun e => h.p1 e), (fun e => h.p2 e), (fun e => h.p3 e), (fun _ => rfl), (fun e => h.p5 e), (fun e => h.p6 e), (fun e => h.p7 e), (fun e => h.p8 e), (fun e => h.p9 e), (fun e => h.p10 e), (fun e => h.p11 e), (fun e => h.p12 e), (fun e => h.p13 e), (fun e => h.p14 e), (fun e => h.p15 e), (fun e => h.p16 e), (fun e => h.p17 e), (fun e => h.p18 e), (fun e => h.p19 e), (fun e => h.p20 e), (fun e => h.p21 e), (fun e => h.p22 e), (fun e => h.p23 e), (fun e => h.p24 e), (fun e => h.p25 e), (fun e => h.p26 e), (fun e => h.p27 e), (fun e => h.p28 e), (fun e => h.p29 e), (fun e => h.p30 e), (fun e => h.p31 e), (fun e => h.p32 e), (fun e => h.p33 e), (fun e => h.p34 e), (fun e => h.p35 e), (fun e => h.p36 e), (fun e => h.p37 e), (fun e => h.p38 e), (fun e => h.p39 e), (fun e => h.p40 e), (fun e => h.p41 e), (fun e => h.p42 e), (fun e => h.p43 e), (fun e => h.p44 e), (fun e => h.p45 e)⟩
    · refine' wpOp_step (o := ?oHp_5) ?hoHp_5 (fun K hK => ?stHp_5)
      case hoHp_5 => rfl
      case stHp_5 =>
        have HK := Lib.hid hK; clear hK
        obtain rfl := HH.out.p4 (HWt.out 4 (by kernel_rfl))
        have q0 := bcellP HH.out.bel Fc0.out
        have q1 := bcellP HH.out.bel Fc1.out
        go_simp
        refine HK.out _ _ ⟨_, _, _, _, _, _, _, _, _, _, _, _, _, _, _, _, _, _, _, _, _, _, _, _, _, _, _, _, _, _, _, _, _, _, _, _, _, _, _, _, _, _, _, _, _, _, rfl, ?_⟩
        have h := HH.out
        exact ⟨h.bel, (fun e => h.p0 e), (fun e => h.p1 e), (fun e => h.p2 e), (fun e => h.p3 e), (fun e => h.p4 e), (fun _ => rfl), (fun e => h.p6 e), (fun e => h.p7 e), (fun e => h.p8 e), (fun e => h.p9 e), (fun e => h.p10 e), (fun e => h.p11 e), (fun e => h.p12 e), (fun e => h.p13 e), (fun e => h.p14 e), (fun e => h.p15 e), (fun e => h.p16 e), (fun e => h.p17 e), (fun e => h.p18 e), (fun e => h.p19 e), (fun e => h.p20 e), (fun e => h.p21 e), (fun e => h.p22 e), (fun e => h.p23 e), (fun e => h.p24 e), (fun e => h.p25 e), (fun e => h.p26 e), (fun e => h.p27 e), (fun e => h.p28 e), (fun e => h.p29 e), (fun e => h.p30 e), (fun e => h.p31 e), (fun e => h.p32 e), (fun e => h.p33 e), (fun e => h.p34 e), (fun e => h.p35 e), (fun e => h.p36 e), (fun e => h.p37 e), (fun e => h.p38 e), (fun e => h.p39 e), (fun e => h.p40 e), (fun e => h.p41 e), (fun e => h.p42 e), (fun e => h.p43 e), (fun e => h.p44 e), (fun e => h.p45 e)⟩
    · refine' wpOp_step (o := ?oHp_6) ?hoHp_6 (fun K hK => ?stHp_6)
      case hoHp_6 => rfl
      case stHp_6 =>
        have HK := Lib.hid hK; clear hK
        have q0 := bcellP HH.out.bel Fp0.out
        have q1 := bcellP HH.out.bel Fp1.out
        go_simp
        refine HK.out _ _ ⟨_, _, _, _, _, _, _, _, _, _, _, _, _, _, _, _, _, _, _, _, _, _, _, _, _, _, _, _, _, _, _, _, _, _, _, _, _, _, _, _, _, _, _, _, _, _, rfl, ?_⟩
        have h := HH.out
        exact ⟨h.bel, (fun e => h.p0 e), (fun e => h.p1 e), (fun e => h.p2 e), (fun e => h.p3 e), (fun e => h.p4 e), (fun e => h.p5 e), (fun _ => rfl), (fun e => h.p7 e), (fun e => h.p8 e), (fun e => h.p9 e), (fun e => h.p10 e), (fun e => h.p11 e), (fun e => h.p12 e), (fun e => h.p13 e), (fun e => h.p14 e), (fun e => h.p15 e), (fun e => h.p16 e), (fun e => h.p17 e), (fun e => h.p18 e), (fun e => h.p19 e), (fun e => h.p20 e), (fun e => h.p21 e), (fun e => h.p22 e), (fun e => h.p23 e), (fun e => h.p24 e), (fun e => h.p25 e), (fun e => h.p26 e), (fun e => h.p27 e), (fun e => h.p28 e), (fun e => h.p29 e), (fun e => h.p30 e), (fun e => h.p31 e), (fun e => h.p32 e), (fun e => h.p33 e), (fun e => h.p34 e), (fun e => h.p35 e), (fun e => h.p36 e), (fun e => h.p37 e), (fun e => h.p38 e), (fun e => h.p39 e), (fun e => h.p40 e), (fun e => h.p41 e), (fun e => h.p42 e), (fun e => h.p43 e), (fun e => h.p44 e), (fun e => h.p45 e)⟩
    · refine' wpOp_step (o := ?oHp_7) ?hoHp_7 (fun K hK => ?stHp_7)
      case hoHp_7 => rfl
      case stHp_7 =>
        have HK := Lib.hid hK; clear hK
        obtain rfl := HH.out.p2 (HWt.out 2 (by kernel_rfl))
        obtain rfl := HH.out.p5 (HWt.out 5 (by kernel_rfl))
        obtain rfl := HH.out.p6 (HWt.out 6 (by kernel_rfl))
        go_simp
        go_at_call 77; (refine (CT.out _).mono ?_); rintro e wC ⟨rfl, hwC⟩
        refine HK.out _ _ ⟨_, _, _, _, _, _, _, _, _, _, _, _, _, _, _, _, _, _, _, _, _, _, _, _, _, _, _, _, _, _, _, _, _, _, _, _, _, _, _, _, _, _, _, _, _, _, rfl, ?_⟩
        have h := HH.out.mono hwC
        exact ⟨h.bel, (fun e => h.p0 e), (fun e => h.p1 e), (fun e => h.p2 e), (fun e => h.p3 e), (fun e => h.p4 e), (fun e => h.p5 e), (fun e => h.p6 e), (fun _ => rfl), (fun e => h.p8 e), (fun e => h.p9 e), (fun e => h.p10 e), (fun e => h.p11 e), (fun e => h.p12 e), (fun e => h.p13 e), (fun e => h.p14 e), (fun e => h.p15 e), (fun e => h.p16 e), (fun e => h.p17 e), (fun e => h.p18 e), (fun e => h.p19 e), (fun e => h.p20 e), (fun e => h.p21 e), (fun e => h.p22 e), (fun e => h.p23 e), (fun e => h.p24 e), (fun e => h.p25 e), (fun e => h.p26 e), (fun e => h.p27 e), (fun e => h.p28 e), (fun e => h.p29 e), (fun e => h.p30 e), (fun e => h.p31 e), (fun e => h.p32 e), (fun e => h.p33 e), (fun e => h.p34 e), (fun e => h.p35 e), (fun e => h.p36 e), (fun e => h.p37 e), (fun e => h.p38 e), (fun e => h.p39 e), (fun e => h.p40 e), (fun e => h.p41 e), (fun e => h.p42 e), (fun e => h.p43 e), (fun e => h.p44 e), (fun e => h.p45 e)⟩
    · refine' wpOp_step (o := ?oHp_8) ?hoHp_8 (fun K hK => ?stHp_8)
      case hoHp_8 => rfl
      case stHp_8 =>
        have HK := Lib.hid hK; clear hK
        obtain rfl := HH.out.p7 (HWt.out 7 (by kernel_rfl))
        go_simp
        refine HK.out _ _ ⟨_, _, _, _, _, _, _, _, _, _, _, _, _, _, _, _, _, _, _, _, _, _, _, _, _, _, _, _, _, _, _, _, _, _, _, _, _, _, _, _, _, _, _, _, _, _, rfl, ?_⟩
        have h := HH.out
        exact ⟨h.bel, (fun e => h.p0 e), (fun e => h.p1 e), (fun e => h.p2 e), (fun e => h.p3 e), (fun e => h.p4 e), (fun e => h.p5 e), (fun e => h.p6 e), (fun e => h.p7 e), (fun _ => rfl), (fun e => h.p9 e), (fun e => h.p10 e), (fun e => h.p11 e), (fun e => h.p12 e), (fun e => h.p13 e), (fun e => h.p14 e), (fun e => h.p15 e), (fun e => h.p16 e), (fun e => h.p17 e), (fun e => h.p18 e), (fun e => h.p19 e), (fun e => h.p20 e), (fun e => h.p21 e), (fun e => h.p22 e), (fun e => h.p23 e), (fun e => h.p24 e), (fun e => h.p25 e), (fun e => h.p26 e), (fun e => h.p27 e), (fun e => h.p28 e), (fun e => h.p29 e), (fun e => h.p30 e), (fun e => h.p31 e), (fun e => h.p32 e), (fun e => h.p33 e), (fun e => h.p34 e), (fun e => h.p35 e), (fun e => h.p36 e), (fun e => h.p37 e), (fun e => h.p38 e), (fun e => h.p39 e), (fun e => h.p40 e), (fun e => h.p41 e), (fun e => h.p42 e), (fun e => h.p43 e), (fun e => h.p44 e), (fun e => h.p45 e)⟩
    · refine' wpOp_step (o := ?oHp_9) ?hoHp_9 (fun K hK => ?stHp_9)
      case hoHp_9 => rfl
      case stHp_9 =>
        have HK := Lib.hid hK; clear hK
        obtain rfl := HH.out.p8 (HWt.out 8 (by kernel_rfl))
        go_simp
        refine HK.out _ _ ⟨_, _, _, _, _, _, _, _, _, _, _, _, _, _, _, _, _, _, _, _, _, _, _, _, _, _, _, _, _, _, _, _, _, _, _, _, _, _, _, _, _, _, _, _, _, _, rfl, ?_⟩
        have h := HH.out
        exact ⟨h.bel, (fun e => h.p0 e), (fun e => h.p1 e), (fun e => h.p2 e), (fun e => h.p3 e), (fun e => h.p4 e), (fun e => h.p5 e), (fun e => h.p6 e), (fun e => h.p7 e), (fun e => h.p8 e), (fun _ => rfl), (fun e => h.p10 e), (fun e => h.p11 e), (fun e => h.p12 e), (fun e => h.p13 e), (fun e => h.p14 e), (fun e => h.p15 e), (fun e => h.p16 e), (fun e => h.p17 e), (fun e => h.p18 e), (fun e => h.p19 e), (fun e => h.p20 e), (fun e => h.p21 e), (fun e => h.p22 e), (fun e => h.p23 e), (fun e => h.p24 e), (fun e => h.p25 e), (fun e => h.p26 e), (fun e => h.p27 e), (fun e => h.p28 e), (fun e => h.p29 e), (fun e => h.p30 e), (fun e => h.p31 e), (fun e => h.p32 e), (fun e => h.p33 e), (fun e => h.p34 e), (fun e => h.p35 e), (fun e => h.p36 e), (fun e => h.p37 e), (fun e => h.p38 e), (fun e => h.p39 e), (fun e => h.p40 e), (fun e => h.p41 e), (fun e => h.p42 e), (fun e => h.p43 e), (fun e => h.p44 e), (fun e => h.p45 e)⟩
    · refine' wpOp_step (o := ?oHp_10) ?hoHp_10 (fun K hK => ?stHp_10)
      case hoHp_10 => rfl
      case stHp_10 =>
        have HK := Lib.hid hK; clear hK
        obtain rfl := HH.out.p9 (HWt.out 9 (by kernel_rfl))
        go_simp
        refine HK.out _ _ ⟨_, _, _, _, _, _, _, _, _, _, _, _, _, _, _, _, _, _, _, _, _, _, _, _, _, _, _, _, _, _, _, _, _, _, _, _, _, _, _, _, _, _, _, _, _, _, rfl, ?_⟩
        have h := HH.out
        exact ⟨h.bel, (fun e => h.p0 e), (fun e => h.p1 e), (fun e => h.p2 e), (fun e => h.p3 e), (fun e => h.p4 e), (fun e => h.p5 e), (fun e => h.p6 e), (fun e => h.p7 e), (fun e => h.p8 e), (fun e => h.p9 e), (fun _ => rfl), (fun e => h.p11 e), (fun e => h.p12 e), (fun e => h.p13 e), (fun e => h.p14 e), (fun e => h.p15 e), (fun e => h.p16 e), (fun e => h.p17 e), (fun e => h.p18 e), (fun e => h.p19 e), (fun e => h.p20 e), (fun e => h.p21 e), (fun e => h.p22 e), (fun e => h.p23 e), (fun e => h.p24 e), (fun e => h.p25 e), (fun e => h.p26 e), (fun e => h.p27 e), (fun e => h.p28 e), (fun e => h.p29 e), (fun e => h.p30 e), (fun e => h.p31 e), (fun e => h.p32 e), (fun e => h.p33 e), (fun e => h.p34 e), (fun e => h.p35 e), (fun e => h.p36 e), (fun e => h.p37 e), (fun e => h.p38 e), (fun e => h.p39 e), (fun e => h.p40 e), (fun e => h.p41 e), (fun e => h.p42 e), (fun e => h.p43 e), (fun e => h.p44 e), (fun e => h.p45 e)⟩
    · refine' wpOp_step (o := ?oHp_11) ?hoHp_11 (fun K hK => ?stHp_11)
      case hoHp_11 => rfl
      case stHp_11 =>
        have HK := Lib.hid hK; clear hK
        obtain rfl := HH.out.p9 (HWt.out 9 (by kernel_rfl))
        go_simp
        refine HK.out _ _ ⟨_, _, _, _, _, _, _, _, _, _, _, _, _, _, _, _, _, _, _, _, _, _, _, _, _, _, _, _, _, _, _, _, _, _, _, _, _, _, _, _, _, _, _, _, _, _, rfl, ?_⟩
        have h := HH.out
        exact ⟨h.bel, (fun e => h.p0 e), (fun e => h.p1 e), (fun e => h.p2 e), (fun e => h.p3 e), (fun e => h.p4 e), (fun e => h.p5 e), (fun e => h.p6 e), (fun e => h.p7 e), (fun e => h.p8 e), (fun e => h.p9 e), (fun e => h.p10 e), (fun _ => rfl), (fun e => h.p12 e), (fun e => h.p13 e), (fun e => h.p14 e), (fun e => h.p15 e), (fun e => h.p16 e), (fun e => h.p17 e), (fun e => h.p18 e), (fun e => h.p19 e), (fun e => h.p20 e), (fun e => h.p21 e), (fun e => h.p22 e), (fun e => h.p23 e), (fun e => h.p24 e), (fun e => h.p25 e), (fun e => h.p26 e), (fun e => h.p27 e), (fun e => h.p28 e), (fun e => h.p29 e), (fun e => h.p30 e), (fun e => h.p31 e), (fun e => h.p32 e), (fun e => h.p33 e), (fun e => h.p34 e), (fun e => h.p35 e), (fun e => h.p36 e), (fun e => h.p37 e), (fun e => h.p38 e), (fun e => h.p39 e), (fun e => h.p40 e), (fun e => h.p41 e), (fun e => h.p42 e), (fun e => h.p43 e), (fun e => h.p44 e), (fun e => h.p45 e)⟩
    · refine' wpOp_step (o := ?oHp_12) ?hoHp_12 (fun K hK => ?stHp_12)
      case hoHp_12 => rfl
      case stHp_12 =>
        have HK := Lib.hid hK; clear hK
        obtain rfl := HH.out.p9 (HWt.out 9 (by kernel_rfl))
        go_simp
        refine HK.out _ _ ⟨_, _, _, _, _, _, _, _, _, _, _, _, _, _, _, _, _, _, _, _, _, _, _, _, _, _, _, _, _, _, _, _, _, _, _, _, _, _, _, _, _, _, _, _, _, _, rfl, ?_⟩
        have h := HH.out
        exact ⟨h.bel, (fun e => h.p0 e), (fun e => h.p1 e), (fun e => h.p2 e), (fun e => h.p3 e), (fun e => h.p4 e), (fun e => h.p5 e), (fun e => h.p6 e), (fun e => h.p7 e), (fun e => h.p8 e), (fun e => h.p9 e), (fun e => h.p10 e), (fun e => h.p11 e), (fun _ => rfl), (fun e => h.p13 e), (fun e => h.p14 e), (fun e => h.p15 e), (fun e => h.p16 e), (fun e => h.p17 e), (fun e => h.p18 e), (fun e => h.p19 e), (fun e => h.p20 e), (fun e => h.p21 e), (fun e => h.p22 e), (fun e => h.p23 e), (fun e => h.p24 e), (fun e => h.p25 e), (fun e => h.p26 e), (fun e => h.p27 e), (fun e => h.p28 e), (fun e => h.p29 e), (fun e => h.p30 e), (fun e => h.p31 e), (fun e => h.p32 e), (fun e => h.p33 e), (fun e => h.p34 e), (fun e => h.p35 e), (fun e => h.p36 e), (fun e => h.p37 e), (fun e => h.p38 e), (fun e => h.p39 e), (fun e => h.p40 e), (fun e => h.p41 e), (fun e => h.p42 e), (fun e => h.p43 e), (fun e => h.p44 e), (fun e => h.p45 e)⟩
    · refine' wpOp_step (o := ?oHp_13) ?hoHp_13 (fun K hK => ?stHp_13)
      case hoHp_13 => rfl
      case stHp_13 =>
        have HK := Lib.hid hK; clear hK
        obtain rfl := HH.out.p9 (HWt.out 9 (by kernel_rfl))
        go_simp
        refine HK.out _ _ ⟨_, _, _, _, _, _, _, _, _, _, _, _, _, _, _, _, _, _, _, _, _, _, _, _, _, _, _, _, _, _, _, _, _, _, _, _, _, _, _, _, _, _, _, _, _, _, rfl, ?_⟩
        have h := HH.out
        exact ⟨h.bel, (fun e => h.p0 e), (fun e => h.p1 e), (fun e => h.p2 e), (fun e => h.p3 e), (fun e => h.p4 e), (fun e => h.p5 e), (fun e => h.p6 e), (fun e => h.p7 e), (fun e => h.p8 e), (fun e => h.p9 e), (fun e => h.p10 e), (fun e => h.p11 e), (fun e => h.p12 e), (fun _ => rfl), (fun e => h.p14 e), (fun e => h.p15 e), (fun e => h.p16 e), (fun e => h.p17 e), (fun e => h.p18 e), (fun e => h.p19 e), (fun e => h.p20 e), (fun e => h.p21 e), (fun e => h.p22 e), (fun e => h.p23 e), (fun e => h.p24 e), (fun e => h.p25 e), (fun e => h.p26 e), (fun e => h.p27 e), (fun e => h.p28 e), (fun e => h.p29 e), (fun e => h.p30 e), (fun e => h.p31 e), (fun e => h.p32 e), (fun e => h.p33 e), (fun e => h.p34 e), (fun e => h.p35 e), (fun e => h.p36 e), (fun e => h.p37 e), (fun e => h.p38 e), (fun e => h.p39 e), (fun e => h.p40 e), (fun e => h.p41 e), (fun e => h.p42 e), (fun e => h.p43 e), (fun e => h.p44 e), (fun e => h.p45 e)⟩
    · refine' wpOp_step (o := ?oHp_14) ?hoHp_14 (fun K hK => ?stHp_14)
      case hoHp_14 => rfl
      case stHp_14 =>
        have HK := Lib.hid hK; clear hK
        obtain rfl := HH.out.p9 (HWt.out 9 (by kernel_rfl))
        go_simp
        refine HK.out _ _ ⟨_, _, _, _, _, _, _, _, _, _, _, _, _, _, _, _, _, _, _, _, _, _, _, _, _, _, _, _, _, _, _, _, _, _, _, _, _, _, _, _, _, _, _, _, _, _, rfl, ?_⟩
        have h := HH.out
        exact ⟨h.bel, (fun e => h.p0 e), (fun e => h.p1 e), (fun e => h.p2 e), (fun e => h.p3 e), (fun e => h.p4 e), (fun e => h.p5 e), (fun e => h.p6 e), (fun e => h.p7 e), (fun e => h.p8 e), (fun e => h.p9 e), (fun e => h.p10 e), (fun e => h.p11 e), (fun e => h.p12 e), (fun e => h.p13 e), (fun _ => rfl), (fun e => h.p15 e), (fun e => h.p16 e), (fun e => h.p17 e), (fun e => h.p18 e), (fun e => h.p19 e), (fun e => h.p20 e), (fun e => h.p21 e), (fun e => h.p22 e), (fun e => h.p23 e), (fun e => h.p24 e), (fun e => h.p25 e), (fun e => h.p26 e), (fun e => h.p27 e), (fun e => h.p28 e), (fun e => h.p29 e), (fun e => h.p30 e), (fun e => h.p31 e), (fun e => h.p32 e), (fun e => h.p33 e), (fun e => h.p34 e), (fun e => h.p35 e), (fun e => h.p36 e), (fun e => h.p37 e), (fun e => h.p38 e), (fun e => h.p39 e), (fun e => h.p40 e), (fun e => h.p41 e), (fun e => h.p42 e), (fun e => h.p43 e), (fun e => h.p44 e), (fun e => h.p45 e)⟩
    · refine' wpOp_step (o := ?oHp_15) ?hoHp_15 (fun K hK => ?stHp_15)
      case hoHp_15 => rfl
      case stHp_15 =>
        have HK := Lib.hid hK; clear hK
        obtain rfl := HH.out.p9 (HWt.out 9 (by kernel_rfl))
        go_simp
        refine HK.out _ _ ⟨_, _, _, _, _, _, _, _, _, _, _, _, _, _, _, _, _, _, _, _, _, _, _, _, _, _, _, _, _, _, _, _, _, _, _, _, _, _, _, _, _, _, _, _, _, _, rfl, ?_⟩
        have h := HH.out
        exact ⟨h.bel, (fun e => h.p0 e), (fun e => h.p1 e), (fun e => h.p2 e), (fun e => h.p3 e), (fun e => h.p4 e), (fun e => h.p5 e), (fun e => h.p6 e), (fun e => h.p7 e), (fun e => h.p8 e), (fun e => h.p9 e), (fun e => h.p10 e), (fun e => h.p11 e), (fun e => h.p12 e), (fun e => h.p13 e), (fun e => h.p14 e), (fun _ => rfl), (fun e => h.p16 e), (fun e => h.p17 e), (fun e => h.p18 e), (fun e => h.p19 e), (fun e => h.p20 e), (fun e => h.p21 e), (fun e => h.p22 e), (fun e => h.p23 e), (fun e => h.p24 e), (fun e => h.p25 e), (fun e => h.p26 e), (fun e => h.p27 e), (fun e => h.p28 e), (fun e => h.p29 e), (fun e => h.p30 e), (fun e => h.p31 e), (fun e => h.p32 e), (fun e => h.p33 e), (fun e => h.p34 e), (fun e => h.p35 e), (fun e => h.p36 e), (fun e => h.p37 e), (fun e => h.p38 e), (fun e => h.p39 e), (fun e => h.p40 e), (fun e => h.p41 e), (fun e => h.p42 e), (fun e => h.p43 e), (fun e => h.p44 e), (fun e => h.p45 e)⟩
    · refine' wpOp_step (o := ?oHp_16) ?hoHp_16 (fun K hK => ?stHp_16)
      case hoHp_16 => rfl
      case stHp_16 =>
        have HK := Lib.hid hK; clear hK
        obtain rfl := HH.out.p9 (HWt.out 9 (by kernel_rfl))
        go_simp
        refine HK.out _ _ ⟨_, _, _, _, _, _, _, _, _, _, _, _, _, _, _, _, _, _, _, _, _, _, _, _, _, _, _, _, _, _, _, _, _, _, _, _, _, _, _, _, _, _, _, _, _, _, rfl, ?_⟩
        have h := HH.out
        exact ⟨h.bel, (fun e => h.p0 e), (fun e => h.p1 e), (fun e => h.p2 e), (fun e => h.p3 e), (fun e => h.p4 e), (fun e => h.p5 e), (fun e => h.p6 e), (fun e => h.p7 e), (fun e => h.p8 e), (fun e => h.p9 e), (fun e => h.p10 e), (fun e => h.p11 e), (fun e => h.p12 e), (fun e => h.p13 e), (fun e => h.p14 e), (fun e => h.p15 e), (fun _ => rfl), (fun e => h.p17 e), (fun e => h.p18 e), (fun e => h.p19 e), (fun e => h.p20 e), (fun e => h.p21 e), (fun e => h.p22 e), (fun e => h.p23 e), (fun e => h.p24 e), (fun e => h.p25 e), (fun e => h.p26 e), (fun e => h.p27 e), (fun e => h.p28 e), (fun e => h.p29 e), (fun e => h.p30 e), (fun e => h.p31 e), (fun e => h.p32 e), (fun e => h.p33 e), (fun e => h.p34 e), (fun e => h.p35 e), (fun e => h.p36 e), (fun e => h.p37 e), (fun e => h.p38 e), (fun e => h.p39 e), (fun e => h.p40 e), (fun e => h.p41 e), (fun e => h.p42 e), (fun e => h.p43 e), (fun e => h.p44 e), (fun e => h.p45 e)⟩
    · refine' wpOp_step (o := ?oHp_17) ?hoHp_17 (fun K hK => ?stHp_17)
      case hoHp_17 => rfl
      case stHp_17 =>
        have HK := Lib.hid hK; clear hK
        obtain rfl := HH.out.p9 (HWt.out 9 (by kernel_rfl))
        go_simp
        refine HK.out _ _ ⟨_, _, _, _, _, _, _, _, _, _, _, _, _, _, _, _, _, _, _, _, _, _, _, _, _, _, _, _, _, _, _, _, _, _, _, _, _, _, _, _, _, _, _, _, _, _, rfl, ?_⟩
        have h := HH.out
        exact ⟨h.bel, (fun e => h.p0 e), (fun e => h.p1 e), (fun e => h.p2 e), (fun e => h.p3 e), (fun e => h.p4 e), (fun e => h.p5 e), (fun e => h.p6 e), (fun e => h.p7 e), (fun e => h.p8 e), (fun e => h.p9 e), (fun e => h.p10 e), (fun e => h.p11 e), (fun e => h.p12 e), (fun e => h.p13 e), (fun e => h.p14 e), (fun e => h.p15 e), (fun e => h.p16 e), (fun _ => rfl), (fun e => h.p18 e), (fun e => h.p19 e), (fun e => h.p20 e), (fun e => h.p21 e), (fun e => h.p22 e), (fun e => h.p23 e), (fun e => h.p24 e), (fun e => h.p25 e), (fun e => h.p26 e), (fun e => h.p27 e), (fun e => h.p28 e), (fun e => h.p29 e), (fun e => h.p30 e), (fun e => h.p31 e), (fun e => h.p32 e), (fun e => h.p33 e), (fun e => h.p34 e), (fun e => h.p35 e), (fun e => h.p36 e), (fun e => h.p37 e), (fun e => h.p38 e), (fun e => h.p39 e), (fun e => h.p40 e), (fun e => h.p41 e), (fun e => h.p42 e), (fun e => h.p43 e), (fun e => h.p44 e), (fun e => h.p45 e)⟩
    · refine' wpOp_step (o := ?oHp_18) ?hoHp_18 (fun K hK => ?stHp_18)
      case hoHp_18 => rfl
      case stHp_18 =>
        have HK := Lib.hid hK; clear hK
        obtain rfl := HH.out.p9 (HWt.out 9 (by kernel_rfl))
        go_simp
        refine HK.out _ _ ⟨_, _, _, _, _, _, _, _, _, _, _, _, _, _, _, _, _, _, _, _, _, _, _, _, _, _, _, _, _, _, _, _, _, _, _, _, _, _, _, _, _, _, _, _, _, _, rfl, ?_⟩
        have h := HH.out
        exact ⟨h.bel, (fun e => h.p0 e), (fun e => h.p1 e), (fun e => h.p2 e), (fun e => h.p3 e), (fun e => h.p4 e), (fun e => h.p5 e), (fun e => h.p6 e), (fun e => h.p7 e), (fun e => h.p8 e), (fun e => h.p9 e), (fun e => h.p10 e), (fun e => h.p11 e), (fun e => h.p12 e), (fun e => h.p13 e), (fun e => h.p14 e), (fun e => h.p15 e), (fun e => h.p16 e), (fun e => h.p17 e), (fun _ => rfl), (fun e => h.p19 e), (fun e => h.p20 e), (fun e => h.p21 e), (fun e => h.p22 e), (fun e => h.p23 e), (fun e => h.p24 e), (fun e => h.p25 e), (fun e => h.p26 e), (fun e => h.p27 e), (fun e => h.p28 e), (fun e => h.p29 e), (fun e => h.p30 e), (fun e => h.p31 e), (fun e => h.p32 e), (fun e => h.p33 e), (fun e => h.p34 e), (fun e => h.p35 e), (fun e => h.p36 e), (fun e => h.p37 e), (fun e => h.p38 e), (fun e => h.p39 e), (fun e => h.p40 e), (fun e => h.p41 e), (fun e => h.p42 e), (fun e => h.p43 e), (fun e => h.p44 e), (fun e => h.p45 e)⟩
    · refine' wpOp_step (o := ?oHp_19) ?hoHp_19 (fun K hK => ?stHp_19)
      case hoHp_19 => rfl
      case stHp_19 =>
        have HK := Lib.hid hK; clear hK
        obtain rfl := HH.out.p9 (HWt.out 9 (by kernel_rfl))
        go_simp
        refine HK.out _ _ ⟨_, _, _, _, _, _, _, _, _, _, _, _, _, _, _, _, _, _, _, _, _, _, _, _, _, _, _, _, _, _, _, _, _, _, _, _, _, _, _, _, _, _, _, _, _, _, rfl, ?_⟩
        have h := HH.out
        exact ⟨h.bel, (fun e => h.p0 e), (fun e => h.p1 e), (fun e => h.p2 e), (fun e => h.p3 e), (fun e => h.p4 e), (fun e => h.p5 e), (fun e => h.p6 e), (fun e => h.p7 e), (fun e => h.p8 e), (fun e => h.p9 e), (fun e => h.p10 e), (fun e => h.p11 e), (fun e => h.p12 e), (fun e => h.p13 e), (fun e => h.p14 e), (fun e => h.p15 e), (fun e => h.p16 e), (fun e => h.p17 e), (fun e => h.p18 e), (fun _ => rfl), (fun e => h.p20 e), (fun e => h.p21 e), (fun e => h.p22 e), (fun e => h.p23 e), (fun e => h.p24 e), (fun e => h.p25 e), (fun e => h.p26 e), (fun e => h.p27 e), (fun e => h.p28 e), (fun e => h.p29 e), (fun e => h.p30 e), (fun e => h.p31 e), (fun e => h.p32 e), (fun e => h.p33 e), (fun e => h.p34 e), (fun e => h.p35 e), (fun e => h.p36 e), (fun e => h.p37 e), (fun e => h.p38 e), (fun e => h.p39 e), (fun e => h.p40 e), (fun e => h.p41 e), (fun e => h.p42 e), (fun e => h.p43 e), (fun e => h.p44 e), (fun e => h.p45 e)⟩
    · refine' wpOp_step (o := ?oHp_20) ?hoHp_20 (fun K hK => ?stHp_20)
      case hoHp_20 => rfl
      case stHp_20 =>
        have HK := Lib.hid hK; clear hK
        obtain rfl := HH.out.p9 (HWt.out 9 (by kernel_rfl))
        go_simp
        refine HK.out _ _ ⟨_, _, _, _, _, _, _, _, _, _, _, _, _, _, _, _, _, _, _, _, _, _, _, _, _, _, _, _, _, _, _, _, _, _, _, _, _, _, _, _, _, _, _, _, _, _, rfl, ?_⟩
        have h := HH.out
        exact ⟨h.bel, (fun e => h.p0 e), (fun e => h.p1 e), (fun e => h.p2 e), (fun e => h.p3 e), (fun e => h.p4 e), (fun e => h.p5 e), (fun e => h.p6 e), (fun e => h.p7 e), (fun e => h.p8 e), (fun e => h.p9 e), (fun e => h.p10 e), (fun e => h.p11 e), (fun e => h.p12 e), (fun e => h.p13 e), (fun e => h.p14 e), (fun e => h.p15 e), (fun e => h.p16 e), (fun e => h.p17 e), (fun e => h.p18 e), (fun e => h.p19 e), (fun _ => rfl), (fun e => h.p21 e), (fun e => h.p22 e), (fun e => h.p23 e), (fun e => h.p24 e), (fun e => h.p25 e), (fun e => h.p26 e), (fun e => h.p27 e), (fun e => h.p28 e), (fun e => h.p29 e), (fun e => h.p30 e), (fun e => h.p31 e), (fun e => h.p32 e), (fun e => h.p33 e), (fun e => h.p34 e), (fun e => h.p35 e), (fun e => h.p36 e), (fun e => h.p37 e), (fun e => h.p38 e), (fun e => h.p39 e), (fun e => h.p40 e), (fun e => h.p41 e), (fun e => h.p42 e), (fun e => h.p43 e), (fun e => h.p44 e), (fun e => h.p45 e)⟩
    · refine' wpOp_step (o := ?oHp_21) ?hoHp_21 (fun K hK => ?stHp_21)
      case hoHp_21 => rfl
      case stHp_21 =>
        have HK := Lib.hid hK; clear hK
        obtain rfl := HH.out.p9 (HWt.out 9 (by kernel_rfl))
        go_simp
        refine HK.out _ _ ⟨_, _, _, _, _, _, _, _, _, _, _, _, _, _, _, _, _, _, _, _, _, _, _, _, _, _, _, _, _, _, _, _, _, _, _, _, _, _, _, _, _, _, _, _, _, _, rfl, ?_⟩
        have h := HH.out
        exact ⟨h.bel, (fun e => h.p0 e), (fun e => h.p1 e), (fun e => h.p2 e), (fun e => h.p3 e), (fun e => h.p4 e), (fun e => h.p5 e), (fun e => h.p6 e), (fun e => h.p7 e), (fun e => h.p8 e), (fun e => h.p9 e), (fun e => h.p10 e), (fun e => h.p11 e), (fun e => h.p12 e), (fun e => h.p13 e), (fun e => h.p14 e), (fun e => h.p15 e), (fun e => h.p16 e), (fun e => h.p17 e), (fun e => h.p18 e), (fun e => h.p19 e), (fun e => h.p20 e), (fun _ => rfl), (fun e => h.p22 e), (fun e => h.p23 e), (fun e => h.p24 e), (fun e => h.p25 e), (fun e => h.p26 e), (fun e => h.p27 e), (fun e => h.p28 e), (fun e => h.p29 e), (fun e => h.p30 e), (fun e => h.p31 e), (fun e => h.p32 e), (fun e => h.p33 e), (fun e => h.p34 e), (fun e => h.p35 e), (fun e => h.p36 e), (fun e => h.p37 e), (fun e => h.p38 e), (fun e => h.p39 e), (fun e => h.p40 e), (fun e => h.p41 e), (fun e => h.p42 e), (fun e => h.p43 e), (fun e => h.p44 e), (fun e => h.p45 e)⟩
    · refine' wpOp_step (o := ?oHp_22) ?hoHp_22 (fun K hK => ?stHp_22)
      case hoHp_22 => rfl
      case stHp_22 =>
        have HK := Lib.hid hK; clear hK
        obtain rfl := HH.out.p9 (HWt.out 9 (by kernel_rfl))
        go_simp
        refine HK.out _ _ ⟨_, _, _, _, _, _, _, _, _, _, _, _, _, _, _, _, _, _, _, _, _, _, _, _, _, _, _, _, _, _, _, _, _, _, _, _, _, _, _, _, _, _, _, _, _, _, rfl, ?_⟩
        have h := HH.out
        exact ⟨h.bel, (fun e => h.p0 e), (fun e => h.p1 e), (fun e => h.p2 e), (fun e => h.p3 e), (fun e => h.p4 e), (fun e => h.p5 e), (fun e => h.p6 e), (fun e => h.p7 e), (fun e => h.p8 e), (fun e => h.p9 e), (fun e => h.p10 e), (fun e => h.p11 e), (fun e => h.p12 e), (fun e => h.p13 e), (fun e => h.p14 e), (fun e => h.p15 e), (fun e => h.p16 e), (fun e => h.p17 e), (fun e => h.p18 e), (fun e => h.p19 e), (fun e => h.p20 e), (fun e => h.p21 e), (fun _ => rfl), (fun e => h.p23 e), (fun e => h.p24 e), (fun e => h.p25 e), (fun e => h.p26 e), (fun e => h.p27 e), (fun e => h.p28 e), (fun e => h.p29 e), (fun e => h.p30 e), (fun e => h.p31 e), (fun e => h.p32 e), (fun e => h.p33 e), (fun e => h.p34 e), (fun e => h.p35 e), (fun e => h.p36 e), (fun e => h.p37 e), (fun e => h.p38 e), (fun e => h.p39 e), (fun e => h.p40 e), (fun e => h.p41 e), (fun e => h.p42 e), (fun e => h.p43 e), (fun e => h.p44 e), (fun e => h.p45 e)⟩
    · refine' wpOp_step (o := ?oHp_23) ?hoHp_23 (fun K hK => ?stHp_23)
      case hoHp_23 => rfl
      case stHp_23 =>
        have HK := Lib.hid hK; clear hK
        obtain rfl := HH.out.p9 (HWt.out 9 (by kernel_rfl))
        go_simp
        refine HK.out _ _ ⟨_, _, _, _, _, _, _, _, _, _, _, _, _, _, _, _, _, _, _, _, _, _, _, _, _, _, _, _, _, _, _, _, _, _, _, _, _, _, _, _, _, _, _, _, _, _, rfl, ?_⟩
        have h := HH.out
        exact ⟨h.bel, (fun e => h.p0 e), (fun e => h.p1 e), (fun e => h.p2 e), (fun e => h.p3 e), (fun e => h.p4 e), (fun e => h.p5 e), (fun e => h.p6 e), (fun e => h.p7 e), (fun e => h.p8 e), (fun e => h.p9 e), (fun e => h.p10 e), (fun e => h.p11 e), (fun e => h.p12 e), (fun e => h.p13 e), (fun e => h.p14 e), (fun e => h.p15 e), (fun e => h.p16 e), (fun e => h.p17 e), (fun e => h.p18 e), (fun e => h.p19 e), (fun e => h.p20 e), (fun e => h.p21 e), (fun e => h.p22 e), (fun _ => rfl), (fun e => h.p24 e), (fun e => h.p25 e), (fun e => h.p26 e), (fun e => h.p27 e), (fun e => h.p28 e), (fun e => h.p29 e), (fun e => h.p30 e), (fun e => h.p31 e), (fun e => h.p32 e), (fun e => h.p33 e), (fun e => h.p34 e), (fun e => h.p35 e), (fun e => h.p36 e), (fun e => h.p37 e), (fun e => h.p38 e), (fun e => h.p39 e), (fun e => h.p40 e), (fun e => h.p41 e), (fun e => h.p42 e), (fun e => h.p43 e), (fun e => h.p44 e), (fun e => h.p45 e)⟩
    · refine' wpOp_step (o := ?oHp_24) ?hoHp_24 (fun K hK => ?stHp_24)
      case hoHp_24 => rfl
      case stHp_24 =>
        have HK := Lib.hid hK; clear hK
        obtain rfl := HH.out.p9 (HWt.out 9 (by kernel_rfl))
        go_simp
        refine HK.out _ _ ⟨_, _, _, _, _, _, _, _, _, _, _, _, _, _, _, _, _, _, _, _, _, _, _, _, _, _, _, _, _, _, _, _, _, _, _, _, _, _, _, _, _, _, _, _, _, _, rfl, ?_⟩
        have h := HH.out
        exact ⟨h.bel, (fun e => h.p0 e), (fun e => h.p1 e), (fun e => h.p2 e), (fun e => h.p3 e), (fun e => h.p4 e), (fun e => h.p5 e), (fun e => h.p6 e), (fun e => h.p7 e), (fun e => h.p8 e), (fun e => h.p9 e), (fun e => h.p10 e), (fun e => h.p11 e), (fun e => h.p12 e), (fun e => h.p13 e), (fun e => h.p14 e), (fun e => h.p15 e), (fun e => h.p16 e), (fun e => h.p17 e), (fun e => h.p18 e), (fun e => h.p19 e), (fun e => h.p20 e), (fun e => h.p21 e), (fun e => h.p22 e), (fun e => h.p23 e), (fun _ => rfl), (fun e => h.p25 e), (fun e => h.p26 e), (fun e => h.p27 e), (fun e => h.p28 e), (fun e => h.p29 e), (fun e => h.p30 e), (fun e => h.p31 e), (fun e => h.p32 e), (fun e => h.p33 e), (fun e => h.p34 e), (fun e => h.p35 e), (fun e => h.p36 e), (fun e => h.p37 e), (fun e => h.p38 e), (fun e => h.p39 e), (fun e => h.p40 e), (fun e => h.p41 e), (fun e => h.p42 e), (fun e => h.p43 e), (fun e => h.p44 e), (fun e => h.p45 e)⟩
    · refine' wpOp_step (o := ?oHp_25) ?hoHp_25 (fun K hK => ?stHp_25)
      case hoHp_25 => rfl
      case stHp_25 =>
        have HK := Lib.hid hK; clear hK
        obtain rfl := HH.out.p9 (HWt.out 9 (by kernel_rfl))
        go_simp
        refine HK.out _ _ ⟨_, _, _, _, _, _, _, _, _, _, _, _, _, _, _, _, _, _, _, _, _, _, _, _, _, _, _, _, _, _, _, _, _, _, _, _, _, _, _, _, _, _, _, _, _, _, rfl, ?_⟩
        have h := HH.out
        exact ⟨h.bel, (fun e => h.p0 e), (fun e => h.p1 e), (fun e => h.p2 e), (fun e => h.p3 e), (fun e => h.p4 e), (fun e => h.p5 e), (fun e => h.p6 e), (fun e => h.p7 e), (fun e => h.p8 e), (fun e => h.p9 e), (fun e => h.p10 e), (fun e => h.p11 e), (fun e => h.p12 e), (fun e => h.p13 e), (fun e => h.p14 e), (fun e => h.p15 e), (fun e => h.p16 e), (fun e => h.p17 e), (fun e => h.p18 e), (fun e => h.p19 e), (fun e => h.p20 e), (fun e => h.p21 e), (fun e => h.p22 e), (fun e => h.p23 e), (fun e => h.p24 e), (fun _ => rfl), (fun e => h.p26 e), (fun e => h.p27 e), (fun e => h.p28 e), (fun e => h.p29 e), (fun e => h.p30 e), (fun e => h.p31 e), (fun e => h.p32 e), (fun e => h.p33 e), (fun e => h.p34 e), (fun e => h.p35 e), (fun e => h.p36 e), (fun e => h.p37 e), (fun e => h.p38 e), (fun e => h.p39 e), (fun e => h.p40 e), (fun e => h.p41 e), (fun e => h.p42 e), (fun e => h.p43 e), (fun e => h.p44 e), (fun e => h.p45 e)⟩
    · refine' wpOp_step (o := ?oHp_26) ?hoHp_26 (fun K hK => ?stHp_26)
      case hoHp_26 => rfl
      case stHp_26 =>
        have HK := Lib.hid hK; clear hK
        obtain rfl := HH.out.p9 (HWt.out 9 (by kernel_rfl))
        go_simp
        refine HK.out _ _ ⟨_, _, _, _, _, _, _, _, _, _, _, _, _, _, _, _, _, _, _, _, _, _, _, _, _, _, _, _, _, _, _, _, _, _, _, _, _, _, _, _, _, _, _, _, _, _, rfl, ?_⟩
        have h := HH.out
        exact ⟨h.bel, (fun e => h.p0 e), (fun e => h.p1 e), (fun e => h.p2 e), (fun e => h.p3 e), (fun e => h.p4 e), (fun e => h.p5 e), (fun e => h.p6 e), (fun e => h.p7 e), (fun e => h.p8 e), (fun e => h.p9 e), (fun e => h.p10 e), (fun e => h.p11 e), (fun e => h.p12 e), (fun e => h.p13 e), (fun e => h.p14 e), (fun e => h.p15 e), (fun e => h.p16 e), (fun e => h.p17 e), (fun e => h.p18 e), (fun e => h.p19 e), (fun e => h.p20 e), (fun e => h.p21 e), (fun e => h.p22 e), (fun e => h.p23 e), (fun e => h.p24 e), (fun e => h.p25 e), (fun _ => rfl), (fun e => h.p27 e), (fun e => h.p28 e), (fun e => h.p29 e), (fun e => h.p30 e), (fun e => h.p31 e), (fun e => h.p32 e), (fun e => h.p33 e), (fun e => h.p34 e), (fun e => h.p35 e), (fun e => h.p36 e), (fun e => h.p37 e), (fun e => h.p38 e), (fun e => h.p39 e), (fun e => h.p40 e), (fun e => h.p41 e), (fun e => h.p42 e), (fun e => h.p43 e), (fun e => h.p44 e), (fun e => h.p45 e)⟩
    · refine' wpOp_step (o := ?oHp_27) ?hoHp_27 (fun K hK => ?stHp_27)
      case hoHp_27 => rfl
      case stHp_27 =>
        have HK := Lib.hid hK; clear hK
        obtain rfl := HH.out.p26 (HWt.out 26 (by kernel_rfl))
        go_simp
        refine HK.out _ _ ⟨_, _, _, _, _, _, _, _, _, _, _, _, _, _, _, _, _, _, _, _, _, _, _, _, _, _, _, _, _, _, _, _, _, _, _, _, _, _, _, _, _, _, _, _, _, _, rfl, ?_⟩
        have h := HH.out
        exact ⟨h.bel, (fun e => h.p0 e), (fun e => h.p1 e), (fun e => h.p2 e), (fun e => h.p3 e), (fun e => h.p4 e), (fun e => h.p5 e), (fun e => h.p6 e), (fun e => h.p7 e), (fun e => h.p8 e), (fun e => h.p9 e), (fun e => h.p10 e), (fun e => h.p11 e), (fun e => h.p12 e), (fun e => h.p13 e), (fun e => h.p14 e), (fun e => h.p15 e), (fun e => h.p16 e), (fun e => h.p17 e), (fun e => h.p18 e), (fun e => h.p19 e), (fun e => h.p20 e), (fun e => h.p21 e), (fun e => h.p22 e), (fun e => h.p23 e), (fun e => h.p24 e), (fun e => h.p25 e), (fun e => h.p26 e), (fun _ => rfl), (fun e => h.p28 e), (fun e => h.p29 e), (fun e => h.p30 e), (fun e => h.p31 e), (fun e => h.p32 e), (fun e => h.p33 e), (fun e => h.p34 e), (fun e => h.p35 e), (fun e => h.p36 e), (fun e => h.p37 e), (fun e => h.p38 e), (fun e => h.p39 e), (fun e => h.p40 e), (fun e => h.p41 e), (fun e => h.p42 e), (fun e => h.p43 e), (fun e => h.p44 e), (fun e => h.p45 e)⟩
    · refine' wpOp_step (o := ?oHp_28) ?hoHp_28 (fun K hK => ?stHp_28)
      case hoHp_28 => rfl
      case stHp_28 =>
        have HK := Lib.hid hK; clear hK
        obtain rfl := HH.out.p27 (HWt.out 27 (by kernel_rfl))
        go_simp
        refine HK.out _ _ ⟨_, _, _, _, _, _, _, _, _, _, _, _, _, _, _, _, _, _, _, _, _, _, _, _, _, _, _, _, _, _, _, _, _, _, _, _, _, _, _, _, _, _, _, _, _, _, rfl, ?_⟩
        have h := HH.out
        exact ⟨h.bel, (fun e => h.p0 e), (fun e => h.p1 e), (fun e => h.p2 e), (fun e => h.p3 e), (fun e => h.p4 e), (fun e => h.p5 e), (fun e => h.p6 e), (fun e => h.p7 e), (fun e => h.p8 e), (fun e => h.p9 e), (fun e => h.p10 e), (fun e => h.p11 e), (fun e => h.p12 e), (fun e => h.p13 e), (fun e => h.p14 e), (fun e => h.p15 e), (fun e => h.p16 e), (fun e => h.p17 e), (fun e => h.p18 e), (fun e => h.p19 e), (fun e => h.p20 e), (fun e => h.p21 e), (fun e => h.p22 e), (fun e => h.p23 e), (fun e => h.p24 e), (fun e => h.p25 e), (fun e => h.p26 e), (fun e => h.p27 e), (fun _ => rfl), (fun e => h.p29 e), (fun e => h.p30 e), (fun e => h.p31 e), (fun e => h.p32 e), (fun e => h.p33 e), (fun e => h.p34 e), (fun e => h.p35 e), (fun e => h.p36 e), (fun e => h.p37 e), (fun e => h.p38 e), (fun e => h.p39 e), (fun e => h.p40 e), (fun e => h.p41 e), (fun e => h.p42 e), (fun e => h.p43 e), (fun e => h.p44 e), (fun e => h.p45 e)⟩
    · refine' wpOp_step (o := ?oHp_29) ?hoHp_29 (fun K hK => ?stHp_29)
      case hoHp_29 => rfl
      case stHp_29 =>
        have HK := Lib.hid hK; clear hK
        obtain rfl := HH.out.p27 (HWt.out 27 (by kernel_rfl))
        go_simp
        refine HK.out _ _ ⟨_, _, _, _, _, _, _, _, _, _, _, _, _, _, _, _, _, _, _, _, _, _, _, _, _, _, _, _, _, _, _, _, _, _, _, _, _, _, _, _, _, _, _, _, _, _, rfl, ?_⟩
        have h := HH.out
        exact ⟨h.bel, (fun e => h.p0 e), (fun e => h.p1 e), (fun e => h.p2 e), (fun e => h.p3 e), (fun e => h.p4 e), (fun e => h.p5 e), (fun e => h.p6 e), (fun e => h.p7 e), (fun e => h.p8 e), (fun e => h.p9 e), (fun e => h.p10 e), (fun e => h.p11 e), (fun e => h.p12 e), (fun e => h.p13 e), (fun e => h.p14 e), (fun e => h.p15 e), (fun e => h.p16 e), (fun e => h.p17 e), (fun e => h.p18 e), (fun e => h.p19 e), (fun e => h.p20 e), (fun e => h.p21 e), (fun e => h.p22 e), (fun e => h.p23 e), (fun e => h.p24 e), (fun e => h.p25 e), (fun e => h.p26 e), (fun e => h.p27 e), (fun e => h.p28 e), (fun _ => rfl), (fun e => h.p30 e), (fun e => h.p31 e), (fun e => h.p32 e), (fun e => h.p33 e), (fun e => h.p34 e), (fun e => h.p35 e), (fun e => h.p36 e), (fun e => h.p37 e), (fun e => h.p38 e), (fun e => h.p39 e), (fun e => h.p40 e), (fun e => h.p41 e), (fun e => h.p42 e), (fun e => h.p43 e), (fun e => h.p44 e), (fun e => h.p45 e)⟩
    · refine' wpOp_step (o := ?oHp_30) ?hoHp_30 (fun K hK => ?stHp_30)
      case hoHp_30 => rfl
      case stHp_30 =>
        have HK := Lib.hid hK; clear hK
        obtain rfl := HH.out.p27 (HWt.out 27 (by kernel_rfl))
        go_simp
        refine HK.out _ _ ⟨_, _, _, _, _, _, _, _, _, _, _, _, _, _, _, _, _, _, _, _, _, _, _, _, _, _, _, _, _, _, _, _, _, _, _, _, _, _, _, _, _, _, _, _, _, _, rfl, ?_⟩
        have h := HH.out
        exact ⟨h.bel, (fun e => h.p0 e), (fun e => h.p1 e), (fun e => h.p2 e), (fun e => h.p3 e), (fun e => h.p4 e), (fun e => h.p5 e), (fun e => h.p6 e), (fun e => h.p7 e), (fun e => h.p8 e), (fun e => h.p9 e), (fun e => h.p10 e), (fun e => h.p11 e), (fun e => h.p12 e), (fun e => h.p13 e), (fun e => h.p14 e), (fun e => h.p15 e), (fun e => h.p16 e), (fun e => h.p17 e), (fun e => h.p18 e), (fun e => h.p19 e), (fun e => h.p20 e), (fun e => h.p21 e), (fun e => h.p22 e), (fun e => h.p23 e), (fun e => h.p24 e), (fun e => h.p25 e), (fun e => h.p26 e), (fun e => h.p27 e), (fun e => h.p28 e), (fun e => h.p29 e), (fun _ => rfl), (fun e => h.p31 e), (fun e => h.p32 e), (fun e => h.p33 e), (fun e => h.p34 e), (fun e => h.p35 e), (fun e => h.p36 e), (fun e => h.p37 e), (fun e => h.p38 e), (fun e => h.p39 e), (fun e => h.p40 e), (fun e => h.p41 e), (fun e => h.p42 e), (fun e => h.p43 e), (fun e => h.p44 e), (fun e => h.p45 e)⟩
    · refine' wpOp_step (o := ?oHp_31) ?hoHp_31 (fun K hK => ?stHp_31)
      case hoHp_31 => rfl
      case stHp_31 =>
        have HK := Lib.hid hK; clear hK
        obtain rfl := HH.out.p27 (HWt.out 27 (by kernel_rfl))
        go_simp
        refine HK.out _ _ ⟨_, _, _, _, _, _, _, _, _, _, _, _, _, _, _, _, _, _, _, _, _, _, _, _, _, _, _, _, _, _, _, _, _, _, _, _, _, _, _, _, _, _, _, _, _, _, rfl, ?_⟩
        have h := HH.out
        exact ⟨h.bel, (fun e => h.p0 e), (fun e => h.p1 e), (fun e => h.p2 e), (fun e => h.p3 e), (fun e => h.p4 e), (fun e => h.p5 e), (fun e => h.p6 e), (fun e => h.p7 e), (fun e => h.p8 e), (fun e => h.p9 e), (fun e => h.p10 e), (fun e => h.p11 e), (fun e => h.p12 e), (fun e => h.p13 e), (fun e => h.p14 e), (fun e => h.p15 e), (fun e => h.p16 e), (fun e => h.p17 e), (fun e => h.p18 e), (fun e => h.p19 e), (fun e => h.p20 e), (fun e => h.p21 e), (fun e => h.p22 e), (fun e => h.p23 e), (fun e => h.p24 e), (fun e => h.p25 e), (fun e => h.p26 e), (fun e => h.p27 e), (fun e => h.p28 e), (fun e => h.p29 e), (fun e => h.p30 e), (fun _ => rfl), (fun e => h.p32 e), (fun e => h.p33 e), (fun e => h.p34 e), (fun e => h.p35 e), (fun e => h.p36 e), (fun e => h.p37 e), (fun e => h.p38 e), (fun e => h.p39 e), (fun e => h.p40 e), (fun e => h.p41 e), (fun e => h.p42 e), (fun e => h.p43 e), (fun e => h.p44 e), (fun e => h.p45 e)⟩
    · refine' wpOp_step (o := ?oHp_32) ?hoHp_32 (fun K hK => ?stHp_32)
      case hoHp_32 => rfl
      case stHp_32 =>
        have HK := Lib.hid hK; clear hK
        obtain rfl := HH.out.p27 (HWt.out 27 (by kernel_rfl))
        go_simp
        refine HK.out _ _ ⟨_, _, _, _, _, _, _, _, _, _, _, _, _, _, _, _, _, _, _, _, _, _, _, _, _, _, _, _, _, _, _, _, _, _, _, _, _, _, _, _, _, _, _, _, _, _, rfl, ?_⟩
        have h := HH.out
        exact ⟨h.bel, (fun e => h.p0 e), (fun e => h.p1 e), (fun e => h.p2 e), (fun e => h.p3 e), (fun e => h.p4 e), (fun e => h.p5 e), (fun e => h.p6 e), (fun e => h.p7 e), (fun e => h.p8 e), (fun e => h.p9 e), (fun e => h.p10 e), (fun e => h.p11 e), (fun e => h.p12 e), (fun e => h.p13 e), (fun e => h.p14 e), (fun e => h.p15 e), (fun e => h.p16 e), (fun e => h.p17 e), (fun e => h.p18 e), (fun e => h.p19 e), (fun e => h.p20 e), (fun e => h.p21 e), (fun e => h.p22 e), (fun e => h.p23 e), (fun e => h.p24 e), (fun e => h.p25 e), (fun e => h.p26 e), (fun e => h.p27 e), (fun e => h.p28 e), (fun e => h.p29 e), (fun e => h.p30 e), (fun e => h.p31 e), (fun _ => rfl), (fun e => h.p33 e), (fun e => h.p34 e), (fun e => h.p35 e), (fun e => h.p36 e), (fun e => h.p37 e), (fun e => h.p38 e), (fun e => h.p39 e), (fun e => h.p40 e), (fun e => h.p41 e), (fun e => h.p42 e), (fun e => h.p43 e), (fun e => h.p44 e), (fun e => h.p45 e)⟩
    · refine' wpOp_step (o := ?oHp_33) ?hoHp_33 (fun K hK => ?stHp_33)
      case hoHp_33 => rfl
      case stHp_33 =>
        have HK := Lib.hid hK; clear hK
        obtain rfl := HH.out.p27 (HWt.out 27 (by kernel_rfl))
        go_simp
        refine HK.out _ _ ⟨_, _, _, _, _, _, _, _, _, _, _, _, _, _, _, _, _, _, _, _, _, _, _, _, _, _, _, _, _, _, _, _, _, _, _, _, _, _, _, _, _, _, _, _, _, _, rfl, ?_⟩
        have h := HH.out
        exact ⟨h.bel, (fun e => h.p0 e), (fun e => h.p1 e), (fun e => h.p2 e), (fun e => h.p3 e), (fun e => h.p4 e), (fun e => h.p5 e), (fun e => h.p6 e), (fun e => h.p7 e), (fun e => h.p8 e), (fun e => h.p9 e), (fun e => h.p10 e), (fun e => h.p11 e), (fun e => h.p12 e), (fun e => h.p13 e), (fun e => h.p14 e), (fun e => h.p15 e), (fun e => h.p16 e), (fun e => h.p17 e), (fun e => h.p18 e), (fun e => h.p19 e), (fun e => h.p20 e), (fun e => h.p21 e), (fun e => h.p22 e), (fun e => h.p23 e), (fun e => h.p24 e), (fun e => h.p25 e), (fun e => h.p26 e), (fun e => h.p27 e), (fun e => h.p28 e), (fun e => h.p29 e), (fun e => h.p30 e), (fun e => h.p31 e), (fun e => h.p32 e), (fun _ => rfl), (fun e => h.p34 e), (fun e => h.p35 e), (fun e => h.p36 e), (fun e => h.p37 e), (fun e => h.p38 e), (fun e => h.p39 e), (fun e => h.p40 e), (fun e => h.p41 e), (fun e => h.p42 e), (fun e => h.p43 e), (fun e => h.p44 e), (fun e => h.p45 e)⟩
    · refine' wpOp_step (o := ?oHp_34) ?hoHp_34 (fun K hK => ?stHp_34)
      case hoHp_34 => rfl
      case stHp_34 =>
        have HK := Lib.hid hK; clear hK
        obtain rfl := HH.out.p27 (HWt.out 27 (by kernel_rfl))
        go_simp
        refine HK.out _ _ ⟨_, _, _, _, _, _, _, _, _, _, _, _, _, _, _, _, _, _, _, _, _, _, _, _, _, _, _, _, _, _, _, _, _, _, _, _, _, _, _, _, _, _, _, _, _, _, rfl, ?_⟩
        have h := HH.out
        exact ⟨h.bel, (fun e => h.p0 e), (fun e => h.p1 e), (fun e => h.p2 e), (fun e => h.p3 e), (fun e => h.p4 e), (fun e => h.p5 e), (fun e => h.p6 e), (fun e => h.p7 e), (fun e => h.p8 e), (fun e => h.p9 e), (fun e => h.p10 e), (fun e => h.p11 e), (fun e => h.p12 e), (fun e => h.p13 e), (fun e => h.p14 e), (fun e => h.p15 e), (fun e => h.p16 e), (fun e => h.p17 e), (fun e => h.p18 e), (fun e => h.p19 e), (fun e => h.p20 e), (fun e => h.p21 e), (fun e => h.p22 e), (fun e => h.p23 e), (fun e => h.p24 e), (fun e => h.p25 e), (fun e => h.p26 e), (fun e => h.p27 e), (fun e => h.p28 e), (fun e => h.p29 e), (fun e => h.p30 e), (fun e => h.p31 e), (fun e => h.p32 e), (fun e => h.p33 e), (fun _ => rfl), (fun e => h.p35 e), (fun e => h.p36 e), (fun e => h.p37 e), (fun e => h.p38 e), (fun e => h.p39 e), (fun e => h.p40 e), (fun e => h.p41 e), (fun e => h.p42 e), (fun e => h.p43 e), (fun e => h.p44 e), (fun e => h.p45 e)⟩
    · refine' wpOp_step (o := ?oHp_35) ?hoHp_35 (fun K hK => ?stHp_35)
      case hoHp_35 => rfl
      case stHp_35 =>
        have HK := Lib.hid hK; clear hK
        obtain rfl := HH.out.p27 (HWt.out 27 (by kernel_rfl))
        go_simp
        refine HK.out _ _ ⟨_, _, _, _, _, _, _, _, _, _, _, _, _, _, _, _, _, _, _, _, _, _, _, _, _, _, _, _, _, _, _, _, _, _, _, _, _, _, _, _, _, _, _, _, _, _, rfl, ?_⟩
        have h := HH.out
        exact ⟨h.bel, (fun e => h.p0 e), (fun e => h.p1 e), (fun e => h.p2 e), (fun e => h.p3 e), (fun e => h.p4 e), (fun e => h.p5 e), (fun e => h.p6 e), (fun e => h.p7 e), (fun e => h.p8 e), (fun e => h.p9 e), (fun e => h.p10 e), (fun e => h.p11 e), (fun e => h.p12 e), (fun e => h.p13 e), (fun e => h.p14 e), (fun e => h.p15 e), (fun e => h.p16 e), (fun e => h.p17 e), (fun e => h.p18 e), (fun e => h.p19 e), (fun e => h.p20 e), (fun e => h.p21 e), (fun e => h.p22 e), (fun e => h.p23 e), (fun e => h.p24 e), (fun e => h.p25 e), (fun e => h.p26 e), (fun e => h.p27 e), (fun e => h.p28 e), (fun e => h.p29 e), (fun e => h.p30 e), (fun e => h.p31 e), (fun e => h.p32 e), (fun e => h.p33 e), (fun e => h.p34 e), (fun _ => rfl), (fun e => h.p36 e), (fun e => h.p37 e), (fun e => h.p38 e), (fun e => h.p39 e), (fun e => h.p40 e), (fun e => h.p41 e), (fun e => h.p42 e), (fun e => h.p43 e), (fun e => h.p44 e), (fun e => h.p45 e)⟩
    · refine' wpOp_step (o := ?oHp_36) ?hoHp_36 (fun K hK => ?stHp_36)
      case hoHp_36 => rfl
      case stHp_36 =>
        have HK := Lib.hid hK; clear hK
        obtain rfl := HH.out.p27 (HWt.out 27 (by kernel_rfl))
        go_simp
        refine HK.out _ _ ⟨_, _, _, _, _, _, _, _, _, _, _, _, _, _, _, _, _, _, _, _, _, _, _, _, _, _, _, _, _, _, _, _, _, _, _, _, _, _, _, _, _, _, _, _, _, _, rfl, ?_⟩
        have h := HH.out
        exact ⟨h.bel, (fun e => h.p0 e), (fun e => h.p1 e), (fun e => h.p2 e), (fun e => h.p3 e), (fun e => h.p4 e), (fun e => h.p5 e), (fun e => h.p6 e), (fun e => h.p7 e), (fun e => h.p8 e), (fun e => h.p9 e), (fun e => h.p10 e), (fun e => h.p11 e), (fun e => h.p12 e), (fun e => h.p13 e), (fun e => h.p14 e), (fun e => h.p15 e), (fun e => h.p16 e), (fun e => h.p17 e), (fun e => h.p18 e), (fun e => h.p19 e), (fun e => h.p20 e), (fun e => h.p21 e), (fun e => h.p22 e), (fun e => h.p23 e), (fun e => h.p24 e), (fun e => h.p25 e), (fun e => h.p26 e), (fun e => h.p27 e), (fun e => h.p28 e), (fun e => h.p29 e), (fun e => h.p30 e), (fun e => h.p31 e), (fun e => h.p32 e), (fun e => h.p33 e), (fun e => h.p34 e), (fun e => h.p35 e), (fun _ => rfl), (fun e => h.p37 e), (fun e => h.p38 e), (fun e => h.p39 e), (fun e => h.p40 e), (fun e => h.p41 e), (fun e => h.p42 e), (fun e => h.p43 e), (fun e => h.p44 e), (fun e => h.p45 e)⟩
    · refine' wpOp_step (o := ?oHp_37) ?hoHp_37 (fun K hK => ?stHp_37)
      case hoHp_37 => rfl
      case stHp_37 =>
        have HK := Lib.hid hK; clear hK
        obtain rfl := HH.out.p27 (HWt.out 27 (by kernel_rfl))
        go_simp
        refine HK.out _ _ ⟨_, _, _, _, _, _, _, _, _, _, _, _, _, _, _, _, _, _, _, _, _, _, _, _, _, _, _, _, _, _, _, _, _, _, _, _, _, _, _, _, _, _, _, _, _, _, rfl, ?_⟩
        have h := HH.out
        exact ⟨h.bel, (fun e => h.p0 e), (fun e => h.p1 e), (fun e => h.p2 e), (fun e => h.p3 e), (fun e => h.p4 e), (fun e => h.p5 e), (fun e => h.p6 e), (fun e => h.p7 e), (fun e => h.p8 e), (fun e => h.p9 e), (fun e => h.p10 e), (fun e => h.p11 e), (fun e => h.p12 e), (fun e => h.p13 e), (fun e => h.p14 e), (fun e => h.p15 e), (fun e => h.p16 e), (fun e => h.p17 e), (fun e => h.p18 e), (fun e => h.p19 e), (fun e => h.p20 e), (fun e => h.p21 e), (fun e => h.p22 e), (fun e => h.p23 e), (fun e => h.p24 e), (fun e => h.p25 e), (fun e => h.p26 e), (fun e => h.p27 e), (fun e => h.p28 e), (fun e => h.p29 e), (fun e => h.p30 e), (fun e => h.p31 e), (fun e => h.p32 e), (fun e => h.p33 e), (fun e => h.p34 e), (fun e => h.p35 e), (fun e => h.p36 e), (fun _ => rfl), (fun e => h.p38 e), (fun e => h.p39 e), (fun e => h.p40 e), (fun e => h.p41 e), (fun e => h.p42 e), (fun e => h.p43 e), (fun e => h.p44 e), (fun e => h.p45 e)⟩
    · refine' wpOp_step (o := ?oHp_38) ?hoHp_38 (fun K hK => ?stHp_38)
      case hoHp_38 => rfl
      case stHp_38 =>
        have HK := Lib.hid hK; clear hK
        obtain rfl := HH.out.p27 (HWt.out 27 (by kernel_rfl))
        go_simp
        refine HK.out _ _ ⟨_, _, _, _, _, _, _, _, _, _, _, _, _, _, _, _, _, _, _, _, _, _, _, _, _, _, _, _, _, _, _, _, _, _, _, _, _, _, _, _, _, _, _, _, _, _, rfl, ?_⟩
        have h := HH.out
        exact ⟨h.bel, (fun e => h.p0 e), (fun e => h.p1 e), (fun e => h.p2 e), (fun e => h.p3 e), (fun e => h.p4 e), (fun e => h.p5 e), (fun e => h.p6 e), (fun e => h.p7 e), (fun e => h.p8 e), (fun e => h.p9 e), (fun e => h.p10 e), (fun e => h.p11 e), (fun e => h.p12 e), (fun e => h.p13 e), (fun e => h.p14 e), (fun e => h.p15 e), (fun e => h.p16 e), (fun e => h.p17 e), (fun e => h.p18 e), (fun e => h.p19 e), (fun e => h.p20 e), (fun e => h.p21 e), (fun e => h.p22 e), (fun e => h.p23 e), (fun e => h.p24 e), (fun e => h.p25 e), (fun e => h.p26 e), (fun e => h.p27 e), (fun e => h.p28 e), (fun e => h.p29 e), (fun e => h.p30 e), (fun e => h.p31 e), (fun e => h.p32 e), (fun e => h.p33 e), (fun e => h.p34 e), (fun e => h.p35 e), (fun e => h.p36 e), (fun e => h.p37 e), (fun _ => rfl), (fun e => h.p39 e), (fun e => h.p40 e), (fun e => h.p41 e), (fun e => h.p42 e), (fun e => h.p43 e), (fun e => h.p44 e), (fun e => h.p45 e)⟩
    · refine' wpOp_step (o := ?oHp_39) ?hoHp_39 (fun K hK => ?stHp_39)
      case hoHp_39 => rfl
      case stHp_39 =>
        have HK := Lib.hid hK; clear hK
        obtain rfl := HH.out.p27 (HWt.out 27 (by kernel_rfl))
        go_simp
        refine HK.out _ _ ⟨_, _, _, _, _, _, _, _, _, _, _, _, _, _, _, _, _, _, _, _, _, _, _, _, _, _, _, _, _, _, _, _, _, _, _, _, _, _, _, _, _, _, _, _, _, _, rfl, ?_⟩
        have h := HH.out
        exact ⟨h.bel, (fun e => h.p0 e), (fun e => h.p1 e), (fun e => h.p2 e), (fun e => h.p3 e), (fun e => h.p4 e), (fun e => h.p5 e), (fun e => h.p6 e), (fun e => h.p7 e), (fun e => h.p8 e), (fun e => h.p9 e), (fun e => h.p10 e), (fun e => h.p11 e), (fun e => h.p12 e), (fun e => h.p13 e), (fun e => h.p14 e), (fun e => h.p15 e), (fun e => h.p16 e), (fun e => h.p17 e), (fun e => h.p18 e), (fun e => h.p19 e), (fun e => h.p20 e), (fun e => h.p21 e), (fun e => h.p22 e), (fun e => h.p23 e), (fun e => h.p24 e), (fun e => h.p25 e), (fun e => h.p26 e), (fun e => h.p27 e), (fun e => h.p28 e), (fun e => h.p29 e), (fun e => h.p30 e), (fun e => h.p31 e), (fun e => h.p32 e), (fun e => h.p33 e), (fun e => h.p34 e), (fun e => h.p35 e), (fun e => h.p36 e), (fun e => h.p37 e), (fun e => h.p38 e), (fun _ => rfl), (fun e => h.p40 e), (fun e => h.p41 e), (fun e => h.p42 e), (fun e => h.p43 e), (fun e => h.p44 e), (fun e => h.p45 e)⟩
    · refine' wpOp_step (o := ?oHp_40) ?hoHp_40 (fun K hK => ?stHp_40)
      case hoHp_40 => rfl
      case stHp_40 =>
        have HK := Lib.hid hK; clear hK
        obtain rfl := HH.out.p27 (HWt.out 27 (by kernel_rfl))
        go_simp
        refine HK.out _ _ ⟨_, _, _, _, _, _, _, _, _, _, _, _, _, _, _, _, _, _, _, _, _, _, _, _, _, _, _, _, _, _, _, _, _, _, _, _, _, _, _, _, _, _, _, _, _, _, rfl, ?_⟩
        have h := HH.out
        exact ⟨h.bel, (fun e => h.p0 e), (fun e => h.p1 e), (fun e => h.p2 e), (fun e => h.p3 e), (fun e => h.p4 e), (fun e => h.p5 e), (fun e => h.p6 e), (fun e => h.p7 e), (fun e => h.p8 e), (fun e => h.p9 e), (fun e => h.p10 e), (fun e => h.p11 e), (fun e => h.p12 e), (fun e => h.p13 e), (fun e => h.p14 e), (fun e => h.p15 e), (fun e => h.p16 e), (fun e => h.p17 e), (fun e => h.p18 e), (fun e => h.p19 e), (fun e => h.p20 e), (fun e => h.p21 e), (fun e => h.p22 e), (fun e => h.p23 e), (fun e => h.p24 e), (fun e => h.p25 e), (fun e => h.p26 e), (fun e => h.p27 e), (fun e => h.p28 e), (fun e => h.p29 e), (fun e => h.p30 e), (fun e => h.p31 e), (fun e => h.p32 e), (fun e => h.p33 e), (fun e => h.p34 e), (fun e => h.p35 e), (fun e => h.p36 e), (fun e => h.p37 e), (fun e => h.p38 e), (fun e => h.p39 e), (fun _ => rfl), (fun e => h.p41 e), (fun e => h.p42 e), (fun e => h.p43 e), (fun e => h.p44 e), (fun e => h.p45 e)⟩
    · refine' wpOp_step (o := ?oHp_41) ?hoHp_41 (fun K hK => ?stHp_41)
      case hoHp_41 => rfl
      case stHp_41 =>
        have HK := Lib.hid hK; clear hK
        obtain rfl := HH.out.p27 (HWt.out 27 (by kernel_rfl))
        go_simp
        refine HK.out _ _ ⟨_, _, _, _, _, _, _, _, _, _, _, _, _, _, _, _, _, _, _, _, _, _, _, _, _, _, _, _, _, _, _, _, _, _, _, _, _, _, _, _, _, _, _, _, _, _, rfl, ?_⟩
        have h := HH.out
        exact ⟨h.bel, (fun e => h.p0 e), (fun e => h.p1 e), (fun e => h.p2 e), (fun e => h.p3 e), (fun e => h.p4 e), (fun e => h.p5 e), (fun e => h.p6 e), (fun e => h.p7 e), (fun e => h.p8 e), (fun e => h.p9 e), (fun e => h.p10 e), (fun e => h.p11 e), (fun e => h.p12 e), (fun e => h.p13 e), (fun e => h.p14 e), (fun e => h.p15 e), (fun e => h.p16 e), (fun e => h.p17 e), (fun e => h.p18 e), (fun e => h.p19 e), (fun e => h.p20 e), (fun e => h.p21 e), (fun e => h.p22 e), (fun e => h.p23 e), (fun e => h.p24 e), (fun e => h.p25 e), (fun e => h.p26 e), (fun e => h.p27 e), (fun e => h.p28 e), (fun e => h.p29 e), (fun e => h.p30 e), (fun e => h.p31 e), (fun e => h.p32 e), (fun e => h.p33 e), (fun e => h.p34 e), (fun e => h.p35 e), (fun e => h.p36 e), (fun e => h.p37 e), (fun e => h.p38 e), (fun e => h.p39 e), (fun e => h.p40 e), (fun _ => rfl), (fun e => h.p42 e), (fun e => h.p43 e), (fun e => h.p44 e), (fun e => h.p45 e)⟩
    · refine' wpOp_step (o := ?oHp_42) ?hoHp_42 (fun K hK => ?stHp_42)
      case hoHp_42 => rfl
      case stHp_42 =>
        have HK := Lib.hid hK; clear hK
        obtain rfl := HH.out.p27 (HWt.out 27 (by kernel_rfl))
        go_simp
        refine HK.out _ _ ⟨_, _, _, _, _, _, _, _, _, _, _, _, _, _, _, _, _, _, _, _, _, _, _, _, _, _, _, _, _, _, _, _, _, _, _, _, _, _, _, _, _, _, _, _, _, _, rfl, ?_⟩
        have h := HH.out
        exact ⟨h.bel, (fun e => h.p0 e), (fun e => h.p1 e), (fun e => h.p2 e), (fun e => h.p3 e), (fun e => h.p4 e), (fun e => h.p5 e), (fun e => h.p6 e), (fun e => h.p7 e), (fun e => h.p8 e), (fun e => h.p9 e), (fun e => h.p10 e), (fun e => h.p11 e), (fun e => h.p12 e), (fun e => h.p13 e), (fun e => h.p14 e), (fun e => h.p15 e), (fun e => h.p16 e), (fun e => h.p17 e), (fun e => h.p18 e), (fun e => h.p19 e), (fun e => h.p20 e), (fun e => h.p21 e), (fun e => h.p22 e), (fun e => h.p23 e), (fun e => h.p24 e), (fun e => h.p25 e), (fun e => h.p26 e), (fun e => h.p27 e), (fun e => h.p28 e), (fun e => h.p29 e), (fun e => h.p30 e), (fun e => h.p31 e), (fun e => h.p32 e), (fun e => h.p33 e), (fun e => h.p34 e), (fun e => h.p35 e), (fun e => h.p36 e), (fun e => h.p37 e), (fun e => h.p38 e), (fun e => h.p39 e), (fun e => h.p40 e), (fun e => h.p41 e), (fun _ => rfl), (fun e => h.p43 e), (fun e => h.p44 e), (fun e => h.p45 e)⟩
    · refine' wpOp_step (o := ?oHp_43) ?hoHp_43 (fun K hK => ?stHp_43)
      case hoHp_43 => rfl
      case stHp_43 =>
        have HK := Lib.hid hK; clear hK
        obtain rfl := HH.out.p27 (HWt.out 27 (by kernel_rfl))
        go_simp
        refine HK.out _ _ ⟨_, _, _, _, _, _, _, _, _, _, _, _, _, _, _, _, _, _, _, _, _, _, _, _, _, _, _, _, _, _, _, _, _, _, _, _, _, _, _, _, _, _, _, _, _, _, rfl, ?_⟩
        have h := HH.out
        exact ⟨h.bel, (fun e => h.p0 e), (fun e => h.p1 e), (fun e => h.p2 e), (fun e => h.p3 e), (fun e => h.p4 e), (fun e => h.p5 e), (fun e => h.p6 e), (fun e => h.p7 e), (fun e => h.p8 e), (fun e => h.p9 e), (fun e => h.p10 e), (fun e => h.p11 e), (fun e => h.p12 e), (fun e => h.p13 e), (fun e => h.p14 e), (fun e => h.p15 e), (fun e => h.p16 e), (fun e => h.p17 e), (fun e => h.p18 e), (fun e => h.p19 e), (fun e => h.p20 e), (fun e => h.p21 e), (fun e => h.p22 e), (fun e => h.p23 e), (fun e => h.p24 e), (fun e => h.p25 e), (fun e => h.p26 e), (fun e => h.p27 e), (fun e => h.p28 e), (fun e => h.p29 e), (fun e => h.p30 e), (fun e => h.p31 e), (fun e => h.p32 e), (fun e => h.p33 e), (fun e => h.p34 e), (fun e => h.p35 e), (fun e => h.p36 e), (fun e => h.p37 e), (fun e => h.p38 e), (fun e => h.p39 e), (fun e => h.p40 e), (fun e => h.p41 e), (fun e => h.p42 e), (fun _ => rfl), (fun e => h.p44 e), (fun e => h.p45 e)⟩
    · refine' wpOp_step (o := ?oHp_44) ?hoHp_44 (fun K hK => ?stHp_44)
      case hoHp_44 => rfl
      case stHp_44 =>
        have HK := Lib.hid hK; clear hK
        obtain rfl := HH.out.p27 (HWt.out 27 (by kernel_rfl))
        go_simp
        refine HK.out _ _ ⟨_, _, _, _, _, _, _, _, _, _, _, _, _, _, _, _, _, _, _, _, _, _, _, _, _, _, _, _, _, _, _, _, _, _, _, _, _, _, _, _, _, _, _, _, _, _, rfl, ?_⟩
        have h := HH.out
        exact ⟨h.bel, (fun e => h.p0 e), (fun e => h.p1 e), (fun e => h.p2 e), (fun e => h.p3 e), (fun e => h.p4 e), (fun e => h.p5 e), (fun e => h.p6 e), (fun e => h.p7 e), (fun e => h.p8 e), (fun e => h.p9 e), (fun e => h.p10 e), (fun e => h.p11 e), (fun e => h.p12 e), (fun e => h.p13 e), (fun e => h.p14 e), (fun e => h.p15 e), (fun e => h.p16 e), (fun e => h.p17 e), (fun e => h.p18 e), (fun e => h.p19 e), (fun e => h.p20 e), (fun e => h.p21 e), (fun e => h.p22 e), (fun e => h.p23 e), (fun e => h.p24 e), (fun e => h.p25 e), (fun e => h.p26 e), (fun e => h.p27 e), (fun e => h.p28 e), (fun e => h.p29 e), (fun e => h.p30 e), (fun e => h.p31 e), (fun e => h.p32 e), (fun e => h.p33 e), (fun e => h.p34 e), (fun e => h.p35 e), (fun e => h.p36 e), (fun e => h.p37 e), (fun e => h.p38 e), (fun e => h.p39 e), (fun e => h.p40 e), (fun e => h.p41 e), (fun e => h.p42 e), (fun e => h.p43 e), (fun _ => rfl), (fun e => h.p45 e)⟩
    · refine' wpOp_step (o := ?oHp_45) ?hoHp_45 (fun K hK => ?stHp_45)
      case hoHp_45 => rfl
      case stHp_45 =>
        have HK := Lib.hid hK; clear hK
        obtain rfl := HH.out.p44 (HWt.out 44 (by kernel_rfl))
        go_simp
        refine HK.out _ _ ⟨_, _, _, _, _, _, _, _, _, _, _, _, _, _, _, _, _, _, _, _, _, _, _, _, _, _, _, _, _, _, _, _, _, _, _, _, _, _, _, _, _, _, _, _, _, _, rfl, ?_⟩
        have h := HH.out
        exact ⟨h.bel, (fun e => h.p0 e), (fun e => h.p1 e), (fun e => h.p2 e), (fun e => h.p3 e), (fun e => h.p4 e), (fun e => h.p5 e), (fun e => h.p6 e), (fun e => h.p7 e), (fun e => h.p8 e), (fun e => h.p9 e), (fun e => h.p10 e), (fun e => h.p11 e), (fun e => h.p12 e), (fun e => h.p13 e), (fun e => h.p14 e), (fun e => h.p15 e), (fun e => h.p16 e), (fun e => h.p17 e), (fun e => h.p18 e), (fun e => h.p19 e), (fun e => h.p20 e), (fun e => h.p21 e), (fun e => h.p22 e), (fun e => h.p23 e), (fun e => h.p24 e), (fun e => h.p25 e), (fun e => h.p26 e), (fun e => h.p27 e), (fun e => h.p28 e), (fun e => h.p29 e), (fun e => h.p30 e), (fun e => h.p31 e), (fun e => h.p32 e), (fun e => h.p33 e), (fun e => h.p34 e), (fun e => h.p35 e), (fun e => h.p36 e), (fun e => h.p37 e), (fun e => h.p38 e), (fun e => h.p39 e), (fun e => h.p40 e), (fun e => h.p41 e), (fun e => h.p42 e), (fun e => h.p43 e), (fun e => h.p44 e), (fun _ => rfl)⟩
structure HqI (b off cap g : Nat) (ax ay cx cy px py T x1 x2 x3 x4 m1 m2 : Int) (u1 u2 u3 : Bool) (W : World) (L : Nat → Bool) (w : World) (s4 s18 s19 s20 s21 s22 s23 s24 s25 s26 s27 s28 s29 s30 s31 s32 s33 s34 s35 s36 s37 s38 s39 s40 s41 s42 s43 s44 s45 s46 s47 s48 s49 s50 s51 s52 s53 s54 s55 s56 s57 s58 s59 s60 s61 s62 : Value) : Prop where
  bel : Below W.heap.size W w
  p0 : L 0 = true → s18 = .slice (some ⟨b, off, none⟩) 2 cap
  p1 : L 1 = true → s19 = .pointer (some ⟨b, off, none⟩)
  p2 : L 2 = true → s20 = .agg #[.int .i64 ax, .int .i64 ay]
  p3 : L 3 = true → s21 = .slice (some ⟨b, off, none⟩) 2 cap
  p4 : L 4 = true → s22 = .pointer (some ⟨b, off + 2, none⟩)
  p5 : L 5 = true → s23 = .agg #[.int .i64 cx, .int .i64 cy]
  p6 : L 6 = true → s24 = .agg #[.int .i64 px, .int .i64 py]
  p7 : L 7 = true → s25 = .int .i64 T
  p8 : L 8 = true → s26 = .bool true
  p9 : L 9 = true → s27 = .bool true
  p10 : L 10 = true → s28 = .pointer (some ⟨g, 0, none⟩)
  p11 : L 11 = true → s29 = .int .i64 px
  p12 : L 12 = true → s30 = .slice (some ⟨b, off, none⟩) 2 cap
  p13 : L 13 = true → s31 = .pointer (some ⟨b, off, none⟩)
  p14 : L 14 = true → s32 = .pointer (some ⟨b, off, none⟩)
  p15 : L 15 = true → s33 = .int .i64 ax
  p16 : L 16 = true → s34 = .int .i64 x1
  p17 : L 17 = true → s35 = .pointer (some ⟨g, 0, none⟩)
  p18 : L 18 = true → s36 = .int .i64 px
  p19 : L 19 = true → s37 = .slice (some ⟨b, off, none⟩) 2 cap
  p20 : L 20 = true → s38 = .pointer (some ⟨b, off + 2, none⟩)
  p21 : L 21 = true → s39 = .pointer (some ⟨b, off + 2, none⟩)
  p22 : L 22 = true → s40 = .int .i64 cx
  p23 : L 23 = true → s41 = .int .i64 x2
  p24 : L 24 = true → s42 = .int .i64 m1
  p25 : L 25 = true → s43 = .bool false
  p26 : L 26 = true → s44 = .bool false
  p27 : L 27 = true → s45 = .bool false
  p28 : L 28 = true → s46 = undef
  p29 : L 29 = true → s47 = undef
  p30 : L 30 = true → s48 = undef
  p31 : L 31 = true → s49 = undef
  p32 : L 32 = true → s50 = undef
  p33 : L 33 = true → s51 = undef
  p34 : L 34 = true → s52 = undef
  p35 : L 35 = true → s53 = undef
  p36 : L 36 = true → s54 = undef
  p37 : L 37 = true → s55 = undef
  p38 : L 38 = true → s56 = undef
  p39 : L 39 = true → s57 = undef
  p40 : L 40 = true → s58 = undef
  p41 : L 41 = true → s59 = undef
  p42 : L 42 = true → s60 = undef
  p43 : L 43 = true → s61 = undef
  p44 : L 44 = true → s62 = .bool false
  p45 : L 45 = true → s4 = .bool false
theorem HqI.mono {b off cap g : Nat} {ax ay cx cy px py T x1 x2 x3 x4 m1 m2 : Int} {u1 u2 u3 : Bool} {W w w' : World} {L : Nat → Bool} {s4 s18 s19 s20 s21 s22 s23 s24 s25 s26 s27 s28 s29 s30 s31 s32 s33 s34 s35 s36 s37 s38 s39 s40 s41 s42 s43 s44 s45 s46 s47 s48 s49 s50 s51 s52 s53 s54 s55 s56 s57 s58 s59 s60 s61 s62 : Value} (h : HqI b off cap g ax ay cx cy px py T x1 x2 x3 x4 m1 m2 u1 u2 u3 W L w s4 s18 s19 s20 s21 s22 s23 s24 s25 s26 s27 s28 s29 s30 s31 s32 s33 s34 s35 s36 s37 s38 s39 s40 s41 s42 s43 s44 s45 s46 s47 s48 s49 s50 s51 s52 s53 s54 s55 s56 s57 s58 s59 s60 s61 s62) (hb : Below w.heap.size w w') : HqI b off cap g ax ay cx cy px py T x1 x2 x3 x4 m1 m2 u1 u2 u3 W L w' s4 s18 s19 s20 s21 s22 s23 s24 s25 s26 s27 s28 s29 s30 s31 s32 s33 s34 s35 s36 s37 s38 s39 s40 s41 s42 s43 s44 s45 s46 s47 s48 s49 s50 s51 s52 s53 s54 s55 s56 s57 s58 s59 s60 s61 s62 :=
  ⟨ball h.bel hb, (fun e => h.p0 e), (fun e => h.p1 e), (fun e => h.p2 e), (fun e => h.p3 e), (fun e => h.p4 e), (fun e => h.p5 e), (fun e => h.p6 e), (fun e => h.p7 e), (fun e => h.p8 e), (fun e => h.p9 e), (fun e => h.p10 e), (fun e => h.p11 e), (fun e => h.p12 e), (fun e => h.p13 e), (fun e => h.p14 e), (fun e => h.p15 e), (fun e => h.p16 e), (fun e => h.p17 e), (fun e => h.p18 e), (fun e => h.p19 e), (fun e => h.p20 e), (fun e => h.p21 e), (fun e => h.p22 e), (fun e => h.p23 e), (fun e => h.p24 e), (fun e => h.p25 e), (fun e => h.p26 e), (fun e => h.p27 e), (fun e => h.p28 e), (fun e => h.p29 e), (fun e => h.p30 e), (fun e => h.p31 e), (fun e => h.p32 e), (fun e => h.p33 e), (fun e => h.p34 e), (fun e => h.p35 e), (fun e => h.p36 e), (fun e => h.p37 e), (fun e => h.p38 e), (fun e => h.p39 e), (fun e => h.p40 e), (fun e => h.p41 e), (fun e => h.p42 e), (fun e => h.p43 e), (fun e => h.p44 e), (fun e => h.p45 e)⟩
set_option maxHeartbeats 6400000 in
set_option maxRecDepth 100000 in
theorem pyHas_Hq (b off cap : Nat) (ax ay cx cy px py T x1 x2 x3 x4 m1 m2 : Int) (u1 u2 u3 : Bool) (w : World) (hr : RdP w (some ⟨b, off, none⟩) [⟨ax, ay⟩, ⟨cx, cy⟩])
    (ct : ∀ w, Calls Tryz.prog 77 #[.agg #[.int .i64 ax, .int .i64 ay], .agg #[.int .i64 cx, .int .i64 cy], .agg #[.int .i64 px, .int .i64 py]] w fun e w' => e = .returned (.int .i64 T) ∧ Below w.heap.size w w')
    (hT : (T == 0) = true) (h1 : IntKind.i64.wrap (px - ax) = x1) (h2 : IntKind.i64.wrap (px - cx) = x2) (h3 : IntKind.i64.wrap (x1 * x2) = m1) (h4 : decide (m1 ≤ 0) = false)
    (_h5 : IntKind.i64.wrap (py - ay) = x3) (_h6 : IntKind.i64.wrap (py - cy) = x4) (_h7 : IntKind.i64.wrap (x3 * x4) = m2) (_h8 : decide (m2 ≤ 0) = u3) :
    Calls Tryz.prog 52 #[.slice (some ⟨b, off, none⟩) 2 cap, .agg #[.int .i64 px, .int .i64 py]] w fun e w' => e = .returned (.bool false) ∧ Below w.heap.size w w' := by
  have CT := Lib.hid ct; clear ct
  obtain ⟨c0, c1⟩ := hr.at (j := 0) (by simp)
  obtain ⟨c2, c3⟩ := hr.at (j := 1) (by simp)
  obtain ⟨b', off', eb, hbl⟩ := hr.some (by simp)
  obtain ⟨rfl, rfl⟩ : b = b' ∧ off = off' := by simpa using eb
  clear eb hr
  simp only [List.getD_cons_zero, List.getD_cons_succ, Nat.zero_mul, Nat.add_zero, Nat.one_mul] at c0 c1 c2 c3
  have hb0 : Below w.heap.size w (w.alloc (.cells #[.int .i64 px, .int .i64 py] 30)) := (Below.refl _ _).alloc (Nat.le_refl _) _
  have hbl1 : b < (w.alloc (.cells #[.int .i64 px, .int .i64 py] 30)).heap.size := Nat.lt_of_lt_of_le hbl hb0.size
  obtain ⟨g, hg⟩ : ∃ g, w.heap.size = g := ⟨_, rfl⟩
  have o0 := PtO.new w px py hg.symm
  obtain ⟨x0', x1'⟩ := o0.at
  have Fa0 := Lib.hid (And.intro hbl1 (bcell hb0 hbl c0))
  have Fa1 := Lib.hid (And.intro hbl1 (bcell hb0 hbl c1))
  have Fc0 := Lib.hid (And.intro hbl1 (bcell hb0 hbl c2))
  have Fc1 := Lib.hid (And.intro hbl1 (bcell hb0 hbl c3))
  have Fp0 := Lib.hid (And.intro o0.lt x0')
  have Fp1 := Lib.hid (And.intro o0.lt x1')
  clear x0' x1' o0 c0 c1 c2 c3 hbl hbl1
  have HB0 := Lib.hid hb0; clear hb0
  go_enter Tryz.func52, Tryz.ntmps52
  go_wp2_with fail
  try simp only [hg]
  have HG := Lib.hid hg
  generalize w.alloc (.cells #[.int .i64 px, .int .i64 py] 30) = W at Fa0 Fa1 Fc0 Fc1 Fp0 Fp1 HB0 ⊢
  clear hg
  refine wp_region_inv (fun L ac w' => ∃ s4 s18 s19 s20 s21 s22 s23 s24 s25 s26 s27 s28 s29 s30 s31 s32 s33 s34 s35 s36 s37 s38 s39 s40 s41 s42 s43 s44 s45 s46 s47 s48 s49 s50 s51 s52 s53 s54 s55 s56 s57 s58 s59 s60 s61 s62, ac = { tmps := #[.slice (some ⟨b, off, none⟩) 2 cap, .agg #[.int .i64 px, .int .i64 py], undef, .pointer (some ⟨g, 0, none⟩), s4, undef, undef, .slice (some ⟨b, off, none⟩) 2 cap, .int .i64 2, .bool false, undef, undef, undef, undef, undef, .slice (some ⟨b, off, none⟩) 2 cap, .int .i64 2, .bool true, s18, s19, s20, s21, s22, s23, s24, s25, s26, s27, s28, s29, s30, s31, s32, s33, s34, s35, s36, s37, s38, s39, s40, s41, s42, s43, s44, s45, s46, s47, s48, s49, s50, s51, s52, s53, s54, s55, s56, s57, s58, s59, s60, s61, s62, undef, undef, undef, undef, undef, undef, undef, undef, undef, undef, undef, undef, undef, undef, undef, undef, undef, undef, undef, undef], defers := [] } ∧ HqI b off cap g ax ay cx cy px py T x1 x2 x3 x4 m1 m2 u1 u2 u3 W L w' s4 s18 s19 s20 s21 s22 s23 s24 s25 s26 s27 s28 s29 s30 s31 s32 s33 s34 s35 s36 s37 s38 s39 s40 s41 s42 s43 s44 s45 s46 s47 s48 s49 s50 s51 s52 s53 s54 s55 s56 s57 s58 s59 s60 s61 s62) (by kernel_rfl) (by kernel_rfl) ?_ ?_ ?_
  · exact ⟨_, _, _, _, _, _, _, _, _, _, _, _, _, _, _, _, _, _, _, _, _, _, _, _, _, _, _, _, _, _, _, _, _, _, _, _, _, _, _, _, _, _, _, _, _, _, rfl, (Below.refl _ _).drew, (fun e => by cases e), (fun e => by cases e), (fun e => by cases e), (fun e => by cases e), (fun e => by cases e), (fun e => by cases e), (fun e => by cases e), (fun e => by cases e), (fun e => by cases e), (fun e => by cases e), (fun e => by cases e), (fun e => by cases e), (fun e => by cases e), (fun e => by cases e), (fun e => by cases e), (fun e => by cases e), (fun e => by cases e), (fun e => by cases e), (fun e => by cases e), (fun e => by cases e), (fun e => by cases e), (fun e => by cases e), (fun e => by cases e), (fun e => by cases e), (fun e => by cases e), (fun e => by cases e), (fun e => by cases e), (fun e => by cases e), (fun e => by cases e), (fun e => by cases e), (fun e => by cases e), (fun e => by cases e), (fun e => by cases e), (fun e => by cases e), (fun e => by cases e), (fun e => by cases e), (fun e => by cases e), (fun e => by cases e), (fun e => by cases e), (fun e => by cases e), (fun e => by cases e), (fun e => by cases e), (fun e => by cases e), (fun e => by cases e), (fun e => by cases e), (fun e => by cases e)⟩
  · rintro L ac w' ⟨s4, s18, s19, s20, s21, s22, s23, s24, s25, s26, s27, s28, s29, s30, s31, s32, s33, s34, s35, s36, s37, s38, s39, s40, s41, s42, s43, s44, s45, s46, s47, s48, s49, s50, s51, s52, s53, s54, s55, s56, s57, s58, s59, s60, s61, s62, rfl, H⟩ hL
    obtain rfl := H.p45 (hL 45 (by decide))
    have HREL := Lib.hid (show Below w.heap.size w w' from ball HB0.out H.bel)
    clear H hL 
    go_wp2_with fail
    go_ret
    exact ⟨rfl, HREL.out⟩
  · rintro i L ac w' ⟨s4, s18, s19, s20, s21, s22, s23, s24, s25, s26, s27, s28, s29, s30, s31, s32, s33, s34, s35, s36, s37, s38, s39, s40, s41, s42, s43, s44, s45, s46, s47, s48, s49, s50, s51, s52, s53, s54, s55, s56, s57, s58, s59, s60, s61, s62, rfl, H⟩ hi hL hw
    have hi : i < 46 := hi
    have HH := Lib.hid H; have HWt := Lib.hid hw
    clear H hw
    rcases (show i = 0 ∨ i = 1 ∨ i = 2 ∨ i = 3 ∨ i = 4 ∨ i = 5 ∨ i = 6 ∨ i = 7 ∨ i = 8 ∨ i = 9 ∨ i = 10 ∨ i = 11 ∨ i = 12 ∨ i = 13 ∨ i = 14 ∨ i = 15 ∨ i = 16 ∨ i = 17 ∨ i = 18 ∨ i = 19 ∨ i = 20 ∨ i = 21 ∨ i = 22 ∨ i = 23 ∨ i = 24 ∨ i = 25 ∨ i = 26 ∨ i = 27 ∨ i = 28 ∨ i = 29 ∨ i = 30 ∨ i = 31 ∨ i = 32 ∨ i = 33 ∨ i = 34 ∨ i = 35 ∨ i = 36 ∨ i = 37 ∨ i = 38 ∨ i = 39 ∨ i = 40 ∨ i = 41 ∨ i = 42 ∨ i = 43 ∨ i = 44 ∨ i = 45 by omega) with rfl | rfl | rfl | rfl | rfl | rfl | rfl | rfl | rfl | rfl | rfl | rfl | rfl | rfl | rfl | rfl | rfl | rfl | rfl | rfl | rfl | rfl | rfl | rfl | rfl | rfl | rfl | rfl | rfl | rfl | rfl | rfl | rfl | rfl | rfl | rfl | rfl | rfl | rfl | rfl | rfl | rfl | rfl | rfl | rfl | rfl
    · refine' wpOp_step (o := ?oHq_0) ?hoHq_0 (fun K hK => ?stHq_0)
      case hoHq_0 => rfl
      case stHq_0 =>
        have HK := Lib.hid hK; clear hK
        go_simp
        refine HK.out _ _ ⟨_, _, _, _, _, _, _, _, _, _, _, _, _, _, _, _, _, _, _, _, _, _, _, _, _, _, _, _, _, _, _, _, _, _, _, _, _, _, _, _, _, _, _, _, _, _, rfl, ?_⟩
        have h := HH.out
        exact ⟨h.bel, (fun _ => rfl), (fun e => h.p1 e), (fun e => h.p2 e), (fun e => h.p3 e), (fun e => h.p4 e), (fun e => h.p5 e), (fun e => h.p6 e), (fun e => h.p7 e), (fun e => h.p8 e), (fun e => h.p9 e), (fun e => h.p10 e), (fun e => h.p11 e), (fun e => h.p12 e), (fun e => h.p13 e), (fun e => h.p14 e), (fun e => h.p15 e), (fun e => h.p16 e), (fun e => h.p17 e), (fun e => h.p18 e), (fun e => h.p19 e), (fun e => h.p20 e), (fun e => h.p21 e), (fun e => h.p22 e), (fun e => h.p23 e), (fun e => h.p24 e), (fun e => h.p25 e), (fun e => h.p26 e), (fun e => h.p27 e), (fun e => h.p28 e), (fun e => h.p29 e), (fun e => h.p30 e), (fun e => h.p31 e), (fun e => h.p32 e), (fun e => h.p33 e), (fun e => h.p34 e), (fun e => h.p35 e), (fun e => h.p36 e), (fun e => h.p37 e), (fun e => h.p38 e), (fun e => h.p39 e), (fun e => h.p40 e), (fun e => h.p41 e), (fun e => h.p42 e), (fun e => h.p43 e), (fun e => h.p44 e), (fun e => h.p45 e)⟩
    · refine' wpOp_step (o := ?oHq_1) ?hoHq_1 (fun K hK => ?stHq_1)
      case hoHq_1 => rfl
      case stHq_1 =>
        have HK := Lib.hid hK; clear hK
        obtain rfl := HH.out.p0 (HWt.out 0 (by kernel_rfl))
        go_simp
        refine HK.out _ _ ⟨_, _, _, _, _, _, _, _, _, _, _, _, _, _, _, _, _, _, _, _, _, _, _, _, _, _, _, _, _, _, _, _, _, _, _, _, _, _, _, _, _, _, _, _, _, _, rfl, ?_⟩
        have h := HH.out
        exact ⟨h.bel, (fun e => h.p0 e), (fun _ => rfl), (fun e => h.p2 e), (fun e => h.p3 e), (fun e => h.p4 e), (fun e => h.p5 e), (fun e => h.p6 e), (fun e => h.p7 e), (fun e => h.p8 e), (fun e => h.p9 e), (fun e => h.p10 e), (fun e => h.p11 e), (fun e => h.p12 e), (fun e => h.p13 e), (fun e => h.p14 e), (fun e => h.p15 e), (fun e => h.p16 e), (fun e => h.p17 e), (fun e => h.p18 e), (fun e => h.p19 e), (fun e => h.p20 e), (fun e => h.p21 e), (fun e => h.p22 e), (fun e => h.p23 e), (fun e => h.p24 e), (fun e => h.p25 e), (fun e => h.p26 e), (fun e => h.p27 e), (fun e => h.p28 e), (fun e => h.p29 e), (fun e => h.p30 e), (fun e => h.p31 e), (fun e => h.p32 e), (fun e => h.p33 e), (fun e => h.p34 e), (fun e => h.p35 e), (fun e => h.p36 e), (fun e => h.p37 e), (fun e => h.p38 e), (fun e => h.p39 e), (fun e => h.p40 e), (fun e => h.p41 e), (fun e => h.p42 e), (fun e => h.p43 e), (fun e => h.p44 e), (fun e => h.p45 e)⟩
    · refine' wpOp_step (o := ?oHq_2) ?hoHq_2 (fun K hK => ?stHq_2)
      case hoHq_2 => rfl
      case stHq_2 =>
        have HK := Lib.hid hK; clear hK
        obtain rfl := HH.out.p1 (HWt.out 1 (by kernel_rfl))
        have q0 := bcellP HH.out.bel Fa0.out
        have q1 := bcellP HH.out.bel Fa1.out
        go_simp
        refine HK.out _ _ ⟨_, _, _, _, _, _, _, _, _, _, _, _, _, _, _, _, _, _, _, _, _, _, _, _, _, _, _, _, _, _, _, _, _, _, _, _, _, _, _, _, _, _, _, _, _, _, rfl, ?_⟩
        have h := HH.out
        exact ⟨h.bel, (fun e => h.p0 e), (fun e => h.p1 e), (fun _ => rfl), (fun e => h.p3 e), (fun e => h.p4 e), (fun e => h.p5 e), (fun e => h.p6 e), (fun e => h.p7 e), (fun e => h.p8 e), (fun e => h.p9 e), (fun e => h.p10 e), (fun e => h.p11 e), (fun e => h.p12 e), (fun e => h.p13 e), (fun e => h.p14 e), (fun e => h.p15 e), (fun e => h.p16 e), (fun e => h.p17 e), (fun e => h.p18 e), (fun e => h.p19 e), (fun e => h.p20 e), (fun e => h.p21 e), (fun e => h.p22 e), (fun e => h.p23 e), (fun e => h.p24 e), (fun e => h.p25 e), (fun e => h.p26 e), (fun e => h.p27 e), (fun e => h.p28 e), (fun e => h.p29 e), (fun e => h.p30 e), (fun e => h.p31 e), (fun e => h.p32 e), (fun e => h.p33 e), (fun e => h.p34 e), (fun e => h.p35 e), (fun e => h.p36 e), (fun e => h.p37 e), (fun e => h.p38 e), (fun e => h.p39 e), (fun e => h.p40 e), (fun e => h.p41 e), (fun e => h.p42 e), (fun e => h.p43 e), (fun e => h.p44 e), (fun e => h.p45 e)⟩
    · refine' wpOp_step (o := ?oHq_3) ?hoHq_3 (fun K hK => ?stHq_3)
      case hoHq_3 => rfl
      case stHq_3 =>
        have HK := Lib.hid hK; clear hK
        go_simp
        refine HK.out _ _ ⟨_, _, _, _, _, _, _, _, _, _, _, _, _, _, _, _, _, _, _, _, _, _, _, _, _, _, _, _, _, _, _, _, _, _, _, _, _, _, _, _, _, _, _, _, _, _, rfl, ?_⟩
        have h := HH.out
        exact ⟨h.bel, (fun e => h.p0 e), (fun e => h.p1 e), (fun e => h.p2 e), (fun _ => rfl), (fun e => h.p4 e), (fun e => h.p5 e), (fun e => h.p6 e), (fun e => h.p7 e), (fun e => h.p8 e), (fun e => h.p9 e), (fun e => h.p10 e), (fun e => h.p11 e), (fun e => h.p12 e), (fun e => h.p13 e), (fun e => h.p14 e), (fun e => h.p15 e), (fun e => h.p16 e), (fun e => h.p17 e), (fun e => h.p18 e), (fun e => h.p19 e), (fun e => h.p20 e), (fun e => h.p21 e), (fun e => h.p22 e), (fun e => h.p23 e), (fun e => h.p24 e), (fun e => h.p25 e), (fun e => h.p26 e), (fun e => h.p27 e), (fun e => h.p28 e), (fun e => h.p29 e), (fun e => h.p30 e), (fun e => h.p31 e), (fun e => h.p32 e), (fun e => h.p33 e), (fun e => h.p34 e), (fun e => h.p35 e), (fun e => h.p36 e), (fun e => h.p37 e), (fun e => h.p38 e), (fun e => h.p39 e), (fun e => h.p40 e), (fun e => h.p41 e), (fun e => h.p42 e), (fun e => h.p43 e), (fun e => h.p44 e), (fun e => h.p45 e)⟩
    · refine' wpOp_step (o := ?oHq_4) ?hoHq_4 (fun K hK => ?stHq_4)
      case hoHq_4 => rfl
      case stHq_4 =>
        have HK := Lib.hid hK; clear hK
        obtain rfl := HH.out.p3 (HWt.out 3 (by kernel_rfl))
        go_simp
        refine HK.out _ _ ⟨_, _, _, _, _, _, _, _, _, _, _, _, _, _, _, _, _, _, _, _, _, _, _, _, _, _, _, _, _, _, _, _, _, _, _, _, _, _, _, _, _, _, _, _, _, _, rfl, ?_⟩
        have h := HH.out
        exact ⟨h.bel, (fun e => h.p0 e), (fun e => h.p1 e), (fun e => h.p2 e), (fun e => h.p3 e), (fun _ => rfl), (fun e => h.p5 e), (fun e => h.p6 e), (fun e => h.p7 e), (fun e => h.p8 e), (fun e => h.p9 e), (fun e => h.p10 e), (fun e => h.p11 e), (fun e => h.p12 e), (fun e => h.p13 e), (fun e => h.p14 e), (fun e => h.p15 e), (fun e => h.p16 e), (fun e => h.p17 e), (fun e => h.p18 e), (fun e => h.p19 e), (fun e => h.p20 e), (fun e => h.p21 e), (fun e => h.p22 e), (fun e => h.p23 e), (fun e => h.p24 e), (fun e => h.p25 e), (fun e => h.p26 e), (fun e => h.p27 e), (fun e => h.p28 e), (fun e => h.p29 e), (fun e => h.p30 e), (fun e => h.p31 e), (fun e => h.p32 e), (fun e => h.p33 e), (fun e => h.p34 e), (fun e => h.p35 e), (fun e => h.p36 e), (fun e => h.p37 e), (fun e => h.p38 e), (fun e => h.p39 e), (fun e => h.p40 e), (fun e => h.p41 e), (fun e => h.p42 e), (fun e => h.p43 e), (fun e => h.p44 e), (fun e => h.p45 e)⟩
    · refine' wpOp_step (o := ?oHq_5) ?hoHq_5 (fun K hK => ?stHq_5)
      case hoHq_5 => rfl
      case stHq_5 =>
        have HK := Lib.hid hK; clear hK
        obtain rfl := HH.out.p4 (HWt.out 4 (by kernel_rfl))
        have q0 := bcellP HH.out.bel Fc0.out
        have q1 := bcellP HH.out.bel Fc1.out
        go_simp
        refine HK.out _ _ ⟨_, _, _, _, _, _, _, _, _, _, _, _, _, _, _, _, _, _, _, _, _, _, _, _, _, _, _, _, _, _, _, _, _, _, _, _, _, _, _, _, _, _, _, _, _, _, rfl, ?_⟩
        have h := HH.out
        exact ⟨h.bel, (fun e => h.p0 e), (fun e => h.p1 e), (fun e => h.p2 e), (fun e => h.p3 e), (fun e => h.p4 e), (fun _ => rfl), (fun e => h.p6 e), (fun e => h.p7 e), (fun e => h.p8 e), (fun e => h.p9 e), (fun e => h.p10 e), (fun e => h.p11 e), (fun e => h.p12 e), (fun e => h.p13 e), (fun e => h.p14 e), (fun e => h.p15 e), (fun e => h.p16 e), (fun e => h.p17 e), (fun e => h.p18 e), (fun e => h.p19 e), (fun e => h.p20 e), (fun e => h.p21 e), (fun e => h.p22 e), (fun e => h.p23 e), (fun e => h.p24 e), (fun e => h.p25 e), (fun e => h.p26 e), (fun e => h.p27 e), (fun e => h.p28 e), (fun e => h.p29 e), (fun e => h.p30 e), (fun e => h.p31 e), (fun e => h.p32 e), (fun e => h.p33 e), (fun e => h.p34 e), (fun e => h.p35 e), (fun e => h.p36 e), (fun e => h.p37 e), (fun e => h.p38 e), (fun e => h.p39 e), (fun e => h.p40 e), (fun e => h.p41 e), (fun e => h.p42 e), (fun e => h.p43 e), (fun e => h.p44 e), (fun e => h.p45 e)⟩
    · refine' wpOp_step (o := ?oHq_6) ?hoHq_6 (fun K hK => ?stHq_6)
      case hoHq_6 => rfl
      case stHq_6 =>
        have HK := Lib.hid hK; clear hK
        have q0 := bcellP HH.out.bel Fp0.out
        have q1 := bcellP HH.out.bel Fp1.out
        go_simp
        refine HK.out _ _ ⟨_, _, _, _, _, _, _, _, _, _, _, _, _, _, _, _, _, _, _, _, _, _, _, _, _, _, _, _, _, _, _, _, _, _, _, _, _, _, _, _, _, _, _, _, _, _, rfl, ?_⟩
        have h := HH.out
        exact ⟨h.bel, (fun e => h.p0 e), (fun e => h.p1 e), (fun e => h.p2 e), (fun e => h.p3 e), (fun e => h.p4 e), (fun e => h.p5 e), (fun _ => rfl), (fun e => h.p7 e), (fun e => h.p8 e), (fun e => h.p9 e), (fun e => h.p10 e), (fun e => h.p11 e), (fun e => h.p12 e), (fun e => h.p13 e), (fun e => h.p14 e), (fun e => h.p15 e), (fun e => h.p16 e), (fun e => h.p17 e), (fun e => h.p18 e), (fun e => h.p19 e), (fun e => h.p20 e), (fun e => h.p21 e), (fun e => h.p22 e), (fun e => h.p23 e), (fun e => h.p24 e), (fun e => h.p25 e), (fun e => h.p26 e), (fun e => h.p27 e), (fun e => h.p28 e), (fun e => h.p29 e), (fun e => h.p30 e), (fun e => h.p31 e), (fun e => h.p32 e), (fun e => h.p33 e), (fun e => h.p34 e), (fun e => h.p35 e), (fun e => h.p36 e), (fun e => h.p37 e), (fun e => h.p38 e), (fun e => h.p39 e), (fun e => h.p40 e), (fun e => h.p41 e), (fun e => h.p42 e), (fun e => h.p43 e), (fun e => h.p44 e), (fun e => h.p45 e)⟩
    · refine' wpOp_step (o := ?oHq_7) ?hoHq_7 (fun K hK => ?stHq_7)
      case hoHq_7 => rfl
      case stHq_7 =>
        have HK := Lib.hid hK; clear hK
        obtain rfl := HH.out.p2 (HWt.out 2 (by kernel_rfl))
        obtain rfl := HH.out.p5 (HWt.out 5 (by kernel_rfl))
        obtain rfl := HH.out.p6 (HWt.out 6 (by kernel_rfl))
        go_simp
        go_at_call 77; (refine (CT.out _).mono ?_); rintro e wC ⟨rfl, hwC⟩
        refine HK.out _ _ ⟨_, _, _, _, _, _, _, _, _, _, _, _, _, _, _, _, _, _, _, _, _, _, _, _, _, _, _, _, _, _, _, _, _, _, _, _, _, _, _, _, _, _, _, _, _, _, rfl, ?_⟩
        have h := HH.out.mono hwC
        exact ⟨h.bel, (fun e => h.p0 e), (fun e => h.p1 e), (fun e => h.p2 e), (fun e => h.p3 e), (fun e => h.p4 e), (fun e => h.p5 e), (fun e => h.p6 e), (fun _ => rfl), (fun e => h.p8 e), (fun e => h.p9 e), (fun e => h.p10 e), (fun e => h.p11 e), (fun e => h.p12 e), (fun e => h.p13 e), (fun e => h.p14 e), (fun e => h.p15 e), (fun e => h.p16 e), (fun e => h.p17 e), (fun e => h.p18 e), (fun e => h.p19 e), (fun e => h.p20 e), (fun e => h.p21 e), (fun e => h.p22 e), (fun e => h.p23 e), (fun e => h.p24 e), (fun e => h.p25 e), (fun e => h.p26 e), (fun e => h.p27 e), (fun e => h.p28 e), (fun e => h.p29 e), (fun e => h.p30 e), (fun e => h.p31 e), (fun e => h.p32 e), (fun e => h.p33 e), (fun e => h.p34 e), (fun e => h.p35 e), (fun e => h.p36 e), (fun e => h.p37 e), (fun e => h.p38 e), (fun e => h.p39 e), (fun e => h.p40 e), (fun e => h.p41 e), (fun e => h.p42 e), (fun e => h.p43 e), (fun e => h.p44 e), (fun e => h.p45 e)⟩
    · refine' wpOp_step (o := ?oHq_8) ?hoHq_8 (fun K hK => ?stHq_8)
      case hoHq_8 => rfl
      case stHq_8 =>
        have HK := Lib.hid hK; clear hK
        obtain rfl := HH.out.p7 (HWt.out 7 (by kernel_rfl))
        go_simp
        refine HK.out _ _ ⟨_, _, _, _, _, _, _, _, _, _, _, _, _, _, _, _, _, _, _, _, _, _, _, _, _, _, _, _, _, _, _, _, _, _, _, _, _, _, _, _, _, _, _, _, _, _, rfl, ?_⟩
        have h := HH.out
        exact ⟨h.bel, (fun e => h.p0 e), (fun e => h.p1 e), (fun e => h.p2 e), (fun e => h.p3 e), (fun e => h.p4 e), (fun e => h.p5 e), (fun e => h.p6 e), (fun e => h.p7 e), (fun _ => rfl), (fun e => h.p9 e), (fun e => h.p10 e), (fun e => h.p11 e), (fun e => h.p12 e), (fun e => h.p13 e), (fun e => h.p14 e), (fun e => h.p15 e), (fun e => h.p16 e), (fun e => h.p17 e), (fun e => h.p18 e), (fun e => h.p19 e), (fun e => h.p20 e), (fun e => h.p21 e), (fun e => h.p22 e), (fun e => h.p23 e), (fun e => h.p24 e), (fun e => h.p25 e), (fun e => h.p26 e), (fun e => h.p27 e), (fun e => h.p28 e), (fun e => h.p29 e), (fun e => h.p30 e), (fun e => h.p31 e), (fun e => h.p32 e), (fun e => h.p33 e), (fun e => h.p34 e), (fun e => h.p35 e), (fun e => h.p36 e), (fun e => h.p37 e), (fun e => h.p38 e), (fun e => h.p39 e), (fun e => h.p40 e), (fun e => h.p41 e), (fun e => h.p42 e), (fun e => h.p43 e), (fun e => h.p44 e), (fun e => h.p45 e)⟩
    · refine' wpOp_step (o := ?oHq_9) ?hoHq_9 (fun K hK => ?stHq_9)
      case hoHq_9 => rfl
      case stHq_9 =>
        have HK := Lib.hid hK; clear hK
        obtain rfl := HH.out.p8 (HWt.out 8 (by kernel_rfl))
        go_simp
        refine HK.out _ _ ⟨_, _, _, _, _, _, _, _, _, _, _, _, _, _, _, _, _, _, _, _, _, _, _, _, _, _, _, _, _, _, _, _, _, _, _, _, _, _, _, _, _, _, _, _, _, _, rfl, ?_⟩
        have h := HH.out
        exact ⟨h.bel, (fun e => h.p0 e), (fun e => h.p1 e), (fun e => h.p2 e), (fun e => h.p3 e), (fun e => h.p4 e), (fun e => h.p5 e), (fun e => h.p6 e), (fun e => h.p7 e), (fun e => h.p8 e), (fun _ => rfl), (fun e => h.p10 e), (fun e => h.p11 e), (fun e => h.p12 e), (fun e => h.p13 e), (fun e => h.p14 e), (fun e => h.p15 e), (fun e => h.p16 e), (fun e => h.p17 e), (fun e => h.p18 e), (fun e => h.p19 e), (fun e => h.p20 e), (fun e => h.p21 e), (fun e => h.p22 e), (fun e => h.p23 e), (fun e => h.p24 e), (fun e => h.p25 e), (fun e => h.p26 e), (fun e => h.p27 e), (fun e => h.p28 e), (fun e => h.p29 e), (fun e => h.p30 e), (fun e => h.p31 e), (fun e => h.p32 e), (fun e => h.p33 e), (fun e => h.p34 e), (fun e => h.p35 e), (fun e => h.p36 e), (fun e => h.p37 e), (fun e => h.p38 e), (fun e => h.p39 e), (fun e => h.p40 e), (fun e => h.p41 e), (fun e => h.p42 e), (fun e => h.p43 e), (fun e => h.p44 e), (fun e => h.p45 e)⟩
    · refine' wpOp_step (o := ?oHq_10) ?hoHq_10 (fun K hK => ?stHq_10)
      case hoHq_10 => rfl
      case stHq_10 =>
        have HK := Lib.hid hK; clear hK
        obtain rfl := HH.out.p9 (HWt.out 9 (by kernel_rfl))
        go_simp
        refine HK.out _ _ ⟨_, _, _, _, _, _, _, _, _, _, _, _, _, _, _, _, _, _, _, _, _, _, _, _, _, _, _, _, _, _, _, _, _, _, _, _, _, _, _, _, _, _, _, _, _, _, rfl, ?_⟩
        have h := HH.out
        exact ⟨h.bel, (fun e => h.p0 e), (fun e => h.p1 e), (fun e => h.p2 e), (fun e => h.p3 e), (fun e => h.p4 e), (fun e => h.p5 e), (fun e => h.p6 e), (fun e => h.p7 e), (fun e => h.p8 e), (fun e => h.p9 e), (fun _ => rfl), (fun e => h.p11 e), (fun e => h.p12 e), (fun e => h.p13 e), (fun e => h.p14 e), (fun e => h.p15 e), (fun e => h.p16 e), (fun e => h.p17 e), (fun e => h.p18 e), (fun e => h.p19 e), (fun e => h.p20 e), (fun e => h.p21 e), (fun e => h.p22 e), (fun e => h.p23 e), (fun e => h.p24 e), (fun e => h.p25 e), (fun e => h.p26 e), (fun e => h.p27 e), (fun e => h.p28 e), (fun e => h.p29 e), (fun e => h.p30 e), (fun e => h.p31 e), (fun e => h.p32 e), (fun e => h.p33 e), (fun e => h.p34 e), (fun e => h.p35 e), (fun e => h.p36 e), (fun e => h.p37 e), (fun e => h.p38 e), (fun e => h.p39 e), (fun e => h.p40 e), (fun e => h.p41 e), (fun e => h.p42 e), (fun e => h.p43 e), (fun e => h.p44 e), (fun e => h.p45 e)⟩
    · refine' wpOp_step (o := ?oHq_11) ?hoHq_11 (fun K hK => ?stHq_11)
      case hoHq_11 => rfl
      case stHq_11 =>
        have HK := Lib.hid hK; clear hK
        obtain rfl := HH.out.p9 (HWt.out 9 (by kernel_rfl))
        obtain rfl := HH.out.p10 (HWt.out 10 (by kernel_rfl))
        have q0 := bcellP HH.out.bel Fp0.out
        go_simp
        refine HK.out _ _ ⟨_, _, _, _, _, _, _, _, _, _, _, _, _, _, _, _, _, _, _, _, _, _, _, _, _, _, _, _, _, _, _, _, _, _, _, _, _, _, _, _, _, _, _, _, _, _, rfl, ?_⟩
        have h := HH.out
        exact ⟨h.bel, (fun e => h.p0 e), (fun e => h.p1 e), (fun e => h.p2 e), (fun e => h.p3 e), (fun e => h.p4 e), (fun e => h.p5 e), (fun e => h.p6 e), (fun e => h.p7 e), (fun e => h.p8 e), (fun e => h.p9 e), (fun e => h.p10 e), (fun _ => rfl), (fun e => h.p12 e), (fun e => h.p13 e), (fun e => h.p14 e), (fun e => h.p15 e), (fun e => h.p16 e), (fun e => h.p17 e), (fun e => h.p18 e), (fun e => h.p19 e), (fun e => h.p20 e), (fun e => h.p21 e), (fun e => h.p22 e), (fun e => h.p23 e), (fun e => h.p24 e), (fun e => h.p25 e), (fun e => h.p26 e), (fun e => h.p27 e), (fun e => h.p28 e), (fun e => h.p29 e), (fun e => h.p30 e), (fun e => h.p31 e), (fun e => h.p32 e), (fun e => h.p33 e), (fun e => h.p34 e), (fun e => h.p35 e), (fun e => h.p36 e), (fun e => h.p37 e), (fun e => h.p38 e), (fun e => h.p39 e), (fun e => h.p40 e), (fun e => h.p41 e), (fun e => h.p42 e), (fun e => h.p43 e), (fun e => h.p44 e), (fun e => h.p45 e)⟩
    · refine' wpOp_step (o := ?oHq_12) ?hoHq_12 (fun K hK => ?stHq_12)
      case hoHq_12 => rfl
      case stHq_12 =>
        have HK := Lib.hid hK; clear hK
        obtain rfl := HH.out.p9 (HWt.out 9 (by kernel_rfl))
        go_simp
        refine HK.out _ _ ⟨_, _, _, _, _, _, _, _, _, _, _, _, _, _, _, _, _, _, _, _, _, _, _, _, _, _, _, _, _, _, _, _, _, _, _, _, _, _, _, _, _, _, _, _, _, _, rfl, ?_⟩
        have h := HH.out
        exact ⟨h.bel, (fun e => h.p0 e), (fun e => h.p1 e), (fun e => h.p2 e), (fun e => h.p3 e), (fun e => h.p4 e), (fun e => h.p5 e), (fun e => h.p6 e), (fun e => h.p7 e), (fun e => h.p8 e), (fun e => h.p9 e), (fun e => h.p10 e), (fun e => h.p11 e), (fun _ => rfl), (fun e => h.p13 e), (fun e => h.p14 e), (fun e => h.p15 e), (fun e => h.p16 e), (fun e => h.p17 e), (fun e => h.p18 e), (fun e => h.p19 e), (fun e => h.p20 e), (fun e => h.p21 e), (fun e => h.p22 e), (fun e => h.p23 e), (fun e => h.p24 e), (fun e => h.p25 e), (fun e => h.p26 e), (fun e => h.p27 e), (fun e => h.p28 e), (fun e => h.p29 e), (fun e => h.p30 e), (fun e => h.p31 e), (fun e => h.p32 e), (fun e => h.p33 e), (fun e => h.p34 e), (fun e => h.p35 e), (fun e => h.p36 e), (fun e => h.p37 e), (fun e => h.p38 e), (fun e => h.p39 e), (fun e => h.p40 e), (fun e => h.p41 e), (fun e => h.p42 e), (fun e => h.p43 e), (fun e => h.p44 e), (fun e => h.p45 e)⟩
    · refine' wpOp_step (o := ?oHq_13) ?hoHq_13 (fun K hK => ?stHq_13)
      case hoHq_13 => rfl
      case stHq_13 =>
        have HK := Lib.hid hK; clear hK
        obtain rfl := HH.out.p9 (HWt.out 9 (by kernel_rfl))
        obtain rfl := HH.out.p12 (HWt.out 12 (by kernel_rfl))
        go_simp
        refine HK.out _ _ ⟨_, _, _, _, _, _, _, _, _, _, _, _, _, _, _, _, _, _, _, _, _, _, _, _, _, _, _, _, _, _, _, _, _, _, _, _, _, _, _, _, _, _, _, _, _, _, rfl, ?_⟩
        have h := HH.out
        exact ⟨h.bel, (fun e => h.p0 e), (fun e => h.p1 e), (fun e => h.p2 e), (fun e => h.p3 e), (fun e => h.p4 e), (fun e => h.p5 e), (fun e => h.p6 e), (fun e => h.p7 e), (fun e => h.p8 e), (fun e => h.p9 e), (fun e => h.p10 e), (fun e => h.p11 e), (fun e => h.p12 e), (fun _ => rfl), (fun e => h.p14 e), (fun e => h.p15 e), (fun e => h.p16 e), (fun e => h.p17 e), (fun e => h.p18 e), (fun e => h.p19 e), (fun e => h.p20 e), (fun e => h.p21 e), (fun e => h.p22 e), (fun e => h.p23 e), (fun e => h.p24 e), (fun e => h.p25 e), (fun e => h.p26 e), (fun e => h.p27 e), (fun e => h.p28 e), (fun e => h.p29 e), (fun e => h.p30 e), (fun e => h.p31 e), (fun e => h.p32 e), (fun e => h.p33 e), (fun e => h.p34 e), (fun e => h.p35 e), (fun e => h.p36 e), (fun e => h.p37 e), (fun e => h.p38 e), (fun e => h.p39 e), (fun e => h.p40 e), (fun e => h.p41 e), (fun e => h.p42 e), (fun e => h.p43 e), (fun e => h.p44 e), (fun e => h.p45 e)⟩
    · refine' wpOp_step (o := ?oHq_14) ?hoHq_14 (fun K hK => ?stHq_14)
      case hoHq_14 => rfl
      case stHq_14 =>
        have HK := Lib.hid hK; clear hK
        obtain rfl := HH.out.p9 (HWt.out 9 (by kernel_rfl))
        obtain rfl := HH.out.p13 (HWt.out 13 (by kernel_rfl))
        go_simp
        refine HK.out _ _ ⟨_, _, _, _, _, _, _, _, _, _, _, _, _, _, _, _, _, _, _, _, _, _, _, _, _, _, _, _, _, _, _, _, _, _, _, _, _, _, _, _, _, _, _, _, _, _, rfl, ?_⟩
        have h := HH.out
        exact ⟨h.bel, (fun e => h.p0 e), (fun e => h.p1 e), (fun e => h.p2 e), (fun e => h.p3 e), (fun e => h.p4 e), (fun e => h.p5 e), (fun e => h.p6 e), (fun e => h.p7 e), (fun e => h.p8 e), (fun e => h.p9 e), (fun e => h.p10 e), (fun e => h.p11 e), (fun e => h.p12 e), (fun e => h.p13 e), (fun _ => rfl), (fun e => h.p15 e), (fun e => h.p16 e), (fun e => h.p17 e), (fun e => h.p18 e), (fun e => h.p19 e), (fun e => h.p20 e), (fun e => h.p21 e), (fun e => h.p22 e), (fun e => h.p23 e), (fun e => h.p24 e), (fun e => h.p25 e), (fun e => h.p26 e), (fun e => h.p27 e), (fun e => h.p28 e), (fun e => h.p29 e), (fun e => h.p30 e), (fun e => h.p31 e), (fun e => h.p32 e), (fun e => h.p33 e), (fun e => h.p34 e), (fun e => h.p35 e), (fun e => h.p36 e), (fun e => h.p37 e), (fun e => h.p38 e), (fun e => h.p39 e), (fun e => h.p40 e), (fun e => h.p41 e), (fun e => h.p42 e), (fun e => h.p43 e), (fun e => h.p44 e), (fun e => h.p45 e)⟩
    · refine' wpOp_step (o := ?oHq_15) ?hoHq_15 (fun K hK => ?stHq_15)
      case hoHq_15 => rfl
      case stHq_15 =>
        have HK := Lib.hid hK; clear hK
        obtain rfl := HH.out.p9 (HWt.out 9 (by kernel_rfl))
        obtain rfl := HH.out.p14 (HWt.out 14 (by kernel_rfl))
        have q0 := bcellP HH.out.bel Fa0.out
        go_simp
        refine HK.out _ _ ⟨_, _, _, _, _, _, _, _, _, _, _, _, _, _, _, _, _, _, _, _, _, _, _, _, _, _, _, _, _, _, _, _, _, _, _, _, _, _, _, _, _, _, _, _, _, _, rfl, ?_⟩
        have h := HH.out
        exact ⟨h.bel, (fun e => h.p0 e), (fun e => h.p1 e), (fun e => h.p2 e), (fun e => h.p3 e), (fun e => h.p4 e), (fun e => h.p5 e), (fun e => h.p6 e), (fun e => h.p7 e), (fun e => h.p8 e), (fun e => h.p9 e), (fun e => h.p10 e), (fun e => h.p11 e), (fun e => h.p12 e), (fun e => h.p13 e), (fun e => h.p14 e), (fun _ => rfl), (fun e => h.p16 e), (fun e => h.p17 e), (fun e => h.p18 e), (fun e => h.p19 e), (fun e => h.p20 e), (fun e => h.p21 e), (fun e => h.p22 e), (fun e => h.p23 e), (fun e => h.p24 e), (fun e => h.p25 e), (fun e => h.p26 e), (fun e => h.p27 e), (fun e => h.p28 e), (fun e => h.p29 e), (fun e => h.p30 e), (fun e => h.p31 e), (fun e => h.p32 e), (fun e => h.p33 e), (fun e => h.p34 e), (fun e => h.p35 e), (fun e => h.p36 e), (fun e => h.p37 e), (fun e => h.p38 e), (fun e => h.p39 e), (fun e => h.p40 e), (fun e => h.p41 e), (fun e => h.p42 e), (fun e => h.p43 e), (fun e => h.p44 e), (fun e => h.p45 e)⟩
    · refine' wpOp_step (o := ?oHq_16) ?hoHq_16 (fun K hK => ?stHq_16)
      case hoHq_16 => rfl
      case stHq_16 =>
        have HK := Lib.hid hK; clear hK
        obtain rfl := HH.out.p9 (HWt.out 9 (by kernel_rfl))
        obtain rfl := HH.out.p11 (HWt.out 11 (by kernel_rfl))
        obtain rfl := HH.out.p15 (HWt.out 15 (by kernel_rfl))
        go_simp
        refine HK.out _ _ ⟨_, _, _, _, _, _, _, _, _, _, _, _, _, _, _, _, _, _, _, _, _, _, _, _, _, _, _, _, _, _, _, _, _, _, _, _, _, _, _, _, _, _, _, _, _, _, rfl, ?_⟩
        have h := HH.out
        exact ⟨h.bel, (fun e => h.p0 e), (fun e => h.p1 e), (fun e => h.p2 e), (fun e => h.p3 e), (fun e => h.p4 e), (fun e => h.p5 e), (fun e => h.p6 e), (fun e => h.p7 e), (fun e => h.p8 e), (fun e => h.p9 e), (fun e => h.p10 e), (fun e => h.p11 e), (fun e => h.p12 e), (fun e => h.p13 e), (fun e => h.p14 e), (fun e => h.p15 e), (fun _ => rfl), (fun e => h.p17 e), (fun e => h.p18 e), (fun e => h.p19 e), (fun e => h.p20 e), (fun e => h.p21 e), (fun e => h.p22 e), (fun e => h.p23 e), (fun e => h.p24 e), (fun e => h.p25 e), (fun e => h.p26 e), (fun e => h.p27 e), (fun e => h.p28 e), (fun e => h.p29 e), (fun e => h.p30 e), (fun e => h.p31 e), (fun e => h.p32 e), (fun e => h.p33 e), (fun e => h.p34 e), (fun e => h.p35 e), (fun e => h.p36 e), (fun e => h.p37 e), (fun e => h.p38 e), (fun e => h.p39 e), (fun e => h.p40 e), (fun e => h.p41 e), (fun e => h.p42 e), (fun e => h.p43 e), (fun e => h.p44 e), (fun e => h.p45 e)⟩
    · refine' wpOp_step (o := ?oHq_17) ?hoHq_17 (fun K hK => ?stHq_17)
      case hoHq_17 => rfl
      case stHq_17 =>
        have HK := Lib.hid hK; clear hK
        obtain rfl := HH.out.p9 (HWt.out 9 (by kernel_rfl))
        go_simp
        refine HK.out _ _ ⟨_, _, _, _, _, _, _, _, _, _, _, _, _, _, _, _, _, _, _, _, _, _, _, _, _, _, _, _, _, _, _, _, _, _, _, _, _, _, _, _, _, _, _, _, _, _, rfl, ?_⟩
        have h := HH.out
        exact ⟨h.bel, (fun e => h.p0 e), (fun e => h.p1 e), (fun e => h.p2 e), (fun e => h.p3 e), (fun e => h.p4 e), (fun e => h.p5 e), (fun e => h.p6 e), (fun e => h.p7 e), (fun e => h.p8 e), (fun e => h.p9 e), (fun e => h.p10 e), (fun e => h.p11 e), (fun e => h.p12 e), (fun e => h.p13 e), (fun e => h.p14 e), (fun e => h.p15 e), (fun e => h.p16 e), (fun _ => rfl), (fun e => h.p18 e), (fun e => h.p19 e), (fun e => h.p20 e), (fun e => h.p21 e), (fun e => h.p22 e), (fun e => h.p23 e), (fun e => h.p24 e), (fun e => h.p25 e), (fun e => h.p26 e), (fun e => h.p27 e), (fun e => h.p28 e), (fun e => h.p29 e), (fun e => h.p30 e), (fun e => h.p31 e), (fun e => h.p32 e), (fun e => h.p33 e), (fun e => h.p34 e), (fun e => h.p35 e), (fun e => h.p36 e), (fun e => h.p37 e), (fun e => h.p38 e), (fun e => h.p39 e), (fun e => h.p40 e), (fun e => h.p41 e), (fun e => h.p42 e), (fun e => h.p43 e), (fun e => h.p44 e), (fun e => h.p45 e)⟩
    · refine' wpOp_step (o := ?oHq_18) ?hoHq_18 (fun K hK => ?stHq_18)
      case hoHq_18 => rfl
      case stHq_18 =>
        have HK := Lib.hid hK; clear hK
        obtain rfl := HH.out.p9 (HWt.out 9 (by kernel_rfl))
        obtain rfl := HH.out.p17 (HWt.out 17 (by kernel_rfl))
        have q0 := bcellP HH.out.bel Fp0.out
        go_simp
        refine HK.out _ _ ⟨_, _, _, _, _, _, _, _, _, _, _, _, _, _, _, _, _, _, _, _, _, _, _, _, _, _, _, _, _, _, _, _, _, _, _, _, _, _, _, _, _, _, _, _, _, _, rfl, ?_⟩
        have h := HH.out
        exact ⟨h.bel, (fun e => h.p0 e), (fun e => h.p1 e), (fun e => h.p2 e), (fun e => h.p3 e), (fun e => h.p4 e), (fun e => h.p5 e), (fun e => h.p6 e), (fun e => h.p7 e), (fun e => h.p8 e), (fun e => h.p9 e), (fun e => h.p10 e), (fun e => h.p11 e), (fun e => h.p12 e), (fun e => h.p13 e), (fun e => h.p14 e), (fun e => h.p15 e), (fun e => h.p16 e), (fun e => h.p17 e), (fun _ => rfl), (fun e => h.p19 e), (fun e => h.p20 e), (fun e => h.p21 e), (fun e => h.p22 e), (fun e => h.p23 e), (fun e => h.p24 e), (fun e => h.p25 e), (fun e => h.p26 e), (fun e => h.p27 e), (fun e => h.p28 e), (fun e => h.p29 e), (fun e => h.p30 e), (fun e => h.p31 e), (fun e => h.p32 e), (fun e => h.p33 e), (fun e => h.p34 e), (fun e => h.p35 e), (fun e => h.p36 e), (fun e => h.p37 e), (fun e => h.p38 e), (fun e => h.p39 e), (fun e => h.p40 e), (fun e => h.p41 e), (fun e => h.p42 e), (fun e => h.p43 e), (fun e => h.p44 e), (fun e => h.p45 e)⟩
    · refine' wpOp_step (o := ?oHq_19) ?hoHq_19 (fun K hK => ?stHq_19)
      case hoHq_19 => rfl
      case stHq_19 =>
        have HK := Lib.hid hK; clear hK
        obtain rfl := HH.out.p9 (HWt.out 9 (by kernel_rfl))
        go_simp
        refine HK.out _ _ ⟨_, _, _, _, _, _, _, _, _, _, _, _, _, _, _, _, _, _, _, _, _, _, _, _, _, _, _, _, _, _, _, _, _, _, _, _, _, _, _, _, _, _, _, _, _, _, rfl, ?_⟩
        have h := HH.out
        exact ⟨h.bel, (fun e => h.p0 e), (fun e => h.p1 e), (fun e => h.p2 e), (fun e => h.p3 e), (fun e => h.p4 e), (fun e => h.p5 e), (fun e => h.p6 e), (fun e => h.p7 e), (fun e => h.p8 e), (fun e => h.p9 e), (fun e => h.p10 e), (fun e => h.p11 e), (fun e => h.p12 e), (fun e => h.p13 e), (fun e => h.p14 e), (fun e => h.p15 e), (fun e => h.p16 e), (fun e => h.p17 e), (fun e => h.p18 e), (fun _ => rfl), (fun e => h.p20 e), (fun e => h.p21 e), (fun e => h.p22 e), (fun e => h.p23 e), (fun e => h.p24 e), (fun e => h.p25 e), (fun e => h.p26 e), (fun e => h.p27 e), (fun e => h.p28 e), (fun e => h.p29 e), (fun e => h.p30 e), (fun e => h.p31 e), (fun e => h.p32 e), (fun e => h.p33 e), (fun e => h.p34 e), (fun e => h.p35 e), (fun e => h.p36 e), (fun e => h.p37 e), (fun e => h.p38 e), (fun e => h.p39 e), (fun e => h.p40 e), (fun e => h.p41 e), (fun e => h.p42 e), (fun e => h.p43 e), (fun e => h.p44 e), (fun e => h.p45 e)⟩
    · refine' wpOp_step (o := ?oHq_20) ?hoHq_20 (fun K hK => ?stHq_20)
      case hoHq_20 => rfl
      case stHq_20 =>
        have HK := Lib.hid hK; clear hK
        obtain rfl := HH.out.p9 (HWt.out 9 (by kernel_rfl))
        obtain rfl := HH.out.p19 (HWt.out 19 (by kernel_rfl))
        go_simp
        refine HK.out _ _ ⟨_, _, _, _, _, _, _, _, _, _, _, _, _, _, _, _, _, _, _, _, _, _, _, _, _, _, _, _, _, _, _, _, _, _, _, _, _, _, _, _, _, _, _, _, _, _, rfl, ?_⟩
        have h := HH.out
        exact ⟨h.bel, (fun e => h.p0 e), (fun e => h.p1 e), (fun e => h.p2 e), (fun e => h.p3 e), (fun e => h.p4 e), (fun e => h.p5 e), (fun e => h.p6 e), (fun e => h.p7 e), (fun e => h.p8 e), (fun e => h.p9 e), (fun e => h.p10 e), (fun e => h.p11 e), (fun e => h.p12 e), (fun e => h.p13 e), (fun e => h.p14 e), (fun e => h.p15 e), (fun e => h.p16 e), (fun e => h.p17 e), (fun e => h.p18 e), (fun e => h.p19 e), (fun _ => rfl), (fun e => h.p21 e), (fun e => h.p22 e), (fun e => h.p23 e), (fun e => h.p24 e), (fun e => h.p25 e), (fun e => h.p26 e), (fun e => h.p27 e), (fun e => h.p28 e), (fun e => h.p29 e), (fun e => h.p30 e), (fun e => h.p31 e), (fun e => h.p32 e), (fun e => h.p33 e), (fun e => h.p34 e), (fun e => h.p35 e), (fun e => h.p36 e), (fun e => h.p37 e), (fun e => h.p38 e), (fun e => h.p39 e), (fun e => h.p40 e), (fun e => h.p41 e), (fun e => h.p42 e), (fun e => h.p43 e), (fun e => h.p44 e), (fun e => h.p45 e)⟩
    · refine' wpOp_step (o := ?oHq_21) ?hoHq_21 (fun K hK => ?stHq_21)
      case hoHq_21 => rfl
      case stHq_21 =>
        have HK := Lib.hid hK; clear hK
        obtain rfl := HH.out.p9 (HWt.out 9 (by kernel_rfl))
        obtain rfl := HH.out.p20 (HWt.out 20 (by kernel_rfl))
        go_simp
        refine HK.out _ _ ⟨_, _, _, _, _, _, _, _, _, _, _, _, _, _, _, _, _, _, _, _, _, _, _, _, _, _, _, _, _, _, _, _, _, _, _, _, _, _, _, _, _, _, _, _, _, _, rfl, ?_⟩
        have h := HH.out
        exact ⟨h.bel, (fun e => h.p0 e), (fun e => h.p1 e), (fun e => h.p2 e), (fun e => h.p3 e), (fun e => h.p4 e), (fun e => h.p5 e), (fun e => h.p6 e), (fun e => h.p7 e), (fun e => h.p8 e), (fun e => h.p9 e), (fun e => h.p10 e), (fun e => h.p11 e), (fun e => h.p12 e), (fun e => h.p13 e), (fun e => h.p14 e), (fun e => h.p15 e), (fun e => h.p16 e), (fun e => h.p17 e), (fun e => h.p18 e), (fun e => h.p19 e), (fun e => h.p20 e), (fun _ => rfl), (fun e => h.p22 e), (fun e => h.p23 e), (fun e => h.p24 e), (fun e => h.p25 e), (fun e => h.p26 e), (fun e => h.p27 e), (fun e => h.p28 e), (fun e => h.p29 e), (fun e => h.p30 e), (fun e => h.p31 e), (fun e => h.p32 e), (fun e => h.p33 e), (fun e => h.p34 e), (fun e => h.p35 e), (fun e => h.p36 e), (fun e => h.p37 e), (fun e => h.p38 e), (fun e => h.p39 e), (fun e => h.p40 e), (fun e => h.p41 e), (fun e => h.p42 e), (fun e => h.p43 e), (fun e => h.p44 e), (fun e => h.p45 e)⟩
    · refine' wpOp_step (o := ?oHq_22) ?hoHq_22 (fun K hK => ?stHq_22)
      case hoHq_22 => rfl
      case stHq_22 =>
        have HK := Lib.hid hK; clear hK
        obtain rfl := HH.out.p9 (HWt.out 9 (by kernel_rfl))
        obtain rfl := HH.out.p21 (HWt.out 21 (by kernel_rfl))
        have q0 := bcellP HH.out.bel Fc0.out
        go_simp
        refine HK.out _ _ ⟨_, _, _, _, _, _, _, _, _, _, _, _, _, _, _, _, _, _, _, _, _, _, _, _, _, _, _, _, _, _, _, _, _, _, _, _, _, _, _, _, _, _, _, _, _, _, rfl, ?_⟩
        have h := HH.out
        exact ⟨h.bel, (fun e => h.p0 e), (fun e => h.p1 e), (fun e => h.p2 e), (fun e => h.p3 e), (fun e => h.p4 e), (fun e => h.p5 e), (fun e => h.p6 e), (fun e => h.p7 e), (fun e => h.p8 e), (fun e => h.p9 e), (fun e => h.p10 e), (fun e => h.p11 e), (fun e => h.p12 e), (fun e => h.p13 e), (fun e => h.p14 e), (fun e => h.p15 e), (fun e => h.p16 e), (fun e => h.p17 e), (fun e => h.p18 e), (fun e => h.p19 e), (fun e => h.p20 e), (fun e => h.p21 e), (fun _ => rfl), (fun e => h.p23 e), (fun e => h.p24 e), (fun e => h.p25 e), (fun e => h.p26 e), (fun e => h.p27 e), (fun e => h.p28 e), (fun e => h.p29 e), (fun e => h.p30 e), (fun e => h.p31 e), (fun e => h.p32 e), (fun e => h.p33 e), (fun e => h.p34 e), (fun e => h.p35 e), (fun e => h.p36 e), (fun e => h.p37 e), (fun e => h.p38 e), (fun e => h.p39 e), (fun e => h.p40 e), (fun e => h.p41 e), (fun e => h.p42 e), (fun e => h.p43 e), (fun e => h.p44 e), (fun e => h.p45 e)⟩
    · refine' wpOp_step (o := ?oHq_23) ?hoHq_23 (fun K hK => ?stHq_23)
      case hoHq_23 => rfl
      case stHq_23 =>
        have HK := Lib.hid hK; clear hK
        obtain rfl := HH.out.p9 (HWt.out 9 (by kernel_rfl))
        obtain rfl := HH.out.p18 (HWt.out 18 (by kernel_rfl))
        obtain rfl := HH.out.p22 (HWt.out 22 (by kernel_rfl))
        go_simp
        refine HK.out _ _ ⟨_, _, _, _, _, _, _, _, _, _, _, _, _, _, _, _, _, _, _, _, _, _, _, _, _, _, _, _, _, _, _, _, _, _, _, _, _, _, _, _, _, _, _, _, _, _, rfl, ?_⟩
        have h := HH.out
        exact ⟨h.bel, (fun e => h.p0 e), (fun e => h.p1 e), (fun e => h.p2 e), (fun e => h.p3 e), (fun e => h.p4 e), (fun e => h.p5 e), (fun e => h.p6 e), (fun e => h.p7 e), (fun e => h.p8 e), (fun e => h.p9 e), (fun e => h.p10 e), (fun e => h.p11 e), (fun e => h.p12 e), (fun e => h.p13 e), (fun e => h.p14 e), (fun e => h.p15 e), (fun e => h.p16 e), (fun e => h.p17 e), (fun e => h.p18 e), (fun e => h.p19 e), (fun e => h.p20 e), (fun e => h.p21 e), (fun e => h.p22 e), (fun _ => rfl), (fun e => h.p24 e), (fun e => h.p25 e), (fun e => h.p26 e), (fun e => h.p27 e), (fun e => h.p28 e), (fun e => h.p29 e), (fun e => h.p30 e), (fun e => h.p31 e), (fun e => h.p32 e), (fun e => h.p33 e), (fun e => h.p34 e), (fun e => h.p35 e), (fun e => h.p36 e), (fun e => h.p37 e), (fun e => h.p38 e), (fun e => h.p39 e), (fun e => h.p40 e), (fun e => h.p41 e), (fun e => h.p42 e), (fun e => h.p43 e), (fun e => h.p44 e), (fun e => h.p45 e)⟩
    · refine' wpOp_step (o := ?oHq_24) ?hoHq_24 (fun K hK => ?stHq_24)
      case hoHq_24 => rfl
      case stHq_24 =>
        have HK := Lib.hid hK; clear hK
        obtain rfl := HH.out.p9 (HWt.out 9 (by kernel_rfl))
        obtain rfl := HH.out.p16 (HWt.out 16 (by kernel_rfl))
        obtain rfl := HH.out.p23 (HWt.out 23 (by kernel_rfl))
        go_simp
        refine HK.out _ _ ⟨_, _, _, _, _, _, _, _, _, _, _, _, _, _, _, _, _, _, _, _, _, _, _, _, _, _, _, _, _, _, _, _, _, _, _, _, _, _, _, _, _, _, _, _, _, _, rfl, ?_⟩
        have h := HH.out
        exact ⟨h.bel, (fun e => h.p0 e), (fun e => h.p1 e), (fun e => h.p2 e), (fun e => h.p3 e), (fun e => h.p4 e), (fun e => h.p5 e), (fun e => h.p6 e), (fun e => h.p7 e), (fun e => h.p8 e), (fun e => h.p9 e), (fun e => h.p10 e), (fun e => h.p11 e), (fun e => h.p12 e), (fun e => h.p13 e), (fun e => h.p14 e), (fun e => h.p15 e), (fun e => h.p16 e), (fun e => h.p17 e), (fun e => h.p18 e), (fun e => h.p19 e), (fun e => h.p20 e), (fun e => h.p21 e), (fun e => h.p22 e), (fun e => h.p23 e), (fun _ => rfl), (fun e => h.p25 e), (fun e => h.p26 e), (fun e => h.p27 e), (fun e => h.p28 e), (fun e => h.p29 e), (fun e => h.p30 e), (fun e => h.p31 e), (fun e => h.p32 e), (fun e => h.p33 e), (fun e => h.p34 e), (fun e => h.p35 e), (fun e => h.p36 e), (fun e => h.p37 e), (fun e => h.p38 e), (fun e => h.p39 e), (fun e => h.p40 e), (fun e => h.p41 e), (fun e => h.p42 e), (fun e => h.p43 e), (fun e => h.p44 e), (fun e => h.p45 e)⟩
    · refine' wpOp_step (o := ?oHq_25) ?hoHq_25 (fun K hK => ?stHq_25)
      case hoHq_25 => rfl
      case stHq_25 =>
        have HK := Lib.hid hK; clear hK
        obtain rfl := HH.out.p9 (HWt.out 9 (by kernel_rfl))
        obtain rfl := HH.out.p24 (HWt.out 24 (by kernel_rfl))
        go_simp
        refine HK.out _ _ ⟨_, _, _, _, _, _, _, _, _, _, _, _, _, _, _, _, _, _, _, _, _, _, _, _, _, _, _, _, _, _, _, _, _, _, _, _, _, _, _, _, _, _, _, _, _, _, rfl, ?_⟩
        have h := HH.out
        exact ⟨h.bel, (fun e => h.p0 e), (fun e => h.p1 e), (fun e => h.p2 e), (fun e => h.p3 e), (fun e => h.p4 e), (fun e => h.p5 e), (fun e => h.p6 e), (fun e => h.p7 e), (fun e => h.p8 e), (fun e => h.p9 e), (fun e => h.p10 e), (fun e => h.p11 e), (fun e => h.p12 e), (fun e => h.p13 e), (fun e => h.p14 e), (fun e => h.p15 e), (fun e => h.p16 e), (fun e => h.p17 e), (fun e => h.p18 e), (fun e => h.p19 e), (fun e => h.p20 e), (fun e => h.p21 e), (fun e => h.p22 e), (fun e => h.p23 e), (fun e => h.p24 e), (fun _ => rfl), (fun e => h.p26 e), (fun e => h.p27 e), (fun e => h.p28 e), (fun e => h.p29 e), (fun e => h.p30 e), (fun e => h.p31 e), (fun e => h.p32 e), (fun e => h.p33 e), (fun e => h.p34 e), (fun e => h.p35 e), (fun e => h.p36 e), (fun e => h.p37 e), (fun e => h.p38 e), (fun e => h.p39 e), (fun e => h.p40 e), (fun e => h.p41 e), (fun e => h.p42 e), (fun e => h.p43 e), (fun e => h.p44 e), (fun e => h.p45 e)⟩
    · refine' wpOp_step (o := ?oHq_26) ?hoHq_26 (fun K hK => ?stHq_26)
      case hoHq_26 => rfl
      case stHq_26 =>
        have HK := Lib.hid hK; clear hK
        obtain rfl := HH.out.p9 (HWt.out 9 (by kernel_rfl))
        obtain rfl := HH.out.p25 (HWt.out 25 (by kernel_rfl))
        go_simp
        refine HK.out _ _ ⟨_, _, _, _, _, _, _, _, _, _, _, _, _, _, _, _, _, _, _, _, _, _, _, _, _, _, _, _, _, _, _, _, _, _, _, _, _, _, _, _, _, _, _, _, _, _, rfl, ?_⟩
        have h := HH.out
        exact ⟨h.bel, (fun e => h.p0 e), (fun e => h.p1 e), (fun e => h.p2 e), (fun e => h.p3 e), (fun e => h.p4 e), (fun e => h.p5 e), (fun e => h.p6 e), (fun e => h.p7 e), (fun e => h.p8 e), (fun e => h.p9 e), (fun e => h.p10 e), (fun e => h.p11 e), (fun e => h.p12 e), (fun e => h.p13 e), (fun e => h.p14 e), (fun e => h.p15 e), (fun e => h.p16 e), (fun e => h.p17 e), (fun e => h.p18 e), (fun e => h.p19 e), (fun e => h.p20 e), (fun e => h.p21 e), (fun e => h.p22 e), (fun e => h.p23 e), (fun e => h.p24 e), (fun e => h.p25 e), (fun _ => rfl), (fun e => h.p27 e), (fun e => h.p28 e), (fun e => h.p29 e), (fun e => h.p30 e), (fun e => h.p31 e), (fun e => h.p32 e), (fun e => h.p33 e), (fun e => h.p34 e), (fun e => h.p35 e), (fun e => h.p36 e), (fun e => h.p37 e), (fun e => h.p38 e), (fun e => h.p39 e), (fun e => h.p40 e), (fun e => h.p41 e), (fun e => h.p42 e), (fun e => h.p43 e), (fun e => h.p44 e), (fun e => h.p45 e)⟩
    · refine' wpOp_step (o := ?oHq_27) ?hoHq_27 (fun K hK => ?stHq_27)
      case hoHq_27 => rfl
      case stHq_27 =>
        have HK := Lib.hid hK; clear hK
        obtain rfl := HH.out.p26 (HWt.out 26 (by kernel_rfl))
        go_simp
        refine HK.out _ _ ⟨_, _, _, _, _, _, _, _, _, _, _, _, _, _, _, _, _, _, _, _, _, _, _, _, _, _, _, _, _, _, _, _, _, _, _, _, _, _, _, _, _, _, _, _, _, _, rfl, ?_⟩
        have h := HH.out
        exact ⟨h.bel, (fun e => h.p0 e), (fun e => h.p1 e), (fun e => h.p2 e), (fun e => h.p3 e), (fun e => h.p4 e), (fun e => h.p5 e), (fun e => h.p6 e), (fun e => h.p7 e), (fun e => h.p8 e), (fun e => h.p9 e), (fun e => h.p10 e), (fun e => h.p11 e), (fun e => h.p12 e), (fun e => h.p13 e), (fun e => h.p14 e), (fun e => h.p15 e), (fun e => h.p16 e), (fun e => h.p17 e), (fun e => h.p18 e), (fun e => h.p19 e), (fun e => h.p20 e), (fun e => h.p21 e), (fun e => h.p22 e), (fun e => h.p23 e), (fun e => h.p24 e), (fun e => h.p25 e), (fun e => h.p26 e), (fun _ => rfl), (fun e => h.p28 e), (fun e => h.p29 e), (fun e => h.p30 e), (fun e => h.p31 e), (fun e => h.p32 e), (fun e => h.p33 e), (fun e => h.p34 e), (fun e => h.p35 e), (fun e => h.p36 e), (fun e => h.p37 e), (fun e => h.p38 e), (fun e => h.p39 e), (fun e => h.p40 e), (fun e => h.p41 e), (fun e => h.p42 e), (fun e => h.p43 e), (fun e => h.p44 e), (fun e => h.p45 e)⟩
    · refine' wpOp_step (o := ?oHq_28) ?hoHq_28 (fun K hK => ?stHq_28)
      case hoHq_28 => rfl
      case stHq_28 =>
        have HK := Lib.hid hK; clear hK
        obtain rfl := HH.out.p27 (HWt.out 27 (by kernel_rfl))
        go_simp
        refine HK.out _ _ ⟨_, _, _, _, _, _, _, _, _, _, _, _, _, _, _, _, _, _, _, _, _, _, _, _, _, _, _, _, _, _, _, _, _, _, _, _, _, _, _, _, _, _, _, _, _, _, rfl, ?_⟩
        have h := HH.out
        exact ⟨h.bel, (fun e => h.p0 e), (fun e => h.p1 e), (fun e => h.p2 e), (fun e => h.p3 e), (fun e => h.p4 e), (fun e => h.p5 e), (fun e => h.p6 e), (fun e => h.p7 e), (fun e => h.p8 e), (fun e => h.p9 e), (fun e => h.p10 e), (fun e => h.p11 e), (fun e => h.p12 e), (fun e => h.p13 e), (fun e => h.p14 e), (fun e => h.p15 e), (fun e => h.p16 e), (fun e => h.p17 e), (fun e => h.p18 e), (fun e => h.p19 e), (fun e => h.p20 e), (fun e => h.p21 e), (fun e => h.p22 e), (fun e => h.p23 e), (fun e => h.p24 e), (fun e => h.p25 e), (fun e => h.p26 e), (fun e => h.p27 e), (fun _ => rfl), (fun e => h.p29 e), (fun e => h.p30 e), (fun e => h.p31 e), (fun e => h.p32 e), (fun e => h.p33 e), (fun e => h.p34 e), (fun e => h.p35 e), (fun e => h.p36 e), (fun e => h.p37 e), (fun e => h.p38 e), (fun e => h.p39 e), (fun e => h.p40 e), (fun e => h.p41 e), (fun e => h.p42 e), (fun e => h.p43 e), (fun e => h.p44 e), (fun e => h.p45 e)⟩
    · refine' wpOp_step (o := ?oHq_29) ?hoHq_29 (fun K hK => ?stHq_29)
      case hoHq_29 => rfl
      case stHq_29 =>
        have HK := Lib.hid hK; clear hK
        obtain rfl := HH.out.p27 (HWt.out 27 (by kernel_rfl))
        go_simp
        refine HK.out _ _ ⟨_, _, _, _, _, _, _, _, _, _, _, _, _, _, _, _, _, _, _, _, _, _, _, _, _, _, _, _, _, _, _, _, _, _, _, _, _, _, _, _, _, _, _, _, _, _, rfl, ?_⟩
        have h := HH.out
        exact ⟨h.bel, (fun e => h.p0 e), (fun e => h.p1 e), (fun e => h.p2 e), (fun e => h.p3 e), (fun e => h.p4 e), (fun e => h.p5 e), (fun e => h.p6 e), (fun e => h.p7 e), (fun e => h.p8 e), (fun e => h.p9 e), (fun e => h.p10 e), (fun e => h.p11 e), (fun e => h.p12 e), (fun e => h.p13 e), (fun e => h.p14 e), (fun e => h.p15 e), (fun e => h.p16 e), (fun e => h.p17 e), (fun e => h.p18 e), (fun e => h.p19 e), (fun e => h.p20 e), (fun e => h.p21 e), (fun e => h.p22 e), (fun e => h.p23 e), (fun e => h.p24 e), (fun e => h.p25 e), (fun e => h.p26 e), (fun e => h.p27 e), (fun e => h.p28 e), (fun _ => rfl), (fun e => h.p30 e), (fun e => h.p31 e), (fun e => h.p32 e), (fun e => h.p33 e), (fun e => h.p34 e), (fun e => h.p35 e), (fun e => h.p36 e), (fun e => h.p37 e), (fun e => h.p38 e), (fun e => h.p39 e), (fun e => h.p40 e), (fun e => h.p41 e), (fun e => h.p42 e), (fun e => h.p43 e), (fun e => h.p44 e), (fun e => h.p45 e)⟩
    · refine' wpOp_step (o := ?oHq_30) ?hoHq_30 (fun K hK => ?stHq_30)
      case hoHq_30 => rfl
      case stHq_30 =>
        have HK := Lib.hid hK; clear hK
        obtain rfl := HH.out.p27 (HWt.out 27 (by kernel_rfl))
        go_simp
        refine HK.out _ _ ⟨_, _, _, _, _, _, _, _, _, _, _, _, _, _, _, _, _, _, _, _, _, _, _, _, _, _, _, _, _, _, _, _, _, _, _, _, _, _, _, _, _, _, _, _, _, _, rfl, ?_⟩
        have h := HH.out
        exact ⟨h.bel, (fun e => h.p0 e), (fun e => h.p1 e), (fun e => h.p2 e), (fun e => h.p3 e), (fun e => h.p4 e), (fun e => h.p5 e), (fun e => h.p6 e), (fun e => h.p7 e), (fun e => h.p8 e), (fun e => h.p9 e), (fun e => h.p10 e), (fun e => h.p11 e), (fun e => h.p12 e), (fun e => h.p13 e), (fun e => h.p14 e), (fun e => h.p15 e), (fun e => h.p16 e), (fun e => h.p17 e), (fun e => h.p18 e), (fun e => h.p19 e), (fun e => h.p20 e), (fun e => h.p21 e), (fun e => h.p22 e), (fun e => h.p23 e), (fun e => h.p24 e), (fun e => h.p25 e), (fun e => h.p26 e), (fun e => h.p27 e), (fun e => h.p28 e), (fun e => h.p29 e), (fun _ => rfl), (fun e => h.p31 e), (fun e => h.p32 e), (fun e => h.p33 e), (fun e => h.p34 e), (fun e => h.p35 e), (fun e => h.p36 e), (fun e => h.p37 e), (fun e => h.p38 e), (fun e => h.p39 e), (fun e => h.p40 e), (fun e => h.p41 e), (fun e => h.p42 e), (fun e => h.p43 e), (fun e => h.p44 e), (fun e => h.p45 e)⟩
    · refine' wpOp_step (o := ?oHq_31) ?hoHq_31 (fun K hK => ?stHq_31)
      case hoHq_31 => rfl
      case stHq_31 =>
        have HK := Lib.hid hK; clear hK
        obtain rfl := HH.out.p27 (HWt.out 27 (by kernel_rfl))
        go_simp
        refine HK.out _ _ ⟨_, _, _, _, _, _, _, _, _, _, _, _, _, _, _, _, _, _, _, _, _, _, _, _, _, _, _, _, _, _, _, _, _, _, _, _, _, _, _, _, _, _, _, _, _, _, rfl, ?_⟩
        have h := HH.out
        exact ⟨h.bel, (fun e => h.p0 e), (fun e => h.p1 e), (fun e => h.p2 e), (fun e => h.p3 e), (fun e => h.p4 e), (fun e => h.p5 e), (fun e => h.p6 e), (fun e => h.p7 e), (fun e => h.p8 e), (fun e => h.p9 e), (fun e => h.p10 e), (fun e => h.p11 e), (fun e => h.p12 e), (fun e => h.p13 e), (fun e => h.p14 e), (fun e => h.p15 e), (fun e => h.p16 e), (fun e => h.p17 e), (fun e => h.p18 e), (fun e => h.p19 e), (fun e => h.p20 e), (fun e => h.p21 e), (fun e => h.p22 e), (fun e => h.p23 e), (fun e => h.p24 e), (fun e => h.p25 e), (fun e => h.p26 e), (fun e => h.p27 e), (fun e => h.p28 e), (fun e => h.p29 e), (fun e => h.p30 e), (fun _ => rfl), (fun e => h.p32 e), (fun e => h.p33 e), (fun e => h.p34 e), (fun e => h.p35 e), (fun e => h.p36 e), (fun e => h.p37 e), (fun e => h.p38 e), (fun e => h.p39 e), (fun e => h.p40 e), (fun e => h.p41 e), (fun e => h.p42 e), (fun e => h.p43 e), (fun e => h.p44 e), (fun e => h.p45 e)⟩
    · refine' wpOp_step (o := ?oHq_32) ?hoHq_32 (fun K hK => ?stHq_32)
      case hoHq_32 => rfl
      case stHq_32 =>
        have HK := Lib.hid hK; clear hK
        obtain rfl := HH.out.p27 (HWt.out 27 (by kernel_rfl))
        go_simp
        refine HK.out _ _ ⟨_, _, _, _, _, _, _, _, _, _, _, _, _, _, _, _, _, _, _, _, _, _, _, _, _, _, _, _, _, _, _, _, _, _, _, _, _, _, _, _, _, _, _, _, _, _, rfl, ?_⟩
        have h := HH.out
        exact ⟨h.bel, (fun e => h.p0 e), (fun e => h.p1 e), (fun e => h.p2 e), (fun e => h.p3 e), (fun e => h.p4 e), (fun e => h.p5 e), (fun e => h.p6 e), (fun e => h.p7 e), (fun e => h.p8 e), (fun e => h.p9 e), (fun e => h.p10 e), (fun e => h.p11 e), (fun e => h.p12 e), (fun e => h.p13 e), (fun e => h.p14 e), (fun e => h.p15 e), (fun e => h.p16 e), (fun e => h.p17 e), (fun e => h.p18 e), (fun e => h.p19 e), (fun e => h.p20 e), (fun e => h.p21 e), (fun e => h.p22 e), (fun e => h.p23 e), (fun e => h.p24 e), (fun e => h.p25 e), (fun e => h.p26 e), (fun e => h.p27 e), (fun e => h.p28 e), (fun e => h.p29 e), (fun e => h.p30 e), (fun e => h.p31 e), (fun _ => rfl), (fun e => h.p33 e), (fun e => h.p34 e), (fun e => h.p35 e), (fun e => h.p36 e), (fun e => h.p37 e), (fun e => h.p38 e), (fun e => h.p39 e), (fun e => h.p40 e), (fun e => h.p41 e), (fun e => h.p42 e), (fun e => h.p43 e), (fun e => h.p44 e), (fun e => h.p45 e)⟩
    · refine' wpOp_step (o := ?oHq_33) ?hoHq_33 (fun K hK => ?stHq_33)
      case hoHq_33 => rfl
      case stHq_33 =>
        have HK := Lib.hid hK; clear hK
        obtain rfl := HH.out.p27 (HWt.out 27 (by kernel_rfl))
        go_simp
        refine HK.out _ _ ⟨_, _, _, _, _, _, _, _, _, _, _, _, _, _, _, _, _, _, _, _, _, _, _, _, _, _, _, _, _, _, _, _, _, _, _, _, _, _, _, _, _, _, _, _, _, _, rfl, ?_⟩
        have h := HH.out
        exact ⟨h.bel, (fun e => h.p0 e), (fun e => h.p1 e), (fun e => h.p2 e), (fun e => h.p3 e), (fun e => h.p4 e), (fun e => h.p5 e), (fun e => h.p6 e), (fun e => h.p7 e), (fun e => h.p8 e), (fun e => h.p9 e), (fun e => h.p10 e), (fun e => h.p11 e), (fun e => h.p12 e), (fun e => h.p13 e), (fun e => h.p14 e), (fun e => h.p15 e), (fun e => h.p16 e), (fun e => h.p17 e), (fun e => h.p18 e), (fun e => h.p19 e), (fun e => h.p20 e), (fun e => h.p21 e), (fun e => h.p22 e), (fun e => h.p23 e), (fun e => h.p24 e), (fun e => h.p25 e), (fun e => h.p26 e), (fun e => h.p27 e), (fun e => h.p28 e), (fun e => h.p29 e), (fun e => h.p30 e), (fun e => h.p31 e), (fun e => h.p32 e), (fun _ => rfl), (fun e => h.p34 e), (fun e => h.p35 e), (fun e => h.p36 e), (fun e => h.p37 e), (fun e => h.p38 e), (fun e => h.p39 e), (fun e => h.p40 e), (fun e => h.p41 e), (fun e => h.p42 e), (fun e => h.p43 e), (fun e => h.p44 e), (fun e => h.p45 e)⟩
    · refine' wpOp_step (o := ?oHq_34) ?hoHq_34 (fun K hK => ?stHq_34)
      case hoHq_34 => rfl
      case stHq_34 =>
        have HK := Lib.hid hK; clear hK
        obtain rfl := HH.out.p27 (HWt.out 27 (by kernel_rfl))
        go_simp
        refine HK.out _ _ ⟨_, _, _, _, _, _, _, _, _, _, _, _, _, _, _, _, _, _, _, _, _, _, _, _, _, _, _, _, _, _, _, _, _, _, _, _, _, _, _, _, _, _, _, _, _, _, rfl, ?_⟩
        have h := HH.out
        exact ⟨h.bel, (fun e => h.p0 e), (fun e => h.p1 e), (fun e => h.p2 e), (fun e => h.p3 e), (fun e => h.p4 e), (fun e => h.p5 e), (fun e => h.p6 e), (fun e => h.p7 e), (fun e => h.p8 e), (fun e => h.p9 e), (fun e => h.p10 e), (fun e => h.p11 e), (fun e => h.p12 e), (fun e => h.p13 e), (fun e => h.p14 e), (fun e => h.p15 e), (fun e => h.p16 e), (fun e => h.p17 e), (fun e => h.p18 e), (fun e => h.p19 e), (fun e => h.p20 e), (fun e => h.p21 e), (fun e => h.p22 e), (fun e => h.p23 e), (fun e => h.p24 e), (fun e => h.p25 e), (fun e => h.p26 e), (fun e => h.p27 e), (fun e => h.p28 e), (fun e => h.p29 e), (fun e => h.p30 e), (fun e => h.p31 e), (fun e => h.p32 e), (fun e => h.p33 e), (fun _ => rfl), (fun e => h.p35 e), (fun e => h.p36 e), (fun e => h.p37 e), (fun e => h.p38 e), (fun e => h.p39 e), (fun e => h.p40 e), (fun e => h.p41 e), (fun e => h.p42 e), (fun e => h.p43 e), (fun e => h.p44 e), (fun e => h.p45 e)⟩
    · refine' wpOp_step (o := ?oHq_35) ?hoHq_35 (fun K hK => ?stHq_35)
      case hoHq_35 => rfl
      case stHq_35 =>
        have HK := Lib.hid hK; clear hK
        obtain rfl := HH.out.p27 (HWt.out 27 (by kernel_rfl))
        go_simp
        refine HK.out _ _ ⟨_, _, _, _, _, _, _, _, _, _, _, _, _, _, _, _, _, _, _, _, _, _, _, _, _, _, _, _, _, _, _, _, _, _, _, _, _, _, _, _, _, _, _, _, _, _, rfl, ?_⟩
        have h := HH.out
        exact ⟨h.bel, (fun e => h.p0 e), (fun e => h.p1 e), (fun e => h.p2 e), (fun e => h.p3 e), (fun e => h.p4 e), (fun e => h.p5 e), (fun e => h.p6 e), (fun e => h.p7 e), (fun e => h.p8 e), (fun e => h.p9 e), (fun e => h.p10 e), (fun e => h.p11 e), (fun e => h.p12 e), (fun e => h.p13 e), (fun e => h.p14 e), (fun e => h.p15 e), (fun e => h.p16 e), (fun e => h.p17 e), (fun e => h.p18 e), (fun e => h.p19 e), (fun e => h.p20 e), (fun e => h.p21 e), (fun e => h.p22 e), (fun e => h.p23 e), (fun e => h.p24 e), (fun e => h.p25 e), (fun e => h.p26 e), (fun e => h.p27 e), (fun e => h.p28 e), (fun e => h.p29 e), (fun e => h.p30 e), (fun e => h.p31 e), (fun e => h.p32 e), (fun e => h.p33 e), (fun e => h.p34 e), (fun _ => rfl), (fun e => h.p36 e), (fun e => h.p37 e), (fun e => h.p38 e), (fun e => h.p39 e), (fun e => h.p40 e), (fun e => h.p41 e), (fun e => h.p42 e), (fun e => h.p43 e), (fun e => h.p44 e), (fun e => h.p45 e)⟩
    · refine' wpOp_step (o := ?oHq_36) ?hoHq_36 (fun K hK => ?stHq_36)
      case hoHq_36 => rfl
      case stHq_36 =>
        have HK := Lib.hid hK; clear hK
        obtain rfl := HH.out.p27 (HWt.out 27 (by kernel_rfl))
        go_simp
        refine HK.out _ _ ⟨_, _, _, _, _, _, _, _, _, _, _, _, _, _, _, _, _, _, _, _, _, _, _, _, _, _, _, _, _, _, _, _, _, _, _, _, _, _, _, _, _, _, _, _, _, _, rfl, ?_⟩
        have h := HH.out
        exact ⟨h.bel, (fun e => h.p0 e), (fun e => h.p1 e), (fun e => h.p2 e), (fun e => h.p3 e), (fun e => h.p4 e), (fun e => h.p5 e), (fun e => h.p6 e), (fun e => h.p7 e), (fun e => h.p8 e), (fun e => h.p9 e), (fun e => h.p10 e), (fun e => h.p11 e), (fun e => h.p12 e), (fun e => h.p13 e), (fun e => h.p14 e), (fun e => h.p15 e), (fun e => h.p16 e), (fun e => h.p17 e), (fun e => h.p18 e), (fun e => h.p19 e), (fun e => h.p20 e), (fun e => h.p21 e), (fun e => h.p22 e), (fun e => h.p23 e), (fun e => h.p24 e), (fun e => h.p25 e), (fun e => h.p26 e), (fun e => h.p27 e), (fun e => h.p28 e), (fun e => h.p29 e), (fun e => h.p30 e), (fun e => h.p31 e), (fun e => h.p32 e), (fun e => h.p33 e), (fun e => h.p34 e), (fun e => h.p35 e), (fun _ => rfl), (fun e => h.p37 e), (fun e => h.p38 e), (fun e => h.p39 e), (fun e => h.p40 e), (fun e => h.p41 e), (fun e => h.p42 e), (fun e => h.p43 e), (fun e => h.p44 e), (fun e => h.p45 e)⟩
    · refine' wpOp_step (o := ?oHq_37) ?hoHq_37 (fun K hK => ?stHq_37)
      case hoHq_37 => rfl
      case stHq_37 =>
        have HK := Lib.hid hK; clear hK
        obtain rfl := HH.out.p27 (HWt.out 27 (by kernel_rfl))
        go_simp
        refine HK.out _ _ ⟨_, _, _, _, _, _, _, _, _, _, _, _, _, _, _, _, _, _, _, _, _, _, _, _, _, _, _, _, _, _, _, _, _, _, _, _, _, _, _, _, _, _, _, _, _, _, rfl, ?_⟩
        have h := HH.out
        exact ⟨h.bel, (fun e => h.p0 e), (fun e => h.p1 e), (fun e => h.p2 e), (fun e => h.p3 e), (fun e => h.p4 e), (fun e => h.p5 e), (fun e => h.p6 e), (fun e => h.p7 e), (fun e => h.p8 e), (fun e => h.p9 e), (fun e => h.p10 e), (fun e => h.p11 e), (fun e => h.p12 e), (fun e => h.p13 e), (fun e => h.p14 e), (fun e => h.p15 e), (fun e => h.p16 e), (fun e => h.p17 e), (fun e => h.p18 e), (fun e => h.p19 e), (fun e => h.p20 e), (fun e => h.p21 e), (fun e => h.p22 e), (fun e => h.p23 e), (fun e => h.p24 e), (fun e => h.p25 e), (fun e => h.p26 e), (fun e => h.p27 e), (fun e => h.p28 e), (fun e => h.p29 e), (fun e => h.p30 e), (fun e => h.p31 e), (fun e => h.p32 e), (fun e => h.p33 e), (fun e => h.p34 e), (fun e => h.p35 e), (fun e => h.p36 e), (fun _ => rfl), (fun e => h.p38 e), (fun e => h.p39 e), (fun e => h.p40 e), (fun e => h.p41 e), (fun e => h.p42 e), (fun e => h.p43 e), (fun e => h.p44 e), (fun e => h.p45 e)⟩
    · refine' wpOp_step (o := ?oHq_38) ?hoHq_38 (fun K hK => ?stHq_38)
      case hoHq_38 => rfl
      case stHq_38 =>
        have HK := Lib.hid hK; clear hK
        obtain rfl := HH.out.p27 (HWt.out 27 (by kernel_rfl))
        go_simp
        refine HK.out _ _ ⟨_, _, _, _, _, _, _, _, _, _, _, _, _, _, _, _, _, _, _, _, _, _, _, _, _, _, _, _, _, _, _, _, _, _, _, _, _, _, _, _, _, _, _, _, _, _, rfl, ?_⟩
        have h := HH.out
        exact ⟨h.bel, (fun e => h.p0 e), (fun e => h.p1 e), (fun e => h.p2 e), (fun e => h.p3 e), (fun e => h.p4 e), (fun e => h.p5 e), (fun e => h.p6 e), (fun e => h.p7 e), (fun e => h.p8 e), (fun e => h.p9 e), (fun e => h.p10 e), (fun e => h.p11 e), (fun e => h.p12 e), (fun e => h.p13 e), (fun e => h.p14 e), (fun e => h.p15 e), (fun e => h.p16 e), (fun e => h.p17 e), (fun e => h.p18 e), (fun e => h.p19 e), (fun e => h.p20 e), (fun e => h.p21 e), (fun e => h.p22 e), (fun e => h.p23 e), (fun e => h.p24 e), (fun e => h.p25 e), (fun e => h.p26 e), (fun e => h.p27 e), (fun e => h.p28 e), (fun e => h.p29 e), (fun e => h.p30 e), (fun e => h.p31 e), (fun e => h.p32 e), (fun e => h.p33 e), (fun e => h.p34 e), (fun e => h.p35 e), (fun e => h.p36 e), (fun e => h.p37 e), (fun _ => rfl), (fun e => h.p39 e), (fun e => h.p40 e), (fun e => h.p41 e), (fun e => h.p42 e), (fun e => h.p43 e), (fun e => h.p44 e), (fun e => h.p45 e)⟩
    · refine' wpOp_step (o := ?oHq_39) ?hoHq_39 (fun K hK => ?stHq_39)
      case hoHq_39 => rfl
      case stHq_39 =>
        have HK := Lib.hid hK; clear hK
        obtain rfl := HH.out.p27 (HWt.out 27 (by kernel_rfl))
        go_simp
        refine HK.out _ _ ⟨_, _, _, _, _, _, _, _, _, _, _, _, _, _, _, _, _, _, _, _, _, _, _, _, _, _, _, _, _, _, _, _, _, _, _, _, _, _, _, _, _, _, _, _, _, _, rfl, ?_⟩
        have h := HH.out
        exact ⟨h.bel, (fun e => h.p0 e), (fun e => h.p1 e), (fun e => h.p2 e), (fun e => h.p3 e), (fun e => h.p4 e), (fun e => h.p5 e), (fun e => h.p6 e), (fun e => h.p7 e), (fun e => h.p8 e), (fun e => h.p9 e), (fun e => h.p10 e), (fun e => h.p11 e), (fun e => h.p12 e), (fun e => h.p13 e), (fun e => h.p14 e), (fun e => h.p15 e), (fun e => h.p16 e), (fun e => h.p17 e), (fun e => h.p18 e), (fun e => h.p19 e), (fun e => h.p20 e), (fun e => h.p21 e), (fun e => h.p22 e), (fun e => h.p23 e), (fun e => h.p24 e), (fun e => h.p25 e), (fun e => h.p26 e), (fun e => h.p27 e), (fun e => h.p28 e), (fun e => h.p29 e), (fun e => h.p30 e), (fun e => h.p31 e), (fun e => h.p32 e), (fun e => h.p33 e), (fun e => h.p34 e), (fun e => h.p35 e), (fun e => h.p36 e), (fun e => h.p37 e), (fun e => h.p38 e), (fun _ => rfl), (fun e => h.p40 e), (fun e => h.p41 e), (fun e => h.p42 e), (fun e => h.p43 e), (fun e => h.p44 e), (fun e => h.p45 e)⟩
    · refine' wpOp_step (o := ?oHq_40) ?hoHq_40 (fun K hK => ?stHq_40)
      case hoHq_40 => rfl
      case stHq_40 =>
        have HK := Lib.hid hK; clear hK
        obtain rfl := HH.out.p27 (HWt.out 27 (by kernel_rfl))
        go_simp
        refine HK.out _ _ ⟨_, _, _, _, _, _, _, _, _, _, _, _, _, _, _, _, _, _, _, _, _, _, _, _, _, _, _, _, _, _, _, _, _, _, _, _, _, _, _, _, _, _, _, _, _, _, rfl, ?_⟩
        have h := HH.out
        exact ⟨h.bel, (fun e => h.p0 e), (fun e => h.p1 e), (fun e => h.p2 e), (fun e => h.p3 e), (fun e => h.p4 e), (fun e => h.p5 e), (fun e => h.p6 e), (fun e => h.p7 e), (fun e => h.p8 e), (fun e => h.p9 e), (fun e => h.p10 e), (fun e => h.p11 e), (fun e => h.p12 e), (fun e => h.p13 e), (fun e => h.p14 e), (fun e => h.p15 e), (fun e => h.p16 e), (fun e => h.p17 e), (fun e => h.p18 e), (fun e => h.p19 e), (fun e => h.p20 e), (fun e => h.p21 e), (fun e => h.p22 e), (fun e => h.p23 e), (fun e => h.p24 e), (fun e => h.p25 e), (fun e => h.p26 e), (fun e => h.p27 e), (fun e => h.p28 e), (fun e => h.p29 e), (fun e => h.p30 e), (fun e => h.p31 e), (fun e => h.p32 e), (fun e => h.p33 e), (fun e => h.p34 e), (fun e => h.p35 e), (fun e => h.p36 e), (fun e => h.p37 e), (fun e => h.p38 e), (fun e => h.p39 e), (fun _ => rfl), (fun e => h.p41 e), (fun e => h.p42 e), (fun e => h.p43 e), (fun e => h.p44 e), (fun e => h.p45 e)⟩
    · refine' wpOp_step (o := ?oHq_41) ?hoHq_41 (fun K hK => ?stHq_41)
      case hoHq_41 => rfl
      case stHq_41 =>
        have HK := Lib.hid hK; clear hK
        obtain rfl := HH.out.p27 (HWt.out 27 (by kernel_rfl))
        go_simp
        refine HK.out _ _ ⟨_, _, _, _, _, _, _, _, _, _, _, _, _, _, _, _, _, _, _, _, _, _, _, _, _, _, _, _, _, _, _, _, _, _, _, _, _, _, _, _, _, _, _, _, _, _, rfl, ?_⟩
        have h := HH.out
        exact ⟨h.bel, (fun e => h.p0 e), (fun e => h.p1 e), (fun e => h.p2 e), (fun e => h.p3 e), (fun e => h.p4 e), (fun e => h.p5 e), (fun e => h.p6 e), (fun e => h.p7 e), (fun e => h.p8 e), (fun e => h.p9 e), (fun e => h.p10 e), (fun e => h.p11 e), (fun e => h.p12 e), (fun e => h.p13 e), (fun e => h.p14 e), (fun e => h.p15 e), (fun e => h.p16 e), (fun e => h.p17 e), (fun e => h.p18 e), (fun e => h.p19 e), (fun e => h.p20 e), (fun e => h.p21 e), (fun e => h.p22 e), (fun e => h.p23 e), (fun e => h.p24 e), (fun e => h.p25 e), (fun e => h.p26 e), (fun e => h.p27 e), (fun e => h.p28 e), (fun e => h.p29 e), (fun e => h.p30 e), (fun e => h.p31 e), (fun e => h.p32 e), (fun e => h.p33 e), (fun e => h.p34 e), (fun e => h.p35 e), (fun e => h.p36 e), (fun e => h.p37 e), (fun e => h.p38 e), (fun e => h.p39 e), (fun e => h.p40 e), (fun _ => rfl), (fun e => h.p42 e), (fun e => h.p43 e), (fun e => h.p44 e), (fun e => h.p45 e)⟩
    · refine' wpOp_step (o := ?oHq_42) ?hoHq_42 (fun K hK => ?stHq_42)
      case hoHq_42 => rfl
      case stHq_42 =>
        have HK := Lib.hid hK; clear hK
        obtain rfl := HH.out.p27 (HWt.out 27 (by kernel_rfl))
        go_simp
        refine HK.out _ _ ⟨_, _, _, _, _, _, _, _, _, _, _, _, _, _, _, _, _, _, _, _, _, _, _, _, _, _, _, _, _, _, _, _, _, _, _, _, _, _, _, _, _, _, _, _, _, _, rfl, ?_⟩
        have h := HH.out
        exact ⟨h.bel, (fun e => h.p0 e), (fun e => h.p1 e), (fun e => h.p2 e), (fun e => h.p3 e), (fun e => h.p4 e), (fun e => h.p5 e), (fun e => h.p6 e), (fun e => h.p7 e), (fun e => h.p8 e), (fun e => h.p9 e), (fun e => h.p10 e), (fun e => h.p11 e), (fun e => h.p12 e), (fun e => h.p13 e), (fun e => h.p14 e), (fun e => h.p15 e), (fun e => h.p16 e), (fun e => h.p17 e), (fun e => h.p18 e), (fun e => h.p19 e), (fun e => h.p20 e), (fun e => h.p21 e), (fun e => h.p22 e), (fun e => h.p23 e), (fun e => h.p24 e), (fun e => h.p25 e), (fun e => h.p26 e), (fun e => h.p27 e), (fun e => h.p28 e), (fun e => h.p29 e), (fun e => h.p30 e), (fun e => h.p31 e), (fun e => h.p32 e), (fun e => h.p33 e), (fun e => h.p34 e), (fun e => h.p35 e), (fun e => h.p36 e), (fun e => h.p37 e), (fun e => h.p38 e), (fun e => h.p39 e), (fun e => h.p40 e), (fun e => h.p41 e), (fun _ => rfl), (fun e => h.p43 e), (fun e => h.p44 e), (fun e => h.p45 e)⟩
    · refine' wpOp_step (o := ?oHq_43) ?hoHq_43 (fun K hK => ?stHq_43)
      case hoHq_43 => rfl
      case stHq_43 =>
        have HK := Lib.hid hK; clear hK
        obtain rfl := HH.out.p27 (HWt.out 27 (by kernel_rfl))
        go_simp
        refine HK.out _ _ ⟨_, _, _, _, _, _, _, _, _, _, _, _, _, _, _, _, _, _, _, _, _, _, _, _, _, _, _, _, _, _, _, _, _, _, _, _, _, _, _, _, _, _, _, _, _, _, rfl, ?_⟩
        have h := HH.out
        exact ⟨h.bel, (fun e => h.p0 e), (fun e => h.p1 e), (fun e => h.p2 e), (fun e => h.p3 e), (fun e => h.p4 e), (fun e => h.p5 e), (fun e => h.p6 e), (fun e => h.p7 e), (fun e => h.p8 e), (fun e => h.p9 e), (fun e => h.p10 e), (fun e => h.p11 e), (fun e => h.p12 e), (fun e => h.p13 e), (fun e => h.p14 e), (fun e => h.p15 e), (fun e => h.p16 e), (fun e => h.p17 e), (fun e => h.p18 e), (fun e => h.p19 e), (fun e => h.p20 e), (fun e => h.p21 e), (fun e => h.p22 e), (fun e => h.p23 e), (fun e => h.p24 e), (fun e => h.p25 e), (fun e => h.p26 e), (fun e => h.p27 e), (fun e => h.p28 e), (fun e => h.p29 e), (fun e => h.p30 e), (fun e => h.p31 e), (fun e => h.p32 e), (fun e => h.p33 e), (fun e => h.p34 e), (fun e => h.p35 e), (fun e => h.p36 e), (fun e => h.p37 e), (fun e => h.p38 e), (fun e => h.p39 e), (fun e => h.p40 e), (fun e => h.p41 e), (fun e => h.p42 e), (fun _ => rfl), (fun e => h.p44 e), (fun e => h.p45 e)⟩
    · refine' wpOp_step (o := ?oHq_44) ?hoHq_44 (fun K hK => ?stHq_44)
      case hoHq_44 => rfl
      case stHq_44 =>
        have HK := Lib.hid hK; clear hK
        obtain rfl := HH.out.p27 (HWt.out 27 (by kernel_rfl))
        go_simp
        refine HK.out _ _ ⟨_, _, _, _, _, _, _, _, _, _, _, _, _, _, _, _, _, _, _, _, _, _, _, _, _, _, _, _, _, _, _, _, _, _, _, _, _, _, _, _, _, _, _, _, _, _, rfl, ?_⟩
        have h := HH.out
        exact ⟨h.bel, (fun e => h.p0 e), (fun e => h.p1 e), (fun e => h.p2 e), (fun e => h.p3 e), (fun e => h.p4 e), (fun e => h.p5 e), (fun e => h.p6 e), (fun e => h.p7 e), (fun e => h.p8 e), (fun e => h.p9 e), (fun e => h.p10 e), (fun e => h.p11 e), (fun e => h.p12 e), (fun e => h.p13 e), (fun e => h.p14 e), (fun e => h.p15 e), (fun e => h.p16 e), (fun e => h.p17 e), (fun e => h.p18 e), (fun e => h.p19 e), (fun e => h.p20 e), (fun e => h.p21 e), (fun e => h.p22 e), (fun e => h.p23 e), (fun e => h.p24 e), (fun e => h.p25 e), (fun e => h.p26 e), (fun e => h.p27 e), (fun e => h.p28 e), (fun e => h.p29 e), (fun e => h.p30 e), (fun e => h.p31 e), (fun e => h.p32 e), (fun e => h.p33 e), (fun e => h.p34 e), (fun e => h.p35 e), (fun e => h.p36 e), (fun e => h.p37 e), (fun e => h.p38 e), (fun e => h.p39 e), (fun e => h.p40 e), (fun e => h.p41 e), (fun e => h.p42 e), (fun e => h.p43 e), (fun _ => rfl), (fun e => h.p45 e)⟩
    · refine' wpOp_step (o := ?oHq_45) ?hoHq_45 (fun K hK => ?stHq_45)
      case hoHq_45 => rfl
      case stHq_45 =>
        have HK := Lib.hid hK; clear hK
        obtain rfl := HH.out.p44 (HWt.out 44 (by kernel_rfl))
        go_simp
        refine HK.out _ _ ⟨_, _, _, _, _, _, _, _, _, _, _, _, _, _, _, _, _, _, _, _, _, _, _, _, _, _, _, _, _, _, _, _, _, _, _, _, _, _, _, _, _, _, _, _, _, _, rfl, ?_⟩
        have h := HH.out
        exact ⟨h.bel, (fun e => h.p0 e), (fun e => h.p1 e), (fun e => h.p2 e), (fun e => h.p3 e), (fun e => h.p4 e), (fun e => h.p5 e), (fun e => h.p6 e), (fun e => h.p7 e), (fun e => h.p8 e), (fun e => h.p9 e), (fun e => h.p10 e), (fun e => h.p11 e), (fun e => h.p12 e), (fun e => h.p13 e), (fun e => h.p14 e), (fun e => h.p15 e), (fun e => h.p16 e), (fun e => h.p17 e), (fun e => h.p18 e), (fun e => h.p19 e), (fun e => h.p20 e), (fun e => h.p21 e), (fun e => h.p22 e), (fun e => h.p23 e), (fun e => h.p24 e), (fun e => h.p25 e), (fun e => h.p26 e), (fun e => h.p27 e), (fun e => h.p28 e), (fun e => h.p29 e), (fun e => h.p30 e), (fun e => h.p31 e), (fun e => h.p32 e), (fun e => h.p33 e), (fun e => h.p34 e), (fun e => h.p35 e), (fun e => h.p36 e), (fun e => h.p37 e), (fun e => h.p38 e), (fun e => h.p39 e), (fun e => h.p40 e), (fun e => h.p41 e), (fun e => h.p42 e), (fun e => h.p43 e), (fun e => h.p44 e), (fun _ => rfl)⟩
structure HrI (b off cap g : Nat) (ax ay cx cy px py T x1 x2 x3 x4 m1 m2 : Int) (u1 u2 u3 : Bool) (W : World) (L : Nat → Bool) (w : World) (s4 s18 s19 s20 s21 s22 s23 s24 s25 s26 s27 s28 s29 s30 s31 s32 s33 s34 s35 s36 s37 s38 s39 s40 s41 s42 s43 s44 s45 s46 s47 s48 s49 s50 s51 s52 s53 s54 s55 s56 s57 s58 s59 s60 s61 s62 : Value) : Prop where
  bel : Below W.heap.size W w
  p0 : L 0 = true → s18 = .slice (some ⟨b, off, none⟩) 2 cap
  p1 : L 1 = true → s19 = .pointer (some ⟨b, off, none⟩)
  p2 : L 2 = true → s20 = .agg #[.int .i64 ax, .int .i64 ay]
  p3 : L 3 = true → s21 = .slice (some ⟨b, off, none⟩) 2 cap
  p4 : L 4 = true → s22 = .pointer (some ⟨b, off + 2, none⟩)
  p5 : L 5 = true → s23 = .agg #[.int .i64 cx, .int .i64 cy]
  p6 : L 6 = true → s24 = .agg #[.int .i64 px, .int .i64 py]
  p7 : L 7 = true → s25 = .int .i64 T
  p8 : L 8 = true → s26 = .bool true
  p9 : L 9 = true → s27 = .bool true
  p10 : L 10 = true → s28 = .pointer (some ⟨g, 0, none⟩)
  p11 : L 11 = true → s29 = .int .i64 px
  p12 : L 12 = true → s30 = .slice (some ⟨b, off, none⟩) 2 cap
  p13 : L 13 = true → s31 = .pointer (some ⟨b, off, none⟩)
  p14 : L 14 = true → s32 = .pointer (some ⟨b, off, none⟩)
  p15 : L 15 = true → s33 = .int .i64 ax
  p16 : L 16 = true → s34 = .int .i64 x1
  p17 : L 17 = true → s35 = .pointer (some ⟨g, 0, none⟩)
  p18 : L 18 = true → s36 = .int .i64 px
  p19 : L 19 = true → s37 = .slice (some ⟨b, off, none⟩) 2 cap
  p20 : L 20 = true → s38 = .pointer (some ⟨b, off + 2, none⟩)
  p21 : L 21 = true → s39 = .pointer (some ⟨b, off + 2, none⟩)
  p22 : L 22 = true → s40 = .int .i64 cx
  p23 : L 23 = true → s41 = .int .i64 x2
  p24 : L 24 = true → s42 = .int .i64 m1
  p25 : L 25 = true → s43 = .bool true
  p26 : L 26 = true → s44 = .bool true
  p27 : L 27 = true → s45 = .bool true
  p28 : L 28 = true → s46 = .pointer (some ⟨g, 1, none⟩)
  p29 : L 29 = true → s47 = .int .i64 py
  p30 : L 30 = true → s48 = .slice (some ⟨b, off, none⟩) 2 cap
  p31 : L 31 = true → s49 = .pointer (some ⟨b, off, none⟩)
  p32 : L 32 = true → s50 = .pointer (some ⟨b, off + 1, none⟩)
  p33 : L 33 = true → s51 = .int .i64 ay
  p34 : L 34 = true → s52 = .int .i64 x3
  p35 : L 35 = true → s53 = .pointer (some ⟨g, 1, none⟩)
  p36 : L 36 = true → s54 = .int .i64 py
  p37 : L 37 = true → s55 = .slice (some ⟨b, off, none⟩) 2 cap
  p38 : L 38 = true → s56 = .pointer (some ⟨b, off + 2, none⟩)
  p39 : L 39 = true → s57 = .pointer (some ⟨b, off + 2 + 1, none⟩)
  p40 : L 40 = true → s58 = .int .i64 cy
  p41 : L 41 = true → s59 = .int .i64 x4
  p42 : L 42 = true → s60 = .int .i64 m2
  p43 : L 43 = true → s61 = .bool u3
  p44 : L 44 = true → s62 = .bool u3
  p45 : L 45 = true → s4 = .bool u3
theorem HrI.mono {b off cap g : Nat} {ax ay cx cy px py T x1 x2 x3 x4 m1 m2 : Int} {u1 u2 u3 : Bool} {W w w' : World} {L : Nat → Bool} {s4 s18 s19 s20 s21 s22 s23 s24 s25 s26 s27 s28 s29 s30 s31 s32 s33 s34 s35 s36 s37 s38 s39 s40 s41 s42 s43 s44 s45 s46 s47 s48 s49 s50 s51 s52 s53 s54 s55 s56 s57 s58 s59 s60 s61 s62 : Value} (h : HrI b off cap g ax ay cx cy px py T x1 x2 x3 x4 m1 m2 u1 u2 u3 W L w s4 s18 s19 s20 s21 s22 s23 s24 s25 s26 s27 s28 s29 s30 s31 s32 s33 s34 s35 s36 s37 s38 s39 s40 s41 s42 s43 s44 s45 s46 s47 s48 s49 s50 s51 s52 s53 s54 s55 s56 s57 s58 s59 s60 s61 s62) (hb : Below w.heap.size w w') : HrI b off cap g ax ay cx cy px py T x1 x2 x3 x4 m1 m2 u1 u2 u3 W L w' s4 s18 s19 s20 s21 s22 s23 s24 s25 s26 s27 s28 s29 s30 s31 s32 s33 s34 s35 s36 s37 s38 s39 s40 s41 s42 s43 s44 s45 s46 s47 s48 s49 s50 s51 s52 s53 s54 s55 s56 s57 s58 s59 s60 s61 s62 :=
  ⟨ball h.bel hb, (fun e => h.p0 e), (fun e => h.p1 e), (fun e => h.p2 e), (fun e => h.p3 e), (fun e => h.p4 e), (fun e => h.p5 e), (fun e => h.p6 e), (fun e => h.p7 e), (fun e => h.p8 e), (fun e => h.p9 e), (fun e => h.p10 e), (fun e => h.p11 e), (fun e => h.p12 e), (fun e => h.p13 e), (fun e => h.p14 e), (fun e => h.p15 e), (fun e => h.p16 e), (fun e => h.p17 e), (fun e => h.p18 e), (fun e => h.p19 e), (fun e => h.p20 e), (fun e => h.p21 e), (fun e => h.p22 e), (fun e => h.p23 e), (fun e => h.p24 e), (fun e => h.p25 e), (fun e => h.p26 e), (fun e => h.p27 e), (fun e => h.p28 e), (fun e => h.p29 e), (fun e => h.p30 e), (fun e => h.p31 e), (fun e => h.p32 e), (fun e => h.p33 e), (fun e => h.p34 e), (fun e => h.p35 e), (fun e => h.p36 e), (fun e => h.p37 e), (fun e => h.p38 e), (fun e => h.p39 e), (fun e => h.p40 e), (fun e => h.p41 e), (fun e => h.p42 e), (fun e => h.p43 e), (fun e => h.p44 e), (fun e => h.p45 e)⟩
set_option maxHeartbeats 6400000 in
set_option maxRecDepth 100000 in
theorem pyHas_Hr (b off cap : Nat) (ax ay cx cy px py T x1 x2 x3 x4 m1 m2 : Int) (u1 u2 u3 : Bool) (w : World) (hr : RdP w (some ⟨b, off, none⟩) [⟨ax, ay⟩, ⟨cx, cy⟩])
    (ct : ∀ w, Calls Tryz.prog 77 #[.agg #[.int .i64 ax, .int .i64 ay], .agg #[.int .i64 cx, .int .i64 cy], .agg #[.int .i64 px, .int .i64 py]] w fun e w' => e = .returned (.int .i64 T) ∧ Below w.heap.size w w')
    (hT : (T == 0) = true) (h1 : IntKind.i64.wrap (px - ax) = x1) (h2 : IntKind.i64.wrap (px - cx) = x2) (h3 : IntKind.i64.wrap (x1 * x2) = m1) (h4 : decide (m1 ≤ 0) = true)
    (h5 : IntKind.i64.wrap (py - ay) = x3) (h6 : IntKind.i64.wrap (py - cy) = x4) (h7 : IntKind.i64.wrap (x3 * x4) = m2) (h8 : decide (m2 ≤ 0) = u3) :
    Calls Tryz.prog 52 #[.slice (some ⟨b, off, none⟩) 2 cap, .agg #[.int .i64 px, .int .i64 py]] w fun e w' => e = .returned (.bool u3) ∧ Below w.heap.size w w' := by
  have CT := Lib.hid ct; clear ct
  obtain ⟨c0, c1⟩ := hr.at (j := 0) (by simp)
  obtain ⟨c2, c3⟩ := hr.at (j := 1) (by simp)
  obtain ⟨b', off', eb, hbl⟩ := hr.some (by simp)
  obtain ⟨rfl, rfl⟩ : b = b' ∧ off = off' := by simpa using eb
  clear eb hr
  simp only [List.getD_cons_zero, List.getD_cons_succ, Nat.zero_mul, Nat.add_zero, Nat.one_mul] at c0 c1 c2 c3
  have hb0 : Below w.heap.size w (w.alloc (.cells #[.int .i64 px, .int .i64 py] 30)) := (Below.refl _ _).alloc (Nat.le_refl _) _
  have hbl1 : b < (w.alloc (.cells #[.int .i64 px, .int .i64 py] 30)).heap.size := Nat.lt_of_lt_of_le hbl hb0.size
  obtain ⟨g, hg⟩ : ∃ g, w.heap.size = g := ⟨_, rfl⟩
  have o0 := PtO.new w px py hg.symm
  obtain ⟨x0', x1'⟩ := o0.at
  have Fa0 := Lib.hid (And.intro hbl1 (bcell hb0 hbl c0))
  have Fa1 := Lib.hid (And.intro hbl1 (bcell hb0 hbl c1))
  have Fc0 := Lib.hid (And.intro hbl1 (bcell hb0 hbl c2))
  have Fc1 := Lib.hid (And.intro hbl1 (bcell hb0 hbl c3))
  have Fp0 := Lib.hid (And.intro o0.lt x0')
  have Fp1 := Lib.hid (And.intro o0.lt x1')
  clear x0' x1' o0 c0 c1 c2 c3 hbl hbl1
  have HB0 := Lib.hid hb0; clear hb0
  go_enter Tryz.func52, Tryz.ntmps52
  go_wp2_with fail
  try simp only [hg]
  have HG := Lib.hid hg
  generalize w.alloc (.cells #[.int .i64 px, .int .i64 py] 30) = W at Fa0 Fa1 Fc0 Fc1 Fp0 Fp1 HB0 ⊢
  clear hg
  refine wp_region_inv (fun L ac w' => ∃ s4 s18 s19 s20 s21 s22 s23 s24 s25 s26 s27 s28 s29 s30 s31 s32 s33 s34 s35 s36 s37 s38 s39 s40 s41 s42 s43 s44 s45 s46 s47 s48 s49 s50 s51 s52 s53 s54 s55 s56 s57 s58 s59 s60 s61 s62, ac = { tmps := #[.slice (some ⟨b, off, none⟩) 2 cap, .agg #[.int .i64 px, .int .i64 py], undef, .pointer (some ⟨g, 0, none⟩), s4, undef, undef, .slice (some ⟨b, off, none⟩) 2 cap, .int .i64 2, .bool false, undef, undef, undef, undef, undef, .slice (some ⟨b, off, none⟩) 2 cap, .int .i64 2, .bool true, s18, s19, s20, s21, s22, s23, s24, s25, s26, s27, s28, s29, s30, s31, s32, s33, s34, s35, s36, s37, s38, s39, s40, s41, s42, s43, s44, s45, s46, s47, s48, s49, s50, s51, s52, s53, s54, s55, s56, s57, s58, s59, s60, s61, s62, undef, undef, undef, undef, undef, undef, undef, undef, undef, undef, undef, undef, undef, undef, undef, undef, undef, undef, undef, undef], defers := [] } ∧ HrI b off cap g ax ay cx cy px py T x1 x2 x3 x4 m1 m2 u1 u2 u3 W L w' s4 s18 s19 s20 s21 s22 s23 s24 s25 s26 s27 s28 s29 s30 s31 s32 s33 s34 s35 s36 s37 s38 s39 s40 s41 s42 s43 s44 s45 s46 s47 s48 s49 s50 s51 s52 s53 s54 s55 s56 s57 s58 s59 s60 s61 s62) (by kernel_rfl) (by kernel_rfl) ?_ ?_ ?_
  · exact ⟨_, _, _, _, _, _, _, _, _, _, _, _, _, _, _, _, _, _, _, _, _, _, _, _, _, _, _, _, _, _, _, _, _, _, _, _, _, _, _, _, _, _, _, _, _, _, rfl, (Below.refl _ _).drew, (fun e => by cases e), (fun e => by cases e), (fun e => by cases e), (fun e => by cases e), (fun e => by cases e), (fun e => by cases e), (fun e => by cases e), (fun e => by cases e), (fun e => by cases e), (fun e => by cases e), (fun e => by cases e), (fun e => by cases e), (fun e => by cases e), (fun e => by cases e), (fun e => by cases e), (fun e => by cases e), (fun e => by cases e), (fun e => by cases e), (fun e => by cases e), (fun e => by cases e), (fun e => by cases e), (fun e => by cases e), (fun e => by cases e), (fun e => by cases e), (fun e => by cases e), (fun e => by cases e), (fun e => by cases e), (fun e => by cases e), (fun e => by cases e), (fun e => by cases e), (fun e => by cases e), (fun e => by cases e), (fun e => by cases e), (fun e => by cases e), (fun e => by cases e), (fun e => by cases e), (fun e => by cases e), (fun e => by cases e), (fun e => by cases e), (fun e => by cases e), (fun e => by cases e), (fun e => by cases e), (fun e => by cases e), (fun e => by cases e), (fun e => by cases e), (fun e => by cases e)⟩
  · rintro L ac w' ⟨s4, s18, s19, s20, s21, s22, s23, s24, s25, s26, s27, s28, s29, s30, s31, s32, s33, s34, s35, s36, s37, s38, s39, s40, s41, s42, s43, s44, s45, s46, s47, s48, s49, s50, s51, s52, s53, s54, s55, s56, s57, s58, s59, s60, s61, s62, rfl, H⟩ hL
    obtain rfl := H.p45 (hL 45 (by decide))
    have HREL := Lib.hid (show Below w.heap.size w w' from ball HB0.out H.bel)
    clear H hL 
    go_wp2_with fail
    go_ret
    exact ⟨rfl, HREL.out⟩
  · rintro i L ac w' ⟨s4, s18, s19, s20, s21, s22, s23, s24, s25, s26, s27, s28, s29, s30, s31, s32, s33, s34, s35, s36, s37, s38, s39, s40, s41, s42, s43, s44, s45, s46, s47, s48, s49, s50, s51, s52, s53, s54, s55, s56, s57, s58, s59, s60, s61, s62, rfl, H⟩ hi hL hw
    have hi : i < 46 := hi
    have HH := Lib.hid H; have HWt := Lib.hid hw
    clear H hw
    rcases (show i = 0 ∨ i = 1 ∨ i = 2 ∨ i = 3 ∨ i = 4 ∨ i = 5 ∨ i = 6 ∨ i = 7 ∨ i = 8 ∨ i = 9 ∨ i = 10 ∨ i = 11 ∨ i = 12 ∨ i = 13 ∨ i = 14 ∨ i = 15 ∨ i = 16 ∨ i = 17 ∨ i = 18 ∨ i = 19 ∨ i = 20 ∨ i = 21 ∨ i = 22 ∨ i = 23 ∨ i = 24 ∨ i = 25 ∨ i = 26 ∨ i = 27 ∨ i = 28 ∨ i = 29 ∨ i = 30 ∨ i = 31 ∨ i = 32 ∨ i = 33 ∨ i = 34 ∨ i = 35 ∨ i = 36 ∨ i = 37 ∨ i = 38 ∨ i = 39 ∨ i = 40 ∨ i = 41 ∨ i = 42 ∨ i = 43 ∨ i = 44 ∨ i = 45 by omega) with rfl | rfl | rfl | rfl | rfl | rfl | rfl | rfl | rfl | rfl | rfl | rfl | rfl | rfl | rfl | rfl | rfl | rfl | rfl | rfl | rfl | rfl | rfl | rfl | rfl | rfl | rfl | rfl | rfl | rfl | rfl | rfl | rfl | rfl | rfl | rfl | rfl | rfl | rfl | rfl | rfl | rfl | rfl | rfl | rfl | rfl
    · refine' wpOp_step (o := ?oHr_0) ?hoHr_0 (fun K hK => ?stHr_0)
      case hoHr_0 => rfl
      case stHr_0 =>
        have HK := Lib.hid hK; clear hK
        go_simp
        refine HK.out _ _ ⟨_, _, _, _, _, _, _, _, _, _, _, _, _, _, _, _, _, _, _, _, _, _, _, _, _, _, _, _, _, _, _, _, _, _, _, _, _, _, _, _, _, _, _, _, _, _, rfl, ?_⟩
        have h := HH.out
        exact ⟨h.bel, (fun _ => rfl), (fun e => h.p1 e), (fun e => h.p2 e), (fun e => h.p3 e), (fun e => h.p4 e), (fun e => h.p5 e), (fun e => h.p6 e), (fun e => h.p7 e), (fun e => h.p8 e), (fun e => h.p9 e), (fun e => h.p10 e), (fun e => h.p11 e), (fun e => h.p12 e), (fun e => h.p13 e), (fun e => h.p14 e), (fun e => h.p15 e), (fun e => h.p16 e), (fun e => h.p17 e), (fun e => h.p18 e), (fun e => h.p19 e), (fun e => h.p20 e), (fun e => h.p21 e), (fun e => h.p22 e), (fun e => h.p23 e), (fun e => h.p24 e), (fun e => h.p25 e), (fun e => h.p26 e), (fun e => h.p27 e), (fun e => h.p28 e), (fun e => h.p29 e), (fun e => h.p30 e), (fun e => h.p31 e), (fun e => h.p32 e), (fun e => h.p33 e), (fun e => h.p34 e), (fun e => h.p35 e), (fun e => h.p36 e), (fun e => h.p37 e), (fun e => h.p38 e), (fun e => h.p39 e), (fun e => h.p40 e), (fun e => h.p41 e), (fun e => h.p42 e), (fun e => h.p43 e), (fun e => h.p44 e), (fun e => h.p45 e)⟩
    · refine' wpOp_step (o := ?oHr_1) ?hoHr_1 (fun K hK => ?stHr_1)
      case hoHr_1 => rfl
      case stHr_1 =>
        have HK := Lib.hid hK; clear hK
        obtain rfl := HH.out.p0 (HWt.out 0 (by kernel_rfl))
        go_simp
        refine HK.out _ _ ⟨_, _, _, _, _, _, _, _, _, _, _, _, _, _, _, _, _, _, _, _, _, _, _, _, _, _, _, _, _, _, _, _, _, _, _, _, _, _, _, _, _, _, _, _, _, _, rfl, ?_⟩
        have h := HH.out
        exact ⟨h.bel, (fun e => h.p0 e), (fun _ => rfl), (fun e => h.p2 e), (fun e => h.p3 e), (fun e => h.p4 e), (fun e => h.p5 e), (fun e => h.p6 e), (fun e => h.p7 e), (fun e => h.p8 e), (fun e => h.p9 e), (fun e => h.p10 e), (fun e => h.p11 e), (fun e => h.p12 e), (fun e => h.p13 e), (fun e => h.p14 e), (fun e => h.p15 e), (fun e => h.p16 e), (fun e => h.p17 e), (fun e => h.p18 e), (fun e => h.p19 e), (fun e => h.p20 e), (fun e => h.p21 e), (fun e => h.p22 e), (fun e => h.p23 e), (fun e => h.p24 e), (fun e => h.p25 e), (fun e => h.p26 e), (fun e => h.p27 e), (fun e => h.p28 e), (fun e => h.p29 e), (fun e => h.p30 e), (fun e => h.p31 e), (fun e => h.p32 e), (fun e => h.p33 e), (fun e => h.p34 e), (fun e => h.p35 e), (fun e => h.p36 e), (fun e => h.p37 e), (fun e => h.p38 e), (fun e => h.p39 e), (fun e => h.p40 e), (fun e => h.p41 e), (fun e => h.p42 e), (fun e => h.p43 e), (fun e => h.p44 e), (fun e => h.p45 e)⟩
    · refine' wpOp_step (o := ?oHr_2) ?hoHr_2 (fun K hK => ?stHr_2)
      case hoHr_2 => rfl
      case stHr_2 =>
        have HK := Lib.hid hK; clear hK
        obtain rfl := HH.out.p1 (HWt.out 1 (by kernel_rfl))
        have q0 := bcellP HH.out.bel Fa0.out
        have q1 := bcellP HH.out.bel Fa1.out
        go_simp
        refine HK.out _ _ ⟨_, _, _, _, _, _, _, _, _, _, _, _, _, _, _, _, _, _, _, _, _, _, _, _, _, _, _, _, _, _, _, _, _, _, _, _, _, _, _, _, _, _, _, _, _, _, rfl, ?_⟩
        have h := HH.out
        exact ⟨h.bel, (fun e => h.p0 e), (fun e => h.p1 e), (fun _ => rfl), (fun e => h.p3 e), (fun e => h.p4 e), (fun e => h.p5 e), (fun e => h.p6 e), (fun e => h.p7 e), (fun e => h.p8 e), (fun e => h.p9 e), (fun e => h.p10 e), (fun e => h.p11 e), (fun e => h.p12 e), (fun e => h.p13 e), (fun e => h.p14 e), (fun e => h.p15 e), (fun e => h.p16 e), (fun e => h.p17 e), (fun e => h.p18 e), (fun e => h.p19 e), (fun e => h.p20 e), (fun e => h.p21 e), (fun e => h.p22 e), (fun e => h.p23 e), (fun e => h.p24 e), (fun e => h.p25 e), (fun e => h.p26 e), (fun e => h.p27 e), (fun e => h.p28 e), (fun e => h.p29 e), (fun e => h.p30 e), (fun e => h.p31 e), (fun e => h.p32 e), (fun e => h.p33 e), (fun e => h.p34 e), (fun e => h.p35 e), (fun e => h.p36 e), (fun e => h.p37 e), (fun e => h.p38 e), (fun e => h.p39 e), (fun e => h.p40 e), (fun e => h.p41 e), (fun e => h.p42 e), (fun e => h.p43 e), (fun e => h.p44 e), (fun e => h.p45 e)⟩
    · refine' wpOp_step (o := ?oHr_3) ?hoHr_3 (fun K hK => ?stHr_3)
      case hoHr_3 => rfl
      case stHr_3 =>
        have HK := Lib.hid hK; clear hK
        go_simp
        refine HK.out _ _ ⟨_, _, _, _, _, _, _, _, _, _, _, _, _, _, _, _, _, _, _, _, _, _, _, _, _, _, _, _, _, _, _, _, _, _, _, _, _, _, _, _, _, _, _, _, _, _, rfl, ?_⟩
        have h := HH.out
        exact ⟨h.bel, (fun e => h.p0 e), (fun e => h.p1 e), (fun e => h.p2 e), (fun _ => rfl), (fun e => h.p4 e), (fun e => h.p5 e), (fun e => h.p6 e), (fun e => h.p7 e), (fun e => h.p8 e), (fun e => h.p9 e), (fun e => h.p10 e), (fun e => h.p11 e), (fun e => h.p12 e), (fun e => h.p13 e), (fun e => h.p14 e), (fun e => h.p15 e), (fun e => h.p16 e), (fun e => h.p17 e), (fun e => h.p18 e), (fun e => h.p19 e), (fun e => h.p20 e), (fun e => h.p21 e), (fun e => h.p22 e), (fun e => h.p23 e), (fun e => h.p24 e), (fun e => h.p25 e), (fun e => h.p26 e), (fun e => h.p27 e), (fun e => h.p28 e), (fun e => h.p29 e), (fun e => h.p30 e), (fun e => h.p31 e), (fun e => h.p32 e), (fun e => h.p33 e), (fun e => h.p34 e), (fun e => h.p35 e), (fun e => h.p36 e), (fun e => h.p37 e), (fun e => h.p38 e), (fun e => h.p39 e), (fun e => h.p40 e), (fun e => h.p41 e), (fun e => h.p42 e), (fun e => h.p43 e), (fun e => h.p44 e), (fun e => h.p45 e)⟩
    · refine' wpOp_step (o := ?oHr_4) ?hoHr_4 (fun K hK => ?stHr_4)
      case hoHr_4 => rfl
      case stHr_4 =>
        have HK := Lib.hid hK; clear hK
        obtain rfl := HH.out.p3 (HWt.out 3 (by kernel_rfl))
        go_simp
        refine HK.out _ _ ⟨_, _, _, _, _, _, _, _, _, _, _, _, _, _, _, _, _, _, _, _, _, _, _, _, _, _, _, _, _, _, _, _, _, _, _, _, _, _, _, _, _, _, _, _, _, _, rfl, ?_⟩
        have h := HH.out
        exact ⟨h.bel, (fun e => h.p0 e), (fun e => h.p1 e), (fun e => h.p2 e), (fun e => h.p3 e), (fun _ => rfl), (fun e => h.p5 e), (fun e => h.p6 e), (fun e => h.p7 e), (fun e => h.p8 e), (fun e => h.p9 e), (fun e => h.p10 e), (fun e => h.p11 e), (fun e => h.p12 e), (fun e => h.p13 e), (fun e => h.p14 e), (fun e => h.p15 e), (fun e => h.p16 e), (fun e => h.p17 e), (fun e => h.p18 e), (fun e => h.p19 e), (fun e => h.p20 e), (fun e => h.p21 e), (fun e => h.p22 e), (fun e => h.p23 e), (fun e => h.p24 e), (fun e => h.p25 e), (fun e => h.p26 e), (fun e => h.p27 e), (fun e => h.p28 e), (fun e => h.p29 e), (fun e => h.p30 e), (fun e => h.p31 e), (fun e => h.p32 e), (fun e => h.p33 e), (fun e => h.p34 e), (fun e => h.p35 e), (fun e => h.p36 e), (fun e => h.p37 e), (fun e => h.p38 e), (fun e => h.p39 e), (fun e => h.p40 e), (fun e => h.p41 e), (fun e => h.p42 e), (fun e => h.p43 e), (fun e => h.p44 e), (fun e => h.p45 e)⟩
    · refine' wpOp_step (o := ?oHr_5) ?hoHr_5 (fun K hK => ?stHr_5)
      case hoHr_5 => rfl
      case stHr_5 =>
        have HK := Lib.hid hK; clear hK
        obtain rfl := HH.out.p4 (HWt.out 4 (by kernel_rfl))
        have q0 := bcellP HH.out.bel Fc0.out
        have q1 := bcellP HH.out.bel Fc1.out
        go_simp
        refine HK.out _ _ ⟨_, _, _, _, _, _, _, _, _, _, _, _, _, _, _, _, _, _, _, _, _, _, _, _, _, _, _, _, _, _, _, _, _, _, _, _, _, _, _, _, _, _, _, _, _, _, rfl, ?_⟩
        have h := HH.out
        exact ⟨h.bel, (fun e => h.p0 e), (fun e => h.p1 e), (fun e => h.p2 e), (fun e => h.p3 e), (fun e => h.p4 e), (fun _ => rfl), (fun e => h.p6 e), (fun e => h.p7 e), (fun e => h.p8 e), (fun e => h.p9 e), (fun e => h.p10 e), (fun e => h.p11 e), (fun e => h.p12 e), (fun e => h.p13 e), (fun e => h.p14 e), (fun e => h.p15 e), (fun e => h.p16 e), (fun e => h.p17 e), (fun e => h.p18 e), (fun e => h.p19 e), (fun e => h.p20 e), (fun e => h.p21 e), (fun e => h.p22 e), (fun e => h.p23 e), (fun e => h.p24 e), (fun e => h.p25 e), (fun e => h.p26 e), (fun e => h.p27 e), (fun e => h.p28 e), (fun e => h.p29 e), (fun e => h.p30 e), (fun e => h.p31 e), (fun e => h.p32 e), (fun e => h.p33 e), (fun e => h.p34 e), (fun e => h.p35 e), (fun e => h.p36 e), (fun e => h.p37 e), (fun e => h.p38 e), (fun e => h.p39 e), (fun e => h.p40 e), (fun e => h.p41 e), (fun e => h.p42 e), (fun e => h.p43 e), (fun e => h.p44 e), (fun e => h.p45 e)⟩
    · refine' wpOp_step (o := ?oHr_6) ?hoHr_6 (fun K hK => ?stHr_6)
      case hoHr_6 => rfl
      case stHr_6 =>
        have HK := Lib.hid hK; clear hK
        have q0 := bcellP HH.out.bel Fp0.out
        have q1 := bcellP HH.out.bel Fp1.out
        go_simp
        refine HK.out _ _ ⟨_, _, _, _, _, _, _, _, _, _, _, _, _, _, _, _, _, _, _, _, _, _, _, _, _, _, _, _, _, _, _, _, _, _, _, _, _, _, _, _, _, _, _, _, _, _, rfl, ?_⟩
        have h := HH.out
        exact ⟨h.bel, (fun e => h.p0 e), (fun e => h.p1 e), (fun e => h.p2 e), (fun e => h.p3 e), (fun e => h.p4 e), (fun e => h.p5 e), (fun _ => rfl), (fun e => h.p7 e), (fun e => h.p8 e), (fun e => h.p9 e), (fun e => h.p10 e), (fun e => h.p11 e), (fun e => h.p12 e), (fun e => h.p13 e), (fun e => h.p14 e), (fun e => h.p15 e), (fun e => h.p16 e), (fun e => h.p17 e), (fun e => h.p18 e), (fun e => h.p19 e), (fun e => h.p20 e), (fun e => h.p21 e), (fun e => h.p22 e), (fun e => h.p23 e), (fun e => h.p24 e), (fun e => h.p25 e), (fun e => h.p26 e), (fun e => h.p27 e), (fun e => h.p28 e), (fun e => h.p29 e), (fun e => h.p30 e), (fun e => h.p31 e), (fun e => h.p32 e), (fun e => h.p33 e), (fun e => h.p34 e), (fun e => h.p35 e), (fun e => h.p36 e), (fun e => h.p37 e), (fun e => h.p38 e), (fun e => h.p39 e), (fun e => h.p40 e), (fun e => h.p41 e), (fun e => h.p42 e), (fun e => h.p43 e), (fun e => h.p44 e), (fun e => h.p45 e)⟩
    · refine' wpOp_step (o := ?oHr_7) ?hoHr_7 (fun K hK => ?stHr_7)
      case hoHr_7 => rfl
      case stHr_7 =>
        have HK := Lib.hid hK; clear hK
        obtain rfl := HH.out.p2 (HWt.out 2 (by kernel_rfl))
        obtain rfl := HH.out.p5 (HWt.out 5 (by kernel_rfl))
        obtain rfl := HH.out.p6 (HWt.out 6 (by kernel_rfl))
        go_simp
        go_at_call 77; (refine (CT.out _).mono ?_); rintro e wC ⟨rfl, hwC⟩
        refine HK.out _ _ ⟨_, _, _, _, _, _, _, _, _, _, _, _, _, _, _, _, _, _, _, _, _, _, _, _, _, _, _, _, _, _, _, _, _, _, _, _, _, _, _, _, _, _, _, _, _, _, rfl, ?_⟩
        have h := HH.out.mono hwC
        exact ⟨h.bel, (fun e => h.p0 e), (fun e => h.p1 e), (fun e => h.p2 e), (fun e => h.p3 e), (fun e => h.p4 e), (fun e => h.p5 e), (fun e => h.p6 e), (fun _ => rfl), (fun e => h.p8 e), (fun e => h.p9 e), (fun e => h.p10 e), (fun e => h.p11 e), (fun e => h.p12 e), (fun e => h.p13 e), (fun e => h.p14 e), (fun e => h.p15 e), (fun e => h.p16 e), (fun e => h.p17 e), (fun e => h.p18 e), (fun e => h.p19 e), (fun e => h.p20 e), (fun e => h.p21 e), (fun e => h.p22 e), (fun e => h.p23 e), (fun e => h.p24 e), (fun e => h.p25 e), (fun e => h.p26 e), (fun e => h.p27 e), (fun e => h.p28 e), (fun e => h.p29 e), (fun e => h.p30 e), (fun e => h.p31 e), (fun e => h.p32 e), (fun e => h.p33 e), (fun e => h.p34 e), (fun e => h.p35 e), (fun e => h.p36 e), (fun e => h.p37 e), (fun e => h.p38 e), (fun e => h.p39 e), (fun e => h.p40 e), (fun e => h.p41 e), (fun e => h.p42 e), (fun e => h.p43 e), (fun e => h.p44 e), (fun e => h.p45 e)⟩
    · refine' wpOp_step (o := ?oHr_8) ?hoHr_8 (fun K hK => ?stHr_8)
      case hoHr_8 => rfl
      case stHr_8 =>
        have HK := Lib.hid hK; clear hK
        obtain rfl := HH.out.p7 (HWt.out 7 (by kernel_rfl))
        go_simp
        refine HK.out _ _ ⟨_, _, _, _, _, _, _, _, _, _, _, _, _, _, _, _, _, _, _, _, _, _, _, _, _, _, _, _, _, _, _, _, _, _, _, _, _, _, _, _, _, _, _, _, _, _, rfl, ?_⟩
        have h := HH.out
        exact ⟨h.bel, (fun e => h.p0 e), (fun e => h.p1 e), (fun e => h.p2 e), (fun e => h.p3 e), (fun e => h.p4 e), (fun e => h.p5 e), (fun e => h.p6 e), (fun e => h.p7 e), (fun _ => rfl), (fun e => h.p9 e), (fun e => h.p10 e), (fun e => h.p11 e), (fun e => h.p12 e), (fun e => h.p13 e), (fun e => h.p14 e), (fun e => h.p15 e), (fun e => h.p16 e), (fun e => h.p17 e), (fun e => h.p18 e), (fun e => h.p19 e), (fun e => h.p20 e), (fun e => h.p21 e), (fun e => h.p22 e), (fun e => h.p23 e), (fun e => h.p24 e), (fun e => h.p25 e), (fun e => h.p26 e), (fun e => h.p27 e), (fun e => h.p28 e), (fun e => h.p29 e), (fun e => h.p30 e), (fun e => h.p31 e), (fun e => h.p32 e), (fun e => h.p33 e), (fun e => h.p34 e), (fun e => h.p35 e), (fun e => h.p36 e), (fun e => h.p37 e), (fun e => h.p38 e), (fun e => h.p39 e), (fun e => h.p40 e), (fun e => h.p41 e), (fun e => h.p42 e), (fun e => h.p43 e), (fun e => h.p44 e), (fun e => h.p45 e)⟩
    · refine' wpOp_step (o := ?oHr_9) ?hoHr_9 (fun K hK => ?stHr_9)
      case hoHr_9 => rfl
      case stHr_9 =>
        have HK := Lib.hid hK; clear hK
        obtain rfl := HH.out.p8 (HWt.out 8 (by kernel_rfl))
        go_simp
        refine HK.out _ _ ⟨_, _, _, _, _, _, _, _, _, _, _, _, _, _, _, _, _, _, _, _, _, _, _, _, _, _, _, _, _, _, _, _, _, _, _, _, _, _, _, _, _, _, _, _, _, _, rfl, ?_⟩
        have h := HH.out
        exact ⟨h.bel, (fun e => h.p0 e), (fun e => h.p1 e), (fun e => h.p2 e), (fun e => h.p3 e), (fun e => h.p4 e), (fun e => h.p5 e), (fun e => h.p6 e), (fun e => h.p7 e), (fun e => h.p8 e), (fun _ => rfl), (fun e => h.p10 e), (fun e => h.p11 e), (fun e => h.p12 e), (fun e => h.p13 e), (fun e => h.p14 e), (fun e => h.p15 e), (fun e => h.p16 e), (fun e => h.p17 e), (fun e => h.p18 e), (fun e => h.p19 e), (fun e => h.p20 e), (fun e => h.p21 e), (fun e => h.p22 e), (fun e => h.p23 e), (fun e => h.p24 e), (fun e => h.p25 e), (fun e => h.p26 e), (fun e => h.p27 e), (fun e => h.p28 e), (fun e => h.p29 e), (fun e => h.p30 e), (fun e => h.p31 e), (fun e => h.p32 e), (fun e => h.p33 e), (fun e => h.p34 e), (fun e => h.p35 e), (fun e => h.p36 e), (fun e => h.p37 e), (fun e => h.p38 e), (fun e => h.p39 e), (fun e => h.p40 e), (fun e => h.p41 e), (fun e => h.p42 e), (fun e => h.p43 e), (fun e => h.p44 e), (fun e => h.p45 e)⟩
    · refine' wpOp_step (o := ?oHr_10) ?hoHr_10 (fun K hK => ?stHr_10)
      case hoHr_10 => rfl
      case stHr_10 =>
        have HK := Lib.hid hK; clear hK
        obtain rfl := HH.out.p9 (HWt.out 9 (by kernel_rfl))
        go_simp
        refine HK.out _ _ ⟨_, _, _, _, _, _, _, _, _, _, _, _, _, _, _, _, _, _, _, _, _, _, _, _, _, _, _, _, _, _, _, _, _, _, _, _, _, _, _, _, _, _, _, _, _, _, rfl, ?_⟩
        have h := HH.out
        exact ⟨h.bel, (fun e => h.p0 e), (fun e => h.p1 e), (fun e => h.p2 e), (fun e => h.p3 e), (fun e => h.p4 e), (fun e => h.p5 e), (fun e => h.p6 e), (fun e => h.p7 e), (fun e => h.p8 e), (fun e => h.p9 e), (fun _ => rfl), (fun e => h.p11 e), (fun e => h.p12 e), (fun e => h.p13 e), (fun e => h.p14 e), (fun e => h.p15 e), (fun e => h.p16 e), (fun e => h.p17 e), (fun e => h.p18 e), (fun e => h.p19 e), (fun e => h.p20 e), (fun e => h.p21 e), (fun e => h.p22 e), (fun e => h.p23 e), (fun e => h.p24 e), (fun e => h.p25 e), (fun e => h.p26 e), (fun e => h.p27 e), (fun e => h.p28 e), (fun e => h.p29 e), (fun e => h.p30 e), (fun e => h.p31 e), (fun e => h.p32 e), (fun e => h.p33 e), (fun e => h.p34 e), (fun e => h.p35 e), (fun e => h.p36 e), (fun e => h.p37 e), (fun e => h.p38 e), (fun e => h.p39 e), (fun e => h.p40 e), (fun e => h.p41 e), (fun e => h.p42 e), (fun e => h.p43 e), (fun e => h.p44 e), (fun e => h.p45 e)⟩
    · refine' wpOp_step (o := ?oHr_11) ?hoHr_11 (fun K hK => ?stHr_11)
      case hoHr_11 => rfl
      case stHr_11 =>
        have HK := Lib.hid hK; clear hK
        obtain rfl := HH.out.p9 (HWt.out 9 (by kernel_rfl))
        obtain rfl := HH.out.p10 (HWt.out 10 (by kernel_rfl))
        have q0 := bcellP HH.out.bel Fp0.out
        go_simp
        refine HK.out _ _ ⟨_, _, _, _, _, _, _, _, _, _, _, _, _, _, _, _, _, _, _, _, _, _, _, _, _, _, _, _, _, _, _, _, _, _, _, _, _, _, _, _, _, _, _, _, _, _, rfl, ?_⟩
        have h := HH.out
        exact ⟨h.bel, (fun e => h.p0 e), (fun e => h.p1 e), (fun e => h.p2 e), (fun e => h.p3 e), (fun e => h.p4 e), (fun e => h.p5 e), (fun e => h.p6 e), (fun e => h.p7 e), (fun e => h.p8 e), (fun e => h.p9 e), (fun e => h.p10 e), (fun _ => rfl), (fun e => h.p12 e), (fun e => h.p13 e), (fun e => h.p14 e), (fun e => h.p15 e), (fun e => h.p16 e), (fun e => h.p17 e), (fun e => h.p18 e), (fun e => h.p19 e), (fun e => h.p20 e), (fun e => h.p21 e), (fun e => h.p22 e), (fun e => h.p23 e), (fun e => h.p24 e), (fun e => h.p25 e), (fun e => h.p26 e), (fun e => h.p27 e), (fun e => h.p28 e), (fun e => h.p29 e), (fun e => h.p30 e), (fun e => h.p31 e), (fun e => h.p32 e), (fun e => h.p33 e), (fun e => h.p34 e), (fun e => h.p35 e), (fun e => h.p36 e), (fun e => h.p37 e), (fun e => h.p38 e), (fun e => h.p39 e), (fun e => h.p40 e), (fun e => h.p41 e), (fun e => h.p42 e), (fun e => h.p43 e), (fun e => h.p44 e), (fun e => h.p45 e)⟩
    · refine' wpOp_step (o := ?oHr_12) ?hoHr_12 (fun K hK => ?stHr_12)
      case hoHr_12 => rfl
      case stHr_12 =>
        have HK := Lib.hid hK; clear hK
        obtain rfl := HH.out.p9 (HWt.out 9 (by kernel_rfl))
        go_simp
        refine HK.out _ _ ⟨_, _, _, _, _, _, _, _, _, _, _, _, _, _, _, _, _, _, _, _, _, _, _, _, _, _, _, _, _, _, _, _, _, _, _, _, _, _, _, _, _, _, _, _, _, _, rfl, ?_⟩
        have h := HH.out
        exact ⟨h.bel, (fun e => h.p0 e), (fun e => h.p1 e), (fun e => h.p2 e), (fun e => h.p3 e), (fun e => h.p4 e), (fun e => h.p5 e), (fun e => h.p6 e), (fun e => h.p7 e), (fun e => h.p8 e), (fun e => h.p9 e), (fun e => h.p10 e), (fun e => h.p11 e), (fun _ => rfl), (fun e => h.p13 e), (fun e => h.p14 e), (fun e => h.p15 e), (fun e => h.p16 e), (fun e => h.p17 e), (fun e => h.p18 e), (fun e => h.p19 e), (fun e => h.p20 e), (fun e => h.p21 e), (fun e => h.p22 e), (fun e => h.p23 e), (fun e => h.p24 e), (fun e => h.p25 e), (fun e => h.p26 e), (fun e => h.p27 e), (fun e => h.p28 e), (fun e => h.p29 e), (fun e => h.p30 e), (fun e => h.p31 e), (fun e => h.p32 e), (fun e => h.p33 e), (fun e => h.p34 e), (fun e => h.p35 e), (fun e => h.p36 e), (fun e => h.p37 e), (fun e => h.p38 e), (fun e => h.p39 e), (fun e => h.p40 e), (fun e => h.p41 e), (fun e => h.p42 e), (fun e => h.p43 e), (fun e => h.p44 e), (fun e => h.p45 e)⟩
    · refine' wpOp_step (o := ?oHr_13) ?hoHr_13 (fun K hK => ?stHr_13)
      case hoHr_13 => rfl
      case stHr_13 =>
        have HK := Lib.hid hK; clear hK
        obtain rfl := HH.out.p9 (HWt.out 9 (by kernel_rfl))
        obtain rfl := HH.out.p12 (HWt.out 12 (by kernel_rfl))
        go_simp
        refine HK.out _ _ ⟨_, _, _, _, _, _, _, _, _, _, _, _, _, _, _, _, _, _, _, _, _, _, _, _, _, _, _, _, _, _, _, _, _, _, _, _, _, _, _, _, _, _, _, _, _, _, rfl, ?_⟩
        have h := HH.out
        exact ⟨h.bel, (fun e => h.p0 e), (fun e => h.p1 e), (fun e => h.p2 e), (fun e => h.p3 e), (fun e => h.p4 e), (fun e => h.p5 e), (fun e => h.p6 e), (fun e => h.p7 e), (fun e => h.p8 e), (fun e => h.p9 e), (fun e => h.p10 e), (fun e => h.p11 e), (fun e => h.p12 e), (fun _ => rfl), (fun e => h.p14 e), (fun e => h.p15 e), (fun e => h.p16 e), (fun e => h.p17 e), (fun e => h.p18 e), (fun e => h.p19 e), (fun e => h.p20 e), (fun e => h.p21 e), (fun e => h.p22 e), (fun e => h.p23 e), (fun e => h.p24 e), (fun e => h.p25 e), (fun e => h.p26 e), (fun e => h.p27 e), (fun e => h.p28 e), (fun e => h.p29 e), (fun e => h.p30 e), (fun e => h.p31 e), (fun e => h.p32 e), (fun e => h.p33 e), (fun e => h.p34 e), (fun e => h.p35 e), (fun e => h.p36 e), (fun e => h.p37 e), (fun e => h.p38 e), (fun e => h.p39 e), (fun e => h.p40 e), (fun e => h.p41 e), (fun e => h.p42 e), (fun e => h.p43 e), (fun e => h.p44 e), (fun e => h.p45 e)⟩
    · refine' wpOp_step (o := ?oHr_14) ?hoHr_14 (fun K hK => ?stHr_14)
      case hoHr_14 => rfl
      case stHr_14 =>
        have HK := Lib.hid hK; clear hK
        obtain rfl := HH.out.p9 (HWt.out 9 (by kernel_rfl))
        obtain rfl := HH.out.p13 (HWt.out 13 (by kernel_rfl))
        go_simp
        refine HK.out _ _ ⟨_, _, _, _, _, _, _, _, _, _, _, _, _, _, _, _, _, _, _, _, _, _, _, _, _, _, _, _, _, _, _, _, _, _, _, _, _, _, _, _, _, _, _, _, _, _, rfl, ?_⟩
        have h := HH.out
        exact ⟨h.bel, (fun e => h.p0 e), (fun e => h.p1 e), (fun e => h.p2 e), (fun e => h.p3 e), (fun e => h.p4 e), (fun e => h.p5 e), (fun e => h.p6 e), (fun e => h.p7 e), (fun e => h.p8 e), (fun e => h.p9 e), (fun e => h.p10 e), (fun e => h.p11 e), (fun e => h.p12 e), (fun e => h.p13 e), (fun _ => rfl), (fun e => h.p15 e), (fun e => h.p16 e), (fun e => h.p17 e), (fun e => h.p18 e), (fun e => h.p19 e), (fun e => h.p20 e), (fun e => h.p21 e), (fun e => h.p22 e), (fun e => h.p23 e), (fun e => h.p24 e), (fun e => h.p25 e), (fun e => h.p26 e), (fun e => h.p27 e), (fun e => h.p28 e), (fun e => h.p29 e), (fun e => h.p30 e), (fun e => h.p31 e), (fun e => h.p32 e), (fun e => h.p33 e), (fun e => h.p34 e), (fun e => h.p35 e), (fun e => h.p36 e), (fun e => h.p37 e), (fun e => h.p38 e), (fun e => h.p39 e), (fun e => h.p40 e), (fun e => h.p41 e), (fun e => h.p42 e), (fun e => h.p43 e), (fun e => h.p44 e), (fun e => h.p45 e)⟩
    · refine' wpOp_step (o := ?oHr_15) ?hoHr_15 (fun K hK => ?stHr_15)
      case hoHr_15 => rfl
      case stHr_15 =>
        have HK := Lib.hid hK; clear hK
        obtain rfl := HH.out.p9 (HWt.out 9 (by kernel_rfl))
        obtain rfl := HH.out.p14 (HWt.out 14 (by kernel_rfl))
        have q0 := bcellP HH.out.bel Fa0.out
        go_simp
        refine HK.out _ _ ⟨_, _, _, _, _, _, _, _, _, _, _, _, _, _, _, _, _, _, _, _, _, _, _, _, _, _, _, _, _, _, _, _, _, _, _, _, _, _, _, _, _, _, _, _, _, _, rfl, ?_⟩
        have h := HH.out
        exact ⟨h.bel, (fun e => h.p0 e), (fun e => h.p1 e), (fun e => h.p2 e), (fun e => h.p3 e), (fun e => h.p4 e), (fun e => h.p5 e), (fun e => h.p6 e), (fun e => h.p7 e), (fun e => h.p8 e), (fun e => h.p9 e), (fun e => h.p10 e), (fun e => h.p11 e), (fun e => h.p12 e), (fun e => h.p13 e), (fun e => h.p14 e), (fun _ => rfl), (fun e => h.p16 e), (fun e => h.p17 e), (fun e => h.p18 e), (fun e => h.p19 e), (fun e => h.p20 e), (fun e => h.p21 e), (fun e => h.p22 e), (fun e => h.p23 e), (fun e => h.p24 e), (fun e => h.p25 e), (fun e => h.p26 e), (fun e => h.p27 e), (fun e => h.p28 e), (fun e => h.p29 e), (fun e => h.p30 e), (fun e => h.p31 e), (fun e => h.p32 e), (fun e => h.p33 e), (fun e => h.p34 e), (fun e => h.p35 e), (fun e => h.p36 e), (fun e => h.p37 e), (fun e => h.p38 e), (fun e => h.p39 e), (fun e => h.p40 e), (fun e => h.p41 e), (fun e => h.p42 e), (fun e => h.p43 e), (fun e => h.p44 e), (fun e => h.p45 e)⟩
    · refine' wpOp_step (o := ?oHr_16) ?hoHr_16 (fun K hK => ?stHr_16)
      case hoHr_16 => rfl
      case stHr_16 =>
        have HK := Lib.hid hK; clear hK
        obtain rfl := HH.out.p9 (HWt.out 9 (by kernel_rfl))
        obtain rfl := HH.out.p11 (HWt.out 11 (by kernel_rfl))
        obtain rfl := HH.out.p15 (HWt.out 15 (by kernel_rfl))
        go_simp
        refine HK.out _ _ ⟨_, _, _, _, _, _, _, _, _, _, _, _, _, _, _, _, _, _, _, _, _, _, _, _, _, _, _, _, _, _, _, _, _, _, _, _, _, _, _, _, _, _, _, _, _, _, rfl, ?_⟩
        have h := HH.out
        exact ⟨h.bel, (fun e => h.p0 e), (fun e => h.p1 e), (fun e => h.p2 e), (fun e => h.p3 e), (fun e => h.p4 e), (fun e => h.p5 e), (fun e => h.p6 e), (fun e => h.p7 e), (fun e => h.p8 e), (fun e => h.p9 e), (fun e => h.p10 e), (fun e => h.p11 e), (fun e => h.p12 e), (fun e => h.p13 e), (fun e => h.p14 e), (fun e => h.p15 e), (fun _ => rfl), (fun e => h.p17 e), (fun e => h.p18 e), (fun e => h.p19 e), (fun e => h.p20 e), (fun e => h.p21 e), (fun e => h.p22 e), (fun e => h.p23 e), (fun e => h.p24 e), (fun e => h.p25 e), (fun e => h.p26 e), (fun e => h.p27 e), (fun e => h.p28 e), (fun e => h.p29 e), (fun e => h.p30 e), (fun e => h.p31 e), (fun e => h.p32 e), (fun e => h.p33 e), (fun e => h.p34 e), (fun e => h.p35 e), (fun e => h.p36 e), (fun e => h.p37 e), (fun e => h.p38 e), (fun e => h.p39 e), (fun e => h.p40 e), (fun e => h.p41 e), (fun e => h.p42 e), (fun e => h.p43 e), (fun e => h.p44 e), (fun e => h.p45 e)⟩
    · refine' wpOp_step (o := ?oHr_17) ?hoHr_17 (fun K hK => ?stHr_17)
      case hoHr_17 => rfl
      case stHr_17 =>
        have HK := Lib.hid hK; clear hK
        obtain rfl := HH.out.p9 (HWt.out 9 (by kernel_rfl))
        go_simp
        refine HK.out _ _ ⟨_, _, _, _, _, _, _, _, _, _, _, _, _, _, _, _, _, _, _, _, _, _, _, _, _, _, _, _, _, _, _, _, _, _, _, _, _, _, _, _, _, _, _, _, _, _, rfl, ?_⟩
        have h := HH.out
        exact ⟨h.bel, (fun e => h.p0 e), (fun e => h.p1 e), (fun e => h.p2 e), (fun e => h.p3 e), (fun e => h.p4 e), (fun e => h.p5 e), (fun e => h.p6 e), (fun e => h.p7 e), (fun e => h.p8 e), (fun e => h.p9 e), (fun e => h.p10 e), (fun e => h.p11 e), (fun e => h.p12 e), (fun e => h.p13 e), (fun e => h.p14 e), (fun e => h.p15 e), (fun e => h.p16 e), (fun _ => rfl), (fun e => h.p18 e), (fun e => h.p19 e), (fun e => h.p20 e), (fun e => h.p21 e), (fun e => h.p22 e), (fun e => h.p23 e), (fun e => h.p24 e), (fun e => h.p25 e), (fun e => h.p26 e), (fun e => h.p27 e), (fun e => h.p28 e), (fun e => h.p29 e), (fun e => h.p30 e), (fun e => h.p31 e), (fun e => h.p32 e), (fun e => h.p33 e), (fun e => h.p34 e), (fun e => h.p35 e), (fun e => h.p36 e), (fun e => h.p37 e), (fun e => h.p38 e), (fun e => h.p39 e), (fun e => h.p40 e), (fun e => h.p41 e), (fun e => h.p42 e), (fun e => h.p43 e), (fun e => h.p44 e), (fun e => h.p45 e)⟩
    · refine' wpOp_step (o := ?oHr_18) ?hoHr_18 (fun K hK => ?stHr_18)
      case hoHr_18 => rfl
      case stHr_18 =>
        have HK := Lib.hid hK; clear hK
        obtain rfl := HH.out.p9 (HWt.out 9 (by kernel_rfl))
        obtain rfl := HH.out.p17 (HWt.out 17 (by kernel_rfl))
        have q0 := bcellP HH.out.bel Fp0.out
        go_simp
        refine HK.out _ _ ⟨_, _, _, _, _, _, _, _, _, _, _, _, _, _, _, _, _, _, _, _, _, _, _, _, _, _, _, _, _, _, _, _, _, _, _, _, _, _, _, _, _, _, _, _, _, _, rfl, ?_⟩
        have h := HH.out
        exact ⟨h.bel, (fun e => h.p0 e), (fun e => h.p1 e), (fun e => h.p2 e), (fun e => h.p3 e), (fun e => h.p4 e), (fun e => h.p5 e), (fun e => h.p6 e), (fun e => h.p7 e), (fun e => h.p8 e), (fun e => h.p9 e), (fun e => h.p10 e), (fun e => h.p11 e), (fun e => h.p12 e), (fun e => h.p13 e), (fun e => h.p14 e), (fun e => h.p15 e), (fun e => h.p16 e), (fun e => h.p17 e), (fun _ => rfl), (fun e => h.p19 e), (fun e => h.p20 e), (fun e => h.p21 e), (fun e => h.p22 e), (fun e => h.p23 e), (fun e => h.p24 e), (fun e => h.p25 e), (fun e => h.p26 e), (fun e => h.p27 e), (fun e => h.p28 e), (fun e => h.p29 e), (fun e => h.p30 e), (fun e => h.p31 e), (fun e => h.p32 e), (fun e => h.p33 e), (fun e => h.p34 e), (fun e => h.p35 e), (fun e => h.p36 e), (fun e => h.p37 e), (fun e => h.p38 e), (fun e => h.p39 e), (fun e => h.p40 e), (fun e => h.p41 e), (fun e => h.p42 e), (fun e => h.p43 e), (fun e => h.p44 e), (fun e => h.p45 e)⟩
    · refine' wpOp_step (o := ?oHr_19) ?hoHr_19 (fun K hK => ?stHr_19)
      case hoHr_19 => rfl
      case stHr_19 =>
        have HK := Lib.hid hK; clear hK
        obtain rfl := HH.out.p9 (HWt.out 9 (by kernel_rfl))
        go_simp
        refine HK.out _ _ ⟨_, _, _, _, _, _, _, _, _, _, _, _, _, _, _, _, _, _, _, _, _, _, _, _, _, _, _, _, _, _, _, _, _, _, _, _, _, _, _, _, _, _, _, _, _, _, rfl, ?_⟩
        have h := HH.out
        exact ⟨h.bel, (fun e => h.p0 e), (fun e => h.p1 e), (fun e => h.p2 e), (fun e => h.p3 e), (fun e => h.p4 e), (fun e => h.p5 e), (fun e => h.p6 e), (fun e => h.p7 e), (fun e => h.p8 e), (fun e => h.p9 e), (fun e => h.p10 e), (fun e => h.p11 e), (fun e => h.p12 e), (fun e => h.p13 e), (fun e => h.p14 e), (fun e => h.p15 e), (fun e => h.p16 e), (fun e => h.p17 e), (fun e => h.p18 e), (fun _ => rfl), (fun e => h.p20 e), (fun e => h.p21 e), (fun e => h.p22 e), (fun e => h.p23 e), (fun e => h.p24 e), (fun e => h.p25 e), (fun e => h.p26 e), (fun e => h.p27 e), (fun e => h.p28 e), (fun e => h.p29 e), (fun e => h.p30 e), (fun e => h.p31 e), (fun e => h.p32 e), (fun e => h.p33 e), (fun e => h.p34 e), (fun e => h.p35 e), (fun e => h.p36 e), (fun e => h.p37 e), (fun e => h.p38 e), (fun e => h.p39 e), (fun e => h.p40 e), (fun e => h.p41 e), (fun e => h.p42 e), (fun e => h.p43 e), (fun e => h.p44 e), (fun e => h.p45 e)⟩
    · refine' wpOp_step (o := ?oHr_20) ?hoHr_20 (fun K hK => ?stHr_20)
      case hoHr_20 => rfl
      case stHr_20 =>
        have HK := Lib.hid hK; clear hK
        obtain rfl := HH.out.p9 (HWt.out 9 (by kernel_rfl))
        obtain rfl := HH.out.p19 (HWt.out 19 (by kernel_rfl))
        go_simp
        refine HK.out _ _ ⟨_, _, _, _, _, _, _, _, _, _, _, _, _, _, _, _, _, _, _, _, _, _, _, _, _, _, _, _, _, _, _, _, _, _, _, _, _, _, _, _, _, _, _, _, _, _, rfl, ?_⟩
        have h := HH.out
        exact ⟨h.bel, (fun e => h.p0 e), (fun e => h.p1 e), (fun e => h.p2 e), (fun e => h.p3 e), (fun e => h.p4 e), (fun e => h.p5 e), (fun e => h.p6 e), (fun e => h.p7 e), (fun e => h.p8 e), (fun e => h.p9 e), (fun e => h.p10 e), (fun e => h.p11 e), (fun e => h.p12 e), (fun e => h.p13 e), (fun e => h.p14 e), (fun e => h.p15 e), (fun e => h.p16 e), (fun e => h.p17 e), (fun e => h.p18 e), (fun e => h.p19 e), (fun _ => rfl), (fun e => h.p21 e), (fun e => h.p22 e), (fun e => h.p23 e), (fun e => h.p24 e), (fun e => h.p25 e), (fun e => h.p26 e), (fun e => h.p27 e), (fun e => h.p28 e), (fun e => h.p29 e), (fun e => h.p30 e), (fun e => h.p31 e), (fun e => h.p32 e), (fun e => h.p33 e), (fun e => h.p34 e), (fun e => h.p35 e), (fun e => h.p36 e), (fun e => h.p37 e), (fun e => h.p38 e), (fun e => h.p39 e), (fun e => h.p40 e), (fun e => h.p41 e), (fun e => h.p42 e), (fun e => h.p43 e), (fun e => h.p44 e), (fun e => h.p45 e)⟩
    · refine' wpOp_step (o := ?oHr_21) ?hoHr_21 (fun K hK => ?stHr_21)
      case hoHr_21 => rfl
      case stHr_21 =>
        have HK := Lib.hid hK; clear hK
        obtain rfl := HH.out.p9 (HWt.out 9 (by kernel_rfl))
        obtain rfl := HH.out.p20 (HWt.out 20 (by kernel_rfl))
        go_simp
        refine HK.out _ _ ⟨_, _, _, _, _, _, _, _, _, _, _, _, _, _, _, _, _, _, _, _, _, _, _, _, _, _, _, _, _, _, _, _, _, _, _, _, _, _, _, _, _, _, _, _, _, _, rfl, ?_⟩
        have h := HH.out
        exact ⟨h.bel, (fun e => h.p0 e), (fun e => h.p1 e), (fun e => h.p2 e), (fun e => h.p3 e), (fun e => h.p4 e), (fun e => h.p5 e), (fun e => h.p6 e), (fun e => h.p7 e), (fun e => h.p8 e), (fun e => h.p9 e), (fun e => h.p10 e), (fun e => h.p11 e), (fun e => h.p12 e), (fun e => h.p13 e), (fun e => h.p14 e), (fun e => h.p15 e), (fun e => h.p16 e), (fun e => h.p17 e), (fun e => h.p18 e), (fun e => h.p19 e), (fun e => h.p20 e), (fun _ => rfl), (fun e => h.p22 e), (fun e => h.p23 e), (fun e => h.p24 e), (fun e => h.p25 e), (fun e => h.p26 e), (fun e => h.p27 e), (fun e => h.p28 e), (fun e => h.p29 e), (fun e => h.p30 e), (fun e => h.p31 e), (fun e => h.p32 e), (fun e => h.p33 e), (fun e => h.p34 e), (fun e => h.p35 e), (fun e => h.p36 e), (fun e => h.p37 e), (fun e => h.p38 e), (fun e => h.p39 e), (fun e => h.p40 e), (fun e => h.p41 e), (fun e => h.p42 e), (fun e => h.p43 e), (fun e => h.p44 e), (fun e => h.p45 e)⟩
    · refine' wpOp_step (o := ?oHr_22) ?hoHr_22 (fun K hK => ?stHr_22)
      case hoHr_22 => rfl
      case stHr_22 =>
        have HK := Lib.hid hK; clear hK
        obtain rfl := HH.out.p9 (HWt.out 9 (by kernel_rfl))
        obtain rfl := HH.out.p21 (HWt.out 21 (by kernel_rfl))
        have q0 := bcellP HH.out.bel Fc0.out
        go_simp
        refine HK.out _ _ ⟨_, _, _, _, _, _, _, _, _, _, _, _, _, _, _, _, _, _, _, _, _, _, _, _, _, _, _, _, _, _, _, _, _, _, _, _, _, _, _, _, _, _, _, _, _, _, rfl, ?_⟩
        have h := HH.out
        exact ⟨h.bel, (fun e => h.p0 e), (fun e => h.p1 e), (fun e => h.p2 e), (fun e => h.p3 e), (fun e => h.p4 e), (fun e => h.p5 e), (fun e => h.p6 e), (fun e => h.p7 e), (fun e => h.p8 e), (fun e => h.p9 e), (fun e => h.p10 e), (fun e => h.p11 e), (fun e => h.p12 e), (fun e => h.p13 e), (fun e => h.p14 e), (fun e => h.p15 e), (fun e => h.p16 e), (fun e => h.p17 e), (fun e => h.p18 e), (fun e => h.p19 e), (fun e => h.p20 e), (fun e => h.p21 e), (fun _ => rfl), (fun e => h.p23 e), (fun e => h.p24 e), (fun e => h.p25 e), (fun e => h.p26 e), (fun e => h.p27 e), (fun e => h.p28 e), (fun e => h.p29 e), (fun e => h.p30 e), (fun e => h.p31 e), (fun e => h.p32 e), (fun e => h.p33 e), (fun e => h.p34 e), (fun e => h.p35 e), (fun e => h.p36 e), (fun e => h.p37 e), (fun e => h.p38 e), (fun e => h.p39 e), (fun e => h.p40 e), (fun e => h.p41 e), (fun e => h.p42 e), (fun e => h.p43 e), (fun e => h.p44 e), (fun e => h.p45 e)⟩
    · refine' wpOp_step (o := ?oHr_23) ?hoHr_23 (fun K hK => ?stHr_23)
      case hoHr_23 => rfl
      case stHr_23 =>
        have HK := Lib.hid hK; clear hK
        obtain rfl := HH.out.p9 (HWt.out 9 (by kernel_rfl))
        obtain rfl := HH.out.p18 (HWt.out 18 (by kernel_rfl))
        obtain rfl := HH.out.p22 (HWt.out 22 (by kernel_rfl))
        go_simp
        refine HK.out _ _ ⟨_, _, _, _, _, _, _, _, _, _, _, _, _, _, _, _, _, _, _, _, _, _, _, _, _, _, _, _, _, _, _, _, _, _, _, _, _, _, _, _, _, _, _, _, _, _, rfl, ?_⟩
        have h := HH.out
        exact ⟨h.bel, (fun e => h.p0 e), (fun e => h.p1 e), (fun e => h.p2 e), (fun e => h.p3 e), (fun e => h.p4 e), (fun e => h.p5 e), (fun e => h.p6 e), (fun e => h.p7 e), (fun e => h.p8 e), (fun e => h.p9 e), (fun e => h.p10 e), (fun e => h.p11 e), (fun e => h.p12 e), (fun e => h.p13 e), (fun e => h.p14 e), (fun e => h.p15 e), (fun e => h.p16 e), (fun e => h.p17 e), (fun e => h.p18 e), (fun e => h.p19 e), (fun e => h.p20 e), (fun e => h.p21 e), (fun e => h.p22 e), (fun _ => rfl), (fun e => h.p24 e), (fun e => h.p25 e), (fun e => h.p26 e), (fun e => h.p27 e), (fun e => h.p28 e), (fun e => h.p29 e), (fun e => h.p30 e), (fun e => h.p31 e), (fun e => h.p32 e), (fun e => h.p33 e), (fun e => h.p34 e), (fun e => h.p35 e), (fun e => h.p36 e), (fun e => h.p37 e), (fun e => h.p38 e), (fun e => h.p39 e), (fun e => h.p40 e), (fun e => h.p41 e), (fun e => h.p42 e), (fun e => h.p43 e), (fun e => h.p44 e), (fun e => h.p45 e)⟩
    · refine' wpOp_step (o := ?oHr_24) ?hoHr_24 (fun K hK => ?stHr_24)
      case hoHr_24 => rfl
      case stHr_24 =>
        have HK := Lib.hid hK; clear hK
        obtain rfl := HH.out.p9 (HWt.out 9 (by kernel_rfl))
        obtain rfl := HH.out.p16 (HWt.out 16 (by kernel_rfl))
        obtain rfl := HH.out.p23 (HWt.out 23 (by kernel_rfl))
        go_simp
        refine HK.out _ _ ⟨_, _, _, _, _, _, _, _, _, _, _, _, _, _, _, _, _, _, _, _, _, _, _, _, _, _, _, _, _, _, _, _, _, _, _, _, _, _, _, _, _, _, _, _, _, _, rfl, ?_⟩
        have h := HH.out
        exact ⟨h.bel, (fun e => h.p0 e), (fun e => h.p1 e), (fun e => h.p2 e), (fun e => h.p3 e), (fun e => h.p4 e), (fun e => h.p5 e), (fun e => h.p6 e), (fun e => h.p7 e), (fun e => h.p8 e), (fun e => h.p9 e), (fun e => h.p10 e), (fun e => h.p11 e), (fun e => h.p12 e), (fun e => h.p13 e), (fun e => h.p14 e), (fun e => h.p15 e), (fun e => h.p16 e), (fun e => h.p17 e), (fun e => h.p18 e), (fun e => h.p19 e), (fun e => h.p20 e), (fun e => h.p21 e), (fun e => h.p22 e), (fun e => h.p23 e), (fun _ => rfl), (fun e => h.p25 e), (fun e => h.p26 e), (fun e => h.p27 e), (fun e => h.p28 e), (fun e => h.p29 e), (fun e => h.p30 e), (fun e => h.p31 e), (fun e => h.p32 e), (fun e => h.p33 e), (fun e => h.p34 e), (fun e => h.p35 e), (fun e => h.p36 e), (fun e => h.p37 e), (fun e => h.p38 e), (fun e => h.p39 e), (fun e => h.p40 e), (fun e => h.p41 e), (fun e => h.p42 e), (fun e => h.p43 e), (fun e => h.p44 e), (fun e => h.p45 e)⟩
    · refine' wpOp_step (o := ?oHr_25) ?hoHr_25 (fun K hK => ?stHr_25)
      case hoHr_25 => rfl
      case stHr_25 =>
        have HK := Lib.hid hK; clear hK
        obtain rfl := HH.out.p9 (HWt.out 9 (by kernel_rfl))
        obtain rfl := HH.out.p24 (HWt.out 24 (by kernel_rfl))
        go_simp
        refine HK.out _ _ ⟨_, _, _, _, _, _, _, _, _, _, _, _, _, _, _, _, _, _, _, _, _, _, _, _, _, _, _, _, _, _, _, _, _, _, _, _, _, _, _, _, _, _, _, _, _, _, rfl, ?_⟩
        have h := HH.out
        exact ⟨h.bel, (fun e => h.p0 e), (fun e => h.p1 e), (fun e => h.p2 e), (fun e => h.p3 e), (fun e => h.p4 e), (fun e => h.p5 e), (fun e => h.p6 e), (fun e => h.p7 e), (fun e => h.p8 e), (fun e => h.p9 e), (fun e => h.p10 e), (fun e => h.p11 e), (fun e => h.p12 e), (fun e => h.p13 e), (fun e => h.p14 e), (fun e => h.p15 e), (fun e => h.p16 e), (fun e => h.p17 e), (fun e => h.p18 e), (fun e => h.p19 e), (fun e => h.p20 e), (fun e => h.p21 e), (fun e => h.p22 e), (fun e => h.p23 e), (fun e => h.p24 e), (fun _ => rfl), (fun e => h.p26 e), (fun e => h.p27 e), (fun e => h.p28 e), (fun e => h.p29 e), (fun e => h.p30 e), (fun e => h.p31 e), (fun e => h.p32 e), (fun e => h.p33 e), (fun e => h.p34 e), (fun e => h.p35 e), (fun e => h.p36 e), (fun e => h.p37 e), (fun e => h.p38 e), (fun e => h.p39 e), (fun e => h.p40 e), (fun e => h.p41 e), (fun e => h.p42 e), (fun e => h.p43 e), (fun e => h.p44 e), (fun e => h.p45 e)⟩
    · refine' wpOp_step (o := ?oHr_26) ?hoHr_26 (fun K hK => ?stHr_26)
      case hoHr_26 => rfl
      case stHr_26 =>
        have HK := Lib.hid hK; clear hK
        obtain rfl := HH.out.p9 (HWt.out 9 (by kernel_rfl))
        obtain rfl := HH.out.p25 (HWt.out 25 (by kernel_rfl))
        go_simp
        refine HK.out _ _ ⟨_, _, _, _, _, _, _, _, _, _, _, _, _, _, _, _, _, _, _, _, _, _, _, _, _, _, _, _, _, _, _, _, _, _, _, _, _, _, _, _, _, _, _, _, _, _, rfl, ?_⟩
        have h := HH.out
        exact ⟨h.bel, (fun e => h.p0 e), (fun e => h.p1 e), (fun e => h.p2 e), (fun e => h.p3 e), (fun e => h.p4 e), (fun e => h.p5 e), (fun e => h.p6 e), (fun e => h.p7 e), (fun e => h.p8 e), (fun e => h.p9 e), (fun e => h.p10 e), (fun e => h.p11 e), (fun e => h.p12 e), (fun e => h.p13 e), (fun e => h.p14 e), (fun e => h.p15 e), (fun e => h.p16 e), (fun e => h.p17 e), (fun e => h.p18 e), (fun e => h.p19 e), (fun e => h.p20 e), (fun e => h.p21 e), (fun e => h.p22 e), (fun e => h.p23 e), (fun e => h.p24 e), (fun e => h.p25 e), (fun _ => rfl), (fun e => h.p27 e), (fun e => h.p28 e), (fun e => h.p29 e), (fun e => h.p30 e), (fun e => h.p31 e), (fun e => h.p32 e), (fun e => h.p33 e), (fun e => h.p34 e), (fun e => h.p35 e), (fun e => h.p36 e), (fun e => h.p37 e), (fun e => h.p38 e), (fun e => h.p39 e), (fun e => h.p40 e), (fun e => h.p41 e), (fun e => h.p42 e), (fun e => h.p43 e), (fun e => h.p44 e), (fun e => h.p45 e)⟩
    · refine' wpOp_step (o := ?oHr_27) ?hoHr_27 (fun K hK => ?stHr_27)
      case hoHr_27 => rfl
      case stHr_27 =>
        have HK := Lib.hid hK; clear hK
        obtain rfl := HH.out.p26 (HWt.out 26 (by kernel_rfl))
        go_simp
        refine HK.out _ _ ⟨_, _, _, _, _, _, _, _, _, _, _, _, _, _, _, _, _, _, _, _, _, _, _, _, _, _, _, _, _, _, _, _, _, _, _, _, _, _, _, _, _, _, _, _, _, _, rfl, ?_⟩
        have h := HH.out
        exact ⟨h.bel, (fun e => h.p0 e), (fun e => h.p1 e), (fun e => h.p2 e), (fun e => h.p3 e), (fun e => h.p4 e), (fun e => h.p5 e), (fun e => h.p6 e), (fun e => h.p7 e), (fun e => h.p8 e), (fun e => h.p9 e), (fun e => h.p10 e), (fun e => h.p11 e), (fun e => h.p12 e), (fun e => h.p13 e), (fun e => h.p14 e), (fun e => h.p15 e), (fun e => h.p16 e), (fun e => h.p17 e), (fun e => h.p18 e), (fun e => h.p19 e), (fun e => h.p20 e), (fun e => h.p21 e), (fun e => h.p22 e), (fun e => h.p23 e), (fun e => h.p24 e), (fun e => h.p25 e), (fun e => h.p26 e), (fun _ => rfl), (fun e => h.p28 e), (fun e => h.p29 e), (fun e => h.p30 e), (fun e => h.p31 e), (fun e => h.p32 e), (fun e => h.p33 e), (fun e => h.p34 e), (fun e => h.p35 e), (fun e => h.p36 e), (fun e => h.p37 e), (fun e => h.p38 e), (fun e => h.p39 e), (fun e => h.p40 e), (fun e => h.p41 e), (fun e => h.p42 e), (fun e => h.p43 e), (fun e => h.p44 e), (fun e => h.p45 e)⟩
    · refine' wpOp_step (o := ?oHr_28) ?hoHr_28 (fun K hK => ?stHr_28)
      case hoHr_28 => rfl
      case stHr_28 =>
        have HK := Lib.hid hK; clear hK
        obtain rfl := HH.out.p27 (HWt.out 27 (by kernel_rfl))
        go_simp
        refine HK.out _ _ ⟨_, _, _, _, _, _, _, _, _, _, _, _, _, _, _, _, _, _, _, _, _, _, _, _, _, _, _, _, _, _, _, _, _, _, _, _, _, _, _, _, _, _, _, _, _, _, rfl, ?_⟩
        have h := HH.out
        exact ⟨h.bel, (fun e => h.p0 e), (fun e => h.p1 e), (fun e => h.p2 e), (fun e => h.p3 e), (fun e => h.p4 e), (fun e => h.p5 e), (fun e => h.p6 e), (fun e => h.p7 e), (fun e => h.p8 e), (fun e => h.p9 e), (fun e => h.p10 e), (fun e => h.p11 e), (fun e => h.p12 e), (fun e => h.p13 e), (fun e => h.p14 e), (fun e => h.p15 e), (fun e => h.p16 e), (fun e => h.p17 e), (fun e => h.p18 e), (fun e => h.p19 e), (fun e => h.p20 e), (fun e => h.p21 e), (fun e => h.p22 e), (fun e => h.p23 e), (fun e => h.p24 e), (fun e => h.p25 e), (fun e => h.p26 e), (fun e => h.p27 e), (fun _ => rfl), (fun e => h.p29 e), (fun e => h.p30 e), (fun e => h.p31 e), (fun e => h.p32 e), (fun e => h.p33 e), (fun e => h.p34 e), (fun e => h.p35 e), (fun e => h.p36 e), (fun e => h.p37 e), (fun e => h.p38 e), (fun e => h.p39 e), (fun e => h.p40 e), (fun e => h.p41 e), (fun e => h.p42 e), (fun e => h.p43 e), (fun e => h.p44 e), (fun e => h.p45 e)⟩
    · refine' wpOp_step (o := ?oHr_29) ?hoHr_29 (fun K hK => ?stHr_29)
      case hoHr_29 => rfl
      case stHr_29 =>
        have HK := Lib.hid hK; clear hK
        obtain rfl := HH.out.p27 (HWt.out 27 (by kernel_rfl))
        obtain rfl := HH.out.p28 (HWt.out 28 (by kernel_rfl))
        have q0 := bcellP HH.out.bel Fp1.out
        go_simp
        refine HK.out _ _ ⟨_, _, _, _, _, _, _, _, _, _, _, _, _, _, _, _, _, _, _, _, _, _, _, _, _, _, _, _, _, _, _, _, _, _, _, _, _, _, _, _, _, _, _, _, _, _, rfl, ?_⟩
        have h := HH.out
        exact ⟨h.bel, (fun e => h.p0 e), (fun e => h.p1 e), (fun e => h.p2 e), (fun e => h.p3 e), (fun e => h.p4 e), (fun e => h.p5 e), (fun e => h.p6 e), (fun e => h.p7 e), (fun e => h.p8 e), (fun e => h.p9 e), (fun e => h.p10 e), (fun e => h.p11 e), (fun e => h.p12 e), (fun e => h.p13 e), (fun e => h.p14 e), (fun e => h.p15 e), (fun e => h.p16 e), (fun e => h.p17 e), (fun e => h.p18 e), (fun e => h.p19 e), (fun e => h.p20 e), (fun e => h.p21 e), (fun e => h.p22 e), (fun e => h.p23 e), (fun e => h.p24 e), (fun e => h.p25 e), (fun e => h.p26 e), (fun e => h.p27 e), (fun e => h.p28 e), (fun _ => rfl), (fun e => h.p30 e), (fun e => h.p31 e), (fun e => h.p32 e), (fun e => h.p33 e), (fun e => h.p34 e), (fun e => h.p35 e), (fun e => h.p36 e), (fun e => h.p37 e), (fun e => h.p38 e), (fun e => h.p39 e), (fun e => h.p40 e), (fun e => h.p41 e), (fun e => h.p42 e), (fun e => h.p43 e), (fun e => h.p44 e), (fun e => h.p45 e)⟩
    · refine' wpOp_step (o := ?oHr_30) ?hoHr_30 (fun K hK => ?stHr_30)
      case hoHr_30 => rfl
      case stHr_30 =>
        have HK := Lib.hid hK; clear hK
        obtain rfl := HH.out.p27 (HWt.out 27 (by kernel_rfl))
        go_simp
        refine HK.out _ _ ⟨_, _, _, _, _, _, _, _, _, _, _, _, _, _, _, _, _, _, _, _, _, _, _, _, _, _, _, _, _, _, _, _, _, _, _, _, _, _, _, _, _, _, _, _, _, _, rfl, ?_⟩
        have h := HH.out
        exact ⟨h.bel, (fun e => h.p0 e), (fun e => h.p1 e), (fun e => h.p2 e), (fun e => h.p3 e), (fun e => h.p4 e), (fun e => h.p5 e), (fun e => h.p6 e), (fun e => h.p7 e), (fun e => h.p8 e), (fun e => h.p9 e), (fun e => h.p10 e), (fun e => h.p11 e), (fun e => h.p12 e), (fun e => h.p13 e), (fun e => h.p14 e), (fun e => h.p15 e), (fun e => h.p16 e), (fun e => h.p17 e), (fun e => h.p18 e), (fun e => h.p19 e), (fun e => h.p20 e), (fun e => h.p21 e), (fun e => h.p22 e), (fun e => h.p23 e), (fun e => h.p24 e), (fun e => h.p25 e), (fun e => h.p26 e), (fun e => h.p27 e), (fun e => h.p28 e), (fun e => h.p29 e), (fun _ => rfl), (fun e => h.p31 e), (fun e => h.p32 e), (fun e => h.p33 e), (fun e => h.p34 e), (fun e => h.p35 e), (fun e => h.p36 e), (fun e => h.p37 e), (fun e => h.p38 e), (fun e => h.p39 e), (fun e => h.p40 e), (fun e => h.p41 e), (fun e => h.p42 e), (fun e => h.p43 e), (fun e => h.p44 e), (fun e => h.p45 e)⟩
    · refine' wpOp_step (o := ?oHr_31) ?hoHr_31 (fun K hK => ?stHr_31)
      case hoHr_31 => rfl
      case stHr_31 =>
        have HK := Lib.hid hK; clear hK
        obtain rfl := HH.out.p27 (HWt.out 27 (by kernel_rfl))
        obtain rfl := HH.out.p30 (HWt.out 30 (by kernel_rfl))
        go_simp
        refine HK.out _ _ ⟨_, _, _, _, _, _, _, _, _, _, _, _, _, _, _, _, _, _, _, _, _, _, _, _, _, _, _, _, _, _, _, _, _, _, _, _, _, _, _, _, _, _, _, _, _, _, rfl, ?_⟩
        have h := HH.out
        exact ⟨h.bel, (fun e => h.p0 e), (fun e => h.p1 e), (fun e => h.p2 e), (fun e => h.p3 e), (fun e => h.p4 e), (fun e => h.p5 e), (fun e => h.p6 e), (fun e => h.p7 e), (fun e => h.p8 e), (fun e => h.p9 e), (fun e => h.p10 e), (fun e => h.p11 e), (fun e => h.p12 e), (fun e => h.p13 e), (fun e => h.p14 e), (fun e => h.p15 e), (fun e => h.p16 e), (fun e => h.p17 e), (fun e => h.p18 e), (fun e => h.p19 e), (fun e => h.p20 e), (fun e => h.p21 e), (fun e => h.p22 e), (fun e => h.p23 e), (fun e => h.p24 e), (fun e => h.p25 e), (fun e => h.p26 e), (fun e => h.p27 e), (fun e => h.p28 e), (fun e => h.p29 e), (fun e => h.p30 e), (fun _ => rfl), (fun e => h.p32 e), (fun e => h.p33 e), (fun e => h.p34 e), (fun e => h.p35 e), (fun e => h.p36 e), (fun e => h.p37 e), (fun e => h.p38 e), (fun e => h.p39 e), (fun e => h.p40 e), (fun e => h.p41 e), (fun e => h.p42 e), (fun e => h.p43 e), (fun e => h.p44 e), (fun e => h.p45 e)⟩
    · refine' wpOp_step (o := ?oHr_32) ?hoHr_32 (fun K hK => ?stHr_32)
      case hoHr_32 => rfl
      case stHr_32 =>
        have HK := Lib.hid hK; clear hK
        obtain rfl := HH.out.p27 (HWt.out 27 (by kernel_rfl))
        obtain rfl := HH.out.p31 (HWt.out 31 (by kernel_rfl))
        go_simp
        refine HK.out _ _ ⟨_, _, _, _, _, _, _, _, _, _, _, _, _, _, _, _, _, _, _, _, _, _, _, _, _, _, _, _, _, _, _, _, _, _, _, _, _, _, _, _, _, _, _, _, _, _, rfl, ?_⟩
        have h := HH.out
        exact ⟨h.bel, (fun e => h.p0 e), (fun e => h.p1 e), (fun e => h.p2 e), (fun e => h.p3 e), (fun e => h.p4 e), (fun e => h.p5 e), (fun e => h.p6 e), (fun e => h.p7 e), (fun e => h.p8 e), (fun e => h.p9 e), (fun e => h.p10 e), (fun e => h.p11 e), (fun e => h.p12 e), (fun e => h.p13 e), (fun e => h.p14 e), (fun e => h.p15 e), (fun e => h.p16 e), (fun e => h.p17 e), (fun e => h.p18 e), (fun e => h.p19 e), (fun e => h.p20 e), (fun e => h.p21 e), (fun e => h.p22 e), (fun e => h.p23 e), (fun e => h.p24 e), (fun e => h.p25 e), (fun e => h.p26 e), (fun e => h.p27 e), (fun e => h.p28 e), (fun e => h.p29 e), (fun e => h.p30 e), (fun e => h.p31 e), (fun _ => rfl), (fun e => h.p33 e), (fun e => h.p34 e), (fun e => h.p35 e), (fun e => h.p36 e), (fun e => h.p37 e), (fun e => h.p38 e), (fun e => h.p39 e), (fun e => h.p40 e), (fun e => h.p41 e), (fun e => h.p42 e), (fun e => h.p43 e), (fun e => h.p44 e), (fun e => h.p45 e)⟩
    · refine' wpOp_step (o := ?oHr_33) ?hoHr_33 (fun K hK => ?stHr_33)
      case hoHr_33 => rfl
      case stHr_33 =>
        have HK := Lib.hid hK; clear hK
        obtain rfl := HH.out.p27 (HWt.out 27 (by kernel_rfl))
        obtain rfl := HH.out.p32 (HWt.out 32 (by kernel_rfl))
        have q0 := bcellP HH.out.bel Fa1.out
        go_simp
        refine HK.out _ _ ⟨_, _, _, _, _, _, _, _, _, _, _, _, _, _, _, _, _, _, _, _, _, _, _, _, _, _, _, _, _, _, _, _, _, _, _, _, _, _, _, _, _, _, _, _, _, _, rfl, ?_⟩
        have h := HH.out
        exact ⟨h.bel, (fun e => h.p0 e), (fun e => h.p1 e), (fun e => h.p2 e), (fun e => h.p3 e), (fun e => h.p4 e), (fun e => h.p5 e), (fun e => h.p6 e), (fun e => h.p7 e), (fun e => h.p8 e), (fun e => h.p9 e), (fun e => h.p10 e), (fun e => h.p11 e), (fun e => h.p12 e), (fun e => h.p13 e), (fun e => h.p14 e), (fun e => h.p15 e), (fun e => h.p16 e), (fun e => h.p17 e), (fun e => h.p18 e), (fun e => h.p19 e), (fun e => h.p20 e), (fun e => h.p21 e), (fun e => h.p22 e), (fun e => h.p23 e), (fun e => h.p24 e), (fun e => h.p25 e), (fun e => h.p26 e), (fun e => h.p27 e), (fun e => h.p28 e), (fun e => h.p29 e), (fun e => h.p30 e), (fun e => h.p31 e), (fun e => h.p32 e), (fun _ => rfl), (fun e => h.p34 e), (fun e => h.p35 e), (fun e => h.p36 e), (fun e => h.p37 e), (fun e => h.p38 e), (fun e => h.p39 e), (fun e => h.p40 e), (fun e => h.p41 e), (fun e => h.p42 e), (fun e => h.p43 e), (fun e => h.p44 e), (fun e => h.p45 e)⟩
    · refine' wpOp_step (o := ?oHr_34) ?hoHr_34 (fun K hK => ?stHr_34)
      case hoHr_34 => rfl
      case stHr_34 =>
        have HK := Lib.hid hK; clear hK
        obtain rfl := HH.out.p27 (HWt.out 27 (by kernel_rfl))
        obtain rfl := HH.out.p29 (HWt.out 29 (by kernel_rfl))
        obtain rfl := HH.out.p33 (HWt.out 33 (by kernel_rfl))
        go_simp
        refine HK.out _ _ ⟨_, _, _, _, _, _, _, _, _, _, _, _, _, _, _, _, _, _, _, _, _, _, _, _, _, _, _, _, _, _, _, _, _, _, _, _, _, _, _, _, _, _, _, _, _, _, rfl, ?_⟩
        have h := HH.out
        exact ⟨h.bel, (fun e => h.p0 e), (fun e => h.p1 e), (fun e => h.p2 e), (fun e => h.p3 e), (fun e => h.p4 e), (fun e => h.p5 e), (fun e => h.p6 e), (fun e => h.p7 e), (fun e => h.p8 e), (fun e => h.p9 e), (fun e => h.p10 e), (fun e => h.p11 e), (fun e => h.p12 e), (fun e => h.p13 e), (fun e => h.p14 e), (fun e => h.p15 e), (fun e => h.p16 e), (fun e => h.p17 e), (fun e => h.p18 e), (fun e => h.p19 e), (fun e => h.p20 e), (fun e => h.p21 e), (fun e => h.p22 e), (fun e => h.p23 e), (fun e => h.p24 e), (fun e => h.p25 e), (fun e => h.p26 e), (fun e => h.p27 e), (fun e => h.p28 e), (fun e => h.p29 e), (fun e => h.p30 e), (fun e => h.p31 e), (fun e => h.p32 e), (fun e => h.p33 e), (fun _ => rfl), (fun e => h.p35 e), (fun e => h.p36 e), (fun e => h.p37 e), (fun e => h.p38 e), (fun e => h.p39 e), (fun e => h.p40 e), (fun e => h.p41 e), (fun e => h.p42 e), (fun e => h.p43 e), (fun e => h.p44 e), (fun e => h.p45 e)⟩
    · refine' wpOp_step (o := ?oHr_35) ?hoHr_35 (fun K hK => ?stHr_35)
      case hoHr_35 => rfl
      case stHr_35 =>
        have HK := Lib.hid hK; clear hK
        obtain rfl := HH.out.p27 (HWt.out 27 (by kernel_rfl))
        go_simp
        refine HK.out _ _ ⟨_, _, _, _, _, _, _, _, _, _, _, _, _, _, _, _, _, _, _, _, _, _, _, _, _, _, _, _, _, _, _, _, _, _, _, _, _, _, _, _, _, _, _, _, _, _, rfl, ?_⟩
        have h := HH.out
        exact ⟨h.bel, (fun e => h.p0 e), (fun e => h.p1 e), (fun e => h.p2 e), (fun e => h.p3 e), (fun e => h.p4 e), (fun e => h.p5 e), (fun e => h.p6 e), (fun e => h.p7 e), (fun e => h.p8 e), (fun e => h.p9 e), (fun e => h.p10 e), (fun e => h.p11 e), (fun e => h.p12 e), (fun e => h.p13 e), (fun e => h.p14 e), (fun e => h.p15 e), (fun e => h.p16 e), (fun e => h.p17 e), (fun e => h.p18 e), (fun e => h.p19 e), (fun e => h.p20 e), (fun e => h.p21 e), (fun e => h.p22 e), (fun e => h.p23 e), (fun e => h.p24 e), (fun e => h.p25 e), (fun e => h.p26 e), (fun e => h.p27 e), (fun e => h.p28 e), (fun e => h.p29 e), (fun e => h.p30 e), (fun e => h.p31 e), (fun e => h.p32 e), (fun e => h.p33 e), (fun e => h.p34 e), (fun _ => rfl), (fun e => h.p36 e), (fun e => h.p37 e), (fun e => h.p38 e), (fun e => h.p39 e), (fun e => h.p40 e), (fun e => h.p41 e), (fun e => h.p42 e), (fun e => h.p43 e), (fun e => h.p44 e), (fun e => h.p45 e)⟩
    · refine' wpOp_step (o := ?oHr_36) ?hoHr_36 (fun K hK => ?stHr_36)
      case hoHr_36 => rfl
      case stHr_36 =>
        have HK := Lib.hid hK; clear hK
        obtain rfl := HH.out.p27 (HWt.out 27 (by kernel_rfl))
        obtain rfl := HH.out.p35 (HWt.out 35 (by kernel_rfl))
        have q0 := bcellP HH.out.bel Fp1.out
        go_simp
        refine HK.out _ _ ⟨_, _, _, _, _, _, _, _, _, _, _, _, _, _, _, _, _, _, _, _, _, _, _, _, _, _, _, _, _, _, _, _, _, _, _, _, _, _, _, _, _, _, _, _, _, _, rfl, ?_⟩
        have h := HH.out
        exact ⟨h.bel, (fun e => h.p0 e), (fun e => h.p1 e), (fun e => h.p2 e), (fun e => h.p3 e), (fun e => h.p4 e), (fun e => h.p5 e), (fun e => h.p6 e), (fun e => h.p7 e), (fun e => h.p8 e), (fun e => h.p9 e), (fun e => h.p10 e), (fun e => h.p11 e), (fun e => h.p12 e), (fun e => h.p13 e), (fun e => h.p14 e), (fun e => h.p15 e), (fun e => h.p16 e), (fun e => h.p17 e), (fun e => h.p18 e), (fun e => h.p19 e), (fun e => h.p20 e), (fun e => h.p21 e), (fun e => h.p22 e), (fun e => h.p23 e), (fun e => h.p24 e), (fun e => h.p25 e), (fun e => h.p26 e), (fun e => h.p27 e), (fun e => h.p28 e), (fun e => h.p29 e), (fun e => h.p30 e), (fun e => h.p31 e), (fun e => h.p32 e), (fun e => h.p33 e), (fun e => h.p34 e), (fun e => h.p35 e), (fun _ => rfl), (fun e => h.p37 e), (fun e => h.p38 e), (fun e => h.p39 e), (fun e => h.p40 e), (fun e => h.p41 e), (fun e => h.p42 e), (fun e => h.p43 e), (fun e => h.p44 e), (fun e => h.p45 e)⟩
    · refine' wpOp_step (o := ?oHr_37) ?hoHr_37 (fun K hK => ?stHr_37)
      case hoHr_37 => rfl
      case stHr_37 =>
        have HK := Lib.hid hK; clear hK
        obtain rfl := HH.out.p27 (HWt.out 27 (by kernel_rfl))
        go_simp
        refine HK.out _ _ ⟨_, _, _, _, _, _, _, _, _, _, _, _, _, _, _, _, _, _, _, _, _, _, _, _, _, _, _, _, _, _, _, _, _, _, _, _, _, _, _, _, _, _, _, _, _, _, rfl, ?_⟩
        have h := HH.out
        exact ⟨h.bel, (fun e => h.p0 e), (fun e => h.p1 e), (fun e => h.p2 e), (fun e => h.p3 e), (fun e => h.p4 e), (fun e => h.p5 e), (fun e => h.p6 e), (fun e => h.p7 e), (fun e => h.p8 e), (fun e => h.p9 e), (fun e => h.p10 e), (fun e => h.p11 e), (fun e => h.p12 e), (fun e => h.p13 e), (fun e => h.p14 e), (fun e => h.p15 e), (fun e => h.p16 e), (fun e => h.p17 e), (fun e => h.p18 e), (fun e => h.p19 e), (fun e => h.p20 e), (fun e => h.p21 e), (fun e => h.p22 e), (fun e => h.p23 e), (fun e => h.p24 e), (fun e => h.p25 e), (fun e => h.p26 e), (fun e => h.p27 e), (fun e => h.p28 e), (fun e => h.p29 e), (fun e => h.p30 e), (fun e => h.p31 e), (fun e => h.p32 e), (fun e => h.p33 e), (fun e => h.p34 e), (fun e => h.p35 e), (fun e => h.p36 e), (fun _ => rfl), (fun e => h.p38 e), (fun e => h.p39 e), (fun e => h.p40 e), (fun e => h.p41 e), (fun e => h.p42 e), (fun e => h.p43 e), (fun e => h.p44 e), (fun e => h.p45 e)⟩
    · refine' wpOp_step (o := ?oHr_38) ?hoHr_38 (fun K hK => ?stHr_38)
      case hoHr_38 => rfl
      case stHr_38 =>
        have HK := Lib.hid hK; clear hK
        obtain rfl := HH.out.p27 (HWt.out 27 (by kernel_rfl))
        obtain rfl := HH.out.p37 (HWt.out 37 (by kernel_rfl))
        go_simp
        refine HK.out _ _ ⟨_, _, _, _, _, _, _, _, _, _, _, _, _, _, _, _, _, _, _, _, _, _, _, _, _, _, _, _, _, _, _, _, _, _, _, _, _, _, _, _, _, _, _, _, _, _, rfl, ?_⟩
        have h := HH.out
        exact ⟨h.bel, (fun e => h.p0 e), (fun e => h.p1 e), (fun e => h.p2 e), (fun e => h.p3 e), (fun e => h.p4 e), (fun e => h.p5 e), (fun e => h.p6 e), (fun e => h.p7 e), (fun e => h.p8 e), (fun e => h.p9 e), (fun e => h.p10 e), (fun e => h.p11 e), (fun e => h.p12 e), (fun e => h.p13 e), (fun e => h.p14 e), (fun e => h.p15 e), (fun e => h.p16 e), (fun e => h.p17 e), (fun e => h.p18 e), (fun e => h.p19 e), (fun e => h.p20 e), (fun e => h.p21 e), (fun e => h.p22 e), (fun e => h.p23 e), (fun e => h.p24 e), (fun e => h.p25 e), (fun e => h.p26 e), (fun e => h.p27 e), (fun e => h.p28 e), (fun e => h.p29 e), (fun e => h.p30 e), (fun e => h.p31 e), (fun e => h.p32 e), (fun e => h.p33 e), (fun e => h.p34 e), (fun e => h.p35 e), (fun e => h.p36 e), (fun e => h.p37 e), (fun _ => rfl), (fun e => h.p39 e), (fun e => h.p40 e), (fun e => h.p41 e), (fun e => h.p42 e), (fun e => h.p43 e), (fun e => h.p44 e), (fun e => h.p45 e)⟩
    · refine' wpOp_step (o := ?oHr_39) ?hoHr_39 (fun K hK => ?stHr_39)
      case hoHr_39 => rfl
      case stHr_39 =>
        have HK := Lib.hid hK; clear hK
        obtain rfl := HH.out.p27 (HWt.out 27 (by kernel_rfl))
        obtain rfl := HH.out.p38 (HWt.out 38 (by kernel_rfl))
        go_simp
        refine HK.out _ _ ⟨_, _, _, _, _, _, _, _, _, _, _, _, _, _, _, _, _, _, _, _, _, _, _, _, _, _, _, _, _, _, _, _, _, _, _, _, _, _, _, _, _, _, _, _, _, _, rfl, ?_⟩
        have h := HH.out
        exact ⟨h.bel, (fun e => h.p0 e), (fun e => h.p1 e), (fun e => h.p2 e), (fun e => h.p3 e), (fun e => h.p4 e), (fun e => h.p5 e), (fun e => h.p6 e), (fun e => h.p7 e), (fun e => h.p8 e), (fun e => h.p9 e), (fun e => h.p10 e), (fun e => h.p11 e), (fun e => h.p12 e), (fun e => h.p13 e), (fun e => h.p14 e), (fun e => h.p15 e), (fun e => h.p16 e), (fun e => h.p17 e), (fun e => h.p18 e), (fun e => h.p19 e), (fun e => h.p20 e), (fun e => h.p21 e), (fun e => h.p22 e), (fun e => h.p23 e), (fun e => h.p24 e), (fun e => h.p25 e), (fun e => h.p26 e), (fun e => h.p27 e), (fun e => h.p28 e), (fun e => h.p29 e), (fun e => h.p30 e), (fun e => h.p31 e), (fun e => h.p32 e), (fun e => h.p33 e), (fun e => h.p34 e), (fun e => h.p35 e), (fun e => h.p36 e), (fun e => h.p37 e), (fun e => h.p38 e), (fun _ => rfl), (fun e => h.p40 e), (fun e => h.p41 e), (fun e => h.p42 e), (fun e => h.p43 e), (fun e => h.p44 e), (fun e => h.p45 e)⟩
    · refine' wpOp_step (o := ?oHr_40) ?hoHr_40 (fun K hK => ?stHr_40)
      case hoHr_40 => rfl
      case stHr_40 =>
        have HK := Lib.hid hK; clear hK
        obtain rfl := HH.out.p27 (HWt.out 27 (by kernel_rfl))
        obtain rfl := HH.out.p39 (HWt.out 39 (by kernel_rfl))
        have q0 := bcellP HH.out.bel Fc1.out
        go_simp
        refine HK.out _ _ ⟨_, _, _, _, _, _, _, _, _, _, _, _, _, _, _, _, _, _, _, _, _, _, _, _, _, _, _, _, _, _, _, _, _, _, _, _, _, _, _, _, _, _, _, _, _, _, rfl, ?_⟩
        have h := HH.out
        exact ⟨h.bel, (fun e => h.p0 e), (fun e => h.p1 e), (fun e => h.p2 e), (fun e => h.p3 e), (fun e => h.p4 e), (fun e => h.p5 e), (fun e => h.p6 e), (fun e => h.p7 e), (fun e => h.p8 e), (fun e => h.p9 e), (fun e => h.p10 e), (fun e => h.p11 e), (fun e => h.p12 e), (fun e => h.p13 e), (fun e => h.p14 e), (fun e => h.p15 e), (fun e => h.p16 e), (fun e => h.p17 e), (fun e => h.p18 e), (fun e => h.p19 e), (fun e => h.p20 e), (fun e => h.p21 e), (fun e => h.p22 e), (fun e => h.p23 e), (fun e => h.p24 e), (fun e => h.p25 e), (fun e => h.p26 e), (fun e => h.p27 e), (fun e => h.p28 e), (fun e => h.p29 e), (fun e => h.p30 e), (fun e => h.p31 e), (fun e => h.p32 e), (fun e => h.p33 e), (fun e => h.p34 e), (fun e => h.p35 e), (fun e => h.p36 e), (fun e => h.p37 e), (fun e => h.p38 e), (fun e => h.p39 e), (fun _ => rfl), (fun e => h.p41 e), (fun e => h.p42 e), (fun e => h.p43 e), (fun e => h.p44 e), (fun e => h.p45 e)⟩
    · refine' wpOp_step (o := ?oHr_41) ?hoHr_41 (fun K hK => ?stHr_41)
      case hoHr_41 => rfl
      case stHr_41 =>
        have HK := Lib.hid hK; clear hK
        obtain rfl := HH.out.p27 (HWt.out 27 (by kernel_rfl))
        obtain rfl := HH.out.p36 (HWt.out 36 (by kernel_rfl))
        obtain rfl := HH.out.p40 (HWt.out 40 (by kernel_rfl))
        go_simp
        refine HK.out _ _ ⟨_, _, _, _, _, _, _, _, _, _, _, _, _, _, _, _, _, _, _, _, _, _, _, _, _, _, _, _, _, _, _, _, _, _, _, _, _, _, _, _, _, _, _, _, _, _, rfl, ?_⟩
        have h := HH.out
        exact ⟨h.bel, (fun e => h.p0 e), (fun e => h.p1 e), (fun e => h.p2 e), (fun e => h.p3 e), (fun e => h.p4 e), (fun e => h.p5 e), (fun e => h.p6 e), (fun e => h.p7 e), (fun e => h.p8 e), (fun e => h.p9 e), (fun e => h.p10 e), (fun e => h.p11 e), (fun e => h.p12 e), (fun e => h.p13 e), (fun e => h.p14 e), (fun e => h.p15 e), (fun e => h.p16 e), (fun e => h.p17 e), (fun e => h.p18 e), (fun e => h.p19 e), (fun e => h.p20 e), (fun e => h.p21 e), (fun e => h.p22 e), (fun e => h.p23 e), (fun e => h.p24 e), (fun e => h.p25 e), (fun e => h.p26 e), (fun e => h.p27 e), (fun e => h.p28 e), (fun e => h.p29 e), (fun e => h.p30 e), (fun e => h.p31 e), (fun e => h.p32 e), (fun e => h.p33 e), (fun e => h.p34 e), (fun e => h.p35 e), (fun e => h.p36 e), (fun e => h.p37 e), (fun e => h.p38 e), (fun e => h.p39 e), (fun e => h.p40 e), (fun _ => rfl), (fun e => h.p42 e), (fun e => h.p43 e), (fun e => h.p44 e), (fun e => h.p45 e)⟩
    · refine' wpOp_step (o := ?oHr_42) ?hoHr_42 (fun K hK => ?stHr_42)
      case hoHr_42 => rfl
      case stHr_42 =>
        have HK := Lib.hid hK; clear hK
        obtain rfl := HH.out.p27 (HWt.out 27 (by kernel_rfl))
        obtain rfl := HH.out.p34 (HWt.out 34 (by kernel_rfl))
        obtain rfl := HH.out.p41 (HWt.out 41 (by kernel_rfl))
        go_simp
        refine HK.out _ _ ⟨_, _, _, _, _, _, _, _, _, _, _, _, _, _, _, _, _, _, _, _, _, _, _, _, _, _, _, _, _, _, _, _, _, _, _, _, _, _, _, _, _, _, _, _, _, _, rfl, ?_⟩
        have h := HH.out
        exact ⟨h.bel, (fun e => h.p0 e), (fun e => h.p1 e), (fun e => h.p2 e), (fun e => h.p3 e), (fun e => h.p4 e), (fun e => h.p5 e), (fun e => h.p6 e), (fun e => h.p7 e), (fun e => h.p8 e), (fun e => h.p9 e), (fun e => h.p10 e), (fun e => h.p11 e), (fun e => h.p12 e), (fun e => h.p13 e), (fun e => h.p14 e), (fun e => h.p15 e), (fun e => h.p16 e), (fun e => h.p17 e), (fun e => h.p18 e), (fun e => h.p19 e), (fun e => h.p20 e), (fun e => h.p21 e), (fun e => h.p22 e), (fun e => h.p23 e), (fun e => h.p24 e), (fun e => h.p25 e), (fun e => h.p26 e), (fun e => h.p27 e), (fun e => h.p28 e), (fun e => h.p29 e), (fun e => h.p30 e), (fun e => h.p31 e), (fun e => h.p32 e), (fun e => h.p33 e), (fun e => h.p34 e), (fun e => h.p35 e), (fun e => h.p36 e), (fun e => h.p37 e), (fun e => h.p38 e), (fun e => h.p39 e), (fun e => h.p40 e), (fun e => h.p41 e), (fun _ => rfl), (fun e => h.p43 e), (fun e => h.p44 e), (fun e => h.p45 e)⟩
    · refine' wpOp_step (o := ?oHr_43) ?hoHr_43 (fun K hK => ?stHr_43)
      case hoHr_43 => rfl
      case stHr_43 =>
        have HK := Lib.hid hK; clear hK
        obtain rfl := HH.out.p27 (HWt.out 27 (by kernel_rfl))
        obtain rfl := HH.out.p42 (HWt.out 42 (by kernel_rfl))
        go_simp
        refine HK.out _ _ ⟨_, _, _, _, _, _, _, _, _, _, _, _, _, _, _, _, _, _, _, _, _, _, _, _, _, _, _, _, _, _, _, _, _, _, _, _, _, _, _, _, _, _, _, _, _, _, rfl, ?_⟩
        have h := HH.out
        exact ⟨h.bel, (fun e => h.p0 e), (fun e => h.p1 e), (fun e => h.p2 e), (fun e => h.p3 e), (fun e => h.p4 e), (fun e => h.p5 e), (fun e => h.p6 e), (fun e => h.p7 e), (fun e => h.p8 e), (fun e => h.p9 e), (fun e => h.p10 e), (fun e => h.p11 e), (fun e => h.p12 e), (fun e => h.p13 e), (fun e => h.p14 e), (fun e => h.p15 e), (fun e => h.p16 e), (fun e => h.p17 e), (fun e => h.p18 e), (fun e => h.p19 e), (fun e => h.p20 e), (fun e => h.p21 e), (fun e => h.p22 e), (fun e => h.p23 e), (fun e => h.p24 e), (fun e => h.p25 e), (fun e => h.p26 e), (fun e => h.p27 e), (fun e => h.p28 e), (fun e => h.p29 e), (fun e => h.p30 e), (fun e => h.p31 e), (fun e => h.p32 e), (fun e => h.p33 e), (fun e => h.p34 e), (fun e => h.p35 e), (fun e => h.p36 e), (fun e => h.p37 e), (fun e => h.p38 e), (fun e => h.p39 e), (fun e => h.p40 e), (fun e => h.p41 e), (fun e => h.p42 e), (fun _ => rfl), (fun e => h.p44 e), (fun e => h.p45 e)⟩
    · refine' wpOp_step (o := ?oHr_44) ?hoHr_44 (fun K hK => ?stHr_44)
      case hoHr_44 => rfl
      case stHr_44 =>
        have HK := Lib.hid hK; clear hK
        obtain rfl := HH.out.p27 (HWt.out 27 (by kernel_rfl))
        obtain rfl := HH.out.p43 (HWt.out 43 (by kernel_rfl))
        go_simp
        refine HK.out _ _ ⟨_, _, _, _, _, _, _, _, _, _, _, _, _, _, _, _, _, _, _, _, _, _, _, _, _, _, _, _, _, _, _, _, _, _, _, _, _, _, _, _, _, _, _, _, _, _, rfl, ?_⟩
        have h := HH.out
        exact ⟨h.bel, (fun e => h.p0 e), (fun e => h.p1 e), (fun e => h.p2 e), (fun e => h.p3 e), (fun e => h.p4 e), (fun e => h.p5 e), (fun e => h.p6 e), (fun e => h.p7 e), (fun e => h.p8 e), (fun e => h.p9 e), (fun e => h.p10 e), (fun e => h.p11 e), (fun e => h.p12 e), (fun e => h.p13 e), (fun e => h.p14 e), (fun e => h.p15 e), (fun e => h.p16 e), (fun e => h.p17 e), (fun e => h.p18 e), (fun e => h.p19 e), (fun e => h.p20 e), (fun e => h.p21 e), (fun e => h.p22 e), (fun e => h.p23 e), (fun e => h.p24 e), (fun e => h.p25 e), (fun e => h.p26 e), (fun e => h.p27 e), (fun e => h.p28 e), (fun e => h.p29 e), (fun e => h.p30 e), (fun e => h.p31 e), (fun e => h.p32 e), (fun e => h.p33 e), (fun e => h.p34 e), (fun e => h.p35 e), (fun e => h.p36 e), (fun e => h.p37 e), (fun e => h.p38 e), (fun e => h.p39 e), (fun e => h.p40 e), (fun e => h.p41 e), (fun e => h.p42 e), (fun e => h.p43 e), (fun _ => rfl), (fun e => h.p45 e)⟩
    · refine' wpOp_step (o := ?oHr_45) ?hoHr_45 (fun K hK => ?stHr_45)
      case hoHr_45 => rfl
      case stHr_45 =>
        have HK := Lib.hid hK; clear hK
        obtain rfl := HH.out.p44 (HWt.out 44 (by kernel_rfl))
        go_simp
        refine HK.out _ _ ⟨_, _, _, _, _, _, _, _, _, _, _, _, _, _, _, _, _, _, _, _, _, _, _, _, _, _, _, _, _, _, _, _, _, _, _, _, _, _, _, _, _, _, _, _, _, _, rfl, ?_⟩
        have h := HH.out
        exact ⟨h.bel, (fun e => h.p0 e), (fun e => h.p1 e), (fun e => h.p2 e), (fun e => h.p3 e), (fun e => h.p4 e), (fun e => h.p5 e), (fun e => h.p6 e), (fun e => h.p7 e), (fun e => h.p8 e), (fun e => h.p9 e), (fun e => h.p10 e), (fun e => h.p11 e), (fun e => h.p12 e), (fun e => h.p13 e), (fun e => h.p14 e), (fun e => h.p15 e), (fun e => h.p16 e), (fun e => h.p17 e), (fun e => h.p18 e), (fun e => h.p19 e), (fun e => h.p20 e), (fun e => h.p21 e), (fun e => h.p22 e), (fun e => h.p23 e), (fun e => h.p24 e), (fun e => h.p25 e), (fun e => h.p26 e), (fun e => h.p27 e), (fun e => h.p28 e), (fun e => h.p29 e), (fun e => h.p30 e), (fun e => h.p31 e), (fun e => h.p32 e), (fun e => h.p33 e), (fun e => h.p34 e), (fun e => h.p35 e), (fun e => h.p36 e), (fun e => h.p37 e), (fun e => h.p38 e), (fun e => h.p39 e), (fun e => h.p40 e), (fun e => h.p41 e), (fun e => h.p42 e), (fun e => h.p43 e), (fun e => h.p44 e), (fun _ => rfl)⟩
end Go.Proofs.YtnapcjfemlhkmaaGreatDoor
