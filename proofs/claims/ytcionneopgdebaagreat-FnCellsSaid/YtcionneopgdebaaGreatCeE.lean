/-
  Some texts of this proof in one: CeE CeF. Each part tells what it proves. By an AI agent.
-/
import Derived.Test.YtcionneopgdebaaGreatCeP
import Derived.Test.YtcionneopgdebaaGreatCeD
import Derived.Test.YtcionneopgdebaaGreatRegJ
import Derived.Deep.DeepCutAuto

/-
  The height of a term above the plane of three: the program's. Printed by gen_ceE.py. By an AI agent.
-/
namespace Go.Proofs.YtcionneopgdebaaGreat
open Go.RowKit


structure AbI (bl ol n cap : Nat) (a b c t : Nat) (u v x : Tm) (W : World) (L : Nat → Bool) (w : World) (s11 s12 s13 s18 s19 s20 s21 s22 s23 s24 s25 s26 s27 s28 s29 : Value) : Prop where
  bel : Below W.heap.size W w
  p0 : L 0 = true → s18 = .slice (some ⟨bl, ol, none⟩) n cap
  p1 : L 1 = true → s19 = .int .i64 (b : Int)
  p2 : L 2 = true → s20 = .pointer (some ⟨bl, ol + b * 3, none⟩)
  p3 : L 3 = true → s21 = .agg #[.int .i64 u.i, .int .i64 u.j, .int .i64 u.c]
  p4 : L 4 = true → s22 = .slice (some ⟨bl, ol, none⟩) n cap
  p5 : L 5 = true → s23 = .int .i64 (c : Int)
  p6 : L 6 = true → s24 = .pointer (some ⟨bl, ol + c * 3, none⟩)
  p7 : L 7 = true → s25 = .agg #[.int .i64 v.i, .int .i64 v.j, .int .i64 v.c]
  p8 : L 8 = true → s26 = .slice (some ⟨bl, ol, none⟩) n cap
  p9 : L 9 = true → s27 = .int .i64 (t : Int)
  p10 : L 10 = true → s28 = .pointer (some ⟨bl, ol + t * 3, none⟩)
  p11 : L 11 = true → s29 = .agg #[.int .i64 x.i, .int .i64 x.j, .int .i64 x.c]
  a0 : L 12 = true → ∃ (T : Nat) (x0 x1 x2 : Int), s11 = .pointer (some ⟨T, 0, none⟩) ∧ W.heap.size ≤ T ∧ Own w T 73 [.int .i64 x0, .int .i64 x1, .int .i64 x2] ∧ (L 15 = true → x0 = u.i ∧ x1 = u.j ∧ x2 = u.c)
  c0 : L 15 = true → L 12 = true
  a1 : L 13 = true → ∃ (T : Nat) (x0 x1 x2 : Int), s12 = .pointer (some ⟨T, 0, none⟩) ∧ W.heap.size ≤ T ∧ Own w T 73 [.int .i64 x0, .int .i64 x1, .int .i64 x2] ∧ (L 16 = true → x0 = v.i ∧ x1 = v.j ∧ x2 = v.c)
  c1 : L 16 = true → L 13 = true
  a2 : L 14 = true → ∃ (T : Nat) (x0 x1 x2 : Int), s13 = .pointer (some ⟨T, 0, none⟩) ∧ W.heap.size ≤ T ∧ Own w T 73 [.int .i64 x0, .int .i64 x1, .int .i64 x2] ∧ (L 17 = true → x0 = x.i ∧ x1 = x.j ∧ x2 = x.c)
  c2 : L 17 = true → L 14 = true
  d01 : L 12 = true → L 13 = true → s11 ≠ s12
  d02 : L 12 = true → L 14 = true → s11 ≠ s13
  d12 : L 13 = true → L 14 = true → s12 ≠ s13
theorem AbI.mono {bl ol n cap : Nat} {a b c t : Nat} {u v x : Tm} {W w w' : World} {L : Nat → Bool} {s11 s12 s13 s18 s19 s20 s21 s22 s23 s24 s25 s26 s27 s28 s29 : Value} (h : AbI bl ol n cap a b c t u v x W L w s11 s12 s13 s18 s19 s20 s21 s22 s23 s24 s25 s26 s27 s28 s29) (hb : Below w.heap.size w w') : AbI bl ol n cap a b c t u v x W L w' s11 s12 s13 s18 s19 s20 s21 s22 s23 s24 s25 s26 s27 s28 s29 :=
  ⟨ball h.bel hb, (fun e => h.p0 e), (fun e => h.p1 e), (fun e => h.p2 e), (fun e => h.p3 e), (fun e => h.p4 e), (fun e => h.p5 e), (fun e => h.p6 e), (fun e => h.p7 e), (fun e => h.p8 e), (fun e => h.p9 e), (fun e => h.p10 e), (fun e => h.p11 e), (fun e => let ⟨T, x0, x1, x2, a, b, c, d⟩ := h.a0 e; ⟨T, x0, x1, x2, a, b, c.belowAll hb, d⟩), (fun e => h.c0 e), (fun e => let ⟨T, x0, x1, x2, a, b, c, d⟩ := h.a1 e; ⟨T, x0, x1, x2, a, b, c.belowAll hb, d⟩), (fun e => h.c1 e), (fun e => let ⟨T, x0, x1, x2, a, b, c, d⟩ := h.a2 e; ⟨T, x0, x1, x2, a, b, c.belowAll hb, d⟩), (fun e => h.c2 e), (fun e e2 => h.d01 e e2), (fun e e2 => h.d02 e e2), (fun e e2 => h.d12 e e2)⟩
structure AcI (bl ol n cap : Nat) (a b c t : Nat) (o u v x : Tm) (T0 T1 T2 T3 : Nat) (pi pj qi qj ri rj : Int) (u18 u19 u20 u21 u22 u23 u24 u25 u26 u27 u28 u29 : Value) (W : World) (L : Nat → Bool) (w : World) (s15 s16 s17 s34 s35 s36 s37 s38 s39 s40 s41 s42 s43 s44 s45 s46 s47 s48 s49 s50 s51 s52 s53 s54 s55 s56 s57 s58 s59 s60 s61 s62 s63 s64 s65 s66 : Value) : Prop where
  bel : Below W.heap.size W w
  p0 : L 0 = true → s34 = .pointer (some ⟨T0, 0, none⟩)
  p1 : L 1 = true → s35 = .int .i64 u.i
  p2 : L 2 = true → s36 = .pointer (some ⟨T3, 0, none⟩)
  p3 : L 3 = true → s37 = .int .i64 o.i
  p4 : L 4 = true → s38 = .int .i64 pi
  p5 : L 5 = true → s39 = .pointer (some ⟨T0, 1, none⟩)
  p6 : L 6 = true → s40 = .int .i64 u.j
  p7 : L 7 = true → s41 = .pointer (some ⟨T3, 1, none⟩)
  p8 : L 8 = true → s42 = .int .i64 o.j
  p9 : L 9 = true → s43 = .int .i64 pj
  p10 : L 10 = true → s44 = .agg #[.int .i64 pi, .int .i64 pj]
  p11 : L 11 = true → s45 = .pointer (some ⟨T1, 0, none⟩)
  p12 : L 12 = true → s46 = .int .i64 v.i
  p13 : L 13 = true → s47 = .pointer (some ⟨T3, 0, none⟩)
  p14 : L 14 = true → s48 = .int .i64 o.i
  p15 : L 15 = true → s49 = .int .i64 qi
  p16 : L 16 = true → s50 = .pointer (some ⟨T1, 1, none⟩)
  p17 : L 17 = true → s51 = .int .i64 v.j
  p18 : L 18 = true → s52 = .pointer (some ⟨T3, 1, none⟩)
  p19 : L 19 = true → s53 = .int .i64 o.j
  p20 : L 20 = true → s54 = .int .i64 qj
  p21 : L 21 = true → s55 = .agg #[.int .i64 qi, .int .i64 qj]
  p22 : L 22 = true → s56 = .pointer (some ⟨T2, 0, none⟩)
  p23 : L 23 = true → s57 = .int .i64 x.i
  p24 : L 24 = true → s58 = .pointer (some ⟨T3, 0, none⟩)
  p25 : L 25 = true → s59 = .int .i64 o.i
  p26 : L 26 = true → s60 = .int .i64 ri
  p27 : L 27 = true → s61 = .pointer (some ⟨T2, 1, none⟩)
  p28 : L 28 = true → s62 = .int .i64 x.j
  p29 : L 29 = true → s63 = .pointer (some ⟨T3, 1, none⟩)
  p30 : L 30 = true → s64 = .int .i64 o.j
  p31 : L 31 = true → s65 = .int .i64 rj
  p32 : L 32 = true → s66 = .agg #[.int .i64 ri, .int .i64 rj]
  a0 : L 33 = true → ∃ (T : Nat) (x0 x1 : Int), s15 = .pointer (some ⟨T, 0, none⟩) ∧ W.heap.size ≤ T ∧ Own w T 66 [.int .i64 x0, .int .i64 x1] ∧ (L 36 = true → x0 = pi ∧ x1 = pj)
  c0 : L 36 = true → L 33 = true
  a1 : L 34 = true → ∃ (T : Nat) (x0 x1 : Int), s16 = .pointer (some ⟨T, 0, none⟩) ∧ W.heap.size ≤ T ∧ Own w T 66 [.int .i64 x0, .int .i64 x1] ∧ (L 37 = true → x0 = qi ∧ x1 = qj)
  c1 : L 37 = true → L 34 = true
  a2 : L 35 = true → ∃ (T : Nat) (x0 x1 : Int), s17 = .pointer (some ⟨T, 0, none⟩) ∧ W.heap.size ≤ T ∧ Own w T 66 [.int .i64 x0, .int .i64 x1] ∧ (L 38 = true → x0 = ri ∧ x1 = rj)
  c2 : L 38 = true → L 35 = true
  d01 : L 33 = true → L 34 = true → s15 ≠ s16
  d02 : L 33 = true → L 35 = true → s15 ≠ s17
  d12 : L 34 = true → L 35 = true → s16 ≠ s17
theorem AcI.mono {bl ol n cap : Nat} {a b c t : Nat} {o u v x : Tm} {T0 T1 T2 T3 : Nat} {pi pj qi qj ri rj : Int} {u18 u19 u20 u21 u22 u23 u24 u25 u26 u27 u28 u29 : Value} {W w w' : World} {L : Nat → Bool} {s15 s16 s17 s34 s35 s36 s37 s38 s39 s40 s41 s42 s43 s44 s45 s46 s47 s48 s49 s50 s51 s52 s53 s54 s55 s56 s57 s58 s59 s60 s61 s62 s63 s64 s65 s66 : Value} (h : AcI bl ol n cap a b c t o u v x T0 T1 T2 T3 pi pj qi qj ri rj u18 u19 u20 u21 u22 u23 u24 u25 u26 u27 u28 u29 W L w s15 s16 s17 s34 s35 s36 s37 s38 s39 s40 s41 s42 s43 s44 s45 s46 s47 s48 s49 s50 s51 s52 s53 s54 s55 s56 s57 s58 s59 s60 s61 s62 s63 s64 s65 s66) (hb : Below w.heap.size w w') : AcI bl ol n cap a b c t o u v x T0 T1 T2 T3 pi pj qi qj ri rj u18 u19 u20 u21 u22 u23 u24 u25 u26 u27 u28 u29 W L w' s15 s16 s17 s34 s35 s36 s37 s38 s39 s40 s41 s42 s43 s44 s45 s46 s47 s48 s49 s50 s51 s52 s53 s54 s55 s56 s57 s58 s59 s60 s61 s62 s63 s64 s65 s66 :=
  ⟨ball h.bel hb, (fun e => h.p0 e), (fun e => h.p1 e), (fun e => h.p2 e), (fun e => h.p3 e), (fun e => h.p4 e), (fun e => h.p5 e), (fun e => h.p6 e), (fun e => h.p7 e), (fun e => h.p8 e), (fun e => h.p9 e), (fun e => h.p10 e), (fun e => h.p11 e), (fun e => h.p12 e), (fun e => h.p13 e), (fun e => h.p14 e), (fun e => h.p15 e), (fun e => h.p16 e), (fun e => h.p17 e), (fun e => h.p18 e), (fun e => h.p19 e), (fun e => h.p20 e), (fun e => h.p21 e), (fun e => h.p22 e), (fun e => h.p23 e), (fun e => h.p24 e), (fun e => h.p25 e), (fun e => h.p26 e), (fun e => h.p27 e), (fun e => h.p28 e), (fun e => h.p29 e), (fun e => h.p30 e), (fun e => h.p31 e), (fun e => h.p32 e), (fun e => let ⟨T, x0, x1, a, b, c, d⟩ := h.a0 e; ⟨T, x0, x1, a, b, c.belowAll hb, d⟩), (fun e => h.c0 e), (fun e => let ⟨T, x0, x1, a, b, c, d⟩ := h.a1 e; ⟨T, x0, x1, a, b, c.belowAll hb, d⟩), (fun e => h.c1 e), (fun e => let ⟨T, x0, x1, a, b, c, d⟩ := h.a2 e; ⟨T, x0, x1, a, b, c.belowAll hb, d⟩), (fun e => h.c2 e), (fun e e2 => h.d01 e e2), (fun e e2 => h.d02 e e2), (fun e e2 => h.d12 e e2)⟩
/-- three terms in new memory. -/
def Tri (W : World) (u v x : Tm) (s11 s12 s13 : Value) (wc : World) : Prop := ∃ T0 T1 T2 : Nat, s11 = .pointer (some ⟨T0, 0, none⟩) ∧ s12 = .pointer (some ⟨T1, 0, none⟩) ∧ s13 = .pointer (some ⟨T2, 0, none⟩) ∧ (W.heap.size ≤ T0 ∧ W.heap.size ≤ T1 ∧ W.heap.size ≤ T2) ∧ Own wc T0 73 [.int .i64 u.i, .int .i64 u.j, .int .i64 u.c] ∧ Own wc T1 73 [.int .i64 v.i, .int .i64 v.j, .int .i64 v.c] ∧ Own wc T2 73 [.int .i64 x.i, .int .i64 x.j, .int .i64 x.c] ∧ Below W.heap.size W wc
/-- three points in new memory. -/
def TriP (W : World) (pi pj qi qj ri rj : Int) (s15 s16 s17 : Value) (wc : World) : Prop := ∃ P0 P1 P2 : Nat, s15 = .pointer (some ⟨P0, 0, none⟩) ∧ s16 = .pointer (some ⟨P1, 0, none⟩) ∧ s17 = .pointer (some ⟨P2, 0, none⟩) ∧ Own wc P0 66 [.int .i64 pi, .int .i64 pj] ∧ Own wc P1 66 [.int .i64 qi, .int .i64 qj] ∧ Own wc P2 66 [.int .i64 ri, .int .i64 rj] ∧ Below W.heap.size W wc
set_option maxHeartbeats 12800000 in
set_option maxRecDepth 100000 in
theorem above_c (bl ol cap : Nat) (L : List Tm) (a b c t : Nat) (W : World) (hr : RdT W (some ⟨bl, ol, none⟩) L) (ha : a < L.length) (hb : b < L.length) (hc : c < L.length) (ht : t < L.length) (hp : ∀ k, k < L.length → termB (tmAt L k) = true) (_hl : L.length ≤ 12) :
    Calls Tryz.prog 92 #[.slice (some ⟨bl, ol, none⟩) L.length cap, .int .i64 a, .int .i64 b, .int .i64 c, .int .i64 t] W fun e w' => e = .returned (.int .i64 (abvI (tmAt L a) (tmAt L b) (tmAt L c) (tmAt L t))) ∧ Below W.heap.size W w' := by
  have hbl : bl < W.heap.size := by obtain ⟨b', o', e, h, _⟩ := hr a ha; cases e; exact h
  obtain ⟨kb0, kb1, kb2⟩ := RdT.at hr hb
  obtain ⟨kc0, kc1, kc2⟩ := RdT.at hr hc
  obtain ⟨kt0, kt1, kt2⟩ := RdT.at hr ht
  obtain ⟨ka0, ka1, ka2⟩ := RdT.at hr ha
  have hpa := termB_t (hp a ha); have hpb := termB_t (hp b hb); have hpc := termB_t (hp c hc); have hpt := termB_t (hp t ht)
  obtain ⟨n, hn⟩ : ∃ n, L.length = n := ⟨_, rfl⟩
  rw [hn] at ha hb hc ht ⊢
  clear hn hr hp
  unfold tmAt at *
  generalize L.getD a default = o at *
  generalize L.getD b default = u at *
  generalize L.getD c default = v at *
  generalize L.getD t default = x at *
  have HC := Lib.hid (And.intro (And.intro hbl kb0) (And.intro (And.intro hbl kb1) (And.intro (And.intro hbl kb2) (And.intro (And.intro hbl kc0) (And.intro (And.intro hbl kc1) (And.intro (And.intro hbl kc2) (And.intro (And.intro hbl kt0) (And.intro (And.intro hbl kt1) (And.intro hbl kt2)))))))))
  have i1 : (0 : Int) ≤ (a : Int) := by omega
  have i2 : (a : Int) < (n : Int) := by omega
  have i3 : (0 : Int) ≤ (b : Int) := by omega
  have i4 : (b : Int) < (n : Int) := by omega
  have i5 : (0 : Int) ≤ (c : Int) := by omega
  have i6 : (c : Int) < (n : Int) := by omega
  have i7 : (0 : Int) ≤ (t : Int) := by omega
  have i8 : (t : Int) < (n : Int) := by omega
  go_enter Tryz.func92, Tryz.ntmps92
  go_wp2_with fail
  go_cut [11, 12, 13] from 11 to 29 (fun s11 s12 s13 wc => Tri W u v x s11 s12 s13 wc)
  case first =>
    refine wp_region_inv (fun L ac w' => ∃ s11 s12 s13 s18 s19 s20 s21 s22 s23 s24 s25 s26 s27 s28 s29, ac = { tmps := #[.slice (some ⟨bl, ol, none⟩) n cap, .int .i64 (a : Int), .int .i64 (b : Int), .int .i64 (c : Int), .int .i64 (t : Int), undef, undef, undef, undef, undef, .int .i64 0, s11, s12, s13, undef, undef, undef, undef, s18, s19, s20, s21, s22, s23, s24, s25, s26, s27, s28, s29, undef, undef, undef, undef, undef, undef, undef, undef, undef, undef, undef, undef, undef, undef, undef, undef, undef, undef, undef, undef, undef, undef, undef, undef, undef, undef, undef, undef, undef, undef, undef, undef, undef, undef, undef, undef, undef, undef, undef, undef, undef, undef, undef, undef, undef, undef, undef, undef, undef, undef, undef, undef, undef, undef, undef, undef, undef, undef, undef, undef, undef, undef, undef, undef, undef, undef], defers := [] } ∧ AbI bl ol n cap a b c t u v x W L w' s11 s12 s13 s18 s19 s20 s21 s22 s23 s24 s25 s26 s27 s28 s29) (by kernel_rfl) (by kernel_rfl) ?_ ?_ ?_
    · exact ⟨_, _, _, _, _, _, _, _, _, _, _, _, _, _, _, rfl, (Below.refl _ _).drew, (fun e => by cases e), (fun e => by cases e), (fun e => by cases e), (fun e => by cases e), (fun e => by cases e), (fun e => by cases e), (fun e => by cases e), (fun e => by cases e), (fun e => by cases e), (fun e => by cases e), (fun e => by cases e), (fun e => by cases e), (fun e => by cases e), (fun e => by cases e), (fun e => by cases e), (fun e => by cases e), (fun e => by cases e), (fun e => by cases e), (fun e => by cases e), (fun e => by cases e), (fun e => by cases e)⟩
    · rintro L ac w' ⟨s11, s12, s13, s18, s19, s20, s21, s22, s23, s24, s25, s26, s27, s28, s29, rfl, H⟩ hL
      obtain ⟨T0, x00, x01, x02, rfl, hT0, hO0, e0⟩ := H.a0 (hL 12 (by decide))
      obtain ⟨g00, g01, g02⟩ := e0 (hL 15 (by decide))
      rw [g00, g01, g02] at hO0
      obtain ⟨T1, x10, x11, x12, rfl, hT1, hO1, e1⟩ := H.a1 (hL 13 (by decide))
      obtain ⟨g10, g11, g12⟩ := e1 (hL 16 (by decide))
      rw [g10, g11, g12] at hO1
      obtain ⟨T2, x20, x21, x22, rfl, hT2, hO2, e2⟩ := H.a2 (hL 14 (by decide))
      obtain ⟨g20, g21, g22⟩ := e2 (hL 17 (by decide))
      rw [g20, g21, g22] at hO2
      have n01 := H.d01 (hL 12 (by decide)) (hL 13 (by decide)); have n02 := H.d02 (hL 12 (by decide)) (hL 14 (by decide)); have n12 := H.d12 (hL 13 (by decide)) (hL 14 (by decide))
      have HREL := Lib.hid (show Tri W u v x (.pointer (some ⟨T0, 0, none⟩)) (.pointer (some ⟨T1, 0, none⟩)) (.pointer (some ⟨T2, 0, none⟩)) w' from ⟨T0, T1, T2, rfl, rfl, rfl, ⟨hT0, hT1, hT2⟩, hO0, hO1, hO2, H.bel⟩)
      clear H hL n01 n02 n12 hO0 hO1 hO2 e0 e1 e2 g00 g01 g02 g10 g11 g12 g20 g21 g22
      go_wp2_with fail
      go_meet
      exact HREL.out
    · rintro i L ac w' ⟨s11, s12, s13, s18, s19, s20, s21, s22, s23, s24, s25, s26, s27, s28, s29, rfl, H⟩ hi hL hw
      have hi : i < 18 := hi
      have HH := Lib.hid H; have HWt := Lib.hid hw
      clear H hw
      rcases (show i = 0 ∨ i = 1 ∨ i = 2 ∨ i = 3 ∨ i = 4 ∨ i = 5 ∨ i = 6 ∨ i = 7 ∨ i = 8 ∨ i = 9 ∨ i = 10 ∨ i = 11 ∨ i = 12 ∨ i = 13 ∨ i = 14 ∨ i = 15 ∨ i = 16 ∨ i = 17 by omega) with rfl | rfl | rfl | rfl | rfl | rfl | rfl | rfl | rfl | rfl | rfl | rfl | rfl | rfl | rfl | rfl | rfl | rfl
      · refine' wpOp_step (o := ?oAb_0) ?hoAb_0 (fun K hK => ?stAb_0)
        case hoAb_0 => rfl
        case stAb_0 =>
          have HK := Lib.hid hK; clear hK
          go_simp
          refine HK.out _ _ ⟨_, _, _, _, _, _, _, _, _, _, _, _, _, _, _, rfl, ?_⟩
          have h := HH.out
          exact ⟨h.bel, (fun _ => rfl), (fun e => h.p1 e), (fun e => h.p2 e), (fun e => h.p3 e), (fun e => h.p4 e), (fun e => h.p5 e), (fun e => h.p6 e), (fun e => h.p7 e), (fun e => h.p8 e), (fun e => h.p9 e), (fun e => h.p10 e), (fun e => h.p11 e), (fun e => h.a0 e), (fun e => h.c0 e), (fun e => h.a1 e), (fun e => h.c1 e), (fun e => h.a2 e), (fun e => h.c2 e), (fun e e2 => h.d01 e e2), (fun e e2 => h.d02 e e2), (fun e e2 => h.d12 e e2)⟩
      · refine' wpOp_step (o := ?oAb_1) ?hoAb_1 (fun K hK => ?stAb_1)
        case hoAb_1 => rfl
        case stAb_1 =>
          have HK := Lib.hid hK; clear hK
          go_simp
          refine HK.out _ _ ⟨_, _, _, _, _, _, _, _, _, _, _, _, _, _, _, rfl, ?_⟩
          have h := HH.out
          exact ⟨h.bel, (fun e => h.p0 e), (fun _ => rfl), (fun e => h.p2 e), (fun e => h.p3 e), (fun e => h.p4 e), (fun e => h.p5 e), (fun e => h.p6 e), (fun e => h.p7 e), (fun e => h.p8 e), (fun e => h.p9 e), (fun e => h.p10 e), (fun e => h.p11 e), (fun e => h.a0 e), (fun e => h.c0 e), (fun e => h.a1 e), (fun e => h.c1 e), (fun e => h.a2 e), (fun e => h.c2 e), (fun e e2 => h.d01 e e2), (fun e e2 => h.d02 e e2), (fun e e2 => h.d12 e e2)⟩
      · refine' wpOp_step (o := ?oAb_2) ?hoAb_2 (fun K hK => ?stAb_2)
        case hoAb_2 => rfl
        case stAb_2 =>
          have HK := Lib.hid hK; clear hK
          obtain rfl := HH.out.p0 (HWt.out 0 (by kernel_rfl))
          obtain rfl := HH.out.p1 (HWt.out 1 (by kernel_rfl))
          go_simp
          refine HK.out _ _ ⟨_, _, _, _, _, _, _, _, _, _, _, _, _, _, _, rfl, ?_⟩
          have h := HH.out
          exact ⟨h.bel, (fun e => h.p0 e), (fun e => h.p1 e), (fun _ => rfl), (fun e => h.p3 e), (fun e => h.p4 e), (fun e => h.p5 e), (fun e => h.p6 e), (fun e => h.p7 e), (fun e => h.p8 e), (fun e => h.p9 e), (fun e => h.p10 e), (fun e => h.p11 e), (fun e => h.a0 e), (fun e => h.c0 e), (fun e => h.a1 e), (fun e => h.c1 e), (fun e => h.a2 e), (fun e => h.c2 e), (fun e e2 => h.d01 e e2), (fun e e2 => h.d02 e e2), (fun e e2 => h.d12 e e2)⟩
      · refine' wpOp_step (o := ?oAb_3) ?hoAb_3 (fun K hK => ?stAb_3)
        case hoAb_3 => rfl
        case stAb_3 =>
          have HK := Lib.hid hK; clear hK
          obtain rfl := HH.out.p2 (HWt.out 2 (by kernel_rfl))
          have q0 := bcellP HH.out.bel HC.out.1; have q1 := bcellP HH.out.bel HC.out.2.1; have q2 := bcellP HH.out.bel HC.out.2.2.1
          go_simp
          refine HK.out _ _ ⟨_, _, _, _, _, _, _, _, _, _, _, _, _, _, _, rfl, ?_⟩
          have h := HH.out
          exact ⟨h.bel, (fun e => h.p0 e), (fun e => h.p1 e), (fun e => h.p2 e), (fun _ => rfl), (fun e => h.p4 e), (fun e => h.p5 e), (fun e => h.p6 e), (fun e => h.p7 e), (fun e => h.p8 e), (fun e => h.p9 e), (fun e => h.p10 e), (fun e => h.p11 e), (fun e => h.a0 e), (fun e => h.c0 e), (fun e => h.a1 e), (fun e => h.c1 e), (fun e => h.a2 e), (fun e => h.c2 e), (fun e e2 => h.d01 e e2), (fun e e2 => h.d02 e e2), (fun e e2 => h.d12 e e2)⟩
      · refine' wpOp_step (o := ?oAb_4) ?hoAb_4 (fun K hK => ?stAb_4)
        case hoAb_4 => rfl
        case stAb_4 =>
          have HK := Lib.hid hK; clear hK
          go_simp
          refine HK.out _ _ ⟨_, _, _, _, _, _, _, _, _, _, _, _, _, _, _, rfl, ?_⟩
          have h := HH.out
          exact ⟨h.bel, (fun e => h.p0 e), (fun e => h.p1 e), (fun e => h.p2 e), (fun e => h.p3 e), (fun _ => rfl), (fun e => h.p5 e), (fun e => h.p6 e), (fun e => h.p7 e), (fun e => h.p8 e), (fun e => h.p9 e), (fun e => h.p10 e), (fun e => h.p11 e), (fun e => h.a0 e), (fun e => h.c0 e), (fun e => h.a1 e), (fun e => h.c1 e), (fun e => h.a2 e), (fun e => h.c2 e), (fun e e2 => h.d01 e e2), (fun e e2 => h.d02 e e2), (fun e e2 => h.d12 e e2)⟩
      · refine' wpOp_step (o := ?oAb_5) ?hoAb_5 (fun K hK => ?stAb_5)
        case hoAb_5 => rfl
        case stAb_5 =>
          have HK := Lib.hid hK; clear hK
          go_simp
          refine HK.out _ _ ⟨_, _, _, _, _, _, _, _, _, _, _, _, _, _, _, rfl, ?_⟩
          have h := HH.out
          exact ⟨h.bel, (fun e => h.p0 e), (fun e => h.p1 e), (fun e => h.p2 e), (fun e => h.p3 e), (fun e => h.p4 e), (fun _ => rfl), (fun e => h.p6 e), (fun e => h.p7 e), (fun e => h.p8 e), (fun e => h.p9 e), (fun e => h.p10 e), (fun e => h.p11 e), (fun e => h.a0 e), (fun e => h.c0 e), (fun e => h.a1 e), (fun e => h.c1 e), (fun e => h.a2 e), (fun e => h.c2 e), (fun e e2 => h.d01 e e2), (fun e e2 => h.d02 e e2), (fun e e2 => h.d12 e e2)⟩
      · refine' wpOp_step (o := ?oAb_6) ?hoAb_6 (fun K hK => ?stAb_6)
        case hoAb_6 => rfl
        case stAb_6 =>
          have HK := Lib.hid hK; clear hK
          obtain rfl := HH.out.p4 (HWt.out 4 (by kernel_rfl))
          obtain rfl := HH.out.p5 (HWt.out 5 (by kernel_rfl))
          go_simp
          refine HK.out _ _ ⟨_, _, _, _, _, _, _, _, _, _, _, _, _, _, _, rfl, ?_⟩
          have h := HH.out
          exact ⟨h.bel, (fun e => h.p0 e), (fun e => h.p1 e), (fun e => h.p2 e), (fun e => h.p3 e), (fun e => h.p4 e), (fun e => h.p5 e), (fun _ => rfl), (fun e => h.p7 e), (fun e => h.p8 e), (fun e => h.p9 e), (fun e => h.p10 e), (fun e => h.p11 e), (fun e => h.a0 e), (fun e => h.c0 e), (fun e => h.a1 e), (fun e => h.c1 e), (fun e => h.a2 e), (fun e => h.c2 e), (fun e e2 => h.d01 e e2), (fun e e2 => h.d02 e e2), (fun e e2 => h.d12 e e2)⟩
      · refine' wpOp_step (o := ?oAb_7) ?hoAb_7 (fun K hK => ?stAb_7)
        case hoAb_7 => rfl
        case stAb_7 =>
          have HK := Lib.hid hK; clear hK
          obtain rfl := HH.out.p6 (HWt.out 6 (by kernel_rfl))
          have q0 := bcellP HH.out.bel HC.out.2.2.2.1; have q1 := bcellP HH.out.bel HC.out.2.2.2.2.1; have q2 := bcellP HH.out.bel HC.out.2.2.2.2.2.1
          go_simp
          refine HK.out _ _ ⟨_, _, _, _, _, _, _, _, _, _, _, _, _, _, _, rfl, ?_⟩
          have h := HH.out
          exact ⟨h.bel, (fun e => h.p0 e), (fun e => h.p1 e), (fun e => h.p2 e), (fun e => h.p3 e), (fun e => h.p4 e), (fun e => h.p5 e), (fun e => h.p6 e), (fun _ => rfl), (fun e => h.p8 e), (fun e => h.p9 e), (fun e => h.p10 e), (fun e => h.p11 e), (fun e => h.a0 e), (fun e => h.c0 e), (fun e => h.a1 e), (fun e => h.c1 e), (fun e => h.a2 e), (fun e => h.c2 e), (fun e e2 => h.d01 e e2), (fun e e2 => h.d02 e e2), (fun e e2 => h.d12 e e2)⟩
      · refine' wpOp_step (o := ?oAb_8) ?hoAb_8 (fun K hK => ?stAb_8)
        case hoAb_8 => rfl
        case stAb_8 =>
          have HK := Lib.hid hK; clear hK
          go_simp
          refine HK.out _ _ ⟨_, _, _, _, _, _, _, _, _, _, _, _, _, _, _, rfl, ?_⟩
          have h := HH.out
          exact ⟨h.bel, (fun e => h.p0 e), (fun e => h.p1 e), (fun e => h.p2 e), (fun e => h.p3 e), (fun e => h.p4 e), (fun e => h.p5 e), (fun e => h.p6 e), (fun e => h.p7 e), (fun _ => rfl), (fun e => h.p9 e), (fun e => h.p10 e), (fun e => h.p11 e), (fun e => h.a0 e), (fun e => h.c0 e), (fun e => h.a1 e), (fun e => h.c1 e), (fun e => h.a2 e), (fun e => h.c2 e), (fun e e2 => h.d01 e e2), (fun e e2 => h.d02 e e2), (fun e e2 => h.d12 e e2)⟩
      · refine' wpOp_step (o := ?oAb_9) ?hoAb_9 (fun K hK => ?stAb_9)
        case hoAb_9 => rfl
        case stAb_9 =>
          have HK := Lib.hid hK; clear hK
          go_simp
          refine HK.out _ _ ⟨_, _, _, _, _, _, _, _, _, _, _, _, _, _, _, rfl, ?_⟩
          have h := HH.out
          exact ⟨h.bel, (fun e => h.p0 e), (fun e => h.p1 e), (fun e => h.p2 e), (fun e => h.p3 e), (fun e => h.p4 e), (fun e => h.p5 e), (fun e => h.p6 e), (fun e => h.p7 e), (fun e => h.p8 e), (fun _ => rfl), (fun e => h.p10 e), (fun e => h.p11 e), (fun e => h.a0 e), (fun e => h.c0 e), (fun e => h.a1 e), (fun e => h.c1 e), (fun e => h.a2 e), (fun e => h.c2 e), (fun e e2 => h.d01 e e2), (fun e e2 => h.d02 e e2), (fun e e2 => h.d12 e e2)⟩
      · refine' wpOp_step (o := ?oAb_10) ?hoAb_10 (fun K hK => ?stAb_10)
        case hoAb_10 => rfl
        case stAb_10 =>
          have HK := Lib.hid hK; clear hK
          obtain rfl := HH.out.p8 (HWt.out 8 (by kernel_rfl))
          obtain rfl := HH.out.p9 (HWt.out 9 (by kernel_rfl))
          go_simp
          refine HK.out _ _ ⟨_, _, _, _, _, _, _, _, _, _, _, _, _, _, _, rfl, ?_⟩
          have h := HH.out
          exact ⟨h.bel, (fun e => h.p0 e), (fun e => h.p1 e), (fun e => h.p2 e), (fun e => h.p3 e), (fun e => h.p4 e), (fun e => h.p5 e), (fun e => h.p6 e), (fun e => h.p7 e), (fun e => h.p8 e), (fun e => h.p9 e), (fun _ => rfl), (fun e => h.p11 e), (fun e => h.a0 e), (fun e => h.c0 e), (fun e => h.a1 e), (fun e => h.c1 e), (fun e => h.a2 e), (fun e => h.c2 e), (fun e e2 => h.d01 e e2), (fun e e2 => h.d02 e e2), (fun e e2 => h.d12 e e2)⟩
      · refine' wpOp_step (o := ?oAb_11) ?hoAb_11 (fun K hK => ?stAb_11)
        case hoAb_11 => rfl
        case stAb_11 =>
          have HK := Lib.hid hK; clear hK
          obtain rfl := HH.out.p10 (HWt.out 10 (by kernel_rfl))
          have q0 := bcellP HH.out.bel HC.out.2.2.2.2.2.2.1; have q1 := bcellP HH.out.bel HC.out.2.2.2.2.2.2.2.1; have q2 := bcellP HH.out.bel HC.out.2.2.2.2.2.2.2.2
          go_simp
          refine HK.out _ _ ⟨_, _, _, _, _, _, _, _, _, _, _, _, _, _, _, rfl, ?_⟩
          have h := HH.out
          exact ⟨h.bel, (fun e => h.p0 e), (fun e => h.p1 e), (fun e => h.p2 e), (fun e => h.p3 e), (fun e => h.p4 e), (fun e => h.p5 e), (fun e => h.p6 e), (fun e => h.p7 e), (fun e => h.p8 e), (fun e => h.p9 e), (fun e => h.p10 e), (fun _ => rfl), (fun e => h.a0 e), (fun e => h.c0 e), (fun e => h.a1 e), (fun e => h.c1 e), (fun e => h.a2 e), (fun e => h.c2 e), (fun e e2 => h.d01 e e2), (fun e e2 => h.d02 e e2), (fun e e2 => h.d12 e e2)⟩
      · refine' wpOp_step (o := ?oAb_12) ?hoAb_12 (fun K hK => ?stAb_12)
        case hoAb_12 => rfl
        case stAb_12 =>
          have HK := Lib.hid hK; clear hK
          go_simp
          refine HK.out _ _ ⟨_, _, _, _, _, _, _, _, _, _, _, _, _, _, _, rfl, ?_⟩
          have h := HH.out.mono (bal_alloc (o := .cells #[.int .i64 0, .int .i64 0, .int .i64 0] 73) (Below.refl _ _))
          exact ⟨h.bel, (fun e => h.p0 e), (fun e => h.p1 e), (fun e => h.p2 e), (fun e => h.p3 e), (fun e => h.p4 e), (fun e => h.p5 e), (fun e => h.p6 e), (fun e => h.p7 e), (fun e => h.p8 e), (fun e => h.p9 e), (fun e => h.p10 e), (fun e => h.p11 e), (fun _ => ⟨_, 0, 0, 0, rfl, HH.out.bel.size, Own.newHG _ _ _ rfl rfl, fun e9 => (no_up hL (h.c0 e9)).elim⟩), (fun _ => rfl), (fun e => h.a1 e), (fun e => h.c1 e), (fun e => h.a2 e), (fun e => h.c2 e), (fun e e2 => by obtain ⟨T, _, _, _, h1, _, h3, _⟩ := HH.out.a1 e2; have := Own.lt h3; intro h4; rw [h1] at h4; simp only [Value.pointer.injEq, Option.some.injEq, Addr.mk.injEq] at h4; omega), (fun e e2 => by obtain ⟨T, _, _, _, h1, _, h3, _⟩ := HH.out.a2 e2; have := Own.lt h3; intro h4; rw [h1] at h4; simp only [Value.pointer.injEq, Option.some.injEq, Addr.mk.injEq] at h4; omega), (fun e e2 => h.d12 e e2)⟩
      · refine' wpOp_step (o := ?oAb_13) ?hoAb_13 (fun K hK => ?stAb_13)
        case hoAb_13 => rfl
        case stAb_13 =>
          have HK := Lib.hid hK; clear hK
          go_simp
          refine HK.out _ _ ⟨_, _, _, _, _, _, _, _, _, _, _, _, _, _, _, rfl, ?_⟩
          have h := HH.out.mono (bal_alloc (o := .cells #[.int .i64 0, .int .i64 0, .int .i64 0] 73) (Below.refl _ _))
          exact ⟨h.bel, (fun e => h.p0 e), (fun e => h.p1 e), (fun e => h.p2 e), (fun e => h.p3 e), (fun e => h.p4 e), (fun e => h.p5 e), (fun e => h.p6 e), (fun e => h.p7 e), (fun e => h.p8 e), (fun e => h.p9 e), (fun e => h.p10 e), (fun e => h.p11 e), (fun e => h.a0 e), (fun e => h.c0 e), (fun _ => ⟨_, 0, 0, 0, rfl, HH.out.bel.size, Own.newHG _ _ _ rfl rfl, fun e9 => (no_up hL (h.c1 e9)).elim⟩), (fun _ => rfl), (fun e => h.a2 e), (fun e => h.c2 e), (fun e e2 => by obtain ⟨T, _, _, _, h1, _, h3, _⟩ := HH.out.a0 e; have := Own.lt h3; intro h4; rw [h1] at h4; simp only [Value.pointer.injEq, Option.some.injEq, Addr.mk.injEq] at h4; omega), (fun e e2 => h.d02 e e2), (fun e e2 => by obtain ⟨T, _, _, _, h1, _, h3, _⟩ := HH.out.a2 e2; have := Own.lt h3; intro h4; rw [h1] at h4; simp only [Value.pointer.injEq, Option.some.injEq, Addr.mk.injEq] at h4; omega)⟩
      · refine' wpOp_step (o := ?oAb_14) ?hoAb_14 (fun K hK => ?stAb_14)
        case hoAb_14 => rfl
        case stAb_14 =>
          have HK := Lib.hid hK; clear hK
          go_simp
          refine HK.out _ _ ⟨_, _, _, _, _, _, _, _, _, _, _, _, _, _, _, rfl, ?_⟩
          have h := HH.out.mono (bal_alloc (o := .cells #[.int .i64 0, .int .i64 0, .int .i64 0] 73) (Below.refl _ _))
          exact ⟨h.bel, (fun e => h.p0 e), (fun e => h.p1 e), (fun e => h.p2 e), (fun e => h.p3 e), (fun e => h.p4 e), (fun e => h.p5 e), (fun e => h.p6 e), (fun e => h.p7 e), (fun e => h.p8 e), (fun e => h.p9 e), (fun e => h.p10 e), (fun e => h.p11 e), (fun e => h.a0 e), (fun e => h.c0 e), (fun e => h.a1 e), (fun e => h.c1 e), (fun _ => ⟨_, 0, 0, 0, rfl, HH.out.bel.size, Own.newHG _ _ _ rfl rfl, fun e9 => (no_up hL (h.c2 e9)).elim⟩), (fun _ => rfl), (fun e e2 => h.d01 e e2), (fun e e2 => by obtain ⟨T, _, _, _, h1, _, h3, _⟩ := HH.out.a0 e; have := Own.lt h3; intro h4; rw [h1] at h4; simp only [Value.pointer.injEq, Option.some.injEq, Addr.mk.injEq] at h4; omega), (fun e e2 => by obtain ⟨T, _, _, _, h1, _, h3, _⟩ := HH.out.a1 e; have := Own.lt h3; intro h4; rw [h1] at h4; simp only [Value.pointer.injEq, Option.some.injEq, Addr.mk.injEq] at h4; omega)⟩
      · refine' wpOp_step (o := ?oAb_15) ?hoAb_15 (fun K hK => ?stAb_15)
        case hoAb_15 => rfl
        case stAb_15 =>
          have HK := Lib.hid hK; clear hK
          obtain rfl := HH.out.p3 (HWt.out 3 (by kernel_rfl))
          obtain ⟨T, x0, x1, x2, rfl, hT, hO, -⟩ := HH.out.a0 (HWt.out 12 (by kernel_rfl))
          have y0 := hO.cell? (i := 0) rfl; have z0 := hO.frozen 0
          have y1 := hO.cell? (i := 1) rfl; have z1 := hO.frozen 1
          have y2 := hO.cell? (i := 2) rfl; have z2 := hO.frozen 2
          have HO := Lib.hid hO; clear hO
          go_simp
          refine HK.out _ _ ⟨_, _, _, _, _, _, _, _, _, _, _, _, _, _, _, rfl, ?_⟩
          have h := HH.out
          have hO := HO.out
          exact ⟨bel_set (bel_set (bel_set (h.bel) hT) hT) hT, (fun e => h.p0 e), (fun e => h.p1 e), (fun e => h.p2 e), (fun e => h.p3 e), (fun e => h.p4 e), (fun e => h.p5 e), (fun e => h.p6 e), (fun e => h.p7 e), (fun e => h.p8 e), (fun e => h.p9 e), (fun e => h.p10 e), (fun e => h.p11 e), (fun _ => ⟨T, _, _, _, rfl, hT, (Own.set (Own.set (Own.set hO 0 (.int .i64 (u.i))) 1 (.int .i64 (u.j))) 2 (.int .i64 (u.c))), fun _ => ⟨rfl, rfl, rfl⟩⟩), (fun _ => HWt.out 12 (by kernel_rfl)), (fun e => let ⟨t, x0, x1, x2, a', b', c', d'⟩ := h.a1 e; have hne : t ≠ T := (fun e9 => h.d01 (HWt.out 12 (by kernel_rfl)) e (by rw [a', e9])); ⟨t, x0, x1, x2, a', b', (Own.sO hne (Own.sO hne (Own.sO hne c' _) _) _), d'⟩), (fun e => h.c1 e), (fun e => let ⟨t, x0, x1, x2, a', b', c', d'⟩ := h.a2 e; have hne : t ≠ T := (fun e9 => h.d02 (HWt.out 12 (by kernel_rfl)) e (by rw [a', e9])); ⟨t, x0, x1, x2, a', b', (Own.sO hne (Own.sO hne (Own.sO hne c' _) _) _), d'⟩), (fun e => h.c2 e), (fun e e2 => h.d01 e e2), (fun e e2 => h.d02 e e2), (fun e e2 => h.d12 e e2)⟩
      · refine' wpOp_step (o := ?oAb_16) ?hoAb_16 (fun K hK => ?stAb_16)
        case hoAb_16 => rfl
        case stAb_16 =>
          have HK := Lib.hid hK; clear hK
          obtain rfl := HH.out.p7 (HWt.out 7 (by kernel_rfl))
          obtain ⟨T, x0, x1, x2, rfl, hT, hO, -⟩ := HH.out.a1 (HWt.out 13 (by kernel_rfl))
          have y0 := hO.cell? (i := 0) rfl; have z0 := hO.frozen 0
          have y1 := hO.cell? (i := 1) rfl; have z1 := hO.frozen 1
          have y2 := hO.cell? (i := 2) rfl; have z2 := hO.frozen 2
          have HO := Lib.hid hO; clear hO
          go_simp
          refine HK.out _ _ ⟨_, _, _, _, _, _, _, _, _, _, _, _, _, _, _, rfl, ?_⟩
          have h := HH.out
          have hO := HO.out
          exact ⟨bel_set (bel_set (bel_set (h.bel) hT) hT) hT, (fun e => h.p0 e), (fun e => h.p1 e), (fun e => h.p2 e), (fun e => h.p3 e), (fun e => h.p4 e), (fun e => h.p5 e), (fun e => h.p6 e), (fun e => h.p7 e), (fun e => h.p8 e), (fun e => h.p9 e), (fun e => h.p10 e), (fun e => h.p11 e), (fun e => let ⟨t, x0, x1, x2, a', b', c', d'⟩ := h.a0 e; have hne : t ≠ T := (fun e9 => h.d01 e (HWt.out 13 (by kernel_rfl)) (by rw [a', e9])); ⟨t, x0, x1, x2, a', b', (Own.sO hne (Own.sO hne (Own.sO hne c' _) _) _), d'⟩), (fun e => h.c0 e), (fun _ => ⟨T, _, _, _, rfl, hT, (Own.set (Own.set (Own.set hO 0 (.int .i64 (v.i))) 1 (.int .i64 (v.j))) 2 (.int .i64 (v.c))), fun _ => ⟨rfl, rfl, rfl⟩⟩), (fun _ => HWt.out 13 (by kernel_rfl)), (fun e => let ⟨t, x0, x1, x2, a', b', c', d'⟩ := h.a2 e; have hne : t ≠ T := (fun e9 => h.d12 (HWt.out 13 (by kernel_rfl)) e (by rw [a', e9])); ⟨t, x0, x1, x2, a', b', (Own.sO hne (Own.sO hne (Own.sO hne c' _) _) _), d'⟩), (fun e => h.c2 e), (fun e e2 => h.d01 e e2), (fun e e2 => h.d02 e e2), (fun e e2 => h.d12 e e2)⟩
      · refine' wpOp_step (o := ?oAb_17) ?hoAb_17 (fun K hK => ?stAb_17)
        case hoAb_17 => rfl
        case stAb_17 =>
          have HK := Lib.hid hK; clear hK
          obtain rfl := HH.out.p11 (HWt.out 11 (by kernel_rfl))
          obtain ⟨T, x0, x1, x2, rfl, hT, hO, -⟩ := HH.out.a2 (HWt.out 14 (by kernel_rfl))
          have y0 := hO.cell? (i := 0) rfl; have z0 := hO.frozen 0
          have y1 := hO.cell? (i := 1) rfl; have z1 := hO.frozen 1
          have y2 := hO.cell? (i := 2) rfl; have z2 := hO.frozen 2
          have HO := Lib.hid hO; clear hO
          go_simp
          refine HK.out _ _ ⟨_, _, _, _, _, _, _, _, _, _, _, _, _, _, _, rfl, ?_⟩
          have h := HH.out
          have hO := HO.out
          exact ⟨bel_set (bel_set (bel_set (h.bel) hT) hT) hT, (fun e => h.p0 e), (fun e => h.p1 e), (fun e => h.p2 e), (fun e => h.p3 e), (fun e => h.p4 e), (fun e => h.p5 e), (fun e => h.p6 e), (fun e => h.p7 e), (fun e => h.p8 e), (fun e => h.p9 e), (fun e => h.p10 e), (fun e => h.p11 e), (fun e => let ⟨t, x0, x1, x2, a', b', c', d'⟩ := h.a0 e; have hne : t ≠ T := (fun e9 => h.d02 e (HWt.out 14 (by kernel_rfl)) (by rw [a', e9])); ⟨t, x0, x1, x2, a', b', (Own.sO hne (Own.sO hne (Own.sO hne c' _) _) _), d'⟩), (fun e => h.c0 e), (fun e => let ⟨t, x0, x1, x2, a', b', c', d'⟩ := h.a1 e; have hne : t ≠ T := (fun e9 => h.d12 e (HWt.out 14 (by kernel_rfl)) (by rw [a', e9])); ⟨t, x0, x1, x2, a', b', (Own.sO hne (Own.sO hne (Own.sO hne c' _) _) _), d'⟩), (fun e => h.c1 e), (fun _ => ⟨T, _, _, _, rfl, hT, (Own.set (Own.set (Own.set hO 0 (.int .i64 (x.i))) 1 (.int .i64 (x.j))) 2 (.int .i64 (x.c))), fun _ => ⟨rfl, rfl, rfl⟩⟩), (fun _ => HWt.out 14 (by kernel_rfl)), (fun e e2 => h.d01 e e2), (fun e e2 => h.d02 e e2), (fun e e2 => h.d12 e e2)⟩
  case rest =>
    obtain ⟨T0, T1, T2, rfl, rfl, rfl, -, hO0, hO1, hO2, hbel⟩ := hcut
    obtain ⟨w1, rfl⟩ : ∃ y : World, y = wc := ⟨_, rfl⟩
    have ka0 := bcell hbel hbl ka0
    have ka1 := bcell hbel hbl ka1
    have ka2 := bcell hbel hbl ka2
    clear kb0 kb1 kb2 kc0 kc1 kc2 kt0 kt1 kt2 HC
    obtain ⟨W3, hW3⟩ : ∃ y, w1.alloc (.cells #[.int .i64 o.i, .int .i64 o.j, .int .i64 o.c] 73) = y := ⟨_, rfl⟩
    obtain ⟨T3, hT3⟩ : ∃ y, w1.heap.size = y := ⟨_, rfl⟩
    have hO3 : Own W3 T3 73 [.int .i64 o.i, .int .i64 o.j, .int .i64 o.c] := by rw [← hW3]; exact Own.newHG w1 _ _ rfl hT3
    have hb3 : Below W.heap.size W W3 := by rw [← hW3]; exact bal_alloc hbel
    have hO0 : Own W3 T0 73 [.int .i64 u.i, .int .i64 u.j, .int .i64 u.c] := by rw [← hW3]; exact hO0.alloc _
    have hO1 : Own W3 T1 73 [.int .i64 v.i, .int .i64 v.j, .int .i64 v.c] := by rw [← hW3]; exact hO1.alloc _
    have hO2 : Own W3 T2 73 [.int .i64 x.i, .int .i64 x.j, .int .i64 x.c] := by rw [← hW3]; exact hO2.alloc _
    have F00 := Lib.hid (And.intro hO0.lt (hO0.cell? (i := 0) rfl)); have F01 := Lib.hid (And.intro hO0.lt (hO0.cell? (i := 1) rfl)); have F02 := Lib.hid (And.intro hO0.lt (hO0.cell? (i := 2) rfl))
    have F10 := Lib.hid (And.intro hO1.lt (hO1.cell? (i := 0) rfl)); have F11 := Lib.hid (And.intro hO1.lt (hO1.cell? (i := 1) rfl)); have F12 := Lib.hid (And.intro hO1.lt (hO1.cell? (i := 2) rfl))
    have F20 := Lib.hid (And.intro hO2.lt (hO2.cell? (i := 0) rfl)); have F21 := Lib.hid (And.intro hO2.lt (hO2.cell? (i := 1) rfl)); have F22 := Lib.hid (And.intro hO2.lt (hO2.cell? (i := 2) rfl))
    have F30 := Lib.hid (And.intro hO3.lt (hO3.cell? (i := 0) rfl)); have F31 := Lib.hid (And.intro hO3.lt (hO3.cell? (i := 1) rfl)); have F32 := Lib.hid (And.intro hO3.lt (hO3.cell? (i := 2) rfl))
    obtain ⟨pi, hpi⟩ : ∃ z, u.i - o.i = z := ⟨_, rfl⟩
    obtain ⟨pj, hpj⟩ : ∃ z, u.j - o.j = z := ⟨_, rfl⟩
    obtain ⟨qi, hqi⟩ : ∃ z, v.i - o.i = z := ⟨_, rfl⟩
    obtain ⟨qj, hqj⟩ : ∃ z, v.j - o.j = z := ⟨_, rfl⟩
    obtain ⟨ri, hri⟩ : ∃ z, x.i - o.i = z := ⟨_, rfl⟩
    obtain ⟨rj, hrj⟩ : ∃ z, x.j - o.j = z := ⟨_, rfl⟩
    have e1 : IntKind.i64.wrap (u.i - o.i) = pi := by rw [i64_small (by omega) (by omega)]; exact hpi
    have e2 : IntKind.i64.wrap (u.j - o.j) = pj := by rw [i64_small (by omega) (by omega)]; exact hpj
    have e3 : IntKind.i64.wrap (v.i - o.i) = qi := by rw [i64_small (by omega) (by omega)]; exact hqi
    have e4 : IntKind.i64.wrap (v.j - o.j) = qj := by rw [i64_small (by omega) (by omega)]; exact hqj
    have e5 : IntKind.i64.wrap (x.i - o.i) = ri := by rw [i64_small (by omega) (by omega)]; exact hri
    have e6 : IntKind.i64.wrap (x.j - o.j) = rj := by rw [i64_small (by omega) (by omega)]; exact hrj
    have HPI := Lib.hid (And.intro hpi (And.intro hpj (And.intro hqi (And.intro hqj (And.intro hri hrj)))))
    have HBD := Lib.hid (And.intro hpa (And.intro hpb (And.intro hpc hpt)))
    have HB3 := Lib.hid hb3
    clear hO0 hO1 hO2 hO3 hpi hpj hqi hqj hri hrj hpa hpb hpc hpt hb3
    go_wp2_with fail
    try rw [hW3]
    try rw [hT3]
    go_cut [15, 16, 17] from 34 to 66 (fun s15 s16 s17 wc => TriP W3 pi pj qi qj ri rj s15 s16 s17 wc)
    case first =>
      refine wp_region_inv (fun L ac w' => ∃ s15 s16 s17 s34 s35 s36 s37 s38 s39 s40 s41 s42 s43 s44 s45 s46 s47 s48 s49 s50 s51 s52 s53 s54 s55 s56 s57 s58 s59 s60 s61 s62 s63 s64 s65 s66, ac = { tmps := #[.slice (some ⟨bl, ol, none⟩) n cap, .int .i64 (a : Int), .int .i64 (b : Int), .int .i64 (c : Int), .int .i64 (t : Int), undef, undef, undef, undef, undef, .int .i64 0, .pointer (some ⟨T0, 0, none⟩), .pointer (some ⟨T1, 0, none⟩), .pointer (some ⟨T2, 0, none⟩), .pointer (some ⟨T3, 0, none⟩), s15, s16, s17, u18, u19, u20, u21, u22, u23, u24, u25, u26, u27, u28, u29, .slice (some ⟨bl, ol, none⟩) n cap, .int .i64 (a : Int), .pointer (some ⟨bl, ol + a * 3, none⟩), .agg #[.int .i64 o.i, .int .i64 o.j, .int .i64 o.c], s34, s35, s36, s37, s38, s39, s40, s41, s42, s43, s44, s45, s46, s47, s48, s49, s50, s51, s52, s53, s54, s55, s56, s57, s58, s59, s60, s61, s62, s63, s64, s65, s66, undef, undef, undef, undef, undef, undef, undef, undef, undef, undef, undef, undef, undef, undef, undef, undef, undef, undef, undef, undef, undef, undef, undef, undef, undef, undef, undef, undef, undef], defers := [] } ∧ AcI bl ol n cap a b c t o u v x T0 T1 T2 T3 pi pj qi qj ri rj u18 u19 u20 u21 u22 u23 u24 u25 u26 u27 u28 u29 W3 L w' s15 s16 s17 s34 s35 s36 s37 s38 s39 s40 s41 s42 s43 s44 s45 s46 s47 s48 s49 s50 s51 s52 s53 s54 s55 s56 s57 s58 s59 s60 s61 s62 s63 s64 s65 s66) (by kernel_rfl) (by kernel_rfl) ?_ ?_ ?_
      · exact ⟨_, _, _, _, _, _, _, _, _, _, _, _, _, _, _, _, _, _, _, _, _, _, _, _, _, _, _, _, _, _, _, _, _, _, _, _, rfl, (Below.refl _ _).drew, (fun e => by cases e), (fun e => by cases e), (fun e => by cases e), (fun e => by cases e), (fun e => by cases e), (fun e => by cases e), (fun e => by cases e), (fun e => by cases e), (fun e => by cases e), (fun e => by cases e), (fun e => by cases e), (fun e => by cases e), (fun e => by cases e), (fun e => by cases e), (fun e => by cases e), (fun e => by cases e), (fun e => by cases e), (fun e => by cases e), (fun e => by cases e), (fun e => by cases e), (fun e => by cases e), (fun e => by cases e), (fun e => by cases e), (fun e => by cases e), (fun e => by cases e), (fun e => by cases e), (fun e => by cases e), (fun e => by cases e), (fun e => by cases e), (fun e => by cases e), (fun e => by cases e), (fun e => by cases e), (fun e => by cases e), (fun e => by cases e), (fun e => by cases e), (fun e => by cases e), (fun e => by cases e), (fun e => by cases e), (fun e => by cases e), (fun e => by cases e), (fun e => by cases e), (fun e => by cases e)⟩
      · rintro L ac w' ⟨s15, s16, s17, s34, s35, s36, s37, s38, s39, s40, s41, s42, s43, s44, s45, s46, s47, s48, s49, s50, s51, s52, s53, s54, s55, s56, s57, s58, s59, s60, s61, s62, s63, s64, s65, s66, rfl, H⟩ hL
        obtain ⟨P0, x00, x01, rfl, hT0, hO0, e0⟩ := H.a0 (hL 33 (by decide))
        obtain ⟨g00, g01⟩ := e0 (hL 36 (by decide))
        rw [g00, g01] at hO0
        obtain ⟨P1, x10, x11, rfl, hT1, hO1, e1⟩ := H.a1 (hL 34 (by decide))
        obtain ⟨g10, g11⟩ := e1 (hL 37 (by decide))
        rw [g10, g11] at hO1
        obtain ⟨P2, x20, x21, rfl, hT2, hO2, e2⟩ := H.a2 (hL 35 (by decide))
        obtain ⟨g20, g21⟩ := e2 (hL 38 (by decide))
        rw [g20, g21] at hO2
        have n01 := H.d01 (hL 33 (by decide)) (hL 34 (by decide)); have n02 := H.d02 (hL 33 (by decide)) (hL 35 (by decide)); have n12 := H.d12 (hL 34 (by decide)) (hL 35 (by decide))
        have HREL := Lib.hid (show TriP W3 pi pj qi qj ri rj (.pointer (some ⟨P0, 0, none⟩)) (.pointer (some ⟨P1, 0, none⟩)) (.pointer (some ⟨P2, 0, none⟩)) w' from ⟨P0, P1, P2, rfl, rfl, rfl, hO0, hO1, hO2, H.bel⟩)
        clear H hL n01 n02 n12 hO0 hO1 hO2 e0 e1 e2 g00 g01 g10 g11 g20 g21
        go_wp2_with fail
        go_meet
        exact HREL.out
      · rintro i L ac w' ⟨s15, s16, s17, s34, s35, s36, s37, s38, s39, s40, s41, s42, s43, s44, s45, s46, s47, s48, s49, s50, s51, s52, s53, s54, s55, s56, s57, s58, s59, s60, s61, s62, s63, s64, s65, s66, rfl, H⟩ hi hL hw
        have hi : i < 39 := hi
        have HH := Lib.hid H; have HWt := Lib.hid hw
        clear H hw
        rcases (show i = 0 ∨ i = 1 ∨ i = 2 ∨ i = 3 ∨ i = 4 ∨ i = 5 ∨ i = 6 ∨ i = 7 ∨ i = 8 ∨ i = 9 ∨ i = 10 ∨ i = 11 ∨ i = 12 ∨ i = 13 ∨ i = 14 ∨ i = 15 ∨ i = 16 ∨ i = 17 ∨ i = 18 ∨ i = 19 ∨ i = 20 ∨ i = 21 ∨ i = 22 ∨ i = 23 ∨ i = 24 ∨ i = 25 ∨ i = 26 ∨ i = 27 ∨ i = 28 ∨ i = 29 ∨ i = 30 ∨ i = 31 ∨ i = 32 ∨ i = 33 ∨ i = 34 ∨ i = 35 ∨ i = 36 ∨ i = 37 ∨ i = 38 by omega) with rfl | rfl | rfl | rfl | rfl | rfl | rfl | rfl | rfl | rfl | rfl | rfl | rfl | rfl | rfl | rfl | rfl | rfl | rfl | rfl | rfl | rfl | rfl | rfl | rfl | rfl | rfl | rfl | rfl | rfl | rfl | rfl | rfl | rfl | rfl | rfl | rfl | rfl | rfl
        · refine' wpOp_step (o := ?oAc_0) ?hoAc_0 (fun K hK => ?stAc_0)
          case hoAc_0 => rfl
          case stAc_0 =>
            have HK := Lib.hid hK; clear hK
            go_simp
            refine HK.out _ _ ⟨_, _, _, _, _, _, _, _, _, _, _, _, _, _, _, _, _, _, _, _, _, _, _, _, _, _, _, _, _, _, _, _, _, _, _, _, rfl, ?_⟩
            have h := HH.out
            exact ⟨h.bel, (fun _ => rfl), (fun e => h.p1 e), (fun e => h.p2 e), (fun e => h.p3 e), (fun e => h.p4 e), (fun e => h.p5 e), (fun e => h.p6 e), (fun e => h.p7 e), (fun e => h.p8 e), (fun e => h.p9 e), (fun e => h.p10 e), (fun e => h.p11 e), (fun e => h.p12 e), (fun e => h.p13 e), (fun e => h.p14 e), (fun e => h.p15 e), (fun e => h.p16 e), (fun e => h.p17 e), (fun e => h.p18 e), (fun e => h.p19 e), (fun e => h.p20 e), (fun e => h.p21 e), (fun e => h.p22 e), (fun e => h.p23 e), (fun e => h.p24 e), (fun e => h.p25 e), (fun e => h.p26 e), (fun e => h.p27 e), (fun e => h.p28 e), (fun e => h.p29 e), (fun e => h.p30 e), (fun e => h.p31 e), (fun e => h.p32 e), (fun e => h.a0 e), (fun e => h.c0 e), (fun e => h.a1 e), (fun e => h.c1 e), (fun e => h.a2 e), (fun e => h.c2 e), (fun e e2 => h.d01 e e2), (fun e e2 => h.d02 e e2), (fun e e2 => h.d12 e e2)⟩
        · refine' wpOp_step (o := ?oAc_1) ?hoAc_1 (fun K hK => ?stAc_1)
          case hoAc_1 => rfl
          case stAc_1 =>
            have HK := Lib.hid hK; clear hK
            obtain rfl := HH.out.p0 (HWt.out 0 (by kernel_rfl))
            have q9 := bcellP HH.out.bel F00.out
            go_simp
            refine HK.out _ _ ⟨_, _, _, _, _, _, _, _, _, _, _, _, _, _, _, _, _, _, _, _, _, _, _, _, _, _, _, _, _, _, _, _, _, _, _, _, rfl, ?_⟩
            have h := HH.out
            exact ⟨h.bel, (fun e => h.p0 e), (fun _ => rfl), (fun e => h.p2 e), (fun e => h.p3 e), (fun e => h.p4 e), (fun e => h.p5 e), (fun e => h.p6 e), (fun e => h.p7 e), (fun e => h.p8 e), (fun e => h.p9 e), (fun e => h.p10 e), (fun e => h.p11 e), (fun e => h.p12 e), (fun e => h.p13 e), (fun e => h.p14 e), (fun e => h.p15 e), (fun e => h.p16 e), (fun e => h.p17 e), (fun e => h.p18 e), (fun e => h.p19 e), (fun e => h.p20 e), (fun e => h.p21 e), (fun e => h.p22 e), (fun e => h.p23 e), (fun e => h.p24 e), (fun e => h.p25 e), (fun e => h.p26 e), (fun e => h.p27 e), (fun e => h.p28 e), (fun e => h.p29 e), (fun e => h.p30 e), (fun e => h.p31 e), (fun e => h.p32 e), (fun e => h.a0 e), (fun e => h.c0 e), (fun e => h.a1 e), (fun e => h.c1 e), (fun e => h.a2 e), (fun e => h.c2 e), (fun e e2 => h.d01 e e2), (fun e e2 => h.d02 e e2), (fun e e2 => h.d12 e e2)⟩
        · refine' wpOp_step (o := ?oAc_2) ?hoAc_2 (fun K hK => ?stAc_2)
          case hoAc_2 => rfl
          case stAc_2 =>
            have HK := Lib.hid hK; clear hK
            go_simp
            refine HK.out _ _ ⟨_, _, _, _, _, _, _, _, _, _, _, _, _, _, _, _, _, _, _, _, _, _, _, _, _, _, _, _, _, _, _, _, _, _, _, _, rfl, ?_⟩
            have h := HH.out
            exact ⟨h.bel, (fun e => h.p0 e), (fun e => h.p1 e), (fun _ => rfl), (fun e => h.p3 e), (fun e => h.p4 e), (fun e => h.p5 e), (fun e => h.p6 e), (fun e => h.p7 e), (fun e => h.p8 e), (fun e => h.p9 e), (fun e => h.p10 e), (fun e => h.p11 e), (fun e => h.p12 e), (fun e => h.p13 e), (fun e => h.p14 e), (fun e => h.p15 e), (fun e => h.p16 e), (fun e => h.p17 e), (fun e => h.p18 e), (fun e => h.p19 e), (fun e => h.p20 e), (fun e => h.p21 e), (fun e => h.p22 e), (fun e => h.p23 e), (fun e => h.p24 e), (fun e => h.p25 e), (fun e => h.p26 e), (fun e => h.p27 e), (fun e => h.p28 e), (fun e => h.p29 e), (fun e => h.p30 e), (fun e => h.p31 e), (fun e => h.p32 e), (fun e => h.a0 e), (fun e => h.c0 e), (fun e => h.a1 e), (fun e => h.c1 e), (fun e => h.a2 e), (fun e => h.c2 e), (fun e e2 => h.d01 e e2), (fun e e2 => h.d02 e e2), (fun e e2 => h.d12 e e2)⟩
        · refine' wpOp_step (o := ?oAc_3) ?hoAc_3 (fun K hK => ?stAc_3)
          case hoAc_3 => rfl
          case stAc_3 =>
            have HK := Lib.hid hK; clear hK
            obtain rfl := HH.out.p2 (HWt.out 2 (by kernel_rfl))
            have q9 := bcellP HH.out.bel F30.out
            go_simp
            refine HK.out _ _ ⟨_, _, _, _, _, _, _, _, _, _, _, _, _, _, _, _, _, _, _, _, _, _, _, _, _, _, _, _, _, _, _, _, _, _, _, _, rfl, ?_⟩
            have h := HH.out
            exact ⟨h.bel, (fun e => h.p0 e), (fun e => h.p1 e), (fun e => h.p2 e), (fun _ => rfl), (fun e => h.p4 e), (fun e => h.p5 e), (fun e => h.p6 e), (fun e => h.p7 e), (fun e => h.p8 e), (fun e => h.p9 e), (fun e => h.p10 e), (fun e => h.p11 e), (fun e => h.p12 e), (fun e => h.p13 e), (fun e => h.p14 e), (fun e => h.p15 e), (fun e => h.p16 e), (fun e => h.p17 e), (fun e => h.p18 e), (fun e => h.p19 e), (fun e => h.p20 e), (fun e => h.p21 e), (fun e => h.p22 e), (fun e => h.p23 e), (fun e => h.p24 e), (fun e => h.p25 e), (fun e => h.p26 e), (fun e => h.p27 e), (fun e => h.p28 e), (fun e => h.p29 e), (fun e => h.p30 e), (fun e => h.p31 e), (fun e => h.p32 e), (fun e => h.a0 e), (fun e => h.c0 e), (fun e => h.a1 e), (fun e => h.c1 e), (fun e => h.a2 e), (fun e => h.c2 e), (fun e e2 => h.d01 e e2), (fun e e2 => h.d02 e e2), (fun e e2 => h.d12 e e2)⟩
        · refine' wpOp_step (o := ?oAc_4) ?hoAc_4 (fun K hK => ?stAc_4)
          case hoAc_4 => rfl
          case stAc_4 =>
            have HK := Lib.hid hK; clear hK
            obtain rfl := HH.out.p1 (HWt.out 1 (by kernel_rfl))
            obtain rfl := HH.out.p3 (HWt.out 3 (by kernel_rfl))
            go_simp
            refine HK.out _ _ ⟨_, _, _, _, _, _, _, _, _, _, _, _, _, _, _, _, _, _, _, _, _, _, _, _, _, _, _, _, _, _, _, _, _, _, _, _, rfl, ?_⟩
            have h := HH.out
            exact ⟨h.bel, (fun e => h.p0 e), (fun e => h.p1 e), (fun e => h.p2 e), (fun e => h.p3 e), (fun _ => rfl), (fun e => h.p5 e), (fun e => h.p6 e), (fun e => h.p7 e), (fun e => h.p8 e), (fun e => h.p9 e), (fun e => h.p10 e), (fun e => h.p11 e), (fun e => h.p12 e), (fun e => h.p13 e), (fun e => h.p14 e), (fun e => h.p15 e), (fun e => h.p16 e), (fun e => h.p17 e), (fun e => h.p18 e), (fun e => h.p19 e), (fun e => h.p20 e), (fun e => h.p21 e), (fun e => h.p22 e), (fun e => h.p23 e), (fun e => h.p24 e), (fun e => h.p25 e), (fun e => h.p26 e), (fun e => h.p27 e), (fun e => h.p28 e), (fun e => h.p29 e), (fun e => h.p30 e), (fun e => h.p31 e), (fun e => h.p32 e), (fun e => h.a0 e), (fun e => h.c0 e), (fun e => h.a1 e), (fun e => h.c1 e), (fun e => h.a2 e), (fun e => h.c2 e), (fun e e2 => h.d01 e e2), (fun e e2 => h.d02 e e2), (fun e e2 => h.d12 e e2)⟩
        · refine' wpOp_step (o := ?oAc_5) ?hoAc_5 (fun K hK => ?stAc_5)
          case hoAc_5 => rfl
          case stAc_5 =>
            have HK := Lib.hid hK; clear hK
            go_simp
            refine HK.out _ _ ⟨_, _, _, _, _, _, _, _, _, _, _, _, _, _, _, _, _, _, _, _, _, _, _, _, _, _, _, _, _, _, _, _, _, _, _, _, rfl, ?_⟩
            have h := HH.out
            exact ⟨h.bel, (fun e => h.p0 e), (fun e => h.p1 e), (fun e => h.p2 e), (fun e => h.p3 e), (fun e => h.p4 e), (fun _ => rfl), (fun e => h.p6 e), (fun e => h.p7 e), (fun e => h.p8 e), (fun e => h.p9 e), (fun e => h.p10 e), (fun e => h.p11 e), (fun e => h.p12 e), (fun e => h.p13 e), (fun e => h.p14 e), (fun e => h.p15 e), (fun e => h.p16 e), (fun e => h.p17 e), (fun e => h.p18 e), (fun e => h.p19 e), (fun e => h.p20 e), (fun e => h.p21 e), (fun e => h.p22 e), (fun e => h.p23 e), (fun e => h.p24 e), (fun e => h.p25 e), (fun e => h.p26 e), (fun e => h.p27 e), (fun e => h.p28 e), (fun e => h.p29 e), (fun e => h.p30 e), (fun e => h.p31 e), (fun e => h.p32 e), (fun e => h.a0 e), (fun e => h.c0 e), (fun e => h.a1 e), (fun e => h.c1 e), (fun e => h.a2 e), (fun e => h.c2 e), (fun e e2 => h.d01 e e2), (fun e e2 => h.d02 e e2), (fun e e2 => h.d12 e e2)⟩
        · refine' wpOp_step (o := ?oAc_6) ?hoAc_6 (fun K hK => ?stAc_6)
          case hoAc_6 => rfl
          case stAc_6 =>
            have HK := Lib.hid hK; clear hK
            obtain rfl := HH.out.p5 (HWt.out 5 (by kernel_rfl))
            have q9 := bcellP HH.out.bel F01.out
            go_simp
            refine HK.out _ _ ⟨_, _, _, _, _, _, _, _, _, _, _, _, _, _, _, _, _, _, _, _, _, _, _, _, _, _, _, _, _, _, _, _, _, _, _, _, rfl, ?_⟩
            have h := HH.out
            exact ⟨h.bel, (fun e => h.p0 e), (fun e => h.p1 e), (fun e => h.p2 e), (fun e => h.p3 e), (fun e => h.p4 e), (fun e => h.p5 e), (fun _ => rfl), (fun e => h.p7 e), (fun e => h.p8 e), (fun e => h.p9 e), (fun e => h.p10 e), (fun e => h.p11 e), (fun e => h.p12 e), (fun e => h.p13 e), (fun e => h.p14 e), (fun e => h.p15 e), (fun e => h.p16 e), (fun e => h.p17 e), (fun e => h.p18 e), (fun e => h.p19 e), (fun e => h.p20 e), (fun e => h.p21 e), (fun e => h.p22 e), (fun e => h.p23 e), (fun e => h.p24 e), (fun e => h.p25 e), (fun e => h.p26 e), (fun e => h.p27 e), (fun e => h.p28 e), (fun e => h.p29 e), (fun e => h.p30 e), (fun e => h.p31 e), (fun e => h.p32 e), (fun e => h.a0 e), (fun e => h.c0 e), (fun e => h.a1 e), (fun e => h.c1 e), (fun e => h.a2 e), (fun e => h.c2 e), (fun e e2 => h.d01 e e2), (fun e e2 => h.d02 e e2), (fun e e2 => h.d12 e e2)⟩
        · refine' wpOp_step (o := ?oAc_7) ?hoAc_7 (fun K hK => ?stAc_7)
          case hoAc_7 => rfl
          case stAc_7 =>
            have HK := Lib.hid hK; clear hK
            go_simp
            refine HK.out _ _ ⟨_, _, _, _, _, _, _, _, _, _, _, _, _, _, _, _, _, _, _, _, _, _, _, _, _, _, _, _, _, _, _, _, _, _, _, _, rfl, ?_⟩
            have h := HH.out
            exact ⟨h.bel, (fun e => h.p0 e), (fun e => h.p1 e), (fun e => h.p2 e), (fun e => h.p3 e), (fun e => h.p4 e), (fun e => h.p5 e), (fun e => h.p6 e), (fun _ => rfl), (fun e => h.p8 e), (fun e => h.p9 e), (fun e => h.p10 e), (fun e => h.p11 e), (fun e => h.p12 e), (fun e => h.p13 e), (fun e => h.p14 e), (fun e => h.p15 e), (fun e => h.p16 e), (fun e => h.p17 e), (fun e => h.p18 e), (fun e => h.p19 e), (fun e => h.p20 e), (fun e => h.p21 e), (fun e => h.p22 e), (fun e => h.p23 e), (fun e => h.p24 e), (fun e => h.p25 e), (fun e => h.p26 e), (fun e => h.p27 e), (fun e => h.p28 e), (fun e => h.p29 e), (fun e => h.p30 e), (fun e => h.p31 e), (fun e => h.p32 e), (fun e => h.a0 e), (fun e => h.c0 e), (fun e => h.a1 e), (fun e => h.c1 e), (fun e => h.a2 e), (fun e => h.c2 e), (fun e e2 => h.d01 e e2), (fun e e2 => h.d02 e e2), (fun e e2 => h.d12 e e2)⟩
        · refine' wpOp_step (o := ?oAc_8) ?hoAc_8 (fun K hK => ?stAc_8)
          case hoAc_8 => rfl
          case stAc_8 =>
            have HK := Lib.hid hK; clear hK
            obtain rfl := HH.out.p7 (HWt.out 7 (by kernel_rfl))
            have q9 := bcellP HH.out.bel F31.out
            go_simp
            refine HK.out _ _ ⟨_, _, _, _, _, _, _, _, _, _, _, _, _, _, _, _, _, _, _, _, _, _, _, _, _, _, _, _, _, _, _, _, _, _, _, _, rfl, ?_⟩
            have h := HH.out
            exact ⟨h.bel, (fun e => h.p0 e), (fun e => h.p1 e), (fun e => h.p2 e), (fun e => h.p3 e), (fun e => h.p4 e), (fun e => h.p5 e), (fun e => h.p6 e), (fun e => h.p7 e), (fun _ => rfl), (fun e => h.p9 e), (fun e => h.p10 e), (fun e => h.p11 e), (fun e => h.p12 e), (fun e => h.p13 e), (fun e => h.p14 e), (fun e => h.p15 e), (fun e => h.p16 e), (fun e => h.p17 e), (fun e => h.p18 e), (fun e => h.p19 e), (fun e => h.p20 e), (fun e => h.p21 e), (fun e => h.p22 e), (fun e => h.p23 e), (fun e => h.p24 e), (fun e => h.p25 e), (fun e => h.p26 e), (fun e => h.p27 e), (fun e => h.p28 e), (fun e => h.p29 e), (fun e => h.p30 e), (fun e => h.p31 e), (fun e => h.p32 e), (fun e => h.a0 e), (fun e => h.c0 e), (fun e => h.a1 e), (fun e => h.c1 e), (fun e => h.a2 e), (fun e => h.c2 e), (fun e e2 => h.d01 e e2), (fun e e2 => h.d02 e e2), (fun e e2 => h.d12 e e2)⟩
        · refine' wpOp_step (o := ?oAc_9) ?hoAc_9 (fun K hK => ?stAc_9)
          case hoAc_9 => rfl
          case stAc_9 =>
            have HK := Lib.hid hK; clear hK
            obtain rfl := HH.out.p6 (HWt.out 6 (by kernel_rfl))
            obtain rfl := HH.out.p8 (HWt.out 8 (by kernel_rfl))
            go_simp
            refine HK.out _ _ ⟨_, _, _, _, _, _, _, _, _, _, _, _, _, _, _, _, _, _, _, _, _, _, _, _, _, _, _, _, _, _, _, _, _, _, _, _, rfl, ?_⟩
            have h := HH.out
            exact ⟨h.bel, (fun e => h.p0 e), (fun e => h.p1 e), (fun e => h.p2 e), (fun e => h.p3 e), (fun e => h.p4 e), (fun e => h.p5 e), (fun e => h.p6 e), (fun e => h.p7 e), (fun e => h.p8 e), (fun _ => rfl), (fun e => h.p10 e), (fun e => h.p11 e), (fun e => h.p12 e), (fun e => h.p13 e), (fun e => h.p14 e), (fun e => h.p15 e), (fun e => h.p16 e), (fun e => h.p17 e), (fun e => h.p18 e), (fun e => h.p19 e), (fun e => h.p20 e), (fun e => h.p21 e), (fun e => h.p22 e), (fun e => h.p23 e), (fun e => h.p24 e), (fun e => h.p25 e), (fun e => h.p26 e), (fun e => h.p27 e), (fun e => h.p28 e), (fun e => h.p29 e), (fun e => h.p30 e), (fun e => h.p31 e), (fun e => h.p32 e), (fun e => h.a0 e), (fun e => h.c0 e), (fun e => h.a1 e), (fun e => h.c1 e), (fun e => h.a2 e), (fun e => h.c2 e), (fun e e2 => h.d01 e e2), (fun e e2 => h.d02 e e2), (fun e e2 => h.d12 e e2)⟩
        · refine' wpOp_step (o := ?oAc_10) ?hoAc_10 (fun K hK => ?stAc_10)
          case hoAc_10 => rfl
          case stAc_10 =>
            have HK := Lib.hid hK; clear hK
            obtain rfl := HH.out.p4 (HWt.out 4 (by kernel_rfl))
            obtain rfl := HH.out.p9 (HWt.out 9 (by kernel_rfl))
            go_simp
            refine HK.out _ _ ⟨_, _, _, _, _, _, _, _, _, _, _, _, _, _, _, _, _, _, _, _, _, _, _, _, _, _, _, _, _, _, _, _, _, _, _, _, rfl, ?_⟩
            have h := HH.out
            exact ⟨h.bel, (fun e => h.p0 e), (fun e => h.p1 e), (fun e => h.p2 e), (fun e => h.p3 e), (fun e => h.p4 e), (fun e => h.p5 e), (fun e => h.p6 e), (fun e => h.p7 e), (fun e => h.p8 e), (fun e => h.p9 e), (fun _ => rfl), (fun e => h.p11 e), (fun e => h.p12 e), (fun e => h.p13 e), (fun e => h.p14 e), (fun e => h.p15 e), (fun e => h.p16 e), (fun e => h.p17 e), (fun e => h.p18 e), (fun e => h.p19 e), (fun e => h.p20 e), (fun e => h.p21 e), (fun e => h.p22 e), (fun e => h.p23 e), (fun e => h.p24 e), (fun e => h.p25 e), (fun e => h.p26 e), (fun e => h.p27 e), (fun e => h.p28 e), (fun e => h.p29 e), (fun e => h.p30 e), (fun e => h.p31 e), (fun e => h.p32 e), (fun e => h.a0 e), (fun e => h.c0 e), (fun e => h.a1 e), (fun e => h.c1 e), (fun e => h.a2 e), (fun e => h.c2 e), (fun e e2 => h.d01 e e2), (fun e e2 => h.d02 e e2), (fun e e2 => h.d12 e e2)⟩
        · refine' wpOp_step (o := ?oAc_11) ?hoAc_11 (fun K hK => ?stAc_11)
          case hoAc_11 => rfl
          case stAc_11 =>
            have HK := Lib.hid hK; clear hK
            go_simp
            refine HK.out _ _ ⟨_, _, _, _, _, _, _, _, _, _, _, _, _, _, _, _, _, _, _, _, _, _, _, _, _, _, _, _, _, _, _, _, _, _, _, _, rfl, ?_⟩
            have h := HH.out
            exact ⟨h.bel, (fun e => h.p0 e), (fun e => h.p1 e), (fun e => h.p2 e), (fun e => h.p3 e), (fun e => h.p4 e), (fun e => h.p5 e), (fun e => h.p6 e), (fun e => h.p7 e), (fun e => h.p8 e), (fun e => h.p9 e), (fun e => h.p10 e), (fun _ => rfl), (fun e => h.p12 e), (fun e => h.p13 e), (fun e => h.p14 e), (fun e => h.p15 e), (fun e => h.p16 e), (fun e => h.p17 e), (fun e => h.p18 e), (fun e => h.p19 e), (fun e => h.p20 e), (fun e => h.p21 e), (fun e => h.p22 e), (fun e => h.p23 e), (fun e => h.p24 e), (fun e => h.p25 e), (fun e => h.p26 e), (fun e => h.p27 e), (fun e => h.p28 e), (fun e => h.p29 e), (fun e => h.p30 e), (fun e => h.p31 e), (fun e => h.p32 e), (fun e => h.a0 e), (fun e => h.c0 e), (fun e => h.a1 e), (fun e => h.c1 e), (fun e => h.a2 e), (fun e => h.c2 e), (fun e e2 => h.d01 e e2), (fun e e2 => h.d02 e e2), (fun e e2 => h.d12 e e2)⟩
        · refine' wpOp_step (o := ?oAc_12) ?hoAc_12 (fun K hK => ?stAc_12)
          case hoAc_12 => rfl
          case stAc_12 =>
            have HK := Lib.hid hK; clear hK
            obtain rfl := HH.out.p11 (HWt.out 11 (by kernel_rfl))
            have q9 := bcellP HH.out.bel F10.out
            go_simp
            refine HK.out _ _ ⟨_, _, _, _, _, _, _, _, _, _, _, _, _, _, _, _, _, _, _, _, _, _, _, _, _, _, _, _, _, _, _, _, _, _, _, _, rfl, ?_⟩
            have h := HH.out
            exact ⟨h.bel, (fun e => h.p0 e), (fun e => h.p1 e), (fun e => h.p2 e), (fun e => h.p3 e), (fun e => h.p4 e), (fun e => h.p5 e), (fun e => h.p6 e), (fun e => h.p7 e), (fun e => h.p8 e), (fun e => h.p9 e), (fun e => h.p10 e), (fun e => h.p11 e), (fun _ => rfl), (fun e => h.p13 e), (fun e => h.p14 e), (fun e => h.p15 e), (fun e => h.p16 e), (fun e => h.p17 e), (fun e => h.p18 e), (fun e => h.p19 e), (fun e => h.p20 e), (fun e => h.p21 e), (fun e => h.p22 e), (fun e => h.p23 e), (fun e => h.p24 e), (fun e => h.p25 e), (fun e => h.p26 e), (fun e => h.p27 e), (fun e => h.p28 e), (fun e => h.p29 e), (fun e => h.p30 e), (fun e => h.p31 e), (fun e => h.p32 e), (fun e => h.a0 e), (fun e => h.c0 e), (fun e => h.a1 e), (fun e => h.c1 e), (fun e => h.a2 e), (fun e => h.c2 e), (fun e e2 => h.d01 e e2), (fun e e2 => h.d02 e e2), (fun e e2 => h.d12 e e2)⟩
        · refine' wpOp_step (o := ?oAc_13) ?hoAc_13 (fun K hK => ?stAc_13)
          case hoAc_13 => rfl
          case stAc_13 =>
            have HK := Lib.hid hK; clear hK
            go_simp
            refine HK.out _ _ ⟨_, _, _, _, _, _, _, _, _, _, _, _, _, _, _, _, _, _, _, _, _, _, _, _, _, _, _, _, _, _, _, _, _, _, _, _, rfl, ?_⟩
            have h := HH.out
            exact ⟨h.bel, (fun e => h.p0 e), (fun e => h.p1 e), (fun e => h.p2 e), (fun e => h.p3 e), (fun e => h.p4 e), (fun e => h.p5 e), (fun e => h.p6 e), (fun e => h.p7 e), (fun e => h.p8 e), (fun e => h.p9 e), (fun e => h.p10 e), (fun e => h.p11 e), (fun e => h.p12 e), (fun _ => rfl), (fun e => h.p14 e), (fun e => h.p15 e), (fun e => h.p16 e), (fun e => h.p17 e), (fun e => h.p18 e), (fun e => h.p19 e), (fun e => h.p20 e), (fun e => h.p21 e), (fun e => h.p22 e), (fun e => h.p23 e), (fun e => h.p24 e), (fun e => h.p25 e), (fun e => h.p26 e), (fun e => h.p27 e), (fun e => h.p28 e), (fun e => h.p29 e), (fun e => h.p30 e), (fun e => h.p31 e), (fun e => h.p32 e), (fun e => h.a0 e), (fun e => h.c0 e), (fun e => h.a1 e), (fun e => h.c1 e), (fun e => h.a2 e), (fun e => h.c2 e), (fun e e2 => h.d01 e e2), (fun e e2 => h.d02 e e2), (fun e e2 => h.d12 e e2)⟩
        · refine' wpOp_step (o := ?oAc_14) ?hoAc_14 (fun K hK => ?stAc_14)
          case hoAc_14 => rfl
          case stAc_14 =>
            have HK := Lib.hid hK; clear hK
            obtain rfl := HH.out.p13 (HWt.out 13 (by kernel_rfl))
            have q9 := bcellP HH.out.bel F30.out
            go_simp
            refine HK.out _ _ ⟨_, _, _, _, _, _, _, _, _, _, _, _, _, _, _, _, _, _, _, _, _, _, _, _, _, _, _, _, _, _, _, _, _, _, _, _, rfl, ?_⟩
            have h := HH.out
            exact ⟨h.bel, (fun e => h.p0 e), (fun e => h.p1 e), (fun e => h.p2 e), (fun e => h.p3 e), (fun e => h.p4 e), (fun e => h.p5 e), (fun e => h.p6 e), (fun e => h.p7 e), (fun e => h.p8 e), (fun e => h.p9 e), (fun e => h.p10 e), (fun e => h.p11 e), (fun e => h.p12 e), (fun e => h.p13 e), (fun _ => rfl), (fun e => h.p15 e), (fun e => h.p16 e), (fun e => h.p17 e), (fun e => h.p18 e), (fun e => h.p19 e), (fun e => h.p20 e), (fun e => h.p21 e), (fun e => h.p22 e), (fun e => h.p23 e), (fun e => h.p24 e), (fun e => h.p25 e), (fun e => h.p26 e), (fun e => h.p27 e), (fun e => h.p28 e), (fun e => h.p29 e), (fun e => h.p30 e), (fun e => h.p31 e), (fun e => h.p32 e), (fun e => h.a0 e), (fun e => h.c0 e), (fun e => h.a1 e), (fun e => h.c1 e), (fun e => h.a2 e), (fun e => h.c2 e), (fun e e2 => h.d01 e e2), (fun e e2 => h.d02 e e2), (fun e e2 => h.d12 e e2)⟩
        · refine' wpOp_step (o := ?oAc_15) ?hoAc_15 (fun K hK => ?stAc_15)
          case hoAc_15 => rfl
          case stAc_15 =>
            have HK := Lib.hid hK; clear hK
            obtain rfl := HH.out.p12 (HWt.out 12 (by kernel_rfl))
            obtain rfl := HH.out.p14 (HWt.out 14 (by kernel_rfl))
            go_simp
            refine HK.out _ _ ⟨_, _, _, _, _, _, _, _, _, _, _, _, _, _, _, _, _, _, _, _, _, _, _, _, _, _, _, _, _, _, _, _, _, _, _, _, rfl, ?_⟩
            have h := HH.out
            exact ⟨h.bel, (fun e => h.p0 e), (fun e => h.p1 e), (fun e => h.p2 e), (fun e => h.p3 e), (fun e => h.p4 e), (fun e => h.p5 e), (fun e => h.p6 e), (fun e => h.p7 e), (fun e => h.p8 e), (fun e => h.p9 e), (fun e => h.p10 e), (fun e => h.p11 e), (fun e => h.p12 e), (fun e => h.p13 e), (fun e => h.p14 e), (fun _ => rfl), (fun e => h.p16 e), (fun e => h.p17 e), (fun e => h.p18 e), (fun e => h.p19 e), (fun e => h.p20 e), (fun e => h.p21 e), (fun e => h.p22 e), (fun e => h.p23 e), (fun e => h.p24 e), (fun e => h.p25 e), (fun e => h.p26 e), (fun e => h.p27 e), (fun e => h.p28 e), (fun e => h.p29 e), (fun e => h.p30 e), (fun e => h.p31 e), (fun e => h.p32 e), (fun e => h.a0 e), (fun e => h.c0 e), (fun e => h.a1 e), (fun e => h.c1 e), (fun e => h.a2 e), (fun e => h.c2 e), (fun e e2 => h.d01 e e2), (fun e e2 => h.d02 e e2), (fun e e2 => h.d12 e e2)⟩
        · refine' wpOp_step (o := ?oAc_16) ?hoAc_16 (fun K hK => ?stAc_16)
          case hoAc_16 => rfl
          case stAc_16 =>
            have HK := Lib.hid hK; clear hK
            go_simp
            refine HK.out _ _ ⟨_, _, _, _, _, _, _, _, _, _, _, _, _, _, _, _, _, _, _, _, _, _, _, _, _, _, _, _, _, _, _, _, _, _, _, _, rfl, ?_⟩
            have h := HH.out
            exact ⟨h.bel, (fun e => h.p0 e), (fun e => h.p1 e), (fun e => h.p2 e), (fun e => h.p3 e), (fun e => h.p4 e), (fun e => h.p5 e), (fun e => h.p6 e), (fun e => h.p7 e), (fun e => h.p8 e), (fun e => h.p9 e), (fun e => h.p10 e), (fun e => h.p11 e), (fun e => h.p12 e), (fun e => h.p13 e), (fun e => h.p14 e), (fun e => h.p15 e), (fun _ => rfl), (fun e => h.p17 e), (fun e => h.p18 e), (fun e => h.p19 e), (fun e => h.p20 e), (fun e => h.p21 e), (fun e => h.p22 e), (fun e => h.p23 e), (fun e => h.p24 e), (fun e => h.p25 e), (fun e => h.p26 e), (fun e => h.p27 e), (fun e => h.p28 e), (fun e => h.p29 e), (fun e => h.p30 e), (fun e => h.p31 e), (fun e => h.p32 e), (fun e => h.a0 e), (fun e => h.c0 e), (fun e => h.a1 e), (fun e => h.c1 e), (fun e => h.a2 e), (fun e => h.c2 e), (fun e e2 => h.d01 e e2), (fun e e2 => h.d02 e e2), (fun e e2 => h.d12 e e2)⟩
        · refine' wpOp_step (o := ?oAc_17) ?hoAc_17 (fun K hK => ?stAc_17)
          case hoAc_17 => rfl
          case stAc_17 =>
            have HK := Lib.hid hK; clear hK
            obtain rfl := HH.out.p16 (HWt.out 16 (by kernel_rfl))
            have q9 := bcellP HH.out.bel F11.out
            go_simp
            refine HK.out _ _ ⟨_, _, _, _, _, _, _, _, _, _, _, _, _, _, _, _, _, _, _, _, _, _, _, _, _, _, _, _, _, _, _, _, _, _, _, _, rfl, ?_⟩
            have h := HH.out
            exact ⟨h.bel, (fun e => h.p0 e), (fun e => h.p1 e), (fun e => h.p2 e), (fun e => h.p3 e), (fun e => h.p4 e), (fun e => h.p5 e), (fun e => h.p6 e), (fun e => h.p7 e), (fun e => h.p8 e), (fun e => h.p9 e), (fun e => h.p10 e), (fun e => h.p11 e), (fun e => h.p12 e), (fun e => h.p13 e), (fun e => h.p14 e), (fun e => h.p15 e), (fun e => h.p16 e), (fun _ => rfl), (fun e => h.p18 e), (fun e => h.p19 e), (fun e => h.p20 e), (fun e => h.p21 e), (fun e => h.p22 e), (fun e => h.p23 e), (fun e => h.p24 e), (fun e => h.p25 e), (fun e => h.p26 e), (fun e => h.p27 e), (fun e => h.p28 e), (fun e => h.p29 e), (fun e => h.p30 e), (fun e => h.p31 e), (fun e => h.p32 e), (fun e => h.a0 e), (fun e => h.c0 e), (fun e => h.a1 e), (fun e => h.c1 e), (fun e => h.a2 e), (fun e => h.c2 e), (fun e e2 => h.d01 e e2), (fun e e2 => h.d02 e e2), (fun e e2 => h.d12 e e2)⟩
        · refine' wpOp_step (o := ?oAc_18) ?hoAc_18 (fun K hK => ?stAc_18)
          case hoAc_18 => rfl
          case stAc_18 =>
            have HK := Lib.hid hK; clear hK
            go_simp
            refine HK.out _ _ ⟨_, _, _, _, _, _, _, _, _, _, _, _, _, _, _, _, _, _, _, _, _, _, _, _, _, _, _, _, _, _, _, _, _, _, _, _, rfl, ?_⟩
            have h := HH.out
            exact ⟨h.bel, (fun e => h.p0 e), (fun e => h.p1 e), (fun e => h.p2 e), (fun e => h.p3 e), (fun e => h.p4 e), (fun e => h.p5 e), (fun e => h.p6 e), (fun e => h.p7 e), (fun e => h.p8 e), (fun e => h.p9 e), (fun e => h.p10 e), (fun e => h.p11 e), (fun e => h.p12 e), (fun e => h.p13 e), (fun e => h.p14 e), (fun e => h.p15 e), (fun e => h.p16 e), (fun e => h.p17 e), (fun _ => rfl), (fun e => h.p19 e), (fun e => h.p20 e), (fun e => h.p21 e), (fun e => h.p22 e), (fun e => h.p23 e), (fun e => h.p24 e), (fun e => h.p25 e), (fun e => h.p26 e), (fun e => h.p27 e), (fun e => h.p28 e), (fun e => h.p29 e), (fun e => h.p30 e), (fun e => h.p31 e), (fun e => h.p32 e), (fun e => h.a0 e), (fun e => h.c0 e), (fun e => h.a1 e), (fun e => h.c1 e), (fun e => h.a2 e), (fun e => h.c2 e), (fun e e2 => h.d01 e e2), (fun e e2 => h.d02 e e2), (fun e e2 => h.d12 e e2)⟩
        · refine' wpOp_step (o := ?oAc_19) ?hoAc_19 (fun K hK => ?stAc_19)
          case hoAc_19 => rfl
          case stAc_19 =>
            have HK := Lib.hid hK; clear hK
            obtain rfl := HH.out.p18 (HWt.out 18 (by kernel_rfl))
            have q9 := bcellP HH.out.bel F31.out
            go_simp
            refine HK.out _ _ ⟨_, _, _, _, _, _, _, _, _, _, _, _, _, _, _, _, _, _, _, _, _, _, _, _, _, _, _, _, _, _, _, _, _, _, _, _, rfl, ?_⟩
            have h := HH.out
            exact ⟨h.bel, (fun e => h.p0 e), (fun e => h.p1 e), (fun e => h.p2 e), (fun e => h.p3 e), (fun e => h.p4 e), (fun e => h.p5 e), (fun e => h.p6 e), (fun e => h.p7 e), (fun e => h.p8 e), (fun e => h.p9 e), (fun e => h.p10 e), (fun e => h.p11 e), (fun e => h.p12 e), (fun e => h.p13 e), (fun e => h.p14 e), (fun e => h.p15 e), (fun e => h.p16 e), (fun e => h.p17 e), (fun e => h.p18 e), (fun _ => rfl), (fun e => h.p20 e), (fun e => h.p21 e), (fun e => h.p22 e), (fun e => h.p23 e), (fun e => h.p24 e), (fun e => h.p25 e), (fun e => h.p26 e), (fun e => h.p27 e), (fun e => h.p28 e), (fun e => h.p29 e), (fun e => h.p30 e), (fun e => h.p31 e), (fun e => h.p32 e), (fun e => h.a0 e), (fun e => h.c0 e), (fun e => h.a1 e), (fun e => h.c1 e), (fun e => h.a2 e), (fun e => h.c2 e), (fun e e2 => h.d01 e e2), (fun e e2 => h.d02 e e2), (fun e e2 => h.d12 e e2)⟩
        · refine' wpOp_step (o := ?oAc_20) ?hoAc_20 (fun K hK => ?stAc_20)
          case hoAc_20 => rfl
          case stAc_20 =>
            have HK := Lib.hid hK; clear hK
            obtain rfl := HH.out.p17 (HWt.out 17 (by kernel_rfl))
            obtain rfl := HH.out.p19 (HWt.out 19 (by kernel_rfl))
            go_simp
            refine HK.out _ _ ⟨_, _, _, _, _, _, _, _, _, _, _, _, _, _, _, _, _, _, _, _, _, _, _, _, _, _, _, _, _, _, _, _, _, _, _, _, rfl, ?_⟩
            have h := HH.out
            exact ⟨h.bel, (fun e => h.p0 e), (fun e => h.p1 e), (fun e => h.p2 e), (fun e => h.p3 e), (fun e => h.p4 e), (fun e => h.p5 e), (fun e => h.p6 e), (fun e => h.p7 e), (fun e => h.p8 e), (fun e => h.p9 e), (fun e => h.p10 e), (fun e => h.p11 e), (fun e => h.p12 e), (fun e => h.p13 e), (fun e => h.p14 e), (fun e => h.p15 e), (fun e => h.p16 e), (fun e => h.p17 e), (fun e => h.p18 e), (fun e => h.p19 e), (fun _ => rfl), (fun e => h.p21 e), (fun e => h.p22 e), (fun e => h.p23 e), (fun e => h.p24 e), (fun e => h.p25 e), (fun e => h.p26 e), (fun e => h.p27 e), (fun e => h.p28 e), (fun e => h.p29 e), (fun e => h.p30 e), (fun e => h.p31 e), (fun e => h.p32 e), (fun e => h.a0 e), (fun e => h.c0 e), (fun e => h.a1 e), (fun e => h.c1 e), (fun e => h.a2 e), (fun e => h.c2 e), (fun e e2 => h.d01 e e2), (fun e e2 => h.d02 e e2), (fun e e2 => h.d12 e e2)⟩
        · refine' wpOp_step (o := ?oAc_21) ?hoAc_21 (fun K hK => ?stAc_21)
          case hoAc_21 => rfl
          case stAc_21 =>
            have HK := Lib.hid hK; clear hK
            obtain rfl := HH.out.p15 (HWt.out 15 (by kernel_rfl))
            obtain rfl := HH.out.p20 (HWt.out 20 (by kernel_rfl))
            go_simp
            refine HK.out _ _ ⟨_, _, _, _, _, _, _, _, _, _, _, _, _, _, _, _, _, _, _, _, _, _, _, _, _, _, _, _, _, _, _, _, _, _, _, _, rfl, ?_⟩
            have h := HH.out
            exact ⟨h.bel, (fun e => h.p0 e), (fun e => h.p1 e), (fun e => h.p2 e), (fun e => h.p3 e), (fun e => h.p4 e), (fun e => h.p5 e), (fun e => h.p6 e), (fun e => h.p7 e), (fun e => h.p8 e), (fun e => h.p9 e), (fun e => h.p10 e), (fun e => h.p11 e), (fun e => h.p12 e), (fun e => h.p13 e), (fun e => h.p14 e), (fun e => h.p15 e), (fun e => h.p16 e), (fun e => h.p17 e), (fun e => h.p18 e), (fun e => h.p19 e), (fun e => h.p20 e), (fun _ => rfl), (fun e => h.p22 e), (fun e => h.p23 e), (fun e => h.p24 e), (fun e => h.p25 e), (fun e => h.p26 e), (fun e => h.p27 e), (fun e => h.p28 e), (fun e => h.p29 e), (fun e => h.p30 e), (fun e => h.p31 e), (fun e => h.p32 e), (fun e => h.a0 e), (fun e => h.c0 e), (fun e => h.a1 e), (fun e => h.c1 e), (fun e => h.a2 e), (fun e => h.c2 e), (fun e e2 => h.d01 e e2), (fun e e2 => h.d02 e e2), (fun e e2 => h.d12 e e2)⟩
        · refine' wpOp_step (o := ?oAc_22) ?hoAc_22 (fun K hK => ?stAc_22)
          case hoAc_22 => rfl
          case stAc_22 =>
            have HK := Lib.hid hK; clear hK
            go_simp
            refine HK.out _ _ ⟨_, _, _, _, _, _, _, _, _, _, _, _, _, _, _, _, _, _, _, _, _, _, _, _, _, _, _, _, _, _, _, _, _, _, _, _, rfl, ?_⟩
            have h := HH.out
            exact ⟨h.bel, (fun e => h.p0 e), (fun e => h.p1 e), (fun e => h.p2 e), (fun e => h.p3 e), (fun e => h.p4 e), (fun e => h.p5 e), (fun e => h.p6 e), (fun e => h.p7 e), (fun e => h.p8 e), (fun e => h.p9 e), (fun e => h.p10 e), (fun e => h.p11 e), (fun e => h.p12 e), (fun e => h.p13 e), (fun e => h.p14 e), (fun e => h.p15 e), (fun e => h.p16 e), (fun e => h.p17 e), (fun e => h.p18 e), (fun e => h.p19 e), (fun e => h.p20 e), (fun e => h.p21 e), (fun _ => rfl), (fun e => h.p23 e), (fun e => h.p24 e), (fun e => h.p25 e), (fun e => h.p26 e), (fun e => h.p27 e), (fun e => h.p28 e), (fun e => h.p29 e), (fun e => h.p30 e), (fun e => h.p31 e), (fun e => h.p32 e), (fun e => h.a0 e), (fun e => h.c0 e), (fun e => h.a1 e), (fun e => h.c1 e), (fun e => h.a2 e), (fun e => h.c2 e), (fun e e2 => h.d01 e e2), (fun e e2 => h.d02 e e2), (fun e e2 => h.d12 e e2)⟩
        · refine' wpOp_step (o := ?oAc_23) ?hoAc_23 (fun K hK => ?stAc_23)
          case hoAc_23 => rfl
          case stAc_23 =>
            have HK := Lib.hid hK; clear hK
            obtain rfl := HH.out.p22 (HWt.out 22 (by kernel_rfl))
            have q9 := bcellP HH.out.bel F20.out
            go_simp
            refine HK.out _ _ ⟨_, _, _, _, _, _, _, _, _, _, _, _, _, _, _, _, _, _, _, _, _, _, _, _, _, _, _, _, _, _, _, _, _, _, _, _, rfl, ?_⟩
            have h := HH.out
            exact ⟨h.bel, (fun e => h.p0 e), (fun e => h.p1 e), (fun e => h.p2 e), (fun e => h.p3 e), (fun e => h.p4 e), (fun e => h.p5 e), (fun e => h.p6 e), (fun e => h.p7 e), (fun e => h.p8 e), (fun e => h.p9 e), (fun e => h.p10 e), (fun e => h.p11 e), (fun e => h.p12 e), (fun e => h.p13 e), (fun e => h.p14 e), (fun e => h.p15 e), (fun e => h.p16 e), (fun e => h.p17 e), (fun e => h.p18 e), (fun e => h.p19 e), (fun e => h.p20 e), (fun e => h.p21 e), (fun e => h.p22 e), (fun _ => rfl), (fun e => h.p24 e), (fun e => h.p25 e), (fun e => h.p26 e), (fun e => h.p27 e), (fun e => h.p28 e), (fun e => h.p29 e), (fun e => h.p30 e), (fun e => h.p31 e), (fun e => h.p32 e), (fun e => h.a0 e), (fun e => h.c0 e), (fun e => h.a1 e), (fun e => h.c1 e), (fun e => h.a2 e), (fun e => h.c2 e), (fun e e2 => h.d01 e e2), (fun e e2 => h.d02 e e2), (fun e e2 => h.d12 e e2)⟩
        · refine' wpOp_step (o := ?oAc_24) ?hoAc_24 (fun K hK => ?stAc_24)
          case hoAc_24 => rfl
          case stAc_24 =>
            have HK := Lib.hid hK; clear hK
            go_simp
            refine HK.out _ _ ⟨_, _, _, _, _, _, _, _, _, _, _, _, _, _, _, _, _, _, _, _, _, _, _, _, _, _, _, _, _, _, _, _, _, _, _, _, rfl, ?_⟩
            have h := HH.out
            exact ⟨h.bel, (fun e => h.p0 e), (fun e => h.p1 e), (fun e => h.p2 e), (fun e => h.p3 e), (fun e => h.p4 e), (fun e => h.p5 e), (fun e => h.p6 e), (fun e => h.p7 e), (fun e => h.p8 e), (fun e => h.p9 e), (fun e => h.p10 e), (fun e => h.p11 e), (fun e => h.p12 e), (fun e => h.p13 e), (fun e => h.p14 e), (fun e => h.p15 e), (fun e => h.p16 e), (fun e => h.p17 e), (fun e => h.p18 e), (fun e => h.p19 e), (fun e => h.p20 e), (fun e => h.p21 e), (fun e => h.p22 e), (fun e => h.p23 e), (fun _ => rfl), (fun e => h.p25 e), (fun e => h.p26 e), (fun e => h.p27 e), (fun e => h.p28 e), (fun e => h.p29 e), (fun e => h.p30 e), (fun e => h.p31 e), (fun e => h.p32 e), (fun e => h.a0 e), (fun e => h.c0 e), (fun e => h.a1 e), (fun e => h.c1 e), (fun e => h.a2 e), (fun e => h.c2 e), (fun e e2 => h.d01 e e2), (fun e e2 => h.d02 e e2), (fun e e2 => h.d12 e e2)⟩
        · refine' wpOp_step (o := ?oAc_25) ?hoAc_25 (fun K hK => ?stAc_25)
          case hoAc_25 => rfl
          case stAc_25 =>
            have HK := Lib.hid hK; clear hK
            obtain rfl := HH.out.p24 (HWt.out 24 (by kernel_rfl))
            have q9 := bcellP HH.out.bel F30.out
            go_simp
            refine HK.out _ _ ⟨_, _, _, _, _, _, _, _, _, _, _, _, _, _, _, _, _, _, _, _, _, _, _, _, _, _, _, _, _, _, _, _, _, _, _, _, rfl, ?_⟩
            have h := HH.out
            exact ⟨h.bel, (fun e => h.p0 e), (fun e => h.p1 e), (fun e => h.p2 e), (fun e => h.p3 e), (fun e => h.p4 e), (fun e => h.p5 e), (fun e => h.p6 e), (fun e => h.p7 e), (fun e => h.p8 e), (fun e => h.p9 e), (fun e => h.p10 e), (fun e => h.p11 e), (fun e => h.p12 e), (fun e => h.p13 e), (fun e => h.p14 e), (fun e => h.p15 e), (fun e => h.p16 e), (fun e => h.p17 e), (fun e => h.p18 e), (fun e => h.p19 e), (fun e => h.p20 e), (fun e => h.p21 e), (fun e => h.p22 e), (fun e => h.p23 e), (fun e => h.p24 e), (fun _ => rfl), (fun e => h.p26 e), (fun e => h.p27 e), (fun e => h.p28 e), (fun e => h.p29 e), (fun e => h.p30 e), (fun e => h.p31 e), (fun e => h.p32 e), (fun e => h.a0 e), (fun e => h.c0 e), (fun e => h.a1 e), (fun e => h.c1 e), (fun e => h.a2 e), (fun e => h.c2 e), (fun e e2 => h.d01 e e2), (fun e e2 => h.d02 e e2), (fun e e2 => h.d12 e e2)⟩
        · refine' wpOp_step (o := ?oAc_26) ?hoAc_26 (fun K hK => ?stAc_26)
          case hoAc_26 => rfl
          case stAc_26 =>
            have HK := Lib.hid hK; clear hK
            obtain rfl := HH.out.p23 (HWt.out 23 (by kernel_rfl))
            obtain rfl := HH.out.p25 (HWt.out 25 (by kernel_rfl))
            go_simp
            refine HK.out _ _ ⟨_, _, _, _, _, _, _, _, _, _, _, _, _, _, _, _, _, _, _, _, _, _, _, _, _, _, _, _, _, _, _, _, _, _, _, _, rfl, ?_⟩
            have h := HH.out
            exact ⟨h.bel, (fun e => h.p0 e), (fun e => h.p1 e), (fun e => h.p2 e), (fun e => h.p3 e), (fun e => h.p4 e), (fun e => h.p5 e), (fun e => h.p6 e), (fun e => h.p7 e), (fun e => h.p8 e), (fun e => h.p9 e), (fun e => h.p10 e), (fun e => h.p11 e), (fun e => h.p12 e), (fun e => h.p13 e), (fun e => h.p14 e), (fun e => h.p15 e), (fun e => h.p16 e), (fun e => h.p17 e), (fun e => h.p18 e), (fun e => h.p19 e), (fun e => h.p20 e), (fun e => h.p21 e), (fun e => h.p22 e), (fun e => h.p23 e), (fun e => h.p24 e), (fun e => h.p25 e), (fun _ => rfl), (fun e => h.p27 e), (fun e => h.p28 e), (fun e => h.p29 e), (fun e => h.p30 e), (fun e => h.p31 e), (fun e => h.p32 e), (fun e => h.a0 e), (fun e => h.c0 e), (fun e => h.a1 e), (fun e => h.c1 e), (fun e => h.a2 e), (fun e => h.c2 e), (fun e e2 => h.d01 e e2), (fun e e2 => h.d02 e e2), (fun e e2 => h.d12 e e2)⟩
        · refine' wpOp_step (o := ?oAc_27) ?hoAc_27 (fun K hK => ?stAc_27)
          case hoAc_27 => rfl
          case stAc_27 =>
            have HK := Lib.hid hK; clear hK
            go_simp
            refine HK.out _ _ ⟨_, _, _, _, _, _, _, _, _, _, _, _, _, _, _, _, _, _, _, _, _, _, _, _, _, _, _, _, _, _, _, _, _, _, _, _, rfl, ?_⟩
            have h := HH.out
            exact ⟨h.bel, (fun e => h.p0 e), (fun e => h.p1 e), (fun e => h.p2 e), (fun e => h.p3 e), (fun e => h.p4 e), (fun e => h.p5 e), (fun e => h.p6 e), (fun e => h.p7 e), (fun e => h.p8 e), (fun e => h.p9 e), (fun e => h.p10 e), (fun e => h.p11 e), (fun e => h.p12 e), (fun e => h.p13 e), (fun e => h.p14 e), (fun e => h.p15 e), (fun e => h.p16 e), (fun e => h.p17 e), (fun e => h.p18 e), (fun e => h.p19 e), (fun e => h.p20 e), (fun e => h.p21 e), (fun e => h.p22 e), (fun e => h.p23 e), (fun e => h.p24 e), (fun e => h.p25 e), (fun e => h.p26 e), (fun _ => rfl), (fun e => h.p28 e), (fun e => h.p29 e), (fun e => h.p30 e), (fun e => h.p31 e), (fun e => h.p32 e), (fun e => h.a0 e), (fun e => h.c0 e), (fun e => h.a1 e), (fun e => h.c1 e), (fun e => h.a2 e), (fun e => h.c2 e), (fun e e2 => h.d01 e e2), (fun e e2 => h.d02 e e2), (fun e e2 => h.d12 e e2)⟩
        · refine' wpOp_step (o := ?oAc_28) ?hoAc_28 (fun K hK => ?stAc_28)
          case hoAc_28 => rfl
          case stAc_28 =>
            have HK := Lib.hid hK; clear hK
            obtain rfl := HH.out.p27 (HWt.out 27 (by kernel_rfl))
            have q9 := bcellP HH.out.bel F21.out
            go_simp
            refine HK.out _ _ ⟨_, _, _, _, _, _, _, _, _, _, _, _, _, _, _, _, _, _, _, _, _, _, _, _, _, _, _, _, _, _, _, _, _, _, _, _, rfl, ?_⟩
            have h := HH.out
            exact ⟨h.bel, (fun e => h.p0 e), (fun e => h.p1 e), (fun e => h.p2 e), (fun e => h.p3 e), (fun e => h.p4 e), (fun e => h.p5 e), (fun e => h.p6 e), (fun e => h.p7 e), (fun e => h.p8 e), (fun e => h.p9 e), (fun e => h.p10 e), (fun e => h.p11 e), (fun e => h.p12 e), (fun e => h.p13 e), (fun e => h.p14 e), (fun e => h.p15 e), (fun e => h.p16 e), (fun e => h.p17 e), (fun e => h.p18 e), (fun e => h.p19 e), (fun e => h.p20 e), (fun e => h.p21 e), (fun e => h.p22 e), (fun e => h.p23 e), (fun e => h.p24 e), (fun e => h.p25 e), (fun e => h.p26 e), (fun e => h.p27 e), (fun _ => rfl), (fun e => h.p29 e), (fun e => h.p30 e), (fun e => h.p31 e), (fun e => h.p32 e), (fun e => h.a0 e), (fun e => h.c0 e), (fun e => h.a1 e), (fun e => h.c1 e), (fun e => h.a2 e), (fun e => h.c2 e), (fun e e2 => h.d01 e e2), (fun e e2 => h.d02 e e2), (fun e e2 => h.d12 e e2)⟩
        · refine' wpOp_step (o := ?oAc_29) ?hoAc_29 (fun K hK => ?stAc_29)
          case hoAc_29 => rfl
          case stAc_29 =>
            have HK := Lib.hid hK; clear hK
            go_simp
            refine HK.out _ _ ⟨_, _, _, _, _, _, _, _, _, _, _, _, _, _, _, _, _, _, _, _, _, _, _, _, _, _, _, _, _, _, _, _, _, _, _, _, rfl, ?_⟩
            have h := HH.out
            exact ⟨h.bel, (fun e => h.p0 e), (fun e => h.p1 e), (fun e => h.p2 e), (fun e => h.p3 e), (fun e => h.p4 e), (fun e => h.p5 e), (fun e => h.p6 e), (fun e => h.p7 e), (fun e => h.p8 e), (fun e => h.p9 e), (fun e => h.p10 e), (fun e => h.p11 e), (fun e => h.p12 e), (fun e => h.p13 e), (fun e => h.p14 e), (fun e => h.p15 e), (fun e => h.p16 e), (fun e => h.p17 e), (fun e => h.p18 e), (fun e => h.p19 e), (fun e => h.p20 e), (fun e => h.p21 e), (fun e => h.p22 e), (fun e => h.p23 e), (fun e => h.p24 e), (fun e => h.p25 e), (fun e => h.p26 e), (fun e => h.p27 e), (fun e => h.p28 e), (fun _ => rfl), (fun e => h.p30 e), (fun e => h.p31 e), (fun e => h.p32 e), (fun e => h.a0 e), (fun e => h.c0 e), (fun e => h.a1 e), (fun e => h.c1 e), (fun e => h.a2 e), (fun e => h.c2 e), (fun e e2 => h.d01 e e2), (fun e e2 => h.d02 e e2), (fun e e2 => h.d12 e e2)⟩
        · refine' wpOp_step (o := ?oAc_30) ?hoAc_30 (fun K hK => ?stAc_30)
          case hoAc_30 => rfl
          case stAc_30 =>
            have HK := Lib.hid hK; clear hK
            obtain rfl := HH.out.p29 (HWt.out 29 (by kernel_rfl))
            have q9 := bcellP HH.out.bel F31.out
            go_simp
            refine HK.out _ _ ⟨_, _, _, _, _, _, _, _, _, _, _, _, _, _, _, _, _, _, _, _, _, _, _, _, _, _, _, _, _, _, _, _, _, _, _, _, rfl, ?_⟩
            have h := HH.out
            exact ⟨h.bel, (fun e => h.p0 e), (fun e => h.p1 e), (fun e => h.p2 e), (fun e => h.p3 e), (fun e => h.p4 e), (fun e => h.p5 e), (fun e => h.p6 e), (fun e => h.p7 e), (fun e => h.p8 e), (fun e => h.p9 e), (fun e => h.p10 e), (fun e => h.p11 e), (fun e => h.p12 e), (fun e => h.p13 e), (fun e => h.p14 e), (fun e => h.p15 e), (fun e => h.p16 e), (fun e => h.p17 e), (fun e => h.p18 e), (fun e => h.p19 e), (fun e => h.p20 e), (fun e => h.p21 e), (fun e => h.p22 e), (fun e => h.p23 e), (fun e => h.p24 e), (fun e => h.p25 e), (fun e => h.p26 e), (fun e => h.p27 e), (fun e => h.p28 e), (fun e => h.p29 e), (fun _ => rfl), (fun e => h.p31 e), (fun e => h.p32 e), (fun e => h.a0 e), (fun e => h.c0 e), (fun e => h.a1 e), (fun e => h.c1 e), (fun e => h.a2 e), (fun e => h.c2 e), (fun e e2 => h.d01 e e2), (fun e e2 => h.d02 e e2), (fun e e2 => h.d12 e e2)⟩
        · refine' wpOp_step (o := ?oAc_31) ?hoAc_31 (fun K hK => ?stAc_31)
          case hoAc_31 => rfl
          case stAc_31 =>
            have HK := Lib.hid hK; clear hK
            obtain rfl := HH.out.p28 (HWt.out 28 (by kernel_rfl))
            obtain rfl := HH.out.p30 (HWt.out 30 (by kernel_rfl))
            go_simp
            refine HK.out _ _ ⟨_, _, _, _, _, _, _, _, _, _, _, _, _, _, _, _, _, _, _, _, _, _, _, _, _, _, _, _, _, _, _, _, _, _, _, _, rfl, ?_⟩
            have h := HH.out
            exact ⟨h.bel, (fun e => h.p0 e), (fun e => h.p1 e), (fun e => h.p2 e), (fun e => h.p3 e), (fun e => h.p4 e), (fun e => h.p5 e), (fun e => h.p6 e), (fun e => h.p7 e), (fun e => h.p8 e), (fun e => h.p9 e), (fun e => h.p10 e), (fun e => h.p11 e), (fun e => h.p12 e), (fun e => h.p13 e), (fun e => h.p14 e), (fun e => h.p15 e), (fun e => h.p16 e), (fun e => h.p17 e), (fun e => h.p18 e), (fun e => h.p19 e), (fun e => h.p20 e), (fun e => h.p21 e), (fun e => h.p22 e), (fun e => h.p23 e), (fun e => h.p24 e), (fun e => h.p25 e), (fun e => h.p26 e), (fun e => h.p27 e), (fun e => h.p28 e), (fun e => h.p29 e), (fun e => h.p30 e), (fun _ => rfl), (fun e => h.p32 e), (fun e => h.a0 e), (fun e => h.c0 e), (fun e => h.a1 e), (fun e => h.c1 e), (fun e => h.a2 e), (fun e => h.c2 e), (fun e e2 => h.d01 e e2), (fun e e2 => h.d02 e e2), (fun e e2 => h.d12 e e2)⟩
        · refine' wpOp_step (o := ?oAc_32) ?hoAc_32 (fun K hK => ?stAc_32)
          case hoAc_32 => rfl
          case stAc_32 =>
            have HK := Lib.hid hK; clear hK
            obtain rfl := HH.out.p26 (HWt.out 26 (by kernel_rfl))
            obtain rfl := HH.out.p31 (HWt.out 31 (by kernel_rfl))
            go_simp
            refine HK.out _ _ ⟨_, _, _, _, _, _, _, _, _, _, _, _, _, _, _, _, _, _, _, _, _, _, _, _, _, _, _, _, _, _, _, _, _, _, _, _, rfl, ?_⟩
            have h := HH.out
            exact ⟨h.bel, (fun e => h.p0 e), (fun e => h.p1 e), (fun e => h.p2 e), (fun e => h.p3 e), (fun e => h.p4 e), (fun e => h.p5 e), (fun e => h.p6 e), (fun e => h.p7 e), (fun e => h.p8 e), (fun e => h.p9 e), (fun e => h.p10 e), (fun e => h.p11 e), (fun e => h.p12 e), (fun e => h.p13 e), (fun e => h.p14 e), (fun e => h.p15 e), (fun e => h.p16 e), (fun e => h.p17 e), (fun e => h.p18 e), (fun e => h.p19 e), (fun e => h.p20 e), (fun e => h.p21 e), (fun e => h.p22 e), (fun e => h.p23 e), (fun e => h.p24 e), (fun e => h.p25 e), (fun e => h.p26 e), (fun e => h.p27 e), (fun e => h.p28 e), (fun e => h.p29 e), (fun e => h.p30 e), (fun e => h.p31 e), (fun _ => rfl), (fun e => h.a0 e), (fun e => h.c0 e), (fun e => h.a1 e), (fun e => h.c1 e), (fun e => h.a2 e), (fun e => h.c2 e), (fun e e2 => h.d01 e e2), (fun e e2 => h.d02 e e2), (fun e e2 => h.d12 e e2)⟩
        · refine' wpOp_step (o := ?oAc_33) ?hoAc_33 (fun K hK => ?stAc_33)
          case hoAc_33 => rfl
          case stAc_33 =>
            have HK := Lib.hid hK; clear hK
            go_simp
            refine HK.out _ _ ⟨_, _, _, _, _, _, _, _, _, _, _, _, _, _, _, _, _, _, _, _, _, _, _, _, _, _, _, _, _, _, _, _, _, _, _, _, rfl, ?_⟩
            have h := HH.out.mono (bal_alloc (o := .cells #[.int .i64 0, .int .i64 0] 66) (Below.refl _ _))
            exact ⟨h.bel, (fun e => h.p0 e), (fun e => h.p1 e), (fun e => h.p2 e), (fun e => h.p3 e), (fun e => h.p4 e), (fun e => h.p5 e), (fun e => h.p6 e), (fun e => h.p7 e), (fun e => h.p8 e), (fun e => h.p9 e), (fun e => h.p10 e), (fun e => h.p11 e), (fun e => h.p12 e), (fun e => h.p13 e), (fun e => h.p14 e), (fun e => h.p15 e), (fun e => h.p16 e), (fun e => h.p17 e), (fun e => h.p18 e), (fun e => h.p19 e), (fun e => h.p20 e), (fun e => h.p21 e), (fun e => h.p22 e), (fun e => h.p23 e), (fun e => h.p24 e), (fun e => h.p25 e), (fun e => h.p26 e), (fun e => h.p27 e), (fun e => h.p28 e), (fun e => h.p29 e), (fun e => h.p30 e), (fun e => h.p31 e), (fun e => h.p32 e), (fun _ => ⟨_, 0, 0, rfl, HH.out.bel.size, Own.newHG _ _ _ rfl rfl, fun e9 => (no_up hL (h.c0 e9)).elim⟩), (fun _ => rfl), (fun e => h.a1 e), (fun e => h.c1 e), (fun e => h.a2 e), (fun e => h.c2 e), (fun e e2 => by obtain ⟨T, _, _, h1, _, h3, _⟩ := HH.out.a1 e2; have := Own.lt h3; intro h4; rw [h1] at h4; simp only [Value.pointer.injEq, Option.some.injEq, Addr.mk.injEq] at h4; omega), (fun e e2 => by obtain ⟨T, _, _, h1, _, h3, _⟩ := HH.out.a2 e2; have := Own.lt h3; intro h4; rw [h1] at h4; simp only [Value.pointer.injEq, Option.some.injEq, Addr.mk.injEq] at h4; omega), (fun e e2 => h.d12 e e2)⟩
        · refine' wpOp_step (o := ?oAc_34) ?hoAc_34 (fun K hK => ?stAc_34)
          case hoAc_34 => rfl
          case stAc_34 =>
            have HK := Lib.hid hK; clear hK
            go_simp
            refine HK.out _ _ ⟨_, _, _, _, _, _, _, _, _, _, _, _, _, _, _, _, _, _, _, _, _, _, _, _, _, _, _, _, _, _, _, _, _, _, _, _, rfl, ?_⟩
            have h := HH.out.mono (bal_alloc (o := .cells #[.int .i64 0, .int .i64 0] 66) (Below.refl _ _))
            exact ⟨h.bel, (fun e => h.p0 e), (fun e => h.p1 e), (fun e => h.p2 e), (fun e => h.p3 e), (fun e => h.p4 e), (fun e => h.p5 e), (fun e => h.p6 e), (fun e => h.p7 e), (fun e => h.p8 e), (fun e => h.p9 e), (fun e => h.p10 e), (fun e => h.p11 e), (fun e => h.p12 e), (fun e => h.p13 e), (fun e => h.p14 e), (fun e => h.p15 e), (fun e => h.p16 e), (fun e => h.p17 e), (fun e => h.p18 e), (fun e => h.p19 e), (fun e => h.p20 e), (fun e => h.p21 e), (fun e => h.p22 e), (fun e => h.p23 e), (fun e => h.p24 e), (fun e => h.p25 e), (fun e => h.p26 e), (fun e => h.p27 e), (fun e => h.p28 e), (fun e => h.p29 e), (fun e => h.p30 e), (fun e => h.p31 e), (fun e => h.p32 e), (fun e => h.a0 e), (fun e => h.c0 e), (fun _ => ⟨_, 0, 0, rfl, HH.out.bel.size, Own.newHG _ _ _ rfl rfl, fun e9 => (no_up hL (h.c1 e9)).elim⟩), (fun _ => rfl), (fun e => h.a2 e), (fun e => h.c2 e), (fun e e2 => by obtain ⟨T, _, _, h1, _, h3, _⟩ := HH.out.a0 e; have := Own.lt h3; intro h4; rw [h1] at h4; simp only [Value.pointer.injEq, Option.some.injEq, Addr.mk.injEq] at h4; omega), (fun e e2 => h.d02 e e2), (fun e e2 => by obtain ⟨T, _, _, h1, _, h3, _⟩ := HH.out.a2 e2; have := Own.lt h3; intro h4; rw [h1] at h4; simp only [Value.pointer.injEq, Option.some.injEq, Addr.mk.injEq] at h4; omega)⟩
        · refine' wpOp_step (o := ?oAc_35) ?hoAc_35 (fun K hK => ?stAc_35)
          case hoAc_35 => rfl
          case stAc_35 =>
            have HK := Lib.hid hK; clear hK
            go_simp
            refine HK.out _ _ ⟨_, _, _, _, _, _, _, _, _, _, _, _, _, _, _, _, _, _, _, _, _, _, _, _, _, _, _, _, _, _, _, _, _, _, _, _, rfl, ?_⟩
            have h := HH.out.mono (bal_alloc (o := .cells #[.int .i64 0, .int .i64 0] 66) (Below.refl _ _))
            exact ⟨h.bel, (fun e => h.p0 e), (fun e => h.p1 e), (fun e => h.p2 e), (fun e => h.p3 e), (fun e => h.p4 e), (fun e => h.p5 e), (fun e => h.p6 e), (fun e => h.p7 e), (fun e => h.p8 e), (fun e => h.p9 e), (fun e => h.p10 e), (fun e => h.p11 e), (fun e => h.p12 e), (fun e => h.p13 e), (fun e => h.p14 e), (fun e => h.p15 e), (fun e => h.p16 e), (fun e => h.p17 e), (fun e => h.p18 e), (fun e => h.p19 e), (fun e => h.p20 e), (fun e => h.p21 e), (fun e => h.p22 e), (fun e => h.p23 e), (fun e => h.p24 e), (fun e => h.p25 e), (fun e => h.p26 e), (fun e => h.p27 e), (fun e => h.p28 e), (fun e => h.p29 e), (fun e => h.p30 e), (fun e => h.p31 e), (fun e => h.p32 e), (fun e => h.a0 e), (fun e => h.c0 e), (fun e => h.a1 e), (fun e => h.c1 e), (fun _ => ⟨_, 0, 0, rfl, HH.out.bel.size, Own.newHG _ _ _ rfl rfl, fun e9 => (no_up hL (h.c2 e9)).elim⟩), (fun _ => rfl), (fun e e2 => h.d01 e e2), (fun e e2 => by obtain ⟨T, _, _, h1, _, h3, _⟩ := HH.out.a0 e; have := Own.lt h3; intro h4; rw [h1] at h4; simp only [Value.pointer.injEq, Option.some.injEq, Addr.mk.injEq] at h4; omega), (fun e e2 => by obtain ⟨T, _, _, h1, _, h3, _⟩ := HH.out.a1 e; have := Own.lt h3; intro h4; rw [h1] at h4; simp only [Value.pointer.injEq, Option.some.injEq, Addr.mk.injEq] at h4; omega)⟩
        · refine' wpOp_step (o := ?oAc_36) ?hoAc_36 (fun K hK => ?stAc_36)
          case hoAc_36 => rfl
          case stAc_36 =>
            have HK := Lib.hid hK; clear hK
            obtain rfl := HH.out.p10 (HWt.out 10 (by kernel_rfl))
            obtain ⟨T, x0, x1, rfl, hT, hO, -⟩ := HH.out.a0 (HWt.out 33 (by kernel_rfl))
            have y0 := hO.cell? (i := 0) rfl; have z0 := hO.frozen 0
            have y1 := hO.cell? (i := 1) rfl; have z1 := hO.frozen 1
            have HO := Lib.hid hO; clear hO
            go_simp
            refine HK.out _ _ ⟨_, _, _, _, _, _, _, _, _, _, _, _, _, _, _, _, _, _, _, _, _, _, _, _, _, _, _, _, _, _, _, _, _, _, _, _, rfl, ?_⟩
            have h := HH.out
            have hO := HO.out
            exact ⟨bel_set (bel_set (h.bel) hT) hT, (fun e => h.p0 e), (fun e => h.p1 e), (fun e => h.p2 e), (fun e => h.p3 e), (fun e => h.p4 e), (fun e => h.p5 e), (fun e => h.p6 e), (fun e => h.p7 e), (fun e => h.p8 e), (fun e => h.p9 e), (fun e => h.p10 e), (fun e => h.p11 e), (fun e => h.p12 e), (fun e => h.p13 e), (fun e => h.p14 e), (fun e => h.p15 e), (fun e => h.p16 e), (fun e => h.p17 e), (fun e => h.p18 e), (fun e => h.p19 e), (fun e => h.p20 e), (fun e => h.p21 e), (fun e => h.p22 e), (fun e => h.p23 e), (fun e => h.p24 e), (fun e => h.p25 e), (fun e => h.p26 e), (fun e => h.p27 e), (fun e => h.p28 e), (fun e => h.p29 e), (fun e => h.p30 e), (fun e => h.p31 e), (fun e => h.p32 e), (fun _ => ⟨T, _, _, rfl, hT, (Own.set (Own.set hO 0 (.int .i64 (pi))) 1 (.int .i64 (pj))), fun _ => ⟨rfl, rfl⟩⟩), (fun _ => HWt.out 33 (by kernel_rfl)), (fun e => let ⟨t, x0, x1, a', b', c', d'⟩ := h.a1 e; have hne : t ≠ T := (fun e9 => h.d01 (HWt.out 33 (by kernel_rfl)) e (by rw [a', e9])); ⟨t, x0, x1, a', b', (Own.sO hne (Own.sO hne c' _) _), d'⟩), (fun e => h.c1 e), (fun e => let ⟨t, x0, x1, a', b', c', d'⟩ := h.a2 e; have hne : t ≠ T := (fun e9 => h.d02 (HWt.out 33 (by kernel_rfl)) e (by rw [a', e9])); ⟨t, x0, x1, a', b', (Own.sO hne (Own.sO hne c' _) _), d'⟩), (fun e => h.c2 e), (fun e e2 => h.d01 e e2), (fun e e2 => h.d02 e e2), (fun e e2 => h.d12 e e2)⟩
        · refine' wpOp_step (o := ?oAc_37) ?hoAc_37 (fun K hK => ?stAc_37)
          case hoAc_37 => rfl
          case stAc_37 =>
            have HK := Lib.hid hK; clear hK
            obtain rfl := HH.out.p21 (HWt.out 21 (by kernel_rfl))
            obtain ⟨T, x0, x1, rfl, hT, hO, -⟩ := HH.out.a1 (HWt.out 34 (by kernel_rfl))
            have y0 := hO.cell? (i := 0) rfl; have z0 := hO.frozen 0
            have y1 := hO.cell? (i := 1) rfl; have z1 := hO.frozen 1
            have HO := Lib.hid hO; clear hO
            go_simp
            refine HK.out _ _ ⟨_, _, _, _, _, _, _, _, _, _, _, _, _, _, _, _, _, _, _, _, _, _, _, _, _, _, _, _, _, _, _, _, _, _, _, _, rfl, ?_⟩
            have h := HH.out
            have hO := HO.out
            exact ⟨bel_set (bel_set (h.bel) hT) hT, (fun e => h.p0 e), (fun e => h.p1 e), (fun e => h.p2 e), (fun e => h.p3 e), (fun e => h.p4 e), (fun e => h.p5 e), (fun e => h.p6 e), (fun e => h.p7 e), (fun e => h.p8 e), (fun e => h.p9 e), (fun e => h.p10 e), (fun e => h.p11 e), (fun e => h.p12 e), (fun e => h.p13 e), (fun e => h.p14 e), (fun e => h.p15 e), (fun e => h.p16 e), (fun e => h.p17 e), (fun e => h.p18 e), (fun e => h.p19 e), (fun e => h.p20 e), (fun e => h.p21 e), (fun e => h.p22 e), (fun e => h.p23 e), (fun e => h.p24 e), (fun e => h.p25 e), (fun e => h.p26 e), (fun e => h.p27 e), (fun e => h.p28 e), (fun e => h.p29 e), (fun e => h.p30 e), (fun e => h.p31 e), (fun e => h.p32 e), (fun e => let ⟨t, x0, x1, a', b', c', d'⟩ := h.a0 e; have hne : t ≠ T := (fun e9 => h.d01 e (HWt.out 34 (by kernel_rfl)) (by rw [a', e9])); ⟨t, x0, x1, a', b', (Own.sO hne (Own.sO hne c' _) _), d'⟩), (fun e => h.c0 e), (fun _ => ⟨T, _, _, rfl, hT, (Own.set (Own.set hO 0 (.int .i64 (qi))) 1 (.int .i64 (qj))), fun _ => ⟨rfl, rfl⟩⟩), (fun _ => HWt.out 34 (by kernel_rfl)), (fun e => let ⟨t, x0, x1, a', b', c', d'⟩ := h.a2 e; have hne : t ≠ T := (fun e9 => h.d12 (HWt.out 34 (by kernel_rfl)) e (by rw [a', e9])); ⟨t, x0, x1, a', b', (Own.sO hne (Own.sO hne c' _) _), d'⟩), (fun e => h.c2 e), (fun e e2 => h.d01 e e2), (fun e e2 => h.d02 e e2), (fun e e2 => h.d12 e e2)⟩
        · refine' wpOp_step (o := ?oAc_38) ?hoAc_38 (fun K hK => ?stAc_38)
          case hoAc_38 => rfl
          case stAc_38 =>
            have HK := Lib.hid hK; clear hK
            obtain rfl := HH.out.p32 (HWt.out 32 (by kernel_rfl))
            obtain ⟨T, x0, x1, rfl, hT, hO, -⟩ := HH.out.a2 (HWt.out 35 (by kernel_rfl))
            have y0 := hO.cell? (i := 0) rfl; have z0 := hO.frozen 0
            have y1 := hO.cell? (i := 1) rfl; have z1 := hO.frozen 1
            have HO := Lib.hid hO; clear hO
            go_simp
            refine HK.out _ _ ⟨_, _, _, _, _, _, _, _, _, _, _, _, _, _, _, _, _, _, _, _, _, _, _, _, _, _, _, _, _, _, _, _, _, _, _, _, rfl, ?_⟩
            have h := HH.out
            have hO := HO.out
            exact ⟨bel_set (bel_set (h.bel) hT) hT, (fun e => h.p0 e), (fun e => h.p1 e), (fun e => h.p2 e), (fun e => h.p3 e), (fun e => h.p4 e), (fun e => h.p5 e), (fun e => h.p6 e), (fun e => h.p7 e), (fun e => h.p8 e), (fun e => h.p9 e), (fun e => h.p10 e), (fun e => h.p11 e), (fun e => h.p12 e), (fun e => h.p13 e), (fun e => h.p14 e), (fun e => h.p15 e), (fun e => h.p16 e), (fun e => h.p17 e), (fun e => h.p18 e), (fun e => h.p19 e), (fun e => h.p20 e), (fun e => h.p21 e), (fun e => h.p22 e), (fun e => h.p23 e), (fun e => h.p24 e), (fun e => h.p25 e), (fun e => h.p26 e), (fun e => h.p27 e), (fun e => h.p28 e), (fun e => h.p29 e), (fun e => h.p30 e), (fun e => h.p31 e), (fun e => h.p32 e), (fun e => let ⟨t, x0, x1, a', b', c', d'⟩ := h.a0 e; have hne : t ≠ T := (fun e9 => h.d02 e (HWt.out 35 (by kernel_rfl)) (by rw [a', e9])); ⟨t, x0, x1, a', b', (Own.sO hne (Own.sO hne c' _) _), d'⟩), (fun e => h.c0 e), (fun e => let ⟨t, x0, x1, a', b', c', d'⟩ := h.a1 e; have hne : t ≠ T := (fun e9 => h.d12 e (HWt.out 35 (by kernel_rfl)) (by rw [a', e9])); ⟨t, x0, x1, a', b', (Own.sO hne (Own.sO hne c' _) _), d'⟩), (fun e => h.c1 e), (fun _ => ⟨T, _, _, rfl, hT, (Own.set (Own.set hO 0 (.int .i64 (ri))) 1 (.int .i64 (rj))), fun _ => ⟨rfl, rfl⟩⟩), (fun _ => HWt.out 35 (by kernel_rfl)), (fun e e2 => h.d01 e e2), (fun e e2 => h.d02 e e2), (fun e e2 => h.d12 e e2)⟩
    case rest =>
      obtain ⟨P0, P1, P2, rfl, rfl, rfl, hQ0, hQ1, hQ2, hbel4⟩ := hcut
      obtain ⟨W4, rfl⟩ : ∃ y : World, y = wc := ⟨_, rfl⟩
      have m0 := bcell hbel4 F02.out.1 F02.out.2
      have m1 := bcell hbel4 F12.out.1 F12.out.2
      have m2 := bcell hbel4 F22.out.1 F22.out.2
      have m3 := bcell hbel4 F32.out.1 F32.out.2
      have m4 := hQ0.cell? (i := 0) rfl
      have m5 := hQ0.cell? (i := 1) rfl
      have m6 := hQ1.cell? (i := 0) rfl
      have m7 := hQ1.cell? (i := 1) rfl
      have m8 := hQ2.cell? (i := 0) rfl
      have m9 := hQ2.cell? (i := 1) rfl
      have lT0 : T0 < W4.heap.size := Nat.lt_of_lt_of_le F02.out.1 hbel4.size
      have lT1 : T1 < W4.heap.size := Nat.lt_of_lt_of_le F12.out.1 hbel4.size
      have lT2 : T2 < W4.heap.size := Nat.lt_of_lt_of_le F22.out.1 hbel4.size
      have lT3 : T3 < W4.heap.size := Nat.lt_of_lt_of_le F32.out.1 hbel4.size
      have lP0 := hQ0.lt
      have lP1 := hQ1.lt
      have lP2 := hQ2.lt
      have hpi := HPI.out
      have hbd := HBD.out
      clear F00 F01 F02 F10 F11 F12 F20 F21 F22 F30 F31 F32 hQ0 hQ1 hQ2 e1 e2 e3 e4 e5 e6
      obtain ⟨X1, hX1⟩ : ∃ z, crossZ ⟨pi, pj⟩ ⟨qi, qj⟩ = z := ⟨_, rfl⟩
      obtain ⟨X2, hX2⟩ : ∃ z, crossZ ⟨ri, rj⟩ ⟨qi, qj⟩ = z := ⟨_, rfl⟩
      obtain ⟨X3, hX3⟩ : ∃ z, crossZ ⟨pi, pj⟩ ⟨ri, rj⟩ = z := ⟨_, rfl⟩
      have K1 := Lib.hid (fun w => show Calls Tryz.prog 68 #[.agg #[.int .i64 pi, .int .i64 pj], .agg #[.int .i64 qi, .int .i64 qj]] w fun e w' => e = .returned (.int .i64 X1) ∧ Below w.heap.size w w' by rw [← hX1]; exact cross_c ⟨pi, pj⟩ ⟨qi, qj⟩ w ⟨by show _ ≤ pi; omega, by show pi ≤ _; omega, by show _ ≤ pj; omega, by show pj ≤ _; omega⟩ ⟨by show _ ≤ qi; omega, by show qi ≤ _; omega, by show _ ≤ qj; omega, by show qj ≤ _; omega⟩)
      have K2 := Lib.hid (fun w => show Calls Tryz.prog 68 #[.agg #[.int .i64 ri, .int .i64 rj], .agg #[.int .i64 qi, .int .i64 qj]] w fun e w' => e = .returned (.int .i64 X2) ∧ Below w.heap.size w w' by rw [← hX2]; exact cross_c ⟨ri, rj⟩ ⟨qi, qj⟩ w ⟨by show _ ≤ ri; omega, by show ri ≤ _; omega, by show _ ≤ rj; omega, by show rj ≤ _; omega⟩ ⟨by show _ ≤ qi; omega, by show qi ≤ _; omega, by show _ ≤ qj; omega, by show qj ≤ _; omega⟩)
      have K3 := Lib.hid (fun w => show Calls Tryz.prog 68 #[.agg #[.int .i64 pi, .int .i64 pj], .agg #[.int .i64 ri, .int .i64 rj]] w fun e w' => e = .returned (.int .i64 X3) ∧ Below w.heap.size w w' by rw [← hX3]; exact cross_c ⟨pi, pj⟩ ⟨ri, rj⟩ w ⟨by show _ ≤ pi; omega, by show pi ≤ _; omega, by show _ ≤ pj; omega, by show pj ≤ _; omega⟩ ⟨by show _ ≤ ri; omega, by show ri ≤ _; omega, by show _ ≤ rj; omega, by show rj ≤ _; omega⟩)
      have bX : ∀ {a b c d : Int}, -12 ≤ a ∧ a ≤ 12 → -12 ≤ b ∧ b ≤ 12 → -12 ≤ c ∧ c ≤ 12 → -12 ≤ d ∧ d ≤ 12 → -300 ≤ crossZ ⟨a, b⟩ ⟨c, d⟩ ∧ crossZ ⟨a, b⟩ ⟨c, d⟩ ≤ 300 := fun ha hb hc hd => by
        have h1 := mulb (K := 12) (M := 12) (by omega) ha hd
        have h2 := mulb (K := 12) (M := 12) (by omega) hb hc
        unfold crossZ
        simp only
        omega
      have b1 := bX (a := pi) (b := pj) (c := qi) (d := qj) (by omega) (by omega) (by omega) (by omega)
      have b2 := bX (a := ri) (b := rj) (c := qi) (d := qj) (by omega) (by omega) (by omega) (by omega)
      have b3 := bX (a := pi) (b := pj) (c := ri) (d := rj) (by omega) (by omega) (by omega) (by omega)
      rw [hX1] at b1
      rw [hX2] at b2
      rw [hX3] at b3
      have HAB := Lib.hid (show abvI o u v x = (x.c - o.c) * X1 - (u.c - o.c) * X2 - (v.c - o.c) * X3 from by
        obtain ⟨r1, r2, r3, r4, r5, r6⟩ := hpi
        subst r1; subst r2; subst r3; subst r4; subst r5; subst r6
        rw [← hX1, ← hX2, ← hX3]
        rfl)
      obtain ⟨dx, hdx⟩ : ∃ z, x.c - o.c = z := ⟨_, rfl⟩
      obtain ⟨du, hdu⟩ : ∃ z, u.c - o.c = z := ⟨_, rfl⟩
      obtain ⟨dv, hdv⟩ : ∃ z, v.c - o.c = z := ⟨_, rfl⟩
      have e7 : IntKind.i64.wrap (x.c - o.c) = dx := by rw [i64_small (by omega) (by omega)]; exact hdx
      have e8 : IntKind.i64.wrap (u.c - o.c) = du := by rw [i64_small (by omega) (by omega)]; exact hdu
      have e9 : IntKind.i64.wrap (v.c - o.c) = dv := by rw [i64_small (by omega) (by omega)]; exact hdv
      rw [hdx, hdu, hdv] at HAB
      have c1 := mulb (K := 2000000) (M := 300) (by omega) (show -2000000 ≤ dx ∧ dx ≤ 2000000 by omega) b1
      have c2 := mulb (K := 2000000) (M := 300) (by omega) (show -2000000 ≤ du ∧ du ≤ 2000000 by omega) b2
      have c3 := mulb (K := 2000000) (M := 300) (by omega) (show -2000000 ≤ dv ∧ dv ≤ 2000000 by omega) b3
      obtain ⟨Y1, hY1⟩ : ∃ z, dx * X1 = z := ⟨_, rfl⟩
      obtain ⟨Y2, hY2⟩ : ∃ z, du * X2 = z := ⟨_, rfl⟩
      obtain ⟨Y3, hY3⟩ : ∃ z, dv * X3 = z := ⟨_, rfl⟩
      rw [hY1] at c1
      rw [hY2] at c2
      rw [hY3] at c3
      rw [hY1, hY2, hY3] at HAB
      have f1 : IntKind.i64.wrap (dx * X1) = Y1 := by rw [hY1]; exact i64_small (by omega) (by omega)
      have f2 : IntKind.i64.wrap (du * X2) = Y2 := by rw [hY2]; exact i64_small (by omega) (by omega)
      have f3 : IntKind.i64.wrap (dv * X3) = Y3 := by rw [hY3]; exact i64_small (by omega) (by omega)
      have f4 : IntKind.i64.wrap (Y1 - Y2) = Y1 - Y2 := i64_small (by omega) (by omega)
      have f5 : IntKind.i64.wrap (Y1 - Y2 - Y3) = Y1 - Y2 - Y3 := i64_small (by omega) (by omega)
      have HB4 := Lib.hid (HB3.out.trans (hbel4.mono HB3.out.size))
      clear hX1 hX2 hX3 hdx hdu hdv hY1 hY2 hY3 c1 c2 c3 b1 b2 b3 bX hpi hbd hbel4
      go_wp2_with fail
      go_region_held3 (fun w' => w'.cell? ⟨T0, 2, none⟩ = some (.int .i64 u.c) ∧ w'.cell? ⟨T1, 2, none⟩ = some (.int .i64 v.c) ∧ w'.cell? ⟨T2, 2, none⟩ = some (.int .i64 x.c) ∧ w'.cell? ⟨T3, 2, none⟩ = some (.int .i64 o.c) ∧ w'.cell? ⟨P0, 0, none⟩ = some (.int .i64 pi) ∧ w'.cell? ⟨P0, 1, none⟩ = some (.int .i64 pj) ∧ w'.cell? ⟨P1, 0, none⟩ = some (.int .i64 qi) ∧ w'.cell? ⟨P1, 1, none⟩ = some (.int .i64 qj) ∧ w'.cell? ⟨P2, 0, none⟩ = some (.int .i64 ri) ∧ w'.cell? ⟨P2, 1, none⟩ = some (.int .i64 rj)) (exact ⟨by assumption, by assumption, by assumption, by assumption, by assumption, by assumption, by assumption, by assumption, by assumption, by assumption⟩)
        (first
        | (go_at_call 68; (with_reducible refine (K1.out _).mono ?_); rintro e W5 ⟨rfl, hw5⟩; have n0 := bcell hw5 lT0 m0; have n1 := bcell hw5 lT1 m1; have n2 := bcell hw5 lT2 m2; have n3 := bcell hw5 lT3 m3; have n4 := bcell hw5 lP0 m4; have n5 := bcell hw5 lP0 m5; have n6 := bcell hw5 lP1 m6; have n7 := bcell hw5 lP1 m7; have n8 := bcell hw5 lP2 m8; have n9 := bcell hw5 lP2 m9)
        | (go_at_call 68; (with_reducible refine (K2.out _).mono ?_); rintro e W6 ⟨rfl, hw6⟩; have k0 := bcell hw6 (Nat.lt_of_lt_of_le lT0 hw5.size) n0; have k1 := bcell hw6 (Nat.lt_of_lt_of_le lT1 hw5.size) n1; have k2 := bcell hw6 (Nat.lt_of_lt_of_le lT2 hw5.size) n2; have k3 := bcell hw6 (Nat.lt_of_lt_of_le lT3 hw5.size) n3; have k4 := bcell hw6 (Nat.lt_of_lt_of_le lP0 hw5.size) n4; have k5 := bcell hw6 (Nat.lt_of_lt_of_le lP0 hw5.size) n5; have k6 := bcell hw6 (Nat.lt_of_lt_of_le lP1 hw5.size) n6; have k7 := bcell hw6 (Nat.lt_of_lt_of_le lP1 hw5.size) n7; have k8 := bcell hw6 (Nat.lt_of_lt_of_le lP2 hw5.size) n8; have k9 := bcell hw6 (Nat.lt_of_lt_of_le lP2 hw5.size) n9)
        | (go_at_call 68; (with_reducible refine (K3.out _).mono ?_); rintro e W7 ⟨rfl, hw7⟩; have r0 := bcell hw7 (Nat.lt_of_lt_of_le (Nat.lt_of_lt_of_le lT0 hw5.size) hw6.size) k0; have r1 := bcell hw7 (Nat.lt_of_lt_of_le (Nat.lt_of_lt_of_le lT1 hw5.size) hw6.size) k1; have r2 := bcell hw7 (Nat.lt_of_lt_of_le (Nat.lt_of_lt_of_le lT2 hw5.size) hw6.size) k2; have r3 := bcell hw7 (Nat.lt_of_lt_of_le (Nat.lt_of_lt_of_le lT3 hw5.size) hw6.size) k3; have r4 := bcell hw7 (Nat.lt_of_lt_of_le (Nat.lt_of_lt_of_le lP0 hw5.size) hw6.size) k4; have r5 := bcell hw7 (Nat.lt_of_lt_of_le (Nat.lt_of_lt_of_le lP0 hw5.size) hw6.size) k5; have r6 := bcell hw7 (Nat.lt_of_lt_of_le (Nat.lt_of_lt_of_le lP1 hw5.size) hw6.size) k6; have r7 := bcell hw7 (Nat.lt_of_lt_of_le (Nat.lt_of_lt_of_le lP1 hw5.size) hw6.size) k7; have r8 := bcell hw7 (Nat.lt_of_lt_of_le (Nat.lt_of_lt_of_le lP2 hw5.size) hw6.size) k8; have r9 := bcell hw7 (Nat.lt_of_lt_of_le (Nat.lt_of_lt_of_le lP2 hw5.size) hw6.size) k9))
      go_wp2_with fail
      go_ret
      exact ⟨by rw [HAB.out]; rfl, ball (ball (ball HB4.out ((Below.refl _ _).drew.trans hw5)) hw6) hw7⟩
end Go.Proofs.YtcionneopgdebaaGreat

/-
  The height of a term above the plane of three: the reference's. Printed by gen_ceF.py. By an AI agent.
-/
namespace Go.Proofs.YtcionneopgdebaaGreat
open Go.RowKit

set_option maxHeartbeats 800000 in
theorem cePoint_c (t : Tm) (w : World) :
    Calls Tryz.prog 52 #[.agg #[.int .i64 t.i, .int .i64 t.j, .int .i64 t.c]] w fun e w' => e = .returned (.agg #[.int .i64 t.i, .int .i64 t.j]) ∧ Below w.heap.size w w' := by
  obtain ⟨a, b, c⟩ := t
  simp only
  obtain ⟨h, hh⟩ : ∃ h, w.heap.size = h := ⟨_, rfl⟩
  have o1 : Own ((w.alloc (.cells #[.int .i64 a, .int .i64 b, .int .i64 c] 73)).alloc (.cells #[.int .i64 0, .int .i64 0] 66)) (h + 1) 66 [.int .i64 0, .int .i64 0] := Own.newHG _ _ _ rfl (by simp; omega)
  have hb := bal_alloc (o := .cells #[.int .i64 0, .int .i64 0] 66) (bal_alloc (o := .cells #[.int .i64 a, .int .i64 b, .int .i64 c] 73) (Below.refl w.heap.size w))
  have y0 := o1.cell? (i := 0) rfl
  have y1 := o1.cell? (i := 1) rfl
  have f0 := o1.frozen 0
  have f1 := o1.frozen 1
  have hg : w.heap.size ≤ h + 1 := by omega
  go_enter Tryz.func52, Tryz.ntmps52
  go_wp2_with fail
  have o2 : Own ((w.alloc (.cells #[.int .i64 a, .int .i64 b, .int .i64 c] 73)).alloc (.cells #[.int .i64 a, .int .i64 b] 66)) (h + 1) 66 [.int .i64 a, .int .i64 b] := Own.newHG _ _ _ rfl (by simp; omega)
  have hB := bal_alloc (o := .cells #[.int .i64 a, .int .i64 b] 66) (bal_alloc (o := .cells #[.int .i64 a, .int .i64 b, .int .i64 c] 73) (Below.refl w.heap.size w))
  have q0 := o2.cell? (i := 0) rfl
  have q1 := o2.cell? (i := 1) rfl
  generalize (w.alloc (.cells #[.int .i64 a, .int .i64 b, .int .i64 c] 73)).alloc (.cells #[.int .i64 a, .int .i64 b] 66) = X at q0 q1 hB ⊢
  exact bodyPost_ret (v := .agg #[.int .i64 a, .int .i64 b]) (by simp [results, Tryz.results52, go_sem, q0, q1]) rfl ⟨rfl, hB⟩
theorem ceSign_c (n : Int) (w : World) :
    Calls Tryz.prog 96 #[.int .i64 n] w fun e w' => e = .returned (.int .i64 (if n < 0 then -1 else if n > 0 then 1 else 0)) ∧ w = w' := by
  rcases Int.lt_trichotomy n 0 with h | h | h
  · have d1 : decide (0 < n) = false := decide_eq_false (by omega)
    have d2 : decide (n < 0) = true := decide_eq_true h
    rw [if_pos h]
    go_enter Tryz.func96, Tryz.ntmps96
    go_wp2_with fail
    go_ret
    exact ⟨rfl, rfl⟩
  · subst h
    go_enter Tryz.func96, Tryz.ntmps96
    go_wp2_with fail
    go_ret
    exact ⟨rfl, rfl⟩
  · have d1 : decide (0 < n) = true := decide_eq_true h
    have d2 : decide (n < 0) = false := decide_eq_false (by omega)
    rw [if_neg (by omega), if_pos h]
    go_enter Tryz.func96, Tryz.ntmps96
    go_wp2_with fail
    go_ret
    exact ⟨rfl, rfl⟩

structure AeI (o u v x : Tm) (B0 B1 B2 B3 : Nat) (W : World) (L : Nat → Bool) (w : World) (s9 s10 s11 s12 s15 s16 s17 s18 s19 s20 s21 s22 : Value) : Prop where
  bel : Below W.heap.size W w
  p0 : L 0 = true → s15 = .agg #[.int .i64 o.i, .int .i64 o.j, .int .i64 o.c]
  p1 : L 1 = true → s16 = .agg #[.int .i64 o.i, .int .i64 o.j]
  p2 : L 2 = true → s17 = .agg #[.int .i64 u.i, .int .i64 u.j, .int .i64 u.c]
  p3 : L 3 = true → s18 = .agg #[.int .i64 u.i, .int .i64 u.j]
  p4 : L 4 = true → s19 = .agg #[.int .i64 v.i, .int .i64 v.j, .int .i64 v.c]
  p5 : L 5 = true → s20 = .agg #[.int .i64 v.i, .int .i64 v.j]
  p6 : L 6 = true → s21 = .agg #[.int .i64 x.i, .int .i64 x.j, .int .i64 x.c]
  p7 : L 7 = true → s22 = .agg #[.int .i64 x.i, .int .i64 x.j]
  a0 : L 8 = true → ∃ (T : Nat) (x0 x1 : Int), s9 = .pointer (some ⟨T, 0, none⟩) ∧ W.heap.size ≤ T ∧ Own w T 66 [.int .i64 x0, .int .i64 x1] ∧ (L 12 = true → x0 = o.i ∧ x1 = o.j)
  c0 : L 12 = true → L 8 = true
  a1 : L 9 = true → ∃ (T : Nat) (x0 x1 : Int), s10 = .pointer (some ⟨T, 0, none⟩) ∧ W.heap.size ≤ T ∧ Own w T 66 [.int .i64 x0, .int .i64 x1] ∧ (L 13 = true → x0 = u.i ∧ x1 = u.j)
  c1 : L 13 = true → L 9 = true
  a2 : L 10 = true → ∃ (T : Nat) (x0 x1 : Int), s11 = .pointer (some ⟨T, 0, none⟩) ∧ W.heap.size ≤ T ∧ Own w T 66 [.int .i64 x0, .int .i64 x1] ∧ (L 14 = true → x0 = v.i ∧ x1 = v.j)
  c2 : L 14 = true → L 10 = true
  a3 : L 11 = true → ∃ (T : Nat) (x0 x1 : Int), s12 = .pointer (some ⟨T, 0, none⟩) ∧ W.heap.size ≤ T ∧ Own w T 66 [.int .i64 x0, .int .i64 x1] ∧ (L 15 = true → x0 = x.i ∧ x1 = x.j)
  c3 : L 15 = true → L 11 = true
  d01 : L 8 = true → L 9 = true → s9 ≠ s10
  d02 : L 8 = true → L 10 = true → s9 ≠ s11
  d03 : L 8 = true → L 11 = true → s9 ≠ s12
  d12 : L 9 = true → L 10 = true → s10 ≠ s11
  d13 : L 9 = true → L 11 = true → s10 ≠ s12
  d23 : L 10 = true → L 11 = true → s11 ≠ s12
theorem AeI.mono {o u v x : Tm} {B0 B1 B2 B3 : Nat} {W w w' : World} {L : Nat → Bool} {s9 s10 s11 s12 s15 s16 s17 s18 s19 s20 s21 s22 : Value} (h : AeI o u v x B0 B1 B2 B3 W L w s9 s10 s11 s12 s15 s16 s17 s18 s19 s20 s21 s22) (hb : Below w.heap.size w w') : AeI o u v x B0 B1 B2 B3 W L w' s9 s10 s11 s12 s15 s16 s17 s18 s19 s20 s21 s22 :=
  ⟨ball h.bel hb, (fun e => h.p0 e), (fun e => h.p1 e), (fun e => h.p2 e), (fun e => h.p3 e), (fun e => h.p4 e), (fun e => h.p5 e), (fun e => h.p6 e), (fun e => h.p7 e), (fun e => let ⟨T, x0, x1, a, b, c, d⟩ := h.a0 e; ⟨T, x0, x1, a, b, c.belowAll hb, d⟩), (fun e => h.c0 e), (fun e => let ⟨T, x0, x1, a, b, c, d⟩ := h.a1 e; ⟨T, x0, x1, a, b, c.belowAll hb, d⟩), (fun e => h.c1 e), (fun e => let ⟨T, x0, x1, a, b, c, d⟩ := h.a2 e; ⟨T, x0, x1, a, b, c.belowAll hb, d⟩), (fun e => h.c2 e), (fun e => let ⟨T, x0, x1, a, b, c, d⟩ := h.a3 e; ⟨T, x0, x1, a, b, c.belowAll hb, d⟩), (fun e => h.c3 e), (fun e e2 => h.d01 e e2), (fun e e2 => h.d02 e e2), (fun e e2 => h.d03 e e2), (fun e e2 => h.d12 e e2), (fun e e2 => h.d13 e e2), (fun e e2 => h.d23 e e2)⟩
/-- four points in new memory. -/
def QuaP (W : World) (o u v x : Tm) (s9 s10 s11 s12 : Value) (wc : World) : Prop := ∃ P0 P1 P2 P3 : Nat, s9 = .pointer (some ⟨P0, 0, none⟩) ∧ s10 = .pointer (some ⟨P1, 0, none⟩) ∧ s11 = .pointer (some ⟨P2, 0, none⟩) ∧ s12 = .pointer (some ⟨P3, 0, none⟩) ∧ Own wc P0 66 [.int .i64 o.i, .int .i64 o.j] ∧ Own wc P1 66 [.int .i64 u.i, .int .i64 u.j] ∧ Own wc P2 66 [.int .i64 v.i, .int .i64 v.j] ∧ Own wc P3 66 [.int .i64 x.i, .int .i64 x.j] ∧ Below W.heap.size W wc
set_option maxHeartbeats 12800000 in
set_option maxRecDepth 100000 in
theorem ceAbove_c (o u v x : Tm) (w : World) (ho : termB o = true) (hu : termB u = true) (hv : termB v = true) (hx : termB x = true) :
    Calls Tryz.prog 81 #[.agg #[.int .i64 o.i, .int .i64 o.j, .int .i64 o.c], .agg #[.int .i64 u.i, .int .i64 u.j, .int .i64 u.c], .agg #[.int .i64 v.i, .int .i64 v.j, .int .i64 v.c], .agg #[.int .i64 x.i, .int .i64 x.j, .int .i64 x.c]] w fun e w' => e = .returned (.int .i64 (abvS o u v x * (if turnZ (pnt o) (pnt u) (pnt v) < 0 then -1 else if turnZ (pnt o) (pnt u) (pnt v) > 0 then 1 else 0))) ∧ Below w.heap.size w w' := by
  have ho := termB_t ho; have hu := termB_t hu; have hv := termB_t hv; have hx := termB_t hx
  have CP := Lib.hid (fun (t : Tm) w => cePoint_c t w)
  obtain ⟨W1, hW⟩ : ∃ W1, (((w.alloc (.cells #[.int .i64 o.i, .int .i64 o.j, .int .i64 o.c] 73)).alloc (.cells #[.int .i64 u.i, .int .i64 u.j, .int .i64 u.c] 73)).alloc (.cells #[.int .i64 v.i, .int .i64 v.j, .int .i64 v.c] 73)).alloc (.cells #[.int .i64 x.i, .int .i64 x.j, .int .i64 x.c] 73) = W1 := ⟨_, rfl⟩
  obtain ⟨RV, hRV⟩ : ∃ z, abvS o u v x * (if turnZ (pnt o) (pnt u) (pnt v) < 0 then -1 else if turnZ (pnt o) (pnt u) (pnt v) > 0 then 1 else 0) = z := ⟨_, rfl⟩
  rw [hRV]
  have HRV := Lib.hid hRV; clear hRV
  obtain ⟨B0, h0⟩ : ∃ h, w.heap.size = h := ⟨_, rfl⟩
  have HH0 := Lib.hid h0
  obtain ⟨B1, h1⟩ : ∃ h, B0 + 1 = h := ⟨_, rfl⟩
  obtain ⟨B2, h2⟩ : ∃ h, B1 + 1 = h := ⟨_, rfl⟩
  obtain ⟨B3, h3⟩ : ∃ h, B2 + 1 = h := ⟨_, rfl⟩
  have hO0 : Own W1 B0 73 [.int .i64 o.i, .int .i64 o.j, .int .i64 o.c] := by rw [← hW]; exact (((Own.newHG _ _ _ rfl (by first | omega | (simp; omega))).alloc _).alloc _).alloc _
  have hO1 : Own W1 B1 73 [.int .i64 u.i, .int .i64 u.j, .int .i64 u.c] := by rw [← hW]; exact ((Own.newHG _ _ _ rfl (by first | omega | (simp; omega))).alloc _).alloc _
  have hO2 : Own W1 B2 73 [.int .i64 v.i, .int .i64 v.j, .int .i64 v.c] := by rw [← hW]; exact (Own.newHG _ _ _ rfl (by first | omega | (simp; omega))).alloc _
  have hO3 : Own W1 B3 73 [.int .i64 x.i, .int .i64 x.j, .int .i64 x.c] := by rw [← hW]; exact Own.newHG _ _ _ rfl (by first | omega | (simp; omega))
  have HB1 := Lib.hid (show Below w.heap.size w W1 by rw [← hW]; exact bal_alloc (bal_alloc (bal_alloc (bal_alloc (Below.refl _ _)))))
  have F00 := Lib.hid (And.intro hO0.lt (hO0.cell? (i := 0) rfl))
  have F01 := Lib.hid (And.intro hO0.lt (hO0.cell? (i := 1) rfl))
  have F02 := Lib.hid (And.intro hO0.lt (hO0.cell? (i := 2) rfl))
  have F10 := Lib.hid (And.intro hO1.lt (hO1.cell? (i := 0) rfl))
  have F11 := Lib.hid (And.intro hO1.lt (hO1.cell? (i := 1) rfl))
  have F12 := Lib.hid (And.intro hO1.lt (hO1.cell? (i := 2) rfl))
  have F20 := Lib.hid (And.intro hO2.lt (hO2.cell? (i := 0) rfl))
  have F21 := Lib.hid (And.intro hO2.lt (hO2.cell? (i := 1) rfl))
  have F22 := Lib.hid (And.intro hO2.lt (hO2.cell? (i := 2) rfl))
  have F30 := Lib.hid (And.intro hO3.lt (hO3.cell? (i := 0) rfl))
  have F31 := Lib.hid (And.intro hO3.lt (hO3.cell? (i := 1) rfl))
  have F32 := Lib.hid (And.intro hO3.lt (hO3.cell? (i := 2) rfl))
  have HBD := Lib.hid (And.intro ho (And.intro hu (And.intro hv hx)))
  clear ho hu hv hx hO0 hO1 hO2 hO3
  go_enter Tryz.func81, Tryz.ntmps81
  go_wp2_with fail
  try rw [hW]
  try simp only [h0, h1, h2, h3]
  go_cut [9, 10, 11, 12] from 9 to 22 (fun s9 s10 s11 s12 wc => QuaP W1 o u v x s9 s10 s11 s12 wc)
  case first =>
    refine wp_region_inv (fun L ac w' => ∃ s9 s10 s11 s12 s15 s16 s17 s18 s19 s20 s21 s22, ac = { tmps := #[.agg #[.int .i64 o.i, .int .i64 o.j, .int .i64 o.c], .agg #[.int .i64 u.i, .int .i64 u.j, .int .i64 u.c], .agg #[.int .i64 v.i, .int .i64 v.j, .int .i64 v.c], .agg #[.int .i64 x.i, .int .i64 x.j, .int .i64 x.c], .pointer (some ⟨B0, 0, none⟩), .pointer (some ⟨B1, 0, none⟩), .pointer (some ⟨B2, 0, none⟩), .pointer (some ⟨B3, 0, none⟩), .int .i64 0, s9, s10, s11, s12, undef, undef, s15, s16, s17, s18, s19, s20, s21, s22, undef, undef, undef, undef, undef, undef, undef, undef, undef, undef, undef, undef, undef, undef, undef, undef, undef, undef, undef, undef, undef, undef, undef, undef, undef, undef, undef, undef, undef, undef, undef, undef, undef, undef, undef, undef], defers := [] } ∧ AeI o u v x B0 B1 B2 B3 W1 L w' s9 s10 s11 s12 s15 s16 s17 s18 s19 s20 s21 s22) (by kernel_rfl) (by kernel_rfl) ?_ ?_ ?_
    · exact ⟨_, _, _, _, _, _, _, _, _, _, _, _, rfl, (Below.refl _ _).drew, (fun e => by cases e), (fun e => by cases e), (fun e => by cases e), (fun e => by cases e), (fun e => by cases e), (fun e => by cases e), (fun e => by cases e), (fun e => by cases e), (fun e => by cases e), (fun e => by cases e), (fun e => by cases e), (fun e => by cases e), (fun e => by cases e), (fun e => by cases e), (fun e => by cases e), (fun e => by cases e), (fun e => by cases e), (fun e => by cases e), (fun e => by cases e), (fun e => by cases e), (fun e => by cases e), (fun e => by cases e)⟩
    · rintro L ac w' ⟨s9, s10, s11, s12, s15, s16, s17, s18, s19, s20, s21, s22, rfl, H⟩ hL
      obtain ⟨T0, x00, x01, rfl, hT0, hO0, e0⟩ := H.a0 (hL 8 (by decide))
      obtain ⟨g00, g01⟩ := e0 (hL 12 (by decide))
      rw [g00, g01] at hO0
      obtain ⟨T1, x10, x11, rfl, hT1, hO1, e1⟩ := H.a1 (hL 9 (by decide))
      obtain ⟨g10, g11⟩ := e1 (hL 13 (by decide))
      rw [g10, g11] at hO1
      obtain ⟨T2, x20, x21, rfl, hT2, hO2, e2⟩ := H.a2 (hL 10 (by decide))
      obtain ⟨g20, g21⟩ := e2 (hL 14 (by decide))
      rw [g20, g21] at hO2
      obtain ⟨T3, x30, x31, rfl, hT3, hO3, e3⟩ := H.a3 (hL 11 (by decide))
      obtain ⟨g30, g31⟩ := e3 (hL 15 (by decide))
      rw [g30, g31] at hO3
      have HREL := Lib.hid (show QuaP W1 o u v x (.pointer (some ⟨T0, 0, none⟩)) (.pointer (some ⟨T1, 0, none⟩)) (.pointer (some ⟨T2, 0, none⟩)) (.pointer (some ⟨T3, 0, none⟩)) w' from ⟨T0, T1, T2, T3, rfl, rfl, rfl, rfl, hO0, hO1, hO2, hO3, H.bel⟩)
      clear H hL hO0 e0 g00 g01 hO1 e1 g10 g11 hO2 e2 g20 g21 hO3 e3 g30 g31
      go_wp2_with fail
      go_meet
      exact HREL.out
    · rintro i L ac w' ⟨s9, s10, s11, s12, s15, s16, s17, s18, s19, s20, s21, s22, rfl, H⟩ hi hL hw
      have hi : i < 16 := hi
      have HH := Lib.hid H; have HWt := Lib.hid hw
      clear H hw
      rcases (show i = 0 ∨ i = 1 ∨ i = 2 ∨ i = 3 ∨ i = 4 ∨ i = 5 ∨ i = 6 ∨ i = 7 ∨ i = 8 ∨ i = 9 ∨ i = 10 ∨ i = 11 ∨ i = 12 ∨ i = 13 ∨ i = 14 ∨ i = 15 by omega) with rfl | rfl | rfl | rfl | rfl | rfl | rfl | rfl | rfl | rfl | rfl | rfl | rfl | rfl | rfl | rfl
      · refine' wpOp_step (o := ?oAe_0) ?hoAe_0 (fun K hK => ?stAe_0)
        case hoAe_0 => rfl
        case stAe_0 =>
          have HK := Lib.hid hK; clear hK
          have q0 := bcellP HH.out.bel F00.out; have q1 := bcellP HH.out.bel F01.out; have q2 := bcellP HH.out.bel F02.out
          go_simp
          refine HK.out _ _ ⟨_, _, _, _, _, _, _, _, _, _, _, _, rfl, ?_⟩
          have h := HH.out
          exact ⟨h.bel, (fun _ => rfl), (fun e => h.p1 e), (fun e => h.p2 e), (fun e => h.p3 e), (fun e => h.p4 e), (fun e => h.p5 e), (fun e => h.p6 e), (fun e => h.p7 e), (fun e => h.a0 e), (fun e => h.c0 e), (fun e => h.a1 e), (fun e => h.c1 e), (fun e => h.a2 e), (fun e => h.c2 e), (fun e => h.a3 e), (fun e => h.c3 e), (fun e e2 => h.d01 e e2), (fun e e2 => h.d02 e e2), (fun e e2 => h.d03 e e2), (fun e e2 => h.d12 e e2), (fun e e2 => h.d13 e e2), (fun e e2 => h.d23 e e2)⟩
      · refine' wpOp_step (o := ?oAe_1) ?hoAe_1 (fun K hK => ?stAe_1)
        case hoAe_1 => rfl
        case stAe_1 =>
          have HK := Lib.hid hK; clear hK
          obtain rfl := HH.out.p0 (HWt.out 0 (by kernel_rfl))
          go_simp
          go_at_call 52; (refine (CP.out o _).mono ?_); rintro e wC ⟨rfl, hwC⟩
          refine HK.out _ _ ⟨_, _, _, _, _, _, _, _, _, _, _, _, rfl, ?_⟩
          have h := HH.out.mono hwC
          exact ⟨h.bel, (fun e => h.p0 e), (fun _ => rfl), (fun e => h.p2 e), (fun e => h.p3 e), (fun e => h.p4 e), (fun e => h.p5 e), (fun e => h.p6 e), (fun e => h.p7 e), (fun e => h.a0 e), (fun e => h.c0 e), (fun e => h.a1 e), (fun e => h.c1 e), (fun e => h.a2 e), (fun e => h.c2 e), (fun e => h.a3 e), (fun e => h.c3 e), (fun e e2 => h.d01 e e2), (fun e e2 => h.d02 e e2), (fun e e2 => h.d03 e e2), (fun e e2 => h.d12 e e2), (fun e e2 => h.d13 e e2), (fun e e2 => h.d23 e e2)⟩
      · refine' wpOp_step (o := ?oAe_2) ?hoAe_2 (fun K hK => ?stAe_2)
        case hoAe_2 => rfl
        case stAe_2 =>
          have HK := Lib.hid hK; clear hK
          have q0 := bcellP HH.out.bel F10.out; have q1 := bcellP HH.out.bel F11.out; have q2 := bcellP HH.out.bel F12.out
          go_simp
          refine HK.out _ _ ⟨_, _, _, _, _, _, _, _, _, _, _, _, rfl, ?_⟩
          have h := HH.out
          exact ⟨h.bel, (fun e => h.p0 e), (fun e => h.p1 e), (fun _ => rfl), (fun e => h.p3 e), (fun e => h.p4 e), (fun e => h.p5 e), (fun e => h.p6 e), (fun e => h.p7 e), (fun e => h.a0 e), (fun e => h.c0 e), (fun e => h.a1 e), (fun e => h.c1 e), (fun e => h.a2 e), (fun e => h.c2 e), (fun e => h.a3 e), (fun e => h.c3 e), (fun e e2 => h.d01 e e2), (fun e e2 => h.d02 e e2), (fun e e2 => h.d03 e e2), (fun e e2 => h.d12 e e2), (fun e e2 => h.d13 e e2), (fun e e2 => h.d23 e e2)⟩
      · refine' wpOp_step (o := ?oAe_3) ?hoAe_3 (fun K hK => ?stAe_3)
        case hoAe_3 => rfl
        case stAe_3 =>
          have HK := Lib.hid hK; clear hK
          obtain rfl := HH.out.p2 (HWt.out 2 (by kernel_rfl))
          go_simp
          go_at_call 52; (refine (CP.out u _).mono ?_); rintro e wC ⟨rfl, hwC⟩
          refine HK.out _ _ ⟨_, _, _, _, _, _, _, _, _, _, _, _, rfl, ?_⟩
          have h := HH.out.mono hwC
          exact ⟨h.bel, (fun e => h.p0 e), (fun e => h.p1 e), (fun e => h.p2 e), (fun _ => rfl), (fun e => h.p4 e), (fun e => h.p5 e), (fun e => h.p6 e), (fun e => h.p7 e), (fun e => h.a0 e), (fun e => h.c0 e), (fun e => h.a1 e), (fun e => h.c1 e), (fun e => h.a2 e), (fun e => h.c2 e), (fun e => h.a3 e), (fun e => h.c3 e), (fun e e2 => h.d01 e e2), (fun e e2 => h.d02 e e2), (fun e e2 => h.d03 e e2), (fun e e2 => h.d12 e e2), (fun e e2 => h.d13 e e2), (fun e e2 => h.d23 e e2)⟩
      · refine' wpOp_step (o := ?oAe_4) ?hoAe_4 (fun K hK => ?stAe_4)
        case hoAe_4 => rfl
        case stAe_4 =>
          have HK := Lib.hid hK; clear hK
          have q0 := bcellP HH.out.bel F20.out; have q1 := bcellP HH.out.bel F21.out; have q2 := bcellP HH.out.bel F22.out
          go_simp
          refine HK.out _ _ ⟨_, _, _, _, _, _, _, _, _, _, _, _, rfl, ?_⟩
          have h := HH.out
          exact ⟨h.bel, (fun e => h.p0 e), (fun e => h.p1 e), (fun e => h.p2 e), (fun e => h.p3 e), (fun _ => rfl), (fun e => h.p5 e), (fun e => h.p6 e), (fun e => h.p7 e), (fun e => h.a0 e), (fun e => h.c0 e), (fun e => h.a1 e), (fun e => h.c1 e), (fun e => h.a2 e), (fun e => h.c2 e), (fun e => h.a3 e), (fun e => h.c3 e), (fun e e2 => h.d01 e e2), (fun e e2 => h.d02 e e2), (fun e e2 => h.d03 e e2), (fun e e2 => h.d12 e e2), (fun e e2 => h.d13 e e2), (fun e e2 => h.d23 e e2)⟩
      · refine' wpOp_step (o := ?oAe_5) ?hoAe_5 (fun K hK => ?stAe_5)
        case hoAe_5 => rfl
        case stAe_5 =>
          have HK := Lib.hid hK; clear hK
          obtain rfl := HH.out.p4 (HWt.out 4 (by kernel_rfl))
          go_simp
          go_at_call 52; (refine (CP.out v _).mono ?_); rintro e wC ⟨rfl, hwC⟩
          refine HK.out _ _ ⟨_, _, _, _, _, _, _, _, _, _, _, _, rfl, ?_⟩
          have h := HH.out.mono hwC
          exact ⟨h.bel, (fun e => h.p0 e), (fun e => h.p1 e), (fun e => h.p2 e), (fun e => h.p3 e), (fun e => h.p4 e), (fun _ => rfl), (fun e => h.p6 e), (fun e => h.p7 e), (fun e => h.a0 e), (fun e => h.c0 e), (fun e => h.a1 e), (fun e => h.c1 e), (fun e => h.a2 e), (fun e => h.c2 e), (fun e => h.a3 e), (fun e => h.c3 e), (fun e e2 => h.d01 e e2), (fun e e2 => h.d02 e e2), (fun e e2 => h.d03 e e2), (fun e e2 => h.d12 e e2), (fun e e2 => h.d13 e e2), (fun e e2 => h.d23 e e2)⟩
      · refine' wpOp_step (o := ?oAe_6) ?hoAe_6 (fun K hK => ?stAe_6)
        case hoAe_6 => rfl
        case stAe_6 =>
          have HK := Lib.hid hK; clear hK
          have q0 := bcellP HH.out.bel F30.out; have q1 := bcellP HH.out.bel F31.out; have q2 := bcellP HH.out.bel F32.out
          go_simp
          refine HK.out _ _ ⟨_, _, _, _, _, _, _, _, _, _, _, _, rfl, ?_⟩
          have h := HH.out
          exact ⟨h.bel, (fun e => h.p0 e), (fun e => h.p1 e), (fun e => h.p2 e), (fun e => h.p3 e), (fun e => h.p4 e), (fun e => h.p5 e), (fun _ => rfl), (fun e => h.p7 e), (fun e => h.a0 e), (fun e => h.c0 e), (fun e => h.a1 e), (fun e => h.c1 e), (fun e => h.a2 e), (fun e => h.c2 e), (fun e => h.a3 e), (fun e => h.c3 e), (fun e e2 => h.d01 e e2), (fun e e2 => h.d02 e e2), (fun e e2 => h.d03 e e2), (fun e e2 => h.d12 e e2), (fun e e2 => h.d13 e e2), (fun e e2 => h.d23 e e2)⟩
      · refine' wpOp_step (o := ?oAe_7) ?hoAe_7 (fun K hK => ?stAe_7)
        case hoAe_7 => rfl
        case stAe_7 =>
          have HK := Lib.hid hK; clear hK
          obtain rfl := HH.out.p6 (HWt.out 6 (by kernel_rfl))
          go_simp
          go_at_call 52; (refine (CP.out x _).mono ?_); rintro e wC ⟨rfl, hwC⟩
          refine HK.out _ _ ⟨_, _, _, _, _, _, _, _, _, _, _, _, rfl, ?_⟩
          have h := HH.out.mono hwC
          exact ⟨h.bel, (fun e => h.p0 e), (fun e => h.p1 e), (fun e => h.p2 e), (fun e => h.p3 e), (fun e => h.p4 e), (fun e => h.p5 e), (fun e => h.p6 e), (fun _ => rfl), (fun e => h.a0 e), (fun e => h.c0 e), (fun e => h.a1 e), (fun e => h.c1 e), (fun e => h.a2 e), (fun e => h.c2 e), (fun e => h.a3 e), (fun e => h.c3 e), (fun e e2 => h.d01 e e2), (fun e e2 => h.d02 e e2), (fun e e2 => h.d03 e e2), (fun e e2 => h.d12 e e2), (fun e e2 => h.d13 e e2), (fun e e2 => h.d23 e e2)⟩
      · refine' wpOp_step (o := ?oAe_8) ?hoAe_8 (fun K hK => ?stAe_8)
        case hoAe_8 => rfl
        case stAe_8 =>
          have HK := Lib.hid hK; clear hK
          go_simp
          refine HK.out _ _ ⟨_, _, _, _, _, _, _, _, _, _, _, _, rfl, ?_⟩
          have h := HH.out.mono (bal_alloc (o := .cells #[.int .i64 0, .int .i64 0] 66) (Below.refl _ _))
          exact ⟨h.bel, (fun e => h.p0 e), (fun e => h.p1 e), (fun e => h.p2 e), (fun e => h.p3 e), (fun e => h.p4 e), (fun e => h.p5 e), (fun e => h.p6 e), (fun e => h.p7 e), (fun _ => ⟨_, 0, 0, rfl, HH.out.bel.size, Own.newHG _ _ _ rfl rfl, fun e9 => (no_up hL (h.c0 e9)).elim⟩), (fun _ => rfl), (fun e => h.a1 e), (fun e => h.c1 e), (fun e => h.a2 e), (fun e => h.c2 e), (fun e => h.a3 e), (fun e => h.c3 e), (fun e e2 => by obtain ⟨T, _, _, h1, _, h3, _⟩ := HH.out.a1 e2; have := Own.lt h3; intro h4; rw [h1] at h4; simp only [Value.pointer.injEq, Option.some.injEq, Addr.mk.injEq] at h4; omega), (fun e e2 => by obtain ⟨T, _, _, h1, _, h3, _⟩ := HH.out.a2 e2; have := Own.lt h3; intro h4; rw [h1] at h4; simp only [Value.pointer.injEq, Option.some.injEq, Addr.mk.injEq] at h4; omega), (fun e e2 => by obtain ⟨T, _, _, h1, _, h3, _⟩ := HH.out.a3 e2; have := Own.lt h3; intro h4; rw [h1] at h4; simp only [Value.pointer.injEq, Option.some.injEq, Addr.mk.injEq] at h4; omega), (fun e e2 => h.d12 e e2), (fun e e2 => h.d13 e e2), (fun e e2 => h.d23 e e2)⟩
      · refine' wpOp_step (o := ?oAe_9) ?hoAe_9 (fun K hK => ?stAe_9)
        case hoAe_9 => rfl
        case stAe_9 =>
          have HK := Lib.hid hK; clear hK
          go_simp
          refine HK.out _ _ ⟨_, _, _, _, _, _, _, _, _, _, _, _, rfl, ?_⟩
          have h := HH.out.mono (bal_alloc (o := .cells #[.int .i64 0, .int .i64 0] 66) (Below.refl _ _))
          exact ⟨h.bel, (fun e => h.p0 e), (fun e => h.p1 e), (fun e => h.p2 e), (fun e => h.p3 e), (fun e => h.p4 e), (fun e => h.p5 e), (fun e => h.p6 e), (fun e => h.p7 e), (fun e => h.a0 e), (fun e => h.c0 e), (fun _ => ⟨_, 0, 0, rfl, HH.out.bel.size, Own.newHG _ _ _ rfl rfl, fun e9 => (no_up hL (h.c1 e9)).elim⟩), (fun _ => rfl), (fun e => h.a2 e), (fun e => h.c2 e), (fun e => h.a3 e), (fun e => h.c3 e), (fun e e2 => by obtain ⟨T, _, _, h1, _, h3, _⟩ := HH.out.a0 e; have := Own.lt h3; intro h4; rw [h1] at h4; simp only [Value.pointer.injEq, Option.some.injEq, Addr.mk.injEq] at h4; omega), (fun e e2 => h.d02 e e2), (fun e e2 => h.d03 e e2), (fun e e2 => by obtain ⟨T, _, _, h1, _, h3, _⟩ := HH.out.a2 e2; have := Own.lt h3; intro h4; rw [h1] at h4; simp only [Value.pointer.injEq, Option.some.injEq, Addr.mk.injEq] at h4; omega), (fun e e2 => by obtain ⟨T, _, _, h1, _, h3, _⟩ := HH.out.a3 e2; have := Own.lt h3; intro h4; rw [h1] at h4; simp only [Value.pointer.injEq, Option.some.injEq, Addr.mk.injEq] at h4; omega), (fun e e2 => h.d23 e e2)⟩
      · refine' wpOp_step (o := ?oAe_10) ?hoAe_10 (fun K hK => ?stAe_10)
        case hoAe_10 => rfl
        case stAe_10 =>
          have HK := Lib.hid hK; clear hK
          go_simp
          refine HK.out _ _ ⟨_, _, _, _, _, _, _, _, _, _, _, _, rfl, ?_⟩
          have h := HH.out.mono (bal_alloc (o := .cells #[.int .i64 0, .int .i64 0] 66) (Below.refl _ _))
          exact ⟨h.bel, (fun e => h.p0 e), (fun e => h.p1 e), (fun e => h.p2 e), (fun e => h.p3 e), (fun e => h.p4 e), (fun e => h.p5 e), (fun e => h.p6 e), (fun e => h.p7 e), (fun e => h.a0 e), (fun e => h.c0 e), (fun e => h.a1 e), (fun e => h.c1 e), (fun _ => ⟨_, 0, 0, rfl, HH.out.bel.size, Own.newHG _ _ _ rfl rfl, fun e9 => (no_up hL (h.c2 e9)).elim⟩), (fun _ => rfl), (fun e => h.a3 e), (fun e => h.c3 e), (fun e e2 => h.d01 e e2), (fun e e2 => by obtain ⟨T, _, _, h1, _, h3, _⟩ := HH.out.a0 e; have := Own.lt h3; intro h4; rw [h1] at h4; simp only [Value.pointer.injEq, Option.some.injEq, Addr.mk.injEq] at h4; omega), (fun e e2 => h.d03 e e2), (fun e e2 => by obtain ⟨T, _, _, h1, _, h3, _⟩ := HH.out.a1 e; have := Own.lt h3; intro h4; rw [h1] at h4; simp only [Value.pointer.injEq, Option.some.injEq, Addr.mk.injEq] at h4; omega), (fun e e2 => h.d13 e e2), (fun e e2 => by obtain ⟨T, _, _, h1, _, h3, _⟩ := HH.out.a3 e2; have := Own.lt h3; intro h4; rw [h1] at h4; simp only [Value.pointer.injEq, Option.some.injEq, Addr.mk.injEq] at h4; omega)⟩
      · refine' wpOp_step (o := ?oAe_11) ?hoAe_11 (fun K hK => ?stAe_11)
        case hoAe_11 => rfl
        case stAe_11 =>
          have HK := Lib.hid hK; clear hK
          go_simp
          refine HK.out _ _ ⟨_, _, _, _, _, _, _, _, _, _, _, _, rfl, ?_⟩
          have h := HH.out.mono (bal_alloc (o := .cells #[.int .i64 0, .int .i64 0] 66) (Below.refl _ _))
          exact ⟨h.bel, (fun e => h.p0 e), (fun e => h.p1 e), (fun e => h.p2 e), (fun e => h.p3 e), (fun e => h.p4 e), (fun e => h.p5 e), (fun e => h.p6 e), (fun e => h.p7 e), (fun e => h.a0 e), (fun e => h.c0 e), (fun e => h.a1 e), (fun e => h.c1 e), (fun e => h.a2 e), (fun e => h.c2 e), (fun _ => ⟨_, 0, 0, rfl, HH.out.bel.size, Own.newHG _ _ _ rfl rfl, fun e9 => (no_up hL (h.c3 e9)).elim⟩), (fun _ => rfl), (fun e e2 => h.d01 e e2), (fun e e2 => h.d02 e e2), (fun e e2 => by obtain ⟨T, _, _, h1, _, h3, _⟩ := HH.out.a0 e; have := Own.lt h3; intro h4; rw [h1] at h4; simp only [Value.pointer.injEq, Option.some.injEq, Addr.mk.injEq] at h4; omega), (fun e e2 => h.d12 e e2), (fun e e2 => by obtain ⟨T, _, _, h1, _, h3, _⟩ := HH.out.a1 e; have := Own.lt h3; intro h4; rw [h1] at h4; simp only [Value.pointer.injEq, Option.some.injEq, Addr.mk.injEq] at h4; omega), (fun e e2 => by obtain ⟨T, _, _, h1, _, h3, _⟩ := HH.out.a2 e; have := Own.lt h3; intro h4; rw [h1] at h4; simp only [Value.pointer.injEq, Option.some.injEq, Addr.mk.injEq] at h4; omega)⟩
      · refine' wpOp_step (o := ?oAe_12) ?hoAe_12 (fun K hK => ?stAe_12)
        case hoAe_12 => rfl
        case stAe_12 =>
          have HK := Lib.hid hK; clear hK
          obtain rfl := HH.out.p1 (HWt.out 1 (by kernel_rfl))
          obtain ⟨T, x0, x1, rfl, hT, hO, -⟩ := HH.out.a0 (HWt.out 8 (by kernel_rfl))
          have y0 := hO.cell? (i := 0) rfl; have z0 := hO.frozen 0
          have y1 := hO.cell? (i := 1) rfl; have z1 := hO.frozen 1
          have HO := Lib.hid hO; clear hO
          go_simp
          refine HK.out _ _ ⟨_, _, _, _, _, _, _, _, _, _, _, _, rfl, ?_⟩
          have h := HH.out
          have hO := HO.out
          exact ⟨bel_set (bel_set (h.bel) hT) hT, (fun e => h.p0 e), (fun e => h.p1 e), (fun e => h.p2 e), (fun e => h.p3 e), (fun e => h.p4 e), (fun e => h.p5 e), (fun e => h.p6 e), (fun e => h.p7 e), (fun _ => ⟨T, _, _, rfl, hT, (Own.set (Own.set hO 0 (.int .i64 (o.i))) 1 (.int .i64 (o.j))), fun _ => ⟨rfl, rfl⟩⟩), (fun _ => HWt.out 8 (by kernel_rfl)), (fun e => let ⟨t, x0, x1, a', b', c', d'⟩ := h.a1 e; have hne : t ≠ T := (fun e9 => h.d01 (HWt.out 8 (by kernel_rfl)) e (by rw [a', e9])); ⟨t, x0, x1, a', b', (Own.sO hne (Own.sO hne c' _) _), d'⟩), (fun e => h.c1 e), (fun e => let ⟨t, x0, x1, a', b', c', d'⟩ := h.a2 e; have hne : t ≠ T := (fun e9 => h.d02 (HWt.out 8 (by kernel_rfl)) e (by rw [a', e9])); ⟨t, x0, x1, a', b', (Own.sO hne (Own.sO hne c' _) _), d'⟩), (fun e => h.c2 e), (fun e => let ⟨t, x0, x1, a', b', c', d'⟩ := h.a3 e; have hne : t ≠ T := (fun e9 => h.d03 (HWt.out 8 (by kernel_rfl)) e (by rw [a', e9])); ⟨t, x0, x1, a', b', (Own.sO hne (Own.sO hne c' _) _), d'⟩), (fun e => h.c3 e), (fun e e2 => h.d01 e e2), (fun e e2 => h.d02 e e2), (fun e e2 => h.d03 e e2), (fun e e2 => h.d12 e e2), (fun e e2 => h.d13 e e2), (fun e e2 => h.d23 e e2)⟩
      · refine' wpOp_step (o := ?oAe_13) ?hoAe_13 (fun K hK => ?stAe_13)
        case hoAe_13 => rfl
        case stAe_13 =>
          have HK := Lib.hid hK; clear hK
          obtain rfl := HH.out.p3 (HWt.out 3 (by kernel_rfl))
          obtain ⟨T, x0, x1, rfl, hT, hO, -⟩ := HH.out.a1 (HWt.out 9 (by kernel_rfl))
          have y0 := hO.cell? (i := 0) rfl; have z0 := hO.frozen 0
          have y1 := hO.cell? (i := 1) rfl; have z1 := hO.frozen 1
          have HO := Lib.hid hO; clear hO
          go_simp
          refine HK.out _ _ ⟨_, _, _, _, _, _, _, _, _, _, _, _, rfl, ?_⟩
          have h := HH.out
          have hO := HO.out
          exact ⟨bel_set (bel_set (h.bel) hT) hT, (fun e => h.p0 e), (fun e => h.p1 e), (fun e => h.p2 e), (fun e => h.p3 e), (fun e => h.p4 e), (fun e => h.p5 e), (fun e => h.p6 e), (fun e => h.p7 e), (fun e => let ⟨t, x0, x1, a', b', c', d'⟩ := h.a0 e; have hne : t ≠ T := (fun e9 => h.d01 e (HWt.out 9 (by kernel_rfl)) (by rw [a', e9])); ⟨t, x0, x1, a', b', (Own.sO hne (Own.sO hne c' _) _), d'⟩), (fun e => h.c0 e), (fun _ => ⟨T, _, _, rfl, hT, (Own.set (Own.set hO 0 (.int .i64 (u.i))) 1 (.int .i64 (u.j))), fun _ => ⟨rfl, rfl⟩⟩), (fun _ => HWt.out 9 (by kernel_rfl)), (fun e => let ⟨t, x0, x1, a', b', c', d'⟩ := h.a2 e; have hne : t ≠ T := (fun e9 => h.d12 (HWt.out 9 (by kernel_rfl)) e (by rw [a', e9])); ⟨t, x0, x1, a', b', (Own.sO hne (Own.sO hne c' _) _), d'⟩), (fun e => h.c2 e), (fun e => let ⟨t, x0, x1, a', b', c', d'⟩ := h.a3 e; have hne : t ≠ T := (fun e9 => h.d13 (HWt.out 9 (by kernel_rfl)) e (by rw [a', e9])); ⟨t, x0, x1, a', b', (Own.sO hne (Own.sO hne c' _) _), d'⟩), (fun e => h.c3 e), (fun e e2 => h.d01 e e2), (fun e e2 => h.d02 e e2), (fun e e2 => h.d03 e e2), (fun e e2 => h.d12 e e2), (fun e e2 => h.d13 e e2), (fun e e2 => h.d23 e e2)⟩
      · refine' wpOp_step (o := ?oAe_14) ?hoAe_14 (fun K hK => ?stAe_14)
        case hoAe_14 => rfl
        case stAe_14 =>
          have HK := Lib.hid hK; clear hK
          obtain rfl := HH.out.p5 (HWt.out 5 (by kernel_rfl))
          obtain ⟨T, x0, x1, rfl, hT, hO, -⟩ := HH.out.a2 (HWt.out 10 (by kernel_rfl))
          have y0 := hO.cell? (i := 0) rfl; have z0 := hO.frozen 0
          have y1 := hO.cell? (i := 1) rfl; have z1 := hO.frozen 1
          have HO := Lib.hid hO; clear hO
          go_simp
          refine HK.out _ _ ⟨_, _, _, _, _, _, _, _, _, _, _, _, rfl, ?_⟩
          have h := HH.out
          have hO := HO.out
          exact ⟨bel_set (bel_set (h.bel) hT) hT, (fun e => h.p0 e), (fun e => h.p1 e), (fun e => h.p2 e), (fun e => h.p3 e), (fun e => h.p4 e), (fun e => h.p5 e), (fun e => h.p6 e), (fun e => h.p7 e), (fun e => let ⟨t, x0, x1, a', b', c', d'⟩ := h.a0 e; have hne : t ≠ T := (fun e9 => h.d02 e (HWt.out 10 (by kernel_rfl)) (by rw [a', e9])); ⟨t, x0, x1, a', b', (Own.sO hne (Own.sO hne c' _) _), d'⟩), (fun e => h.c0 e), (fun e => let ⟨t, x0, x1, a', b', c', d'⟩ := h.a1 e; have hne : t ≠ T := (fun e9 => h.d12 e (HWt.out 10 (by kernel_rfl)) (by rw [a', e9])); ⟨t, x0, x1, a', b', (Own.sO hne (Own.sO hne c' _) _), d'⟩), (fun e => h.c1 e), (fun _ => ⟨T, _, _, rfl, hT, (Own.set (Own.set hO 0 (.int .i64 (v.i))) 1 (.int .i64 (v.j))), fun _ => ⟨rfl, rfl⟩⟩), (fun _ => HWt.out 10 (by kernel_rfl)), (fun e => let ⟨t, x0, x1, a', b', c', d'⟩ := h.a3 e; have hne : t ≠ T := (fun e9 => h.d23 (HWt.out 10 (by kernel_rfl)) e (by rw [a', e9])); ⟨t, x0, x1, a', b', (Own.sO hne (Own.sO hne c' _) _), d'⟩), (fun e => h.c3 e), (fun e e2 => h.d01 e e2), (fun e e2 => h.d02 e e2), (fun e e2 => h.d03 e e2), (fun e e2 => h.d12 e e2), (fun e e2 => h.d13 e e2), (fun e e2 => h.d23 e e2)⟩
      · refine' wpOp_step (o := ?oAe_15) ?hoAe_15 (fun K hK => ?stAe_15)
        case hoAe_15 => rfl
        case stAe_15 =>
          have HK := Lib.hid hK; clear hK
          obtain rfl := HH.out.p7 (HWt.out 7 (by kernel_rfl))
          obtain ⟨T, x0, x1, rfl, hT, hO, -⟩ := HH.out.a3 (HWt.out 11 (by kernel_rfl))
          have y0 := hO.cell? (i := 0) rfl; have z0 := hO.frozen 0
          have y1 := hO.cell? (i := 1) rfl; have z1 := hO.frozen 1
          have HO := Lib.hid hO; clear hO
          go_simp
          refine HK.out _ _ ⟨_, _, _, _, _, _, _, _, _, _, _, _, rfl, ?_⟩
          have h := HH.out
          have hO := HO.out
          exact ⟨bel_set (bel_set (h.bel) hT) hT, (fun e => h.p0 e), (fun e => h.p1 e), (fun e => h.p2 e), (fun e => h.p3 e), (fun e => h.p4 e), (fun e => h.p5 e), (fun e => h.p6 e), (fun e => h.p7 e), (fun e => let ⟨t, x0, x1, a', b', c', d'⟩ := h.a0 e; have hne : t ≠ T := (fun e9 => h.d03 e (HWt.out 11 (by kernel_rfl)) (by rw [a', e9])); ⟨t, x0, x1, a', b', (Own.sO hne (Own.sO hne c' _) _), d'⟩), (fun e => h.c0 e), (fun e => let ⟨t, x0, x1, a', b', c', d'⟩ := h.a1 e; have hne : t ≠ T := (fun e9 => h.d13 e (HWt.out 11 (by kernel_rfl)) (by rw [a', e9])); ⟨t, x0, x1, a', b', (Own.sO hne (Own.sO hne c' _) _), d'⟩), (fun e => h.c1 e), (fun e => let ⟨t, x0, x1, a', b', c', d'⟩ := h.a2 e; have hne : t ≠ T := (fun e9 => h.d23 e (HWt.out 11 (by kernel_rfl)) (by rw [a', e9])); ⟨t, x0, x1, a', b', (Own.sO hne (Own.sO hne c' _) _), d'⟩), (fun e => h.c2 e), (fun _ => ⟨T, _, _, rfl, hT, (Own.set (Own.set hO 0 (.int .i64 (x.i))) 1 (.int .i64 (x.j))), fun _ => ⟨rfl, rfl⟩⟩), (fun _ => HWt.out 11 (by kernel_rfl)), (fun e e2 => h.d01 e e2), (fun e e2 => h.d02 e e2), (fun e e2 => h.d03 e e2), (fun e e2 => h.d12 e e2), (fun e e2 => h.d13 e e2), (fun e e2 => h.d23 e e2)⟩
  case rest =>
    obtain ⟨P0, P1, P2, P3, rfl, rfl, rfl, rfl, hQ0, hQ1, hQ2, hQ3, hbel4⟩ := hcut
    obtain ⟨W4, rfl⟩ : ∃ y : World, y = wc := ⟨_, rfl⟩
    have m0 := bcell hbel4 F02.out.1 F02.out.2
    have m1 := bcell hbel4 F12.out.1 F12.out.2
    have m2 := bcell hbel4 F22.out.1 F22.out.2
    have m3 := bcell hbel4 F32.out.1 F32.out.2
    have m4 := hQ0.cell? (i := 0) rfl
    have m5 := hQ0.cell? (i := 1) rfl
    have m6 := hQ1.cell? (i := 0) rfl
    have m7 := hQ1.cell? (i := 1) rfl
    have m8 := hQ2.cell? (i := 0) rfl
    have m9 := hQ2.cell? (i := 1) rfl
    have m10 := hQ3.cell? (i := 0) rfl
    have m11 := hQ3.cell? (i := 1) rfl
    have lB0 : B0 < W4.heap.size := Nat.lt_of_lt_of_le F02.out.1 hbel4.size
    have lB1 : B1 < W4.heap.size := Nat.lt_of_lt_of_le F12.out.1 hbel4.size
    have lB2 : B2 < W4.heap.size := Nat.lt_of_lt_of_le F22.out.1 hbel4.size
    have lB3 : B3 < W4.heap.size := Nat.lt_of_lt_of_le F32.out.1 hbel4.size
    have lP0 := hQ0.lt
    have lP1 := hQ1.lt
    have lP2 := hQ2.lt
    have lP3 := hQ3.lt
    obtain ⟨ho, hu, hv, hx⟩ := HBD.out
    have HB4 := Lib.hid (HB1.out.trans (hbel4.mono HB1.out.size))
    clear F00 F01 F02 F10 F11 F12 F20 F21 F22 F30 F31 F32 hQ0 hQ1 hQ2 hQ3 hbel4
    obtain ⟨X0, hX0⟩ : ∃ z, turnZ (pnt o) (pnt u) (pnt v) = z := ⟨_, rfl⟩
    obtain ⟨X1, hX1⟩ : ∃ z, turnZ (pnt x) (pnt u) (pnt v) = z := ⟨_, rfl⟩
    obtain ⟨X2, hX2⟩ : ∃ z, turnZ (pnt o) (pnt x) (pnt v) = z := ⟨_, rfl⟩
    obtain ⟨X3, hX3⟩ : ∃ z, turnZ (pnt o) (pnt u) (pnt x) = z := ⟨_, rfl⟩
    have K0 := Lib.hid (fun w => show Calls Tryz.prog 51 #[.agg #[.int .i64 o.i, .int .i64 o.j], .agg #[.int .i64 u.i, .int .i64 u.j], .agg #[.int .i64 v.i, .int .i64 v.j]] w fun e w' => e = .returned (.int .i64 X0) ∧ Below w.heap.size w w' by rw [← hX0]; exact pyTurn_c (pnt o) (pnt u) (pnt v) w ⟨by show _ ≤ o.i; omega, by show o.i ≤ _; omega, by show _ ≤ o.j; omega, by show o.j ≤ _; omega⟩ ⟨by show _ ≤ u.i; omega, by show u.i ≤ _; omega, by show _ ≤ u.j; omega, by show u.j ≤ _; omega⟩ ⟨by show _ ≤ v.i; omega, by show v.i ≤ _; omega, by show _ ≤ v.j; omega, by show v.j ≤ _; omega⟩)
    have K1 := Lib.hid (fun w => show Calls Tryz.prog 51 #[.agg #[.int .i64 x.i, .int .i64 x.j], .agg #[.int .i64 u.i, .int .i64 u.j], .agg #[.int .i64 v.i, .int .i64 v.j]] w fun e w' => e = .returned (.int .i64 X1) ∧ Below w.heap.size w w' by rw [← hX1]; exact pyTurn_c (pnt x) (pnt u) (pnt v) w ⟨by show _ ≤ x.i; omega, by show x.i ≤ _; omega, by show _ ≤ x.j; omega, by show x.j ≤ _; omega⟩ ⟨by show _ ≤ u.i; omega, by show u.i ≤ _; omega, by show _ ≤ u.j; omega, by show u.j ≤ _; omega⟩ ⟨by show _ ≤ v.i; omega, by show v.i ≤ _; omega, by show _ ≤ v.j; omega, by show v.j ≤ _; omega⟩)
    have K2 := Lib.hid (fun w => show Calls Tryz.prog 51 #[.agg #[.int .i64 o.i, .int .i64 o.j], .agg #[.int .i64 x.i, .int .i64 x.j], .agg #[.int .i64 v.i, .int .i64 v.j]] w fun e w' => e = .returned (.int .i64 X2) ∧ Below w.heap.size w w' by rw [← hX2]; exact pyTurn_c (pnt o) (pnt x) (pnt v) w ⟨by show _ ≤ o.i; omega, by show o.i ≤ _; omega, by show _ ≤ o.j; omega, by show o.j ≤ _; omega⟩ ⟨by show _ ≤ x.i; omega, by show x.i ≤ _; omega, by show _ ≤ x.j; omega, by show x.j ≤ _; omega⟩ ⟨by show _ ≤ v.i; omega, by show v.i ≤ _; omega, by show _ ≤ v.j; omega, by show v.j ≤ _; omega⟩)
    have K3 := Lib.hid (fun w => show Calls Tryz.prog 51 #[.agg #[.int .i64 o.i, .int .i64 o.j], .agg #[.int .i64 u.i, .int .i64 u.j], .agg #[.int .i64 x.i, .int .i64 x.j]] w fun e w' => e = .returned (.int .i64 X3) ∧ Below w.heap.size w w' by rw [← hX3]; exact pyTurn_c (pnt o) (pnt u) (pnt x) w ⟨by show _ ≤ o.i; omega, by show o.i ≤ _; omega, by show _ ≤ o.j; omega, by show o.j ≤ _; omega⟩ ⟨by show _ ≤ u.i; omega, by show u.i ≤ _; omega, by show _ ≤ u.j; omega, by show u.j ≤ _; omega⟩ ⟨by show _ ≤ x.i; omega, by show x.i ≤ _; omega, by show _ ≤ x.j; omega, by show x.j ≤ _; omega⟩)
    have bX : ∀ {a b c : Tm}, (0 ≤ a.i ∧ a.i ≤ 6) ∧ (0 ≤ a.j ∧ a.j ≤ 6) → (0 ≤ b.i ∧ b.i ≤ 6) ∧ (0 ≤ b.j ∧ b.j ≤ 6) → (0 ≤ c.i ∧ c.i ≤ 6) ∧ (0 ≤ c.j ∧ c.j ≤ 6) → -300 ≤ turnZ (pnt a) (pnt b) (pnt c) ∧ turnZ (pnt a) (pnt b) (pnt c) ≤ 300 := fun {a b c} ha hb hc => by
      have h1 := mulb (K := 12) (M := 12) (by omega) (show -12 ≤ b.i - a.i ∧ b.i - a.i ≤ 12 by omega) (show -12 ≤ c.j - a.j ∧ c.j - a.j ≤ 12 by omega)
      have h2 := mulb (K := 12) (M := 12) (by omega) (show -12 ≤ b.j - a.j ∧ b.j - a.j ≤ 12 by omega) (show -12 ≤ c.i - a.i ∧ c.i - a.i ≤ 12 by omega)
      unfold turnZ pnt
      simp only
      omega
    have b0 := bX (a := o) (b := u) (c := v) (by omega) (by omega) (by omega)
    have b1 := bX (a := x) (b := u) (c := v) (by omega) (by omega) (by omega)
    have b2 := bX (a := o) (b := x) (c := v) (by omega) (by omega) (by omega)
    have b3 := bX (a := o) (b := u) (c := x) (by omega) (by omega) (by omega)
    rw [hX0] at b0; rw [hX1] at b1; rw [hX2] at b2; rw [hX3] at b3
    have HAB := Lib.hid (show abvS o u v x = x.c * X0 - o.c * X1 - u.c * X2 - v.c * X3 from by rw [← hX0, ← hX1, ← hX2, ← hX3]; rfl)
    have c0 := mulb (K := 1000000) (M := 300) (by omega) hx.2.2 b0
    have c1 := mulb (K := 1000000) (M := 300) (by omega) ho.2.2 b1
    have c2 := mulb (K := 1000000) (M := 300) (by omega) hu.2.2 b2
    have c3 := mulb (K := 1000000) (M := 300) (by omega) hv.2.2 b3
    obtain ⟨Y0, hY0⟩ : ∃ z, x.c * X0 = z := ⟨_, rfl⟩
    obtain ⟨Y1, hY1⟩ : ∃ z, o.c * X1 = z := ⟨_, rfl⟩
    obtain ⟨Y2, hY2⟩ : ∃ z, u.c * X2 = z := ⟨_, rfl⟩
    obtain ⟨Y3, hY3⟩ : ∃ z, v.c * X3 = z := ⟨_, rfl⟩
    rw [hY0] at c0; rw [hY1] at c1; rw [hY2] at c2; rw [hY3] at c3
    rw [hY0, hY1, hY2, hY3] at HAB
    have f0 : IntKind.i64.wrap (x.c * X0) = Y0 := by rw [hY0]; exact i64_small (by omega) (by omega)
    have f1 : IntKind.i64.wrap (o.c * X1) = Y1 := by rw [hY1]; exact i64_small (by omega) (by omega)
    have f2 : IntKind.i64.wrap (u.c * X2) = Y2 := by rw [hY2]; exact i64_small (by omega) (by omega)
    have f3 : IntKind.i64.wrap (v.c * X3) = Y3 := by rw [hY3]; exact i64_small (by omega) (by omega)
    obtain ⟨Z1, hZ1⟩ : ∃ z, Y0 - Y1 = z := ⟨_, rfl⟩
    obtain ⟨Z2, hZ2⟩ : ∃ z, Z1 - Y2 = z := ⟨_, rfl⟩
    obtain ⟨Z3, hZ3⟩ : ∃ z, Z2 - Y3 = z := ⟨_, rfl⟩
    have f4 : IntKind.i64.wrap (Y0 - Y1) = Z1 := by rw [i64_small (by omega) (by omega)]; exact hZ1
    have f5 : IntKind.i64.wrap (Z1 - Y2) = Z2 := by rw [i64_small (by omega) (by omega)]; exact hZ2
    have f6 : IntKind.i64.wrap (Z2 - Y3) = Z3 := by rw [i64_small (by omega) (by omega)]; exact hZ3
    rw [hZ1, hZ2, hZ3] at HAB
    obtain ⟨sg, hsg⟩ : ∃ z : Int, (if X0 < 0 then -1 else if X0 > 0 then 1 else 0) = z := ⟨_, rfl⟩
    have hs1 : sg = -1 ∨ sg = 1 ∨ sg = 0 := by
      rw [← hsg]
      split
      · exact Or.inl rfl
      · split
        · exact Or.inr (Or.inl rfl)
        · exact Or.inr (Or.inr rfl)
    have CS := Lib.hid (fun w => ceSign_c X0 w)
    rw [hsg] at CS
    have f7 : IntKind.i64.wrap (Z3 * sg) = Z3 * sg := by rcases hs1 with e | e | e <;> (rw [e]; exact i64_small (by omega) (by omega))
    have HFIN := Lib.hid (show abvS o u v x * (if turnZ (pnt o) (pnt u) (pnt v) < 0 then -1 else if turnZ (pnt o) (pnt u) (pnt v) > 0 then 1 else 0) = Z3 * sg from by rw [HAB.out, hX0, hsg])
    clear hX0 hX1 hX2 hX3 hY0 hY1 hY2 hY3 hZ1 hZ2 hZ3 hs1 hsg b0 b1 b2 b3 c0 c1 c2 c3 bX ho hu hv hx HAB
    go_wp2_with fail
    refine (K0.out _).mono ?_
    rintro e W5 ⟨rfl, hw5⟩
    have m0 := bcell hw5 lB0 m0
    have m1 := bcell hw5 lB1 m1
    have m2 := bcell hw5 lB2 m2
    have m3 := bcell hw5 lB3 m3
    have m4 := bcell hw5 lP0 m4
    have m5 := bcell hw5 lP0 m5
    have m6 := bcell hw5 lP1 m6
    have m7 := bcell hw5 lP1 m7
    have m8 := bcell hw5 lP2 m8
    have m9 := bcell hw5 lP2 m9
    have m10 := bcell hw5 lP3 m10
    have m11 := bcell hw5 lP3 m11
    have lB0 := Nat.lt_of_lt_of_le lB0 hw5.size
    have lB1 := Nat.lt_of_lt_of_le lB1 hw5.size
    have lB2 := Nat.lt_of_lt_of_le lB2 hw5.size
    have lB3 := Nat.lt_of_lt_of_le lB3 hw5.size
    have lP0 := Nat.lt_of_lt_of_le lP0 hw5.size
    have lP1 := Nat.lt_of_lt_of_le lP1 hw5.size
    have lP2 := Nat.lt_of_lt_of_le lP2 hw5.size
    have lP3 := Nat.lt_of_lt_of_le lP3 hw5.size
    go_wp2_with fail
    go_region_held3 (fun w' => w'.cell? ⟨B0, 2, none⟩ = some (.int .i64 o.c) ∧ w'.cell? ⟨B1, 2, none⟩ = some (.int .i64 u.c) ∧ w'.cell? ⟨B2, 2, none⟩ = some (.int .i64 v.c) ∧ w'.cell? ⟨B3, 2, none⟩ = some (.int .i64 x.c) ∧ w'.cell? ⟨P0, 0, none⟩ = some (.int .i64 o.i) ∧ w'.cell? ⟨P0, 1, none⟩ = some (.int .i64 o.j) ∧ w'.cell? ⟨P1, 0, none⟩ = some (.int .i64 u.i) ∧ w'.cell? ⟨P1, 1, none⟩ = some (.int .i64 u.j) ∧ w'.cell? ⟨P2, 0, none⟩ = some (.int .i64 v.i) ∧ w'.cell? ⟨P2, 1, none⟩ = some (.int .i64 v.j) ∧ w'.cell? ⟨P3, 0, none⟩ = some (.int .i64 x.i) ∧ w'.cell? ⟨P3, 1, none⟩ = some (.int .i64 x.j)) (exact ⟨by assumption, by assumption, by assumption, by assumption, by assumption, by assumption, by assumption, by assumption, by assumption, by assumption, by assumption, by assumption⟩)
      (first
        | (go_at_call 51; (with_reducible refine (K1.out _).mono ?_); rintro e W6 ⟨rfl, hw6⟩; have n0 := bcell hw6 lB0 m0; have n1 := bcell hw6 lB1 m1; have n2 := bcell hw6 lB2 m2; have n3 := bcell hw6 lB3 m3; have n4 := bcell hw6 lP0 m4; have n5 := bcell hw6 lP0 m5; have n6 := bcell hw6 lP1 m6; have n7 := bcell hw6 lP1 m7; have n8 := bcell hw6 lP2 m8; have n9 := bcell hw6 lP2 m9; have n10 := bcell hw6 lP3 m10; have n11 := bcell hw6 lP3 m11)
        | (go_at_call 51; (with_reducible refine (K2.out _).mono ?_); rintro e W7 ⟨rfl, hw7⟩; have k0 := bcell hw7 (Nat.lt_of_lt_of_le lB0 hw6.size) n0; have k1 := bcell hw7 (Nat.lt_of_lt_of_le lB1 hw6.size) n1; have k2 := bcell hw7 (Nat.lt_of_lt_of_le lB2 hw6.size) n2; have k3 := bcell hw7 (Nat.lt_of_lt_of_le lB3 hw6.size) n3; have k4 := bcell hw7 (Nat.lt_of_lt_of_le lP0 hw6.size) n4; have k5 := bcell hw7 (Nat.lt_of_lt_of_le lP0 hw6.size) n5; have k6 := bcell hw7 (Nat.lt_of_lt_of_le lP1 hw6.size) n6; have k7 := bcell hw7 (Nat.lt_of_lt_of_le lP1 hw6.size) n7; have k8 := bcell hw7 (Nat.lt_of_lt_of_le lP2 hw6.size) n8; have k9 := bcell hw7 (Nat.lt_of_lt_of_le lP2 hw6.size) n9; have k10 := bcell hw7 (Nat.lt_of_lt_of_le lP3 hw6.size) n10; have k11 := bcell hw7 (Nat.lt_of_lt_of_le lP3 hw6.size) n11)
        | (go_at_call 51; (with_reducible refine (K3.out _).mono ?_); rintro e W8 ⟨rfl, hw8⟩; have r0 := bcell hw8 (Nat.lt_of_lt_of_le (Nat.lt_of_lt_of_le lB0 hw6.size) hw7.size) k0; have r1 := bcell hw8 (Nat.lt_of_lt_of_le (Nat.lt_of_lt_of_le lB1 hw6.size) hw7.size) k1; have r2 := bcell hw8 (Nat.lt_of_lt_of_le (Nat.lt_of_lt_of_le lB2 hw6.size) hw7.size) k2; have r3 := bcell hw8 (Nat.lt_of_lt_of_le (Nat.lt_of_lt_of_le lB3 hw6.size) hw7.size) k3; have r4 := bcell hw8 (Nat.lt_of_lt_of_le (Nat.lt_of_lt_of_le lP0 hw6.size) hw7.size) k4; have r5 := bcell hw8 (Nat.lt_of_lt_of_le (Nat.lt_of_lt_of_le lP0 hw6.size) hw7.size) k5; have r6 := bcell hw8 (Nat.lt_of_lt_of_le (Nat.lt_of_lt_of_le lP1 hw6.size) hw7.size) k6; have r7 := bcell hw8 (Nat.lt_of_lt_of_le (Nat.lt_of_lt_of_le lP1 hw6.size) hw7.size) k7; have r8 := bcell hw8 (Nat.lt_of_lt_of_le (Nat.lt_of_lt_of_le lP2 hw6.size) hw7.size) k8; have r9 := bcell hw8 (Nat.lt_of_lt_of_le (Nat.lt_of_lt_of_le lP2 hw6.size) hw7.size) k9; have r10 := bcell hw8 (Nat.lt_of_lt_of_le (Nat.lt_of_lt_of_le lP3 hw6.size) hw7.size) k10; have r11 := bcell hw8 (Nat.lt_of_lt_of_le (Nat.lt_of_lt_of_le lP3 hw6.size) hw7.size) k11))
    go_wp2_with fail
    refine (CS.out _).mono ?_
    rintro e W9 ⟨rfl, rfl⟩
    go_wp2_with fail
    go_ret
    have hbF := ball (ball (ball (ball HB4.out hw5) ((Below.refl _ _).drew.trans hw6)) hw7) hw8

    exact ⟨by rw [← HRV.out, HFIN.out]; rfl, hbF⟩
end Go.Proofs.YtcionneopgdebaaGreat
