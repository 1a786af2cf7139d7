/-
  The least mean, the first circuit with it and the nodes: the program's. By an AI agent.
-/
import Derived.Test.YtjkfighooijblaaGreatEhA
import Derived.Test.YtjkfighooijblaaGreatRegI
namespace Go.Proofs.YtjkfighooijblaaGreat
open Go.RowKit

theorem leastVisC (n : Nat) (ad : Option Addr) (cap : Nat) (m : Nat → Nat → Int) (w0 w1 : World) (Mb T1 T2 T3 N0 : Nat) (B0 : Nat → Prop) (hr : RdM w0 ad (toM n m)) (hn : 1 ≤ n ∧ n ≤ 6) (hnum : ∀ a b, a < n → b < n → numB (m a b) = true) (hT : T1 ≠ T2 ∧ T1 ≠ T3 ∧ T2 ≠ T3) (hb : Below w0.heap.size w0 w1) (hB0 : ∀ q, B0 q → w0.heap.size ≤ q) (hN0 : w0.heap.size ≤ N0)
    (km : w1.cell? ⟨Mb, 0, none⟩ = some (.slice ad n cap)) (hM : Mb ≠ T1 ∧ Mb ≠ T2 ∧ Mb ≠ T3) (hMN : Mb < N0) (hMB : ¬ B0 Mb) :
    VisC (LmV n m T1 T2 T3) (fpL T1 T2 T3) (fun R c => R ++ [c]) 60 (.pointer (some ⟨Mb, 0, none⟩)) (.pointer (some ⟨T1, 0, none⟩)) (.pointer (some ⟨T2, 0, none⟩)) (.pointer (some ⟨T3, 0, none⟩)) n m N0 B0 w1 where
  hcf := callFunc_plainM Tryz.func60 (by kernel_rfl) (by kernel_rfl)
  lt := fun {w s vb q} hv hq => by
    rcases hq with rfl | rfl | rfl | rfl | hq
    · exact hv.o1.lt
    · exact hv.o2.lt
    · exact hv.o3.lt
    · exact hv.ou.lt
    · exact (World.ownsRow.lt hv.r1 q hq).2
  loc := fun {w w' s vb} hv hq => ⟨hv.cr, hv.o1.of_block (hq T1 (Or.inl rfl)), hv.r1.of_blk (fun q h => hq q (Or.inr (Or.inr (Or.inr (Or.inr h))))), Own.of_block hv.o2 (hq T2 (Or.inr (Or.inl rfl))), hv.o3.of_block (hq T3 (Or.inr (Or.inr (Or.inl rfl)))), hv.ou.of_block (hq vb.2 (Or.inr (Or.inr (Or.inr (Or.inl rfl)))))⟩
  call := fun w s vb l al cl hv hw hf hp hs hfr => (leastVis_c n ad cap m Mb T1 T2 T3 al cl l s vb w (hr.below (hb.trans (hfr.below hN0 (fun q hq e => by have := hB0 q e; omega)))) hn hnum hT (hfr.cell hMN hMB km) hM hv hw hf ⟨hp, hs⟩).mono fun e w' ⟨g1, q, g2, g3, g4⟩ => ⟨g1, q, g2, g3, g4⟩

/-- What the first statement of leastMean leaves, in whatever order. -/
def LRel (h n : Nat) (W : World) (s6 s7 s8 : Value) (wc : World) : Prop := ∃ T1 T2 T3 U R0, s6 = .pointer (some ⟨T2, 0, none⟩) ∧ s7 = .pointer (some ⟨T1, 0, none⟩) ∧ s8 = .pointer (some ⟨T3, 0, none⟩) ∧ (h ≤ T1 ∧ h ≤ T2 ∧ h ≤ T3 ∧ h ≤ U ∧ h ≤ R0) ∧ (T1 ≠ T2 ∧ T1 ≠ T3 ∧ T2 ≠ T3) ∧ Own wc T1 25 [.slice (some ⟨R0, 0, none⟩) 0 0] ∧ FrO wc T2 ⟨0, 0⟩ ∧ Own wc T3 47 [.slice (some ⟨U, 0, none⟩) n n] ∧ RowI wc 0 (.slice (some ⟨R0, 0, none⟩) 0 0) [] ∧ Own wc U 4 (tab n fun _ => .bool false) ∧ Below W.heap.size W wc
/-- What holds whatever has come up. -/
structure LmI (n : Nat) (ad : Option Addr) (cap : Nat) (W : World) (L : Nat → Bool) (w : World) (s6 s7 s8 s9 s10 s11 s12 s13 : Value) : Prop where
  bel : Below W.heap.size W w
  f0 : L 0 = true → s9 = .agg #[.int .i64 0, .int .i64 0]
  f1 : L 1 = true → ∃ R0, s10 = .slice (some ⟨R0, 0, none⟩) 0 0 ∧ W.heap.size ≤ R0 ∧ RowI w 0 s10 []
  f2 : L 2 = true → s11 = .slice ad n cap
  f3 : L 3 = true → s12 = .int .i64 n
  f4 : L 4 = true → ∃ U, s13 = .slice (some ⟨U, 0, none⟩) n n ∧ W.heap.size ≤ U ∧ Own w U 4 (tab n fun _ => .bool false)
  f5 : L 5 = true → ∃ T, s6 = .pointer (some ⟨T, 0, none⟩) ∧ W.heap.size ≤ T ∧ FrO w T ⟨0, 0⟩
  f6 : L 6 = true → ∃ T v, s7 = .pointer (some ⟨T, 0, none⟩) ∧ W.heap.size ≤ T ∧ Own w T 25 [v] ∧ (L 9 = true → v = s10)
  f7 : L 7 = true → ∃ T v, s8 = .pointer (some ⟨T, 0, none⟩) ∧ W.heap.size ≤ T ∧ Own w T 47 [v] ∧ (L 10 = true → v = s13)
  c9 : L 9 = true → L 1 = true ∧ L 6 = true
  c10 : L 10 = true → L 4 = true ∧ L 7 = true
theorem LmI.mono {n cap : Nat} {ad : Option Addr} {W w w' : World} {L : Nat → Bool} {s6 s7 s8 s9 s10 s11 s12 s13 : Value} (h : LmI n ad cap W L w s6 s7 s8 s9 s10 s11 s12 s13) (hb : Below w.heap.size w w') : LmI n ad cap W L w' s6 s7 s8 s9 s10 s11 s12 s13 :=
  ⟨ball h.bel hb, h.f0, fun e => let ⟨R0, a, b, c⟩ := h.f1 e; ⟨R0, a, b, c.below hb⟩, h.f2, h.f3, fun e => let ⟨U, a, b, c⟩ := h.f4 e; ⟨U, a, b, c.belowAll hb⟩, fun e => let ⟨T, a, b, c⟩ := h.f5 e; ⟨T, a, b, c.below hb⟩, fun e => let ⟨T, v, a, b, c, d⟩ := h.f6 e; ⟨T, v, a, b, c.belowAll hb, d⟩, fun e => let ⟨T, v, a, b, c, d⟩ := h.f7 e; ⟨T, v, a, b, c.belowAll hb, d⟩, h.c9, h.c10⟩
theorem no_up {b : Bool} (h : b = false) (e : b = true) : False := by rw [h] at e; cases e
theorem bel_set {W w : World} {T i : Nat} {v : Value} (h : Below W.heap.size W w) (hT : W.heap.size ≤ T) : Below W.heap.size W (w.setCell ⟨T, i, none⟩ v) := h.setCell (p := ⟨T, i, none⟩) hT v

set_option maxHeartbeats 12800000 in
set_option maxRecDepth 100000 in
theorem leastMean_c (n : Nat) (ad : Option Addr) (cap : Nat) (m : Nat → Nat → Int) (w : World) (hr : RdM w ad (toM n m)) (hn : 1 ≤ n ∧ n ≤ 6) (hnum : ∀ a b, a < n → b < n → numB (m a b) = true) :
    Calls Tryz.prog 22 #[.slice ad n cap] w fun e w' => ∃ av cv U, e = .returned (.tuple #[frV (meB m (mnC m (allC n m n))), .slice av (mnC m (allC n m n)).length cv, .slice (some ⟨U, 0, none⟩) n n, .bool (decide (mnC m (allC n m n) ≠ []))]) ∧ RdI w' av (mnC m (allC n m n)) ∧ Own w' U 4 (tab n fun k => .bool (markB m (allC n m n) (mnC m (allC n m n)) k)) ∧ w.heap.size ≤ U ∧ Below w.heap.size w w' := by
  have HR := Lib.hid hr; have HNUM := Lib.hid hnum
  have hmk := fun (w : World) => run_makeN (P := Tryz.prog) 47 4 (.bool false) 1 1 Tryz.underlying47 (by kernel_rfl) n (by omega) (by omega) w
  clear hr hnum
  obtain ⟨R, hAR⟩ : ∃ R, allC n m n = R := ⟨_, rfl⟩
  have HAR := Lib.hid hAR
  rw [hAR]
  clear hAR
  obtain ⟨h, hh⟩ : ∃ h, w.heap.size = h := ⟨_, rfl⟩
  have kM : ((w.alloc (.cells #[.slice ad n cap] 23)).alloc (.cells #[.int .i64 0, .int .i64 0] 30)).cell? ⟨h, 0, none⟩ = some (.slice ad n cap) := ((Own.newHG w _ _ rfl hh).alloc _).cell? (i := 0) rfl
  have oO : FrO ((w.alloc (.cells #[.slice ad n cap] 23)).alloc (.cells #[.int .i64 0, .int .i64 0] 30)) (h + 1) ⟨0, 0⟩ := FrO.new _ 0 0 (by simp; omega)
  have hbW : Below w.heap.size w ((w.alloc (.cells #[.slice ad n cap] 23)).alloc (.cells #[.int .i64 0, .int .i64 0] 30)) := bal_alloc (bal_alloc (Below.refl _ _))
  go_enter Tryz.func22, Tryz.ntmps22
  go_wp2_with fail
  obtain ⟨W, hW⟩ : ∃ W, (w.alloc (.cells #[.slice ad n cap] 23)).alloc (.cells #[.int .i64 0, .int .i64 0] 30) = W := ⟨_, rfl⟩
  have hWs : W.heap.size = h + 1 + 1 := by rw [← hW]; simp; omega
  rw [hW] at kM oO hbW ⊢
  have HBW := Lib.hid hbW; have HOO := Lib.hid oO
  clear hW hbW oO
  go_cut [6, 7, 8] from 6 to 13 (fun s6 s7 s8 wc => LRel (h + 1 + 1) n W s6 s7 s8 wc)
  case first =>
    refine wp_region_inv (fun L a w' => ∃ s6 s7 s8 s9 s10 s11 s12 s13, a = { tmps := #[.slice ad n cap, .pointer (some ⟨h, 0, none⟩), .pointer (some ⟨h + 1, 0, none⟩), .slice none 0 0, .slice none 0 0, .bool false, s6, s7, s8, s9, s10, s11, s12, s13, undef, undef, undef, undef, undef, undef, undef, undef, undef], defers := [] } ∧ LmI n ad cap W L w' s6 s7 s8 s9 s10 s11 s12 s13) (by kernel_rfl) (by kernel_rfl) ?_ ?_ ?_
    · exact ⟨_, _, _, _, _, _, _, _, rfl, (Below.refl _ _).drew, (fun e => by cases e), (fun e => by cases e), (fun e => by cases e), (fun e => by cases e), (fun e => by cases e), (fun e => by cases e), (fun e => by cases e), (fun e => by cases e), (fun e => by cases e), (fun e => by cases e)⟩
    · rintro L a w' ⟨s6, s7, s8, s9, s10, s11, s12, s13, rfl, H⟩ hL
      obtain ⟨R0, e10, hR0, hrow⟩ := H.f1 (hL 1 (by decide))
      obtain ⟨U, e13, hU, hou⟩ := H.f4 (hL 4 (by decide))
      obtain ⟨T2, rfl, hT2, hO2⟩ := H.f5 (hL 5 (by decide))
      obtain ⟨T1, v1, rfl, hT1, hO1, ev1⟩ := H.f6 (hL 6 (by decide))
      obtain ⟨T3, v3, rfl, hT3, hO3, ev3⟩ := H.f7 (hL 7 (by decide))
      have hv1 := (ev1 (hL 9 (by decide))).trans e10
      have hv3 := (ev3 (hL 10 (by decide))).trans e13
      subst hv1; subst hv3
      rw [e10] at hrow
      have HREL := Lib.hid (show LRel (h + 1 + 1) n W (.pointer (some ⟨T2, 0, none⟩)) (.pointer (some ⟨T1, 0, none⟩)) (.pointer (some ⟨T3, 0, none⟩)) w' from ⟨T1, T2, T3, U, R0, rfl, rfl, rfl, ⟨by omega, by omega, by omega, by omega, by omega⟩, ⟨hO1.ne_ty hO2 (by decide), hO1.ne_ty hO3 (by decide), Own.ne_ty hO2 hO3 (by decide)⟩, hO1, hO2, hO3, hrow, hou, H.bel⟩)
      clear H hL ev1 ev3 hrow hou hO1 hO2 hO3 e10 e13
      go_wp2_with fail
      go_meet
      exact HREL.out
    · rintro i L a w' ⟨s6, s7, s8, s9, s10, s11, s12, s13, rfl, H⟩ hi hL hw
      have hi : i < 11 := hi
      have HH := Lib.hid H; have HWt := Lib.hid hw
      clear H hw
      rcases (show i = 0 ∨ i = 1 ∨ i = 2 ∨ i = 3 ∨ i = 4 ∨ i = 5 ∨ i = 6 ∨ i = 7 ∨ i = 8 ∨ i = 9 ∨ i = 10 by omega) with rfl | rfl | rfl | rfl | rfl | rfl | rfl | rfl | rfl | rfl | rfl
      · refine' wpOp_step (o := ?o1) ?ho1 (fun K hK => ?st1)
        case ho1 => rfl
        case st1 =>
          have HK := Lib.hid hK; clear hK
          go_simp
          refine HK.out _ _ ⟨_, _, _, _, _, _, _, _, rfl, ?_⟩
          have h := HH.out
          exact ⟨h.bel, (fun _ => rfl), (fun e => h.f1 e), (fun e => h.f2 e), (fun e => h.f3 e), (fun e => h.f4 e), (fun e => h.f5 e), (fun e => h.f6 e), (fun e => h.f7 e), (fun e => h.c9 e), (fun e => h.c10 e)⟩
      · refine' wpOp_step (o := ?o2) ?ho2 (fun K hK => ?st2)
        case ho2 => rfl
        case st2 =>
          have HK := Lib.hid hK; clear hK
          go_simp
          refine HK.out _ _ ⟨_, _, _, _, _, _, _, _, rfl, ?_⟩
          have h := HH.out.mono (bal_alloc (o := .cells #[] 3) (Below.refl _ _))
          exact ⟨h.bel, (fun e => h.f0 e), (fun _ => ⟨_, rfl, HH.out.bel.size, rowI_new _ 0 _ (Nat.zero_le _) rfl⟩), (fun e => h.f2 e), (fun e => h.f3 e), (fun e => h.f4 e), (fun e => h.f5 e), (fun e => let ⟨T, v, a, b, c, _⟩ := h.f6 e; ⟨T, v, a, b, c, fun e9 => (no_up hL (h.c9 e9).1).elim⟩), (fun e => h.f7 e), (fun e => ⟨rfl, (h.c9 e).2⟩), (fun e => h.c10 e)⟩
      · refine' wpOp_step (o := ?o3) ?ho3 (fun K hK => ?st3)
        case ho3 => rfl
        case st3 =>
          have HK := Lib.hid hK; clear hK
          have k := bcell' HH.out.bel kM
          go_simp
          refine HK.out _ _ ⟨_, _, _, _, _, _, _, _, rfl, ?_⟩
          have h := HH.out
          exact ⟨h.bel, (fun e => h.f0 e), (fun e => h.f1 e), (fun _ => rfl), (fun e => h.f3 e), (fun e => h.f4 e), (fun e => h.f5 e), (fun e => h.f6 e), (fun e => h.f7 e), (fun e => h.c9 e), (fun e => h.c10 e)⟩
      · refine' wpOp_step (o := ?o4) ?ho4 (fun K hK => ?st4)
        case ho4 => rfl
        case st4 =>
          have HK := Lib.hid hK; clear hK
          obtain rfl := HH.out.f2 (HWt.out 2 (by kernel_rfl))
          go_simp
          refine HK.out _ _ ⟨_, _, _, _, _, _, _, _, rfl, ?_⟩
          have h := HH.out
          exact ⟨h.bel, (fun e => h.f0 e), (fun e => h.f1 e), (fun e => h.f2 e), (fun _ => rfl), (fun e => h.f4 e), (fun e => h.f5 e), (fun e => h.f6 e), (fun e => h.f7 e), (fun e => h.c9 e), (fun e => h.c10 e)⟩
      · refine' wpOp_step (o := ?o5) ?ho5 (fun K hK => ?st5)
        case ho5 => rfl
        case st5 =>
          have HK := Lib.hid hK; clear hK
          obtain rfl := HH.out.f3 (HWt.out 3 (by kernel_rfl))
          go_simp
          refine HK.out _ _ ⟨_, _, _, _, _, _, _, _, rfl, ?_⟩
          have h := HH.out.mono (bal_alloc (o := .cells (madeCells #[.bool false] n) 4) (Below.refl _ _))
          exact ⟨h.bel, (fun e => h.f0 e), (fun e => h.f1 e), (fun e => h.f2 e), (fun e => h.f3 e), (fun _ => ⟨_, rfl, HH.out.bel.size, Own.newHG _ _ _ (made0 n) rfl⟩), (fun e => h.f5 e), (fun e => h.f6 e), (fun e => let ⟨T, v, a, b, c, _⟩ := h.f7 e; ⟨T, v, a, b, c, fun e9 => (no_up hL (h.c10 e9).1).elim⟩), (fun e => h.c9 e), (fun e => ⟨rfl, (h.c10 e).2⟩)⟩
      · refine' wpOp_step (o := ?o6) ?ho6 (fun K hK => ?st6)
        case ho6 => rfl
        case st6 =>
          have HK := Lib.hid hK; clear hK
          go_simp
          refine HK.out _ _ ⟨_, _, _, _, _, _, _, _, rfl, ?_⟩
          have h := HH.out.mono (bal_alloc (o := .cells #[.int .i64 0, .int .i64 0] 30) (Below.refl _ _))
          exact ⟨h.bel, (fun e => h.f0 e), (fun e => h.f1 e), (fun e => h.f2 e), (fun e => h.f3 e), (fun e => h.f4 e), (fun _ => ⟨_, rfl, HH.out.bel.size, FrO.new _ 0 0 rfl⟩), (fun e => h.f6 e), (fun e => h.f7 e), (fun e => h.c9 e), (fun e => h.c10 e)⟩
      · refine' wpOp_step (o := ?o7) ?ho7 (fun K hK => ?st7)
        case ho7 => rfl
        case st7 =>
          have HK := Lib.hid hK; clear hK
          go_simp
          refine HK.out _ _ ⟨_, _, _, _, _, _, _, _, rfl, ?_⟩
          have h := HH.out.mono (bal_alloc (o := .cells #[.slice none 0 0] 25) (Below.refl _ _))
          exact ⟨h.bel, (fun e => h.f0 e), (fun e => h.f1 e), (fun e => h.f2 e), (fun e => h.f3 e), (fun e => h.f4 e), (fun e => h.f5 e), (fun _ => ⟨_, _, rfl, HH.out.bel.size, Own.newHG _ _ _ rfl rfl, fun e9 => (no_up hL (h.c9 e9).2).elim⟩), (fun e => h.f7 e), (fun e => ⟨(h.c9 e).1, rfl⟩), (fun e => h.c10 e)⟩
      · refine' wpOp_step (o := ?o8) ?ho8 (fun K hK => ?st8)
        case ho8 => rfl
        case st8 =>
          have HK := Lib.hid hK; clear hK
          go_simp
          refine HK.out _ _ ⟨_, _, _, _, _, _, _, _, rfl, ?_⟩
          have h := HH.out.mono (bal_alloc (o := .cells #[.slice none 0 0] 47) (Below.refl _ _))
          exact ⟨h.bel, (fun e => h.f0 e), (fun e => h.f1 e), (fun e => h.f2 e), (fun e => h.f3 e), (fun e => h.f4 e), (fun e => h.f5 e), (fun e => h.f6 e), (fun _ => ⟨_, _, rfl, HH.out.bel.size, Own.newHG _ _ _ rfl rfl, fun e9 => (no_up hL (h.c10 e9).2).elim⟩), (fun e => h.c9 e), (fun e => ⟨(h.c10 e).1, rfl⟩)⟩
      · refine' wpOp_step (o := ?o9) ?ho9 (fun K hK => ?st9)
        case ho9 => rfl
        case st9 =>
          have HK := Lib.hid hK; clear hK
          obtain rfl := HH.out.f0 (HWt.out 0 (by kernel_rfl))
          obtain ⟨T, rfl, hT, hO⟩ := HH.out.f5 (HWt.out 5 (by kernel_rfl))
          obtain ⟨y0, y1⟩ := hO.at
          obtain ⟨y2, y3⟩ := hO.fr
          have HO := Lib.hid hO; clear hO
          go_simp
          refine HK.out _ _ ⟨_, _, _, _, _, _, _, _, rfl, ?_⟩
          have h := HH.out
          have hO := HO.out
          exact ⟨bel_set (bel_set h.bel hT) hT, (fun e => h.f0 e), (fun e => let ⟨R0, a, b, c⟩ := h.f1 e; ⟨R0, a, b, (c.sT (row_ne_ty c hO (by decide)) _).sT (row_ne_ty c hO (by decide)) _⟩), (fun e => h.f2 e), (fun e => h.f3 e), (fun e => let ⟨U, a, b, c⟩ := h.f4 e; ⟨U, a, b, Own.sO (c.ne_ty hO (by decide)) (Own.sO (c.ne_ty hO (by decide)) c _) _⟩), (fun _ => ⟨T, rfl, hT, hO.s2 0 0⟩), (fun e => let ⟨t, v, a, b, c, d⟩ := h.f6 e; ⟨t, v, a, b, Own.sO (c.ne_ty hO (by decide)) (Own.sO (c.ne_ty hO (by decide)) c _) _, d⟩), (fun e => let ⟨t, v, a, b, c, d⟩ := h.f7 e; ⟨t, v, a, b, Own.sO (c.ne_ty hO (by decide)) (Own.sO (c.ne_ty hO (by decide)) c _) _, d⟩), (fun e => h.c9 e), (fun e => h.c10 e)⟩
      · refine' wpOp_step (o := ?o10) ?ho10 (fun K hK => ?st10)
        case ho10 => rfl
        case st10 =>
          have HK := Lib.hid hK; clear hK
          obtain ⟨T, v0, rfl, hT, hO, -⟩ := HH.out.f6 (HWt.out 6 (by kernel_rfl))
          obtain ⟨R0, rfl, -, -⟩ := HH.out.f1 (HWt.out 1 (by kernel_rfl))
          have y0 := hO.cell? (i := 0) rfl
          have y2 := hO.frozen 0
          have HO := Lib.hid hO; clear hO
          go_simp
          refine HK.out _ _ ⟨_, _, _, _, _, _, _, _, rfl, ?_⟩
          have h := HH.out
          have hO := HO.out
          exact ⟨bel_set h.bel hT, (fun e => h.f0 e), (fun e => let ⟨R0, a, b, c⟩ := h.f1 e; ⟨R0, a, b, c.sT (row_ne_ty c hO (by decide)) _⟩), (fun e => h.f2 e), (fun e => h.f3 e), (fun e => let ⟨U, a, b, c⟩ := h.f4 e; ⟨U, a, b, Own.sO (c.ne_ty hO (by decide)) c _⟩), (fun e => let ⟨t, a, b, c⟩ := h.f5 e; ⟨t, a, b, FrO.sO (Own.ne_ty c hO (by decide)) c _⟩), (fun _ => ⟨T, _, rfl, hT, hO.set1 _, fun _ => rfl⟩), (fun e => let ⟨t, v, a, b, c, d⟩ := h.f7 e; ⟨t, v, a, b, Own.sO (c.ne_ty hO (by decide)) c _, d⟩), (fun _ => ⟨HWt.out 1 (by kernel_rfl), HWt.out 6 (by kernel_rfl)⟩), (fun e => h.c10 e)⟩
      · refine' wpOp_step (o := ?o11) ?ho11 (fun K hK => ?st11)
        case ho11 => rfl
        case st11 =>
          have HK := Lib.hid hK; clear hK
          obtain ⟨T, v0, rfl, hT, hO, -⟩ := HH.out.f7 (HWt.out 7 (by kernel_rfl))
          obtain ⟨U0, rfl, -, -⟩ := HH.out.f4 (HWt.out 4 (by kernel_rfl))
          have y0 := hO.cell? (i := 0) rfl
          have y2 := hO.frozen 0
          have HO := Lib.hid hO; clear hO
          go_simp
          refine HK.out _ _ ⟨_, _, _, _, _, _, _, _, rfl, ?_⟩
          have h := HH.out
          have hO := HO.out
          exact ⟨bel_set h.bel hT, (fun e => h.f0 e), (fun e => let ⟨R0, a, b, c⟩ := h.f1 e; ⟨R0, a, b, c.sT (row_ne_ty c hO (by decide)) _⟩), (fun e => h.f2 e), (fun e => h.f3 e), (fun e => let ⟨U, a, b, c⟩ := h.f4 e; ⟨U, a, b, Own.sO (c.ne_ty hO (by decide)) c _⟩), (fun e => let ⟨t, a, b, c⟩ := h.f5 e; ⟨t, a, b, FrO.sO (Own.ne_ty c hO (by decide)) c _⟩), (fun e => let ⟨t, v, a, b, c, d⟩ := h.f6 e; ⟨t, v, a, b, Own.sO (c.ne_ty hO (by decide)) c _, d⟩), (fun _ => ⟨T, _, rfl, hT, hO.set1 _, fun _ => rfl⟩), (fun e => h.c9 e), (fun _ => ⟨HWt.out 4 (by kernel_rfl), HWt.out 7 (by kernel_rfl)⟩)⟩
  case rest =>
    obtain ⟨T1, T2, T3, U, R0, rfl, rfl, rfl, ⟨b1, b2, b3, b4, b5⟩, hT, hO1, hO2, hO3, hrow, hou, hbel⟩ := hcut
    obtain ⟨wL, rfl⟩ : ∃ x : World, x = wc := ⟨_, rfl⟩
    have kL := bcell' hbel kM
    have HOL := Lib.hid (HOO.out.below hbel)
    have hbwL : Below w.heap.size w wL := HBW.out.trans (hbel.mono (by omega))
    have HV := Lib.hid (show LmV n m T1 T2 T3 wL [] (.slice (some ⟨R0, 0, none⟩) 0 0, U) from ⟨(fun x hx => by cases hx), hO1, hrow, hO2, hO3, by simpa [markB] using hou⟩)
    have hsz : h + 1 + 1 ≤ wL.heap.size := by have := hbel.size; omega
    have CV := circuitsV_c (V := LmV n m T1 T2 T3) (fp := fpL T1 T2 T3) (B0 := fun q => q = T1 ∨ q = T2 ∨ q = T3 ∨ q = U ∨ q = R0) ad cap w wL [] (.slice (some ⟨R0, 0, none⟩) 0 0, U) HR.out hn (fun q hq => by rcases hq with rfl | rfl | rfl | rfl | rfl <;> omega) hbwL
      (leastVisC n ad cap m w wL h T1 T2 T3 wL.heap.size _ HR.out hn HNUM.out hT hbwL (fun q hq => by rcases hq with rfl | rfl | rfl | rfl | rfl <;> omega) hbwL.size kL ⟨by omega, by omega, by omega⟩ (by omega) (fun hq => by rcases hq with e | e | e | e | e <;> omega)) HV.out
      (fun q hq => by
        rcases hq with e | e | e | e | e
        · exact Or.inl e
        · exact Or.inr (Or.inl e)
        · exact Or.inr (Or.inr (Or.inl e))
        · exact Or.inr (Or.inr (Or.inr (Or.inl e)))
        · exact Or.inr (Or.inr (Or.inr (Or.inr (by simp only [Value.ownBlock, Option.some.injEq] at e; exact e.symm)))))
    rw [show (allC n m n).foldl (fun R c => R ++ [c]) [] = allC n m n from by
      have : ∀ (A B : List (List Int)), B.foldl (fun R c => R ++ [c]) A = A ++ B := fun A B => by
        induction B generalizing A with
        | nil => simp
        | cons x B ih => rw [List.foldl_cons, ih]; simp
      rw [this]; rfl] at CV
    rw [HAR.out] at CV
    have CVH := Lib.hid CV
    clear CV HV hO1 hO2 hO3 hrow hou kM
    have HBL := Lib.hid hbwL
    clear hbwL hbel
    go_wp2_with fail
    refine CVH.out.mono ?_
    rintro e w2 ⟨rfl, ⟨vf, U2⟩, hv, hfr, hnw⟩
    have hb2 : Below w.heap.size w w2 := HBL.out.trans (hfr.below HBL.out.size (fun q hq e => by rcases e with e | e | e | e | e <;> omega))
    have hO : FrO w2 (h + 1) ⟨0, 0⟩ := Own.of_block HOL.out (hfr.block (h + 1) (by omega) (fun e => by rcases e with e | e | e | e | e <;> omega))
    obtain ⟨hcr, h1, hr1, h2, h3, hu⟩ := hv
    obtain ⟨afv, cfv, efv, hrd⟩ := hr1.shape
    simp only at efv h1 h3 hu
    subst efv
    have hU2 : w.heap.size ≤ U2 := by
      rcases hnw U2 (Or.inr (Or.inr (Or.inr (Or.inl rfl)))) with e | e
      · rcases e with e | e | e | e | e <;> omega
      · have := HBL.out.size; omega
    have HU := Lib.hid (show Own ((w2.setCell ⟨h + 1, 0, none⟩ (.int .i64 (meB m (mnC m R)).n)).setCell ⟨h + 1, 1, none⟩ (.int .i64 (meB m (mnC m R)).d)) U2 4 _ from Own.sO (hu.ne_ty hO (by decide)) (Own.sO (hu.ne_ty hO (by decide)) hu _) _)
    have HRD := Lib.hid (show RdI ((w2.setCell ⟨h + 1, 0, none⟩ (.int .i64 (meB m (mnC m R)).n)).setCell ⟨h + 1, 1, none⟩ (.int .i64 (meB m (mnC m R)).d)) afv (mnC m R) from ((hr1.sT (row_ne_ty hr1 hO (by decide)) _).sT (row_ne_ty hr1 hO (by decide)) _).rdT)
    have HB2 := Lib.hid hb2; have HO := Lib.hid hO
    have k1 := h1.cell? (i := 0) rfl
    have k3 := h3.cell? (i := 0) rfl
    obtain ⟨F, hF⟩ : ∃ F, meB m (mnC m R) = F := ⟨_, rfl⟩
    rw [hF] at h2 HU HRD
    have HF := Lib.hid hF
    obtain ⟨a, b⟩ := F
    obtain ⟨k20, k21⟩ := h2.at
    obtain ⟨y0, y1⟩ := hO.at
    obtain ⟨y2, y3⟩ := hO.fr
    have hd : T2 ≠ h + 1 := by omega
    have hd1 : T1 ≠ h + 1 := by omega
    have hd3 : T3 ≠ h + 1 := by omega
    obtain ⟨N, hN⟩ : ∃ N, (mnC m R).length = N := ⟨_, rfl⟩
    have HN := Lib.hid hN
    rw [hN] at k1
    clear h1 h2 h3 hr1 hcr hnw hfr hb2 hu hrd hO hF hN CVH HOL HBL
    go_wp2_with fail
    go_region_held3 (fun w' => w'.cell? ⟨T2, 0, none⟩ = some (.int .i64 a) ∧ w'.cell? ⟨T2, 1, none⟩ = some (.int .i64 b) ∧ w'.cell? ⟨T1, 0, none⟩ = some (.slice afv N cfv) ∧ w'.cell? ⟨T3, 0, none⟩ = some (.slice (some ⟨U2, 0, none⟩) n n)) (with_reducible repeat' (first | apply And.intro | assumption | apply cell_drew' | (refine cell_set' (by assumption) ?_))) (fail)
    go_wp2_with fail
    obtain ⟨W', hW', ⟨q0, q1⟩, hB⟩ := fr2_end (a := a) (b := b) HO.out HB2.out (by omega)
    unfold fr2 at hW'
    have HU2 := HU.out; have HRD2 := HRD.out
    try simp only at HU2 HRD2
    rw [hW'] at HU2 HRD2 ⊢
    have q0' := cell_drew' q0
    have q1' := cell_drew' q1
    refine bodyPost_ret (v := .tuple #[.agg #[.int .i64 a, .int .i64 b], .slice afv N cfv, .slice (some ⟨U2, 0, none⟩) n n, .bool (decide (0 < N))]) (by simp [results, Tryz.results22, go_sem, q0', q1']) rfl ⟨afv, cfv, U2, ?_, HRD2, HU2, hU2, hB.drew⟩
    rw [HF.out, HN.out]
    have e : decide (0 < N) = decide (mnC m R ≠ []) := by rw [← HN.out, decide_eq_decide]; exact List.length_pos_iff
    rw [e]
    rfl
end Go.Proofs.YtjkfighooijblaaGreat
