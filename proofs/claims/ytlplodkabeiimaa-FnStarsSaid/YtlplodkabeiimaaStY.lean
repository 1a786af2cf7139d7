/-
  What FnStars draws. Printed by gen_stY.py.
-/
import Derived.Test.YtlplodkabeiimaaStX
namespace Go.Proofs.Ytlplodkabeiimaa
open Go.RowKit

/-- What a draw of stars gives: rays that are read. -/
def StarL (ad : Option Addr) (cap : Nat) (l : List Ry) (w' : World) : Prop := l.length ≤ 11 ∧ RdY w' ad l ∧ SY ad l.length cap
def OneStarD (w : World) (e : Ending) (w' : World) : Prop := ∃ ad cap l, e = .returned (.slice ad l.length cap) ∧ StarL ad cap l w' ∧ Below w.heap.size w w'
def TwoStarsD (w : World) (e : Ending) (w' : World) : Prop := ∃ ad cap l ad2 cap2 l2, e = .returned (.tuple #[.slice ad l.length cap, .slice ad2 l2.length cap2]) ∧ StarL ad cap l w' ∧ StarL ad2 cap2 l2 w' ∧ Below w.heap.size w w'
def PairZD (w : World) (e : Ending) (w' : World) : Prop := ∃ a b : Int, e = .returned (.tuple #[.int .i64 a, .int .i64 b]) ∧ Below w.heap.size w w'
def StarIntD (w : World) (e : Ending) (w' : World) : Prop := ∃ ad cap l, ∃ k : Int, e = .returned (.tuple #[.slice ad l.length cap, .int .i64 k]) ∧ StarL ad cap l w' ∧ Below w.heap.size w w'
def StarFourD (w : World) (e : Ending) (w' : World) : Prop := ∃ ad cap l, ∃ p q r s : Int, e = .returned (.tuple #[.slice ad l.length cap, .int .i64 p, .int .i64 q, .int .i64 r, .int .i64 s]) ∧ StarL ad cap l w' ∧ Below w.heap.size w w'

set_option maxHeartbeats 1600000 in
set_option maxRecDepth 100000 in
theorem stepOf_c (c n : Nat) (w : World) (h : Cur w c n) (hn : n ≤ 4611686018427300000) :
    Calls Try.prog 52 #[.pointer (some ⟨c, 0, none⟩)] w fun e w' => ∃ x : Int, e = .returned (.int .i64 x) ∧ Cur w' c (n + 6) ∧ Chg c w w' := by
  have hcl := h.lt
  have H := Lib.hid h; clear h
  have HF1 := Lib.hid (Chg.refl c w)
  go_enter Try.func52, Try.ntmps52
  go_wp2_with fail
  refine (pick_c 9 c n w H.out (by omega)).mono ?_
  rintro e w3 ⟨x2, rfl, hp4, hcu, hch⟩
  have HU5 := Lib.hid hcu; clear hcu
  have HF6 := Lib.hid (HF1.out.trans hch)
  clear hch
  have hz7 := HF6.out.size
  have e1 : IntKind.i64.wrap (x2 - 4) = x2 - 4 := i64_small (by omega) (by omega)
  go_wp2_with fail
  have HU11 := Lib.hid (HU5.out.below ((Below.refl _ _).alloc (Nat.le_refl _) (.cells #[.int .i64 3, .int .i64 21, .int .i64 (-21), .int .i64 (-9223372036854775808)] 3)))
  have hl12 := HU5.out.lt
  have HF13 := Lib.hid (HF6.out.trans (Chg.alloc c w3 (.cells #[.int .i64 3, .int .i64 21, .int .i64 (-21), .int .i64 (-9223372036854775808)] 3)))
  refine (among_c w3.heap.size 4 [3, 21, (-21), (-9223372036854775808)] c (n + 2) (w3.alloc (.cells #[.int .i64 3, .int .i64 21, .int .i64 (-21), .int .i64 (-9223372036854775808)] 3)) HU11.out (by omega) (by simp) (by simp) (by omega) (Own.newA w3 _ 3 rfl)).mono ?_
  rintro e w9 ⟨x8, rfl, hx, hcu, hch⟩
  clear hx
  have HU14 := Lib.hid hcu; clear hcu
  have HF15 := Lib.hid (HF13.out.trans hch)
  clear hch
  have hz16 := HF15.out.size
  go_wp2_with fail
  have HU20 := Lib.hid (HU14.out.below ((Below.refl _ _).alloc (Nat.le_refl _) (.cells #[.int .i64 0, .int .i64 1, .int .i64 (-1), .int .i64 2, .int .i64 (x2 - 4), .int .i64 6, .int .i64 20, .int .i64 (-20), .int .i64 x8] 3)))
  have hl21 := HU14.out.lt
  have HF22 := Lib.hid (HF15.out.trans (Chg.alloc c w9 (.cells #[.int .i64 0, .int .i64 1, .int .i64 (-1), .int .i64 2, .int .i64 (x2 - 4), .int .i64 6, .int .i64 20, .int .i64 (-20), .int .i64 x8] 3)))
  refine (among_c w9.heap.size 9 [0, 1, (-1), 2, (x2 - 4), 6, 20, (-20), x8] c (n + 4) (w9.alloc (.cells #[.int .i64 0, .int .i64 1, .int .i64 (-1), .int .i64 2, .int .i64 (x2 - 4), .int .i64 6, .int .i64 20, .int .i64 (-20), .int .i64 x8] 3)) HU20.out (by omega) (by simp) (by simp) (by omega) (Own.newA w9 _ 3 rfl)).mono ?_
  rintro e w18 ⟨x17, rfl, hx, hcu, hch⟩
  clear hx
  have HU23 := Lib.hid hcu; clear hcu
  have HF24 := Lib.hid (HF22.out.trans hch)
  clear hch
  have hz25 := HF24.out.size
  go_wp2_with fail
  go_ret
  exact ⟨_, rfl, HU23.out, HF24.out⟩
set_option maxHeartbeats 3200000 in
set_option maxRecDepth 100000 in
theorem drawPrimitiveRay_c (ad : Option Addr) (len cap : Nat) (w : World) (hl : len ≤ 9223372036854775807) (hr : RdB w ad len) :
    Calls Try.prog 22 #[.slice ad len cap] w (PairZD w) := by
  have HC := Lib.hid (cur_new (cap := cap) hr hl)
  clear hr
  go_enter Try.func22, Try.ntmps22
  go_wp2_with fail
  obtain ⟨wA, hwA⟩ : ∃ x, w.alloc (.cells #[.slice ad len cap, .int .i64 0, .int .u64 0] 52) = x := ⟨_, rfl⟩
  have hnew : ∀ w', Chg w.heap.size wA w' → Below w.heap.size w w' := fun w' h => by rw [← hwA] at h; exact chg_new h
  have hzA : wA.heap.size = w.heap.size + 1 := by rw [← hwA]; simp
  rw [hwA] at HC ⊢
  have HNEW := Lib.hid hnew; clear hnew hwA
  obtain ⟨g, hg⟩ : ∃ g, w.heap.size = g := ⟨_, rfl⟩
  rw [hg] at HC HNEW hzA ⊢
  have hcl := HC.out.lt
  have HG := Lib.hid hg; clear hg
  have HF1 := Lib.hid (Chg.refl g wA)
  refine (stepOf_c g 0 wA HC.out (by omega)).mono ?_
  rintro e w2 ⟨x3, rfl, hcu, hch⟩
  have HU4 := Lib.hid hcu; clear hcu
  have HF5 := Lib.hid (HF1.out.trans hch)
  clear hch
  have hz6 := HF5.out.size
  go_wp2_with fail
  refine (stepOf_c g (0 + 6) w2 HU4.out (by omega)).mono ?_
  rintro e w7 ⟨x8, rfl, hcu, hch⟩
  have HU9 := Lib.hid hcu; clear hcu
  have HF10 := Lib.hid (HF5.out.trans hch)
  clear hch
  have hz11 := HF10.out.size
  go_wp2_with fail
  go_ret2
  exact ⟨x3, x8, rfl, by rw [HG.out]; exact HNEW.out _ HF10.out⟩
set_option maxHeartbeats 3200000 in
set_option maxRecDepth 100000 in
theorem drawMissingRay_c (ad : Option Addr) (len cap : Nat) (w : World) (hl : len ≤ 9223372036854775807) (hr : RdB w ad len) :
    Calls Try.prog 11 #[.slice ad len cap] w (OneStarD w) := by
  have HC := Lib.hid (cur_new (cap := cap) hr hl)
  clear hr
  go_enter Try.func11, Try.ntmps11
  go_wp2_with fail
  obtain ⟨wA, hwA⟩ : ∃ x, w.alloc (.cells #[.slice ad len cap, .int .i64 0, .int .u64 0] 52) = x := ⟨_, rfl⟩
  have hnew : ∀ w', Chg w.heap.size wA w' → Below w.heap.size w w' := fun w' h => by rw [← hwA] at h; exact chg_new h
  have hzA : wA.heap.size = w.heap.size + 1 := by rw [← hwA]; simp
  rw [hwA] at HC ⊢
  have HNEW := Lib.hid hnew; clear hnew hwA
  obtain ⟨g, hg⟩ : ∃ g, w.heap.size = g := ⟨_, rfl⟩
  rw [hg] at HC HNEW hzA ⊢
  have hcl := HC.out.lt
  have HG := Lib.hid hg; clear hg
  have HF1 := Lib.hid (Chg.refl g wA)
  refine (anyStar_c g 0 wA HC.out (by omega)).mono ?_
  rintro e w2 ⟨_, l3, rfl, ⟨ad4, cap5, rfl, hl6, hrow, hsy⟩, hcu, hch⟩
  have HS7 := Lib.hid hsy; clear hsy
  have HU8 := Lib.hid hcu; clear hcu
  have HF9 := Lib.hid (HF1.out.trans hch)
  clear hch
  have hz10 := HF9.out.size
  have HR11 := Lib.hid hrow; clear hrow
  by_cases hlt : 1 < l3.length
  case neg =>
    have g1 : decide ((1 : Int) < (l3.length : Int)) = false := decide_eq_false (by omega)
    go_wp2_with fail
    go_ret
    exact ⟨_, _, l3, rfl, ⟨by omega, RowY.rd (by exact HR11.out), HS7.out⟩, by rw [HG.out]; exact HNEW.out _ HF9.out⟩
  case pos =>
    have g1 : decide ((1 : Int) < (l3.length : Int)) = true := decide_eq_true (by omega)
    go_wp2_with fail
    refine (one_c 2 g (0 + 60) w2 HU8.out (by omega)).mono ?_
    rintro e w13 ⟨b12, rfl, hcu, hch⟩
    have HU14 := Lib.hid hcu; clear hcu
    have HF15 := Lib.hid (HF9.out.trans hch)
    have HR16 := Lib.hid (row_chg HR11.out hch (by omega))
    clear hch
    have hz17 := HF15.out.size
    cases b12
    case false =>
      go_wp2_with fail
      go_ret
      exact ⟨_, _, l3, rfl, ⟨by omega, RowY.rd (by exact HR16.out), HS7.out⟩, by rw [HG.out]; exact HNEW.out _ HF15.out⟩
    case true =>
      have hsl := fun w' => sl_low w' ad4 l3.length cap5 1 (by omega)
      rw [show ((1 : Nat) : Int) = 1 from rfl] at hsl
      have hlen : (l3.drop 1).length = l3.length - 1 := List.length_drop
      have HY := Lib.hid (show StarL (adAt ad4 1 cap5) (cap5 - 1) (l3.drop 1) w13 from ⟨by rw [hlen]; omega, (RowY.rd (by exact HR16.out)).low HS7.out (by omega), by rw [hlen]; exact HS7.out.low (by omega)⟩)
      go_wp2_with fail
      go_ret
      exact ⟨_, _, l3.drop 1, by rw [hlen]; rfl, HY.out, by rw [HG.out]; exact HNEW.out _ HF15.out⟩
set_option maxHeartbeats 3200000 in
set_option maxRecDepth 100000 in
theorem drawAddStars_c (ad : Option Addr) (len cap : Nat) (w : World) (hl : len ≤ 9223372036854775807) (hr : RdB w ad len) :
    Calls Try.prog 5 #[.slice ad len cap] w (TwoStarsD w) := by
  have HC := Lib.hid (cur_new (cap := cap) hr hl)
  clear hr
  go_enter Try.func5, Try.ntmps5
  go_wp2_with fail
  obtain ⟨wA, hwA⟩ : ∃ x, w.alloc (.cells #[.slice ad len cap, .int .i64 0, .int .u64 0] 52) = x := ⟨_, rfl⟩
  have hnew : ∀ w', Chg w.heap.size wA w' → Below w.heap.size w w' := fun w' h => by rw [← hwA] at h; exact chg_new h
  have hzA : wA.heap.size = w.heap.size + 1 := by rw [← hwA]; simp
  rw [hwA] at HC ⊢
  have HNEW := Lib.hid hnew; clear hnew hwA
  obtain ⟨g, hg⟩ : ∃ g, w.heap.size = g := ⟨_, rfl⟩
  rw [hg] at HC HNEW hzA ⊢
  have hcl := HC.out.lt
  have HG := Lib.hid hg; clear hg
  have HF1 := Lib.hid (Chg.refl g wA)
  refine (anyStar_c g 0 wA HC.out (by omega)).mono ?_
  rintro e w2 ⟨_, l3, rfl, ⟨ad4, cap5, rfl, hl6, hrow, hsy⟩, hcu, hch⟩
  have HS7 := Lib.hid hsy; clear hsy
  have HU8 := Lib.hid hcu; clear hcu
  have HF9 := Lib.hid (HF1.out.trans hch)
  clear hch
  have hz10 := HF9.out.size
  have HR11 := Lib.hid hrow; clear hrow
  go_wp2_with fail
  refine (one_c 3 g (0 + 60) w2 HU8.out (by omega)).mono ?_
  rintro e w13 ⟨b12, rfl, hcu, hch⟩
  have HU14 := Lib.hid hcu; clear hcu
  have HF15 := Lib.hid (HF9.out.trans hch)
  have HR16 := Lib.hid (row_chg HR11.out hch (by omega))
  clear hch
  have hz17 := HF15.out.size
  cases b12
  case true =>
    go_wp2_with fail
    go_ret2
    exact ⟨_, _, l3, _, _, l3, rfl, ⟨by omega, RowY.rd (by exact HR16.out), HS7.out⟩, ⟨by omega, RowY.rd (by exact HR16.out), HS7.out⟩, by rw [HG.out]; exact HNEW.out _ HF15.out⟩
  case false =>
    go_wp2_with fail
    have HRa := HR16
    refine (anyStar_c g (0 + 62) w13 HU14.out (by omega)).mono ?_
    rintro e w19 ⟨_, l20, rfl, ⟨ad21, cap22, rfl, hl23, hrow, hsy⟩, hcu, hch⟩
    have HS24 := Lib.hid hsy; clear hsy
    have HU25 := Lib.hid hcu; clear hcu
    have HF26 := Lib.hid (HF15.out.trans hch)
    have HR27 := Lib.hid (row_chg HR16.out hch (by omega))
    have HRb := Lib.hid (rowY_chg (by exact HRa.out) hch (by omega))
    clear hch
    have hz28 := HF26.out.size
    have HR29 := Lib.hid hrow; clear hrow
    go_wp2_with fail
    go_ret2
    exact ⟨_, _, l3, _, _, l20, rfl, ⟨by omega, RowY.rd (by exact HRb.out), HS7.out⟩, ⟨by omega, RowY.rd (by exact HR29.out), HS24.out⟩, by rw [HG.out]; exact HNEW.out _ HF26.out⟩
set_option maxHeartbeats 3200000 in
set_option maxRecDepth 100000 in
theorem drawScaleStar_c (ad : Option Addr) (len cap : Nat) (w : World) (hl : len ≤ 9223372036854775807) (hr : RdB w ad len) :
    Calls Try.prog 19 #[.slice ad len cap] w (StarIntD w) := by
  have HC := Lib.hid (cur_new (cap := cap) hr hl)
  clear hr
  go_enter Try.func19, Try.ntmps19
  go_wp2_with fail
  obtain ⟨wA, hwA⟩ : ∃ x, w.alloc (.cells #[.slice ad len cap, .int .i64 0, .int .u64 0] 52) = x := ⟨_, rfl⟩
  have hnew : ∀ w', Chg w.heap.size wA w' → Below w.heap.size w w' := fun w' h => by rw [← hwA] at h; exact chg_new h
  have hzA : wA.heap.size = w.heap.size + 1 := by rw [← hwA]; simp
  rw [hwA] at HC ⊢
  have HNEW := Lib.hid hnew; clear hnew hwA
  obtain ⟨g, hg⟩ : ∃ g, w.heap.size = g := ⟨_, rfl⟩
  rw [hg] at HC HNEW hzA ⊢
  have hcl := HC.out.lt
  have HG := Lib.hid hg; clear hg
  have HF1 := Lib.hid (Chg.refl g wA)
  refine (anyStar_c g 0 wA HC.out (by omega)).mono ?_
  rintro e w2 ⟨_, l3, rfl, ⟨ad4, cap5, rfl, hl6, hrow, hsy⟩, hcu, hch⟩
  have HS7 := Lib.hid hsy; clear hsy
  have HU8 := Lib.hid hcu; clear hcu
  have HF9 := Lib.hid (HF1.out.trans hch)
  clear hch
  have hz10 := HF9.out.size
  have HR11 := Lib.hid hrow; clear hrow
  go_wp2_with fail
  have HU15 := Lib.hid (HU8.out.below ((Below.refl _ _).alloc (Nat.le_refl _) (.cells #[.int .i64 5, .int .i64 0, .int .i64 21] 3)))
  have hl16 := HU8.out.lt
  have HF17 := Lib.hid (HF9.out.trans (Chg.alloc g w2 (.cells #[.int .i64 5, .int .i64 0, .int .i64 21] 3)))
  have HR18 := Lib.hid (row_below HR11.out ((Below.refl _ _).alloc (Nat.le_refl _) (.cells #[.int .i64 5, .int .i64 0, .int .i64 21] 3)))
  refine (among_c w2.heap.size 3 [5, 0, 21] g (0 + 60) (w2.alloc (.cells #[.int .i64 5, .int .i64 0, .int .i64 21] 3)) HU15.out (by omega) (by simp) (by simp) (by omega) (Own.newA w2 _ 3 rfl)).mono ?_
  rintro e w13 ⟨x12, rfl, hx, hcu, hch⟩
  clear hx
  have HU19 := Lib.hid hcu; clear hcu
  have HF20 := Lib.hid (HF17.out.trans hch)
  have HR21 := Lib.hid (row_chg HR18.out hch (by omega))
  clear hch
  have hz22 := HF20.out.size
  go_wp2_with fail
  have HU26 := Lib.hid (HU19.out.below ((Below.refl _ _).alloc (Nat.le_refl _) (.cells #[.int .i64 1, .int .i64 2, .int .i64 3, .int .i64 20, .int .i64 x12] 3)))
  have hl27 := HU19.out.lt
  have HF28 := Lib.hid (HF20.out.trans (Chg.alloc g w13 (.cells #[.int .i64 1, .int .i64 2, .int .i64 3, .int .i64 20, .int .i64 x12] 3)))
  have HR29 := Lib.hid (row_below HR21.out ((Below.refl _ _).alloc (Nat.le_refl _) (.cells #[.int .i64 1, .int .i64 2, .int .i64 3, .int .i64 20, .int .i64 x12] 3)))
  refine (among_c w13.heap.size 5 [1, 2, 3, 20, x12] g (0 + 62) (w13.alloc (.cells #[.int .i64 1, .int .i64 2, .int .i64 3, .int .i64 20, .int .i64 x12] 3)) HU26.out (by omega) (by simp) (by simp) (by omega) (Own.newA w13 _ 3 rfl)).mono ?_
  rintro e w24 ⟨x23, rfl, hx, hcu, hch⟩
  clear hx
  have HU30 := Lib.hid hcu; clear hcu
  have HF31 := Lib.hid (HF28.out.trans hch)
  have HR32 := Lib.hid (row_chg HR29.out hch (by omega))
  clear hch
  have hz33 := HF31.out.size
  go_wp2_with fail
  go_ret2
  exact ⟨_, _, l3, x23, rfl, ⟨by omega, RowY.rd (by exact HR32.out), HS7.out⟩, by rw [HG.out]; exact HNEW.out _ HF31.out⟩
set_option maxHeartbeats 3200000 in
set_option maxRecDepth 100000 in
theorem drawMapStar_c (ad : Option Addr) (len cap : Nat) (w : World) (hl : len ≤ 9223372036854775807) (hr : RdB w ad len) :
    Calls Try.prog 16 #[.slice ad len cap] w (StarFourD w) := by
  have HC := Lib.hid (cur_new (cap := cap) hr hl)
  clear hr
  go_enter Try.func16, Try.ntmps16
  go_wp2_with fail
  obtain ⟨wA, hwA⟩ : ∃ x, w.alloc (.cells #[.slice ad len cap, .int .i64 0, .int .u64 0] 52) = x := ⟨_, rfl⟩
  have hnew : ∀ w', Chg w.heap.size wA w' → Below w.heap.size w w' := fun w' h => by rw [← hwA] at h; exact chg_new h
  have hzA : wA.heap.size = w.heap.size + 1 := by rw [← hwA]; simp
  rw [hwA] at HC ⊢
  have HNEW := Lib.hid hnew; clear hnew hwA
  obtain ⟨g, hg⟩ : ∃ g, w.heap.size = g := ⟨_, rfl⟩
  rw [hg] at HC HNEW hzA ⊢
  have hcl := HC.out.lt
  have HG := Lib.hid hg; clear hg
  have HF1 := Lib.hid (Chg.refl g wA)
  refine (anyStar_c g 0 wA HC.out (by omega)).mono ?_
  rintro e w2 ⟨_, l3, rfl, ⟨ad4, cap5, rfl, hl6, hrow, hsy⟩, hcu, hch⟩
  have HS7 := Lib.hid hsy; clear hsy
  have HU8 := Lib.hid hcu; clear hcu
  have HF9 := Lib.hid (HF1.out.trans hch)
  clear hch
  have hz10 := HF9.out.size
  have HR11 := Lib.hid hrow; clear hrow
  go_wp2_with fail
  refine (one_c 4 g (0 + 60) w2 HU8.out (by omega)).mono ?_
  rintro e w13 ⟨b12, rfl, hcu, hch⟩
  have HU14 := Lib.hid hcu; clear hcu
  have HF15 := Lib.hid (HF9.out.trans hch)
  have HR16 := Lib.hid (row_chg HR11.out hch (by omega))
  clear hch
  have hz17 := HF15.out.size
  cases b12
  case true =>
    go_wp2_with fail
    refine (pick_c 9 g (0 + 62) w13 HU14.out (by omega)).mono ?_
    rintro e w19 ⟨x18, rfl, hp20, hcu, hch⟩
    have HU21 := Lib.hid hcu; clear hcu
    have HF22 := Lib.hid (HF15.out.trans hch)
    have HR23 := Lib.hid (row_chg HR16.out hch (by omega))
    clear hch
    have hz24 := HF22.out.size
    have ex18 : IntKind.i64.wrap (x18 - 4) = x18 - 4 := i64_small (by omega) (by omega)
    go_wp2_with fail
    refine (pick_c 9 g (0 + 64) w19 HU21.out (by omega)).mono ?_
    rintro e w26 ⟨x25, rfl, hp27, hcu, hch⟩
    have HU28 := Lib.hid hcu; clear hcu
    have HF29 := Lib.hid (HF22.out.trans hch)
    have HR30 := Lib.hid (row_chg HR23.out hch (by omega))
    clear hch
    have hz31 := HF29.out.size
    have ex25 : IntKind.i64.wrap (x25 - 4) = x25 - 4 := i64_small (by omega) (by omega)
    go_wp2_with fail
    refine (pick_c 9 g (0 + 66) w26 HU28.out (by omega)).mono ?_
    rintro e w33 ⟨x32, rfl, hp34, hcu, hch⟩
    have HU35 := Lib.hid hcu; clear hcu
    have HF36 := Lib.hid (HF29.out.trans hch)
    have HR37 := Lib.hid (row_chg HR30.out hch (by omega))
    clear hch
    have hz38 := HF36.out.size
    have ex32 : IntKind.i64.wrap (x32 - 4) = x32 - 4 := i64_small (by omega) (by omega)
    go_wp2_with fail
    refine (pick_c 9 g (0 + 68) w33 HU35.out (by omega)).mono ?_
    rintro e w40 ⟨x39, rfl, hp41, hcu, hch⟩
    have HU42 := Lib.hid hcu; clear hcu
    have HF43 := Lib.hid (HF36.out.trans hch)
    have HR44 := Lib.hid (row_chg HR37.out hch (by omega))
    clear hch
    have hz45 := HF43.out.size
    have ex39 : IntKind.i64.wrap (x39 - 4) = x39 - 4 := i64_small (by omega) (by omega)
    go_wp2_with fail
    exact bodyPost_ret (v := .tuple #[.slice ad4 l3.length cap5, .int .i64 (x18 - 4), .int .i64 (x25 - 4), .int .i64 (x32 - 4), .int .i64 (x39 - 4)]) (by simp [results, Try.results16, go_sem]) rfl ⟨_, _, l3, x18 - 4, x25 - 4, x32 - 4, x39 - 4, rfl, ⟨by omega, RowY.rd (by exact HR44.out), HS7.out⟩, by rw [HG.out]; exact HNEW.out _ HF43.out⟩
  case false =>
    go_wp2_with fail
    refine (pick_c 7 g (0 + 62) w13 HU14.out (by omega)).mono ?_
    rintro e w47 ⟨x46, rfl, hp48, hcu, hch⟩
    have HU49 := Lib.hid hcu; clear hcu
    have HF50 := Lib.hid (HF15.out.trans hch)
    have HR51 := Lib.hid (row_chg HR16.out hch (by omega))
    clear hch
    have hz52 := HF50.out.size
    have ex46 : IntKind.i64.wrap (x46 - 3) = x46 - 3 := i64_small (by omega) (by omega)
    go_wp2_with fail
    refine (pick_c 4 g (0 + 64) w47 HU49.out (by omega)).mono ?_
    rintro e w54 ⟨x53, rfl, hp55, hcu, hch⟩
    have HU56 := Lib.hid hcu; clear hcu
    have HF57 := Lib.hid (HF50.out.trans hch)
    have HR58 := Lib.hid (row_chg HR51.out hch (by omega))
    clear hch
    have hz59 := HF57.out.size
    by_cases h0 : x53 = 0
    case pos =>
      subst h0
      go_wp2_with fail
      exact bodyPost_ret (v := .tuple #[.slice ad4 l3.length cap5, .int .i64 (1), .int .i64 (x46 - 3), .int .i64 (0), .int .i64 (1)]) (by simp [results, Try.results16, go_sem]) rfl ⟨_, _, l3, 1, x46 - 3, 0, 1, rfl, ⟨by omega, RowY.rd (by exact HR58.out), HS7.out⟩, by rw [HG.out]; exact HNEW.out _ HF57.out⟩
    case neg =>
      have q0 : (x53 == 0) = false := beq_eq_false_iff_ne.2 h0
      by_cases h1 : x53 = 1
      case pos =>
        subst h1
        clear q0
        go_wp2_with fail
        exact bodyPost_ret (v := .tuple #[.slice ad4 l3.length cap5, .int .i64 (0), .int .i64 (1), .int .i64 (-1), .int .i64 (x46 - 3)]) (by simp [results, Try.results16, go_sem]) rfl ⟨_, _, l3, 0, 1, -1, x46 - 3, rfl, ⟨by omega, RowY.rd (by exact HR58.out), HS7.out⟩, by rw [HG.out]; exact HNEW.out _ HF57.out⟩
      case neg =>
        have q1 : (x53 == 1) = false := beq_eq_false_iff_ne.2 h1
        by_cases h2 : x53 = 2
        case pos =>
          subst h2
          clear q0 q1
          go_wp2_with fail
          exact bodyPost_ret (v := .tuple #[.slice ad4 l3.length cap5, .int .i64 (-1), .int .i64 (0), .int .i64 (x46 - 3), .int .i64 (1)]) (by simp [results, Try.results16, go_sem]) rfl ⟨_, _, l3, -1, 0, x46 - 3, 1, rfl, ⟨by omega, RowY.rd (by exact HR58.out), HS7.out⟩, by rw [HG.out]; exact HNEW.out _ HF57.out⟩
        case neg =>
          have q2 : (x53 == 2) = false := beq_eq_false_iff_ne.2 h2
          go_wp2_with fail
          exact bodyPost_ret (v := .tuple #[.slice ad4 l3.length cap5, .int .i64 (2), .int .i64 (1), .int .i64 (1), .int .i64 (1)]) (by simp [results, Try.results16, go_sem]) rfl ⟨_, _, l3, 2, 1, 1, 1, rfl, ⟨by omega, RowY.rd (by exact HR58.out), HS7.out⟩, by rw [HG.out]; exact HNEW.out _ HF57.out⟩

end Go.Proofs.Ytlplodkabeiimaa
