/-
  The draws of numbers and texts from bytes. Printed by gen_drawm.py.
-/
import Derived.Test.YtgicdaomlgepjaaDoorDrawN
import Derived.Test.YtgicdaomlgepjaaDoorOpenB
namespace Go.Proofs.YtgicdaomlgepjaaDoor
open Go.RowKit

def PairD (w : World) (e : Ending) (w' : World) : Prop := ∃ a b : Int, e = .returned (.tuple #[.int .i64 a, .int .i64 b]) ∧ Below w.heap.size w w'
def TextD (S : Nat) (w : World) (e : Ending) (w' : World) : Prop := ∃ u : ByteArray, e = .returned (.string u) ∧ u.size ≤ S ∧ Below w.heap.size w w'

set_option maxHeartbeats 1600000 in
set_option maxRecDepth 100000 in
theorem drawTropSum_c (ad : Option Addr) (len cap : Nat) (w : World) (hl : len ≤ 9223372036854775807) (hr : RdB w ad len) :
    Calls Tryd.prog 21 #[.slice ad len cap] w (PairD w) := by
  have HC := Lib.hid (cur_new (cap := cap) hr hl)
  clear hr
  go_enter Tryd.func21, Tryd.ntmps21
  go_wp2_with fail
  obtain ⟨wA, hwA⟩ : ∃ x, w.alloc (.cells #[.slice ad len cap, .int .i64 0, .int .u64 0] 39) = x := ⟨_, rfl⟩
  have hnew : ∀ w', Chg w.heap.size wA w' → Below w.heap.size w w' := fun w' h => by rw [← hwA] at h; exact chg_new h
  rw [hwA] at HC ⊢
  have HNEW := Lib.hid hnew; clear hnew hwA
  obtain ⟨g, hg⟩ : ∃ g, w.heap.size = g := ⟨_, rfl⟩
  rw [hg] at HC HNEW ⊢
  have hcl := HC.out.lt
  have HG := Lib.hid hg; clear hg
  have HF1 := Lib.hid (Chg.refl g wA)
  refine (anyNum_c g 0 wA HC.out (by omega)).mono ?_
  rintro e w3 ⟨x2, rfl, hx, hcu, hch⟩
  have HU4 := Lib.hid hcu; clear hcu
  have HF5 := Lib.hid (HF1.out.trans hch)
  clear hch
  have hz6 := HF5.out.size
  clear hx
  go_wp2_with fail
  refine (anyNum_c g (0 + 6) w3 HU4.out (by omega)).mono ?_
  rintro e w8 ⟨x7, rfl, hx, hcu, hch⟩
  have HU9 := Lib.hid hcu; clear hcu
  have HF10 := Lib.hid (HF5.out.trans hch)
  clear hch
  have hz11 := HF10.out.size
  clear hx
  go_wp2_with fail
  go_ret2
  exact ⟨x2, x7, rfl, by rw [HG.out]; exact HNEW.out _ HF10.out⟩

set_option maxHeartbeats 400000 in
theorem drawTropProduct_c (ad : Option Addr) (len cap : Nat) (w : World) (hl : len ≤ 9223372036854775807) (hr : RdB w ad len) :
    Calls Tryd.prog 5 #[.slice ad len cap] w (PairD w) := by
  have C := Lib.hid (drawTropSum_c ad len cap w hl hr)
  clear hr
  go_enter Tryd.func5, Tryd.ntmps5
  go_wp2_with fail
  refine C.out.mono ?_
  rintro e w1 ⟨a, b, rfl, hb⟩
  go_wp2_with fail
  go_ret2
  exact ⟨a, b, rfl, hb⟩

set_option maxHeartbeats 1600000 in
set_option maxRecDepth 100000 in
theorem drawTropPower_c (ad : Option Addr) (len cap : Nat) (w : World) (hl : len ≤ 9223372036854775807) (hr : RdB w ad len) :
    Calls Tryd.prog 13 #[.slice ad len cap] w (PairD w) := by
  have HC := Lib.hid (cur_new (cap := cap) hr hl)
  clear hr
  go_enter Tryd.func13, Tryd.ntmps13
  go_wp2_with fail
  obtain ⟨wA, hwA⟩ : ∃ x, w.alloc (.cells #[.slice ad len cap, .int .i64 0, .int .u64 0] 39) = x := ⟨_, rfl⟩
  have hnew : ∀ w', Chg w.heap.size wA w' → Below w.heap.size w w' := fun w' h => by rw [← hwA] at h; exact chg_new h
  rw [hwA] at HC ⊢
  have HNEW := Lib.hid hnew; clear hnew hwA
  obtain ⟨g, hg⟩ : ∃ g, w.heap.size = g := ⟨_, rfl⟩
  rw [hg] at HC HNEW ⊢
  have hcl := HC.out.lt
  have HG := Lib.hid hg; clear hg
  have HF1 := Lib.hid (Chg.refl g wA)
  refine (anyNum_c g 0 wA HC.out (by omega)).mono ?_
  rintro e w3 ⟨x2, rfl, hx, hcu, hch⟩
  have HU4 := Lib.hid hcu; clear hcu
  have HF5 := Lib.hid (HF1.out.trans hch)
  clear hch
  have hz6 := HF5.out.size
  clear hx
  go_wp2_with fail
  refine (anyNum_c g (0 + 6) w3 HU4.out (by omega)).mono ?_
  rintro e w8 ⟨x7, rfl, hx, hcu, hch⟩
  have HU9 := Lib.hid hcu; clear hcu
  have HF10 := Lib.hid (HF5.out.trans hch)
  clear hch
  have hz11 := HF10.out.size
  clear hx
  go_wp2_with fail
  have HU15 := Lib.hid (HU9.out.below ((Below.refl _ _).alloc (Nat.le_refl _) (.cells #[.int .i64 x2, .int .i64 x7, .int .i64 50000, .int .i64 (-50001)] 3)))
  have hl16 := HU9.out.lt
  have HF17 := Lib.hid (HF10.out.trans (Chg.alloc g w8 (.cells #[.int .i64 x2, .int .i64 x7, .int .i64 50000, .int .i64 (-50001)] 3)))
  refine (among_c w8.heap.size 4 [x2, x7, 50000, -50001] g (0 + 12) (w8.alloc (.cells #[.int .i64 x2, .int .i64 x7, .int .i64 50000, .int .i64 (-50001)] 3)) HU15.out (by omega) (by simp) (by simp) (by omega) (Own.newA w8 _ 3 rfl)).mono ?_
  rintro e w13 ⟨x12, rfl, hx, hcu, hch⟩
  clear hx
  have HU18 := Lib.hid hcu; clear hcu
  have HF19 := Lib.hid (HF17.out.trans hch)
  clear hch
  have hz20 := HF19.out.size
  go_wp2_with fail
  have HU24 := Lib.hid (HU18.out.below ((Below.refl _ _).alloc (Nat.le_refl _) (.cells #[.int .i64 5, .int .i64 (-1), .int .i64 21] 3)))
  have hl25 := HU18.out.lt
  have HF26 := Lib.hid (HF19.out.trans (Chg.alloc g w13 (.cells #[.int .i64 5, .int .i64 (-1), .int .i64 21] 3)))
  refine (among_c w13.heap.size 3 [5, -1, 21] g (0 + 14) (w13.alloc (.cells #[.int .i64 5, .int .i64 (-1), .int .i64 21] 3)) HU24.out (by omega) (by simp) (by simp) (by omega) (Own.newA w13 _ 3 rfl)).mono ?_
  rintro e w22 ⟨x21, rfl, hx, hcu, hch⟩
  clear hx
  have HU27 := Lib.hid hcu; clear hcu
  have HF28 := Lib.hid (HF26.out.trans hch)
  clear hch
  have hz29 := HF28.out.size
  go_wp2_with fail
  have HU33 := Lib.hid (HU27.out.below ((Below.refl _ _).alloc (Nat.le_refl _) (.cells #[.int .i64 0, .int .i64 1, .int .i64 2, .int .i64 3, .int .i64 20, .int .i64 x21] 3)))
  have hl34 := HU27.out.lt
  have HF35 := Lib.hid (HF28.out.trans (Chg.alloc g w22 (.cells #[.int .i64 0, .int .i64 1, .int .i64 2, .int .i64 3, .int .i64 20, .int .i64 x21] 3)))
  refine (among_c w22.heap.size 6 [0, 1, 2, 3, 20, x21] g (0 + 16) (w22.alloc (.cells #[.int .i64 0, .int .i64 1, .int .i64 2, .int .i64 3, .int .i64 20, .int .i64 x21] 3)) HU33.out (by omega) (by simp) (by simp) (by omega) (Own.newA w22 _ 3 rfl)).mono ?_
  rintro e w31 ⟨x30, rfl, hx, hcu, hch⟩
  clear hx
  have HU36 := Lib.hid hcu; clear hcu
  have HF37 := Lib.hid (HF35.out.trans hch)
  clear hch
  have hz38 := HF37.out.size
  go_wp2_with fail
  go_ret2
  exact ⟨x12, x30, rfl, by rw [HG.out]; exact HNEW.out _ HF37.out⟩

theorem numTxt_len {n : Int} (h : numB n = true) : (numTxt n).length ≤ 8 := by
  have hb := numB_t h
  unfold numTxt
  split
  · decide
  · rename_i hi
    have hn : n.natAbs ≤ 1000000 := by omega
    have hd : ∀ u, u ≤ 1000000 → (Lib.decDigits u).length ≤ 7 := fun u hu => by
      rw [Lib.decDigits_length]
      have h10 : (10 : Nat) ^ 7 = 10000000 := by decide
      rcases Nat.lt_or_ge 7 (Lib.nDigits u) with h7 | h7
      · exfalso
        obtain ⟨k, hk⟩ : ∃ k, Lib.nDigits u = k + 8 := ⟨Lib.nDigits u - 8, by omega⟩
        exact absurd (nDig_low u (by omega)) (by
          rw [hk]
          have : (10 : Nat) ^ 7 ≤ 10 ^ (k + 8 - 1) := Nat.pow_le_pow_right (by omega) (by omega)
          omega)
      · exact h7
    unfold Lib.itoa
    split
    · simp; exact hd _ hn
    · have := hd n.toNat (by omega); omega

set_option maxHeartbeats 1600000 in
set_option maxRecDepth 100000 in
theorem drawParseNumber_c (ad : Option Addr) (len cap : Nat) (w : World) (hl : len ≤ 9223372036854775807) (hr : RdB w ad len) :
    Calls Tryd.prog 18 #[.slice ad len cap] w (TextD 10 w) := by
  have HC := Lib.hid (cur_new (cap := cap) hr hl)
  clear hr
  go_enter Tryd.func18, Tryd.ntmps18
  go_wp2_with fail
  obtain ⟨wA, hwA⟩ : ∃ x, w.alloc (.cells #[.slice ad len cap, .int .i64 0, .int .u64 0] 39) = x := ⟨_, rfl⟩
  have hnew : ∀ w', Chg w.heap.size wA w' → Below w.heap.size w w' := fun w' h => by rw [← hwA] at h; exact chg_new h
  rw [hwA] at HC ⊢
  have HNEW := Lib.hid hnew; clear hnew hwA
  obtain ⟨g, hg⟩ : ∃ g, w.heap.size = g := ⟨_, rfl⟩
  rw [hg] at HC HNEW ⊢
  have hcl := HC.out.lt
  have HG := Lib.hid hg; clear hg
  have HF1 := Lib.hid (Chg.refl g wA)
  refine (num_c g 0 wA HC.out (by omega)).mono ?_
  rintro e w3 ⟨x2, rfl, hx, hcu, hch⟩
  have HU4 := Lib.hid hcu; clear hcu
  have HF5 := Lib.hid (HF1.out.trans hch)
  clear hch
  have hz6 := HF5.out.size
  have ht := numTxt_len hx
  have hb := numB_bd hx
  have ct := nuText_c x2 w3 (by omega) (by omega)
  clear hx hb
  obtain ⟨T, hT⟩ : ∃ T : ByteArray, T = ⟨(numTxt x2).toArray⟩ := ⟨_, rfl⟩
  have hTs : T.size ≤ 8 := by rw [hT]; simp [ByteArray.size]; exact ht
  unfold strV at ct
  rw [← hT] at ct
  have CT := Lib.hid ct; clear ct hT ht
  go_wp2_with fail
  refine CT.out.mono ?_
  rintro e w8 ⟨rfl, hb8⟩
  have HU7 := Lib.hid (HU4.out.below hb8)
  have HF8 := Lib.hid (HF5.out.trans (Chg.of_below hb8))
  have hz9 := HF8.out.size
  clear CT
  go_wp2_with fail
  refine (pick_c 4 g (0 + 4) w8 HU7.out (by omega)).mono ?_
  rintro e w11 ⟨x10, rfl, hp12, hcu, hch⟩
  have HU13 := Lib.hid hcu; clear hcu
  have HF14 := Lib.hid (HF8.out.trans hch)
  clear hch
  have hz15 := HF14.out.size
  by_cases h1 : x10 = 0
  case pos =>
    subst h1
    go_wp2_with fail
    refine (spoilt_c T ⟨#[45, 48, 105, 49, 57, 110]⟩ 8 g (0 + 6) w11 HU13.out (by omega) hTs (by omega) (by decide) (by decide)).mono ?_
    rintro e w9 ⟨u, rfl, hu, hcu, hch⟩
    have HU16 := Lib.hid hcu; clear hcu
    have HF17 := Lib.hid (HF14.out.trans hch)
    clear hch
    have hz18 := HF17.out.size
    go_wp2_with fail
    go_ret
    exact ⟨u, rfl, hu, by rw [HG.out]; exact HNEW.out _ HF17.out⟩
  case neg =>
    have e1 : (x10 == 0) = false := beq_eq_false_iff_ne.2 h1
    by_cases h2 : x10 = 1
    case pos =>
      subst h2
      go_wp2_with fail
      have hold := HU13.out.lt
      have HU19 := Lib.hid (HU13.out.below ((Below.refl _ _).alloc (Nat.le_refl _) (.cells #[.string ⟨#[]⟩, .string ⟨#[105, 110, 102]⟩, .string ⟨#[45, 105, 110, 102]⟩, .string ⟨#[45, 48]⟩, .string ⟨#[48, 49]⟩, .string ⟨#[49, 48, 48, 48, 48, 48, 48]⟩, .string ⟨#[49, 48, 48, 48, 48, 48, 49]⟩, .string ⟨#[45, 49, 48, 48, 48, 48, 48, 48]⟩, .string ⟨#[49, 48, 48, 48, 48, 48, 48, 48, 48, 48]⟩, .string ⟨#[43, 49]⟩, .string ⟨#[45]⟩, .string ⟨#[73, 110, 102]⟩] 9)))
      have hl20 := HU13.out.lt
      have HF21 := Lib.hid (HF14.out.trans (Chg.alloc g w11 (.cells #[.string ⟨#[]⟩, .string ⟨#[105, 110, 102]⟩, .string ⟨#[45, 105, 110, 102]⟩, .string ⟨#[45, 48]⟩, .string ⟨#[48, 49]⟩, .string ⟨#[49, 48, 48, 48, 48, 48, 48]⟩, .string ⟨#[49, 48, 48, 48, 48, 48, 49]⟩, .string ⟨#[45, 49, 48, 48, 48, 48, 48, 48]⟩, .string ⟨#[49, 48, 48, 48, 48, 48, 48, 48, 48, 48]⟩, .string ⟨#[43, 49]⟩, .string ⟨#[45]⟩, .string ⟨#[73, 110, 102]⟩] 9)))
      refine (of_c w11.heap.size 12 [⟨#[]⟩, ⟨#[105, 110, 102]⟩, ⟨#[45, 105, 110, 102]⟩, ⟨#[45, 48]⟩, ⟨#[48, 49]⟩, ⟨#[49, 48, 48, 48, 48, 48, 48]⟩, ⟨#[49, 48, 48, 48, 48, 48, 49]⟩, ⟨#[45, 49, 48, 48, 48, 48, 48, 48]⟩, ⟨#[49, 48, 48, 48, 48, 48, 48, 48, 48, 48]⟩, ⟨#[43, 49]⟩, ⟨#[45]⟩, ⟨#[73, 110, 102]⟩] g (0 + 6) (w11.alloc (.cells #[.string ⟨#[]⟩, .string ⟨#[105, 110, 102]⟩, .string ⟨#[45, 105, 110, 102]⟩, .string ⟨#[45, 48]⟩, .string ⟨#[48, 49]⟩, .string ⟨#[49, 48, 48, 48, 48, 48, 48]⟩, .string ⟨#[49, 48, 48, 48, 48, 48, 49]⟩, .string ⟨#[45, 49, 48, 48, 48, 48, 48, 48]⟩, .string ⟨#[49, 48, 48, 48, 48, 48, 48, 48, 48, 48]⟩, .string ⟨#[43, 49]⟩, .string ⟨#[45]⟩, .string ⟨#[73, 110, 102]⟩] 9)) HU19.out (by omega) (by simp) (by simp) (by omega) (Own.newA w11 _ 9 rfl)).mono ?_
      rintro e w9 ⟨u, rfl, hu, hcu, hch⟩
      have hu2 : u.size ≤ 10 := by simp at hu; rcases hu with h | h | h | h | h | h | h | h | h | h | h | h <;> (subst h; decide)
      clear hu
      have HU22 := Lib.hid hcu; clear hcu
      have HF23 := Lib.hid (HF21.out.trans hch)
      clear hch
      have hz24 := HF23.out.size
      go_wp2_with fail
      go_ret
      exact ⟨u, rfl, hu2, by rw [HG.out]; exact HNEW.out _ HF23.out⟩
    case neg =>
      have e2 : (x10 == 1) = false := beq_eq_false_iff_ne.2 h2
      go_wp2_with fail
      go_ret
      exact ⟨T, rfl, by omega, by rw [HG.out]; exact HNEW.out _ HF14.out⟩

end Go.Proofs.YtgicdaomlgepjaaDoor
