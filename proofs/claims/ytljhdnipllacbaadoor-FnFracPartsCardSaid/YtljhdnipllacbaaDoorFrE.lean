/-
  A list of numbers and a fraction's text that the cursor draws. Printed by gen_frE.py.
-/
import Derived.Test.YtljhdnipllacbaaDoorFrD
import Derived.Test.YtljhdnipllacbaaDoorRowI
namespace Go.Proofs.YtljhdnipllacbaaDoor
open Go.RowKit

def ListD (M : Nat) (w : World) (e : Ending) (w' : World) : Prop := ∃ (v : Value) (xs : List Int), e = .returned v ∧ xs.length ≤ M ∧ RowI w' w.heap.size v xs ∧ Below w.heap.size w w'
theorem row_lower {w : World} {B B' : Nat} {v : Value} {xs : List Int} (h : RowI w B v xs) (hB : B' ≤ B) : RowI w B' v xs := by
  obtain ⟨hl, h | ⟨g, cap, cur, hv, hg, hh⟩⟩ := h
  · exact ⟨hl, Or.inl h⟩
  · exact ⟨hl, Or.inr ⟨g, cap, cur, hv, Nat.le_trans hB hg, hh⟩⟩

set_option maxHeartbeats 3200000 in
set_option maxRecDepth 100000 in
theorem drawMean_c (ad : Option Addr) (len cap : Nat) (w : World) (hl : len ≤ 9223372036854775807) (hr : RdB w ad len) :
    Calls Tryd.prog 17 #[.slice ad len cap] w (ListD 41 w) := by
  have HC := Lib.hid (cur_new (cap := cap) hr hl)
  clear hr
  obtain ⟨iI, hiI0, hiI1, hiI2, hiI3⟩ := info_parts Tryd.infoI
  go_enter Tryd.func17, Tryd.ntmps17
  go_wp2_with fail
  obtain ⟨wA, hwA⟩ : ∃ x, w.alloc (.cells #[.slice ad len cap, .int .i64 0, .int .u64 0] 58) = x := ⟨_, rfl⟩
  have hnew : ∀ w', Chg w.heap.size wA w' → Below w.heap.size w w' := fun w' h => by rw [← hwA] at h; exact chg_new h
  have hzA : wA.heap.size = w.heap.size + 1 := by rw [← hwA]; simp
  rw [hwA] at HC ⊢
  have HNEW := Lib.hid hnew; clear hnew hwA
  obtain ⟨g, hg⟩ : ∃ g, w.heap.size = g := ⟨_, rfl⟩
  rw [hg] at HC HNEW hzA ⊢
  have hcl := HC.out.lt
  have HG := Lib.hid hg; clear hg
  have HF1 := Lib.hid (Chg.refl g wA)
  go_wp2_with fail
  refine (pick_c 6 g 0 wA HC.out (by omega)).mono ?_
  rintro e w3 ⟨x2, rfl, hp4, hcu, hch⟩
  have HU5 := Lib.hid hcu; clear hcu
  have HF6 := Lib.hid (HF1.out.trans hch)
  clear hch
  have hz7 := HF6.out.size
  go_wp2_with fail
  refine (one_c 12 g (0 + 2) w3 HU5.out (by omega)).mono ?_
  rintro e w9 ⟨b8, rfl, hcu, hch⟩
  have HU10 := Lib.hid hcu; clear hcu
  have HF11 := Lib.hid (HF6.out.trans hch)
  clear hch
  have hz12 := HF11.out.size
  cases b8
  case false =>
    obtain ⟨N, hN⟩ : ∃ N : Nat, x2 = N := ⟨x2.toNat, by omega⟩
    subst hN
    have hN6 : N ≤ 41 := by omega
    clear hp4
    go_wp2_with fail
    go_loopw [4] (fun v wr => ∃ xs : List Int, xs.length ≤ N ∧ RowI wr wA.heap.size v xs ∧ Cur wr g ((0 + 4) + 4 * xs.length) ∧ Chg g wA wr) (fun v _ => N - slen v)
    case atStart => exact ⟨[], by simp, RowI.nil _ _, HU10.out.mono (by simp), HF11.out⟩
    case round =>
      obtain ⟨xs, hxs, hrow, hcu, hch⟩ := hrel
      have HSL := Lib.hid hrow.slen
      have HR := Lib.hid hrow; clear hrow
      have HU := Lib.hid hcu; clear hcu
      have HF := Lib.hid hch; clear hch
      have hsz := HF.out.size
      obtain ⟨wo, rfl⟩ : ∃ wo : World, wo = wr := ⟨_, rfl⟩
      obtain ⟨ad1, cap1, rfl, -⟩ := HR.out.shape
      by_cases hlt : xs.length < N
      case pos =>
        have g1 : decide ((xs.length : Int) < (N : Int)) = true := decide_eq_true (by omega)
        go_wp2_with fail
        have HU16 := Lib.hid (HU.out.below ((Below.refl _ _).alloc (Nat.le_refl _) (.cells #[.int .i64 4, .int .i64 4, .int .i64 4, .int .i64 1000001, .int .i64 (-1000001)] 3)))
        have hl17 := HU.out.lt
        have HF18 := Lib.hid (HF.out.trans (Chg.alloc g wo (.cells #[.int .i64 4, .int .i64 4, .int .i64 4, .int .i64 1000001, .int .i64 (-1000001)] 3)))
        have HR19 := Lib.hid (row_below HR.out ((Below.refl _ _).alloc (Nat.le_refl _) (.cells #[.int .i64 4, .int .i64 4, .int .i64 4, .int .i64 1000001, .int .i64 (-1000001)] 3)))
        refine (among_c wo.heap.size 5 [4, 4, 4, 1000001, (-1000001)] g ((0 + 4) + 4 * xs.length) (wo.alloc (.cells #[.int .i64 4, .int .i64 4, .int .i64 4, .int .i64 1000001, .int .i64 (-1000001)] 3)) HU16.out (by omega) (by simp) (by simp) (by omega) (Own.newA wo _ 3 rfl)).mono ?_
        rintro e w14 ⟨x13, rfl, hx, hcu, hch⟩
        clear hx
        have HU20 := Lib.hid hcu; clear hcu
        have HF21 := Lib.hid (HF18.out.trans hch)
        have HR22 := Lib.hid (row_chg HR19.out hch (by omega))
        clear hch
        have hz23 := HF21.out.size
        go_wp2_with fail
        have HU27 := Lib.hid (HU20.out.below ((Below.refl _ _).alloc (Nat.le_refl _) (.cells #[.int .i64 0, .int .i64 1, .int .i64 (-3), .int .i64 7, .int .i64 20, .int .i64 1000000, .int .i64 x13] 3)))
        have hl28 := HU20.out.lt
        have HF29 := Lib.hid (HF21.out.trans (Chg.alloc g w14 (.cells #[.int .i64 0, .int .i64 1, .int .i64 (-3), .int .i64 7, .int .i64 20, .int .i64 1000000, .int .i64 x13] 3)))
        have HR30 := Lib.hid (row_below HR22.out ((Below.refl _ _).alloc (Nat.le_refl _) (.cells #[.int .i64 0, .int .i64 1, .int .i64 (-3), .int .i64 7, .int .i64 20, .int .i64 1000000, .int .i64 x13] 3)))
        refine (among_c w14.heap.size 7 [0, 1, (-3), 7, 20, 1000000, x13] g (((0 + 4) + 4 * xs.length) + 2) (w14.alloc (.cells #[.int .i64 0, .int .i64 1, .int .i64 (-3), .int .i64 7, .int .i64 20, .int .i64 1000000, .int .i64 x13] 3)) HU27.out (by omega) (by simp) (by simp) (by omega) (Own.newA w14 _ 3 rfl)).mono ?_
        rintro e w25 ⟨x24, rfl, hx, hcu, hch⟩
        clear hx
        have HU31 := Lib.hid hcu; clear hcu
        have HF32 := Lib.hid (HF29.out.trans hch)
        have HR33 := Lib.hid (row_chg HR30.out hch (by omega))
        clear hch
        have hz34 := HF32.out.size
        go_wp2_with (at_builtin; refine wpList_append_lies _ rfl _ _ 35 rfl wA.heap.size 3 iI _ 1 8 Tryd.underlying35 hiI0 hiI1 hiI2 hiI3 rfl (by omega) (.slice ad1 xs.length cap1) xs.length (ints xs) rfl (HR33.out.alloc _) ⟨w25.heap.size, 0, none⟩ 1 1 [.int .i64 x24] rfl rfl (World.news_of_block (cs := #[.int .i64 x24]) (t := 3) (fr := (0, 0)) (heap_alloc_new _ _)) (by simp [Value.oneCell']) (by omega) (by unfold maxLen; omega) (by omega) (by simp; omega) (w25.heap.size + 1) (by simp) ?_; intro g35 cap36 w37 hown hgrow hat hltx; clear hat)
        have hb38 := app_below (Below.refl wA.heap.size w25) (by omega) HR33.out hgrow
        have hz39 : w25.heap.size ≤ w37.heap.size := by have := hgrow.size; simp at this; omega
        have HR40 := Lib.hid (row_congr (ys := ints (xs ++ [x24])) hown (m := (xs ++ [x24]).length) (by simp) (by simp [ints])); clear hown
        clear hgrow
        have HU41 := Lib.hid (HU31.out.under hb38 (by omega))
        have HF42 := Lib.hid (HF32.out.under hb38 (by omega) hz39)
        clear hb38
        go_roundw
        case rel => exact ⟨xs ++ [x24], by simp; omega, HR40.out, HU41.out.mono (by simp; omega), HF42.out⟩
        case measure => (simp [slen]; omega)
      case neg =>
        have g1 : decide ((xs.length : Int) < (N : Int)) = false := decide_eq_false (by omega)
        go_wp2_with fail
        go_ret
        exact ⟨_, xs, rfl, by omega, row_lower HR.out (by have := HG.out; omega), by rw [HG.out]; exact HNEW.out _ HF.out⟩
  case true =>
    clear hp4
    go_wp2_with fail
    refine (pick_c 2 g (0 + 4) w9 HU10.out (by omega)).mono ?_
    rintro e w44 ⟨x43, rfl, hp45, hcu, hch⟩
    have HU46 := Lib.hid hcu; clear hcu
    have HF47 := Lib.hid (HF11.out.trans hch)
    clear hch
    have hz48 := HF47.out.size
    obtain ⟨N, hN⟩ : ∃ N : Nat, 40 + x43 = N := ⟨(40 + x43).toNat, by omega⟩
    have eN : IntKind.i64.wrap (40 + x43) = (N : Int) := by rw [hN]; exact i64_small (by omega) (by omega)
    have hN6 : N ≤ 41 := by omega
    clear hp45 hN
    go_wp2_with fail
    go_loopw [4] (fun v wr => ∃ xs : List Int, xs.length ≤ N ∧ RowI wr wA.heap.size v xs ∧ Cur wr g ((0 + 6) + 4 * xs.length) ∧ Chg g wA wr) (fun v _ => N - slen v)
    case atStart => exact ⟨[], by simp, RowI.nil _ _, HU46.out.mono (by simp), HF47.out⟩
    case round =>
      obtain ⟨xs, hxs, hrow, hcu, hch⟩ := hrel
      have HSL := Lib.hid hrow.slen
      have HR := Lib.hid hrow; clear hrow
      have HU := Lib.hid hcu; clear hcu
      have HF := Lib.hid hch; clear hch
      have hsz := HF.out.size
      obtain ⟨wo, rfl⟩ : ∃ wo : World, wo = wr := ⟨_, rfl⟩
      obtain ⟨ad1, cap1, rfl, -⟩ := HR.out.shape
      by_cases hlt : xs.length < N
      case pos =>
        have g1 : decide ((xs.length : Int) < (N : Int)) = true := decide_eq_true (by omega)
        go_wp2_with fail
        have HU52 := Lib.hid (HU.out.below ((Below.refl _ _).alloc (Nat.le_refl _) (.cells #[.int .i64 4, .int .i64 4, .int .i64 4, .int .i64 1000001, .int .i64 (-1000001)] 3)))
        have hl53 := HU.out.lt
        have HF54 := Lib.hid (HF.out.trans (Chg.alloc g wo (.cells #[.int .i64 4, .int .i64 4, .int .i64 4, .int .i64 1000001, .int .i64 (-1000001)] 3)))
        have HR55 := Lib.hid (row_below HR.out ((Below.refl _ _).alloc (Nat.le_refl _) (.cells #[.int .i64 4, .int .i64 4, .int .i64 4, .int .i64 1000001, .int .i64 (-1000001)] 3)))
        refine (among_c wo.heap.size 5 [4, 4, 4, 1000001, (-1000001)] g ((0 + 6) + 4 * xs.length) (wo.alloc (.cells #[.int .i64 4, .int .i64 4, .int .i64 4, .int .i64 1000001, .int .i64 (-1000001)] 3)) HU52.out (by omega) (by simp) (by simp) (by omega) (Own.newA wo _ 3 rfl)).mono ?_
        rintro e w50 ⟨x49, rfl, hx, hcu, hch⟩
        clear hx
        have HU56 := Lib.hid hcu; clear hcu
        have HF57 := Lib.hid (HF54.out.trans hch)
        have HR58 := Lib.hid (row_chg HR55.out hch (by omega))
        clear hch
        have hz59 := HF57.out.size
        go_wp2_with fail
        have HU63 := Lib.hid (HU56.out.below ((Below.refl _ _).alloc (Nat.le_refl _) (.cells #[.int .i64 0, .int .i64 1, .int .i64 (-3), .int .i64 7, .int .i64 20, .int .i64 1000000, .int .i64 x49] 3)))
        have hl64 := HU56.out.lt
        have HF65 := Lib.hid (HF57.out.trans (Chg.alloc g w50 (.cells #[.int .i64 0, .int .i64 1, .int .i64 (-3), .int .i64 7, .int .i64 20, .int .i64 1000000, .int .i64 x49] 3)))
        have HR66 := Lib.hid (row_below HR58.out ((Below.refl _ _).alloc (Nat.le_refl _) (.cells #[.int .i64 0, .int .i64 1, .int .i64 (-3), .int .i64 7, .int .i64 20, .int .i64 1000000, .int .i64 x49] 3)))
        refine (among_c w50.heap.size 7 [0, 1, (-3), 7, 20, 1000000, x49] g (((0 + 6) + 4 * xs.length) + 2) (w50.alloc (.cells #[.int .i64 0, .int .i64 1, .int .i64 (-3), .int .i64 7, .int .i64 20, .int .i64 1000000, .int .i64 x49] 3)) HU63.out (by omega) (by simp) (by simp) (by omega) (Own.newA w50 _ 3 rfl)).mono ?_
        rintro e w61 ⟨x60, rfl, hx, hcu, hch⟩
        clear hx
        have HU67 := Lib.hid hcu; clear hcu
        have HF68 := Lib.hid (HF65.out.trans hch)
        have HR69 := Lib.hid (row_chg HR66.out hch (by omega))
        clear hch
        have hz70 := HF68.out.size
        go_wp2_with (at_builtin; refine wpList_append_lies _ rfl _ _ 35 rfl wA.heap.size 3 iI _ 1 8 Tryd.underlying35 hiI0 hiI1 hiI2 hiI3 rfl (by omega) (.slice ad1 xs.length cap1) xs.length (ints xs) rfl (HR69.out.alloc _) ⟨w61.heap.size, 0, none⟩ 1 1 [.int .i64 x60] rfl rfl (World.news_of_block (cs := #[.int .i64 x60]) (t := 3) (fr := (0, 0)) (heap_alloc_new _ _)) (by simp [Value.oneCell']) (by omega) (by unfold maxLen; omega) (by omega) (by simp; omega) (w61.heap.size + 1) (by simp) ?_; intro g71 cap72 w73 hown hgrow hat hltx; clear hat)
        have hb74 := app_below (Below.refl wA.heap.size w61) (by omega) HR69.out hgrow
        have hz75 : w61.heap.size ≤ w73.heap.size := by have := hgrow.size; simp at this; omega
        have HR76 := Lib.hid (row_congr (ys := ints (xs ++ [x60])) hown (m := (xs ++ [x60]).length) (by simp) (by simp [ints])); clear hown
        clear hgrow
        have HU77 := Lib.hid (HU67.out.under hb74 (by omega))
        have HF78 := Lib.hid (HF68.out.under hb74 (by omega) hz75)
        clear hb74
        go_roundw
        case rel => exact ⟨xs ++ [x60], by simp; omega, HR76.out, HU77.out.mono (by simp; omega), HF78.out⟩
        case measure => (simp [slen]; omega)
      case neg =>
        have g1 : decide ((xs.length : Int) < (N : Int)) = false := decide_eq_false (by omega)
        go_wp2_with fail
        go_ret
        exact ⟨_, xs, rfl, by omega, row_lower HR.out (by have := HG.out; omega), by rw [HG.out]; exact HNEW.out _ HF.out⟩

theorem digits_small {u : Nat} (h : u ≤ 20) : (Lib.decDigits u).length ≤ 2 := by
  by_cases h1 : u < 10
  · rw [Lib.decDigits_one h1]; simp
  · rw [Lib.decDigits, dif_neg h1, Lib.decDigits_one (show u / 10 < 10 by omega)]; simp
theorem itoa_small20 {n : Int} (h : -20 ≤ n ∧ n ≤ 20) : (Lib.itoa n).length ≤ 3 := by
  unfold Lib.itoa
  split
  · have := digits_small (u := n.natAbs) (by omega)
    simp; omega
  · have := digits_small (u := n.toNat) (by omega)
    omega
theorem frTxt_small {f : Fr} (h : SmallF f) : (frTxt f).length ≤ 8 := by
  obtain ⟨hb, hn, hd⟩ := h
  have h1 := (frB_t.1 hb).2.1
  have l1 := itoa_small20 hn
  have l2 := itoa_small20 (n := f.d) (by omega)
  unfold frTxt
  split
  · omega
  · simp; omega


set_option maxHeartbeats 1600000 in
set_option maxRecDepth 100000 in
theorem drawParseFrac_c (ad : Option Addr) (len cap : Nat) (w : World) (hl : len ≤ 9223372036854775807) (hr : RdB w ad len) :
    Calls Tryd.prog 20 #[.slice ad len cap] w (TextD 18 w) := by
  have HC := Lib.hid (cur_new (cap := cap) hr hl)
  clear hr
  go_enter Tryd.func20, Tryd.ntmps20
  go_wp2_with fail
  obtain ⟨wA, hwA⟩ : ∃ x, w.alloc (.cells #[.slice ad len cap, .int .i64 0, .int .u64 0] 58) = x := ⟨_, rfl⟩
  have hnew : ∀ w', Chg w.heap.size wA w' → Below w.heap.size w w' := fun w' h => by rw [← hwA] at h; exact chg_new h
  rw [hwA] at HC ⊢
  have HNEW := Lib.hid hnew; clear hnew hwA
  obtain ⟨g, hg⟩ : ∃ g, w.heap.size = g := ⟨_, rfl⟩
  rw [hg] at HC HNEW ⊢
  have hcl := HC.out.lt
  have HG := Lib.hid hg; clear hg
  have HF1 := Lib.hid (Chg.refl g wA)
  refine (frac_c g 0 wA HC.out (by omega)).mono ?_
  rintro e w3 ⟨x2, rfl, hx, hcu, hch⟩
  have HU4 := Lib.hid hcu; clear hcu
  have HF5 := Lib.hid (HF1.out.trans hch)
  clear hch
  have hz6 := HF5.out.size
  have hgood := hx.1
  have ht := frTxt_small hx
  have ct := frText_s x2 w3 hgood
  clear hx hgood
  obtain ⟨T, hT⟩ : ∃ T : ByteArray, T = ⟨(frTxt x2).toArray⟩ := ⟨_, rfl⟩
  have hTs : T.size ≤ 8 := by rw [hT]; simp only [ByteArray.size, List.size_toArray]; exact ht
  unfold strV at ct
  rw [← hT] at ct
  clear hT ht
  obtain ⟨la, lb⟩ := x2
  unfold frV at ct ⊢
  simp only at ct ⊢
  have CT := Lib.hid ct; clear ct
  go_wp2_with fail
  refine CT.out.mono ?_
  rintro e w8 ⟨rfl, hb8⟩
  have HU7 := Lib.hid (HU4.out.below hb8)
  have HF8 := Lib.hid (HF5.out.trans (Chg.of_below hb8))
  have hz9 := HF8.out.size
  clear CT
  go_wp2_with fail
  refine (pick_c 4 g (0 + 4) w8 HU7.out (by omega)).mono ?_
  rintro e w11 ⟨x10, rfl, hp12, hcu, hch⟩
  have HU13 := Lib.hid hcu; clear hcu
  have HF14 := Lib.hid (HF8.out.trans hch)
  clear hch
  have hz15 := HF14.out.size
  by_cases h1 : x10 = 0
  case pos =>
    subst h1
    go_wp2_with fail
    refine (spoilt_c T ⟨#[45, 47, 48, 49, 50, 51]⟩ 8 g (0 + 6) w11 HU13.out (by omega) hTs (by omega) (by decide) (by decide)).mono ?_
    rintro e w9 ⟨u, rfl, hu, hcu, hch⟩
    have HU16 := Lib.hid hcu; clear hcu
    have HF17 := Lib.hid (HF14.out.trans hch)
    clear hch
    have hz18 := HF17.out.size
    go_wp2_with fail
    go_ret
    exact ⟨u, rfl, by omega, by rw [HG.out]; exact HNEW.out _ HF17.out⟩
  case neg =>
    have e1 : (x10 == 0) = false := beq_eq_false_iff_ne.2 h1
    by_cases h2 : x10 = 1
    case pos =>
      subst h2
      go_wp2_with fail
      have hold := HU13.out.lt
      have HU19 := Lib.hid (HU13.out.below ((Below.refl _ _).alloc (Nat.le_refl _) (.cells #[.string ⟨#[]⟩, .string ⟨#[45]⟩, .string ⟨#[47]⟩, .string ⟨#[49, 47]⟩, .string ⟨#[50, 47, 52]⟩, .string ⟨#[45, 48]⟩, .string ⟨#[49, 47, 49]⟩, .string ⟨#[48, 49]⟩, .string ⟨#[49, 48, 48, 48, 48, 48, 48, 48, 48, 48]⟩, .string ⟨#[49, 48, 48, 48, 48, 48, 48, 48, 48, 49]⟩, .string ⟨#[49, 47, 49, 48, 48, 48, 48, 48, 48, 48, 48, 48]⟩, .string ⟨#[45, 51, 47, 50]⟩] 9)))
      have hl20 := HU13.out.lt
      have HF21 := Lib.hid (HF14.out.trans (Chg.alloc g w11 (.cells #[.string ⟨#[]⟩, .string ⟨#[45]⟩, .string ⟨#[47]⟩, .string ⟨#[49, 47]⟩, .string ⟨#[50, 47, 52]⟩, .string ⟨#[45, 48]⟩, .string ⟨#[49, 47, 49]⟩, .string ⟨#[48, 49]⟩, .string ⟨#[49, 48, 48, 48, 48, 48, 48, 48, 48, 48]⟩, .string ⟨#[49, 48, 48, 48, 48, 48, 48, 48, 48, 49]⟩, .string ⟨#[49, 47, 49, 48, 48, 48, 48, 48, 48, 48, 48, 48]⟩, .string ⟨#[45, 51, 47, 50]⟩] 9)))
      refine (of_c w11.heap.size 12 [⟨#[]⟩, ⟨#[45]⟩, ⟨#[47]⟩, ⟨#[49, 47]⟩, ⟨#[50, 47, 52]⟩, ⟨#[45, 48]⟩, ⟨#[49, 47, 49]⟩, ⟨#[48, 49]⟩, ⟨#[49, 48, 48, 48, 48, 48, 48, 48, 48, 48]⟩, ⟨#[49, 48, 48, 48, 48, 48, 48, 48, 48, 49]⟩, ⟨#[49, 47, 49, 48, 48, 48, 48, 48, 48, 48, 48, 48]⟩, ⟨#[45, 51, 47, 50]⟩] g (0 + 6) (w11.alloc (.cells #[.string ⟨#[]⟩, .string ⟨#[45]⟩, .string ⟨#[47]⟩, .string ⟨#[49, 47]⟩, .string ⟨#[50, 47, 52]⟩, .string ⟨#[45, 48]⟩, .string ⟨#[49, 47, 49]⟩, .string ⟨#[48, 49]⟩, .string ⟨#[49, 48, 48, 48, 48, 48, 48, 48, 48, 48]⟩, .string ⟨#[49, 48, 48, 48, 48, 48, 48, 48, 48, 49]⟩, .string ⟨#[49, 47, 49, 48, 48, 48, 48, 48, 48, 48, 48, 48]⟩, .string ⟨#[45, 51, 47, 50]⟩] 9)) HU19.out (by omega) (by simp) (by simp) (by omega) (Own.newA w11 _ 9 rfl)).mono ?_
      rintro e w9 ⟨u, rfl, hu, hcu, hch⟩
      have hu2 : u.size ≤ 18 := by simp at hu; rcases hu with h | h | h | h | h | h | h | h | h | h | h | h <;> (subst h; decide)
      clear hu
      have HU22 := Lib.hid hcu; clear hcu
      have HF23 := Lib.hid (HF21.out.trans hch)
      clear hch
      have hz24 := HF23.out.size
      go_wp2_with fail
      go_ret
      exact ⟨u, rfl, hu2, by rw [HG.out]; exact HNEW.out _ HF23.out⟩
    case neg =>
      have e2 : (x10 == 1) = false := beq_eq_false_iff_ne.2 h2
      go_wp2_with fail
      go_ret
      exact ⟨T, rfl, by omega, by rw [HG.out]; exact HNEW.out _ HF14.out⟩


end Go.Proofs.YtljhdnipllacbaaDoor
