/-
  Stars that the cursor draws. By an AI agent.
-/
import Derived.Test.YtlplodkabeiimaaStV
import Derived.Deep.DeepCutAuto
namespace Go.Proofs.Ytlplodkabeiimaa
open Go.RowKit

/-- A row of rays, of some length. -/
def RowS (K : Nat) (B : Nat) (w : World) (v : Value) (l : List Ry) : Prop := ∃ (ad : Option Addr) (cap : Nat), v = .slice ad l.length cap ∧ l.length ≤ K ∧ RowY w B (.slice ad l.length cap) l ∧ SY ad l.length cap
/-- What a draw of rays gives. -/
def StarD (K : Nat) (c n : Nat) (w : World) (e : Ending) (w' : World) : Prop := ∃ (v : Value) (l : List Ry), e = .returned v ∧ RowS K w.heap.size w' v l ∧ Cur w' c n ∧ Chg c w w'
theorem rowY_chg {w w' : World} {B c : Nat} {v : Value} {l : List Ry} (h : RowY w B v l) (hc : Chg c w w') (hB : c < B) : RowY w' B v l := row_chg h hc hB
theorem RowS.chg {K B c : Nat} {w w' : World} {v : Value} {l : List Ry} (h : RowS K B w v l) (hc : Chg c w w') (hB : c < B) : RowS K B w' v l := by
  obtain ⟨ad, cap, rfl, h1, h2, h3⟩ := h
  exact ⟨ad, cap, rfl, h1, rowY_chg h2 hc hB, h3⟩
theorem RowS.below {K B : Nat} {w w' : World} {v : Value} {l : List Ry} (h : RowS K B w v l) (hb : Below w.heap.size w w') : RowS K B w' v l := by
  obtain ⟨ad, cap, rfl, h1, h2, h3⟩ := h
  exact ⟨ad, cap, rfl, h1, h2.below hb, h3⟩
theorem RowS.mono {K K' B B' : Nat} {w : World} {v : Value} {l : List Ry} (h : RowS K B w v l) (hK : K ≤ K') (hB : B' ≤ B) : RowS K' B' w v l := by
  obtain ⟨ad, cap, rfl, h1, h2, h3⟩ := h
  exact ⟨ad, cap, rfl, by omega, h2.mono hB, h3⟩
theorem RowS.of {K B : Nat} {w : World} {v : Value} {l : List Ry} (h : RowY w B v l) (hl : l.length ≤ K) : RowS K B w v l := by
  obtain ⟨ad, cap, rfl, hsy⟩ := h.sy
  exact ⟨ad, cap, rfl, hl, h, hsy⟩
theorem RowS.nil (w : World) (K B : Nat) : RowS K B w (.slice none 0 0) [] := RowS.of (RowY.nil _ _) (by simp)
theorem RowS.lit (w : World) (K B n : Nat) (l : List Ry) (cs : Array Value) (hc : cs.toList = rysV l) (hn : l.length = n) (hl : n ≤ 100) (hK : n ≤ K) (hB : B ≤ w.heap.size) : RowS K B (w.alloc (.cells cs 35)) (.slice (some ⟨w.heap.size, 0, none⟩) n n) l := by
  subst hn
  have := World.ownsRow_lit (e := 35) (size := 3) w cs l.length hB (by unfold maxLen; omega) (by rw [← Array.length_toList, hc, rysV_length])
  rw [hc] at this
  exact RowS.of this hK

def WB (K : Int) (l : List Ry) : Prop := ∀ a ∈ l, -K ≤ a.w ∧ a.w ≤ K
theorem WB.put {K M : Int} {l : List Ry} {r : Ry} (h : WB K l) (hK : 0 ≤ K) (hM : 0 ≤ M) (hr : -M ≤ r.w ∧ r.w ≤ M) : WB (K + M) (putR r l) := putR_w hK hM hr h
theorem WB.nil (K : Int) : WB K [] := fun a h => by cases h
theorem WB.mono {K K' : Int} {l : List Ry} (h : WB K l) (hK : K ≤ K') : WB K' l := fun a ha => by have := h a ha; omega

set_option maxHeartbeats 3200000 in
set_option maxRecDepth 100000 in
theorem star_c (c n : Nat) (w : World) (h : Cur w c n) (hn : n ≤ 4611686018427360000) :
    Calls Try.prog 55 #[.pointer (some ⟨c, 0, none⟩)] w (StarD 6 c (n + 40) w) := by
  have hcl := h.lt
  have H := Lib.hid h; clear h
  go_enter Try.func55, Try.ntmps55
  go_wp2_with fail
  refine (pick_c 5 c n _ H.out (by omega)).mono ?_
  rintro e w1 ⟨x, rfl, hx, hcu, hch⟩
  have H1 := Lib.hid hcu; have F1 := Lib.hid hch
  clear hcu hch H
  obtain ⟨N, rfl⟩ : ∃ N : Nat, x = N := ⟨x.toNat, by omega⟩
  have hN : N ≤ 4 := by omega
  clear hx
  go_wp2_with fail
  go_loopw [3, 4] (fun v i wr => ∃ (k : Nat) (l : List Ry), k ≤ 4 ∧ i = .int .i64 k ∧ RowS (4 - k) w.heap.size wr v l ∧ WB (3 * (4 - k : Nat)) l ∧ Cur wr c (n + 2 + 6 * (4 - k)) ∧ Chg c w wr) (fun _ i _ => (intOf i).toNat)
  case atStart => exact ⟨N, [], hN, rfl, RowS.nil _ _ _, WB.nil _, H1.out.mono (by omega), F1.out⟩
  case round =>
    obtain ⟨wE, rfl⟩ : ∃ x : World, x = wr := ⟨_, rfl⟩
    obtain ⟨k, l, hk, rfl, ⟨ad, cap, rfl, hll, hrow, hsy⟩, hwb, hcu, hch⟩ := hrel
    have HO := Lib.hid hrow; have HS := Lib.hid hsy; have HW := Lib.hid hwb; have H2 := Lib.hid hcu; have F2 := Lib.hid hch
    have hz := hch.size
    clear hrow hsy hwb hcu hch
    by_cases hlt : 0 < k
    case pos =>
      have g1 : decide ((0 : Int) < (k : Int)) = true := decide_eq_true (by omega)
      have e1 : IntKind.i64.wrap ((k : Int) - 1) = (k : Int) - 1 := i64_small (by omega) (by omega)
      go_wp2_with fail
      refine (ray_c c _ _ H2.out (by omega)).mono ?_
      rintro e w3 ⟨r, rfl, hr, hcu, hch⟩
      have H3 := Lib.hid hcu; have F3 := Lib.hid (F2.out.trans hch)
      have HO3 := Lib.hid (rowY_chg HO.out hch (by omega))
      clear hcu hch HO H2 F2
      have hz3 := F3.out.size
      have CP := Lib.hid (stPut_c ad cap l r w3 HO3.out.rd HS.out (by omega) (fun a ha => by have := HW.out a ha; omega) (by unfold SmallY at hr; omega))
      have HPW := Lib.hid (HW.out.put (r := r) (M := 3) (by omega) (by omega) (by unfold SmallY at hr; omega))
      have hpl := putR_len r l
      unfold ryV at CP ⊢
      clear HW HS HO3 hr
      go_wp2_with fail
      refine (CP.out).mono ?_
      rintro e w4 ⟨v4, rfl, hrow, hb⟩
      have HR4 := Lib.hid (RowS.of (K := 4 - (k - 1)) (hrow.mono hz3) (by omega))
      have H4 := Lib.hid (H3.out.below hb)
      have F4 := Lib.hid (F3.out.trans (Chg.of_below hb))
      clear hrow hb H3 F3 CP
      go_wp2_with fail
      go_roundw
      case rel => exact ⟨k - 1, _, by omega, by go_num, HR4.out, HPW.out.mono (by omega), H4.out.mono (by omega), F4.out⟩
      case measure => simp [intOf]; omega
    case neg =>
      have g1 : decide ((0 : Int) < (k : Int)) = false := decide_eq_false (by omega)
      obtain rfl : k = 0 := by omega
      have CM := Lib.hid (sMissingRay_c ad cap l wE HO.out.rd (by omega))
      have HMR := Lib.hid (show missB l = true → ryB (missR l) = true from fun h => by unfold missB at h; simp at h; exact h.2)
      obtain ⟨B, hB⟩ : ∃ B, missB l = B := ⟨_, rfl⟩
      rw [hB] at CM HMR
      obtain ⟨r, hr⟩ : ∃ r, missR l = r := ⟨_, rfl⟩
      rw [hr] at CM HMR
      clear hB hr
      obtain ⟨rx, ry, rw'⟩ := r
      unfold rayR at CM
      go_wp2_with fail
      refine CM.out.mono ?_
      rintro e w5 ⟨rfl, hw5⟩
      clear CM
      have hz5 := hw5.size
      cases B
      case false =>
        rw [show (if false = true then (⟨rx, ry, rw'⟩ : Ry) else Ry.z) = ⟨0, 0, 0⟩ from rfl]
        unfold ryV
        have hba := hw5.alloc hz5 (.cells #[.int .i64 0, .int .i64 0, .int .i64 0] 35)
        have HT := Lib.hid (H2.out.below hba)
        have FT := Lib.hid (F2.out.trans (Chg.of_below hba))
        have HRT := Lib.hid (RowS.of (K := 6) (HO.out.below hba) (by omega))
        clear HO HS HW H2 F2 hw5 hba
        go_upto_region 9 with fail
        generalize w5.alloc (.cells #[.int .i64 0, .int .i64 0, .int .i64 0] 35) = wT at HT FT HRT ⊢
        go_wp2_with fail
        obtain ⟨ad9, cap9, e9, hl9, hrow9, hsy9⟩ := HRT.out
        injection e9 with e9 _ f9
        subst e9; subst f9
        have HO9 := Lib.hid hrow9
        clear hrow9 hsy9
        refine (one_c 8 c _ wT HT.out (by omega)).mono ?_
        rintro e w6 ⟨b, rfl, hcu, hch⟩
        have H6 := Lib.hid hcu; have F6 := Lib.hid (FT.out.trans hch)
        have R6 := Lib.hid (HRT.out.chg hch (by omega))
        have HO6 := Lib.hid (rowY_chg HO9.out hch (by omega))
        clear hcu hch HO9
        cases b
        case false =>
          have hzG := F6.out.size
          have CG := Lib.hid (stGood_c ad cap l w6 (HO6.out.rd) (by first | omega | simp))
          obtain ⟨u, hu⟩ : ∃ u, starB l = u := ⟨_, rfl⟩
          rw [hu] at CG
          clear hu
          go_wp2_with fail
          refine CG.out.mono ?_
          rintro e w7 ⟨rfl, hw7⟩
          have hz7 := hw7.size
          have H7 := Lib.hid (H6.out.below hw7)
          have F7 := Lib.hid (F6.out.trans (Chg.of_below hw7))
          cases u
          case false =>
            have H8 := Lib.hid (H7.out.below ((Below.refl _ _).alloc (Nat.le_refl _) (.cells #[.int .i64 (-1), .int .i64 0, .int .i64 2, .int .i64 1, .int .i64 0, .int .i64 2] 35)))
            have F8 := Lib.hid (F7.out.trans (Chg.alloc c w7 (.cells #[.int .i64 (-1), .int .i64 0, .int .i64 2, .int .i64 1, .int .i64 0, .int .i64 2] 35)))
            have R8 := Lib.hid (RowS.lit w7 6 w.heap.size 2 [⟨-1, 0, 2⟩, ⟨1, 0, 2⟩] _ rfl rfl (by omega) (by omega) (by omega))
            go_wp2_with fail
            go_ret
            exact ⟨_, _, rfl, R8.out, H8.out.mono (by omega), F8.out⟩
          case true =>
            have R8 := Lib.hid (R6.out.below hw7)
            go_wp2_with fail
            go_ret
            exact ⟨_, _, rfl, R8.out, H7.out.mono (by omega), F7.out⟩
        case true =>
          have H6 := Lib.hid (H6.out.below ((Below.refl _ _).alloc (Nat.le_refl _) (.cells #[.int .i64 (-1), .int .i64 (-1), .int .i64 1, .int .i64 0, .int .i64 1, .int .i64 1, .int .i64 1, .int .i64 0, .int .i64 1] 35)))
          have F6' := Lib.hid (F6.out.trans (Chg.alloc c w6 (.cells #[.int .i64 (-1), .int .i64 (-1), .int .i64 1, .int .i64 0, .int .i64 1, .int .i64 1, .int .i64 1, .int .i64 0, .int .i64 1] 35)))
          have hz6 := F6.out.size
          have R6 := Lib.hid (RowS.lit w6 6 w.heap.size 3 [⟨-1, -1, 1⟩, ⟨0, 1, 1⟩, ⟨1, 0, 1⟩] _ rfl rfl (by omega) (by omega) (by omega))
          have R66 := Lib.hid (RowY.rd (w := w6.alloc (.cells #[.int .i64 (-1), .int .i64 (-1), .int .i64 1, .int .i64 0, .int .i64 1, .int .i64 1, .int .i64 1, .int .i64 0, .int .i64 1] 35)) (B := w.heap.size) (ad := some ⟨w6.heap.size, 0, none⟩) (n := 3) (cap := 3) (l := [⟨-1, -1, 1⟩, ⟨0, 1, 1⟩, ⟨1, 0, 1⟩]) (by
            obtain ⟨_, _, e, _, h, _⟩ := R6.out
            rw [← e] at h
            exact h))
          have hzG := F6'.out.size
          have CG := Lib.hid (stGood_c (some ⟨w6.heap.size, 0, none⟩) 3 [⟨-1, -1, 1⟩, ⟨0, 1, 1⟩, ⟨1, 0, 1⟩] _ (R66.out) (by first | omega | simp))
          obtain ⟨u, hu⟩ : ∃ u, starB [⟨-1, -1, 1⟩, ⟨0, 1, 1⟩, ⟨1, 0, 1⟩] = u := ⟨_, rfl⟩
          rw [hu] at CG
          clear hu
          go_wp2_with fail
          refine CG.out.mono ?_
          rintro e w7 ⟨rfl, hw7⟩
          have hz7 := hw7.size
          have H7 := Lib.hid (H6.out.below hw7)
          have F7 := Lib.hid (F6'.out.trans (Chg.of_below hw7))
          cases u
          case false =>
            have H8 := Lib.hid (H7.out.below ((Below.refl _ _).alloc (Nat.le_refl _) (.cells #[.int .i64 (-1), .int .i64 0, .int .i64 2, .int .i64 1, .int .i64 0, .int .i64 2] 35)))
            have F8 := Lib.hid (F7.out.trans (Chg.alloc c w7 (.cells #[.int .i64 (-1), .int .i64 0, .int .i64 2, .int .i64 1, .int .i64 0, .int .i64 2] 35)))
            have R8 := Lib.hid (RowS.lit w7 6 w.heap.size 2 [⟨-1, 0, 2⟩, ⟨1, 0, 2⟩] _ rfl rfl (by omega) (by omega) (by omega))
            go_wp2_with fail
            go_ret
            exact ⟨_, _, rfl, R8.out, H8.out.mono (by omega), F8.out⟩
          case true =>
            have R8 := Lib.hid (R6.out.below hw7)
            go_wp2_with fail
            go_ret
            exact ⟨_, _, rfl, R8.out, H7.out.mono (by omega), F7.out⟩
      case true =>
        rw [show (if true = true then (⟨rx, ry, rw'⟩ : Ry) else Ry.z) = ⟨rx, ry, rw'⟩ from rfl]
        have hrb := ry_of (HMR.out rfl)
        simp only at hrb
        unfold ryV
        have hba := hw5.alloc hz5 (.cells #[.int .i64 rx, .int .i64 ry, .int .i64 rw'] 35)
        have H5 := Lib.hid (H2.out.below hba)
        have F5 := Lib.hid (F2.out.trans (Chg.of_below hba))
        have HO5 := Lib.hid (HO.out.below hba)
        have p5 := RyO.new w5 rx ry rw' rfl
        have h5g : w5.heap.size < (w5.alloc (.cells #[.int .i64 rx, .int .i64 ry, .int .i64 rw'] 35)).heap.size := by simp
        have h5c : c < w5.heap.size := by omega
        clear HO H2 F2 hw5 hba
        go_upto_region 7 with fail
        obtain ⟨g, hg⟩ : ∃ g, w5.heap.size = g := ⟨_, rfl⟩
        generalize w5.alloc (.cells #[.int .i64 rx, .int .i64 ry, .int .i64 rw'] 35) = w55 at H5 F5 HO5 p5 h5g ⊢
        rw [hg] at p5 h5g h5c ⊢
        clear hg
        have hzz := F5.out.size
        go_wp2_with fail
        refine (one_c 4 c _ w55 H5.out (by omega)).mono ?_
        rintro e wT ⟨b, rfl, hcu, hch⟩
        have HT := Lib.hid hcu; have FT := Lib.hid (F5.out.trans hch)
        have HOT := Lib.hid (rowY_chg HO5.out hch (by omega))
        have pT := p5.chg hch (by omega)
        have hzT := FT.out.size
        clear hcu hch H5 F5 HO5 p5
        cases b
        case true =>
          have HRT := Lib.hid (RowS.of (K := 6) HOT.out (by omega))
          clear HOT HS HW pT
          go_wp2_with fail
          obtain ⟨ad9, cap9, e9, hl9, hrow9, hsy9⟩ := HRT.out
          injection e9 with e9 _ f9
          subst e9; subst f9
          have HO9 := Lib.hid hrow9
          clear hrow9 hsy9
          refine (one_c 8 c _ wT HT.out (by omega)).mono ?_
          rintro e w6 ⟨b, rfl, hcu, hch⟩
          have H6 := Lib.hid hcu; have F6 := Lib.hid (FT.out.trans hch)
          have R6 := Lib.hid (HRT.out.chg hch (by omega))
          have HO6 := Lib.hid (rowY_chg HO9.out hch (by omega))
          clear hcu hch HO9
          cases b
          case false =>
            have hzG := F6.out.size
            have CG := Lib.hid (stGood_c ad cap l w6 (HO6.out.rd) (by first | omega | simp))
            obtain ⟨u, hu⟩ : ∃ u, starB l = u := ⟨_, rfl⟩
            rw [hu] at CG
            clear hu
            go_wp2_with fail
            refine CG.out.mono ?_
            rintro e w7 ⟨rfl, hw7⟩
            have hz7 := hw7.size
            have H7 := Lib.hid (H6.out.below hw7)
            have F7 := Lib.hid (F6.out.trans (Chg.of_below hw7))
            cases u
            case false =>
              have H8 := Lib.hid (H7.out.below ((Below.refl _ _).alloc (Nat.le_refl _) (.cells #[.int .i64 (-1), .int .i64 0, .int .i64 2, .int .i64 1, .int .i64 0, .int .i64 2] 35)))
              have F8 := Lib.hid (F7.out.trans (Chg.alloc c w7 (.cells #[.int .i64 (-1), .int .i64 0, .int .i64 2, .int .i64 1, .int .i64 0, .int .i64 2] 35)))
              have R8 := Lib.hid (RowS.lit w7 6 w.heap.size 2 [⟨-1, 0, 2⟩, ⟨1, 0, 2⟩] _ rfl rfl (by omega) (by omega) (by omega))
              go_wp2_with fail
              go_ret
              exact ⟨_, _, rfl, R8.out, H8.out.mono (by omega), F8.out⟩
            case true =>
              have R8 := Lib.hid (R6.out.below hw7)
              go_wp2_with fail
              go_ret
              exact ⟨_, _, rfl, R8.out, H7.out.mono (by omega), F7.out⟩
          case true =>
            have H6 := Lib.hid (H6.out.below ((Below.refl _ _).alloc (Nat.le_refl _) (.cells #[.int .i64 (-1), .int .i64 (-1), .int .i64 1, .int .i64 0, .int .i64 1, .int .i64 1, .int .i64 1, .int .i64 0, .int .i64 1] 35)))
            have F6' := Lib.hid (F6.out.trans (Chg.alloc c w6 (.cells #[.int .i64 (-1), .int .i64 (-1), .int .i64 1, .int .i64 0, .int .i64 1, .int .i64 1, .int .i64 1, .int .i64 0, .int .i64 1] 35)))
            have hz6 := F6.out.size
            have R6 := Lib.hid (RowS.lit w6 6 w.heap.size 3 [⟨-1, -1, 1⟩, ⟨0, 1, 1⟩, ⟨1, 0, 1⟩] _ rfl rfl (by omega) (by omega) (by omega))
            have R66 := Lib.hid (RowY.rd (w := w6.alloc (.cells #[.int .i64 (-1), .int .i64 (-1), .int .i64 1, .int .i64 0, .int .i64 1, .int .i64 1, .int .i64 1, .int .i64 0, .int .i64 1] 35)) (B := w.heap.size) (ad := some ⟨w6.heap.size, 0, none⟩) (n := 3) (cap := 3) (l := [⟨-1, -1, 1⟩, ⟨0, 1, 1⟩, ⟨1, 0, 1⟩]) (by
              obtain ⟨_, _, e, _, h, _⟩ := R6.out
              rw [← e] at h
              exact h))
            have hzG := F6'.out.size
            have CG := Lib.hid (stGood_c (some ⟨w6.heap.size, 0, none⟩) 3 [⟨-1, -1, 1⟩, ⟨0, 1, 1⟩, ⟨1, 0, 1⟩] _ (R66.out) (by first | omega | simp))
            obtain ⟨u, hu⟩ : ∃ u, starB [⟨-1, -1, 1⟩, ⟨0, 1, 1⟩, ⟨1, 0, 1⟩] = u := ⟨_, rfl⟩
            rw [hu] at CG
            clear hu
            go_wp2_with fail
            refine CG.out.mono ?_
            rintro e w7 ⟨rfl, hw7⟩
            have hz7 := hw7.size
            have H7 := Lib.hid (H6.out.below hw7)
            have F7 := Lib.hid (F6'.out.trans (Chg.of_below hw7))
            cases u
            case false =>
              have H8 := Lib.hid (H7.out.below ((Below.refl _ _).alloc (Nat.le_refl _) (.cells #[.int .i64 (-1), .int .i64 0, .int .i64 2, .int .i64 1, .int .i64 0, .int .i64 2] 35)))
              have F8 := Lib.hid (F7.out.trans (Chg.alloc c w7 (.cells #[.int .i64 (-1), .int .i64 0, .int .i64 2, .int .i64 1, .int .i64 0, .int .i64 2] 35)))
              have R8 := Lib.hid (RowS.lit w7 6 w.heap.size 2 [⟨-1, 0, 2⟩, ⟨1, 0, 2⟩] _ rfl rfl (by omega) (by omega) (by omega))
              go_wp2_with fail
              go_ret
              exact ⟨_, _, rfl, R8.out, H8.out.mono (by omega), F8.out⟩
            case true =>
              have R8 := Lib.hid (R6.out.below hw7)
              go_wp2_with fail
              go_ret
              exact ⟨_, _, rfl, R8.out, H7.out.mono (by omega), F7.out⟩
        case false =>
          obtain ⟨z0, z1, z2⟩ := pT.at
          have CP := Lib.hid (stPut_c ad cap l ⟨rx, ry, rw'⟩ wT HOT.out.rd HS.out (by omega) (fun a ha => by have := HW.out a ha; omega) (by simp only; omega))
          have hpl := putR_len ⟨rx, ry, rw'⟩ l
          have HPL := Lib.hid hpl; clear hpl
          generalize putR ⟨rx, ry, rw'⟩ l = lP at CP HPL
          unfold ryV at CP
          simp only at CP
          clear HOT HS HW pT
          go_wp2_with fail
          refine CP.out.mono ?_
          rintro e w8 ⟨v8, rfl, hrow8, hb8⟩
          have HRT := Lib.hid (RowS.of (K := 6) (hrow8.mono hzT) (by have := HPL.out; omega))
          have HT8 := Lib.hid (HT.out.below hb8)
          have FT8 := Lib.hid (FT.out.trans (Chg.of_below hb8))
          clear hrow8 hb8 CP HPL HT FT z0 z1 z2
          have HT := HT8; have FT := FT8
          have hzT8 := FT.out.size
          clear HT8 FT8
          obtain ⟨wT, rfl⟩ : ∃ x : World, x = w8 := ⟨_, rfl⟩
          obtain ⟨ad8, cap8, rfl, _⟩ := HRT.out
          go_wp2_with fail
          obtain ⟨ad9, cap9, e9, hl9, hrow9, hsy9⟩ := HRT.out
          injection e9 with e9 _ f9
          subst e9; subst f9
          have HO9 := Lib.hid hrow9
          clear hrow9 hsy9
          refine (one_c 8 c _ wT HT.out (by omega)).mono ?_
          rintro e w6 ⟨b, rfl, hcu, hch⟩
          have H6 := Lib.hid hcu; have F6 := Lib.hid (FT.out.trans hch)
          have R6 := Lib.hid (HRT.out.chg hch (by omega))
          have HO6 := Lib.hid (rowY_chg HO9.out hch (by omega))
          clear hcu hch HO9
          cases b
          case false =>
            have hzG := F6.out.size
            have CG := Lib.hid (stGood_c ad8 cap8 lP w6 (HO6.out.rd) (by first | omega | simp))
            obtain ⟨u, hu⟩ : ∃ u, starB lP = u := ⟨_, rfl⟩
            rw [hu] at CG
            clear hu
            go_wp2_with fail
            refine CG.out.mono ?_
            rintro e w7 ⟨rfl, hw7⟩
            have hz7 := hw7.size
            have H7 := Lib.hid (H6.out.below hw7)
            have F7 := Lib.hid (F6.out.trans (Chg.of_below hw7))
            cases u
            case false =>
              have H8 := Lib.hid (H7.out.below ((Below.refl _ _).alloc (Nat.le_refl _) (.cells #[.int .i64 (-1), .int .i64 0, .int .i64 2, .int .i64 1, .int .i64 0, .int .i64 2] 35)))
              have F8 := Lib.hid (F7.out.trans (Chg.alloc c w7 (.cells #[.int .i64 (-1), .int .i64 0, .int .i64 2, .int .i64 1, .int .i64 0, .int .i64 2] 35)))
              have R8 := Lib.hid (RowS.lit w7 6 w.heap.size 2 [⟨-1, 0, 2⟩, ⟨1, 0, 2⟩] _ rfl rfl (by omega) (by omega) (by omega))
              go_wp2_with fail
              go_ret
              exact ⟨_, _, rfl, R8.out, H8.out.mono (by omega), F8.out⟩
            case true =>
              have R8 := Lib.hid (R6.out.below hw7)
              go_wp2_with fail
              go_ret
              exact ⟨_, _, rfl, R8.out, H7.out.mono (by omega), F7.out⟩
          case true =>
            have H6 := Lib.hid (H6.out.below ((Below.refl _ _).alloc (Nat.le_refl _) (.cells #[.int .i64 (-1), .int .i64 (-1), .int .i64 1, .int .i64 0, .int .i64 1, .int .i64 1, .int .i64 1, .int .i64 0, .int .i64 1] 35)))
            have F6' := Lib.hid (F6.out.trans (Chg.alloc c w6 (.cells #[.int .i64 (-1), .int .i64 (-1), .int .i64 1, .int .i64 0, .int .i64 1, .int .i64 1, .int .i64 1, .int .i64 0, .int .i64 1] 35)))
            have hz6 := F6.out.size
            have R6 := Lib.hid (RowS.lit w6 6 w.heap.size 3 [⟨-1, -1, 1⟩, ⟨0, 1, 1⟩, ⟨1, 0, 1⟩] _ rfl rfl (by omega) (by omega) (by omega))
            have R66 := Lib.hid (RowY.rd (w := w6.alloc (.cells #[.int .i64 (-1), .int .i64 (-1), .int .i64 1, .int .i64 0, .int .i64 1, .int .i64 1, .int .i64 1, .int .i64 0, .int .i64 1] 35)) (B := w.heap.size) (ad := some ⟨w6.heap.size, 0, none⟩) (n := 3) (cap := 3) (l := [⟨-1, -1, 1⟩, ⟨0, 1, 1⟩, ⟨1, 0, 1⟩]) (by
              obtain ⟨_, _, e, _, h, _⟩ := R6.out
              rw [← e] at h
              exact h))
            have hzG := F6'.out.size
            have CG := Lib.hid (stGood_c (some ⟨w6.heap.size, 0, none⟩) 3 [⟨-1, -1, 1⟩, ⟨0, 1, 1⟩, ⟨1, 0, 1⟩] _ (R66.out) (by first | omega | simp))
            obtain ⟨u, hu⟩ : ∃ u, starB [⟨-1, -1, 1⟩, ⟨0, 1, 1⟩, ⟨1, 0, 1⟩] = u := ⟨_, rfl⟩
            rw [hu] at CG
            clear hu
            go_wp2_with fail
            refine CG.out.mono ?_
            rintro e w7 ⟨rfl, hw7⟩
            have hz7 := hw7.size
            have H7 := Lib.hid (H6.out.below hw7)
            have F7 := Lib.hid (F6'.out.trans (Chg.of_below hw7))
            cases u
            case false =>
              have H8 := Lib.hid (H7.out.below ((Below.refl _ _).alloc (Nat.le_refl _) (.cells #[.int .i64 (-1), .int .i64 0, .int .i64 2, .int .i64 1, .int .i64 0, .int .i64 2] 35)))
              have F8 := Lib.hid (F7.out.trans (Chg.alloc c w7 (.cells #[.int .i64 (-1), .int .i64 0, .int .i64 2, .int .i64 1, .int .i64 0, .int .i64 2] 35)))
              have R8 := Lib.hid (RowS.lit w7 6 w.heap.size 2 [⟨-1, 0, 2⟩, ⟨1, 0, 2⟩] _ rfl rfl (by omega) (by omega) (by omega))
              go_wp2_with fail
              go_ret
              exact ⟨_, _, rfl, R8.out, H8.out.mono (by omega), F8.out⟩
            case true =>
              have R8 := Lib.hid (R6.out.below hw7)
              go_wp2_with fail
              go_ret
              exact ⟨_, _, rfl, R8.out, H7.out.mono (by omega), F7.out⟩

end Go.Proofs.Ytlplodkabeiimaa
