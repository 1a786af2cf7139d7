/-
  Plane polynomials that the cursor draws. Printed by gen_plM.py.
-/
import Derived.Test.YtcionneopgdebaaGreatPlJ
import Derived.Test.YtcionneopgdebaaGreatLaws
import Derived.Test.YtcionneopgdebaaGreatRowI
import Derived.Deep.DeepCutAuto
namespace Go.Proofs.YtcionneopgdebaaGreat
open Go.RowKit

/-- A small valid term. -/
def SmT (t : Tm) : Prop := 0 ≤ t.i ∧ 0 ≤ t.j ∧ t.i + t.j ≤ 3 ∧ -4 ≤ t.c ∧ t.c ≤ 8
def AllS (l : List Tm) : Prop := ∀ t ∈ l, SmT t
theorem AllS.nil : AllS [] := fun _ h => by cases h
theorem AllS.snoc {l : List Tm} {t : Tm} (h : AllS l) (ht : SmT t) : AllS (l ++ [t]) := fun x hx => by
  rcases List.mem_append.1 hx with h1 | h1
  · exact h x h1
  · simp at h1; subst h1; exact ht
theorem AllS.put {t : Tm} (ht : SmT t) : ∀ {l : List Tm}, AllS l → AllS (putT l t)
  | [], _ => fun x hx => by simp [putT] at hx; subst hx; exact ht
  | a :: r, h => by
    have ha := h a (by simp)
    have hr : AllS r := fun x hx => h x (List.mem_cons_of_mem _ hx)
    rw [putT]
    split
    · intro x hx
      rcases List.mem_cons.1 hx with e | e
      · subst e; exact ha
      · exact AllS.put ht hr x e
    · split
      · intro x hx
        rcases List.mem_cons.1 hx with e | e
        · subst e; exact ht
        · exact h x e
      · intro x hx
        rcases List.mem_cons.1 hx with e | e
        · subst e
          unfold SmT at *
          simp only
          omega
        · exact hr x e
theorem putT_len : ∀ (l : List Tm) (t : Tm), (putT l t).length ≤ l.length + 1
  | [], t => by simp [putT]
  | a :: r, t => by
    have := putT_len r t
    rw [putT]
    split
    · simp only [List.length_cons]; omega
    · split
      · simp only [List.length_cons]; omega
      · simp only [List.length_cons]; omega
theorem putT_pos : ∀ (l : List Tm) (t : Tm), 0 < (putT l t).length
  | [], t => by simp [putT]
  | a :: r, t => by
    rw [putT]
    split
    · simp
    · split <;> simp
/-- What a draw of terms gives. -/
def PlnD (P : List Tm → Prop) (c n : Nat) (w : World) (e : Ending) (w' : World) : Prop := ∃ (v : Value) (l : List Tm), e = .returned v ∧ RowT w' w.heap.size v l ∧ P l ∧ Cur w' c n ∧ Chg c w w'
def GdP (l : List Tm) : Prop := l.length ≤ 12 ∧ 0 < l.length ∧ AllS l
theorem RowT.lit (w : World) (B n : Nat) (l : List Tm) (cs : Array Value) (hc : cs.toList = tmsV l) (hn : l.length = n) (hl : n ≤ 100) (hB : B ≤ w.heap.size) : RowT (w.alloc (.cells cs 73)) B (.slice (some ⟨w.heap.size, 0, none⟩) n n) l := by
  subst hn
  have := World.ownsRow_lit (e := 73) (size := 3) w cs l.length hB (by unfold maxLen; omega) (by rw [← Array.length_toList, hc, tmsV_length])
  rw [hc] at this
  exact this

set_option maxHeartbeats 6400000 in
set_option maxRecDepth 100000 in
theorem plane_c (c n : Nat) (w : World) (h : Cur w c n) (hn : n ≤ 4611686018427300000) :
    Calls Tryz.prog 45 #[.pointer (some ⟨c, 0, none⟩)] w (PlnD GdP c (n + 100) w) := by
  have hcl := h.lt
  have H := Lib.hid h; clear h
  go_enter Tryz.func45, Tryz.ntmps45
  have HF1 := Lib.hid (Chg.refl c w)
  go_wp2_with fail
  have HU2 := Lib.hid (H.out.below ((Below.refl _ _).alloc (Nat.le_refl _) (.cells #[.int .i64 1, .int .i64 2, .int .i64 2, .int .i64 3] 3)))
  have HF2 := Lib.hid (HF1.out.trans (Chg.alloc c w (.cells #[.int .i64 1, .int .i64 2, .int .i64 2, .int .i64 3] 3)))
  refine (among_c w.heap.size 4 [1, 2, 2, 3] c n (w.alloc (.cells #[.int .i64 1, .int .i64 2, .int .i64 2, .int .i64 3] 3)) HU2.out (by omega) (by simp) (by simp) (by omega) (Own.newA w _ 3 rfl)).mono ?_
  rintro e w3 ⟨x, rfl, hx, hcu, hch⟩
  have hxm : 1 ≤ x ∧ x ≤ 3 := by simp at hx; omega
  obtain ⟨M, rfl⟩ : ∃ M : Nat, x = M := ⟨x.toNat, by omega⟩
  have hM : 1 ≤ M ∧ M ≤ 3 := by omega
  clear hx hxm
  have HU3 := Lib.hid hcu; have HF3 := Lib.hid (HF2.out.trans hch)
  clear hcu hch HU2 HF2 H
  go_wp2_with fail
  refine (pick_c 6 c (n + 2) w3 HU3.out (by omega)).mono ?_
  rintro e w4 ⟨x, rfl, hx, hcu, hch⟩
  have HU4 := Lib.hid hcu; have HF4 := Lib.hid (HF3.out.trans hch)
  clear hcu hch HU3 HF3
  obtain ⟨N, hN⟩ : ∃ N : Nat, 1 + x = N := ⟨(1 + x).toNat, by omega⟩
  have eN : IntKind.i64.wrap (1 + x) = (N : Int) := by rw [hN]; exact i64_small (by omega) (by omega)
  have hNb : 1 ≤ N ∧ N ≤ 6 := by omega
  clear hN hx
  go_wp2_with fail
  clear eN
  go_loopw [3, 5] (fun v i wr => ∃ (k : Nat) (l : List Tm), k ≤ N ∧ i = .int .i64 k ∧ RowT wr w.heap.size v l ∧ l.length ≤ N - k ∧ (k < N → 0 < l.length) ∧ AllS l ∧ Cur wr c (n + 4 + 6 * (N - k)) ∧ Chg c w wr) (fun _ i _ => (intOf i).toNat)
  case atStart => exact ⟨N, [], Nat.le_refl _, rfl, RowT.nil _ _, by simp, fun h => by omega, AllS.nil, HU4.out.mono (by omega), HF4.out⟩
  case round =>
    obtain ⟨wE, rfl⟩ : ∃ x : World, x = wr := ⟨_, rfl⟩
    obtain ⟨k, l, hk, rfl, hrow, hll, hpos, hall, hcu, hch⟩ := hrel
    obtain ⟨adv, cv, rfl, hst, hrd⟩ := hrow.full
    have HO := Lib.hid hrow; have HA := Lib.hid hall; have HU := Lib.hid hcu; have HF := Lib.hid hch; have HST := Lib.hid hst
    have hz := hch.size
    clear hrow hall hcu hch hst hrd HU4 HF4 HF1
    by_cases hlt : 0 < k
    case pos =>
      have g1 : decide ((k : Int) > 0) = true := decide_eq_true (by omega)
      have g2 : decide ((0 : Int) < (k : Int)) = true := decide_eq_true (by omega)
      have e1 : IntKind.i64.wrap ((M : Int) + 1) = (M : Int) + 1 := i64_small (by omega) (by omega)
      have e2 : IntKind.i64.wrap ((k : Int) - 1) = (k : Int) - 1 := i64_small (by omega) (by omega)
      go_wp2_with fail
      refine (pick_c ((M : Int) + 1) c _ wE HU.out (by omega)).mono ?_
      rintro e w5 ⟨x, rfl, hx, hcu, hch⟩
      have HU5 := Lib.hid hcu; have HF5 := Lib.hid (HF.out.trans hch); have HO5 := Lib.hid (row_chg HO.out hch (by omega))
      have hz5 := HF5.out.size
      clear hcu hch HU HF HO
      have e3 : IntKind.i64.wrap ((M : Int) + 1 - x) = (M : Int) + 1 - x := i64_small (by omega) (by omega)
      go_wp2_with fail
      refine (pick_c ((M : Int) + 1 - x) c _ w5 HU5.out (by omega)).mono ?_
      rintro e w6 ⟨y, rfl, hy, hcu, hch⟩
      have HU6 := Lib.hid hcu; have HF6 := Lib.hid (HF5.out.trans hch); have HO6 := Lib.hid (row_chg HO5.out hch (by omega))
      have hz6 := HF6.out.size
      clear hcu hch HU5 HF5 HO5
      go_wp2_with fail
      refine (small_c c _ w6 HU6.out (by omega)).mono ?_
      rintro e w7 ⟨z, rfl, hzz, hcu, hch⟩
      have HU7 := Lib.hid hcu; have HF7 := Lib.hid (HF6.out.trans hch); have HO7 := Lib.hid (show RowT w7 w.heap.size _ l from row_chg HO6.out hch (by omega))
      have hz7 := HF7.out.size
      clear hcu hch HU6 HF6 HO6
      have hsm : SmT ⟨x, y, z⟩ := by unfold SmT; simp only; omega
      have CP := plPut_c adv cv l ⟨x, y, z⟩ w7 (RowT.rd HO7.out) HST.out (by omega)
      have hpl := putT_len l ⟨x, y, z⟩
      have hpp := putT_pos l ⟨x, y, z⟩
      have HAP := Lib.hid (HA.out.put hsm)
      generalize putT l ⟨x, y, z⟩ = lP at CP hpl hpp HAP
      unfold tmV at CP
      have CP := Lib.hid CP
      clear HST HO7 HA hx hy hzz hsm
      go_wp2_with fail
      refine CP.out.mono ?_
      rintro e w8 ⟨v8, rfl, hrow, hb⟩
      have HR8 := Lib.hid (hrow.mono hz7)
      have HU8 := Lib.hid (HU7.out.below hb)
      have HF8 := Lib.hid (HF7.out.trans (Chg.of_below hb))
      clear hrow hb HU7 HF7 CP
      go_wp2_with fail
      go_roundw
      case rel => exact ⟨k - 1, lP, by omega, by go_num, HR8.out, by omega, fun _ => hpp, HAP.out, HU8.out.mono (by omega), HF8.out⟩
      case measure => simp [intOf]; omega
    case neg =>
      have g1 : decide ((k : Int) > 0) = false := decide_eq_false (by omega)
      have g2 : decide ((0 : Int) < (k : Int)) = false := decide_eq_false (by omega)
      obtain rfl : k = 0 := by omega
      have hpos := hpos (by omega)
      go_wp2_with fail
      refine (one_c 3 c _ wE HU.out (by omega)).mono ?_
      rintro e w5 ⟨b, rfl, hcu, hch⟩
      have HU5 := Lib.hid (hcu.mono (show _ ≤ n + 42 by omega)); have HF5 := Lib.hid (HF.out.trans hch); have HO5 := Lib.hid (show RowT w5 w.heap.size _ l from row_chg HO.out hch (by omega))
      have hz5 := HF5.out.size
      clear hcu hch HU HF HO HST
      cases b
      case false =>
        go_wp2_with fail
        go_ret
        exact ⟨_, l, rfl, HO5.out, ⟨by omega, hpos, HA.out⟩, HU5.out.mono (by omega), HF5.out⟩
      case true =>
        clear HA hll hpos HO5
        go_wp2_with fail
        go_loopw [3, 7] (fun v i wr => ∃ (k : Nat) (l : List Tm), k ≤ M + 1 ∧ i = .int .i64 k ∧ RowT wr w.heap.size v l ∧ l.length ≤ 4 * k ∧ (0 < k → 0 < l.length) ∧ (M = 3 → k = 0) ∧ AllS l ∧ Cur wr c (n + 42 + 8 * k) ∧ Chg c w wr) (fun _ i _ => M + 1 - (intOf i).toNat)
        case atStart => exact ⟨0, [], by omega, rfl, RowT.nil _ _, by simp, fun h => by omega, fun _ => rfl, AllS.nil, HU5.out.mono (by omega), HF5.out⟩
        case round =>
          obtain ⟨wE, rfl⟩ : ∃ x : World, x = wr := ⟨_, rfl⟩
          obtain ⟨k, l, hk, rfl, hrow, hll, hpos, hM3, hall, hcu, hch⟩ := hrel
          have HO := Lib.hid hrow; have HA := Lib.hid hall; have HU := Lib.hid hcu; have HF := Lib.hid hch
          have hz := hch.size
          clear hrow hall hcu hch HU5 HF5
          by_cases hin : k ≤ M ∧ M < 3
          case pos =>
            have g1 : decide ((k : Int) ≤ (M : Int)) = true := decide_eq_true (by omega)
            have g2 : decide ((M : Int) < 3) = true := decide_eq_true (by omega)
            go_wp2_with fail
            go_loopw [3, 8] (fun v i wr => ∃ (j : Nat) (l : List Tm), i = .int .i64 j ∧ k + j ≤ M + 1 ∧ RowT wr w.heap.size v l ∧ l.length ≤ 4 * k + j ∧ (0 < k + j → 0 < l.length) ∧ AllS l ∧ Cur wr c (n + 42 + 8 * k + 2 * j) ∧ Chg c w wr) (fun _ i _ => M + 1 - (intOf i).toNat)
            case atStart => exact ⟨0, l, rfl, by omega, HO.out, by omega, fun h => hpos (by omega), HA.out, HU.out.mono (by omega), HF.out⟩
            case round =>
              obtain ⟨wF, rfl⟩ : ∃ x : World, x = wr := ⟨_, rfl⟩
              obtain ⟨j, l2, rfl, hj, hrow, hll2, hpos2, hall, hcu, hch⟩ := hrel
              have HO2 := Lib.hid hrow; have HA2 := Lib.hid hall; have HU2 := Lib.hid hcu; have HF2 := Lib.hid hch
              have hz2 := hch.size
              clear hrow hall hcu hch
              have e1 : IntKind.i64.wrap ((k : Int) + (j : Int)) = (k : Int) + (j : Int) := i64_small (by omega) (by omega)
              by_cases hlj : k + j ≤ M
              case pos =>
                have g3 : decide ((k : Int) + (j : Int) ≤ (M : Int)) = true := decide_eq_true (by omega)
                obtain ⟨ad2, cap2, rfl, -⟩ := HO2.out.shape
                go_wp2_with fail
                refine (small_c c _ wF HU2.out (by omega)).mono ?_
                rintro e w7 ⟨z, rfl, hzz, hcu, hch⟩
                have HU7 := Lib.hid hcu; have HF7 := Lib.hid (HF2.out.trans hch); have HO7 := Lib.hid (show RowT w7 w.heap.size _ l2 from row_chg HO2.out hch (by omega))
                have hz7 := HF7.out.size
                have hsm : SmT ⟨k, j, z⟩ := by unfold SmT; simp only; omega
                have HAP := Lib.hid (HA2.out.snoc hsm)
                clear hcu hch HU2 HF2 HO2 HA2 hsm hzz e1
                go_wp2_with (at_builtin; refine wpList_appT rfl _ _ rfl w.heap.size _ _ l2 [⟨k, j, z⟩] rfl rfl HO7.out.alloc' (readsY_one _ _ _ _ _ (by simp)) (by omega) (by simp) (by simp; omega) ?_; intro ad5 cap5 N5 wm hN5 hown hbm hgr)
                have HU8 := Lib.hid ((HU7.out.below ((Below.refl _ _).alloc (Nat.le_refl _) _)).under hbm (by omega))
                have HF8 := Lib.hid ((HF7.out.trans (Chg.alloc c w7 _)).under hbm (by omega) hgr)
                rw [hN5] at hown
                have HOW := Lib.hid hown
                clear hown hbm hgr hN5 HU7 HF7 HO7
                go_roundw
                case rel => exact ⟨j + 1, l2 ++ [⟨k, j, z⟩], by go_num, by omega, HOW.out, by simp; omega, fun _ => by simp, HAP.out, HU8.out.mono (by omega), HF8.out⟩
                case measure => simp [intOf]; omega
              case neg =>
                have g3 : decide ((k : Int) + (j : Int) ≤ (M : Int)) = false := decide_eq_false (by omega)
                go_wp2_with fail
                go_roundw
                case rel => exact ⟨k + 1, l2, by omega, by go_num, HO2.out, by omega, fun _ => hpos2 (by omega), fun h => by omega, HA2.out, HU2.out.mono (by omega), HF2.out⟩
                case measure => simp [intOf]; omega
          case neg =>
            by_cases h3 : M = 3
            case pos =>
              subst h3
              obtain rfl := hM3 rfl
              go_wp2_with fail
              refine (small_c c _ wE HU.out (by omega)).mono ?_
              rintro e w6 ⟨z1, rfl, hz1, hcu, hch⟩
              have HU6 := Lib.hid hcu; have HF6 := Lib.hid (HF.out.trans hch)
              clear hcu hch HU HF
              go_wp2_with fail
              refine (small_c c _ w6 HU6.out (by omega)).mono ?_
              rintro e w7 ⟨z2, rfl, hz2, hcu, hch⟩
              have HU7 := Lib.hid hcu; have HF7 := Lib.hid (HF6.out.trans hch)
              clear hcu hch HU6 HF6
              go_wp2_with fail
              refine (small_c c _ w7 HU7.out (by omega)).mono ?_
              rintro e w8 ⟨z3, rfl, hz3, hcu, hch⟩
              have HU8 := Lib.hid hcu; have HF8 := Lib.hid (HF7.out.trans hch)
              have hz8 := HF8.out.size
              clear hcu hch HU7 HF7
              have HR9 := Lib.hid (RowT.lit w8 w.heap.size 3 [⟨0, 0, z1⟩, ⟨0, 1, z2⟩, ⟨1, 0, z3⟩] #[.int .i64 0, .int .i64 0, .int .i64 z1, .int .i64 0, .int .i64 1, .int .i64 z2, .int .i64 1, .int .i64 0, .int .i64 z3] rfl rfl (by omega) hz8)
              have HU9 := Lib.hid (HU8.out.below ((Below.refl _ _).alloc (Nat.le_refl _) (.cells #[.int .i64 0, .int .i64 0, .int .i64 z1, .int .i64 0, .int .i64 1, .int .i64 z2, .int .i64 1, .int .i64 0, .int .i64 z3] 73)))
              have HF9 := Lib.hid (HF8.out.trans (Chg.alloc c w8 (.cells #[.int .i64 0, .int .i64 0, .int .i64 z1, .int .i64 0, .int .i64 1, .int .i64 z2, .int .i64 1, .int .i64 0, .int .i64 z3] 73)))
              have HA9 := Lib.hid (show AllS [⟨0, 0, z1⟩, ⟨0, 1, z2⟩, ⟨1, 0, z3⟩] from fun t ht => by
                unfold SmT
                simp at ht
                rcases ht with h | h | h <;> (subst h; simp only; omega))
              go_wp2_with fail
              go_ret
              exact ⟨_, _, rfl, HR9.out, ⟨by simp, by simp, HA9.out⟩, HU9.out.mono (by omega), HF9.out⟩
            case neg =>
              obtain rfl : k = M + 1 := by omega
              have hpos := hpos (by omega)
              have g1 : decide (((M + 1 : Nat) : Int) ≤ (M : Int)) = false := decide_eq_false (by omega)
              have g1' : decide ((M : Int) + 1 ≤ (M : Int)) = false := decide_eq_false (by omega)
              have g4 : ((M : Int) == 3) = false := beq_eq_false_iff_ne.2 (by omega)
              go_wp2_with fail
              go_ret
              exact ⟨_, l, rfl, HO.out, ⟨by omega, hpos, HA.out⟩, HU.out.mono (by omega), HF.out⟩


theorem tmsV_set2 : ∀ (l : List Tm) (j : Nat) (x : Int), j < l.length → tmsV (l.set j ⟨(l.getD j default).i, (l.getD j default).j, x⟩) = (tmsV l).set (j * 3 + 2) (.int .i64 x)
  | a :: l, 0, x, _ => by simp [tmsV_cons]
  | a :: l, j + 1, x, h => by
    have ih := tmsV_set2 l j x (by simpa using h)
    rw [List.getD_cons_succ, List.set_cons_succ, tmsV_cons, ih, tmsV_cons, show (j + 1) * 3 + 2 = (j * 3 + 2) + 1 + 1 + 1 by omega, List.set_cons_succ, List.set_cons_succ, List.set_cons_succ]
theorem RowT.set2 {w : World} {B g cap : Nat} {l : List Tm} (h : RowT w B (.slice (some ⟨g, 0, none⟩) l.length cap) l) {j : Nat} (hj : j < l.length) (x : Int) :
    RowT (w.setCell ⟨g, j * 3 + 2, none⟩ (.int .i64 x)) B (.slice (some ⟨g, 0, none⟩) l.length cap) (l.set j ⟨(l.getD j default).i, (l.getD j default).j, x⟩) :=
  rowT_congr (World.ownsRow.stored h (j * 3 + 2) (.int .i64 x)).1 (by simp) (tmsV_set2 l j x hj).symm
theorem RowT.own {w : World} {B : Nat} {v : Value} {l : List Tm} (h : RowT w B v l) (h0 : 0 < l.length) : ∃ g cap, v = .slice (some ⟨g, 0, none⟩) l.length cap ∧ B ≤ g ∧ g < w.heap.size := by
  rcases h.2 with ⟨e, e2⟩ | ⟨g, cap, cur, e, hb, hg, h1, h2, _⟩
  · omega
  · exact ⟨g, cap, e, hb, (Array.getElem?_eq_some_iff.1 hg).1⟩
def LnP (l : List Tm) : Prop := l.length ≤ 13

set_option maxHeartbeats 6400000 in
set_option maxRecDepth 100000 in
theorem anyPlane_c (c n : Nat) (w : World) (h : Cur w c n) (hn : n ≤ 4611686018427200000) :
    Calls Tryz.prog 24 #[.pointer (some ⟨c, 0, none⟩)] w (PlnD LnP c (n + 200) w) := by
  have hcl := h.lt
  have H := Lib.hid h; clear h
  obtain ⟨iT, hiT0, hiT1, hiT2, hiT3⟩ := info_parts Tryz.infoT
  have HF1 := Lib.hid (Chg.refl c w)
  go_enter Tryz.func24, Tryz.ntmps24
  go_wp2_with fail
  refine (plane_c c n w H.out (by omega)).mono ?_
  rintro e w2 ⟨v0, l, rfl, hrow, ⟨hll, hlt, -⟩, hcu, hch⟩
  obtain ⟨g, cap, rfl, hBg, -⟩ := hrow.own hlt
  have HU3 := Lib.hid hcu; clear hcu
  have HF4 := Lib.hid (HF1.out.trans hch)
  clear hch
  have hz5 := HF4.out.size
  have HR6 := Lib.hid hrow; clear hrow
  go_wp2_with fail
  refine (pick_c 24 c (n + 100) w2 HU3.out (by omega)).mono ?_
  rintro e w8 ⟨x7, rfl, hp9, hcu, hch⟩
  have HU10 := Lib.hid hcu; clear hcu
  have HF11 := Lib.hid (HF4.out.trans hch)
  have HR12 := Lib.hid (row_chg HR6.out hch (by omega))
  clear hch
  have hz13 := HF11.out.size
  by_cases h1 : x7 = 0
  case pos =>
    subst h1
    clear hp9
    go_wp2_with fail
    have HU17 := Lib.hid (HU10.out.below ((Below.refl _ _).alloc (Nat.le_refl _) (.cells #[.int .i64 6, .int .i64 7, .int .i64 0, .int .i64 (-1)] 3)))
    have hl18 := HU10.out.lt
    have HF19 := Lib.hid (HF11.out.trans (Chg.alloc c w8 (.cells #[.int .i64 6, .int .i64 7, .int .i64 0, .int .i64 (-1)] 3)))
    have HR20 := Lib.hid (row_below HR12.out ((Below.refl _ _).alloc (Nat.le_refl _) (.cells #[.int .i64 6, .int .i64 7, .int .i64 0, .int .i64 (-1)] 3)))
    refine (among_c w8.heap.size 4 [6, 7, 0, (-1)] c (n + 102) (w8.alloc (.cells #[.int .i64 6, .int .i64 7, .int .i64 0, .int .i64 (-1)] 3)) HU17.out (by omega) (by simp) (by simp) (by omega) (Own.newA w8 _ 3 rfl)).mono ?_
    rintro e w15 ⟨x14, rfl, hx, hcu, hch⟩
    clear hx
    have HU21 := Lib.hid hcu; clear hcu
    have HF22 := Lib.hid (HF19.out.trans hch)
    have HR23 := Lib.hid (row_chg HR20.out hch (by omega))
    clear hch
    have hz24 := HF22.out.size
    go_wp2_with fail
    refine (pick_c 2 c (n + 104) w15 HU21.out (by omega)).mono ?_
    rintro e w26 ⟨x25, rfl, hp27, hcu, hch⟩
    have HU28 := Lib.hid hcu; clear hcu
    have HF29 := Lib.hid (HF22.out.trans hch)
    have HR30 := Lib.hid (row_chg HR23.out hch (by omega))
    clear hch
    have hz31 := HF29.out.size
    go_wp2_with fail
    refine (place_c c (n + 106) w26 HU28.out (by omega)).mono ?_
    rintro e w33 ⟨x32, rfl, -, hcu, hch⟩
    have HU34 := Lib.hid hcu; clear hcu
    have HF35 := Lib.hid (HF29.out.trans hch)
    have HR36 := Lib.hid (row_chg HR30.out hch (by omega))
    clear hch
    have hz37 := HF35.out.size
    go_wp2_with (at_builtin; refine wpList_append_lies _ rfl _ _ 24 rfl w.heap.size 73 iT _ 3 24 Tryz.underlying24 hiT0 hiT1 hiT2 hiT3 rfl (by omega) (.slice (some ⟨g, 0, none⟩) l.length cap) l.length (tmsV l) rfl (HR36.out.alloc _) ⟨w33.heap.size, 0, none⟩ 1 1 [.int .i64 x14, .int .i64 x25, .int .i64 x32] rfl rfl (World.news_of_block (cs := #[.int .i64 x14, .int .i64 x25, .int .i64 x32]) (t := 73) (fr := (0, 0)) (heap_alloc_new _ _)) (by simp [Value.oneCell']) (by omega) (by unfold maxLen; omega) (by omega) (by simp; omega) (w33.heap.size + 1) (by simp) ?_; intro g38 cap39 w40 hown hgrow hat hltx; clear hat)
    have hb41 := app_below (Below.refl w.heap.size w33) (by omega) HR36.out hgrow
    have hz42 : w33.heap.size ≤ w40.heap.size := by have := hgrow.size; simp at this; omega
    have HR43 := Lib.hid (row_congr (ys := tmsV (l ++ [(⟨x14, x25, x32⟩ : Tm)])) hown (m := (l ++ [(⟨x14, x25, x32⟩ : Tm)]).length) (by simp) (by simp [tmsV])); clear hown
    clear hgrow
    have HU44 := Lib.hid (HU34.out.under hb41 (by omega))
    have HF45 := Lib.hid (HF35.out.under hb41 (by omega) hz42)
    clear hb41
    go_wp2_with fail
    go_ret
    exact ⟨_, l ++ [(⟨x14, x25, x32⟩ : Tm)], rfl, (by exact HR43.out), (by unfold LnP; (try simp) <;> omega), HU44.out.mono (by omega), HF45.out⟩
  case neg =>
    have e1 : (x7 == 0) = false := beq_eq_false_iff_ne.2 h1
    by_cases h2 : x7 = 1
    case pos =>
      subst h2
      clear e1 h1 hp9
      go_wp2_with fail
      refine (pick_c 2 c (n + 102) w8 HU10.out (by omega)).mono ?_
      rintro e w47 ⟨x46, rfl, hp48, hcu, hch⟩
      have HU49 := Lib.hid hcu; clear hcu
      have HF50 := Lib.hid (HF11.out.trans hch)
      have HR51 := Lib.hid (row_chg HR12.out hch (by omega))
      clear hch
      have hz52 := HF50.out.size
      obtain ⟨N, hN⟩ : ∃ N : Nat, 12 + x46 = N := ⟨(12 + x46).toNat, by omega⟩
      have eN : IntKind.i64.wrap (12 + x46) = (N : Int) := by rw [hN]; exact i64_small (by omega) (by omega)
      have hN4 : N ≤ 13 := by omega
      clear hp48 hN
      go_wp2_with fail
      clear eN
      go_loopw [3] (fun v wr => ∃ xs : List Tm, xs.length ≤ N ∧ RowT wr w.heap.size v xs ∧ Cur wr c ((n + 104) + 2 * xs.length) ∧ Chg c w wr) (fun v _ => N - slen v)
      case atStart => exact ⟨[], by simp, RowT.nil _ _, HU49.out, HF50.out⟩
      case round =>
        obtain ⟨xs, hxs, hrow, hcu, hch⟩ := hrel
        obtain ⟨ad1, cap1, rfl, -⟩ := hrow.shape
        have HR := Lib.hid hrow; clear hrow
        have HU := Lib.hid hcu; clear hcu
        have HF := Lib.hid hch; clear hch
        have hsz := HF.out.size
        obtain ⟨wo, rfl⟩ : ∃ wo : World, wo = wr := ⟨_, rfl⟩
        by_cases hlx : xs.length < N
        case pos =>
          have g1 : decide ((xs.length : Int) < (N : Int)) = true := decide_eq_true (by omega)
          obtain ⟨q, hq⟩ : ∃ q, Int.tdiv (xs.length : Int) 3 = q := ⟨_, rfl⟩
          obtain ⟨r, hr⟩ : ∃ r, Int.tmod (xs.length : Int) 3 = r := ⟨_, rfl⟩
          have hqb : q = ((xs.length / 3 : Nat) : Int) := by rw [← hq]; rfl
          have hqe : IntKind.i64.wrap q = q := i64_small (by omega) (by omega)
          have hrb : r = ((xs.length % 3 : Nat) : Int) := by rw [← hr]; rfl
          have hre : IntKind.i64.wrap r = r := i64_small (by omega) (by omega)
          clear hqb hrb
          go_wp2_with fail
          refine (small_c c _ wo HU.out (by omega)).mono ?_
          rintro e w54 ⟨x53, rfl, -, hcu, hch⟩
          have HU55 := Lib.hid hcu; clear hcu
          have HF56 := Lib.hid (HF.out.trans hch)
          have HR57 := Lib.hid (row_chg HR.out hch (by omega))
          clear hch
          have hz58 := HF56.out.size
          go_wp2_with (at_builtin; refine wpList_append_lies _ rfl _ _ 24 rfl w.heap.size 73 iT _ 3 24 Tryz.underlying24 hiT0 hiT1 hiT2 hiT3 rfl (by omega) (.slice ad1 xs.length cap1) xs.length (tmsV xs) rfl (HR57.out.alloc _) ⟨w54.heap.size, 0, none⟩ 1 1 [.int .i64 q, .int .i64 r, .int .i64 x53] rfl rfl (World.news_of_block (cs := #[.int .i64 q, .int .i64 r, .int .i64 x53]) (t := 73) (fr := (0, 0)) (heap_alloc_new _ _)) (by simp [Value.oneCell']) (by omega) (by unfold maxLen; omega) (by omega) (by simp; omega) (w54.heap.size + 1) (by simp) ?_; intro g59 cap60 w61 hown hgrow hat hltx; clear hat)
          have hb62 := app_below (Below.refl w.heap.size w54) (by omega) HR57.out hgrow
          have hz63 : w54.heap.size ≤ w61.heap.size := by have := hgrow.size; simp at this; omega
          have HR64 := Lib.hid (row_congr (ys := tmsV (xs ++ [(⟨q, r, x53⟩ : Tm)])) hown (m := (xs ++ [(⟨q, r, x53⟩ : Tm)]).length) (by simp) (by simp [tmsV])); clear hown
          clear hgrow
          have HU65 := Lib.hid (HU55.out.under hb62 (by omega))
          have HF66 := Lib.hid (HF56.out.under hb62 (by omega) hz63)
          clear hb62
          go_roundw
          case rel => exact ⟨xs ++ [(⟨q, r, x53⟩ : Tm)], by simp; omega, HR64.out, HU65.out.mono (by simp; omega), HF66.out⟩
          case measure => (simp [slen]; omega)
        case neg =>
          have g1 : decide ((xs.length : Int) < (N : Int)) = false := decide_eq_false (by omega)
          go_wp2_with fail
          go_ret
          exact ⟨_, xs, rfl, (by exact HR.out), (by unfold LnP; (try simp) <;> omega), HU.out.mono (by omega), HF.out⟩
    case neg =>
      have e2 : (x7 == 1) = false := beq_eq_false_iff_ne.2 h2
      by_cases h3 : x7 = 2
      case pos =>
        subst h3
        clear e1 h1 e2 h2 hp9
        go_wp2_with fail
        refine (pick_c (l.length : Int) c (n + 102) w8 HU10.out (by omega)).mono ?_
        rintro e w68 ⟨x67, rfl, hp69, hcu, hch⟩
        have HU70 := Lib.hid hcu; clear hcu
        have HF71 := Lib.hid (HF11.out.trans hch)
        have HR72 := Lib.hid (row_chg HR12.out hch (by omega))
        clear hch
        have hz73 := HF71.out.size
        obtain ⟨j, rfl⟩ : ∃ j : Nat, x67 = j := ⟨x67.toNat, by omega⟩
        have hjl : j < l.length := by omega
        have jx : (0 : Int) ≤ (j : Int) := by omega
        have jy : (j : Int) < (l.length : Int) := by omega
        clear hp69
        go_wp2_with fail
        have HU77 := Lib.hid (HU70.out.below ((Below.refl _ _).alloc (Nat.le_refl _) (.cells #[.int .i64 1000000000, .int .i64 1000000, .int .i64 (-1000000), .int .i64 1000001, .int .i64 (-9223372036854775808)] 3)))
        have hl78 := HU70.out.lt
        have HF79 := Lib.hid (HF71.out.trans (Chg.alloc c w68 (.cells #[.int .i64 1000000000, .int .i64 1000000, .int .i64 (-1000000), .int .i64 1000001, .int .i64 (-9223372036854775808)] 3)))
        have HR80 := Lib.hid (row_below HR72.out ((Below.refl _ _).alloc (Nat.le_refl _) (.cells #[.int .i64 1000000000, .int .i64 1000000, .int .i64 (-1000000), .int .i64 1000001, .int .i64 (-9223372036854775808)] 3)))
        refine (among_c w68.heap.size 5 [1000000000, 1000000, (-1000000), 1000001, (-9223372036854775808)] c (n + 104) (w68.alloc (.cells #[.int .i64 1000000000, .int .i64 1000000, .int .i64 (-1000000), .int .i64 1000001, .int .i64 (-9223372036854775808)] 3)) HU77.out (by omega) (by simp) (by simp) (by omega) (Own.newA w68 _ 3 rfl)).mono ?_
        rintro e w75 ⟨x74, rfl, hx, hcu, hch⟩
        clear hx
        have HU81 := Lib.hid hcu; clear hcu
        have HF82 := Lib.hid (HF79.out.trans hch)
        have HR83 := Lib.hid (row_chg HR80.out hch (by omega))
        clear hch
        have hz84 := HF82.out.size
        have hrw := HR83.out
        have fz := World.ownsRow.frozenAt hrw (j * 3 + 2)
        have cz := World.ownsRow.cellAt hrw (j * 3 + 2) (by omega)
        rw [(tmsV_get hjl).2.2] at cz
        have hset := RowT.set2 (by exact hrw) hjl x74
        have HSET := Lib.hid hset
        have hbS := (Below.refl w.heap.size w75).setCell (p := ⟨g, j * 3 + 2, none⟩) hBg (.int .i64 x74)
        clear hset hrw
        go_wp2_with fail
        go_ret
        exact ⟨_, _, rfl, (by simpa using HSET.out), (by unfold LnP; simp; omega), (HU81.out.under hbS (by omega)).mono (by omega), HF82.out.under hbS (Nat.le_refl _) (by simp [World.setCell])⟩
      case neg =>
        have e3 : (x7 == 2) = false := beq_eq_false_iff_ne.2 h3
        by_cases h4 : x7 = 3
        case pos =>
          subst h4
          go_wp2_with fail
          go_ret
          exact ⟨_, [], rfl, RowT.nil _ _, (by simp [LnP]), HU10.out.mono (by omega), HF11.out⟩
        case neg =>
          have e4 : (x7 == 3) = false := beq_eq_false_iff_ne.2 h4
          go_wp2_with fail
          go_ret
          exact ⟨_, l, rfl, (by exact HR12.out), (by unfold LnP; (try simp) <;> omega), HU10.out.mono (by omega), HF11.out⟩

end Go.Proofs.YtcionneopgdebaaGreat
