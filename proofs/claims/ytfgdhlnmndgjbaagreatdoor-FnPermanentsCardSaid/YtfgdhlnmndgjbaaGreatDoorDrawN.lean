/-
  The numbers and the texts that the cursor draws. Printed by gen_drawn.py.
-/
import Derived.Test.YtfgdhlnmndgjbaaGreatDoorCur
import Derived.Test.YtfgdhlnmndgjbaaGreatDoorNumT
namespace Go.Proofs.YtfgdhlnmndgjbaaGreatDoor
open Go.RowKit

set_option maxHeartbeats 1600000 in
set_option maxRecDepth 100000 in
theorem num_c (c n : Nat) (w : World) (h : Cur w c n) (hn : n ≤ 4611686018427380000) :
    Calls Tryz.prog 80 #[.pointer (some ⟨c, 0, none⟩)] w (SomeI (fun x => numB x = true) c (n + 4) w) := by
  have hcl := h.lt
  have H := Lib.hid h; clear h
  go_enter Tryz.func80, Tryz.ntmps80
  have HF1 := Lib.hid (Chg.refl c w)
  go_wp2_with fail
  refine (pick_c 12 c n w H.out (by omega)).mono ?_
  rintro e w3 ⟨x2, rfl, hp4, hcu, hch⟩
  have HU5 := Lib.hid hcu; clear hcu
  have HF6 := Lib.hid (HF1.out.trans hch)
  clear hch
  have hz7 := HF6.out.size
  by_cases h1 : x2 = 0
  case pos =>
    subst h1
    go_wp2_with fail
    go_ret
    exact ⟨_, rfl, by decide, HU5.out.mono (by omega), HF6.out⟩
  case neg =>
    have e1 : (x2 == 0) = false := beq_eq_false_iff_ne.2 h1
    by_cases h2 : x2 = 1
    case pos =>
      subst h2
      go_wp2_with fail
      have HU11 := Lib.hid (HU5.out.below ((Below.refl _ _).alloc (Nat.le_refl _) (.cells #[.int .i64 1000000, .int .i64 (-1000000), .int .i64 500000, .int .i64 (-500001)] 3)))
      have hl12 := HU5.out.lt
      have HF13 := Lib.hid (HF6.out.trans (Chg.alloc c w3 (.cells #[.int .i64 1000000, .int .i64 (-1000000), .int .i64 500000, .int .i64 (-500001)] 3)))
      refine (among_c w3.heap.size 4 [1000000, -1000000, 500000, -500001] c (n + 2) (w3.alloc (.cells #[.int .i64 1000000, .int .i64 (-1000000), .int .i64 500000, .int .i64 (-500001)] 3)) HU11.out (by omega) (by simp) (by simp) (by omega) (Own.newA w3 _ 3 rfl)).mono ?_
      rintro e w9 ⟨x8, rfl, hx, hcu, hch⟩
      have hm10 : x8 = 1000000 ∨ x8 = -1000000 ∨ x8 = 500000 ∨ x8 = -500001 := by simp at hx; omega
      clear hx
      have HU14 := Lib.hid hcu; clear hcu
      have HF15 := Lib.hid (HF13.out.trans hch)
      clear hch
      have hz16 := HF15.out.size
      have hg : numB x8 = true := by rcases hm10 with h | h | h | h <;> (rw [h]; decide)
      have HG := Lib.hid hg; clear hg hm10
      go_wp2_with fail
      go_ret
      exact ⟨_, rfl, HG.out, HU14.out.mono (by omega), HF15.out⟩
    case neg =>
      have e2 : (x2 == 1) = false := beq_eq_false_iff_ne.2 h2
      go_wp2_with fail
      refine (pick_c 13 c (n + 2) w3 HU5.out (by omega)).mono ?_
      rintro e w18 ⟨x17, rfl, hp19, hcu, hch⟩
      have HU20 := Lib.hid hcu; clear hcu
      have HF21 := Lib.hid (HF6.out.trans hch)
      clear hch
      have hz22 := HF21.out.size
      have w1 : IntKind.i64.wrap (x17 - 4) = x17 - 4 := i64_small (by omega) (by omega)
      have HG := Lib.hid (show numB (x17 - 4) = true by unfold numB; rw [show inB (x17 - 4) (-1000000) 1000000 = true from inB_t.2 (by omega)]; rfl)
      go_wp2_with fail
      go_ret
      exact ⟨_, rfl, HG.out, HU20.out.mono (by omega), HF21.out⟩

set_option maxHeartbeats 1600000 in
set_option maxRecDepth 100000 in
theorem anyNum_c (c n : Nat) (w : World) (h : Cur w c n) (hn : n ≤ 4611686018427370000) :
    Calls Tryz.prog 52 #[.pointer (some ⟨c, 0, none⟩)] w (SomeI (fun _ => True) c (n + 6) w) := by
  have hcl := h.lt
  have H := Lib.hid h; clear h
  go_enter Tryz.func52, Tryz.ntmps52
  have HF1 := Lib.hid (Chg.refl c w)
  go_wp2_with fail
  refine (one_c 12 c n w H.out (by omega)).mono ?_
  rintro e w3 ⟨b2, rfl, hcu, hch⟩
  have HU4 := Lib.hid hcu; clear hcu
  have HF5 := Lib.hid (HF1.out.trans hch)
  clear hch
  have hz6 := HF5.out.size
  cases b2
  case true =>
    go_wp2_with fail
    have HU10 := Lib.hid (HU4.out.below ((Below.refl _ _).alloc (Nat.le_refl _) (.cells #[.int .i64 1000001, .int .i64 (-1000001), .int .i64 1000000001, .int .i64 999999999, .int .i64 (-9223372036854775808), .int .i64 9223372036854775807] 3)))
    have hl11 := HU4.out.lt
    have HF12 := Lib.hid (HF5.out.trans (Chg.alloc c w3 (.cells #[.int .i64 1000001, .int .i64 (-1000001), .int .i64 1000000001, .int .i64 999999999, .int .i64 (-9223372036854775808), .int .i64 9223372036854775807] 3)))
    refine (among_c w3.heap.size 6 [1000001, -1000001, 1000000001, 999999999, -9223372036854775808, 9223372036854775807] c (n + 2) (w3.alloc (.cells #[.int .i64 1000001, .int .i64 (-1000001), .int .i64 1000000001, .int .i64 999999999, .int .i64 (-9223372036854775808), .int .i64 9223372036854775807] 3)) HU10.out (by omega) (by simp) (by simp) (by omega) (Own.newA w3 _ 3 rfl)).mono ?_
    rintro e w8 ⟨x7, rfl, hx, hcu, hch⟩
    clear hx
    have HU13 := Lib.hid hcu; clear hcu
    have HF14 := Lib.hid (HF12.out.trans hch)
    clear hch
    have hz15 := HF14.out.size
    go_wp2_with fail
    go_ret
    exact ⟨_, rfl, trivial, HU13.out.mono (by omega), HF14.out⟩
  case false =>
    go_wp2_with fail
    refine (num_c c (n + 2) w3 HU4.out (by omega)).mono ?_
    rintro e w9 ⟨x9, rfl, hx9, hcu, hch⟩
    have HU16 := Lib.hid hcu; clear hcu
    have HF17 := Lib.hid (HF5.out.trans hch)
    clear hch
    have hz18 := HF17.out.size
    go_wp2_with fail
    go_ret
    exact ⟨_, rfl, trivial, HU16.out.mono (by omega), HF17.out⟩

/-- Strings of a block. -/
def strs (xs : List ByteArray) : List Value := xs.map Value.string
def SomeS (P : ByteArray → Prop) (c n : Nat) (w : World) (e : Ending) (w' : World) : Prop := ∃ u : ByteArray, e = .returned (.string u) ∧ P u ∧ Cur w' c n ∧ Chg c w w'

set_option maxHeartbeats 800000 in
theorem of_c (g cap : Nat) (xs : List ByteArray) (c n : Nat) (w : World) (h : Cur w c n) (hn : n ≤ 4611686018427387901) (h0 : 0 < xs.length) (hl : xs.length ≤ 1048576) (hg : g ≠ c) (hr : Own w g 9 (strs xs)) :
    Calls Tryz.prog 57 #[.pointer (some ⟨c, 0, none⟩), .slice (some ⟨g, 0, none⟩) xs.length cap] w (SomeS (fun u => u ∈ xs) c (n + 2) w) := by
  have H := Lib.hid h; clear h
  have HR := Lib.hid hr; clear hr
  go_enter Tryz.func57, Tryz.ntmps57
  go_wp2_with fail
  refine (pick_c xs.length c n w H.out hn).mono ?_
  rintro e w1 ⟨x, rfl, ⟨hx0, hx1⟩, hcu, hch⟩
  have HC := Lib.hid hcu; clear hcu
  obtain ⟨k, rfl⟩ : ∃ k : Nat, x = k := ⟨x.toNat, by omega⟩
  have hk : k < xs.length := by omega
  have ck := (HR.out.chg hch hg).cell? (i := k) (v := .string (xs.getD k default)) (by unfold strs; rw [List.getElem?_map, List.getElem?_eq_getElem hk, List.getD_eq_getElem?_getD, List.getElem?_eq_getElem hk]; rfl)
  have hmem : xs.getD k default ∈ xs := by rw [List.getD_eq_getElem?_getD, List.getElem?_eq_getElem hk]; exact List.getElem_mem hk
  generalize xs.getD k default = y at ck hmem
  have HM := Lib.hid hmem; clear hmem
  go_wp2_with fail
  go_ret
  exact ⟨_, rfl, HM.out, HC.out, hch⟩

theorem slice_to (s : ByteArray) (i : Int) (h0 : 0 ≤ i) (h : i ≤ s.size) (w : World) :
    (Instr.slice 9 (.string s) none (some (.int .i64 i)) none).run Tryz.prog w = .ok (.string (s.extract 0 i.toNat)) w := by
  simp [Instr.slice, Instr.sliceBounds, Instr.sliceBound, asIntOf, run_underlying (P := Tryz.prog) Tryz.underlying9, h0, h]
theorem add_str (a b : ByteArray) (h : a.size + b.size ≤ 9223372036854775807) (w : World) : (Op.stringOp .add a b).run Tryz.prog w = .ok (.string (a ++ b)) w := run_string_add_sum w a b h

set_option maxHeartbeats 3200000 in
set_option maxRecDepth 100000 in
theorem spoilt_c (t q : ByteArray) (S : Nat) (c n : Nat) (w : World) (h : Cur w c n) (hn : n ≤ 4611686018427380000) (ht : t.size ≤ S) (hS : S ≤ 1048576) (hq0 : 0 < q.size) (hq : q.size ≤ 200) :
    Calls Tryz.prog 56 #[.pointer (some ⟨c, 0, none⟩), .string t, .string q] w (SomeS (fun u => u.size ≤ S + 2) c (n + 14) w) := by
  have hcl := h.lt
  have H := Lib.hid h; clear h
  have hqi := idx_str q
  have HQI := Lib.hid hqi; clear hqi
  go_enter Tryz.func56, Tryz.ntmps56
  have HF1 := Lib.hid (Chg.refl c w)
  go_wp2_with fail
  refine (pick_c 2 c n w H.out (by omega)).mono ?_
  rintro e w3 ⟨x2, rfl, hp4, hcu, hch⟩
  have HU5 := Lib.hid hcu; clear hcu
  have HF6 := Lib.hid (HF1.out.trans hch)
  clear hch
  have hz7 := HF6.out.size
  obtain ⟨k0, hk0⟩ : ∃ k0 : Nat, 1 + x2 = (k0 : Int) := ⟨(1 + x2).toNat, by omega⟩
  have hk2 : k0 ≤ 2 := by omega
  have w0 : IntKind.i64.wrap (k0 : Int) = (k0 : Int) := i64_small (by omega) (by omega)
  go_wp2_with fail
  go_loopw [1, 7] (fun v i wr => ∃ (u : ByteArray) (k : Nat), v = .string u ∧ i = .int .i64 k ∧ k ≤ 2 ∧ u.size + k ≤ S + 2 ∧ Cur wr c (n + 2 + 6 * (2 - k)) ∧ Chg c w wr) (fun _ i _ => (intOf i).toNat)
  case atStart => exact ⟨t, k0, rfl, by first | rfl | (rw [hk0]), hk2, by omega, HU5.out.mono (by omega), HF6.out⟩
  case round =>
    obtain ⟨u, k, rfl, rfl, hk, hsz, hcu, hch⟩ := hrel
    have HU := Lib.hid hcu; clear hcu
    have HF := Lib.hid hch; clear hch
    have hszF := HF.out.size
    obtain ⟨wo, rfl⟩ : ∃ wo : World, wo = wr := ⟨_, rfl⟩
    by_cases hgo : 0 < k ∧ 0 < u.size
    case neg =>
      have HG := Lib.hid hgo; clear hgo
      by_cases hk1 : 0 < k
      case neg =>
        have g1 : decide ((k : Int) > 0) = false := decide_eq_false (by omega)
        have g2 : decide ((0 : Int) < (k : Int)) = false := decide_eq_false (by omega)
        go_wp2_with fail
        go_ret
        exact ⟨u, rfl, by omega, HU.out.mono (by omega), HF.out⟩
      case pos =>
        have g1 : decide ((0 : Int) < (k : Int)) = true := decide_eq_true (by omega)
        have hu0 : u.size = 0 := by have := HG.out; omega
        go_wp2_with fail
        go_ret
        exact ⟨u, rfl, by omega, HU.out.mono (by omega), HF.out⟩
    case pos =>
      obtain ⟨hk1, hu0⟩ := hgo
      have g1 : decide ((0 : Int) < (k : Int)) = true := decide_eq_true (by omega)
      have g2 : decide ((0 : Int) < (u.size : Int)) = true := decide_eq_true (by omega)
      have wk : IntKind.i64.wrap ((k : Int) - 1) = (k : Int) - 1 := i64_small (by omega) (by omega)
      go_wp2_with fail
      refine (pick_c u.size c (n + 2 + 6 * (2 - k)) wo HU.out (by omega)).mono ?_
      rintro e w9 ⟨x8, rfl, hp10, hcu, hch⟩
      have HU11 := Lib.hid hcu; clear hcu
      have HF12 := Lib.hid (HF.out.trans hch)
      clear hch
      have hz13 := HF12.out.size
      obtain ⟨p, rfl⟩ : ∃ p : Nat, x8 = p := ⟨x8.toNat, by omega⟩
      have hp : p < u.size := by omega
      go_wp2_with fail
      refine (pick_c q.size c ((n + 2 + 6 * (2 - k)) + 2) w9 HU11.out (by omega)).mono ?_
      rintro e w15 ⟨x14, rfl, hp16, hcu, hch⟩
      have HU17 := Lib.hid hcu; clear hcu
      have HF18 := Lib.hid (HF12.out.trans hch)
      clear hch
      have hz19 := HF18.out.size
      obtain ⟨r, rfl⟩ : ∃ r : Nat, x14 = r := ⟨x14.toNat, by omega⟩
      have hr : r < q.size := by omega
      have hix := fun w => HQI.out r hr w
      have hub := u8_bd (q.toList.getD r 0)
      generalize (q.toList.getD r 0).toNat = b at hix hub
      have hcv := one_str w15 ((b : Nat) : Int)
      unfold strV at hcv
      have hob : ∃ o : ByteArray, o = ⟨[UInt8.ofNat ((b : Nat) : Int).toNat].toArray⟩ ∧ o.size = 1 := ⟨_, rfl, rfl⟩
      obtain ⟨o, ho, hos⟩ := hob
      rw [← ho] at hcv
      have HO := Lib.hid ho; clear ho
      go_wp2_with fail
      have HU20 := Lib.hid (HU17.out.below ((Below.refl _ _).alloc (Nat.le_refl _) (.cells #[.int .u8 (b : Int)] 5)))
      have hl21 := HU17.out.lt
      have HF22 := Lib.hid (HF18.out.trans (Chg.alloc c w15 (.cells #[.int .u8 (b : Int)] 5)))
      refine (pick_c 3 c ((n + 2 + 6 * (2 - k)) + 4) (w15.alloc (.cells #[.int .u8 (b : Int)] 5)) HU20.out (by omega)).mono ?_
      rintro e w7 ⟨z, rfl, hz, hcu, hch⟩
      have HU23 := Lib.hid hcu; clear hcu
      have HF24 := Lib.hid (HF22.out.trans hch)
      clear hch
      have hz25 := HF24.out.size
      have wp1 : IntKind.i64.wrap ((p : Int) + 1) = (p : Int) + 1 := i64_small (by omega) (by omega)
      have s1 := fun w => slice_to u p (by omega) (by omega) w
      have s2 := fun w => slice_from u p (by omega) (by omega) w
      have s3 := fun w => slice_from u ((p : Int) + 1) (by omega) (by omega) w
      rw [show ((p : Int)).toNat = p by omega] at s1 s2
      rw [show ((p : Int) + 1).toNat = p + 1 by omega] at s3
      have z1 : (u.extract 0 p).size = p := by simp; omega
      have z2 : (u.extract p u.size).size = u.size - p := by simp
      have z3 : (u.extract (p + 1) u.size).size = u.size - (p + 1) := by simp
      generalize u.extract 0 p = a at s1 z1
      generalize u.extract p u.size = d at s2 z2
      generalize u.extract (p + 1) u.size = f at s3 z3
      have a1 := fun w => add_str a o (by omega) w
      have z4 : (a ++ o).size = p + 1 := by simp; omega
      have z6 : (a ++ f).size = u.size - 1 := by simp; omega
      have a4 := fun w => add_str a f (by omega) w
      generalize a ++ f = af at a4 z6
      generalize a ++ o = ao at a1 z4
      have a2 := fun w => add_str ao d (by omega) w
      have a3 := fun w => add_str ao f (by omega) w
      have z7 : (ao ++ d).size = u.size + 1 := by simp; omega
      have z8 : (ao ++ f).size = u.size := by simp; omega
      generalize ao ++ d = aod at a2 z7
      generalize ao ++ f = aof at a3 z8
      have Z := Lib.hid (show aod.size = u.size + 1 ∧ aof.size = u.size ∧ af.size = u.size - 1 from ⟨z7, z8, z6⟩)
      clear z1 z2 z3 z4 z6 z7 z8 hos
      by_cases hz0 : z = 0
      case pos =>
        subst hz0
        go_wp2_with fail
        go_quiet (fail)
        go_wp2_with fail
        go_roundw
        case rel => exact ⟨aod, k - 1, by first | rfl | trivial, by first | rfl | (congr 1; omega), by omega, by have := Z.out; omega, (HU23.out.below (bdrewN (Below.refl _ _) _)).mono (by omega), HF24.out.trans (Chg.drewN _ _ _)⟩
        case measure => simp [intOf]; omega
      case neg =>
        have e0 : (z == 0) = false := beq_eq_false_iff_ne.2 hz0
        by_cases hz1 : z = 1
        case pos =>
          subst hz1
          go_wp2_with fail
          go_quiet (fail)
          go_wp2_with fail
          go_roundw
          case rel => exact ⟨aof, k - 1, by first | rfl | trivial, by first | rfl | (congr 1; omega), by omega, by have := Z.out; omega, (HU23.out.below (bdrewN (Below.refl _ _) _)).mono (by omega), HF24.out.trans (Chg.drewN _ _ _)⟩
          case measure => simp [intOf]; omega
        case neg =>
          have e1 : (z == 1) = false := beq_eq_false_iff_ne.2 hz1
          go_wp2_with fail
          go_quiet (fail)
          go_wp2_with fail
          go_roundw
          case rel => exact ⟨af, k - 1, by first | rfl | trivial, by first | rfl | (congr 1; omega), by omega, by have := Z.out; omega, (HU23.out.below (bdrewN (Below.refl _ _) _)).mono (by omega), HF24.out.trans (Chg.drewN _ _ _)⟩
          case measure => simp [intOf]; omega

end Go.Proofs.YtfgdhlnmndgjbaaGreatDoor
