/-
  Some texts of this proof in one: PeK PeL. Each part tells what it proves. By an AI agent.
-/
import Derived.Test.YtfgdhlnmndgjbaaGreatDoorPeJ
import Derived.Test.YtfgdhlnmndgjbaaGreatDoorBig
import Derived.Test.YtfgdhlnmndgjbaaGreatDoorOpenB
import Derived.Deep.QuietTactic
import Derived.StillTailTactics

/-
  What the law of permanents draws, and its small calls. Printed by gen_peK.py. By an AI agent.
-/
namespace Go.Proofs.YtfgdhlnmndgjbaaGreatDoor
open Go.RowKit

theorem smD_smM {M : List (List Int)} {vs : List Value} (h : smD M vs) : smM M := ⟨by have := h.1; omega, fun i hi => by have := h.2 i hi; omega⟩
def DrwM (w : World) (e : Ending) (w' : World) : Prop := ∃ ad cap M, e = .returned (.slice ad (List.length M) cap) ∧ smM M ∧ RdM w' ad M ∧ Below w.heap.size w w'
def DrwMI (w : World) (e : Ending) (w' : World) : Prop := ∃ ad cap M x, e = .returned (.tuple #[.slice ad (List.length M) cap, .int .i64 x]) ∧ smM M ∧ RdM w' ad M ∧ Below w.heap.size w w'
def DrwMV (w : World) (e : Ending) (w' : World) : Prop := ∃ ad cap M av cv v, e = .returned (.tuple #[.slice ad (List.length M) cap, .slice av (List.length v) cv]) ∧ smM M ∧ RdM w' ad M ∧ List.length v ≤ 7 ∧ RdI w' av v ∧ Below w.heap.size w w'

set_option maxHeartbeats 1600000 in
set_option maxRecDepth 100000 in
theorem drawIsMatrix_c (ad : Option Addr) (len cap : Nat) (w : World) (hl : len ≤ 9223372036854775807) (hr : RdB w ad len) :
    Calls Tryz.prog 25 #[.slice ad len cap] w (DrwM w) := by
  have hc := cur_new (cap := cap) hr hl
  have hb1 : Below w.heap.size w (w.alloc (.cells #[.slice ad len cap, .int .i64 0, .int .u64 0] 62)) := (Below.refl _ _).alloc (Nat.le_refl _) _
  clear hr hl
  obtain ⟨c, hcd⟩ : ∃ c, w.heap.size = c := ⟨_, rfl⟩
  rw [hcd] at hc
  have hwc : w.heap.size ≤ c := by omega
  have HC := Lib.hid hc; have HB := Lib.hid hb1; clear hc hb1
  go_enter Tryz.func25, Tryz.ntmps25
  go_wp2_with fail
  refine (anyMatrix_c c 0 _ HC.out (by omega)).mono ?_
  rintro e w1 ⟨ad1, cap1, M, vs, rfl, hP, hmat, hcu, hch⟩
  have hsm := smD_smM hP
  have B1 := bchg HB.out hch hwc HB.out.size
  have R1 := Lib.hid hmat.rd
  clear hcu hch hmat hP HC HB
  go_wp2_with fail
  go_ret
  exact ⟨ad1, cap1, M, rfl, hsm, R1.out, B1⟩
set_option maxHeartbeats 800000 in
theorem drawPermanentOf_c (ad : Option Addr) (len cap : Nat) (w : World) (hl : len ≤ 9223372036854775807) (hr : RdB w ad len) :
    Calls Tryz.prog 4 #[.slice ad len cap] w (DrwM w) := by
  have C := Lib.hid (drawIsMatrix_c ad len cap w hl hr); clear hl hr
  go_enter Tryz.func4, Tryz.ntmps4
  go_wp2_with fail
  refine C.out.mono ?_
  rintro e w1 ⟨ad1, cap1, M, rfl, hsm, hr1, hb⟩
  have H1 := Lib.hid hr1; clear hr1
  go_wp2_with fail
  go_ret
  exact ⟨ad1, cap1, M, rfl, hsm, H1.out, hb⟩

set_option maxHeartbeats 1600000 in
set_option maxRecDepth 100000 in
theorem drawShiftMatrix_c (ad : Option Addr) (len cap : Nat) (w : World) (hl : len ≤ 9223372036854775807) (hr : RdB w ad len) :
    Calls Tryz.prog 20 #[.slice ad len cap] w (DrwMI w) := by
  have hc := cur_new (cap := cap) hr hl
  have hb1 : Below w.heap.size w (w.alloc (.cells #[.slice ad len cap, .int .i64 0, .int .u64 0] 62)) := (Below.refl _ _).alloc (Nat.le_refl _) _
  have hs1 : (w.alloc (.cells #[.slice ad len cap, .int .i64 0, .int .u64 0] 62)).heap.size = w.heap.size + 1 := by simp
  clear hr hl
  obtain ⟨c, hcd⟩ : ∃ c, w.heap.size = c := ⟨_, rfl⟩
  rw [hcd] at hc hs1
  have hwc : w.heap.size ≤ c := by omega
  have HC := Lib.hid hc; have HB := Lib.hid hb1; clear hc hb1
  go_enter Tryz.func20, Tryz.ntmps20
  go_wp2_with fail
  refine (anyMatrix_c c 0 _ HC.out (by omega)).mono ?_
  rintro e w1 ⟨ad1, cap1, M, vs, rfl, hP, hmat, hcu, hch⟩
  rw [hs1] at hmat
  have hsm := smD_smM hP
  have B1 := Lib.hid (bchg HB.out hch hwc HB.out.size)
  have M1 := Lib.hid hmat
  have U1 := Lib.hid hcu
  clear hcu hch hmat hP HC HB hs1
  go_wp2_with fail
  refine (anyNum_c c (0 + 700) w1 U1.out (by omega)).mono ?_
  rintro e w2 ⟨x, rfl, -, hcu, hch⟩
  have B2 := bchg B1.out hch hwc B1.out.size
  have R2 := Lib.hid ((M1.out.chg hch (by omega)).rd)
  clear hcu hch B1 U1 M1
  go_wp2_with fail
  exact bodyPost_ret (v := .tuple #[.slice ad1 M.length cap1, .int .i64 x]) (by simp [results, Tryz.results20, go_sem]) rfl ⟨ad1, cap1, M, x, rfl, hsm, R2.out, B2⟩

set_option maxHeartbeats 3200000 in
set_option maxRecDepth 100000 in
theorem drawApplyMatrix_c (ad : Option Addr) (len cap : Nat) (w : World) (hl : len ≤ 9223372036854775807) (hr : RdB w ad len) :
    Calls Tryz.prog 17 #[.slice ad len cap] w (DrwMV w) := by
  have hc := cur_new (cap := cap) hr hl
  have hb1 : Below w.heap.size w (w.alloc (.cells #[.slice ad len cap, .int .i64 0, .int .u64 0] 62)) := (Below.refl _ _).alloc (Nat.le_refl _) _
  have hs1 : (w.alloc (.cells #[.slice ad len cap, .int .i64 0, .int .u64 0] 62)).heap.size = w.heap.size + 1 := by simp
  clear hr hl
  obtain ⟨c, hcd⟩ : ∃ c, w.heap.size = c := ⟨_, rfl⟩
  rw [hcd] at hc hs1
  have hwc : w.heap.size ≤ c := by omega
  have HC := Lib.hid hc; have HB := Lib.hid hb1; clear hc hb1
  go_enter Tryz.func17, Tryz.ntmps17
  go_wp2_with fail
  refine (anyMatrix_c c 0 _ HC.out (by omega)).mono ?_
  rintro e w1 ⟨ad1, cap1, M, vs, rfl, hP, hmat, hcu, hch⟩
  rw [hs1] at hmat
  have hsm := smD_smM hP
  have B1 := Lib.hid (bchg HB.out hch hwc HB.out.size)
  have CG := Lib.hid (mxGood_c ad1 cap1 M w1 hmat.rd (by have := hsm.1; omega) (fun i hi => by have := hsm.2 i hi; omega))
  have HMF := Lib.hid (fun h : matB M = true => mat_facts h)
  have M1 := Lib.hid hmat
  have U1 := Lib.hid hcu
  clear hcu hch hmat hP HC HB hs1
  obtain ⟨p, hp⟩ : ∃ p, matB M = p := ⟨_, rfl⟩
  rw [hp] at CG HMF
  clear hp
  have tail : ∀ (w2 : World) (n2 : Nat) (HU : Hid (Cur w2 c n2)) (hn2 : n2 ≤ 10000) (HM : Hid (MatO w2 (c + 1) (.slice ad1 M.length cap1) M vs)) (HB2 : Hid (Below w.heap.size w w2)), True := fun _ _ _ _ _ _ => trivial
  clear tail
  cases p
  case false =>
    go_wp2_with fail
    refine CG.out.mono ?_
    rintro e w2 ⟨rfl, rfl⟩
    go_wp2_with fail
    refine (pick_c 8 c (0 + 700) w1 U1.out (by omega)).mono ?_
    rintro e w3 ⟨x, rfl, hx, hcu, hch⟩
    obtain ⟨N, rfl⟩ : ∃ N : Nat, x = (N : Int) := ⟨x.toNat, by omega⟩
    have B3 := Lib.hid (bchg B1.out hch hwc B1.out.size)
    have M3 := Lib.hid (M1.out.chg hch (by omega))
    have U3 := Lib.hid hcu
    clear hcu hch U1 M1
    go_wp2_with fail
    refine (vector_c N c (0 + 700 + 2) w3 U3.out (by omega) (by omega)).mono ?_
    rintro e w4 ⟨v, xs, rfl, hxl, hrow, hcu, hch⟩
    have hxl : xs.length = N := hxl
    obtain ⟨av, cv, rfl, hrd⟩ := hrow.shape
    have B4 := bchg B3.out hch hwc B3.out.size
    have R4 := Lib.hid ((M3.out.chg hch (by omega)).rd)
    have V4 := Lib.hid hrd
    clear hcu hch hrow hrd U3 M3 B3
    obtain ⟨xl, hxx⟩ : ∃ xl, xs.length = xl := ⟨_, rfl⟩
    have HXX := Lib.hid hxx
    rw [hxx] at hxl ⊢
    clear hxx
    have hx7 : xl ≤ 7 := by omega
    clear hxl hx
    go_wp2_with fail
    exact bodyPost_ret (v := .tuple #[.slice ad1 M.length cap1, .slice av xl cv]) (by simp [results, Tryz.results17, go_sem]) rfl ⟨ad1, cap1, M, av, cv, xs, by rw [HXX.out], hsm, R4.out, by rw [HXX.out]; exact hx7, V4.out, B4⟩
  case true =>
    obtain ⟨g1, g2, g3, _⟩ := HMF.out rfl
    go_wp2_with fail
    refine CG.out.mono ?_
    rintro e w2 ⟨rfl, rfl⟩
    go_wp2_with fail
    refine (one_c 8 c (0 + 700) w1 U1.out (by omega)).mono ?_
    rintro e w3 ⟨bb, rfl, hcu, hch⟩
    have B3 := Lib.hid (bchg B1.out hch hwc B1.out.size)
    have M3 := Lib.hid (M1.out.chg hch (by omega))
    have U3 := Lib.hid hcu
    clear hcu hch U1 M1
    cases bb
    case false =>
      obtain ⟨bM, oM, a0, c0, rfl, hbM, k0, _⟩ := M3.out.rd 0 (by omega)
      rw [Nat.add_zero, g3 0 (by omega)] at k0
      have x3 : (0 : Int) < (M.length : Int) := by omega
      clear g3 HMF
      generalize colN M = N at g2 k0
      go_wp2_with fail
      refine (vector_c N c (0 + 700 + 2) w3 U3.out (by omega) (by omega)).mono ?_
      rintro e w4 ⟨v, xs, rfl, hxl, hrow, hcu, hch⟩
      have hxl : xs.length = N := hxl
      obtain ⟨av, cv, rfl, hrd⟩ := hrow.shape
      have B4 := bchg B3.out hch hwc B3.out.size
      have R4 := Lib.hid ((M3.out.chg hch (by omega)).rd)
      have V4 := Lib.hid hrd
      clear hcu hch hrow hrd U3 M3 B3
      obtain ⟨xl, hxx⟩ : ∃ xl, xs.length = xl := ⟨_, rfl⟩
      have HXX := Lib.hid hxx
      rw [hxx] at hxl ⊢
      clear hxx
      have hx7 : xl ≤ 7 := by omega
      clear hxl
      go_wp2_with fail
      exact bodyPost_ret (v := .tuple #[.slice (some ⟨bM, oM, none⟩) M.length cap1, .slice av xl cv]) (by simp [results, Tryz.results17, go_sem]) rfl ⟨_, cap1, M, av, cv, xs, by rw [HXX.out], hsm, R4.out, by rw [HXX.out]; exact hx7, V4.out, B4⟩
    case true =>
      clear g1 g2 g3 HMF
      go_wp2_with fail
      refine (pick_c 8 c (0 + 700 + 2) w3 U3.out (by omega)).mono ?_
      rintro e w5 ⟨x, rfl, hx, hcu, hch⟩
      obtain ⟨N, rfl⟩ : ∃ N : Nat, x = (N : Int) := ⟨x.toNat, by omega⟩
      have B5 := Lib.hid (bchg B3.out hch hwc B3.out.size)
      have M5 := Lib.hid (M3.out.chg hch (by omega))
      have U5 := Lib.hid hcu
      clear hcu hch U3 M3
      go_wp2_with fail
      refine (vector_c N c (0 + 700 + 2 + 2) w5 U5.out (by omega) (by omega)).mono ?_
      rintro e w4 ⟨v, xs, rfl, hxl, hrow, hcu, hch⟩
      have hxl : xs.length = N := hxl
      obtain ⟨av, cv, rfl, hrd⟩ := hrow.shape
      have B4 := bchg B5.out hch hwc B5.out.size
      have R4 := Lib.hid ((M5.out.chg hch (by omega)).rd)
      have V4 := Lib.hid hrd
      clear hcu hch hrow hrd U5 M5 B5 B3
      obtain ⟨xl, hxx⟩ : ∃ xl, xs.length = xl := ⟨_, rfl⟩
      have HXX := Lib.hid hxx
      rw [hxx] at hxl ⊢
      clear hxx
      have hx7 : xl ≤ 7 := by omega
      clear hxl hx
      go_wp2_with fail
      exact bodyPost_ret (v := .tuple #[.slice ad1 M.length cap1, .slice av xl cv]) (by simp [results, Tryz.results17, go_sem]) rfl ⟨ad1, cap1, M, av, cv, xs, by rw [HXX.out], hsm, R4.out, by rw [HXX.out]; exact hx7, V4.out, B4⟩

def TxtM (S : Nat) (w : World) (e : Ending) (w' : World) : Prop := ∃ u : List UInt8, e = .returned (.string ⟨u.toArray⟩) ∧ u.length ≤ S ∧ Below w.heap.size w w'
theorem txtM {S : Nat} {w : World} {e : Ending} {w' : World} (u : ByteArray) (he : e = .returned (.string u)) (hu : u.size ≤ S) (hb : Below w.heap.size w w') : TxtM S w e w' :=
  ⟨u.toList, by rw [he, ByteArray.toList_eq], by rw [len_str]; exact hu, hb⟩
set_option maxHeartbeats 3200000 in
set_option maxRecDepth 100000 in
theorem drawParseMatrix_c (ad : Option Addr) (len cap : Nat) (w : World) (hl : len ≤ 9223372036854775807) (hr : RdB w ad len) :
    Calls Tryz.prog 22 #[.slice ad len cap] w (TxtM 900 w) := by
  have hc := cur_new (cap := cap) hr hl
  have hb1 : Below w.heap.size w (w.alloc (.cells #[.slice ad len cap, .int .i64 0, .int .u64 0] 62)) := (Below.refl _ _).alloc (Nat.le_refl _) _
  clear hr hl
  obtain ⟨c, hcd⟩ : ∃ c, w.heap.size = c := ⟨_, rfl⟩
  rw [hcd] at hc
  have hwc : w.heap.size ≤ c := by omega
  have HC := Lib.hid hc; have HB := Lib.hid hb1; clear hc hb1
  go_enter Tryz.func22, Tryz.ntmps22
  go_wp2_with fail
  refine (pick_c 3 c 0 _ HC.out (by omega)).mono ?_
  rintro e w1 ⟨x, rfl, hx, hcu, hch⟩
  obtain ⟨R, hR⟩ : ∃ R : Nat, 1 + x = (R : Int) := ⟨(1 + x).toNat, by omega⟩
  have e1 : IntKind.i64.wrap (1 + x) = (R : Int) := by rw [i64_small (by omega) (by omega)]; exact hR
  have hR3 : 1 ≤ R ∧ R ≤ 3 := by omega
  have B1 := Lib.hid (bchg HB.out hch hwc HB.out.size)
  have U1 := Lib.hid hcu
  clear hcu hch HC HB hR hx
  go_wp2_with fail
  refine (pick_c 3 c (0 + 2) w1 U1.out (by omega)).mono ?_
  rintro e w2 ⟨y, rfl, hy, hcu, hch⟩
  obtain ⟨C, hC⟩ : ∃ R : Nat, 1 + y = (R : Int) := ⟨(1 + y).toNat, by omega⟩
  have e2 : IntKind.i64.wrap (1 + y) = (C : Int) := by rw [i64_small (by omega) (by omega)]; exact hC
  have hC3 : 1 ≤ C ∧ C ≤ 3 := by omega
  have B2 := Lib.hid (bchg B1.out hch hwc B1.out.size)
  have U2 := Lib.hid hcu
  clear hcu hch B1 U1 hC hy
  go_wp2_with fail
  refine (matrixN_c R C c (0 + 2 + 2) w2 U2.out (by omega) (by omega) (by omega)).mono ?_
  rintro e w3 ⟨ad1, cap1, M, vs, rfl, ⟨hsh, hnm⟩, hmat, hcu, hch⟩
  have B3 := Lib.hid (bchg B2.out hch hwc B2.out.size)
  have U3 := Lib.hid hcu
  have hrows : ∀ r ∈ M, r.length ≤ 6 ∧ ∀ n ∈ r, numB n = true := fun r hr => by
    refine ⟨?_, hnm r hr⟩
    obtain ⟨i, hi, rfl⟩ := List.getElem_of_mem hr
    have := hsh.2 i (by rw [← hsh.1]; exact hi)
    rw [List.getD_eq_getElem?_getD, List.getElem?_eq_getElem hi] at this
    have : (M[i]).length = C := this
    omega
  have ct := mxText_c ad1 cap1 M w3 hmat.rd (by have := hsh.1; omega) hrows
  have htl := mtxT_len hrows
  have hM3 : M.length ≤ 3 := by have := hsh.1; omega
  clear hcu hch B2 U2 hmat hrows hsh hnm e1 e2
  obtain ⟨T, hT⟩ : ∃ T : ByteArray, T = ⟨(mtxT M).toArray⟩ := ⟨_, rfl⟩
  have hTs : T.size ≤ 399 := by rw [hT]; simp only [ByteArray.size, List.size_toArray]; omega
  unfold strV at ct
  rw [← hT] at ct
  have ct := Lib.hid ct
  clear hT htl
  go_wp2_with fail
  refine ct.out.mono ?_
  rintro e w4 ⟨rfl, hb4⟩
  have B4 := Lib.hid (ball B3.out hb4)
  have U4 := Lib.hid (U3.out.below hb4)
  clear B3 U3 hb4 ct
  go_wp2_with fail
  refine (pick_c 4 c (0 + 2 + 2 + 200) w4 U4.out (by omega)).mono ?_
  rintro e w5 ⟨z, rfl, hz, hcu, hch⟩
  have B5 := Lib.hid (bchg B4.out hch hwc B4.out.size)
  have U5 := Lib.hid hcu
  clear hcu hch B4 U4
  by_cases h1 : z = 0
  case pos =>
    subst h1
    go_wp2_with fail
    refine (spoilt_c T ⟨#[32, 59, 45, 48, 105, 49, 50]⟩ 399 c (0 + 2 + 2 + 200 + 2) w5 U5.out (by omega) hTs (by omega) (by decide) (by decide)).mono ?_
    rintro e w6 ⟨u, rfl, hu, hcu, hch⟩
    have B6 := Lib.hid (bchg B5.out hch hwc B5.out.size)
    clear hcu hch
    go_wp2_with fail
    go_ret
    exact txtM u rfl (by omega) B6.out
  case neg =>
    have e1 : (z == 0) = false := beq_eq_false_iff_ne.2 h1
    by_cases h2 : z = 1
    case pos =>
      subst h2
      go_wp2_with fail
      have hBA := B5.out.alloc B5.out.size (.cells #[.string ⟨#[]⟩, .string ⟨#[59]⟩, .string ⟨#[48]⟩, .string ⟨#[48, 32, 51, 59, 49, 32, 50, 59]⟩, .string ⟨#[48, 32, 51, 59, 49, 59]⟩, .string ⟨#[48, 49, 59]⟩, .string ⟨#[48, 32, 32, 51, 59]⟩, .string ⟨#[45, 48, 59]⟩] 9)
      have hUA := U5.out.below ((Below.refl _ _).alloc (Nat.le_refl _) (.cells #[.string ⟨#[]⟩, .string ⟨#[59]⟩, .string ⟨#[48]⟩, .string ⟨#[48, 32, 51, 59, 49, 32, 50, 59]⟩, .string ⟨#[48, 32, 51, 59, 49, 59]⟩, .string ⟨#[48, 49, 59]⟩, .string ⟨#[48, 32, 32, 51, 59]⟩, .string ⟨#[45, 48, 59]⟩] 9))
      have hcl3 := U5.out.lt
      have HBA := Lib.hid hBA; clear hBA
      refine (of_c w5.heap.size 8 [⟨#[]⟩, ⟨#[59]⟩, ⟨#[48]⟩, ⟨#[48, 32, 51, 59, 49, 32, 50, 59]⟩, ⟨#[48, 32, 51, 59, 49, 59]⟩, ⟨#[48, 49, 59]⟩, ⟨#[48, 32, 32, 51, 59]⟩, ⟨#[45, 48, 59]⟩] c (0 + 2 + 2 + 200 + 2) _ hUA (by omega) (by simp) (by simp) (by omega) (Own.newA w5 _ 9 rfl)).mono ?_
      rintro e w6 ⟨u, rfl, hu, hcu, hch⟩
      have hu2 : u.size ≤ 28 := by simp at hu; rcases hu with h | h | h | h | h | h | h | h <;> (subst h; decide)
      have B6 := Lib.hid (bchg HBA.out hch hwc HBA.out.size)
      clear hu hcu hch HBA hUA
      go_wp2_with fail
      go_ret
      exact txtM u rfl (by omega) B6.out
    case neg =>
      have e2 : (z == 1) = false := beq_eq_false_iff_ne.2 h2
      go_wp2_with fail
      go_ret
      exact txtM T rfl (by omega) B5.out

set_option maxHeartbeats 800000 in
theorem qInts_c (ad : Option Addr) (cap : Nat) (ad' : Option Addr) (cap' : Nat) (xs : List Int) (w : World) (hl : xs.length ≤ 1048576) (hr : RdI w ad xs) (hr' : RdI w ad' xs) :
    Calls Tryz.prog 24 #[.slice ad xs.length cap, .slice ad' xs.length cap'] w fun e w' => e = .returned (.bool true) ∧ Below w.heap.size w w' := by
  have HR := Lib.hid hr; clear hr
  have HR' := Lib.hid hr'; clear hr'
  go_enter Tryz.func24, Tryz.ntmps24
  go_wp2_with fail
  go_loopw [13] (fun i wr => ∃ k : Nat, k ≤ xs.length ∧ i = .int .i64 k ∧ Below w.heap.size w wr) (fun i _ => xs.length - (intOf i).toNat)
  case atStart => exact ⟨0, Nat.zero_le _, rfl, Below.refl _ _⟩
  case round =>
    obtain ⟨k, hk, rfl, hbel⟩ := hrel
    by_cases hlt : k < xs.length
    · obtain ⟨b, off, rfl, hb, c⟩ := HR.out k hlt
      obtain ⟨b', off', rfl, hb', c'⟩ := HR'.out k hlt
      have d := bcell hbel hb c
      have d' := bcell hbel hb' c'
      clear c c'
      generalize xs.getD k 0 = x at d d'
      have x1 : (0 : Int) ≤ (k : Int) := by omega
      have x2 : (k : Int) < (xs.length : Int) := by omega
      go_wp2_with fail
      go_quiet (fail)
      go_wp2_with fail
      go_roundw
      case rel => exact ⟨k + 1, by omega, by go_num, bdrewN hbel _⟩
      case measure => simp [intOf]; omega
    · go_wp2_with fail
      go_ret
      exact ⟨rfl, hbel⟩
end Go.Proofs.YtfgdhlnmndgjbaaGreatDoor

/-
  Permanents: the law, plain, and its small calls. By an AI agent.
-/
namespace Go.Proofs.YtfgdhlnmndgjbaaGreatDoor
open Go.RowKit

/-! ### Permanents of turned and of shifted matrices -/
theorem csF_congr {n : Nat} {m m' : Nat → Nat → Int} (h : ∀ a b, a < n → b < n → m a b = m' a b) {c : List Int} (hv : vtB n c = true) (hl : c.length = n) : ∀ t, t ≤ n → csF m c t = csF m' c t
  | 0, _ => rfl
  | t + 1, ht => by
    unfold csF
    rw [csF_congr h hv hl t (by omega), h t (vx c t) (by omega) (vt_at hv (by omega)).2]
theorem prmM_congr {n : Nat} {m m' : Nat → Nat → Int} (h : ∀ a b, a < n → b < n → m a b = m' a b) : prmM n m = prmM n m' := by
  unfold prmM
  congr 1
  exact List.map_congr_left fun c hc => by
    obtain ⟨h1, h2⟩ := prmA_mem.1 hc
    unfold costP
    rw [h2]
    exact csF_congr h h1.vt h2 n (Nat.le_refl _)
theorem sq_parts {M : List (List Int)} (h : sqB M = true) : matB M = true ∧ colN M = M.length := by
  unfold sqB at h
  rw [Bool.and_eq_true, decide_eq_true_eq] at h
  exact ⟨h.1, h.2.symm⟩
theorem sq_of {M : List (List Int)} (h : matB M = true) (h2 : colN M = M.length) : sqB M = true := by
  unfold sqB
  rw [Bool.and_eq_true, decide_eq_true_eq]
  exact ⟨h, h2.symm⟩
theorem trn_dims (M : List (List Int)) : (trnM M).length = colN M ∧ ∀ i, i < colN M → ((trnM M).getD i []).length = M.length := by
  unfold trnM
  exact ⟨toG_len _ _ _, fun i hi => by rw [toG_row _ hi, tab_length]⟩
theorem trn_ent {M : List (List Int)} {i j : Nat} (hi : i < colN M) (hj : j < M.length) : entM (trnM M) i j = entM M j i := by
  unfold trnM
  rw [show entM (toG (colN M) M.length fun a b => entM M b a) i j = ((toG (colN M) M.length fun a b => entM M b a).getD i []).getD j 0 from rfl, toG_row _ hi, tab_getD hj]
theorem pm_turn {M : List (List Int)} (h : sqB M = true) : pmV (trnM M) = pmV M ∧ smM (trnM M) := by
  obtain ⟨h1, h2⟩ := sq_parts h
  obtain ⟨g1, g2, g3, g4, g5⟩ := mat_facts h1
  obtain ⟨d1, d2⟩ := trn_dims M
  have hm : matB (trnM M) = true := mat_of d1 g2 g1 d2 fun i j hi hj => by rw [trn_ent hi hj]; exact g4 j i hj hi
  have hc : colN (trnM M) = (trnM M).length := by
    rw [d1, h2]
    exact d2 0 (by omega)
  have hs := sq_of hm hc
  have hp : prmM (trnM M).length (entM (trnM M)) = prmM M.length (entM M) := by
    rw [d1, h2]
    rw [prmM_congr (m' := turnM (entM M)) (fun a b ha hb => by rw [trn_ent (by omega) hb]; rfl)]
    exact prm_turn (fun a b ha hb => g4 a b ha (by omega)) g1
  refine ⟨?_, by rw [d1]; omega, fun i hi => by rw [d2 i (by omega)]; omega⟩
  unfold pmV pmO
  rw [hs, h, hp]
theorem shL_sm {M : List (List Int)} (b : Int) (h : smM M) : smM (shL M b) := ⟨by rw [shL_len]; exact h.1, fun i hi => by
  rw [shL_len] at hi
  rw [shL_row M b hi, List.length_map]
  exact h.2 i hi⟩
theorem if_sm {b : Bool} {M : List (List Int)} (h : smM M) : smM (if b = true then M else []) := by
  split
  · exact h
  · exact ⟨by simp, fun i hi => by simp at hi⟩
theorem sh_parts {M : List (List Int)} {b : Int} (h : shB M b = true) : matB M = true ∧ inB b (-1000000) 1000000 = true ∧ matB (shL M b) = true := by
  unfold shB at h
  simp only [Bool.and_eq_true] at h
  exact h
/-- What the law asks of a shifted matrix. -/
theorem pm_shift {M : List (List Int)} {b : Int} (h : sqB M = true) (hs : shB M b = true) : prmM (shL M b).length (entM (shL M b)) = (shZ ((M.length : Int) * b) (prmM M.length (entM M)).1, (prmM M.length (entM M)).2) ∧ sqB (shL M b) = true := by
  obtain ⟨h1, h2⟩ := sq_parts h
  obtain ⟨_, hb, hm⟩ := sh_parts hs
  obtain ⟨g1, g2, g3, g4, g5⟩ := mat_facts h1
  have he := (shB_ent (b := b) h1).1 hm
  refine ⟨?_, sq_of hm (by rw [shL_col h1, shL_len]; exact h2)⟩
  rw [shL_len, prmM_congr (m' := shM1 (entM M) b) (fun i k hi hk => shL_ent h1 hi (by omega))]
  exact prm_shift (inB_t.1 hb) (fun i k hi hk => g4 i k hi (by omega)) (fun i k hi hk => he i k hi (by omega)) g1
theorem shZ_prod {p n : Int} (hn : n ≠ 1000000000) : shZ n p = prodZ p n := by
  unfold shZ prodZ
  by_cases h : p = 1000000000
  · rw [if_pos h, if_pos (Or.inl h)]
  · rw [if_neg h, if_neg (by rintro (g | g); exact h g; exact hn g)]
theorem pm_ok {M : List (List Int)} (h : pmO M = true) : sqB M = true ∧ 1 ≤ (prmM M.length (entM M)).2 ∧ numB (prmM M.length (entM M)).1 = true := by
  unfold pmO at h
  rw [Bool.and_eq_true] at h
  obtain ⟨h1, h2⟩ := sq_parts h.1
  obtain ⟨g1, g2, g3, g4, g5⟩ := mat_facts h1
  exact ⟨h.1, prm_ways (fun i k hi hk => g4 i k hi (by omega)) g1, h.2⟩
theorem sq_mat {M : List (List Int)} (h : matB M = false) : pmO M = false ∧ sqB M = false := by
  have : sqB M = false := by unfold sqB; rw [h]; rfl
  exact ⟨by unfold pmO; rw [this]; rfl, this⟩

/-! ### Shifted back -/
theorem prod_back {x b : Int} (hx : numB x = true) (hb : -1000000 ≤ b ∧ b ≤ 1000000) : prodZ (prodZ x b) (-b) = x := by
  have h5 := numB_t hx
  unfold prodZ
  by_cases e : x = 1000000000
  · rw [if_pos (Or.inl e), if_pos (Or.inl rfl), e]
  · have e1 : ¬ (x = 1000000000 ∨ b = 1000000000) := by omega
    rw [if_neg e1, if_neg (by omega)]
    omega
theorem shL_back {M : List (List Int)} {b : Int} (h : matB M = true) (hb : -1000000 ≤ b ∧ b ≤ 1000000) : shL (shL M b) (-b) = M := by
  have hr := mat_rows h
  unfold shL
  rw [List.map_map]
  conv => rhs; rw [← List.map_id M]
  refine List.map_congr_left fun r hm => ?_
  show (r.map fun x => prodZ x b).map (fun x => prodZ x (-b)) = r
  rw [List.map_map]
  conv => rhs; rw [← List.map_id r]
  exact List.map_congr_left fun x hx => prod_back ((hr r hm).2 x hx) hb
theorem sh_back {M : List (List Int)} {b : Int} (h : shB M b = true) : shB (shL M b) (-b) = true ∧ shL (shL M b) (-b) = M ∧ (-1000000 ≤ b ∧ b ≤ 1000000) := by
  obtain ⟨h1, h2, h3⟩ := sh_parts h
  have hb := inB_t.1 h2
  have e := shL_back h1 hb
  refine ⟨?_, e, hb⟩
  unfold shB
  rw [e, h1, h3, show inB (-b) (-1000000) 1000000 = true from inB_t.2 (by omega)]
  rfl

/-! ### Texts are read back -/
theorem numTxt_chars (n : Int) : ∀ x ∈ numTxt n, x.toNat ≠ 32 ∧ x.toNat ≠ 59 := fun x hx => by
  unfold numTxt at hx
  split at hx
  · revert x; decide
  · have := itoa_in n x hx
    omega
theorem split_nums32 : ∀ (l : List Int), l ≠ [] → splitB 32 (numsTxt 32 l) = l.map numTxt
  | [], h => absurd rfl h
  | [n], _ => by
    unfold numsTxt
    rw [List.map_cons, List.map_nil, Lib.join_one]
    exact split_no _ fun x hx => (numTxt_chars n x hx).1
  | n :: m :: l, _ => by
    have ih := split_nums32 (m :: l) (by simp)
    have e : numsTxt 32 (n :: m :: l) = numTxt n ++ 32 :: numsTxt 32 (m :: l) := by
      unfold numsTxt
      rw [List.map_cons, List.map_cons, Lib.join_cons, Lib.join_cons]
      unfold Lib.joinTail
      simp
    rw [e, split_at _ _ _ (fun x hx => (numTxt_chars n x hx).1) rfl, ih]
    rfl
theorem row_back {r : List Int} (h0 : r ≠ []) (hn : ∀ n ∈ r, numB n = true) : okN 32 (numsTxt 32 r) = true ∧ valN 32 (numsTxt 32 r) = r := by
  have hs := split_nums32 r h0
  constructor
  · unfold okN
    rw [show (32 : UInt8).toNat = 32 from rfl, hs, List.all_eq_true]
    intro x hx
    obtain ⟨n, hm, rfl⟩ := List.mem_map.1 hx
    rw [parse_wide, parse_back (hn n hm)]
  · unfold valN
    rw [show (32 : UInt8).toNat = 32 from rfl, hs, List.map_map]
    conv => rhs; rw [← List.map_id r]
    exact List.map_congr_left fun n hm => by
      show (parseW (numTxt n)).1 = n
      rw [parse_wide, parse_back (hn n hm)]
theorem nums59 : ∀ (l : List Int), ∀ x ∈ numsTxt 32 l, x.toNat ≠ 59
  | [], x, hx => by simp [numsTxt, Lib.join_nil] at hx
  | [n], x, hx => by
    unfold numsTxt at hx
    rw [List.map_cons, List.map_nil, Lib.join_one] at hx
    exact (numTxt_chars n x hx).2
  | n :: m :: l, x, hx => by
    have ih := nums59 (m :: l)
    have e : numsTxt 32 (n :: m :: l) = numTxt n ++ 32 :: numsTxt 32 (m :: l) := by
      unfold numsTxt
      rw [List.map_cons, List.map_cons, Lib.join_cons, Lib.join_cons]
      unfold Lib.joinTail
      simp
    rw [e] at hx
    rcases List.mem_append.1 hx with h | h
    · exact (numTxt_chars n x h).2
    · rcases List.mem_cons.1 h with h | h
      · subst h; decide
      · exact ih x h
theorem split_mtx : ∀ M : List (List Int), splitB 59 (mtxT M) = M.map (numsTxt 32) ++ [[]]
  | [] => by simp [mtxT, splitB]
  | r :: M => by
    have ih := split_mtx M
    have e : mtxT (r :: M) = numsTxt 32 r ++ 59 :: mtxT M := by unfold mtxT; simp
    rw [e, split_at _ _ _ (nums59 r) rfl, ih]
    rfl
theorem parse_mtx {M : List (List Int)} (h : matB M = true) : pmB (mtxT M) = true ∧ pmL (mtxT M) = M := by
  have hr := mat_rows h
  have hs := split_mtx M
  have hd : (splitB 59 (mtxT M)).dropLast = M.map (numsTxt 32) := by rw [hs, List.dropLast_concat]
  have hl : (splitB 59 (mtxT M)).getLastD [] = [] := by rw [hs, List.getLastD_concat]
  have hne : ∀ r ∈ M, r ≠ [] := fun r hm e => by
    have := (hr r hm).1
    rw [e] at this
    simp at this
  have hL : pmL (mtxT M) = M := by
    unfold pmL
    rw [hd, List.map_map]
    conv => rhs; rw [← List.map_id M]
    exact List.map_congr_left fun r hm => (row_back (hne r hm) (hr r hm).2).2
  have hA : pmA (mtxT M) = true := by
    unfold pmA
    rw [hd, List.all_eq_true]
    intro x hx
    obtain ⟨r, hm, rfl⟩ := List.mem_map.1 hx
    exact (row_back (hne r hm) (hr r hm).2).1
  refine ⟨?_, hL⟩
  unfold pmB
  rw [hA, hL, h, hl]
  rfl
theorem mtO_par {M : List (List Int)} (h : matB M = true) : pmB (mtO M) = true ∧ pmL (mtO M) = M := by
  unfold mtO
  rw [if_pos h]
  exact parse_mtx h
theorem mtO_len (M : List (List Int)) : (mtO M).length ≤ 900 := by
  unfold mtO
  split
  · rename_i h
    have h1 := mtxT_len (M := M) (fun r hr => ⟨(mat_rows h r hr).1.2, (mat_rows h r hr).2⟩)
    have h2 := (mat_facts h).1
    omega
  · simp
theorem pmL_sm (u : List UInt8) (hu : u.length ≤ 990) : smM (pmL u) := by
  have h1 := splitB_len 59 u
  refine ⟨by unfold pmL; rw [List.length_map, List.length_dropLast]; omega, fun i hi => ?_⟩
  unfold pmL at hi ⊢
  rw [List.length_map] at hi
  rw [List.getD_eq_getElem?_getD, List.getElem?_map, List.getElem?_eq_getElem hi]
  have h2 := valN_lenB 32 ((splitB 59 u).dropLast[i])
  have h3 := splitB_mem_len 59 u _ (List.dropLast_subset _ (List.getElem_mem hi))
  show (valN 32 ((splitB 59 u).dropLast[i])).length ≤ 100000
  omega
theorem if_lenL {b : Bool} {l : List Int} {n : Nat} (h : l.length ≤ n) : (if b = true then l else []).length ≤ n := by split <;> simp [h]
theorem apL_len {M : List (List Int)} (v : List Int) (h : smM M) : (apL M v).length ≤ 100000 := by unfold apL; rw [tab_length]; exact h.1

/-! ### Small calls -/
set_option maxHeartbeats 800000 in
set_option maxRecDepth 100000 in
theorem qLists_c (ad : Option Addr) (cap : Nat) (ad' : Option Addr) (cap' : Nat) (M : List (List Int)) (w : World) (hl : M.length ≤ 1000000) (hl2 : ∀ i, i < M.length → (M.getD i []).length ≤ 1000000) (hr : RdM w ad M) (hr' : RdM w ad' M) :
    Calls Tryz.prog 16 #[.slice ad M.length cap, .slice ad' M.length cap'] w fun e w' => e = .returned (.bool true) ∧ Below w.heap.size w w' := by
  have HR := Lib.hid hr; clear hr
  have HR' := Lib.hid hr'; clear hr'
  have HL2 := Lib.hid hl2; clear hl2
  go_enter Tryz.func16, Tryz.ntmps16
  go_wp2_with fail
  go_loopw [13] (fun i wr => ∃ k : Nat, k ≤ M.length ∧ i = .int .i64 k ∧ Below w.heap.size w wr) (fun i _ => M.length - (intOf i).toNat)
  case atStart => exact ⟨0, Nat.zero_le _, rfl, Below.refl _ _⟩
  case round =>
    obtain ⟨wE, rfl⟩ : ∃ x : World, x = wr := ⟨_, rfl⟩
    obtain ⟨k, hk, rfl, hbel⟩ := hrel
    by_cases hlt : k < M.length
    · obtain ⟨b, off, a1, c1, rfl, hb, k1, r1⟩ := HR.out k hlt
      obtain ⟨b', off', a2, c2, rfl, hb', k2, r2⟩ := HR'.out k hlt
      have k1 := bcell hbel hb k1
      have k2 := bcell hbel hb' k2
      have hkl := HL2.out k hlt
      have R1 := r1.below hbel
      have R2 := r2.below hbel
      generalize M.getD k [] = xs at k1 k2 R1 R2 hkl
      have CS := Lib.hid (fun u (hb : Below wE.heap.size wE u) => qInts_c a1 c1 a2 c2 xs u (by omega) (R1.below hb) (R2.below hb))
      have x1 : (0 : Int) ≤ (k : Int) := by omega
      have x2 : (k : Int) < (M.length : Int) := by omega
      clear R1 R2 r1 r2 hkl
      go_wp2_with fail
      refine wp_region_still_tail 8 (by kernel_rfl) (by kernel_rfl) ?_
      simp only [List.take_succ_cons, List.take_zero, List.drop_succ_cons, List.drop_zero]
      repeat still_step
      refine wpStill_nil ?_
      change wpList _ _ _ _ _ wE.drew
      go_wp2_with fail
      refine (CS.out _ (Below.refl _ _).drew).mono ?_
      rintro e w2 ⟨rfl, hb2⟩
      have hb3 := ball hbel.drew hb2
      clear hb2
      go_wp2_with fail
      go_roundw
      case rel => exact ⟨k + 1, by omega, by go_num, hb3⟩
      case measure => simp [intOf]; omega
    · go_wp2_with fail
      go_ret
      exact ⟨rfl, hbel⟩

set_option maxHeartbeats 800000 in
theorem qPlus_c (a b : Int) (w : World) (hab : -4000000000000000000 ≤ a + b ∧ a + b ≤ 4000000000000000000) :
    Calls Tryz.prog 14 #[.int .i64 a, .int .i64 b] w fun e w' => e = .returned (.int .i64 (prodZ a b)) ∧ w = w' := by
  have wab : IntKind.i64.wrap (a + b) = a + b := i64_small (by omega) (by omega)
  unfold prodZ
  by_cases h1 : a = 1000000000
  · subst h1
    rw [if_pos (Or.inl rfl)]
    go_enter Tryz.func14, Tryz.ntmps14
    go_wp2_with fail
    go_ret
    exact ⟨rfl, rfl⟩
  · have e1 : (a == 1000000000) = false := beq_eq_false_iff_ne.2 h1
    by_cases h2 : b = 1000000000
    · subst h2
      rw [if_pos (Or.inr rfl)]
      go_enter Tryz.func14, Tryz.ntmps14
      go_wp2_with fail
      go_ret
      exact ⟨rfl, rfl⟩
    · have e2 : (b == 1000000000) = false := beq_eq_false_iff_ne.2 h2
      rw [if_neg (by rintro (h | h); exact h1 h; exact h2 h)]
      go_enter Tryz.func14, Tryz.ntmps14
      go_wp2_with fail
      go_ret
      exact ⟨rfl, rfl⟩
set_option maxHeartbeats 400000 in
theorem iIsMatrix_c (ad : Option Addr) (cap : Nat) (M : List (List Int)) (w : World) (hr : RdM w ad M) (hl : smM M) :
    Calls Tryz.prog 11 #[.slice ad M.length cap] w fun e w' => e = .returned (.bool (matB M)) ∧ Below w.heap.size w w' := by
  have C := Lib.hid (isMatrix_c ad cap M w hr (by have := hl.1; omega) (fun i hi => by have := hl.2 i hi; omega)); clear hr hl
  generalize matB M = u at C ⊢
  generalize M.length = n at C ⊢
  go_enter Tryz.func11, Tryz.ntmps11
  go_wp2_with fail
  refine C.out.mono ?_
  rintro e w1 ⟨rfl, hb⟩
  go_wp2_with fail
  go_ret
  exact ⟨rfl, hb⟩
end Go.Proofs.YtfgdhlnmndgjbaaGreatDoor
