/-
  Polynomials' ends, texts and readings of the program. By an AI agent.
-/
import Derived.Test.YtfcdmdamniijbaaGreatDoorPfB
import Derived.Test.YtfcdmdamniijbaaGreatDoorRtI
namespace Go.Proofs.YtfcdmdamniijbaaGreatDoor
open Go.RowKit

/-! ### Plain -/
def fin1 : List Int → Nat
  | [] => 0
  | a :: l => if a = 1000000000 then fin1 l + 1 else 0
theorem fin1_at : ∀ {p : List Int} {k : Nat}, (∀ i, i < k → p.getD i 0 = 1000000000) → k < p.length → p.getD k 0 ≠ 1000000000 → fin1 p = k
  | a :: l, 0, _, _, h => by
    unfold fin1
    rw [if_neg (by simpa using h)]
  | a :: l, k + 1, hall, hk, h => by
    unfold fin1
    rw [if_pos (by simpa using hall 0 (by omega)), fin1_at (k := k) (fun i hi => by simpa using hall (i + 1) (by omega)) (by simpa using hk) (by simpa using h)]
theorem polyB_m {p : List Int} (h : polyB p = true) : (1 ≤ p.length ∧ p.length ≤ 13) ∧ (∀ n ∈ p, numB n = true) ∧ p.getD (p.length - 1) 0 ≠ 1000000000 := by
  unfold polyB at h
  simp only [Bool.and_eq_true, decide_eq_true_eq] at h
  have h1 := inB_t.1 h.1
  exact ⟨by omega, fun n hn => List.all_eq_true.1 h.2.1 n hn, h.2.2⟩

/-! ### The program -/
set_option maxHeartbeats 400000 in
theorem ends1_c (y : Int) (w : World) : Calls Tryz.prog 61 #[.int .i64 y] w fun e w' => e = .returned (.bool (y != 1000000000)) ∧ w = w' := by
  go_enter Tryz.func61, Tryz.ntmps61
  go_wp2_with fail
  go_ret
  exact ⟨rfl, rfl⟩

set_option maxHeartbeats 1600000 in
set_option maxRecDepth 100000 in
theorem indexFunc_c (ad : Option Addr) (cap : Nat) (p : List Int) (w : World) (hr : RdI w ad p) (hp : polyB p = true) :
    Calls Tryz.prog 60 #[.slice ad p.length cap, .func (.func 61) #[] #[]] w fun e w' => e = .returned (.int .i64 (fin1 p)) ∧ w = w' := by
  obtain ⟨hl, _, hlast⟩ := polyB_m hp
  have HR := Lib.hid hr; clear hr hp
  have HLA := Lib.hid hlast; clear hlast
  have HF := Lib.hid (fun k => fin1_at (p := p) (k := k))
  obtain ⟨n, hn⟩ : ∃ n, p.length = n := ⟨_, rfl⟩
  rw [hn] at hl HLA HF ⊢
  have HN := Lib.hid hn; clear hn
  generalize fin1 p = F at HF ⊢
  go_enter Tryz.func60, Tryz.ntmps60
  go_wp2_with fail
  go_loopw [8] (fun i wr => ∃ k : Nat, k < n ∧ i = .int .i64 k ∧ (∀ j, j < k → p.getD j 0 = 1000000000) ∧ w = wr) (fun i _ => n - (intOf i).toNat)
  case atStart => exact ⟨0, by omega, rfl, fun j h => by omega, rfl⟩
  case round =>
    obtain ⟨k, hk, rfl, hall, rfl⟩ := hrel
    have HALL := Lib.hid hall; clear hall
    obtain ⟨b, off, rfl, hb, c0⟩ := HR.out k (by rw [HN.out]; exact hk)
    have hla := HLA.out
    have hfk := HF.out k HALL.out hk
    obtain ⟨y, hy⟩ : ∃ y, p.getD k 0 = y := ⟨_, rfl⟩
    rw [hy] at c0 hfk
    have HY := Lib.hid hy
    have x1 : (0 : Int) ≤ (k : Int) := by omega
    have x2 : (k : Int) < (n : Int) := by omega
    have ce := Lib.hid (fun w => ends1_c y w)
    by_cases e : y = 1000000000
    · subst e
      have hk2 : k + 1 < n := by
        rcases Nat.lt_or_ge (k + 1) n with h | h
        · exact h
        · exfalso
          have : n - 1 = k := by omega
          rw [this, hy] at hla
          exact hla rfl
      clear hla hfk hy
      go_wp2_with fail
      refine (ce.out _).mono ?_
      rintro e w1 ⟨rfl, rfl⟩
      go_wp2_with fail
      go_roundw
      case rel => exact ⟨k + 1, hk2, by go_num, fun j hj => by
        rcases Nat.lt_or_ge j k with h | h
        · exact HALL.out j h
        · obtain rfl : j = k := by omega
          exact HY.out, trivial⟩
      case measure => simp [intOf]; omega
    · obtain rfl := hfk e
      have eb : (y != 1000000000) = true := bne_iff_ne.2 e
      clear hla hfk hy
      go_wp2_with fail
      refine (ce.out _).mono ?_
      rintro e w1 ⟨rfl, rfl⟩
      go_wp2_with fail
      go_ret
      exact ⟨rfl, rfl⟩

set_option maxHeartbeats 800000 in
theorem ends_c (ad : Option Addr) (cap : Nat) (p : List Int) (w : World) (hr : RdI w ad p) (hp : polyB p = true) :
    Calls Tryz.prog 39 #[.slice ad p.length cap] w fun e w' => e = .returned (.tuple #[.int .i64 (fin1 p), .int .i64 ((p.length : Int) - 1)]) ∧ w = w' := by
  have c := Lib.hid (indexFunc_c ad cap p w hr hp)
  have hl := (polyB_m hp).1
  clear hr hp
  generalize p.length = n at c hl ⊢
  generalize fin1 p = F at c ⊢
  have wn : IntKind.i64.wrap ((n : Int) - 1) = (n : Int) - 1 := i64_small (by omega) (by omega)
  go_enter Tryz.func39, Tryz.ntmps39
  go_wp2_with fail
  refine c.out.mono ?_
  rintro e w1 ⟨rfl, rfl⟩
  go_wp2_with fail
  go_ret2
  exact ⟨rfl, rfl⟩

def IntsO (w : World) (b : Bool) (l : List Int) (e : Ending) (w' : World) : Prop := ∃ ad cap, e = .returned (.tuple #[.slice ad l.length cap, .bool b]) ∧ RdI w' ad l ∧ Below w.heap.size w w'
set_option maxHeartbeats 800000 in
theorem toldPoly_c (ad : Option Addr) (cap : Nat) (p : List Int) (w : World) (hr : RdI w ad p) (hl : p.length ≤ 1048576) :
    Calls Tryz.prog 28 #[.slice ad p.length cap] w (IntsO w (polyB p) (if polyB p = true then p else [])) := by
  have c := isPoly_c ad cap p w hr hl
  have HR := Lib.hid hr; clear hr
  obtain ⟨u, hu⟩ : ∃ u, polyB p = u := ⟨_, rfl⟩
  rw [hu] at c ⊢
  clear hu
  have C := Lib.hid c; clear c
  cases u
  case false =>
    go_enter Tryz.func28, Tryz.ntmps28
    go_wp2_with fail
    refine C.out.mono ?_
    rintro e w1 ⟨rfl, rfl⟩
    go_wp2_with fail
    go_ret2
    exact ⟨none, 0, rfl, RdI.nil _ _, Below.refl _ _⟩
  case true =>
    rw [if_pos rfl]
    go_enter Tryz.func28, Tryz.ntmps28
    go_wp2_with fail
    refine C.out.mono ?_
    rintro e w1 ⟨rfl, rfl⟩
    go_wp2_with fail
    go_ret2
    exact ⟨ad, cap, rfl, HR.out, Below.refl _ _⟩

def ppB (s : List UInt8) : Bool := okN 44 s && polyB (valN 44 s)
set_option maxHeartbeats 800000 in
theorem iParsePoly_c (s : List UInt8) (w : World) (hs : s.length ≤ 100000) (hL : LaidL w) :
    Calls Tryz.prog 23 #[.string ⟨s.toArray⟩] w (IntsO w (ppB s) (if ppB s = true then valN 44 s else [])) := by
  have c := parseNumbers_c s 44 w hs hL
  have hvl : (valN 44 s).length ≤ 100001 := by
    unfold valN
    rw [List.length_map]
    have := splitB_lenC (44 : UInt8).toNat s
    omega
  clear hL
  unfold ppB
  generalize okN 44 s = u at c ⊢
  generalize valN 44 s = L at c hvl ⊢
  generalize (⟨s.toArray⟩ : ByteArray) = S at c ⊢
  have C := Lib.hid c; clear c
  cases u
  case false =>
    simp only [Bool.false_and, Bool.false_eq_true, if_false]
    go_enter Tryz.func23, Tryz.ntmps23
    go_wp2_with fail
    refine C.out.mono ?_
    rintro e w1 ⟨v, rfl, hrow, hb⟩
    go_wp2_with fail
    go_ret2
    exact ⟨none, 0, rfl, RdI.nil _ _, hb⟩
  case true =>
    rw [Bool.true_and]
    obtain ⟨pb, hpb⟩ : ∃ x, polyB L = x := ⟨_, rfl⟩
    obtain ⟨Z, hZ⟩ : ∃ x, (if pb = true then L else []) = x := ⟨_, rfl⟩
    rw [hpb, hZ]
    have HPB := Lib.hid hpb; have HZ := Lib.hid hZ; clear hpb hZ
    go_enter Tryz.func23, Tryz.ntmps23
    go_wp2_with fail
    refine C.out.mono ?_
    rintro e w1 ⟨v, rfl, hrow, hb⟩
    rw [if_pos rfl] at hrow
    obtain ⟨ad, cap, rfl, hrd⟩ := hrow.shape
    have ct := toldPoly_c ad cap L w1 hrd (by omega)
    rw [HPB.out, HZ.out] at ct
    have CT := Lib.hid ct
    clear ct hrow hrd C
    go_wp2_with fail
    refine CT.out.mono ?_
    rintro e w2 ⟨ad2, cap2, rfl, hr2, hb2⟩
    have HR2 := Lib.hid hr2; clear hr2
    go_wp2_with fail
    go_ret2
    exact ⟨ad2, cap2, rfl, HR2.out, ball hb hb2⟩

def ptO (p : List Int) : List UInt8 := if polyB p = true then numsTxt 44 p else []
set_option maxHeartbeats 800000 in
theorem iPolyText_c (ad : Option Addr) (cap : Nat) (p : List Int) (w : World) (hr : RdI w ad p) (hl : p.length ≤ 1048576) (hL : LaidS w) :
    Calls Tryz.prog 20 #[.slice ad p.length cap] w fun e w' => e = .returned (.tuple #[strV (ptO p), .bool (polyB p)]) ∧ Below w.heap.size w w' := by
  have c := isPoly_c ad cap p w hr hl
  unfold ptO
  obtain ⟨u, hu⟩ : ∃ u, polyB p = u := ⟨_, rfl⟩
  rw [hu] at c ⊢
  have C := Lib.hid c; clear c
  cases u
  case false =>
    rw [if_neg (by simp)]
    unfold strV
    clear hr hL hu
    go_enter Tryz.func20, Tryz.ntmps20
    go_wp2_with fail
    refine C.out.mono ?_
    rintro e w1 ⟨rfl, rfl⟩
    go_wp2_with fail
    go_ret2
    exact ⟨rfl, Below.refl _ _⟩
  case true =>
    rw [if_pos rfl]
    obtain ⟨h1, h2, _⟩ := polyB_m hu
    have ct := numbersText_c ad cap p 44 w hr (by omega) (by omega) h2 hL
    generalize numsTxt 44 p = T at ct ⊢
    unfold strV at ct ⊢
    have CT := Lib.hid ct
    clear ct hr hL hu h1 h2
    go_enter Tryz.func20, Tryz.ntmps20
    go_wp2_with fail
    refine C.out.mono ?_
    rintro e w1 ⟨rfl, rfl⟩
    go_wp2_with fail
    refine CT.out.mono ?_
    rintro e w2 ⟨rfl, hw2⟩
    go_wp2_with fail
    go_ret2
    exact ⟨rfl, hw2⟩
end Go.Proofs.YtfcdmdamniijbaaGreatDoor
