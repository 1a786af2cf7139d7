/-
  Some texts of this proof in one: PfG PfH. Each part tells what it proves. By an AI agent.
-/
import Derived.Test.YtfcdmdamniijbaaGreatDoorPfE
import Derived.Test.YtfcdmdamniijbaaGreatDoorRtS

/-
  Polynomials' ends and mirrors: the reference's, and EndTerms of the program. By an AI agent.
-/
namespace Go.Proofs.YtfcdmdamniijbaaGreatDoor
open Go.RowKit

theorem fin1_lt : ∀ {p : List Int}, 0 < p.length → p.getD (p.length - 1) 0 ≠ 1000000000 → fin1 p < p.length ∧ p.getD (fin1 p) 0 ≠ 1000000000 ∧ ∀ i, i < fin1 p → p.getD i 0 = 1000000000
  | [], h, _ => by simp at h
  | a :: l, _, hl => by
    unfold fin1
    by_cases e : a = 1000000000
    · rw [if_pos e]
      have h0 : 0 < l.length := by
        rcases Nat.eq_zero_or_pos l.length with h | h
        · rw [List.length_eq_zero_iff.1 h] at hl; simp at hl; exact absurd e hl
        · exact h
      obtain ⟨h1, h2, h3⟩ := fin1_lt (p := l) h0 (by
        rw [List.length_cons, Nat.add_sub_cancel] at hl
        obtain ⟨m, hm⟩ : ∃ m, l.length = m + 1 := ⟨l.length - 1, by omega⟩
        rw [hm, List.getD_cons_succ] at hl
        rw [hm, Nat.add_sub_cancel]
        exact hl)
      refine ⟨by simp only [List.length_cons]; omega, by simpa using h2, fun i hi => ?_⟩
      cases i with
      | zero => simpa using e
      | succ i => simpa using h3 i (by omega)
    · rw [if_neg e]
      exact ⟨by simp, by simpa using e, fun i hi => by omega⟩
def mirR (p : List Int) : List Int := (p.drop (fin1 p)).reverse
theorem drop_rev (p : List Int) {i : Nat} (h : i < p.length) : (p.drop i).reverse = (p.drop (i + 1)).reverse ++ [p.getD i 0] := by
  rw [List.drop_eq_getElem_cons h, List.reverse_cons, List.getD_eq_getElem?_getD, List.getElem?_eq_getElem h, Option.getD_some]

set_option maxHeartbeats 1600000 in
theorem poEnds_c (ad : Option Addr) (cap : Nat) (p : List Int) (w : World) (hr : RdI w ad p) (hp : polyB p = true) :
    Calls Tryz.prog 42 #[.slice ad p.length cap] w fun e w' => e = .returned (.tuple #[.int .i64 (fin1 p), .int .i64 ((p.length : Int) - 1)]) ∧ w = w' := by
  obtain ⟨hl, _, hlast⟩ := polyB_m hp
  obtain ⟨f1, f2, f3⟩ := fin1_lt (by omega) hlast
  have HR := Lib.hid hr; have F2 := Lib.hid f2; have F3 := Lib.hid f3
  clear hr hp hlast f2 f3
  obtain ⟨n, hn⟩ : ∃ n, p.length = n := ⟨_, rfl⟩
  have HN := Lib.hid hn
  rw [hn] at hl f1 ⊢
  clear hn
  generalize fin1 p = F at f1 F2 F3 ⊢
  have wn : IntKind.i64.wrap ((n : Int) - 1) = (n : Int) - 1 := i64_small (by omega) (by omega)
  go_enter Tryz.func42, Tryz.ntmps42
  go_wp2_with fail
  go_loopw [4] (fun i wr => ∃ k : Nat, k ≤ F ∧ i = .int .i64 k ∧ w = wr) (fun i _ => F - (intOf i).toNat)
  case atStart => exact ⟨0, Nat.zero_le _, rfl, rfl⟩
  case round =>
    obtain ⟨k, hk, rfl, rfl⟩ := hrel
    obtain ⟨b, off, rfl, hb, c0⟩ := HR.out k (by rw [HN.out]; omega)
    have x1 : (0 : Int) ≤ (k : Int) := by omega
    have x2 : (k : Int) < (n : Int) := by omega
    by_cases e : k < F
    · rw [F3.out k e] at c0
      go_wp2_with fail
      go_roundw
      case rel => exact ⟨k + 1, by omega, by go_num, trivial⟩
      case measure => simp [intOf]; omega
    · obtain rfl : k = F := by omega
      have f2 := F2.out
      generalize p.getD k 0 = y at c0 f2
      have eb : (y == 1000000000) = false := beq_eq_false_iff_ne.2 f2
      go_wp2_with fail
      go_ret2
      exact ⟨rfl, rfl⟩

def endsV (p : List Int) : Value := .tuple #[.int .i64 (if polyB p = true then (fin1 p : Int) else 0), .int .i64 (if polyB p = true then (p.length : Int) - 1 else 0), .bool (polyB p)]
set_option maxHeartbeats 800000 in
theorem iEndTerms_c (ad : Option Addr) (cap : Nat) (p : List Int) (w : World) (hr : RdI w ad p) (hl : p.length ≤ 1048576) :
    Calls Tryz.prog 17 #[.slice ad p.length cap] w fun e w' => e = .returned (endsV p) ∧ w = w' := by
  have c := isPoly_c ad cap p w hr hl
  unfold endsV
  obtain ⟨u, hu⟩ : ∃ u, polyB p = u := ⟨_, rfl⟩
  rw [hu] at c ⊢
  have C := Lib.hid c; clear c
  cases u
  case false =>
    rw [if_neg (by simp), if_neg (by simp)]
    clear hr hu
    go_enter Tryz.func17, Tryz.ntmps17
    go_wp2_with fail
    refine C.out.mono ?_
    rintro e w1 ⟨rfl, rfl⟩
    go_wp2_with fail
    exact bodyPost_ret (v := .tuple #[.int .i64 0, .int .i64 0, .bool false]) (by simp [results, Tryz.results17, go_sem]) rfl ⟨rfl, rfl⟩
  case true =>
    rw [if_pos rfl, if_pos rfl]
    have ce := Lib.hid (ends_c ad cap p w hr hu)
    clear hr hu
    generalize (fin1 p : Int) = F at ce ⊢
    generalize ((p.length : Int) - 1) = E at ce ⊢
    go_enter Tryz.func17, Tryz.ntmps17
    go_wp2_with fail
    refine C.out.mono ?_
    rintro e w1 ⟨rfl, rfl⟩
    go_wp2_with fail
    refine ce.out.mono ?_
    rintro e w1 ⟨rfl, rfl⟩
    go_wp2_with fail
    exact bodyPost_ret (v := .tuple #[.int .i64 F, .int .i64 E, .bool true]) (by simp [results, Tryz.results17, go_sem]) rfl ⟨rfl, rfl⟩

set_option maxHeartbeats 800000 in
theorem sEndTerms_c (ad : Option Addr) (cap : Nat) (p : List Int) (w : World) (hr : RdI w ad p) (hl : p.length ≤ 1048576) :
    Calls Tryz.prog 18 #[.slice ad p.length cap] w fun e w' => e = .returned (endsV p) ∧ w = w' := by
  have c := poGood_c ad cap p w hr hl
  unfold endsV
  obtain ⟨u, hu⟩ : ∃ u, polyB p = u := ⟨_, rfl⟩
  rw [hu] at c ⊢
  have C := Lib.hid c; clear c
  cases u
  case false =>
    rw [if_neg (by simp), if_neg (by simp)]
    clear hr hu
    go_enter Tryz.func18, Tryz.ntmps18
    go_wp2_with fail
    refine C.out.mono ?_
    rintro e w1 ⟨rfl, rfl⟩
    go_wp2_with fail
    exact bodyPost_ret (v := .tuple #[.int .i64 0, .int .i64 0, .bool false]) (by simp [results, Tryz.results18, go_sem]) rfl ⟨rfl, rfl⟩
  case true =>
    rw [if_pos rfl, if_pos rfl]
    have ce := Lib.hid (poEnds_c ad cap p w hr hu)
    clear hr hu
    generalize (fin1 p : Int) = F at ce ⊢
    generalize ((p.length : Int) - 1) = E at ce ⊢
    go_enter Tryz.func18, Tryz.ntmps18
    go_wp2_with fail
    refine C.out.mono ?_
    rintro e w1 ⟨rfl, rfl⟩
    go_wp2_with fail
    refine ce.out.mono ?_
    rintro e w1 ⟨rfl, rfl⟩
    go_wp2_with fail
    exact bodyPost_ret (v := .tuple #[.int .i64 F, .int .i64 E, .bool true]) (by simp [results, Tryz.results18, go_sem]) rfl ⟨rfl, rfl⟩
end Go.Proofs.YtfcdmdamniijbaaGreatDoor

/-
  The mirror of a polynomial: the reference's. By an AI agent.
-/
namespace Go.Proofs.YtfcdmdamniijbaaGreatDoor
open Go.RowKit

set_option maxRecDepth 100000 in
set_option maxHeartbeats 1600000 in
theorem sMirrorPoly_c (ad : Option Addr) (cap : Nat) (p : List Int) (w : World) (hr : RdI w ad p) (hl : p.length ≤ 1048576) :
    Calls Tryz.prog 16 #[.slice ad p.length cap] w (IntsO w (polyB p) (if polyB p = true then mirR p else [])) := by
  have c := poGood_c ad cap p w hr hl
  obtain ⟨u, hu⟩ : ∃ u, polyB p = u := ⟨_, rfl⟩
  rw [hu] at c ⊢
  have C := Lib.hid c; clear c
  cases u
  case false =>
    clear hr hu
    go_enter Tryz.func16, Tryz.ntmps16
    go_wp2_with fail
    refine C.out.mono ?_
    rintro e w1 ⟨rfl, rfl⟩
    go_wp2_with fail
    go_ret2
    exact ⟨none, 0, rfl, RdI.nil _ _, Below.refl _ _⟩
  case true =>
    rw [if_pos rfl]
    obtain ⟨i0, hi0, hz0, hz1, hz2⟩ := info_parts Tryz.infoI
    have ce := Lib.hid (poEnds_c ad cap p w hr hu)
    obtain ⟨hln, _, hlast⟩ := polyB_m hu
    obtain ⟨f1, _, _⟩ := fin1_lt (by omega) hlast
    have HR := Lib.hid hr
    clear hr hu hlast
    unfold mirR
    have HDR := Lib.hid (fun i h => drop_rev p (i := i) h)
    have HD0 := Lib.hid (show (p.drop p.length).reverse = [] by simp)
    have HDL := Lib.hid (fun i => show ((p.drop i).reverse).length = p.length - i by simp)
    obtain ⟨n, hn⟩ : ∃ n, p.length = n := ⟨_, rfl⟩
    have HN := Lib.hid hn
    rw [hn] at hln f1 HDR HD0 HDL ce ⊢
    clear hn hl
    generalize fin1 p = F at ce f1 ⊢
    obtain ⟨Z, hZ⟩ : ∃ Z, (p.drop F).reverse = Z := ⟨_, rfl⟩
    rw [hZ]
    have HZ := Lib.hid hZ; clear hZ
    have wn : IntKind.i64.wrap ((n : Int) - 1) = (n : Int) - 1 := i64_small (by omega) (by omega)
    rw [HN.out] at C
    go_enter Tryz.func16, Tryz.ntmps16
    go_wp2_with fail
    refine C.out.mono ?_
    rintro e w1 ⟨rfl, rfl⟩
    go_wp2_with fail
    refine ce.out.mono ?_
    rintro e w1 ⟨rfl, rfl⟩
    go_wp2_with fail
    go_loopw [6, 7] (fun v i wr => ∃ k : Nat, k ≤ n - F ∧ i = .int .i64 ((F : Int) + k - 1) ∧ RowI wr w.heap.size v ((p.drop (F + k)).reverse) ∧ Below w.heap.size w wr) (fun _ i _ => (intOf i + 1 - F).toNat)
    case atStart =>
      refine ⟨n - F, Nat.le_refl _, ?_, ?_, Below.refl _ _⟩
      · congr 1; omega
      · rw [show F + (n - F) = n by omega, HD0.out]; exact RowI.nil _ _
    case round =>
      obtain ⟨wE, rfl⟩ : ∃ x : World, x = wr := ⟨_, rfl⟩
      obtain ⟨k, hk, rfl, hrow, hbel⟩ := hrel
      have hlen := HDL.out (F + k)
      by_cases hlt : 0 < k
      case neg =>
        obtain rfl : k = 0 := by omega
        rw [Nat.add_zero, HZ.out] at hrow
        obtain ⟨ad2, cap2, rfl, hrd⟩ := hrow.shape
        have HRD := Lib.hid hrd; clear hrd hrow hlen
        have g1 : decide ((F : Int) ≤ (F : Int) + ((0 : Nat) : Int) - 1) = false := decide_eq_false (by omega)
        have g2 : decide ((F : Int) ≤ (F : Int) + 0 - 1) = false := decide_eq_false (by omega)
        have g3 : decide ((F : Int) ≤ (F : Int) - 1) = false := decide_eq_false (by omega)
        go_wp2_with fail
        go_ret2
        exact ⟨ad2, cap2, rfl, HRD.out, hbel⟩
      case pos =>
        obtain ⟨m, rfl⟩ : ∃ m, k = m + 1 := ⟨k - 1, by omega⟩
        have hst := HDR.out (F + m) (by omega)
        obtain ⟨b, off, rfl, hb, c0⟩ := HR.out (F + m) (by rw [HN.out]; omega)
        have d0 := bcell hbel hb c0
        generalize p.getD (F + m) 0 = y at d0 hst
        have HST := Lib.hid hst
        rw [show F + (m + 1) = F + m + 1 by omega] at hrow hlen
        generalize (p.drop (F + m + 1)).reverse = L at hrow hlen HST
        have HO := Lib.hid hrow
        obtain ⟨j, hj⟩ : ∃ j : Nat, F + m = j := ⟨_, rfl⟩
        have hjn : j < n := by omega
        have ev : (F : Int) + ((m + 1 : Nat) : Int) - 1 = (j : Int) := by omega
        rw [ev]
        rw [hj] at d0
        have g1 : decide ((F : Int) ≤ (j : Int)) = true := decide_eq_true (by omega)
        have x1 : (0 : Int) ≤ (j : Int) := by omega
        have x2 : (j : Int) < (n : Int) := by omega
        have wj : IntKind.i64.wrap ((j : Int) - 1) = (j : Int) - 1 := i64_small (by omega) (by omega)
        have hsz := hbel.size
        have hle : L.length ≤ 1048576 := by omega
        clear hrow hst c0 ev hlen
        go_wp2_with (at_builtin; refine wpList_append_lies _ rfl _ _ _ rfl w.heap.size 3 i0 _ 1 8 Tryz.underlying24 hi0 hz0 hz1 hz2 rfl (by omega) _ L.length (ints L) rfl (HO.out.alloc _) ⟨wE.heap.size, 0, none⟩ 1 1 [.int .i64 y] rfl rfl (World.news_of_block (cs := #[.int .i64 y]) (t := 3) (fr := (0, 0)) (heap_alloc_new _ _)) (by simp [Value.oneCell']) (by omega) (by unfold maxLen; omega) (by omega) (by simp; omega) (wE.heap.size + 1) (by simp) ?_; intro gg gcap w2 hown1 hgrow hat hlt2)
        go_roundw
        case rel =>
          refine ⟨m, by omega, by congr 1; omega, ?_, app_below hbel hsz HO.out hgrow⟩
          rw [HST.out]
          exact row_congr hown1 (by simp) (by simp [ints])
        case measure => simp [intOf]; omega
end Go.Proofs.YtfcdmdamniijbaaGreatDoor
