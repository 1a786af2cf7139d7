/-
  Polynomials' forms: the law, plain, and its small calls. By an AI agent.
-/
import Derived.Test.YtfcdmdamniijbaaGreatDoorPfQ
import Derived.Deep.QuietTactic
namespace Go.Proofs.YtfcdmdamniijbaaGreatDoor
open Go.RowKit

/-! ### Moved polynomials -/
theorem list_tab (l : List Int) : tab l.length (fun e => l.getD e 0) = l := tab_self l 0
theorem valsF_zero (l : List Int) : valsF l 0 = l := by
  unfold valsF
  rw [tab_congr (g := fun e => l.getD e 0) (fun i _ => ?_), list_tab]
  unfold cof prodZ
  rw [Int.mul_zero]
  by_cases h : l.getD i 0 = 1000000000
  · rw [if_pos (Or.inl h), h]
  · rw [if_neg (by rintro (h1 | h1); exact h h1; omega), Int.add_zero]
theorem mv_parts {p : List Int} {x : Int} (h : mvB p x = true) : polyB p = true ∧ finB' x = true ∧ polyB (valsF p x) = true := by
  unfold mvB at h
  simp only [Bool.and_eq_true] at h
  exact h
/-- What the law asks of a moved polynomial. -/
theorem mv_val {p : List Int} {x : Int} (h : mvB p x = true) : lsB (valsF p x) 0 = lsB p x ∧ minL (valsF (valsF p x) 0) = minL (valsF p x) := by
  obtain ⟨h1, h2, h3⟩ := mv_parts h
  unfold lsB
  rw [valsF_zero, h1, h2, h3]
  exact ⟨by simp [show finB' 0 = true from rfl], rfl⟩

theorem mv_polyV {p : List Int} {x : Int} (h : mvB p x = true) : polyV (valsF p x) 0 = polyV p x := by
  obtain ⟨h1, h2⟩ := mv_val h
  rw [polyV_ls, polyV_ls, h1, h2]

/-! ### Mirrors -/
theorem fin1_zero {l : List Int} (h0 : 0 < l.length) (h : l.getD 0 0 ≠ 1000000000) : fin1 l = 0 := fin1_at (fun i hi => by omega) h0 h
theorem mirR_len (p : List Int) : (mirR p).length = p.length - fin1 p := by unfold mirR; rw [List.length_reverse, List.length_drop]
theorem drop_last (p : List Int) {k : Nat} (h : k < p.length) : (p.drop k).reverse.getD 0 0 = p.getD (p.length - 1) 0 := by
  rw [List.getD_eq_getElem?_getD, List.getD_eq_getElem?_getD, List.getElem?_reverse (by rw [List.length_drop]; omega), List.getElem?_drop, List.length_drop]
  congr 2
  omega
theorem drop_first (p : List Int) {k : Nat} (h : k < p.length) : (p.drop k).reverse.getD (p.length - k - 1) 0 = p.getD k 0 := by
  rw [List.getD_eq_getElem?_getD, List.getD_eq_getElem?_getD, List.getElem?_reverse (by rw [List.length_drop]; omega), List.getElem?_drop, List.length_drop]
  congr 2
  omega
structure MirG (p R : List Int) : Prop where
  pol : polyB R = true
  len : (R.length : Int) = (p.length : Int) - (fin1 p : Int)
  pos : 0 < R.length
  top : R.getD 0 0 ≠ 1000000000
  back : fin1 p = 0 → mirR R = p
theorem mirG {p : List Int} (h : polyB p = true) : MirG p (mirR p) := by
  obtain ⟨hl, hn, hlast⟩ := polyB_m h
  obtain ⟨f1, f2, f3⟩ := fin1_lt (by omega) hlast
  have hml := mirR_len p
  have htop : (mirR p).getD 0 0 ≠ 1000000000 := by unfold mirR; rw [drop_last p f1]; exact hlast
  have hlst : (mirR p).getD ((mirR p).length - 1) 0 ≠ 1000000000 := by
    rw [hml]; unfold mirR; rw [drop_first p f1]; exact f2
  refine ⟨?_, by omega, by omega, htop, fun h0 => ?_⟩
  · unfold polyB
    rw [decide_eq_true hlst, Bool.and_true, show inB ((mirR p).length : Int) 1 13 = true from inB_t.2 (by omega), Bool.true_and, List.all_eq_true]
    intro x hx
    unfold mirR at hx
    exact hn x (List.mem_of_mem_drop (List.mem_reverse.1 hx))
  · have : fin1 (mirR p) = 0 := fin1_zero (by omega) htop
    unfold mirR at this ⊢
    rw [this, List.drop_zero, List.reverse_reverse, h0, List.drop_zero]

/-! ### Texts -/
theorem numTxt44 {n : Int} : ∀ x ∈ numTxt n, x.toNat ≠ 44 := fun x hx => by
  unfold numTxt at hx
  split at hx
  · revert x; decide
  · have := itoa_in n x hx
    omega
theorem split_nums : ∀ (l : List Int), l ≠ [] → splitB 44 (numsTxt 44 l) = l.map numTxt
  | [], h => absurd rfl h
  | [n], _ => by
    unfold numsTxt
    rw [List.map_cons, List.map_nil, Lib.join_one]
    exact split_no _ numTxt44
  | n :: m :: l, _ => by
    have ih := split_nums (m :: l) (by simp)
    have e : numsTxt 44 (n :: m :: l) = numTxt n ++ 44 :: numsTxt 44 (m :: l) := by
      unfold numsTxt
      rw [List.map_cons, List.map_cons, Lib.join_cons, Lib.join_cons]
      unfold Lib.joinTail
      simp
    rw [e, split_at _ _ _ numTxt44 rfl, ih]
    rfl
theorem parse_nums {p : List Int} (h : polyB p = true) : ppB (numsTxt 44 p) = true ∧ valN 44 (numsTxt 44 p) = p := by
  obtain ⟨hl, hn, _⟩ := polyB_m h
  have hne : p ≠ [] := by intro e; rw [e] at hl; simp at hl
  have hs := split_nums p hne
  have h1 : okN 44 (numsTxt 44 p) = true := by
    unfold okN
    rw [show (44 : UInt8).toNat = 44 from rfl, hs, List.all_eq_true]
    intro x hx
    obtain ⟨n, hm, rfl⟩ := List.mem_map.1 hx
    rw [parse_wide, parse_back (hn n hm)]
  have h2 : valN 44 (numsTxt 44 p) = p := by
    unfold valN
    rw [show (44 : UInt8).toNat = 44 from rfl, hs, List.map_map]
    conv => rhs; rw [← List.map_id p]
    exact List.map_congr_left fun n hm => by
      show (parseW (numTxt n)).1 = n
      rw [parse_wide, parse_back (hn n hm)]
  exact ⟨by unfold ppB; rw [h1, h2, h]; rfl, h2⟩
theorem ptO_par {p : List Int} (h : polyB p = true) : ppB (ptO p) = true ∧ valN 44 (ptO p) = p := by
  unfold ptO
  rw [if_pos h]
  exact parse_nums h
theorem ptO_len (p : List Int) : (ptO p).length ≤ 300 := by
  unfold ptO
  split
  · rename_i h
    obtain ⟨hl, hn, _⟩ := polyB_m h
    have := nums_len (c := 44) (l := p) hn
    omega
  · simp
theorem if_len {b : Bool} {l : List Int} {n : Nat} (h : l.length ≤ n) : (if b = true then l else []).length ≤ n := by split <;> simp [h]
theorem mirR_le (p : List Int) : (mirR p).length ≤ p.length := by rw [mirR_len]; omega
theorem valN_le (u : List UInt8) : (valN 44 u).length ≤ u.length + 1 := by
  rw [valN_len]
  exact splitB_lenC 44 u

/-! ### Slopes -/
structure SlpG (p : List Int) (x : Int) (Q : List Int) : Prop where
  len : Q.length ≤ 1048576
  pos : lsB p x = true → 0 < Q.length
theorem slpG (p : List Int) (x : Int) (hp : p.length ≤ 1048576) : SlpG p x (lsL p x) := ⟨Nat.le_trans (lsL_len p x) hp, fun h => lsL_pos (ls_parts h).1 (ls_parts h).2⟩

set_option maxHeartbeats 800000 in
theorem sameI_c (ad : Option Addr) (cap : Nat) (ad' : Option Addr) (cap' : Nat) (xs : List Int) (w : World) (hl : xs.length ≤ 1048576) (hr : RdI w ad xs) (hr' : RdI w ad' xs) :
    Calls Tryz.prog 8 #[.slice ad xs.length cap, .slice ad' xs.length cap'] w fun e w' => e = .returned (.bool true) ∧ Below w.heap.size w w' := by
  have HR := Lib.hid hr; clear hr
  have HR' := Lib.hid hr'; clear hr'
  go_enter Tryz.func8, Tryz.ntmps8
  go_wp2_with fail
  go_loopw [13] (fun i wr => ∃ k : Nat, k ≤ xs.length ∧ i = .int .i64 k ∧ Below w.heap.size w wr) (fun i _ => xs.length - (intOf i).toNat)
  case atStart => exact ⟨0, Nat.zero_le _, rfl, Below.refl _ _⟩
  case round =>
    obtain ⟨k, hk, rfl, hbel⟩ := hrel
    by_cases hlt : k < xs.length
    · obtain ⟨b, off, rfl, hb, c⟩ := HR.out k hlt
      obtain ⟨b', off', rfl, hb', c'⟩ := HR'.out k hlt
      have d := bcell hbel hb c
      have d' := bcell hbel hb' c'
      clear c c'
      generalize xs.getD k 0 = x at d d'
      have x1 : (0 : Int) ≤ (k : Int) := by omega
      have x2 : (k : Int) < (xs.length : Int) := by omega
      go_wp2_with fail
      go_quiet (fail)
      go_wp2_with fail
      go_roundw
      case rel => exact ⟨k + 1, by omega, by go_num, bdrewN hbel _⟩
      case measure => simp [intOf]; omega
    · go_wp2_with fail
      go_ret
      exact ⟨rfl, hbel⟩
end Go.Proofs.YtfcdmdamniijbaaGreatDoor
