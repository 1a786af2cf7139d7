/-
  The reference's tests of points. Printed by gen_polys.py.
-/
import Derived.Test.YtpnnmdkhkjenmaaPoly
import Derived.Test.YtpnnmdkhkjenmaaHalfS
namespace Go.Proofs.Ytpnnmdkhkjenmaa
open Go.RowKit

set_option maxHeartbeats 800000 in
theorem pyOne_c (p : Pt) (w : World) :
    Calls Try.prog 33 #[ptV p] w fun e w' => e = .returned (.bool (ptB p)) ∧ Below w.heap.size w w' := by
  obtain ⟨a, b⟩ := p
  have c1 := fun w => l1In_any a (-100) 100 w
  have c2 := fun w => l1In_any b (-100) 100 w
  have hb := (Below.refl w.heap.size w).alloc (Nat.le_refl _) (.cells #[.int .i64 a, .int .i64 b] 33)
  unfold ptB ptV
  simp only
  generalize inB a (-100) 100 = u at c1 ⊢
  generalize inB b (-100) 100 = v at c2 ⊢
  have C1 := Lib.hid c1; have C2 := Lib.hid c2; clear c1 c2
  cases u
  case false =>
    go_enter Try.func33, Try.ntmps33
    go_wp2_with fail
    refine (C1.out _).mono ?_
    rintro e w' ⟨rfl, rfl⟩
    go_wp2_with fail
    go_ret
    exact ⟨rfl, hb⟩
  case true =>
    go_enter Try.func33, Try.ntmps33
    go_wp2_with fail
    refine (C1.out _).mono ?_
    rintro e w' ⟨rfl, rfl⟩
    go_wp2_with fail
    refine (C2.out _).mono ?_
    rintro e w' ⟨rfl, rfl⟩
    go_wp2_with fail
    go_ret
    exact ⟨rfl, hb⟩

set_option maxHeartbeats 800000 in
theorem pySame_c (ad ad2 : Option Addr) (cap cap2 : Nat) (l m : List Pt) (w : World) (hr : RdP w ad l) (hr2 : RdP w ad2 m) (hl : l.length ≤ 100000) (_hm : m.length ≤ 100000) :
    Calls Try.prog 21 #[.slice ad l.length cap, .slice ad2 m.length cap2] w fun e w' => e = .returned (.bool (decide (l = m))) ∧ Below w.heap.size w w' := by
  have HR := Lib.hid hr; have HR2 := Lib.hid hr2; clear hr hr2
  obtain ⟨D, hD⟩ : ∃ D, decide (l = m) = D := ⟨_, rfl⟩
  rw [hD]
  have HD := Lib.hid hD; clear hD
  by_cases hne : l.length = m.length
  case neg =>
    obtain rfl : D = false := HD.out.symm.trans (decide_eq_false fun e => hne (by rw [e]))
    have h1 : ((l.length : Int) == (m.length : Int)) = false := by simp; omega
    clear hne
    go_enter Try.func21, Try.ntmps21
    go_wp2_with fail
    go_ret
    exact ⟨rfl, Below.refl _ _⟩
  case pos =>
    have HNE := Lib.hid hne.symm
    rw [← hne]
    clear hne
    go_enter Try.func21, Try.ntmps21
    go_wp2_with fail
    go_loopw [13] (fun i wr => ∃ k : Nat, k ≤ l.length ∧ i = .int .i64 k ∧ l.take k = m.take k ∧ Below w.heap.size w wr) (fun i _ => l.length - (intOf i).toNat)
    case atStart => exact ⟨0, Nat.zero_le _, rfl, by simp, Below.refl _ _⟩
    case round =>
      obtain ⟨k, hk, rfl, heq, hbel⟩ := hrel
      have HEQ := Lib.hid heq; clear heq
      by_cases hlt : k < l.length
      case neg =>
        obtain rfl : k = l.length := by omega
        obtain rfl : D = true := HD.out.symm.trans (decide_eq_true (by
          have h := HEQ.out
          rw [List.take_length, ← HNE.out, List.take_length] at h
          exact h))
        go_wp2_with fail
        go_ret
        exact ⟨rfl, hbel⟩
      case pos =>
        obtain ⟨b, off, rfl, hb, c0, c1⟩ := HR.out k hlt
        obtain ⟨b2, off2, rfl, hb2, c2, c3⟩ := HR2.out k (by have := HNE.out; omega)
        have d0 := bcell hbel hb c0
        have d1 := bcell hbel hb c1
        have d2 := bcell hbel hb2 c2
        have d3 := bcell hbel hb2 c3
        clear c0 c1 c2 c3
        have x1 : (0 : Int) ≤ (k : Int) := by omega
        have x2 : (k : Int) < (l.length : Int) := by omega
        obtain ⟨p, hp⟩ : ∃ x, l.getD k default = x := ⟨_, rfl⟩
        obtain ⟨q, hq⟩ : ∃ x, m.getD k default = x := ⟨_, rfl⟩
        rw [hp] at d0 d1
        rw [hq] at d2 d3
        have HPQ := Lib.hid (And.intro hp hq); clear hp hq
        obtain ⟨px, py⟩ := p
        obtain ⟨qx, qy⟩ := q
        simp only at d0 d1 d2 d3
        by_cases hx : px = qx
        case pos =>
          subst hx
          by_cases hy : py = qy
          case pos =>
            subst hy
            have HT := Lib.hid (show l.take (k + 1) = m.take (k + 1) by
              have h1 := HPQ.out.1
              have h2 := HPQ.out.2
              rw [take_snoc' l k hlt, take_snoc' m k (by have := HNE.out; omega), HEQ.out, h1, h2])
            go_wp2_with fail
            go_quiet (fail)
            go_wp2_with fail
            go_roundw
            case rel => exact ⟨k + 1, by omega, by go_num, HT.out, bdrewN hbel nq⟩
            case measure => simp [intOf]; omega
          case neg =>
            obtain rfl : D = false := HD.out.symm.trans (decide_eq_false fun e => by
              have h1 := HPQ.out.1
              have h2 := HPQ.out.2
              rw [e, h2] at h1
              injection h1 with h3 h4
              exact hy h4.symm)
            go_wp2_with fail
            go_quiet (fail)
            go_wp2_with fail
            go_ret
            exact ⟨rfl, bdrewN hbel nq⟩
        case neg =>
          obtain rfl : D = false := HD.out.symm.trans (decide_eq_false fun e => by
            have h1 := HPQ.out.1
            have h2 := HPQ.out.2
            rw [e, h2] at h1
            injection h1 with h3 h4
            exact hx h3.symm)
          go_wp2_with fail
          go_quiet (fail)
          go_wp2_with fail
          go_ret
          exact ⟨rfl, bdrewN hbel nq⟩

set_option maxHeartbeats 800000 in
theorem pyPoints_c (ad : Option Addr) (cap : Nat) (l : List Pt) (w : World) (hr : RdP w ad l) (hl : l.length ≤ 1048576) :
    Calls Try.prog 20 #[.slice ad l.length cap] w fun e w' => e = .returned (.bool (ptsB l)) ∧ Below w.heap.size w w' := by
  have HR := Lib.hid hr; clear hr
  have c1 := Lib.hid (fun w => l1In_any l.length 1 40 w)
  obtain ⟨A, hA⟩ : ∃ A, ptsB l = A := ⟨_, rfl⟩
  rw [hA]
  have HA := Lib.hid hA; clear hA
  go_enter Try.func20, Try.ntmps20
  go_wp2_with fail
  go_loopw [7] (fun i wr => ∃ k : Nat, k ≤ l.length ∧ i = .int .i64 k ∧ (l.take k).all ptB = true ∧ Below w.heap.size w wr) (fun i _ => l.length - (intOf i).toNat)
  case atStart => exact ⟨0, Nat.zero_le _, rfl, by simp, Below.refl _ _⟩
  case round =>
    obtain ⟨k, hk, rfl, hall, hbel⟩ := hrel
    have HALL := Lib.hid hall; clear hall
    by_cases hlt : k < l.length
    case neg =>
      obtain rfl : k = l.length := by omega
      have hv : inB l.length 1 40 = A := by
        have h := HALL.out
        rw [List.take_length] at h
        rw [← HA.out]; unfold ptsB; rw [h, Bool.and_true]
      have c2 := c1.out
      rw [hv] at c2
      have C2 := Lib.hid c2; clear c2 hv
      go_wp2_with fail
      refine (C2.out _).mono ?_
      rintro e w' ⟨rfl, rfl⟩
      go_wp2_with fail
      go_ret
      exact ⟨rfl, hbel⟩
    case pos =>
      obtain ⟨b, off, rfl, hb, c0, c1'⟩ := HR.out k hlt
      have d0 := bcell hbel hb c0
      have d1 := bcell hbel hb c1'
      clear c0 c1'
      obtain ⟨p, hp⟩ : ∃ x, l.getD k default = x := ⟨_, rfl⟩
      rw [hp] at d0 d1
      have cb := fun w => pyOne_c p w
      have hst := Lib.hid (show (l.take (k + 1)).all ptB = ((l.take k).all ptB && ptB p) by rw [take_snoc' l k hlt, hp]; simp)
      have hmem := Lib.hid (show ptB p = false → A = false from fun h => by
        rw [← HA.out]
        unfold ptsB
        cases hc : l.all ptB
        · rw [Bool.and_false]
        · have := List.all_eq_true.1 hc p (by rw [← hp, List.getD_eq_getElem?_getD, List.getElem?_eq_getElem hlt, Option.getD_some]; exact List.getElem_mem _)
          rw [h] at this; exact absurd this (by simp))
      generalize ptB p = u at cb hst hmem
      obtain ⟨px, py⟩ := p
      unfold ptV at cb
      simp only at cb d0 d1
      have CB := Lib.hid cb; clear cb hp
      have hbx := hbel.alloc hbel.size (.cells #[.int .i64 px, .int .i64 py] 33)
      cases u
      case false =>
        obtain rfl := hmem.out rfl
        go_wp2_with fail
        refine (CB.out _).mono ?_
        rintro e w1 ⟨rfl, hw1⟩
        go_wp2_with fail
        go_ret
        exact ⟨rfl, ball hbx hw1⟩
      case true =>
        go_wp2_with fail
        refine (CB.out _).mono ?_
        rintro e w1 ⟨rfl, hw1⟩
        go_wp2_with fail
        go_roundw
        case rel => exact ⟨k + 1, by omega, by go_num, by rw [hst.out, HALL.out]; rfl, ball hbx hw1⟩
        case measure => simp [intOf]; omega

end Go.Proofs.Ytpnnmdkhkjenmaa
