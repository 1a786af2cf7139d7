/-
  Whether numbers can be and are potentials; reduced matrices: program and reference. By an AI agent.
-/
import Derived.Test.YtbffcbjbeeagmaaWyI
namespace Go.Proofs.Ytbffcbjbeeagmaa
open Go.RowKit

set_option maxHeartbeats 1600000 in
theorem areOne_c (ad : Option Addr) (cap : Nat) (N : Nat) (adp : Option Addr) (capp : Nat) (p : List Int) (w : World) (hp : RdI w adp p) (hl : p.length ≤ 1048576) :
    Calls Try.prog 70 #[.slice ad N cap, .slice adp p.length capp] w fun e w' => e = .returned (.bool (decide (p.length = N) && p.all finB)) ∧ w = w' := by
  have C1 := Lib.hid (areFinite_c adp capp p w hp hl)
  clear hp
  generalize p.all finB = V at C1 ⊢
  generalize p.length = n at C1 ⊢
  obtain ⟨q, hq⟩ : ∃ q, ((n : Int) == (N : Int)) = q := ⟨_, rfl⟩
  have hq2 : (n == N) = q := by rw [← hq, (natEq n N).1, (natEq n N).2.1]
  have hq3 : decide (n = N) = q := by rw [← hq, (natEq n N).1]
  rw [hq3]
  clear hq3
  cases q
  · go_enter Try.func70, Try.ntmps70
    go_wp2_with fail
    go_ret
    exact ⟨rfl, rfl⟩
  · go_enter Try.func70, Try.ntmps70
    go_wp2_with fail
    refine C1.out.mono ?_
    rintro e w1 ⟨rfl, rfl⟩
    go_wp2_with fail
    go_ret
    exact ⟨rfl, rfl⟩

def areR (M : List (List Int)) (p : List Int) : Value := .tuple #[.bool (hasB M p), .bool (askB M p)]
set_option maxHeartbeats 1600000 in
theorem arePotentialsI_c (ad : Option Addr) (cap : Nat) (M : List (List Int)) (adp : Option Addr) (capp : Nat) (p : List Int) (w : World) (hr : RdM w ad M) (hl : smM M) (hp : RdI w adp p) (hlp : p.length ≤ 1048576) :
    Calls Try.prog 24 #[.slice ad M.length cap, .slice adp p.length capp] w fun e w' => e = .returned (areR M p) ∧ Below w.heap.size w w' := by
  have C1 := Lib.hid (isSquare_c ad cap M w hr (by have := hl.1; omega) (fun i hi => by have := hl.2 i hi; omega))
  have C2 := Lib.hid (fun u (hb : Below w.heap.size w u) => areOne_c ad cap M.length adp capp p u (hp.below hb) hlp)
  have C3 := Lib.hid (fun (h : askB M p = true) u (hb : Below w.heap.size w u) => by
    obtain ⟨h1, h2, h3⟩ := ask_facts h
    obtain ⟨hn, _, hnum⟩ := sq_facts h1
    have hr2 := hr.below hb
    rw [← sq_toM h1] at hr2
    exact arePotentials_c M.length ad cap (entM M) adp capp p u hr2 (hp.below hb) hn h2 h3 hnum)
  obtain ⟨A, hA⟩ : ∃ A, askB M p = A := ⟨_, rfl⟩
  obtain ⟨H, hH⟩ : ∃ H, hasB M p = H := ⟨_, rfl⟩
  have hask : (sqB M && (decide (p.length = M.length) && p.all finB)) = A := hA
  have hhas : (askB M p && ptB M.length (entM M) p) = H := hH
  have hpn : askB M p = true → p.length = M.length := fun h => (ask_facts h).2.1
  unfold areR
  clear hr hl hp hlp
  rw [hH]
  generalize ptB M.length (entM M) p = T at hhas C3
  rw [hA] at hhas C3 hpn ⊢
  clear hA hH
  generalize (decide (p.length = M.length) && p.all finB) = O at hask C2
  generalize sqB M = S at hask C1
  generalize p.length = np at C2 C3 hpn ⊢
  generalize M.length = n at C1 C2 C3 hpn ⊢
  cases S
  · obtain rfl : A = false := hask.symm
    obtain rfl : H = false := hhas.symm
    clear C2 C3 hask hhas hpn
    go_enter Try.func24, Try.ntmps24
    go_wp2_with fail
    refine C1.out.mono ?_
    rintro e w1 ⟨rfl, hb1⟩
    go_wp2_with fail
    go_ret2
    exact ⟨rfl, hb1⟩
  · cases O
    · obtain rfl : A = false := hask.symm
      obtain rfl : H = false := hhas.symm
      clear C3 hask hhas hpn
      go_enter Try.func24, Try.ntmps24
      go_wp2_with fail
      refine C1.out.mono ?_
      rintro e w1 ⟨rfl, hb1⟩
      go_wp2_with fail
      refine (C2.out _ hb1).mono ?_
      rintro e w2 ⟨rfl, rfl⟩
      go_wp2_with fail
      go_ret2
      exact ⟨rfl, hb1⟩
    · obtain rfl : A = true := hask.symm
      obtain rfl : H = T := hhas.symm
      have C4 := Lib.hid (C3.out rfl)
      obtain rfl := hpn rfl
      clear C3 hask hhas hpn
      go_enter Try.func24, Try.ntmps24
      go_wp2_with fail
      refine C1.out.mono ?_
      rintro e w1 ⟨rfl, hb1⟩
      go_wp2_with fail
      refine (C2.out _ hb1).mono ?_
      rintro e w2 ⟨rfl, rfl⟩
      go_wp2_with fail
      refine (C4.out _ hb1).mono ?_
      rintro e w2 ⟨rfl, hb2⟩
      go_wp2_with fail
      go_ret2
      exact ⟨rfl, ball hb1 hb2⟩
set_option maxHeartbeats 1600000 in
theorem hasPotentials_c (ad : Option Addr) (cap : Nat) (M : List (List Int)) (adp : Option Addr) (capp : Nat) (p : List Int) (w : World) (hr : RdM w ad M) (hl : smM M) (hp : RdI w adp p) (hlp : p.length ≤ 1048576) :
    Calls Try.prog 72 #[.slice ad M.length cap, .slice adp p.length capp] w fun e w' => e = .returned (.bool (hasB M p)) ∧ Below w.heap.size w w' := by
  have C1 := Lib.hid (isSquare_c ad cap M w hr (by have := hl.1; omega) (fun i hi => by have := hl.2 i hi; omega))
  have C2 := Lib.hid (fun u (hb : Below w.heap.size w u) => areOne_c ad cap M.length adp capp p u (hp.below hb) hlp)
  have C3 := Lib.hid (fun (h : askB M p = true) u (hb : Below w.heap.size w u) => by
    obtain ⟨h1, h2, h3⟩ := ask_facts h
    obtain ⟨hn, _, hnum⟩ := sq_facts h1
    have hr2 := hr.below hb
    rw [← sq_toM h1] at hr2
    exact arePotentials_c M.length ad cap (entM M) adp capp p u hr2 (hp.below hb) hn h2 h3 hnum)
  obtain ⟨A, hA⟩ : ∃ A, askB M p = A := ⟨_, rfl⟩
  obtain ⟨H, hH⟩ : ∃ H, hasB M p = H := ⟨_, rfl⟩
  have hask : (sqB M && (decide (p.length = M.length) && p.all finB)) = A := hA
  have hhas : (askB M p && ptB M.length (entM M) p) = H := hH
  have hpn : askB M p = true → p.length = M.length := fun h => (ask_facts h).2.1
  clear hr hl hp hlp
  rw [hH]
  generalize ptB M.length (entM M) p = T at hhas C3
  rw [hA] at hhas C3 hpn
  clear hA hH
  generalize (decide (p.length = M.length) && p.all finB) = O at hask C2
  generalize sqB M = S at hask C1
  generalize p.length = np at C2 C3 hpn ⊢
  generalize M.length = n at C1 C2 C3 hpn ⊢
  cases S
  · obtain rfl : A = false := hask.symm
    obtain rfl : H = false := hhas.symm
    clear C2 C3 hask hhas hpn
    go_enter Try.func72, Try.ntmps72
    go_wp2_with fail
    refine C1.out.mono ?_
    rintro e w1 ⟨rfl, hb1⟩
    go_wp2_with fail
    go_ret
    exact ⟨rfl, hb1⟩
  · cases O
    · obtain rfl : A = false := hask.symm
      obtain rfl : H = false := hhas.symm
      clear C3 hask hhas hpn
      go_enter Try.func72, Try.ntmps72
      go_wp2_with fail
      refine C1.out.mono ?_
      rintro e w1 ⟨rfl, hb1⟩
      go_wp2_with fail
      refine (C2.out _ hb1).mono ?_
      rintro e w2 ⟨rfl, rfl⟩
      go_wp2_with fail
      go_ret
      exact ⟨rfl, hb1⟩
    · obtain rfl : A = true := hask.symm
      obtain rfl : H = T := hhas.symm
      have C4 := Lib.hid (C3.out rfl)
      obtain rfl := hpn rfl
      clear C3 hask hhas hpn
      go_enter Try.func72, Try.ntmps72
      go_wp2_with fail
      refine C1.out.mono ?_
      rintro e w1 ⟨rfl, hb1⟩
      go_wp2_with fail
      refine (C2.out _ hb1).mono ?_
      rintro e w2 ⟨rfl, rfl⟩
      go_wp2_with fail
      refine (C4.out _ hb1).mono ?_
      rintro e w2 ⟨rfl, hb2⟩
      go_wp2_with fail
      go_ret
      exact ⟨rfl, ball hb1 hb2⟩
set_option maxHeartbeats 1600000 in
theorem wyAsked_c (ad : Option Addr) (cap : Nat) (M : List (List Int)) (adp : Option Addr) (capp : Nat) (p : List Int) (w : World) (hr : RdM w ad M) (hl : smM M) (hp : RdI w adp p) (hlp : p.length ≤ 1048576) :
    Calls Try.prog 74 #[.slice ad M.length cap, .slice adp p.length capp] w fun e w' => e = .returned (.bool (askB M p)) ∧ w = w' := by
  have C1 := Lib.hid (mxSquare_c ad cap M w hr (by have := hl.1; omega) (fun i hi => by have := hl.2 i hi; omega))
  have C2 := Lib.hid (l1All_any adp capp p (-1000000) 1000000 w hlp hp)
  have hall : allB p (-1000000) 1000000 = p.all finB := rfl
  rw [hall] at C2
  obtain ⟨A, hA⟩ : ∃ A, askB M p = A := ⟨_, rfl⟩
  have hask : (sqB M && (decide (p.length = M.length) && p.all finB)) = A := hA
  clear hr hl hp hlp hall
  rw [hA]
  clear hA
  generalize p.all finB = F at hask C2
  generalize sqB M = S at hask C1
  generalize p.length = np at C2 hask ⊢
  generalize M.length = n at C1 hask ⊢
  obtain ⟨q, hq⟩ : ∃ q, ((np : Int) == (n : Int)) = q := ⟨_, rfl⟩
  have hq2 : (np == n) = q := by rw [← hq, (natEq np n).1, (natEq np n).2.1]
  have hq3 : decide (np = n) = q := by rw [← hq, (natEq np n).1]
  rw [hq3] at hask
  clear hq3
  cases S
  · obtain rfl : A = false := hask.symm
    clear C2 hask
    go_enter Try.func74, Try.ntmps74
    go_wp2_with fail
    refine C1.out.mono ?_
    rintro e w1 ⟨rfl, rfl⟩
    go_wp2_with fail
    go_ret
    exact ⟨rfl, rfl⟩
  · cases q
    · obtain rfl : A = false := hask.symm
      clear C2 hask
      go_enter Try.func74, Try.ntmps74
      go_wp2_with fail
      refine C1.out.mono ?_
      rintro e w1 ⟨rfl, rfl⟩
      go_wp2_with fail
      go_ret
      exact ⟨rfl, rfl⟩
    · obtain rfl : A = F := hask.symm
      go_enter Try.func74, Try.ntmps74
      go_wp2_with fail
      refine C1.out.mono ?_
      rintro e w1 ⟨rfl, rfl⟩
      go_wp2_with fail
      refine C2.out.mono ?_
      rintro e w1 ⟨rfl, rfl⟩
      go_wp2_with fail
      go_ret
      exact ⟨rfl, rfl⟩

end Go.Proofs.Ytbffcbjbeeagmaa
