/-
  The program's test of a polygon. By an AI agent.
-/
import Derived.Test.YtpnnmdkhkjenmaaHull
namespace Go.Proofs.Ytpnnmdkhkjenmaa
open Go.RowKit

def ptB (p : Pt) : Bool := inB p.x (-100) 100 && inB p.y (-100) 100
theorem ptB_sh {p : Pt} (h : ptB p = true) : Sh p := by
  unfold ptB at h
  obtain ⟨h1, h2⟩ := Bool.and_eq_true_iff.1 h
  have := inB_t.1 h1
  have := inB_t.1 h2
  exact ⟨by omega, by omega, by omega, by omega⟩
def ptsB (l : List Pt) : Bool := inB l.length 1 40 && l.all ptB
/-- A polygon: few valid points that are their own hull. -/
def polyB (l : List Pt) : Bool := ptsB l && decide (hullF (pySortF l) = l)
theorem ptsB_t {l : List Pt} (h : ptsB l = true) : 1 ≤ l.length ∧ l.length ≤ 40 ∧ AllSh l := by
  unfold ptsB at h
  obtain ⟨h1, h2⟩ := Bool.and_eq_true_iff.1 h
  have := inB_t.1 h1
  exact ⟨by omega, by omega, fun p hp => ptB_sh (List.all_eq_true.1 h2 p hp)⟩
theorem hullF_len (s : List Pt) : (hullF s).length ≤ 2 * s.length := by
  unfold hullF
  split
  · omega
  · have := halfF_len s
    have := halfF_len s.reverse
    simp at *
    omega

set_option maxHeartbeats 800000 in
theorem isPoint_c (p : Pt) (w : World) :
    Calls Try.prog 41 #[ptV p] w fun e w' => e = .returned (.bool (ptB p)) ∧ Below w.heap.size w w' := by
  obtain ⟨a, b⟩ := p
  have c1 := fun w => within_any a (-100) 100 w
  have c2 := fun w => within_any b (-100) 100 w
  have hb := (Below.refl w.heap.size w).alloc (Nat.le_refl _) (.cells #[.int .i64 a, .int .i64 b] 33)
  unfold ptB ptV
  simp only
  generalize inB a (-100) 100 = u at c1 ⊢
  generalize inB b (-100) 100 = v at c2 ⊢
  have C1 := Lib.hid c1; have C2 := Lib.hid c2; clear c1 c2
  cases u
  case false =>
    go_enter Try.func41, Try.ntmps41
    go_wp2_with fail
    refine (C1.out _).mono ?_
    rintro e w' ⟨rfl, rfl⟩
    go_wp2_with fail
    go_ret
    exact ⟨rfl, hb⟩
  case true =>
    go_enter Try.func41, Try.ntmps41
    go_wp2_with fail
    refine (C1.out _).mono ?_
    rintro e w' ⟨rfl, rfl⟩
    go_wp2_with fail
    refine (C2.out _).mono ?_
    rintro e w' ⟨rfl, rfl⟩
    go_wp2_with fail
    go_ret
    exact ⟨rfl, hb⟩

def badV : Value := .func (.func 40) #[] #[]
set_option maxHeartbeats 400000 in
theorem bad_c (p : Pt) (w : World) :
    Calls Try.prog 40 #[ptV p] w fun e w' => e = .returned (.bool (!ptB p)) ∧ Below w.heap.size w w' := by
  have c := fun w => isPoint_c p w
  obtain ⟨a, b⟩ := p
  generalize ptB ⟨a, b⟩ = u at c ⊢
  unfold ptV at c ⊢
  simp only at c ⊢
  have C := Lib.hid c; clear c
  have hb : Below w.heap.size w (w.alloc (.cells #[.int .i64 a, .int .i64 b] 33)) := (Below.refl w.heap.size w).alloc (Nat.le_refl _) _
  go_enter Try.func40, Try.ntmps40
  go_wp2_with fail
  refine (C.out _).mono ?_
  rintro e w1 ⟨rfl, hw1⟩
  go_wp2_with fail
  go_ret
  exact ⟨rfl, hb.trans (hw1.mono hb.size)⟩

set_option maxHeartbeats 800000 in
theorem indexFunc_c (ad : Option Addr) (cap : Nat) (l : List Pt) (w : World) (hr : RdP w ad l) (hl : l.length ≤ 1048576) :
    Calls Try.prog 52 #[.slice ad l.length cap, badV] w fun e w' => (∃ r : Int, e = .returned (.int .i64 r) ∧ decide (0 ≤ r) = !l.all ptB) ∧ Below w.heap.size w w' := by
  have HR := Lib.hid hr; clear hr
  obtain ⟨A, hA⟩ : ∃ A, l.all ptB = A := ⟨_, rfl⟩
  rw [hA]
  have HA := Lib.hid hA; clear hA
  unfold badV
  go_enter Try.func52, Try.ntmps52
  go_wp2_with fail
  go_loopw [8] (fun i wr => ∃ k : Nat, k ≤ l.length ∧ i = .int .i64 k ∧ (l.take k).all ptB = true ∧ Below w.heap.size w wr) (fun i _ => l.length - (intOf i).toNat)
  case atStart => exact ⟨0, Nat.zero_le _, rfl, by simp, Below.refl _ _⟩
  case round =>
    obtain ⟨k, hk, rfl, hall, hbel⟩ := hrel
    have HALL := Lib.hid hall; clear hall
    by_cases hlt : k < l.length
    case neg =>
      obtain rfl : k = l.length := by omega
      obtain rfl : A = true := by rw [← HA.out]; have := HALL.out; rwa [List.take_length] at this
      go_wp2_with fail
      go_ret
      exact ⟨⟨_, rfl, by decide⟩, hbel⟩
    case pos =>
      obtain ⟨b, off, rfl, hb, c0, c1⟩ := HR.out k hlt
      have d0 := bcell hbel hb c0
      have d1 := bcell hbel hb c1
      clear c0 c1
      obtain ⟨p, hp⟩ : ∃ x, l.getD k default = x := ⟨_, rfl⟩
      rw [hp] at d0 d1
      have cb := fun w => bad_c p w
      have hst := Lib.hid (show (l.take (k + 1)).all ptB = ((l.take k).all ptB && ptB p) by rw [take_snoc' l k hlt, hp]; simp)
      have hmem := Lib.hid (show ptB p = false → A = false from fun h => by
        rw [← HA.out]
        cases hc : l.all ptB
        · rfl
        · have := List.all_eq_true.1 hc p (by rw [← hp, List.getD_eq_getElem?_getD, List.getElem?_eq_getElem hlt, Option.getD_some]; exact List.getElem_mem _)
          rw [h] at this; exact absurd this (by simp))
      generalize ptB p = u at cb hst hmem
      obtain ⟨px, py⟩ := p
      unfold ptV at cb
      simp only at cb d0 d1
      have CB := Lib.hid cb; clear cb hp
      cases u
      case false =>
        obtain rfl := hmem.out rfl
        go_wp2_with fail
        refine (CB.out _).mono ?_
        rintro e w1 ⟨rfl, hw1⟩
        go_wp2_with fail
        go_ret
        exact ⟨⟨_, rfl, by simp⟩, ball hbel hw1⟩
      case true =>
        go_wp2_with fail
        refine (CB.out _).mono ?_
        rintro e w1 ⟨rfl, hw1⟩
        go_wp2_with fail
        go_roundw
        case rel => exact ⟨k + 1, by omega, by go_num, by rw [hst.out, HALL.out]; rfl, ball hbel hw1⟩
        case measure => simp [intOf]; omega

set_option maxHeartbeats 800000 in
theorem containsFunc_c (ad : Option Addr) (cap : Nat) (l : List Pt) (w : World) (hr : RdP w ad l) (hl : l.length ≤ 1048576) :
    Calls Try.prog 39 #[.slice ad l.length cap, badV] w fun e w' => e = .returned (.bool (!l.all ptB)) ∧ Below w.heap.size w w' := by
  have c := Lib.hid (indexFunc_c ad cap l w hr hl)
  generalize (!l.all ptB) = A at c ⊢
  unfold badV at c ⊢
  clear hr
  go_enter Try.func39, Try.ntmps39
  go_wp2_with fail
  refine c.out.mono ?_
  rintro e w1 ⟨⟨r, rfl, hA⟩, hw1⟩
  go_wp2_with fail
  go_ret
  exact ⟨ret_bool rfl, hw1⟩

set_option maxHeartbeats 800000 in
theorem arePoints_c (ad : Option Addr) (cap : Nat) (l : List Pt) (w : World) (hr : RdP w ad l) (hl : l.length ≤ 1048576) :
    Calls Try.prog 25 #[.slice ad l.length cap] w fun e w' => e = .returned (.bool (ptsB l)) ∧ Below w.heap.size w w' := by
  have c1 := fun w => within_any l.length 1 40 w
  have c2 := fun w hr => containsFunc_c ad cap l w hr hl
  have HR := Lib.hid hr; clear hr
  unfold ptsB
  generalize inB l.length 1 40 = u at c1 ⊢
  generalize l.all ptB = v at c2 ⊢
  unfold badV at c2
  have C1 := Lib.hid c1; have C2 := Lib.hid c2; clear c1 c2
  cases u
  case false =>
    go_enter Try.func25, Try.ntmps25
    go_wp2_with fail
    refine (C1.out _).mono ?_
    rintro e w' ⟨rfl, rfl⟩
    go_wp2_with fail
    go_ret
    exact ⟨rfl, Below.refl _ _⟩
  case true =>
    go_enter Try.func25, Try.ntmps25
    go_wp2_with fail
    refine (C1.out _).mono ?_
    rintro e w' ⟨rfl, rfl⟩
    go_wp2_with fail
    refine (C2.out _ HR.out).mono ?_
    rintro e w1 ⟨rfl, hw1⟩
    go_wp2_with fail
    go_ret
    exact ⟨ret_bool (by simp), hw1⟩

set_option maxHeartbeats 800000 in
theorem isPolygon_c (ad : Option Addr) (cap : Nat) (l : List Pt) (w : World) (hr : RdP w ad l) (hl : l.length ≤ 1048576) :
    Calls Try.prog 15 #[.slice ad l.length cap] w fun e w' => e = .returned (.bool (polyB l)) ∧ Below w.heap.size w w' := by
  have c1 := fun w hr => arePoints_c ad cap l w hr hl
  have hp := Lib.hid (fun h : ptsB l = true => ptsB_t h)
  have hlen := hullF_len (pySortF l)
  have hlen2 := pySortF_len l
  have HR := Lib.hid hr; clear hr
  have hull := Lib.hid (fun w hr hl h0 hs => hull_c ad cap l w hr hl h0 hs)
  unfold polyB
  generalize ptsB l = u at c1 hp ⊢
  generalize hullF (pySortF l) = H at hull hlen ⊢
  have C1 := Lib.hid c1; clear c1
  cases u
  case false =>
    go_enter Try.func15, Try.ntmps15
    go_wp2_with fail
    refine (C1.out _ HR.out).mono ?_
    rintro e w1 ⟨rfl, hw1⟩
    go_wp2_with fail
    go_ret
    exact ⟨rfl, hw1⟩
  case true =>
    obtain ⟨h1, h2, hs⟩ := hp.out rfl
    have HS := Lib.hid hs; clear hs
    go_enter Try.func15, Try.ntmps15
    go_wp2_with fail
    refine (C1.out _ HR.out).mono ?_
    rintro e w1 ⟨rfl, hw1⟩
    have HR1 := Lib.hid (HR.out.below hw1)
    go_wp2_with fail
    refine (hull.out _ HR1.out (by omega) (by omega) HS.out).mono ?_
    rintro e w2 ⟨ad2, cap2, rfl, hrd2, hw2⟩
    have HR2 := Lib.hid (HR1.out.below hw2)
    have HD2 := Lib.hid hrd2; clear hrd2
    have ce := Lib.hid (equal_c ad2 ad cap2 cap H l w2 HD2.out HR2.out (by omega) (by omega))
    go_wp2_with fail
    refine ce.out.mono ?_
    rintro e w3 ⟨rfl, hw3⟩
    go_wp2_with fail
    go_ret
    exact ⟨ret_bool (by simp), ball (ball hw1 hw2) hw3⟩

end Go.Proofs.Ytpnnmdkhkjenmaa
