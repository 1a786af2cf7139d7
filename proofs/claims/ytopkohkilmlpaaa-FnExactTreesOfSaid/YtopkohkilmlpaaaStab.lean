/-
  Stable piles: the program's withPiles, isStable, IsStable; the reference's piNext, IsStable.
-/
import Derived.Test.YtopkohkilmlpaaaPile
namespace Go.Proofs.Ytopkohkilmlpaaa
open Go.RowKit

/-- A list as a function. -/
def fo (d : List Int) (j : Nat) : Int := d.getD j 0
theorem fo_tab {N : Nat} {f : Nat → Int} {j : Nat} (h : j < N) : fo (tab N f) j = f j := tab_getD h 0
def stAt (val : Nat → Int) (z : Nat) (c : Nat → Int) (j : Nat) : Bool := decide (j = z) || decide (c j < val j)
def stabB (N : Nat) (val : Nat → Int) (z : Nat) (c : Nat → Int) : Bool := (List.range N).all (stAt val z c)
theorem stabB_t {N : Nat} {val : Nat → Int} {z : Nat} {c : Nat → Int} : stabB N val z c = true ↔ ∀ j, j < N → j ≠ z → c j < val j := by
  unfold stabB stAt
  rw [List.all_eq_true]
  constructor
  · intro h j hj hjz
    have := h j (by simpa using hj)
    simpa [hjz] using this
  · intro h j hj
    by_cases e : j = z
    · simp [e]
    · simp [h j (by simpa using hj) e]
theorem stabB_f {N : Nat} {val : Nat → Int} {z : Nat} {c : Nat → Int} {j : Nat} (hj : j < N) (hjz : j ≠ z) (h : val j ≤ c j) : stabB N val z c = false := by
  apply Bool.eq_false_iff.2
  intro q
  have := stabB_t.1 q j hj hjz
  omega
noncomputable def isStableR (n : Int) (ls : List Lk) (z : Int) (d : List Int) : Bool × Bool := if pgB n ls z = true ∧ pileB n z d = true then (stabB n.toNat (valF ls) z.toNat (fo d), true) else (false, false)
theorem pileB_t {n z : Int} {d : List Int} (h : pileB n z d = true) : (d.length : Int) = n ∧ d.getD z.toNat 0 = 0 ∧ ∀ j, j < d.length → 0 ≤ d.getD j 0 ∧ d.getD j 0 ≤ 50 := by
  simp only [pileB, Bool.and_eq_true, decide_eq_true_eq, beq_iff_eq] at h
  exact ⟨h.1, h.2.1, allB_t.1 h.2.2⟩

set_option maxHeartbeats 1600000 in
set_option maxRecDepth 100000 in
theorem isStable_any (G gb gv capb : Nat) (rb : Nat → Nat) (N : Nat) (bet : Nat → Nat → Int) (val : Nat → Int) (ed : Int) (z : Nat) (ad : Option Addr) (cap : Nat) (d : List Int) (w : World) (h : GrAt w G gb gv capb rb N bet val ed) (hN : N ≤ 8) (hl : d.length = N) (hr : RdI w ad d) :
    Calls Try.prog 42 #[.agg #[.pointer (some ⟨G, 0, none⟩), .int .i64 z], .slice ad N cap] w fun e w' => e = .returned (.bool (stabB N val z (fo d))) ∧ Below w.heap.size w w' := by
  have hb0 : Below w.heap.size w (w.alloc (.cells #[.pointer (some ⟨G, 0, none⟩), .int .i64 z] 55)) := (Below.refl _ _).alloc (Nat.le_refl _) _
  have HG := Lib.hid (h.below hb0); clear h
  have HR := Lib.hid (hr.below hb0); clear hr
  have HL := Lib.hid hl; clear hl
  go_enter Try.func42, Try.ntmps42
  go_wp2_with fail
  have k0 := (Own.newA w #[.pointer (some ⟨G, 0, none⟩), .int .i64 z] 55 rfl).cell? (i := 0) rfl
  have k1 := (Own.newA w #[.pointer (some ⟨G, 0, none⟩), .int .i64 z] 55 rfl).cell? (i := 1) rfl
  have e2 := HG.out.c2
  generalize w.alloc (.cells #[.pointer (some ⟨G, 0, none⟩), .int .i64 z] 55) = W at hb0 HG HR k0 k1 e2 ⊢
  go_loop [9] (fun i => ∃ k : Nat, k ≤ N ∧ i = .int .i64 k ∧ ∀ j, j < k → j ≠ z → d.getD j 0 < val j) (fun i => N - (intOf i).toNat)
  case atStart => exact ⟨0, Nat.zero_le _, rfl, fun j hj => by omega⟩
  case round =>
    obtain ⟨k, hk, rfl, hj⟩ := hrel
    have HJ := Lib.hid hj; clear hj
    by_cases hlt : k < N
    case neg =>
      have he : k = N := by omega
      subst he
      go_wp2_with fail
      go_ret
      exact ⟨ret_bool (stabB_t.2 HJ.out).symm, hb0⟩
    case pos =>
      obtain ⟨b, off, rfl, hb, c⟩ := HR.out k (by rw [HL.out]; exact hlt)
      have cv := HG.out.cv hlt
      generalize hx : d.getD k 0 = x at c
      have HX := Lib.hid hx; clear hx
      generalize hv : val k = v at cv
      have HV := Lib.hid hv; clear hv
      by_cases hkz : k = z
      case pos =>
        have hd1 : ((k : Int) == (z : Int)) = true := by simp [hkz]
        have hd2 : ((k : Int) != (z : Int)) = false := by simp [hkz]
        have HK := Lib.hid hkz; clear hkz
        go_wp2_with fail
        go_round
        case rel =>
          refine ⟨k + 1, by omega, by go_num, fun j hj hjz => ?_⟩
          by_cases e : j = k
          · exact absurd (e.trans HK.out) hjz
          · exact HJ.out j (by omega) hjz
        case measure => simp [intOf]; omega
      case neg =>
        have hd1 : ((k : Int) == (z : Int)) = false := by simpa using fun q => hkz (by omega)
        have hd2 : ((k : Int) != (z : Int)) = true := by simpa using fun q => hkz (by omega)
        have HK := Lib.hid hkz; clear hkz
        by_cases hxv : v ≤ x
        case pos =>
          go_wp2_with fail
          go_ret
          exact ⟨ret_bool (stabB_f hlt HK.out (by have h1 := HX.out; have h2 := HV.out; show val k ≤ d.getD k 0; omega)).symm, hb0⟩
        case neg =>
          have hxv' : x < v := by omega
          clear hxv
          go_wp2_with fail
          go_round
          case rel =>
            refine ⟨k + 1, by omega, by go_num, fun j hj hjz => ?_⟩
            by_cases e : j = k
            · subst e; rw [HX.out, HV.out]; exact hxv'
            · exact HJ.out j (by omega) hjz
          case measure => simp [intOf]; omega

/-- The first vertex that topples, or -1. -/
def Next (N : Nat) (val : Nat → Int) (z : Nat) (c : Nat → Int) (r : Int) : Prop := (∃ v : Nat, r = v ∧ v < N ∧ v ≠ z ∧ val v ≤ c v) ∨ (r = -1 ∧ ∀ j, j < N → j ≠ z → c j < val j)

set_option maxHeartbeats 1600000 in
set_option maxRecDepth 100000 in
theorem piNext_any (n : Int) (adl : Option Addr) (capl : Nat) (ls : List Lk) (z : Nat) (ad : Option Addr) (cap : Nat) (d : List Int) (w : World) (hl : ls.length ≤ 1048576) (hrl : RdL w adl ls) (hg : goodL n ls = true) (hdl : d.length = n.toNat) (hr : RdI w ad d) :
    Calls Try.prog 40 #[.int .i64 n, .slice adl ls.length capl, .int .i64 z, .slice ad n.toNat cap] w fun e w' => (∃ r, e = .returned (.int .i64 r) ∧ Next n.toNat (valF ls) z (fo d) r) ∧ Below w.heap.size w w' := by
  obtain ⟨hn1, hn2⟩ := good_n hg
  obtain ⟨N, rfl⟩ : ∃ N : Nat, n = N := ⟨n.toNat, by omega⟩
  rw [Int.toNat_natCast] at hdl ⊢
  have HDL := Lib.hid hdl; clear hdl
  have HR := Lib.hid hr; clear hr
  go_enter Try.func40, Try.ntmps40
  go_wp2_with fail
  refine (chVal_any _ adl capl ls _ hl hrl hg).mono ?_
  rintro e w1 ⟨v, rfl, hv, hb1⟩
  rw [Int.toNat_natCast] at hv
  obtain ⟨ad1, cap1, e', hrv⟩ := hv.rd
  rw [tab_length] at e'
  subst e'
  have HV := Lib.hid hrv; clear hrv hv
  have HR1 := Lib.hid (HR.out.below hb1)
  go_wp2_with fail
  go_loop [15] (fun i => ∃ k : Nat, k ≤ N ∧ i = .int .i64 k ∧ ∀ j, j < k → j ≠ z → fo d j < valF ls j) (fun i => N - (intOf i).toNat)
  case atStart => exact ⟨0, Nat.zero_le _, rfl, fun j hj => by omega⟩
  case round =>
    obtain ⟨k, hk, rfl, hj⟩ := hrel
    have HJ := Lib.hid hj; clear hj
    by_cases hlt : k < N
    case neg =>
      have he : k = N := by omega
      subst he
      go_wp2_with fail
      go_ret
      exact ⟨⟨-1, rfl, Or.inr ⟨rfl, HJ.out⟩⟩, hb1⟩
    case pos =>
      obtain ⟨b, off, rfl, hb, c⟩ := HR1.out k (by rw [HDL.out]; exact hlt)
      obtain ⟨b', off', rfl, hb', cv⟩ := HV.out k (by rw [tab_length]; exact hlt)
      rw [tab_getD hlt] at cv
      generalize hx : d.getD k 0 = x at c
      have HX := Lib.hid hx; clear hx
      generalize hv : valF ls k = v at cv
      have HVV := Lib.hid hv; clear hv
      by_cases hkz : k = z
      case pos =>
        have hd1 : ((k : Int) == (z : Int)) = true := by simp [hkz]
        have hd2 : ((k : Int) != (z : Int)) = false := by simp [hkz]
        have HK := Lib.hid hkz; clear hkz
        go_wp2_with fail
        go_round
        case rel =>
          refine ⟨k + 1, by omega, by go_num, fun j hj hjz => ?_⟩
          by_cases e : j = k
          · exact absurd (e.trans HK.out) hjz
          · exact HJ.out j (by omega) hjz
        case measure => simp [intOf]; omega
      case neg =>
        have hd1 : ((k : Int) == (z : Int)) = false := by simpa using fun q => hkz (by omega)
        have hd2 : ((k : Int) != (z : Int)) = true := by simpa using fun q => hkz (by omega)
        have HK := Lib.hid hkz; clear hkz
        by_cases hxv : v ≤ x
        case pos =>
          go_wp2_with fail
          go_ret
          exact ⟨⟨k, rfl, Or.inl ⟨k, rfl, hlt, HK.out, by have h1 := HX.out; have h2 := HVV.out; show valF ls k ≤ d.getD k 0; omega⟩⟩, hb1⟩
        case neg =>
          have hxv' : x < v := by omega
          clear hxv
          go_wp2_with fail
          go_round
          case rel =>
            refine ⟨k + 1, by omega, by go_num, fun j hj hjz => ?_⟩
            by_cases e : j = k
            · subst e; have h1 := HX.out; have h2 := HVV.out; show d.getD j 0 < valF ls j; omega
            · exact HJ.out j (by omega) hjz
          case measure => simp [intOf]; omega

end Go.Proofs.Ytopkohkilmlpaaa
