/-
  Whether a list is an assignment; proved assignments: the program's. By an AI agent.
-/
import Derived.Test.YtjlkgioinogbkaaAsG
namespace Go.Proofs.Ytjlkgioinogbkaa
open Go.RowKit

def ndF (n : Nat) (a : List Int) : Nat → Bool
  | 0 => true
  | t + 1 => ndF n a t && (inB (a.getD t 0) 0 ((n : Int) - 1) && !(a.take t).contains (a.getD t 0))
def asgB (n : Nat) (a : List Int) : Bool := decide (a.length = n) && ndF n a a.length
theorem take_vx {a : List Int} {t i : Nat} (h : i < t) (_ht : t ≤ a.length) : vx (a.take t) i = vx a i := by
  unfold vx
  rw [List.getD_eq_getElem?_getD, List.getElem?_take, if_pos h, ← List.getD_eq_getElem?_getD]
theorem take_snocA {a : List Int} {t : Nat} (h : t < a.length) : a.take (t + 1) = a.take t ++ [a.getD t 0] := by
  rw [List.take_succ_eq_append_getElem h, List.getD_eq_getElem?_getD, List.getElem?_eq_getElem h, Option.getD_some]
theorem ndF_ndp {n : Nat} {a : List Int} : ∀ {t : Nat}, t ≤ a.length → ndF n a t = true → Ndp n (a.take t)
  | 0, _, _ => by rw [List.take_zero]; exact Ndp.nil n
  | t + 1, ht, h => by
    unfold ndF at h
    simp only [Bool.and_eq_true, Bool.not_eq_true'] at h
    obtain ⟨h1, h2, h3⟩ := h
    have h4 := inB_t.1 h2
    have ih := ndF_ndp (t := t) (by omega) h1
    rw [take_snocA (by omega)]
    obtain ⟨k, hk⟩ : ∃ k : Nat, a.getD t 0 = (k : Int) := ⟨(a.getD t 0).toNat, by omega⟩
    rw [hk] at h3 h4 ⊢
    exact ih.ext (by omega) (by simpa using h3)
theorem asg_ndp {n : Nat} {a : List Int} (h : asgB n a = true) : a.length = n ∧ Ndp n a := by
  unfold asgB at h
  rw [Bool.and_eq_true, decide_eq_true_eq] at h
  have := ndF_ndp (Nat.le_refl _) h.2
  rw [List.take_length] at this
  exact ⟨h.1, this⟩
theorem ndF_mono {n : Nat} {a : List Int} {s t : Nat} (h : s ≤ t) (ht : ndF n a t = true) : ndF n a s = true := by
  induction t with
  | zero => rw [show s = 0 by omega]; rfl
  | succ t ih =>
    by_cases e : s = t + 1
    · rw [e]; exact ht
    · unfold ndF at ht
      rw [Bool.and_eq_true] at ht
      exact ih (by omega) ht.1

set_option maxHeartbeats 1600000 in
set_option maxRecDepth 100000 in
theorem isAssignment_c (n : Nat) (ad : Option Addr) (cap : Nat) (adA : Option Addr) (cA : Nat) (a : List Int) (w : World) (hA : RdI w adA a) (hn : 1 ≤ n ∧ n ≤ 6) :
    Calls Try.prog 34 #[.slice ad n cap, .slice adA a.length cA] w fun e w' => e = .returned (.bool (asgB n a)) ∧ Below w.heap.size w w' := by
  have HA := Lib.hid hA
  clear hA
  by_cases hl : a.length = n
  case neg =>
    have hne : ((a.length : Int) != (n : Int)) = true := bne_iff_ne.2 (by omega)
    have HF := Lib.hid (show asgB n a = false by unfold asgB; rw [decide_eq_false hl, Bool.false_and])
    rw [HF.out]
    generalize a.length = q at hne ⊢
    clear hl
    go_enter Try.func34, Try.ntmps34
    go_wp2_with fail
    go_ret
    exact ⟨rfl, Below.refl _ _⟩
  case pos =>
    have HF := Lib.hid (show asgB n a = ndF n a n by unfold asgB; rw [decide_eq_true hl, Bool.true_and, hl])
    have HL := Lib.hid hl
    rw [HF.out, hl]
    clear hl
    have HS := Lib.hid (fun t => show ndF n a (t + 1) = (ndF n a t && (inB (a.getD t 0) 0 ((n : Int) - 1) && !(a.take t).contains (a.getD t 0))) from rfl)
    have HM := Lib.hid (fun t (ht : t ≤ n) (h : ndF n a t = false) => show ndF n a n = false by
      cases hh : ndF n a n
      · rfl
      · rw [ndF_mono ht hh] at h; cases h)
    obtain ⟨R, hR⟩ : ∃ R, ndF n a n = R := ⟨_, rfl⟩
    rw [hR] at HM ⊢
    have HR := Lib.hid hR; clear hR
    have hmk := fun (w : World) => run_makeN (P := Try.prog) 74 4 (.bool false) 1 1 Try.underlying74 (by kernel_rfl) n (by omega) (by omega) w
    have HO0 := Lib.hid (show Own (w.alloc (.cells (madeCells #[.bool false] n) 4)) w.heap.size 4 (bls n (a.take 0)) from by rw [List.take_zero]; exact Own.newA w _ 4 (madeBls n))
    have hb0 := bal_alloc (o := .cells (madeCells #[.bool false] n) 4) (Below.refl w.heap.size w)
    have e0 : IntKind.i64.wrap ((n : Int) - 1) = (n : Int) - 1 := i64_small (by omega) (by omega)
    go_enter Try.func34, Try.ntmps34
    go_wp2_with fail
    go_loopw [18] (fun x wr => ∃ t : Nat, t ≤ n ∧ x = .int .i64 t ∧ ndF n a t = true ∧ Own wr w.heap.size 4 (bls n (a.take t)) ∧ Below w.heap.size w wr) (fun x _ => n - (intOf x).toNat)
    case atStart => exact ⟨0, Nat.zero_le _, rfl, rfl, HO0.out, hb0⟩
    case round =>
      obtain ⟨wE, rfl⟩ : ∃ x : World, x = wr := ⟨_, rfl⟩
      obtain ⟨t, htn, rfl, hnd, ho, hbel⟩ := hrel
      have HO := Lib.hid ho; have HND := Lib.hid hnd
      clear hnd HO0
      by_cases hlt : t < n
      case neg =>
        obtain rfl : t = n := by omega
        obtain rfl : R = true := by rw [← HR.out]; exact HND.out
        clear ho
        go_wp2_with fail
        go_ret
        exact ⟨rfl, hbel⟩
      case pos =>
        obtain ⟨b, off, rfl, hbb, c0⟩ := HA.out t (by rw [HL.out]; exact hlt)
        have c0 := bcell hbel hbb c0
        have CW := Lib.hid (fun w => within_any (a.getD t 0) 0 ((n : Int) - 1) w)
        have HST := Lib.hid (show ndF n a (t + 1) = (inB (a.getD t 0) 0 ((n : Int) - 1) && !(a.take t).contains (a.getD t 0)) by rw [HS.out, HND.out, Bool.true_and])
        have HTK := Lib.hid (show a.take (t + 1) = a.take t ++ [a.getD t 0] from take_snocA (by rw [HL.out]; exact hlt))
        have HIN := Lib.hid (show inB (a.getD t 0) 0 ((n : Int) - 1) = true → ∃ k : Nat, a.getD t 0 = (k : Int) ∧ k < n from fun h => by
          have := inB_t.1 h
          exact ⟨(a.getD t 0).toNat, by omega, by omega⟩)
        have HMT := Lib.hid (HM.out (t + 1) (by omega))
        generalize a.getD t 0 = x at c0 CW HST HTK HIN
        have x1 : (0 : Int) ≤ (t : Int) := by omega
        have x2 : (t : Int) < (n : Int) := by omega
        obtain ⟨I, hI⟩ : ∃ I, inB x 0 ((n : Int) - 1) = I := ⟨_, rfl⟩
        rw [hI] at CW HST HIN
        clear hI
        cases I
        · obtain rfl : R = false := HMT.out (by rw [HST.out, Bool.false_and])
          clear ho
          go_wp2_with fail
          refine (CW.out _).mono ?_
          rintro e w1 ⟨rfl, rfl⟩
          go_wp2_with fail
          go_ret
          exact ⟨rfl, hbel⟩
        · obtain ⟨k, rfl, hkn⟩ := HIN.out rfl
          have k1 := ho.cell? (bls_get hkn)
          have f1 := ho.frozen k
          have x3 : (0 : Int) ≤ (k : Int) := by omega
          have x4 : (k : Int) < (n : Int) := by omega
          obtain ⟨C, hC⟩ : ∃ C, (a.take t).contains (k : Int) = C := ⟨_, rfl⟩
          rw [hC] at k1 HST
          clear hC
          cases C
          · have hs := ho.set k (.bool true)
            rw [bls_on, ← HTK.out] at hs
            have HSS := Lib.hid hs
            have HN2 := Lib.hid (show ndF n a (t + 1) = true by rw [HST.out]; rfl)
            have hb2 := hbel.setCell (p := ⟨w.heap.size, k, none⟩) (Nat.le_refl _) (.bool true)
            clear ho hs
            go_wp2_with fail
            refine (CW.out _).mono ?_
            rintro e w1 ⟨rfl, rfl⟩
            go_wp2_with fail
            go_roundw
            case rel => exact ⟨t + 1, by omega, by go_num, HN2.out, HSS.out, hb2⟩
            case measure => simp [intOf]; omega
          · obtain rfl : R = false := HMT.out (by rw [HST.out]; rfl)
            clear ho
            go_wp2_with fail
            refine (CW.out _).mono ?_
            rintro e w1 ⟨rfl, rfl⟩
            go_wp2_with fail
            go_ret
            exact ⟨rfl, hbel⟩
end Go.Proofs.Ytjlkgioinogbkaa
