/-
  Numbers with a separator, read by the program: parseNumber at any length, strings.SplitSeq. By an AI agent.
-/
import Derived.Test.YtfgdhlnmndgjbaaGreatDoorRgS
import Derived.Test.YtfgdhlnmndgjbaaGreatDoorTxC
import Derived.Test.YtfgdhlnmndgjbaaGreatDoorNumI
import Derived.Test.YtfgdhlnmndgjbaaGreatDoorNumP
namespace Go.Proofs.YtfgdhlnmndgjbaaGreatDoor
open Go.RowKit Go.Shelf

theorem bytesB (s : ByteArray) : (⟨s.toList.toArray⟩ : ByteArray) = s := by rw [ByteArray.toList_eq]
/-- What parseNumber gives at any text. -/
def parseW (l : List UInt8) : Int × Bool := if l = infL then (1000000000, true) else match atoiO l with
  | some n => if (finB' n && decide (Lib.itoa n = l)) = true then (n, true) else (0, false)
  | none => (0, false)

set_option maxHeartbeats 1600000 in
theorem parseNumber_G (s : ByteArray) (w : World) (hs : s.size ≤ 1000000) (hL : LaidL w) :
    Calls Tryz.prog 77 #[.string s] w fun e w' => e = .returned (pairQ (parseW s.toList)) ∧ Below w.heap.size w w' := by
  have ca := atoi_G s.toList w (by rw [len_str]; omega) hL
  rw [bytesB] at ca
  have hinf : (s.toList == [105, 110, 102]) = decide (s.toList = infL) := Bool.eq_iff_iff.2 (by rw [beq_iff_eq, decide_eq_true_iff]; rfl)
  have HL := Lib.hid hL; clear hL
  obtain ⟨l, hl⟩ : ∃ l, s.toList = l := ⟨_, rfl⟩
  rw [hl] at ca hinf ⊢
  unfold AtoiW at ca
  unfold parseW pairQ
  by_cases h1 : l = infL
  case pos =>
    rw [if_pos h1]
    rw [decide_eq_true h1] at hinf
    have H1 := Lib.hid h1; clear h1 ca
    go_enter Tryz.func77, Tryz.ntmps77
    go_wp2_with fail
    go_ret2
    exact ⟨rfl, Below.refl _ _⟩
  case neg =>
    rw [if_neg h1]
    rw [decide_eq_false h1] at hinf
    have H1 := Lib.hid h1; clear h1
    cases ho : atoiO l with
    | none =>
      rw [ho] at ca
      have CA := Lib.hid ca; clear ca ho
      go_enter Tryz.func77, Tryz.ntmps77
      go_wp2_with fail
      refine CA.out.mono ?_
      rintro e w1 ⟨⟨v, rfl, m, tp, p, rfl⟩, hw1⟩
      go_wp2_with fail
      go_ret2
      exact ⟨rfl, hw1⟩
    | some n =>
      rw [ho] at ca
      have cf := fun w => isFinite_c n w
      have hfb := fun h => inB_t.1 (show finB' n = true from h)
      rw [show inB n (-1000000) 1000000 = finB' n from rfl] at cf
      have CA := Lib.hid ca; clear ca ho
      simp only
      generalize finB' n = f at cf hfb ⊢
      have CF := Lib.hid cf; clear cf
      cases f
      case false =>
        clear hfb
        go_enter Tryz.func77, Tryz.ntmps77
        go_wp2_with fail
        refine CA.out.mono ?_
        rintro e w1 ⟨⟨v, rfl, rfl⟩, hw1⟩
        go_wp2_with fail
        refine (CF.out _).mono ?_
        rintro e w2 ⟨rfl, rfl⟩
        go_wp2_with fail
        go_ret2
        exact ⟨rfl, hw1⟩
      case true =>
        have hb := hfb rfl
        clear hfb
        have ci := Lib.hid (fun w hL => itoa_c n w (by omega) (by omega) hL)
        clear hb
        generalize Lib.itoa n = T at ci ⊢
        have hneq : (T == l) = decide (T = l) := Bool.eq_iff_iff.2 (by rw [beq_iff_eq, decide_eq_true_iff])
        generalize decide (T = l) = Q at hneq ⊢
        unfold strV at ci
        cases Q
        all_goals
          go_enter Tryz.func77, Tryz.ntmps77
          go_wp2_with fail
          refine CA.out.mono ?_
          rintro e w1 ⟨⟨v, rfl, rfl⟩, hw1⟩
          go_wp2_with fail
          refine (CF.out _).mono ?_
          rintro e w2 ⟨rfl, rfl⟩
          go_wp2_with fail
          refine (ci.out _ (HL.out.below hw1).s).mono ?_
          rintro e w3 ⟨rfl, hw3⟩
          go_wp2_with fail
          go_ret2
          exact ⟨rfl, ball hw1 hw3⟩

theorem parse_wide (l : List UInt8) : parseW l = parseR l := by
  unfold parseW parseR
  split
  · rfl
  · by_cases hl : l.length ≤ 18
    · unfold atoiO
      rw [Lib.atoiAll_short _ hl]
      cases Lib.atoi l <;> rfl
    · have hno : ∀ n : Int, (finB' n && decide (Lib.itoa n = l)) = true → False := fun n h => by
        simp only [Bool.and_eq_true, decide_eq_true_eq] at h
        have h1 := inB_t.1 (show inB n (-1000000) 1000000 = true from h.1)
        have h2 := itoa_lenW (n := n) (by omega)
        rw [h.2] at h2
        omega
      have e : ∀ o : Option Int, (match o with | some n => if (finB' n && decide (Lib.itoa n = l)) = true then (n, true) else ((0 : Int), false) | none => (0, false)) = (0, false) := fun o => by
        cases o with
        | none => rfl
        | some n => simp only; rw [if_neg (fun h => hno n h)]
      rw [e]
      cases Lib.atoi l with
      | none => rfl
      | some n => simp only; rw [if_neg (fun h => hno n h)]

set_option maxHeartbeats 400000 in
theorem splitSeq_c (s : ByteArray) (c : UInt8) (w : World) :
    Calls Tryz.prog 76 #[.string s, .string ⟨#[c]⟩] w fun e w' => e = .returned (.func (.func 102) #[] #[.pointer (some ⟨w.heap.size + 1, 0, none⟩), .pointer (some ⟨w.heap.size, 0, none⟩), .pointer (some ⟨w.heap.size + 2, 0, none⟩)]) ∧ w' = ((w.alloc (.cells #[.string s] 9)).alloc (.cells #[.string ⟨#[c]⟩] 9)).alloc (.cells #[.int .i64 0] 3) := by
  have c1 : Calls Tryz.prog 93 #[.string s, .string ⟨#[c]⟩, .int .i64 0] w fun e w' => e = .returned (.func (.func 102) #[] #[.pointer (some ⟨w.heap.size + 1, 0, none⟩), .pointer (some ⟨w.heap.size, 0, none⟩), .pointer (some ⟨w.heap.size + 2, 0, none⟩)]) ∧ w' = ((w.alloc (.cells #[.string s] 9)).alloc (.cells #[.string ⟨#[c]⟩] 9)).alloc (.cells #[.int .i64 0] 3) := by
    go_enter Tryz.func93, Tryz.ntmps93
    go_wp2_with fail
    go_ret
    exact ⟨rfl, rfl⟩
  go_enter Tryz.func76, Tryz.ntmps76
  go_wp2_with fail
  refine c1.mono ?_
  rintro e w' ⟨rfl, rfl⟩
  go_wp2_with fail
  go_ret
  exact ⟨rfl, rfl⟩
end Go.Proofs.YtfgdhlnmndgjbaaGreatDoor
