/-
  Numbers as text: the program's, over the library's Itoa and Atoi.
-/
import Derived.Test.YtfgdhlnmndgjbaaGreatDoorNumT
import Derived.Test.YtfgdhlnmndgjbaaGreatDoorShelf
import Derived.WalkSmall
import Derived.Lib.AppendIntMem
import Derived.Lib.LaidTab
namespace Go.Proofs.YtfgdhlnmndgjbaaGreatDoor
open Go.RowKit

/-- What the listed variables of the library give. -/
structure LaidS (w : World) : Prop where
  tab : Lib.TabIs Tryz.prog w "internal/strconv.uint64pow10" .u64 Lib.pow10Tab
  syn : ∃ tp p, w.cell? ⟨3, 0, none⟩ = some (.iface tp p)
  rng : ∃ tp p, w.cell? ⟨4, 0, none⟩ = some (.iface tp p)
theorem gPow : Tryz.prog.globalNamed "internal/strconv.uint64pow10" = some 5 := by kernel_rfl
theorem LaidS.below {w w' : World} (h : LaidS w) (hb : Below w.heap.size w w') : LaidS w' := by
  refine ⟨?_, ?_, ?_⟩
  · exact var?_below hb gPow (cell_lt (h.tab.cell gPow 0 (by rw [Lib.pow10Tab_length]; omega))) h.tab
  · obtain ⟨tp, p, hc⟩ := h.syn
    exact ⟨tp, p, bcell' hb hc⟩
  · obtain ⟨tp, p, hc⟩ := h.rng
    exact ⟨tp, p, bcell' hb hc⟩

theorem itoa_c (n : Int) (w : World) (h0 : -9223372036854775808 ≤ n) (h1 : n ≤ 9223372036854775807) (hL : LaidS w) :
    Calls Tryz.prog 95 #[.int .i64 n] w fun e w' => e = .returned (strV (Lib.itoa n)) ∧ Below w.heap.size w w' := by
  refine (Tryz.strconv_Itoa n h0 h1 w hL.tab).mono ?_
  rintro e w' ⟨he, k, os, rfl⟩
  exact ⟨he, Lib.below_grow _ _ (Nat.le_refl _) _ _⟩
/-- What Atoi gives at a short string. -/
def AtoiV (l : List UInt8) (v : Value) : Prop := match Lib.atoi l with
  | some n => v = .tuple #[.int .i64 n, .nilIface]
  | none => ∃ tp p, v = .tuple #[.int .i64 0, .iface tp p]
theorem atoi_c (s : ByteArray) (w : World) (hs : s.size ≤ 18) (hL : LaidS w) :
    Calls Tryz.prog 94 #[.string s] w fun e w' => (∃ v, e = .returned v ∧ AtoiV s.toList v) ∧ Below w.heap.size w w' := by
  have hall := Lib.atoiAll_short s.data.toList (by rw [← ByteArray.toList_eq, len_str]; exact hs)
  unfold AtoiV
  rw [ByteArray.toList_eq]
  cases h : Lib.atoi s.data.toList with
  | some n =>
    refine (Tryz.strconv_Atoi_ok s (by omega) n (hall.trans (by rw [h]; rfl)) w).mono ?_
    rintro e w' ⟨he, hw⟩
    refine ⟨⟨_, he, rfl⟩, ?_⟩
    rcases hw with rfl | ⟨t, rfl⟩
    · exact Below.refl _ _
    · exact Lib.bytesWorld_below _ _ _
  | none =>
    obtain ⟨tp, p, hc⟩ := hL.syn
    refine (Any.strconv_Atoi_syntax Tryz.laysC172 s (by omega) (hall.trans (by rw [h]; rfl)) _ w hc (Or.inr ⟨tp, p, rfl⟩)).mono ?_
    rintro e w' ⟨N, he, _, _, hb⟩
    exact ⟨⟨_, he, _, _, rfl⟩, hb⟩

set_option maxHeartbeats 800000 in
theorem numberText_c (n : Int) (w : World) (h0 : -1000000000000000000 ≤ n) (h1 : n ≤ 1000000000000000000) (hL : LaidS w) :
    Calls Tryz.prog 89 #[.int .i64 n] w fun e w' => e = .returned (strV (numTxt n)) ∧ Below w.heap.size w w' := by
  have c := itoa_c n w (by omega) (by omega) hL
  clear hL
  unfold numTxt
  by_cases h : n = 1000000000
  · rw [if_pos h]
    subst h
    clear c
    go_enter Tryz.func89, Tryz.ntmps89
    go_wp2_with fail
    go_ret
    exact ⟨rfl, Below.refl _ _⟩
  · rw [if_neg h]
    have hb : (n == 1000000000) = false := beq_eq_false_iff_ne.2 h
    generalize Lib.itoa n = D at c ⊢
    have C := Lib.hid c; have H := Lib.hid h; clear c h
    go_enter Tryz.func89, Tryz.ntmps89
    go_wp2_with fail
    refine C.out.mono ?_
    rintro e w1 ⟨rfl, hw1⟩
    go_wp2_with fail
    go_ret
    exact ⟨rfl, hw1⟩

def finB' (n : Int) : Bool := inB n (-1000000) 1000000
def parseR (l : List UInt8) : Int × Bool := if l = infL then (1000000000, true) else match Lib.atoi l with
  | some n => if (finB' n && decide (Lib.itoa n = l)) = true then (n, true) else (0, false)
  | none => (0, false)

set_option maxHeartbeats 1600000 in
theorem parseNumber_c (s : ByteArray) (w : World) (hs : s.size ≤ 18) (hL : LaidS w) :
    Calls Tryz.prog 77 #[.string s] w fun e w' => e = .returned (pairQ (parseR s.toList)) ∧ Below w.heap.size w w' := by
  have ca := atoi_c s w hs hL
  have hinf : (s.toList == [105, 110, 102]) = decide (s.toList = infL) := Bool.eq_iff_iff.2 (by rw [beq_iff_eq, decide_eq_true_iff]; rfl)
  have HL := Lib.hid hL; clear hL
  obtain ⟨l, hl⟩ : ∃ l, s.toList = l := ⟨_, rfl⟩
  rw [hl] at ca hinf ⊢
  unfold AtoiV at ca
  unfold parseR pairQ
  by_cases h1 : l = infL
  case pos =>
    rw [if_pos h1]
    rw [decide_eq_true h1] at hinf
    have H1 := Lib.hid h1; clear h1 ca
    go_enter Tryz.func77, Tryz.ntmps77
    go_wp2_with fail
    go_ret2
    exact ⟨rfl, Below.refl _ _⟩
  case neg =>
    rw [if_neg h1]
    rw [decide_eq_false h1] at hinf
    have H1 := Lib.hid h1; clear h1
    cases ho : Lib.atoi l with
    | none =>
      rw [ho] at ca
      have CA := Lib.hid ca; clear ca ho
      go_enter Tryz.func77, Tryz.ntmps77
      go_wp2_with fail
      refine CA.out.mono ?_
      rintro e w1 ⟨⟨v, rfl, tp, p, rfl⟩, hw1⟩
      go_wp2_with fail
      go_ret2
      exact ⟨rfl, hw1⟩
    | some n =>
      rw [ho] at ca
      have cf := fun w => isFinite_c n w
      have hfb := fun h => inB_t.1 (show finB' n = true from h)
      rw [show inB n (-1000000) 1000000 = finB' n from rfl] at cf
      have CA := Lib.hid ca; clear ca ho
      simp only
      generalize finB' n = f at cf hfb ⊢
      have CF := Lib.hid cf; clear cf
      cases f
      case false =>
        clear hfb
        go_enter Tryz.func77, Tryz.ntmps77
        go_wp2_with fail
        refine CA.out.mono ?_
        rintro e w1 ⟨⟨v, rfl, rfl⟩, hw1⟩
        go_wp2_with fail
        refine (CF.out _).mono ?_
        rintro e w2 ⟨rfl, rfl⟩
        go_wp2_with fail
        go_ret2
        exact ⟨rfl, hw1⟩
      case true =>
        have hb := hfb rfl
        clear hfb
        have ci := Lib.hid (fun w hL => itoa_c n w (by omega) (by omega) hL)
        clear hb
        generalize Lib.itoa n = T at ci ⊢
        have hneq : (T == l) = decide (T = l) := Bool.eq_iff_iff.2 (by rw [beq_iff_eq, decide_eq_true_iff])
        generalize decide (T = l) = Q at hneq ⊢
        unfold strV at ci
        cases Q
        all_goals
          go_enter Tryz.func77, Tryz.ntmps77
          go_wp2_with fail
          refine CA.out.mono ?_
          rintro e w1 ⟨⟨v, rfl, rfl⟩, hw1⟩
          go_wp2_with fail
          refine (CF.out _).mono ?_
          rintro e w2 ⟨rfl, rfl⟩
          go_wp2_with fail
          refine (ci.out _ (HL.out.below hw1)).mono ?_
          rintro e w3 ⟨rfl, hw3⟩
          go_wp2_with fail
          go_ret2
          exact ⟨rfl, ball hw1 hw3⟩

end Go.Proofs.YtfgdhlnmndgjbaaGreatDoor
