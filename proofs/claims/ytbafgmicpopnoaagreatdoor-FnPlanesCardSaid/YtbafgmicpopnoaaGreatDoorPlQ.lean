/-
  Plain: texts of plane polynomials, and what both readings of a text give. By an AI agent.
-/
import Derived.Test.YtbafgmicpopnoaaGreatDoorTxP
import Derived.Test.YtbafgmicpopnoaaGreatDoorCeC
import Derived.Test.YtbafgmicpopnoaaGreatDoorLaws
namespace Go.Proofs.YtbafgmicpopnoaaGreatDoor
open Lib (decDigits)

def tmTxt (t : Tm) : List UInt8 := Lib.itoa t.c ++ 58 :: (Lib.itoa t.i ++ 44 :: Lib.itoa t.j)
def plnTxt : List Tm → List UInt8
  | [] => []
  | t :: l => tmTxt t ++ 59 :: plnTxt l
/-- The program's reading. -/
def okPT (w : List UInt8) : Bool := swB [58, 44] w
def tmPT (w : List UInt8) : Tm := ⟨swN [58, 44] w 1, swN [58, 44] w 2, swN [58, 44] w 0⟩
def plnL (s : List UInt8) : List Tm := (splitB 59 s).dropLast.map tmPT
def plnB (s : List UInt8) : Bool := (splitB 59 s).dropLast.all okPT && (decide ((splitB 59 s).getLastD [] = []) && (planeB (plnL s) && decide (plnTxt (plnL s) = s)))
/-- The reference's reading. -/
def rstS (w : List UInt8) : List (List UInt8) := splitB 44 ((splitB 58 w).getD 1 [])
def okST (w : List UInt8) : Bool := decide ((splitB 58 w).length = 2) && (decide ((rstS w).length = 2) && (nuParseR ((splitB 58 w).getD 0 [])).2)
def tmST (w : List UInt8) : Tm := ⟨l1RdF ((rstS w).getD 0 []), l1RdF ((rstS w).getD 1 []), (nuParseR ((splitB 58 w).getD 0 [])).1⟩
def plnSL (s : List UInt8) : List Tm := (splitB 59 s).dropLast.map tmST
def plnSB (s : List UInt8) : Bool := decide ((splitB 59 s).length ≤ 13) && ((splitB 59 s).dropLast.all okST && (planeB (plnSL s) && decide (plnTxt (plnSL s) = s)))

theorem itoa58P (n : Int) : ∀ x ∈ Lib.itoa n, x.toNat ≠ 58 := fun x hx e => by
  have := itoa_in n x hx
  omega
theorem itoa44P (n : Int) : ∀ x ∈ Lib.itoa n, x.toNat ≠ 44 := fun x hx e => by
  have := itoa_in n x hx
  omega
theorem nuParse_finP {n : Int} (h : -1000000 ≤ n ∧ n ≤ 1000000) : nuParseR (Lib.itoa n) = (n, true) := by
  have h1 := parse_back (n := n) (by unfold numB; rw [show inB n (-1000000) 1000000 = true from inB_t.2 h]; rfl)
  rw [parse_same]
  have : numTxt n = Lib.itoa n := by unfold numTxt; rw [if_neg (by omega)]
  rw [this] at h1
  exact h1
theorem rdF_itoa {n : Int} (h : 0 ≤ n ∧ n ≤ 999999) : l1RdF (Lib.itoa n) = n := by
  rw [itoa_pos h.1, l1Rd_digits (by omega)]
  omega
theorem tmTxt59 (t : Tm) : ∀ x ∈ tmTxt t, x.toNat ≠ 59 := fun x hx e => by
  unfold tmTxt at hx
  rcases List.mem_append.1 hx with h | h
  · have := itoa_in _ x h; omega
  · rcases List.mem_cons.1 h with h | h
    · subst h; exact absurd e (by decide)
    · rcases List.mem_append.1 h with h | h
      · have := itoa_in _ x h; omega
      · rcases List.mem_cons.1 h with h | h
        · subst h; exact absurd e (by decide)
        · have := itoa_in _ x h; omega
theorem split_pln : ∀ l : List Tm, splitB 59 (plnTxt l) = l.map tmTxt ++ [[]]
  | [] => split_no [] (by simp)
  | t :: l => by
    rw [plnTxt, split_at _ _ _ (tmTxt59 t) rfl, split_pln l]
    rfl
theorem ok_tm {t : Tm} (h : termB t = true) : okPT (tmTxt t) = true ∧ tmPT (tmTxt t) = t := by
  have hb := termB_t h
  have n58 : (58 : UInt8) ∉ Lib.itoa t.c := itoa_no (by decide) (by decide)
  have n44 : (44 : UInt8) ∉ Lib.itoa t.i := itoa_no (by decide) (by decide)
  have s0 : swS [58, 44] (swR [58, 44] (tmTxt t) 0) 0 = (Lib.itoa t.c, Lib.itoa t.i ++ 44 :: Lib.itoa t.j, true) := cut_first _ _ _ n58
  have r1 : swR [58, 44] (tmTxt t) 1 = Lib.itoa t.i ++ 44 :: Lib.itoa t.j := by
    show (swS [58, 44] (swR [58, 44] (tmTxt t) 0) 0).2.1 = _
    rw [s0]
  have s1 : swS [58, 44] (swR [58, 44] (tmTxt t) 1) 1 = (Lib.itoa t.i, Lib.itoa t.j, true) := by rw [r1]; exact cut_first _ _ _ n44
  have r2 : swR [58, 44] (tmTxt t) 2 = Lib.itoa t.j := by
    show (swS [58, 44] (swR [58, 44] (tmTxt t) 1) 1).2.1 = _
    rw [s1]
  have s2 : swS [58, 44] (swR [58, 44] (tmTxt t) 2) 2 = (Lib.itoa t.j, [], true) := by rw [r2]; rfl
  have a0 : atoiO (Lib.itoa t.c) = some t.c := atoiO_itoa (by omega)
  have a1 : atoiO (Lib.itoa t.i) = some t.i := atoiO_itoa (by omega)
  have a2 : atoiO (Lib.itoa t.j) = some t.j := atoiO_itoa (by omega)
  have p0 : swP [58, 44] (tmTxt t) 0 = Lib.itoa t.c := by unfold swP; rw [s0]
  have p1 : swP [58, 44] (tmTxt t) 1 = Lib.itoa t.i := by unfold swP; rw [s1]
  have p2 : swP [58, 44] (tmTxt t) 2 = Lib.itoa t.j := by unfold swP; rw [s2]
  refine ⟨swB_t fun k hk => ?_, ?_⟩
  · have : k = 0 ∨ k = 1 ∨ k = 2 := by simp at hk; omega
    rcases this with rfl | rfl | rfl
    · unfold swO; rw [s0, p0, a0]; rfl
    · unfold swO; rw [s1, p1, a1]; rfl
    · unfold swO; rw [s2, p2, a2]; rfl
  · unfold tmPT swN
    rw [p0, p1, p2, a0, a1, a2]; rfl
theorem ok_tmS {t : Tm} (h : termB t = true) : okST (tmTxt t) = true ∧ tmST (tmTxt t) = t := by
  have hb := termB_t h
  have hs : splitB 58 (tmTxt t) = [Lib.itoa t.c, Lib.itoa t.i ++ 44 :: Lib.itoa t.j] := by
    unfold tmTxt
    rw [split_at _ _ _ (itoa58P _) rfl, split_no _ (fun x hx e => by
      rcases List.mem_append.1 hx with h | h
      · have := itoa_in _ x h; omega
      · rcases List.mem_cons.1 h with h | h
        · subst h; exact absurd e (by decide)
        · have := itoa_in _ x h; omega)]
  have hr : rstS (tmTxt t) = [Lib.itoa t.i, Lib.itoa t.j] := by
    unfold rstS
    rw [hs]
    show splitB 44 (Lib.itoa t.i ++ 44 :: Lib.itoa t.j) = _
    rw [split_at _ _ _ (itoa44P _) rfl, split_no _ (itoa44P _)]
  have hn := nuParse_finP (n := t.c) (by omega)
  unfold okST tmST
  rw [hr, hs]
  refine ⟨?_, ?_⟩
  · show (decide (2 = 2) && (decide (2 = 2) && (nuParseR (Lib.itoa t.c)).2)) = true
    rw [hn]; rfl
  · show (⟨l1RdF (Lib.itoa t.i), l1RdF (Lib.itoa t.j), (nuParseR (Lib.itoa t.c)).1⟩ : Tm) = t
    rw [hn, rdF_itoa (by omega), rdF_itoa (by omega)]
theorem plane_term {l : List Tm} (h : planeB l = true) : ∀ t ∈ l, termB t = true := fun t ht => by
  unfold planeB at h
  obtain ⟨i, hi, rfl⟩ := List.getElem_of_mem ht
  have := plnK_term (Bool.and_eq_true_iff.1 h).2 hi
  unfold tmAt at this
  rwa [List.getD_eq_getElem?_getD, List.getElem?_eq_getElem hi, Option.getD_some] at this
theorem plane_len {l : List Tm} (h : planeB l = true) : 1 ≤ l.length ∧ l.length ≤ 12 := by
  unfold planeB at h
  have := inB_t.1 (Bool.and_eq_true_iff.1 h).1
  omega
theorem pln_txt {l : List Tm} (h : planeB l = true) : plnB (plnTxt l) = true ∧ plnL (plnTxt l) = l := by
  have hm := plane_term h
  have hl : plnL (plnTxt l) = l := by
    unfold plnL
    rw [split_pln, List.dropLast_concat, List.map_map]
    conv => rhs; rw [← List.map_id l]
    exact List.map_congr_left fun p hp' => (ok_tm (hm p hp')).2
  refine ⟨?_, hl⟩
  unfold plnB
  rw [hl, h, decide_eq_true rfl, split_pln, List.dropLast_concat, List.getLastD_concat, decide_eq_true rfl, Bool.and_true, Bool.and_true, Bool.and_true, List.all_eq_true]
  intro w hw
  obtain ⟨p, hp', e⟩ := List.mem_map.1 hw
  rw [← e]
  exact (ok_tm (hm p hp')).1
theorem plnS_txt {l : List Tm} (h : planeB l = true) : plnSB (plnTxt l) = true ∧ plnSL (plnTxt l) = l := by
  have hm := plane_term h
  have hl : plnSL (plnTxt l) = l := by
    unfold plnSL
    rw [split_pln, List.dropLast_concat, List.map_map]
    conv => rhs; rw [← List.map_id l]
    exact List.map_congr_left fun p hp' => (ok_tmS (hm p hp')).2
  refine ⟨?_, hl⟩
  have hlen := (plane_len h).2
  unfold plnSB
  rw [hl, h, decide_eq_true rfl, split_pln, List.dropLast_concat, Bool.and_true, Bool.and_true, decide_eq_true (by simp; omega), Bool.true_and, List.all_eq_true]
  intro w hw
  obtain ⟨p, hp', e⟩ := List.mem_map.1 hw
  rw [← e]
  exact (ok_tmS (hm p hp')).1
theorem plnB_t {s : List UInt8} (h : plnB s = true) : planeB (plnL s) = true ∧ plnTxt (plnL s) = s := by
  unfold plnB at h
  have h1 := (Bool.and_eq_true_iff.1 (Bool.and_eq_true_iff.1 h).2).2
  obtain ⟨h2, h3⟩ := Bool.and_eq_true_iff.1 h1
  exact ⟨h2, of_decide_eq_true h3⟩
theorem plnSB_t {s : List UInt8} (h : plnSB s = true) : planeB (plnSL s) = true ∧ plnTxt (plnSL s) = s := by
  unfold plnSB at h
  have h1 := (Bool.and_eq_true_iff.1 (Bool.and_eq_true_iff.1 h).2).2
  obtain ⟨h2, h3⟩ := Bool.and_eq_true_iff.1 h1
  exact ⟨h2, of_decide_eq_true h3⟩
/-- Both readings are the same. -/
theorem pln_eq (s : List UInt8) : plnSB s = plnB s ∧ (plnB s = true → plnSL s = plnL s) := by
  have e : plnB s = true → plnSB s = true ∧ plnSL s = plnL s := fun h => by
    obtain ⟨h1, h2⟩ := plnB_t h
    obtain ⟨h3, h4⟩ := plnS_txt h1
    rw [h2] at h3 h4
    exact ⟨h3, h4⟩
  have e' : plnSB s = true → plnB s = true := fun h => by
    obtain ⟨h1, h2⟩ := plnSB_t h
    obtain ⟨h3, _⟩ := pln_txt h1
    rwa [h2] at h3
  refine ⟨?_, fun h => (e h).2⟩
  cases h : plnB s
  · cases g : plnSB s
    · rfl
    · rw [e' g] at h; exact absurd h (by simp)
  · exact (e h).1
end Go.Proofs.YtbafgmicpopnoaaGreatDoor
