/-
  Both readings of a line are the same; what a line's text reads as. Plain.
-/
import Derived.Test.YtbkfgaibcoekgaaDoorLineQ
import Derived.Test.YtbkfgaibcoekgaaDoorLineV
namespace Go.Proofs.YtbkfgaibcoekgaaDoor

theorem lineTxt_cons (L : Ln) : lineTxt L = Lib.itoa L.a ++ 32 :: (Lib.itoa L.b ++ 32 :: Lib.itoa L.c) := rfl
theorem no_sp (n : Int) : (32 : UInt8) ∉ Lib.itoa n := itoa_no (by decide) (by decide)
theorem no_sp' (n : Int) : ∀ x ∈ Lib.itoa n, x.toNat ≠ 32 := fun x hx => by
  have := itoa_in n x hx
  omega
/-- The pieces of a line's text. -/
theorem txt_parts (L : Ln) : partF (lineTxt L) 0 = Lib.itoa L.a ∧ partF (lineTxt L) 1 = Lib.itoa L.b ∧ partF (lineTxt L) 2 = Lib.itoa L.c ∧ restF (lineTxt L) 1 = Lib.itoa L.b ++ 32 :: Lib.itoa L.c ∧ restF (lineTxt L) 2 = Lib.itoa L.c ∧ (stepF (restF (lineTxt L) 0) 0).2.2 = true ∧ (stepF (restF (lineTxt L) 1) 1).2.2 = true := by
  have c0 : stepF (restF (lineTxt L) 0) 0 = (Lib.itoa L.a, Lib.itoa L.b ++ 32 :: Lib.itoa L.c, true) := cut_first _ _ _ (no_sp _)
  have r1 : restF (lineTxt L) 1 = Lib.itoa L.b ++ 32 :: Lib.itoa L.c := by
    show (stepF (restF (lineTxt L) 0) 0).2.1 = _
    rw [c0]
  have c1 : stepF (restF (lineTxt L) 1) 1 = (Lib.itoa L.b, Lib.itoa L.c, true) := by rw [r1]; exact cut_first _ _ _ (no_sp _)
  have r2 : restF (lineTxt L) 2 = Lib.itoa L.c := by
    show (stepF (restF (lineTxt L) 1) 1).2.1 = _
    rw [c1]
  refine ⟨?_, ?_, ?_, r1, r2, by rw [c0], by rw [c1]⟩
  · show (stepF (restF (lineTxt L) 0) 0).1 = _; rw [c0]
  · show (stepF (restF (lineTxt L) 1) 1).1 = _; rw [c1]
  · exact r2
theorem parse_txt {L : Ln} (h : lnB L = true) : parseB (lineTxt L) = true ∧ numsL (lineTxt L) = L := by
  obtain ⟨p0, p1, p2, _, _, o0, o1⟩ := txt_parts L
  have hb := lnB_t.1 h
  have n0 := atoi_itoa hb.1
  have n1 := atoi_itoa hb.2.1
  have n2 := atoi_itoa hb.2.2
  have hn : numsL (lineTxt L) = L := by
    unfold numsL numF
    rw [p0, p1, p2, n0, n1, n2]
    rfl
  have hg : goodF (lineTxt L) = true := by
    unfold goodF okF
    rw [p0, p1, p2, n0, n1, n2, o0, o1]
    rfl
  refine ⟨?_, hn⟩
  unfold parseB
  rw [hg, hn, h, decide_eq_true rfl]
  rfl
theorem nuParse_fin {n : Int} (h : -1000000 ≤ n ∧ n ≤ 1000000) : nuParseR (Lib.itoa n) = (n, true) := by
  have h1 := parse_back (n := n) (by unfold numB; rw [show inB n (-1000000) 1000000 = true from inB_t.2 h]; rfl)
  rw [parse_same]
  have : numTxt n = Lib.itoa n := by unfold numTxt; rw [if_neg (by omega)]
  rw [this] at h1
  exact h1
theorem parseS_txt {L : Ln} (h : lnB L = true) : parseSB (lineTxt L) = true ∧ numsS (lineTxt L) = L := by
  have hb := lnB_t.1 h
  have hs : splitL (lineTxt L) = [Lib.itoa L.a, Lib.itoa L.b, Lib.itoa L.c] := by
    rw [lineTxt_cons, split_at _ _ _ (no_sp' _) rfl, split_at _ _ _ (no_sp' _) rfl, split_no _ (no_sp' _)]
  have hn : numsS (lineTxt L) = L := by
    unfold numsS lnOf nP
    rw [hs]
    simp only [List.map_cons, List.map_nil, nuParse_fin hb.1, nuParse_fin hb.2.1, nuParse_fin hb.2.2]
    rfl
  refine ⟨?_, hn⟩
  unfold parseSB
  rw [hn, h, decide_eq_true rfl, hs]
  simp [nK, nuParse_fin hb.1, nuParse_fin hb.2.1, nuParse_fin hb.2.2]
theorem parseB_t {l : List UInt8} (h : parseB l = true) : lnB (numsL l) = true ∧ lineTxt (numsL l) = l := by
  unfold parseB at h
  have h1 := (Bool.and_eq_true_iff.1 h).2
  obtain ⟨h2, h3⟩ := Bool.and_eq_true_iff.1 h1
  exact ⟨h2, of_decide_eq_true h3⟩
theorem parseSB_t {l : List UInt8} (h : parseSB l = true) : lnB (numsS l) = true ∧ lineTxt (numsS l) = l := by
  unfold parseSB at h
  have h1 := (Bool.and_eq_true_iff.1 h).2
  have h2 := (Bool.and_eq_true_iff.1 h1).2
  obtain ⟨h3, h4⟩ := Bool.and_eq_true_iff.1 h2
  exact ⟨h3, of_decide_eq_true h4⟩
/-- Both readings are the same. -/
theorem parse_eq (l : List UInt8) : parseSV l = parseV l := by
  unfold parseSV parseV
  cases h : parseB l
  · cases g : parseSB l
    · rfl
    · obtain ⟨h1, h2⟩ := parseSB_t g
      have := (parse_txt h1).1
      rw [h2, h] at this
      exact absurd this (by simp)
  · obtain ⟨h1, h2⟩ := parseB_t h
    obtain ⟨g1, g2⟩ := parseS_txt h1
    rw [h2] at g1 g2
    rw [g1, g2]
theorem cut_len (l : List UInt8) : (Lib.cut l [32]).1.length ≤ l.length ∧ (Lib.cut l [32]).2.1.length ≤ l.length := by
  unfold Lib.cut
  split
  · simp
    omega
  · simp
theorem step_len (l : List UInt8) (k : Nat) : (stepF l k).1.length ≤ l.length ∧ (stepF l k).2.1.length ≤ l.length := by
  unfold stepF
  split
  · exact cut_len l
  · simp
theorem rest_len (l : List UInt8) : ∀ k, (restF l k).length ≤ l.length
  | 0 => Nat.le_refl _
  | k + 1 => Nat.le_trans (step_len _ k).2 (rest_len l k)
theorem PB_short {l : List UInt8} (h : l.length ≤ 18) : PB l := fun k _ => by
  have h1 := rest_len l k
  have h2 := (step_len (restF l k) k).1
  exact ⟨by unfold partF; omega, by omega⟩
theorem itoa_len8' {n : Int} (h : -1000000 ≤ n ∧ n ≤ 1000000) : (Lib.itoa n).length ≤ 8 := by
  unfold Lib.itoa
  split
  · have := digits_len (u := n.natAbs) (by omega)
    simp
    omega
  · have := digits_len (u := n.natAbs) (by omega)
    have e : n.toNat = n.natAbs := by omega
    first | (rw [e]; omega) | omega
theorem PB_txt {L : Ln} (h : lnB L = true) : PB (lineTxt L) := fun k hk => by
  obtain ⟨p0, p1, p2, r1, r2, _, _⟩ := txt_parts L
  have hb := lnB_t.1 h
  have l0 := itoa_len8' hb.1
  have l1 := itoa_len8' hb.2.1
  have l2 := itoa_len8' hb.2.2
  have c3 : k = 0 ∨ k = 1 ∨ k = 2 := by omega
  rcases c3 with rfl | rfl | rfl
  · refine ⟨by rw [p0]; omega, ?_⟩
    show (lineTxt L).length ≤ 1000
    rw [lineTxt_cons]; simp; omega
  · exact ⟨by rw [p1]; omega, by rw [r1]; simp; omega⟩
  · exact ⟨by rw [p2]; omega, by rw [r2]; omega⟩

end Go.Proofs.YtbkfgaibcoekgaaDoor
