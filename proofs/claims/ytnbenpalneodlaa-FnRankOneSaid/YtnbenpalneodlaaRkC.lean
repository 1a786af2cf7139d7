/-
  The permanent and in how many ways it is reached, regular matrices: the program's. By an AI agent.
-/
import Derived.Test.YtnbenpalneodlaaRkB
namespace Go.Proofs.Ytnbenpalneodlaa
open Go.RowKit

theorem prm_len {n : Nat} (hn : n ≤ 6) : ∀ (f : Nat) (l : List Int), (prm n f l).length ≤ 6 ^ f
  | 0, l => by unfold prm; split <;> simp
  | f + 1, l => by
    have h1 : 1 ≤ 6 ^ f := Nat.pow_pos (by omega)
    have hT : ∀ j, (prmT n f l j).length ≤ j * 6 ^ f := by
      intro j
      induction j with
      | zero => simp [prmT]
      | succ j ih =>
        rw [prmT_succ, List.length_append, Nat.add_mul, Nat.one_mul]
        refine Nat.add_le_add ih ?_
        split
        · simp
        · exact prm_len hn f _
    unfold prm
    split
    · rw [List.length_singleton, Nat.pow_succ]; omega
    · have h2 := hT n
      have h3 : n * 6 ^ f ≤ 6 * 6 ^ f := Nat.mul_le_mul_right _ hn
      rw [Nat.pow_succ]
      have : (prmT n f l n).length = ((List.range n).flatMap fun k : Nat => if l.contains (k : Int) = true then [] else prm n f (l ++ [(k : Int)])).length := rfl
      omega
theorem prmM_cnt {n : Nat} (hn : n ≤ 6) (m : Nat → Nat → Int) : (prmM n m).2 ≤ 46656 := by
  have h1 := bwF_fold_cnt ((prmA n).map (costP m)) (1000000000, 0)
  rw [List.length_map] at h1
  have h2 : (prmA n).length ≤ 6 ^ n := prm_len hn n []
  have h3 : 6 ^ n ≤ 46656 := Nat.pow_le_pow_right (n := 6) (by omega) hn
  unfold prmM pmT
  omega
theorem wrap_next (a : Int) : IntKind.i64.wrap (IntKind.i64.wrap a + 1) = IntKind.i64.wrap (a + 1) := by
  have key : ∀ {x y : Int}, x % 2 ^ 64 = y % 2 ^ 64 → IntKind.i64.wrap x = IntKind.i64.wrap y := fun {x y} h => by
    simp only [IntKind.wrap, IntKind.bits, h]
    rfl
  have h1 : IntKind.i64.wrap a % 2 ^ 64 = a % 2 ^ 64 := by
    simp only [IntKind.wrap, IntKind.bits, IntKind.signed, Bool.true_and]
    split <;> omega
  refine key ?_
  generalize IntKind.i64.wrap a = x at h1
  omega

/-- The least cost so far and how often, in two variables. -/
def VpA (T1 T2 : Nat) (w : World) (s : Int × Nat) (_ : Value) : Prop := Own w T1 3 [.int .i64 s.1] ∧ Own w T2 3 [.int .i64 (IntKind.i64.wrap (s.2 : Int))]
def fpP (T1 T2 : Nat) (_ : Value) (q : Nat) : Prop := q = T1 ∨ q = T2

set_option maxHeartbeats 1600000 in
set_option maxRecDepth 100000 in
theorem permVis_c (n : Nat) (ad : Option Addr) (cap : Nat) (m : Nat → Nat → Int) (Mb T1 T2 : Nat) (al : Option Addr) (cl : Nat) (l : List Int) (s : Int × Nat) (vb : Value) (w : World) (hr : RdM w ad (toM n m)) (hn : 1 ≤ n ∧ n ≤ 6) (hnum : ∀ a b, a < n → b < n → numB (m a b) = true) (hT : T1 ≠ T2)
    (km : w.cell? ⟨Mb, 0, none⟩ = some (.slice ad n cap)) (hv : VpA T1 T2 w s vb) (hw : RdI w al l) (hp : Ndp n l) (hl : l.length = n) :
    Calls Try.prog 79 #[.slice al n cl, .pointer (some ⟨Mb, 0, none⟩), .pointer (some ⟨T1, 0, none⟩), .pointer (some ⟨T2, 0, none⟩)] w fun e w' => e = .returned (.tuple #[]) ∧ VpA T1 T2 w' (bwF s (costP m l)) vb ∧ FrP w.heap.size (fpP T1 T2 vb) w w' := by
  have C1 := Lib.hid (costOf_c n ad cap m al cl l w hr hw hn hl hp.vt hnum)
  obtain ⟨ho1, ho2⟩ := hv
  have kT := ho1.cell? (i := 0) rfl
  have HO1 := Lib.hid ho1; have HO2 := Lib.hid ho2
  clear hr hw hp hnum ho1 ho2 hl
  generalize costP m l = X at C1 ⊢
  obtain ⟨sc, sn⟩ := s
  simp only at kT HO1 HO2
  have HB := Lib.hid (show bwF (sc, sn) X = if X < sc then (X, 1) else if X = sc then (sc, sn + 1) else (sc, sn) from rfl)
  by_cases h1 : X < sc
  · have g1 : decide (X < sc) = true := decide_eq_true h1
    rw [HB.out, if_pos h1]
    clear HB h1
    go_enter Try.func79, Try.ntmps79
    go_wp2_with fail
    refine C1.out.mono ?_
    rintro e w1 ⟨rfl, hb1⟩
    have p1 := HO1.out.belowAll hb1
    have p2 := HO2.out.belowAll hb1
    have kT1 := p1.cell? (i := 0) rfl
    have kT2 := p2.cell? (i := 0) rfl
    have f1 := p1.frozen 0
    have f2 := p2.frozen 0
    have HS1 := Lib.hid ((p1.set 0 (.int .i64 X)).setOther (a := ⟨T2, 0, none⟩) hT (.int .i64 1))
    have HS2 := Lib.hid ((p2.setOther (a := ⟨T1, 0, none⟩) hT.symm (.int .i64 X)).set 0 (.int .i64 1))
    have HF := Lib.hid (show FrP w.heap.size (fpP T1 T2 vb) w ((w1.setCell ⟨T1, 0, none⟩ (.int .i64 X)).setCell ⟨T2, 0, none⟩ (.int .i64 1)) from ((FrP.of_below hb1 (Nat.le_refl _)).trans (FrP.of_chg (Chg.set T1 0 w1 _) hb1.size (Or.inl rfl))).trans (FrP.of_chg (Chg.set T2 0 _ _) (by have := hb1.size; simp; omega) (Or.inr rfl)))
    clear p1 p2 kT
    go_wp2_with fail
    go_end0
    exact ⟨rfl, ⟨HS1.out, HS2.out⟩, HF.out⟩
  · have g1 : decide (X < sc) = false := decide_eq_false h1
    rw [HB.out, if_neg h1]
    by_cases h2 : X = sc
    · subst h2
      rw [if_pos rfl]
      have g2 : (X == X) = true := beq_self_eq_true _
      have ew := wrap_next (sn : Int)
      have ec : (((sn + 1 : Nat)) : Int) = (sn : Int) + 1 := by omega
      clear HB h1
      obtain ⟨y, hy⟩ : ∃ y, IntKind.i64.wrap (sn : Int) = y := ⟨_, rfl⟩
      rw [hy] at HO2 ew
      obtain ⟨z, hz⟩ : ∃ z, IntKind.i64.wrap ((sn : Int) + 1) = z := ⟨_, rfl⟩
      rw [hz] at ew
      have HZ := Lib.hid (show IntKind.i64.wrap (((sn + 1 : Nat)) : Int) = z by rw [ec]; exact hz)
      clear hy hz ec
      go_enter Try.func79, Try.ntmps79
      go_wp2_with fail
      refine C1.out.mono ?_
      rintro e w1 ⟨rfl, hb1⟩
      have p1 := HO1.out.belowAll hb1
      have p2 := HO2.out.belowAll hb1
      have kT1 := p1.cell? (i := 0) rfl
      have kT2 := p2.cell? (i := 0) rfl
      have f2 := p2.frozen 0
      have HS1 := Lib.hid (p1.setOther (a := ⟨T2, 0, none⟩) hT (.int .i64 z))
      have HS2 := Lib.hid (p2.set 0 (.int .i64 z))
      have HF := Lib.hid (show FrP w.heap.size (fpP T1 T2 vb) w (w1.setCell ⟨T2, 0, none⟩ (.int .i64 z)) from (FrP.of_below hb1 (Nat.le_refl _)).trans (FrP.of_chg (Chg.set T2 0 w1 _) hb1.size (Or.inr rfl)))
      clear p1 p2 kT
      go_wp2_with fail
      go_end0
      refine ⟨rfl, ⟨HS1.out, ?_⟩, HF.out⟩
      rw [HZ.out]
      exact HS2.out
    · rw [if_neg h2]
      have g2 : (X == sc) = false := beq_eq_false_iff_ne.2 h2
      clear HB h1 h2
      go_enter Try.func79, Try.ntmps79
      go_wp2_with fail
      refine C1.out.mono ?_
      rintro e w1 ⟨rfl, hb1⟩
      have kT1 := (HO1.out.belowAll hb1).cell? (i := 0) rfl
      clear kT
      go_wp2_with fail
      go_end0
      exact ⟨rfl, ⟨HO1.out.belowAll hb1, HO2.out.belowAll hb1⟩, FrP.of_below hb1 (Nat.le_refl _)⟩
theorem permVisH (n : Nat) (ad : Option Addr) (cap : Nat) (m : Nat → Nat → Int) (w0 w1 : World) (Mb T1 T2 : Nat) (hr : RdM w0 ad (toM n m)) (hn : 1 ≤ n ∧ n ≤ 6) (hnum : ∀ a b, a < n → b < n → numB (m a b) = true) (hT : T1 ≠ T2) (hb : Below w0.heap.size w0 w1) (h1 : w0.heap.size ≤ T1) (h2 : w0.heap.size ≤ T2)
    (km : w1.cell? ⟨Mb, 0, none⟩ = some (.slice ad n cap)) (hM1 : Mb ≠ T1) (hM2 : Mb ≠ T2) :
    VisH (VpA T1 T2) (fpP T1 T2) (fun s c => bwF s (costP m c)) 79 (.pointer (some ⟨Mb, 0, none⟩)) (.pointer (some ⟨T1, 0, none⟩)) (.pointer (some ⟨T2, 0, none⟩)) n w1.heap.size (fun q => q = T1 ∨ q = T2) w1 where
  hcf := callFunc_plainM Try.func79 (by kernel_rfl) (by kernel_rfl)
  lt := fun {w s vb q} hv hq => by
    rcases hq with rfl | rfl
    · exact hv.1.lt
    · exact hv.2.lt
  loc := fun {w w' s vb} hv hq => ⟨hv.1.of_block (hq T1 (Or.inl rfl)), hv.2.of_block (hq T2 (Or.inr rfl))⟩
  call := fun w s vb l al cl hv hw hp hl hf => (permVis_c n ad cap m Mb T1 T2 al cl l s vb w (hr.below (hb.trans (hf.below hb.size (fun q hq e => by omega)))) hn hnum hT (hf.cell (cell_lt km) (by rintro (e | e); exact hM1 e; exact hM2 e) km) hv hw hp hl).mono fun e w' ⟨g1, g2, g3⟩ => ⟨g1, vb, g2, g3, fun q hq => Or.inl hq⟩

set_option maxHeartbeats 3200000 in
set_option maxRecDepth 100000 in
theorem permanent_c (n : Nat) (ad : Option Addr) (cap : Nat) (m : Nat → Nat → Int) (w : World) (hr : RdM w ad (toM n m)) (hn : 1 ≤ n ∧ n ≤ 6) (hnum : ∀ a b, a < n → b < n → numB (m a b) = true) :
    Calls Try.prog 76 #[.slice ad n cap] w fun e w' => e = .returned (.tuple #[.int .i64 (prmM n m).1, .int .i64 ((prmM n m).2 : Int)]) ∧ Below w.heap.size w w' := by
  have HR := Lib.hid hr; have HNUM := Lib.hid hnum
  clear hr hnum
  obtain ⟨h, hh⟩ : ∃ h, w.heap.size = h := ⟨_, rfl⟩
  obtain ⟨W1, hW1⟩ : ∃ W, w.alloc (.cells #[.slice ad n cap] 26) = W := ⟨_, rfl⟩
  have s1 : W1.heap.size = h + 1 := by rw [← hW1]; simp [hh]
  have o1 : Own W1 h 26 [.slice ad n cap] := by rw [← hW1]; exact Own.newHA _ _ _ rfl hh
  have b1 : Below h w W1 := by rw [← hW1, ← hh]; exact bal_alloc (Below.refl _ _)
  obtain ⟨W2, hW2⟩ : ∃ W, W1.alloc (.cells #[.int .i64 1000000000] 3) = W := ⟨_, rfl⟩
  have s2 : W2.heap.size = h + 1 + 1 := by rw [← hW2]; simp [s1]
  have o2 : Own W2 (h + 1) 3 [.int .i64 1000000000] := by rw [← hW2]; exact Own.newHA _ _ _ rfl s1
  have b2 : Below W1.heap.size W1 W2 := by rw [← hW2]; exact bal_alloc (Below.refl _ _)
  obtain ⟨W3, hW3⟩ : ∃ W, W2.alloc (.cells #[.int .i64 0] 3) = W := ⟨_, rfl⟩
  have s3 : W3.heap.size = h + 1 + 1 + 1 := by rw [← hW3]; simp [s2]
  have o3 : Own W3 (h + 1 + 1) 3 [.int .i64 0] := by rw [← hW3]; exact Own.newHA _ _ _ rfl s2
  have b3 : Below W2.heap.size W2 W3 := by rw [← hW3]; exact bal_alloc (Below.refl _ _)
  have kM := ((o1.belowAll b2).belowAll b3).cell? (i := 0) rfl
  have hbW : Below h w W3 := b1.trans ((ball b2 b3).mono (by omega))
  have HW := Lib.hid (show ((w.alloc (.cells #[.slice ad n cap] 26)).alloc (.cells #[.int .i64 1000000000] 3)).alloc (.cells #[.int .i64 0] 3) = W3 by rw [hW1, hW2, hW3])
  have hVis := permVisH n ad cap m w W3 h (h + 1) (h + 1 + 1) HR.out hn HNUM.out (by omega) (by rw [hh]; exact hbW) (by omega) (by omega) kM (by omega) (by omega)
  have CP := permutations_c W3 (1000000000, 0) (.slice none 0 0) hn hVis ⟨o2.belowAll b3, by have : IntKind.i64.wrap (((0 : Nat) : Int)) = 0 := i64_small (by omega) (by omega); simp only [this]; exact o3⟩ (fun q hq => hq)
  rw [← prmM_fold] at CP
  have CPP := Lib.hid CP
  have hcn := prmM_cnt hn.2 m
  have HBW := Lib.hid hbW
  clear CP
  obtain ⟨R, hR⟩ : ∃ R, prmM n m = R := ⟨_, rfl⟩
  rw [hR] at CPP hcn ⊢
  obtain ⟨Rc, Rn⟩ := R
  simp only at CPP hcn ⊢
  have e1 : IntKind.i64.wrap (Rn : Int) = (Rn : Int) := i64_small (by omega) (by omega)
  have E1 := Lib.hid e1
  clear hR hcn e1 hVis o1 o2 o3 b1 b2 b3 hW1 hW2 hW3 hbW
  go_enter Try.func76, Try.ntmps76
  go_wp2_with fail
  rw [HW.out]
  go_wp2_with fail
  refine CPP.out.mono ?_
  rintro e w2 ⟨rfl, vb, ⟨h1, h2⟩, hfr, -⟩
  simp only [E1.out] at h1 h2
  have k1 := h1.cell? (i := 0) rfl
  have k2 := h2.cell? (i := 0) rfl
  have HB2 := Lib.hid (show Below h w w2 from HBW.out.trans (hfr.below (by omega) (fun q hq e => by omega)))
  clear h1 h2 hfr
  go_wp2_with fail
  go_quiet (fail)
  go_wp2_with fail
  exact bodyPost_ret (v := .tuple #[.int .i64 Rc, .int .i64 (Rn : Int)]) (by simp [results, Try.results76, go_sem]) rfl ⟨rfl, by rw [hh]; exact bdrewN HB2.out _⟩
set_option maxHeartbeats 800000 in
theorem isRegular_c (n : Nat) (ad : Option Addr) (cap : Nat) (m : Nat → Nat → Int) (w : World) (hr : RdM w ad (toM n m)) (hn : 1 ≤ n ∧ n ≤ 6) (hnum : ∀ a b, a < n → b < n → numB (m a b) = true) :
    Calls Try.prog 69 #[.slice ad n cap] w fun e w' => e = .returned (.bool (regF n m)) ∧ Below w.heap.size w w' := by
  have C := Lib.hid (permanent_c n ad cap m w hr hn hnum)
  unfold regF
  clear hr hnum
  generalize prmM n m = R at C ⊢
  obtain ⟨Rc, Rn⟩ := R
  simp only at C ⊢
  go_enter Try.func69, Try.ntmps69
  by_cases h1 : Rc = 1000000000
  · subst h1
    go_wp2_with fail
    refine C.out.mono ?_
    rintro e w1 ⟨rfl, hb⟩
    go_wp2_with fail
    go_ret
    exact ⟨by simp, hb⟩
  · have g1 : (Rc != 1000000000) = true := bne_iff_ne.2 h1
    rw [show decide (Rc ≠ 1000000000) = true from decide_eq_true h1, Bool.true_and]
    by_cases h2 : Rn = 1
    · subst h2
      go_wp2_with fail
      refine C.out.mono ?_
      rintro e w1 ⟨rfl, hb⟩
      go_wp2_with fail
      go_ret
      exact ⟨by simp, hb⟩
    · have g2 : ((Rn : Int) == 1) = false := beq_eq_false_iff_ne.2 (by omega)
      rw [decide_eq_false h2]
      go_wp2_with fail
      refine C.out.mono ?_
      rintro e w1 ⟨rfl, hb⟩
      go_wp2_with fail
      go_ret
      exact ⟨by simp, hb⟩
end Go.Proofs.Ytnbenpalneodlaa
