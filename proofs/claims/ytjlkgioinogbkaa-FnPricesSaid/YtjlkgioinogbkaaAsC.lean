/-
  The first best assignment: the program's. By an AI agent.
-/
import Derived.Test.YtjlkgioinogbkaaAsB
import Derived.Test.YtjlkgioinogbkaaWyK
namespace Go.Proofs.Ytjlkgioinogbkaa
open Go.RowKit

set_option maxHeartbeats 1600000 in
set_option maxRecDepth 100000 in
theorem costOf_c (n : Nat) (ad : Option Addr) (cap : Nat) (m : Nat → Nat → Int) (adw : Option Addr) (capw : Nat) (l : List Int) (w : World) (hr : RdM w ad (toM n m)) (hw : RdI w adw l) (hn : 1 ≤ n ∧ n ≤ 6) (hl : l.length = n) (hv : vtB n l = true) (hnum : ∀ a b, a < n → b < n → numB (m a b) = true) :
    Calls Try.prog 35 #[.slice ad n cap, .slice adw n capw] w fun e w' => e = .returned (.int .i64 (costP m l)) ∧ Below w.heap.size w w' := by
  have HBD := Lib.hid (cs_bd hnum hv (by omega) (by omega))
  have HVT := Lib.hid (fun t (ht : t < n) => vt_at hv (t := t) (by omega))
  have HR := Lib.hid hr; have HP := Lib.hid hw; have HNUM := Lib.hid hnum
  have HS := Lib.hid (fun t => show csF m l (t + 1) = prodZ (csF m l t) (m t (vx l t)) from rfl)
  have HN := Lib.hid hl
  have hcp : costP m l = csF m l n := by unfold costP; rw [hl]
  rw [hcp]
  clear hr hw hv hnum hl hcp
  go_enter Try.func35, Try.ntmps35
  go_wp2_with fail
  go_loopw [5, 10] (fun v i wr => ∃ s : Nat, s ≤ n ∧ i = .int .i64 s ∧ v = .int .i64 (csF m l s) ∧ Below w.heap.size w wr) (fun _ i _ => n - (intOf i).toNat)
  case atStart => exact ⟨0, Nat.zero_le _, rfl, rfl, Below.refl _ _⟩
  case round =>
    obtain ⟨wE, rfl⟩ : ∃ x : World, x = wr := ⟨_, rfl⟩
    obtain ⟨s, hs, rfl, rfl, hbel⟩ := hrel
    by_cases hls : s < n
    case neg =>
      obtain rfl : s = n := by omega
      go_wp2_with fail
      go_ret
      exact ⟨rfl, hbel⟩
    case pos =>
      have hco := HS.out s
      obtain ⟨v1, u1⟩ := HVT.out s hls
      obtain ⟨bp, op, rfl, hbp, q1⟩ := HP.out s (by have := HN.out; omega)
      rw [v1] at q1
      have q1 := bcell hbel hbp q1
      have hm := numB_t (HNUM.out _ _ hls u1)
      have hbd := HBD.out s (by have := HN.out; omega)
      obtain ⟨bM, oM, rfl, hbM, hrow⟩ := HR.out.rowF (by omega)
      obtain ⟨b2, o2, c2, e2, hl2, hc2⟩ := hrow _ hls
      have e2 := bcell hbel hbM e2
      have k1 := bcell hbel hl2 (hc2 _ u1)
      clear hrow hc2 v1
      generalize csF m l s = C at hbd hco ⊢
      generalize vx l s = a at q1 u1 k1 hco hm
      generalize m s a = D at k1 hco hm
      have x1 : (0 : Int) ≤ (s : Int) := by omega
      have x2 : (s : Int) < (n : Int) := by omega
      have x5 : (0 : Int) ≤ (a : Int) := by omega
      have x6 : (a : Int) < (n : Int) := by omega
      have CP := Lib.hid (fun w => product_c C D w (by omega))
      have HCO := Lib.hid hco
      generalize prodZ C D = P at CP HCO
      clear hco hbd hm
      go_wp2_with fail
      refine (CP.out _).mono ?_
      rintro e w1 ⟨rfl, rfl⟩
      go_wp2_with fail
      go_roundw
      case rel => exact ⟨s + 1, by omega, by go_num, by rw [HCO.out], hbel⟩
      case measure => simp [intOf]; omega
theorem anyAssignment_c (v : Value) (w : World) : Calls Try.prog 47 #[v] w fun e w' => e = .returned (.bool true) ∧ w' = w := by
  go_enter Try.func47, Try.ntmps47
  go_wp2_with fail
  go_ret
  exact ⟨rfl, rfl⟩

/-- The best so far, in a variable. -/
def VbA (T : Nat) (w : World) (s : Int × List Int) (vb : Value) : Prop := Own w T 43 [.int .i64 s.1, vb] ∧ RowI w 0 vb s.2 ∧ (s.2 = [] → vb = .slice none 0 0)
def fpA (T : Nat) (vb : Value) (q : Nat) : Prop := q = T ∨ vb.ownBlock = some q
def anyF : Value := .func (Fn.func 47) #[] #[]

set_option maxHeartbeats 1600000 in
set_option maxRecDepth 100000 in
theorem bestVis_c (n : Nat) (ad : Option Addr) (cap : Nat) (m : Nat → Nat → Int) (Mb T Ab : Nat) (al : Option Addr) (cl : Nat) (l : List Int) (s : Int × List Int) (vb : Value) (w : World) (hr : RdM w ad (toM n m)) (hn : 1 ≤ n ∧ n ≤ 6) (hnum : ∀ a b, a < n → b < n → numB (m a b) = true)
    (km : w.cell? ⟨Mb, 0, none⟩ = some (.slice ad n cap)) (ka : w.cell? ⟨Ab, 0, none⟩ = some anyF) (hv : VbA T w s vb) (hw : RdI w al l) (hp : Ndp n l) (hl : l.length = n) :
    Calls Try.prog 71 #[.slice al n cl, .pointer (some ⟨Mb, 0, none⟩), .pointer (some ⟨T, 0, none⟩), .pointer (some ⟨Ab, 0, none⟩)] w fun e w' => e = .returned (.tuple #[]) ∧ ∃ vb', VbA T w' (pkA m s l) vb' ∧ FrP w.heap.size (fpA T vb) w w' ∧ ∀ q, fpA T vb' q → fpA T vb q ∨ w.heap.size ≤ q := by
  have C1 := Lib.hid (costOf_c n ad cap m al cl l w hr hw hn hl hp.vt hnum)
  have C2 := Lib.hid (fun u (hb : Below w.heap.size w u) => cloneI_c al cl l u (hw.below hb) (by omega) (by omega))
  rw [hl] at C2
  have HPK := Lib.hid (show pkA m s l = if decide (costP m l < s.1) = true then (costP m l, l) else s from rfl)
  obtain ⟨ho, hrow, hnil⟩ := hv
  have kT := ho.cell? (i := 0) rfl
  have HO := Lib.hid ho; have HROW := Lib.hid hrow; have HNIL := Lib.hid hnil; have HL := Lib.hid hl
  unfold anyF at ka
  clear hr hw hp hnum ho hrow hnil hl
  generalize costP m l = X at C1 HPK
  by_cases h1 : X < s.1
  · have g1 : decide (X < s.1) = true := decide_eq_true h1
    rw [if_pos g1] at HPK
    rw [HPK.out]
    have HS := Lib.hid h1
    obtain ⟨sc, hsc⟩ : ∃ sc, s.1 = sc := ⟨_, rfl⟩
    rw [hsc] at kT g1
    clear HPK h1
    go_enter Try.func71, Try.ntmps71
    go_wp2_with fail
    refine C1.out.mono ?_
    rintro e w1 ⟨rfl, hb1⟩
    have kT1 := bcell' hb1 kT
    have ka1 := bcell' hb1 ka
    clear hsc
    go_wp2_with fail
    refine (anyAssignment_c _ _).mono ?_
    rintro e w2 ⟨rfl, rfl⟩
    go_wp2_with fail
    refine (C2.out _ hb1).mono ?_
    rintro e w2 ⟨g, c2, rfl, hrow2, hg, hb2⟩
    have hb := ball hb1 hb2
    have hO2 := HO.out.belowAll hb
    have k0 := hO2.cell? (i := 0) rfl
    have k1 := hO2.cell? (i := 1) rfl
    have f0 := hO2.frozen 0
    have f1 := hO2.frozen 1
    have HO3 := Lib.hid ((hO2.set 0 (.int .i64 X)).set 1 (.slice (some ⟨g, 0, none⟩) n c2))
    have HR3 := Lib.hid (show RowI ((w2.setCell ⟨T, 0, none⟩ (.int .i64 X)).setCell ⟨T, 1, none⟩ (.slice (some ⟨g, 0, none⟩) n c2)) 0 (.slice (some ⟨g, 0, none⟩) n c2) l from ownsRow_setCell_other (ownsRow_setCell_other (hrow2.low (Nat.zero_le _)) (row_ne_ty hrow2 hO2 (by decide)) _) (row_ne_ty hrow2 hO2 (by decide)) _)
    have HF := Lib.hid (show FrP w.heap.size (fpA T vb) w ((w2.setCell ⟨T, 0, none⟩ (.int .i64 X)).setCell ⟨T, 1, none⟩ (.slice (some ⟨g, 0, none⟩) n c2)) from ((FrP.of_below hb (Nat.le_refl _)).trans (FrP.of_chg (Chg.set T 0 w2 _) hb.size (Or.inl rfl))).trans (FrP.of_chg (Chg.set T 1 _ _) (by have := hb.size; simp; omega) (Or.inl rfl)))
    have hgw : w.heap.size ≤ g := Nat.le_trans hb1.size hg
    clear hrow2 hb hb2 hO2 kT1 ka1 kT ka
    go_wp2_with fail
    go_end0
    refine ⟨rfl, .slice (some ⟨g, 0, none⟩) n c2, ⟨HO3.out, HR3.out, fun e => ?_⟩, HF.out, fun q hq => ?_⟩
    · have := HL.out
      simp only at e
      rw [e] at this
      simp at this
      omega
    · rcases hq with hq | hq
      · exact Or.inl (Or.inl hq)
      · simp only [Value.ownBlock, Option.some.injEq] at hq
        exact Or.inr (by omega)
  · have g1 : decide (X < s.1) = false := decide_eq_false h1
    rw [g1, if_neg (by simp)] at HPK
    rw [HPK.out]
    obtain ⟨sc, hsc⟩ : ∃ sc, s.1 = sc := ⟨_, rfl⟩
    rw [hsc] at kT g1
    clear HPK h1 C2 hsc
    go_enter Try.func71, Try.ntmps71
    go_wp2_with fail
    refine C1.out.mono ?_
    rintro e w1 ⟨rfl, hb1⟩
    have kT1 := bcell' hb1 kT
    go_wp2_with fail
    go_end0
    exact ⟨rfl, vb, ⟨HO.out.belowAll hb1, HROW.out.below hb1, HNIL.out⟩, FrP.of_below hb1 (Nat.le_refl _), fun q hq => Or.inl hq⟩

/-- how the visitor stands. -/
theorem bestVisH (n : Nat) (ad : Option Addr) (cap : Nat) (m : Nat → Nat → Int) (w0 w1 : World) (Mb T Ab : Nat) (hr : RdM w0 ad (toM n m)) (hn : 1 ≤ n ∧ n ≤ 6) (hnum : ∀ a b, a < n → b < n → numB (m a b) = true) (hb : Below w0.heap.size w0 w1) (hT : w0.heap.size ≤ T)
    (km : w1.cell? ⟨Mb, 0, none⟩ = some (.slice ad n cap)) (ka : w1.cell? ⟨Ab, 0, none⟩ = some anyF) (h1 : Mb ≠ T) (h2 : Ab ≠ T) :
    VisH (VbA T) (fpA T) (pkA m) 71 (.pointer (some ⟨Mb, 0, none⟩)) (.pointer (some ⟨T, 0, none⟩)) (.pointer (some ⟨Ab, 0, none⟩)) n w1.heap.size (fun q => q = T) w1 where
  hcf := callFunc_plainM Try.func71 (by kernel_rfl) (by kernel_rfl)
  lt := fun {w s vb q} hv hq => by
    obtain ⟨h3, h4, _⟩ := hv
    rcases hq with rfl | hq
    · exact h3.lt
    · exact (World.ownsRow.lt h4 q hq).2
  loc := fun {w w' s vb} hv hq => by
    obtain ⟨h3, h4, h5⟩ := hv
    exact ⟨h3.of_block (hq T (Or.inl rfl)), h4.of_blk (fun q h => hq q (Or.inr h)), h5⟩
  call := fun w s vb l al cl hv hw hp hl hf => bestVis_c n ad cap m Mb T Ab al cl l s vb w (hr.below (hb.trans (hf.below hb.size (fun q hq e => by omega)))) hn hnum (hf.cell (cell_lt km) h1 km) (hf.cell (cell_lt ka) h2 ka) hv hw hp hl

def bsB (M : List (List Int)) : Bool := sqB M && !decide ((bstA M.length (entM M)).2 = [])
def bsR (M : List (List Int)) (w : World) (e : Ending) (w' : World) : Prop := (∃ c av lv cv, e = .returned (.tuple #[.agg #[.int .i64 c, .slice av lv cv], .bool (bsB M)]) ∧ (bsB M = true → c = (bstA M.length (entM M)).1 ∧ ∃ g, av = some ⟨g, 0, none⟩ ∧ lv = M.length ∧ RdI w' (some ⟨g, 0, none⟩) (bstA M.length (entM M)).2)) ∧ Below w.heap.size w w'

set_option maxHeartbeats 3200000 in
set_option maxRecDepth 100000 in
theorem bestOf_c (n : Nat) (ad : Option Addr) (cap : Nat) (m : Nat → Nat → Int) (w : World) (hr : RdM w ad (toM n m)) (hn : 1 ≤ n ∧ n ≤ 6) (hnum : ∀ a b, a < n → b < n → numB (m a b) = true) :
    Calls Try.prog 46 #[.slice ad n cap, anyF] w fun e w' => (∃ vb, e = .returned (.tuple #[.agg #[.int .i64 (bstA n m).1, vb], .bool (!decide ((bstA n m).2 = []))]) ∧ RowI w' 0 vb (bstA n m).2) ∧ Below w.heap.size w w' := by
  have HR := Lib.hid hr; have HNUM := Lib.hid hnum
  clear hr hnum
  obtain ⟨h, hh⟩ : ∃ h, w.heap.size = h := ⟨_, rfl⟩
  unfold anyF
  go_enter Try.func46, Try.ntmps46
  have hbW : Below h w ((((w.alloc (.cells #[.slice ad n cap] 24)).alloc (.cells #[.func (Fn.func 47) #[] #[]] 67)).alloc (.cells #[.int .i64 0, .slice none 0 0] 43)).alloc (.cells #[.int .i64 1000000000, .slice none 0 0] 43)) := by rw [← hh]; exact bal_alloc (bal_alloc (bal_alloc (bal_alloc (Below.refl _ _))))
  have kM := ((((Own.newHA w #[.slice ad n cap] 24 (cs := [.slice ad n cap]) rfl hh).alloc (.cells #[.func (Fn.func 47) #[] #[]] 67)).alloc (.cells #[.int .i64 0, .slice none 0 0] 43)).alloc (.cells #[.int .i64 1000000000, .slice none 0 0] 43)).cell? (i := 0) rfl
  have kA := (((Own.newHA (w.alloc (.cells #[.slice ad n cap] 24)) #[.func (Fn.func 47) #[] #[]] 67 (cs := [anyF]) (H := h + 1) rfl (by simp [hh])).alloc (.cells #[.int .i64 0, .slice none 0 0] 43)).alloc (.cells #[.int .i64 1000000000, .slice none 0 0] 43)).cell? (i := 0) rfl
  have hoR := (Own.newHA ((w.alloc (.cells #[.slice ad n cap] 24)).alloc (.cells #[.func (Fn.func 47) #[] #[]] 67)) #[.int .i64 0, .slice none 0 0] 43 (cs := [.int .i64 0, .slice none 0 0]) (H := h + 1 + 1) rfl (by simp [hh])).alloc (.cells #[.int .i64 1000000000, .slice none 0 0] 43)
  have hoT := Own.newHA (((w.alloc (.cells #[.slice ad n cap] 24)).alloc (.cells #[.func (Fn.func 47) #[] #[]] 67)).alloc (.cells #[.int .i64 0, .slice none 0 0] 43)) #[.int .i64 1000000000, .slice none 0 0] 43 (cs := [.int .i64 1000000000, .slice none 0 0]) (H := h + 1 + 1 + 1) rfl (by simp [hh])
  go_wp2_with fail
  generalize (((w.alloc (.cells #[.slice ad n cap] 24)).alloc (.cells #[.func (Fn.func 47) #[] #[]] 67)).alloc (.cells #[.int .i64 0, .slice none 0 0] 43)).alloc (.cells #[.int .i64 1000000000, .slice none 0 0] 43) = W at hbW kM kA hoR hoT ⊢
  have hRl := hoR.lt
  have hTl := hoT.lt
  have hVis := bestVisH n ad cap m w W h (h + 1 + 1 + 1) (h + 1) HR.out hn HNUM.out (by rw [hh]; exact hbW) (by omega) kM kA (by omega) (by omega)
  have CP := permutations_c W (1000000000, []) (.slice none 0 0) hn hVis ⟨hoT, RowI.nil _ _, fun _ => rfl⟩ (fun q hq => by
    rcases hq with hq | hq
    · exact hq
    · simp [Value.ownBlock] at hq)
  rw [show (prmA n).foldl (pkA m) (1000000000, []) = bstA n m from rfl] at CP
  refine CP.mono ?_
  rintro e w2 ⟨rfl, vb, ⟨ho2, hrow2, hnil2⟩, hfr, -⟩
  have hoR2 := hoR.of_block (hfr.block (h + 1 + 1) hRl (by omega))
  have k0 := ho2.cell? (i := 0) rfl
  have k1 := ho2.cell? (i := 1) rfl
  have r0 := hoR2.cell? (i := 0) rfl
  have r1 := hoR2.cell? (i := 1) rfl
  have f0 := hoR2.frozen 0
  have f1 := hoR2.frozen 1
  have hb2 : Below h w w2 := hbW.trans (hfr.below (by omega) (fun q hq e => by omega))
  obtain ⟨av, cv, rfl, -⟩ := hrow2.shape
  have HRW := Lib.hid hrow2; have HOR := Lib.hid hoR2; have HB2 := Lib.hid hb2; have HNIL := Lib.hid hnil2
  have HRNE := Lib.hid (row_ne_ty hrow2 hoR2 (by decide))
  have HAV := Lib.hid (show av.isSome = (!decide ((bstA n m).2 = [])) from by
    by_cases e : (bstA n m).2 = []
    · have h1 := HNIL.out e
      injection h1 with h1
      rw [h1, decide_eq_true e]
      rfl
    · rw [decide_eq_false e]
      obtain ⟨g, c, h1, _⟩ := HRW.out.shpA (List.length_pos_iff.2 e)
      injection h1 with h1
      rw [h1]
      rfl)
  clear CP hVis hfr hbW kM kA hoR hoT ho2 hrow2 hnil2 hoR2 hb2
  obtain ⟨c, hc⟩ : ∃ x, (bstA n m).1 = x := ⟨_, rfl⟩
  obtain ⟨nL, hnL⟩ : ∃ x, (bstA n m).2.length = x := ⟨_, rfl⟩
  rw [hnL] at k1
  rw [hc] at k0
  have HNL := Lib.hid hnL; have HCC := Lib.hid hc; clear hnL hc
  have HS := Lib.hid ((HOR.out.set 0 (.int .i64 c)).set 1 (.slice av nL cv))
  have HBS := Lib.hid ((HB2.out.setCell (p := ⟨h + 1 + 1, 0, none⟩) (by show h ≤ h + 1 + 1; omega) (.int .i64 c)).setCell (p := ⟨h + 1 + 1, 1, none⟩) (by show h ≤ h + 1 + 1; omega) (.slice av nL cv))
  have HRS := Lib.hid (show RowI ((w2.setCell ⟨h + 1 + 1, 0, none⟩ (.int .i64 c)).setCell ⟨h + 1 + 1, 1, none⟩ (.slice av nL cv)) 0 (.slice av nL cv) (bstA n m).2 from by
    rw [← HNL.out]
    exact ownsRow_setCell_other (ownsRow_setCell_other HRW.out HRNE.out _) HRNE.out _)
  go_wp2_with fail
  first | go_region_with (fail) | fail "region"
  all_goals
    go_wp2_with fail
    have q0 := HS.out.cell? (i := 0) rfl
    have q1 := HS.out.cell? (i := 1) rfl
    refine bodyPost_ret (v := .tuple #[.agg #[.int .i64 c, .slice av nL cv], .bool av.isSome]) (by simp [results, Try.results46, go_sem, q0, q1]) rfl ?_
    exact ⟨⟨_, by rw [HCC.out, HAV.out], HRS.out.below (Below.refl _ _).drew⟩, by rw [hh]; exact HBS.out.drew⟩

set_option maxHeartbeats 3200000 in
set_option maxRecDepth 100000 in
theorem bestAsked_c (ad : Option Addr) (cap : Nat) (M : List (List Int)) (w : World) (hr : RdM w ad M) (hl : smM M) :
    Calls Try.prog 22 #[.slice ad M.length cap] w (bsR M w) := by
  have hb0 := bal_alloc (o := .cells #[.int .i64 0, .slice none 0 0] 43) (Below.refl w.heap.size w)
  have ho0 := Own.newHA w #[.int .i64 0, .slice none 0 0] 43 (cs := [.int .i64 0, .slice none 0 0]) rfl rfl
  have C1 := Lib.hid (isSquare_c ad cap M _ (hr.below hb0) (by have := hl.1; omega) (fun i hi => by have := hl.2 i hi; omega))
  have C2 := Lib.hid (fun (h : sqB M = true) u (hb : Below w.heap.size w u) => by
    obtain ⟨hn, _, hnum⟩ := sq_facts h
    have hr2 := hr.below hb
    rw [← sq_toM h] at hr2
    exact bestOf_c M.length ad cap (entM M) u hr2 hn hnum)
  have HLEN := Lib.hid (fun (h : sqB M = true) (h2 : (bstA M.length (entM M)).2 ≠ []) => by
    obtain ⟨hn, _, hnum⟩ := sq_facts h
    rcases best_spec (m := entM M) hnum hn with ⟨h3, _⟩ | ⟨_, h3, _⟩
    · rw [h3] at h2; exact absurd rfl h2
    · exact (show 0 < (bstA M.length (entM M)).2.length ∧ (bstA M.length (entM M)).2.length = M.length from ⟨by omega, h3⟩))
  have HO := Lib.hid ho0; have HB0 := Lib.hid hb0
  unfold bsR bsB
  unfold anyF at C2
  clear hr hl ho0 hb0
  generalize bstA M.length (entM M) = R at C2 HLEN ⊢
  generalize sqB M = S at C1 C2 HLEN ⊢
  generalize M.length = n at C1 C2 HLEN ⊢
  cases S
  · clear C2
    rw [Bool.false_and]
    go_enter Try.func22, Try.ntmps22
    go_wp2_with fail
    refine C1.out.mono ?_
    rintro e w1 ⟨rfl, hb1⟩
    have ho1 := HO.out.belowAll hb1
    have k0 := ho1.cell? (i := 0) rfl
    have k1 := ho1.cell? (i := 1) rfl
    have f0 := ho1.frozen 0
    have f1 := ho1.frozen 1
    have HS := Lib.hid ((ho1.set 0 (.int .i64 0)).set 1 (.slice none 0 0))
    have HB2 := Lib.hid (((ball HB0.out hb1).setCell (p := ⟨w.heap.size, 0, none⟩) (Nat.le_refl _) (.int .i64 0)).setCell (p := ⟨w.heap.size, 1, none⟩) (Nat.le_refl _) (.slice none 0 0))
    clear ho1
    go_wp2_with fail
    have q0 := HS.out.cell? (i := 0) rfl
    have q1 := HS.out.cell? (i := 1) rfl
    refine bodyPost_ret (v := .tuple #[.agg #[.int .i64 0, .slice none 0 0], .bool false]) (by simp [results, Try.results22, go_sem, q0, q1]) rfl ?_
    exact ⟨⟨0, _, _, _, rfl, fun h => by cases h⟩, HB2.out⟩
  · rw [Bool.true_and]
    have D2 := Lib.hid (C2.out rfl)
    have HLE := Lib.hid (HLEN.out rfl)
    clear C2 HLEN
    obtain ⟨B, hB⟩ : ∃ B, (!decide (R.2 = [])) = B := ⟨_, rfl⟩
    rw [hB] at D2 ⊢
    have HBB := Lib.hid hB; clear hB
    go_enter Try.func22, Try.ntmps22
    go_wp2_with fail
    refine C1.out.mono ?_
    rintro e w1 ⟨rfl, hb1⟩
    have ho1 := HO.out.belowAll hb1
    have hbx := ball HB0.out hb1
    go_wp2_with fail
    refine (D2.out _ hbx).mono ?_
    rintro e w2 ⟨⟨vb, rfl, hrow⟩, hb2⟩
    have ho2 := ho1.belowAll hb2
    have k0 := ho2.cell? (i := 0) rfl
    have k1 := ho2.cell? (i := 1) rfl
    have f0 := ho2.frozen 0
    have f1 := ho2.frozen 1
    obtain ⟨c, hc⟩ : ∃ c, R.1 = c := ⟨_, rfl⟩
    rw [hc]
    have HC := Lib.hid hc; clear hc
    have HS := Lib.hid ((ho2.set 0 (.int .i64 c)).set 1 vb)
    have HB2 := Lib.hid (((ball hbx hb2).setCell (p := ⟨w.heap.size, 0, none⟩) (Nat.le_refl _) (.int .i64 c)).setCell (p := ⟨w.heap.size, 1, none⟩) (Nat.le_refl _) vb)
    have HR := Lib.hid (show RowI ((w2.setCell ⟨w.heap.size, 0, none⟩ (.int .i64 c)).setCell ⟨w.heap.size, 1, none⟩ vb) 0 vb R.2 from ownsRow_setCell_other (ownsRow_setCell_other hrow (row_ne_ty hrow ho2 (by decide)) _) (row_ne_ty hrow ho2 (by decide)) _)
    obtain ⟨av, lv, cv, rfl⟩ : ∃ av lv cv, vb = .slice av lv cv := by
      obtain ⟨av, cv, e, _⟩ := hrow.shape
      exact ⟨av, _, cv, e⟩
    clear ho1 ho2 hrow hb2 hbx
    go_wp2_with fail
    have q0 := HS.out.cell? (i := 0) rfl
    have q1 := HS.out.cell? (i := 1) rfl
    refine bodyPost_ret (v := .tuple #[.agg #[.int .i64 c, .slice av lv cv], .bool B]) (by simp [results, Try.results22, go_sem, q0, q1]) rfl ?_
    refine ⟨⟨c, _, _, _, rfl, fun h => ⟨HC.out.symm, ?_⟩⟩, HB2.out⟩
    have hne : R.2 ≠ [] := by
      have := HBB.out
      rw [h] at this
      simpa using this
    obtain ⟨hl0, hln⟩ := HLE.out hne
    obtain ⟨g, c2, e, _⟩ := HR.out.shpA hl0
    rw [hln] at e
    obtain ⟨ad2, c3, e2, hrd⟩ := HR.out.shape
    rw [e] at e2
    injection e2 with e2 _ _
    subst e2
    injection e with e3 e4 _
    exact ⟨g, e3, e4, hrd⟩
end Go.Proofs.Ytjlkgioinogbkaa
