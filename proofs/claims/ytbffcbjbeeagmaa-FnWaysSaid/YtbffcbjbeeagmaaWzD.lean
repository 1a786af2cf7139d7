/-
  The first of the cheapest ways with the fewest steps: the program's. By an AI agent.
-/
import Derived.Test.YtbffcbjbeeagmaaWzC
namespace Go.Proofs.Ytbffcbjbeeagmaa
open Go.RowKit

theorem Chg.andBelow {b : Nat} {u w w' : World} (h : Chg b u w) (k : Below u.heap.size w w') : Chg b u w' :=
  ⟨k.os.trans h.os, k.tape.trans h.tape, k.output.trans h.output, Nat.le_trans h.size k.size, fun i hi hb => (k.block i hi).trans (h.block i hi hb)⟩
theorem rdI_two (u : World) (H : Nat) (x y : Int) (hH : u.heap.size = H) : RdI (u.alloc (.cells #[.int .i64 x, .int .i64 y] 3)) (some ⟨H, 0, none⟩) [x, y] := by
  subst hH
  exact (Own.newA u #[.int .i64 x, .int .i64 y] 3 (cs := ints [x, y]) rfl).rd
/-- Rows that lie apart from a block. -/
def RwX (w : World) (bX oX gl k n : Nat) (F : Nat → Nat → Int) : Prop :=
  (bX ≠ gl ∧ bX < w.heap.size) ∧ ∀ s, s < k → ∃ b2 o2 c, w.cell? ⟨bX, oX + s, none⟩ = some (.slice (some ⟨b2, o2, none⟩) n c) ∧ (b2 ≠ gl ∧ b2 < w.heap.size) ∧ ∀ j, j < n → w.cell? ⟨b2, o2 + j, none⟩ = some (.int .i64 (F s j))
theorem MatO.rwx {w : World} {B k n cap gl : Nat} {ad : Option Addr} {F : Nat → Nat → Int} {vs : List Value} (h : MatO w B (.slice ad k cap) (toG k n F) vs) (hk : 0 < k) (hn : 0 < n) (hg : gl < B ∨ w.heap.size ≤ gl) : ∃ bX, ad = some ⟨bX, 0, none⟩ ∧ RwX w bX 0 gl k n F := by
  obtain ⟨g, cap', e, hB, _, ho⟩ := h.cells (by rw [toG_len]; exact hk)
  injection e with e _ _
  have hlt := ho.lt
  refine ⟨g, e, ⟨by omega, hlt⟩, fun s hs => ?_⟩
  have h1 := h.rowOf (i := s) (by rw [toG_len]; exact hs) (by rw [toG_row _ hs, tab_length]; exact hn)
  rw [toG_row _ hs, tab_length] at h1
  obtain ⟨h2, h3, h4, h5⟩ := h1
  have hl := h.len
  rw [toG_len] at hl
  refine ⟨(rowAt (vs.getD s undef)).1, (rowAt (vs.getD s undef)).2, rowCap (vs.getD s undef), ?_, ⟨by omega, h4⟩, fun j hj => ?_⟩
  · rw [← h2, Nat.zero_add]
    exact ho.cell? (by simp [List.getD, hl, hs])
  · have h6 := (h5 j hj).1
    rwa [tab_getD hj] at h6
theorem RwX.chg {w w' : World} {bX oX gl k n : Nat} {F : Nat → Nat → Int} (h : RwX w bX oX gl k n F) (hc : Chg gl w w') : RwX w' bX oX gl k n F := by
  obtain ⟨⟨h1, h1'⟩, h2⟩ := h
  refine ⟨⟨h1, Nat.lt_of_lt_of_le h1' hc.size⟩, fun s hs => ?_⟩
  obtain ⟨b2, o2, c, h3, ⟨h4, h4'⟩, h5⟩ := h2 s hs
  exact ⟨b2, o2, c, hc.cell h1 h3, ⟨h4, Nat.lt_of_lt_of_le h4' hc.size⟩, fun j hj => hc.cell h4 (h5 j hj)⟩
theorem RwX.below {w w' : World} {bX oX gl k n : Nat} {F : Nat → Nat → Int} (h : RwX w bX oX gl k n F) (hc : Below w.heap.size w w') : RwX w' bX oX gl k n F := h.chg (Chg.of_below hc)

def lfR (gl : Nat) (D : Int) (n : Nat) (m : Nat → Nat → Int) (b : Nat) (w : World) (s10 s11 : Value) (wc : World) : Prop :=
  s10 = .pointer (some ⟨gl, 0, none⟩) ∧ w.heap.size ≤ gl ∧ Own wc gl 3 (ints [D]) ∧ ∃ bX cap, s11 = .slice (some ⟨bX, 0, none⟩) (n + 1) cap ∧ RwX wc bX 0 gl (n + 1) n (exF n m b) ∧ RdM wc (some ⟨bX, 0, none⟩) (toG (n + 1) n (exF n m b)) ∧ Below w.heap.size w wc

set_option maxHeartbeats 6400000 in
set_option maxRecDepth 100000 in
theorem iCheapest_c (ad : Option Addr) (cap : Nat) (M : List (List Int)) (f t : Int) (w : World) (hr : RdM w ad M) (hl : smM M) :
    Calls Try.prog 9 #[.slice ad M.length cap, .int .i64 f, .int .i64 t] w (LisR (chB M f t) (chX M f t) w) := by
  have C1 := Lib.hid (fun u (hb : Below w.heap.size w u) => isSquare_c ad cap M u (hr.below hb) (by have := hl.1; omega) (fun i hi => by have := hl.2 i hi; omega))
  have C2 := Lib.hid (fun u => areVertices_c ad M.length cap (some ⟨u.heap.size, 0, none⟩) 2 [f, t] (u.alloc (.cells #[.int .i64 f, .int .i64 t] 3)) (by have := hl.1; omega) (by simp) (rdI_two u u.heap.size f t rfl))
  rw [show vtB M.length [f, t] = (inB f 0 ((M.length : Int) - 1) && inB t 0 ((M.length : Int) - 1)) by simp [vtB, allB]] at C2
  have C4 := Lib.hid (fun (hs : sqB M = true) u (hb : Below w.heap.size w u) => wayCosts2_c ad cap M u (hr.below hb) hs)
  have C5 := Lib.hid (fun (hs : sqB M = true) (b : Nat) (hb : b < M.length) u (hbe : Below w.heap.size w u) => by
    have h2 := hr.below hbe
    rw [← sq_toM hs] at h2
    exact byStep_c M.length b ad cap (entM M) u h2 (sq_facts hs).1 hb (sq_facts hs).2.2)
  have HSQ := Lib.hid (fun (h : sqB M = true) => (sq_facts h).1)
  have HRD := Lib.hid (fun (h : sqB M = true) => (show RdM w ad (toM M.length (entM M)) by rw [sq_toM h]; exact hr))
  have HNUM := Lib.hid (fun (h : sqB M = true) => (show ∀ a b, a < M.length → b < M.length → numB (entM M a b) = true from (sq_facts h).2.2))
  have HME := Lib.hid (fun (h : sqB M = true) (hk : okW M = true) a b (ha : a < M.length) (hb : b < M.length) (hne : bf M.length (entM M) M.length a b ≠ 1000000000) => by
    obtain ⟨h1, _, h2⟩ := sq_facts h
    have h3 : okB M.length (entM M) = true := by unfold okW at hk; rw [h, Bool.true_and] at hk; exact hk
    exact (show ∃ s, s < M.length ∧ exF M.length (entM M) b s a = bf M.length (entM M) M.length a b from ex_meet (m := entM M) h2 h1.2 (okB_t.1 h3) ha hb hne))
  have HBX := Lib.hid (fun (h : sqB M = true) (b : Nat) (hb : b < M.length) s v (hv : v < M.length) => (show exF M.length (entM M) b s v = 1000000000 ∨ (-(1000000 * (s : Int)) ≤ exF M.length (entM M) b s v ∧ exF M.length (entM M) b s v ≤ 1000000 * (s : Int)) from ex_bd (m := entM M) (sq_facts h).2.2 hb (s := s) hv))
  have hdis : disM M = toM M.length (bf M.length (entM M) M.length) := rfl
  have hin : ∀ x : Int, inB x 0 ((M.length : Int) - 1) = true → ∃ a : Nat, x = (a : Int) ∧ a < M.length := fun x h => by have := inB_t.1 h; exact ⟨x.toNat, by omega, by omega⟩
  have hnb := hl.1
  unfold chB chX
  rw [hdis] at C4
  have HIN1 := Lib.hid (hin f)
  have HIN2 := Lib.hid (hin t)
  clear hr hl hdis hin
  generalize inB f 0 ((M.length : Int) - 1) = F1 at C2 HIN1 ⊢
  generalize inB t 0 ((M.length : Int) - 1) = T1 at C2 HIN2 ⊢
  generalize okW M = K at C4 HME ⊢
  generalize sqB M = S at C1 C4 C5 HSQ HRD HNUM HME HBX ⊢
  generalize entM M = m at C4 C5 HRD HNUM HME HBX ⊢
  generalize M.length = n at C1 C2 C4 C5 HSQ HRD HNUM HME HBX HIN1 HIN2 hnb ⊢
  have hbF := bal_alloc (o := .cells #[.int .i64 f] 3) (Below.refl w.heap.size w)
  have kF : (w.alloc (.cells #[.int .i64 f] 3)).cell? ⟨w.heap.size, 0, none⟩ = some (.int .i64 f) := by simp [go_sem]
  cases S
  · clear C2 C4 C5 HSQ HRD HNUM HME HBX
    go_enter Try.func9, Try.ntmps9
    go_wp2_with fail
    refine (C1.out _ hbF).mono ?_
    rintro e w1 ⟨rfl, hb1⟩
    have hb1 := ball hbF hb1
    go_wp2_with fail
    exact bodyPost_ret (v := .tuple #[.slice none 0 0, .bool false]) (by simp [results, Try.results9, go_sem]) rfl (LisR.no _ hb1)
  · rw [Bool.true_and, ← Bool.and_assoc]
    obtain ⟨V1, hV1⟩ : ∃ V1, (F1 && T1) = V1 := ⟨_, rfl⟩
    rw [hV1] at C2 ⊢
    have HV := Lib.hid hV1; clear hV1
    cases V1
    · clear C4 C5 HSQ HRD HNUM HME HBX
      go_enter Try.func9, Try.ntmps9
      go_wp2_with fail
      refine (C1.out _ hbF).mono ?_
      rintro e w1 ⟨rfl, hb1⟩
      have kF1 := bcell' hb1 kF
      have hb1 := ball hbF hb1
      go_wp2_with fail
      refine (C2.out _).mono ?_
      rintro e w2 ⟨rfl, hb2⟩
      have hb2 := (bal_alloc hb1).trans (hb2.mono (bal_alloc hb1).size)
      go_wp2_with fail
      exact bodyPost_ret (v := .tuple #[.slice none 0 0, .bool false]) (by simp [results, Try.results9, go_sem]) rfl (LisR.no _ hb2)
    · rw [Bool.true_and]
      have hF1 : F1 = true := by have := HV.out; revert this; cases F1 <;> simp
      have hT1 : T1 = true := by have := HV.out; revert this; cases F1 <;> cases T1 <;> simp
      obtain ⟨a, rfl, han⟩ := HIN1.out hF1
      obtain ⟨b, rfl, hbn⟩ := HIN2.out hT1
      rw [Int.toNat_natCast, Int.toNat_natCast]
      have D4 := Lib.hid (C4.out rfl)
      have D5 := Lib.hid (C5.out rfl b hbn)
      have hn := HSQ.out rfl
      have HR := Lib.hid (HRD.out rfl)
      have HN2 := Lib.hid (HNUM.out rfl)
      have HM2 := Lib.hid (HME.out rfl)
      have HB2 := Lib.hid (HBX.out rfl b hbn)
      clear C4 C5 HSQ HRD HNUM HME HBX HIN1 HIN2 hF1 hT1 HV
      cases K
      · go_enter Try.func9, Try.ntmps9
        go_wp2_with fail
        refine (C1.out _ hbF).mono ?_
        rintro e w1 ⟨rfl, hb1⟩
        have kF1 := bcell' hb1 kF
        have hb1 := ball hbF hb1
        go_wp2_with fail
        refine (C2.out _).mono ?_
        rintro e w2 ⟨rfl, hb2⟩
        have hb2 := (bal_alloc hb1).trans (hb2.mono (bal_alloc hb1).size)
        go_wp2_with fail
        refine (D4.out _ hb2).mono ?_
        rintro e w4 ⟨_, he, hb4⟩
        obtain rfl := he trivial
        have hb4 := ball hb2 hb4
        go_wp2_with fail
        exact bodyPost_ret (v := .tuple #[.slice none 0 0, .bool false]) (by simp [results, Try.results9, go_sem]) rfl (LisR.no _ hb4)
      · rw [Bool.true_and]
        have x1 : (0 : Int) ≤ (a : Int) := by omega
        have x2 : (a : Int) < (n : Int) := by omega
        have x3 : (0 : Int) ≤ (b : Int) := by omega
        have x4 : (b : Int) < (n : Int) := by omega
        by_cases hD : bf n m n a b = 1000000000
        · rw [hD]
          have HD := Lib.hid hD
          clear hD
          go_enter Try.func9, Try.ntmps9
          go_wp2_with fail
          refine (C1.out _ hbF).mono ?_
          rintro e w1 ⟨rfl, hb1⟩
          have kF1 := bcell' hb1 kF
          have hb1 := ball hbF hb1
          go_wp2_with fail
          refine (C2.out _).mono ?_
          rintro e w2 ⟨rfl, hb2⟩
          have kF2 := bcell' hb2 (cell_alloc' (o := .cells #[.int .i64 (a : Int), .int .i64 (b : Int)] 3) kF1)
          have hb2 := (bal_alloc hb1).trans (hb2.mono (bal_alloc hb1).size)
          go_wp2_with fail
          refine (D4.out _ hb2).mono ?_
          rintro e w4 ⟨hyes, _, hb4⟩
          obtain ⟨av, cv, rfl, vs, hm⟩ := hyes trivial
          have kF4 := bcell' hb4 kF2
          have hb4 := ball hb2 hb4
          obtain ⟨bM, oM, rfl, hbM, hrow⟩ := hm.rd.rowF (by omega)
          obtain ⟨b2, o2, c2, e2, hl2, hc2⟩ := hrow a han
          have k1 := hc2 b hbn
          rw [HD.out] at k1
          clear hrow hc2 hm hyes
          go_wp2_with fail
          exact bodyPost_ret (v := .tuple #[.slice none 0 0, .bool false]) (by simp [results, Try.results9, go_sem]) rfl (LisR.no _ hb4)
        · obtain ⟨hSn, hSe, hSf⟩ := chS_spec (HM2.out rfl a b han hbn hD)
          have gd : decide (bf n m n a b = 1000000000) = false := decide_eq_false hD
          rw [gd, Bool.not_false]
          have gd2 : (bf n m n a b == 1000000000) = false := beq_eq_false_iff_ne.2 hD
          have hcl : chL n m a b = [(a : Int)] ++ chP n m b (chS n m a b) a := rfl
          have hcn : (chL n m a b).length = chS n m a b + 1 := by rw [hcl, List.length_append, chP_len]; simp; omega
          generalize chL n m a b = CL at hcl hcn ⊢
          generalize chS n m a b = SS at hSn hSe hSf hcl hcn
          have HCL := Lib.hid hcl; have HCN := Lib.hid hcn; have HSE := Lib.hid hSe; have HSF := Lib.hid hSf; have HDN := Lib.hid hD
          clear hcl hcn hSe hSf hD gd
          obtain ⟨DV, hDV⟩ : ∃ DV, bf n m n a b = DV := ⟨_, rfl⟩
          rw [hDV] at gd2 HSE HSF HDN
          have HDV := Lib.hid hDV
          clear hDV HM2
          go_enter Try.func9, Try.ntmps9
          go_wp2_with fail
          refine (C1.out _ hbF).mono ?_
          rintro e w1 ⟨rfl, hb1⟩
          have kF1 := bcell' hb1 kF
          have hb1 := ball hbF hb1
          go_wp2_with fail
          refine (C2.out _).mono ?_
          rintro e w2 ⟨rfl, hb2⟩
          have kF2 := bcell' hb2 (cell_alloc' (o := .cells #[.int .i64 (a : Int), .int .i64 (b : Int)] 3) kF1)
          have hb2 := (bal_alloc hb1).trans (hb2.mono (bal_alloc hb1).size)
          go_wp2_with fail
          refine (D4.out _ hb2).mono ?_
          rintro e w4 ⟨hyes, _, hb4⟩
          obtain ⟨av, cv, rfl, vs, hm⟩ := hyes trivial
          have kF4 := bcell' hb4 kF2
          have hb4 := ball hb2 hb4
          obtain ⟨bD, oD, rfl, hbD, hrowD⟩ := hm.rd.rowF (by omega)
          obtain ⟨b2, o2, c2, eD, hlD, hcD⟩ := hrowD a han
          have kD := hcD b hbn
          rw [HDV.out] at kD
          have hFs := cell_lt kF4
          have hFw : w.heap.size < w4.heap.size := hFs
          clear hrowD hcD hm D4 C1 C2 hyes kF kF1 kF2 hb1 hb2 hbF
          go_wp2_with fail
          go_cut [10, 11] (fun s10 s11 wc => ∃ gl, lfR gl DV n m b w s10 s11 wc ∧ gl ≠ w.heap.size ∧ wc.cell? ⟨w.heap.size, 0, none⟩ = some (.int .i64 (a : Int)))
          case first =>
            have HOA := Lib.hid (Own.newA w4 #[.int .i64 0] 3 (cs := ints [0]) rfl)
            have hbA := bal_alloc (o := .cells #[.int .i64 0] 3) hb4
            have DA := Lib.hid (D5.out w4.drew hb4.drew)
            have DB := Lib.hid (D5.out (w4.alloc (.cells #[.int .i64 0] 3)).drew hbA.drew)
            have DC := Lib.hid (D5.out ((w4.alloc (.cells #[.int .i64 0] 3)).setCell ⟨w4.heap.size, 0, none⟩ (.int .i64 DV)).drew (hbA.setCell hb4.size _).drew)
            go_region_held3 (fun w' => w'.cell? ⟨w.heap.size, 0, none⟩ = some (.int .i64 (a : Int)) ∧ w'.cell? ⟨bD, oD + a, none⟩ = some (.slice (some ⟨b2, o2, none⟩) n c2) ∧ w'.cell? ⟨b2, o2 + b, none⟩ = some (.int .i64 DV)) (with_reducible repeat' (first | apply And.intro | assumption | apply cell_alloc' | apply cell_drew' | (refine cell_set' (by omega) ?_)))
              (first
                | (go_at_call 42; (with_reducible refine (DA.out).mono ?_); rintro e w5 ⟨aX, cX, rfl, ⟨vsX, hmX⟩, hb5⟩; have hz5 : w4.heap.size ≤ w5.heap.size := hb5.size; have m0 := bcell hb5 hFs kF4; have m1 := bcell hb5 hbD eD; have m2 := bcell hb5 hlD kD; have HMX := Lib.hid hmX; clear hmX)
                | (go_at_call 42; (with_reducible refine (DB.out).mono ?_); rintro e w5 ⟨aX, cX, rfl, ⟨vsX, hmX⟩, hb5⟩; have hz5 : w4.heap.size ≤ w5.heap.size := Nat.le_trans (by simp) hb5.size; have m0 := bcell' hb5 (cell_alloc' kF4); have m1 := bcell' hb5 (cell_alloc' eD); have m2 := bcell' hb5 (cell_alloc' kD); have HL5 := Lib.hid (HOA.out.drew.belowAll hb5); have m3 := HL5.out.cell? (i := 0) rfl; have m4 := HL5.out.frozen 0; have HMX := Lib.hid hmX; clear hmX)
                | fail)
            · go_wp2_with fail
              go_meet
              obtain ⟨bX, rfl, hrx⟩ := HMX.out.rwx (gl := w5.heap.size) (by omega) (by omega) (Or.inr (Nat.le_refl _))
              have hbz := (Below.refl w5.heap.size w5).alloc (Nat.le_refl _) (.cells #[.int .i64 DV] 3)
              exact ⟨w5.heap.size, ⟨rfl, by omega, Own.newA w5 #[.int .i64 DV] 3 (cs := ints [DV]) rfl, bX, cX, rfl, hrx.below hbz, HMX.out.rd.below hbz, bal_alloc (ball hb4.drew hb5)⟩, by omega, cell_alloc' m0⟩
            · go_wp2_with fail
              go_meet
              have hzl : w4.heap.size < (w4.alloc (.cells #[.int .i64 0] 3)).drew.heap.size := by simp
              have hmy := HMX.out.chg (Chg.set w4.heap.size 0 w5 (.int .i64 DV)) hzl
              obtain ⟨bX, rfl, hrx⟩ := hmy.rwx (gl := w4.heap.size) (by omega) (by omega) (Or.inl hzl)
              exact ⟨w4.heap.size, ⟨rfl, by omega, HL5.out.set 0 (.int .i64 DV), bX, cX, rfl, hrx, hmy.rd, (ball hbA.drew hb5).setCell hb4.size _⟩, by omega, cell_set' (by omega) m0⟩
          case rest =>
            obtain ⟨gl, ⟨rfl, hgw, hgo, bX, cX, rfl, hrx, hrdm, hbc⟩, hgne, kFc⟩ := hcut
            have HRX := Lib.hid hrx; have HGO := Lib.hid hgo
            have kG := hgo.cell? (i := 0) rfl
            have CI := Lib.hid (indexM2 44 (.pointer (some ⟨w.heap.size, 0, none⟩)) (.pointer (some ⟨gl, 0, none⟩)) (fun r => decide (r.getD a 0 = DV)) (some ⟨bX, 0, none⟩) cX (toG (n + 1) n (exF n m b)) wc (by rw [toG_len]; omega) hrdm
              (callFunc_plainM Try.func44 (by kernel_rfl) (by kernel_rfl)) (fun i hi a1 c1 u2 hb2 hri => by
                rw [toG_len] at hi
                exact cheapest1_c w.heap.size gl a DV a1 c1 _ u2 hri (by rw [toG_row _ hi, tab_length]; exact han) (bcell' hb2 kFc) (bcell' hb2 kG)))
            have HRES := Lib.hid (show ∀ r : Int, ((∃ k : Nat, r = (k : Int) ∧ k < (toG (n + 1) n (exF n m b)).length ∧ decide (((toG (n + 1) n (exF n m b)).getD k []).getD a 0 = DV) = true ∧ ∀ j, j < k → decide (((toG (n + 1) n (exF n m b)).getD j []).getD a 0 = DV) = false) ∨ (r = -1 ∧ (toG (n + 1) n (exF n m b)).any (fun r => decide (r.getD a 0 = DV)) = false)) → r = (SS : Int) from fun r h => by
              have hrow : ∀ k, k < n + 1 → ((toG (n + 1) n (exF n m b)).getD k []).getD a 0 = exF n m b k a := fun k hk => by rw [toG_row _ hk, tab_getD han]
              rcases h with ⟨k, rfl, h1, h2, h3⟩ | ⟨_, h2⟩
              · rw [toG_len] at h1
                have h2 := of_decide_eq_true h2
                rw [hrow k h1] at h2
                rcases Nat.lt_trichotomy k SS with h | h | h
                · exact absurd h2 (HSF.out k h)
                · rw [h]
                · have h4 := of_decide_eq_false (h3 SS h)
                  rw [hrow SS (by omega)] at h4
                  exact absurd HSE.out h4
              · rw [List.any_eq_false] at h2
                have h3 := h2 ((toG (n + 1) n (exF n m b)).getD SS []) (getD_memM (by rw [toG_len]; omega))
                rw [hrow SS (by omega)] at h3
                exact absurd (decide_eq_true HSE.out) h3)
            rw [toG_len] at CI
            clear hrx hgo hrdm
            go_wp2_with fail
            refine CI.out.mono ?_
            rintro e w6 ⟨⟨r, rfl, hr6⟩, hb6⟩
            obtain rfl := HRES.out r (by rw [toG_len]; exact hr6)
            have kF6 := bcell' hb6 kFc
            have HRX6 := Lib.hid (HRX.out.below hb6)
            have HGO6 := Lib.hid (HGO.out.belowAll hb6)
            have hg6 := HGO6.out.lt
            have hb6 := ball hbc hb6
            clear hr6 HRES CI HRX HGO hbc kFc eD kD hbD hlD D5 hb4 kF4 hFs hFw kG
            go_wp2_with fail
            obtain ⟨s0, hs0⟩ : ∃ x, x = SS := ⟨_, rfl⟩
            rw [← hs0] at HSE HCN HCL hSn
            have HOW0 := Lib.hid (show Own (w6.alloc (.cells #[.int .i64 (a : Int)] 3)) gl 3 (ints [exF n m b s0 a]) by rw [HSE.out]; exact HGO6.out.alloc _)
            go_loopw [12, 13] (fun i v wr => ∃ (s a' : Nat) (pre : List Int), i = .int .i64 s ∧ RowI wr w6.heap.size v (pre ++ [(a' : Int)]) ∧ (pre ++ [(a' : Int)]) ++ chP n m b s a' = CL ∧ a' < n ∧ s ≤ s0 ∧ exF n m b s a' ≠ 1000000000 ∧ Own wr gl 3 (ints [exF n m b s a']) ∧ Chg gl w6 wr) (fun i _ _ => (intOf i).toNat)
            case atStart => exact ⟨s0, a, [], by rw [hs0], rowI_single _ _ _ _ (Nat.le_refl _) rfl, HCL.out.symm, han, Nat.le_refl _, (by rw [HSE.out]; exact HDN.out), HOW0.out, Chg.alloc _ _ _⟩
            case round =>
              obtain ⟨wF, rfl⟩ : ∃ x : World, x = wr := ⟨_, rfl⟩
              obtain ⟨s, a', pre, rfl, hrow, hl, ha', hss, hne, hown, hchg⟩ := hrel
              have hll : pre.length + 1 + s = s0 + 1 := by rw [← HCN.out, ← hl, List.length_append, chP_len]; simp
              obtain ⟨adr, car, rfl, hrdr⟩ := hrow.shape
              rw [List.length_append, List.length_singleton] at hrow ⊢
              obtain ⟨P, hP⟩ : ∃ P, pre.length + 1 = P := ⟨_, rfl⟩
              rw [hP] at hrow ⊢
              obtain ⟨bW, oW, rfl, hbW, kW⟩ := hrdr pre.length (by simp)
              have hgl : (pre ++ [(a' : Int)]).getD pre.length 0 = (a' : Int) := getD_snocE _ _ _
              rw [hgl] at kW
              obtain ⟨Q, hQ⟩ : ∃ Q, pre.length = Q := ⟨_, rfl⟩
              rw [hQ] at kW hP hll
              have HQ := Lib.hid hQ; have HP := Lib.hid hP
              have HRD := Lib.hid hrdr; have HO := Lib.hid hrow; have HLL := Lib.hid hl
              have HOW := Lib.hid hown
              have eQ : IntKind.i64.wrap ((P : Int) - 1) = (Q : Int) := by rw [i64_small (by omega) (by omega)]; omega
              have q1 : (0 : Int) ≤ (Q : Int) := by omega
              have q2 : (Q : Int) < (P : Int) := by omega
              have hsz := hchg.size
              have hbF : Below w.heap.size w wF := hb6.trans (hchg.below hgw hb6.size)
              clear hrdr hrow hl hgl hQ hown HOW0 kF6
              by_cases h0 : s = 0
              · subst h0
                have hcl2 : pre ++ [(a' : Int)] = CL := by have := HLL.out; unfold chP at this; rw [List.append_nil] at this; exact this
                go_wp2_with fail
                exact bodyPost_ret (v := .tuple #[.slice (some ⟨bW, oW, none⟩) P car, .bool true]) (by simp [results, Try.results9, go_sem]) rfl (LisR.yes (by rw [← hcl2]; exact HRD.out) (by rw [HCN.out]; omega) hbF)
              · obtain ⟨t, ht⟩ : ∃ t, s = t + 1 := ⟨s - 1, by omega⟩
                obtain ⟨hK1, hK2, hK3, hK4⟩ := chK_spec (show exF n m b (t + 1) a' ≠ 1000000000 by rw [← ht]; exact hne)
                have HNX := Lib.hid (show chP n m b s a' = (chK n m b t a' : Int) :: chP n m b t (chK n m b t a') by rw [ht]; rfl)
                generalize chK n m b t a' = KK at hK1 hK2 hK3 hK4 HNX
                rw [← ht] at hK2 hK3
                have HK2 := Lib.hid hK2; have HK3 := Lib.hid hK3; have HK4 := Lib.hid hK4
                have e1 : IntKind.i64.wrap ((s : Int) - 1) = (t : Int) := by rw [i64_small (by omega) (by omega)]; omega
                have g0 : decide ((0 : Int) < (s : Int)) = true := decide_eq_true (by omega)
                have y3 : (0 : Int) ≤ (t : Int) := by omega
                have y4 : (t : Int) < ((n + 1 : Nat) : Int) := by omega
                have y4' : (t : Int) < (n : Int) + 1 := by omega
                have y5 : (0 : Int) ≤ (a' : Int) := by omega
                have y6 : (a' : Int) < (n : Int) := by omega
                have htn : t < n := by omega
                have hl6 : P ≤ 100 := by omega
                have HRXF := Lib.hid (HRX6.out.chg hchg)
                have HCH := Lib.hid hchg
                have HT := Lib.hid ht
                have hts : t < s := by omega
                clear hK2 hK3 hK4 hne hchg ht
                go_wp2_with fail
                go_loopw [15, 70] (fun v i wr => ∃ k : Nat, k ≤ n ∧ i = .int .i64 k ∧ v = .int .i64 (if k ≤ KK then -1 else (KK : Int)) ∧ Below wF.heap.size wF wr) (fun _ i _ => n - (intOf i).toNat)
                case atStart => exact ⟨0, Nat.zero_le _, rfl, by rw [if_pos (Nat.zero_le _)], Below.refl _ _⟩
                case round =>
                  obtain ⟨wJ, rfl⟩ : ∃ x : World, x = wr := ⟨_, rfl⟩
                  obtain ⟨k, hk, rfl, rfl, hbj⟩ := hrel
                  have hb8 : Below w.heap.size w wJ := hbF.trans (hbj.mono hbF.size)
                  obtain ⟨bM, oM, rfl, hbM, hrowM⟩ := HR.out.rowF (by omega)
                  obtain ⟨b4, o4, c4, e4, hl4, hc4⟩ := hrowM a' ha'
                  have e4 := bcell hb8 hbM e4
                  obtain ⟨⟨_, hX2⟩, hX3⟩ := HRXF.out.below hbj
                  obtain ⟨b5, o5, c5, e5, ⟨_, hl5⟩, hc5⟩ := hX3 t (by omega)
                  rw [Nat.zero_add] at e5
                  have hOJ := HOW.out.belowAll hbj
                  have kL := hOJ.cell? (i := 0) rfl
                  have fL := hOJ.frozen 0
                  by_cases hlk : k < n
                  case pos =>
                    have k4 := bcell hb8 hl4 (hc4 k hlk)
                    have k5 := hc5 k hlk
                    have hm := numB_t (HN2.out a' k ha' hlk)
                    have hbd := HB2.out t k hlk
                    have x7 : (0 : Int) ≤ (k : Int) := by omega
                    have x8 : (k : Int) < (n : Int) := by omega
                    clear hrowM hc4 hc5 hX3 hOJ fL
                    rcases Nat.lt_trichotomy k KK with hlt | heq | hgt
                    · have hcond := HK3.out k hlt
                      rw [if_pos (show k ≤ KK by omega)]
                      have HIF := Lib.hid (show (if k + 1 ≤ KK then (-1 : Int) else (KK : Int)) = -1 from if_pos (by omega))
                      generalize m a' k = C at k4 hm hcond
                      generalize exF n m b t k = D at k5 hbd hcond
                      generalize exF n m b s a' = X at kL hcond
                      by_cases hC : C = 1000000000
                      · subst hC
                        clear hcond hm hbd
                        go_wp2_with fail
                        go_quiet (fail)
                        go_wp2_with fail
                        go_roundw
                        case rel => exact ⟨k + 1, by omega, by go_num, by rw [HIF.out], bdrewN hbj _⟩
                        case measure => simp [intOf]; omega
                      · have hPX : prodZ C D ≠ X := fun h => hcond ⟨hC, h⟩
                        have CP := Lib.hid (fun w => product_c C D w (by omega))
                        have g3 : (C != 1000000000) = true := bne_iff_ne.2 hC
                        generalize prodZ C D = PP at CP hPX
                        have g4 : (PP == X) = false := beq_eq_false_iff_ne.2 hPX
                        clear hcond hm hbd hC hPX
                        go_wp2_with fail
                        go_quiet ((go_at_call 45; exact Calls.quiet_of_same ((CP.out _).mono (fun e w' h => ⟨h.1, h.2.symm⟩))))
                        go_wp2_with fail
                        go_roundw
                        case rel => exact ⟨k + 1, by omega, by go_num, by rw [HIF.out], bdrewN hbj _⟩
                        case measure => simp [intOf]; omega
                    · obtain rfl := heq
                      rw [if_pos (Nat.le_refl k)]
                      have HIF := Lib.hid (show (if k + 1 ≤ k then (-1 : Int) else (k : Int)) = k from if_neg (by omega))
                      obtain ⟨hC, hPX⟩ := HK2.out
                      generalize m a' k = C at k4 hm hC hPX
                      generalize exF n m b t k = D at k5 hbd hPX
                      generalize exF n m b s a' = X at kL hPX
                      have CP := Lib.hid (fun w => product_c C D w (by omega))
                      have g3 : (C != 1000000000) = true := bne_iff_ne.2 hC
                      generalize prodZ C D = PP at CP hPX
                      have g4 : (PP == X) = true := by rw [hPX]; exact beq_self_eq_true _
                      clear hm hbd hC hPX
                      go_wp2_with fail
                      go_quiet ((go_at_call 45; exact Calls.quiet_of_same ((CP.out _).mono (fun e w' h => ⟨h.1, h.2.symm⟩))))
                      go_wp2_with fail
                      go_roundw
                      case rel => exact ⟨k + 1, by omega, by go_num, by rw [HIF.out], bdrewN hbj _⟩
                      case measure => simp [intOf]; omega
                    · rw [if_neg (show ¬ k ≤ KK by omega)]
                      have HIF := Lib.hid (show (if k + 1 ≤ KK then (-1 : Int) else (KK : Int)) = KK from if_neg (by omega))
                      have g5 : decide ((KK : Int) < 0) = false := decide_eq_false (by omega)
                      clear hm hbd k4 k5 kL
                      go_wp2_with fail
                      go_quiet (fail)
                      go_wp2_with fail
                      go_roundw
                      case rel => exact ⟨k + 1, by omega, by go_num, by rw [HIF.out], bdrewN hbj _⟩
                      case measure => simp [intOf]; omega
                  case neg =>
                    obtain rfl : k = n := by omega
                    rw [if_neg (show ¬ k ≤ KK by omega)]
                    obtain ⟨hC, hPX⟩ := HK2.out
                    have k4 := bcell hb8 hl4 (hc4 KK hK1)
                    have hm := numB_t (HN2.out a' KK ha' hK1)
                    have hbd := HB2.out t KK hK1
                    have hDn := HK4.out
                    have HG5 := Lib.hid (hOJ.set 0 (.int .i64 (exF k m b t KK)))
                    have x7 : (0 : Int) ≤ (KK : Int) := by omega
                    have x8 : (KK : Int) < (k : Int) := by omega
                    obtain ⟨X, hX⟩ : ∃ X, exF k m b s a' = X := ⟨_, rfl⟩
                    rw [hX] at kL hPX
                    obtain ⟨C, hCe⟩ : ∃ C, m a' KK = C := ⟨_, rfl⟩
                    rw [hCe] at k4 hC hPX hm
                    obtain ⟨D, hDe⟩ : ∃ D, exF k m b t KK = D := ⟨_, rfl⟩
                    rw [hDe] at hPX hbd hDn HG5
                    rw [prodZ_fin hC hDn] at hPX
                    have eX : IntKind.i64.wrap (X - C) = D := by rw [i64_small (by omega) (by omega)]; omega
                    have HDE := Lib.hid hDe
                    have HOJ := Lib.hid (HO.out.below hbj)
                    have hne5 : (some gl : Option Nat) ≠ (Value.slice (some ⟨bW, oW, none⟩) P car).ownBlock := fun h => by
                      have := (World.ownsRow.lt HO.out gl h.symm).1
                      omega
                    clear hrowM hc4 hc5 hX3 hOJ hX hCe hDe hm hbd hC hDn hPX
                    go_wp2_with fail
                    go_still_tail 9, (by kernel_rfl)
                    change wpList _ _ _ _ _ wJ.drew
                    have d1 : wJ.drew.cell? ⟨gl, 0, none⟩ = some (.int .i64 X) := kL
                    have d2 : wJ.drew.frozen? ⟨gl, 0, none⟩ = false := fL
                    have HO2 := Lib.hid (show RowI (wJ.drew.setCell ⟨gl, 0, none⟩ (.int .i64 D)) w6.heap.size (.slice (some ⟨bW, oW, none⟩) P car) (pre ++ [(a' : Int)]) from row_congr (ownsRow_setCell_other (HOJ.out.below (Below.refl _ _).drew) (fun h => hne5 h.symm) _) rfl rfl)
                    have HC2 := Lib.hid (((HCH.out.andBelow ((hbj.mono hsz).drew)).trans (Chg.set gl 0 wJ.drew (.int .i64 D))))
                    have HG6 := Lib.hid (show Own (wJ.drew.setCell ⟨gl, 0, none⟩ (.int .i64 D)) gl 3 (ints [D]) from HOW.out.belowAll hbj |>.drew |>.set 0 (.int .i64 D))
                    have hsz2 := HC2.out.size
                    clear HG5 hne5 HOJ
                    go_wp2_with (at_builtin; refine wpList_appN rfl _ _ rfl w6.heap.size _ 0 1 _ (pre ++ [(a' : Int)]) [(KK : Int)] (P + 1) (by rw [← HP.out, ← HQ.out]; simp) rfl rfl (RowI.alloc' HO2.out) (rdI_one _ _ _ (by simp)) (by rw [List.length_append, HQ.out]; simp; omega) (by simp) (by simp at hsz2 ⊢; omega) ?_; intro v5 wm hown hsh hbm hgr)
                    have HO5 := Lib.hid hown
                    have HC5 := Lib.hid ((HC2.out.andBelow (bal_alloc (o := .cells #[.int .i64 (KK : Int)] 3) (Below.refl _ _) |>.mono hsz2)).andBelow hbm)
                    have HG7 := Lib.hid ((HG6.out.alloc (.cells #[.int .i64 (KK : Int)] 3)).below hbm hg6)
                    have HLX := Lib.hid (show ((pre ++ [(a' : Int)]) ++ [(KK : Int)]) ++ chP k m b t KK = CL by rw [← HLL.out, HNX.out, List.append_assoc]; rfl)
                    clear hown hsh hgr hbm
                    go_wp2_with fail
                    go_roundw
                    case rel => exact ⟨t, KK, pre ++ [(a' : Int)], by go_num, HO5.out, HLX.out, hK1, by omega, HK4.out, by rw [HDE.out]; exact HG7.out, HC5.out⟩
                    case measure => simp [intOf]; omega
end Go.Proofs.Ytbffcbjbeeagmaa
