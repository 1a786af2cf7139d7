/-
  The first regular part, the tropical rank: the program's. By an AI agent.
-/
import Derived.Test.YtnbenpalneodlaaRkE
namespace Go.Proofs.Ytnbenpalneodlaa
open Go.RowKit

def outB6 (R C n : Nat) (m : Nat → Nat → Int) : Bool := (cqA R n).all fun r => inB6 C n m r
/-- a regular part of a size is there. -/
def hasR (R C n : Nat) (m : Nat → Nat → Int) : Bool := !outB6 R C n m
/-- the tropical rank. -/
def rkF (R C : Nat) (m : Nat → Nat → Int) : Nat → Nat
  | 0 => 0
  | n + 1 => if hasR R C (n + 1) m = true then n + 1 else rkF R C m n

set_option maxHeartbeats 3200000 in
set_option maxRecDepth 100000 in
theorem firstRegular_c (R C n : Nat) (ad : Option Addr) (cap : Nat) (m : Nat → Nat → Int) (w : World) (hr : RdM w ad (toG R C m)) (hR : 1 ≤ R ∧ R ≤ 6) (hC : 1 ≤ C ∧ C ≤ 6) (hn : 1 ≤ n ∧ n ≤ 6) (hnum : ∀ a b, a < R → b < C → numB (m a b) = true) :
    Calls Try.prog 58 #[.slice ad R cap, .int .i64 n] w fun e w' => ∃ v1 v2, e = .returned (.tuple #[v1, v2, .bool (hasR R C n m)]) ∧ Below w.heap.size w w' := by
  obtain ⟨h, hh⟩ : ∃ h, w.heap.size = h := ⟨_, rfl⟩
  obtain ⟨W1, hW1⟩ : ∃ W, w.alloc (.cells #[.slice ad R cap] 26) = W := ⟨_, rfl⟩
  have s1 : W1.heap.size = h + 1 := by rw [← hW1]; simp [hh]
  have o1 : Own W1 h 26 [.slice ad R cap] := by rw [← hW1]; exact Own.newHA _ _ _ rfl hh
  have b1 : Below h w W1 := by rw [← hW1, ← hh]; exact bal_alloc (Below.refl _ _)
  obtain ⟨W2, hW2⟩ : ∃ W, W1.alloc (.cells #[.int .i64 n] 3) = W := ⟨_, rfl⟩
  have s2 : W2.heap.size = h + 1 + 1 := by rw [← hW2]; simp [s1]
  have o2 : Own W2 (h + 1) 3 [.int .i64 n] := by rw [← hW2]; exact Own.newHA _ _ _ rfl s1
  have b2 : Below W1.heap.size W1 W2 := by rw [← hW2]; exact bal_alloc (Below.refl _ _)
  obtain ⟨W3, hW3⟩ : ∃ W, W2.alloc (.cells #[.slice none 0 0] 23) = W := ⟨_, rfl⟩
  have s3 : W3.heap.size = h + 1 + 1 + 1 := by rw [← hW3]; simp [s2]
  have o3 : Own W3 (h + 1 + 1) 23 [.slice none 0 0] := by rw [← hW3]; exact Own.newHA _ _ _ rfl s2
  have b3 : Below W2.heap.size W2 W3 := by rw [← hW3]; exact bal_alloc (Below.refl _ _)
  obtain ⟨W4, hW4⟩ : ∃ W, W3.alloc (.cells #[.slice none 0 0] 23) = W := ⟨_, rfl⟩
  have s4 : W4.heap.size = h + 1 + 1 + 1 + 1 := by rw [← hW4]; simp [s3]
  have o4 : Own W4 (h + 1 + 1 + 1) 23 [.slice none 0 0] := by rw [← hW4]; exact Own.newHA _ _ _ rfl s3
  have b4 : Below W3.heap.size W3 W4 := by rw [← hW4]; exact bal_alloc (Below.refl _ _)
  have d3 := ball b3 b4
  have d2 := ball b2 d3
  have hbW : Below h w W4 := b1.trans (d2.mono (by omega))
  have kM := (o1.belowAll d2).cell? (i := 0) rfl
  have kN := (o2.belowAll d3).cell? (i := 0) rfl
  have hv : VfR (h + 1 + 1) (h + 1 + 1 + 1) W4 := ⟨⟨_, _, _, o3.belowAll b4⟩, ⟨_, _, _, o4⟩⟩
  have HW := Lib.hid (show (((w.alloc (.cells #[.slice ad R cap] 26)).alloc (.cells #[.int .i64 n] 3)).alloc (.cells #[.slice none 0 0] 23)).alloc (.cells #[.slice none 0 0] 23) = W4 by rw [hW1, hW2, hW3, hW4])
  have CC := Lib.hid (choices_c (V := VfR (h + 1 + 1) (h + 1 + 1 + 1)) (p := fun r => inB6 C n m r) (B0 := BfR (h + 1 + 1) (h + 1 + 1 + 1)) (fid := 67) (c1 := .pointer (some ⟨h, 0, none⟩)) (c2 := .pointer (some ⟨h + 1, 0, none⟩)) (c3 := .pointer (some ⟨h + 1 + 1, 0, none⟩)) (c4 := .pointer (some ⟨h + 1 + 1 + 1, 0, none⟩)) (N := R) (k := n) W4 hR.2 hn.2 ⟨callFunc_plainM Try.func67 (by kernel_rfl) (by kernel_rfl), fun {q} hq => by rcases hq with rfl | rfl <;> omega, fun h hq => h.loc hq, fun u l al cl hvu hl hal hll hch hf => by
    have hbu : Below w.heap.size w u := by
      rw [hh]
      exact hbW.trans (hf.below (by omega) (fun q hq e => by rcases e with e | e <;> omega))
    have hcell : ∀ {X : Nat} {v : Value}, X < h + 1 + 1 → W4.cell? ⟨X, 0, none⟩ = some v → u.cell? ⟨X, 0, none⟩ = some v := fun {X v} hX hc => hf.cell (p := ⟨X, 0, none⟩) (cell_lt hc) (by rintro (e | e) <;> simp at e <;> omega) hc
    have hus := hf.size
    exact outVis_c R C n ad cap m h (h + 1) (h + 1 + 1) (h + 1 + 1 + 1) al cl l w u hr hbu hR hC hn hnum (by omega) ⟨by omega, by omega⟩ ⟨by omega, by omega⟩ ⟨by omega, by omega⟩ ⟨by omega, by omega⟩ (hcell (by omega) kM) (hcell (by omega) kN) hl (fun a ha => by have := hal a ha; omega) hch.vt hll hvu⟩ hv)
  have KM := Lib.hid kM; have KN := Lib.hid kN; have HBW := Lib.hid hbW
  rw [show (cqA R n).all (fun r => inB6 C n m r) = outB6 R C n m from rfl] at CC
  unfold hasR
  clear hr hnum hv o1 o2 o3 o4 b1 b2 b3 b4 d2 d3 hW1 hW2 hW3 hW4 hbW kM kN
  generalize outB6 R C n m = B at CC ⊢
  go_enter Try.func58, Try.ntmps58
  go_wp2_with fail
  rw [HW.out]
  have kM := KM.out
  have kN := KN.out
  go_wp2_with fail
  refine CC.out.mono ?_
  rintro e w2 ⟨rfl, ⟨⟨a1, n1, c1, p1⟩, ⟨a2, n2, c2, p2⟩⟩, hf⟩
  have k1 := p1.cell? (i := 0) rfl
  have k2 := p2.cell? (i := 0) rfl
  have HB2 := Lib.hid (show Below h w w2 from HBW.out.trans (hf.below (by omega) (fun q hq e => by rcases e with e | e <;> omega)))
  clear p1 p2 hf kM kN
  go_wp2_with fail
  go_quiet (fail)
  go_wp2_with fail
  exact bodyPost_ret (v := .tuple #[.slice a1 n1 c1, .slice a2 n2 c2, .bool (!B)]) (by simp [results, Try.results58, go_sem]) rfl ⟨_, _, rfl, by rw [hh]; exact bdrewN HB2.out _⟩

set_option maxHeartbeats 3200000 in
set_option maxRecDepth 100000 in
theorem tropicalRank_c (R C : Nat) (ad : Option Addr) (cap : Nat) (m : Nat → Nat → Int) (w : World) (hr : RdM w ad (toG R C m)) (hR : 1 ≤ R ∧ R ≤ 6) (hC : 1 ≤ C ∧ C ≤ 6) (hnum : ∀ a b, a < R → b < C → numB (m a b) = true) :
    Calls Try.prog 37 #[.slice ad R cap] w fun e w' => e = .returned (.int .i64 ((rkF R C m (min R C) : Nat) : Int)) ∧ Below w.heap.size w w' := by
  have CF := Lib.hid (fun n (hn : 1 ≤ n ∧ n ≤ 6) u (hb : Below w.heap.size w u) => firstRegular_c R C n ad cap m u (hr.below hb) hR hC hn hnum)
  obtain ⟨bM, oM, rfl, hbM, hrow⟩ := hr.rowG (by omega) (by omega)
  obtain ⟨b2, o2, c2, e2, hl2, hc2⟩ := hrow 0 (by omega)
  rw [Nat.add_zero] at e2
  have y0 : 0 < R := by omega
  have HS := Lib.hid (fun n => show rkF R C m (n + 1) = if hasR R C (n + 1) m = true then n + 1 else rkF R C m n from rfl)
  have H0 := Lib.hid (show rkF R C m 0 = 0 from rfl)
  obtain ⟨D, hD⟩ : ∃ D, rkF R C m (min R C) = D := ⟨_, rfl⟩
  rw [hD]
  have hcs : (C < R ∧ min R C = C) ∨ (¬ C < R ∧ min R C = R) := by omega
  clear hr hnum hrow hc2
  rcases hcs with ⟨hcr, he⟩ | ⟨hcr, he⟩
  all_goals
    rw [he] at hD
    have HD := Lib.hid hD
    clear hD he
    go_enter Try.func37, Try.ntmps37
    go_wp2_with fail
    go_loopw [3] (fun v wr => ∃ t : Nat, t ≤ 6 ∧ v = .int .i64 t ∧ rkF R C m t = D ∧ Below w.heap.size w wr) (fun v _ => (intOf v).toNat)
    case atStart => exact ⟨_, by omega, rfl, HD.out, Below.refl _ _⟩
    case round =>
      obtain ⟨wE, rfl⟩ : ∃ x : World, x = wr := ⟨_, rfl⟩
      obtain ⟨t, ht, rfl, hrk, hbel⟩ := hrel
      clear HD e2
      by_cases h0 : t = 0
      case pos =>
        subst h0
        have HE := Lib.hid (show D = 0 by rw [← hrk, H0.out])
        clear hrk
        go_wp2_with fail
        go_ret
        exact ⟨by rw [HE.out]; rfl, hbel⟩
      case neg =>
        obtain ⟨q, hq⟩ : ∃ q, t = q + 1 := ⟨t - 1, by omega⟩
        have hst := HS.out q
        rw [← hq, hrk] at hst
        have C2 := Lib.hid (CF.out t (by omega) wE hbel)
        have e1 : IntKind.i64.wrap ((t : Int) - 1) = (q : Int) := by rw [i64_small (by omega) (by omega)]; omega
        obtain ⟨B, hB⟩ : ∃ B, hasR R C t m = B := ⟨_, rfl⟩
        rw [hB] at C2 hst
        have hqt : q < t := by omega
        have hq6 : q ≤ 6 := by omega
        clear hrk hB hq
        cases B
        · have HST := Lib.hid (show rkF R C m q = D by rw [hst]; simp)
          clear hst
          go_wp2_with fail
          refine C2.out.mono ?_
          rintro e w2 ⟨v1, v2, rfl, hb2⟩
          have hb3 := ball hbel hb2
          go_wp2_with fail
          go_roundw
          case rel => exact ⟨q, hq6, by go_num, HST.out, hb3⟩
          case measure => simp [intOf]; omega
        · have HST := Lib.hid (show D = t by rw [hst]; simp)
          clear hst
          go_wp2_with fail
          refine C2.out.mono ?_
          rintro e w2 ⟨v1, v2, rfl, hb2⟩
          have hb3 := ball hbel hb2
          go_wp2_with fail
          go_ret
          exact ⟨by rw [HST.out]; rfl, hb3⟩

/-! ### the rank of a matrix that was drawn -/
def colN (M : List (List Int)) : Nat := (M.getD 0 []).length
theorem mat_facts {M : List (List Int)} (h : matB M = true) : (1 ≤ M.length ∧ M.length ≤ 6) ∧ (1 ≤ colN M ∧ colN M ≤ 6) ∧ (∀ i, i < M.length → (M.getD i []).length = colN M) ∧ (∀ a b, a < M.length → b < colN M → numB (entM M a b) = true) ∧ toG M.length (colN M) (entM M) = M := by
  unfold matB at h
  rw [Bool.and_eq_true, List.all_eq_true] at h
  obtain ⟨h1, h2⟩ := h
  have h1 := inB_t.1 h1
  have hrow : ∀ i, i < M.length → vecB (M.getD i []) = true ∧ (M.getD i []).length = colN M := fun i hi => by
    have h3 := h2 (M.getD i []) (by rw [List.getD_eq_getElem?_getD, List.getElem?_eq_getElem hi, Option.getD_some]; exact List.getElem_mem hi)
    rw [Bool.and_eq_true, decide_eq_true_eq] at h3
    exact h3
  have hv := (hrow 0 (by omega)).1
  unfold vecB at hv
  rw [Bool.and_eq_true] at hv
  have hc := inB_t.1 hv.1
  refine ⟨by omega, by unfold colN; omega, fun i hi => (hrow i hi).2, fun a b ha hb => ?_, ?_⟩
  · obtain ⟨g1, g2⟩ := hrow a ha
    unfold vecB at g1
    rw [Bool.and_eq_true, List.all_eq_true] at g1
    unfold entM
    exact g1.2 _ (getD_memI (by omega))
  · refine List.ext_getElem? fun i => ?_
    by_cases hi : i < M.length
    · unfold toG
      rw [tab_get hi, List.getElem?_eq_getElem hi]
      congr 1
      refine List.ext_getElem? fun j => ?_
      have hl := (hrow i hi).2
      rw [List.getD_eq_getElem?_getD, List.getElem?_eq_getElem hi, Option.getD_some] at hl
      by_cases hj : j < colN M
      · rw [tab_get hj, List.getElem?_eq_getElem (by omega)]
        unfold entM
        simp [List.getD_eq_getElem?_getD, hi, hl, hj]
      · rw [List.getElem?_eq_none (by rw [tab_length]; omega), List.getElem?_eq_none (by omega)]
    · rw [List.getElem?_eq_none (by rw [toG_len]; omega), List.getElem?_eq_none (by omega)]
/-- the tropical rank of a matrix. -/
def trk (M : List (List Int)) : Nat := rkF M.length (colN M) (entM M) (min M.length (colN M))
theorem tropR_c (ad : Option Addr) (cap : Nat) (M : List (List Int)) (w : World) (hr : RdM w ad M) (h : matB M = true) :
    Calls Try.prog 37 #[.slice ad M.length cap] w fun e w' => e = .returned (.int .i64 ((trk M : Nat) : Int)) ∧ Below w.heap.size w w' := by
  obtain ⟨h1, h2, _, h4, h5⟩ := mat_facts h
  exact tropicalRank_c M.length (colN M) ad cap (entM M) w (by rw [h5]; exact hr) h1 h2 h4

set_option maxHeartbeats 800000 in
theorem iTropicalRank_c (ad : Option Addr) (cap : Nat) (M : List (List Int)) (w : World) (hr : RdM w ad M) (hl : smM M) :
    Calls Try.prog 19 #[.slice ad M.length cap] w fun e w' => e = .returned (pairV (if matB M = true then (trk M : Int) else 0) (matB M)) ∧ Below w.heap.size w w' := by
  have C1 := Lib.hid (isMatrix_c ad cap M w hr (by have := hl.1; omega) (fun i hi => by have := hl.2 i hi; omega))
  have C2 := Lib.hid (fun (h : matB M = true) u (hb : Below w.heap.size w u) => tropR_c ad cap M u (hr.below hb) h)
  unfold pairV
  clear hr hl
  generalize matB M = B at C1 C2 ⊢
  generalize trk M = T at C2 ⊢
  generalize M.length = n at C1 C2 ⊢
  cases B
  · clear C2
    go_enter Try.func19, Try.ntmps19
    go_wp2_with fail
    refine C1.out.mono ?_
    rintro e w1 ⟨rfl, hb1⟩
    go_wp2_with fail
    exact bodyPost_ret (v := .tuple #[.int .i64 0, .bool false]) (by simp [results, Try.results19, go_sem]) rfl ⟨rfl, hb1⟩
  · go_enter Try.func19, Try.ntmps19
    go_wp2_with fail
    refine C1.out.mono ?_
    rintro e w1 ⟨rfl, hb1⟩
    go_wp2_with fail
    refine (C2.out (by first | rfl | trivial) _ hb1).mono ?_
    rintro e w2 ⟨rfl, hb2⟩
    have hb3 := ball hb1 hb2
    go_wp2_with fail
    exact bodyPost_ret (v := .tuple #[.int .i64 (T : Int), .bool true]) (by simp [results, Try.results19, go_sem]) rfl ⟨rfl, hb3⟩
end Go.Proofs.Ytnbenpalneodlaa
