/-
  Column classes and bounds of ranks, as told: the program's and the reference's. By an AI agent.
-/
import Derived.Test.YtnbenpalneodlaaRkN
namespace Go.Proofs.Ytnbenpalneodlaa
open Go.RowKit

def trM (m : Nat → Nat → Int) (k i : Nat) : Int := m i k
/-- the classes of the columns of a matrix. -/
def ccL (M : List (List Int)) : List (List Int) := clsL (alM M.length (entM M)) (colN M)
/-- those of its rows. -/
def crL (M : List (List Int)) : List (List Int) := clsL (alM (colN M) (trM (entM M))) M.length
def hiN (M : List (List Int)) : Nat := min (ccL M).length (crL M).length
def MaR (B : Bool) (L : List (List Int)) (w : World) (e : Ending) (w' : World) : Prop := ∃ ad cap, e = .returned (.tuple #[.slice ad (if B = true then L else []).length cap, .bool B]) ∧ RdM w' ad (if B = true then L else []) ∧ Below w.heap.size w w'
theorem MaR.no {L : List (List Int)} {w w' : World} (hb : Below w.heap.size w w') : MaR false L w (.returned (.tuple #[.slice none 0 0, .bool false])) w' := ⟨none, 0, rfl, (fun i hi => by simp at hi), hb⟩
theorem MaR.yes {L : List (List Int)} {w w' : World} {a : Option Addr} {c : Nat} (h : RdM w' a L) (hb : Below w.heap.size w w') : MaR true L w (.returned (.tuple #[.slice a L.length c, .bool true])) w' := ⟨a, c, rfl, h, hb⟩

set_option maxHeartbeats 800000 in
theorem iColumnClasses_c (ad : Option Addr) (cap : Nat) (M : List (List Int)) (w : World) (hr : RdM w ad M) (hl : smM M) :
    Calls Try.prog 16 #[.slice ad M.length cap] w (MaR (matB M) (ccL M) w) := by
  have C1 := Lib.hid (isMatrix_c ad cap M w hr (by have := hl.1; omega) (fun i hi => by have := hl.2 i hi; omega))
  have C2 := Lib.hid (fun (h : matB M = true) u (hb : Below w.heap.size w u) => by
    obtain ⟨h1, h2, _, h4, h5⟩ := mat_facts h
    exact columnClasses_c M.length (colN M) ad cap (entM M) u (by rw [h5]; exact hr.below hb) h1 h2 h4)
  unfold ClsR at C2
  rw [show clsL (alM M.length (entM M)) (colN M) = ccL M from rfl] at C2
  clear hr hl
  generalize matB M = B at C1 C2 ⊢
  generalize ccL M = T at C2 ⊢
  generalize M.length = n at C1 C2 ⊢
  cases B
  · clear C2
    go_enter Try.func16, Try.ntmps16
    go_wp2_with fail
    refine C1.out.mono ?_
    rintro e w1 ⟨rfl, hb1⟩
    go_wp2_with fail
    exact bodyPost_ret (v := .tuple #[.slice none 0 0, .bool false]) (by simp [results, Try.results16, go_sem]) rfl (MaR.no hb1)
  · go_enter Try.func16, Try.ntmps16
    go_wp2_with fail
    refine C1.out.mono ?_
    rintro e w1 ⟨rfl, hb1⟩
    go_wp2_with fail
    refine (C2.out (by first | rfl | trivial) _ hb1).mono ?_
    rintro e w2 ⟨a2, c2, rfl, hrd, hb2⟩
    have HRD := Lib.hid hrd
    have hb3 := ball hb1 hb2
    clear hrd
    go_wp2_with fail
    exact bodyPost_ret (v := .tuple #[.slice a2 T.length c2, .bool true]) (by simp [results, Try.results16, go_sem]) rfl (MaR.yes HRD.out hb3)
set_option maxHeartbeats 800000 in
theorem sColumnClasses_c (ad : Option Addr) (cap : Nat) (M : List (List Int)) (w : World) (hr : RdM w ad M) (hl : smM M) :
    Calls Try.prog 17 #[.slice ad M.length cap] w (MaR (matB M) (ccL M) w) := by
  have C1 := Lib.hid (mxGood_c ad cap M w hr (by have := hl.1; omega) (fun i hi => by have := hl.2 i hi; omega))
  have C2 := Lib.hid (fun (h : matB M = true) => by
    obtain ⟨h1, h2, _, h4, h5⟩ := mat_facts h
    exact rkClasses_c M.length (colN M) ad cap (entM M) w (by rw [h5]; exact hr) h1 h2 h4)
  unfold ClsR at C2
  rw [show clsL (alM M.length (entM M)) (colN M) = ccL M from rfl] at C2
  clear hr hl
  generalize matB M = B at C1 C2 ⊢
  generalize ccL M = T at C2 ⊢
  generalize M.length = n at C1 C2 ⊢
  cases B
  · clear C2
    go_enter Try.func17, Try.ntmps17
    go_wp2_with fail
    refine C1.out.mono ?_
    rintro e w1 ⟨rfl, rfl⟩
    go_wp2_with fail
    exact bodyPost_ret (v := .tuple #[.slice none 0 0, .bool false]) (by simp [results, Try.results17, go_sem]) rfl (MaR.no (Below.refl _ _))
  · go_enter Try.func17, Try.ntmps17
    go_wp2_with fail
    refine C1.out.mono ?_
    rintro e w1 ⟨rfl, rfl⟩
    go_wp2_with fail
    refine (C2.out (by first | rfl | trivial)).mono ?_
    rintro e w2 ⟨a2, c2, rfl, hrd, hb2⟩
    have HRD := Lib.hid hrd
    clear hrd
    go_wp2_with fail
    exact bodyPost_ret (v := .tuple #[.slice a2 T.length c2, .bool true]) (by simp [results, Try.results17, go_sem]) rfl (MaR.yes HRD.out hb2)

def FbR (B : Bool) (T N : Nat) (w : World) (e : Ending) (w' : World) : Prop := e = .returned (.tuple #[.int .i64 (if B = true then (T : Int) else 0), .int .i64 (if B = true then (N : Int) else 0), .bool B]) ∧ Below w.heap.size w w'
theorem FbR.no {T N : Nat} {w w' : World} (hb : Below w.heap.size w w') : FbR false T N w (.returned (.tuple #[.int .i64 0, .int .i64 0, .bool false])) w' := ⟨rfl, hb⟩
theorem FbR.yes {T N : Nat} {w w' : World} (hb : Below w.heap.size w w') : FbR true T N w (.returned (.tuple #[.int .i64 (T : Int), .int .i64 (N : Int), .bool true])) w' := ⟨rfl, hb⟩
theorem cls_len6 {R C : Nat} (m : Nat → Nat → Int) (h : C ≤ 6) : (clsL (alM R m) C).length ≤ 6 := Nat.le_trans (clsL_ok (alM R m) C).len h

set_option maxHeartbeats 1600000 in
set_option maxRecDepth 100000 in
theorem iFactorBounds_c (ad : Option Addr) (cap : Nat) (M : List (List Int)) (w : World) (hr : RdM w ad M) (hl : smM M) :
    Calls Try.prog 14 #[.slice ad M.length cap] w (FbR (matB M) (trk M) (hiN M) w) := by
  have C1 := Lib.hid (isMatrix_c ad cap M w hr (by have := hl.1; omega) (fun i hi => by have := hl.2 i hi; omega))
  have C2 := Lib.hid (fun (h : matB M = true) u (hb : Below w.heap.size w u) => tropR_c ad cap M u (hr.below hb) h)
  have C3 := Lib.hid (fun (h : matB M = true) u (hb : Below w.heap.size w u) => by
    obtain ⟨h1, h2, _, h4, h5⟩ := mat_facts h
    exact columnClasses_c M.length (colN M) ad cap (entM M) u (by rw [h5]; exact hr.below hb) h1 h2 h4)
  have C4 := Lib.hid (fun (h : matB M = true) u (hb : Below w.heap.size w u) => by
    obtain ⟨h1, h2, _, h4, h5⟩ := mat_facts h
    exact transposedG_c M.length (colN M) ad cap (entM M) u (by rw [h5]; exact hr.below hb) h1 h2)
  have C5 := Lib.hid (fun (h : matB M = true) ad' cap' u (hu : RdM u ad' (toG (colN M) M.length (trM (entM M)))) => by
    obtain ⟨h1, h2, _, h4, _⟩ := mat_facts h
    exact columnClasses_c (colN M) M.length ad' cap' (trM (entM M)) u hu h2 h1 (fun a b ha hb => h4 b a hb ha))
  have HF := Lib.hid (fun (h : matB M = true) => mat_facts h)
  unfold ClsR at C3 C5
  unfold hiN
  rw [show clsL (alM M.length (entM M)) (colN M) = ccL M from rfl] at C3
  rw [show clsL (alM (colN M) (trM (entM M))) M.length = crL M from rfl] at C5
  clear hr hl
  obtain ⟨B, hB⟩ : ∃ B, matB M = B := ⟨_, rfl⟩
  rw [hB] at C1 C2 C3 C4 C5 HF ⊢
  generalize trk M = T at C2 ⊢
  cases B
  · clear C2 C3 C4 C5 HF
    generalize M.length = n at C1 ⊢
    go_enter Try.func14, Try.ntmps14
    go_wp2_with fail
    refine C1.out.mono ?_
    rintro e w1 ⟨rfl, hb1⟩
    go_wp2_with fail
    exact bodyPost_ret (v := .tuple #[.int .i64 0, .int .i64 0, .bool false]) (by simp [results, Try.results14, go_sem]) rfl (FbR.no hb1)
  · obtain ⟨_, hcn, _, _, _⟩ := HF.out rfl
    have D2 := Lib.hid (C2.out rfl); have D3 := Lib.hid (C3.out rfl); have D4 := Lib.hid (C4.out rfl); have D5 := Lib.hid (C5.out rfl)
    obtain ⟨p, hp⟩ : ∃ p, (ccL M).length = p := ⟨_, rfl⟩
    obtain ⟨q, hq⟩ : ∃ q, (crL M).length = q := ⟨_, rfl⟩
    rw [hp] at D3
    rw [hq] at D5
    rw [hp, hq]
    rw [show (fun i => tab M.length fun j => entM M j i) = (fun i => tab M.length (trM (entM M) i)) from rfl] at D4
    generalize ccL M = L1 at D3
    generalize crL M = L2 at D5
    generalize trM (entM M) = F at D4 D5
    obtain ⟨hmn, _⟩ := HF.out rfl
    clear C2 C3 C4 C5 HF hB hp hq
    generalize M.length = n at C1 D2 D3 D4 D5 hmn ⊢
    generalize colN M = cN at D4 D5 hcn
    go_enter Try.func14, Try.ntmps14
    go_wp2_with fail
    refine C1.out.mono ?_
    rintro e w1 ⟨rfl, hb1⟩
    go_wp2_with fail
    refine (D2.out _ hb1).mono ?_
    rintro e w2 ⟨rfl, hb2⟩
    have hc2 := ball hb1 hb2
    go_wp2_with fail
    refine (D3.out _ hc2).mono ?_
    rintro e w3 ⟨a3, c3, rfl, _, hb3⟩
    have hc3 := ball hc2 hb3
    go_wp2_with fail
    refine (D4.out _ hc3).mono ?_
    rintro e w4 ⟨g4, rfl, ⟨ts, htr⟩, hb4⟩
    have hc4 := ball hc3 hb4
    have E5 := Lib.hid (D5.out (some ⟨g4, 0, none⟩) cN w4 (htr.rdG (by omega)))
    clear htr
    go_wp2_with fail
    refine E5.out.mono ?_
    rintro e w5 ⟨a5, c5, rfl, _, hb5⟩
    have hc5 := ball hc4 hb5
    rcases Nat.lt_trichotomy p q with hpq | hpq | hpq
    · have hm : min p q = p := by omega
      have hz : ¬ q < p := by omega
      go_wp2_with fail
      exact bodyPost_ret (v := .tuple #[.int .i64 (T : Int), .int .i64 (p : Int), .bool true]) (by simp [results, Try.results14, go_sem]) rfl (by rw [hm]; exact FbR.yes hc5)
    · subst hpq
      have hm : min p p = p := Nat.min_self p
      have hz : ¬ p < p := Nat.lt_irrefl p
      go_wp2_with fail
      exact bodyPost_ret (v := .tuple #[.int .i64 (T : Int), .int .i64 (p : Int), .bool true]) (by simp [results, Try.results14, go_sem]) rfl (by rw [hm]; exact FbR.yes hc5)
    · have hm : min p q = q := by omega
      have hz : ¬ p < q := by omega
      go_wp2_with fail
      exact bodyPost_ret (v := .tuple #[.int .i64 (T : Int), .int .i64 (q : Int), .bool true]) (by simp [results, Try.results14, go_sem]) rfl (by rw [hm]; exact FbR.yes hc5)

set_option maxHeartbeats 1600000 in
set_option maxRecDepth 100000 in
theorem sFactorBounds_c (ad : Option Addr) (cap : Nat) (M : List (List Int)) (w : World) (hr : RdM w ad M) (hl : smM M) :
    Calls Try.prog 15 #[.slice ad M.length cap] w (FbR (matB M) (trk M) (hiN M) w) := by
  have C1 := Lib.hid (mxGood_c ad cap M w hr (by have := hl.1; omega) (fun i hi => by have := hl.2 i hi; omega))
  have C2 := Lib.hid (fun (h : matB M = true) => rkRankR_c ad cap M w hr h)
  have C3 := Lib.hid (fun (h : matB M = true) u (hb : Below w.heap.size w u) => by
    obtain ⟨h1, h2, _, h4, h5⟩ := mat_facts h
    exact rkClasses_c M.length (colN M) ad cap (entM M) u (by rw [h5]; exact hr.below hb) h1 h2 h4)
  have C4 := Lib.hid (fun (h : matB M = true) u (hb : Below w.heap.size w u) => by
    obtain ⟨h1, h2, _, h4, h5⟩ := mat_facts h
    exact mxTurn_c M.length (colN M) ad cap (entM M) u (by rw [h5]; exact hr.below hb) h1 h2)
  have C5 := Lib.hid (fun (h : matB M = true) ad' cap' u (hu : RdM u ad' (toG (colN M) M.length (trM (entM M)))) => by
    obtain ⟨h1, h2, _, h4, _⟩ := mat_facts h
    exact rkClasses_c (colN M) M.length ad' cap' (trM (entM M)) u hu h2 h1 (fun a b ha hb => h4 b a hb ha))
  unfold ClsR at C3 C5
  unfold hiN
  rw [show clsL (alM M.length (entM M)) (colN M) = ccL M from rfl] at C3
  rw [show clsL (alM (colN M) (trM (entM M))) M.length = crL M from rfl] at C5
  rw [show (fun k i => entM M i k) = trM (entM M) from rfl] at C4
  clear hr hl
  obtain ⟨B, hB⟩ : ∃ B, matB M = B := ⟨_, rfl⟩
  rw [hB] at C1 C2 C3 C4 C5 ⊢
  generalize trk M = T at C2 ⊢
  cases B
  · clear C2 C3 C4 C5
    generalize M.length = n at C1 ⊢
    go_enter Try.func15, Try.ntmps15
    go_wp2_with fail
    refine C1.out.mono ?_
    rintro e w1 ⟨rfl, rfl⟩
    go_wp2_with fail
    exact bodyPost_ret (v := .tuple #[.int .i64 0, .int .i64 0, .bool false]) (by simp [results, Try.results15, go_sem]) rfl (FbR.no (Below.refl _ _))
  · have D2 := Lib.hid (C2.out rfl); have D3 := Lib.hid (C3.out rfl); have D4 := Lib.hid (C4.out rfl); have D5 := Lib.hid (C5.out rfl)
    obtain ⟨p, hp⟩ : ∃ p, (ccL M).length = p := ⟨_, rfl⟩
    obtain ⟨q, hq⟩ : ∃ q, (crL M).length = q := ⟨_, rfl⟩
    rw [hp] at D3
    rw [hq] at D5
    rw [hp, hq]
    have CL := Lib.hid (fun w => l1Least_n (p : Int) (q : Int) w)
    have hmin : leastZ (p : Int) (q : Int) = ((min p q : Nat) : Int) := by unfold leastZ; split <;> omega
    rw [hmin] at CL
    generalize min p q = N at CL ⊢
    generalize ccL M = L1 at D3
    generalize crL M = L2 at D5
    generalize trM (entM M) = F at D4 D5
    clear C2 C3 C4 C5 hB hp hq hmin
    generalize M.length = n at C1 D2 D3 D4 D5 ⊢
    generalize colN M = cN at D4 D5
    go_enter Try.func15, Try.ntmps15
    go_wp2_with fail
    refine C1.out.mono ?_
    rintro e w1 ⟨rfl, rfl⟩
    go_wp2_with fail
    refine D2.out.mono ?_
    rintro e w2 ⟨rfl, hc2⟩
    go_wp2_with fail
    refine (D3.out _ hc2).mono ?_
    rintro e w3 ⟨a3, c3, rfl, _, hb3⟩
    have hc3 := ball hc2 hb3
    go_wp2_with fail
    refine (D4.out _ hc3).mono ?_
    rintro e w4 ⟨a4, c4, rfl, htr, hb4⟩
    have hc4 := ball hc3 hb4
    have E5 := Lib.hid (D5.out a4 c4 w4 htr)
    clear htr
    go_wp2_with fail
    refine E5.out.mono ?_
    rintro e w5 ⟨a5, c5, rfl, _, hb5⟩
    have hc5 := ball hc4 hb5
    go_wp2_with fail
    refine (CL.out _).mono ?_
    rintro e w' ⟨rfl, rfl⟩
    go_wp2_with fail
    exact bodyPost_ret (v := .tuple #[.int .i64 (T : Int), .int .i64 (N : Int), .bool true]) (by simp [results, Try.results15, go_sem]) rfl (FbR.yes hc5)
end Go.Proofs.Ytnbenpalneodlaa
