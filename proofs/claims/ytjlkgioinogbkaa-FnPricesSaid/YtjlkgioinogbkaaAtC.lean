/-
  Some texts of this proof in one: AtC Big. Each part tells what it proves. By an AI agent.
-/
import Derived.Test.YtjlkgioinogbkaaAsJ
import Derived.Test.YtjlkgioinogbkaaLaws

/-
  Prices and best assignments: the plain facts of the law; the sum of a list. By an AI agent.
-/
namespace Go.Proofs.Ytjlkgioinogbkaa
open Go.RowKit

theorem all_finA {l : List Int} (h : l.all numB = true) (hb : ∀ i, i < l.length → l.getD i 0 ≤ 13000000) : l.all finB = true := by
  rw [List.all_eq_true] at h ⊢
  intro x hx
  obtain ⟨i, hi, rfl⟩ := List.getElem_of_mem hx
  have h1 := hb i hi
  rw [List.getD_eq_getElem?_getD, List.getElem?_eq_getElem hi, Option.getD_some] at h1
  rcases numB_t (h _ hx) with h2 | h2
  · exact inB_t.2 h2
  · omega
theorem ndp_asg {n : Nat} {a : List Int} (hl : a.length = n) (h : Ndp n a) : asgB n a = true := by
  unfold asgB
  rw [Bool.and_eq_true, decide_eq_true_eq]
  refine ⟨hl, ?_⟩
  have key : ∀ t, t ≤ a.length → ndF n a t = true := by
    intro t
    induction t with
    | zero => exact fun _ => rfl
    | succ t ih =>
      intro ht
      have h1 := vt_at h.vt (t := t) (by omega)
      unfold ndF
      simp only [Bool.and_eq_true, Bool.not_eq_true']
      refine ⟨ih (by omega), inB_t.2 (by omega), ?_⟩
      cases hc : (a.take t).contains (a.getD t 0) with
      | false => rfl
      | true =>
        exfalso
        rw [List.contains_iff_mem] at hc
        obtain ⟨i, hi, e⟩ := List.getElem_of_mem hc
        rw [List.length_take] at hi
        have h2 := h.nd i t (by omega) (by omega)
        refine h2 ?_
        unfold vx
        rw [List.getElem_take] at e
        rw [← e, List.getD_eq_getElem?_getD, List.getElem?_eq_getElem (by omega), Option.getD_some]
  exact key _ (Nat.le_refl _)
theorem bsB_of_rp {M : List (List Int)} (h : rpB M = true) : bsB M = true ∧ (rpL M).all numB = true := by
  unfold rpB at h; rw [Bool.and_eq_true] at h; exact h
theorem rpL_bd {M : List (List Int)} (h : bsB M = true) {i : Nat} (hi : i < M.length) : (rpL M).getD i 0 = prU M.length (entM M) (bsL M) i ∧ -12000000 ≤ (rpL M).getD i 0 ∧ (rpL M).getD i 0 ≤ 0 := by
  unfold rpL
  rw [tab_getD hi]
  have := (bst_of h).1.U hi
  exact ⟨rfl, this⟩
theorem cpL_bd {M : List (List Int)} (h : bsB M = true) {i : Nat} (hi : i < M.length) : (cpL M).getD i 0 = prV M.length (entM M) (bsL M) i ∧ -1000000 ≤ (cpL M).getD i 0 ∧ (cpL M).getD i 0 ≤ 13000000 := by
  unfold cpL
  rw [tab_getD hi]
  have := (bst_of h).1.Vb hi
  exact ⟨rfl, this⟩
theorem pr_good {M : List (List Int)} (h1 : rpB M = true) (h2 : cpB M = true) :
    askP M (rpL M) (cpL M) = true ∧ prcB M (rpL M) (cpL M) = true ∧ pvX M (bsL M) (rpL M) (cpL M) = true ∧ pvB M (bsL M) (rpL M) (cpL M) = true ∧ lsm (rpL M) + lsm (cpL M) = bsC M := by
  obtain ⟨hb, hr⟩ := bsB_of_rp h1
  have hc : (cpL M).all numB = true := by unfold cpB at h2; rw [Bool.and_eq_true] at h2; exact h2.2
  obtain ⟨hB, hC⟩ := bst_of hb
  have hlr : (rpL M).length = M.length := tab_length _ _
  have hlc : (cpL M).length = M.length := tab_length _ _
  have hs : sqB M = true := by unfold bsB at hb; rw [Bool.and_eq_true] at hb; exact hb.1
  have g1 : askP M (rpL M) (cpL M) = true := by
    unfold askP oneP
    simp only [Bool.and_eq_true, decide_eq_true_eq]
    exact ⟨hs, ⟨hlr, all_finA hr fun i hi => by have := rpL_bd hb (i := i) (by omega); omega⟩, hlc, all_finA hc fun i hi => by have := cpL_bd hb (i := i) (by omega); omega⟩
  have g2 : prcQ M.length (entM M) (rpL M) (cpL M) = true := prcQ_t.2 fun i k hi hk => by
    rw [(rpL_bd hb hi).1, (cpL_bd hb hk).1]
    exact hB.prices hi hk
  have g3 : lsm (rpL M) + lsm (cpL M) = bsC M := by
    unfold lsm
    rw [hlr, hlc, smN_congr (g := prU M.length (entM M) (bsL M)) (fun i hi => (rpL_bd hb hi).1), smN_congr (g := prV M.length (entM M) (bsL M)) (fun i hi => (cpL_bd hb hi).1)]
    exact hB.sum.trans hC.symm
  have g4 : asgB M.length (bsL M) = true := ndp_asg hB.len hB.nd
  have g5 : pvX M (bsL M) (rpL M) (cpL M) = true := by
    unfold pvX
    rw [g1, g4, show finP (entM M) (bsL M) = true from hB.fin]
    rfl
  refine ⟨g1, by unfold prcB; rw [g1, g2]; rfl, g5, ?_, g3⟩
  unfold pvB
  rw [g5, g2, decide_eq_true (show lsm (rpL M) + lsm (cpL M) = costP (entM M) (bsL M) from g3.trans hC)]
  rfl
/-- what is proved is a best one. -/
theorem pv_best {M : List (List Int)} {a u v : List Int} (h : pvB M a u v = true) (hb : baB M = true) (hn : numB (costP (entM M) a) = true) : (if cgB M a = true then toldZ (costP (entM M) a) else 0) = if baB M = true then bsC M else 0 := by
  have hbs : bsB M = true := by unfold baB at hb; rw [Bool.and_eq_true] at hb; exact hb.1
  obtain ⟨hB, hC⟩ := bst_of hbs
  unfold pvB at h
  simp only [Bool.and_eq_true, decide_eq_true_eq] at h
  obtain ⟨h1, h2, h3⟩ := h
  unfold pvX at h1
  simp only [Bool.and_eq_true] at h1
  obtain ⟨h4, h5, h6⟩ := h1
  obtain ⟨hs, ho1, ho2⟩ := askP_t h4
  have l1 := (oneP_t ho1).1
  have l2 := (oneP_t ho2).1
  obtain ⟨g1, g2⟩ := asg_ndp h5
  have g3 := hB.opt a g2 g1 h6
  have g4 := weak_dual hB.num hB.n6 (u := fun i => u.getD i 0) (v := fun i => v.getD i 0) (fun i k hi hk => prcQ_t.1 h2 i k hi hk) hB.nd hB.len hB.fin
  have g5 : smN (fun i => u.getD i 0) M.length + smN (fun i => v.getD i 0) M.length = costP (entM M) a := by
    rw [← h3]; unfold lsm; rw [l1, l2]
  have hcg : cgB M a = true := by unfold cgB; rw [hs, h5, h6]; rfl
  rw [if_pos hcg, if_pos hb]
  unfold toldZ
  rw [if_pos hn]
  have g6 : costP (entM M) (bsL M) = bsC M := hC.symm
  have g7 : smN (fun i => u.getD i 0) M.length + smN (fun i => v.getD i 0) M.length ≤ costP (entM M) (bsL M) := g4
  have g8 : costP (entM M) (bsL M) ≤ costP (entM M) a := g3
  omega

theorem lsm_bd {l : List Int} {K : Int} (hb : ∀ i, i < l.length → -K ≤ l.getD i 0 ∧ l.getD i 0 ≤ K) : -(K * (l.length : Int)) ≤ lsm l ∧ lsm l ≤ K * (l.length : Int) := smN_bd hb
set_option maxHeartbeats 800000 in
theorem pSum_c (ad : Option Addr) (cap : Nat) (l : List Int) (w : World) (hr : RdI w ad l) (hl : l.length ≤ 1000) (hb : ∀ i, i < l.length → -2000000000 ≤ l.getD i 0 ∧ l.getD i 0 ≤ 2000000000) :
    Calls Try.prog 15 #[.slice ad l.length cap] w fun e w' => e = .returned (.int .i64 (lsm l)) ∧ w = w' := by
  have HR := Lib.hid hr; have HB := Lib.hid hb
  unfold lsm
  obtain ⟨n, hn⟩ : ∃ n, l.length = n := ⟨_, rfl⟩
  have HN := Lib.hid hn
  rw [hn] at hl HB ⊢
  have HBD := Lib.hid (fun t (ht : t ≤ n) => smN_bd (f := fun i => l.getD i 0) (K := 2000000000) (t := t) (fun i hi => HB.out i (by omega)))
  clear hr hb hn
  go_enter Try.func15, Try.ntmps15
  go_wp2_with fail
  go_loop [3, 8] (fun x i => ∃ k : Nat, k ≤ n ∧ i = .int .i64 k ∧ x = .int .i64 (smN (fun i => l.getD i 0) k)) (fun _ i => n - (intOf i).toNat)
  case atStart => exact ⟨0, Nat.zero_le _, rfl, rfl⟩
  case round =>
    obtain ⟨k, hk, rfl, rfl⟩ := hrel
    by_cases hlt : k < n
    · obtain ⟨b, off, rfl, hbb, c0⟩ := HR.out k (by rw [HN.out]; exact hlt)
      have h1 := HBD.out k hk
      have h2 := HB.out k hlt
      have HS := Lib.hid (show smN (fun i => l.getD i 0) (k + 1) = smN (fun i => l.getD i 0) k + l.getD k 0 from rfl)
      generalize smN (fun i => l.getD i 0) k = S at h1 HS ⊢
      generalize l.getD k 0 = X at c0 h2 HS
      have e1 : IntKind.i64.wrap (S + X) = S + X := i64_small (by omega) (by omega)
      have x1 : (0 : Int) ≤ (k : Int) := by omega
      have x2 : (k : Int) < (n : Int) := by omega
      clear h1 h2
      go_wp2
      go_round
      case rel => exact ⟨k + 1, by omega, by go_num, by rw [HS.out]⟩
      case measure => simp [intOf]; omega
    · obtain rfl : k = n := by omega
      go_wp2
      go_ret
      exact ⟨rfl, rfl⟩
set_option maxHeartbeats 800000 in
theorem sameI_c (ad : Option Addr) (cap : Nat) (ad' : Option Addr) (cap' : Nat) (xs : List Int) (w : World) (hl : xs.length ≤ 1048576) (hr : RdI w ad xs) (hr' : RdI w ad' xs) :
    Calls Try.prog 12 #[.slice ad xs.length cap, .slice ad' xs.length cap'] w fun e w' => e = .returned (.bool true) ∧ Below w.heap.size w w' := by
  have HR := Lib.hid hr; clear hr
  have HR' := Lib.hid hr'; clear hr'
  go_enter Try.func12, Try.ntmps12
  go_wp2_with fail
  go_loopw [13] (fun i wr => ∃ k : Nat, k ≤ xs.length ∧ i = .int .i64 k ∧ Below w.heap.size w wr) (fun i _ => xs.length - (intOf i).toNat)
  case atStart => exact ⟨0, Nat.zero_le _, rfl, Below.refl _ _⟩
  case round =>
    obtain ⟨k, hk, rfl, hbel⟩ := hrel
    by_cases hlt : k < xs.length
    · obtain ⟨b, off, rfl, hb, c⟩ := HR.out k hlt
      obtain ⟨b', off', rfl, hb', c'⟩ := HR'.out k hlt
      have d := bcell hbel hb c
      have d' := bcell hbel hb' c'
      clear c c'
      generalize xs.getD k 0 = x at d d'
      have x1 : (0 : Int) ≤ (k : Int) := by omega
      have x2 : (k : Int) < (xs.length : Int) := by omega
      go_wp2_with fail
      go_quiet (fail)
      go_wp2_with fail
      go_roundw
      case rel => exact ⟨k + 1, by omega, by go_num, bdrewN hbel _⟩
      case measure => simp [intOf]; omega
    · go_wp2_with fail
      go_ret
      exact ⟨rfl, hbel⟩
end Go.Proofs.Ytjlkgioinogbkaa

/-
  Whether the bytes of a law are too many.
-/
namespace Go.Proofs.Ytjlkgioinogbkaa
open Go.RowKit

def bigB (a b : Nat) : Bool := decide (1048576 < (a : Int)) || decide (1048576 - (a : Int) < (b : Int))
set_option maxHeartbeats 800000 in
theorem big_c (ad : Option Addr) (a cap : Nat) (ad' : Option Addr) (b cap' : Nat) (w : World) (ha : a ≤ 9223372036854775807) :
    Calls Try.prog 4 #[.slice ad a cap, .slice ad' b cap'] w fun e w' => e = .returned (.bool (bigB a b)) ∧ w = w' := by
  by_cases h1 : 1048576 < (a : Int)
  · have hd : bigB a b = true := by unfold bigB; simp [h1]
    have HD := Lib.hid hd; clear hd
    go_enter Try.func4, Try.ntmps4
    go_wp2_with fail
    go_ret
    exact ⟨ret_bool (by rw [HD.out]), rfl⟩
  · have h3 : bigB a b = decide (1048576 - (a : Int) < (b : Int)) := by unfold bigB; rw [decide_eq_false h1]; rfl
    have HD := Lib.hid h3; clear h3
    go_enter Try.func4, Try.ntmps4
    go_wp2_with fail
    go_ret
    exact ⟨ret_bool (by rw [HD.out]), rfl⟩

end Go.Proofs.Ytjlkgioinogbkaa
