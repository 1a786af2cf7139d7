/-
  The reference's costs of an assignment, its best assignments. By an AI agent.
-/
import Derived.Test.YtjlkgioinogbkaaAsL
namespace Go.Proofs.Ytjlkgioinogbkaa
open Go.RowKit

set_option maxHeartbeats 3200000 in
set_option maxRecDepth 100000 in
theorem asCost_c (n : Nat) (ad : Option Addr) (cap : Nat) (m : Nat → Nat → Int) (adw : Option Addr) (capw : Nat) (l : List Int) (w : World) (hr : RdM w ad (toM n m)) (hw : RdI w adw l) (hn : 1 ≤ n ∧ n ≤ 6) (hl : l.length = n) (hv : vtB n l = true) (hnum : ∀ a b, a < n → b < n → numB (m a b) = true) :
    Calls Try.prog 44 #[.slice ad n cap, .slice adw n capw] w fun e w' => e = .returned (.int .i64 (smN (fun i => m i (vx l i)) n)) ∧ Below w.heap.size w w' := by
  have HVT := Lib.hid (fun t (ht : t < n) => vt_at hv (t := t) (by omega))
  have HBD := Lib.hid (fun t (ht : t ≤ n) => smN_bd (f := fun i => m i (vx l i)) (K := 1000000000) (t := t) (fun i hi => by
    have h1 := (HVT.out i (by omega)).2
    have := numB_t (hnum i (vx l i) (by omega) h1)
    omega))
  have HR := Lib.hid hr; have HP := Lib.hid hw; have HNUM := Lib.hid hnum
  have HS := Lib.hid (fun t => show smN (fun i => m i (vx l i)) (t + 1) = smN (fun i => m i (vx l i)) t + m t (vx l t) from rfl)
  have HN := Lib.hid hl
  clear hr hw hv hnum hl
  go_enter Try.func44, Try.ntmps44
  go_wp2_with fail
  go_loopw [5, 10] (fun v i wr => ∃ s : Nat, s ≤ n ∧ i = .int .i64 s ∧ v = .int .i64 (smN (fun i => m i (vx l i)) s) ∧ Below w.heap.size w wr) (fun _ i _ => n - (intOf i).toNat)
  case atStart => exact ⟨0, Nat.zero_le _, rfl, rfl, Below.refl _ _⟩
  case round =>
    obtain ⟨wE, rfl⟩ : ∃ x : World, x = wr := ⟨_, rfl⟩
    obtain ⟨s, hs, rfl, rfl, hbel⟩ := hrel
    by_cases hls : s < n
    case neg =>
      obtain rfl : s = n := by omega
      go_wp2_with fail
      go_ret
      exact ⟨rfl, hbel⟩
    case pos =>
      have hco := HS.out s
      obtain ⟨v1, u1⟩ := HVT.out s hls
      obtain ⟨bp, op, rfl, hbp, q1⟩ := HP.out s (by have := HN.out; omega)
      rw [v1] at q1
      have q1 := bcell hbel hbp q1
      have hm := numB_t (HNUM.out _ _ hls u1)
      have hbd := HBD.out s hs
      obtain ⟨bM, oM, rfl, hbM, hrow⟩ := HR.out.rowF (by omega)
      obtain ⟨b2, o2, c2, e2, hl2, hc2⟩ := hrow _ hls
      have e2 := bcell hbel hbM e2
      have k1 := bcell hbel hl2 (hc2 _ u1)
      clear hrow hc2 v1
      generalize smN (fun i => m i (vx l i)) s = C at hbd hco ⊢
      generalize vx l s = a at q1 u1 k1 hco hm
      generalize m s a = D at k1 hco hm
      have x1 : (0 : Int) ≤ (s : Int) := by omega
      have x2 : (s : Int) < (n : Int) := by omega
      have x5 : (0 : Int) ≤ (a : Int) := by omega
      have x6 : (a : Int) < (n : Int) := by omega
      have eC : IntKind.i64.wrap (C + D) = C + D := i64_small (by omega) (by omega)
      have HCO := Lib.hid hco
      clear hco hbd hm
      go_wp2_with fail
      go_roundw
      case rel => exact ⟨s + 1, by omega, by go_num, by rw [HCO.out, ← eC], hbel⟩
      case measure => simp [intOf]; omega

theorem abR_a {m : Nat → Nat → Int} {s : List (List Int) × Int} {c : List Int} (h : (decide (s.1.length = 0) || decide (costP m c < s.2)) = true) : abR m s c = ([c], costP m c) := by
  unfold abR
  rw [if_pos h]
  simp
theorem abR_b {m : Nat → Nat → Int} {s : List (List Int) × Int} {c : List Int} (h : (decide (s.1.length = 0) || decide (costP m c < s.2)) = false) (h2 : costP m c = s.2) : abR m s c = (s.1 ++ [c], s.2) := by
  unfold abR
  simp only [h, Bool.false_eq_true, if_false]
  rw [if_pos (decide_eq_true h2)]
theorem abR_c {m : Nat → Nat → Int} {s : List (List Int) × Int} {c : List Int} (h : (decide (s.1.length = 0) || decide (costP m c < s.2)) = false) (h2 : costP m c ≠ s.2) : abR m s c = s := by
  unfold abR
  simp only [h, Bool.false_eq_true, if_false]
  rw [if_neg (by simpa using h2)]
theorem abR_len (m : Nat → Nat → Int) (s : List (List Int) × Int) (c : List Int) : (abR m s c).1.length ≤ s.1.length + 1 := by
  cases h : (decide (s.1.length = 0) || decide (costP m c < s.2)) with
  | true => rw [abR_a h]; simp
  | false =>
    by_cases h2 : costP m c = s.2
    · rw [abR_b h h2]; simp
    · rw [abR_c h h2]; omega
theorem MatL.at {w : World} {R B : Nat} {ad : Option Addr} {n cap : Nat} {M : List (List Int)} {vs : List Value} (h : MatL w R B (.slice ad n cap) M vs) {i : Nat} (hi : i < M.length) : ∃ g a c, ad = some ⟨g, 0, none⟩ ∧ g < w.heap.size ∧ w.cell? ⟨g, i, none⟩ = some (.slice a (M.getD i []).length c) ∧ CellO w B (.slice a (M.getD i []).length c) (M.getD i []) := by
  rcases Own.of_row h.row with ⟨_, h0, _⟩ | ⟨g, cap', h1, hB, _, _, ho⟩
  · omega
  · injection h1 with h1 _ _
    subst h1
    have hi' : i < vs.length := by rw [h.len]; exact hi
    have hc : w.cell? ⟨g, i, none⟩ = some (vs.getD i undef) := ho.cell? (by simp [List.getD, hi'])
    have he := h.each i hi
    obtain ⟨a, c, e, _⟩ := he
    have hr := h.each i hi
    rw [e] at hc hr
    exact ⟨g, a, c, rfl, ho.lt, hc, hr⟩
theorem aslA_row {n : Nat} {m : Nat → Nat → Int} (hm : ∀ a b, a < n → b < n → numB (m a b) = true) (hn : 1 ≤ n ∧ n ≤ 6) {k : Nat} (hk : k < (aslA n m).length) : Ndp n ((aslA n m).getD k []) ∧ ((aslA n m).getD k []).length = n ∧ smN (fun i => m i (vx ((aslA n m).getD k []) i)) n = costP m ((aslA n m).getD k []) := by
  have h1 : (aslA n m).getD k [] ∈ aslA n m := by
    rw [List.getD_eq_getElem?_getD, List.getElem?_eq_getElem hk, Option.getD_some]
    exact List.getElem_mem hk
  generalize (aslA n m).getD k [] = c at h1
  rw [aslA_eq, List.mem_filter] at h1
  obtain ⟨h2, h3⟩ := h1
  obtain ⟨h4, h5⟩ := prmA_mem.1 h2
  refine ⟨h4, h5, ?_⟩
  rcases (prm_cost hm hn h4 h5).2 with ⟨h6, _⟩ | ⟨_, _, h6, _⟩
  · rw [h3] at h6; cases h6
  · exact h6.symm
theorem fold_take {m : Nat → Nat → Int} {L : List (List Int)} {k : Nat} (hk : k < L.length) (s : List (List Int) × Int) : (L.take (k + 1)).foldl (abR m) s = abR m ((L.take k).foldl (abR m) s) (L.getD k []) := by
  rw [takeM_snoc _ _ hk, List.foldl_append]
  rfl

def BsR (n : Nat) (m : Nat → Nat → Int) (w : World) (e : Ending) (w' : World) : Prop := ∃ ad cap, e = .returned (.tuple #[.slice ad (asR n m).1.length cap, .int .i64 (asR n m).2]) ∧ (∃ vs, MatL w' w.heap.size w.heap.size (.slice ad (asR n m).1.length cap) (asR n m).1 vs) ∧ Below w.heap.size w w'

set_option maxHeartbeats 6400000 in
set_option maxRecDepth 100000 in
theorem asBest_c (n : Nat) (ad : Option Addr) (cap : Nat) (m : Nat → Nat → Int) (w : World) (hr : RdM w ad (toM n m)) (hn : 1 ≤ n ∧ n ≤ 6) (hnum : ∀ a b, a < n → b < n → numB (m a b) = true) :
    Calls Try.prog 29 #[.slice ad n cap] w (BsR n m w) := by
  have CA := Lib.hid (asAll_c n ad cap m w hr hn n [] none 0 w w.heap.size hn.2 (Ndp.nil n) (by simp) ⟨none, 0, rfl, Nat.le_refl _, Or.inl ⟨rfl, rfl⟩⟩ (Nat.le_refl _) (Below.refl _ _))
  rw [show asl n m n [] = aslA n m from rfl, List.length_nil] at CA
  have HRO := Lib.hid (fun k (hk : k < (aslA n m).length) => aslA_row hnum hn hk)
  have CC := Lib.hid (fun u adw capw l (hb : Below w.heap.size w u) (hl : RdI u adw l) (hp : Ndp n l) (hle : l.length = n) => asCost_c n ad cap m adw capw l u (hr.below hb) hl hn hle hp.vt hnum)
  have HFO := Lib.hid (fun k (hk : k < (aslA n m).length) => fold_take (m := m) hk ([], 0))
  have HAL := Lib.hid (show (aslA n m).length ≤ 100000 from by
    have h1 := asl_len (m := m) hn.2 n []
    have h2 := pow6 hn.2
    have : (aslA n m).length = (asl n m n []).length := rfl
    omega)
  have HLE := Lib.hid (show ∀ k, ((List.take k (aslA n m)).foldl (abR m) ([], 0)).1.length ≤ k from fun k => by
    induction k with
    | zero => simp
    | succ k ih =>
      by_cases hk : k < (aslA n m).length
      · rw [HFO.out k hk]
        have := abR_len m ((List.take k (aslA n m)).foldl (abR m) ([], 0)) ((aslA n m).getD k [])
        omega
      · rw [List.take_of_length_le (by omega)]
        rw [List.take_of_length_le (by omega)] at ih
        omega)
  have HEN := Lib.hid (show (List.take (aslA n m).length (aslA n m)).foldl (abR m) ([], 0) = asR n m by rw [List.take_length]; rfl)
  unfold BsR
  generalize asR n m = R at HEN ⊢
  generalize aslA n m = L at CA HRO HFO HAL HLE HEN
  obtain ⟨K, hK⟩ : ∃ K, L.length = K := ⟨_, rfl⟩
  unfold AllR at CA
  rw [hK] at CA HRO HFO HAL HEN
  have HK := Lib.hid hK
  clear hr hnum hK
  go_enter Try.func29, Try.ntmps29
  go_wp2_with fail
  refine CA.out.mono ?_
  rintro e w1 ⟨ad1, cap1, rfl, ⟨vs, hml⟩, hb1⟩
  have HML := Lib.hid hml
  have hs1 := hb1.size
  clear hml
  go_wp2_with fail
  go_loopw [4, 5, 12] (fun v x i wr => ∃ (k : Nat) (us : List Value), k ≤ K ∧ i = .int .i64 k ∧ x = .int .i64 ((L.take k).foldl (abR m) ([], 0)).2 ∧ MatL wr w1.heap.size w.heap.size v ((L.take k).foldl (abR m) ([], 0)).1 us ∧ Below w1.heap.size w1 wr) (fun _ _ i _ => K - (intOf i).toNat)
  case atStart => exact ⟨0, [], Nat.zero_le _, rfl, rfl, MatL.nil _ _ _, Below.refl _ _⟩
  case round =>
    obtain ⟨wE, rfl⟩ : ∃ x : World, x = wr := ⟨_, rfl⟩
    obtain ⟨k, us, hk, rfl, rfl, hmo, hbel⟩ := hrel
    obtain ⟨ad2, cap2, rfl, _⟩ := hmo.shape
    by_cases hlt : k < K
    case neg =>
      obtain rfl : k = K := by omega
      rw [HEN.out] at hmo ⊢
      have HMO := Lib.hid (hmo.mono hs1 (Nat.le_refl _))
      have hb9 := ball hb1 hbel
      clear hmo
      go_wp2_with fail
      refine bodyPost_ret (v := .tuple #[.slice ad2 R.1.length cap2, .int .i64 R.2]) (by simp [results, Try.results29, go_sem]) rfl ?_
      exact ⟨_, _, rfl, ⟨_, HMO.out⟩, hb9⟩
    case pos =>
      obtain ⟨g1, ar, cr, rfl, hg1, c1, hce⟩ := HML.out.at (i := k) (by rw [HK.out]; exact hlt)
      obtain ⟨hnd, hle, hcs⟩ := HRO.out k hlt
      have hfo := HFO.out k hlt
      have hln := HLE.out k
      rw [hle] at c1 hce
      have e3 := bcell hbel hg1 c1
      have HCE := Lib.hid (hce.below hbel)
      have hwE := ball hb1 hbel
      have CST := Lib.hid (CC.out wE ar cr _ hwE (by
        have h4 := hce
        rw [← hle] at h4
        exact h4.rd.below hbel) hnd hle)
      have HNL := Lib.hid hle
      rw [hcs] at CST
      generalize L.getD k [] = C at hfo HCE CST HNL
      have HMO := Lib.hid hmo
      obtain ⟨s, hs⟩ : ∃ s, (L.take k).foldl (abR m) ([], 0) = s := ⟨_, rfl⟩
      rw [hs] at hfo hln HMO ⊢
      have HFK := Lib.hid hfo
      have x1 : (0 : Int) ≤ (k : Int) := by omega
      have x2 : (k : Int) < (K : Int) := by omega
      have hszE := hbel.size
      clear hmo hs hfo hce hnd hle hcs c1
      obtain ⟨so, sl⟩ := s
      simp only at hln HMO HFK ⊢
      by_cases hA : (decide (so.length = 0) || decide (costP m C < sl)) = true
      · rw [abR_a (s := (so, sl)) hA] at HFK
        obtain ⟨X, hX⟩ : ∃ X, costP m C = X := ⟨_, rfl⟩
        obtain ⟨q, hq⟩ : ∃ q, so.length = q := ⟨_, rfl⟩
        have gX : (X == X) = true := beq_self_eq_true _
        have hKb := HAL.out
        rw [hX] at CST hA HFK
        rw [hq] at hA hln HMO ⊢
        clear hX hq
        by_cases hq0 : q = 0
        · subst hq0
          have g2 : (((0 : Nat) : Int) == 0) = true := rfl
          clear hA
          go_wp2_with fail
          refine CST.out.mono ?_
          rintro e w3 ⟨rfl, hb3⟩
          have HONE := Lib.hid (MatL.one w3 w1.heap.size w.heap.size (.slice ar n cr) C (HCE.out.below hb3) (Nat.le_trans hszE hb3.size))
          have hb4 := ball hbel hb3
          have hb5 := bal_alloc (o := .cells #[.slice ar n cr] 26) hb4
          have hs5 := hb5.size
          go_wp2_with (at_builtin; refine wpList_appL rfl _ _ rfl w1.heap.size w1.heap.size w.heap.size (.slice none 0 0) _ [] [C] [] _ 1 rfl rfl rfl (MatL.nil _ _ _) HONE.out (by simp) (by simp) hs5 ?_; intro ad9 cap9 w9 hml9 hbm9)
          have HM9 := Lib.hid hml9
          have hb9 := hb5.trans hbm9
          clear hml9
          go_roundw
          case rel => exact ⟨k + 1, _, by omega, by go_num, by rw [HFK.out], by rw [HFK.out]; exact HM9.out, hb9⟩
          case measure => simp [intOf]; omega
        · have g2 : ((q : Int) == 0) = false := beq_eq_false_iff_ne.2 (by omega)
          have hlt2 : X < sl := by
            rcases Bool.or_eq_true_iff.1 hA with h | h
            · exact absurd (of_decide_eq_true h) hq0
            · exact of_decide_eq_true h
          have g4 : decide (X < sl) = true := decide_eq_true hlt2
          clear hA
          go_wp2_with fail
          refine CST.out.mono ?_
          rintro e w3 ⟨rfl, hb3⟩
          have HONE := Lib.hid (MatL.one w3 w1.heap.size w.heap.size (.slice ar n cr) C (HCE.out.below hb3) (Nat.le_trans hszE hb3.size))
          have hb4 := ball hbel hb3
          have hb5 := bal_alloc (o := .cells #[.slice ar n cr] 26) hb4
          have hs5 := hb5.size
          go_wp2_with (at_builtin; refine wpList_appL rfl _ _ rfl w1.heap.size w1.heap.size w.heap.size (.slice none 0 0) _ [] [C] [] _ 1 rfl rfl rfl (MatL.nil _ _ _) HONE.out (by simp) (by simp) hs5 ?_; intro ad9 cap9 w9 hml9 hbm9)
          have HM9 := Lib.hid hml9
          have hb9 := hb5.trans hbm9
          clear hml9
          go_roundw
          case rel => exact ⟨k + 1, _, by omega, by go_num, by rw [HFK.out], by rw [HFK.out]; exact HM9.out, hb9⟩
          case measure => simp [intOf]; omega
      · have hA' := Bool.eq_false_iff.2 hA
        have HB := Lib.hid (fun h => abR_b (m := m) (s := (so, sl)) (c := C) hA' h)
        have HC := Lib.hid (fun h => abR_c (m := m) (s := (so, sl)) (c := C) hA' h)
        obtain ⟨X, hX⟩ : ∃ X, costP m C = X := ⟨_, rfl⟩
        obtain ⟨q, hq⟩ : ∃ q, so.length = q := ⟨_, rfl⟩
        obtain ⟨N3, hN3⟩ : ∃ N3, so.length + [C].length = N3 := ⟨_, rfl⟩
        have HN3 := Lib.hid hN3
        have hKb := HAL.out
        have hq5 : so.length ≤ 100000 := by have := HAL.out; omega
        have HQ := Lib.hid hq
        rw [hX] at CST hA'
        rw [hq] at hA' hln HMO ⊢
        rw [Bool.or_eq_false_iff] at hA'
        obtain ⟨hA1, hA2⟩ := hA'
        have hq0 := of_decide_eq_false hA1
        have g2 : ((q : Int) == 0) = false := beq_eq_false_iff_ne.2 (by omega)
        clear hA hA1 hN3 hq
        by_cases hE : X = sl
        · rw [HB.out (by rw [hX]; exact hE)] at HFK
          subst hE
          have gX : (X == X) = true := beq_self_eq_true _
          clear hX HB HC
          go_wp2_with fail
          refine CST.out.mono ?_
          rintro e w3 ⟨rfl, hb3⟩
          have HM3 := Lib.hid ((HMO.out.below hb3).below (bal_alloc (o := .cells #[.slice ar n cr] 26) (Below.refl _ _)))
          have HONE := Lib.hid (MatL.one w3 w1.heap.size w.heap.size (.slice ar n cr) C (HCE.out.below hb3) (Nat.le_trans hszE hb3.size))
          have hb4 := ball hbel hb3
          have hb5 := bal_alloc (o := .cells #[.slice ar n cr] 26) hb4
          have hs5 := hb5.size
          go_wp2_with (at_builtin; refine wpList_appL rfl _ _ rfl w1.heap.size w1.heap.size w.heap.size (.slice ad2 q cap2) _ so [C] us _ N3 HN3.out rfl rfl HM3.out HONE.out hq5 (by simp) hs5 ?_; intro ad9 cap9 w9 hml9 hbm9)
          have HM9 := Lib.hid hml9
          have hb9 := hb5.trans hbm9
          clear hml9
          go_roundw
          case rel => exact ⟨k + 1, _, by omega, by go_num, by rw [HFK.out], by rw [HFK.out]; exact HM9.out, hb9⟩
          case measure => simp [intOf]; omega
        · rw [HC.out (by rw [hX]; exact hE)] at HFK
          have gX : (X == sl) = false := beq_eq_false_iff_ne.2 hE
          clear hX HB HC
          go_wp2_with fail
          refine CST.out.mono ?_
          rintro e w3 ⟨rfl, hb3⟩
          have HM3 := Lib.hid (HMO.out.below hb3)
          have hb4 := ball hbel hb3
          go_wp2_with fail
          go_roundw
          case rel => exact ⟨k + 1, us, by omega, by go_num, by rw [HFK.out], by rw [HFK.out]; exact HM3.out, hb4⟩
          case measure => simp [intOf]; omega
end Go.Proofs.Ytjlkgioinogbkaa
