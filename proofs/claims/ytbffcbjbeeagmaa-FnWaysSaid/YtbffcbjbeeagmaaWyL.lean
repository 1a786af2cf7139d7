/-
  Ways in a matrix: whether lists are ways, and what they cost; the program's. By an AI agent.
-/
import Derived.Test.YtbffcbjbeeagmaaWyK
namespace Go.Proofs.Ytbffcbjbeeagmaa
open Go.RowKit

/-! ### plain -/
def vtB (n : Nat) (l : List Int) : Bool := allB l 0 ((n : Int) - 1)
def vx (l : List Int) (t : Nat) : Nat := (l.getD t 0).toNat
def coF (m : Nat → Nat → Int) (l : List Int) : Nat → Int
  | 0 => 0
  | t + 1 => prodZ (coF m l t) (m (vx l t) (vx l (t + 1)))
def stB (m : Nat → Nat → Int) (l : List Int) : Nat → Bool
  | 0 => true
  | t + 1 => stB m l t && !decide (m (vx l t) (vx l (t + 1)) = 1000000000)
def wayB (n : Nat) (m : Nat → Nat → Int) (l : List Int) : Bool := inB l.length 1 20 && (vtB n l && stB m l (l.length - 1))
theorem vt_at {n : Nat} {l : List Int} (h : vtB n l = true) {t : Nat} (ht : t < l.length) : l.getD t 0 = (vx l t : Int) ∧ vx l t < n := by
  have := allB_t.1 h t ht
  unfold vx
  omega
theorem co_bd {n : Nat} {m : Nat → Nat → Int} {l : List Int} (hm : ∀ a b, a < n → b < n → numB (m a b) = true) (hv : vtB n l = true) (hl : l.length ≤ 900) : ∀ t, t < l.length → (stB m l t = false ∧ coF m l t = 1000000000) ∨ (stB m l t = true ∧ -(1000000 * (t : Int)) ≤ coF m l t ∧ coF m l t ≤ 1000000 * (t : Int))
  | 0, _ => Or.inr ⟨rfl, by simp [coF]⟩
  | t + 1, ht => by
    have ih := co_bd hm hv hl t (by omega)
    have h1 := (vt_at hv (t := t) (by omega)).2
    have h2 := (vt_at hv ht).2
    have h3 := numB_t (hm _ _ h1 h2)
    unfold stB coF
    by_cases e : m (vx l t) (vx l (t + 1)) = 1000000000
    · left
      rw [e]
      refine ⟨by simp, prodZ_inf (Or.inr rfl)⟩
    · rcases ih with ⟨i1, i2⟩ | ⟨i1, i2, i3⟩
      · left
        rw [i1, i2]
        exact ⟨by simp, prodZ_inf (Or.inl rfl)⟩
      · by_cases e2 : coF m l t = 1000000000
        · omega
        · right
          rw [i1, prodZ_fin e2 e]
          refine ⟨by simp [e], by omega, by omega⟩

set_option maxHeartbeats 1600000 in
theorem indexV (fid : FuncId) (c1 : Value) (p : Int → Bool) (ad : Option Addr) (cap : Nat) (xs : List Int) (w : World) (hl : xs.length ≤ 1048576) (hr : RdI w ad xs)
    (hcf : ∀ (xa : Array Value) (w : World), (callFunc fid xa).run Try.prog w = .ok (.enter fid xa) w) (hf : ∀ x ∈ xs, ∀ w2, Below w.heap.size w w2 → Calls Try.prog fid #[.int .i64 x, c1] w2 fun e w' => e = .returned (.bool (p x)) ∧ Below w2.heap.size w2 w') :
    Calls Try.prog 116 #[.slice ad xs.length cap, .func (Fn.func fid) #[] #[c1]] w fun e w' => (∃ r : Int, e = .returned (.int .i64 r) ∧ ((0 ≤ r ∧ xs.any p = true) ∨ (r = -1 ∧ xs.any p = false))) ∧ Below w.heap.size w w' := by
  have HR := Lib.hid hr; clear hr
  have HF := Lib.hid hf; clear hf
  go_enter Try.func116, Try.ntmps116
  go_wp2_with fail
  go_loopw [8] (fun i wr => ∃ k : Nat, k ≤ xs.length ∧ i = .int .i64 k ∧ (∀ j, j < k → p (xs.getD j 0) = false) ∧ Below w.heap.size w wr) (fun i _ => xs.length - (intOf i).toNat)
  case atStart => exact ⟨0, Nat.zero_le _, rfl, fun j hj => by omega, Below.refl _ _⟩
  case round =>
    obtain ⟨k, hk, rfl, hj, hbel⟩ := hrel
    obtain ⟨wo, rfl⟩ : ∃ wo : World, wo = wr := ⟨_, rfl⟩
    have HJ := Lib.hid hj; clear hj
    by_cases hlt : k < xs.length
    · obtain ⟨b, off, rfl, hb, cc⟩ := HR.out k hlt
      have dd := bcell hbel hb cc
      have hxm : xs.getD k 0 ∈ xs := by simp [List.getD, hlt]
      have hff := HF.out _ hxm _ hbel
      have x1 : (0 : Int) ≤ (k : Int) := by omega
      have x2 : (k : Int) < (xs.length : Int) := by omega
      obtain ⟨x, hx⟩ : ∃ x, xs.getD k 0 = x := ⟨_, rfl⟩
      rw [hx] at dd hff hxm
      have HX := Lib.hid hx; have HXM := Lib.hid hxm; clear hx hxm cc
      have HFF := Lib.hid hff; clear hff
      by_cases h1 : p x = true
      · go_wp2_with fail
        refine HFF.out.mono ?_
        rw [h1]
        rintro e w' ⟨rfl, hw'⟩
        go_wp2_with fail
        go_ret
        exact ⟨⟨k, rfl, Or.inl ⟨by omega, List.any_eq_true.2 ⟨x, HXM.out, h1⟩⟩⟩, ball hbel hw'⟩
      · have h1' := Bool.eq_false_iff.2 h1
        go_wp2_with fail
        refine HFF.out.mono ?_
        rw [h1']
        rintro e w' ⟨rfl, hw'⟩
        go_wp2_with fail
        go_roundw
        case rel =>
          refine ⟨k + 1, by omega, by go_num, fun j hj => ?_, ball hbel hw'⟩
          by_cases e : j = k
          · subst e; rw [HX.out]; exact h1'
          · exact HJ.out j (by omega)
        case measure => simp [intOf]; omega
    · have he : k = xs.length := by omega
      subst he
      go_wp2_with fail
      go_ret
      refine ⟨⟨-1, rfl, Or.inr ⟨rfl, ?_⟩⟩, hbel⟩
      rw [List.any_eq_false]
      intro x hx
      obtain ⟨j, hj, rfl⟩ := List.getElem_of_mem hx
      have := HJ.out j hj
      simpa [List.getD, hj] using this
set_option maxHeartbeats 400000 in
set_option maxRecDepth 100000 in
theorem containsV (fid : FuncId) (c1 : Value) (p : Int → Bool) (ad : Option Addr) (cap : Nat) (xs : List Int) (w : World) (hl : xs.length ≤ 1048576) (hr : RdI w ad xs)
    (hcf : ∀ (xa : Array Value) (w : World), (callFunc fid xa).run Try.prog w = .ok (.enter fid xa) w) (hf : ∀ x ∈ xs, ∀ w2, Below w.heap.size w w2 → Calls Try.prog fid #[.int .i64 x, c1] w2 fun e w' => e = .returned (.bool (p x)) ∧ Below w2.heap.size w2 w') :
    Calls Try.prog 94 #[.slice ad xs.length cap, .func (Fn.func fid) #[] #[c1]] w fun e w' => e = .returned (.bool (xs.any p)) ∧ Below w.heap.size w w' := by
  go_enter Try.func94, Try.ntmps94
  go_wp2_with fail
  refine (indexV fid c1 p ad cap xs w hl hr hcf hf).mono ?_
  rintro e w' ⟨⟨r, rfl, hr1⟩, hw'⟩
  have HA := Lib.hid hr1; clear hr1
  by_cases h0 : 0 ≤ r
  · go_wp2
    go_ret
    exact ⟨ret_bool (by rcases HA.out with h | h; exact h.2.symm; omega), hw'⟩
  · have h0' : r < 0 := by omega
    go_wp2
    go_ret
    exact ⟨ret_bool (by rcases HA.out with h | h; omega; rw [h.2]; simp; omega), hw'⟩

set_option maxHeartbeats 800000 in
set_option maxRecDepth 100000 in
theorem areVertices1_c (b0 : Nat) (adm : Option Addr) (N capm : Nat) (x : Int) (w : World) (hN : N ≤ 1048576) (k1 : w.cell? ⟨b0, 0, none⟩ = some (.slice adm N capm)) :
    Calls Try.prog 95 #[.int .i64 x, .pointer (some ⟨b0, 0, none⟩)] w fun e w' => e = .returned (.bool (!inB x 0 ((N : Int) - 1))) ∧ Below w.heap.size w w' := by
  have C1 := Lib.hid (fun w => within_any x 0 ((N : Int) - 1) w)
  obtain ⟨M, hM⟩ : ∃ M, (N : Int) - 1 = M := ⟨_, rfl⟩
  have e1 : IntKind.i64.wrap ((N : Int) - 1) = M := by rw [i64_small (by omega) (by omega)]; exact hM
  rw [hM] at C1 ⊢
  clear hM
  generalize inB x 0 M = V at C1 ⊢
  clear hN
  go_enter Try.func95, Try.ntmps95
  go_wp2_with fail
  refine (C1.out _).mono ?_
  rintro e w1 ⟨rfl, rfl⟩
  go_wp2_with fail
  go_ret
  exact ⟨rfl, Below.refl _ _⟩
set_option maxHeartbeats 1600000 in
set_option maxRecDepth 100000 in
theorem areVertices_c (adm : Option Addr) (N capm : Nat) (ad : Option Addr) (cap : Nat) (l : List Int) (w : World) (hN : N ≤ 1048576) (hl : l.length ≤ 1048576) (hr : RdI w ad l) :
    Calls Try.prog 41 #[.slice adm N capm, .slice ad l.length cap] w fun e w' => e = .returned (.bool (vtB N l)) ∧ Below w.heap.size w w' := by
  have hb0 : Below w.heap.size w (w.alloc (.cells #[.slice adm N capm] 24)) := (Below.refl _ _).alloc (Nat.le_refl _) _
  have CC := Lib.hid (fun (b0 : Nat) (u : World) (hb : Below w.heap.size w u) (hc : u.cell? ⟨b0, 0, none⟩ = some (.slice adm N capm)) => containsV 95 (.pointer (some ⟨b0, 0, none⟩)) (fun x => !inB x 0 ((N : Int) - 1)) ad cap l u hl (hr.below hb)
      (callFunc_plainM Try.func95 (by kernel_rfl) (by kernel_rfl)) (fun x _ w2 hb2 => areVertices1_c b0 adm N capm x w2 hN (by rw [bcell' hb2 hc])))
  obtain ⟨V, hV⟩ : ∃ V, vtB N l = V := ⟨_, rfl⟩
  have hany : (!(l.any fun x => !inB x 0 ((N : Int) - 1))) = V := by
    rw [← hV]
    unfold vtB allB
    rw [List.any_eq_not_all_not, Bool.not_not]
    congr 1
    funext r
    rw [Bool.not_not]
  rw [hV]
  generalize (l.any fun x => !inB x 0 ((N : Int) - 1)) = A at CC hany
  obtain rfl : A = !V := by rw [← hany, Bool.not_not]
  clear hV hr hany
  go_enter Try.func41, Try.ntmps41
  have k1 : (w.alloc (.cells #[.slice adm N capm] 24)).cell? ⟨w.heap.size, 0, none⟩ = some (.slice adm N capm) := by simp [go_sem]
  go_wp2_with fail
  refine (CC.out _ _ hb0 k1).mono ?_
  rintro e w2 ⟨rfl, hb2⟩
  cases V
  all_goals
    go_wp2_with fail
    go_ret
    exact ⟨rfl, hb0.trans (hb2.mono hb0.size)⟩

set_option maxHeartbeats 1600000 in
set_option maxRecDepth 100000 in
theorem costOfSteps_c (n : Nat) (ad : Option Addr) (cap : Nat) (m : Nat → Nat → Int) (adw : Option Addr) (capw : Nat) (l : List Int) (w : World) (hr : RdM w ad (toM n m)) (hw : RdI w adw l) (hn : 1 ≤ n ∧ n ≤ 6) (hl : 1 ≤ l.length ∧ l.length ≤ 20) (hv : vtB n l = true) (hnum : ∀ a b, a < n → b < n → numB (m a b) = true) :
    Calls Try.prog 51 #[.slice ad n cap, .slice adw l.length capw] w fun e w' => e = .returned (.int .i64 (coF m l (l.length - 1))) ∧ Below w.heap.size w w' := by
  have HBD := Lib.hid (co_bd hnum hv (by omega))
  have HVT := Lib.hid (fun t (ht : t < l.length) => vt_at hv ht)
  have HR := Lib.hid hr; have HP := Lib.hid hw; have HNUM := Lib.hid hnum
  have HS := Lib.hid (fun t => show coF m l (t + 1) = prodZ (coF m l t) (m (vx l t) (vx l (t + 1))) from rfl)
  clear hr hw hv hnum
  obtain ⟨N, hN⟩ : ∃ N, l.length = N := ⟨_, rfl⟩
  have HN := Lib.hid hN
  rw [hN] at hl HBD HVT ⊢
  clear hN
  go_enter Try.func51, Try.ntmps51
  go_wp2_with fail
  go_loopw [5, 6] (fun v i wr => ∃ s : Nat, 1 ≤ s ∧ s ≤ N ∧ i = .int .i64 s ∧ v = .int .i64 (coF m l (s - 1)) ∧ Below w.heap.size w wr) (fun _ i _ => N - (intOf i).toNat)
  case atStart => exact ⟨1, Nat.le_refl _, hl.1, rfl, rfl, Below.refl _ _⟩
  case round =>
    obtain ⟨wE, rfl⟩ : ∃ x : World, x = wr := ⟨_, rfl⟩
    obtain ⟨s, hs1, hs, rfl, rfl, hbel⟩ := hrel
    by_cases hls : s < N
    case neg =>
      obtain rfl : s = N := by omega
      go_wp2_with fail
      go_ret
      exact ⟨rfl, hbel⟩
    case pos =>
      obtain ⟨t, ht⟩ : ∃ t, s - 1 = t := ⟨_, rfl⟩
      have hst : s = t + 1 := by omega
      have hco := HS.out t
      rw [← hst] at hco
      rw [ht]
      obtain ⟨v1, u1⟩ := HVT.out t (by omega)
      obtain ⟨v2, u2⟩ := HVT.out s hls
      obtain ⟨bp, op, rfl, hbp, q1⟩ := HP.out t (by have := HN.out; omega)
      have q2 := HP.out.at (j := s) (by have := HN.out; omega)
      rw [v1] at q1
      rw [v2] at q2
      have q1 := bcell hbel hbp q1
      have q2 := bcell hbel hbp q2
      have hm := numB_t (HNUM.out _ _ u1 u2)
      have hbd := HBD.out t (by omega)
      obtain ⟨bM, oM, rfl, hbM, hrow⟩ := HR.out.rowF (by omega)
      obtain ⟨b2, o2, c2, e2, hl2, hc2⟩ := hrow _ u1
      have e2 := bcell hbel hbM e2
      have k1 := bcell hbel hl2 (hc2 _ u2)
      clear hrow hc2 v1 v2 ht
      generalize coF m l t = C at hbd hco ⊢
      generalize vx l t = a at q1 u1 e2 k1 hco hm
      generalize vx l s = b at q2 u2 k1 hco hm
      generalize m a b = D at k1 hco hm
      have x1 : (0 : Int) ≤ (s : Int) := by omega
      have x2 : (s : Int) < (N : Int) := by omega
      have x3 : (0 : Int) ≤ (t : Int) := by omega
      have x4 : (t : Int) < (N : Int) := by omega
      have x5 : (0 : Int) ≤ (a : Int) := by omega
      have x6 : (a : Int) < (n : Int) := by omega
      have x7 : (0 : Int) ≤ (b : Int) := by omega
      have x8 : (b : Int) < (n : Int) := by omega
      have e1 : IntKind.i64.wrap ((s : Int) - 1) = (t : Int) := by rw [i64_small (by omega) (by omega)]; omega
      have CP := Lib.hid (fun w => product_c C D w (by omega))
      have HCO := Lib.hid hco
      generalize prodZ C D = P at CP HCO
      clear hco hbd hm
      have HST := Lib.hid hst
      clear hst
      go_wp2_with fail
      go_quiet ((go_at_call 45; exact Calls.quiet_of_same ((CP.out _).mono (fun e w' h => ⟨h.1, h.2.symm⟩))))
      go_wp2_with fail
      go_roundw
      case rel => exact ⟨s + 1, by omega, by omega, by go_num, by rw [Nat.add_sub_cancel, HCO.out], bdrewN hbel _⟩
      case measure => simp [intOf]; omega

end Go.Proofs.Ytbffcbjbeeagmaa
