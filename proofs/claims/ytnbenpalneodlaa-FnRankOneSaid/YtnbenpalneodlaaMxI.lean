/-
  Vectors, matrices, square ones: program and reference. Printed by gen_mxI.py.
-/
import Derived.Test.YtnbenpalneodlaaMxB
import Derived.Deep.QuietTactic
import Derived.Deep.RegionHeld3
namespace Go.Proofs.Ytnbenpalneodlaa
open Go.RowKit

def vecB (r : List Int) : Bool := inB r.length 1 6 && r.all numB
def matB (M : List (List Int)) : Bool := inB M.length 1 6 && M.all fun r => vecB r && decide (r.length = (M.getD 0 []).length)
def sqB (M : List (List Int)) : Bool := matB M && decide (M.length = (M.getD 0 []).length)
theorem natEq (n m : Nat) : ((n : Int) == (m : Int)) = decide (n = m) ∧ (n == m) = decide (n = m) ∧ ((n : Int) != (m : Int)) = !decide (n = m) ∧ (n != m) = !decide (n = m) := by
  by_cases h : n = m
  · subst h; simp
  · have h2 : ¬ (n : Int) = (m : Int) := by omega
    simp [h, h2, bne]
theorem getD_memI {l : List Int} {j : Nat} (h : j < l.length) : l.getD j 0 ∈ l := by
  rw [List.getD_eq_getElem?_getD, List.getElem?_eq_getElem h, Option.getD_some]
  exact List.getElem_mem _
theorem callFunc_plainM {P : Program} {f : FuncId} {fn : Func} (hf : P.funcs[f]? = some fn) (hname : (fn.name == "runtime.NumGoroutine") = false) (hb : fn.body.isNone = false) (args : Array Value) (w : World) :
    (callFunc f args).run P w = .ok (.enter f args) w := by
  have h1 : fn.name ≠ "runtime.NumGoroutine" := by simpa using hname
  have h2 : fn.body ≠ none := by intro q; rw [q] at hb; simp at hb
  simp [callFunc, hf, h1, h2]
theorem getD_memM {M : List (List Int)} {i : Nat} (h : i < M.length) : M.getD i [] ∈ M := by
  rw [List.getD_eq_getElem?_getD, List.getElem?_eq_getElem h, Option.getD_some]
  exact List.getElem_mem _
theorem allM_t {M : List (List Int)} {p : List Int → Bool} (h : ∀ j, j < M.length → p (M.getD j []) = true) : M.all p = true := by
  rw [List.all_eq_true]
  intro x hx
  obtain ⟨j, hj, rfl⟩ := List.getElem_of_mem hx
  have := h j hj
  simpa [List.getD, hj] using this
theorem allM_f {M : List (List Int)} {p : List Int → Bool} {j : Nat} (hj : j < M.length) (h : p (M.getD j []) = false) : M.all p = false := by
  rw [List.all_eq_false]
  exact ⟨_, getD_memM hj, by simpa using h⟩

set_option maxHeartbeats 800000 in
theorem isVector_c (ad : Option Addr) (cap : Nat) (r : List Int) (w : World) (hr : RdI w ad r) (hl : r.length ≤ 1048576) :
    Calls Try.prog 46 #[.slice ad r.length cap] w fun e w' => e = .returned (.bool (vecB r)) ∧ w = w' := by
  have C1 := Lib.hid (fun w => within_any r.length 1 6 w)
  have C2 := Lib.hid (areNumbers_c ad cap r w hr hl)
  clear hr
  unfold vecB
  generalize inB r.length 1 6 = a at C1 ⊢
  generalize r.all numB = b at C2 ⊢
  cases a
  · go_enter Try.func46, Try.ntmps46
    go_wp2_with fail
    refine (C1.out _).mono ?_
    rintro e w1 ⟨rfl, rfl⟩
    go_wp2_with fail
    go_ret
    exact ⟨rfl, rfl⟩
  · go_enter Try.func46, Try.ntmps46
    go_wp2_with fail
    refine (C1.out _).mono ?_
    rintro e w1 ⟨rfl, rfl⟩
    go_wp2_with fail
    refine C2.out.mono ?_
    rintro e w1 ⟨rfl, rfl⟩
    go_wp2_with fail
    go_ret
    exact ⟨rfl, rfl⟩
set_option maxHeartbeats 800000 in
theorem mxVector_c (ad : Option Addr) (cap : Nat) (r : List Int) (w : World) (hr : RdI w ad r) (hl : r.length ≤ 1048576) :
    Calls Try.prog 27 #[.slice ad r.length cap] w fun e w' => e = .returned (.bool (vecB r)) ∧ w = w' := by
  have HR := Lib.hid hr; clear hr
  obtain ⟨V, hV⟩ : ∃ V, vecB r = V := ⟨_, rfl⟩
  rw [hV]
  have HV := Lib.hid hV; clear hV
  go_enter Try.func27, Try.ntmps27
  go_wp2_with fail
  go_loop [7] (fun i => ∃ k : Nat, k ≤ r.length ∧ i = .int .i64 k ∧ ∀ j, j < k → numB (r.getD j 0) = true) (fun i => r.length - (intOf i).toNat)
  case atStart => exact ⟨0, Nat.zero_le _, rfl, fun j hj => by omega⟩
  case round =>
    obtain ⟨k, hk, rfl, hj⟩ := hrel
    have HJ := Lib.hid hj; clear hj
    by_cases hlt : k < r.length
    · obtain ⟨b, off, rfl, hb, cc⟩ := HR.out k hlt
      obtain ⟨x, hx⟩ : ∃ x, r.getD k 0 = x := ⟨_, rfl⟩
      rw [hx] at cc
      have HX := Lib.hid hx; clear hx
      have C1 := Lib.hid (fun w => nuGood_c x w)
      have x1 : (0 : Int) ≤ (k : Int) := by omega
      have x2 : (k : Int) < (r.length : Int) := by omega
      by_cases h1 : numB x = true
      · rw [h1] at C1
        go_wp2_with fail
        refine (C1.out _).mono ?_
        rintro e w1 ⟨rfl, rfl⟩
        go_wp2_with fail
        go_round
        case rel =>
          refine ⟨k + 1, by omega, by go_num, fun j hj => ?_⟩
          by_cases e : j = k
          · subst e; rw [HX.out]; exact h1
          · exact HJ.out j (by omega)
        case measure => simp [intOf]; omega
      · have h1' := Bool.eq_false_iff.2 h1
        rw [h1'] at C1
        obtain rfl : V = false := by
          rw [← HV.out]
          unfold vecB
          rw [show r.all numB = false by rw [List.all_eq_false]; exact ⟨r.getD k 0, by simp [List.getD, hlt], by rw [HX.out]; simpa using h1'⟩, Bool.and_false]
        go_wp2_with fail
        refine (C1.out _).mono ?_
        rintro e w1 ⟨rfl, rfl⟩
        go_wp2_with fail
        go_ret
        exact ⟨rfl, rfl⟩
    · obtain rfl : k = r.length := by omega
      have C1 := Lib.hid (fun w => l1In_any r.length 1 6 w)
      have e1 : inB r.length 1 6 = V := by
        rw [← HV.out]
        unfold vecB
        rw [show r.all numB = true by
          rw [List.all_eq_true]
          intro x hx
          obtain ⟨j, hj, rfl⟩ := List.getElem_of_mem hx
          have := HJ.out j hj
          simpa [List.getD, hj] using this, Bool.and_true]
      rw [e1] at C1
      go_wp2_with fail
      refine (C1.out _).mono ?_
      rintro e w1 ⟨rfl, rfl⟩
      go_wp2_with fail
      go_ret
      exact ⟨rfl, rfl⟩

set_option maxHeartbeats 1600000 in
theorem indexM0 (fid : FuncId) (p : List Int → Bool) (ad : Option Addr) (cap : Nat) (M : List (List Int)) (w : World) (hl : M.length ≤ 1048576) (hr : RdM w ad M)
    (hcf : ∀ (xa : Array Value) (w : World), (callFunc fid xa).run Try.prog w = .ok (.enter fid xa) w) (hf : ∀ i, i < M.length → ∀ a c w2, Below w.heap.size w w2 → RdI w2 a (M.getD i []) → Calls Try.prog fid #[.slice a (M.getD i []).length c] w2 fun e w' => e = .returned (.bool (p (M.getD i []))) ∧ Below w2.heap.size w2 w') :
    Calls Try.prog 63 #[.slice ad M.length cap, .func (Fn.func fid) #[] #[]] w fun e w' => (∃ r : Int, e = .returned (.int .i64 r) ∧ ((∃ k : Nat, r = (k : Int) ∧ k < M.length ∧ p (M.getD k []) = true ∧ ∀ j, j < k → p (M.getD j []) = false) ∨ (r = -1 ∧ M.any p = false))) ∧ Below w.heap.size w w' := by
  have HR := Lib.hid hr; clear hr
  have HF := Lib.hid hf; clear hf
  go_enter Try.func63, Try.ntmps63
  go_wp2_with fail
  go_loopw [8] (fun i wr => ∃ k : Nat, k ≤ M.length ∧ i = .int .i64 k ∧ (∀ j, j < k → p (M.getD j []) = false) ∧ Below w.heap.size w wr) (fun i _ => M.length - (intOf i).toNat)
  case atStart => exact ⟨0, Nat.zero_le _, rfl, fun j hj => by omega, Below.refl _ _⟩
  case round =>
    obtain ⟨k, hk, rfl, hj, hbel⟩ := hrel
    obtain ⟨wo, rfl⟩ : ∃ wo : World, wo = wr := ⟨_, rfl⟩
    have HJ := Lib.hid hj; clear hj
    by_cases hlt : k < M.length
    · obtain ⟨b, off, a, c, rfl, hb, cc, hri⟩ := HR.out k hlt
      have dd := bcell hbel hb cc
      have hff := HF.out k hlt a c _ hbel (hri.below hbel)
      have x1 : (0 : Int) ≤ (k : Int) := by omega
      have x2 : (k : Int) < (M.length : Int) := by omega
      obtain ⟨x, hx⟩ : ∃ x, M.getD k [] = x := ⟨_, rfl⟩
      rw [hx] at dd hff
      have HX := Lib.hid hx; clear hx cc hri
      obtain ⟨N, hN⟩ : ∃ n, x.length = n := ⟨_, rfl⟩
      rw [hN] at dd hff
      clear hN
      have HFF := Lib.hid hff; clear hff
      by_cases h1 : p x = true
      · go_wp2_with fail
        refine HFF.out.mono ?_
        rw [h1]
        rintro e w' ⟨rfl, hw'⟩
        go_wp2_with fail
        go_ret
        exact ⟨⟨k, rfl, Or.inl ⟨k, rfl, hlt, by rw [HX.out]; exact h1, HJ.out⟩⟩, ball hbel hw'⟩
      · have h1' := Bool.eq_false_iff.2 h1
        go_wp2_with fail
        refine HFF.out.mono ?_
        rw [h1']
        rintro e w' ⟨rfl, hw'⟩
        go_wp2_with fail
        go_roundw
        case rel =>
          refine ⟨k + 1, by omega, by go_num, fun j hj => ?_, ball hbel hw'⟩
          by_cases e : j = k
          · subst e; rw [HX.out]; exact h1'
          · exact HJ.out j (by omega)
        case measure => simp [intOf]; omega
    · have he : k = M.length := by omega
      subst he
      go_wp2_with fail
      go_ret
      refine ⟨⟨-1, rfl, Or.inr ⟨rfl, ?_⟩⟩, hbel⟩
      rw [List.any_eq_false]
      intro x hx
      obtain ⟨j, hj, rfl⟩ := List.getElem_of_mem hx
      have := HJ.out j hj
      simpa [List.getD, hj] using this
set_option maxHeartbeats 400000 in
theorem containsM0 (fid : FuncId) (p : List Int → Bool) (ad : Option Addr) (cap : Nat) (M : List (List Int)) (w : World) (hl : M.length ≤ 1048576) (hr : RdM w ad M)
    (hcf : ∀ (xa : Array Value) (w : World), (callFunc fid xa).run Try.prog w = .ok (.enter fid xa) w) (hf : ∀ i, i < M.length → ∀ a c w2, Below w.heap.size w w2 → RdI w2 a (M.getD i []) → Calls Try.prog fid #[.slice a (M.getD i []).length c] w2 fun e w' => e = .returned (.bool (p (M.getD i []))) ∧ Below w2.heap.size w2 w') :
    Calls Try.prog 52 #[.slice ad M.length cap, .func (Fn.func fid) #[] #[]] w fun e w' => e = .returned (.bool (M.any p)) ∧ Below w.heap.size w w' := by
  have CI := Lib.hid (indexM0 fid  p ad cap M w hl hr hcf hf)
  clear hr hf
  obtain ⟨A, hA⟩ : ∃ A, M.any p = A := ⟨_, rfl⟩
  rw [hA]
  have HA := Lib.hid hA; clear hA
  go_enter Try.func52, Try.ntmps52
  go_wp2_with fail
  refine CI.out.mono ?_
  rintro e w' ⟨⟨r, rfl, hr1⟩, hw'⟩
  by_cases h0 : 0 ≤ r
  · obtain rfl : A = true := by
      rcases hr1 with ⟨k, rfl, h1, h2, _⟩ | ⟨h, _⟩
      · rw [← HA.out]; exact List.any_eq_true.2 ⟨_, getD_memM h1, h2⟩
      · omega
    have g1 : decide (0 ≤ r) = true := decide_eq_true h0
    clear hr1
    go_wp2_with fail
    go_ret
    exact ⟨rfl, hw'⟩
  · obtain rfl : A = false := by
      rcases hr1 with ⟨k, rfl, h1, h2, _⟩ | ⟨_, h⟩
      · omega
      · rw [← HA.out]; exact h
    have g1 : decide (0 ≤ r) = false := decide_eq_false h0
    clear hr1
    go_wp2_with fail
    go_ret
    exact ⟨rfl, hw'⟩

set_option maxHeartbeats 1600000 in
theorem indexM1 (fid : FuncId) (c1 : Value) (p : List Int → Bool) (ad : Option Addr) (cap : Nat) (M : List (List Int)) (w : World) (hl : M.length ≤ 1048576) (hr : RdM w ad M)
    (hcf : ∀ (xa : Array Value) (w : World), (callFunc fid xa).run Try.prog w = .ok (.enter fid xa) w) (hf : ∀ i, i < M.length → ∀ a c w2, Below w.heap.size w w2 → RdI w2 a (M.getD i []) → Calls Try.prog fid #[.slice a (M.getD i []).length c, c1] w2 fun e w' => e = .returned (.bool (p (M.getD i []))) ∧ Below w2.heap.size w2 w') :
    Calls Try.prog 63 #[.slice ad M.length cap, .func (Fn.func fid) #[] #[c1]] w fun e w' => (∃ r : Int, e = .returned (.int .i64 r) ∧ ((∃ k : Nat, r = (k : Int) ∧ k < M.length ∧ p (M.getD k []) = true ∧ ∀ j, j < k → p (M.getD j []) = false) ∨ (r = -1 ∧ M.any p = false))) ∧ Below w.heap.size w w' := by
  have HR := Lib.hid hr; clear hr
  have HF := Lib.hid hf; clear hf
  go_enter Try.func63, Try.ntmps63
  go_wp2_with fail
  go_loopw [8] (fun i wr => ∃ k : Nat, k ≤ M.length ∧ i = .int .i64 k ∧ (∀ j, j < k → p (M.getD j []) = false) ∧ Below w.heap.size w wr) (fun i _ => M.length - (intOf i).toNat)
  case atStart => exact ⟨0, Nat.zero_le _, rfl, fun j hj => by omega, Below.refl _ _⟩
  case round =>
    obtain ⟨k, hk, rfl, hj, hbel⟩ := hrel
    obtain ⟨wo, rfl⟩ : ∃ wo : World, wo = wr := ⟨_, rfl⟩
    have HJ := Lib.hid hj; clear hj
    by_cases hlt : k < M.length
    · obtain ⟨b, off, a, c, rfl, hb, cc, hri⟩ := HR.out k hlt
      have dd := bcell hbel hb cc
      have hff := HF.out k hlt a c _ hbel (hri.below hbel)
      have x1 : (0 : Int) ≤ (k : Int) := by omega
      have x2 : (k : Int) < (M.length : Int) := by omega
      obtain ⟨x, hx⟩ : ∃ x, M.getD k [] = x := ⟨_, rfl⟩
      rw [hx] at dd hff
      have HX := Lib.hid hx; clear hx cc hri
      obtain ⟨N, hN⟩ : ∃ n, x.length = n := ⟨_, rfl⟩
      rw [hN] at dd hff
      clear hN
      have HFF := Lib.hid hff; clear hff
      by_cases h1 : p x = true
      · go_wp2_with fail
        refine HFF.out.mono ?_
        rw [h1]
        rintro e w' ⟨rfl, hw'⟩
        go_wp2_with fail
        go_ret
        exact ⟨⟨k, rfl, Or.inl ⟨k, rfl, hlt, by rw [HX.out]; exact h1, HJ.out⟩⟩, ball hbel hw'⟩
      · have h1' := Bool.eq_false_iff.2 h1
        go_wp2_with fail
        refine HFF.out.mono ?_
        rw [h1']
        rintro e w' ⟨rfl, hw'⟩
        go_wp2_with fail
        go_roundw
        case rel =>
          refine ⟨k + 1, by omega, by go_num, fun j hj => ?_, ball hbel hw'⟩
          by_cases e : j = k
          · subst e; rw [HX.out]; exact h1'
          · exact HJ.out j (by omega)
        case measure => simp [intOf]; omega
    · have he : k = M.length := by omega
      subst he
      go_wp2_with fail
      go_ret
      refine ⟨⟨-1, rfl, Or.inr ⟨rfl, ?_⟩⟩, hbel⟩
      rw [List.any_eq_false]
      intro x hx
      obtain ⟨j, hj, rfl⟩ := List.getElem_of_mem hx
      have := HJ.out j hj
      simpa [List.getD, hj] using this
set_option maxHeartbeats 400000 in
theorem containsM1 (fid : FuncId) (c1 : Value) (p : List Int → Bool) (ad : Option Addr) (cap : Nat) (M : List (List Int)) (w : World) (hl : M.length ≤ 1048576) (hr : RdM w ad M)
    (hcf : ∀ (xa : Array Value) (w : World), (callFunc fid xa).run Try.prog w = .ok (.enter fid xa) w) (hf : ∀ i, i < M.length → ∀ a c w2, Below w.heap.size w w2 → RdI w2 a (M.getD i []) → Calls Try.prog fid #[.slice a (M.getD i []).length c, c1] w2 fun e w' => e = .returned (.bool (p (M.getD i []))) ∧ Below w2.heap.size w2 w') :
    Calls Try.prog 52 #[.slice ad M.length cap, .func (Fn.func fid) #[] #[c1]] w fun e w' => e = .returned (.bool (M.any p)) ∧ Below w.heap.size w w' := by
  have CI := Lib.hid (indexM1 fid c1 p ad cap M w hl hr hcf hf)
  clear hr hf
  obtain ⟨A, hA⟩ : ∃ A, M.any p = A := ⟨_, rfl⟩
  rw [hA]
  have HA := Lib.hid hA; clear hA
  go_enter Try.func52, Try.ntmps52
  go_wp2_with fail
  refine CI.out.mono ?_
  rintro e w' ⟨⟨r, rfl, hr1⟩, hw'⟩
  by_cases h0 : 0 ≤ r
  · obtain rfl : A = true := by
      rcases hr1 with ⟨k, rfl, h1, h2, _⟩ | ⟨h, _⟩
      · rw [← HA.out]; exact List.any_eq_true.2 ⟨_, getD_memM h1, h2⟩
      · omega
    have g1 : decide (0 ≤ r) = true := decide_eq_true h0
    clear hr1
    go_wp2_with fail
    go_ret
    exact ⟨rfl, hw'⟩
  · obtain rfl : A = false := by
      rcases hr1 with ⟨k, rfl, h1, h2, _⟩ | ⟨_, h⟩
      · omega
      · rw [← HA.out]; exact h
    have g1 : decide (0 ≤ r) = false := decide_eq_false h0
    clear hr1
    go_wp2_with fail
    go_ret
    exact ⟨rfl, hw'⟩


set_option maxHeartbeats 1600000 in
theorem isMatrix1_c (b0 : Nat) (ad : Option Addr) (cap : Nat) (M : List (List Int)) (a : Option Addr) (c : Nat) (r : List Int) (w : World) (k1 : w.cell? ⟨b0, 0, none⟩ = some (.slice ad M.length cap)) (h1 : RdM w ad M) (h0 : 0 < M.length) (hr : RdI w a r) (hl : r.length ≤ 1048576) (_hl2 : (M.getD 0 []).length ≤ 1048576) :
    Calls Try.prog 53 #[.slice a r.length c, .pointer (some ⟨b0, 0, none⟩)] w fun e w' => e = .returned (.bool (!(vecB r && decide (r.length = (M.getD 0 []).length)))) ∧ Below w.heap.size w w' := by
  have C1 := Lib.hid (isVector_c a c r w hr hl)
  obtain ⟨bm, om, a0, c0, rfl, _, k2, _⟩ := h1 0 h0
  rw [Nat.add_zero] at k2
  have x2 : (0 : Int) < (M.length : Int) := by omega
  clear hr h1
  generalize vecB r = V at C1 ⊢
  obtain ⟨n, hn⟩ : ∃ n, r.length = n := ⟨_, rfl⟩
  obtain ⟨m, hm⟩ : ∃ n, (M.getD 0 []).length = n := ⟨_, rfl⟩
  obtain ⟨N, hN⟩ : ∃ n, M.length = n := ⟨_, rfl⟩
  rw [hn] at C1 ⊢
  rw [hm] at k2 ⊢
  rw [hN] at k1 x2
  clear hn hm hN hl _hl2 h0
  cases V
  · go_enter Try.func53, Try.ntmps53
    go_wp2_with fail
    refine C1.out.mono ?_
    rintro e w1 ⟨rfl, rfl⟩
    go_wp2_with fail
    go_ret
    exact ⟨rfl, Below.refl _ _⟩
  · obtain ⟨q, hq⟩ : ∃ q, ((n : Int) != (m : Int)) = q := ⟨_, rfl⟩
    have hq2 : (n != m) = q := by rw [← hq, (natEq n m).2.2.1, (natEq n m).2.2.2]
    have hq3 : (!decide (n = m)) = q := by rw [← hq, (natEq n m).2.2.1]
    rw [Bool.true_and, hq3]
    clear hq3
    go_enter Try.func53, Try.ntmps53
    go_wp2_with fail
    refine C1.out.mono ?_
    rintro e w1 ⟨rfl, rfl⟩
    go_wp2_with fail
    go_ret
    exact ⟨rfl, Below.refl _ _⟩

set_option maxHeartbeats 1600000 in
theorem isMatrix_c (ad : Option Addr) (cap : Nat) (M : List (List Int)) (w : World) (hr : RdM w ad M) (hl : M.length ≤ 1048576) (hl2 : ∀ i, i < M.length → (M.getD i []).length ≤ 1048576) :
    Calls Try.prog 30 #[.slice ad M.length cap] w fun e w' => e = .returned (.bool (matB M)) ∧ Below w.heap.size w w' := by
  have C1 := Lib.hid (fun w => within_any M.length 1 6 w)
  have hb0 : Below w.heap.size w (w.alloc (.cells #[.slice ad M.length cap] 26)) := (Below.refl _ _).alloc (Nat.le_refl _) _
  obtain ⟨V, hV⟩ : ∃ V, matB M = V := ⟨_, rfl⟩
  rw [hV]
  cases hin : inB M.length 1 6
  · rw [hin] at C1
    obtain rfl : V = false := by rw [← hV]; unfold matB; rw [hin]; rfl
    clear hV hin hr
    go_enter Try.func30, Try.ntmps30
    go_wp2_with fail
    refine (C1.out _).mono ?_
    rintro e w1 ⟨rfl, rfl⟩
    go_wp2_with fail
    go_ret
    exact ⟨rfl, hb0⟩
  · rw [hin] at C1
    have h0 : 0 < M.length := by have := inB_t.1 hin; omega
    have CC := Lib.hid (fun (b0 : Nat) (u : World) (hb : Below w.heap.size w u) (hc : u.cell? ⟨b0, 0, none⟩ = some (.slice ad M.length cap)) => containsM1 53 (.pointer (some ⟨b0, 0, none⟩)) (fun r => !(vecB r && decide (r.length = (M.getD 0 []).length))) ad cap M u hl (hr.below hb)
      (callFunc_plainM Try.func53 (by kernel_rfl) (by kernel_rfl)) (fun i hi a c w2 hb2 hri => isMatrix1_c b0 ad cap M a c (M.getD i []) w2 (by rw [bcell' hb2 hc]) ((hr.below hb).below hb2) h0 hri (hl2 i hi) (hl2 0 h0)))
    have hany : (!(M.any fun r => !(vecB r && decide (r.length = (M.getD 0 []).length)))) = V := by
      rw [← hV]
      unfold matB
      rw [hin, Bool.true_and, List.any_eq_not_all_not, Bool.not_not]
      congr 1
      funext r
      rw [Bool.not_not]
    generalize (M.any fun r => !(vecB r && decide (r.length = (M.getD 0 []).length))) = A at CC hany
    obtain rfl : A = !V := by rw [← hany, Bool.not_not]
    clear hV hin hr hany
    go_enter Try.func30, Try.ntmps30
    go_wp2_with fail
    refine (C1.out _).mono ?_
    rintro e w1 ⟨rfl, rfl⟩
    have k1 : (w.alloc (.cells #[.slice ad M.length cap] 26)).cell? ⟨w.heap.size, 0, none⟩ = some (.slice ad M.length cap) := by simp [go_sem]
    go_wp2_with fail
    refine (CC.out _ _ hb0 k1).mono ?_
    rintro e w2 ⟨rfl, hb2⟩
    cases V
    all_goals
      go_wp2_with fail
      go_ret
      exact ⟨rfl, hb0.trans (hb2.mono hb0.size)⟩
set_option maxHeartbeats 1600000 in
theorem mxGood_c (ad : Option Addr) (cap : Nat) (M : List (List Int)) (w : World) (hr : RdM w ad M) (hl : M.length ≤ 1048576) (hl2 : ∀ i, i < M.length → (M.getD i []).length ≤ 1048576) :
    Calls Try.prog 29 #[.slice ad M.length cap] w fun e w' => e = .returned (.bool (matB M)) ∧ w = w' := by
  have C1 := Lib.hid (fun w => l1In_any M.length 1 6 w)
  obtain ⟨V, hV⟩ : ∃ V, matB M = V := ⟨_, rfl⟩
  rw [hV]
  cases hin : inB M.length 1 6
  · rw [hin] at C1
    obtain rfl : V = false := by rw [← hV]; unfold matB; rw [hin]; rfl
    clear hV hin hr
    go_enter Try.func29, Try.ntmps29
    go_wp2_with fail
    refine (C1.out _).mono ?_
    rintro e w1 ⟨rfl, rfl⟩
    go_wp2_with fail
    go_ret
    exact ⟨rfl, rfl⟩
  · rw [hin] at C1
    have h0 : 0 < M.length := by have := inB_t.1 hin; omega
    obtain ⟨bm, om, a0, c0, rfl, hbm, k2, _⟩ := hr 0 h0
    rw [Nat.add_zero] at k2
    have x2 : (0 : Int) < (M.length : Int) := by omega
    have C2 := Lib.hid (fun w => l1In_any (M.getD 0 []).length 1 6 w)
    have hVV : (M.all fun r => vecB r && decide (r.length = (M.getD 0 []).length)) = V := by rw [← hV]; unfold matB; rw [hin, Bool.true_and]
    have HV := Lib.hid hVV
    have HR := Lib.hid hr
    clear hV hin hr hVV
    cases hin2 : inB (M.getD 0 []).length 1 6
    · rw [hin2] at C2
      obtain rfl : V = false := by
        rw [← HV.out]
        refine allM_f h0 ?_
        unfold vecB
        rw [hin2]
        rfl
      generalize (M.getD 0 []).length = m at k2 C2
      clear hin2
      go_enter Try.func29, Try.ntmps29
      go_wp2_with fail
      refine (C1.out _).mono ?_
      rintro e w1 ⟨rfl, rfl⟩
      go_wp2_with fail
      refine (C2.out _).mono ?_
      rintro e w1 ⟨rfl, rfl⟩
      go_wp2_with fail
      go_ret
      exact ⟨rfl, rfl⟩
    · rw [hin2] at C2
      clear hin2
      obtain ⟨m, hm⟩ : ∃ n, (M.getD 0 []).length = n := ⟨_, rfl⟩
      rw [hm] at k2 C2 HV
      have HM := Lib.hid hm; clear hm
      go_enter Try.func29, Try.ntmps29
      go_wp2_with fail
      refine (C1.out _).mono ?_
      rintro e w1 ⟨rfl, rfl⟩
      go_wp2_with fail
      refine (C2.out _).mono ?_
      rintro e w1 ⟨rfl, rfl⟩
      go_wp2_with fail
      go_loop [19] (fun i => ∃ k : Nat, k ≤ M.length ∧ i = .int .i64 k ∧ ∀ j, j < k → (vecB (M.getD j []) && decide ((M.getD j []).length = m)) = true) (fun i => M.length - (intOf i).toNat)
      case atStart => exact ⟨0, Nat.zero_le _, rfl, fun j hj => by omega⟩
      case round =>
        obtain ⟨k, hk, rfl, hj⟩ := hrel
        have HJ := Lib.hid hj; clear hj
        by_cases hlt : k < M.length
        · obtain ⟨a, c, cc, hri⟩ := HR.out.at hlt
          have y1 : (0 : Int) ≤ (k : Int) := by omega
          have y2 : (k : Int) < (M.length : Int) := by omega
          have C3 := Lib.hid (mxVector_c a c (M.getD k []) w hri (hl2 k hlt))
          obtain ⟨r, hx⟩ : ∃ x, M.getD k [] = x := ⟨_, rfl⟩
          rw [hx] at cc C3
          have HX := Lib.hid hx; clear hx hri
          obtain ⟨n, hn⟩ : ∃ n, r.length = n := ⟨_, rfl⟩
          rw [hn] at cc C3
          have HN := Lib.hid hn; clear hn
          obtain ⟨v, hv⟩ : ∃ v, vecB r = v := ⟨_, rfl⟩
          rw [hv] at C3
          have HVV := Lib.hid hv; clear hv
          by_cases e : n = m
          · have g1 : ((n : Int) != (m : Int)) = false := by rw [e]; exact bne_self_eq_false _
            have g2 : (n != m) = false := by rw [e]; exact bne_self_eq_false _
            have HE := Lib.hid e; clear e
            cases v
            · obtain rfl : V = false := by rw [← HV.out]; exact allM_f hlt (by rw [HX.out, HVV.out]; rfl)
              go_wp2_with fail
              refine C3.out.mono ?_
              rintro e w1 ⟨rfl, rfl⟩
              go_wp2_with fail
              go_ret
              exact ⟨rfl, rfl⟩
            · go_wp2_with fail
              refine C3.out.mono ?_
              rintro e w1 ⟨rfl, rfl⟩
              go_wp2_with fail
              go_round
              case rel =>
                refine ⟨k + 1, by omega, by go_num, fun j hj => ?_⟩
                by_cases e : j = k
                · subst e; rw [HX.out, HVV.out, HN.out]; exact decide_eq_true HE.out
                · exact HJ.out j (by omega)
              case measure => simp [intOf]; omega
          · have g1 : ((n : Int) != (m : Int)) = true := by simpa using (by omega : ¬ (n : Int) = (m : Int))
            have g2 : (n != m) = true := by simpa using e
            obtain rfl : V = false := by rw [← HV.out]; exact allM_f hlt (by rw [HX.out, HN.out, decide_eq_false e, Bool.and_false])
            clear e
            go_wp2_with fail
            go_ret
            exact ⟨rfl, rfl⟩
        · obtain rfl : k = M.length := by omega
          obtain rfl : V = true := by rw [← HV.out]; exact allM_t HJ.out
          go_wp2_with fail
          go_ret
          exact ⟨rfl, rfl⟩
/-! ### square: what it says -/
theorem sq_facts {M : List (List Int)} (h : sqB M = true) : (1 ≤ M.length ∧ M.length ≤ 6) ∧ (∀ i, i < M.length → (M.getD i []).length = M.length) ∧ ∀ i j, i < M.length → j < M.length → numB ((M.getD i []).getD j 0) = true := by
  unfold sqB matB at h
  simp only [Bool.and_eq_true, decide_eq_true_eq] at h
  obtain ⟨⟨h1, h2⟩, h3⟩ := h
  have h4 := inB_t.1 h1
  have h5 : ∀ i, i < M.length → vecB (M.getD i []) = true ∧ (M.getD i []).length = M.length := fun i hi => by
    have := List.all_eq_true.1 h2 _ (getD_memM hi)
    simp only [Bool.and_eq_true, decide_eq_true_eq] at this
    exact ⟨this.1, by rw [this.2, h3]⟩
  refine ⟨by omega, fun i hi => (h5 i hi).2, fun i j hi hj => ?_⟩
  have h6 := (h5 i hi).1
  unfold vecB at h6
  simp only [Bool.and_eq_true] at h6
  refine List.all_eq_true.1 h6.2 _ ?_
  exact getD_memI (by rw [(h5 i hi).2]; exact hj)
def entM (M : List (List Int)) : Nat → Nat → Int := fun i j => (M.getD i []).getD j 0
theorem sq_toM {M : List (List Int)} (h : sqB M = true) : toM M.length (entM M) = M := by
  obtain ⟨_, h2, _⟩ := sq_facts h
  apply List.ext_getElem (by rw [toM_len])
  intro i hi hi2
  have e1 : (toM M.length (entM M))[i] = tab M.length (entM M i) := by
    have := toM_row (n := M.length) (entM M) hi2
    rw [List.getD_eq_getElem?_getD, List.getElem?_eq_getElem hi, Option.getD_some] at this
    exact this
  have e2 : M.getD i [] = M[i] := by rw [List.getD_eq_getElem?_getD, List.getElem?_eq_getElem hi2, Option.getD_some]
  have h3 := h2 i hi2
  rw [e2] at h3
  rw [e1]
  apply List.ext_getElem (by rw [tab_length, h3])
  intro j hj hj2
  have hj3 : j < M.length := by rw [tab_length] at hj; exact hj
  have e3 := tab_getD (f := entM M i) hj3 (0 : Int)
  rw [List.getD_eq_getElem?_getD, List.getElem?_eq_getElem hj, Option.getD_some] at e3
  rw [e3]
  unfold entM
  rw [e2, List.getD_eq_getElem?_getD, List.getElem?_eq_getElem hj2, Option.getD_some]

end Go.Proofs.Ytnbenpalneodlaa
