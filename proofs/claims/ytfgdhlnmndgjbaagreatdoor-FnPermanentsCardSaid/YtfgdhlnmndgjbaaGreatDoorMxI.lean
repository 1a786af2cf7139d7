/-
  Some texts of this proof in one: MxI MxC. Each part tells what it proves. By an AI agent.
-/
import Derived.Test.YtfgdhlnmndgjbaaGreatDoorMxB
import Derived.Deep.QuietTactic
import Derived.Deep.RegionHeld3
import Derived.Maps.AppendAt

/-
  Vectors, matrices, square ones: program and reference. Printed by gen_mxI.py.
-/
namespace Go.Proofs.YtfgdhlnmndgjbaaGreatDoor
open Go.RowKit

def vecB (r : List Int) : Bool := inB r.length 1 6 && r.all numB
def matB (M : List (List Int)) : Bool := inB M.length 1 6 && M.all fun r => vecB r && decide (r.length = (M.getD 0 []).length)
def sqB (M : List (List Int)) : Bool := matB M && decide (M.length = (M.getD 0 []).length)
theorem natEq (n m : Nat) : ((n : Int) == (m : Int)) = decide (n = m) ∧ (n == m) = decide (n = m) ∧ ((n : Int) != (m : Int)) = !decide (n = m) ∧ (n != m) = !decide (n = m) := by
  by_cases h : n = m
  · subst h; simp
  · have h2 : ¬ (n : Int) = (m : Int) := by omega
    simp [h, h2, bne]
theorem getD_memI {l : List Int} {j : Nat} (h : j < l.length) : l.getD j 0 ∈ l := by
  rw [List.getD_eq_getElem?_getD, List.getElem?_eq_getElem h, Option.getD_some]
  exact List.getElem_mem _
theorem callFunc_plainM {P : Program} {f : FuncId} {fn : Func} (hf : P.funcs[f]? = some fn) (hname : (fn.name == "runtime.NumGoroutine") = false) (hb : fn.body.isNone = false) (args : Array Value) (w : World) :
    (callFunc f args).run P w = .ok (.enter f args) w := by
  have h1 : fn.name ≠ "runtime.NumGoroutine" := by simpa using hname
  have h2 : fn.body ≠ none := by intro q; rw [q] at hb; simp at hb
  simp [callFunc, hf, h1, h2]
theorem getD_memM {M : List (List Int)} {i : Nat} (h : i < M.length) : M.getD i [] ∈ M := by
  rw [List.getD_eq_getElem?_getD, List.getElem?_eq_getElem h, Option.getD_some]
  exact List.getElem_mem _
theorem allM_t {M : List (List Int)} {p : List Int → Bool} (h : ∀ j, j < M.length → p (M.getD j []) = true) : M.all p = true := by
  rw [List.all_eq_true]
  intro x hx
  obtain ⟨j, hj, rfl⟩ := List.getElem_of_mem hx
  have := h j hj
  simpa [List.getD, hj] using this
theorem allM_f {M : List (List Int)} {p : List Int → Bool} {j : Nat} (hj : j < M.length) (h : p (M.getD j []) = false) : M.all p = false := by
  rw [List.all_eq_false]
  exact ⟨_, getD_memM hj, by simpa using h⟩

set_option maxHeartbeats 800000 in
theorem isVector_c (ad : Option Addr) (cap : Nat) (r : List Int) (w : World) (hr : RdI w ad r) (hl : r.length ≤ 1048576) :
    Calls Tryz.prog 47 #[.slice ad r.length cap] w fun e w' => e = .returned (.bool (vecB r)) ∧ w = w' := by
  have C1 := Lib.hid (fun w => within_any r.length 1 6 w)
  have C2 := Lib.hid (areNumbers_c ad cap r w hr hl)
  clear hr
  unfold vecB
  generalize inB r.length 1 6 = a at C1 ⊢
  generalize r.all numB = b at C2 ⊢
  cases a
  · go_enter Tryz.func47, Tryz.ntmps47
    go_wp2_with fail
    refine (C1.out _).mono ?_
    rintro e w1 ⟨rfl, rfl⟩
    go_wp2_with fail
    go_ret
    exact ⟨rfl, rfl⟩
  · go_enter Tryz.func47, Tryz.ntmps47
    go_wp2_with fail
    refine (C1.out _).mono ?_
    rintro e w1 ⟨rfl, rfl⟩
    go_wp2_with fail
    refine C2.out.mono ?_
    rintro e w1 ⟨rfl, rfl⟩
    go_wp2_with fail
    go_ret
    exact ⟨rfl, rfl⟩
set_option maxHeartbeats 800000 in
theorem mxVector_c (ad : Option Addr) (cap : Nat) (r : List Int) (w : World) (hr : RdI w ad r) (hl : r.length ≤ 1048576) :
    Calls Tryz.prog 50 #[.slice ad r.length cap] w fun e w' => e = .returned (.bool (vecB r)) ∧ w = w' := by
  have HR := Lib.hid hr; clear hr
  obtain ⟨V, hV⟩ : ∃ V, vecB r = V := ⟨_, rfl⟩
  rw [hV]
  have HV := Lib.hid hV; clear hV
  go_enter Tryz.func50, Tryz.ntmps50
  go_wp2_with fail
  go_loop [7] (fun i => ∃ k : Nat, k ≤ r.length ∧ i = .int .i64 k ∧ ∀ j, j < k → numB (r.getD j 0) = true) (fun i => r.length - (intOf i).toNat)
  case atStart => exact ⟨0, Nat.zero_le _, rfl, fun j hj => by omega⟩
  case round =>
    obtain ⟨k, hk, rfl, hj⟩ := hrel
    have HJ := Lib.hid hj; clear hj
    by_cases hlt : k < r.length
    · obtain ⟨b, off, rfl, hb, cc⟩ := HR.out k hlt
      obtain ⟨x, hx⟩ : ∃ x, r.getD k 0 = x := ⟨_, rfl⟩
      rw [hx] at cc
      have HX := Lib.hid hx; clear hx
      have C1 := Lib.hid (fun w => nuGood_c x w)
      have x1 : (0 : Int) ≤ (k : Int) := by omega
      have x2 : (k : Int) < (r.length : Int) := by omega
      by_cases h1 : numB x = true
      · rw [h1] at C1
        go_wp2_with fail
        refine (C1.out _).mono ?_
        rintro e w1 ⟨rfl, rfl⟩
        go_wp2_with fail
        go_round
        case rel =>
          refine ⟨k + 1, by omega, by go_num, fun j hj => ?_⟩
          by_cases e : j = k
          · subst e; rw [HX.out]; exact h1
          · exact HJ.out j (by omega)
        case measure => simp [intOf]; omega
      · have h1' := Bool.eq_false_iff.2 h1
        rw [h1'] at C1
        obtain rfl : V = false := by
          rw [← HV.out]
          unfold vecB
          rw [show r.all numB = false by rw [List.all_eq_false]; exact ⟨r.getD k 0, by simp [List.getD, hlt], by rw [HX.out]; simpa using h1'⟩, Bool.and_false]
        go_wp2_with fail
        refine (C1.out _).mono ?_
        rintro e w1 ⟨rfl, rfl⟩
        go_wp2_with fail
        go_ret
        exact ⟨rfl, rfl⟩
    · obtain rfl : k = r.length := by omega
      have C1 := Lib.hid (fun w => l1In_any r.length 1 6 w)
      have e1 : inB r.length 1 6 = V := by
        rw [← HV.out]
        unfold vecB
        rw [show r.all numB = true by
          rw [List.all_eq_true]
          intro x hx
          obtain ⟨j, hj, rfl⟩ := List.getElem_of_mem hx
          have := HJ.out j hj
          simpa [List.getD, hj] using this, Bool.and_true]
      rw [e1] at C1
      go_wp2_with fail
      refine (C1.out _).mono ?_
      rintro e w1 ⟨rfl, rfl⟩
      go_wp2_with fail
      go_ret
      exact ⟨rfl, rfl⟩

set_option maxHeartbeats 1600000 in
theorem indexM0 (fid : FuncId) (p : List Int → Bool) (ad : Option Addr) (cap : Nat) (M : List (List Int)) (w : World) (hl : M.length ≤ 1048576) (hr : RdM w ad M)
    (hcf : ∀ (xa : Array Value) (w : World), (callFunc fid xa).run Tryz.prog w = .ok (.enter fid xa) w) (hf : ∀ i, i < M.length → ∀ a c w2, Below w.heap.size w w2 → RdI w2 a (M.getD i []) → Calls Tryz.prog fid #[.slice a (M.getD i []).length c] w2 fun e w' => e = .returned (.bool (p (M.getD i []))) ∧ Below w2.heap.size w2 w') :
    Calls Tryz.prog 87 #[.slice ad M.length cap, .func (Fn.func fid) #[] #[]] w fun e w' => (∃ r : Int, e = .returned (.int .i64 r) ∧ ((∃ k : Nat, r = (k : Int) ∧ k < M.length ∧ p (M.getD k []) = true ∧ ∀ j, j < k → p (M.getD j []) = false) ∨ (r = -1 ∧ M.any p = false))) ∧ Below w.heap.size w w' := by
  have HR := Lib.hid hr; clear hr
  have HF := Lib.hid hf; clear hf
  go_enter Tryz.func87, Tryz.ntmps87
  go_wp2_with fail
  go_loopw [8] (fun i wr => ∃ k : Nat, k ≤ M.length ∧ i = .int .i64 k ∧ (∀ j, j < k → p (M.getD j []) = false) ∧ Below w.heap.size w wr) (fun i _ => M.length - (intOf i).toNat)
  case atStart => exact ⟨0, Nat.zero_le _, rfl, fun j hj => by omega, Below.refl _ _⟩
  case round =>
    obtain ⟨k, hk, rfl, hj, hbel⟩ := hrel
    obtain ⟨wo, rfl⟩ : ∃ wo : World, wo = wr := ⟨_, rfl⟩
    have HJ := Lib.hid hj; clear hj
    by_cases hlt : k < M.length
    · obtain ⟨b, off, a, c, rfl, hb, cc, hri⟩ := HR.out k hlt
      have dd := bcell hbel hb cc
      have hff := HF.out k hlt a c _ hbel (hri.below hbel)
      have x1 : (0 : Int) ≤ (k : Int) := by omega
      have x2 : (k : Int) < (M.length : Int) := by omega
      obtain ⟨x, hx⟩ : ∃ x, M.getD k [] = x := ⟨_, rfl⟩
      rw [hx] at dd hff
      have HX := Lib.hid hx; clear hx cc hri
      obtain ⟨N, hN⟩ : ∃ n, x.length = n := ⟨_, rfl⟩
      rw [hN] at dd hff
      clear hN
      have HFF := Lib.hid hff; clear hff
      by_cases h1 : p x = true
      · go_wp2_with fail
        refine HFF.out.mono ?_
        rw [h1]
        rintro e w' ⟨rfl, hw'⟩
        go_wp2_with fail
        go_ret
        exact ⟨⟨k, rfl, Or.inl ⟨k, rfl, hlt, by rw [HX.out]; exact h1, HJ.out⟩⟩, ball hbel hw'⟩
      · have h1' := Bool.eq_false_iff.2 h1
        go_wp2_with fail
        refine HFF.out.mono ?_
        rw [h1']
        rintro e w' ⟨rfl, hw'⟩
        go_wp2_with fail
        go_roundw
        case rel =>
          refine ⟨k + 1, by omega, by go_num, fun j hj => ?_, ball hbel hw'⟩
          by_cases e : j = k
          · subst e; rw [HX.out]; exact h1'
          · exact HJ.out j (by omega)
        case measure => simp [intOf]; omega
    · have he : k = M.length := by omega
      subst he
      go_wp2_with fail
      go_ret
      refine ⟨⟨-1, rfl, Or.inr ⟨rfl, ?_⟩⟩, hbel⟩
      rw [List.any_eq_false]
      intro x hx
      obtain ⟨j, hj, rfl⟩ := List.getElem_of_mem hx
      have := HJ.out j hj
      simpa [List.getD, hj] using this
set_option maxHeartbeats 400000 in
theorem containsM0 (fid : FuncId) (p : List Int → Bool) (ad : Option Addr) (cap : Nat) (M : List (List Int)) (w : World) (hl : M.length ≤ 1048576) (hr : RdM w ad M)
    (hcf : ∀ (xa : Array Value) (w : World), (callFunc fid xa).run Tryz.prog w = .ok (.enter fid xa) w) (hf : ∀ i, i < M.length → ∀ a c w2, Below w.heap.size w w2 → RdI w2 a (M.getD i []) → Calls Tryz.prog fid #[.slice a (M.getD i []).length c] w2 fun e w' => e = .returned (.bool (p (M.getD i []))) ∧ Below w2.heap.size w2 w') :
    Calls Tryz.prog 68 #[.slice ad M.length cap, .func (Fn.func fid) #[] #[]] w fun e w' => e = .returned (.bool (M.any p)) ∧ Below w.heap.size w w' := by
  have CI := Lib.hid (indexM0 fid  p ad cap M w hl hr hcf hf)
  clear hr hf
  obtain ⟨A, hA⟩ : ∃ A, M.any p = A := ⟨_, rfl⟩
  rw [hA]
  have HA := Lib.hid hA; clear hA
  go_enter Tryz.func68, Tryz.ntmps68
  go_wp2_with fail
  refine CI.out.mono ?_
  rintro e w' ⟨⟨r, rfl, hr1⟩, hw'⟩
  by_cases h0 : 0 ≤ r
  · obtain rfl : A = true := by
      rcases hr1 with ⟨k, rfl, h1, h2, _⟩ | ⟨h, _⟩
      · rw [← HA.out]; exact List.any_eq_true.2 ⟨_, getD_memM h1, h2⟩
      · omega
    have g1 : decide (0 ≤ r) = true := decide_eq_true h0
    clear hr1
    go_wp2_with fail
    go_ret
    exact ⟨rfl, hw'⟩
  · obtain rfl : A = false := by
      rcases hr1 with ⟨k, rfl, h1, h2, _⟩ | ⟨_, h⟩
      · omega
      · rw [← HA.out]; exact h
    have g1 : decide (0 ≤ r) = false := decide_eq_false h0
    clear hr1
    go_wp2_with fail
    go_ret
    exact ⟨rfl, hw'⟩

set_option maxHeartbeats 1600000 in
theorem indexM1 (fid : FuncId) (c1 : Value) (p : List Int → Bool) (ad : Option Addr) (cap : Nat) (M : List (List Int)) (w : World) (hl : M.length ≤ 1048576) (hr : RdM w ad M)
    (hcf : ∀ (xa : Array Value) (w : World), (callFunc fid xa).run Tryz.prog w = .ok (.enter fid xa) w) (hf : ∀ i, i < M.length → ∀ a c w2, Below w.heap.size w w2 → RdI w2 a (M.getD i []) → Calls Tryz.prog fid #[.slice a (M.getD i []).length c, c1] w2 fun e w' => e = .returned (.bool (p (M.getD i []))) ∧ Below w2.heap.size w2 w') :
    Calls Tryz.prog 87 #[.slice ad M.length cap, .func (Fn.func fid) #[] #[c1]] w fun e w' => (∃ r : Int, e = .returned (.int .i64 r) ∧ ((∃ k : Nat, r = (k : Int) ∧ k < M.length ∧ p (M.getD k []) = true ∧ ∀ j, j < k → p (M.getD j []) = false) ∨ (r = -1 ∧ M.any p = false))) ∧ Below w.heap.size w w' := by
  have HR := Lib.hid hr; clear hr
  have HF := Lib.hid hf; clear hf
  go_enter Tryz.func87, Tryz.ntmps87
  go_wp2_with fail
  go_loopw [8] (fun i wr => ∃ k : Nat, k ≤ M.length ∧ i = .int .i64 k ∧ (∀ j, j < k → p (M.getD j []) = false) ∧ Below w.heap.size w wr) (fun i _ => M.length - (intOf i).toNat)
  case atStart => exact ⟨0, Nat.zero_le _, rfl, fun j hj => by omega, Below.refl _ _⟩
  case round =>
    obtain ⟨k, hk, rfl, hj, hbel⟩ := hrel
    obtain ⟨wo, rfl⟩ : ∃ wo : World, wo = wr := ⟨_, rfl⟩
    have HJ := Lib.hid hj; clear hj
    by_cases hlt : k < M.length
    · obtain ⟨b, off, a, c, rfl, hb, cc, hri⟩ := HR.out k hlt
      have dd := bcell hbel hb cc
      have hff := HF.out k hlt a c _ hbel (hri.below hbel)
      have x1 : (0 : Int) ≤ (k : Int) := by omega
      have x2 : (k : Int) < (M.length : Int) := by omega
      obtain ⟨x, hx⟩ : ∃ x, M.getD k [] = x := ⟨_, rfl⟩
      rw [hx] at dd hff
      have HX := Lib.hid hx; clear hx cc hri
      obtain ⟨N, hN⟩ : ∃ n, x.length = n := ⟨_, rfl⟩
      rw [hN] at dd hff
      clear hN
      have HFF := Lib.hid hff; clear hff
      by_cases h1 : p x = true
      · go_wp2_with fail
        refine HFF.out.mono ?_
        rw [h1]
        rintro e w' ⟨rfl, hw'⟩
        go_wp2_with fail
        go_ret
        exact ⟨⟨k, rfl, Or.inl ⟨k, rfl, hlt, by rw [HX.out]; exact h1, HJ.out⟩⟩, ball hbel hw'⟩
      · have h1' := Bool.eq_false_iff.2 h1
        go_wp2_with fail
        refine HFF.out.mono ?_
        rw [h1']
        rintro e w' ⟨rfl, hw'⟩
        go_wp2_with fail
        go_roundw
        case rel =>
          refine ⟨k + 1, by omega, by go_num, fun j hj => ?_, ball hbel hw'⟩
          by_cases e : j = k
          · subst e; rw [HX.out]; exact h1'
          · exact HJ.out j (by omega)
        case measure => simp [intOf]; omega
    · have he : k = M.length := by omega
      subst he
      go_wp2_with fail
      go_ret
      refine ⟨⟨-1, rfl, Or.inr ⟨rfl, ?_⟩⟩, hbel⟩
      rw [List.any_eq_false]
      intro x hx
      obtain ⟨j, hj, rfl⟩ := List.getElem_of_mem hx
      have := HJ.out j hj
      simpa [List.getD, hj] using this
set_option maxHeartbeats 400000 in
theorem containsM1 (fid : FuncId) (c1 : Value) (p : List Int → Bool) (ad : Option Addr) (cap : Nat) (M : List (List Int)) (w : World) (hl : M.length ≤ 1048576) (hr : RdM w ad M)
    (hcf : ∀ (xa : Array Value) (w : World), (callFunc fid xa).run Tryz.prog w = .ok (.enter fid xa) w) (hf : ∀ i, i < M.length → ∀ a c w2, Below w.heap.size w w2 → RdI w2 a (M.getD i []) → Calls Tryz.prog fid #[.slice a (M.getD i []).length c, c1] w2 fun e w' => e = .returned (.bool (p (M.getD i []))) ∧ Below w2.heap.size w2 w') :
    Calls Tryz.prog 68 #[.slice ad M.length cap, .func (Fn.func fid) #[] #[c1]] w fun e w' => e = .returned (.bool (M.any p)) ∧ Below w.heap.size w w' := by
  have CI := Lib.hid (indexM1 fid c1 p ad cap M w hl hr hcf hf)
  clear hr hf
  obtain ⟨A, hA⟩ : ∃ A, M.any p = A := ⟨_, rfl⟩
  rw [hA]
  have HA := Lib.hid hA; clear hA
  go_enter Tryz.func68, Tryz.ntmps68
  go_wp2_with fail
  refine CI.out.mono ?_
  rintro e w' ⟨⟨r, rfl, hr1⟩, hw'⟩
  by_cases h0 : 0 ≤ r
  · obtain rfl : A = true := by
      rcases hr1 with ⟨k, rfl, h1, h2, _⟩ | ⟨h, _⟩
      · rw [← HA.out]; exact List.any_eq_true.2 ⟨_, getD_memM h1, h2⟩
      · omega
    have g1 : decide (0 ≤ r) = true := decide_eq_true h0
    clear hr1
    go_wp2_with fail
    go_ret
    exact ⟨rfl, hw'⟩
  · obtain rfl : A = false := by
      rcases hr1 with ⟨k, rfl, h1, h2, _⟩ | ⟨_, h⟩
      · omega
      · rw [← HA.out]; exact h
    have g1 : decide (0 ≤ r) = false := decide_eq_false h0
    clear hr1
    go_wp2_with fail
    go_ret
    exact ⟨rfl, hw'⟩


set_option maxHeartbeats 1600000 in
theorem isMatrix1_c (b0 : Nat) (ad : Option Addr) (cap : Nat) (M : List (List Int)) (a : Option Addr) (c : Nat) (r : List Int) (w : World) (k1 : w.cell? ⟨b0, 0, none⟩ = some (.slice ad M.length cap)) (h1 : RdM w ad M) (h0 : 0 < M.length) (hr : RdI w a r) (hl : r.length ≤ 1048576) (_hl2 : (M.getD 0 []).length ≤ 1048576) :
    Calls Tryz.prog 69 #[.slice a r.length c, .pointer (some ⟨b0, 0, none⟩)] w fun e w' => e = .returned (.bool (!(vecB r && decide (r.length = (M.getD 0 []).length)))) ∧ Below w.heap.size w w' := by
  have C1 := Lib.hid (isVector_c a c r w hr hl)
  obtain ⟨bm, om, a0, c0, rfl, _, k2, _⟩ := h1 0 h0
  rw [Nat.add_zero] at k2
  have x2 : (0 : Int) < (M.length : Int) := by omega
  clear hr h1
  generalize vecB r = V at C1 ⊢
  obtain ⟨n, hn⟩ : ∃ n, r.length = n := ⟨_, rfl⟩
  obtain ⟨m, hm⟩ : ∃ n, (M.getD 0 []).length = n := ⟨_, rfl⟩
  obtain ⟨N, hN⟩ : ∃ n, M.length = n := ⟨_, rfl⟩
  rw [hn] at C1 ⊢
  rw [hm] at k2 ⊢
  rw [hN] at k1 x2
  clear hn hm hN hl _hl2 h0
  cases V
  · go_enter Tryz.func69, Tryz.ntmps69
    go_wp2_with fail
    refine C1.out.mono ?_
    rintro e w1 ⟨rfl, rfl⟩
    go_wp2_with fail
    go_ret
    exact ⟨rfl, Below.refl _ _⟩
  · obtain ⟨q, hq⟩ : ∃ q, ((n : Int) != (m : Int)) = q := ⟨_, rfl⟩
    have hq2 : (n != m) = q := by rw [← hq, (natEq n m).2.2.1, (natEq n m).2.2.2]
    have hq3 : (!decide (n = m)) = q := by rw [← hq, (natEq n m).2.2.1]
    rw [Bool.true_and, hq3]
    clear hq3
    go_enter Tryz.func69, Tryz.ntmps69
    go_wp2_with fail
    refine C1.out.mono ?_
    rintro e w1 ⟨rfl, rfl⟩
    go_wp2_with fail
    go_ret
    exact ⟨rfl, Below.refl _ _⟩

set_option maxHeartbeats 1600000 in
theorem isMatrix_c (ad : Option Addr) (cap : Nat) (M : List (List Int)) (w : World) (hr : RdM w ad M) (hl : M.length ≤ 1048576) (hl2 : ∀ i, i < M.length → (M.getD i []).length ≤ 1048576) :
    Calls Tryz.prog 33 #[.slice ad M.length cap] w fun e w' => e = .returned (.bool (matB M)) ∧ Below w.heap.size w w' := by
  have C1 := Lib.hid (fun w => within_any M.length 1 6 w)
  have hb0 : Below w.heap.size w (w.alloc (.cells #[.slice ad M.length cap] 23)) := (Below.refl _ _).alloc (Nat.le_refl _) _
  obtain ⟨V, hV⟩ : ∃ V, matB M = V := ⟨_, rfl⟩
  rw [hV]
  cases hin : inB M.length 1 6
  · rw [hin] at C1
    obtain rfl : V = false := by rw [← hV]; unfold matB; rw [hin]; rfl
    clear hV hin hr
    go_enter Tryz.func33, Tryz.ntmps33
    go_wp2_with fail
    refine (C1.out _).mono ?_
    rintro e w1 ⟨rfl, rfl⟩
    go_wp2_with fail
    go_ret
    exact ⟨rfl, hb0⟩
  · rw [hin] at C1
    have h0 : 0 < M.length := by have := inB_t.1 hin; omega
    have CC := Lib.hid (fun (b0 : Nat) (u : World) (hb : Below w.heap.size w u) (hc : u.cell? ⟨b0, 0, none⟩ = some (.slice ad M.length cap)) => containsM1 69 (.pointer (some ⟨b0, 0, none⟩)) (fun r => !(vecB r && decide (r.length = (M.getD 0 []).length))) ad cap M u hl (hr.below hb)
      (callFunc_plainM Tryz.func69 (by kernel_rfl) (by kernel_rfl)) (fun i hi a c w2 hb2 hri => isMatrix1_c b0 ad cap M a c (M.getD i []) w2 (by rw [bcell' hb2 hc]) ((hr.below hb).below hb2) h0 hri (hl2 i hi) (hl2 0 h0)))
    have hany : (!(M.any fun r => !(vecB r && decide (r.length = (M.getD 0 []).length)))) = V := by
      rw [← hV]
      unfold matB
      rw [hin, Bool.true_and, List.any_eq_not_all_not, Bool.not_not]
      congr 1
      funext r
      rw [Bool.not_not]
    generalize (M.any fun r => !(vecB r && decide (r.length = (M.getD 0 []).length))) = A at CC hany
    obtain rfl : A = !V := by rw [← hany, Bool.not_not]
    clear hV hin hr hany
    go_enter Tryz.func33, Tryz.ntmps33
    go_wp2_with fail
    refine (C1.out _).mono ?_
    rintro e w1 ⟨rfl, rfl⟩
    have k1 : (w.alloc (.cells #[.slice ad M.length cap] 23)).cell? ⟨w.heap.size, 0, none⟩ = some (.slice ad M.length cap) := by simp [go_sem]
    go_wp2_with fail
    refine (CC.out _ _ hb0 k1).mono ?_
    rintro e w2 ⟨rfl, hb2⟩
    cases V
    all_goals
      go_wp2_with fail
      go_ret
      exact ⟨rfl, hb0.trans (hb2.mono hb0.size)⟩
set_option maxHeartbeats 1600000 in
theorem isSquare_c (ad : Option Addr) (cap : Nat) (M : List (List Int)) (w : World) (hr : RdM w ad M) (hl : M.length ≤ 1048576) (hl2 : ∀ i, i < M.length → (M.getD i []).length ≤ 1048576) :
    Calls Tryz.prog 26 #[.slice ad M.length cap] w fun e w' => e = .returned (.bool (sqB M)) ∧ Below w.heap.size w w' := by
  have C1 := Lib.hid (isMatrix_c ad cap M w hr hl hl2)
  unfold sqB
  cases hm : matB M
  · rw [hm] at C1
    clear hm hr
    go_enter Tryz.func26, Tryz.ntmps26
    go_wp2_with fail
    refine C1.out.mono ?_
    rintro e w1 ⟨rfl, hb1⟩
    go_wp2_with fail
    go_ret
    exact ⟨rfl, hb1⟩
  · rw [hm] at C1
    have h0 : 0 < M.length := by
      unfold matB at hm
      simp only [Bool.and_eq_true] at hm
      have := inB_t.1 hm.1
      omega
    obtain ⟨bm, om, a0, c0, rfl, hbm, k2, _⟩ := hr 0 h0
    rw [Nat.add_zero] at k2
    have x2 : (0 : Int) < (M.length : Int) := by omega
    have x3 : 0 < M.length := h0
    rw [Bool.true_and]
    obtain ⟨m, hm2⟩ : ∃ n, (M.getD 0 []).length = n := ⟨_, rfl⟩
    rw [hm2] at k2 ⊢
    obtain ⟨n, hn⟩ : ∃ n, M.length = n := ⟨_, rfl⟩
    rw [hn] at C1 x2 x3 ⊢
    obtain ⟨q, hq⟩ : ∃ q, ((n : Int) == (m : Int)) = q := ⟨_, rfl⟩
    have hq2 : (n == m) = q := by rw [← hq, (natEq n m).1, (natEq n m).2.1]
    have hq3 : decide (n = m) = q := by rw [← hq, (natEq n m).1]
    rw [hq3]
    clear hm hr hm2 hn hq3 h0 hl hl2
    go_enter Tryz.func26, Tryz.ntmps26
    go_wp2_with fail
    refine C1.out.mono ?_
    rintro e w1 ⟨rfl, hb1⟩
    have k3 := bcell hb1 hbm k2
    go_wp2_with fail
    go_ret
    exact ⟨rfl, hb1⟩
set_option maxHeartbeats 1600000 in
theorem mxGood_c (ad : Option Addr) (cap : Nat) (M : List (List Int)) (w : World) (hr : RdM w ad M) (hl : M.length ≤ 1048576) (hl2 : ∀ i, i < M.length → (M.getD i []).length ≤ 1048576) :
    Calls Tryz.prog 35 #[.slice ad M.length cap] w fun e w' => e = .returned (.bool (matB M)) ∧ w = w' := by
  have C1 := Lib.hid (fun w => l1In_any M.length 1 6 w)
  obtain ⟨V, hV⟩ : ∃ V, matB M = V := ⟨_, rfl⟩
  rw [hV]
  cases hin : inB M.length 1 6
  · rw [hin] at C1
    obtain rfl : V = false := by rw [← hV]; unfold matB; rw [hin]; rfl
    clear hV hin hr
    go_enter Tryz.func35, Tryz.ntmps35
    go_wp2_with fail
    refine (C1.out _).mono ?_
    rintro e w1 ⟨rfl, rfl⟩
    go_wp2_with fail
    go_ret
    exact ⟨rfl, rfl⟩
  · rw [hin] at C1
    have h0 : 0 < M.length := by have := inB_t.1 hin; omega
    obtain ⟨bm, om, a0, c0, rfl, hbm, k2, _⟩ := hr 0 h0
    rw [Nat.add_zero] at k2
    have x2 : (0 : Int) < (M.length : Int) := by omega
    have C2 := Lib.hid (fun w => l1In_any (M.getD 0 []).length 1 6 w)
    have hVV : (M.all fun r => vecB r && decide (r.length = (M.getD 0 []).length)) = V := by rw [← hV]; unfold matB; rw [hin, Bool.true_and]
    have HV := Lib.hid hVV
    have HR := Lib.hid hr
    clear hV hin hr hVV
    cases hin2 : inB (M.getD 0 []).length 1 6
    · rw [hin2] at C2
      obtain rfl : V = false := by
        rw [← HV.out]
        refine allM_f h0 ?_
        unfold vecB
        rw [hin2]
        rfl
      generalize (M.getD 0 []).length = m at k2 C2
      clear hin2
      go_enter Tryz.func35, Tryz.ntmps35
      go_wp2_with fail
      refine (C1.out _).mono ?_
      rintro e w1 ⟨rfl, rfl⟩
      go_wp2_with fail
      refine (C2.out _).mono ?_
      rintro e w1 ⟨rfl, rfl⟩
      go_wp2_with fail
      go_ret
      exact ⟨rfl, rfl⟩
    · rw [hin2] at C2
      clear hin2
      obtain ⟨m, hm⟩ : ∃ n, (M.getD 0 []).length = n := ⟨_, rfl⟩
      rw [hm] at k2 C2 HV
      have HM := Lib.hid hm; clear hm
      go_enter Tryz.func35, Tryz.ntmps35
      go_wp2_with fail
      refine (C1.out _).mono ?_
      rintro e w1 ⟨rfl, rfl⟩
      go_wp2_with fail
      refine (C2.out _).mono ?_
      rintro e w1 ⟨rfl, rfl⟩
      go_wp2_with fail
      go_loop [19] (fun i => ∃ k : Nat, k ≤ M.length ∧ i = .int .i64 k ∧ ∀ j, j < k → (vecB (M.getD j []) && decide ((M.getD j []).length = m)) = true) (fun i => M.length - (intOf i).toNat)
      case atStart => exact ⟨0, Nat.zero_le _, rfl, fun j hj => by omega⟩
      case round =>
        obtain ⟨k, hk, rfl, hj⟩ := hrel
        have HJ := Lib.hid hj; clear hj
        by_cases hlt : k < M.length
        · obtain ⟨a, c, cc, hri⟩ := HR.out.at hlt
          have y1 : (0 : Int) ≤ (k : Int) := by omega
          have y2 : (k : Int) < (M.length : Int) := by omega
          have C3 := Lib.hid (mxVector_c a c (M.getD k []) w hri (hl2 k hlt))
          obtain ⟨r, hx⟩ : ∃ x, M.getD k [] = x := ⟨_, rfl⟩
          rw [hx] at cc C3
          have HX := Lib.hid hx; clear hx hri
          obtain ⟨n, hn⟩ : ∃ n, r.length = n := ⟨_, rfl⟩
          rw [hn] at cc C3
          have HN := Lib.hid hn; clear hn
          obtain ⟨v, hv⟩ : ∃ v, vecB r = v := ⟨_, rfl⟩
          rw [hv] at C3
          have HVV := Lib.hid hv; clear hv
          by_cases e : n = m
          · have g1 : ((n : Int) != (m : Int)) = false := by rw [e]; exact bne_self_eq_false _
            have g2 : (n != m) = false := by rw [e]; exact bne_self_eq_false _
            have HE := Lib.hid e; clear e
            cases v
            · obtain rfl : V = false := by rw [← HV.out]; exact allM_f hlt (by rw [HX.out, HVV.out]; rfl)
              go_wp2_with fail
              refine C3.out.mono ?_
              rintro e w1 ⟨rfl, rfl⟩
              go_wp2_with fail
              go_ret
              exact ⟨rfl, rfl⟩
            · go_wp2_with fail
              refine C3.out.mono ?_
              rintro e w1 ⟨rfl, rfl⟩
              go_wp2_with fail
              go_round
              case rel =>
                refine ⟨k + 1, by omega, by go_num, fun j hj => ?_⟩
                by_cases e : j = k
                · subst e; rw [HX.out, HVV.out, HN.out]; exact decide_eq_true HE.out
                · exact HJ.out j (by omega)
              case measure => simp [intOf]; omega
          · have g1 : ((n : Int) != (m : Int)) = true := by simpa using (by omega : ¬ (n : Int) = (m : Int))
            have g2 : (n != m) = true := by simpa using e
            obtain rfl : V = false := by rw [← HV.out]; exact allM_f hlt (by rw [HX.out, HN.out, decide_eq_false e, Bool.and_false])
            clear e
            go_wp2_with fail
            go_ret
            exact ⟨rfl, rfl⟩
        · obtain rfl : k = M.length := by omega
          obtain rfl : V = true := by rw [← HV.out]; exact allM_t HJ.out
          go_wp2_with fail
          go_ret
          exact ⟨rfl, rfl⟩
set_option maxHeartbeats 1600000 in
theorem mxSquare_c (ad : Option Addr) (cap : Nat) (M : List (List Int)) (w : World) (hr : RdM w ad M) (hl : M.length ≤ 1048576) (hl2 : ∀ i, i < M.length → (M.getD i []).length ≤ 1048576) :
    Calls Tryz.prog 29 #[.slice ad M.length cap] w fun e w' => e = .returned (.bool (sqB M)) ∧ w = w' := by
  have C1 := Lib.hid (mxGood_c ad cap M w hr hl hl2)
  unfold sqB
  cases hm : matB M
  · rw [hm] at C1
    clear hm hr
    go_enter Tryz.func29, Tryz.ntmps29
    go_wp2_with fail
    refine C1.out.mono ?_
    rintro e w1 ⟨rfl, rfl⟩
    go_wp2_with fail
    go_ret
    exact ⟨rfl, rfl⟩
  · rw [hm] at C1
    have h0 : 0 < M.length := by
      unfold matB at hm
      simp only [Bool.and_eq_true] at hm
      have := inB_t.1 hm.1
      omega
    obtain ⟨bm, om, a0, c0, rfl, hbm, k2, _⟩ := hr 0 h0
    rw [Nat.add_zero] at k2
    have x2 : (0 : Int) < (M.length : Int) := by omega
    have x3 : 0 < M.length := h0
    rw [Bool.true_and]
    obtain ⟨m, hm2⟩ : ∃ n, (M.getD 0 []).length = n := ⟨_, rfl⟩
    rw [hm2] at k2 ⊢
    obtain ⟨n, hn⟩ : ∃ n, M.length = n := ⟨_, rfl⟩
    rw [hn] at C1 x2 x3 ⊢
    obtain ⟨q, hq⟩ : ∃ q, ((n : Int) == (m : Int)) = q := ⟨_, rfl⟩
    have hq2 : (n == m) = q := by rw [← hq, (natEq n m).1, (natEq n m).2.1]
    have hq3 : decide (n = m) = q := by rw [← hq, (natEq n m).1]
    rw [hq3]
    clear hm hr hm2 hn hq3 h0 hl hl2
    go_enter Tryz.func29, Tryz.ntmps29
    go_wp2_with fail
    refine C1.out.mono ?_
    rintro e w1 ⟨rfl, rfl⟩
    go_wp2_with fail
    go_ret
    exact ⟨rfl, rfl⟩
/-! ### square: what it says -/
theorem sq_facts {M : List (List Int)} (h : sqB M = true) : (1 ≤ M.length ∧ M.length ≤ 6) ∧ (∀ i, i < M.length → (M.getD i []).length = M.length) ∧ ∀ i j, i < M.length → j < M.length → numB ((M.getD i []).getD j 0) = true := by
  unfold sqB matB at h
  simp only [Bool.and_eq_true, decide_eq_true_eq] at h
  obtain ⟨⟨h1, h2⟩, h3⟩ := h
  have h4 := inB_t.1 h1
  have h5 : ∀ i, i < M.length → vecB (M.getD i []) = true ∧ (M.getD i []).length = M.length := fun i hi => by
    have := List.all_eq_true.1 h2 _ (getD_memM hi)
    simp only [Bool.and_eq_true, decide_eq_true_eq] at this
    exact ⟨this.1, by rw [this.2, h3]⟩
  refine ⟨by omega, fun i hi => (h5 i hi).2, fun i j hi hj => ?_⟩
  have h6 := (h5 i hi).1
  unfold vecB at h6
  simp only [Bool.and_eq_true] at h6
  refine List.all_eq_true.1 h6.2 _ ?_
  exact getD_memI (by rw [(h5 i hi).2]; exact hj)
def entM (M : List (List Int)) : Nat → Nat → Int := fun i j => (M.getD i []).getD j 0
theorem sq_toM {M : List (List Int)} (h : sqB M = true) : toM M.length (entM M) = M := by
  obtain ⟨_, h2, _⟩ := sq_facts h
  apply List.ext_getElem (by rw [toM_len])
  intro i hi hi2
  have e1 : (toM M.length (entM M))[i] = tab M.length (entM M i) := by
    have := toM_row (n := M.length) (entM M) hi2
    rw [List.getD_eq_getElem?_getD, List.getElem?_eq_getElem hi, Option.getD_some] at this
    exact this
  have e2 : M.getD i [] = M[i] := by rw [List.getD_eq_getElem?_getD, List.getElem?_eq_getElem hi2, Option.getD_some]
  have h3 := h2 i hi2
  rw [e2] at h3
  rw [e1]
  apply List.ext_getElem (by rw [tab_length, h3])
  intro j hj hj2
  have hj3 : j < M.length := by rw [tab_length] at hj; exact hj
  have e3 := tab_getD (f := entM M i) hj3 (0 : Int)
  rw [List.getD_eq_getElem?_getD, List.getElem?_eq_getElem hj, Option.getD_some] at e3
  rw [e3]
  unfold entM
  rw [e2, List.getD_eq_getElem?_getD, List.getElem?_eq_getElem hj2, Option.getD_some]

end Go.Proofs.YtfgdhlnmndgjbaaGreatDoor

/-
  Matrices copied: program and reference; appends of numbers. By an AI agent.
-/
namespace Go.Proofs.YtfgdhlnmndgjbaaGreatDoor
open Go.RowKit

/-- append of numbers in the list of a plain region. -/
theorem wpList_appN {w : World} {ops : Array Oper} {rest : List Oper} {o : Oper} {a : Act} {Q : Exit → Act → World → Prop} (hgd : o.guard = none) (s x : Operand)
    (ho : o.op = .call { callee := .builtin .append, args := #[s, x], argTypes := #[38, 38] })
    (B b off c : Nat) (v : Value) (l m : List Int) (N : Nat) (hN : l.length + m.length = N) (hs : a.eval s = v) (hx : a.eval x = .slice (some ⟨b, off, none⟩) m.length c) (hown : RowI w B v l) (hX : RdI w (some ⟨b, off, none⟩) m) (hl : l.length ≤ 100000) (hm : m.length ≤ 100000) (hB : B ≤ w.heap.size)
    (h : ∀ v' w', RowI w' B v' (l ++ m) → (0 < N → ∃ g cap, v' = .slice (some ⟨g, 0, none⟩) N cap ∧ B ≤ g) → Below B w w' → w.grownBy w' v.ownBlock → wpList Tryz.prog ops Q rest (a.put o.dst v') w') : wpList Tryz.prog ops Q (o :: rest) a w := by
  refine wpList_plain hgd fun _ hK => ?_
  obtain ⟨iP, hiP, hzP, hsP, hbP⟩ := info_parts Tryz.infoI
  obtain ⟨v', w', hr, h2, h3, _, _⟩ := run_append_own_at (P := Tryz.prog) w B 38 o.type 3 iP _ 1 8 Tryz.underlying38 hiP hzP hsP hbP rfl (by omega) v l.length (ints l) hown ⟨b, off, none⟩ m.length c (ints m) (by rw [ints_length]; omega) (fun j u hu => by
    have hj : j < m.length := by
      have := (List.getElem?_eq_some_iff.1 hu).1
      rwa [ints_length] at this
    rw [addr_plain, hX.at hj]
    rw [ints_get hj] at hu
    exact hu) (ints_oneCell m) (by unfold maxLen; omega) (by omega) hB
  have hrow : RowI w' B v' (l ++ m) := row_congr h2 (by simp) (by simp [ints])
  have hbl := (Below.refl B w).grown h3 hB (fun q e => (World.ownsRow.lt hown q e).1)
  unfold Oper.wp execOp
  simp only [ho, resolve, invoke, builtin, Sem.run_bind, Sem.run_pure, Result.andThen_ok, List.map_toArray, List.map_cons, List.map_nil, hs, hx, hr]
  refine hK _ _ (h _ w' hrow (fun h0 => ?_) hbl h3)
  rcases Own.of_row hrow with ⟨_, h1, _⟩ | ⟨g, cap, h1, hg, _⟩
  · rw [List.length_append] at h1; omega
  · exact ⟨g, cap, by rw [h1, List.length_append, hN], hg⟩
/-- append of numbers in the list of a plain region. -/
theorem wpList_appB {w : World} {ops : Array Oper} {rest : List Oper} {o : Oper} {a : Act} {Q : Exit → Act → World → Prop} (hgd : o.guard = none) (s x : Operand)
    (ho : o.op = .call { callee := .builtin .append, args := #[s, x], argTypes := #[38, 38] })
    (B b off c : Nat) (v : Value) (l m : List Int) (N : Nat) (hN : l.length + m.length = N) (hs : a.eval s = v) (hx : a.eval x = .slice (some ⟨b, off, none⟩) m.length c) (hown : RowI w B v l) (hX : RdI w (some ⟨b, off, none⟩) m) (hl : l.length ≤ 100000) (hm : m.length ≤ 100000) (hB : B ≤ w.heap.size)
    (h : ∀ v' w', RowI w' B v' (l ++ m) → (0 < N → ∃ g cap, v' = .slice (some ⟨g, 0, none⟩) N cap ∧ B ≤ g) → Below B w w' → w.grownBy w' v.ownBlock → (v'.ownBlock = v.ownBlock ∨ v'.ownBlock = some w.heap.size) → wpList Tryz.prog ops Q rest (a.put o.dst v') w') : wpList Tryz.prog ops Q (o :: rest) a w := by
  refine wpList_plain hgd fun _ hK => ?_
  obtain ⟨iP, hiP, hzP, hsP, hbP⟩ := info_parts Tryz.infoI
  obtain ⟨v', w', hr, h2, h3, _, h5⟩ := run_append_own_at (P := Tryz.prog) w B 38 o.type 3 iP _ 1 8 Tryz.underlying38 hiP hzP hsP hbP rfl (by omega) v l.length (ints l) hown ⟨b, off, none⟩ m.length c (ints m) (by rw [ints_length]; omega) (fun j u hu => by
    have hj : j < m.length := by
      have := (List.getElem?_eq_some_iff.1 hu).1
      rwa [ints_length] at this
    rw [addr_plain, hX.at hj]
    rw [ints_get hj] at hu
    exact hu) (ints_oneCell m) (by unfold maxLen; omega) (by omega) hB
  have hrow : RowI w' B v' (l ++ m) := row_congr h2 (by simp) (by simp [ints])
  have hbl := (Below.refl B w).grown h3 hB (fun q e => (World.ownsRow.lt hown q e).1)
  unfold Oper.wp execOp
  simp only [ho, resolve, invoke, builtin, Sem.run_bind, Sem.run_pure, Result.andThen_ok, List.map_toArray, List.map_cons, List.map_nil, hs, hx, hr]
  refine hK _ _ (h _ w' hrow (fun h0 => ?_) hbl h3 h5)
  rcases Own.of_row hrow with ⟨_, h1, _⟩ | ⟨g, cap, h1, hg, _⟩
  · rw [List.length_append] at h1; omega
  · exact ⟨g, cap, by rw [h1, List.length_append, hN], hg⟩
theorem rowI_new (u : World) (B H : Nat) (hB : B ≤ u.heap.size) (hH : u.heap.size = H) : RowI (u.alloc (.cells #[] 3)) B (.slice (some ⟨H, 0, none⟩) 0 0) [] := by
  subst hH
  exact World.ownsRow_made u #[] 0 hB (by decide) rfl
theorem RowI.alloc' {w : World} {B : Nat} {v : Value} {l : List Int} {o : Obj} (h : RowI w B v l) : RowI (w.alloc o) B v l := h.below ((Below.refl _ _).alloc (Nat.le_refl _) _)
theorem RowI.low {w : World} {B B' : Nat} {v : Value} {l : List Int} (h : RowI w B v l) (hB : B' ≤ B) : RowI w B' v l := row_mono h hB
theorem rdI_one (u : World) (H : Nat) (x : Int) (hH : u.heap.size = H) : RdI (u.alloc (.cells #[.int .i64 x] 3)) (some ⟨H, 0, none⟩) [x] := by
  subst hH
  intro j hj
  obtain rfl : j = 0 := by simpa using hj
  exact ⟨_, _, rfl, by simp, by simp [go_sem]⟩

set_option maxHeartbeats 800000 in
theorem l1OwnN_c (ad : Option Addr) (cap : Nat) (l : List Int) (w : World) (hr : RdI w ad l) (h0 : 0 < l.length) (hl : l.length ≤ 100000) :
    Calls Tryz.prog 64 #[.slice ad l.length cap] w fun e w' => ∃ g cap', e = .returned (.slice (some ⟨g, 0, none⟩) l.length cap') ∧ RowI w' w.heap.size (.slice (some ⟨g, 0, none⟩) l.length cap') l ∧ w.heap.size ≤ g ∧ Below w.heap.size w w' := by
  obtain ⟨b, off, rfl, _, _⟩ := hr 0 h0
  have HO := Lib.hid (rowI_new w w.heap.size w.heap.size (Nat.le_refl _) rfl)
  have HX := Lib.hid (hr.below ((Below.refl _ _).alloc (Nat.le_refl _) (.cells #[] 3)))
  clear hr
  go_enter Tryz.func64, Tryz.ntmps64
  go_wp2_with (at_builtin; refine wpList_appN rfl _ _ rfl w.heap.size _ _ _ _ [] l l.length (by simp) rfl rfl HO.out HX.out (by simp) hl (by simp) ?_; intro v5 wm hown hsh hbm hgr)
  obtain ⟨g, cap5, rfl, hg⟩ := hsh h0
  rw [List.nil_append] at hown
  have HOW := Lib.hid hown; clear hown hgr hsh
  go_wp2_with fail
  go_ret
  exact ⟨g, cap5, rfl, HOW.out, hg, ((Below.refl _ _).alloc (Nat.le_refl _) _).trans hbm⟩

theorem takeM_snoc (M : List (List Int)) (k : Nat) (h : k < M.length) : M.take (k + 1) = M.take k ++ [M.getD k []] := by
  rw [List.take_succ_eq_append_getElem h, List.getD_eq_getElem?_getD, List.getElem?_eq_getElem h, Option.getD_some]

set_option maxHeartbeats 1600000 in
set_option maxRecDepth 100000 in
theorem mxOwn_c (ad : Option Addr) (cap : Nat) (M : List (List Int)) (w : World) (hr : RdM w ad M) (hl : M.length ≤ 1000) (hp : ∀ i, i < M.length → 0 < (M.getD i []).length ∧ (M.getD i []).length ≤ 100000) :
    Calls Tryz.prog 53 #[.slice ad M.length cap] w fun e w' => ∃ v, e = .returned v ∧ (∃ vs, MatO w' w.heap.size v M vs) ∧ Below w.heap.size w w' := by
  have HR := Lib.hid hr; have HP := Lib.hid hp
  clear hr hp
  go_enter Tryz.func53, Tryz.ntmps53
  go_wp2_with fail
  go_loopw [3, 8] (fun v i wr => ∃ (k : Nat) (vs : List Value), k ≤ M.length ∧ i = .int .i64 k ∧ MatO wr w.heap.size v (M.take k) vs ∧ Below w.heap.size w wr) (fun _ i _ => M.length - (intOf i).toNat)
  case atStart => exact ⟨0, [], Nat.zero_le _, rfl, MatO.nil _ _, Below.refl _ _⟩
  case round =>
    obtain ⟨wE, rfl⟩ : ∃ x : World, x = wr := ⟨_, rfl⟩
    obtain ⟨k, vs, hk, rfl, hmat, hbel⟩ := hrel
    obtain ⟨adv, cav, rfl, _⟩ := hmat.shape
    have HM := Lib.hid hmat; clear hmat
    have htl : (M.take k).length = k := by rw [List.length_take]; omega
    by_cases hlt : k < M.length
    case neg =>
      obtain rfl : k = M.length := by omega
      rw [List.take_length] at HM htl ⊢
      go_wp2_with fail
      go_ret
      exact ⟨_, rfl, ⟨vs, HM.out⟩, hbel⟩
    case pos =>
      obtain ⟨b, off, a, c, rfl, hb, cc, hri⟩ := HR.out k hlt
      have dd := bcell hbel hb cc
      obtain ⟨p1, p2⟩ := HP.out k hlt
      have CC := Lib.hid (l1OwnN_c a c (M.getD k []) wE (hri.below hbel) p1 p2)
      have hsn := takeM_snoc M k hlt
      have x1 : (0 : Int) ≤ (k : Int) := by omega
      have x2 : (k : Int) < (M.length : Int) := by omega
      have hsz := hbel.size
      obtain ⟨r, hr⟩ : ∃ r, M.getD k [] = r := ⟨_, rfl⟩
      rw [hr] at dd CC hsn
      have HSN := Lib.hid hsn; clear hsn hr hri cc p1 p2
      obtain ⟨n, hn⟩ : ∃ n, r.length = n := ⟨_, rfl⟩
      rw [hn] at dd CC
      clear hn
      obtain ⟨L, hL⟩ : ∃ L, M.take k = L := ⟨_, rfl⟩
      rw [hL] at HM HSN htl ⊢
      clear hL
      have HTL := Lib.hid htl
      rw [htl] at HM ⊢
      clear htl
      go_wp2_with fail
      refine CC.out.mono ?_
      rintro e w1 ⟨g, c1, rfl, hrow, hg, hb1⟩
      have hM1 := HM.out.below hb1
      have hlow := HM.out.low
      have hsz1 := hb1.size
      have HX := Lib.hid (CellO.of_row (hrow.low (B' := w.heap.size) hsz))
      have HM1 := Lib.hid hM1; have HLOW := Lib.hid hlow
      clear hrow hM1 hlow CC HM
      go_wp2_with (at_builtin; refine wpList_appM rfl _ _ rfl w.heap.size wE.heap.size w1.heap.size _ (.slice (some ⟨g, 0, none⟩) n c1) L vs r (k + 1) (by rw [HTL.out]) rfl rfl (by simp [go_sem]) (HM1.out.below ((Below.refl _ _).alloc (Nat.le_refl _) _)) (HX.out.below ((Below.refl _ _).alloc (Nat.le_refl _) _)) (fun q hq => by cases hq; exact hg) HLOW.out (by rw [HTL.out]; omega) (by simp; omega) ?_; intro ad5 cap5 wm hmat5 hbm)
      have hb3 := ((hbel.trans (hb1.mono hsz)).alloc (by omega) (.cells #[.slice (some ⟨g, 0, none⟩) n c1] 38)).trans hbm
      rw [← HSN.out] at hmat5
      have HM5 := Lib.hid hmat5; clear hmat5 hbm
      go_roundw
      case rel => exact ⟨k + 1, _, by omega, by go_num, HM5.out, hb3⟩
      case measure => simp [intOf]; omega

end Go.Proofs.YtfgdhlnmndgjbaaGreatDoor
