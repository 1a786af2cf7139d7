/-
  Divisors: bounds of chips, sums, places of debts: reference and program.
-/
import Derived.Test.YtmhmdbmiimpbnaaVal
namespace Go.Proofs.Ytmhmdbmiimpbnaa
open Go.RowKit

def allB (l : List Int) (lo hi : Int) : Bool := l.all fun x => inB x lo hi
def chipsB (n : Int) (d : List Int) : Bool := decide ((d.length : Int) = n) && allB d (-1000) 1000
def bothB (n : Int) (ls : List Lk) (d : List Int) : Bool := goodL n ls && chipsB n d
theorem allB_t {l : List Int} {lo hi : Int} : allB l lo hi = true ↔ ∀ j, j < l.length → lo ≤ l.getD j 0 ∧ l.getD j 0 ≤ hi := by
  unfold allB
  rw [List.all_eq_true]
  constructor
  · intro h j hj
    have := h (l.getD j 0) (by simp [List.getD, hj])
    exact inB_t.1 this
  · intro h x hx
    obtain ⟨j, hj, rfl⟩ := List.getElem_of_mem hx
    have := h j hj
    rw [inB_t]
    simpa [List.getD, hj] using this
theorem allB_f {l : List Int} {lo hi : Int} {j : Nat} (hj : j < l.length) (h : inB (l.getD j 0) lo hi = false) : allB l lo hi = false := by
  unfold allB
  rw [List.all_eq_false]
  exact ⟨l.getD j 0, by simp [List.getD, hj], by simpa using h⟩
theorem chipsB_t {n : Int} {d : List Int} (h : chipsB n d = true) : (d.length : Int) = n ∧ ∀ j, j < d.length → -1000 ≤ d.getD j 0 ∧ d.getD j 0 ≤ 1000 := by
  simp only [chipsB, Bool.and_eq_true, decide_eq_true_eq] at h
  exact ⟨h.1, allB_t.1 h.2⟩
theorem bothB_t {n : Int} {ls : List Lk} {d : List Int} (h : bothB n ls d = true) : goodL n ls = true ∧ chipsB n d = true := by
  simpa [bothB] using h

theorem isum_take_bound {l : List Int} {c : Int} (hc : 0 ≤ c) (h : ∀ j, j < l.length → -c ≤ l.getD j 0 ∧ l.getD j 0 ≤ c) : ∀ k, k ≤ l.length → -(k * c) ≤ isum (l.take k) ∧ isum (l.take k) ≤ k * c
  | 0, _ => by simp [isum_nil]
  | k + 1, hk => by
    have ih := isum_take_bound hc h k (by omega)
    have g := h k (by omega)
    rw [take_snoc l k 0 (by omega), isum_snoc]
    have : ((k + 1 : Nat) : Int) * c = k * c + c := by rw [Int.natCast_add, Int.add_mul]; simp
    omega

/-- The places, from 0 to k - 1, that p picks. -/
def selF (k : Nat) (p : Nat → Bool) : List Int := ((List.range k).filter p).map fun i : Nat => (i : Int)
theorem selF_zero (p : Nat → Bool) : selF 0 p = [] := rfl
theorem selF_hit {k : Nat} {p : Nat → Bool} (h : p k = true) : selF (k + 1) p = selF k p ++ [(k : Int)] := by simp [selF, List.range_succ, h]
theorem selF_miss {k : Nat} {p : Nat → Bool} (h : p k = false) : selF (k + 1) p = selF k p := by simp [selF, List.range_succ, h]
theorem selF_len (k : Nat) (p : Nat → Bool) : (selF k p).length ≤ k := by
  have := List.length_filter_le p (List.range k)
  simpa [selF] using this

set_option maxHeartbeats 400000 in
theorem l1All_any (ad : Option Addr) (cap : Nat) (xs : List Int) (lo hi : Int) (w : World) (hl : xs.length ≤ 1048576) (hr : RdI w ad xs) :
    Calls Try.prog 111 #[.slice ad xs.length cap, .int .i64 lo, .int .i64 hi] w fun e w' => e = .returned (.bool (allB xs lo hi)) ∧ w = w' := by
  have HR := Lib.hid hr; clear hr
  go_enter Try.func111, Try.ntmps111
  go_wp2
  go_loop [11] (fun i => ∃ k : Nat, k ≤ xs.length ∧ i = .int .i64 k ∧ ∀ j, j < k → lo ≤ xs.getD j 0 ∧ xs.getD j 0 ≤ hi) (fun i => xs.length - (intOf i).toNat)
  case atStart => exact ⟨0, Nat.zero_le _, rfl, fun j hj => by omega⟩
  case round =>
    obtain ⟨k, hk, rfl, hj⟩ := hrel
    have HJ := Lib.hid hj; clear hj
    by_cases hlt : k < xs.length
    · obtain ⟨b, off, rfl, hb, c⟩ := HR.out k hlt
      generalize hx : xs.getD k 0 = x at c
      have HX := Lib.hid hx; clear hx
      by_cases h1 : inB x lo hi = true
      · go_wp2_with (go_at_call 105; refine (l1In_any _ _ _ _).mono ?_; rintro e w' ⟨rfl, rfl⟩)
        go_round
        case rel =>
          refine ⟨k + 1, by omega, by go_num, fun j hj => ?_⟩
          by_cases e : j = k
          · subst e; rw [HX.out]; exact inB_t.1 h1
          · exact HJ.out j (by omega)
        case measure => simp [intOf]; omega
      · have h1' := Bool.eq_false_iff.2 h1
        go_wp2_with (go_at_call 105; refine (l1In_any _ _ _ _).mono ?_; rintro e w' ⟨rfl, rfl⟩)
        go_ret
        exact ⟨ret_bool (allB_f hlt (by rw [HX.out]; exact h1')).symm, rfl⟩
    · have he : k = xs.length := by omega
      subst he
      go_wp2
      go_ret
      exact ⟨ret_bool (allB_t.2 HJ.out).symm, rfl⟩

set_option maxHeartbeats 400000 in
theorem chSum_any (ad : Option Addr) (cap : Nat) (xs : List Int) (w : World) (hl : xs.length ≤ 1048576) (hr : RdI w ad xs) (hx : ∀ j, j < xs.length → -1000000 ≤ xs.getD j 0 ∧ xs.getD j 0 ≤ 1000000) :
    Calls Try.prog 112 #[.slice ad xs.length cap] w fun e w' => e = .returned (.int .i64 (isum xs)) ∧ w = w' := by
  have HR := Lib.hid hr; clear hr
  have HX := Lib.hid hx; clear hx
  go_enter Try.func112, Try.ntmps112
  go_wp2
  go_loop [3, 8] (fun s i => ∃ k : Nat, k ≤ xs.length ∧ i = .int .i64 k ∧ s = .int .i64 (isum (xs.take k))) (fun _ i => xs.length - (intOf i).toNat)
  case atStart => exact ⟨0, Nat.zero_le _, rfl, by simp [isum_nil]⟩
  case round =>
    obtain ⟨k, hk, rfl, rfl⟩ := hrel
    have bd := isum_take_bound (c := 1000000) (by omega) HX.out k hk
    by_cases hlt : k < xs.length
    · obtain ⟨b, off, rfl, hb, c⟩ := HR.out k hlt
      have bx := HX.out k hlt
      have st : isum (xs.take (k + 1)) = isum (xs.take k) + xs.getD k 0 := by rw [take_snoc xs k 0 hlt, isum_snoc]
      have HS := Lib.hid st; clear st
      generalize xs.getD k 0 = x at c bx HS
      generalize isum (xs.take k) = s at bd HS ⊢
      go_wp2
      go_round
      case rel => exact ⟨k + 1, by omega, by go_num, by rw [HS.out]⟩
      case measure => simp [intOf]; omega
    · have he : k = xs.length := by omega
      subst he
      rw [List.take_length] at bd ⊢
      go_wp2
      go_ret
      exact ⟨rfl, rfl⟩

set_option maxHeartbeats 400000 in
theorem areChips1_any (x m : Int) (b : Nat) (w : World) (hm0 : 0 ≤ m) (hm1 : m ≤ 1000000) (hc : w.cell? ⟨b, 0, none⟩ = some (.int .i64 m)) :
    Calls Try.prog 120 #[.int .i64 x, .pointer (some ⟨b, 0, none⟩)] w fun e w' => e = .returned (.bool (!inB x (-m) m)) ∧ w = w' := by
  go_enter Try.func120, Try.ntmps120
  go_wp2_with (go_at_call 107; refine (within_any _ _ _ _).mono ?_; rintro e w' ⟨rfl, rfl⟩)
  go_ret
  exact ⟨rfl, rfl⟩

theorem callFunc_plain {P : Program} {f : FuncId} {fn : Func} (hf : P.funcs[f]? = some fn) (hname : (fn.name == "runtime.NumGoroutine") = false) (hb : fn.body.isNone = false) (args : Array Value) (w : World) :
    (callFunc f args).run P w = .ok (.enter f args) w := by
  have h1 : fn.name ≠ "runtime.NumGoroutine" := by simpa using hname
  have h2 : fn.body ≠ none := by intro q; rw [q] at hb; simp at hb
  simp [callFunc, hf, h1, h2]

set_option maxHeartbeats 400000 in
theorem indexFunc_any (fid : FuncId) (c : Value) (p : Int → Bool) (ad : Option Addr) (cap : Nat) (xs : List Int) (w : World) (hl : xs.length ≤ 1048576) (hr : RdI w ad xs)
    (hcf : ∀ (xa : Array Value) (w : World), (callFunc fid xa).run Try.prog w = .ok (.enter fid xa) w) (hf : ∀ x, Calls Try.prog fid #[.int .i64 x, c] w fun e w' => e = .returned (.bool (p x)) ∧ w = w') :
    Calls Try.prog 124 #[.slice ad xs.length cap, .func (Fn.func fid) #[] #[c]] w fun e w' => (∃ r : Int, e = .returned (.int .i64 r) ∧ ((0 ≤ r ∧ xs.any p = true) ∨ (r = -1 ∧ xs.any p = false))) ∧ w = w' := by
  have HR := Lib.hid hr; clear hr
  have HF := Lib.hid hf; clear hf
  go_enter Try.func124, Try.ntmps124
  go_wp2_with fail
  go_loop [8] (fun i => ∃ k : Nat, k ≤ xs.length ∧ i = .int .i64 k ∧ ∀ j, j < k → p (xs.getD j 0) = false) (fun i => xs.length - (intOf i).toNat)
  case atStart => exact ⟨0, Nat.zero_le _, rfl, fun j hj => by omega⟩
  case round =>
    obtain ⟨k, hk, rfl, hj⟩ := hrel
    have HJ := Lib.hid hj; clear hj
    by_cases hlt : k < xs.length
    · obtain ⟨b, off, rfl, hb, cc⟩ := HR.out k hlt
      generalize hx : xs.getD k 0 = x at cc
      have HX := Lib.hid hx; clear hx
      by_cases h1 : p x = true
      · go_wp2_with fail
        refine (HF.out x).mono ?_
        rw [h1]
        rintro e w' ⟨rfl, rfl⟩
        go_wp2_with fail
        go_ret
        refine ⟨⟨k, rfl, Or.inl ⟨by omega, ?_⟩⟩, rfl⟩
        rw [List.any_eq_true]
        exact ⟨x, by rw [← HX.out]; simp [List.getD, hlt], h1⟩
      · have h1' := Bool.eq_false_iff.2 h1
        go_wp2_with fail
        refine (HF.out x).mono ?_
        rw [h1']
        rintro e w' ⟨rfl, rfl⟩
        go_wp2_with fail
        go_round
        case rel =>
          refine ⟨k + 1, by omega, by go_num, fun j hj => ?_⟩
          by_cases e : j = k
          · subst e; rw [HX.out]; exact h1'
          · exact HJ.out j (by omega)
        case measure => simp [intOf]; omega
    · have he : k = xs.length := by omega
      subst he
      go_wp2_with fail
      go_ret
      refine ⟨⟨-1, rfl, Or.inr ⟨rfl, ?_⟩⟩, rfl⟩
      intro x hx
      obtain ⟨j, hj, rfl⟩ := List.getElem_of_mem hx
      have := HJ.out j hj
      simpa [List.getD, hj] using this

set_option maxHeartbeats 400000 in
theorem containsFunc_any (fid : FuncId) (c : Value) (p : Int → Bool) (ad : Option Addr) (cap : Nat) (xs : List Int) (w : World) (hl : xs.length ≤ 1048576) (hr : RdI w ad xs)
    (hcf : ∀ (xa : Array Value) (w : World), (callFunc fid xa).run Try.prog w = .ok (.enter fid xa) w) (hf : ∀ x, Calls Try.prog fid #[.int .i64 x, c] w fun e w' => e = .returned (.bool (p x)) ∧ w = w') :
    Calls Try.prog 119 #[.slice ad xs.length cap, .func (Fn.func fid) #[] #[c]] w fun e w' => e = .returned (.bool (xs.any p)) ∧ w = w' := by
  go_enter Try.func119, Try.ntmps119
  go_wp2_with fail
  refine (indexFunc_any fid c p ad cap xs w hl hr hcf hf).mono ?_
  rintro e w' ⟨⟨r, rfl, hr1⟩, rfl⟩
  have HA := Lib.hid hr1; clear hr1
  by_cases h0 : 0 ≤ r
  · go_wp2
    go_ret
    exact ⟨ret_bool (by rcases HA.out with h | h; exact h.2.symm; omega), rfl⟩
  · have h0' : r < 0 := by omega
    go_wp2
    go_ret
    exact ⟨ret_bool (by rcases HA.out with h | h; omega; rw [h.2]; simp; omega), rfl⟩

set_option maxHeartbeats 400000 in
theorem areChips_any (G gb gv capb : Nat) (rb : Nat → Nat) (N : Nat) (bet : Nat → Nat → Int) (val : Nat → Int) (ed : Int) (ad : Option Addr) (cap : Nat) (d : List Int) (m : Int) (w : World) (h : GrAt w G gb gv capb rb N bet val ed) (hl : d.length ≤ 1048576) (hr : RdI w ad d) (hm0 : 0 ≤ m) (hm1 : m ≤ 1000000) :
    Calls Try.prog 91 #[.pointer (some ⟨G, 0, none⟩), .slice ad d.length cap, .int .i64 m] w fun e w' => e = .returned (.bool (decide (d.length = N) && allB d (-m) m)) ∧ Below w.heap.size w w' := by
  have hmf : ∀ (fn : Fn) (first cap : Array Value) (w : World), (Instr.makeFunc fn first cap).run Try.prog w = .ok (.func fn first cap) w := fun _ _ _ _ => rfl
  have c0 := (h.alloc (.cells #[.int .i64 m] 3)).c0
  have hb0 : Below w.heap.size w (w.alloc (.cells #[.int .i64 m] 3)) := (Below.refl _ _).alloc (Nat.le_refl _) _
  have hr1 := hr.below hb0
  have k0 := (Own.newA w #[.int .i64 m] 3 rfl).cell? (i := 0) rfl
  have hany : (d.any fun x => !inB x (-m) m) = !allB d (-m) m := by simp [allB, List.any_eq_not_all_not]
  have HA := Lib.hid hany; clear hany
  have HR := Lib.hid hr1; clear hr1 hr
  by_cases hn : d.length = N
  · have hd : ((d.length : Int) == (N : Int)) = true := by simp [hn]
    have HN := Lib.hid hn; clear hn
    go_enter Try.func91, Try.ntmps91
    go_wp2_with fail
    refine (containsFunc_any 120 _ (fun x => !inB x (-m) m) ad cap d _ hl HR.out (callFunc_plain Try.func120 (by kernel_rfl) (by kernel_rfl)) (fun x => areChips1_any x m _ _ hm0 hm1 k0)).mono ?_
    rw [HA.out]
    rintro e w' ⟨rfl, rfl⟩
    go_wp2
    go_ret
    exact ⟨ret_bool (by rw [HN.out]; simp), hb0⟩
  · have hd : ((d.length : Int) == (N : Int)) = false := by simpa using fun q => hn (by omega)
    have HN := Lib.hid hn; clear hn
    go_enter Try.func91, Try.ntmps91
    go_wp2
    go_ret
    exact ⟨ret_bool (by simp [HN.out]), hb0⟩

set_option maxHeartbeats 400000 in
theorem isDivisor_any (G gb gv capb : Nat) (rb : Nat → Nat) (N : Nat) (bet : Nat → Nat → Int) (val : Nat → Int) (ed : Int) (ad : Option Addr) (cap : Nat) (d : List Int) (w : World) (h : GrAt w G gb gv capb rb N bet val ed) (hl : d.length ≤ 1048576) (hr : RdI w ad d) :
    Calls Try.prog 118 #[.pointer (some ⟨G, 0, none⟩), .slice ad d.length cap] w fun e w' => e = .returned (.bool (chipsB N d)) ∧ Below w.heap.size w w' := by
  have hR : Hid ((decide (d.length = N) && allB d (-1000) 1000) = chipsB N d) := by
    show _ = _
    unfold chipsB
    congr 1
    exact decide_eq_decide.2 (by omega)
  go_enter Try.func118, Try.ntmps118
  go_wp2_with fail
  refine (areChips_any G gb gv capb rb N bet val ed ad cap d 1000 _ h hl hr (by omega) (by omega)).mono ?_
  rw [hR.out]
  rintro e w1 ⟨rfl, hb1⟩
  go_wp2
  go_ret
  exact ⟨rfl, hb1⟩

set_option maxHeartbeats 400000 in
theorem withDiv_any (n : Int) (ad : Option Addr) (cap : Nat) (ls : List Lk) (ad' : Option Addr) (cap' : Nat) (d : List Int) (w : World) (hl : ls.length ≤ 1048576) (hr : RdL w ad ls) (hl' : d.length ≤ 1048576) (hr' : RdI w ad' d) (hg : goodL n ls = true) :
    Calls Try.prog 90 #[.int .i64 n, .slice ad ls.length cap, .slice ad' d.length cap'] w fun e w' => ∃ G gb gv capb rb, e = .returned (.tuple #[.pointer (some ⟨G, 0, none⟩), .bool (chipsB n d)]) ∧
      GrAt w' G gb gv capb rb n.toNat (betF ls) (valF ls) (edgeF ls) ∧ w.heap.size ≤ G ∧ w.heap.size ≤ gv ∧ Below w.heap.size w w' := by
  obtain ⟨hn1, hn2⟩ := good_n hg
  have hR : Hid (chipsB n.toNat d = chipsB n d) := by show _ = _; rw [Int.toNat_of_nonneg (by omega)]
  go_enter Try.func90, Try.ntmps90
  go_wp2_with fail
  refine (graphOf_any n ad cap ls _ hl hr hg).mono ?_
  rintro e w1 ⟨G, gb, gv, capb, rb, rfl, hG, hGB, hGV, hb1⟩
  have HG := Lib.hid hG; clear hG
  go_wp2_with fail
  refine (isDivisor_any G gb gv capb rb _ _ _ _ ad' cap' d _ HG.out hl' (hr'.below hb1)).mono ?_
  rw [hR.out]
  rintro e w2 ⟨rfl, hb2⟩
  go_wp2
  go_ret2
  exact ⟨G, gb, gv, capb, rb, rfl, HG.out.below hb2, hGB, hGV, ball hb1 hb2⟩

set_option maxHeartbeats 400000 in
theorem withDiv_no (n : Int) (ad : Option Addr) (cap : Nat) (ls : List Lk) (ad' : Option Addr) (cap' : Nat) (d : List Int) (w : World) (hl : ls.length ≤ 1048576) (hr : RdL w ad ls) (hg : goodL n ls = false) :
    Calls Try.prog 90 #[.int .i64 n, .slice ad ls.length cap, .slice ad' d.length cap'] w fun e w' => e = .returned (.tuple #[.pointer none, .bool false]) ∧ Below w.heap.size w w' := by
  go_enter Try.func90, Try.ntmps90
  go_wp2_with fail
  refine (graphOf_no n ad cap ls _ hl hr hg).mono ?_
  rintro e w1 ⟨rfl, hb1⟩
  go_wp2
  go_ret2
  exact ⟨rfl, hb1⟩

end Go.Proofs.Ytmhmdbmiimpbnaa
