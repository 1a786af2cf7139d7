/-
  Whether two polynomials are the same function: the program's. By an AI agent.
-/
import Derived.Test.YtekhmjhbdoigoaaFuT
import Derived.Test.YtekhmjhbdoigoaaRtS
namespace Go.Proofs.Ytekhmjhbdoigoaa
open Go.RowKit

set_option maxHeartbeats 1600000 in
theorem eqI_c (ad : Option Addr) (cap : Nat) (l : List Int) (ad2 : Option Addr) (cap2 : Nat) (m : List Int) (w : World) (hl : l.length ≤ 1048576) (h1 : RdI w ad l) (h2 : RdI w ad2 m) :
    Calls Try.prog 32 #[.slice ad l.length cap, .slice ad2 m.length cap2] w fun e w' => e = .returned (.bool (decide (l = m))) ∧ Below w.heap.size w w' := by
  have H1 := Lib.hid h1; clear h1
  have H2 := Lib.hid h2; clear h2
  by_cases hlm : l.length = m.length
  case neg =>
    have hd0 : ((l.length : Int) != (m.length : Int)) = true := bne_iff_ne.2 (by omega)
    have hlm2 : ((l.length : Int) == (m.length : Int)) = false := beq_eq_false_iff_ne.2 (by omega)
    have hres : decide (l = m) = false := decide_eq_false (fun e => hlm (by rw [e]))
    rw [hres]
    clear hlm hres
    go_enter Try.func32, Try.ntmps32
    go_wp2_with fail
    go_ret
    exact ⟨rfl, Below.refl _ _⟩
  case pos =>
    obtain ⟨N, hN⟩ : ∃ N, l.length = N := ⟨_, rfl⟩
    have hM : m.length = N := by omega
    rw [hN, hM]
    have HN := Lib.hid hN; have HM := Lib.hid hM
    have hN2 : N ≤ 1048576 := by omega
    clear hN hM hlm hl
    have hd0 : ((N : Int) != (N : Int)) = false := by simp
    go_enter Try.func32, Try.ntmps32
    go_wp2_with fail
    clear hd0
    go_loopw [13] (fun i wr => ∃ k : Nat, k ≤ N ∧ i = .int .i64 k ∧ (∀ j, j < k → l.getD j 0 = m.getD j 0) ∧ Below w.heap.size w wr) (fun i _ => N - (intOf i).toNat)
    case atStart => exact ⟨0, Nat.zero_le _, rfl, fun j hj => by omega, Below.refl _ _⟩
    case round =>
      obtain ⟨k, hk, rfl, hlow, hbel⟩ := hrel
      have HLow := Lib.hid hlow; clear hlow
      obtain ⟨wo, rfl⟩ : ∃ wo : World, wo = wr := ⟨_, rfl⟩
      by_cases hlt : k < N
      · obtain ⟨b1, o1, rfl, hb1, c1⟩ := H1.out k (by have := HN.out; omega)
        obtain ⟨b2, o2, rfl, hb2, c2⟩ := H2.out k (by have := HM.out; omega)
        have k1 := bcell hbel hb1 c1
        have k2 := bcell hbel hb2 c2
        have x1 : (0 : Int) ≤ (k : Int) := by omega
        have x2 : (k : Int) < (N : Int) := by omega
        clear c1 c2
        by_cases he : l.getD k 0 = m.getD k 0
        · have HE := Lib.hid he
          generalize l.getD k 0 = a at k1 he
          generalize m.getD k 0 = b at k2 he
          have hd1 : (a == b) = true := by simpa using he
          have hd2 : (a != b) = false := by simp [he]
          clear he
          go_wp2_with fail
          go_quiet (fail)
          go_wp2_with fail
          go_roundw
          case rel =>
            refine ⟨k + 1, by omega, by go_num, fun j hj => ?_, bdrewN hbel _⟩
            by_cases e : j = k
            · subst e; exact HE.out
            · exact HLow.out j (by omega)
          case measure => simp [intOf]; omega
        · have HE := Lib.hid he
          generalize l.getD k 0 = a at k1 he
          generalize m.getD k 0 = b at k2 he
          have hd1 : (a == b) = false := by simpa using he
          have hd2 : (a != b) = true := by simpa using he
          clear he
          go_wp2_with fail
          go_quiet (fail)
          go_wp2_with fail
          go_ret
          exact ⟨ret_bool (decide_eq_false (fun e => HE.out (by rw [e]))).symm, bdrewN hbel _⟩
      · have he : k = N := by omega
        subst he
        go_wp2_with fail
        go_ret
        refine ⟨ret_bool (decide_eq_true ?_).symm, hbel⟩
        apply List.ext_getElem (by rw [HN.out, HM.out])
        intro i hi hi2
        have := HLow.out i (by have := HN.out; omega)
        simpa [List.getD, hi, hi2] using this
theorem callFunc_plainF {P : Program} {f : FuncId} {fn : Func} (hf : P.funcs[f]? = some fn) (hname : (fn.name == "runtime.NumGoroutine") = false) (hb : fn.body.isNone = false) (args : Array Value) (w : World) :
    (callFunc f args).run P w = .ok (.enter f args) w := by
  have h1 : fn.name ≠ "runtime.NumGoroutine" := by simpa using hname
  have h2 : fn.body ≠ none := by intro q; rw [q] at hb; simp at hb
  simp [callFunc, hf, h1, h2]
set_option maxHeartbeats 1600000 in
theorem indexFuncF (fid : FuncId) (c1 c2 : Value) (p : Int → Bool) (ad : Option Addr) (cap : Nat) (xs : List Int) (w : World) (hl : xs.length ≤ 1048576) (hr : RdI w ad xs)
    (hcf : ∀ (xa : Array Value) (w : World), (callFunc fid xa).run Try.prog w = .ok (.enter fid xa) w) (hf : ∀ x ∈ xs, ∀ w2, Below w.heap.size w w2 → Calls Try.prog fid #[.int .i64 x, c1, c2] w2 fun e w' => e = .returned (.bool (p x)) ∧ Below w2.heap.size w2 w') :
    Calls Try.prog 68 #[.slice ad xs.length cap, .func (Fn.func fid) #[] #[c1, c2]] w fun e w' => (∃ r : Int, e = .returned (.int .i64 r) ∧ ((0 ≤ r ∧ xs.any p = true) ∨ (r = -1 ∧ xs.any p = false))) ∧ Below w.heap.size w w' := by
  have HR := Lib.hid hr; clear hr
  have HF := Lib.hid hf; clear hf
  go_enter Try.func68, Try.ntmps68
  go_wp2_with fail
  go_loopw [8] (fun i wr => ∃ k : Nat, k ≤ xs.length ∧ i = .int .i64 k ∧ (∀ j, j < k → p (xs.getD j 0) = false) ∧ Below w.heap.size w wr) (fun i _ => xs.length - (intOf i).toNat)
  case atStart => exact ⟨0, Nat.zero_le _, rfl, fun j hj => by omega, Below.refl _ _⟩
  case round =>
    obtain ⟨k, hk, rfl, hj, hbel⟩ := hrel
    obtain ⟨wo, rfl⟩ : ∃ wo : World, wo = wr := ⟨_, rfl⟩
    have HJ := Lib.hid hj; clear hj
    by_cases hlt : k < xs.length
    · obtain ⟨b, off, rfl, hb, cc⟩ := HR.out k hlt
      have dd := bcell hbel hb cc
      have hxm : xs.getD k 0 ∈ xs := by simp [List.getD, hlt]
      have hff := HF.out _ hxm _ hbel
      have x1 : (0 : Int) ≤ (k : Int) := by omega
      have x2 : (k : Int) < (xs.length : Int) := by omega
      obtain ⟨x, hx⟩ : ∃ x, xs.getD k 0 = x := ⟨_, rfl⟩
      rw [hx] at dd hff hxm
      have HX := Lib.hid hx; have HXM := Lib.hid hxm; clear hx hxm cc
      have HFF := Lib.hid hff; clear hff
      by_cases h1 : p x = true
      · go_wp2_with fail
        refine HFF.out.mono ?_
        rw [h1]
        rintro e w' ⟨rfl, hw'⟩
        go_wp2_with fail
        go_ret
        exact ⟨⟨k, rfl, Or.inl ⟨by omega, List.any_eq_true.2 ⟨x, HXM.out, h1⟩⟩⟩, ball hbel hw'⟩
      · have h1' := Bool.eq_false_iff.2 h1
        go_wp2_with fail
        refine HFF.out.mono ?_
        rw [h1']
        rintro e w' ⟨rfl, hw'⟩
        go_wp2_with fail
        go_roundw
        case rel =>
          refine ⟨k + 1, by omega, by go_num, fun j hj => ?_, ball hbel hw'⟩
          by_cases e : j = k
          · subst e; rw [HX.out]; exact h1'
          · exact HJ.out j (by omega)
        case measure => simp [intOf]; omega
    · have he : k = xs.length := by omega
      subst he
      go_wp2_with fail
      go_ret
      refine ⟨⟨-1, rfl, Or.inr ⟨rfl, ?_⟩⟩, hbel⟩
      rw [List.any_eq_false]
      intro x hx
      obtain ⟨j, hj, rfl⟩ := List.getElem_of_mem hx
      have := HJ.out j hj
      simpa [List.getD, hj] using this
set_option maxHeartbeats 400000 in
theorem containsFuncF (fid : FuncId) (c1 c2 : Value) (p : Int → Bool) (ad : Option Addr) (cap : Nat) (xs : List Int) (w : World) (hl : xs.length ≤ 1048576) (hr : RdI w ad xs)
    (hcf : ∀ (xa : Array Value) (w : World), (callFunc fid xa).run Try.prog w = .ok (.enter fid xa) w) (hf : ∀ x ∈ xs, ∀ w2, Below w.heap.size w w2 → Calls Try.prog fid #[.int .i64 x, c1, c2] w2 fun e w' => e = .returned (.bool (p x)) ∧ Below w2.heap.size w2 w') :
    Calls Try.prog 33 #[.slice ad xs.length cap, .func (Fn.func fid) #[] #[c1, c2]] w fun e w' => e = .returned (.bool (xs.any p)) ∧ Below w.heap.size w w' := by
  go_enter Try.func33, Try.ntmps33
  go_wp2_with fail
  refine (indexFuncF fid c1 c2 p ad cap xs w hl hr hcf hf).mono ?_
  rintro e w' ⟨⟨r, rfl, hr1⟩, hw'⟩
  have HA := Lib.hid hr1; clear hr1
  by_cases h0 : 0 ≤ r
  · go_wp2
    go_ret
    exact ⟨ret_bool (by rcases HA.out with h | h; exact h.2.symm; omega), hw'⟩
  · have h0' : r < 0 := by omega
    go_wp2
    go_ret
    exact ⟨ret_bool (by rcases HA.out with h | h; omega; rw [h.2]; simp; omega), hw'⟩
set_option maxHeartbeats 800000 in
theorem same1_c (b1 b2 : Nat) (adp : Option Addr) (capp : Nat) (p : List Int) (adq : Option Addr) (capq : Nat) (q : List Int) (e : Nat) (w : World)
    (k1 : w.cell? ⟨b1, 0, none⟩ = some (.slice adp p.length capp)) (k2 : w.cell? ⟨b2, 0, none⟩ = some (.slice adq q.length capq)) (h1 : RdI w adp p) (h2 : RdI w adq q) (he1 : e < p.length) (he2 : e < q.length) :
    Calls Try.prog 34 #[.int .i64 (e : Int), .pointer (some ⟨b1, 0, none⟩), .pointer (some ⟨b2, 0, none⟩)] w fun r w' => r = .returned (.bool (cof p e != cof q e)) ∧ Below w.heap.size w w' := by
  obtain ⟨bp, op, rfl, hbp, c1⟩ := h1 e he1
  obtain ⟨bq, oq, rfl, hbq, c2⟩ := h2 e he2
  rw [show p.getD e 0 = cof p e from rfl] at c1
  rw [show q.getD e 0 = cof q e from rfl] at c2
  have x1 : (0 : Int) ≤ (e : Int) := by omega
  have x2 : (e : Int) < (p.length : Int) := by omega
  have x3 : (e : Int) < (q.length : Int) := by omega
  generalize cof p e = a at c1 ⊢
  generalize cof q e = b at c2 ⊢
  obtain ⟨r, hr⟩ : ∃ r, (a != b) = r := ⟨_, rfl⟩
  rw [hr]
  go_enter Try.func34, Try.ntmps34
  go_wp2_with fail
  go_quiet (fail)
  go_wp2_with fail
  go_ret
  exact ⟨by first | rfl | simp [← hr], bdrewN (Below.refl _ _) _⟩
theorem natL_inj {a b : List Nat} (h : natL a = natL b) : a = b := by
  unfold natL at h
  exact (List.map_inj_right (fun x y h => by omega)).1 h
theorem same_iff {p q : List Int} (hp : polyB p = true) (hq : polyB q = true) : leastP p = leastP q ↔ natL (corP p) = natL (corP q) ∧ ∀ e ∈ corP p, cof p e = cof q e := by
  have hr : ∀ p : List Int, corP p = (stP p).reverse := fun _ => rfl
  constructor
  · intro h
    obtain ⟨h1, h2⟩ := same_stP hp hq h
    exact ⟨by rw [hr, hr, h1], fun e he => h2 e (by rw [hr, List.mem_reverse] at he; exact he)⟩
  · rintro ⟨h1, h2⟩
    have h3 := natL_inj h1
    rw [hr, hr] at h3
    have h4 := List.reverse_inj.1 h3
    exact stP_same hp hq h4 (fun e he => h2 e (by rw [hr, List.mem_reverse]; exact he))
set_option maxHeartbeats 6400000 in
set_option maxRecDepth 100000 in
theorem iSame_c (adp : Option Addr) (capp : Nat) (p : List Int) (adq : Option Addr) (capq : Nat) (q : List Int) (w : World) (h1 : RdI w adp p) (h2 : RdI w adq q) (hl1 : p.length ≤ 1048576) (hl2 : q.length ≤ 1048576) :
    Calls Try.prog 11 #[.slice adp p.length capp, .slice adq q.length capq] w fun e w' => e = .returned (.tuple #[.bool ((polyB p && polyB q) && decide (leastP p = leastP q)), .bool (polyB p && polyB q)]) ∧ Below w.heap.size w w' := by
  have c1 := fun w hr => isPoly_c adp capp p w hr hl1
  have c2 := fun w hr => isPoly_c adq capq q w hr hl2
  have hmf : ∀ (fn : Fn) (first cap : Array Value) (w : World), (Instr.makeFunc fn first cap).run Try.prog w = .ok (.func fn first cap) w := fun _ _ _ _ => rfl
  have hb1 : Below w.heap.size w (w.alloc (.cells #[.slice adp p.length capp] 23)) := (Below.refl _ _).alloc (Nat.le_refl _) _
  have hb0 : Below w.heap.size w ((w.alloc (.cells #[.slice adp p.length capp] 23)).alloc (.cells #[.slice adq q.length capq] 23)) := hb1.alloc (by simp) _
  have o1 : Own ((w.alloc (.cells #[.slice adp p.length capp] 23)).alloc (.cells #[.slice adq q.length capq] 23)) w.heap.size 23 [.slice adp p.length capp] := (Own.newA w #[.slice adp p.length capp] 23 rfl).alloc _
  have o2 : Own ((w.alloc (.cells #[.slice adp p.length capp] 23)).alloc (.cells #[.slice adq q.length capq] 23)) (w.heap.size + 1) 23 [.slice adq q.length capq] := by
    have := Own.newA (w.alloc (.cells #[.slice adp p.length capp] 23)) #[.slice adq q.length capq] 23 (cs := [.slice adq q.length capq]) rfl
    simpa using this
  have HP0 := Lib.hid (h1.below hb0)
  have HQ0 := Lib.hid (h2.below hb0)
  have k1 := o1.cell? (i := 0) rfl
  have k2 := o2.cell? (i := 0) rfl
  obtain ⟨u, hu⟩ : ∃ u, polyB p = u := ⟨_, rfl⟩
  obtain ⟨v, hv⟩ : ∃ v, polyB q = v := ⟨_, rfl⟩
  simp only [hu] at c1
  simp only [hv] at c2
  rw [hu, hv]
  have C1 := Lib.hid c1; have C2 := Lib.hid c2; clear c1 c2 h1 h2 hb1
  cases u
  case false =>
    rw [Bool.false_and, Bool.false_and]
    have HU := Lib.hid hu; have HV := Lib.hid hv; clear hu hv
    go_enter Try.func11, Try.ntmps11
    go_wp2_with fail
    refine (C1.out _ HP0.out).mono ?_
    rintro e w1 ⟨rfl, rfl⟩
    go_wp2_with fail
    go_ret2
    exact ⟨rfl, hb0⟩
  case true =>
    cases v
    case false =>
      rw [Bool.and_false, Bool.false_and]
      have HU := Lib.hid hu; have HV := Lib.hid hv; clear hu hv
      go_enter Try.func11, Try.ntmps11
      go_wp2_with fail
      refine (C1.out _ HP0.out).mono ?_
      rintro e w1 ⟨rfl, rfl⟩
      go_wp2_with fail
      refine (C2.out _ HQ0.out).mono ?_
      rintro e w1 ⟨rfl, rfl⟩
      go_wp2_with fail
      go_ret2
      exact ⟨rfl, hb0⟩
    case true =>
      rw [Bool.and_self, Bool.true_and]
      have CA := Lib.hid (fun w hr => corners_c adp capp p w hr hu)
      have CB := Lib.hid (fun w hr => corners_c adq capq q w hr hv)
      have hsi := Lib.hid (same_iff hu hv)
      have hcp := (cor_facts hu).2.1
      have hcq := (cor_facts hv).2.1
      have hmp := Lib.hid (fun y hy => (st_mem hu y hy).1)
      have hmq := Lib.hid (fun y hy => (st_mem hv y hy).1)
      clear hu hv
      go_enter Try.func11, Try.ntmps11
      go_wp2_with fail
      refine (C1.out _ HP0.out).mono ?_
      rintro e w1 ⟨rfl, rfl⟩
      go_wp2_with fail
      refine (C2.out _ HQ0.out).mono ?_
      rintro e w1 ⟨rfl, rfl⟩
      go_wp2_with fail
      refine (CA.out _ HP0.out).mono ?_
      rintro e w2 ⟨v2, rfl, hrow, hw2⟩
      obtain ⟨ad2, cap2, rfl, hrd2⟩ := RowI.shape hrow
      have hb2 := hb0.trans (hw2.mono hb0.size)
      have p1 := o1.belowAll hw2
      have p2 := o2.belowAll hw2
      have HP2 := Lib.hid (HP0.out.below hw2)
      have HQ2 := Lib.hid (HQ0.out.below hw2)
      have HR2 := Lib.hid hrd2
      clear k1 k2 o1 o2 hb0 hw2 hrow hrd2 HP0 HQ0
      have k1 := p1.cell? (i := 0) rfl
      have k2 := p2.cell? (i := 0) rfl
      go_wp2_with fail
      refine (CB.out _ HQ2.out).mono ?_
      rintro e w3 ⟨v3, rfl, hrow, hw3⟩
      obtain ⟨ad3, cap3, rfl, hrd3⟩ := RowI.shape hrow
      have hb3 := hb2.trans (hw3.mono hb2.size)
      have q1 := p1.belowAll hw3
      have q2 := p2.belowAll hw3
      have HP3 := Lib.hid (HP2.out.below hw3)
      have HQ3 := Lib.hid (HQ2.out.below hw3)
      have HR3 := Lib.hid (HR2.out.below hw3)
      have HS3 := Lib.hid hrd3
      clear k1 k2 p1 p2 hb2 hw3 hrow hrd3 HP2 HQ2 HR2
      have k1 := q1.cell? (i := 0) rfl
      have k2 := q2.cell? (i := 0) rfl
      have hn1 : (natL (corP p)).length ≤ 1048576 := by rw [natL_len]; omega
      go_wp2_with fail
      refine (eqI_c ad2 cap2 (natL (corP p)) ad3 cap3 (natL (corP q)) _ hn1 HR3.out HS3.out).mono ?_
      rintro e w4 ⟨rfl, hw4⟩
      have hb4 := hb3.trans (hw4.mono hb3.size)
      have r1 := q1.belowAll hw4
      have r2 := q2.belowAll hw4
      have HP4 := Lib.hid (HP3.out.below hw4)
      have HQ4 := Lib.hid (HQ3.out.below hw4)
      have HR4 := Lib.hid (HR3.out.below hw4)
      clear k1 k2 q1 q2 hb3 hw4 HP3 HQ3 HR3 HS3
      by_cases heq : natL (corP p) = natL (corP q)
      case neg =>
        rw [decide_eq_false heq]
        have hres : decide (leastP p = leastP q) = false := decide_eq_false (fun h => heq (hsi.out.1 h).1)
        have HRS := Lib.hid hres
        clear heq hres
        go_wp2_with fail
        go_ret2
        exact ⟨by rw [HRS.out]; rfl, hb4⟩
      case pos =>
        rw [decide_eq_true heq]
        have hce := natL_inj heq
        have hres : decide (leastP p = leastP q) = !(natL (corP p)).any (fun x => cof p x.toNat != cof q x.toNat) := by
          rw [decide_eq_decide.2 (hsi.out)]
          rw [show decide (natL (corP p) = natL (corP q) ∧ ∀ e ∈ corP p, cof p e = cof q e) = decide (∀ e ∈ corP p, cof p e = cof q e) from decide_eq_decide.2 ⟨fun h => h.2, fun h => ⟨heq, h⟩⟩]
          cases hany : (natL (corP p)).any (fun x => cof p x.toNat != cof q x.toNat) with
          | true =>
            obtain ⟨x, hx, hne⟩ := List.any_eq_true.1 hany
            unfold natL at hx
            obtain ⟨e, he, rfl⟩ := List.mem_map.1 hx
            simp only [Int.toNat_natCast, bne_iff_ne] at hne
            exact decide_eq_false (fun h => hne (h e he))
          | false =>
            refine decide_eq_true (fun e he => ?_)
            have := List.any_eq_false.1 hany (e : Int) (by unfold natL; exact List.mem_map.2 ⟨e, he, rfl⟩)
            simpa using this
        have HRS := Lib.hid hres
        have CF := Lib.hid (containsFuncF 34 (.pointer (some ⟨w.heap.size, 0, none⟩)) (.pointer (some ⟨w.heap.size + 1, 0, none⟩)) (fun x => cof p x.toNat != cof q x.toNat) ad2 cap2 (natL (corP p)) w4 hn1 HR4.out (callFunc_plainF Try.func34 (by kernel_rfl) (by kernel_rfl)) (fun x hx w5 hb5 => by
          unfold natL at hx
          obtain ⟨e, he, rfl⟩ := List.mem_map.1 hx
          have hes : e ∈ stP p := by rw [show corP p = (stP p).reverse from rfl, List.mem_reverse] at he; exact he
          have het : e ∈ stP q := by rw [hce, show corP q = (stP q).reverse from rfl, List.mem_reverse] at he; exact he
          have := same1_c w.heap.size (w.heap.size + 1) adp capp p adq capq q e w5 ((r1.belowAll hb5).cell? (i := 0) rfl) ((r2.belowAll hb5).cell? (i := 0) rfl) (HP4.out.below hb5) (HQ4.out.below hb5) (hmp.out e hes) (hmq.out e het)
          simpa only [Int.toNat_natCast] using this))
        generalize (natL (corP p)).any (fun x => cof p x.toNat != cof q x.toNat) = B at CF HRS
        clear heq hce hres
        go_wp2_with fail
        refine CF.out.mono ?_
        rintro e w5 ⟨rfl, hw5⟩
        go_wp2_with fail
        go_ret2
        exact ⟨by rw [HRS.out]; first | rfl | simp, hb4.trans (hw5.mono hb4.size)⟩

end Go.Proofs.Ytekhmjhbdoigoaa
