/-
  Piles: the program's isPile, IsPile; the reference's piPile, IsPile.
-/
import Derived.Test.YtopkohkilmlpaaaTab
namespace Go.Proofs.Ytopkohkilmlpaaa
open Go.RowKit

set_option maxHeartbeats 400000 in
theorem indexFunc0_any (fid : FuncId) (p : Int → Bool) (ad : Option Addr) (cap : Nat) (xs : List Int) (w : World) (hl : xs.length ≤ 1048576) (hr : RdI w ad xs)
    (hcf : ∀ (xa : Array Value) (w : World), (callFunc fid xa).run Try.prog w = .ok (.enter fid xa) w) (hf : ∀ x, Calls Try.prog fid #[.int .i64 x] w fun e w' => e = .returned (.bool (p x)) ∧ w = w') :
    Calls Try.prog 87 #[.slice ad xs.length cap, .func (Fn.func fid) #[] #[]] w fun e w' => (∃ r : Int, e = .returned (.int .i64 r) ∧ ((0 ≤ r ∧ xs.any p = true) ∨ (r = -1 ∧ xs.any p = false))) ∧ w = w' := by
  have HR := Lib.hid hr; clear hr
  have HF := Lib.hid hf; clear hf
  go_enter Try.func87, Try.ntmps87
  go_wp2_with fail
  go_loop [8] (fun i => ∃ k : Nat, k ≤ xs.length ∧ i = .int .i64 k ∧ ∀ j, j < k → p (xs.getD j 0) = false) (fun i => xs.length - (intOf i).toNat)
  case atStart => exact ⟨0, Nat.zero_le _, rfl, fun j hj => by omega⟩
  case round =>
    obtain ⟨k, hk, rfl, hj⟩ := hrel
    have HJ := Lib.hid hj; clear hj
    by_cases hlt : k < xs.length
    · obtain ⟨b, off, rfl, hb, cc⟩ := HR.out k hlt
      generalize hx : xs.getD k 0 = x at cc
      have HX := Lib.hid hx; clear hx
      by_cases h1 : p x = true
      · go_wp2_with fail
        refine (HF.out x).mono ?_
        rw [h1]
        rintro e w' ⟨rfl, rfl⟩
        go_wp2_with fail
        go_ret
        refine ⟨⟨k, rfl, Or.inl ⟨by omega, ?_⟩⟩, rfl⟩
        rw [List.any_eq_true]
        exact ⟨x, by rw [← HX.out]; simp [List.getD, hlt], h1⟩
      · have h1' := Bool.eq_false_iff.2 h1
        go_wp2_with fail
        refine (HF.out x).mono ?_
        rw [h1']
        rintro e w' ⟨rfl, rfl⟩
        go_wp2_with fail
        go_round
        case rel =>
          refine ⟨k + 1, by omega, by go_num, fun j hj => ?_⟩
          by_cases e : j = k
          · subst e; rw [HX.out]; exact h1'
          · exact HJ.out j (by omega)
        case measure => simp [intOf]; omega
    · have he : k = xs.length := by omega
      subst he
      go_wp2_with fail
      go_ret
      refine ⟨⟨-1, rfl, Or.inr ⟨rfl, ?_⟩⟩, rfl⟩
      intro x hx
      obtain ⟨j, hj, rfl⟩ := List.getElem_of_mem hx
      have := HJ.out j hj
      simpa [List.getD, hj] using this

set_option maxHeartbeats 400000 in
theorem containsFunc0_any (fid : FuncId) (p : Int → Bool) (ad : Option Addr) (cap : Nat) (xs : List Int) (w : World) (hl : xs.length ≤ 1048576) (hr : RdI w ad xs)
    (hcf : ∀ (xa : Array Value) (w : World), (callFunc fid xa).run Try.prog w = .ok (.enter fid xa) w) (hf : ∀ x, Calls Try.prog fid #[.int .i64 x] w fun e w' => e = .returned (.bool (p x)) ∧ w = w') :
    Calls Try.prog 68 #[.slice ad xs.length cap, .func (Fn.func fid) #[] #[]] w fun e w' => e = .returned (.bool (xs.any p)) ∧ w = w' := by
  go_enter Try.func68, Try.ntmps68
  go_wp2_with fail
  refine (indexFunc0_any fid p ad cap xs w hl hr hcf hf).mono ?_
  rintro e w' ⟨⟨r, rfl, hr1⟩, rfl⟩
  have HA := Lib.hid hr1; clear hr1
  by_cases h0 : 0 ≤ r
  · go_wp2
    go_ret
    exact ⟨ret_bool (by rcases HA.out with h | h; exact h.2.symm; omega), rfl⟩
  · have h0' : r < 0 := by omega
    go_wp2
    go_ret
    exact ⟨ret_bool (by rcases HA.out with h | h; omega; rw [h.2]; simp; omega), rfl⟩


def pileB (n z : Int) (d : List Int) : Bool := decide ((d.length : Int) = n) && ((d.getD z.toNat 0 == 0) && allB d 0 50)
theorem pileB_len {n z : Int} {d : List Int} (h : ¬ (d.length : Int) = n) : pileB n z d = false := by unfold pileB; rw [decide_eq_false h]; rfl
theorem pileB_at {n x : Int} {z : Nat} {d : List Int} (h : (d.length : Int) = n) (hx : d.getD z 0 = x) : pileB n z d = ((x == 0) && allB d 0 50) := by unfold pileB; rw [decide_eq_true h, Int.toNat_natCast, hx]; rfl
noncomputable def isPileR (n : Int) (ls : List Lk) (z : Int) (d : List Int) : Bool × Bool := if pgB n ls z = true then (pileB n z d, true) else (false, false)

set_option maxHeartbeats 400000 in
theorem isPile1_any (x : Int) (w : World) : Calls Try.prog 69 #[.int .i64 x] w fun e w' => e = .returned (.bool (!inB x 0 50)) ∧ w = w' := by
  go_enter Try.func69, Try.ntmps69
  go_wp2_with (go_at_call 70; refine (within_any _ _ _ _).mono ?_; rintro e w' ⟨rfl, rfl⟩)
  go_ret
  exact ⟨rfl, rfl⟩

set_option maxHeartbeats 800000 in
theorem isPile_any (G gb gv capb : Nat) (rb : Nat → Nat) (N : Nat) (bet : Nat → Nat → Int) (val : Nat → Int) (ed z : Int) (ad : Option Addr) (cap : Nat) (d : List Int) (w : World) (h : GrAt w G gb gv capb rb N bet val ed) (hl : d.length ≤ 1048576) (hr : RdI w ad d) (hz0 : 0 ≤ z) (hz1 : z < N) :
    Calls Try.prog 36 #[.agg #[.pointer (some ⟨G, 0, none⟩), .int .i64 z], .slice ad d.length cap] w fun e w' => e = .returned (.bool (pileB N z d)) ∧ Below w.heap.size w w' := by
  obtain ⟨z, rfl⟩ : ∃ k : Nat, z = k := ⟨z.toNat, by omega⟩
  have hmf : ∀ (fn : Fn) (first cap : Array Value) (w : World), (Instr.makeFunc fn first cap).run Try.prog w = .ok (.func fn first cap) w := fun _ _ _ _ => rfl
  have c0 := (h.alloc (.cells #[.pointer (some ⟨G, 0, none⟩), .int .i64 z] 55)).c0
  have hb0 : Below w.heap.size w (w.alloc (.cells #[.pointer (some ⟨G, 0, none⟩), .int .i64 z] 55)) := (Below.refl _ _).alloc (Nat.le_refl _) _
  have hr1 := hr.below hb0
  have hany : (d.any fun x => !inB x 0 50) = !allB d 0 50 := by simp [allB, List.any_eq_not_all_not]
  have HA := Lib.hid hany; clear hany
  have HR := Lib.hid hr1; clear hr1 hr h
  by_cases hn : d.length = N
  case neg =>
    have hd : ((d.length : Int) == (N : Int)) = false := by simpa using fun q => hn (by omega)
    have HN := Lib.hid hn; clear hn
    go_enter Try.func36, Try.ntmps36
    go_wp2
    go_ret
    exact ⟨ret_bool (by rw [pileB_len (fun q => HN.out (by omega))]), hb0⟩
  case pos =>
    have hd : ((d.length : Int) == (N : Int)) = true := by simp [hn]
    have hzd : z < d.length := by omega
    obtain ⟨b, off, rfl, hb, cz⟩ := HR.out z hzd
    obtain ⟨x, hx⟩ : ∃ x, d.getD z 0 = x := ⟨_, rfl⟩
    rw [hx] at cz
    have HN := Lib.hid hn; clear hn
    have hR : Hid (pileB N z d = ((x == 0) && allB d 0 50)) := pileB_at (by rw [HN.out]) hx
    clear hx
    by_cases hx0 : x = 0
    case neg =>
      have hxd : (x == 0) = false := by simpa using hx0
      clear hx0
      go_enter Try.func36, Try.ntmps36
      go_wp2
      go_ret
      exact ⟨ret_bool (by rw [hR.out, hxd]; rfl), hb0⟩
    case pos =>
      have hxd : (x == 0) = true := by simpa using hx0
      clear hx0
      go_enter Try.func36, Try.ntmps36
      go_wp2_with fail
      refine (containsFunc0_any 69 (fun x => !inB x 0 50) _ cap d _ hl HR.out (callFunc_plain Try.func69 (by kernel_rfl) (by kernel_rfl)) (fun x => isPile1_any x _)).mono ?_
      rw [HA.out]
      rintro e w' ⟨rfl, rfl⟩
      go_wp2
      go_ret
      exact ⟨ret_bool (by rw [hR.out, hxd]; simp), hb0⟩

set_option maxHeartbeats 800000 in
theorem piPile_any (n z : Int) (ad : Option Addr) (cap : Nat) (d : List Int) (w : World) (hl : d.length ≤ 1048576) (hr : RdI w ad d) (hz0 : 0 ≤ z) (hz1 : z < n) :
    Calls Try.prog 33 #[.int .i64 n, .int .i64 z, .slice ad d.length cap] w fun e w' => e = .returned (.bool (pileB n z d)) ∧ w = w' := by
  obtain ⟨z, rfl⟩ : ∃ k : Nat, z = k := ⟨z.toNat, by omega⟩
  have HR := Lib.hid hr; clear hr
  by_cases hn : (d.length : Int) = n
  case neg =>
    have hd : ((d.length : Int) == n) = false := by simpa using hn
    have HN := Lib.hid hn; clear hn
    go_enter Try.func33, Try.ntmps33
    go_wp2
    go_ret
    exact ⟨ret_bool (by rw [pileB_len HN.out]), rfl⟩
  case pos =>
    have hd : ((d.length : Int) == n) = true := by simpa using hn
    have hzd : z < d.length := by omega
    obtain ⟨b, off, rfl, hb, cz⟩ := HR.out z hzd
    obtain ⟨x, hx⟩ : ∃ x, d.getD z 0 = x := ⟨_, rfl⟩
    rw [hx] at cz
    have hR : Hid (pileB n z d = (allB d 0 50 && (x == 0))) := by show _ = _; rw [pileB_at hn hx, Bool.and_comm]
    have HN := Lib.hid hn; clear hn hx
    obtain ⟨cb, hcb⟩ : ∃ cb, allB d 0 50 = cb := ⟨_, rfl⟩
    rw [hcb] at hR
    have HC := Lib.hid hcb; clear hcb
    cases cb
    all_goals
      go_enter Try.func33, Try.ntmps33
      go_wp2_with fail
      refine (l1All_any _ cap d _ _ _ hl HR.out).mono ?_
      rw [HC.out]
      rintro e w' ⟨rfl, rfl⟩
      go_wp2_with fail
      go_ret
      exact ⟨ret_bool (by rw [hR.out]; rfl), rfl⟩

set_option maxHeartbeats 800000 in
theorem specPile_c (n : Int) (adl : Option Addr) (capl : Nat) (ls : List Lk) (z : Int) (a : Addr) (cap : Nat) (d : List Int) (w : World) (hl : ls.length ≤ 1048576) (hr : RdL w adl ls) (hl' : d.length ≤ 1048576) (hr' : RdI w (some a) d) :
    Calls Try.prog 11 #[.int .i64 n, .slice adl ls.length capl, .int .i64 z, .slice (some a) d.length cap] w (RetBB (isPileR n ls z d) w) := by
  by_cases hp : pgB n ls z = true
  case pos =>
    have hR : Hid (isPileR n ls z d = (pileB n z d, true)) := if_pos hp
    obtain ⟨hg, h5, he, hc, hz⟩ := pgB_t.1 hp
    obtain ⟨hz0, hz1⟩ := inB_t.1 hz
    go_enter Try.func11, Try.ntmps11
    go_wp2_with fail
    refine (piGraph_any n adl capl ls z _ hl hr).mono ?_
    rw [hp]
    rintro e w1 ⟨rfl, hb1⟩
    go_wp2_with fail
    refine (piPile_any n z (some a) cap d _ hl' (hr'.below hb1) hz0 (by omega)).mono ?_
    rintro e w' ⟨rfl, rfl⟩
    go_wp2
    go_ret2
    exact RetBB.of hR.out hb1
  case neg =>
    have hp' := Bool.eq_false_iff.2 hp
    have hR : Hid (isPileR n ls z d = (false, false)) := if_neg hp
    go_enter Try.func11, Try.ntmps11
    go_wp2_with fail
    refine (piGraph_any n adl capl ls z _ hl hr).mono ?_
    rw [hp']
    rintro e w1 ⟨rfl, hb1⟩
    go_wp2
    go_ret2
    exact RetBB.of hR.out hb1

set_option maxHeartbeats 800000 in
theorem implPile_c (n : Int) (adl : Option Addr) (capl : Nat) (ls : List Lk) (z : Int) (a : Addr) (cap : Nat) (d : List Int) (w : World) (hl : ls.length ≤ 1048576) (hr : RdL w adl ls) (hl' : d.length ≤ 1048576) (hr' : RdI w (some a) d) :
    Calls Try.prog 14 #[.int .i64 n, .slice adl ls.length capl, .int .i64 z, .slice (some a) d.length cap] w (RetBB (isPileR n ls z d) w) := by
  by_cases hg : goodL n ls = true
  case neg =>
    have hg' := Bool.eq_false_iff.2 hg
    have hR : Hid (isPileR n ls z d = (false, false)) := if_neg (by simp [pgB_no hg'])
    go_enter Try.func14, Try.ntmps14
    go_wp2_with fail
    refine (tableOf_no n adl capl ls z _ hl hr hg').mono ?_
    rintro e w1 ⟨rfl, hb1⟩
    go_wp2_with fail
    go_ret2
    exact RetBB.of hR.out (hb1.alloc hb1.size _)
  case pos =>
    by_cases hp : pgB n ls z = true
    case neg =>
      have hp' := Bool.eq_false_iff.2 hp
      have hR : Hid (isPileR n ls z d = (false, false)) := if_neg hp
      go_enter Try.func14, Try.ntmps14
      go_wp2_with fail
      refine (tableOf_any n adl capl ls z _ hl hr hg).mono ?_
      rw [hp']
      rintro e w1 ⟨G, gb, gv, capb, rb, rfl, hG, hGB, hGV, hb1⟩
      clear hG
      go_wp2_with fail
      go_ret2
      exact RetBB.of hR.out (hb1.alloc hb1.size _)
    case pos =>
      have hR : Hid (isPileR n ls z d = (pileB n z d, true)) := if_pos hp
      obtain ⟨_, h5, he, hc, hz⟩ := pgB_t.1 hp
      obtain ⟨hz0, hz1⟩ := inB_t.1 hz
      have hnn : Hid (pileB (n.toNat : Int) z d = pileB n z d) := by show _ = _; rw [Int.toNat_of_nonneg (by have := good_n hg; omega)]
      go_enter Try.func14, Try.ntmps14
      go_wp2_with fail
      refine (tableOf_any n adl capl ls z _ hl hr hg).mono ?_
      rw [hp]
      rintro e w1 ⟨G, gb, gv, capb, rb, rfl, hG, hGB, hGV, hb1⟩
      have HG := Lib.hid hG; clear hG
      have hba := hb1.alloc hb1.size (.cells #[.pointer (some ⟨G, 0, none⟩), .int .i64 z] 55)
      go_wp2_with fail
      refine (isPile_any G gb gv capb rb n.toNat _ _ _ z (some a) cap d _ (HG.out.alloc _) hl' (hr'.below hba) hz0 (by omega)).mono ?_
      rw [hnn.out]
      rintro e w2 ⟨rfl, hb2⟩
      go_wp2
      go_ret2
      exact RetBB.of hR.out (ball hba hb2)

end Go.Proofs.Ytopkohkilmlpaaa
