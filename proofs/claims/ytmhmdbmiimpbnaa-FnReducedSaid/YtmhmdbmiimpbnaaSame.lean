/-
  The laws' own helpers: equal lists, sums, membership, sizes. Printed by gen_same.py.
-/
import Derived.Test.YtmhmdbmiimpbnaaLapl
namespace Go.Proofs.Ytmhmdbmiimpbnaa
open Go.RowKit

/-- A sum of small numbers. -/
theorem isum_tk_bd {xs : List Int} (hb : ∀ x ∈ xs, -1000000000000 ≤ x ∧ x ≤ 1000000000000) : ∀ k, k ≤ xs.length → -(k * 1000000000000) ≤ isum (xs.take k) ∧ isum (xs.take k) ≤ k * 1000000000000
  | 0, _ => by simp [isum_nil]
  | k + 1, hk => by
    have ih := isum_tk_bd hb k (by omega)
    have hx := hb (xs.getD k 0) (by rw [List.getD_eq_getElem?_getD, List.getElem?_eq_getElem (by omega)]; exact List.getElem_mem _)
    rw [take_snoc xs k 0 (by omega), isum_snoc]
    omega
theorem isum_tk_succ {xs : List Int} {k : Nat} (hk : k < xs.length) : isum (xs.take (k + 1)) = isum (xs.take k) + xs.getD k 0 := by rw [take_snoc xs k 0 hk, isum_snoc]

set_option maxHeartbeats 800000 in
theorem sameInts_v (v v' : Value) (xs : List Int) (w : World) (hl : xs.length ≤ 1048576) (hr : RdV w v xs) (hr' : RdV w v' xs) :
    Calls Try.prog 19 #[v, v'] w fun e w' => e = .returned (.bool true) ∧ Below w.heap.size w w' := by
  obtain ⟨ad, cap, rfl, h⟩ := hr
  obtain ⟨ad', cap', rfl, h'⟩ := hr'
  have HR := Lib.hid h; clear h
  have HR' := Lib.hid h'; clear h'
  go_enter Try.func19, Try.ntmps19
  go_wp2_with fail
  go_loopw [13] (fun i wr => ∃ k : Nat, k ≤ xs.length ∧ i = .int .i64 k ∧ Below w.heap.size w wr) (fun i _ => xs.length - (intOf i).toNat)
  case atStart => exact ⟨0, Nat.zero_le _, rfl, Below.refl _ _⟩
  case round =>
    obtain ⟨k, hk, rfl, hbel⟩ := hrel
    by_cases hlt : k < xs.length
    · obtain ⟨b, off, rfl, hb, c⟩ := HR.out k hlt
      obtain ⟨b', off', rfl, hb', c'⟩ := HR'.out k hlt
      have d := bcell hbel hb c
      have d' := bcell hbel hb' c'
      clear c c'
      generalize xs.getD k 0 = x at d d'
      have x1 : (0 : Int) ≤ (k : Int) := by omega
      have x2 : (k : Int) < (xs.length : Int) := by omega
      go_wp2_with fail
      go_quiet (fail)
      go_wp2_with fail
      go_roundw
      case rel => exact ⟨k + 1, by omega, by go_num, bdrewN hbel _⟩
      case measure => simp [intOf]; omega
    · go_wp2_with fail
      go_ret
      exact ⟨rfl, hbel⟩

set_option maxHeartbeats 800000 in
set_option maxRecDepth 100000 in
theorem sameLists_v (v v' : Value) (rows : List (List Int)) (w : World) (hs : smallR rows) (hr : RdR w v rows) (hr' : RdR w v' rows) :
    Calls Try.prog 18 #[v, v'] w fun e w' => e = .returned (.bool true) ∧ Below w.heap.size w w' := by
  obtain ⟨ad, cap, rfl, h⟩ := hr
  obtain ⟨ad', cap', rfl, h'⟩ := hr'
  obtain ⟨hs1, hs2⟩ := hs
  have HR := Lib.hid h; clear h
  have HR' := Lib.hid h'; clear h'
  have HS := Lib.hid hs2; clear hs2
  go_enter Try.func18, Try.ntmps18
  go_wp2_with fail
  go_loopw [13] (fun i wr => ∃ k : Nat, k ≤ rows.length ∧ i = .int .i64 k ∧ Below w.heap.size w wr) (fun i _ => rows.length - (intOf i).toNat)
  case atStart => exact ⟨0, Nat.zero_le _, rfl, Below.refl _ _⟩
  case round =>
    obtain ⟨k, hk, rfl, hbel⟩ := hrel
    by_cases hlt : k < rows.length
    · obtain ⟨b, off, u, rfl, hb, c, r⟩ := HR.out k hlt
      obtain ⟨b', off', u', rfl, hb', c', r'⟩ := HR'.out k hlt
      have d := bcell hbel hb c
      have d' := bcell hbel hb' c'
      clear c c'
      have R1 := Lib.hid (r.below hbel.drew)
      have R2 := Lib.hid (r'.below hbel.drew)
      have hl := HS.out k hlt
      generalize rows.getD k [] = xs at R1 R2 hl
      clear r r'
      go_wp2_with fail
      go_still_tail 8, (by kernel_rfl)
      change wpList _ _ _ _ _ wr.drew
      go_wp2_with fail
      refine (sameInts_v _ _ xs _ (by omega) R1.out R2.out).mono ?_
      rintro e w1 ⟨rfl, hb1⟩
      go_wp2_with fail
      go_roundw
      case rel => exact ⟨k + 1, by omega, by go_num, bthen hbel.drew hb1 hbel.size⟩
      case measure => simp [intOf]; omega
    · go_wp2_with fail
      go_ret
      exact ⟨rfl, hbel⟩

set_option maxHeartbeats 800000 in
theorem qInts_v (v v' : Value) (xs : List Int) (w : World) (hl : xs.length ≤ 1048576) (hr : RdV w v xs) (hr' : RdV w v' xs) :
    Calls Try.prog 31 #[v, v'] w fun e w' => e = .returned (.bool true) ∧ Below w.heap.size w w' := by
  obtain ⟨ad, cap, rfl, h⟩ := hr
  obtain ⟨ad', cap', rfl, h'⟩ := hr'
  have HR := Lib.hid h; clear h
  have HR' := Lib.hid h'; clear h'
  go_enter Try.func31, Try.ntmps31
  go_wp2_with fail
  go_loopw [13] (fun i wr => ∃ k : Nat, k ≤ xs.length ∧ i = .int .i64 k ∧ Below w.heap.size w wr) (fun i _ => xs.length - (intOf i).toNat)
  case atStart => exact ⟨0, Nat.zero_le _, rfl, Below.refl _ _⟩
  case round =>
    obtain ⟨k, hk, rfl, hbel⟩ := hrel
    by_cases hlt : k < xs.length
    · obtain ⟨b, off, rfl, hb, c⟩ := HR.out k hlt
      obtain ⟨b', off', rfl, hb', c'⟩ := HR'.out k hlt
      have d := bcell hbel hb c
      have d' := bcell hbel hb' c'
      clear c c'
      generalize xs.getD k 0 = x at d d'
      have x1 : (0 : Int) ≤ (k : Int) := by omega
      have x2 : (k : Int) < (xs.length : Int) := by omega
      go_wp2_with fail
      go_quiet (fail)
      go_wp2_with fail
      go_roundw
      case rel => exact ⟨k + 1, by omega, by go_num, bdrewN hbel _⟩
      case measure => simp [intOf]; omega
    · go_wp2_with fail
      go_ret
      exact ⟨rfl, hbel⟩

set_option maxHeartbeats 800000 in
set_option maxRecDepth 100000 in
theorem qLists_v (v v' : Value) (rows : List (List Int)) (w : World) (hs : smallR rows) (hr : RdR w v rows) (hr' : RdR w v' rows) :
    Calls Try.prog 52 #[v, v'] w fun e w' => e = .returned (.bool true) ∧ Below w.heap.size w w' := by
  obtain ⟨ad, cap, rfl, h⟩ := hr
  obtain ⟨ad', cap', rfl, h'⟩ := hr'
  obtain ⟨hs1, hs2⟩ := hs
  have HR := Lib.hid h; clear h
  have HR' := Lib.hid h'; clear h'
  have HS := Lib.hid hs2; clear hs2
  go_enter Try.func52, Try.ntmps52
  go_wp2_with fail
  go_loopw [13] (fun i wr => ∃ k : Nat, k ≤ rows.length ∧ i = .int .i64 k ∧ Below w.heap.size w wr) (fun i _ => rows.length - (intOf i).toNat)
  case atStart => exact ⟨0, Nat.zero_le _, rfl, Below.refl _ _⟩
  case round =>
    obtain ⟨k, hk, rfl, hbel⟩ := hrel
    by_cases hlt : k < rows.length
    · obtain ⟨b, off, u, rfl, hb, c, r⟩ := HR.out k hlt
      obtain ⟨b', off', u', rfl, hb', c', r'⟩ := HR'.out k hlt
      have d := bcell hbel hb c
      have d' := bcell hbel hb' c'
      clear c c'
      have R1 := Lib.hid (r.below hbel.drew)
      have R2 := Lib.hid (r'.below hbel.drew)
      have hl := HS.out k hlt
      generalize rows.getD k [] = xs at R1 R2 hl
      clear r r'
      go_wp2_with fail
      go_still_tail 8, (by kernel_rfl)
      change wpList _ _ _ _ _ wr.drew
      go_wp2_with fail
      refine (qInts_v _ _ xs _ (by omega) R1.out R2.out).mono ?_
      rintro e w1 ⟨rfl, hb1⟩
      go_wp2_with fail
      go_roundw
      case rel => exact ⟨k + 1, by omega, by go_num, bthen hbel.drew hb1 hbel.size⟩
      case measure => simp [intOf]; omega
    · go_wp2_with fail
      go_ret
      exact ⟨rfl, hbel⟩

set_option maxHeartbeats 800000 in
theorem pSum_v (v : Value) (xs : List Int) (w : World) (hl : xs.length ≤ 1048576) (hb : ∀ x ∈ xs, -1000000000000 ≤ x ∧ x ≤ 1000000000000) (hr : RdV w v xs) :
    Calls Try.prog 21 #[v] w fun e w' => e = .returned (.int .i64 (isum xs)) ∧ w = w' := by
  obtain ⟨ad, cap, rfl, h⟩ := hr
  have HR := Lib.hid h; clear h
  have HB := Lib.hid (isum_tk_bd hb); clear hb
  go_enter Try.func21, Try.ntmps21
  go_wp2_with fail
  go_loop [3, 8] (fun s i => ∃ k : Nat, k ≤ xs.length ∧ i = .int .i64 k ∧ s = .int .i64 (isum (xs.take k))) (fun _ i => xs.length - (intOf i).toNat)
  case atStart => exact ⟨0, Nat.zero_le _, rfl, rfl⟩
  case round =>
    obtain ⟨k, hk, rfl, rfl⟩ := hrel
    have b1 := HB.out k hk
    by_cases hlt : k < xs.length
    · obtain ⟨b, off, rfl, hb, c⟩ := HR.out k hlt
      have b2 := HB.out (k + 1) hlt
      have st := isum_tk_succ hlt
      rw [st] at b2
      have HST := Lib.hid st; clear st
      generalize xs.getD k 0 = x at c b2 HST
      generalize isum (xs.take k) = s at b1 b2 HST ⊢
      go_wp2_with fail
      go_round
      case rel => exact ⟨k + 1, by omega, by go_num, by rw [HST.out]⟩
      case measure => simp [intOf]; omega
    · have he : k = xs.length := by omega
      subst he
      rw [List.take_length] at b1 ⊢
      go_wp2_with fail
      go_ret
      exact ⟨rfl, rfl⟩

set_option maxHeartbeats 800000 in
theorem qSum_v (v : Value) (xs : List Int) (w : World) (hl : xs.length ≤ 1048576) (hb : ∀ x ∈ xs, -1000000000000 ≤ x ∧ x ≤ 1000000000000) (hr : RdV w v xs) :
    Calls Try.prog 38 #[v] w fun e w' => e = .returned (.int .i64 (isum xs)) ∧ w = w' := by
  obtain ⟨ad, cap, rfl, h⟩ := hr
  have HR := Lib.hid h; clear h
  have HB := Lib.hid (isum_tk_bd hb); clear hb
  go_enter Try.func38, Try.ntmps38
  go_wp2_with fail
  go_loop [3, 8] (fun s i => ∃ k : Nat, k ≤ xs.length ∧ i = .int .i64 k ∧ s = .int .i64 (isum (xs.take k))) (fun _ i => xs.length - (intOf i).toNat)
  case atStart => exact ⟨0, Nat.zero_le _, rfl, rfl⟩
  case round =>
    obtain ⟨k, hk, rfl, rfl⟩ := hrel
    have b1 := HB.out k hk
    by_cases hlt : k < xs.length
    · obtain ⟨b, off, rfl, hb, c⟩ := HR.out k hlt
      have b2 := HB.out (k + 1) hlt
      have st := isum_tk_succ hlt
      rw [st] at b2
      have HST := Lib.hid st; clear st
      generalize xs.getD k 0 = x at c b2 HST
      generalize isum (xs.take k) = s at b1 b2 HST ⊢
      go_wp2_with fail
      go_round
      case rel => exact ⟨k + 1, by omega, by go_num, by rw [HST.out]⟩
      case measure => simp [intOf]; omega
    · have he : k = xs.length := by omega
      subst he
      rw [List.take_length] at b1 ⊢
      go_wp2_with fail
      go_ret
      exact ⟨rfl, rfl⟩

set_option maxHeartbeats 800000 in
theorem pIn_v (v : Value) (xs : List Int) (y : Int) (w : World) (hl : xs.length ≤ 1048576) (hr : RdV w v xs) :
    Calls Try.prog 25 #[v, .int .i64 y] w fun e w' => e = .returned (.bool (decide (y ∈ xs))) ∧ w = w' := by
  obtain ⟨ad, cap, rfl, h⟩ := hr
  have HR := Lib.hid h; clear h
  go_enter Try.func25, Try.ntmps25
  go_wp2_with fail
  go_loop [9] (fun i => ∃ k : Nat, k ≤ xs.length ∧ i = .int .i64 k ∧ ∀ j, j < k → xs.getD j 0 ≠ y) (fun i => xs.length - (intOf i).toNat)
  case atStart => exact ⟨0, Nat.zero_le _, rfl, fun j hj => by omega⟩
  case round =>
    obtain ⟨k, hk, rfl, hj⟩ := hrel
    have HJ := Lib.hid hj; clear hj
    by_cases hlt : k < xs.length
    · obtain ⟨b, off, rfl, hb, c⟩ := HR.out k hlt
      have hmem : xs.getD k 0 ∈ xs := by rw [List.getD_eq_getElem?_getD, List.getElem?_eq_getElem hlt]; exact List.getElem_mem hlt
      generalize hx : xs.getD k 0 = x at c hmem
      have HX := Lib.hid hx; clear hx
      have HM := Lib.hid hmem; clear hmem
      by_cases e : x = y
      · have e1 : (x == y) = true := by simpa using e
        have HE := Lib.hid e; clear e
        go_wp2_with fail
        go_ret
        exact ⟨ret_bool (by have := HM.out; rw [HE.out] at this; simp [this]), rfl⟩
      · have e1 : (x == y) = false := by simpa using e
        have HE := Lib.hid e; clear e
        go_wp2_with fail
        go_round
        case rel =>
          refine ⟨k + 1, by omega, by go_num, fun j hj => ?_⟩
          by_cases q : j = k
          · rw [q, HX.out]; exact HE.out
          · exact HJ.out j (by omega)
        case measure => simp [intOf]; omega
    · have he : k = xs.length := by omega
      subst he
      go_wp2_with fail
      go_ret
      refine ⟨ret_bool ?_, rfl⟩
      symm
      rw [decide_eq_false_iff_not]
      intro hm
      obtain ⟨j, hj, e⟩ := List.getElem_of_mem hm
      exact HJ.out j hj (by simpa [List.getD, hj] using e)

set_option maxHeartbeats 800000 in
theorem qHas_v (v : Value) (xs : List Int) (y : Int) (w : World) (hl : xs.length ≤ 1048576) (hr : RdV w v xs) :
    Calls Try.prog 53 #[v, .int .i64 y] w fun e w' => e = .returned (.bool (decide (y ∈ xs))) ∧ w = w' := by
  obtain ⟨ad, cap, rfl, h⟩ := hr
  have HR := Lib.hid h; clear h
  go_enter Try.func53, Try.ntmps53
  go_wp2_with fail
  go_loop [9] (fun i => ∃ k : Nat, k ≤ xs.length ∧ i = .int .i64 k ∧ ∀ j, j < k → xs.getD j 0 ≠ y) (fun i => xs.length - (intOf i).toNat)
  case atStart => exact ⟨0, Nat.zero_le _, rfl, fun j hj => by omega⟩
  case round =>
    obtain ⟨k, hk, rfl, hj⟩ := hrel
    have HJ := Lib.hid hj; clear hj
    by_cases hlt : k < xs.length
    · obtain ⟨b, off, rfl, hb, c⟩ := HR.out k hlt
      have hmem : xs.getD k 0 ∈ xs := by rw [List.getD_eq_getElem?_getD, List.getElem?_eq_getElem hlt]; exact List.getElem_mem hlt
      generalize hx : xs.getD k 0 = x at c hmem
      have HX := Lib.hid hx; clear hx
      have HM := Lib.hid hmem; clear hmem
      by_cases e : x = y
      · have e1 : (x == y) = true := by simpa using e
        have HE := Lib.hid e; clear e
        go_wp2_with fail
        go_ret
        exact ⟨ret_bool (by have := HM.out; rw [HE.out] at this; simp [this]), rfl⟩
      · have e1 : (x == y) = false := by simpa using e
        have HE := Lib.hid e; clear e
        go_wp2_with fail
        go_round
        case rel =>
          refine ⟨k + 1, by omega, by go_num, fun j hj => ?_⟩
          by_cases q : j = k
          · rw [q, HX.out]; exact HE.out
          · exact HJ.out j (by omega)
        case measure => simp [intOf]; omega
    · have he : k = xs.length := by omega
      subst he
      go_wp2_with fail
      go_ret
      refine ⟨ret_bool ?_, rfl⟩
      symm
      rw [decide_eq_false_iff_not]
      intro hm
      obtain ⟨j, hj, e⟩ := List.getElem_of_mem hm
      exact HJ.out j hj (by simpa [List.getD, hj] using e)

end Go.Proofs.Ytmhmdbmiimpbnaa
