/-
  strings.SplitSeq with a separator of one byte: the iterator's contract. By an AI agent.
-/
import Derived.RangeFuncNested
import Derived.RangeFuncBound
import Derived.RangeFuncCalls
import Derived.RangeFuncLeaves
import Derived.Shelf.Abstract
import Derived.Shelf.RegionOpen
import Derived.WalkKit
import Derived.OwnWalkIn
import Derived.TacticsInMore
import Derived.LoopNIn
import Derived.LoopIn
import Derived.Lib.IndexLaws
import Derived.Test.YtfgdhlnmndgjbaaGreatDoorBase
import Derived.Test.YtfgdhlnmndgjbaaGreatDoorCutS
import Derived.Test.YtfgdhlnmndgjbaaGreatDoorRgF
import Derived.Test.YtfgdhlnmndgjbaaGreatDoorShelf
namespace Go.Proofs.YtfgdhlnmndgjbaaGreatDoor
open Go.RowKit Go.Shelf

attribute [local go_sem] Oper.semAt_some

/-! ### Plain -/
theorem split_none {c : UInt8} {r : List UInt8} (h : Lib.indexByte r c = -1) : splitB c.toNat r = [r] :=
  split_no r fun x hx e => by
    obtain ⟨k, hk, rfl⟩ := List.getElem_of_mem hx
    refine Lib.indexByte_none h k ?_
    rw [List.getElem?_eq_getElem hk]
    exact congrArg some (UInt8.toNat_inj.1 e)
theorem split_hit {c : UInt8} : ∀ {r : List UInt8} {k : Nat}, Lib.indexByte r c = k → k < r.length ∧ splitB c.toNat r = r.take k :: splitB c.toNat (r.drop (k + 1))
  | [], k, h => by unfold Lib.indexByte at h; omega
  | b :: l, k, h => by
    unfold Lib.indexByte at h
    by_cases e : b = c
    · subst e
      rw [if_pos (by simp)] at h
      obtain rfl : k = 0 := by omega
      refine ⟨by simp, ?_⟩
      rw [splitB, if_pos rfl]
      simp
    · rw [if_neg (by simpa using e)] at h
      split at h
      · omega
      · rename_i h1
        have hge := Lib.indexByte_ge l c
        have h1 : Lib.indexByte l c ≠ -1 := by simpa using h1
        obtain ⟨m, hm⟩ : ∃ m : Nat, Lib.indexByte l c = m := ⟨(Lib.indexByte l c).toNat, by omega⟩
        obtain rfl : k = m + 1 := by omega
        obtain ⟨h2, h3⟩ := split_hit hm
        refine ⟨by simp; omega, ?_⟩
        rw [splitB, if_neg (fun e2 => e (UInt8.toNat_inj.1 e2)), h3]
        simp
theorem str_take (r : List UInt8) (k : Nat) : (⟨r.toArray⟩ : ByteArray).extract 0 k = ⟨(r.take k).toArray⟩ := by
  apply ByteArray.ext
  rw [ByteArray.data_extract]
  apply Array.ext'
  simp
theorem str_drop (r : List UInt8) (k : Nat) : (⟨r.toArray⟩ : ByteArray).extract k r.length = ⟨(r.drop k).toArray⟩ := by
  apply ByteArray.ext
  rw [ByteArray.data_extract]
  apply Array.ext'
  simp
  exact List.take_of_length_le (by rw [List.length_drop]; omega)

/-- The three boxes of the iterator lie as they lay. -/
def KpS (Bs : Nat) (W W' : World) : Prop := ∀ b, b = Bs ∨ b = Bs + 1 ∨ b = Bs + 2 → W'.heap[b]? = W.heap[b]?
def lenS (w : World) (b : Nat) : Nat := match w.cell? ⟨b, 0, none⟩ with
  | some (.string x) => x.size
  | _ => 0
theorem lenS_of {w : World} {b : Nat} {r : List UInt8} (h : w.cell? ⟨b, 0, none⟩ = some (.string ⟨r.toArray⟩)) : lenS w b = r.length := by
  unfold lenS; rw [h]; rfl
/-- What the iterator's boxes hold. -/
structure BxS (w : World) (Bs : Nat) (r : List UInt8) (c : UInt8) : Prop where
  s : Own w Bs 9 [.string ⟨r.toArray⟩]
  p : Own w (Bs + 1) 9 [.string ⟨#[c]⟩]
  n : Own w (Bs + 2) 3 [.int .i64 0]
theorem BxS.keep {w w' : World} {Bs : Nat} {r : List UInt8} {c : UInt8} (h : BxS w Bs r c) (k : KpS Bs w w') : BxS w' Bs r c :=
  ⟨h.s.of_block (k _ (Or.inl rfl)), h.p.of_block (k _ (Or.inr (Or.inl rfl))), h.n.of_block (k _ (Or.inr (Or.inr rfl)))⟩
theorem BxS.put {w : World} {Bs : Nat} {r r' : List UInt8} {c : UInt8} (h : BxS w Bs r c) : BxS (w.setCell ⟨Bs, 0, none⟩ (.string ⟨r'.toArray⟩)) Bs r' c :=
  ⟨Own.set h.s 0 (.string ⟨r'.toArray⟩), h.p.of_block (heap_set w Bs _ (by omega)), h.n.of_block (heap_set w Bs _ (by omega))⟩

set_option maxRecDepth 100000 in
set_option maxHeartbeats 4000000 in
theorem splitSeq1_in (n l Bs : Nat) (c : UInt8) (s : List UInt8) (hs : s.length ≤ 1000000) (hn : 1 ≤ n) (J Jx : List (List UInt8) → World → Prop) (hJ : Bears Bs J)
    (hY : ∀ pre x W1, J pre W1 → (pre ++ [x]) <+: splitB c.toNat s → YieldAt Fence.wide (n - 1) Tryz.prog l #[.string ⟨x.toArray⟩] W1 fun e W' => (e = .returned (.bool true) ∧ J (pre ++ [x]) W' ∧ KpS Bs W1 W') ∨ (e = .returned (.bool false) ∧ Jx (pre ++ [x]) W'))
    (W : World) (hB : BxS W Bs s c) (h0 : J [] W) :
    CallsIn Fence.wide n Tryz.prog 102 #[.func (.yield l) #[] #[], .pointer (some ⟨Bs + 1, 0, none⟩), .pointer (some ⟨Bs, 0, none⟩), .pointer (some ⟨Bs + 2, 0, none⟩)] W fun e W' => (∃ v, e = .returned v) ∧
      ((∃ xs, xs = splitB c.toNat s ∧ J xs W') ∨ (∃ pre, pre <+: splitB c.toNat s ∧ Jx pre W')) := by
  refine callsIn_of_wp Tryz.func102 rfl trivial ?_ rfl
  simp only [Tryz.ntmps102, List.size_toArray, List.length_cons, List.length_nil, Nat.reduceAdd, Nat.reduceSub, Array.replicate_succ, Array.replicate_zero, List.push_toArray, List.append_toArray, List.nil_append, List.cons_append]
  have hsz : (⟨#[c]⟩ : ByteArray).size = 1 := rfl
  have q1 := Own.cell? hB.p (i := 0) rfl
  gi_wp2
  gi_loopw [7] (fun _ wr => ∃ (pre : List (List UInt8)) (r : List UInt8), splitB c.toNat s = pre ++ splitB c.toNat r ∧ r.length ≤ s.length ∧ BxS wr Bs r c ∧ J pre wr)
    (fun _ wr => lenS wr Bs)
  case atStart => exact ⟨[], s, rfl, Nat.le_refl _, hB, h0⟩
  case round =>
    obtain ⟨pre, r, hsp, hrl, hbx, hj⟩ := hrel
    have q0 := Own.cell? hbx.s (i := 0) rfl
    have q1 := Own.cell? hbx.p (i := 0) rfl
    have q2 := Own.cell? hbx.n (i := 0) rfl
    have f0 := Own.frozen hbx.s 0
    have hlen := lenS_of q0
    have hge := Lib.indexByte_ge r c
    by_cases hno : Lib.indexByte r c = -1
    · -- the last one
      have hsp2 : splitB c.toNat s = pre ++ [r] := by rw [hsp, split_none hno]
      obtain ⟨fn, tmps, assign, body, hy, hR⟩ := hY pre r wr hj (by rw [hsp2]; exact List.prefix_refl _)
      have ci := Any.strings_Index_one Tryz.lays143 ⟨r.toArray⟩ c wr
      rw [show (⟨r.toArray⟩ : ByteArray).data.toList = r from rfl, hno] at ci
      generalize (⟨r.toArray⟩ : ByteArray) = S at ci hy q0
      gi_wp2_with (refine ⟨trivial, ?_⟩; gi_at_call 101; refine (callsIn_wide.2 ci).mono ?_; rintro e w' ⟨rfl, rfl⟩)
      refine hR.mono ?_
      rintro e W3 (⟨rfl, hJ3, hk3⟩ | ⟨rfl, hJx3⟩)
      · gi_wp2
        go_end0
        exact ⟨⟨_, rfl⟩, .inl ⟨_, rfl, by rw [hsp2]; exact hJ3⟩⟩
      · gi_wp2
        go_end0
        exact ⟨⟨_, rfl⟩, .inr ⟨_, by rw [hsp2]; exact List.prefix_refl _, hJx3⟩⟩
    · obtain ⟨k, hk⟩ : ∃ k : Nat, Lib.indexByte r c = k := ⟨(Lib.indexByte r c).toNat, by omega⟩
      obtain ⟨hkl, hsr⟩ := split_hit hk
      have hsp2 : splitB c.toNat s = (pre ++ [r.take k]) ++ splitB c.toNat (r.drop (k + 1)) := by rw [hsp, hsr]; simp
      obtain ⟨fn, tmps, assign, body, hy, hR⟩ := hY pre (r.take k) wr hj (by rw [hsp2]; exact List.prefix_append _ _)
      have ci := Any.strings_Index_one Tryz.lays143 ⟨r.toArray⟩ c wr
      rw [show (⟨r.toArray⟩ : ByteArray).data.toList = r from rfl, hk] at ci
      have hsl : ∀ w, (Instr.slice 9 (.string ⟨r.toArray⟩) none (some (.int .i64 (k : Int))) none).run Tryz.prog w = .ok (.string ⟨(r.take k).toArray⟩) w := fun w => by
        rw [run_slice_string_h w _ _ Tryz.underlying9 .i64 (k : Int) (by omega) (by simp [ByteArray.size]; omega), Int.toNat_natCast, str_take r k]
      have hsr2 : ∀ w, (Instr.slice 9 (.string ⟨r.toArray⟩) (some (.int .i64 ((k : Int) + 1))) none none).run Tryz.prog w = .ok (.string ⟨(r.drop (k + 1)).toArray⟩) w := fun w => by
        rw [run_slice_string_l w _ _ Tryz.underlying9 .i64 ((k : Int) + 1) (by omega) (by simp [ByteArray.size]; omega), show ((k : Int) + 1).toNat = k + 1 by omega, show (⟨r.toArray⟩ : ByteArray).size = r.length by simp [ByteArray.size], str_drop r (k + 1)]
      have w1 : IntKind.i64.wrap ((k : Int) + 0) = (k : Int) := by rw [Int.add_zero]; exact i64_small (by omega) (by omega)
      have w2 : IntKind.i64.wrap ((k : Int) + 1) = (k : Int) + 1 := i64_small (by omega) (by omega)
      have hput := fun (w3 : World) (h : BxS w3 Bs r c) => BxS.put (r' := r.drop (k + 1)) h
      generalize (⟨(r.take k).toArray⟩ : ByteArray) = S1 at hsl hy
      obtain ⟨S2, hS2⟩ : ∃ S2 : ByteArray, S2 = ⟨(r.drop (k + 1)).toArray⟩ := ⟨_, rfl⟩
      rw [← hS2] at hsr2 hput
      have HS2 := Lib.hid hS2; clear hS2
      obtain ⟨S, hS⟩ : ∃ S : ByteArray, S = ⟨r.toArray⟩ := ⟨_, rfl⟩
      rw [← hS] at ci q0 hsl hsr2
      have HS := Lib.hid hS; clear hS
      gi_wp2_with (refine ⟨trivial, ?_⟩; gi_at_call 101; refine (callsIn_wide.2 ci).mono ?_; rintro e w' ⟨rfl, rfl⟩)
      refine hR.mono ?_
      rintro e W3 (⟨rfl, hJ3, hk3⟩ | ⟨rfl, hJx3⟩)
      · have hb3 := hbx.keep hk3
        have p0 := Own.cell? hb3.s (i := 0) rfl
        have p1 := Own.cell? hb3.p (i := 0) rfl
        have p2 := Own.frozen hb3.s 0
        rw [← HS.out] at p0
        have hb4 := hput W3 hb3
        have hJ4 := hJ.box _ _ (.string S2) hJ3
        gi_wp2
        go_roundw
        case rel => exact ⟨pre ++ [r.take k], r.drop (k + 1), hsp2, by rw [List.length_drop]; omega, hb4, hJ4⟩
        case measure =>
          have := lenS_of (r := r.drop (k + 1)) (Own.cell? hb4.s (i := 0) rfl)
          rw [List.length_drop] at this
          omega
      · gi_wp2
        refine bodyPost_ret (results_none rfl _ _ _) rfl ?_
        exact ⟨⟨_, rfl⟩, .inr ⟨_, by rw [hsp2]; exact List.prefix_append _ _, hJx3⟩⟩
end Go.Proofs.YtfgdhlnmndgjbaaGreatDoor
