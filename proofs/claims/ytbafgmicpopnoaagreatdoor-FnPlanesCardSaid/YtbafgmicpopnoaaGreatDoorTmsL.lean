/-
  What the scans, the partitions and the shifts of the library's sort compute, round for round. Printed by gen_sort.py.
-/
import Derived.Test.YtbafgmicpopnoaaGreatDoorTmsQ
import Derived.Deep.DeepCutAuto
namespace Go.Proofs.YtbafgmicpopnoaaGreatDoor
namespace TmsSort
open Go.RowKit
open Go.Sort (SWO swp swp_left swp_right swp_other size_swp insInner insOuter Hint)

theorem scanUp_stop {p : Tm → Bool} {d : Array Tm} {i j : Nat} (h : (decide (i ≤ j) && p d[i]!) = false) : Sort.scanUp p d j i = i := by rw [Sort.scanUp, h]; rfl
theorem scanUp_go {p : Tm → Bool} {d : Array Tm} {i j : Nat} (h : (decide (i ≤ j) && p d[i]!) = true) : Sort.scanUp p d j i = Sort.scanUp p d j (i + 1) := by rw [Sort.scanUp, h]; rfl
theorem scanDown_stop {p : Tm → Bool} {d : Array Tm} {i j : Nat} (h : (decide (i ≤ j) && p d[j]!) = false) : Sort.scanDown p d i j = j := by
  cases j with
  | zero => rw [Sort.scanDown]
  | succ k => rw [Sort.scanDown, h]; rfl
theorem scanDown_go {p : Tm → Bool} {d : Array Tm} {i j k : Nat} (hk : j = k + 1) (h : (decide (i ≤ j) && p d[j]!) = true) : Sort.scanDown p d i j = Sort.scanDown p d i k := by subst hk; rw [Sort.scanDown, h]; rfl
theorem partLoop_stop {a i j i2 j2 : Nat} {d : Array Tm} (h1 : Sort.scanUp (fun x => ltTm x d[a]!) d j i = i2) (h2 : Sort.scanDown (fun x => !ltTm x d[a]!) d i2 j = j2) (h : j2 < i2) : Sort.partLoop ltTm a i j d = (j2, d) := by
  rw [Sort.partLoop]
  simp only [h1, h2]
  rw [if_pos h]
theorem partLoop_go {a i j i2 j2 : Nat} {d : Array Tm} (h1 : Sort.scanUp (fun x => ltTm x d[a]!) d j i = i2) (h2 : Sort.scanDown (fun x => !ltTm x d[a]!) d i2 j = j2) (h : ¬ j2 < i2) (hi : i ≤ i2) (hj : j2 ≤ j) : Sort.partLoop ltTm a i j d = Sort.partLoop ltTm a (i2 + 1) (j2 - 1) (swp d i2 j2) := by
  rw [Sort.partLoop]
  simp only [h1, h2]
  rw [if_neg h, dif_pos (by omega)]
theorem partEqLoop_stop {a i j i2 j2 : Nat} {d : Array Tm} (h1 : Sort.scanUp (fun x => !ltTm d[a]! x) d j i = i2) (h2 : Sort.scanDown (fun x => ltTm d[a]! x) d i2 j = j2) (h : j2 < i2) : Sort.partEqLoop ltTm a i j d = (i2, d) := by
  rw [Sort.partEqLoop]
  simp only [h1, h2]
  rw [if_pos h]
theorem partEqLoop_go {a i j i2 j2 : Nat} {d : Array Tm} (h1 : Sort.scanUp (fun x => !ltTm d[a]! x) d j i = i2) (h2 : Sort.scanDown (fun x => ltTm d[a]! x) d i2 j = j2) (h : ¬ j2 < i2) (hi : i ≤ i2) (hj : j2 ≤ j) : Sort.partEqLoop ltTm a i j d = Sort.partEqLoop ltTm a (i2 + 1) (j2 - 1) (swp d i2 j2) := by
  rw [Sort.partEqLoop]
  simp only [h1, h2]
  rw [if_neg h, dif_pos (by omega)]
theorem partition_early {d d0 : Array Tm} {a b pivot i2 j2 : Nat} (h0 : swp d a pivot = d0) (h1 : Sort.scanUp (fun x => ltTm x d0[a]!) d0 (b - 1) (a + 1) = i2) (h2 : Sort.scanDown (fun x => !ltTm x d0[a]!) d0 i2 (b - 1) = j2) (h : j2 < i2) : Sort.partition ltTm d a b pivot = (j2, true, swp d0 j2 a) := by
  unfold Sort.partition
  simp only [h0, h1, h2]
  rw [if_pos h]
theorem partition_late {d d0 : Array Tm} {a b pivot i2 j2 : Nat} {r : Nat × Array Tm} (h0 : swp d a pivot = d0) (h1 : Sort.scanUp (fun x => ltTm x d0[a]!) d0 (b - 1) (a + 1) = i2) (h2 : Sort.scanDown (fun x => !ltTm x d0[a]!) d0 i2 (b - 1) = j2) (h : ¬ j2 < i2) (hr : Sort.partLoop ltTm a (i2 + 1) (j2 - 1) (swp d0 i2 j2) = r) : Sort.partition ltTm d a b pivot = (r.1, false, swp r.2 r.1 a) := by
  unfold Sort.partition
  simp only [h0, h1, h2]
  rw [if_neg h, hr]

/-- What a partition does: the new pivot, whether all was in place, the row. -/
def PartsTo (w : World) (blk off n : Nat) (R : Nat × Bool × Array Tm) (e : Ending) (w' : World) : Prop := e = .returned (.tuple #[.int .i64 R.1, .bool R.2.1]) ∧ PH w' blk off R.2.2 ∧ Chg blk w w' ∧ R.2.2.size = n
def PartEqTo (w : World) (blk off n : Nat) (R : Nat × Array Tm) (e : Ending) (w' : World) : Prop := e = .returned (.int .i64 R.1) ∧ PH w' blk off R.2 ∧ Chg blk w w' ∧ R.2.size = n


theorem scanSorted_stop {d : Array Tm} {i b : Nat} (h : (decide (i < b) && !ltTm d[i]! d[i - 1]!) = false) : Sort.scanSorted ltTm d b i = i := by rw [Sort.scanSorted, h]; rfl
theorem scanSorted_go {d : Array Tm} {i b : Nat} (h : (decide (i < b) && !ltTm d[i]! d[i - 1]!) = true) : Sort.scanSorted ltTm d b i = Sort.scanSorted ltTm d b (i + 1) := by rw [Sort.scanSorted, h]; rfl
theorem shiftDown_stop {d : Array Tm} {j k : Nat} (hk : j = k + 1) (h : ltTm d[j]! d[k]! = false) : Sort.shiftDown ltTm j d = d := by subst hk; rw [Sort.shiftDown, h]; rfl
theorem shiftDown_go {d : Array Tm} {j k : Nat} (hk : j = k + 1) (h : ltTm d[j]! d[k]! = true) : Sort.shiftDown ltTm j d = Sort.shiftDown ltTm k (swp d j k) := by subst hk; rw [Sort.shiftDown, h]; rfl
theorem shiftUp_stop {d : Array Tm} {b j k : Nat} (hk : j = k + 1) (hj : j < b) (h : ltTm d[j]! d[k]! = false) : Sort.shiftUp ltTm b j d = d := by subst hk; rw [Sort.shiftUp, if_pos hj, Nat.add_sub_cancel, h]; rfl
theorem shiftUp_end {d : Array Tm} {b j : Nat} (hj : ¬ j < b) : Sort.shiftUp ltTm b j d = d := by rw [Sort.shiftUp, if_neg hj]
theorem shiftUp_go {d : Array Tm} {b j k : Nat} (hk : j = k + 1) (hj : j < b) (h : ltTm d[j]! d[k]! = true) : Sort.shiftUp ltTm b j d = Sort.shiftUp ltTm b (j + 1) (swp d j k) := by subst hk; rw [Sort.shiftUp, if_pos hj, Nat.add_sub_cancel, h]; rfl
theorem partialIns_zero {a b i : Nat} {d : Array Tm} : Sort.partialIns ltTm a b 0 i d = (d, false) := rfl
theorem partialIns_done {a b s i i2 : Nat} {d : Array Tm} (h1 : Sort.scanSorted ltTm d b i = i2) (h : i2 = b) : Sort.partialIns ltTm a b (s + 1) i d = (d, true) := by rw [Sort.partialIns_succ, h1, if_pos h]
theorem partialIns_short {a b s i i2 : Nat} {d : Array Tm} (h1 : Sort.scanSorted ltTm d b i = i2) (h : ¬ i2 = b) (h50 : b - a < 50) : Sort.partialIns ltTm a b (s + 1) i d = (d, false) := by rw [Sort.partialIns_succ, h1, if_neg h, if_pos h50]
theorem partialIns_go {a b s i i2 k : Nat} {d D1 D2 D3 : Array Tm} (h1 : Sort.scanSorted ltTm d b i = i2) (h : ¬ i2 = b) (h50 : ¬ b - a < 50) (hk : i2 = k + 1) (e1 : swp d i2 k = D1) (e2 : Sort.fixDown ltTm a i2 D1 = D2) (e3 : Sort.fixUp ltTm b i2 D2 = D3) :
    Sort.partialIns ltTm a b (s + 1) i d = Sort.partialIns ltTm a b s i2 D3 := by
  subst hk
  rw [Sort.partialIns_succ, h1, if_neg h, if_neg h50, Nat.add_sub_cancel, e1, e2, e3]

def ParTo (w : World) (blk off n : Nat) (R : Array Tm × Bool) (e : Ending) (w' : World) : Prop := e = .returned (.bool R.2) ∧ PH w' blk off R.1 ∧ Chg blk w w' ∧ R.1.size = n


end TmsSort
end Go.Proofs.YtbafgmicpopnoaaGreatDoor
