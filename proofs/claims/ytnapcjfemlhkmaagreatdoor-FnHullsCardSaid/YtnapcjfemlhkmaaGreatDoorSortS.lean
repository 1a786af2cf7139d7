/-
  slices.SortFunc over points: the one sorted list. By an AI agent.
-/
import Derived.Test.YtnapcjfemlhkmaaGreatDoorSortR
import Derived.Test.YtnapcjfemlhkmaaGreatDoorSortB
namespace Go.Proofs.YtnapcjfemlhkmaaGreatDoor
open Go.RowKit
open Go.Sort (SWO bitsLen bitsLen_le_iff)

theorem sort_eq (d : Array Pt) : (Sort.sort ltPt d).toList = srt d.toList :=
  Sort.sorted_unique_holds swo_ltPt (fun x y h1 h2 => ltPt_eq h1 h2) d (Sort.sort ltPt d) (Sort.sort_sorts ltPt swo_ltPt d).1 (by
    have h := (Sort.sort_sorts ltPt swo_ltPt d).2
    exact h)

set_option maxHeartbeats 800000 in
theorem sortFunc_c (blk off cap : Nat) (d : Array Pt) (w : World) (hH : PH w blk off d) (hbl : blk < w.heap.size) (hsz : d.size < 2305843009213693952) :
    Calls Tryz.prog 59 #[.slice (some ⟨blk, off, none⟩) d.size cap, cmpV] w (SortsTo w blk off d.size (Sort.sort ltPt d)) := by
  have hLen : ∀ w, Calls Tryz.prog 80 #[.int .u64 (d.size : Int)] w fun e w' => e = .returned (.int .i64 (bitsLen d.size : Nat)) ∧ w' = w := fun w => by
    have h := bits_Len (d.size : Int) w (by omega) (by omega)
    rwa [Int.toNat_natCast, bitLen_eq _ (by omega)] at h
  have hk : bitsLen d.size ≤ 62 := (bitsLen_le_iff d.size 62).2 (by omega)
  have hp := pdqsort_c (d.size + 1) blk off cap 0 d.size (bitsLen d.size) d w (by omega) hH hbl (Nat.zero_le _) (Nat.le_refl _) hsz (by omega) (Or.inl rfl)
  have hszs := (Sort.sort_sorts ltPt swo_ltPt d).1.1
  have w3' : IntKind.u64.wrap (d.size : Int) = (d.size : Int) := by rw [IntKind.wrap_u64]; omega
  have HSZ := Lib.hid hszs; clear hszs
  have HL := Lib.hid hLen; clear hLen
  have z0 : ((0 : Nat) : Int) = 0 := rfl
  rw [z0] at hp
  have HP := Lib.hid hp; clear hp hH
  unfold cmpV
  have hsrt : Sort.sort ltPt d = Sort.pdq ltPt d 0 d.size (bitsLen d.size) true true := rfl
  rw [hsrt] at HSZ ⊢
  clear hsrt
  generalize bitsLen d.size = lim at HL HP hk HSZ ⊢
  go_enter Tryz.func59, Tryz.ntmps59
  go_wp2_with fail
  refine (HL.out _).mono ?_
  rintro e w' ⟨rfl, rfl⟩
  go_wp2_with fail
  refine HP.out.mono ?_
  rintro e w1 ⟨rfl, hat⟩
  go_wp2_with fail
  go_end0
  exact ⟨rfl, hat.1, hat.2, HSZ.out⟩

end Go.Proofs.YtnapcjfemlhkmaaGreatDoor
