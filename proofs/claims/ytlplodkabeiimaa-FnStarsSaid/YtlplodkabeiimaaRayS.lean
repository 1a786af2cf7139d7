/-
  slices.SortFunc over rays: the one sorted list. By an AI agent.
-/
import Derived.Test.YtlplodkabeiimaaRayR
namespace Go.Proofs.Ytlplodkabeiimaa
namespace RaySort
open Go.RowKit
open Go.Sort (SWO bitsLen bitsLen_le_iff)

set_option maxHeartbeats 800000 in
theorem sortFunc_c (blk off cap : Nat) (d : Array Ry) (w : World) (hH : PH w blk off d) (hbl : blk < w.heap.size) (hsz : d.size < 2305843009213693952) :
    Calls Try.prog 29 #[.slice (some ⟨blk, off, none⟩) d.size cap, cmpV] w (SortsTo w blk off d.size (Sort.sort ltRy d)) := by
  have hLen : ∀ w, Calls Try.prog 58 #[.int .u64 (d.size : Int)] w fun e w' => e = .returned (.int .i64 (bitsLen d.size : Nat)) ∧ w' = w := fun w => by
    have h := bits_Len (d.size : Int) w (by omega) (by omega)
    rwa [Int.toNat_natCast, bitLen_eq _ (by omega)] at h
  have hk : bitsLen d.size ≤ 62 := (bitsLen_le_iff d.size 62).2 (by omega)
  have hp := pdqsort_c (d.size + 1) blk off cap 0 d.size (bitsLen d.size) d w (by omega) hH hbl (Nat.zero_le _) (Nat.le_refl _) hsz (by omega) (Or.inl rfl)
  have hszs := (Sort.sort_sorts ltRy swo_ltRy d).1.1
  have w3' : IntKind.u64.wrap (d.size : Int) = (d.size : Int) := by rw [IntKind.wrap_u64]; omega
  have HSZ := Lib.hid hszs; clear hszs
  have HL := Lib.hid hLen; clear hLen
  have z0 : ((0 : Nat) : Int) = 0 := rfl
  rw [z0] at hp
  have HP := Lib.hid hp; clear hp hH
  unfold cmpV
  have hsrt : Sort.sort ltRy d = Sort.pdq ltRy d 0 d.size (bitsLen d.size) true true := rfl
  rw [hsrt] at HSZ ⊢
  clear hsrt
  generalize bitsLen d.size = lim at HL HP hk HSZ ⊢
  go_enter Try.func29, Try.ntmps29
  go_wp2_with fail
  refine (HL.out _).mono ?_
  rintro e w' ⟨rfl, rfl⟩
  go_wp2_with fail
  refine HP.out.mono ?_
  rintro e w1 ⟨rfl, hat⟩
  go_wp2_with fail
  go_end0
  exact ⟨rfl, hat.1, hat.2, HSZ.out⟩

end RaySort
end Go.Proofs.Ytlplodkabeiimaa
