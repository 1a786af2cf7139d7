/-
  The library's insertion sort over rays, walked. By an AI agent.
-/
import Derived.Test.YtlplodkabeiimaaRayB
namespace Go.Proofs.Ytlplodkabeiimaa
namespace RaySort
open Go.RowKit
open Go.Sort (SWO swp swp_left swp_right swp_other size_swp insInner insOuter)

def cmpV : Value := .func (.func 30) #[] #[]

section
variable {α : Type} [Inhabited α] (lt : α → α → Bool)
theorem insInner_go (a j : Nat) (d : Array α) (hj : a < j) (hl : lt d[j]! d[j - 1]! = true) : insInner lt a j d = insInner lt a (j - 1) (swp d j (j - 1)) := by
  obtain ⟨k, rfl⟩ : ∃ k, j = k + 1 := ⟨j - 1, by omega⟩
  rw [insInner]
  simp only [Nat.add_sub_cancel] at hl ⊢
  simp [hj, hl]
theorem insInner_stop (a j : Nat) (d : Array α) (h : j ≤ a ∨ lt d[j]! d[j - 1]! = false) : insInner lt a j d = d := by
  cases j with
  | zero => rw [insInner]
  | succ k =>
    rw [insInner]
    simp only [Nat.add_sub_cancel] at h
    rcases h with h | h
    · simp [show ¬ k + 1 > a by omega]
    · simp [h]
theorem insOuter_go (a b i : Nat) (d : Array α) (h : i < b) : insOuter lt a b i d = insOuter lt a b (i + 1) (insInner lt a i d) := by rw [insOuter, if_pos h]
theorem insOuter_stop (a b i : Nat) (d : Array α) (h : ¬ i < b) : insOuter lt a b i d = d := by rw [insOuter, if_neg h]
end

/-- What the sort's functions do. -/
def SortsTo (w : World) (blk off n : Nat) (d' : Array Ry) (e : Ending) (w' : World) : Prop := e = .returned (.tuple #[]) ∧ PH w' blk off d' ∧ Chg blk w w' ∧ d'.size = n

set_option maxHeartbeats 1600000 in
set_option maxRecDepth 100000 in
theorem insertionSort_c (blk off cap a b : Nat) (d : Array Ry) (w : World) (hH : PH w blk off d) (hab : a ≤ b) (hb : b ≤ d.size) (hsz : d.size < 2305843009213693952) :
    Calls Try.prog 67 #[.slice (some ⟨blk, off, none⟩) d.size cap, .int .i64 a, .int .i64 b, cmpV] w (SortsTo w blk off d.size (Sort.insertionSort ltRy d a b)) := by
  have HP := Lib.hid hH; clear hH
  unfold cmpV
  go_enter Try.func67, Try.ntmps67
  go_wp2_with fail
  go_loopw [8] (fun vi wr => ∃ (i : Nat) (dk : Array Ry), vi = .int .i64 i ∧ a < i ∧ i ≤ b + 1 ∧ dk.size = d.size ∧ PH wr blk off dk ∧ Chg blk w wr ∧ insOuter ltRy a b i dk = insOuter ltRy a b (a + 1) d) (fun vi _ => b + 1 - (intOf vi).toNat)
  case atStart => exact ⟨a + 1, d, by go_num, by omega, by omega, rfl, HP.out, Chg.refl _ _, rfl⟩
  case round =>
    obtain ⟨i, dk, rfl, hai, hib, hsk, hph, hchg, hO⟩ := hrel
    have HO := Lib.hid hO; clear hO
    have HK := Lib.hid hph; clear hph
    have HSK := Lib.hid hsk; clear hsk
    by_cases hlt : i < b
    case neg =>
      go_wp2_with fail
      go_end0
      refine ⟨rfl, ?_, hchg, ?_⟩
      all_goals unfold Sort.insertionSort
      all_goals rw [← HO.out, insOuter_stop _ _ _ _ _ hlt]
      · exact HK.out
      · exact HSK.out
    case pos =>
      go_wp2_with fail
      go_loopw [9] (fun vj wr2 => ∃ (j : Nat) (dj : Array Ry), vj = .int .i64 j ∧ a ≤ j ∧ j ≤ i ∧ dj.size = d.size ∧ PH wr2 blk off dj ∧ Chg blk w wr2 ∧ insInner ltRy a j dj = insInner ltRy a i dk) (fun vj _ => (intOf vj).toNat)
      case atStart => exact ⟨i, dk, rfl, by omega, Nat.le_refl _, HSK.out, HK.out, hchg, rfl⟩
      case round =>
        obtain ⟨j, dj, rfl, haj, hji, hsj, hph2, hchg2, hI⟩ := hrel
        have HI := Lib.hid hI; clear hI
        have HJ := Lib.hid hph2; clear hph2
        have HSJ := Lib.hid hsj; clear hsj
        by_cases hja : a < j
        case neg =>
          go_wp2_with fail
          go_quiet (fail)
          go_wp2_with fail
          go_roundw
          case rel => exact ⟨i + 1, dj, by go_num, by omega, by omega, HSJ.out, HJ.out.below (bdrewN (Below.refl _ _) nq), hchg2.trans (Chg.drewN _ _ nq), by rw [← HO.out, insOuter_go _ _ _ _ _ hlt, ← HI.out, insInner_stop _ _ _ _ (Or.inl (by omega))]⟩
          case measure => simp [intOf]; omega
        case pos =>
          obtain ⟨k, hk⟩ : ∃ k, j = k + 1 := ⟨j - 1, by omega⟩
          have e0 : (j : Int) - 1 = (k : Int) := by omega
          have HK1 := Lib.hid hk; clear hk
          obtain ⟨p1, p2, p6, p3, p4, p7, p5⟩ := HJ.out j (by have := HSJ.out; omega)
          obtain ⟨q1, q2, q6, q3, q4, q7, q5⟩ := HJ.out k (by have := HSJ.out; have := HK1.out; omega)
          have x1 : (0 : Int) ≤ (j : Int) := by omega
          have x2 : (j : Int) < (d.size : Int) := by omega
          have x3 : (0 : Int) ≤ (k : Int) := by omega
          have x4 : (k : Int) < (d.size : Int) := by omega
          have e1 : IntKind.i64.wrap (k : Int) = (k : Int) := i64_small (by omega) (by omega)
          have hbl := HJ.out.lt (by have := HSJ.out; omega)
          have hcmp := fun w => compareRays_c dj[j]! dj[k]! w p5 q5
          unfold ryV at hcmp
          have HCMP := Lib.hid hcmp; clear hcmp
          go_wp2_with fail
          go_region_held3 (fun w' => w'.cell? ⟨blk, off + j * 3, none⟩ = some (.int .i64 dj[j]!.x) ∧ w'.cell? ⟨blk, off + j * 3 + 1, none⟩ = some (.int .i64 dj[j]!.y) ∧ w'.cell? ⟨blk, off + j * 3 + 2, none⟩ = some (.int .i64 dj[j]!.w) ∧ w'.cell? ⟨blk, off + k * 3, none⟩ = some (.int .i64 dj[k]!.x) ∧ w'.cell? ⟨blk, off + k * 3 + 1, none⟩ = some (.int .i64 dj[k]!.y) ∧ w'.cell? ⟨blk, off + k * 3 + 2, none⟩ = some (.int .i64 dj[k]!.w)) (exact ⟨by assumption, by assumption, by assumption, by assumption, by assumption, by assumption⟩)
            (first
              | (go_at_call 30; (with_reducible refine (HCMP.out _).mono ?_); rintro e W1 ⟨⟨r, rfl, hr⟩, hw1⟩; have m1 := bcell hw1 hbl p1; have m2 := bcell hw1 hbl p2; have m3 := bcell hw1 hbl q1; have m4 := bcell hw1 hbl q2; have m5 := bcell hw1 hbl p6; have m6 := bcell hw1 hbl q6))
          have hb1 : Below wr.heap.size wr W1 := (Below.refl _ _).drew.trans hw1
          have HJ1 := Lib.hid (HJ.out.below hb1)
          have hc1 := hchg2.trans (Chg.of_below hb1)
          obtain ⟨p1, p2, p6, p3, p4, p7, _⟩ := HJ1.out j (by have := HSJ.out; omega)
          obtain ⟨q1, q2, q6, q3, q4, q7, _⟩ := HJ1.out k (by have := HSJ.out; have := HK1.out; omega)
          clear HCMP hr hw1 m1 m2 m3 m4 m5 m6
          generalize hcc : ltRy dj[j]! dj[k]! = c
          have HCC := Lib.hid hcc; clear hcc
          have hSW := (HJ1.out.swap (i := j) (j := k) (by have := HSJ.out; omega) (by have := HSJ.out; have := HK1.out; omega))
          have hSC := swapW_chg W1 blk off dj[j]! dj[k]! j k
          cases c
          case false =>
            go_wp2_with fail
            go_roundw
            case rel => exact ⟨i + 1, dj, by go_num, by omega, by omega, HSJ.out, HJ1.out, hc1, by rw [← HO.out, insOuter_go _ _ _ _ _ hlt, ← HI.out, insInner_stop _ _ _ _ (Or.inr (by rw [show j - 1 = k by have := HK1.out; omega]; exact HCC.out))]⟩
            case measure => simp [intOf]; omega
          case true =>
            unfold swapW at hSW hSC
            have HSW := Lib.hid hSW; have HSC := Lib.hid hSC; clear hSW hSC
            go_wp2_with fail
            go_region
            go_wp2_with fail
            go_roundw
            case rel => exact ⟨k, swp dj j k, rfl, by have := HK1.out; omega, by have := HK1.out; omega, by rw [size_swp]; exact HSJ.out, HSW.out.drew, (hc1.trans HSC.out).trans (Chg.drew _ _), by rw [← HI.out, insInner_go ltRy a j dj hja (by rw [show j - 1 = k by have := HK1.out; omega]; exact HCC.out), show j - 1 = k by have := HK1.out; omega]⟩
            case measure => simp [intOf]; have := HK1.out; omega

end RaySort
end Go.Proofs.Ytlplodkabeiimaa
