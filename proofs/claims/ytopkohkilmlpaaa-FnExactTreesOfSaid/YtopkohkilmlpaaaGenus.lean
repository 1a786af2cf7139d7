/-
  The genus: the reference's chGenus and the program's genus.
-/
import Derived.Test.YtopkohkilmlpaaaGraph
namespace Go.Proofs.Ytopkohkilmlpaaa
open Go.RowKit

def genusR (n : Int) (ls : List Lk) : Int × Bool := if goodL n ls = true then (edgeF ls - n + 1, true) else (0, false)

set_option maxHeartbeats 400000 in
theorem chGenus_any (n : Int) (ad : Option Addr) (cap : Nat) (ls : List Lk) (w : World) (hl : ls.length ≤ 1048576) (hr : RdL w ad ls) (hg : goodL n ls = true) :
    Calls Try.prog 63 #[.int .i64 n, .slice ad ls.length cap] w fun e w' => e = .returned (.int .i64 (edgeF ls - n + 1)) ∧ Below w.heap.size w w' := by
  obtain ⟨hn1, hn2⟩ := good_n hg
  have HR := Lib.hid hr; clear hr
  have HGD := Lib.hid hg; clear hg
  go_enter Try.func63, Try.ntmps63
  go_wp2
  go_loopw [5, 12] (fun s i wr => ∃ k : Nat, k ≤ ls.length ∧ i = .int .i64 k ∧ s = .int .i64 (1 - n + edgeF (ls.take k)) ∧ Below w.heap.size w wr) (fun _ i _ => ls.length - (intOf i).toNat)
  case atStart => exact ⟨0, Nat.zero_le _, rfl, by simp [edgeF_nil], Below.refl _ _⟩
  case round =>
    obtain ⟨k, hk, rfl, rfl, hbel⟩ := hrel
    have v3 := edgeF_bound HGD.out hl k
    by_cases hlt : k < ls.length
    · obtain ⟨b, off, rfl, hb, c0, c1, c2⟩ := HR.out k hlt
      have d0 := bcell hbel hb c0
      have d1 := bcell hbel hb c1
      have d2 := bcell hbel hb c2
      clear c0 c1 c2
      obtain ⟨xl, hx⟩ : ∃ xl, ls.getD k Lk.z = xl := ⟨_, rfl⟩
      obtain ⟨g1, g2, g3, g4, g5⟩ := good_lk HGD.out hlt hx
      have st := edgeF_step hlt hx
      rw [hx] at d0 d1 d2
      obtain ⟨xa, xb, xn⟩ := xl
      simp only at d0 d1 d2 g1 g2 g3 g4 g5 st
      have HX := Lib.hid hx; clear hx
      have HST := Lib.hid st; clear st
      generalize edgeF (ls.take k) = ve at v3 HST ⊢
      go_wp2
      go_roundw
      case rel => exact ⟨k + 1, by omega, by go_num, by rw [HST.out]; congr 1; omega, hbel.alloc hbel.size _⟩
      case measure => simp [intOf]; omega
    · have he : k = ls.length := by omega
      subst he
      rw [List.take_length] at v3 ⊢
      go_wp2
      go_ret
      exact ⟨ret_int (by omega), hbel⟩

end Go.Proofs.Ytopkohkilmlpaaa
