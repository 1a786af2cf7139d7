/-
  The reference's piCount, TreesOf.
-/
import Derived.Test.YtopkohkilmlpaaaTreeS
namespace Go.Proofs.Ytopkohkilmlpaaa
open Go.RowKit

noncomputable def treesR (n : Int) (ls : List Lk) : Int × Bool := if pgB n ls 0 = true then (treesL (idL n.toNat) ls, true) else (0, false)
theorem edge_len {n : Int} {ls : List Lk} (hg : goodL n ls = true) : ∀ k, k ≤ ls.length → (k : Int) ≤ edgeF (ls.take k)
  | 0, _ => by rw [List.take_zero, edgeF_nil]; simp
  | k + 1, hk => by
    have ih := edge_len hg k (by omega)
    obtain ⟨x, hx⟩ : ∃ x, ls.getD k Lk.z = x := ⟨_, rfl⟩
    have := good_lk hg (k := k) (by omega) hx
    rw [edgeF_step (by omega) hx]
    omega

set_option maxHeartbeats 1600000 in
set_option maxRecDepth 100000 in
theorem piCount_any (N : Nat) (ad : Option Addr) (cap : Nat) (ls : List Lk) (w : World) (hN0 : 0 < N) (hN : N ≤ 8) (hl : ls.length ≤ 10) (hcl : ls.length ≤ cap) (hrl : RdL w ad ls) (hx : ∀ x ∈ ls, 0 ≤ x.a ∧ x.a < N ∧ 0 ≤ x.b ∧ x.b < N ∧ 0 ≤ x.n ∧ x.n ≤ 5) :
    Calls Try.prog 53 #[.int .i64 N, .slice ad ls.length cap] w fun e w' => e = .returned (.int .i64 (treesL (idL N) ls)) ∧ Below w.heap.size w w' := by
  obtain ⟨i0, hi0, hz0, hz1, hz2⟩ := info_parts Try.infoI
  go_enter Try.func53, Try.ntmps53
  go_wp2_with fail
  go_loopw [5, 6] (fun v i wr => ∃ k : Nat, k ≤ N ∧ i = .int .i64 k ∧ wr.ownsRow w.heap.size 3 1 v k (ints (idL k)) ∧ Below w.heap.size w wr) (fun _ i _ => N - (intOf i).toNat)
  case atStart => exact ⟨0, Nat.zero_le _, rfl, World.ownsRow_nil _ _ _ _, Below.refl _ _⟩
  case round =>
    obtain ⟨k, hk, rfl, hown, hbel⟩ := hrel
    have HO := Lib.hid hown; clear hown
    by_cases hlt : k < N
    case pos =>
      have hsz := hbel.size
      go_wp2_with (at_builtin; refine wpList_append_lies _ rfl _ _ _ rfl w.heap.size 3 i0 _ 1 8 Try.underlying23 hi0 hz0 hz1 hz2 rfl (by omega) _ k _ rfl (HO.out.alloc _) ⟨wr.heap.size, 0, none⟩ 1 1 [.int .i64 k] rfl rfl (World.news_of_block (cs := #[.int .i64 k]) (t := 3) (fr := (0, 0)) (heap_alloc_new _ _)) (by simp [Value.oneCell']) (by omega) (by unfold maxLen; omega) (by omega) (by simp; omega) (wr.heap.size + 1) (by simp) ?_; intro gg gcap w2 hown1 hgrow hat hlt2)
      go_roundw
      case rel =>
        refine ⟨k + 1, by omega, by go_num, row_congr hown1 rfl ?_, app_below hbel hsz HO.out hgrow⟩
        unfold idL
        rw [tab_succ]
        simp [ints]
      case measure => simp [intOf]; omega
    case neg =>
      have he : k = N := by omega
      subst he
      rcases Own.of_row HO.out with ⟨_, h0, _⟩ | ⟨g, cap', rfl, hgB, hkc, hcm, ho⟩
      · omega
      have HOO := Lib.hid ho; clear ho
      go_wp2_with fail
      refine (piTrees_any k hN0 hN ls ad cap ⟨g, 0, none⟩ cap' (idL k) _ hl hcl (hrl.below hbel) hx (tab_length _ _) HOO.out.rd).mono ?_
      rintro e w2 ⟨rfl, hb2⟩
      go_wp2_with fail
      go_ret
      exact ⟨rfl, ball hbel hb2⟩

set_option maxHeartbeats 800000 in
theorem specTrees_c (n : Int) (ad : Option Addr) (cap : Nat) (ls : List Lk) (w : World) (hl : ls.length ≤ 1048576) (hr : RdL w ad ls) (hcl : ls.length ≤ cap) :
    Calls Try.prog 26 #[.int .i64 n, .slice ad ls.length cap] w (RetIB (treesR n ls) w) := by
  by_cases hp : pgB n ls 0 = true
  case pos =>
    have hR0 : treesR n ls = (treesL (idL n.toNat) ls, true) := if_pos hp
    obtain ⟨hg, h5, he, hc, hz⟩ := pgB_t.1 hp
    have hgn := good_n hg
    have hel := edge_len hg ls.length (Nat.le_refl _)
    rw [List.take_length] at hel
    obtain ⟨N, rfl⟩ : ∃ N : Nat, n = N := ⟨n.toNat, by omega⟩
    rw [Int.toNat_natCast] at hR0
    have hR := Lib.hid hR0; clear hR0
    have hmem := Lib.hid (fun x (hx : x ∈ ls) => good_mem hg hx)
    go_enter Try.func26, Try.ntmps26
    go_wp2_with fail
    refine (piGraph_any _ ad cap ls 0 _ hl hr).mono ?_
    rw [hp]
    rintro e w1 ⟨rfl, hb1⟩
    go_wp2_with fail
    refine (piCount_any N ad cap ls _ (by omega) (by omega) (by omega) hcl (hr.below hb1) (fun x hx => by have := hmem.out x hx; omega)).mono ?_
    rintro e w2 ⟨rfl, hb2⟩
    go_wp2_with fail
    go_ret2
    exact RetIB.of hR.out (ball hb1 hb2)
  case neg =>
    have hp' := Bool.eq_false_iff.2 hp
    have hR : Hid (treesR n ls = (0, false)) := if_neg hp
    go_enter Try.func26, Try.ntmps26
    go_wp2_with fail
    refine (piGraph_any _ ad cap ls 0 _ hl hr).mono ?_
    rw [hp']
    rintro e w1 ⟨rfl, hb1⟩
    go_wp2_with fail
    go_ret2
    exact RetIB.of hR.out hb1

end Go.Proofs.Ytopkohkilmlpaaa
