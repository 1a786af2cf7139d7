/-
  Stars: missing rays of the program; sums, balances, directions of the reference. By an AI agent.
-/
import Derived.Test.YtlplodkabeiimaaStB
namespace Go.Proofs.Ytlplodkabeiimaa
open Go.RowKit

def missR (l : List Ry) : Ry := primR (-(sxR l)) (-(syR l))
def missB (l : List Ry) : Bool := (starB l && !balB l) && ryB (missR l)
theorem bal_ne {l : List Ry} (h : balB l = false) : -(sxR l) ≠ 0 ∨ -(syR l) ≠ 0 := by
  unfold balB at h
  by_cases hx : sxR l = 0
  · by_cases hy : syR l = 0
    · rw [hx, hy] at h; cases h
    · exact Or.inr (by omega)
  · exact Or.inl (by omega)

set_option maxHeartbeats 1600000 in
set_option maxRecDepth 100000 in
theorem missingRay_c (ad : Option Addr) (cap : Nat) (l : List Ry) (w : World) (hr : RdY w ad l) (hl : l.length ≤ 1048576) :
    Calls Try.prog 12 #[.slice ad l.length cap] w fun e w' => e = .returned (rayR (missB l) (missR l)) ∧ Below w.heap.size w w' := by
  have CS := Lib.hid (fun w' (hw : Below w.heap.size w w') => isStar_c ad cap l w' (hr.below hw) hl)
  have CB := Lib.hid (fun w' (hw : Below w.heap.size w w') => isBalanced_c ad cap l w' (hr.below hw) hl)
  have CT := Lib.hid (fun w' (hs : starB l = true) (hw : Below w.heap.size w w') => starSum_c ad cap l w' (hr.below hw) hs)
  have hsb : starB l = true → (-4000 ≤ sxR l ∧ sxR l ≤ 4000) ∧ -4000 ≤ syR l ∧ syR l ≤ 4000 := fun hs => by
    obtain ⟨h1, h2, _⟩ := star_of hs
    have := sum_b h2
    omega
  have CM := Lib.hid (fun w (hs : starB l = true) => minusA_c 0 0 (sxR l) (syR l) w (by omega) (by omega) (by have := hsb hs; omega) (by have := hsb hs; omega))
  have CP := Lib.hid (fun w (hs : starB l = true) (hn : balB l = false) => primitive_c (-(sxR l)) (-(syR l)) w (bal_ne hn) (by have := hsb hs; omega) (by have := hsb hs; omega))
  have CR := Lib.hid (fun w => isRay_c (missR l) w)
  have e0 : primR (-(sxR l)) (-(syR l)) = missR l := rfl
  rw [e0] at CP
  clear hr hsb e0
  unfold missB rayR
  rw [Int.zero_sub, Int.zero_sub] at CM
  generalize starB l = u at CS CB CT CM CP ⊢
  generalize balB l = v at CB CP ⊢
  generalize missR l = r at CP CR ⊢
  generalize ryB r = z at CR ⊢
  obtain ⟨x, y, k⟩ := r
  unfold ryV at CP CR ⊢
  simp only at CP CR ⊢
  have hb0 : Below w.heap.size w (w.alloc (.cells #[.int .i64 0, .int .i64 0, .int .i64 0] 35)) := (Below.refl _ _).alloc (Nat.le_refl _) _
  have q0 := RyO.new w 0 0 0 rfl
  cases u
  case false =>
    go_enter Try.func12, Try.ntmps12
    go_wp2_with fail
    generalize w.alloc (.cells #[.int .i64 0, .int .i64 0, .int .i64 0] 35) = w1 at hb0 q0 ⊢
    refine (CS.out _ hb0).mono ?_
    rintro e w2 ⟨rfl, hw2⟩
    have q2 := q0.below hw2
    have hb2 := ball hb0 hw2
    clear q0 hw2 hb0
    obtain ⟨c0, c1, c2⟩ := q2.at
    obtain ⟨f0, f1, f2⟩ := q2.fr
    go_wp2_with fail
    obtain ⟨W, hW, ⟨r0, r1, r2⟩, hB⟩ := three_end (a := 0) (b := 0) (c := 0) q2 hb2 (Nat.le_refl _)
    unfold three at hW
    rw [hW]
    exact bodyPost_ret (v := .tuple #[.agg #[.int .i64 0, .int .i64 0, .int .i64 0], .bool false]) (by simp [results, Try.results12, go_sem, r0, r1, r2]) rfl ⟨rfl, hB⟩
  case true =>
    cases v
    case true =>
      go_enter Try.func12, Try.ntmps12
      go_wp2_with fail
      generalize w.alloc (.cells #[.int .i64 0, .int .i64 0, .int .i64 0] 35) = w1 at hb0 q0 ⊢
      refine (CS.out _ hb0).mono ?_
      rintro e w2 ⟨rfl, hw2⟩
      have q2 := q0.below hw2
      have hb2 := ball hb0 hw2
      clear q0 hw2 hb0
      go_wp2_with fail
      refine (CB.out _ hb2).mono ?_
      rintro e w3 ⟨rfl, hw3⟩
      have q3 := q2.below hw3
      have hb3 := ball hb2 hw3
      clear q2 hw3 hb2
      obtain ⟨c0, c1, c2⟩ := q3.at
      obtain ⟨f0, f1, f2⟩ := q3.fr
      go_wp2_with fail
      obtain ⟨W, hW, ⟨r0, r1, r2⟩, hB⟩ := three_end (a := 0) (b := 0) (c := 0) q3 hb3 (Nat.le_refl _)
      unfold three at hW
      rw [hW]
      exact bodyPost_ret (v := .tuple #[.agg #[.int .i64 0, .int .i64 0, .int .i64 0], .bool false]) (by simp [results, Try.results12, go_sem, r0, r1, r2]) rfl ⟨rfl, hB⟩
    case false =>
      have CP' := Lib.hid (fun w => CP.out w (by trivial) (by trivial))
      have CM' := Lib.hid (fun w => CM.out w (by trivial))
      clear CP CM
      go_enter Try.func12, Try.ntmps12
      go_wp2_with fail
      generalize w.alloc (.cells #[.int .i64 0, .int .i64 0, .int .i64 0] 35) = w1 at hb0 q0 ⊢
      refine (CS.out _ hb0).mono ?_
      rintro e w2 ⟨rfl, hw2⟩
      have q2 := q0.below hw2
      have hb2 := ball hb0 hw2
      clear q0 hw2 hb0
      go_wp2_with fail
      refine (CB.out _ hb2).mono ?_
      rintro e w3 ⟨rfl, hw3⟩
      have q3 := q2.below hw3
      have hb3 := ball hb2 hw3
      clear q2 hw3 hb2
      go_wp2_with fail
      refine (CT.out _ (by trivial) hb3).mono ?_
      rintro e w4 ⟨rfl, hw4⟩
      go_wp2_with fail
      refine (CM'.out _).mono ?_
      rintro e w5 ⟨rfl, hw5⟩
      go_wp2_with fail
      refine (CP'.out _).mono ?_
      rintro e w6 ⟨rfl, hw6⟩
      have q6 := ((q3.below hw4).below hw5).below hw6
      have hb6 := ball (ball (ball hb3 hw4) hw5) hw6
      clear q3 hb3 hw4 hw5 hw6
      go_wp2_with fail
      have q7 := q6.below ((Below.refl _ _).alloc (Nat.le_refl _) (.cells #[.int .i64 x, .int .i64 y, .int .i64 k] 35))
      have p7 := RyO.new w6 x y k rfl
      have hb7 := bal_alloc (o := .cells #[.int .i64 x, .int .i64 y, .int .i64 k] 35) hb6
      generalize w6.alloc (.cells #[.int .i64 x, .int .i64 y, .int .i64 k] 35) = w7 at q7 p7 hb7 ⊢
      obtain ⟨g6, hg6⟩ : ∃ g, w6.heap.size = g := ⟨_, rfl⟩
      rw [hg6] at p7 ⊢
      clear q6 hb6
      refine (CR.out _).mono ?_
      rintro e w8 ⟨rfl, hw8⟩
      have q8 := q7.below hw8
      have p8 := p7.below hw8
      have hb8 := ball hb7 hw8
      clear q7 p7 hb7 hw8
      obtain ⟨c0, c1, c2⟩ := q8.at
      obtain ⟨f0, f1, f2⟩ := q8.fr
      obtain ⟨d0, d1, d2⟩ := p8.at
      cases z
      case false =>
        go_wp2_with fail
        obtain ⟨W, hW, ⟨r0, r1, r2⟩, hB⟩ := three_end (a := 0) (b := 0) (c := 0) q8 hb8 (Nat.le_refl _)
        unfold three at hW
        rw [hW]
        exact bodyPost_ret (v := .tuple #[.agg #[.int .i64 0, .int .i64 0, .int .i64 0], .bool false]) (by simp [results, Try.results12, go_sem, r0, r1, r2]) rfl ⟨rfl, hB⟩
      case true =>
        go_wp2_with fail
        obtain ⟨W, hW, ⟨r0, r1, r2⟩, hB⟩ := three_end (a := x) (b := y) (c := k) q8 hb8 (Nat.le_refl _)
        unfold three at hW
        rw [hW]
        exact bodyPost_ret (v := .tuple #[.agg #[.int .i64 x, .int .i64 y, .int .i64 k], .bool true]) (by simp [results, Try.results12, go_sem, r0, r1, r2]) rfl ⟨rfl, hB⟩

end Go.Proofs.Ytlplodkabeiimaa
