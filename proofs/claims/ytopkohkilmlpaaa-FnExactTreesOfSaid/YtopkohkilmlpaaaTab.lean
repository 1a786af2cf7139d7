/-
  Graphs with a sink: the program's tableOf, the reference's piGraph.
-/
import Derived.Test.YtopkohkilmlpaaaConnW
import Derived.Test.YtopkohkilmlpaaaGenus
import Derived.Test.YtopkohkilmlpaaaFireR
namespace Go.Proofs.Ytopkohkilmlpaaa
open Go.RowKit

noncomputable def pgB (n : Int) (ls : List Lk) (z : Int) : Bool := goodL n ls && (decide (n ≤ 5) && (decide (edgeF ls ≤ 10) && (connB n ls && inB z 0 (n - 1))))
theorem pgB_t {n : Int} {ls : List Lk} {z : Int} : pgB n ls z = true ↔ goodL n ls = true ∧ n ≤ 5 ∧ edgeF ls ≤ 10 ∧ connB n ls = true ∧ inB z 0 (n - 1) = true := by simp [pgB]
theorem pgB_no {n : Int} {ls : List Lk} {z : Int} (h : goodL n ls = false) : pgB n ls z = false := by simp [pgB, h]

set_option maxHeartbeats 800000 in
theorem piGraph_any (n : Int) (ad : Option Addr) (cap : Nat) (ls : List Lk) (z : Int) (w : World) (hl : ls.length ≤ 1048576) (hr : RdL w ad ls) :
    Calls Try.prog 32 #[.int .i64 n, .slice ad ls.length cap, .int .i64 z] w fun e w' => e = .returned (.bool (pgB n ls z)) ∧ Below w.heap.size w w' := by
  by_cases hg : goodL n ls = true
  case neg =>
    have hg' := Bool.eq_false_iff.2 hg
    have hR := Lib.hid (pgB_no (z := z) hg')
    go_enter Try.func32, Try.ntmps32
    go_wp2_with fail
    refine (chGood_any n ad cap ls _ hl hr).mono ?_
    rw [hg']
    rintro e w1 ⟨rfl, hb1⟩
    go_wp2
    go_ret
    exact ⟨ret_bool hR.out.symm, hb1⟩
  case pos =>
    obtain ⟨hn1, hn2⟩ := good_n hg
    by_cases h5 : n ≤ 5
    case neg =>
      have hR := Lib.hid (show pgB n ls z = false by simp [pgB, h5])
      go_enter Try.func32, Try.ntmps32
      go_wp2_with fail
      refine (chGood_any n ad cap ls _ hl hr).mono ?_
      rw [hg]
      rintro e w1 ⟨rfl, hb1⟩
      go_wp2
      go_ret
      exact ⟨ret_bool hR.out.symm, hb1⟩
    case pos =>
      by_cases hz : inB z 0 (n - 1) = true
      case neg =>
        have hz' := Bool.eq_false_iff.2 hz
        have hR := Lib.hid (show pgB n ls z = false by simp [pgB, hz'])
        go_enter Try.func32, Try.ntmps32
        go_wp2_with fail
        refine (chGood_any n ad cap ls _ hl hr).mono ?_
        rw [hg]
        rintro e w1 ⟨rfl, hb1⟩
        go_wp2_with fail
        refine (l1In_any _ _ _ _).mono ?_
        rw [hz']
        rintro e w' ⟨rfl, rfl⟩
        go_wp2
        go_ret
        exact ⟨ret_bool hR.out.symm, hb1⟩
      case pos =>
        have v3 := edgeF_bound hg hl ls.length
        rw [List.take_length] at v3
        have HG := Lib.hid hg
        obtain ⟨cb, hcb⟩ : ∃ cb, connB n ls = cb := ⟨_, rfl⟩
        have hR := Lib.hid (show pgB n ls z = (cb && decide (edgeF ls ≤ 10)) by simp [pgB, hg, h5, hz, hcb, Bool.and_comm])
        have hconn := fun w1 (h : RdL w1 ad ls) => chConn_any n ad cap ls w1 hl h hg
        rw [hcb] at hconn
        have HC := Lib.hid hconn; clear hconn hcb
        cases cb
        case false =>
          go_enter Try.func32, Try.ntmps32
          go_wp2_with fail
          refine (chGood_any n ad cap ls _ hl hr).mono ?_
          rw [hg]
          rintro e w1 ⟨rfl, hb1⟩
          go_wp2_with fail
          refine (l1In_any _ _ _ _).mono ?_
          rw [hz]
          rintro e w' ⟨rfl, rfl⟩
          go_wp2_with fail
          refine (HC.out _ (hr.below hb1)).mono ?_
          rintro e w2 ⟨rfl, hb2⟩
          go_wp2_with fail
          go_ret
          exact ⟨ret_bool hR.out.symm, ball hb1 hb2⟩
        case true =>
          by_cases he : edgeF ls ≤ 10
          all_goals
            have hd : Hid (decide (edgeF ls ≤ 10) = decide (edgeF ls ≤ 10)) := rfl
            go_enter Try.func32, Try.ntmps32
            go_wp2_with fail
            refine (chGood_any n ad cap ls _ hl hr).mono ?_
            rw [hg]
            rintro e w1 ⟨rfl, hb1⟩
            go_wp2_with fail
            refine (l1In_any _ _ _ _).mono ?_
            rw [hz]
            rintro e w' ⟨rfl, rfl⟩
            go_wp2_with fail
            refine (HC.out _ (hr.below hb1)).mono ?_
            rintro e w2 ⟨rfl, hb2⟩
            go_wp2_with fail
            refine (chGenus_any n ad cap ls _ hl (hr.below (ball hb1 hb2)) HG.out).mono ?_
            rintro e w3 ⟨rfl, hb3⟩
            go_wp2_with fail
            go_ret
            exact ⟨ret_bool (by rw [hR.out]; simp [he]; try omega), ball (ball hb1 hb2) hb3⟩

def RetTab (n z : Int) (p : Bool) (ls : List Lk) (w : World) (e : Ending) (w' : World) : Prop := ∃ G gb gv capb rb, e = .returned (.tuple #[.agg #[.pointer (some ⟨G, 0, none⟩), .int .i64 z], .bool p]) ∧
  GrAt w' G gb gv capb rb n.toNat (betF ls) (valF ls) (edgeF ls) ∧ w.heap.size ≤ G ∧ w.heap.size ≤ gv ∧ Below w.heap.size w w'

theorem GrAt.far {w w' : World} {G gb gv capb : Nat} {rb : Nat → Nat} {N : Nat} {bet : Nat → Nat → Int} {val : Nat → Int} {ed : Int} {b : Nat} {cs : List Value} (h : GrAt w G gb gv capb rb N bet val ed) (ho : Own w b 55 cs) (hc : Chg b w w') : GrAt w' G gb gv capb rb N bet val ed :=
  h.chg hc (h.hG.ne_of_type ho (by decide)) (h.hb.ne_of_type ho (by decide)) (h.hv.ne_of_type ho (by decide)) fun i hi => (h.hr i hi).ne_of_type ho (by decide)
theorem RetTab.of {n z : Int} {p : Bool} {ls : List Lk} {w w1 w2 : World} {G gb gv capb : Nat} {rb : Nat → Nat} {cs : List Value} (h : GrAt w1 G gb gv capb rb n.toNat (betF ls) (valF ls) (edgeF ls)) (h1 : w.heap.size ≤ G) (h2 : w.heap.size ≤ gv) (hb : Below w.heap.size w w1) (ho : Own w1 w.heap.size 55 cs) (hc : Chg w.heap.size w1 w2) :
    RetTab n z p ls w (.returned (.tuple #[.agg #[.pointer (some ⟨G, 0, none⟩), .int .i64 z], .bool p])) w2 :=
  ⟨G, gb, gv, capb, rb, rfl, h.far ho hc, h1, h2, bchg hb hc (Nat.le_refl _) hb.size⟩
theorem RetTab.cast {n z : Int} {p q : Bool} {ls : List Lk} {w w' : World} {e : Ending} (h : RetTab n z p ls w e w') (hq : p = q) : RetTab n z q ls w e w' := hq ▸ h

set_option maxHeartbeats 1600000 in
theorem tableOf_any (n : Int) (ad : Option Addr) (cap : Nat) (ls : List Lk) (z : Int) (w : World) (hl : ls.length ≤ 1048576) (hr : RdL w ad ls) (hg : goodL n ls = true) :
    Calls Try.prog 35 #[.int .i64 n, .slice ad ls.length cap, .int .i64 z] w (RetTab n z (pgB n ls z) ls w) := by
  obtain ⟨hn1, hn2⟩ := good_n hg
  have HG := Lib.hid hg
  have v3 := edgeF_bound hg hl ls.length
  rw [List.take_length] at v3
  have hnN : n.toNat = n := by omega
  by_cases h5 : n ≤ 5
  case neg =>
    have h5' : ¬ (n.toNat : Int) ≤ 5 := by omega
    have hR := Lib.hid (show pgB n ls z = false by simp [pgB, h5])
    go_enter Try.func35, Try.ntmps35
    go_wp2_with fail
    refine (graphOf_any n ad cap ls _ hl (hr.below ((Below.refl _ _).alloc (Nat.le_refl _) _)) hg).mono ?_
    rintro e w1 ⟨G, gb, gv, capb, rb, rfl, hG, hGB, hGV, hb1⟩
    have c0 := hG.c0
    have c3 := hG.c3
    have hres := (Own.newA w #[.pointer none, .int .i64 0] 55 rfl).belowAll hb1
    have r0 := hres.cell? (i := 0) rfl
    have r1 := hres.cell? (i := 1) rfl
    have z0 := hres.frozen 0
    have z1 := hres.frozen 1
    have hbw := ball ((Below.refl w.heap.size w).alloc (Nat.le_refl _) (.cells #[.pointer none, .int .i64 0] 55)) hb1
    simp only [World.size_alloc] at hGB hGV
    have h1 : w.heap.size ≤ G := by omega
    have h2 : w.heap.size ≤ gv := by omega
    have HGR := Lib.hid hG; clear hG
    have HRS := Lib.hid hres; clear hres
    go_wp2_with fail
    have HS := Lib.hid ((HRS.out.set 0 (.pointer (some ⟨G, 0, none⟩))).set 1 (.int .i64 z))
    have q0 := HS.out.cell? (i := 0) rfl
    have q1 := HS.out.cell? (i := 1) rfl
    refine bodyPost_ret (v := .tuple #[.agg #[.pointer (some ⟨G, 0, none⟩), .int .i64 z], .bool false]) (by simp [results, Try.results35, go_sem, q0, q1]) rfl ?_
    exact (RetTab.of HGR.out h1 h2 hbw HRS.out ((Chg.set _ _ _ _).trans (Chg.set _ _ _ _))).cast hR.out.symm
  case pos =>
    have h5' : (n.toNat : Int) ≤ 5 := by omega
    by_cases he : edgeF ls ≤ 10
    case neg =>
      have hR := Lib.hid (show pgB n ls z = false by simp [pgB, he])
      go_enter Try.func35, Try.ntmps35
      go_wp2_with fail
      refine (graphOf_any n ad cap ls _ hl (hr.below ((Below.refl _ _).alloc (Nat.le_refl _) _)) hg).mono ?_
      rintro e w1 ⟨G, gb, gv, capb, rb, rfl, hG, hGB, hGV, hb1⟩
      have c0 := hG.c0
      have c3 := hG.c3
      have hres := (Own.newA w #[.pointer none, .int .i64 0] 55 rfl).belowAll hb1
      have r0 := hres.cell? (i := 0) rfl
      have r1 := hres.cell? (i := 1) rfl
      have z0 := hres.frozen 0
      have z1 := hres.frozen 1
      have hbw := ball ((Below.refl w.heap.size w).alloc (Nat.le_refl _) (.cells #[.pointer none, .int .i64 0] 55)) hb1
      simp only [World.size_alloc] at hGB hGV
      have h1 : w.heap.size ≤ G := by omega
      have h2 : w.heap.size ≤ gv := by omega
      have HGR := Lib.hid hG; clear hG
      have HRS := Lib.hid hres; clear hres
      go_wp2_with fail
      have HS := Lib.hid ((HRS.out.set 0 (.pointer (some ⟨G, 0, none⟩))).set 1 (.int .i64 z))
      have q0 := HS.out.cell? (i := 0) rfl
      have q1 := HS.out.cell? (i := 1) rfl
      refine bodyPost_ret (v := .tuple #[.agg #[.pointer (some ⟨G, 0, none⟩), .int .i64 z], .bool false]) (by simp [results, Try.results35, go_sem, q0, q1]) rfl ?_
      exact (RetTab.of HGR.out h1 h2 hbw HRS.out ((Chg.set _ _ _ _).trans (Chg.set _ _ _ _))).cast hR.out.symm
    case pos =>
      obtain ⟨cb, hcb⟩ : ∃ cb, connB n ls = cb := ⟨_, rfl⟩
      have hconn := fun (w1 : World) G gb gv capb rb h => isConn_any n G gb gv capb rb n.toNat ls w1 h hnN.symm hg
      rw [hcb] at hconn
      have HC := Lib.hid hconn; clear hconn
      have hR := Lib.hid (show pgB n ls z = (cb && inB z 0 (n - 1)) by simp [pgB, hg, h5, he, hcb])
      clear hcb
      have hin : inB z 0 ((n.toNat : Int) - 1) = inB z 0 (n - 1) := by rw [hnN]
      have HN := Lib.hid hnN; clear hnN
      have HIN := Lib.hid hin; clear hin
      cases cb
      case false =>
        go_enter Try.func35, Try.ntmps35
        go_wp2_with fail
        refine (graphOf_any n ad cap ls _ hl (hr.below ((Below.refl _ _).alloc (Nat.le_refl _) _)) hg).mono ?_
        rintro e w1 ⟨G, gb, gv, capb, rb, rfl, hG, hGB, hGV, hb1⟩
        have c0 := hG.c0
        have c3 := hG.c3
        have hres := (Own.newA w #[.pointer none, .int .i64 0] 55 rfl).belowAll hb1
        have r0 := hres.cell? (i := 0) rfl
        have r1 := hres.cell? (i := 1) rfl
        have z0 := hres.frozen 0
        have z1 := hres.frozen 1
        have hbw := ball ((Below.refl w.heap.size w).alloc (Nat.le_refl _) (.cells #[.pointer none, .int .i64 0] 55)) hb1
        simp only [World.size_alloc] at hGB hGV
        have h1 : w.heap.size ≤ G := by omega
        have h2 : w.heap.size ≤ gv := by omega
        have HGR := Lib.hid hG; clear hG
        have HRS := Lib.hid hres; clear hres
        go_wp2_with fail
        refine (HC.out _ G gb gv capb rb HGR.out).mono ?_
        rintro e w2 ⟨rfl, hb2⟩
        have HGR := Lib.hid (HGR.out.below hb2)
        have HRS := Lib.hid (HRS.out.belowAll hb2)
        clear r0 r1 z0 z1
        have r0 := HRS.out.cell? (i := 0) rfl
        have r1 := HRS.out.cell? (i := 1) rfl
        have z0 := HRS.out.frozen 0
        have z1 := HRS.out.frozen 1
        have hbw := ball hbw hb2
        go_wp2_with fail
        have HS := Lib.hid ((HRS.out.set 0 (.pointer (some ⟨G, 0, none⟩))).set 1 (.int .i64 z))
        have q0 := HS.out.cell? (i := 0) rfl
        have q1 := HS.out.cell? (i := 1) rfl
        refine bodyPost_ret (v := .tuple #[.agg #[.pointer (some ⟨G, 0, none⟩), .int .i64 z], .bool false]) (by simp [results, Try.results35, go_sem, q0, q1]) rfl ?_
        exact (RetTab.of HGR.out h1 h2 hbw HRS.out ((Chg.set _ _ _ _).trans (Chg.set _ _ _ _))).cast hR.out.symm
      case true =>
        go_enter Try.func35, Try.ntmps35
        go_wp2_with fail
        refine (graphOf_any n ad cap ls _ hl (hr.below ((Below.refl _ _).alloc (Nat.le_refl _) _)) hg).mono ?_
        rintro e w1 ⟨G, gb, gv, capb, rb, rfl, hG, hGB, hGV, hb1⟩
        have c0 := hG.c0
        have c3 := hG.c3
        have hres := (Own.newA w #[.pointer none, .int .i64 0] 55 rfl).belowAll hb1
        have r0 := hres.cell? (i := 0) rfl
        have r1 := hres.cell? (i := 1) rfl
        have z0 := hres.frozen 0
        have z1 := hres.frozen 1
        have hbw := ball ((Below.refl w.heap.size w).alloc (Nat.le_refl _) (.cells #[.pointer none, .int .i64 0] 55)) hb1
        simp only [World.size_alloc] at hGB hGV
        have h1 : w.heap.size ≤ G := by omega
        have h2 : w.heap.size ≤ gv := by omega
        have HGR := Lib.hid hG; clear hG
        have HRS := Lib.hid hres; clear hres
        go_wp2_with fail
        refine (HC.out _ G gb gv capb rb HGR.out).mono ?_
        rintro e w2 ⟨rfl, hb2⟩
        have HGR := Lib.hid (HGR.out.below hb2)
        have HRS := Lib.hid (HRS.out.belowAll hb2)
        clear r0 r1 z0 z1
        have r0 := HRS.out.cell? (i := 0) rfl
        have r1 := HRS.out.cell? (i := 1) rfl
        have z0 := HRS.out.frozen 0
        have z1 := HRS.out.frozen 1
        have hbw := ball hbw hb2
        go_wp2_with fail
        refine (isVertex_any G gb gv capb rb n.toNat _ _ _ z _ HGR.out (by omega)).mono ?_
        rw [HIN.out]
        rintro e w' ⟨rfl, rfl⟩
        go_wp2_with fail
        have HS := Lib.hid ((HRS.out.set 0 (.pointer (some ⟨G, 0, none⟩))).set 1 (.int .i64 z))
        have q0 := HS.out.cell? (i := 0) rfl
        have q1 := HS.out.cell? (i := 1) rfl
        refine bodyPost_ret (v := .tuple #[.agg #[.pointer (some ⟨G, 0, none⟩), .int .i64 z], .bool (inB z 0 (n - 1))]) (by simp [results, Try.results35, go_sem, q0, q1]) rfl ?_
        exact (RetTab.of HGR.out h1 h2 hbw HRS.out ((Chg.set _ _ _ _).trans (Chg.set _ _ _ _))).cast hR.out.symm

set_option maxHeartbeats 400000 in
theorem tableOf_no (n : Int) (ad : Option Addr) (cap : Nat) (ls : List Lk) (z : Int) (w : World) (hl : ls.length ≤ 1048576) (hr : RdL w ad ls) (hg : goodL n ls = false) :
    Calls Try.prog 35 #[.int .i64 n, .slice ad ls.length cap, .int .i64 z] w fun e w' => e = .returned (.tuple #[.agg #[.pointer none, .int .i64 z], .bool false]) ∧ Below w.heap.size w w' := by
  go_enter Try.func35, Try.ntmps35
  go_wp2_with fail
  refine (graphOf_no n ad cap ls _ hl (hr.below ((Below.refl _ _).alloc (Nat.le_refl _) _)) hg).mono ?_
  rintro e w1 ⟨rfl, hb1⟩
  have hres := (Own.newA w #[.pointer none, .int .i64 0] 55 rfl).belowAll hb1
  have r0 := hres.cell? (i := 0) rfl
  have r1 := hres.cell? (i := 1) rfl
  have z0 := hres.frozen 0
  have z1 := hres.frozen 1
  have hbw := ball ((Below.refl w.heap.size w).alloc (Nat.le_refl _) (.cells #[.pointer none, .int .i64 0] 55)) hb1
  have HRS := Lib.hid hres; clear hres
  go_wp2_with fail
  have HS := Lib.hid ((HRS.out.set 0 (.pointer none)).set 1 (.int .i64 z))
  have q0 := HS.out.cell? (i := 0) rfl
  have q1 := HS.out.cell? (i := 1) rfl
  refine bodyPost_ret (v := .tuple #[.agg #[.pointer none, .int .i64 z], .bool false]) (by simp [results, Try.results35, go_sem, q0, q1]) rfl ?_
  exact ⟨rfl, (hbw.setCell (Nat.le_refl _) _).setCell (Nat.le_refl _) _⟩

end Go.Proofs.Ytopkohkilmlpaaa
