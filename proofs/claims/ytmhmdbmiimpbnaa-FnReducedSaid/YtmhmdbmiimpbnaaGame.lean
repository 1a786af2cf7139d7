/-
  Games: what both sides ask; debts.
-/
import Derived.Test.YtmhmdbmiimpbnaaRedP
import Derived.Test.YtmhmdbmiimpbnaaConnW
import Derived.Test.YtmhmdbmiimpbnaaFireR
namespace Go.Proofs.Ytmhmdbmiimpbnaa
open Go.RowKit

def fd (d : List Int) (j : Nat) : Int := d.getD j 0
theorem fd_tab {N : Nat} {f : Nat → Int} {j : Nat} (h : j < N) : fd (tab N f) j = f j := tab_getD h 0
noncomputable def gameB (n : Int) (ls : List Lk) (d : List Int) : Bool := goodL n ls && (connB n ls && (decide ((d.length : Int) = n) && allB d (-20) 20))
noncomputable def askB (n : Int) (ls : List Lk) (d : List Int) (q : Int) : Bool := gameB n ls d && inB q 0 (n - 1)
theorem gameB_t {n : Int} {ls : List Lk} {d : List Int} (h : gameB n ls d = true) : goodL n ls = true ∧ connB n ls = true ∧ (d.length : Int) = n ∧ allB d (-20) 20 = true := by
  simp only [gameB, Bool.and_eq_true, decide_eq_true_eq] at h
  exact ⟨h.1, h.2.1, h.2.2.1, h.2.2.2⟩
theorem askB_t {n : Int} {ls : List Lk} {d : List Int} {q : Int} (h : askB n ls d q = true) : gameB n ls d = true ∧ 0 ≤ q ∧ q ≤ n - 1 := by
  simp only [askB, Bool.and_eq_true] at h
  exact ⟨h.1, inB_t.1 h.2⟩
def owesB (N : Nat) (q : Nat) (c : Nat → Int) : Bool := (List.range N).any fun v => decide (v ≠ q) && decide (c v < 0)
theorem owesB_t {N q : Nat} {c : Nat → Int} : owesB N q c = true ↔ ∃ v, v < N ∧ v ≠ q ∧ c v < 0 := by
  simp only [owesB, List.any_eq_true, List.mem_range, Bool.and_eq_true, decide_eq_true_eq]
theorem owesB_f {N q : Nat} {c : Nat → Int} : owesB N q c = false ↔ ∀ v, v < N → v ≠ q → 0 ≤ c v := by
  rw [← Bool.not_eq_true, owesB_t]
  exact ⟨fun h v hv hq => by
    apply Classical.byContradiction
    intro hn
    exact h ⟨v, hv, hq, by omega⟩, fun h ⟨v, hv, hq, hc⟩ => by have := h v hv hq; omega⟩
theorem owesB_congr {N q : Nat} {c c' : Nat → Int} (h : ∀ j, j < N → c j = c' j) : owesB N q c = owesB N q c' := by
  rw [Bool.eq_iff_iff, owesB_t, owesB_t]
  exact ⟨fun ⟨v, a, b, c⟩ => ⟨v, a, b, by rw [← h v a]; exact c⟩, fun ⟨v, a, b, c⟩ => ⟨v, a, b, by rw [h v a]; exact c⟩⟩

set_option maxHeartbeats 1600000 in
theorem rdAsked_any (n : Int) (ad : Option Addr) (cap : Nat) (ls : List Lk) (ad' : Option Addr) (cap' : Nat) (d : List Int) (q : Int) (w : World) (hl : ls.length ≤ 1048576) (hr : RdL w ad ls) (hl' : d.length ≤ 1048576) (hr' : RdI w ad' d) :
    Calls Try.prog 76 #[.int .i64 n, .slice ad ls.length cap, .slice ad' d.length cap', .int .i64 q] w fun e w' => e = .returned (.bool (askB n ls d q)) ∧ Below w.heap.size w w' := by
  by_cases hg : goodL n ls = true
  case neg =>
    have hg' := Bool.eq_false_iff.2 hg
    have hR := Lib.hid (show askB n ls d q = false by simp [askB, gameB, hg'])
    go_enter Try.func76, Try.ntmps76
    go_wp2_with fail
    refine (chGood_any n ad cap ls _ hl hr).mono ?_
    rw [hg']
    rintro e w1 ⟨rfl, hb1⟩
    go_wp2
    go_ret
    exact ⟨ret_bool hR.out.symm, hb1⟩
  case pos =>
    have HG := Lib.hid hg
    by_cases hc : connB n ls = true
    case neg =>
      have hc' := Bool.eq_false_iff.2 hc
      have hR := Lib.hid (show askB n ls d q = false by simp [askB, gameB, hc'])
      go_enter Try.func76, Try.ntmps76
      go_wp2_with fail
      refine (chGood_any n ad cap ls _ hl hr).mono ?_
      rw [hg]
      rintro e w1 ⟨rfl, hb1⟩
      go_wp2_with fail
      refine (chConn_any n ad cap ls _ hl (hr.below hb1) HG.out).mono ?_
      rw [hc']
      rintro e w2 ⟨rfl, hb2⟩
      go_wp2
      go_ret
      exact ⟨ret_bool hR.out.symm, ball hb1 hb2⟩
    case pos =>
      by_cases hd : (d.length : Int) = n
      case neg =>
        have hd' : ((d.length : Int) == n) = false := by simpa using hd
        have hR := Lib.hid (show askB n ls d q = false by simp [askB, gameB, hd])
        clear hd
        go_enter Try.func76, Try.ntmps76
        go_wp2_with fail
        refine (chGood_any n ad cap ls _ hl hr).mono ?_
        rw [hg]
        rintro e w1 ⟨rfl, hb1⟩
        go_wp2_with fail
        refine (chConn_any n ad cap ls _ hl (hr.below hb1) HG.out).mono ?_
        rw [hc]
        rintro e w2 ⟨rfl, hb2⟩
        go_wp2
        go_ret
        exact ⟨ret_bool hR.out.symm, ball hb1 hb2⟩
      case pos =>
        have hd' : ((d.length : Int) == n) = true := by simpa using hd
        have hR := Lib.hid (show askB n ls d q = (allB d (-20) 20 && inB q 0 (n - 1)) by simp [askB, gameB, hg, hc, hd])
        have hn := good_n hg
        clear hd
        have HA := Lib.hid (fun w => l1All_any ad' cap' d (-20) 20 w hl')
        generalize allB d (-20) 20 = b at hR HA
        cases b
        case false =>
          go_enter Try.func76, Try.ntmps76
          go_wp2_with fail
          refine (chGood_any n ad cap ls _ hl hr).mono ?_
          rw [hg]
          rintro e w1 ⟨rfl, hb1⟩
          go_wp2_with fail
          refine (chConn_any n ad cap ls _ hl (hr.below hb1) HG.out).mono ?_
          rw [hc]
          rintro e w2 ⟨rfl, hb2⟩
          go_wp2_with fail
          refine (HA.out _ (hr'.below (ball hb1 hb2))).mono ?_
          rintro e w' ⟨rfl, rfl⟩
          go_wp2
          go_ret
          exact ⟨ret_bool hR.out.symm, ball hb1 hb2⟩
        case true =>
          go_enter Try.func76, Try.ntmps76
          go_wp2_with fail
          refine (chGood_any n ad cap ls _ hl hr).mono ?_
          rw [hg]
          rintro e w1 ⟨rfl, hb1⟩
          go_wp2_with fail
          refine (chConn_any n ad cap ls _ hl (hr.below hb1) HG.out).mono ?_
          rw [hc]
          rintro e w2 ⟨rfl, hb2⟩
          go_wp2_with fail
          refine (HA.out _ (hr'.below (ball hb1 hb2))).mono ?_
          rintro e w' ⟨rfl, rfl⟩
          go_wp2_with fail
          refine (l1In_any _ _ _ _).mono ?_
          rintro e w' ⟨rfl, rfl⟩
          go_wp2
          go_ret
          exact ⟨ret_bool hR.out.symm, ball hb1 hb2⟩

set_option maxHeartbeats 1600000 in
theorem rdOwes_any (N q : Nat) (ad : Option Addr) (cap : Nat) (d : List Int) (w : World) (hN : N ≤ 8) (hl : d.length = N) (hr : RdI w ad d) :
    Calls Try.prog 97 #[.slice ad N cap, .int .i64 q] w fun e w' => e = .returned (.bool (owesB N q (fd d))) ∧ w = w' := by
  have HR := Lib.hid hr; clear hr
  have HL := Lib.hid hl; clear hl
  go_enter Try.func97, Try.ntmps97
  go_wp2
  go_loop [9] (fun i => ∃ k : Nat, k ≤ N ∧ i = .int .i64 k ∧ ∀ j, j < k → j ≠ q → 0 ≤ d.getD j 0) (fun i => N - (intOf i).toNat)
  case atStart => exact ⟨0, Nat.zero_le _, rfl, fun j hj => by omega⟩
  case round =>
    obtain ⟨k, hk, rfl, hlow⟩ := hrel
    have HLow := Lib.hid hlow; clear hlow
    by_cases hlt : k < N
    · have hkd : k < d.length := by rw [HL.out]; exact hlt
      obtain ⟨b, off, rfl, hbb, c0⟩ := HR.out k hkd
      clear hkd
      obtain ⟨x, hx⟩ : ∃ x, d.getD k 0 = x := ⟨_, rfl⟩
      rw [hx] at c0
      have HX := Lib.hid hx; clear hx
      by_cases h1 : k = q
      · have h1' : ((k : Int) == (q : Int)) = true := by simp [h1]
        have h1'' : ((k : Int) != (q : Int)) = false := by simp [h1]
        have H1 := Lib.hid h1; clear h1
        go_wp2
        go_round
        case rel => exact ⟨k + 1, by omega, by go_num, fun j hj hjq => HLow.out j (by have := H1.out; omega) hjq⟩
        case measure => simp [intOf]; omega
      · have h1' : ((k : Int) == (q : Int)) = false := by simpa using fun e => h1 (by omega)
        have h1'' : ((k : Int) != (q : Int)) = true := by simpa using fun e => h1 (by omega)
        have H1 := Lib.hid h1; clear h1
        by_cases h2 : x < 0
        · go_wp2
          go_ret
          exact ⟨ret_bool (owesB_t.2 ⟨k, hlt, H1.out, by show d.getD k 0 < 0; rw [HX.out]; exact h2⟩).symm, rfl⟩
        · go_wp2
          go_round
          case rel =>
            refine ⟨k + 1, by omega, by go_num, fun j hj hjq => ?_⟩
            by_cases e : j = k
            · subst e; rw [HX.out]; omega
            · exact HLow.out j (by omega) hjq
          case measure => simp [intOf]; omega
    · have he : k = N := by omega
      subst he
      go_wp2
      go_ret
      exact ⟨ret_bool (owesB_f.2 HLow.out).symm, rfl⟩

set_option maxHeartbeats 1600000 in
theorem hasDebt_any (N q : Nat) (ad : Option Addr) (cap : Nat) (d : List Int) (w : World) (hN : N ≤ 8) (hl : d.length = N) (hr : RdI w ad d) :
    Calls Try.prog 93 #[.slice ad N cap, .int .i64 q] w fun e w' => e = .returned (.bool (owesB N q (fd d))) ∧ w = w' := by
  have HR := Lib.hid hr; clear hr
  have HL := Lib.hid hl; clear hl
  go_enter Try.func93, Try.ntmps93
  go_wp2
  go_loop [9] (fun i => ∃ k : Nat, k ≤ N ∧ i = .int .i64 k ∧ ∀ j, j < k → j ≠ q → 0 ≤ d.getD j 0) (fun i => N - (intOf i).toNat)
  case atStart => exact ⟨0, Nat.zero_le _, rfl, fun j hj => by omega⟩
  case round =>
    obtain ⟨k, hk, rfl, hlow⟩ := hrel
    have HLow := Lib.hid hlow; clear hlow
    by_cases hlt : k < N
    · have hkd : k < d.length := by rw [HL.out]; exact hlt
      obtain ⟨b, off, rfl, hbb, c0⟩ := HR.out k hkd
      clear hkd
      obtain ⟨x, hx⟩ : ∃ x, d.getD k 0 = x := ⟨_, rfl⟩
      rw [hx] at c0
      have HX := Lib.hid hx; clear hx
      by_cases h1 : k = q
      · have h1' : ((k : Int) == (q : Int)) = true := by simp [h1]
        have h1'' : ((k : Int) != (q : Int)) = false := by simp [h1]
        have H1 := Lib.hid h1; clear h1
        go_wp2
        go_round
        case rel => exact ⟨k + 1, by omega, by go_num, fun j hj hjq => HLow.out j (by have := H1.out; omega) hjq⟩
        case measure => simp [intOf]; omega
      · have h1' : ((k : Int) == (q : Int)) = false := by simpa using fun e => h1 (by omega)
        have h1'' : ((k : Int) != (q : Int)) = true := by simpa using fun e => h1 (by omega)
        have H1 := Lib.hid h1; clear h1
        by_cases h2 : x < 0
        · go_wp2
          go_ret
          exact ⟨ret_bool (owesB_t.2 ⟨k, hlt, H1.out, by show d.getD k 0 < 0; rw [HX.out]; exact h2⟩).symm, rfl⟩
        · go_wp2
          go_round
          case rel =>
            refine ⟨k + 1, by omega, by go_num, fun j hj hjq => ?_⟩
            by_cases e : j = k
            · subst e; rw [HX.out]; omega
            · exact HLow.out j (by omega) hjq
          case measure => simp [intOf]; omega
    · have he : k = N := by omega
      subst he
      go_wp2
      go_ret
      exact ⟨ret_bool (owesB_f.2 HLow.out).symm, rfl⟩

/-- The program's graph of a game. -/
def RetGr (n : Int) (ls : List Lk) (b : Bool) (w : World) (e : Ending) (w' : World) : Prop := ∃ G gb gv capb rb, e = .returned (.tuple #[.pointer (some ⟨G, 0, none⟩), .bool b]) ∧ GrAt w' G gb gv capb rb n.toNat (betF ls) (valF ls) (edgeF ls) ∧ w.heap.size ≤ G ∧ w.heap.size ≤ gv ∧ Below w.heap.size w w'

set_option maxHeartbeats 1600000 in
theorem game_any (n : Int) (ad : Option Addr) (cap : Nat) (ls : List Lk) (ad' : Option Addr) (cap' : Nat) (d : List Int) (w : World) (hl : ls.length ≤ 1048576) (hr : RdL w ad ls) (hl' : d.length ≤ 1048576) (hr' : RdI w ad' d) (hg : goodL n ls = true) :
    Calls Try.prog 74 #[.int .i64 n, .slice ad ls.length cap, .slice ad' d.length cap'] w (RetGr n ls (gameB n ls d) w) := by
  obtain ⟨hn1, hn2⟩ := good_n hg
  have hnN : n.toNat = n := by omega
  have HG := Lib.hid hg
  obtain ⟨cb, hcb⟩ : ∃ cb, connB n ls = cb := ⟨_, rfl⟩
  have hconn := fun (w1 : World) G gb gv capb rb h => isConn_any n G gb gv capb rb n.toNat ls w1 h hnN.symm hg
  rw [hcb] at hconn
  have HC := Lib.hid hconn; clear hconn
  have hR := Lib.hid (show gameB n ls d = (cb && (decide (d.length = n.toNat) && allB d (-20) 20)) by simp [gameB, hg, hcb, show ((d.length : Int) = n) = (d.length = n.toNat) by simp only [eq_iff_iff]; omega])
  clear hcb hnN
  cases cb
  case false =>
    go_enter Try.func74, Try.ntmps74
    go_wp2_with fail
    refine (graphOf_any n ad cap ls _ hl hr HG.out).mono ?_
    rintro e w1 ⟨G, gb, gv, capb, rb, rfl, hG, hGB, hGV, hb1⟩
    have HGR := Lib.hid hG; clear hG
    go_wp2_with fail
    refine (HC.out _ G gb gv capb rb HGR.out).mono ?_
    rintro e w2 ⟨rfl, hb2⟩
    go_wp2
    go_ret2
    exact ⟨G, gb, gv, capb, rb, by rw [hR.out]; rfl, HGR.out.below hb2, hGB, hGV, ball hb1 hb2⟩
  case true =>
    go_enter Try.func74, Try.ntmps74
    go_wp2_with fail
    refine (graphOf_any n ad cap ls _ hl hr HG.out).mono ?_
    rintro e w1 ⟨G, gb, gv, capb, rb, rfl, hG, hGB, hGV, hb1⟩
    have HGR := Lib.hid hG; clear hG
    go_wp2_with fail
    refine (HC.out _ G gb gv capb rb HGR.out).mono ?_
    rintro e w2 ⟨rfl, hb2⟩
    have HGR2 := Lib.hid (HGR.out.below hb2)
    go_wp2_with fail
    refine (areChips_any G gb gv capb rb n.toNat _ _ _ ad' cap' d 20 _ HGR2.out hl' (hr'.below (ball hb1 hb2)) (by omega) (by omega)).mono ?_
    rintro e w3 ⟨rfl, hb3⟩
    go_wp2
    go_ret2
    exact ⟨G, gb, gv, capb, rb, by rw [hR.out]; rfl, HGR2.out.below hb3, hGB, hGV, ball (ball hb1 hb2) hb3⟩

set_option maxHeartbeats 400000 in
theorem game_no (n : Int) (ad : Option Addr) (cap : Nat) (ls : List Lk) (v : Value) (w : World) (hl : ls.length ≤ 1048576) (hr : RdL w ad ls) (hg : goodL n ls = false) :
    Calls Try.prog 74 #[.int .i64 n, .slice ad ls.length cap, v] w fun e w' => e = .returned (.tuple #[.pointer none, .bool false]) ∧ Below w.heap.size w w' := by
  go_enter Try.func74, Try.ntmps74
  go_wp2_with fail
  refine (graphOf_no n ad cap ls _ hl hr hg).mono ?_
  rintro e w1 ⟨rfl, hb1⟩
  go_wp2
  go_ret2
  exact ⟨rfl, hb1⟩

set_option maxHeartbeats 1600000 in
theorem gameAt_any (n : Int) (ad : Option Addr) (cap : Nat) (ls : List Lk) (ad' : Option Addr) (cap' : Nat) (d : List Int) (q : Int) (w : World) (hl : ls.length ≤ 1048576) (hr : RdL w ad ls) (hl' : d.length ≤ 1048576) (hr' : RdI w ad' d) (hg : goodL n ls = true) :
    Calls Try.prog 80 #[.int .i64 n, .slice ad ls.length cap, .slice ad' d.length cap', .int .i64 q] w (RetGr n ls (askB n ls d q) w) := by
  obtain ⟨hn1, hn2⟩ := good_n hg
  have hnN : (n.toNat : Int) = n := by omega
  have HN := Lib.hid hnN; clear hnN
  have HB := Lib.hid (fun (w : World) => game_any n ad cap ls ad' cap' d w hl)
  have hR := Lib.hid (show askB n ls d q = (gameB n ls d && inB q 0 (n - 1)) from rfl)
  generalize gameB n ls d = b at HB hR
  cases b
  case false =>
    go_enter Try.func80, Try.ntmps80
    go_wp2_with fail
    refine (HB.out _ hr hl' hr' hg).mono ?_
    rintro e w1 ⟨G, gb, gv, capb, rb, rfl, hG, hGB, hGV, hb1⟩
    have HGR := Lib.hid hG; clear hG
    go_wp2
    go_ret2
    exact ⟨G, gb, gv, capb, rb, by rw [hR.out]; rfl, HGR.out, hGB, hGV, hb1⟩
  case true =>
    go_enter Try.func80, Try.ntmps80
    go_wp2_with fail
    refine (HB.out _ hr hl' hr' hg).mono ?_
    rintro e w1 ⟨G, gb, gv, capb, rb, rfl, hG, hGB, hGV, hb1⟩
    have HGR := Lib.hid hG; clear hG
    go_wp2_with fail
    refine (isVertex_any G gb gv capb rb n.toNat _ _ _ q _ HGR.out (by omega)).mono ?_
    rw [HN.out]
    rintro e w' ⟨rfl, rfl⟩
    go_wp2
    go_ret2
    exact ⟨G, gb, gv, capb, rb, by rw [hR.out]; rfl, HGR.out, hGB, hGV, hb1⟩

set_option maxHeartbeats 400000 in
theorem gameAt_no (n : Int) (ad : Option Addr) (cap : Nat) (ls : List Lk) (v u : Value) (w : World) (hl : ls.length ≤ 1048576) (hr : RdL w ad ls) (hg : goodL n ls = false) :
    Calls Try.prog 80 #[.int .i64 n, .slice ad ls.length cap, v, u] w fun e w' => e = .returned (.tuple #[.pointer none, .bool false]) ∧ Below w.heap.size w w' := by
  go_enter Try.func80, Try.ntmps80
  go_wp2_with fail
  refine (game_no n ad cap ls _ _ hl hr hg).mono ?_
  rintro e w1 ⟨rfl, hb1⟩
  go_wp2
  go_ret2
  exact ⟨rfl, hb1⟩

end Go.Proofs.Ytmhmdbmiimpbnaa
