/-
  The first best assignment: the program's. By an AI agent.
-/
import Derived.Test.YtfgdhlnmndgjbaaGreatDoorAsB
import Derived.Test.YtfgdhlnmndgjbaaGreatDoorWyG
namespace Go.Proofs.YtfgdhlnmndgjbaaGreatDoor
open Go.RowKit

set_option maxHeartbeats 1600000 in
set_option maxRecDepth 100000 in
theorem costOf_c (n : Nat) (ad : Option Addr) (cap : Nat) (m : Nat → Nat → Int) (adw : Option Addr) (capw : Nat) (l : List Int) (w : World) (hr : RdM w ad (toM n m)) (hw : RdI w adw l) (hn : 1 ≤ n ∧ n ≤ 6) (hl : l.length = n) (hv : vtB n l = true) (hnum : ∀ a b, a < n → b < n → numB (m a b) = true) :
    Calls Tryz.prog 62 #[.slice ad n cap, .slice adw n capw] w fun e w' => e = .returned (.int .i64 (costP m l)) ∧ Below w.heap.size w w' := by
  have HBD := Lib.hid (cs_bd hnum hv (by omega) (by omega))
  have HVT := Lib.hid (fun t (ht : t < n) => vt_at hv (t := t) (by omega))
  have HR := Lib.hid hr; have HP := Lib.hid hw; have HNUM := Lib.hid hnum
  have HS := Lib.hid (fun t => show csF m l (t + 1) = prodZ (csF m l t) (m t (vx l t)) from rfl)
  have HN := Lib.hid hl
  have hcp : costP m l = csF m l n := by unfold costP; rw [hl]
  rw [hcp]
  clear hr hw hv hnum hl hcp
  go_enter Tryz.func62, Tryz.ntmps62
  go_wp2_with fail
  go_loopw [5, 10] (fun v i wr => ∃ s : Nat, s ≤ n ∧ i = .int .i64 s ∧ v = .int .i64 (csF m l s) ∧ Below w.heap.size w wr) (fun _ i _ => n - (intOf i).toNat)
  case atStart => exact ⟨0, Nat.zero_le _, rfl, rfl, Below.refl _ _⟩
  case round =>
    obtain ⟨wE, rfl⟩ : ∃ x : World, x = wr := ⟨_, rfl⟩
    obtain ⟨s, hs, rfl, rfl, hbel⟩ := hrel
    by_cases hls : s < n
    case neg =>
      obtain rfl : s = n := by omega
      go_wp2_with fail
      go_ret
      exact ⟨rfl, hbel⟩
    case pos =>
      have hco := HS.out s
      obtain ⟨v1, u1⟩ := HVT.out s hls
      obtain ⟨bp, op, rfl, hbp, q1⟩ := HP.out s (by have := HN.out; omega)
      rw [v1] at q1
      have q1 := bcell hbel hbp q1
      have hm := numB_t (HNUM.out _ _ hls u1)
      have hbd := HBD.out s (by have := HN.out; omega)
      obtain ⟨bM, oM, rfl, hbM, hrow⟩ := HR.out.rowF (by omega)
      obtain ⟨b2, o2, c2, e2, hl2, hc2⟩ := hrow _ hls
      have e2 := bcell hbel hbM e2
      have k1 := bcell hbel hl2 (hc2 _ u1)
      clear hrow hc2 v1
      generalize csF m l s = C at hbd hco ⊢
      generalize vx l s = a at q1 u1 k1 hco hm
      generalize m s a = D at k1 hco hm
      have x1 : (0 : Int) ≤ (s : Int) := by omega
      have x2 : (s : Int) < (n : Int) := by omega
      have x5 : (0 : Int) ≤ (a : Int) := by omega
      have x6 : (a : Int) < (n : Int) := by omega
      have CP := Lib.hid (fun w => product_c C D w (by omega))
      have HCO := Lib.hid hco
      generalize prodZ C D = P at CP HCO
      clear hco hbd hm
      go_wp2_with fail
      refine (CP.out _).mono ?_
      rintro e w1 ⟨rfl, rfl⟩
      go_wp2_with fail
      go_roundw
      case rel => exact ⟨s + 1, by omega, by go_num, by rw [HCO.out], hbel⟩
      case measure => simp [intOf]; omega
def fpA (T : Nat) (vb : Value) (q : Nat) : Prop := q = T ∨ vb.ownBlock = some q
def bsB (M : List (List Int)) : Bool := sqB M && !decide ((bstA M.length (entM M)).2 = [])
def bsR (M : List (List Int)) (w : World) (e : Ending) (w' : World) : Prop := (∃ c av lv cv, e = .returned (.tuple #[.agg #[.int .i64 c, .slice av lv cv], .bool (bsB M)]) ∧ (bsB M = true → c = (bstA M.length (entM M)).1 ∧ ∃ g, av = some ⟨g, 0, none⟩ ∧ lv = M.length ∧ RdI w' (some ⟨g, 0, none⟩) (bstA M.length (entM M)).2)) ∧ Below w.heap.size w w'

end Go.Proofs.YtfgdhlnmndgjbaaGreatDoor
