/-
  The reference's costs of cheapest ways. Printed by gen_wyB.py.
-/
import Derived.Test.YtjlkgioinogbkaaWyF
namespace Go.Proofs.Ytjlkgioinogbkaa
open Go.RowKit
set_option maxHeartbeats 1600000 in
theorem l1Same_c (ad : Option Addr) (cap : Nat) (l : List Int) (ad2 : Option Addr) (cap2 : Nat) (m : List Int) (w : World) (hl : l.length ≤ 1048576) (h1 : RdI w ad l) (h2 : RdI w ad2 m) :
    Calls Try.prog 86 #[.slice ad l.length cap, .slice ad2 m.length cap2] w fun e w' => e = .returned (.bool (decide (l = m))) ∧ Below w.heap.size w w' := by
  have H1 := Lib.hid h1; clear h1
  have H2 := Lib.hid h2; clear h2
  by_cases hlm : l.length = m.length
  case neg =>
    have hd0 : ((l.length : Int) != (m.length : Int)) = true := bne_iff_ne.2 (by omega)
    have hlm2 : ((l.length : Int) == (m.length : Int)) = false := beq_eq_false_iff_ne.2 (by omega)
    have hres : decide (l = m) = false := decide_eq_false (fun e => hlm (by rw [e]))
    rw [hres]
    clear hlm hres
    go_enter Try.func86, Try.ntmps86
    go_wp2_with fail
    go_ret
    exact ⟨rfl, Below.refl _ _⟩
  case pos =>
    obtain ⟨N, hN⟩ : ∃ N, l.length = N := ⟨_, rfl⟩
    have hM : m.length = N := by omega
    rw [hN, hM]
    have HN := Lib.hid hN; have HM := Lib.hid hM
    have hN2 : N ≤ 1048576 := by omega
    clear hN hM hlm hl
    have hd0 : ((N : Int) != (N : Int)) = false := by simp
    go_enter Try.func86, Try.ntmps86
    go_wp2_with fail
    clear hd0
    go_loopw [13] (fun i wr => ∃ k : Nat, k ≤ N ∧ i = .int .i64 k ∧ (∀ j, j < k → l.getD j 0 = m.getD j 0) ∧ Below w.heap.size w wr) (fun i _ => N - (intOf i).toNat)
    case atStart => exact ⟨0, Nat.zero_le _, rfl, fun j hj => by omega, Below.refl _ _⟩
    case round =>
      obtain ⟨k, hk, rfl, hlow, hbel⟩ := hrel
      have HLow := Lib.hid hlow; clear hlow
      obtain ⟨wo, rfl⟩ : ∃ wo : World, wo = wr := ⟨_, rfl⟩
      by_cases hlt : k < N
      · obtain ⟨b1, o1, rfl, hb1, c1⟩ := H1.out k (by have := HN.out; omega)
        obtain ⟨b2, o2, rfl, hb2, c2⟩ := H2.out k (by have := HM.out; omega)
        have k1 := bcell hbel hb1 c1
        have k2 := bcell hbel hb2 c2
        have x1 : (0 : Int) ≤ (k : Int) := by omega
        have x2 : (k : Int) < (N : Int) := by omega
        clear c1 c2
        by_cases he : l.getD k 0 = m.getD k 0
        · have HE := Lib.hid he
          generalize l.getD k 0 = a at k1 he
          generalize m.getD k 0 = b at k2 he
          have hd1 : (a == b) = true := by simpa using he
          have hd2 : (a != b) = false := by simp [he]
          clear he
          go_wp2_with fail
          go_quiet (fail)
          go_wp2_with fail
          go_roundw
          case rel =>
            refine ⟨k + 1, by omega, by go_num, fun j hj => ?_, bdrewN hbel _⟩
            by_cases e : j = k
            · subst e; exact HE.out
            · exact HLow.out j (by omega)
          case measure => simp [intOf]; omega
        · have HE := Lib.hid he
          generalize l.getD k 0 = a at k1 he
          generalize m.getD k 0 = b at k2 he
          have hd1 : (a == b) = false := by simpa using he
          have hd2 : (a != b) = true := by simpa using he
          clear he
          go_wp2_with fail
          go_quiet (fail)
          go_wp2_with fail
          go_ret
          exact ⟨ret_bool (decide_eq_false (fun e => HE.out (by rw [e]))).symm, bdrewN hbel _⟩
      · have he : k = N := by omega
        subst he
        go_wp2_with fail
        go_ret
        refine ⟨ret_bool (decide_eq_true ?_).symm, hbel⟩
        apply List.ext_getElem (by rw [HN.out, HM.out])
        intro i hi hi2
        have := HLow.out i (by have := HN.out; omega)
        simpa [List.getD, hi, hi2] using this
def unF (i k : Nat) : Int := if i = k then 0 else 1000000000
theorem RowI.blk {w : World} {K : Nat} {u : Value} {r : List Int} (h : RowI w K u r) : ∀ q, u.ownBlock = some q → K ≤ q := fun q hq => (World.ownsRow.lt h q hq).1
theorem RowI.shp {w : World} {K : Nat} {u : Value} {r : List Int} (h : RowI w K u r) (h0 : 0 < r.length) : ∃ g cap, u = .slice (some ⟨g, 0, none⟩) r.length cap ∧ K ≤ g := by
  rcases Own.of_row h with ⟨_, h1, _⟩ | ⟨g, cap, h1, hg, _⟩
  · omega
  · exact ⟨g, cap, h1, hg⟩
theorem tab_takeS {α : Type} (n : Nat) (f : Nat → α) {k : Nat} (h : k < n) : (tab n f).take (k + 1) = (tab n f).take k ++ [f k] := by
  have hl := tab_length n f
  rw [List.take_succ_eq_append_getElem (by omega)]
  congr 2
  simp [tab]
theorem tab_all {α : Type} (n : Nat) (f : Nat → α) : (tab n f).take n = tab n f := by rw [List.take_of_length_le]; rw [tab_length]; exact Nat.le_refl _
theorem tab_takeL {α : Type} (n : Nat) (f : Nat → α) {k : Nat} (h : k ≤ n) : ((tab n f).take k).length = k := by rw [List.length_take, tab_length]; omega

set_option maxHeartbeats 1600000 in
set_option maxRecDepth 100000 in
theorem wyStart_c (n : Nat) (w : World) (hn : 1 ≤ n ∧ n ≤ 6) :
    Calls Try.prog 74 #[.int .i64 n] w fun e w' => ∃ v, e = .returned v ∧ (∃ vs, MatO w' w.heap.size v (toM n unF) vs) ∧ Below w.heap.size w w' := by
  go_enter Try.func74, Try.ntmps74
  go_wp2_with fail
  go_loopw [3, 4] (fun v i wr => ∃ (k : Nat) (vs : List Value), k ≤ n ∧ i = .int .i64 k ∧ MatO wr w.heap.size v ((toM n unF).take k) vs ∧ Below w.heap.size w wr) (fun _ i _ => n - (intOf i).toNat)
  case atStart => exact ⟨0, [], Nat.zero_le _, rfl, MatO.nil _ _, Below.refl _ _⟩
  case round =>
    obtain ⟨wE, rfl⟩ : ∃ x : World, x = wr := ⟨_, rfl⟩
    obtain ⟨k, vs, hk, rfl, hmat, hbel⟩ := hrel
    obtain ⟨adv, cav, rfl, _⟩ := hmat.shape
    have HM := Lib.hid hmat; clear hmat
    have htl := tab_takeL n (fun i => tab n (unF i)) hk
    rw [show tab n (fun i => tab n (unF i)) = toM n unF from rfl] at htl
    by_cases hlt : k < n
    case neg =>
      obtain rfl : k = n := by omega
      have e1 := tab_all k (fun i => tab k (unF i))
      rw [show tab k (fun i => tab k (unF i)) = toM k unF from rfl] at e1
      rw [e1] at HM htl ⊢
      clear e1
      go_wp2_with fail
      go_ret
      exact ⟨_, rfl, ⟨vs, HM.out⟩, hbel⟩
    case pos =>
      have hsn := tab_takeS n (fun i => tab n (unF i)) hlt
      rw [show tab n (fun i => tab n (unF i)) = toM n unF from rfl] at hsn
      have HSN := Lib.hid hsn; clear hsn
      have hsz := hbel.size
      obtain ⟨L, hL⟩ : ∃ L, (toM n unF).take k = L := ⟨_, rfl⟩
      rw [hL] at HM HSN htl ⊢
      have HTL := Lib.hid htl
      rw [htl] at HM ⊢
      clear htl hL
      go_wp2_with fail
      go_loopw [5, 6] (fun v i wr => ∃ j : Nat, j ≤ n ∧ i = .int .i64 j ∧ RowI wr wE.heap.size v ((tab n (unF k)).take j) ∧ Below wE.heap.size wE wr) (fun _ i _ => n - (intOf i).toNat)
      case atStart => exact ⟨0, Nat.zero_le _, rfl, RowI.nil _ _, Below.refl _ _⟩
      case round =>
        obtain ⟨wI, rfl⟩ : ∃ x : World, x = wr := ⟨_, rfl⟩
        obtain ⟨j, hj, rfl, hrow, hbi⟩ := hrel
        have HO := Lib.hid hrow
        have hszi := hbi.size
        have hjl := tab_takeL n (unF k) hj
        by_cases hlj : j < n
        case pos =>
          have hsj := tab_takeS n (unF k) hlj
          have HSJ := Lib.hid hsj; clear hsj
          by_cases he : k = j
          · have g1 : ((k : Int) == (j : Int)) = true := by rw [he]; exact beq_self_eq_true _
            have g2 : (k == j) = true := by rw [he]; exact beq_self_eq_true _
            have hu : unF k j = 0 := by unfold unF; rw [if_pos he]
            rw [hu] at HSJ
            clear hu he hrow
            go_wp2_with (at_builtin; refine wpList_appN rfl _ _ rfl wE.heap.size _ 0 1 _ _ [0] (j + 1) (by rw [hjl]; rfl) rfl rfl (RowI.alloc' HO.out) (rdI_one _ _ _ rfl) (by omega) (by simp) (by simp; omega) ?_; intro v5 wm hown hsh hbm hgr)
            have hb3 := (bal_alloc (o := .cells #[.int .i64 0] 3) hbi).trans hbm
            rw [← HSJ.out] at hown
            have HO5 := Lib.hid hown; clear hown hsh hgr hbm
            go_wp2_with fail
            go_roundw
            case rel => exact ⟨j + 1, by omega, by go_num, HO5.out, hb3⟩
            case measure => simp [intOf]; omega
          · have g1 : ((k : Int) == (j : Int)) = false := beq_eq_false_iff_ne.2 (by omega)
            have g2 : (k == j) = false := beq_eq_false_iff_ne.2 he
            have hu : unF k j = 1000000000 := by unfold unF; rw [if_neg he]
            rw [hu] at HSJ
            clear hu he hrow
            go_wp2_with (at_builtin; refine wpList_appN rfl _ _ rfl wE.heap.size _ 0 1 _ _ [1000000000] (j + 1) (by rw [hjl]; rfl) rfl rfl (RowI.alloc' HO.out) (rdI_one _ _ _ rfl) (by omega) (by simp) (by simp; omega) ?_; intro v5 wm hown hsh hbm hgr)
            have hb3 := (bal_alloc (o := .cells #[.int .i64 1000000000] 3) hbi).trans hbm
            rw [← HSJ.out] at hown
            have HO5 := Lib.hid hown; clear hown hsh hgr hbm
            go_wp2_with fail
            go_roundw
            case rel => exact ⟨j + 1, by omega, by go_num, HO5.out, hb3⟩
            case measure => simp [intOf]; omega
        case neg =>
          obtain rfl : j = n := by omega
          have hM1 := HM.out.below hbi
          have hlow := HM.out.low
          rw [tab_all] at hrow
          obtain ⟨gr, cr, rfl, hgr⟩ := hrow.shp (by rw [tab_length]; omega)
          rw [tab_length] at hrow ⊢
          have hX := CellO.of_row (hrow.low (B' := w.heap.size) hsz)
          have HB := Lib.hid hrow.blk
          have HX := Lib.hid hX
          have HM1 := Lib.hid hM1; have HLOW := Lib.hid hlow
          clear hrow hM1 hlow HM HO hX
          go_wp2_with (at_builtin; refine wpList_appM rfl _ _ rfl w.heap.size wE.heap.size wI.heap.size _ (.slice (some ⟨gr, 0, none⟩) j cr) L vs (tab j (unF k)) (k + 1) (by rw [HTL.out]) rfl rfl (by simp [go_sem]) (HM1.out.below ((Below.refl _ _).alloc (Nat.le_refl _) _)) (HX.out.below ((Below.refl _ _).alloc (Nat.le_refl _) _)) HB.out HLOW.out (by rw [HTL.out]; omega) (by simp; omega) ?_; intro ad5 cap5 wm hmat5 hbm)
          have hb3 := ((hbel.trans (hbi.mono hsz)).alloc (by omega) (.cells #[.slice (some ⟨gr, 0, none⟩) j cr] 26)).trans hbm
          rw [← HSN.out] at hmat5
          have HM5 := Lib.hid hmat5; clear hmat5 hbm
          go_wp2_with fail
          go_roundw
          case rel => exact ⟨k + 1, _, by omega, by go_num, HM5.out, hb3⟩
          case measure => simp [intOf]; omega

end Go.Proofs.Ytjlkgioinogbkaa
