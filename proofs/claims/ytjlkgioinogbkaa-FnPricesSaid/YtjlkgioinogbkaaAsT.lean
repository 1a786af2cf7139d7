/-
  The reference's ColumnPrices. By an AI agent.
-/
import Derived.Test.YtjlkgioinogbkaaAsS
namespace Go.Proofs.Ytjlkgioinogbkaa
open Go.RowKit

set_option maxHeartbeats 6400000 in
set_option maxRecDepth 100000 in
theorem sColumn_c (ad : Option Addr) (cap : Nat) (M : List (List Int)) (w : World) (hr : RdM w ad M) (hl : smM M) :
    Calls Try.prog 9 #[.slice ad M.length cap] w (LisR (cpB M) (cpL M) w) := by
  have C1 := Lib.hid (asAsked_c ad cap M w hr hl)
  have C2 := Lib.hid (fun h => asRowsB_c ad cap M w hr h)
  have HRL := Lib.hid (show (cpL M).length = M.length from tab_length _ _)
  have HAB := Lib.hid (fun (h : bsB M = true) => allB_num (l := cpL M) (fun i hi => by
    unfold cpL at hi ⊢
    rw [tab_length] at hi
    rw [tab_getD hi]
    have := (bst_of h).1.Vb hi
    rw [show bstA M.length (entM M) = (bsC M, bsL M) from rfl] at this
    simp only at this
    omega))
  have HBS := Lib.hid (fun (h : bsB M = true) => (bst_of h).1)
  rw [show bstA M.length (entM M) = (bsC M, bsL M) from rfl] at HBS
  simp only at HBS
  have HRD := Lib.hid (fun (h : bsB M = true) => (show RdM w ad (toM M.length (entM M)) by
    rw [sq_toM (bsB_sq h)]; exact hr))
  have HCE := Lib.hid (fun (h : bsB M = true) => (show tab M.length (colF M.length (entM M) (bsL M) M.length) = cpL M from tab_congr fun k hk => by
    have hB := (bst_of h).1
    unfold colF
    rw [if_pos (hit_all (vx (bsL M)) (hB.nd.at hB.len).1 (hB.nd.at hB.len).2 hk)]))
  have hnb := hl.1
  unfold cpB
  clear hr hl
  unfold rpL at C2
  generalize bsC M = X at HBS
  generalize bsL M = L at C2 HBS HCE
  generalize cpL M = R at HRL HCE HAB ⊢
  generalize bsB M = B at C1 C2 HBS HRD HCE HAB ⊢
  generalize entM M = m at C2 HBS HRD HCE
  generalize M.length = n at C1 C2 HRL HBS HRD HCE hnb ⊢
  cases B
  · rw [Bool.false_and]
    clear C2 HCE
    go_enter Try.func9, Try.ntmps9
    go_wp2_with fail
    refine C1.out.mono ?_
    rintro e w1 ⟨rfl, hb1⟩
    go_wp2_with fail
    exact bodyPost_ret (v := .tuple #[.slice none 0 0, .bool false]) (by simp [results, Try.results9, go_sem]) rfl (LisR.no _ hb1)
  · rw [Bool.true_and]
    have hB := HBS.out rfl
    have HR := Lib.hid (HRD.out rfl)
    have HCF := Lib.hid (HCE.out rfl)
    have HBB := Lib.hid hB
    have c2 := Lib.hid (C2.out rfl)
    have hn := hB.n6
    have hab := HAB.out rfl
    obtain ⟨U, hU⟩ : ∃ U, R.all numB = U := ⟨_, rfl⟩
    rw [hU] at hab
    have HU := Lib.hid hU
    have HA := Lib.hid hab
    have hmk := fun (w : World) => run_makeN (P := Try.prog) 26 3 (.int .i64 0) 1 8 Try.underlying26 Try.infoI n (by omega) (by omega) w
    clear HBS HRD HCE hB C2 HAB hab hU
    go_enter Try.func9, Try.ntmps9
    go_wp2_with fail
    refine C1.out.mono ?_
    rintro e w1 ⟨rfl, hb1⟩
    go_wp2_with fail
    refine (c2.out _ hb1).mono ?_
    rintro e w2 ⟨ad5, cap5, aA, cA, rfl, hrow, hrdA, hb2⟩
    have hb3 := ball hb1 hb2
    have hrd : RdI w2 ad5 (tab n (prU n m L)) := by
      obtain ⟨a, c, e, h⟩ := hrow.shape
      injection e with e _ _
      subst e
      exact h
    obtain ⟨bU, oU, rfl, hbU, _⟩ := hrd 0 (by rw [tab_length]; omega)
    obtain ⟨bA, oA, rfl, hbA, _⟩ := hrdA 0 (by rw [HBB.out.len]; omega)
    have hoO := Own.newA w2 (madeCells #[.int .i64 0] n) 3 (madeInts n)
    have hb4 := bal_alloc (o := .cells (madeCells #[.int .i64 0] n) 3) hb3
    have HRU := Lib.hid (hrd.below (bal_alloc (o := .cells (madeCells #[.int .i64 0] n) 3) (Below.refl _ _)))
    have HRA := Lib.hid (hrdA.below (bal_alloc (o := .cells (madeCells #[.int .i64 0] n) 3) (Below.refl _ _)))
    have HOO := Lib.hid (show Own (w2.alloc (.cells (madeCells #[.int .i64 0] n) 3)) w2.heap.size 3 (ints (tab n (colF n m L 0))) from hoO)
    have hzw : w.heap.size ≤ w2.heap.size := hb3.size
    have hz3 : w2.heap.size < (w2.alloc (.cells (madeCells #[.int .i64 0] n) 3)).heap.size := by simp
    clear hrow hrdA hrd hoO C1 c2
    go_wp2_with fail
    obtain ⟨w3, hw3⟩ : ∃ x, w2.alloc (.cells (madeCells #[.int .i64 0] n) 3) = x := ⟨_, rfl⟩
    rw [hw3] at HRU HRA HOO hb4 hz3 ⊢
    clear hw3
    go_loopw [22] (fun v wr => ∃ i : Nat, i ≤ n ∧ v = .int .i64 i ∧ Own wr w2.heap.size 3 (ints (tab n (colF n m L i))) ∧ Chg w2.heap.size w3 wr) (fun v _ => n - (intOf v).toNat)
    case atStart => exact ⟨0, Nat.zero_le _, rfl, HOO.out, Chg.refl _ _⟩
    case round =>
      obtain ⟨wE, rfl⟩ : ∃ x : World, x = wr := ⟨_, rfl⟩
      obtain ⟨i, hin, rfl, hoE, hch⟩ := hrel
      have hbE : Below w.heap.size w wE := hb4.trans (hch.below hzw hb4.size)
      have HOE := Lib.hid hoE
      by_cases hli : i < n
      case neg =>
        obtain rfl : i = n := by omega
        rw [HCF.out] at hoE HOE
        have HRX := Lib.hid hoE.rd
        have CL := l1All_any (some ⟨w2.heap.size, 0, none⟩) i R (-1000000) 1000000 wE (by rw [HRL.out]; omega) hoE.rd
        rw [HA.out, HRL.out] at CL
        have HCL := Lib.hid CL
        clear hoE CL
        cases U
        · go_wp2_with fail
          refine HCL.out.mono ?_
          rintro e w5 ⟨rfl, rfl⟩
          go_wp2_with fail
          exact bodyPost_ret (v := .tuple #[.slice none 0 0, .bool false]) (by simp [results, Try.results9, go_sem]) rfl (by rw [HU.out]; exact LisR.no _ hbE)
        · go_wp2_with fail
          refine HCL.out.mono ?_
          rintro e w5 ⟨rfl, rfl⟩
          go_wp2_with fail
          exact bodyPost_ret (v := .tuple #[.slice (some ⟨w2.heap.size, 0, none⟩) i i, .bool true]) (by simp [results, Try.results9, go_sem]) rfl (by rw [HU.out]; exact LisR.yes HRX.out HRL.out hbE)
      case pos =>
        obtain ⟨hc1, hc2, hc3, hc4⟩ := HBB.out.at hli
        have hV := HBB.out.V hli
        have hUb := HBB.out.U hli
        have kU := (HRU.out.chgF hch (by omega)).at (j := i) (by rw [tab_length]; exact hli)
        rw [tab_getD hli] at kU
        have kA := (HRA.out.chgF hch (by omega)).at (j := i) (by rw [HBB.out.len]; exact hli)
        rw [(vt_at HBB.out.nd.vt (t := i) (by rw [HBB.out.len]; exact hli)).1] at kA
        obtain ⟨bM, oM, rfl, hbM, hrow⟩ := HR.out.rowF (by omega)
        obtain ⟨b5, o5, c5, e5, hl5, hc5'⟩ := hrow i hli
        have e5 := bcell hbE hbM e5
        have k5 := bcell hbE hl5 (hc5' _ hc1)
        have hset := hoE.set (vx L i) (.int .i64 (prV n m L (vx L i)))
        rw [ints_set, tab_set, show tab n (fun k => if k = vx L i then prV n m L (vx L i) else colF n m L i k) = tab n (colF n m L (i + 1)) from tab_congr fun k _ => colF_succ k] at hset
        rw [hV] at hset
        have HS := Lib.hid hset
        have ko := hoE.cell? (ints_get (i := vx L i) (by rw [tab_length]; exact hc1))
        rw [tab_getD hc1] at ko
        have fo := hoE.frozen (vx L i)
        have HCH := Lib.hid hch
        clear hrow hc5' hoE hset hV hch HOE
        generalize prU n m L i = Ui at kU hUb HS
        generalize m i (vx L i) = E at k5 hc2 hc3 hc4 HS
        generalize colF n m L i (vx L i) = Z at ko
        generalize vx L i = q at kA hc1 k5 HS ko fo
        have w1' : IntKind.i64.wrap (E - Ui) = E - Ui := i64_small (by omega) (by omega)
        have x1 : (0 : Int) ≤ (i : Int) := by omega
        have x2 : (i : Int) < (n : Int) := by omega
        have x3 : (0 : Int) ≤ (q : Int) := by omega
        have x4 : (q : Int) < (n : Int) := by omega
        have HCS := Lib.hid (HCH.out.trans ((Chg.set w2.heap.size q wE (.int .i64 (E - Ui))).trans (Chg.drew _ _)))
        clear hUb hc3 hc4
        go_wp2_with fail
        go_still_tail 15, (by kernel_rfl)
        change wpList _ _ _ _ _ wE.drew
        have d1 : wE.drew.cell? ⟨w2.heap.size, q, none⟩ = some (.int .i64 Z) := ko
        have d2 : wE.drew.frozen? ⟨w2.heap.size, q, none⟩ = false := fo
        go_wp2_with fail
        go_roundw
        case rel => exact ⟨i + 1, by omega, by go_num, HS.out.drew, HCS.out⟩
        case measure => simp [intOf]; omega
end Go.Proofs.Ytjlkgioinogbkaa
