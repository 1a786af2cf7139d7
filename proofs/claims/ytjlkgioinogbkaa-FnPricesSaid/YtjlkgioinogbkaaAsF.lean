/-
  The prices of columns: the program's. By an AI agent.
-/
import Derived.Test.YtjlkgioinogbkaaAsE
namespace Go.Proofs.Ytjlkgioinogbkaa
open Go.RowKit

def colF (n : Nat) (m : Nat → Nat → Int) (A : List Int) (i k : Nat) : Int := if hitB (vx A) i k = true then prV n m A k else 0
theorem colF_succ {n : Nat} {m : Nat → Nat → Int} {A : List Int} {i : Nat} (k : Nat) : (if k = vx A i then prV n m A (vx A i) else colF n m A i k) = colF n m A (i + 1) k := by
  unfold colF
  rw [hitB_succ]
  by_cases e : k = vx A i
  · subst e; simp
  · have : decide (vx A i = k) = false := decide_eq_false (fun h => e h.symm)
    rw [if_neg e, this, Bool.or_false]
theorem RdI.chgF {w w' : World} {c b off : Nat} {xs : List Int} (h : RdI w (some ⟨b, off, none⟩) xs) (hc : Chg c w w') (ho : b ≠ c) : RdI w' (some ⟨b, off, none⟩) xs := h.chg hc (fun o e => by
  injection e with e
  injection e with e _ _
  exact ho e)

set_option maxHeartbeats 6400000 in
set_option maxRecDepth 100000 in
theorem iColumn_c (ad : Option Addr) (cap : Nat) (M : List (List Int)) (w : World) (hr : RdM w ad M) (hl : smM M) :
    Calls Try.prog 8 #[.slice ad M.length cap] w (LisR (cpB M) (cpL M) w) := by
  have C1 := Lib.hid (bestAsked_c ad cap M w hr hl)
  unfold bsR at C1
  have CR := Lib.hid (fun (h : bsB M = true) (u : World) (adA : Option Addr) (capA : Nat) (hb : Below w.heap.size w u) (hA : RdI u adA (bsL M)) => by
    have hs : sqB M = true := by unfold bsB at h; rw [Bool.and_eq_true] at h; exact h.1
    have h3 := hr.below hb
    rw [← sq_toM hs] at h3
    exact rowPrices_c M.length ad cap (entM M) adA capA (bsL M) u h3 hA (bst_of h).1)
  have CT := Lib.hid (fun (g : Nat) (cp : Nat) (u : World) (hu : RdI u (some ⟨g, 0, none⟩) (cpL M)) => by
    have := toldList_c (some ⟨g, 0, none⟩) cp (cpL M) u hu (by unfold cpL; rw [tab_length]; have := hl.1; omega)
    rw [show (cpL M).length = M.length from tab_length _ _] at this
    exact this)
  rw [show bstA M.length (entM M) = (bsC M, bsL M) from rfl] at C1
  simp only at C1
  have HRL := Lib.hid (show (cpL M).length = M.length from tab_length _ _)
  have HBS := Lib.hid (fun (h : bsB M = true) => (bst_of h).1)
  rw [show bstA M.length (entM M) = (bsC M, bsL M) from rfl] at HBS
  simp only at HBS
  have HRD := Lib.hid (fun (h : bsB M = true) => (show RdM w ad (toM M.length (entM M)) by
    have hs : sqB M = true := by unfold bsB at h; rw [Bool.and_eq_true] at h; exact h.1
    rw [sq_toM hs]; exact hr))
  have HCE := Lib.hid (fun (h : bsB M = true) => (show tab M.length (colF M.length (entM M) (bsL M) M.length) = cpL M from tab_congr fun k hk => by
    have hB := (bst_of h).1
    unfold colF
    rw [if_pos (hit_all (vx (bsL M)) (hB.nd.at hB.len).1 (hB.nd.at hB.len).2 hk)]))
  have hnb := hl.1
  unfold cpB
  clear hr hl
  generalize bsC M = X at C1 HBS
  generalize bsL M = L at C1 CR HBS HCE
  generalize cpL M = R at CT HRL HCE ⊢
  generalize bsB M = B at C1 CR HBS HRD HCE ⊢
  generalize entM M = m at CR HBS HRD HCE
  generalize M.length = n at C1 CR CT HRL HBS HRD HCE hnb ⊢
  cases B
  · rw [Bool.false_and]
    clear CR CT HCE
    go_enter Try.func8, Try.ntmps8
    go_wp2_with fail
    refine C1.out.mono ?_
    rintro e w1 ⟨⟨c, av, lv, cp, rfl, hyes⟩, hb1⟩
    have hb2 := bal_alloc (o := .cells #[.int .i64 c, .slice av lv cp] 43) hb1
    go_wp2_with fail
    exact bodyPost_ret (v := .tuple #[.slice none 0 0, .bool false]) (by simp [results, Try.results8, go_sem]) rfl (LisR.no _ hb2)
  · rw [Bool.true_and]
    have hB := HBS.out rfl
    have HR := Lib.hid (HRD.out rfl)
    have HCF := Lib.hid (HCE.out rfl)
    have HBB := Lib.hid hB
    have hn := hB.n6
    have hmk := fun (w : World) => run_makeN (P := Try.prog) 26 3 (.int .i64 0) 1 8 Try.underlying26 Try.infoI n (by omega) (by omega) w
    clear HBS HRD HCE hB
    go_enter Try.func8, Try.ntmps8
    go_wp2_with fail
    refine C1.out.mono ?_
    rintro e w1 ⟨⟨c, av, lv, cp, rfl, hyes⟩, hb1⟩
    obtain ⟨rfl, g, rfl, hlv, hrd⟩ := hyes trivial
    rw [hlv]
    clear hlv
    have ho := Own.newHA w1 #[.int .i64 c, .slice (some ⟨g, 0, none⟩) n cp] 43 (cs := [.int .i64 c, .slice (some ⟨g, 0, none⟩) n cp]) rfl rfl
    have hgl : g < w1.heap.size := by
      obtain ⟨b, off, e, hl, _⟩ := hrd 0 (by rw [HBB.out.len]; omega)
      injection e with e
      injection e with e _ _
      omega
    have hb2 := bal_alloc (o := .cells #[.int .i64 c, .slice (some ⟨g, 0, none⟩) n cp] 43) hb1
    have hrd2 := hrd.below (bal_alloc (o := .cells #[.int .i64 c, .slice (some ⟨g, 0, none⟩) n cp] 43) (Below.refl _ _))
    obtain ⟨w2, hw2⟩ : ∃ x, w1.alloc (.cells #[.int .i64 c, .slice (some ⟨g, 0, none⟩) n cp] 43) = x := ⟨_, rfl⟩
    have hz2 : w1.heap.size < w2.heap.size := by rw [← hw2]; simp
    rw [hw2] at ho hb2 hrd2
    have k1 := (ho.alloc (.cells (madeCells #[.int .i64 0] n) 3)).cell? (i := 1) rfl
    have hoO := Own.newA w2 (madeCells #[.int .i64 0] n) 3 (madeInts n)
    have hrd3 := hrd2.below (bal_alloc (o := .cells (madeCells #[.int .i64 0] n) 3) (Below.refl _ _))
    have hb3 := bal_alloc (o := .cells (madeCells #[.int .i64 0] n) 3) hb2
    have hz3 : w2.heap.size < (w2.alloc (.cells (madeCells #[.int .i64 0] n) 3)).heap.size := by simp
    have D1 := Lib.hid (CR.out trivial _ _ cp hb3 hrd3)
    have HRDA := Lib.hid hrd3
    clear hyes hrd hrd2 hrd3 CR C1
    go_wp2_with fail
    refine D1.out.mono ?_
    rintro e w3 ⟨g3, cp3, rfl, hg3, ho3, hb4⟩
    have k2 := bcell' hb4 k1
    have HRA := Lib.hid (HRDA.out.below hb4)
    have HRU := Lib.hid ho3.rd
    have HOO := Lib.hid (show Own w3 w2.heap.size 3 (ints (tab n (colF n m L 0))) from hoO.belowAll hb4)
    have hb5 := ball hb3 hb4
    have hz4 := hb4.size
    have hzw : w.heap.size ≤ w2.heap.size := hb2.size
    clear hoO ho ho3 hb4 hb3 hb2 hb1 D1 k1 hw2 HRDA
    go_wp2_with fail
    go_loopw [25] (fun v wr => ∃ i : Nat, i ≤ n ∧ v = .int .i64 i ∧ Own wr w2.heap.size 3 (ints (tab n (colF n m L i))) ∧ Chg w2.heap.size w3 wr) (fun v _ => n - (intOf v).toNat)
    case atStart => exact ⟨0, Nat.zero_le _, rfl, HOO.out, Chg.refl _ _⟩
    case round =>
      obtain ⟨wE, rfl⟩ : ∃ x : World, x = wr := ⟨_, rfl⟩
      obtain ⟨i, hin, rfl, hoE, hch⟩ := hrel
      have hbE : Below w.heap.size w wE := hb5.trans (hch.below hzw hb5.size)
      have HOE := Lib.hid hoE
      by_cases hli : i < n
      case neg =>
        obtain rfl : i = n := by omega
        rw [HCF.out] at hoE HOE
        have HRX := Lib.hid hoE.rd
        have D2 := Lib.hid (CT.out w2.heap.size i wE hoE.rd)
        obtain ⟨U, hU⟩ : ∃ U, R.all numB = U := ⟨_, rfl⟩
        rw [hU] at D2
        have HU := Lib.hid hU
        clear hoE hU k2
        cases U
        · go_wp2_with fail
          refine D2.out.mono ?_
          rintro e w5 ⟨rfl, rfl⟩
          go_wp2_with fail
          exact bodyPost_ret (v := .tuple #[.slice none 0 0, .bool false]) (by simp [results, Try.results8, go_sem]) rfl (by rw [HU.out]; exact LisR.no _ hbE)
        · go_wp2_with fail
          refine D2.out.mono ?_
          rintro e w5 ⟨rfl, rfl⟩
          go_wp2_with fail
          exact bodyPost_ret (v := .tuple #[.slice (some ⟨w2.heap.size, 0, none⟩) i i, .bool true]) (by simp [results, Try.results8, go_sem]) rfl (by rw [HU.out]; exact LisR.yes HRX.out HRL.out hbE)
      case pos =>
        obtain ⟨hc1, hc2, hc3, hc4⟩ := HBB.out.at hli
        have hV := HBB.out.V hli
        have hUb := HBB.out.U hli
        have kU := (HRU.out.chgF hch (by omega)).at (j := i) (by rw [tab_length]; exact hli)
        rw [tab_getD hli, Nat.zero_add] at kU
        have kA := (HRA.out.chgF hch (by omega)).at (j := i) (by rw [HBB.out.len]; exact hli)
        rw [(vt_at HBB.out.nd.vt (t := i) (by rw [HBB.out.len]; exact hli)).1, Nat.zero_add] at kA
        have kb := hch.cell (show w1.heap.size ≠ w2.heap.size by omega) k2
        obtain ⟨bM, oM, rfl, hbM, hrow⟩ := HR.out.rowF (by omega)
        obtain ⟨b5, o5, c5, e5, hl5, hc5'⟩ := hrow i hli
        have e5 := bcell hbE hbM e5
        have k5 := bcell hbE hl5 (hc5' _ hc1)
        have hset := hoE.set (vx L i) (.int .i64 (prV n m L (vx L i)))
        rw [ints_set, tab_set, show tab n (fun k => if k = vx L i then prV n m L (vx L i) else colF n m L i k) = tab n (colF n m L (i + 1)) from tab_congr fun k _ => colF_succ k] at hset
        rw [hV] at hset
        have HS := Lib.hid hset
        have ko := hoE.cell? (ints_get (i := vx L i) (by rw [tab_length]; exact hc1))
        rw [tab_getD hc1] at ko
        have fo := hoE.frozen (vx L i)
        have HCH := Lib.hid hch
        clear hrow hc5' hoE hset hV hch k2 HOE
        generalize prU n m L i = Ui at kU hUb HS
        generalize m i (vx L i) = E at k5 hc2 hc3 hc4 HS
        generalize colF n m L i (vx L i) = Z at ko
        generalize vx L i = q at kA hc1 k5 HS ko fo
        have w1' : IntKind.i64.wrap (E - Ui) = E - Ui := i64_small (by omega) (by omega)
        have x1 : (0 : Int) ≤ (i : Int) := by omega
        have x2 : (i : Int) < (n : Int) := by omega
        have x3 : (0 : Int) ≤ (q : Int) := by omega
        have x4 : (q : Int) < (n : Int) := by omega
        have HCS := Lib.hid (HCH.out.trans (Chg.set w2.heap.size q wE (.int .i64 (E - Ui))))
        clear hUb hc3 hc4
        go_wp2_with fail
        go_roundw
        case rel => exact ⟨i + 1, by omega, by go_num, HS.out, HCS.out⟩
        case measure => simp [intOf]; omega
end Go.Proofs.Ytjlkgioinogbkaa
