/-
  Outer products: the program's and the reference's. By an AI agent.
-/
import Derived.Test.YtnbenpalneodlaaRkO
import Derived.Lib.JoinLaws
namespace Go.Proofs.Ytnbenpalneodlaa
open Go.RowKit

theorem row_madeI (w : World) (c : Nat) (hc : c ≤ 1000) : RowI (w.alloc (.cells (madeCells #[.int .i64 0] c) 3)) w.heap.size (.slice (some ⟨w.heap.size, 0, none⟩) 0 c) [] :=
  World.ownsRow_made w (madeCells #[.int .i64 0] c) c (Nat.le_refl _) (by unfold maxLen; omega) (by simp [size_madeCells])
set_option maxHeartbeats 1600000 in
set_option maxRecDepth 100000 in
theorem shifted_c (ad : Option Addr) (cap : Nat) (l : List Int) (b : Int) (w : World) (hr : RdI w ad l) (h0 : 0 < l.length) (hl : l.length ≤ 1000) (hb : -2000000000 ≤ b ∧ b ≤ 2000000000) (hn : ∀ i, i < l.length → -2000000000 ≤ l.getD i 0 ∧ l.getD i 0 ≤ 2000000000) :
    Calls Try.prog 25 #[.slice ad l.length cap, .int .i64 b] w fun e w' => ∃ g cap', e = .returned (.slice (some ⟨g, 0, none⟩) l.length cap') ∧ RowI w' w.heap.size (.slice (some ⟨g, 0, none⟩) l.length cap') (l.map fun x => prodZ x b) ∧ Below w.heap.size w w' := by
  have HR := Lib.hid hr; have HNB := Lib.hid hn
  obtain ⟨n, hnl⟩ : ∃ n, l.length = n := ⟨_, rfl⟩
  have HN := Lib.hid hnl
  rw [hnl] at h0 hl ⊢
  have hmk := fun (w : World) => run_make_room (P := Try.prog) 23 3 (.int .i64 0) 8 Try.underlying23 Try.infoI rfl .i64 .i64 n (by omega) (by omega) w
  have HO := Lib.hid (row_madeI w n hl)
  have hb0 := bal_alloc (o := .cells (madeCells #[.int .i64 0] n) 3) (Below.refl w.heap.size w)
  have HB0 := Lib.hid hb0
  clear hr hn hnl hb0
  go_enter Try.func25, Try.ntmps25
  go_wp2_with fail
  go_loopw [5, 13] (fun v i wr => ∃ k : Nat, k ≤ n ∧ i = .int .i64 k ∧ RowI wr w.heap.size v ((l.take k).map fun x => prodZ x b) ∧ Below w.heap.size w wr) (fun _ i _ => n - (intOf i).toNat)
  case atStart => exact ⟨0, Nat.zero_le _, rfl, HO.out, HB0.out⟩
  case round =>
    obtain ⟨wE, rfl⟩ : ∃ x : World, x = wr := ⟨_, rfl⟩
    obtain ⟨k, hk, rfl, hrow, hbel⟩ := hrel
    by_cases hlt : k < n
    case neg =>
      obtain rfl : k = n := by omega
      rw [List.take_of_length_le (by rw [HN.out]; exact Nat.le_refl _)] at hrow
      obtain ⟨g, c, rfl, _⟩ := RowI.shpA hrow (by rw [List.length_map, HN.out]; exact h0)
      rw [List.length_map, HN.out] at hrow ⊢
      have HROW := Lib.hid hrow
      clear hrow
      go_wp2_with fail
      go_ret
      exact ⟨g, c, rfl, HROW.out, hbel⟩
    case pos =>
      obtain ⟨bb, off, rfl, hbb, c1⟩ := HR.out k (by rw [HN.out]; exact hlt)
      have c1 := bcell hbel hbb c1
      have hx := HNB.out k (by rw [HN.out]; exact hlt)
      have hsn : (l.take (k + 1)).map (fun x => prodZ x b) = (l.take k).map (fun x => prodZ x b) ++ [prodZ (l.getD k 0) b] := by
        rw [takeN_snoc (by rw [HN.out]; exact hlt), List.map_append]
        rfl
      have CP := Lib.hid (fun w => product_c (l.getD k 0) b w (by omega))
      generalize prodZ (l.getD k 0) b = Z at hsn CP
      generalize l.getD k 0 = X at c1 hx CP
      have HSN := Lib.hid hsn
      have hlen : ((l.take k).map fun x => prodZ x b).length = k := by rw [List.length_map, List.length_take, HN.out]; omega
      generalize (l.take k).map (fun x => prodZ x b) = T at hrow HSN hlen
      obtain ⟨adr, car, rfl, _⟩ := hrow.shape
      rw [hlen] at hrow ⊢
      have HT := Lib.hid hlen
      have HRO := Lib.hid hrow
      have hsz := hbel.size
      have x1 : (0 : Int) ≤ (k : Int) := by omega
      have x2 : (k : Int) < (n : Int) := by omega
      clear hsn hrow hlen hx
      go_wp2_with fail
      refine (CP.out _).mono ?_
      rintro e w' ⟨rfl, rfl⟩
      go_wp2_with (at_builtin; refine wpList_appN rfl _ _ rfl w.heap.size _ 0 1 (.slice adr k car) T [Z] (k + 1) (by rw [HT.out]; rfl) rfl rfl (RowI.alloc' HRO.out) (rdI_one _ _ _ rfl) (by rw [HT.out]; omega) (by simp) (by simp; omega) ?_; intro v5 wm hown hsh hbm hgr)
      have hb3 := (bal_alloc (o := .cells #[.int .i64 Z] 3) hbel).trans hbm
      rw [← HSN.out] at hown
      have HO5 := Lib.hid hown; clear hown hsh hgr hbm
      go_wp2_with fail
      go_roundw
      case rel => exact ⟨k + 1, by omega, by go_num, HO5.out, hb3⟩
      case measure => simp [intOf]; omega
def fvB (v : List Int) : Bool := vecB v && v.all finB
set_option maxHeartbeats 800000 in
theorem isFiniteVector_c (ad : Option Addr) (cap : Nat) (r : List Int) (w : World) (hr : RdI w ad r) (hl : r.length ≤ 1048576) :
    Calls Try.prog 24 #[.slice ad r.length cap] w fun e w' => e = .returned (.bool (fvB r)) ∧ w = w' := by
  have C1 := Lib.hid (isVector_c ad cap r w hr hl)
  have C2 := Lib.hid (areFinite_c ad cap r w hr hl)
  unfold fvB
  clear hr
  generalize vecB r = a at C1 ⊢
  generalize r.all finB = b at C2 ⊢
  cases a
  · go_enter Try.func24, Try.ntmps24
    go_wp2_with fail
    refine C1.out.mono ?_
    rintro e w1 ⟨rfl, rfl⟩
    go_wp2_with fail
    go_ret
    exact ⟨rfl, rfl⟩
  · go_enter Try.func24, Try.ntmps24
    go_wp2_with fail
    refine C1.out.mono ?_
    rintro e w1 ⟨rfl, rfl⟩
    go_wp2_with fail
    refine C2.out.mono ?_
    rintro e w1 ⟨rfl, rfl⟩
    go_wp2_with fail
    go_ret
    exact ⟨by simp, rfl⟩
theorem fv_facts {v : List Int} (h : fvB v = true) : (1 ≤ v.length ∧ v.length ≤ 6) ∧ ∀ i, i < v.length → -1000000 ≤ v.getD i 0 ∧ v.getD i 0 ≤ 1000000 := by
  unfold fvB vecB at h
  simp only [Bool.and_eq_true, List.all_eq_true] at h
  obtain ⟨⟨h1, _⟩, h3⟩ := h
  have h1 := inB_t.1 h1
  exact ⟨by omega, fun i hi => inB_t.1 (h3 _ (getD_memI hi))⟩
def outM (u v : List Int) (i j : Nat) : Int := u.getD i 0 + v.getD j 0
def ouL (u v : List Int) : List (List Int) := toG u.length v.length (outM u v)
def ouB (u v : List Int) : Bool := fvB u && (fvB v && matB (ouL u v))
theorem matG (R C : Nat) (F : Nat → Nat → Int) : (toG R C F).length = R ∧ ∀ i, i < R → ((toG R C F).getD i []).length = C := ⟨toG_len _ _ _, fun i hi => by rw [toG_row _ hi, tab_length]⟩

set_option maxHeartbeats 3200000 in
set_option maxRecDepth 100000 in
theorem iOuter_c (adu : Option Addr) (cu : Nat) (u : List Int) (adv : Option Addr) (cv : Nat) (v : List Int) (w : World) (hu : RdI w adu u) (hv : RdI w adv v) (hul : u.length ≤ 1000) (hvl : v.length ≤ 1000) :
    Calls Try.prog 5 #[.slice adu u.length cu, .slice adv v.length cv] w (MaR (ouB u v) (ouL u v) w) := by
  have C1 := Lib.hid (isFiniteVector_c adu cu u w hu (by omega))
  have C2 := Lib.hid (isFiniteVector_c adv cv v w hv (by omega))
  have CT := Lib.hid (fun (h : fvB u = true) (h2 : fvB v = true) ad' cap' x (hx : RdM x ad' (ouL u v)) => show Calls Try.prog 26 #[.slice ad' u.length cap'] x (MaR (matB (ouL u v)) (ouL u v) x) from by
    obtain ⟨f1, _⟩ := fv_facts h
    obtain ⟨f2, _⟩ := fv_facts h2
    have hlen : (ouL u v).length = u.length := (matG _ _ _).1
    have D1 := isMatrix_c ad' cap' (ouL u v) x hx (by rw [hlen]; omega) (fun i hi => by rw [hlen] at hi; rw [show ((ouL u v).getD i []).length = v.length from (matG _ _ _).2 i hi]; omega)
    have HX := Lib.hid hx
    rw [hlen] at D1
    have D2 := Lib.hid D1
    have HL := Lib.hid hlen
    clear hx D1
    generalize matB (ouL u v) = B at D2 ⊢
    generalize ouL u v = L at HX HL ⊢
    generalize u.length = n at D2 HL ⊢
    cases B
    · go_enter Try.func26, Try.ntmps26
      go_wp2_with fail
      refine D2.out.mono ?_
      rintro e w1 ⟨rfl, hb1⟩
      go_wp2_with fail
      exact bodyPost_ret (v := .tuple #[.slice none 0 0, .bool false]) (by simp [results, Try.results26, go_sem]) rfl (MaR.no hb1)
    · go_enter Try.func26, Try.ntmps26
      go_wp2_with fail
      refine D2.out.mono ?_
      rintro e w1 ⟨rfl, hb1⟩
      go_wp2_with fail
      refine bodyPost_ret (v := .tuple #[.slice ad' n cap', .bool true]) (by simp [results, Try.results26, go_sem]) rfl ?_
      have := MaR.yes (w := x) (c := cap') (HX.out.below hb1) hb1
      rw [HL.out] at this
      exact this)
  have CS := Lib.hid (fun (h : fvB u = true) (h2 : fvB v = true) i (hi : i < u.length) x (hb : Below w.heap.size w x) => show Calls Try.prog 25 #[.slice adv v.length cv, .int .i64 (u.getD i 0)] x fun e w' => ∃ g cap', e = .returned (.slice (some ⟨g, 0, none⟩) v.length cap') ∧ RowI w' x.heap.size (.slice (some ⟨g, 0, none⟩) v.length cap') (tab v.length (outM u v i)) ∧ Below x.heap.size x w' from by
    obtain ⟨f1, f2⟩ := fv_facts h
    obtain ⟨f3, f4⟩ := fv_facts h2
    have f2 := f2 i hi
    have k := shifted_c adv cv v (u.getD i 0) x (hv.below hb) (by omega) (by omega) (by omega) (fun j hj => by have := f4 j hj; omega)
    rw [show (v.map fun y => prodZ y (u.getD i 0)) = tab v.length (outM u v i) from ?_] at k
    · exact k
    · refine List.ext_getElem? fun j => ?_
      by_cases hj : j < v.length
      · rw [tab_get hj, List.getElem?_map, List.getElem?_eq_getElem hj]
        have h5 := f4 j hj
        have h6 : v[j] = v.getD j 0 := by rw [List.getD_eq_getElem?_getD, List.getElem?_eq_getElem hj]; rfl
        show some (prodZ v[j] (u.getD i 0)) = some (outM u v i j)
        unfold prodZ outM
        rw [h6, if_neg (by omega)]
        congr 1
        omega
      · rw [List.getElem?_eq_none (by rw [List.length_map]; omega), List.getElem?_eq_none (by rw [tab_length]; omega)])
  have HF := Lib.hid (fun (h : fvB u = true) => fv_facts h)
  have HU := Lib.hid hu
  have HOL := Lib.hid (show ouL u v = toG u.length v.length (outM u v) from rfl)
  unfold ouB
  clear hu hv
  generalize ouL u v = L at CT HOL ⊢
  generalize matB L = B at CT ⊢
  obtain ⟨a, ha⟩ : ∃ a, fvB u = a := ⟨_, rfl⟩
  obtain ⟨b, hb⟩ : ∃ b, fvB v = b := ⟨_, rfl⟩
  rw [ha] at C1 CT CS HF ⊢
  rw [hb] at C2 CT CS ⊢
  clear ha hb
  cases a
  · clear CT CS C2 HF
    generalize u.length = n at C1 ⊢
    generalize v.length = n2 at ⊢
    go_enter Try.func5, Try.ntmps5
    go_wp2_with fail
    refine C1.out.mono ?_
    rintro e w1 ⟨rfl, rfl⟩
    go_wp2_with fail
    exact bodyPost_ret (v := .tuple #[.slice none 0 0, .bool false]) (by simp [results, Try.results5, go_sem]) rfl (MaR.no (Below.refl _ _))
  · cases b
    · clear CT CS HF
      generalize u.length = n at C1 ⊢
      generalize v.length = n2 at C2 ⊢
      go_enter Try.func5, Try.ntmps5
      go_wp2_with fail
      refine C1.out.mono ?_
      rintro e w1 ⟨rfl, rfl⟩
      go_wp2_with fail
      refine C2.out.mono ?_
      rintro e w1 ⟨rfl, rfl⟩
      go_wp2_with fail
      exact bodyPost_ret (v := .tuple #[.slice none 0 0, .bool false]) (by simp [results, Try.results5, go_sem]) rfl (MaR.no (Below.refl _ _))
    · rw [Bool.true_and, Bool.true_and]
      obtain ⟨hn6, _⟩ := HF.out rfl
      have DT := Lib.hid (CT.out rfl rfl); have DS := Lib.hid (CS.out rfl rfl)
      obtain ⟨n, hn⟩ : ∃ n, u.length = n := ⟨_, rfl⟩
      have HNU := Lib.hid hn
      rw [hn] at C1 DT DS HOL hn6 ⊢
      generalize v.length = n2 at C2 DS HOL ⊢
      generalize outM u v = F at DS HOL
      have HN0 := Lib.hid (MatO.empty w w.heap.size w.heap.size (Nat.le_refl _) rfl)
      have hb0 := bal_alloc (o := .cells #[] 23) (Below.refl w.heap.size w)
      clear CT CS HF hn
      go_enter Try.func5, Try.ntmps5
      go_wp2_with fail
      refine C1.out.mono ?_
      rintro e w1 ⟨rfl, rfl⟩
      go_wp2_with fail
      refine C2.out.mono ?_
      rintro e w1 ⟨rfl, rfl⟩
      go_wp2_with fail
      go_loopw [6, 20] (fun x i wr => ∃ (k : Nat) (vs : List Value), k ≤ n ∧ i = .int .i64 k ∧ MatO wr w.heap.size x ((toG n n2 F).take k) vs ∧ Below w.heap.size w wr) (fun _ i _ => n - (intOf i).toNat)
      case atStart => exact ⟨0, [], Nat.zero_le _, rfl, HN0.out, hb0⟩
      case round =>
        obtain ⟨wE, rfl⟩ : ∃ x : World, x = wr := ⟨_, rfl⟩
        obtain ⟨k, vs, hk, rfl, hmat, hbel⟩ := hrel
        obtain ⟨adm, cam, rfl, _⟩ := hmat.shape
        have htl : ((toG n n2 F).take k).length = k := by rw [List.length_take, toG_len]; omega
        have HM := Lib.hid hmat
        by_cases hlt : k < n
        case neg =>
          obtain rfl : k = n := by omega
          rw [htl]
          rw [List.take_of_length_le (by rw [toG_len]; omega)] at hmat HM
          rw [toG_len] at hmat HM
          have E := Lib.hid (DT.out adm cam wE (by rw [HOL.out]; exact HM.out.rd))
          clear hmat htl
          go_wp2_with fail
          refine E.out.mono ?_
          rintro e w5 ⟨a5, c5, rfl, h1, h2⟩
          have H1 := Lib.hid h1
          have hb9 := ball hbel h2
          clear h1 h2
          obtain ⟨q, hq⟩ : ∃ q, (if B = true then L else []).length = q := ⟨_, rfl⟩
          rw [hq]
          have HQ := Lib.hid hq
          clear hq
          go_wp2_with fail
          exact bodyPost_ret (v := .tuple #[.slice a5 q c5, .bool B]) (by simp [results, Try.results5, go_sem]) rfl ⟨a5, c5, by rw [HQ.out], H1.out, hb9⟩
        case pos =>
          have hsn := takeM_snoc (toG n n2 F) k (by rw [toG_len]; exact hlt)
          rw [toG_row _ hlt] at hsn
          have HSN := Lib.hid hsn
          have hsz := hbel.size
          obtain ⟨G, hG⟩ : ∃ G, (toG n n2 F).take k = G := ⟨_, rfl⟩
          rw [hG] at HM HSN htl ⊢
          have HTL := Lib.hid htl
          rw [htl] at HM ⊢
          obtain ⟨bb, off, rfl, hbb, c1⟩ := HU.out k (by rw [HNU.out]; exact hlt)
          have c1 := bcell hbel hbb c1
          have E := Lib.hid (DS.out k hlt wE hbel)
          generalize u.getD k 0 = X at c1 E
          have x1 : (0 : Int) ≤ (k : Int) := by omega
          have x2 : (k : Int) < (n : Int) := by omega
          clear htl hG hmat hsn
          go_wp2_with fail
          refine E.out.mono ?_
          rintro e w2 ⟨g3, c3, rfl, hrow, hb2⟩
          have HX2 := Lib.hid (HM.out.below hb2)
          have HCX := Lib.hid (CellO.of_row (show RowI w2 w.heap.size (.slice (some ⟨g3, 0, none⟩) n2 c3) (tab n2 (F k)) from hrow.low hsz))
          have HB := Lib.hid (RowI.blk hrow)
          have HLOW := Lib.hid HM.out.low
          have hsz2 := hb2.size
          clear hrow E
          go_wp2_with (at_builtin; refine wpList_appM rfl _ _ rfl w.heap.size wE.heap.size w2.heap.size _ (.slice (some ⟨g3, 0, none⟩) n2 c3) G vs (tab n2 (F k)) (k + 1) (by rw [HTL.out]) rfl rfl (by simp [go_sem]) (HX2.out.below ((Below.refl _ _).alloc (Nat.le_refl _) _)) (HCX.out.below ((Below.refl _ _).alloc (Nat.le_refl _) _)) HB.out HLOW.out (by rw [HTL.out]; omega) (by simp; omega) ?_; intro ad5 cap5 wm hmat5 hbm)
          have hb3 := ((hbel.trans (hb2.mono hsz)).alloc (by omega) (.cells #[.slice (some ⟨g3, 0, none⟩) n2 c3] 23)).trans hbm
          rw [← HSN.out] at hmat5
          have HM5 := Lib.hid hmat5; clear hmat5 hbm
          go_wp2_with fail
          go_roundw
          case rel => exact ⟨k + 1, _, by omega, by go_num, HM5.out, hb3⟩
          case measure => simp [intOf]; omega
/-! ### the reference's -/
theorem fin_inf {v : List Int} (h : vecB v = true) : v.all finB = !decide ((1000000000 : Int) ∈ v) := by
  unfold vecB at h
  rw [Bool.and_eq_true, List.all_eq_true] at h
  by_cases hi : (1000000000 : Int) ∈ v
  · rw [decide_eq_true hi]
    exact List.all_eq_false.2 ⟨_, hi, by decide⟩
  · rw [decide_eq_false hi]
    refine List.all_eq_true.2 fun x hx => ?_
    rcases numB_t (h.2 x hx) with h1 | h1
    · exact inB_t.2 h1
    · subst h1; exact absurd hx hi
end Go.Proofs.Ytnbenpalneodlaa
