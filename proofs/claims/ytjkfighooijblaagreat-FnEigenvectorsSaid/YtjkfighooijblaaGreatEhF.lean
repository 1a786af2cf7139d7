/-
  Some texts of this proof in one: EhF EhG EhH EhI. Each part tells what it proves. By an AI agent.
-/
import Derived.Test.YtjkfighooijblaaGreatEhC

/-
  Eigenvectors: the program's. By an AI agent.
-/
namespace Go.Proofs.YtjkfighooijblaaGreat
open Go.RowKit

theorem TrO.rowT {w : World} {B g n : Nat} {R : Nat → List Int} {vs : List Value} (h : TrO w B g n R vs) {i : Nat} (hi : i < n) : ∃ ad cap, w.cell? ⟨g, i, none⟩ = some (.slice ad (R i).length cap) ∧ RdI w ad (R i) := by
  have hl := h.len
  have h1 : w.cell? ⟨g, i, none⟩ = some (vs.getD i undef) := h.out.cell? (by rw [List.getD_eq_getElem?_getD, List.getElem?_eq_getElem (by omega)]; rfl)
  obtain ⟨ad, cap, e, hr⟩ := (h.each i hi).shape
  rw [e] at h1
  exact ⟨ad, cap, h1, hr⟩

set_option maxHeartbeats 6400000 in
set_option maxRecDepth 100000 in
theorem iEigenvector_c (ad : Option Addr) (cap : Nat) (M : List (List Int)) (w : World) (hr : RdM w ad M) (hl : smM M) :
    Calls Tryz.prog 5 #[.slice ad M.length cap] w fun e w' => ∃ B, (B = true ↔ sqB M = true ∧ EvP M.length (entM M) ∧ (tab M.length (eiV M.length (entM M))).all numB = true) ∧ LisR B (tab M.length (eiV M.length (entM M))) w e w' := by
  have C1 := Lib.hid (isSquare_c ad cap M w hr (by have := hl.1; omega) (fun i hi => by have := hl.2 i hi; omega))
  by_cases hs : sqB M = true
  case neg =>
    have hs := Bool.eq_false_iff.2 hs
    rw [hs] at C1
    have HS := Lib.hid hs
    clear hs hr hl
    generalize M.length = n at C1 ⊢
    go_enter Tryz.func5, Tryz.ntmps5
    go_wp2_with fail
    refine C1.out.mono ?_
    rintro e w1 ⟨rfl, hb1⟩
    go_wp2_with fail
    exact bodyPost_ret (v := .tuple #[.slice none 0 0, .bool false]) (by simp [results, Tryz.results5, go_sem]) rfl ⟨false, ⟨(fun h => by cases h), (fun h => by rw [HS.out] at h; cases h.1)⟩, LisR.no _ hb1⟩
  case pos =>
    obtain ⟨hn, _, hnum⟩ := sq_facts hs
    have hnum : ∀ a b, a < M.length → b < M.length → numB (entM M a b) = true := hnum
    rw [hs] at C1
    have h3 := hr
    rw [← sq_toM hs] at h3
    rw [hs]
    generalize entM M = m at h3 hnum ⊢
    generalize M.length = n at C1 h3 hn hnum ⊢
    have HR := Lib.hid h3; have HNUM := Lib.hid hnum
    have C2 := Lib.hid (fun u (hb : Below w.heap.size w u) => isStrong_c n ad cap m u (h3.below hb) hn)
    have C3 := Lib.hid (fun u (hb : Below w.heap.size w u) => leastMean_c n ad cap m u (h3.below hb) hn hnum)
    clear hr hl hs h3 hnum
    go_enter Tryz.func5, Tryz.ntmps5
    go_wp2_with fail
    refine C1.out.mono ?_
    rintro e w1 ⟨rfl, hb1⟩
    go_wp2_with fail
    refine (C2.out w1 hb1).mono ?_
    rintro e w2 ⟨b, rfl, hbs, hb2⟩
    have hb2 := ball hb1 hb2
    have HBS := Lib.hid hbs
    clear hbs hb1 C1 C2
    cases b
    · go_wp2_with fail
      exact bodyPost_ret (v := .tuple #[.slice none 0 0, .bool false]) (by simp [results, Tryz.results5, go_sem]) rfl ⟨false, ⟨(fun h => by cases h), fun h => HBS.out.2 h.2.1.str⟩, LisR.no _ hb2⟩
    · go_wp2_with fail
      refine (C3.out w2 hb2).mono ?_
      rintro e w3 ⟨av, cv, U, rfl, hrd, hou, hU, hb3⟩
      have HB3 := Lib.hid (ball hb2 hb3)
      have HOU := Lib.hid hou
      have HSTR := Lib.hid (HBS.out.1 (by first | rfl | trivial))
      rw [show meB m (mnC m (allC n m n)) = lmF n m from rfl, show mnC m (allC n m n) = lmB n m from rfl]
      have HF1 := Lib.hid (fun (h : lmB n m ≠ []) (hd : (lmF n m).d = 1) => ev_facts HNUM.out h hd)
      have HF2 := Lib.hid (fun (h : lmB n m ≠ []) (hd : (lmF n m).d = 1) => okF_t.2 (ev_ok hn.2 HNUM.out h hd))
      have HF3 := Lib.hid (fun (h : lmB n m ≠ []) (hd : (lmF n m).d = 1) => ev_val hn.2 HNUM.out h hd)
      have HF4 := Lib.hid (fun (h : lmB n m ≠ []) => lmQ_spec h)
      have HEV := Lib.hid (fun (h : EvP n m) => (⟨h.ne, h.den⟩ : lmB n m ≠ [] ∧ (lmF n m).d = 1))
      have HEV2 := Lib.hid (fun (h1 : lmB n m ≠ []) (h2 : (lmF n m).d = 1) => (⟨HSTR.out, h1, h2⟩ : EvP n m))
      have C4 := Lib.hid (fun u (hb : Below w.heap.size w u) x hx => shorter_c n ad cap m x u (HR.out.below hb) hn HNUM.out hx)
      have C5 := Lib.hid (fun u av cv x (h : RdM u av (toM n (shF m x))) hx => wayCostsB_c n (shF m x) av cv u h hn (shF_bd HNUM.out hx))
      have C6 := Lib.hid (fun u (hb : Below w3.heap.size w3 u) => markedOf_c n U (lmK n m) u (HOU.out.belowAll hb) hn.2)
      clear hrd hou hb3 C3 HBS HSTR HOU HNUM HR
      generalize (lmB n m).length = N
      generalize lmQ n m = q at HF3 HF4
      generalize lmK n m = mk at HF4 C6
      obtain ⟨nb, hnb⟩ : ∃ nb, decide (lmB n m ≠ []) = nb := ⟨_, rfl⟩
      rw [hnb]
      have HNB := Lib.hid hnb
      generalize lmB n m = Bl at *
      generalize lmF n m = F at *
      obtain ⟨a, b⟩ := F
      unfold frV
      simp only at *
      have oQ : FrO (w3.alloc (.cells #[.int .i64 a, .int .i64 b] 30)) w3.heap.size ⟨a, b⟩ := FrO.new w3 a b rfl
      have hb4 : Below w.heap.size w (w3.alloc (.cells #[.int .i64 a, .int .i64 b] 30)) := bal_alloc HB3.out
      have hb34 : Below w3.heap.size w3 (w3.alloc (.cells #[.int .i64 a, .int .i64 b] 30)) := bal_alloc (Below.refl _ _)
      obtain ⟨x0, x1⟩ := oQ.at
      clear hnb hb2
      cases nb
      · have hne := of_decide_eq_false HNB.out
        go_wp2_with fail
        exact bodyPost_ret (v := .tuple #[.slice none 0 0, .bool false]) (by simp [results, Tryz.results5, go_sem]) rfl ⟨false, ⟨(fun h => by cases h), fun h => absurd (HEV.out h.2.1).1 hne⟩, LisR.no _ hb4⟩
      · have hne := of_decide_eq_true HNB.out
        by_cases hd : b = 1
        case neg =>
          have g1 : (b != 1) = true := bne_iff_ne.2 hd
          have HD := Lib.hid hd
          clear hd hne
          go_wp2_with fail
          exact bodyPost_ret (v := .tuple #[.slice none 0 0, .bool false]) (by simp [results, Tryz.results5, go_sem]) rfl ⟨false, ⟨(fun h => by cases h), fun h => absurd (HEV.out h.2.1).2 HD.out⟩, LisR.no _ hb4⟩
        case pos =>
          subst hd
          obtain ⟨hx, -, -⟩ := HF1.out hne rfl
          have HOK := Lib.hid (HF2.out hne rfl)
          have HVAL := Lib.hid (HF3.out hne rfl)
          have HQ := Lib.hid (HF4.out hne)
          have HE2 := Lib.hid (HEV2.out hne rfl)
          have C4' := Lib.hid (C4.out _ hb4 a hx)
          have C5' := Lib.hid (fun u av cv h => C5.out u av cv a h hx)
          clear HF1 HF2 HF3 HF4 HEV HEV2 hne HNB hx C4 C5
          go_wp2_with fail
          refine C4'.out.mono ?_
          rintro e w5 ⟨a5, c5, vs, rfl, hmat, hb5⟩
          have HM5 := Lib.hid hmat
          have hb35 := ball hb34 hb5
          have hb5 := ball hb4 hb5
          clear hmat x0 x1 oQ
          go_wp2_with fail
          refine (C5'.out _ _ _ HM5.out.rd).mono ?_
          rintro e w6 ⟨h1, -, hb6⟩
          obtain ⟨ac, cc, rfl, vs6, hmat6⟩ := h1 HOK.out
          have C7 := Lib.hid (transposed_c n ac cc _ w6 hmat6.rd hn)
          have hb36 := ball hb35 hb6
          have hb6 := ball hb5 hb6
          clear h1 hmat6 HM5
          go_wp2_with fail
          refine C7.out.mono ?_
          rintro e w7 ⟨gt, rfl, ⟨vs7, htr⟩, hb7⟩
          have HTR := Lib.hid htr
          have hb37 := ball hb36 hb7
          have hb7 := ball hb6 hb7
          clear htr C7
          go_wp2_with fail
          refine (C6.out w7 hb37).mono ?_
          rintro e w8 ⟨am, cm, rfl, hrow, hb8⟩
          obtain ⟨hq1, hq2, hq3, -⟩ := HQ.out
          obtain ⟨bm, om, rfl, hbm, km⟩ := hrow.rdT 0 hq2
          rw [hq3, Nat.add_zero] at km
          obtain ⟨ar, cr, kr, hrd⟩ := (HTR.out.below hb8).rowT hq1
          rw [tab_length] at kr
          have hrd := hrd
          rw [HVAL.out] at hrd
          have C8 := Lib.hid (fun u (hb : Below w8.heap.size w8 u) => toldList_c ar cr (tab n (eiV n m)) u (hrd.below hb) (by rw [tab_length]; omega))
          have HRD := Lib.hid hrd
          rw [tab_length] at C8
          generalize hV : (tab n (eiV n m)).all numB = V at C8
          have HVV := Lib.hid hV
          have hb8 := ball hb7 hb8
          generalize (mkL mk n).length = NM at hq2
          have z1 : (0 : Int) ≤ (q : Int) := by omega
          have z2 : (q : Int) < (n : Int) := by omega
          have z3 : (0 : Int) < (NM : Int) := by omega
          clear hrow hrd hV HQ HTR HVAL HOK hb37 hb36 hb35 hb34 hb4
          go_wp2_with fail
          refine (C8.out _ (Below.refl _ _)).mono ?_
          rintro e w9 ⟨rfl, rfl⟩
          cases V
          · go_wp2_with fail
            exact bodyPost_ret (v := .tuple #[.slice none 0 0, .bool false]) (by simp [results, Tryz.results5, go_sem]) rfl ⟨false, ⟨(fun h => by cases h), fun h => (by rw [HVV.out] at h; cases h.2.2)⟩, LisR.no _ hb8⟩
          · go_wp2_with fail
            exact bodyPost_ret (v := .tuple #[.slice ar n cr, .bool true]) (by simp [results, Tryz.results5, go_sem]) rfl ⟨true, ⟨fun _ => ⟨(by first | rfl | trivial), HE2.out, HVV.out⟩, fun _ => rfl⟩, LisR.yes HRD.out (tab_length _ _) hb8⟩
end Go.Proofs.YtjkfighooijblaaGreat

/-
  Potentials for means: the program's. By an AI agent.
-/
namespace Go.Proofs.YtjkfighooijblaaGreat
open Go.RowKit

def poV (n : Nat) (m : Nat → Nat → Int) (x : Int) (j : Nat) : Int := mnF 1000000000 (fun k => bf n (shF m x) n j k) n
/-- no circuit has a less mean. -/
def cirP (n : Nat) (m : Nat → Nat → Int) (x : Int) : Prop := ∀ l, Cir n m l → x * (l.length : Int) ≤ sumC m l
theorem po_ok {n : Nat} {m : Nat → Nat → Int} {x : Int} (hn6 : n ≤ 6) (hm : ∀ a b, a < n → b < n → numB (m a b) = true) (hx : -1000000 ≤ x ∧ x ≤ 1000000) : okF n (fwK n (fw0 (shF m x)) n) = true ↔ cirP n m x := by
  rw [okF_t, ways_ok2 (shF_bd hm hx) hn6]
  unfold cirP
  rw [← closed_iff hm hx]
  exact ⟨fun h _ _ _ hw => fix_closed2 (shF_bd hm hx) hn6 h hw, fun h _ _ hi hk => closed_fix2 (shF_bd hm hx) hn6 h hi hk⟩
theorem po_val {n : Nat} {m : Nat → Nat → Int} {x : Int} (hn6 : n ≤ 6) (hm : ∀ a b, a < n → b < n → numB (m a b) = true) (hx : -1000000 ≤ x ∧ x ≤ 1000000) (hok : okF n (fwK n (fw0 (shF m x)) n) = true) {j : Nat} (hj : j < n) : mnF 1000000000 (fun k => (tab n (fwK n (fw0 (shF m x)) n j)).getD k 0) n = poV n m x j := by
  unfold poV
  refine mnF_congr rfl fun k hk => ?_
  rw [tab_getD hk]
  exact ways_eq2 (shF_bd hm hx) hn6 (okF_t.1 hok) hj hk

set_option maxHeartbeats 6400000 in
set_option maxRecDepth 100000 in
theorem iPotential_c (ad : Option Addr) (cap : Nat) (M : List (List Int)) (x : Int) (w : World) (hr : RdM w ad M) (hl : smM M) :
    Calls Tryz.prog 12 #[.slice ad M.length cap, .int .i64 x] w fun e w' => ∃ B, (B = true ↔ (sqB M = true ∧ inB x (-1000000) 1000000 = true) ∧ cirP M.length (entM M) x ∧ (tab M.length (poV M.length (entM M) x)).all numB = true) ∧ LisR B (tab M.length (poV M.length (entM M) x)) w e w' := by
  have C1 := Lib.hid (isSquare_c ad cap M w hr (by have := hl.1; omega) (fun i hi => by have := hl.2 i hi; omega))
  have C2 := Lib.hid (fun w => isFinite_c x w)
  by_cases hs : sqB M = true
  case neg =>
    have hs := Bool.eq_false_iff.2 hs
    rw [hs] at C1 ⊢
    clear hs hr hl C2
    generalize M.length = n at C1 ⊢
    go_enter Tryz.func12, Tryz.ntmps12
    go_wp2_with fail
    refine C1.out.mono ?_
    rintro e w1 ⟨rfl, hb1⟩
    go_wp2_with fail
    exact bodyPost_ret (v := .tuple #[.slice none 0 0, .bool false]) (by simp [results, Tryz.results12, go_sem]) rfl ⟨false, ⟨(fun h => by cases h), (fun h => by simp at h)⟩, LisR.no _ hb1⟩
  case pos =>
    obtain ⟨hn, _, hnum⟩ := sq_facts hs
    have hnum : ∀ a b, a < M.length → b < M.length → numB (entM M a b) = true := hnum
    rw [hs] at C1 ⊢
    have h3 := hr
    rw [← sq_toM hs] at h3
    generalize entM M = m at h3 hnum ⊢
    generalize M.length = n at C1 h3 hn hnum ⊢
    have HR := Lib.hid h3; have HNUM := Lib.hid hnum
    by_cases hx : inB x (-1000000) 1000000 = true
    case neg =>
      have hx := Bool.eq_false_iff.2 hx
      rw [hx] at C2 ⊢
      clear hx hr hl hs h3 hnum HR HNUM
      go_enter Tryz.func12, Tryz.ntmps12
      go_wp2_with fail
      refine C1.out.mono ?_
      rintro e w1 ⟨rfl, hb1⟩
      go_wp2_with fail
      refine (C2.out _).mono ?_
      rintro e w2 ⟨rfl, rfl⟩
      go_wp2_with fail
      exact bodyPost_ret (v := .tuple #[.slice none 0 0, .bool false]) (by simp [results, Tryz.results12, go_sem]) rfl ⟨false, ⟨(fun h => by cases h), (fun h => by simp at h)⟩, LisR.no _ hb1⟩
    case pos =>
      have hxb := inB_t.1 hx
      rw [hx] at C2 ⊢
      have C4 := Lib.hid (fun u (hb : Below w.heap.size w u) => shorter_c n ad cap m x u (HR.out.below hb) hn HNUM.out hxb)
      have C5 := Lib.hid (fun u av cv (h : RdM u av (toM n (shF m x))) => wayCostsB_c n (shF m x) av cv u h hn (shF_bd HNUM.out hxb))
      have HPO := Lib.hid (po_ok (n := n) hn.2 HNUM.out hxb)
      have HPV := Lib.hid (fun h j (hj : j < n) => po_val (n := n) hn.2 HNUM.out hxb h hj)
      clear hx hr hl hs h3 hnum HR HNUM hxb
      generalize fwK n (fw0 (shF m x)) n = D at C5 HPO HPV
      go_enter Tryz.func12, Tryz.ntmps12
      go_wp2_with fail
      refine C1.out.mono ?_
      rintro e w1 ⟨rfl, hb1⟩
      go_wp2_with fail
      refine (C2.out _).mono ?_
      rintro e w2 ⟨rfl, rfl⟩
      go_wp2_with fail
      refine (C4.out w1 hb1).mono ?_
      rintro e w5 ⟨a5, c5, vs, rfl, hmat, hb5⟩
      have HM5 := Lib.hid hmat
      have hb5 := ball hb1 hb5
      clear hmat hb1
      go_wp2_with fail
      refine (C5.out _ _ _ HM5.out.rd).mono ?_
      rintro e w6 ⟨h1, h2, hb6⟩
      have hb6 := ball hb5 hb6
      clear C1 C2 C4 C5 HM5
      obtain ⟨ok, hok⟩ : ∃ ok, okF n D = ok := ⟨_, rfl⟩
      rw [hok] at h1 h2 HPO HPV
      cases ok
      · obtain rfl := h2 rfl
        clear h1
        go_wp2_with fail
        exact bodyPost_ret (v := .tuple #[.slice none 0 0, .bool false]) (by simp [results, Tryz.results12, go_sem]) rfl ⟨false, ⟨(fun h => by cases h), fun h => HPO.out.2 h.2.1⟩, LisR.no _ hb6⟩
      · obtain ⟨ac, cc, rfl, vs6, hmat6⟩ := h1 rfl
        have HM6 := Lib.hid hmat6.rd
        have HPV2 := Lib.hid (HPV.out rfl)
        have HCIR := Lib.hid (HPO.out.1 rfl)
        have HO0 := Lib.hid (rowI_new w6 w6.heap.size w6.heap.size (Nat.le_refl _) rfl)
        have HB6 := Lib.hid hb6
        have hb67 : Below w6.heap.size w6 (w6.alloc (.cells #[] 3)) := bal_alloc (Below.refl _ _)
        clear h1 h2 hmat6 HPV HPO hok hb5
        go_wp2_with fail
        go_loopw [8, 31] (fun v i wr => ∃ k : Nat, k ≤ n ∧ i = .int .i64 k ∧ RowI wr w6.heap.size v (tab k (poV n m x)) ∧ Below w6.heap.size w6 wr) (fun _ i _ => n - (intOf i).toNat)
        case atStart => exact ⟨0, Nat.zero_le _, rfl, HO0.out, hb67⟩
        case round =>
          obtain ⟨wE, rfl⟩ : ∃ x : World, x = wr := ⟨_, rfl⟩
          obtain ⟨k, hk, rfl, hrow, hbel6⟩ := hrel
          obtain ⟨adr, car, rfl⟩ := row_shp hrow
          rw [tab_length] at hrow ⊢
          have HO := Lib.hid hrow
          have hbel := ball HB6.out hbel6
          have hsz := hbel6.size
          by_cases hlt : k < n
          case neg =>
            obtain rfl : k = n := by omega
            have C8 := Lib.hid (toldList_c adr car (tab k (poV k m x)) wE hrow.rdT (by rw [tab_length]; omega))
            rw [tab_length] at C8
            generalize hV : (tab k (poV k m x)).all numB = V at C8
            have HVV := Lib.hid hV
            clear hV hrow
            go_wp2_with fail
            refine C8.out.mono ?_
            rintro e w9 ⟨rfl, rfl⟩
            cases V
            · go_wp2_with fail
              exact bodyPost_ret (v := .tuple #[.slice none 0 0, .bool false]) (by simp [results, Tryz.results12, go_sem]) rfl ⟨false, ⟨(fun h => by cases h), fun h => (by rw [HVV.out] at h; cases h.2.2)⟩, LisR.no _ hbel⟩
            · go_wp2_with fail
              exact bodyPost_ret (v := .tuple #[.slice adr k car, .bool true]) (by simp [results, Tryz.results12, go_sem]) rfl ⟨true, ⟨fun _ => ⟨(by simp), HCIR.out, HVV.out⟩, fun _ => rfl⟩, LisR.yes HO.out.rdT (tab_length _ _) hbel⟩
          case pos =>
            obtain ⟨bM, oM, a1, c1, rfl, hbM, k1, r1⟩ := HM6.out k (by rw [toM_len]; exact hlt)
            rw [toM_row _ hlt, tab_length] at k1
            rw [toM_row _ hlt] at r1
            have k1 := bcell hbel6 hbM k1
            have CD := sumOf_c a1 c1 (tab n (D k)) wE (r1.below hbel6) (by rw [tab_length]; omega)
            rw [tab_length, HPV2.out k hlt] at CD
            have CDH := Lib.hid CD
            have HSN := Lib.hid (tab_succ k (poV n m x))
            have hlk := tab_length k (poV n m x)
            generalize tab k (poV n m x) = R at HO HSN hlk
            generalize poV n m x k = V at CDH HSN
            have HLK := Lib.hid hlk
            have x1 : (0 : Int) ≤ (k : Int) := by omega
            have x2 : (k : Int) < (n : Int) := by omega
            clear r1 hlk CD hrow
            go_wp2_with fail
            refine CDH.out.mono ?_
            rintro e w8 ⟨rfl, rfl⟩
            go_wp2_with (at_builtin; refine wpList_appN rfl _ _ rfl w6.heap.size _ 0 1 _ R [V] (k + 1) (by rw [HLK.out]; rfl) rfl rfl (RowI.alloc' HO.out) (rdI_one _ _ _ rfl) (by have := HLK.out; omega) (by simp) (by simp; omega) ?_; intro v5 wm hown hsh hbm hgr)
            have hb56 := (bal_alloc (o := .cells #[.int .i64 V] 3) hbel6).trans hbm
            rw [← HSN.out] at hown
            have HO5 := Lib.hid hown; clear hown hsh hgr hbm
            go_wp2_with fail
            go_roundw
            case rel => exact ⟨k + 1, by omega, by go_num, HO5.out, hb56⟩
            case measure => simp [intOf]; omega
end Go.Proofs.YtjkfighooijblaaGreat

/-
  Whether vectors prove means, and are eigenvectors: the program's. By an AI agent.
-/
namespace Go.Proofs.YtjkfighooijblaaGreat
open Go.RowKit

/-- a square matrix, a finite value, and a vector for it. -/
def quB (M : List (List Int)) (x : Int) (p : List Int) : Bool := sqB M && (inB x (-1000000) 1000000 && (decide (p.length = M.length) && p.all finB))
theorem qu_facts {M : List (List Int)} {x : Int} {p : List Int} (h : quB M x p = true) : sqB M = true ∧ (-1000000 ≤ x ∧ x ≤ 1000000) ∧ p.length = M.length ∧ ∀ j, j < p.length → -1000000 ≤ p.getD j 0 ∧ p.getD j 0 ≤ 1000000 := by
  unfold quB at h
  simp only [Bool.and_eq_true, decide_eq_true_eq] at h
  obtain ⟨h1, h2, h3, h4⟩ := h
  refine ⟨h1, inB_t.1 h2, h3, fun j hj => inB_t.1 (List.all_eq_true.1 h4 _ (getD_memI hj))⟩
set_option maxHeartbeats 1600000 in
theorem isQuestion_c (ad : Option Addr) (cap : Nat) (M : List (List Int)) (x : Int) (adp : Option Addr) (capp : Nat) (p : List Int) (w : World) (hr : RdM w ad M) (hl : smM M) (hp : RdI w adp p) (hlp : p.length ≤ 1048576) :
    Calls Tryz.prog 35 #[.slice ad M.length cap, .int .i64 x, .slice adp p.length capp] w fun e w' => e = .returned (.bool (quB M x p)) ∧ Below w.heap.size w w' := by
  have C1 := Lib.hid (isSquare_c ad cap M w hr (by have := hl.1; omega) (fun i hi => by have := hl.2 i hi; omega))
  have C2 := Lib.hid (fun w => isFinite_c x w)
  have C3 := Lib.hid (fun u (hb : Below w.heap.size w u) => areOne_c ad cap M.length adp capp p u (hp.below hb) hlp)
  unfold quB
  clear hr hl hp hlp
  generalize (decide (p.length = M.length) && p.all finB) = C at C3 ⊢
  generalize sqB M = A at C1 ⊢
  generalize inB x (-1000000) 1000000 = B at C2 ⊢
  generalize M.length = n at C1 C3 ⊢
  generalize p.length = k at C3 ⊢
  cases A
  · go_enter Tryz.func35, Tryz.ntmps35
    go_wp2_with fail
    refine C1.out.mono ?_
    rintro e w1 ⟨rfl, hb1⟩
    go_wp2_with fail
    go_ret
    exact ⟨rfl, hb1⟩
  · cases B
    · go_enter Tryz.func35, Tryz.ntmps35
      go_wp2_with fail
      refine C1.out.mono ?_
      rintro e w1 ⟨rfl, hb1⟩
      go_wp2_with fail
      refine (C2.out _).mono ?_
      rintro e w2 ⟨rfl, rfl⟩
      go_wp2_with fail
      go_ret
      exact ⟨rfl, hb1⟩
    · go_enter Tryz.func35, Tryz.ntmps35
      go_wp2_with fail
      refine C1.out.mono ?_
      rintro e w1 ⟨rfl, hb1⟩
      go_wp2_with fail
      refine (C2.out _).mono ?_
      rintro e w2 ⟨rfl, rfl⟩
      go_wp2_with fail
      refine (C3.out _ hb1).mono ?_
      rintro e w3 ⟨rfl, rfl⟩
      go_wp2_with fail
      go_ret
      exact ⟨by simp, hb1⟩

def vOf (p : List Int) (j : Nat) : Int := p.getD j 0
set_option maxHeartbeats 6400000 in
set_option maxRecDepth 100000 in
theorem iProves_c (ad : Option Addr) (cap : Nat) (M : List (List Int)) (x : Int) (adp : Option Addr) (capp : Nat) (p : List Int) (w : World) (hr : RdM w ad M) (hl : smM M) (hp : RdI w adp p) (hlp : p.length ≤ 1048576) :
    Calls Tryz.prog 10 #[.slice ad M.length cap, .int .i64 x, .slice adp p.length capp] w fun e w' => ∃ B, e = .returned (.tuple #[.bool B, .bool (quB M x p)]) ∧ (B = true ↔ quB M x p = true ∧ prvP M.length (entM M) x (vOf p)) ∧ Below w.heap.size w w' := by
  have C1 := Lib.hid (isQuestion_c ad cap M x adp capp p w hr hl hp hlp)
  by_cases hq : quB M x p = true
  case neg =>
    have hq := Bool.eq_false_iff.2 hq
    rw [hq] at C1 ⊢
    clear hq hr hl hp hlp
    generalize M.length = n at C1 ⊢
    generalize p.length = k at C1 ⊢
    go_enter Tryz.func10, Tryz.ntmps10
    go_wp2_with fail
    refine C1.out.mono ?_
    rintro e w1 ⟨rfl, hb1⟩
    go_wp2_with fail
    exact bodyPost_ret (v := .tuple #[.bool false, .bool false]) (by simp [results, Tryz.results10, go_sem]) rfl ⟨false, rfl, by simp, hb1⟩
  case pos =>
    obtain ⟨hs, hxb, hpl, hpb⟩ := qu_facts hq
    obtain ⟨hn, _, hnum⟩ := sq_facts hs
    have hnum : ∀ a b, a < M.length → b < M.length → numB (entM M a b) = true := hnum
    rw [hq] at C1 ⊢
    have h3 := hr
    rw [← sq_toM hs] at h3
    rw [hpl] at C1 hpb ⊢
    generalize entM M = m at h3 hnum ⊢
    generalize M.length = n at C1 h3 hn hnum hpl hpb ⊢
    have HR := Lib.hid h3; have HNUM := Lib.hid hnum
    have HP := Lib.hid hp
    have HPB := Lib.hid (show ∀ j, j < n → -1000000 ≤ vOf p j ∧ vOf p j ≤ 1000000 from hpb)
    have HPL := Lib.hid hpl
    clear hr hl hs hq h3 hnum hp hlp hpl hpb
    go_enter Tryz.func10, Tryz.ntmps10
    go_wp2_with fail
    refine C1.out.mono ?_
    rintro e w1 ⟨rfl, hb1⟩
    have HR1 := Lib.hid (HR.out.below hb1); have HP1 := Lib.hid (HP.out.below hb1)
    clear HR HP C1
    go_wp2_with fail
    go_loopw [19] (fun i wr => ∃ k : Nat, k ≤ n ∧ i = .int .i64 k ∧ (∀ a c, a < k → c < n → m a c ≠ 1000000000 → x + vOf p a ≤ m a c + vOf p c) ∧ Below w1.heap.size w1 wr) (fun i _ => n - (intOf i).toNat)
    case atStart => exact ⟨0, Nat.zero_le _, rfl, fun a c ha => by omega, Below.refl _ _⟩
    case round =>
      obtain ⟨wE, rfl⟩ : ∃ x : World, x = wr := ⟨_, rfl⟩
      obtain ⟨i, hi, rfl, hall, hbel⟩ := hrel
      have HALL := Lib.hid hall; clear hall
      by_cases hlt : i < n
      case neg =>
        obtain rfl : i = n := by omega
        go_wp2_with fail
        exact bodyPost_ret (v := .tuple #[.bool true, .bool true]) (by simp [results, Tryz.results10, go_sem]) rfl ⟨true, rfl, ⟨fun _ => ⟨(by first | rfl | trivial), HALL.out⟩, fun _ => rfl⟩, ball hb1 hbel⟩
      case pos =>
        obtain ⟨bM, oM, rfl, hbM, hrow⟩ := HR1.out.rowF (by omega)
        obtain ⟨b2, o2, c2, e2, hl2, hc2⟩ := hrow i hlt
        have e2 := bcell hbel hbM e2
        have HC2 := Lib.hid hc2
        obtain ⟨bp, op, rfl, hbp, qi⟩ := HP1.out i (by rw [HPL.out]; exact hlt)
        clear hrow hc2
        go_wp2_with fail
        go_loopw [26] (fun i' wr => ∃ k : Nat, k ≤ n ∧ i' = .int .i64 k ∧ (∀ c, c < k → m i c ≠ 1000000000 → x + vOf p i ≤ m i c + vOf p c) ∧ Below w1.heap.size w1 wr) (fun i _ => n - (intOf i).toNat)
        case atStart => exact ⟨0, Nat.zero_le _, rfl, fun c hc => by omega, hbel⟩
        case round =>
          obtain ⟨wK, rfl⟩ : ∃ x : World, x = wr := ⟨_, rfl⟩
          obtain ⟨k, hk, rfl, hall2, hbelK⟩ := hrel
          have HALL2 := Lib.hid hall2; clear hall2
          by_cases hlk : k < n
          case neg =>
            obtain rfl : k = n := by omega
            go_wp2_with fail
            go_roundw
            case rel =>
              refine ⟨i + 1, by omega, by go_num, fun a c ha hc hne => ?_, hbelK⟩
              by_cases e : a = i
              · subst e; exact HALL2.out c hc hne
              · exact HALL.out a c (by omega) hc hne
            case measure => simp [intOf]; omega
          case pos =>
            have q1 := bcell hbelK hl2 (HC2.out k hlk)
            have q2 : wK.cell? ⟨bp, op + i, none⟩ = some (.int .i64 (vOf p i)) := bcell hbelK hbp qi
            obtain ⟨_, _, e5, _, qk⟩ := HP1.out k (by rw [HPL.out]; exact hlk)
            injection e5 with e5
            injection e5 with e5 e6 _
            subst e5; subst e6
            have q3 : wK.cell? ⟨bp, op + k, none⟩ = some (.int .i64 (vOf p k)) := bcell hbelK hbp qk
            have b1 := HPB.out i hlt
            have b2' := HPB.out k hlk
            have b3 := numB_t (HNUM.out i k hlt hlk)
            have x1 : (0 : Int) ≤ (k : Int) := by omega
            have x2 : (k : Int) < (n : Int) := by omega
            have x3 : (0 : Int) ≤ (i : Int) := by omega
            have x4 : (i : Int) < (n : Int) := by omega
            clear qi qk
            have HNX := Lib.hid (fun (h : m i k ≠ 1000000000 → x + vOf p i ≤ m i k + vOf p k) => show ∀ c, c < k + 1 → m i c ≠ 1000000000 → x + vOf p i ≤ m i c + vOf p c from fun c hc hne => by
              by_cases e : c = k
              · subst e; exact h hne
              · exact HALL2.out c (by omega) hne)
            have HNO := Lib.hid (fun (hC : m i k ≠ 1000000000) (hD : m i k + vOf p k < x + vOf p i) => show ¬ prvP n m x (vOf p) from fun h => by
              have := h i k hlt hlk hC
              omega)
            clear HALL2
            generalize m i k = C at q1 b3 HNX HNO
            generalize vOf p i = A at q2 b1 HNX HNO
            generalize vOf p k = B at q3 b2' HNX HNO
            by_cases hC : C = 1000000000
            · have HNX2 := Lib.hid (HNX.out (fun h => absurd hC h))
              subst hC
              clear b3 HNX HNO
              go_wp2_with fail
              go_quiet (fail)
              go_wp2_with fail
              go_roundw
              case rel => exact ⟨k + 1, by omega, by go_num, HNX2.out, bdrewN hbelK _⟩
              case measure => simp [intOf]; omega
            · have g1 : (C != 1000000000) = true := bne_iff_ne.2 hC
              have w1' : IntKind.i64.wrap (C + B) = C + B := i64_small (by omega) (by omega)
              have w2' : IntKind.i64.wrap (x + A) = x + A := i64_small (by omega) (by omega)
              by_cases hD : C + B < x + A
              · have HNO2 := Lib.hid (HNO.out hC hD)
                have g2 : decide (C + B < x + A) = true := decide_eq_true hD
                clear b3 HNX HALL b1 b2' HNO
                go_wp2_with fail
                go_quiet (fail)
                go_wp2_with fail
                exact bodyPost_ret (v := .tuple #[.bool false, .bool true]) (by simp [results, Tryz.results10, go_sem]) rfl ⟨false, rfl, ⟨(fun h => by cases h), fun h => absurd h.2 HNO2.out⟩, ball hb1 (bdrewN hbelK _)⟩
              · have HNX2 := Lib.hid (HNX.out (fun _ => by omega))
                have g2 : decide (C + B < x + A) = false := decide_eq_false hD
                clear b3 HNX b1 b2' HNO
                go_wp2_with fail
                go_quiet (fail)
                go_wp2_with fail
                go_roundw
                case rel => exact ⟨k + 1, by omega, by go_num, HNX2.out, bdrewN hbelK _⟩
                case measure => simp [intOf]; omega
end Go.Proofs.YtjkfighooijblaaGreat

/-
  Whether vectors are eigenvectors, and the least mean: the program's. By an AI agent.
-/
namespace Go.Proofs.YtjkfighooijblaaGreat
open Go.RowKit

/-- an eigenvector for a value. -/
def eigP (n : Nat) (m : Nat → Nat → Int) (x : Int) (v : Nat → Int) : Prop := ∀ i, i < n → mnF 1000000000 (fun k => prodZ (m i k) (v k)) n = x + v i
theorem eig_list {n : Nat} {m : Nat → Nat → Int} {x : Int} {p : List Int} (hl : p.length = n) (hx : -1000000 ≤ x ∧ x ≤ 1000000) (hp : ∀ j, j < p.length → -1000000 ≤ p.getD j 0 ∧ p.getD j 0 ≤ 1000000) : (tab n (fun i => mnF 1000000000 (fun k => prodZ (m i k) (vOf p k)) n)) = p.map (fun y => prodZ y x) ↔ eigP n m x (vOf p) := by
  have e : p.map (fun y => prodZ y x) = tab n fun i => x + vOf p i := by
    subst hl
    have h0 : p = tab p.length (vOf p) := (tab_self p 0).symm
    rw [show p.map (fun y => prodZ y x) = (tab p.length (vOf p)).map (fun y => prodZ y x) by rw [← h0]]
    unfold tab
    rw [List.map_map]
    refine List.map_congr_left fun i hi => ?_
    have := hp i (List.mem_range.1 hi)
    show prodZ (vOf p i) x = x + vOf p i
    unfold vOf
    rw [prodZ_fin (by omega) (by omega)]
    omega
  rw [e]
  constructor
  · intro h i hi
    have : (tab n (fun i => mnF 1000000000 (fun k => prodZ (m i k) (vOf p k)) n)).getD i 0 = (tab n fun i => x + vOf p i).getD i 0 := by rw [h]
    rw [tab_getD hi, tab_getD hi] at this
    exact this
  · intro h
    exact tab_congr h

set_option maxHeartbeats 3200000 in
set_option maxRecDepth 100000 in
theorem iIsEigen_c (ad : Option Addr) (cap : Nat) (M : List (List Int)) (x : Int) (adp : Option Addr) (capp : Nat) (p : List Int) (w : World) (hr : RdM w ad M) (hl : smM M) (hp : RdI w adp p) (hlp : p.length ≤ 1048576) :
    Calls Tryz.prog 9 #[.slice ad M.length cap, .int .i64 x, .slice adp p.length capp] w fun e w' => ∃ B, e = .returned (.tuple #[.bool B, .bool (quB M x p)]) ∧ (B = true ↔ quB M x p = true ∧ eigP M.length (entM M) x (vOf p)) ∧ Below w.heap.size w w' := by
  have C1 := Lib.hid (isQuestion_c ad cap M x adp capp p w hr hl hp hlp)
  by_cases hq : quB M x p = true
  case neg =>
    have hq := Bool.eq_false_iff.2 hq
    rw [hq] at C1 ⊢
    clear hq hr hl hp hlp
    generalize M.length = n at C1 ⊢
    generalize p.length = k at C1 ⊢
    go_enter Tryz.func9, Tryz.ntmps9
    go_wp2_with fail
    refine C1.out.mono ?_
    rintro e w1 ⟨rfl, hb1⟩
    go_wp2_with fail
    exact bodyPost_ret (v := .tuple #[.bool false, .bool false]) (by simp [results, Tryz.results9, go_sem]) rfl ⟨false, rfl, by simp, hb1⟩
  case pos =>
    obtain ⟨hs, hxb, hpl, hpb⟩ := qu_facts hq
    obtain ⟨hn, _, hnum⟩ := sq_facts hs
    have hnum : ∀ a b, a < M.length → b < M.length → numB (entM M a b) = true := hnum
    rw [hq] at C1 ⊢
    have h3 := hr
    rw [← sq_toM hs] at h3
    generalize entM M = m at h3 hnum ⊢
    generalize M.length = n at C1 h3 hn hnum hpl ⊢
    have HEQ := Lib.hid (eig_list (m := m) hpl hxb hpb)
    have CA := Lib.hid (fun u (hb : Below w.heap.size w u) => applied_c n ad cap m adp capp (vOf p) u (h3.below hb) (by
      have h0 : tab n (vOf p) = p := by rw [← hpl]; exact tab_self p 0
      rw [h0]
      exact hp.below hb) hn (fun i k hi hk => by
        have h1 := numB_t (hnum i k hi hk)
        have h2 := hpb k (by omega)
        unfold vOf
        omega))
    have CS := Lib.hid (fun u (hb : Below w.heap.size w u) => shifted_c adp capp p x u (hp.below hb) (by omega) (by omega) (by omega) (fun i hi => by have := hpb i hi; omega))
    have CE := Lib.hid (fun a1 c1 a2 c2 u (h1 : RdI u a1 (tab n fun i => mnF 1000000000 (fun k => prodZ (m i k) (vOf p k)) n)) (h2 : RdI u a2 (p.map fun y => prodZ y x)) => eqI_c a1 c1 _ a2 c2 _ u (by rw [tab_length]; omega) h1 h2)
    rw [tab_length, List.length_map] at CE
    rw [hpl] at C1 CS CE ⊢
    obtain ⟨B, hB⟩ : ∃ B, decide ((tab n fun i => mnF 1000000000 (fun k => prodZ (m i k) (vOf p k)) n) = p.map fun y => prodZ y x) = B := ⟨_, rfl⟩
    rw [hB] at CE
    have HBI := Lib.hid (show B = true ↔ eigP n m x (vOf p) by rw [← hB, decide_eq_true_iff]; exact HEQ.out)
    generalize (tab n fun i => mnF 1000000000 (fun k => prodZ (m i k) (vOf p k)) n) = LA at CA CE
    generalize (p.map fun y => prodZ y x) = LS at CS CE
    clear hr hl hs hq h3 hnum hp hlp hpl hpb HEQ hB hxb
    go_enter Tryz.func9, Tryz.ntmps9
    go_wp2_with fail
    refine C1.out.mono ?_
    rintro e w1 ⟨rfl, hb1⟩
    go_wp2_with fail
    refine (CA.out w1 hb1).mono ?_
    rintro e w2 ⟨a2, c2, rfl, hr2, hb2⟩
    have HR2 := Lib.hid hr2.rdT
    have hb2 := ball hb1 hb2
    clear hr2
    go_wp2_with fail
    refine (CS.out w2 hb2).mono ?_
    rintro e w3 ⟨g3, c3, rfl, hr3, hb3⟩
    have HR3 := Lib.hid hr3.rdT
    have HR4 := Lib.hid (HR2.out.below hb3)
    have hb3 := ball hb2 hb3
    clear hr3
    go_wp2_with fail
    refine (CE.out _ _ _ _ _ HR4.out HR3.out).mono ?_
    rintro e w4 ⟨rfl, hb4⟩
    have hb4 := ball hb3 hb4
    go_wp2_with fail
    exact bodyPost_ret (v := .tuple #[.bool B, .bool true]) (by simp [results, Tryz.results9, go_sem]) rfl ⟨B, rfl, ⟨fun h => ⟨(by first | rfl | trivial), HBI.out.1 h⟩, fun h => HBI.out.2 h.2⟩, hb4⟩

set_option maxHeartbeats 3200000 in
set_option maxRecDepth 100000 in
theorem iLeastMean_c (ad : Option Addr) (cap : Nat) (M : List (List Int)) (w : World) (hr : RdM w ad M) (hl : smM M) :
    Calls Tryz.prog 18 #[.slice ad M.length cap] w fun e w' => e = .returned (.tuple #[frV (if sqB M = true then lmF M.length (entM M) else ⟨0, 0⟩), .bool (sqB M && decide (lmB M.length (entM M) ≠ []))]) ∧ Below w.heap.size w w' := by
  have C1 := Lib.hid (isSquare_c ad cap M _ (hr.below (bal_alloc (o := .cells #[.int .i64 0, .int .i64 0] 30) (Below.refl _ _))) (by have := hl.1; omega) (fun i hi => by have := hl.2 i hi; omega))
  have o0 := FrO.new w 0 0 rfl
  have hb0 := bal_alloc (o := .cells #[.int .i64 0, .int .i64 0] 30) (Below.refl w.heap.size w)
  obtain ⟨h, hh⟩ : ∃ h, w.heap.size = h := ⟨_, rfl⟩
  by_cases hs : sqB M = true
  case neg =>
    have hs := Bool.eq_false_iff.2 hs
    rw [hs] at C1 ⊢
    rw [if_neg (by simp), Bool.false_and]
    clear hs hr hl
    generalize M.length = n at C1 ⊢
    unfold frV
    simp only
    rw [hh] at o0
    have hwh : w.heap.size ≤ h := by omega
    go_enter Tryz.func18, Tryz.ntmps18
    go_wp2_with fail
    refine C1.out.mono ?_
    rintro e w1 ⟨rfl, hb1⟩
    have o1 := o0.below hb1
    have hb1 := ball hb0 hb1
    obtain ⟨y0, y1⟩ := o1.at
    obtain ⟨f0, f1⟩ := o1.fr
    go_wp2_with fail
    obtain ⟨W, hW, ⟨q0, q1⟩, hB⟩ := fr2_end (a := 0) (b := 0) o1 hb1 hwh
    unfold fr2 at hW
    rw [hW]
    exact bodyPost_ret (v := .tuple #[.agg #[.int .i64 0, .int .i64 0], .bool false]) (by simp [results, Tryz.results18, go_sem, q0, q1]) rfl ⟨rfl, hB⟩
  case pos =>
    obtain ⟨hn, _, hnum⟩ := sq_facts hs
    have hnum : ∀ a b, a < M.length → b < M.length → numB (entM M a b) = true := hnum
    rw [hs] at C1 ⊢
    rw [if_pos rfl, Bool.true_and]
    have h3 := hr
    rw [← sq_toM hs] at h3
    generalize entM M = m at h3 hnum ⊢
    generalize M.length = n at C1 h3 hn hnum ⊢
    have C3 := Lib.hid (fun u (hb : Below w.heap.size w u) => leastMean_c n ad cap m u (h3.below hb) hn hnum)
    clear hr hl hs h3 hnum
    rw [show meB m (mnC m (allC n m n)) = lmF n m from rfl, show mnC m (allC n m n) = lmB n m from rfl] at C3
    obtain ⟨F, hF⟩ : ∃ F, lmF n m = F := ⟨_, rfl⟩
    rw [hF] at C3 ⊢
    obtain ⟨a, b⟩ := F
    unfold frV at *
    simp only at C3 ⊢
    obtain ⟨nb, hnb⟩ : ∃ nb, decide (lmB n m ≠ []) = nb := ⟨_, rfl⟩
    rw [hnb] at C3 ⊢
    clear hF hnb
    rw [hh] at o0
    have hwh : w.heap.size ≤ h := by omega
    go_enter Tryz.func18, Tryz.ntmps18
    go_wp2_with fail
    refine C1.out.mono ?_
    rintro e w1 ⟨rfl, hb1⟩
    have o1 := o0.below hb1
    have hb1 := ball hb0 hb1
    go_wp2_with fail
    refine (C3.out _ hb1).mono ?_
    rintro e w2 ⟨av, cv, U, rfl, -, -, -, hb2⟩
    have o2 := o1.below hb2
    have hb2 := ball hb1 hb2
    have hh2 : h < w2.heap.size := o2.lt
    have o3 : FrO (w2.alloc (.cells #[.int .i64 a, .int .i64 b] 30)) h ⟨0, 0⟩ := o2.alloc _
    have r3 : FrO (w2.alloc (.cells #[.int .i64 a, .int .i64 b] 30)) w2.heap.size ⟨a, b⟩ := FrO.new w2 a b rfl
    have hb3 := bal_alloc (o := .cells #[.int .i64 a, .int .i64 b] 30) hb2
    obtain ⟨y0, y1⟩ := o3.at
    obtain ⟨f0, f1⟩ := o3.fr
    obtain ⟨z0, z1⟩ := r3.at
    obtain ⟨y2, y3⟩ := o2.at
    obtain ⟨f2, f3⟩ := o2.fr
    clear C1 C3 o0 o1 hb0 hb1
    go_wp2_with fail
    obtain ⟨W, hW, ⟨q0, q1⟩, hB⟩ := fr2_end (a := a) (b := b) o2 hb2 hwh
    unfold fr2 at hW
    rw [hW]
    have q0' := cell_alloc' (o := .cells #[.int .i64 a, .int .i64 b] 30) q0
    have q1' := cell_alloc' (o := .cells #[.int .i64 a, .int .i64 b] 30) q1
    exact bodyPost_ret (v := .tuple #[.agg #[.int .i64 a, .int .i64 b], .bool nb]) (by simp [results, Tryz.results18, go_sem, q0', q1']) rfl ⟨rfl, bal_alloc hB⟩
end Go.Proofs.YtjkfighooijblaaGreat
