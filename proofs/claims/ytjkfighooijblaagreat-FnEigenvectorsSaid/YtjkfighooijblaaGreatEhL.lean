/-
  Some texts of this proof in one: EhL EhM EhN EhO. Each part tells what it proves. By an AI agent.
-/
import Derived.Test.YtjkfighooijblaaGreatEhJ
import Derived.Test.YtjkfighooijblaaGreatEgN
import Derived.StillTailTactics

/-
  The reference's first circuit with the least mean, and the least mean. By an AI agent.
-/
namespace Go.Proofs.YtjkfighooijblaaGreat
open Go.RowKit

theorem takeC_snoc {L : List (List Int)} {k : Nat} (h : k < L.length) : L.take (k + 1) = L.take k ++ [L.getD k []] := by
  rw [List.take_succ_eq_append_getElem h, List.getD_eq_getElem?_getD, List.getElem?_eq_getElem h, Option.getD_some]
theorem getD_memL {L : List (List Int)} {k : Nat} (h : k < L.length) : L.getD k [] ∈ L := by
  rw [List.getD_eq_getElem?_getD, List.getElem?_eq_getElem h, Option.getD_some]
  exact List.getElem_mem _
theorem mnC_snoc (m : Nat → Nat → Int) (L : List (List Int)) (c : List Int) : mnC m (L ++ [c]) = pkM m (mnC m L) c := by
  unfold mnC
  rw [List.foldl_append]
  rfl
theorem mnC_take {m : Nat → Nat → Int} {L : List (List Int)} (hL : ∀ x ∈ L, x ≠ []) (k : Nat) (h : mnC m (L.take k) ≠ []) : mnC m (L.take k) ∈ L := by
  rcases mnC_spec (m := m) (L := L.take k) (fun x hx => hL x (List.mem_of_mem_take hx)) with ⟨g, _⟩ | ⟨g, _⟩
  · exact absurd g h
  · exact List.mem_of_mem_take g

set_option maxHeartbeats 3200000 in
set_option maxRecDepth 100000 in
theorem mnLeast_c (n : Nat) (ad : Option Addr) (cap : Nat) (m : Nat → Nat → Int) (w : World) (hm : RdM w ad (toM n m)) (hn : 1 ≤ n ∧ n ≤ 6) (hnum : ∀ a b, a < n → b < n → numB (m a b) = true) :
    Calls Tryz.prog 30 #[.slice ad n cap] w fun e w' => ∃ av cv, e = .returned (.slice av (lmB n m).length cv) ∧ RdI w' av (lmB n m) ∧ Below w.heap.size w w' := by
  have C1 := Lib.hid (mnCircuits_c n ad cap m w hm hn)
  have HCR := Lib.hid (fun c (hc : c ∈ allC n m n) => allC_cr hc)
  have HNE := Lib.hid (fun c (hc : c ∈ allC n m n) => allC_ne c hc)
  have CM := Lib.hid (fun u (hb : Below w.heap.size w u) a c l (h : RdI u a l) (hp : Cr0 n m l) => mnMean_c n ad cap m a c l u (hm.below hb) h hn hp hnum)
  have HFB := Lib.hid (fun l (hp : Cr0 n m l) => meC_frB hnum hn.2 hp)
  rw [show lmB n m = mnC m (allC n m n) from rfl]
  have HLEN := Lib.hid (show (allC n m n).length ≤ 100000 from Nat.le_trans (allC_len hn.2 n hn.2) (by omega))
  clear hm hnum
  generalize allC n m n = L at C1 HCR HNE HLEN ⊢
  obtain ⟨N, hN⟩ : ∃ N, L.length = N := ⟨_, rfl⟩
  have HN := Lib.hid hN
  have hN9 : N ≤ 100000 := by have := HLEN.out; omega
  go_enter Tryz.func30, Tryz.ntmps30
  go_wp2_with fail
  refine C1.out.mono ?_
  rintro e w1 ⟨adL, cpL, rfl, ⟨vsL, hml⟩, hb1⟩
  have HRL := Lib.hid hml.rd
  rw [hN]
  clear hN hml C1
  go_wp2_with fail
  go_loopw [3, 9] (fun v i wr => ∃ (k : Nat) (av : Option Addr) (cv : Nat), k ≤ N ∧ i = .int .i64 k ∧ v = .slice av (mnC m (L.take k)).length cv ∧ RdI wr av (mnC m (L.take k)) ∧ Below w1.heap.size w1 wr) (fun _ i _ => N - (intOf i).toNat)
  case atStart => exact ⟨0, none, 0, Nat.zero_le _, rfl, rfl, RdI.nil _ _, Below.refl _ _⟩
  case round =>
    obtain ⟨wE, rfl⟩ : ∃ x : World, x = wr := ⟨_, rfl⟩
    obtain ⟨k, av, cv, hk, rfl, rfl, hrd, hbel⟩ := hrel
    have HRD := Lib.hid hrd
    by_cases hlt : k < N
    case neg =>
      obtain rfl : k = N := by omega
      rw [List.take_of_length_le (by rw [HN.out]; exact Nat.le_refl _)] at HRD ⊢
      clear hrd
      go_wp2_with fail
      go_ret
      exact ⟨av, cv, rfl, HRD.out, ball hb1 hbel⟩
    case pos =>
      obtain ⟨bL, oL, ax, cx, rfl, hbL, kx, rx⟩ := HRL.out k (by rw [HN.out]; exact hlt)
      have kx := bcell hbel hbL kx
      have HRX := Lib.hid (rx.below hbel)
      have HSN := Lib.hid (show mnC m (L.take (k + 1)) = pkM m (mnC m (L.take k)) (L.getD k []) by rw [takeC_snoc (by rw [HN.out]; exact hlt), mnC_snoc])
      have hmem := getD_memL (L := L) (k := k) (by rw [HN.out]; exact hlt)
      have hcx := HCR.out _ hmem
      have HB0 := Lib.hid (fun (h : mnC m (L.take k) ≠ []) => HCR.out _ (mnC_take HNE.out k h))
      generalize L.getD k [] = X at kx HRX HSN hcx
      generalize mnC m (L.take k) = B at HRD HSN HB0 ⊢
      obtain ⟨K, hK⟩ : ∃ K, B.length = K := ⟨_, rfl⟩
      obtain ⟨NX, hNX⟩ : ∃ NX, X.length = NX := ⟨_, rfl⟩
      have HK := Lib.hid hK; have HNX := Lib.hid hNX
      rw [hNX] at kx
      rw [hK]
      have CX := Lib.hid (fun u (hb : Below wE.heap.size wE u) => CM.out u ((ball hb1 hbel).trans (hb.mono (ball hb1 hbel).size)) ax cx X (HRX.out.below hb) hcx)
      rw [hNX] at CX
      have x1 : (0 : Int) ≤ (k : Int) := by omega
      have x2 : (k : Int) < (N : Int) := by omega
      clear hrd rx hmem
      by_cases hK0 : K = 0
      · have hnil : B = [] := List.eq_nil_of_length_eq_zero (by rw [hK]; exact hK0)
        have HT := Lib.hid (show mnC m (L.take (k + 1)) = X by rw [HSN.out]; unfold pkM; rw [if_pos (Or.inl hnil)])
        subst hK0
        clear hnil hK hNX CX HSN
        go_wp2_with fail
        go_roundw
        case rel => exact ⟨k + 1, ax, cx, by omega, by go_num, by rw [HT.out, HNX.out], by rw [HT.out]; exact HRX.out, hbel⟩
        case measure => simp [intOf]; omega
      · have g1 : ((K : Int) == 0) = false := beq_eq_false_iff_ne.2 (by omega)
        have hne : B ≠ [] := fun e => hK0 (by rw [← hK, e]; rfl)
        have hcb := HB0.out hne
        have CB := Lib.hid (fun u (hb : Below wE.heap.size wE u) => CM.out u ((ball hb1 hbel).trans (hb.mono (ball hb1 hbel).size)) av cv B (HRD.out.below hb) hcb)
        rw [hK] at CB
        have CC := Lib.hid (fun u => frCmp_c (meC m X) (meC m B) u (HFB.out _ hcx) (HFB.out _ hcb))
        have hlt2 := me_lt hcx hcb
        by_cases hZ : cmpF (meC m X) (meC m B) < 0
        · have HT := Lib.hid (show mnC m (L.take (k + 1)) = X by rw [HSN.out]; unfold pkM; rw [if_pos (Or.inr (hlt2.1 hZ))])
          have g2 : decide (cmpF (meC m X) (meC m B) < 0) = true := decide_eq_true hZ
          generalize cmpF (meC m X) (meC m B) = Z at CC g2
          generalize meC m X = FX at CX CC
          generalize meC m B = FB at CB CC
          obtain ⟨xa, xb⟩ := FX
          obtain ⟨ba, bb⟩ := FB
          unfold frV at *
          simp only at CX CB CC
          clear hK hNX HSN hZ hlt2 hne hcb hcx hK0
          go_wp2_with fail
          refine (CX.out _ (Below.refl _ _)).mono ?_
          rintro e w2 ⟨rfl, hb2⟩
          go_wp2_with fail
          refine (CB.out _ hb2).mono ?_
          rintro e w3 ⟨rfl, hb3⟩
          have hb3 := ball hb2 hb3
          go_wp2_with fail
          refine (CC.out _).mono ?_
          rintro e w4 ⟨rfl, hb4⟩
          have hb4 := ball hb3 hb4
          go_wp2_with fail
          go_roundw
          case rel => exact ⟨k + 1, ax, cx, by omega, by go_num, by rw [HT.out, HNX.out], by rw [HT.out]; exact HRX.out.below hb4, hbel.trans (hb4.mono hbel.size)⟩
          case measure => simp [intOf]; omega
        · have HT := Lib.hid (show mnC m (L.take (k + 1)) = B by
            rw [HSN.out]
            unfold pkM
            rw [if_neg (fun h => by
              rcases h with h | h
              · exact hne h
              · exact hZ (hlt2.2 h))])
          have g2 : decide (cmpF (meC m X) (meC m B) < 0) = false := decide_eq_false hZ
          generalize cmpF (meC m X) (meC m B) = Z at CC g2
          generalize meC m X = FX at CX CC
          generalize meC m B = FB at CB CC
          obtain ⟨xa, xb⟩ := FX
          obtain ⟨ba, bb⟩ := FB
          unfold frV at *
          simp only at CX CB CC
          clear hK hNX HSN hZ hlt2 hne hcb hcx hK0
          go_wp2_with fail
          refine (CX.out _ (Below.refl _ _)).mono ?_
          rintro e w2 ⟨rfl, hb2⟩
          go_wp2_with fail
          refine (CB.out _ hb2).mono ?_
          rintro e w3 ⟨rfl, hb3⟩
          have hb3 := ball hb2 hb3
          go_wp2_with fail
          refine (CC.out _).mono ?_
          rintro e w4 ⟨rfl, hb4⟩
          have hb4 := ball hb3 hb4
          go_wp2_with fail
          go_roundw
          case rel => exact ⟨k + 1, av, cv, by omega, by go_num, by rw [HT.out, HK.out], by rw [HT.out]; exact HRD.out.below hb4, hbel.trans (hb4.mono hbel.size)⟩
          case measure => simp [intOf]; omega

set_option maxHeartbeats 1600000 in
theorem l1PutZ_c (x : Int) (w : World) :
    Calls Tryz.prog 70 #[.slice none 0 0, .int .i64 x] w fun e w' => ∃ v, e = .returned v ∧ RdC w' v [x] ∧ Below w.heap.size w w' := by
  have HO := Lib.hid (rowI_new w w.heap.size w.heap.size (Nat.le_refl _) rfl)
  go_enter Tryz.func70, Tryz.ntmps70
  go_wp2_with fail
  go_loop [5] (fun i => i = .int .i64 0) (fun _ => 0)
  case atStart => rfl
  case round =>
    subst hrel
    go_wp2_with (at_builtin; first
      | (refine wpList_appNil rfl _ _ rfl (some ⟨w.heap.size, 0, none⟩) 0 0 0 rfl rfl (Nat.le_refl _) ?_)
      | (refine wpList_appN rfl _ _ rfl w.heap.size (w.heap.size + 1) 0 1 _ [] [x] 1 rfl rfl rfl (RowI.alloc' HO.out) (rdI_one _ _ _ (by simp)) (by simp) (by simp) (by simp; omega) ?_; intro v5 wm hown hsh hbm hgr; obtain ⟨g5, cap5, rfl, hg5⟩ := hsh (by omega); have HOW := Lib.hid hown; have HBM := Lib.hid (((Below.refl w.heap.size w).alloc (Nat.le_refl _) (.cells #[] 3)).alloc (by simp) (.cells #[.int .i64 x] 3) |>.trans hbm); clear hown hsh hgr)
      | (refine wpList_appNil rfl _ _ rfl (some ⟨g5, 0, none⟩) 1 cap5 0 rfl rfl (CellO.cap (CellO.of_row HOW.out)) ?_))
    go_ret
    exact ⟨_, rfl, ⟨g5, 0, cap5, rfl, CellO.cap (CellO.of_row HOW.out), HOW.out.rdT⟩, HBM.out⟩
end Go.Proofs.YtjkfighooijblaaGreat

/-
  The reference's least mean, and the nodes in circuits with it. By an AI agent.
-/
namespace Go.Proofs.YtjkfighooijblaaGreat
open Go.RowKit

set_option maxHeartbeats 3200000 in
set_option maxRecDepth 100000 in
theorem sLeastMean1_c (n : Nat) (ad : Option Addr) (cap : Nat) (m : Nat → Nat → Int) (w : World) (hm : RdM w ad (toM n m)) (hn : 1 ≤ n ∧ n ≤ 6) (hnum : ∀ a b, a < n → b < n → numB (m a b) = true) (hne : lmB n m ≠ []) (CQ : ∀ u, Below w.heap.size w u → Calls Tryz.prog 28 #[.slice ad n cap] u fun e w' => e = .returned (.bool true) ∧ Below u.heap.size u w') :
    Calls Tryz.prog 8 #[.slice ad n cap] w fun e w' => e = .returned (.tuple #[frV (lmF n m), .bool true]) ∧ Below w.heap.size w w' := by
  have hb0 := bal_alloc (o := .cells #[.int .i64 0, .int .i64 0] 30) (Below.refl w.heap.size w)
  have o0 := FrO.new w 0 0 rfl
  have C1 := Lib.hid (CQ _ hb0)
  have C2 := Lib.hid (fun u (hb : Below w.heap.size w u) => mnLeast_c n ad cap m u (hm.below hb) hn hnum)
  have C3 := Lib.hid (fun u (hb : Below w.heap.size w u) a c (h : RdI u a (lmB n m)) => mnMean_c n ad cap m a c (lmB n m) u (hm.below hb) h hn (allC_cr (mnC_mem hne)) hnum)
  rw [← lmF_ne hne] at C3
  have hpos := List.length_pos_iff.2 hne
  obtain ⟨F, hF⟩ : ∃ F, lmF n m = F := ⟨_, rfl⟩
  rw [hF] at C3 ⊢
  generalize lmB n m = B at C2 C3 hpos
  obtain ⟨N, hN⟩ : ∃ N, B.length = N := ⟨_, rfl⟩
  rw [hN] at C2 C3 hpos
  obtain ⟨a, b⟩ := F
  unfold frV at *
  simp only at C3 ⊢
  obtain ⟨h, hh⟩ : ∃ h, w.heap.size = h := ⟨_, rfl⟩
  rw [hh] at o0
  have hwh : w.heap.size ≤ h := by omega
  have g1 : ((N : Int) == 0) = false := beq_eq_false_iff_ne.2 (by omega)
  clear hm hnum hne CQ hN hF
  go_enter Tryz.func8, Tryz.ntmps8
  go_wp2_with fail
  refine C1.out.mono ?_
  rintro e w1 ⟨rfl, hb1⟩
  have o1 := o0.below hb1
  have hb1 := ball hb0 hb1
  clear o0 hb0 C1
  go_wp2_with fail
  refine (C2.out w1 hb1).mono ?_
  rintro e w2 ⟨av, cv, rfl, -, hb2⟩
  have o2 := o1.below hb2
  have hb2 := ball hb1 hb2
  clear o1 hb1
  go_wp2_with fail
  refine (C2.out w2 hb2).mono ?_
  rintro e w3 ⟨av2, cv2, rfl, hrd, hb3⟩
  have o3 := o2.below hb3
  have hb3 := ball hb2 hb3
  have HRD := Lib.hid hrd
  clear o2 hb2 hrd
  go_wp2_with fail
  refine (C3.out w3 hb3 _ _ HRD.out).mono ?_
  rintro e w4 ⟨rfl, hb4⟩
  have o4 := o3.below hb4
  have hb4 := ball hb3 hb4
  obtain ⟨y0, y1⟩ := o4.at
  obtain ⟨f0, f1⟩ := o4.fr
  clear o3 hb3
  go_wp2_with fail
  obtain ⟨W, hW, ⟨q0, q1⟩, hB⟩ := fr2_end (a := a) (b := b) o4 hb4 hwh
  unfold fr2 at hW
  rw [hW]
  exact bodyPost_ret (v := .tuple #[.agg #[.int .i64 a, .int .i64 b], .bool true]) (by simp [results, Tryz.results8, go_sem, q0, q1]) rfl ⟨rfl, hB⟩
theorem sLeastMean_c (ad : Option Addr) (cap : Nat) (M : List (List Int)) (w : World) (hr : RdM w ad M) (hl : smM M) (hs : sqB M = true) (hne : lmB M.length (entM M) ≠ []) :
    Calls Tryz.prog 8 #[.slice ad M.length cap] w fun e w' => e = .returned (.tuple #[frV (lmF M.length (entM M)), .bool true]) ∧ Below w.heap.size w w' := by
  obtain ⟨hn, _, hnum⟩ := sq_facts hs
  refine sLeastMean1_c M.length ad cap (entM M) w (by rw [sq_toM hs]; exact hr) hn hnum hne (fun u hb => ?_)
  have := mxSquare_c ad cap M u (hr.below hb) (by have := hl.1; omega) (fun i hi => by have := hl.2 i hi; omega)
  rw [hs] at this
  exact this.mono fun e w' h => ⟨h.1, by rw [← h.2]; exact Below.refl _ _⟩

/-! ### the nodes -/
theorem mkL_ris (mk : Nat → Bool) : ∀ n : Nat, Ris 0 (n : Int) (mkL mk n)
  | 0 => by simp [mkL, Ris]
  | n + 1 => by
    have ih := mkL_ris mk n
    unfold mkL
    split
    · exact ris_snoc ih (Int.le_refl _)
    · rw [List.append_nil]
      exact ris_up ih (by omega)
/-- A list in new memory, or none. -/
def RdZ (w : World) (v : Value) (xs : List Int) : Prop := (v = .slice none 0 0 ∧ xs = []) ∨ RdC w v xs
theorem RdZ.below {w w' : World} {v : Value} {xs : List Int} (h : RdZ w v xs) (hb : Below w.heap.size w w') : RdZ w' v xs := h.imp id (fun h => h.below hb)
theorem RdZ.shape {w : World} {v : Value} {xs : List Int} (h : RdZ w v xs) : ∃ ad cap, v = .slice ad xs.length cap ∧ RdI w ad xs := by
  rcases h with ⟨rfl, rfl⟩ | ⟨b, off, cap, rfl, _, h⟩
  · exact ⟨none, 0, rfl, RdI.nil _ _⟩
  · exact ⟨_, _, rfl, h⟩
theorem l1PutY_c (v : Value) (xs : List Int) (x : Int) (w : World) (h : RdZ w v xs) (hl : xs.length ≤ 1048576) :
    Calls Tryz.prog 70 #[v, .int .i64 x] w fun e w' => ∃ v, e = .returned v ∧ RdC w' v (putL xs x) ∧ Below w.heap.size w w' := by
  rcases h with ⟨rfl, rfl⟩ | ⟨b, off, cap, rfl, hc, hr⟩
  · exact l1PutZ_c x w
  · exact l1Put_any b off cap xs x w hl hc hr

set_option maxHeartbeats 6400000 in
set_option maxRecDepth 100000 in
theorem mnCritical_c (n : Nat) (ad : Option Addr) (cap : Nat) (m : Nat → Nat → Int) (w : World) (hm : RdM w ad (toM n m)) (hn : 1 ≤ n ∧ n ≤ 6) (hnum : ∀ a b, a < n → b < n → numB (m a b) = true) (hne : lmB n m ≠ []) :
    Calls Tryz.prog 32 #[.slice ad n cap] w fun e w' => ∃ v, e = .returned v ∧ RdZ w' v (mkL (lmK n m) n) ∧ Below w.heap.size w w' := by
  have C1 := Lib.hid (fun u (hb : Below w.heap.size w u) => mnCircuits_c n ad cap m u (hm.below hb) hn)
  have C0 := Lib.hid (mnLeast_c n ad cap m w hm hn hnum)
  have hcb := allC_cr (mnC_mem hne)
  have CB := Lib.hid (fun u (hb : Below w.heap.size w u) a c (h : RdI u a (lmB n m)) => mnMean_c n ad cap m a c (lmB n m) u (hm.below hb) h hn hcb hnum)
  have HCR := Lib.hid (fun c (hc : c ∈ allC n m n) => allC_cr hc)
  have CM := Lib.hid (fun u (hb : Below w.heap.size w u) a c l (h : RdI u a l) (hp : Cr0 n m l) => mnMean_c n ad cap m a c l u (hm.below hb) h hn hp hnum)
  have HEQ := Lib.hid (fun c (hp : Cr0 n m c) => me_eq hnum hn.2 hp hcb)
  have HLEN := Lib.hid (show (allC n m n).length ≤ 100000 from Nat.le_trans (allC_len hn.2 n hn.2) (by omega))
  have HFIN := Lib.hid (fun (xs : List Int) (hr : Ris 0 (n : Int) xs) (hx : ∀ y : Int, y ∈ xs ↔ ∃ c ∈ allC n m n, meC m c = meC m (lmB n m) ∧ y ∈ c) => show xs = mkL (lmK n m) n from ris_ext hr (mkL_ris _ _) fun y => by
    rw [hx, mkL_mem]
    constructor
    · rintro ⟨c, h1, h2, h3⟩
      obtain ⟨t, ht, e⟩ := List.getElem_of_mem h3
      obtain ⟨e1, e2⟩ := vt_at (allC_cr h1).pth.vt ht
      rw [List.getD_eq_getElem?_getD, List.getElem?_eq_getElem ht, Option.getD_some, e] at e1
      exact ⟨vx c t, e2, e1, markB_t.2 ⟨c, h1, (me_eq hnum hn.2 (allC_cr h1) hcb).1 h2, by rw [← e1]; exact h3⟩⟩
    · rintro ⟨k, h1, h2, h3⟩
      obtain ⟨c, g1, g2, g3⟩ := markB_t.1 h3
      exact ⟨c, g1, (me_eq hnum hn.2 (allC_cr g1) hcb).2 g2, by rw [h2]; exact g3⟩)
  clear hm hnum hne
  have HCB := Lib.hid hcb
  clear hcb
  generalize lmB n m = B at *
  obtain ⟨NB, hNB⟩ : ∃ NB, B.length = NB := ⟨_, rfl⟩
  rw [hNB] at C0 CB
  generalize allC n m n = L at *
  obtain ⟨N, hN⟩ : ∃ N, L.length = N := ⟨_, rfl⟩
  have HN := Lib.hid hN
  have hN9 : N ≤ 100000 := by have := HLEN.out; omega
  obtain ⟨FB, hFB⟩ : ∃ FB, meC m B = FB := ⟨_, rfl⟩
  rw [hFB] at CB HFIN
  clear hNB hFB HCB
  obtain ⟨ba, bb⟩ := FB
  go_enter Tryz.func32, Tryz.ntmps32
  go_wp2_with fail
  refine C0.out.mono ?_
  rintro e w1 ⟨av, cv, rfl, hrd, hb1⟩
  have HRB := Lib.hid hrd
  clear hrd C0
  go_wp2_with fail
  refine (C1.out w1 hb1).mono ?_
  rintro e w2 ⟨adL, cpL, rfl, ⟨vsL, hml⟩, hb2⟩
  have HRL := Lib.hid hml.rd
  have HRB2 := Lib.hid (HRB.out.below hb2)
  have hb2 := ball hb1 hb2
  rw [hN]
  clear hN hml C1 HRB
  go_wp2_with fail
  go_loopw [3, 14] (fun v i wr => ∃ (k : Nat) (xs : List Int), k ≤ N ∧ i = .int .i64 k ∧ RdZ wr v xs ∧ Ris 0 (n : Int) xs ∧ (∀ y : Int, y ∈ xs ↔ ∃ c ∈ L.take k, meC m c = ⟨ba, bb⟩ ∧ y ∈ c) ∧ Below w2.heap.size w2 wr) (fun _ i _ => N - (intOf i).toNat)
  case atStart => exact ⟨0, [], Nat.zero_le _, rfl, Or.inl ⟨rfl, rfl⟩, by simp [Ris], fun y => by simp, Below.refl _ _⟩
  case round =>
    obtain ⟨wE, rfl⟩ : ∃ x : World, x = wr := ⟨_, rfl⟩
    obtain ⟨k, xs, hk, rfl, hz, hri, hxs, hbel⟩ := hrel
    have HZ := Lib.hid hz; have HRI := Lib.hid hri; have HXS := Lib.hid hxs
    obtain ⟨az, cz, rfl, -⟩ := hz.shape
    clear hz hri hxs
    by_cases hlt : k < N
    case neg =>
      obtain rfl : k = N := by omega
      have HX2 := Lib.hid (HFIN.out xs HRI.out (fun y => by rw [HXS.out y, List.take_of_length_le (by rw [HN.out]; exact Nat.le_refl _)]))
      go_wp2_with fail
      go_ret
      exact ⟨_, rfl, by rw [← HX2.out]; exact HZ.out, ball hb2 hbel⟩
    case pos =>
      obtain ⟨bL, oL, ax, cx, rfl, hbL, kx, rx⟩ := HRL.out k (by rw [HN.out]; exact hlt)
      have kx := bcell hbel hbL kx
      have HRX := Lib.hid (rx.below hbel)
      have HTK := Lib.hid (takeC_snoc (L := L) (k := k) (by rw [HN.out]; exact hlt))
      have hmem := getD_memL (L := L) (k := k) (by rw [HN.out]; exact hlt)
      have hcx := HCR.out _ hmem
      generalize L.getD k [] = X at kx HRX HTK hcx
      have HCX := Lib.hid hcx
      obtain ⟨NX, hNX⟩ : ∃ NX, X.length = NX := ⟨_, rfl⟩
      have HNX := Lib.hid hNX
      rw [hNX] at kx
      have hbe := ball hb2 hbel
      have CX := Lib.hid (fun u (hb : Below wE.heap.size wE u) => CM.out u (hbe.trans (hb.mono hbe.size)) ax cx X (HRX.out.below hb) hcx)
      rw [hNX] at CX
      have CBB := Lib.hid (fun u (hb : Below wE.heap.size wE u) => CB.out u (hbe.trans (hb.mono hbe.size)) av cv ((HRB2.out.below hbel).below hb))
      have hNX6 : NX ≤ 6 := by have := hcx.pth.len; omega
      have hxl : xs.length ≤ n := by have := HRI.out.le; omega
      have x1 : (0 : Int) ≤ (k : Int) := by omega
      have x2 : (k : Int) < (N : Int) := by omega
      obtain ⟨FX, hFX⟩ : ∃ FX, meC m X = FX := ⟨_, rfl⟩
      rw [hFX] at CX
      obtain ⟨xa, xb⟩ := FX
      unfold frV at *
      simp only at CX CBB
      have HNX2 := Lib.hid (fun (ys : List Int) (h : ∀ y : Int, y ∈ ys ↔ y ∈ xs ∨ ((xa = ba ∧ xb = bb) ∧ y ∈ X)) => show ∀ y : Int, y ∈ ys ↔ ∃ c ∈ L.take (k + 1), meC m c = ⟨ba, bb⟩ ∧ y ∈ c from fun y => by
        rw [h y, HXS.out y, HTK.out]
        constructor
        · rintro (⟨c, h1, h2, h3⟩ | ⟨⟨e1, e2⟩, h3⟩)
          · exact ⟨c, List.mem_append_left _ h1, h2, h3⟩
          · exact ⟨X, by simp, by rw [hFX, e1, e2], h3⟩
        · rintro ⟨c, h1, h2, h3⟩
          rcases List.mem_append.1 h1 with h1 | h1
          · exact Or.inl ⟨c, h1, h2, h3⟩
          · have := List.mem_singleton.1 h1
            subst this
            rw [hFX] at h2
            injection h2 with e1 e2
            exact Or.inr ⟨⟨e1, e2⟩, h3⟩)
      clear rx hmem hNX hcx hFX
      by_cases hq : xa = ba ∧ xb = bb
      · obtain ⟨rfl, rfl⟩ := hq
        go_wp2_with fail
        refine (CX.out _ (Below.refl _ _)).mono ?_
        rintro e w3 ⟨rfl, hb3⟩
        go_wp2_with fail
        refine (CBB.out _ hb3).mono ?_
        rintro e w4 ⟨rfl, hb4⟩
        have hb4 := ball hb3 hb4
        have hb24 := hbel.trans (hb4.mono hbel.size)
        have HZ4 := Lib.hid (HZ.out.below hb4)
        have HRX4 := Lib.hid (HRX.out.below hb4)
        clear kx
        go_wp2_with fail
        go_loopw [3, 27] (fun v i wr => ∃ (t : Nat) (ys : List Int), t ≤ NX ∧ i = .int .i64 t ∧ RdZ wr v ys ∧ Ris 0 (n : Int) ys ∧ (∀ y : Int, y ∈ ys ↔ y ∈ xs ∨ y ∈ X.take t) ∧ Below w4.heap.size w4 wr) (fun _ i _ => NX - (intOf i).toNat)
        case atStart => exact ⟨0, xs, Nat.zero_le _, rfl, HZ4.out, HRI.out, fun y => by simp, Below.refl _ _⟩
        case round =>
          obtain ⟨wK, rfl⟩ : ∃ x : World, x = wr := ⟨_, rfl⟩
          obtain ⟨t, ys, ht, rfl, hzy, hriy, hys, hbelK⟩ := hrel
          have HZY := Lib.hid hzy; have HRIY := Lib.hid hriy; have HYS := Lib.hid hys
          obtain ⟨ay, cy, rfl, -⟩ := hzy.shape
          clear hzy hriy hys
          by_cases hlt2 : t < NX
          case neg =>
            obtain rfl : t = NX := by omega
            have HN2 := Lib.hid (HNX2.out ys (fun y => by rw [HYS.out y, List.take_of_length_le (by rw [HNX.out]; exact Nat.le_refl _)]; simp))
            go_wp2_with fail
            go_roundw
            case rel => exact ⟨k + 1, ys, by omega, by go_num, HZY.out, HRIY.out, HN2.out, hb24.trans (hbelK.mono hb24.size)⟩
            case measure => simp [intOf]; omega
          case pos =>
            obtain ⟨bx, ox, rfl, hbx, q1⟩ := HRX4.out t (by rw [HNX.out]; exact hlt2)
            obtain ⟨e1, e2⟩ := vt_at HCX.out.pth.vt (t := t) (by rw [HNX.out]; exact hlt2)
            have q1 := bcell hbelK hbx q1
            rw [e1] at q1
            have HTK2 := Lib.hid (show X.take (t + 1) = X.take t ++ [((vx X t : Nat) : Int)] by
              have hl2 : t < X.length := by rw [HNX.out]; exact hlt2
              rw [List.take_succ_eq_append_getElem hl2, ← e1, List.getD_eq_getElem?_getD, List.getElem?_eq_getElem hl2, Option.getD_some])
            generalize vx X t = u at q1 e2 HTK2
            have hyl := HRIY.out.le
            have CP := Lib.hid (l1PutY_c _ ys (u : Int) wK HZY.out (by omega))
            have HRP := Lib.hid (putL_ris HRIY.out (n := (u : Int)) (by omega) (by omega))
            have HYP := Lib.hid (show ∀ y : Int, y ∈ putL ys (u : Int) ↔ y ∈ xs ∨ y ∈ X.take (t + 1) from fun y => by
              rw [putL_mem, HYS.out y, HTK2.out, List.mem_append, List.mem_singleton]
              constructor
              · rintro (h | h | h)
                · exact Or.inr (Or.inr h)
                · exact Or.inl h
                · exact Or.inr (Or.inl h)
              · rintro (h | h | h)
                · exact Or.inr (Or.inl h)
                · exact Or.inr (Or.inr h)
                · exact Or.inl h)
            generalize putL ys (u : Int) = zs at CP HRP HYP
            have y1 : (0 : Int) ≤ (t : Int) := by omega
            have y2 : (t : Int) < (NX : Int) := by omega
            clear e1 hyl
            go_wp2_with fail
            refine CP.out.mono ?_
            rintro e w5 ⟨v5, rfl, hrd5, hb5⟩
            obtain ⟨b5, o5, c5, rfl, hc5, hr5⟩ := hrd5
            have HZ5 := Lib.hid (show RdZ w5 (.slice (some ⟨b5, o5, none⟩) zs.length c5) zs from Or.inr ⟨b5, o5, c5, rfl, hc5, hr5⟩)
            clear hr5 hc5
            go_wp2_with fail
            go_roundw
            case rel => exact ⟨t + 1, zs, by omega, by go_num, HZ5.out, HRP.out, HYP.out, ball hbelK hb5⟩
            case measure => simp [intOf]; omega
      · have HN2 := Lib.hid (HNX2.out xs (fun y => ⟨fun h => Or.inl h, fun h => by
          rcases h with h | h
          · exact h
          · exact absurd h.1 hq⟩))
        by_cases h1 : xa = ba
        · subst h1
          have g1 : (xb == bb) = false := beq_eq_false_iff_ne.2 (fun e => hq ⟨rfl, e⟩)
          clear hq
          go_wp2_with fail
          refine (CX.out _ (Below.refl _ _)).mono ?_
          rintro e w3 ⟨rfl, hb3⟩
          go_wp2_with fail
          refine (CBB.out _ hb3).mono ?_
          rintro e w4 ⟨rfl, hb4⟩
          have hb4 := ball hb3 hb4
          go_wp2_with fail
          go_roundw
          case rel => exact ⟨k + 1, xs, by omega, by go_num, HZ.out.below hb4, HRI.out, HN2.out, hbel.trans (hb4.mono hbel.size)⟩
          case measure => simp [intOf]; omega
        · have g1 : (xa == ba) = false := beq_eq_false_iff_ne.2 h1
          clear hq
          go_wp2_with fail
          refine (CX.out _ (Below.refl _ _)).mono ?_
          rintro e w3 ⟨rfl, hb3⟩
          go_wp2_with fail
          refine (CBB.out _ hb3).mono ?_
          rintro e w4 ⟨rfl, hb4⟩
          have hb4 := ball hb3 hb4
          go_wp2_with fail
          go_roundw
          case rel => exact ⟨k + 1, xs, by omega, by go_num, HZ.out.below hb4, HRI.out, HN2.out, hbel.trans (hb4.mono hbel.size)⟩
          case measure => simp [intOf]; omega
end Go.Proofs.YtjkfighooijblaaGreat

/-
  The reference's nodes to which ways lead: a queue. By an AI agent.
-/
namespace Go.Proofs.YtjkfighooijblaaGreat
open Go.RowKit

/-- Where ways lead from a node. -/
def goesP (n : Nat) (m : Nat → Nat → Int) (i k : Nat) : Prop := ∃ c s, Wk n m i k c s
/-- What is seen, and what is open. -/
structure SeeP (n : Nat) (m : Nat → Nat → Int) (i : Nat) (xs q : List Int) : Prop where
  ris : Ris 0 (n : Int) xs
  own : (i : Int) ∈ xs
  goes : ∀ a : Nat, (a : Int) ∈ xs → goesP n m i a
  sub : ∀ y ∈ q, y ∈ xs
  clo : ∀ a k : Nat, (a : Int) ∈ xs → (a : Int) ∉ q → k < n → m a k ≠ 1000000000 → (k : Int) ∈ xs
/-- while a node's arcs are followed. -/
structure SeeQ (n : Nat) (m : Nat → Nat → Int) (i now t : Nat) (xs q : List Int) : Prop where
  ris : Ris 0 (n : Int) xs
  own : (i : Int) ∈ xs
  goes : ∀ a : Nat, (a : Int) ∈ xs → goesP n m i a
  sub : ∀ y ∈ q, y ∈ xs
  at' : (now : Int) ∈ xs
  clo : ∀ a k : Nat, (a : Int) ∈ xs → (a : Int) ∉ q → a ≠ now → k < n → m a k ≠ 1000000000 → (k : Int) ∈ xs
  did : ∀ k : Nat, k < t → m now k ≠ 1000000000 → (k : Int) ∈ xs
theorem SeeP.start {n : Nat} {m : Nat → Nat → Int} {i : Nat} (hi : i < n) : SeeP n m i [(i : Int)] [(i : Int)] :=
  ⟨⟨by omega, by omega, by simp [Ris]; omega⟩, by simp, fun a ha => by
    have : a = i := by have := List.mem_singleton.1 ha; omega
    subst this
    exact ⟨0, 0, Wk.nil hi⟩, fun y hy => hy, fun a k ha hn => absurd ha hn⟩
theorem SeeP.pop {n : Nat} {m : Nat → Nat → Int} {i now : Nat} {xs q : List Int} (h : SeeP n m i xs ((now : Int) :: q)) : SeeQ n m i now 0 xs q :=
  ⟨h.ris, h.own, h.goes, fun y hy => h.sub y (List.mem_cons_of_mem _ hy), h.sub _ List.mem_cons_self, fun a k ha hq hne hk hm => h.clo a k ha (fun e => by
    rcases List.mem_cons.1 e with e | e
    · omega
    · exact hq e) hk hm, fun k hk => by omega⟩
theorem SeeQ.stay {n : Nat} {m : Nat → Nat → Int} {i now t : Nat} {xs q : List Int} (h : SeeQ n m i now t xs q) (ht : m now t ≠ 1000000000 → (t : Int) ∈ xs) : SeeQ n m i now (t + 1) xs q :=
  ⟨h.ris, h.own, h.goes, h.sub, h.at', h.clo, fun k hk hm => by
    by_cases e : k = t
    · subst e; exact ht hm
    · exact h.did k (by omega) hm⟩
theorem SeeQ.push {n : Nat} {m : Nat → Nat → Int} {i now t : Nat} {xs q : List Int} (h : SeeQ n m i now t xs q) (ht : t < n) (hm : m now t ≠ 1000000000) : SeeQ n m i now (t + 1) (putL xs (t : Int)) (q ++ [(t : Int)]) :=
  ⟨putL_ris h.ris (by omega) (by omega), (putL_mem _ _ _).2 (Or.inr h.own), fun a ha => by
    rcases (putL_mem _ _ _).1 ha with e | e
    · have e : a = t := by omega
      subst e
      obtain ⟨c, s, hw⟩ := h.goes now h.at'
      exact ⟨_, _, Wk.snoc hw ht hm⟩
    · exact h.goes a e, fun y hy => (putL_mem _ _ _).2 (by
    rcases List.mem_append.1 hy with e | e
    · exact Or.inr (h.sub y e)
    · exact Or.inl (List.mem_singleton.1 e)), (putL_mem _ _ _).2 (Or.inr h.at'), fun a k ha hq hne hk hm' => (putL_mem _ _ _).2 (Or.inr (by
    rcases (putL_mem _ _ _).1 ha with e | e
    · exact absurd (by rw [e]; simp) hq
    · exact h.clo a k e (fun g => hq (List.mem_append_left _ g)) hne hk hm')), fun k hk hm' => (putL_mem _ _ _).2 (by
    by_cases e : k = t
    · subst e; exact Or.inl rfl
    · exact Or.inr (h.did k (by omega) hm'))⟩
theorem SeeQ.end {n : Nat} {m : Nat → Nat → Int} {i now : Nat} {xs q : List Int} (h : SeeQ n m i now n xs q) : SeeP n m i xs q :=
  ⟨h.ris, h.own, h.goes, h.sub, fun a k ha hq hk hm => by
    by_cases e : a = now
    · subst e; exact h.did k hk hm
    · exact h.clo a k ha hq e hk hm⟩
theorem SeeP.full {n : Nat} {m : Nat → Nat → Int} {i : Nat} {xs : List Int} (h : SeeP n m i xs []) : xs.length = n ↔ ∀ k, k < n → goesP n m i k := by
  have hcl : ∀ k c s, Wk n m i k c s → (k : Int) ∈ xs := fun k c s hw => by
    induction hw with
    | nil _ => exact h.own
    | snoc hw hk hne ih => exact h.clo _ _ ih (by simp) hk hne
  have hf := h.ris.full
  constructor
  · intro hl k hk
    exact h.goes k (hf.1 (by omega) k (by omega) (by omega))
  · intro hg
    have := hf.2 (fun y h0 h1 => by
      obtain ⟨c, s, hw⟩ := hg y.toNat (by omega)
      have := hcl _ _ _ hw
      rwa [show ((y.toNat : Nat) : Int) = y by omega] at this)
    omega

/-- The list that is seen, apart from the queue's block. -/
def OutQ (w : World) (g : Nat) (v : Value) (xs : List Int) : Prop := ∃ b off cap, v = .slice (some ⟨b, off, none⟩) xs.length cap ∧ xs.length ≤ cap ∧ b < w.heap.size ∧ b ≠ g ∧ RdI w (some ⟨b, off, none⟩) xs
theorem OutQ.below {w w' : World} {g : Nat} {v : Value} {xs : List Int} (h : OutQ w g v xs) (hb : Below w.heap.size w w') : OutQ w' g v xs := by
  obtain ⟨b, off, cap, e, h1, h2, h3, h4⟩ := h
  exact ⟨b, off, cap, e, h1, Nat.lt_of_lt_of_le h2 hb.size, h3, h4.below hb⟩
theorem OutQ.chg {w w' : World} {g g' : Nat} {v : Value} {xs : List Int} (h : OutQ w g v xs) (hc : Chg g w w') (hg : g' = g ∨ w.heap.size ≤ g') : OutQ w' g' v xs := by
  obtain ⟨b, off, cap, e, h1, h2, h3, h4⟩ := h
  exact ⟨b, off, cap, e, h1, Nat.lt_of_lt_of_le h2 hc.size, by rcases hg with rfl | hg; exact h3; omega, h4.chg hc (fun o e => by injection e with e; injection e with e _ _; exact h3 e)⟩

set_option maxHeartbeats 6400000 in
set_option maxRecDepth 100000 in
theorem mnReach_c (n : Nat) (ad : Option Addr) (cap : Nat) (m : Nat → Nat → Int) (i : Nat) (w : World) (hr : RdM w ad (toM n m)) (hn : 1 ≤ n ∧ n ≤ 6) (hi : i < n) :
    Calls Tryz.prog 67 #[.slice ad n cap, .int .i64 i] w fun e w' => ∃ av cv L, e = .returned (.slice av L cv) ∧ L ≤ n ∧ (L = n ↔ ∀ k, k < n → goesP n m i k) ∧ Below w.heap.size w w' := by
  have HR := Lib.hid hr
  obtain ⟨i0, hi0, hz0, hz1, hz2⟩ := info_parts Tryz.infoI
  obtain ⟨h, hh⟩ : ∃ h, w.heap.size = h := ⟨_, rfl⟩
  have HS0 := Lib.hid (SeeP.start (m := m) hi)
  have HO0 := Lib.hid (show OutQ ((w.alloc (.cells #[.int .i64 (i : Int)] 3)).alloc (.cells #[.int .i64 (i : Int)] 3)) (h + 1) (.slice (some ⟨h, 0, none⟩) 1 1) [(i : Int)] from ⟨h, 0, 1, rfl, by simp, by simp; omega, by omega, (rdI_one w h (i : Int) hh).below (bal_alloc (Below.refl _ _))⟩)
  have HQ0 := Lib.hid (show QAt ((w.alloc (.cells #[.int .i64 (i : Int)] 3)).alloc (.cells #[.int .i64 (i : Int)] 3)) w.heap.size 3 (h + 1) (.slice (some ⟨h + 1, 0, none⟩) 1 1) [(i : Int)] from QAt.of_own (xs := [(i : Int)]) (by simpa [ints] using heap_alloc_at (w.alloc (.cells #[.int .i64 (i : Int)] 3)) (.cells #[.int .i64 (i : Int)] 3) (n := h + 1) (by simp; omega)) (by omega) rfl)
  have HB0 := Lib.hid (bal_alloc (o := .cells #[.int .i64 (i : Int)] 3) (bal_alloc (o := .cells #[.int .i64 (i : Int)] 3) (Below.refl w.heap.size w)))
  clear hr
  go_enter Tryz.func67, Tryz.ntmps67
  go_wp2_with fail
  go_loopw [5, 6] (fun v q wr => ∃ (g : Nat) (xs qs : List Int), OutQ wr g v xs ∧ QAt wr w.heap.size 3 g q qs ∧ SeeP n m i xs qs ∧ qs.length + 2 * (n - xs.length) ≤ 12 ∧ Below w.heap.size w wr) (fun v q _ => 2 * (n - slen v) + slen q)
  case atStart => exact ⟨h + 1, _, _, HO0.out, HQ0.out, HS0.out, by simp; omega, HB0.out⟩
  case round =>
    obtain ⟨wE, rfl⟩ : ∃ x : World, x = wr := ⟨_, rfl⟩
    obtain ⟨g, xs, qs, ho, hq, hse, hqb, hbel⟩ := hrel
    obtain ⟨off, cp, rfl⟩ := hq.form
    obtain ⟨bo, oo, co, rfl, hoc, hob, hog, hor⟩ := ho
    have hxl := hse.ris.le
    have HO := Lib.hid (show OutQ wE g (.slice (some ⟨bo, oo, none⟩) xs.length co) xs from ⟨bo, oo, co, rfl, hoc, hob, hog, hor⟩)
    clear HO0 HQ0 HS0 hor
    obtain ⟨NX, hNX⟩ : ∃ NX, xs.length = NX := ⟨_, rfl⟩
    have HNX := Lib.hid hNX
    rw [hNX] at hxl hoc HO hqb ⊢
    cases qs with
    | nil =>
      have HF := Lib.hid hse.full
      clear hse hq
      go_wp2_with fail
      go_ret
      exact ⟨_, _, NX, rfl, by omega, by rw [← HNX.out]; exact HF.out, hbel⟩
    | cons x t =>
      have cx := hq.cell (j := 0) (by simp)
      simp only [List.getD_cons_zero, Nat.add_zero] at cx
      obtain ⟨now, rfl⟩ : ∃ now : Nat, x = now := ⟨x.toNat, by
        have := hse.ris.bound _ (hse.sub x List.mem_cons_self)
        omega⟩
      have hnow : now < n := by
        have := hse.ris.bound _ (hse.sub _ List.mem_cons_self)
        omega
      have hroom := hq.room
      simp only [List.length_cons] at hroom
      obtain ⟨off2, cap2, hsl, htl⟩ : ∃ off2 cap2, (∀ w' : World, (Instr.slice 25 (.slice (some ⟨g, off, none⟩) (t.length + 1) cp) (some (.int .i64 1)) none none).run Tryz.prog w' = .ok (.slice (some ⟨g, off2, none⟩) t.length cap2) w') ∧
          QAt wE w.heap.size 3 g (.slice (some ⟨g, off2, none⟩) t.length cap2) t := by
        by_cases hc1 : cp = 1
        · subst hc1
          refine ⟨off, 0, fun w' => ?_, hq.tail1⟩
          rw [run_slice_l w' _ _ _ _ Tryz.underlying25 _ _ (by omega) (by omega)]
          simp [go_sem]
        · refine ⟨off + 1, cp - 1, fun w' => ?_, hq.tail⟩
          rw [run_slice_l w' _ _ _ _ Tryz.underlying25 _ _ (by omega) (by omega)]
          simp [go_sem, hc1]
      rw [List.length_cons]
      obtain ⟨NT, hNT⟩ : ∃ NT, t.length = NT := ⟨_, rfl⟩
      have HNT := Lib.hid hNT
      rw [List.length_cons, hNT] at hqb
      rw [hNT] at hsl htl ⊢
      have HTL := Lib.hid htl
      have HSQ := Lib.hid hse.pop
      obtain ⟨bM, oM, rfl, hbM, hrow⟩ := HR.out.rowF (by omega)
      obtain ⟨b2, o2, c2, e2, hl2, hc2⟩ := hrow now hnow
      have e2 := bcell hbel hbM e2
      have HC2 := Lib.hid hc2
      have x1 : (0 : Int) ≤ (now : Int) := by omega
      have x2 : (now : Int) < (n : Int) := by omega
      have z1 : (0 : Int) < (NT : Int) + 1 := by omega
      clear hrow hc2 hse hq htl hNT hroom hNX
      go_wp2_with fail
      clear cx hsl e2 z1
      go_loopw [5, 6, 27] (fun v q i' wr => ∃ (k g' : Nat) (ys q' : List Int), k ≤ n ∧ i' = .int .i64 k ∧ OutQ wr g' v ys ∧ QAt wr w.heap.size 3 g' q q' ∧ SeeQ n m i now k ys q' ∧ q'.length + 2 * (n - ys.length) ≤ NT + 2 * (n - NX) ∧ Below w.heap.size w wr) (fun _ _ i _ => n - (intOf i).toNat)
      case atStart => exact ⟨0, g, xs, t, Nat.zero_le _, rfl, HO.out, HTL.out, HSQ.out, by rw [HNT.out, HNX.out]; exact Nat.le_refl _, hbel⟩
      case round =>
        obtain ⟨wK, rfl⟩ : ∃ x : World, x = wr := ⟨_, rfl⟩
        obtain ⟨k, g', ys, q', hk, rfl, ho, hq, hse, hms, hbelK⟩ := hrel
        obtain ⟨off3, cap3, rfl⟩ := hq.form
        have HOK := Lib.hid ho
        obtain ⟨by', oy, cy, rfl, hyc, hyb, hyg, hyr⟩ := ho
        have hyl := hse.ris.le
        have HSE := Lib.hid hse
        have HYR := Lib.hid hyr
        obtain ⟨NY, hNY⟩ : ∃ NY, ys.length = NY := ⟨_, rfl⟩
        have HNY := Lib.hid hNY
        obtain ⟨NQ, hNQ⟩ : ∃ NQ, q'.length = NQ := ⟨_, rfl⟩
        have HNQ := Lib.hid hNQ
        have HQ := Lib.hid hq
        rw [hNY] at hyl hms hyc HOK ⊢
        rw [hNQ] at hms HQ ⊢
        clear hse hq hyr HO HTL HSQ hNY hNQ
        by_cases hlt : k < n
        case neg =>
          obtain rfl : k = n := by omega
          have HEND := Lib.hid HSE.out.end
          go_wp2_with fail
          go_roundw
          case rel => exact ⟨g', ys, q', HOK.out, HQ.out, HEND.out, by rw [HNY.out, HNQ.out]; omega, hbelK⟩
          case measure => simp [slen]; omega
        case pos =>
          have q1 := bcell hbelK hl2 (HC2.out k hlt)
          have y1 : (0 : Int) ≤ (k : Int) := by omega
          have y2 : (k : Int) < (n : Int) := by omega
          have HST := Lib.hid (fun h => HSE.out.stay (t := k) h)
          have HPS := Lib.hid (fun h => HSE.out.push (t := k) hlt h)
          generalize m now k = C at q1 HST HPS
          by_cases hC : C = 1000000000
          · have HS2 := Lib.hid (HST.out (fun h => absurd hC h))
            subst hC
            clear HST HPS
            go_wp2_with fail
            go_roundw
            case rel => exact ⟨k + 1, g', ys, q', by omega, by go_num, HOK.out, HQ.out, HS2.out, by rw [HNQ.out, HNY.out]; exact hms, hbelK⟩
            case measure => simp [intOf]; omega
          · have g1 : (C != 1000000000) = true := bne_iff_ne.2 hC
            have CON := Lib.hid (l1HasW (some ⟨by', oy, none⟩) cy ys (k : Int) wK (by rw [HNY.out]; omega) HYR.out)
            rw [HNY.out] at CON
            by_cases hin : (k : Int) ∈ ys
            · rw [decide_eq_true hin] at CON
              have HS2 := Lib.hid (HST.out (fun _ => hin))
              clear HST HPS hin
              go_wp2_with fail
              refine CON.out.mono ?_
              rintro e w3 ⟨rfl, rfl⟩
              go_wp2_with fail
              go_roundw
              case rel => exact ⟨k + 1, g', ys, q', by omega, by go_num, HOK.out, HQ.out, HS2.out, by rw [HNQ.out, HNY.out]; exact hms, hbelK⟩
              case measure => simp [intOf]; omega
            · rw [decide_eq_false hin] at CON
              have HS2 := Lib.hid (HPS.out hC)
              have hpl := putL_new HSE.out.ris hin
              rw [HNY.out] at hpl
              have hpl2 := (putL_ris HSE.out.ris (n := (k : Int)) (by omega) (by omega)).le
              rw [hpl] at hpl2
              have CP := Lib.hid (l1Put_two by' oy cy ys (k : Int) wK (by rw [HNY.out]; omega) (by rw [HNY.out]; exact hyc) HYR.out)
              rw [HNY.out] at CP
              have HPL := Lib.hid hpl
              have hqb2 : NQ ≤ 100 := by omega
              have HOKS := Lib.hid (⟨hyc, hyb, hyg⟩ : NY ≤ cy ∧ by' < wK.heap.size ∧ by' ≠ g')
              clear HST HPS hpl
              generalize putL ys (k : Int) = zs at HS2 CP HPL
              go_wp2_with fail
              refine CON.out.mono ?_
              rintro e w3 ⟨rfl, rfl⟩
              go_wp2_with fail
              refine CP.out.mono ?_
              rintro e w4 ⟨v4, rfl, htwo, hb4⟩
              have HO4 := Lib.hid (show OutQ w4 g' v4 zs from by
                rcases htwo with ⟨rfl, rfl⟩ | ⟨g4, c4, rfl, hc4, hg4, ho4⟩
                · have := HPL.out
                  rw [HNY.out] at this
                  omega
                · exact ⟨g4, 0, c4, rfl, hc4, ho4.lt, fun e => by have := HQ.out.lt; omega, ho4.rd⟩)
              have HQ4 := Lib.hid (HQ.out.of_block (hb4.block g' HQ.out.lt))
              have hbel4 := ball hbelK hb4
              obtain ⟨b5, o5, c5, e5, hc5, -⟩ := HO4.out
              subst e5
              clear htwo
              have hqa := HQ4.out.alloc (.cells #[.int .i64 k] 3)
              have hba := hbel4.alloc hbel4.size (.cells #[.int .i64 k] 3)
              have HOA := Lib.hid (HO4.out.below (bal_alloc (o := .cells #[.int .i64 (k : Int)] 3) (Below.refl _ _)))
              rw [HPL.out] at HOA ⊢
              have HQB := Lib.hid HQ4.out.base
              rw [← HNQ.out] at hqa
              have HQA := Lib.hid hqa
              have hsz4 := hba.size
              have HBA := Lib.hid hba
              clear hqa hba HO4 HQ4
              go_wp2_with (at_builtin; (refine wpList_append_q _ rfl _ _ 25 rfl 3 i0 _ 8 Tryz.underlying25 hi0 hz0 hz1 hz2 rfl w.heap.size g' off3 cap3 q' (by rw [HNQ.out]; rfl) HQA.out ⟨w4.heap.size, 0, none⟩ 1 k rfl (World.news_of_block (cs := #[.int .i64 k]) (t := 3) (fr := (0, 0)) (heap_alloc_new _ _) 0 _ rfl) (by rw [HNQ.out]; unfold maxLen; omega) (by rw [HNQ.out]; omega) hsz4 ?_; intro g6 off6 cap6 w6 hq6 hc6 hg6))
              have HQ6 := Lib.hid hq6
              have HO6 := Lib.hid (HOA.out.chg hc6 hg6)
              have hb6 := bchg HBA.out hc6 HQB.out hsz4
              rw [HNQ.out] at HQ6 ⊢
              clear hq6 hc6 hg6
              go_wp2_with fail
              go_roundw
              case rel => exact ⟨k + 1, g6, zs, q' ++ [(k : Int)], by omega, by go_num, HO6.out, HQ6.out, HS2.out, by rw [List.length_append, HNQ.out, HPL.out]; simp; omega, hb6⟩
              case measure => simp [intOf]; omega
end Go.Proofs.YtjkfighooijblaaGreat

/-
  Whether a matrix is connected, and lengths of ways: the reference's. By an AI agent.
-/
namespace Go.Proofs.YtjkfighooijblaaGreat
open Go.RowKit

set_option maxHeartbeats 1600000 in
set_option maxRecDepth 100000 in
theorem mnConnected_c (n : Nat) (ad : Option Addr) (cap : Nat) (m : Nat → Nat → Int) (w : World) (hr : RdM w ad (toM n m)) (hn : 1 ≤ n ∧ n ≤ 6) :
    Calls Tryz.prog 29 #[.slice ad n cap] w fun e w' => ∃ b, e = .returned (.bool b) ∧ (b = true ↔ strP n m) ∧ Below w.heap.size w w' := by
  have CR := Lib.hid (fun u (hb : Below w.heap.size w u) (i : Nat) (hi : i < n) => mnReach_c n ad cap m i u (hr.below hb) hn hi)
  clear hr
  go_enter Tryz.func29, Tryz.ntmps29
  go_wp2_with fail
  go_loopw [6] (fun i wr => ∃ k : Nat, k ≤ n ∧ i = .int .i64 k ∧ (∀ a, a < k → ∀ j, j < n → goesP n m a j) ∧ Below w.heap.size w wr) (fun i _ => n - (intOf i).toNat)
  case atStart => exact ⟨0, Nat.zero_le _, rfl, fun a ha => by omega, Below.refl _ _⟩
  case round =>
    obtain ⟨wE, rfl⟩ : ∃ x : World, x = wr := ⟨_, rfl⟩
    obtain ⟨k, hk, rfl, hall, hbel⟩ := hrel
    have HALL := Lib.hid hall; clear hall
    by_cases hlt : k < n
    case neg =>
      obtain rfl : k = n := by omega
      go_wp2_with fail
      go_ret
      exact ⟨true, rfl, ⟨fun _ i j hi hj => HALL.out i hi j hj, fun _ => rfl⟩, hbel⟩
    case pos =>
      go_wp2_with fail
      refine (CR.out wE hbel k hlt).mono ?_
      rintro e w1 ⟨av, cv, L, rfl, hL, hLn, hb1⟩
      have HLN := Lib.hid hLn
      clear hLn
      by_cases hl : L < n
      · have HNO := Lib.hid (show ¬ strP n m from fun h => by
          have := HLN.out.2 (fun j hj => h k j hlt hj)
          omega)
        go_wp2_with fail
        go_ret
        exact ⟨false, rfl, ⟨(fun h => by cases h), fun h => absurd h HNO.out⟩, ball hbel hb1⟩
      · have HYES := Lib.hid (HLN.out.1 (by omega))
        obtain rfl : L = n := by omega
        go_wp2_with fail
        go_roundw
        case rel =>
          refine ⟨k + 1, by omega, by go_num, fun a ha j hj => ?_, ball hbel hb1⟩
          by_cases e : a = k
          · subst e; exact HYES.out j hj
          · exact HALL.out a (by omega) j hj
        case measure => simp [intOf]; omega

theorem RowI.setR {w : World} {B g n cap : Nat} {xs : List Int} (h : RowI w B (.slice (some ⟨g, 0, none⟩) n cap) xs) (k : Nat) (x : Int) :
    RowI (w.setCell ⟨g, k, none⟩ (.int .i64 x)) B (.slice (some ⟨g, 0, none⟩) n cap) (xs.set k x) := by
  obtain ⟨_, _, e, _⟩ := h.shape
  injection e with _ e _
  subst e
  have := (World.ownsRow.stored h k (.int .i64 x)).1
  exact row_congr this (by simp) (by rw [ints_set])
theorem RowI.cellR {w : World} {B g n cap : Nat} {xs : List Int} (h : RowI w B (.slice (some ⟨g, 0, none⟩) n cap) xs) : B ≤ g ∧ Own w g 3 (ints xs) := by
  rcases Own.of_row h with ⟨e, _⟩ | ⟨g', cap', e, hB, _, _, ho⟩
  · cases e
  · injection e with e _ _
    injection e with e
    injection e with e _ _
    subst e
    exact ⟨hB, ho⟩
theorem rw_tab {n : Nat} {F : Nat → Nat → Int} {G : Nat → Int} {i k : Nat} : (tab n G).set i (leastZ (G i) (prodZ (F i k) (G k))) = tab n (rw1 F G i k) := by
  rw [tab_set]
  rfl
/-- the numbers on the way are small. -/
theorem rw_small {n : Nat} {F : Nat → Nat → Int} {E : Nat → Int} (hF : bd2 n F) (hn : n ≤ 6) (hE : ∀ k, k < n → E k = 0 ∨ E k = 1000000000) {r i k : Nat} (hr : r < n) (hi : i < n) (hk : k ≤ n) {j : Nat} (hj : j < n) : rwK F i (rwI n F (rwR n F E r) i) k j = 1000000000 ∨ (-800000000 ≤ rwK F i (rwI n F (rwR n F E r) i) k j ∧ rwK F i (rwI n F (rwR n F E r) i) k j ≤ 800000000) := by
  have h1 := rwR_snd hF hn hE r (by omega)
  have h2 := rwI_snd hF hn h1 (i := i) (by omega) (by omega)
  have h3 := (rwK_snd hF hi h2 hk (by omega)).mono (U := 400) (by omega)
  rcases h3 j hj with e | ⟨e, _⟩
  · exact Or.inl e
  · exact Or.inr (by omega)

set_option maxHeartbeats 6400000 in
set_option maxRecDepth 100000 in
theorem mnWays_c (n : Nat) (ad : Option Addr) (cap : Nat) (m : Nat → Nat → Int) (x : Int) (ade : Option Addr) (cape : Nat) (E : Nat → Int) (w : World) (hr : RdM w ad (toM n m)) (he : RdI w ade (tab n E)) (hn : 1 ≤ n ∧ n ≤ 6) (hnum : ∀ a b, a < n → b < n → numB (m a b) = true) (hx : -1000000 ≤ x ∧ x ≤ 1000000) (hE : ∀ k, k < n → E k = 0 ∨ E k = 1000000000) :
    Calls Tryz.prog 34 #[.slice ad n cap, .int .i64 x, .slice ade n cape] w fun e w' => ∃ g c', e = .returned (.slice (some ⟨g, 0, none⟩) n c') ∧ RowI w' w.heap.size (.slice (some ⟨g, 0, none⟩) n c') (tab n (rwR n (shF m x) E n)) ∧ Below w.heap.size w w' := by
  have CO := l1OwnN_c ade cape (tab n E) w he (by rw [tab_length]; omega) (by rw [tab_length]; omega)
  rw [tab_length] at CO
  have COH := Lib.hid CO
  have HR := Lib.hid hr
  have HSM := Lib.hid (fun (r i k : Nat) (hr : r < n) (hi : i < n) (hk : k ≤ n) (j : Nat) (hj : j < n) => rw_small (shF_bd hnum hx) hn.2 hE hr hi hk hj)
  have HNUM := Lib.hid hnum
  clear hr he CO hE hnum
  go_enter Tryz.func34, Tryz.ntmps34
  go_wp2_with fail
  refine COH.out.mono ?_
  rintro e w1 ⟨g, c1, rfl, hrow, hg, hb1⟩
  have HROW := Lib.hid hrow
  have HB1 := Lib.hid hb1
  clear hrow COH hb1
  go_wp2_with fail
  go_loopw [16] (fun v wr => ∃ r : Nat, r ≤ n ∧ v = .int .i64 r ∧ RowI wr w.heap.size (.slice (some ⟨g, 0, none⟩) n c1) (tab n (rwR n (shF m x) E r)) ∧ Below w.heap.size w wr) (fun v _ => n - (intOf v).toNat)
  case atStart => exact ⟨0, Nat.zero_le _, rfl, HROW.out, HB1.out⟩
  case round =>
    obtain ⟨wR, rfl⟩ : ∃ x : World, x = wr := ⟨_, rfl⟩
    obtain ⟨r, hrn, rfl, hrow, hbel⟩ := hrel
    have HRO := Lib.hid hrow; clear hrow HROW HB1
    by_cases hlr : r < n
    case neg =>
      obtain rfl : r = n := by omega
      go_wp2_with fail
      go_ret
      exact ⟨g, c1, rfl, HRO.out, hbel⟩
    case pos =>
      go_wp2_with fail
      go_loopw [20] (fun v wr => ∃ i : Nat, i ≤ n ∧ v = .int .i64 i ∧ RowI wr w.heap.size (.slice (some ⟨g, 0, none⟩) n c1) (tab n (rwI n (shF m x) (rwR n (shF m x) E r) i)) ∧ Below w.heap.size w wr) (fun v _ => n - (intOf v).toNat)
      case atStart => exact ⟨0, Nat.zero_le _, rfl, HRO.out, hbel⟩
      case round =>
        obtain ⟨wI, rfl⟩ : ∃ x : World, x = wr := ⟨_, rfl⟩
        obtain ⟨i, hin, rfl, hrow, hbelI⟩ := hrel
        have HRI := Lib.hid hrow; clear hrow
        by_cases hli : i < n
        case neg =>
          obtain rfl : i = n := by omega
          go_wp2_with fail
          go_roundw
          case rel => exact ⟨r + 1, by omega, by go_num, HRI.out, hbelI⟩
          case measure => simp [intOf]; omega
        case pos =>
          obtain ⟨bM, oM, rfl, hbM, hrow⟩ := HR.out.rowF (by omega)
          obtain ⟨b2, o2, c2, e2, hl2, hc2⟩ := hrow i hli
          have e2 := bcell hbelI hbM e2
          have HC2 := Lib.hid hc2
          have y1 : (0 : Int) ≤ (i : Int) := by omega
          have y2 : (i : Int) < (n : Int) := by omega
          clear hrow hc2
          go_wp2_with fail
          clear e2
          go_loopw [27] (fun v wr => ∃ k : Nat, k ≤ n ∧ v = .int .i64 k ∧ RowI wr w.heap.size (.slice (some ⟨g, 0, none⟩) n c1) (tab n (rwK (shF m x) i (rwI n (shF m x) (rwR n (shF m x) E r) i) k)) ∧ Below w.heap.size w wr) (fun v _ => n - (intOf v).toNat)
          case atStart => exact ⟨0, Nat.zero_le _, rfl, HRI.out, hbelI⟩
          case round =>
            obtain ⟨wK, rfl⟩ : ∃ x : World, x = wr := ⟨_, rfl⟩
            obtain ⟨k, hkn, rfl, hrow, hbelK⟩ := hrel
            by_cases hlk : k < n
            case neg =>
              obtain rfl : k = n := by omega
              have HRK := Lib.hid hrow; clear hrow
              go_wp2_with fail
              go_roundw
              case rel => exact ⟨i + 1, by omega, by go_num, HRK.out, hbelK⟩
              case measure => simp [intOf]; omega
            case pos =>
              have q1 := bcell hbelK hl2 (HC2.out k hlk)
              have bs1 := HSM.out r i k hlr hli hkn i hli
              have bs2 := HSM.out r i k hlr hli hkn k hlk
              have bm := numB_t (HNUM.out i k hli hlk)
              have HNX := Lib.hid (show rwK (shF m x) i (rwI n (shF m x) (rwR n (shF m x) E r) i) (k + 1) = rw1 (shF m x) (rwK (shF m x) i (rwI n (shF m x) (rwR n (shF m x) E r) i) k) i k from rfl)
              generalize rwK (shF m x) i (rwI n (shF m x) (rwR n (shF m x) E r) i) k = G at hrow bs1 bs2 HNX
              obtain ⟨hBg, ho⟩ := hrow.cellR
              have k1 := ho.cell? (ints_get (by rw [tab_length]; exact hli))
              have k2 := ho.cell? (ints_get (by rw [tab_length]; exact hlk))
              have f1 := ho.frozen i
              rw [tab_getD hli] at k1
              rw [tab_getD hlk] at k2
              have HRK := Lib.hid hrow
              have z1 : (0 : Int) ≤ (k : Int) := by omega
              have z2 : (k : Int) < (n : Int) := by omega
              have HST := Lib.hid (show ∀ y, y = leastZ (G i) (prodZ (shF m x i k) (G k)) → RowI (wK.setCell ⟨g, i, none⟩ (.int .i64 y)) w.heap.size (.slice (some ⟨g, 0, none⟩) n c1) (tab n (rwK (shF m x) i (rwI n (shF m x) (rwR n (shF m x) E r) i) (k + 1))) from fun y hy => by
                rw [HNX.out, ← rw_tab, ← hy]
                exact hrow.setR i y)
              have HSK := Lib.hid (show prodZ (shF m x i k) (G k) = 1000000000 → RowI wK w.heap.size (.slice (some ⟨g, 0, none⟩) n c1) (tab n (rwK (shF m x) i (rwI n (shF m x) (rwR n (shF m x) E r) i) (k + 1))) from fun hp => by
                rw [HNX.out, ← rw_tab, hp]
                have e : leastZ (G i) 1000000000 = G i := by unfold leastZ; split <;> omega
                rw [e, tab_set, show (fun j => if j = i then G i else G j) = G from funext fun j => by split; (rename_i e; rw [e]); rfl]
                exact hrow)
              have hshF : shF m x i k = prodZ (m i k) (-x) := rfl
              have hset := fun y => hbelK.setCell (p := ⟨g, i, none⟩) hBg (.int .i64 y)
              have HSET := Lib.hid hset
              clear hrow ho hset HRI HRO HSM
              generalize m i k = C at q1 bm hshF
              by_cases hC : C = 1000000000
              · have HS2 := Lib.hid (HSK.out (by rw [hshF, hC, prodZ_inf (Or.inl rfl), prodZ_inf (Or.inl rfl)]))
                subst hC
                clear HST HSK hshF bm
                go_wp2_with fail
                go_roundw
                case rel => exact ⟨k + 1, by omega, by go_num, HS2.out, hbelK⟩
                case measure => simp [intOf]; omega
              · have g1 : (C != 1000000000) = true := bne_iff_ne.2 hC
                have hsF : shF m x i k = C - x := by rw [hshF, prodZ_fin (by omega) (by omega)]; omega
                by_cases hD : G k = 1000000000
                · have HS2 := Lib.hid (HSK.out (by rw [hD, prodZ_inf (Or.inr rfl)]))
                  rw [hD] at k2
                  clear HST HSK hshF hsF hD bs2
                  go_wp2_with fail
                  go_roundw
                  case rel => exact ⟨k + 1, by omega, by go_num, HS2.out, hbelK⟩
                  case measure => simp [intOf]; omega
                · have g2 : (G k != 1000000000) = true := bne_iff_ne.2 hD
                  have hpr : prodZ (shF m x i k) (G k) = C - x + G k := by rw [hsF, prodZ_fin (by omega) hD]
                  rw [hpr] at HST
                  have r1 : IntKind.i64.wrap (C - x) = C - x := i64_small (by omega) (by omega)
                  have r2 : IntKind.i64.wrap (C - x + G k) = C - x + G k := i64_small (by omega) (by omega)
                  obtain ⟨A, hA⟩ : ∃ A, G i = A := ⟨_, rfl⟩
                  obtain ⟨D, hDD⟩ : ∃ D, G k = D := ⟨_, rfl⟩
                  rw [hA] at HST k1
                  rw [hDD] at HST k2 g2 r2
                  have hD2 : ¬ D = 1000000000 := by rw [← hDD]; exact hD
                  have CL := Lib.hid (fun u => l1Least_n A (C - x + D) u)
                  obtain ⟨y, hy⟩ : ∃ y, leastZ A (C - x + D) = y := ⟨_, rfl⟩
                  rw [hy] at CL
                  have HS2 := Lib.hid (HST.out y hy.symm)
                  have hbs := HSET.out y
                  clear HST HSK hshF hsF hD bs1 bs2 hpr hA hDD hy HSET bm
                  go_wp2_with fail
                  refine wp_region_still_tail 16 (by kernel_rfl) (by kernel_rfl) ?_
                  simp only [List.take_succ_cons, List.take_zero, List.drop_succ_cons, List.drop_zero]
                  repeat still_step
                  still_call ((CL.out _).mono (fun e w' h => ⟨h.1, h.2.symm⟩))
                  repeat still_step
                  refine wpStill_nil ?_
                  change wpList _ _ _ _ _ wK.drew
                  have d1 : wK.drew.cell? ⟨g, i, none⟩ = some (.int .i64 A) := k1
                  have d2 : wK.drew.frozen? ⟨g, i, none⟩ = false := f1
                  go_wp2_with fail
                  go_roundw
                  case rel => exact ⟨k + 1, by omega, by go_num, HS2.out.below (Below.refl _ _).drew, hbs.drew⟩
                  case measure => simp [intOf]; omega
end Go.Proofs.YtjkfighooijblaaGreat
