/-
  Negative circuits: the reference's search by length. By an AI agent.
-/
import Derived.Test.YtbffcbjbeeagmaaWzH
namespace Go.Proofs.Ytbffcbjbeeagmaa
open Go.RowKit

def brF (n : Nat) (m : Nat → Nat → Int) (N f : Nat) (l : List Int) (k : Nat) : Option (List Int) := if exB m l k = true then wcF n m N (f - 1) (l ++ [(k : Int)]) else none
theorem wc_none {n : Nat} {m : Nat → Nat → Int} {N f : Nat} {l : List Int} (hN : l.length ≠ N) (h : ∀ k, vx l 0 + 1 ≤ k → k < n → brF n m N f l k = none) : wcF n m N f l = none := by
  cases f with
  | zero => unfold wcF; rw [if_neg hN]
  | succ f =>
    unfold wcF
    rw [if_neg hN, List.findSome?_eq_none_iff]
    intro i hi
    rw [List.mem_range] at hi
    exact h (vx l 0 + 1 + i) (by omega) (by omega)
theorem wc_some {n : Nat} {m : Nat → Nat → Int} {N f : Nat} {l c : List Int} (hp : Pth n m l) (hf : n ≤ l.length + f) (hN : l.length ≠ N) {k : Nat} (hk0 : vx l 0 + 1 ≤ k) (hk : k < n) (hlow : ∀ k', vx l 0 + 1 ≤ k' → k' < k → brF n m N f l k' = none) (h : brF n m N f l k = some c) : wcF n m N f l = some c := by
  cases f with
  | zero =>
    unfold brF at h
    rw [ext_none hp (by omega) hk, if_neg (by simp)] at h
    cases h
  | succ f =>
    unfold wcF
    rw [if_neg hN]
    have : ∀ (L : List Nat) (G : Nat → Option (List Int)) (x : Nat), x ∈ L → G x = some c → (∀ y ∈ L, y < x → G y = none) → L.Pairwise (· < ·) → L.findSome? G = some c := by
      intro L G x
      induction L with
      | nil => intro h; cases h
      | cons a L ih =>
        intro hx hg hl hp
        rw [List.findSome?_cons]
        rcases List.mem_cons.1 hx with rfl | hx
        · rw [hg]
        · have hax := (List.pairwise_cons.1 hp).1 x hx
          rw [hl a (List.mem_cons_self ..) hax]
          exact ih hx hg (fun y hy => hl y (List.mem_cons_of_mem _ hy)) (List.pairwise_cons.1 hp).2
    refine this _ _ (k - (vx l 0 + 1)) (List.mem_range.2 (by omega)) ?_ (fun y _ hy => ?_) List.pairwise_lt_range
    · have h2 := h
      unfold brF at h2
      simp only [Nat.add_sub_cancel] at h2
      rw [show vx l 0 + 1 + (k - (vx l 0 + 1)) = k by omega]
      exact h2
    · have h2 := hlow (vx l 0 + 1 + y) (by omega) (by omega)
      unfold brF at h2
      simpa using h2
theorem RowI.shpN {w : World} {K N : Nat} {u : Value} {r : List Int} (h : RowI w K u r) (hN : r.length = N) (h0 : 0 < N) : ∃ g cap, u = .slice (some ⟨g, 0, none⟩) N cap := by
  subst hN
  obtain ⟨g, cap, e, _⟩ := h.shp h0
  exact ⟨g, cap, e⟩
/-- What is told of a search. -/
def SchR (o : Option (List Int)) (w : World) (e : Ending) (w' : World) : Prop := (∃ v, e = .returned (.tuple #[v, .bool o.isSome]) ∧ ∀ c, o = some c → ∃ ad cap, v = .slice ad c.length cap ∧ RdI w' ad c) ∧ Below w.heap.size w w'
theorem co_ext {n : Nat} {m : Nat → Nat → Int} {l : List Int} (hp : Pth n m l) (hnum : ∀ a b, a < n → b < n → numB (m a b) = true) (hn6 : n ≤ 6) {k : Nat} (h1 : m (laV l) k ≠ 1000000000) : coF m (l ++ [(k : Int)]) ((l ++ [(k : Int)]).length - 1) = coF m l (l.length - 1) + m (laV l) k ∧ -6000000 ≤ coF m l (l.length - 1) ∧ coF m l (l.length - 1) ≤ 6000000 := by
  have hpos := hp.pos; have hlen := hp.len
  have hb := co_bd hnum hp.vt (by omega) (l.length - 1) (by omega)
  have hc : coF m l (l.length - 1) ≠ 1000000000 ∧ -6000000 ≤ coF m l (l.length - 1) ∧ coF m l (l.length - 1) ≤ 6000000 := by
    rcases hb with ⟨h1, _⟩ | ⟨_, h1, h2⟩
    · rw [hp.st] at h1; cases h1
    · refine ⟨by omega, by omega, by omega⟩
  refine ⟨?_, hc.2⟩
  obtain ⟨q, hq⟩ : ∃ q, l.length = q + 1 := ⟨l.length - 1, by omega⟩
  unfold laV at h1 ⊢
  rw [List.length_append, List.length_singleton, Nat.add_sub_cancel]
  have hc1 := hc.1
  rw [hq] at hc1 h1 ⊢
  rw [Nat.add_sub_cancel] at hc1 h1 ⊢
  have h2 : coF m (l ++ [(k : Int)]) (q + 1) = prodZ (coF m (l ++ [(k : Int)]) q) (m (vx (l ++ [(k : Int)]) q) (vx (l ++ [(k : Int)]) (q + 1))) := rfl
  rw [h2, coF_snoc _ (by omega), vx_snoc_lt _ (by omega), ← hq, vx_snoc_eq, prodZ_fin hc1 h1]

set_option maxHeartbeats 6400000 in
set_option maxRecDepth 100000 in
theorem wyCircuit_c (n : Nat) (ad : Option Addr) (cap : Nat) (m : Nat → Nat → Int) (w0 : World) (N : Nat) (hm : RdM w0 ad (toM n m)) (hn : 1 ≤ n ∧ n ≤ 6) (hnum : ∀ a b, a < n → b < n → numB (m a b) = true) (hN : N ≤ 6) :
    ∀ (f : Nat) (l : List Int) (adw : Option Addr) (capw : Nat) (w : World), Pth n m l → n ≤ l.length + f → RdI w adw l → Below w0.heap.size w0 w →
    Calls Try.prog 58 #[.slice ad n cap, .slice adw l.length capw, .int .i64 (coF m l (l.length - 1)), .int .i64 N] w (SchR (wcF n m N f l) w) := by
  intro f
  induction f using Nat.strongRecOn with
  | _ f ih =>
  intro l adw capw w hp hf hrl hbw
  have HIH := Lib.hid ih; clear ih
  have HP := Lib.hid hp; have HM := Lib.hid hm; have HRL := Lib.hid hrl
  have hla := hp.la; have hhd := hp.hd; have hpos := hp.pos; have hlen := hp.len
  obtain ⟨v1, _⟩ := vt_at hp.vt (t := l.length - 1) (by omega)
  obtain ⟨v2, _⟩ := vt_at hp.vt (t := 0) (by omega)
  obtain ⟨bp, op, rfl, hbp, q1⟩ := hrl (l.length - 1) (by omega)
  have q2 := hrl.at (j := 0) (by omega)
  rw [v1] at q1
  rw [v2] at q2
  rw [Nat.add_zero] at q2
  have q1 : w.cell? ⟨bp, op + (l.length - 1), none⟩ = some (.int .i64 (laV l : Int)) := q1
  obtain ⟨bM, oM, rfl, hbM, hrow⟩ := hm.rowF (by omega)
  obtain ⟨b2, o2, c2, e2, hl2, hc2⟩ := hrow _ hla
  have HR2 := Lib.hid hc2
  have k1 := bcell hbw hl2 (hc2 _ hhd)
  have e2' := bcell hbw hbM e2
  have hbd := co_bd hnum hp.vt (by omega) (l.length - 1) (by omega)
  have hmn := numB_t (hnum (laV l) (vx l 0) hla hhd)
  have CP := Lib.hid (fun w => nuPlus_c (coF m l (l.length - 1)) (m (laV l) (vx l 0)) w (by
    rcases hbd with ⟨_, h⟩ | ⟨_, h1, h2⟩
    · rw [h]; omega
    · omega))
  have HCY := Lib.hid (show negC m l = decide (prodZ (coF m l (l.length - 1)) (m (laV l) (vx l 0)) < 0) from rfl)
  have HEX := Lib.hid (fun k => show exB m l k = (!decide (m (laV l) k = 1000000000) && !decide ((k : Int) ∈ l)) by unfold exB; simp)
  have HCO := Lib.hid (fun k (h : m (laV l) k ≠ 1000000000) => co_ext hp hnum hn.2 h)
  have HPX := Lib.hid (fun k (hk : k < n) (h1 : m (laV l) k ≠ 1000000000) (h2 : (k : Int) ∉ l) => hp.ext hk h1 h2)
  have HNUM := Lib.hid (fun k (hk : k < n) => numB_t (hnum (laV l) k hla hk))
  obtain ⟨CO, hCO⟩ : ∃ CO, coF m l (l.length - 1) = CO := ⟨_, rfl⟩
  rw [hCO] at CP HCY HCO ⊢
  obtain ⟨A, hA⟩ : ∃ A, laV l = A := ⟨_, rfl⟩
  obtain ⟨H, hH⟩ : ∃ H, vx l 0 = H := ⟨_, rfl⟩
  have HA := Lib.hid hA; have HH := Lib.hid hH
  rw [hA] at q1 k1 e2 e2' hla HR2 CP HCY HEX HCO HPX HNUM
  rw [hH] at q2 k1 hhd CP HCY
  obtain ⟨P, hPl⟩ : ∃ P, l.length = P := ⟨_, rfl⟩
  have HPL := Lib.hid hPl
  rw [hPl] at q1 hpos hlen hf ⊢
  obtain ⟨Q, hQ⟩ : ∃ Q, P - 1 = Q := ⟨_, rfl⟩
  rw [hQ] at q1
  have eQ : IntKind.i64.wrap ((P : Int) - 1) = (Q : Int) := by rw [i64_small (by omega) (by omega)]; omega
  have y1 : (0 : Int) ≤ (Q : Int) := by omega
  have y2 : (Q : Int) < (P : Int) := by omega
  have y3 : 0 < P := hpos
  have y5 : (0 : Int) ≤ (A : Int) := by omega
  have y6 : (A : Int) < (n : Int) := by omega
  have y7 : (0 : Int) ≤ (H : Int) := by omega
  have y8 : (H : Int) < (n : Int) := by omega
  have HBW := Lib.hid hbw
  clear hm hp hrl hrow hc2 hPl hA hH v1 v2 hpos hQ hbd hmn hCO hnum hbw
  generalize hW : wcF n m N f l = WC
  have HW := Lib.hid hW; clear hW
  by_cases hPN : P = N
  · have HW2 := Lib.hid (show WC = if negC m l = true then some l else none by
      rw [← HW.out]
      cases f <;> (unfold wcF; rw [if_pos (by rw [HPL.out]; exact hPN)]))
    subst hPN
    generalize negC m l = B at HCY HW2
    generalize prodZ CO (m A H) = PZ at CP HCY
    generalize m A H = C0 at k1 CP
    have HCY2 := Lib.hid HCY.out
    have HB : Hid (decide (PZ < 0) = B) := Lib.hid HCY2.out.symm
    clear HCY HCY2 HEX HCO HPX HNUM e2 HIH HW
    have g1 : ((P : Int) == (P : Int)) = true := beq_self_eq_true _
    go_enter Try.func58, Try.ntmps58
    go_wp2_with fail
    go_quiet ((go_at_call 48; exact Calls.quiet_of_same ((CP.out _).mono (fun e w' h => ⟨h.1, h.2.symm⟩))))
    go_wp2_with fail
    refine bodyPost_ret (v := .tuple #[.slice (some ⟨bp, op, none⟩) P capw, .bool (decide (PZ < 0))]) (by simp [results, Try.results58, go_sem]) rfl ?_
    rw [HB.out]
    cases B
    · rw [HW2.out, if_neg (by simp)]
      exact ⟨⟨_, rfl, fun c h => by cases h⟩, bdrewN (Below.refl _ _) _⟩
    · rw [HW2.out, if_pos rfl]
      exact ⟨⟨_, rfl, fun c h => by
        injection h with h
        subst h
        exact ⟨_, capw, by rw [HPL.out], HRL.out.below (bdrewN (Below.refl _ _) _)⟩⟩, bdrewN (Below.refl _ _) _⟩
  · have HNO := Lib.hid (fun (h : ∀ k, H + 1 ≤ k → k < n → brF n m N f l k = none) => show WC = none by
      rw [← HW.out]
      exact wc_none (by rw [HPL.out]; exact hPN) (by rw [HH.out]; exact h))
    have HSO := Lib.hid (fun k c (hk0 : H + 1 ≤ k) (hk : k < n) (hlow : ∀ k', H + 1 ≤ k' → k' < k → brF n m N f l k' = none) (h : brF n m N f l k = some c) => show WC = some c by
      rw [← HW.out]
      exact wc_some HP.out (by rw [HPL.out]; exact hf) (by rw [HPL.out]; exact hPN) (by rw [HH.out]; exact hk0) hk (by rw [HH.out]; exact hlow) h)
    have g1 : ((P : Int) == (N : Int)) = false := beq_eq_false_iff_ne.2 (by omega)
    have eH : IntKind.i64.wrap ((H : Int) + 1) = ((H + 1 : Nat) : Int) := by rw [i64_small (by omega) (by omega)]; omega
    clear HCY CP HW k1 hPN
    go_enter Try.func58, Try.ntmps58
    go_wp2_with fail
    go_loopw [11] (fun v wr => ∃ k : Nat, H + 1 ≤ k ∧ k ≤ n ∧ v = .int .i64 k ∧ (∀ k', H + 1 ≤ k' → k' < k → brF n m N f l k' = none) ∧ Below w.heap.size w wr) (fun v _ => n - (intOf v).toNat)
    case atStart => exact ⟨H + 1, Nat.le_refl _, by omega, rfl, fun k' h1 h2 => by omega, Below.refl _ _⟩
    case round =>
      obtain ⟨wE, rfl⟩ : ∃ x : World, x = wr := ⟨_, rfl⟩
      obtain ⟨k, hk0, hk, rfl, hlow, hbel⟩ := hrel
      have HLOW := Lib.hid hlow; clear hlow
      by_cases hlt : k < n
      case neg =>
        obtain rfl : k = n := by omega
        obtain rfl := HNO.out HLOW.out
        go_wp2_with fail
        refine bodyPost_ret (v := .tuple #[.slice none 0 0, .bool false]) (by simp [results, Try.results58, go_sem]) rfl ?_
        exact ⟨⟨_, rfl, fun c h => by cases h⟩, hbel⟩
      case pos =>
        have hrE := HRL.out.below hbel
        have CON := Lib.hid (l1HasW (some ⟨bp, op, none⟩) capw l (k : Int) wE (by rw [HPL.out]; omega) hrE)
        rw [HPL.out] at CON
        have HRE := Lib.hid hrE
        have hbwE := HBW.out.trans (hbel.mono HBW.out.size)
        have e3 := bcell hbwE hbM e2
        have k3 := bcell hbwE hl2 (HR2.out k hlt)
        have HBWE := Lib.hid hbwE
        have hmk := HNUM.out k hlt
        have x1 : (0 : Int) ≤ (k : Int) := by omega
        have x2 : (k : Int) < (n : Int) := by omega
        have hBR := show brF n m N f l k = if exB m l k = true then wcF n m N (f - 1) (l ++ [(k : Int)]) else none from rfl
        rw [HEX.out] at hBR
        have HUP := Lib.hid (fun (h : brF n m N f l k = none) => show ∀ k', H + 1 ≤ k' → k' < k + 1 → brF n m N f l k' = none from fun k' h1 h2 => by
          by_cases e : k' = k
          · subst e; exact h
          · exact HLOW.out k' h1 (by omega))
        clear hrE hbwE e2' q1 q2 eH e2
        by_cases hin : (k : Int) ∈ l
        · rw [decide_eq_true hin] at CON
          have HNE := Lib.hid (HUP.out (by rw [hBR, decide_eq_true hin]; simp))
          clear hBR hin hmk
          go_wp2_with fail
          refine CON.out.mono ?_
          rintro e w3 ⟨rfl, rfl⟩
          go_wp2_with fail
          go_roundw
          case rel => exact ⟨k + 1, by omega, by omega, by go_num, HNE.out, hbel⟩
          case measure => simp [intOf]; omega
        · rw [decide_eq_false hin] at CON hBR
          by_cases hC : m A k = 1000000000
          · have HNE := Lib.hid (HUP.out (by rw [hBR, hC]; simp))
            rw [hC] at k3
            clear hBR hin hmk hC
            go_wp2_with fail
            refine CON.out.mono ?_
            rintro e w3 ⟨rfl, rfl⟩
            go_wp2_with fail
            go_roundw
            case rel => exact ⟨k + 1, by omega, by omega, by go_num, HNE.out, hbel⟩
            case measure => simp [intOf]; omega
          · rw [decide_eq_false hC] at hBR
            simp only [Bool.not_false, Bool.and_self, if_true] at hBR
            have hpx := HPX.out k hlt hC hin
            have hplen := hpx.len
            rw [List.length_append, List.length_singleton, HPL.out] at hplen
            obtain ⟨hco, hco1, hco2⟩ := HCO.out k hC
            obtain ⟨N1, hN1⟩ : ∃ N1, P + 1 = N1 := ⟨_, rfl⟩
            have HNL := Lib.hid (show (l ++ [(k : Int)]).length = N1 by rw [List.length_append, HPL.out]; exact hN1)
            have IHC := Lib.hid (show ∀ (u : World) (v5 : Value), Below wE.heap.size wE u → RowI u wE.heap.size v5 (l ++ [(k : Int)]) → ∃ g5 cap5, v5 = .slice (some ⟨g5, 0, none⟩) N1 cap5 ∧ Calls Try.prog 58 #[.slice (some ⟨bM, oM, none⟩) n cap, .slice (some ⟨g5, 0, none⟩) N1 cap5, .int .i64 (CO + m A k), .int .i64 N] u (SchR (wcF n m N (f - 1) (l ++ [(k : Int)])) u) from fun u v5 hbu h1 => by
              obtain ⟨g5, cap5, rfl⟩ := h1.shpN HNL.out (by omega)
              obtain ⟨ad5, cap5', e5, hr5⟩ := h1.shape
              injection e5 with e5 _ _
              subst e5
              have h2 := HIH.out (f - 1) (by omega) (l ++ [(k : Int)]) _ cap5 u hpx (by rw [HNL.out]; omega) hr5 (HBWE.out.trans (hbu.mono HBWE.out.size))
              rw [hco, HNL.out] at h2
              exact ⟨g5, cap5, rfl, h2⟩)
            generalize wcF n m N (f - 1) (l ++ [(k : Int)]) = W2 at IHC hBR
            have HBR := Lib.hid hBR
            have OWA := Lib.hid (l1OwnN_c (some ⟨bp, op, none⟩) capw l wE.drew (HRE.out.below (Below.refl _ _).drew) (by rw [HPL.out]; exact y3) (by rw [HPL.out]; omega))
            have hbK := bal_alloc (o := .cells #[.int .i64 (k : Int)] 3) (Below.refl wE.heap.size wE)
            have OWB := Lib.hid (l1OwnN_c (some ⟨bp, op, none⟩) capw l (wE.alloc (.cells #[.int .i64 (k : Int)] 3)).drew (HRE.out.below hbK.drew) (by rw [HPL.out]; exact y3) (by rw [HPL.out]; omega))
            rw [HPL.out] at OWA OWB
            have HNI := Lib.hid hN1
            have hM2 : bM < wE.heap.size := Nat.lt_of_lt_of_le hbM HBWE.out.size
            have hL2 : b2 < wE.heap.size := Nat.lt_of_lt_of_le hl2 HBWE.out.size
            have gC : (m A k == 1000000000) = false := beq_eq_false_iff_ne.2 hC
            have eC : IntKind.i64.wrap (CO + m A k) = CO + m A k := i64_small (by omega) (by omega)
            have hP6 : P ≤ 100 := by omega
            have hRX := Lib.hid (readsN_one wE wE.heap.size (k : Int) rfl)
            generalize m A k = D at k3 gC eC IHC
            clear hBR hin hmk hC hco hpx hN1
            go_wp2_with fail
            refine CON.out.mono ?_
            rintro e w3 ⟨rfl, rfl⟩
            go_wp2_with fail
            go_region_held3 (fun w' => w'.cell? ⟨bM, oM + A, none⟩ = some (.slice (some ⟨b2, o2, none⟩) n c2) ∧ w'.cell? ⟨b2, o2 + k, none⟩ = some (.int .i64 D)) (with_reducible repeat' (first | apply And.intro | assumption | apply cell_alloc' | apply cell_drew'))
              (first
                | (go_at_call 104; (with_reducible refine (OWA.out).mono ?_); rintro e w2 ⟨g, c5, rfl, hrow2, _, hb2⟩; have m0 := bcell hb2 hM2 e3; have m1 := bcell hb2 hL2 k3; have HO2 := Lib.hid (hrow2.low (B' := wE.heap.size) (Nat.le_refl _)); have hbx := ball (Below.refl wE.heap.size wE).drew hb2; clear hrow2)
                | (go_at_call 104; (with_reducible refine (OWB.out).mono ?_); rintro e w2 ⟨g, c5, rfl, hrow2, _, hb2⟩; have m0 := bcell' hb2 (cell_alloc' e3); have m1 := bcell' hb2 (cell_alloc' k3); have HO2 := Lib.hid (hrow2.low (B' := wE.heap.size) (by simp)); have hbx := ball hbK.drew hb2; have HRX2 := Lib.hid (hRX.out.drew'.below hb2); clear hrow2)
                | (refine step_appI (by rfl) _ _ (by rfl) wE.heap.size (.slice (some ⟨g, 0, none⟩) P c5) (.slice (some ⟨_, 0, none⟩) 1 1) l [(k : Int)] (by rfl) (by rfl) (by (with_reducible repeat (first | exact HO2.out | apply RowI.alloc' | apply RowI.drew'))) (by (with_reducible repeat (first | exact HRX2.out | exact readsN_one _ _ _ (by simp) | apply ReadsN.alloc' | apply ReadsN.drew'))) (by (rw [HPL.out]; omega)) (by simp) (by (have := hbx.size; simp; omega)) ?_; intro v5 wm hown hbm hgr; have hb5 : Below wE.heap.size wE wm := Below.trans (by with_reducible repeat (first | exact hbx | apply Below.drew | apply bal_alloc)) hbm; have n0 := bcell hb5 hM2 e3; have n1 := bcell hb5 hL2 k3; obtain ⟨g5, cap5, rfl, hcc⟩ := IHC.out wm v5 hb5 hown; have HCC := Lib.hid hcc; clear hown hbm hgr hcc)
                | (go_at_call 58; (with_reducible refine (HCC.out).mono ?_); rintro e w6 ⟨⟨v6, rfl, hv6⟩, hb6⟩; have HV6 := Lib.hid hv6; have hb7 := ball hb5 hb6; have r0 := bcell hb7 hM2 e3; have r1 := bcell hb7 hL2 k3; clear hv6)
                | fail)
            all_goals
              have hb8 := ball hbel hb7
              clear n0 n1 r0 r1 m0 m1 e3 k3
              obtain ⟨sb, hsb⟩ : ∃ sb, W2.isSome = sb := ⟨_, rfl⟩
              rw [hsb]
              have HSB := Lib.hid hsb; clear hsb
              cases sb
              · have hw2 : W2 = none := by have := HSB.out; cases W2 with
                  | none => rfl
                  | some c => cases this
                have HNE := Lib.hid (HUP.out (by rw [HBR.out, hw2]))
                clear hw2
                go_wp2_with fail
                go_roundw
                case rel => exact ⟨k + 1, by omega, by omega, by go_num, HNE.out, hb8⟩
                case measure => simp [intOf]; omega
              · obtain ⟨c, hc⟩ : ∃ c, W2 = some c := by have := HSB.out; cases W2 with
                  | none => cases this
                  | some c => exact ⟨c, rfl⟩
                obtain ⟨av, cv, rfl, hrv⟩ := HV6.out c hc
                have hwc := HSO.out k c hk0 hlt HLOW.out (by rw [HBR.out, hc])
                have HWC := Lib.hid hwc; have HRV := Lib.hid hrv
                clear hc hwc hrv
                go_wp2_with fail
                refine bodyPost_ret (v := .tuple #[.slice av c.length cv, .bool true]) (by simp [results, Try.results58, go_sem]) rfl ?_
                rw [HWC.out]
                exact ⟨⟨_, rfl, fun c' h => by
                  injection h with h
                  subst h
                  exact ⟨av, cv, rfl, HRV.out⟩⟩, hb8⟩

def ngK (n : Nat) (X : List Int) : Nat := if X = [] then n + 1 else X.length

set_option maxHeartbeats 3200000 in
set_option maxRecDepth 100000 in
theorem sNegative_c (ad : Option Addr) (cap : Nat) (M : List (List Int)) (w : World) (hr : RdM w ad M) (hl : smM M) :
    Calls Try.prog 16 #[.slice ad M.length cap] w (LisR (ngB M) (ngX M) w) := by
  have C1 := Lib.hid (mxSquare_c ad cap M w hr (by have := hl.1; omega) (fun i hi => by have := hl.2 i hi; omega))
  have C2 := Lib.hid (fun (h : sqB M = true) (N i : Nat) (hN : N ≤ 6) (hi : i < M.length) (u : World) (hb : Below w.heap.size w u) => by
    obtain ⟨hn, _, hnum⟩ := sq_facts h
    have h3 := hr
    rw [← sq_toM h] at h3
    have hz : Below w.heap.size w (u.alloc (.cells #[.int .i64 (i : Int)] 3)) := bal_alloc hb
    have h4 := wyCircuit_c M.length ad cap (entM M) w N h3 hn hnum hN (M.length - 1) [(i : Int)] (some ⟨u.heap.size, 0, none⟩) 1 (u.alloc (.cells #[.int .i64 (i : Int)] 3)) (Pth.one _ hi) (by simp; omega) (rdI_one _ _ _ rfl) hz
    exact (show Calls Try.prog 58 #[.slice ad M.length cap, .slice (some ⟨u.heap.size, 0, none⟩) 1 1, .int .i64 0, .int .i64 N] (u.alloc (.cells #[.int .i64 (i : Int)] 3)) (SchR (refI M.length (entM M) N i) (u.alloc (.cells #[.int .i64 (i : Int)] 3))) from h4))
  have HLE := Lib.hid (bst_len M.length (entM M))
  have HLS := Lib.hid (fun N i (h : ngX M = [] ∨ N < (ngX M).length) (hi : i < M.length) => ref_less (m := entM M) h hi)
  have HFI := Lib.hid (fun (h : ngX M ≠ []) => ref_first (m := entM M) h)
  rw [show bstC M.length (entM M) = ngX M from rfl] at HLE HFI
  have HSQ := Lib.hid (fun (h : sqB M = true) => (sq_facts h).1)
  unfold ngB
  rw [show bstC M.length (entM M) = ngX M from rfl]
  have hnb := hl.1
  clear hr hl
  generalize ngX M = X at HLE HLS HFI ⊢
  generalize sqB M = S at C1 C2 HSQ ⊢
  generalize entM M = m at C2 HLS HFI
  generalize M.length = n at C1 C2 hnb HLE HLS HFI HSQ ⊢
  cases S
  · clear C2
    go_enter Try.func16, Try.ntmps16
    go_wp2_with fail
    refine C1.out.mono ?_
    rintro e w1 ⟨rfl, rfl⟩
    go_wp2_with fail
    exact bodyPost_ret (v := .tuple #[.slice none 0 0, .bool false]) (by simp [results, Try.results16, go_sem]) rfl (LisR.no _ (Below.refl _ _))
  · rw [Bool.true_and]
    have D2 := Lib.hid (C2.out rfl)
    have hn := HSQ.out rfl
    clear C2 HSQ
    have HK1 := Lib.hid (show 1 ≤ ngK n X ∧ ngK n X ≤ n + 1 by
      unfold ngK
      by_cases h : X = []
      · rw [if_pos h]; omega
      · rw [if_neg h]
        have := List.length_pos_iff.2 h
        have := HLE.out
        omega)
    have HBAD := Lib.hid (fun N i c (hN : N ≤ ngK n X) (hNn : N ≤ n) (hi : i < n) (hlow : ∀ k, k < i → refI n m N k = none) (h : refI n m N i = some c) => show X ≠ [] ∧ c = X by
      have h1 : ¬ (X = [] ∨ N < X.length) := fun h2 => by rw [HLS.out N i h2 hi] at h; cases h
      have h2 : X ≠ [] := fun h3 => h1 (Or.inl h3)
      unfold ngK at hN
      rw [if_neg h2] at hN
      obtain rfl : N = X.length := by omega
      obtain ⟨i0, g1, g2, g3⟩ := HFI.out h2
      rcases Nat.lt_trichotomy i0 i with h3 | h3 | h3
      · rw [hlow i0 h3] at g2; cases g2
      · subst h3
        rw [g2] at h
        injection h with h
        exact ⟨h2, h.symm⟩
      · rw [g3 i h3] at h; cases h)
    have HGO := Lib.hid (fun N (hN : N ≤ ngK n X) (hNn : N ≤ n) (hlow : ∀ k, k < n → refI n m N k = none) => show N + 1 ≤ ngK n X by
      unfold ngK at hN ⊢
      by_cases h : X = []
      · rw [if_pos h]; omega
      · rw [if_neg h] at hN ⊢
        rcases Nat.lt_or_ge N X.length with h2 | h2
        · omega
        · obtain rfl : N = X.length := by omega
          obtain ⟨i0, g1, g2, g3⟩ := HFI.out h
          rw [hlow i0 g1] at g2; cases g2)
    have HEND := Lib.hid (fun (h : n + 1 ≤ ngK n X) => show X = [] by
      unfold ngK at h
      by_cases h2 : X = []
      · exact h2
      · rw [if_neg h2] at h
        have := HLE.out
        omega)
    generalize ngK n X = K at HK1 HBAD HGO HEND
    go_enter Try.func16, Try.ntmps16
    go_wp2_with fail
    refine C1.out.mono ?_
    rintro e w1 ⟨rfl, rfl⟩
    clear HLS HFI HLE C1
    go_wp2_with fail
    go_loopw [4] (fun v wr => ∃ N : Nat, 1 ≤ N ∧ N ≤ K ∧ v = .int .i64 N ∧ Below w.heap.size w wr) (fun v _ => n + 1 - (intOf v).toNat)
    case atStart => exact ⟨1, Nat.le_refl _, HK1.out.1, rfl, Below.refl _ _⟩
    case round =>
      obtain ⟨wE, rfl⟩ : ∃ x : World, x = wr := ⟨_, rfl⟩
      obtain ⟨N, hN1, hNK, rfl, hbel⟩ := hrel
      have hKn := HK1.out.2
      by_cases hNn : N ≤ n
      case neg =>
        obtain rfl := HEND.out (by omega)
        have g1 : decide ((N : Int) ≤ (n : Int)) = false := decide_eq_false (by omega)
        go_wp2_with fail
        exact bodyPost_ret (v := .tuple #[.slice none 0 0, .bool false]) (by simp [results, Try.results16, go_sem]) rfl (LisR.no _ hbel)
      case pos =>
        have g1 : decide ((N : Int) ≤ (n : Int)) = true := decide_eq_true (by omega)
        go_wp2_with fail
        go_loopw [19] (fun v wr => ∃ i : Nat, i ≤ n ∧ v = .int .i64 i ∧ (∀ k, k < i → refI n m N k = none) ∧ Below w.heap.size w wr) (fun v _ => n - (intOf v).toNat)
        case atStart => exact ⟨0, Nat.zero_le _, rfl, fun k hk => by omega, hbel⟩
        case round =>
          obtain ⟨wF, rfl⟩ : ∃ x : World, x = wr := ⟨_, rfl⟩
          obtain ⟨i, hi, rfl, hlow, hbF⟩ := hrel
          have HLOW := Lib.hid hlow; clear hlow
          by_cases hlt : i < n
          case neg =>
            obtain rfl : i = n := by omega
            have hN2 := HGO.out N hNK hNn HLOW.out
            go_wp2_with fail
            go_roundw
            case rel => exact ⟨N + 1, by omega, hN2, by go_num, hbF⟩
            case measure => simp [intOf]; omega
          case pos =>
            have D3 := Lib.hid (D2.out N i (by omega) hlt wF hbF)
            have HBD := Lib.hid (fun c => HBAD.out N i c hNK hNn hlt HLOW.out)
            obtain ⟨O, hO⟩ : ∃ O, refI n m N i = O := ⟨_, rfl⟩
            rw [hO] at D3 HBD
            have HO := Lib.hid hO; clear hO
            go_wp2_with fail
            refine D3.out.mono ?_
            rintro e w6 ⟨⟨v6, rfl, hv6⟩, hb6⟩
            have HV6 := Lib.hid hv6
            have hb8 := ball (bal_alloc hbF) hb6
            clear hv6 hb6 D3
            obtain ⟨sb, hsb⟩ : ∃ sb, O.isSome = sb := ⟨_, rfl⟩
            rw [hsb]
            have HSB := Lib.hid hsb; clear hsb
            cases sb
            · have hw2 : O = none := by have := HSB.out; cases O with
                | none => rfl
                | some c => cases this
              have HNE := Lib.hid (show ∀ k, k < i + 1 → refI n m N k = none from fun k hk => by
                by_cases e : k = i
                · subst e; rw [HO.out, hw2]
                · exact HLOW.out k (by omega))
              clear hw2
              go_wp2_with fail
              go_roundw
              case rel => exact ⟨i + 1, by omega, by go_num, HNE.out, hb8⟩
              case measure => simp [intOf]; omega
            · obtain ⟨c, hc⟩ : ∃ c, O = some c := by have := HSB.out; cases O with
                | none => cases this
                | some c => exact ⟨c, rfl⟩
              obtain ⟨hX, hcX⟩ := HBD.out c hc
              obtain ⟨av, cv, rfl, hrv⟩ := HV6.out c hc
              rw [hcX] at hrv ⊢
              have HX := Lib.hid hX; have HRV := Lib.hid hrv
              clear hc hX hcX hrv HBD
              obtain ⟨XL, hXL⟩ : ∃ XL, X.length = XL := ⟨_, rfl⟩
              rw [hXL]
              have HXL := Lib.hid hXL; clear hXL
              go_wp2_with fail
              refine bodyPost_ret (v := .tuple #[.slice av XL cv, .bool true]) (by simp [results, Try.results16, go_sem]) rfl ?_
              rw [decide_eq_false HX.out]
              exact LisR.yes HRV.out HXL.out hb8
end Go.Proofs.Ytbffcbjbeeagmaa
