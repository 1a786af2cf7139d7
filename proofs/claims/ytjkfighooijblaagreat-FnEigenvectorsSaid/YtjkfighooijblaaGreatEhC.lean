/-
  Some texts of this proof in one: EhC EhD EhE. Each part tells what it proves. By an AI agent.
-/
import Derived.Test.YtjkfighooijblaaGreatEhB
import Derived.Test.YtjkfighooijblaaGreatEgG
import Derived.Test.YtjkfighooijblaaGreatEgV

/-
  Marked nodes, shorter arcs, and whether a matrix is connected: the program's. By an AI agent.
-/
namespace Go.Proofs.YtjkfighooijblaaGreat
open Go.RowKit

def mkL (mk : Nat → Bool) : Nat → List Int
  | 0 => []
  | n + 1 => mkL mk n ++ (if mk n = true then [(n : Int)] else [])
theorem mkL_len (mk : Nat → Bool) : ∀ n, (mkL mk n).length ≤ n
  | 0 => by simp [mkL]
  | n + 1 => by
    have := mkL_len mk n
    unfold mkL
    rw [List.length_append]
    split <;> simp <;> omega
theorem mkL_mem {mk : Nat → Bool} : ∀ {n : Nat} {x : Int}, x ∈ mkL mk n ↔ ∃ k : Nat, k < n ∧ x = k ∧ mk k = true
  | 0, x => by simp [mkL]
  | n + 1, x => by
    unfold mkL
    rw [List.mem_append, mkL_mem]
    constructor
    · rintro (⟨k, h1, h2, h3⟩ | h)
      · exact ⟨k, by omega, h2, h3⟩
      · split at h
        · rename_i g
          exact ⟨n, by omega, List.mem_singleton.1 h, g⟩
        · cases h
    · rintro ⟨k, h1, h2, h3⟩
      by_cases e : k = n
      · subst e
        right
        rw [if_pos h3, h2]
        simp
      · exact Or.inl ⟨k, by omega, h2, h3⟩

set_option maxHeartbeats 1600000 in
set_option maxRecDepth 100000 in
theorem markedOf_c (n U : Nat) (mk : Nat → Bool) (w : World) (ho : Own w U 4 (tab n fun k => .bool (mk k))) (hn : n ≤ 6) :
    Calls Tryz.prog 27 #[.slice (some ⟨U, 0, none⟩) n n] w fun e w' => ∃ av cv, e = .returned (.slice av (mkL mk n).length cv) ∧ RowI w' w.heap.size (.slice av (mkL mk n).length cv) (mkL mk n) ∧ Below w.heap.size w w' := by
  have HOW := Lib.hid ho
  have HO0 := Lib.hid (rowI_new w w.heap.size w.heap.size (Nat.le_refl _) rfl)
  have hb0 : Below w.heap.size w (w.alloc (.cells #[] 3)) := (Below.refl _ _).alloc (Nat.le_refl _) _
  clear ho
  go_enter Tryz.func27, Tryz.ntmps27
  go_wp2_with fail
  go_loopw [3, 9] (fun v i wr => ∃ k : Nat, k ≤ n ∧ i = .int .i64 k ∧ RowI wr w.heap.size v (mkL mk k) ∧ Below w.heap.size w wr) (fun _ i _ => n - (intOf i).toNat)
  case atStart => exact ⟨0, Nat.zero_le _, rfl, HO0.out, hb0⟩
  case round =>
    obtain ⟨wE, rfl⟩ : ∃ x : World, x = wr := ⟨_, rfl⟩
    obtain ⟨k, hk, rfl, hrow, hbel⟩ := hrel
    obtain ⟨adr, car, rfl⟩ := row_shp hrow
    have HO := Lib.hid hrow; clear hrow
    have hsz := hbel.size
    by_cases hlt : k < n
    case neg =>
      obtain rfl : k = n := by omega
      go_wp2_with fail
      go_ret
      exact ⟨adr, car, rfl, HO.out, hbel⟩
    case pos =>
      have hou := HOW.out.below hbel HOW.out.lt
      have k1 := hou.cell? (tab_get hlt)
      have HSN := Lib.hid (show mkL mk (k + 1) = mkL mk k ++ (if mk k = true then [(k : Int)] else []) from rfl)
      have hlk := mkL_len mk k
      generalize mkL mk k = R at HO HSN hlk ⊢
      have x1 : (0 : Int) ≤ (k : Int) := by omega
      have x2 : (k : Int) < (n : Int) := by omega
      generalize mk k = t at k1 HSN
      obtain ⟨N, hN⟩ : ∃ N, R.length = N := ⟨_, rfl⟩
      have HN := Lib.hid hN
      rw [hN] at HO hlk ⊢
      clear hou hN
      cases t
      · have HSN2 := Lib.hid (show mkL mk (k + 1) = R by rw [HSN.out]; simp)
        clear HSN
        go_wp2_with fail
        go_roundw
        case rel => exact ⟨k + 1, by omega, by go_num, by rw [HSN2.out]; exact HO.out, hbel⟩
        case measure => simp [intOf]; omega
      · have HSN2 := Lib.hid (show mkL mk (k + 1) = R ++ [(k : Int)] by rw [HSN.out]; simp)
        clear HSN
        go_wp2_with (at_builtin; refine wpList_appN rfl _ _ rfl w.heap.size _ 0 1 _ R [(k : Int)] (N + 1) (by rw [HN.out]; rfl) rfl rfl (RowI.alloc' HO.out) (rdI_one _ _ _ rfl) (by rw [HN.out]; omega) (by simp) (by simp; omega) ?_; intro v5 wm hown hsh hbm hgr)
        have hb5 := (bal_alloc (o := .cells #[.int .i64 (k : Int)] 3) hbel).trans hbm
        rw [← HSN2.out] at hown
        have HO5 := Lib.hid hown; clear hown hsh hgr hbm
        go_wp2_with fail
        go_roundw
        case rel => exact ⟨k + 1, by omega, by go_num, HO5.out, hb5⟩
        case measure => simp [intOf]; omega

theorem sh_row {n : Nat} (m : Nat → Nat → Int) (x : Int) (k : Nat) : (tab n (m k)).map (fun y => prodZ y (-x)) = tab n (shF m x k) := by
  unfold tab shF
  rw [List.map_map]
  rfl
set_option maxHeartbeats 1600000 in
set_option maxRecDepth 100000 in
theorem shorter_c (n : Nat) (ad : Option Addr) (cap : Nat) (m : Nat → Nat → Int) (x : Int) (w : World) (hr : RdM w ad (toM n m)) (hn : 1 ≤ n ∧ n ≤ 6) (hnum : ∀ a b, a < n → b < n → numB (m a b) = true) (hx : -1000000 ≤ x ∧ x ≤ 1000000) :
    Calls Tryz.prog 24 #[.slice ad n cap, .int .i64 x] w fun e w' => ∃ av cv vs, e = .returned (.slice av n cv) ∧ MatO w' w.heap.size (.slice av n cv) (toM n (shF m x)) vs ∧ Below w.heap.size w w' := by
  have HR := Lib.hid hr
  have HNUM := Lib.hid hnum
  clear hr hnum
  have HN := Lib.hid (MatO.empty w w.heap.size w.heap.size (Nat.le_refl _) rfl)
  have hb0 : Below w.heap.size w (w.alloc (.cells #[] 25)) := (Below.refl _ _).alloc (Nat.le_refl _) _
  have hneg : IntKind.i64.wrap (-x) = -x := i64_small (by omega) (by omega)
  go_enter Tryz.func24, Tryz.ntmps24
  go_wp2_with fail
  go_loopw [5, 11] (fun v i wr => ∃ (k : Nat) (vs : List Value), k ≤ n ∧ i = .int .i64 k ∧ MatO wr w.heap.size v (tab k fun i => tab n (shF m x i)) vs ∧ Below w.heap.size w wr) (fun _ i _ => n - (intOf i).toNat)
  case atStart => exact ⟨0, [], Nat.zero_le _, rfl, HN.out, hb0⟩
  case round =>
    obtain ⟨wE, rfl⟩ : ∃ x : World, x = wr := ⟨_, rfl⟩
    obtain ⟨k, vs, hk, rfl, hmat, hbel⟩ := hrel
    obtain ⟨adv, cav, rfl, _⟩ := hmat.shape
    have HM := Lib.hid hmat; clear hmat
    have htl : (tab k fun i => tab n (shF m x i)).length = k := tab_length _ _
    rw [htl] at HM ⊢
    by_cases hlt : k < n
    case neg =>
      obtain rfl : k = n := by omega
      go_wp2_with fail
      go_ret
      exact ⟨adv, cav, vs, rfl, HM.out, hbel⟩
    case pos =>
      obtain ⟨b, off, a, c, rfl, hb, cc, hri⟩ := HR.out k (by rw [toM_len]; exact hlt)
      rw [toM_row _ hlt] at cc hri
      rw [tab_length] at cc
      have dd := bcell hbel hb cc
      have hsh := shifted_c a c (tab n (m k)) (-x) wE (hri.below hbel) (by rw [tab_length]; omega) (by rw [tab_length]; omega) (by omega) (fun i hi => by
        rw [tab_length] at hi
        rw [tab_getD hi]
        have := numB_t (HNUM.out k i hlt hi)
        omega)
      rw [tab_length, sh_row] at hsh
      have CC := Lib.hid hsh
      have HSN := Lib.hid (tab_succ k fun i => tab n (shF m x i))
      have x1 : (0 : Int) ≤ (k : Int) := by omega
      have x2 : (k : Int) < (n : Int) := by omega
      have hsz := hbel.size
      obtain ⟨L, hL⟩ : ∃ L, (tab k fun i => tab n (shF m x i)) = L := ⟨_, rfl⟩
      rw [hL] at HM HSN htl
      generalize tab n (shF m x k) = r at CC HSN
      have HTL := Lib.hid htl
      clear hL htl cc hri hsh
      go_wp2_with fail
      refine CC.out.mono ?_
      rintro e w1 ⟨g, c1, rfl, hrow, hb1⟩
      have hg := (World.ownsRow.lt hrow g rfl).1
      have hM1 := HM.out.below hb1
      have hlow := HM.out.low
      have hsz1 := hb1.size
      have HX := Lib.hid (CellO.of_row (hrow.low (B' := w.heap.size) hsz))
      have HM1 := Lib.hid hM1; have HLOW := Lib.hid hlow
      have HG := Lib.hid hg
      clear hrow hM1 hlow CC HM hg
      go_wp2_with (at_builtin; refine wpList_appM rfl _ _ rfl w.heap.size wE.heap.size w1.heap.size _ (.slice (some ⟨g, 0, none⟩) n c1) L vs r (k + 1) (by rw [HTL.out]) rfl rfl (by simp [go_sem]) (HM1.out.below ((Below.refl _ _).alloc (Nat.le_refl _) _)) (HX.out.below ((Below.refl _ _).alloc (Nat.le_refl _) _)) (fun q hq => by cases hq; exact HG.out) HLOW.out (by rw [HTL.out]; omega) (by simp; omega) ?_; intro ad5 cap5 wm hmat5 hbm)
      have hb3 := ((hbel.trans (hb1.mono hsz)).alloc (by omega) (.cells #[.slice (some ⟨g, 0, none⟩) n c1] 25)).trans hbm
      rw [← HSN.out] at hmat5
      have HM5 := Lib.hid hmat5; clear hmat5 hbm
      go_wp2_with fail
      go_roundw
      case rel => exact ⟨k + 1, _, by omega, by go_num, HM5.out, hb3⟩
      case measure => simp [intOf]; omega
end Go.Proofs.YtjkfighooijblaaGreat

/-
  Whether a matrix is connected: the program's. By an AI agent.
-/
namespace Go.Proofs.YtjkfighooijblaaGreat
open Go.RowKit

/-- the arcs up to a place are 0. -/
def zrF (m : Nat → Nat → Int) (i k : Nat) (a c : Nat) : Int := if a < i ∨ (a = i ∧ c < k) then zeF m a c else m a c
theorem zr_row {n : Nat} (m : Nat → Nat → Int) (i : Nat) : toM n (zrF m i n) = toM n (zrF m (i + 1) 0) := toM_congr fun a c _ hc => by
  unfold zrF
  by_cases h : a < i ∨ (a = i ∧ c < n)
  · rw [if_pos h, if_pos (by omega)]
  · rw [if_neg h, if_neg (by omega)]
theorem zr_set {n : Nat} (m : Nat → Nat → Int) {i k : Nat} (hne : m i k ≠ 1000000000) : toM n (fun a c => if a = i ∧ c = k then 0 else zrF m i k a c) = toM n (zrF m i (k + 1)) := toM_congr fun a c _ _ => by
  unfold zrF
  by_cases h : a = i ∧ c = k
  · obtain ⟨rfl, rfl⟩ := h
    rw [if_pos ⟨rfl, rfl⟩, if_pos (by omega)]
    unfold zeF
    rw [if_neg hne]
  · rw [if_neg h]
    by_cases g : a < i ∨ (a = i ∧ c < k)
    · rw [if_pos g, if_pos (by omega)]
    · rw [if_neg g, if_neg (by omega)]
theorem zr_skip {n : Nat} (m : Nat → Nat → Int) {i k : Nat} (he : m i k = 1000000000) : toM n (zrF m i k) = toM n (zrF m i (k + 1)) := toM_congr fun a c _ _ => by
  unfold zrF
  by_cases g : a < i ∨ (a = i ∧ c < k)
  · rw [if_pos g, if_pos (by omega)]
  · rw [if_neg g]
    by_cases h : a = i ∧ c = k
    · obtain ⟨rfl, rfl⟩ := h
      rw [if_pos (by omega)]
      unfold zeF
      rw [if_pos he]
      exact he
    · rw [if_neg (by omega)]
theorem ze_bd2 {n : Nat} (m : Nat → Nat → Int) : bd2 n (zeF m) := fun a b _ _ => by
  unfold zeF
  split
  · left; rfl
  · right; omega
theorem ze_ok {n : Nat} (m : Nat → Nat → Int) (hn6 : n ≤ 6) : ∀ i, i < n → 0 ≤ fwK n (fw0 (zeF m)) n i i := (ways_ok2 (ze_bd2 m) hn6).2 fun _ _ hi hk => closed_fix2 (ze_bd2 m) hn6 zeF_closed hi hk
theorem ze_any {n : Nat} {m : Nat → Nat → Int} (hn6 : n ≤ 6) : ((!(toM n (fwK n (fw0 (zeF m)) n)).any fun r => decide ((1000000000 : Int) ∈ r)) = true) ↔ strP n m := by
  rw [← ze_strong hn6, Bool.not_eq_true', List.any_eq_false]
  constructor
  · intro h i k hi hk e
    have h1 : tab n (fwK n (fw0 (zeF m)) n i) ∈ toM n (fwK n (fw0 (zeF m)) n) := List.mem_map.2 ⟨i, List.mem_range.2 hi, rfl⟩
    refine h _ h1 (decide_eq_true ?_)
    refine List.mem_map.2 ⟨k, List.mem_range.2 hk, ?_⟩
    rw [ways_eq2 (ze_bd2 m) hn6 (ze_ok m hn6) hi hk]
    exact e
  · intro h r hr hd
    obtain ⟨i, hi, rfl⟩ := List.mem_map.1 hr
    obtain ⟨k, hk, e⟩ := List.mem_map.1 (of_decide_eq_true hd)
    have hi := List.mem_range.1 hi
    have hk := List.mem_range.1 hk
    rw [ways_eq2 (ze_bd2 m) hn6 (ze_ok m hn6) hi hk] at e
    exact h i k hi hk e

set_option maxHeartbeats 400000 in
theorem isStrong1_c (ad : Option Addr) (cap : Nat) (r : List Int) (w : World) (hr : RdI w ad r) (hl : r.length ≤ 1048576) :
    Calls Tryz.prog 57 #[.slice ad r.length cap] w fun e w' => e = .returned (.bool (decide ((1000000000 : Int) ∈ r))) ∧ Below w.heap.size w w' := by
  have C := Lib.hid (containsW ad cap r 1000000000 w hl hr)
  clear hr hl
  generalize r.length = N at C ⊢
  generalize decide ((1000000000 : Int) ∈ r) = b at C ⊢
  go_enter Tryz.func57, Tryz.ntmps57
  go_wp2_with fail
  refine C.out.mono ?_
  rintro e w1 ⟨rfl, rfl⟩
  go_wp2_with fail
  go_ret
  exact ⟨rfl, Below.refl _ _⟩

set_option maxHeartbeats 6400000 in
set_option maxRecDepth 100000 in
theorem isStrong_c (n : Nat) (ad : Option Addr) (cap : Nat) (m : Nat → Nat → Int) (w : World) (hr : RdM w ad (toM n m)) (hn : 1 ≤ n ∧ n ≤ 6) :
    Calls Tryz.prog 21 #[.slice ad n cap] w fun e w' => ∃ b, e = .returned (.bool b) ∧ (b = true ↔ strP n m) ∧ Below w.heap.size w w' := by
  have cc := clones_c ad cap (toM n m) w hr (by rw [toM_len]; omega) (fun i hi => by rw [toM_len] at hi; rw [toM_row m hi, tab_length]; omega)
  rw [toM_len] at cc
  have CC := Lib.hid cc
  have HR := Lib.hid hr
  have HOK := Lib.hid (ze_ok (n := n) m hn.2)
  have HANY := Lib.hid (ze_any (n := n) (m := m) hn.2)
  have HBD := Lib.hid (ze_bd2 (n := n) m)
  clear hr cc
  go_enter Tryz.func21, Tryz.ntmps21
  go_wp2_with fail
  refine CC.out.mono ?_
  rintro e w1 ⟨v, rfl, ⟨vs, hmat⟩, hb1⟩
  clear CC
  obtain ⟨g, cv, rfl, hg, _⟩ := hmat.cells (by rw [toM_len]; omega)
  rw [toM_len] at hmat ⊢
  have HM1 := Lib.hid (show MatO w1 w.heap.size (.slice (some ⟨g, 0, none⟩) n cv) (toM n (zrF m 0 0)) vs by rw [show toM n (zrF m 0 0) = toM n m from toM_congr fun i j _ _ => by unfold zrF; rw [if_neg (by omega)]]; exact hmat)
  clear hmat
  go_wp2_with fail
  go_loopw [14] (fun i wr => ∃ k : Nat, k ≤ n ∧ i = .int .i64 k ∧ MatO wr w.heap.size (.slice (some ⟨g, 0, none⟩) n cv) (toM n (zrF m k 0)) vs ∧ Below w.heap.size w wr) (fun i _ => n - (intOf i).toNat)
  case atStart => exact ⟨0, Nat.zero_le _, rfl, HM1.out, hb1⟩
  case round =>
    obtain ⟨wE, rfl⟩ : ∃ x : World, x = wr := ⟨_, rfl⟩
    obtain ⟨i, hi, rfl, hmat, hbel⟩ := hrel
    have HME := Lib.hid hmat; clear hmat HM1
    by_cases hlt : i < n
    case pos =>
      obtain ⟨bM, oM, rfl, hbM, hrow⟩ := HR.out.rowF (by omega)
      obtain ⟨b2, o2, c2, e2, hl2, hc2⟩ := hrow i hlt
      have e2 := bcell hbel hbM e2
      have HC2 := Lib.hid hc2
      clear hrow hc2
      go_wp2_with fail
      go_loopw [21] (fun i' wr => ∃ k : Nat, k ≤ n ∧ i' = .int .i64 k ∧ MatO wr w.heap.size (.slice (some ⟨g, 0, none⟩) n cv) (toM n (zrF m i k)) vs ∧ Below w.heap.size w wr) (fun i _ => n - (intOf i).toNat)
      case atStart => exact ⟨0, Nat.zero_le _, rfl, HME.out, hbel⟩
      case round =>
        obtain ⟨wK, rfl⟩ : ∃ x : World, x = wr := ⟨_, rfl⟩
        obtain ⟨k, hk, rfl, hmat, hbelK⟩ := hrel
        by_cases hlk : k < n
        case pos =>
          have q1 := bcell hbelK hl2 (HC2.out k hlk)
          have x1 : (0 : Int) ≤ (k : Int) := by omega
          have x2 : (k : Int) < (n : Int) := by omega
          by_cases hC : m i k = 1000000000
          · have HNX := Lib.hid (show MatO wK w.heap.size (.slice (some ⟨g, 0, none⟩) n cv) (toM n (zrF m i (k + 1))) vs by rw [← zr_skip m hC]; exact hmat)
            rw [hC] at q1
            clear hmat hC
            go_wp2_with fail
            go_roundw
            case rel => exact ⟨k + 1, by omega, by go_num, HNX.out, hbelK⟩
            case measure => simp [intOf]; omega
          · obtain ⟨_, gl, hou⟩ := hmat.outer (by omega)
            obtain ⟨b, o, c, eb, hBb, bl, hcell, hset⟩ := hmat.rowF hlt
            have c0 := hou i hlt
            rw [eb] at c0
            obtain ⟨k1, k2⟩ := hcell k hlk
            have hst := hset k 0 hlk
            rw [zr_set m hC] at hst
            have HST := Lib.hid hst
            have hbs := hbelK.setCell (p := ⟨b, o + k, none⟩) hBb (.int .i64 0)
            have g1 : (m i k != 1000000000) = true := bne_iff_ne.2 hC
            have x3 : (0 : Int) ≤ (i : Int) := by omega
            have x4 : (i : Int) < (n : Int) := by omega
            generalize zrF m i k i k = Z at k1
            generalize m i k = C at q1 g1
            clear hmat hou hcell hset hst hC
            go_wp2_with fail
            go_roundw
            case rel => exact ⟨k + 1, by omega, by go_num, HST.out, hbs⟩
            case measure => simp [intOf]; omega
        case neg =>
          obtain rfl : k = n := by omega
          have HNX := Lib.hid (show MatO wK w.heap.size (.slice (some ⟨g, 0, none⟩) k cv) (toM k (zrF m (i + 1) 0)) vs by rw [← zr_row]; exact hmat)
          clear hmat
          go_wp2_with fail
          go_roundw
          case rel => exact ⟨i + 1, by omega, by go_num, HNX.out, hbelK⟩
          case measure => simp [intOf]; omega
    case neg =>
      obtain rfl : i = n := by omega
      have HM2 := Lib.hid (show MatO wE w.heap.size (.slice (some ⟨g, 0, none⟩) i cv) (toM i (zeF m)) vs by rw [show toM i (zeF m) = toM i (zrF m i 0) from toM_congr fun a c ha _ => by unfold zrF; rw [if_pos (Or.inl ha)]]; exact HME.out)
      have C3 := Lib.hid (wayCostsB_c i (zeF m) (some ⟨g, 0, none⟩) cv wE HM2.out.rd hn HBD.out)
      obtain ⟨D, hD⟩ : ∃ D, fwK i (fw0 (zeF m)) i = D := ⟨_, rfl⟩
      rw [hD] at C3 HOK HANY
      have HOKD := Lib.hid (show okF i D = true from okF_t.2 HOK.out)
      clear HME hD HOK HM2
      go_wp2_with fail
      refine C3.out.mono ?_
      rintro e w2 ⟨hr1, -, hb2⟩
      obtain ⟨adv, cav, rfl, vs2, hmat2⟩ := hr1 HOKD.out
      have C4 := Lib.hid (containsM0 57 (fun r => decide ((1000000000 : Int) ∈ r)) adv cav (toM i D) w2 (by rw [toM_len]; omega) hmat2.rd
        (callFunc_plainM Tryz.func57 (by kernel_rfl) (by kernel_rfl)) (fun j hj a c u _ h => isStrong1_c a c _ u h (by rw [toM_len] at hj; rw [toM_row _ hj, tab_length]; omega)))
      rw [toM_len] at C4
      generalize ((toM i D).any fun r => decide ((1000000000 : Int) ∈ r)) = B at C4 HANY
      have hb2 := ball hbel hb2
      clear hr1 hmat2 C3
      go_wp2_with fail
      refine C4.out.mono ?_
      rintro e w3 ⟨rfl, hb3⟩
      go_wp2_with fail
      go_ret
      exact ⟨!B, rfl, HANY.out, ball hb2 hb3⟩
end Go.Proofs.YtjkfighooijblaaGreat

/-
  The least mean where it is whole: plain. By an AI agent.
-/
namespace Go.Proofs.YtjkfighooijblaaGreat
open Go.RowKit

theorem smN_bdE {f : Nat → Int} {K : Int} : ∀ {s : Nat}, (∀ t, t < s → -K ≤ f t ∧ f t ≤ K) → -(K * (s : Int)) ≤ smN f s ∧ smN f s ≤ K * (s : Int)
  | 0, _ => by simp [smN]
  | s + 1, h => by
    have h1 := smN_bdE (s := s) (fun t ht => h t (by omega))
    have h2 := h s (by omega)
    have e : K * ((s + 1 : Nat) : Int) = K * (s : Int) + K := by rw [Int.natCast_add, Int.mul_add]; simp
    show _ ≤ smN f s + f s ∧ smN f s + f s ≤ _
    omega
theorem sumC_bd {n : Nat} {m : Nat → Nat → Int} {c : List Int} (hm : ∀ a b, a < n → b < n → numB (m a b) = true) (h : Cr0 n m c) : -(1000000 * (c.length : Int)) ≤ sumC m c ∧ sumC m c ≤ 1000000 * (c.length : Int) := smN_bdE fun t ht => by
  have h1 : nxV c t < n := by
    unfold nxV
    split
    · exact (vt_at h.pth.vt (by omega)).2
    · exact h.pth.hd
  have h2 := numB_t (hm _ _ (vt_at h.pth.vt ht).2 h1)
  have h3 := h.arc ht
  omega
/-- a whole mean. -/
theorem me_whole {n : Nat} {m : Nat → Nat → Int} {c : List Int} (hm : ∀ a b, a < n → b < n → numB (m a b) = true) (h : Cr0 n m c) (hd : (meC m c).d = 1) : sumC m c = (meC m c).n * (c.length : Int) ∧ -1000000 ≤ (meC m c).n ∧ (meC m c).n ≤ 1000000 := by
  have hp := h.pth.pos
  have hb := sumC_bd hm h
  obtain ⟨s, h0, h1, h2, h3⟩ := low_pos (n := sumC m c) (d := (c.length : Int)) (by omega)
  have hd' : (lowF (sumC m c) (c.length : Int)).d = 1 := hd
  rw [hd', Int.mul_one] at h2
  have e : sumC m c = (meC m c).n * (c.length : Int) := by
    rw [Int.mul_comm, h2]
    exact h1
  refine ⟨e, ?_⟩
  rw [e] at hb
  have hl : (0 : Int) < (c.length : Int) := by omega
  constructor
  · refine Int.le_of_mul_le_mul_right ?_ hl
    have : -1000000 * (c.length : Int) = -(1000000 * (c.length : Int)) := by omega
    omega
  · exact Int.le_of_mul_le_mul_right hb.2 hl
theorem allC_cr {n : Nat} {m : Nat → Nat → Int} {c : List Int} (h : c ∈ allC n m n) : Cr0 n m c := by
  unfold allC at h
  obtain ⟨i, hi, hc⟩ := List.mem_flatMap.1 h
  obtain ⟨h1, h2, _⟩ := cirF_good (n - 1) (Pth.one m (List.mem_range.1 hi)) hc
  exact ⟨h1, h2⟩
theorem allC_ne {n : Nat} {m : Nat → Nat → Int} : ∀ c ∈ allC n m n, c ≠ [] := fun c hc e => by
  have := (allC_cr hc).pth.pos
  rw [e] at this
  simp at this
theorem mnC_mem {n : Nat} {m : Nat → Nat → Int} (h : mnC m (allC n m n) ≠ []) : mnC m (allC n m n) ∈ allC n m n := by
  rcases mnC_spec (m := m) (allC_ne (n := n) (m := m)) with ⟨g, _⟩ | ⟨g, _⟩
  · exact absurd g h
  · exact g

/-! ### the program's eigenvector -/
def lmB (n : Nat) (m : Nat → Nat → Int) : List Int := mnC m (allC n m n)
def lmF (n : Nat) (m : Nat → Nat → Int) : Fr := meB m (lmB n m)
def lmK (n : Nat) (m : Nat → Nat → Int) (k : Nat) : Bool := markB m (allC n m n) (lmB n m) k
def lmQ (n : Nat) (m : Nat → Nat → Int) : Nat := vx (mkL (lmK n m) n) 0
def eiV (n : Nat) (m : Nat → Nat → Int) (j : Nat) : Int := bf n (shF m (lmF n m).n) n j (lmQ n m)
/-- what is asked, but that the numbers are small. -/
structure EvP (n : Nat) (m : Nat → Nat → Int) : Prop where
  str : strP n m
  ne : lmB n m ≠ []
  den : (lmF n m).d = 1
theorem lmF_ne {n : Nat} {m : Nat → Nat → Int} (h : lmB n m ≠ []) : lmF n m = meC m (lmB n m) := by
  unfold lmF meB
  rw [if_neg h]
/-- the first marked node, and a circuit of the least mean through it. -/
theorem lmQ_spec {n : Nat} {m : Nat → Nat → Int} (h : lmB n m ≠ []) : lmQ n m < n ∧ 0 < (mkL (lmK n m) n).length ∧ (mkL (lmK n m) n).getD 0 0 = (lmQ n m : Int) ∧ lmK n m (lmQ n m) = true := by
  have hm := mnC_mem h
  have hc := allC_cr hm
  have hp := hc.pth.pos
  have hx : ((vx (lmB n m) 0 : Nat) : Int) ∈ mkL (lmK n m) n := mkL_mem.2 ⟨vx (lmB n m) 0, hc.pth.hd, rfl, markB_t.2 ⟨lmB n m, hm, eqC_refl m _, by
    obtain ⟨e, _⟩ := vt_at hc.pth.vt (t := 0) (by omega)
    show ((vx (mnC m (allC n m n)) 0 : Nat) : Int) ∈ mnC m (allC n m n)
    rw [← e, List.getD_eq_getElem?_getD, List.getElem?_eq_getElem (by omega)]
    exact List.getElem_mem _⟩⟩
  have hl := List.length_pos_of_mem hx
  have hg : (mkL (lmK n m) n).getD 0 0 ∈ mkL (lmK n m) n := by
    rw [List.getD_eq_getElem?_getD, List.getElem?_eq_getElem hl]
    exact List.getElem_mem _
  obtain ⟨k, h1, h2, h3⟩ := mkL_mem.1 hg
  have e : lmQ n m = k := by
    unfold lmQ vx
    rw [h2]
    simp
  rw [e]
  exact ⟨h1, hl, h2, h3⟩
theorem ev_facts {n : Nat} {m : Nat → Nat → Int} (hm : ∀ a b, a < n → b < n → numB (m a b) = true) (h : lmB n m ≠ []) (hd : (lmF n m).d = 1) : (-1000000 ≤ (lmF n m).n ∧ (lmF n m).n ≤ 1000000) ∧ (∀ l, Cir n m l → (lmF n m).n * (l.length : Int) ≤ sumC m l) ∧ ∀ y c s, Wk n (shF m (lmF n m).n) y y c s → 0 ≤ c := by
  have hc := allC_cr (mnC_mem h)
  have e := lmF_ne h
  rw [e] at hd ⊢
  obtain ⟨h1, h2⟩ := me_whole hm hc hd
  have h3 := mn_least h h1 (fun x hx => allC_ne x hx)
  exact ⟨h2, h3, (closed_iff hm h2).2 h3⟩
theorem ev_ok {n : Nat} {m : Nat → Nat → Int} (hn6 : n ≤ 6) (hm : ∀ a b, a < n → b < n → numB (m a b) = true) (h : lmB n m ≠ []) (hd : (lmF n m).d = 1) : ∀ i, i < n → 0 ≤ fwK n (fw0 (shF m (lmF n m).n)) n i i := by
  obtain ⟨h1, _, h3⟩ := ev_facts hm h hd
  exact (ways_ok2 (shF_bd hm h1) hn6).2 fun _ _ hi hk => closed_fix2 (shF_bd hm h1) hn6 h3 hi hk
theorem ev_val {n : Nat} {m : Nat → Nat → Int} (hn6 : n ≤ 6) (hm : ∀ a b, a < n → b < n → numB (m a b) = true) (h : lmB n m ≠ []) (hd : (lmF n m).d = 1) : (tab n fun j => fwK n (fw0 (shF m (lmF n m).n)) n j (lmQ n m)) = tab n (eiV n m) := tab_congr fun _ hj => ways_eq2 (shF_bd hm (ev_facts hm h hd).1) hn6 (ev_ok hn6 hm h hd) hj (lmQ_spec h).1
end Go.Proofs.YtjkfighooijblaaGreat
