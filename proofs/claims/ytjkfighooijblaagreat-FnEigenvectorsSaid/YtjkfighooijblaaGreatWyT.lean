/-
  Some texts of this proof in one: WyT WzA WzB WzE. Each part tells what it proves. By an AI agent.
-/
import Derived.Test.YtjkfighooijblaaGreatWyS
import Derived.Test.YtjkfighooijblaaGreatWzP

/-
  The first cheapest way: the reference's. By an AI agent.
-/
namespace Go.Proofs.YtjkfighooijblaaGreat
open Go.RowKit

theorem fst_spec (p : Nat → Bool) : ∀ (f k : Nat), (∃ j, k ≤ j ∧ j < k + f ∧ p j = true) → k ≤ fstN p f k ∧ fstN p f k < k + f ∧ p (fstN p f k) = true ∧ ∀ i, k ≤ i → i < fstN p f k → p i = false
  | 0, k, ⟨j, h1, h2, _⟩ => by omega
  | f + 1, k, ⟨j, h1, h2, h3⟩ => by
    unfold fstN
    by_cases e : p k = true
    · rw [if_pos e]
      exact ⟨Nat.le_refl _, by omega, e, fun i h4 h5 => by omega⟩
    · rw [if_neg e]
      obtain ⟨a1, a2, a3, a4⟩ := fst_spec p f (k + 1) ⟨j, by
        by_cases e2 : j = k
        · subst e2; exact absurd h3 e
        · omega, by omega, h3⟩
      refine ⟨by omega, by omega, a3, fun i h4 h5 => ?_⟩
      by_cases e2 : i = k
      · subst e2; simpa using e
      · exact a4 i (by omega) h5
theorem chK_spec {n : Nat} {m : Nat → Nat → Int} {b s a : Nat} (h : exF n m b (s + 1) a ≠ 1000000000) : chK n m b s a < n ∧ (m a (chK n m b s a) ≠ 1000000000 ∧ prodZ (m a (chK n m b s a)) (exF n m b s (chK n m b s a)) = exF n m b (s + 1) a) ∧ (∀ i, i < chK n m b s a → ¬ (m a i ≠ 1000000000 ∧ prodZ (m a i) (exF n m b s i) = exF n m b (s + 1) a)) ∧ exF n m b s (chK n m b s a) ≠ 1000000000 := by
  obtain ⟨k, h1, h2, h3, h4⟩ := ex_next h
  obtain ⟨_, a2, a3, a4⟩ := fst_spec (fun k => !(m a k == 1000000000) && decide (prodZ (m a k) (exF n m b s k) = exF n m b (s + 1) a)) n 0 ⟨k, Nat.zero_le _, by omega, by simp [h2, h4]⟩
  have a2 : chK n m b s a < n := by unfold chK; omega
  have a3 : m a (chK n m b s a) ≠ 1000000000 ∧ prodZ (m a (chK n m b s a)) (exF n m b s (chK n m b s a)) = exF n m b (s + 1) a := by
    have : (!(m a (chK n m b s a) == 1000000000) && decide (prodZ (m a (chK n m b s a)) (exF n m b s (chK n m b s a)) = exF n m b (s + 1) a)) = true := a3
    simpa using this
  refine ⟨a2, a3, fun i hi hc => ?_, ?_⟩
  · have := a4 i (Nat.zero_le _) hi
    simp [hc.1, hc.2] at this
  · rw [← a3.2] at h
    exact (prodZ_ne h).2.1
theorem chS_spec {n : Nat} {m : Nat → Nat → Int} {a b : Nat} (h : ∃ s, s < n ∧ exF n m b s a = bf n m n a b) : chS n m a b < n ∧ exF n m b (chS n m a b) a = bf n m n a b ∧ ∀ i, i < chS n m a b → exF n m b i a ≠ bf n m n a b := by
  obtain ⟨s, h1, h2⟩ := h
  obtain ⟨_, a2, a3, a4⟩ := fst_spec (fun s => decide (exF n m b s a = bf n m n a b)) n 0 ⟨s, Nat.zero_le _, by omega, by simp [h2]⟩
  refine ⟨by unfold chS; omega, of_decide_eq_true a3, fun i hi => of_decide_eq_false (a4 i (Nat.zero_le _) hi)⟩
theorem rowI_single (u : World) (B H : Nat) (x : Int) (hB : B ≤ u.heap.size) (hH : u.heap.size = H) : RowI (u.alloc (.cells #[.int .i64 x] 3)) B (.slice (some ⟨H, 0, none⟩) 1 1) [x] := by
  subst hH
  exact ⟨by simp [ints], .inr ⟨u.heap.size, 1, #[.int .i64 x], rfl, hB, heap_alloc_new u _, Nat.le_refl _, by unfold maxLen; omega, rfl, by simp [ints]⟩⟩

/-- the part behind the checks. -/
def chR (n : Nat) (m : Nat → Nat → Int) (a b : Nat) : Prop := (∃ s, s < n ∧ exF n m b s a = bf n m n a b) ∧ bf n m n a b ≠ 1000000000

end Go.Proofs.YtjkfighooijblaaGreat

/-
  Least costs of so many steps to a vertex: the program's. By an AI agent.
-/
namespace Go.Proofs.YtjkfighooijblaaGreat
open Go.RowKit

set_option maxHeartbeats 1600000 in
set_option maxRecDepth 100000 in
theorem dot_c (n : Nat) (ad : Option Addr) (cap : Nat) (f : Nat → Int) (ad2 : Option Addr) (cap2 : Nat) (g : Nat → Int) (w : World) (h1 : RdI w ad (tab n f)) (h2 : RdI w ad2 (tab n g)) (hn : n ≤ 6) (hb : ∀ k, k < n → -4000000000 ≤ f k + g k ∧ f k + g k ≤ 4000000000) :
    Calls Tryz.prog 74 #[.slice ad n cap, .slice ad2 n cap2] w fun e w' => e = .returned (.int .i64 (mnF 1000000000 (fun k => prodZ (f k) (g k)) n)) ∧ Below w.heap.size w w' := by
  have H1 := Lib.hid h1; have H2 := Lib.hid h2; have HB := Lib.hid hb
  clear h1 h2 hb
  go_enter Tryz.func74, Tryz.ntmps74
  go_wp2_with fail
  go_loopw [5, 9] (fun v i wr => ∃ k : Nat, k ≤ n ∧ i = .int .i64 k ∧ v = .int .i64 (mnF 1000000000 (fun k => prodZ (f k) (g k)) k) ∧ Below w.heap.size w wr) (fun _ i _ => n - (intOf i).toNat)
  case atStart => exact ⟨0, Nat.zero_le _, rfl, rfl, Below.refl _ _⟩
  case round =>
    obtain ⟨wE, rfl⟩ : ∃ x : World, x = wr := ⟨_, rfl⟩
    obtain ⟨k, hk, rfl, rfl, hbel⟩ := hrel
    by_cases hlt : k < n
    case neg =>
      obtain rfl : k = n := by omega
      go_wp2_with fail
      go_ret
      exact ⟨rfl, hbel⟩
    case pos =>
      obtain ⟨b1, o1, rfl, hb1, c1⟩ := H1.out k (by rw [tab_length]; exact hlt)
      obtain ⟨b2, o2, rfl, hb2, c2⟩ := H2.out k (by rw [tab_length]; exact hlt)
      rw [tab_getD hlt] at c1 c2
      have k1 := bcell hbel hb1 c1
      have k2 := bcell hbel hb2 c2
      have hbd := HB.out k hlt
      have HMN := Lib.hid (show mnF 1000000000 (fun k => prodZ (f k) (g k)) (k + 1) = leastZ (mnF 1000000000 (fun k => prodZ (f k) (g k)) k) (prodZ (f k) (g k)) from rfl)
      generalize mnF 1000000000 (fun k => prodZ (f k) (g k)) k = A at HMN ⊢
      generalize f k = C at k1 hbd HMN
      generalize g k = D at k2 hbd HMN
      have CP := Lib.hid (fun w => product_c C D w (by omega))
      generalize prodZ C D = P at CP HMN
      rw [← leastZ_if] at HMN
      have x1 : (0 : Int) ≤ (k : Int) := by omega
      have x2 : (k : Int) < (n : Int) := by omega
      clear hbd c1 c2
      go_wp2_with fail
      go_quiet ((go_at_call 64; exact Calls.quiet_of_same ((CP.out _).mono (fun e w' h => ⟨h.1, h.2.symm⟩))))
      go_wp2_with fail
      go_roundw
      case rel => exact ⟨k + 1, by omega, by go_num, by rw [HMN.out], bdrewN hbel _⟩
      case measure => simp [intOf]; omega

set_option maxHeartbeats 1600000 in
set_option maxRecDepth 100000 in
theorem applied_c (n : Nat) (ad : Option Addr) (cap : Nat) (m : Nat → Nat → Int) (ad2 : Option Addr) (cap2 : Nat) (g : Nat → Int) (w : World) (hr : RdM w ad (toM n m)) (h2 : RdI w ad2 (tab n g)) (hn : 1 ≤ n ∧ n ≤ 6) (hb : ∀ i k, i < n → k < n → -4000000000 ≤ m i k + g k ∧ m i k + g k ≤ 4000000000) :
    Calls Tryz.prog 37 #[.slice ad n cap, .slice ad2 n cap2] w fun e w' => ∃ a' c', e = .returned (.slice a' n c') ∧ RowI w' w.heap.size (.slice a' n c') (tab n (fun i => mnF 1000000000 (fun k => prodZ (m i k) (g k)) n)) ∧ Below w.heap.size w w' := by
  have HR := Lib.hid hr; have H2 := Lib.hid h2; have HB := Lib.hid hb
  have HO0 := Lib.hid (rowI_new w w.heap.size w.heap.size (Nat.le_refl _) rfl)
  have hb0 : Below w.heap.size w (w.alloc (.cells #[] 3)) := (Below.refl _ _).alloc (Nat.le_refl _) _
  clear hr h2 hb
  go_enter Tryz.func37, Tryz.ntmps37
  go_wp2_with fail
  go_loopw [5, 11] (fun v i wr => ∃ k : Nat, k ≤ n ∧ i = .int .i64 k ∧ RowI wr w.heap.size v (tab k (fun i => mnF 1000000000 (fun k => prodZ (m i k) (g k)) n)) ∧ Below w.heap.size w wr) (fun _ i _ => n - (intOf i).toNat)
  case atStart => exact ⟨0, Nat.zero_le _, rfl, HO0.out, hb0⟩
  case round =>
    obtain ⟨wE, rfl⟩ : ∃ x : World, x = wr := ⟨_, rfl⟩
    obtain ⟨k, hk, rfl, hrow, hbel⟩ := hrel
    obtain ⟨adr, car, rfl⟩ := row_shp hrow
    rw [tab_length] at hrow ⊢
    have HO := Lib.hid hrow; clear hrow
    have hsz := hbel.size
    by_cases hlt : k < n
    case neg =>
      obtain rfl : k = n := by omega
      go_wp2_with fail
      go_ret
      exact ⟨adr, car, rfl, HO.out, hbel⟩
    case pos =>
      obtain ⟨bM, oM, a1, c1, rfl, hbM, k1, r1⟩ := HR.out k (by rw [toM_len]; exact hlt)
      rw [toM_row _ hlt, tab_length] at k1
      rw [toM_row _ hlt] at r1
      have k1 := bcell hbel hbM k1
      have R1 := r1.below hbel
      have CD := Lib.hid (fun u (hb : Below wE.heap.size wE u) => dot_c n a1 c1 (m k) ad2 cap2 g u (R1.below hb) ((H2.out.below hbel).below hb) hn.2 (fun j hj => HB.out k j hlt hj))
      have HSN := Lib.hid (tab_succ k (fun i => mnF 1000000000 (fun k => prodZ (m i k) (g k)) n))
      have hlk := tab_length k (fun i => mnF 1000000000 (fun k => prodZ (m i k) (g k)) n)
      generalize tab k (fun i => mnF 1000000000 (fun k => prodZ (m i k) (g k)) n) = R at HO HSN hlk
      generalize mnF 1000000000 (fun j => prodZ (m k j) (g j)) n = V at CD HSN
      have HLK := Lib.hid hlk
      have x1 : (0 : Int) ≤ (k : Int) := by omega
      have x2 : (k : Int) < (n : Int) := by omega
      clear R1 r1 hlk
      go_wp2_with fail
      refine (CD.out _ (Below.refl _ _)).mono ?_
      rintro e w2 ⟨rfl, hb2⟩
      have HO2 := Lib.hid (HO.out.below hb2)
      have hb3 := ball hbel hb2
      have hsz3 := hb3.size
      clear hb2
      go_wp2_with (at_builtin; refine wpList_appN rfl _ _ rfl w.heap.size _ 0 1 _ R [V] (k + 1) (by rw [HLK.out]; rfl) rfl rfl (RowI.alloc' HO2.out) (rdI_one _ _ _ rfl) (by have := HLK.out; omega) (by simp) (by simp; omega) ?_; intro v5 wm hown hsh hbm hgr)
      have hb5 := (bal_alloc (o := .cells #[.int .i64 V] 3) hb3).trans hbm
      rw [← HSN.out] at hown
      have HO5 := Lib.hid hown; clear hown hsh hgr hbm
      go_wp2_with fail
      go_roundw
      case rel => exact ⟨k + 1, by omega, by go_num, HO5.out, hb5⟩
      case measure => simp [intOf]; omega
end Go.Proofs.YtjkfighooijblaaGreat

/-
  The unit matrix, and the least costs of ways of 0, 1, .. steps: the program's. By an AI agent.
-/
namespace Go.Proofs.YtjkfighooijblaaGreat
open Go.RowKit

theorem MatO.oneC {w : World} {B H : Nat} {u : Value} {xs : List Int} (h : CellO w B u xs) (hB : B ≤ w.heap.size) (hH : w.heap.size = H) : MatO (w.alloc (.cells #[u] 25)) B (.slice (some ⟨H, 0, none⟩) 1 1) [xs] [u] := by
  subst hH
  refine ⟨⟨by simp, .inr ⟨w.heap.size, 1, #[u], rfl, hB, heap_alloc_new w _, Nat.le_refl _, by unfold maxLen; omega, rfl, by simp⟩⟩, fun i hi => ?_, fun i j hi hj hij => ?_⟩
  · obtain rfl : i = 0 := by simpa using hi
    exact h.below ((Below.refl _ _).alloc (Nat.le_refl _) _)
  · have h1 : i = 0 := by simpa using hi
    have h2 : j = 0 := by simpa using hj
    omega

theorem ex_unit (n : Nat) (m : Nat → Nat → Int) (b : Nat) : tab n (unF b) = tab n (exF n m b 0) := tab_congr fun i _ => by
  unfold unF exF
  by_cases e : b = i
  · rw [if_pos e, if_pos e.symm]
  · rw [if_neg e, if_neg (fun h => e h.symm)]
theorem getD_appE {vs : List Value} {u : Value} {k : Nat} (h : vs.length = k) : (vs ++ [u]).getD k undef = u := by
  subst h
  exact getD_snocE _ _ _

end Go.Proofs.YtjkfighooijblaaGreat

/-
  Circuits: membership, and what a circuit costs; the program's. By an AI agent.
-/
namespace Go.Proofs.YtjkfighooijblaaGreat
open Go.RowKit

set_option maxHeartbeats 800000 in
theorem index0W (ad : Option Addr) (cap : Nat) (xs : List Int) (y : Int) (w : World) (hl : xs.length ≤ 1048576) (hr : RdI w ad xs) :
    Calls Tryz.prog 85 #[.slice ad xs.length cap, .int .i64 y] w fun e w' => (∃ r : Int, e = .returned (.int .i64 r) ∧ ((0 ≤ r ∧ y ∈ xs) ∨ (r = -1 ∧ y ∉ xs))) ∧ w = w' := by
  have HR := Lib.hid hr; clear hr
  go_enter Tryz.func85, Tryz.ntmps85
  go_wp2
  go_loop [8] (fun i => ∃ k : Nat, k ≤ xs.length ∧ i = .int .i64 k ∧ ∀ j, j < k → xs.getD j 0 ≠ y) (fun i => xs.length - (intOf i).toNat)
  case atStart => exact ⟨0, Nat.zero_le _, rfl, fun j hj => by omega⟩
  case round =>
    obtain ⟨k, hk, rfl, hlow⟩ := hrel
    have HLow := Lib.hid hlow; clear hlow
    by_cases hlt : k < xs.length
    · obtain ⟨b, off, rfl, hbb, c0⟩ := HR.out k hlt
      obtain ⟨x, hx⟩ : ∃ x, xs.getD k 0 = x := ⟨_, rfl⟩
      rw [hx] at c0
      have hmem : x ∈ xs := by rw [← hx, List.getD_eq_getElem?_getD, List.getElem?_eq_getElem hlt]; exact List.getElem_mem hlt
      have HMEM := Lib.hid hmem; clear hmem
      have HX := Lib.hid hx; clear hx
      by_cases h1 : y = x
      · have h1' : (y == x) = true := by simpa using h1
        have H1 := Lib.hid h1; clear h1
        go_wp2
        go_ret
        exact ⟨⟨k, rfl, Or.inl ⟨by omega, by rw [H1.out]; exact HMEM.out⟩⟩, rfl⟩
      · have h1' : (y == x) = false := by simpa using h1
        have H1 := Lib.hid h1; clear h1
        go_wp2
        go_round
        case rel =>
          refine ⟨k + 1, by omega, by go_num, fun j hj => ?_⟩
          by_cases e : j = k
          · subst e; rw [HX.out]; exact fun e => H1.out e.symm
          · exact HLow.out j (by omega)
        case measure => simp [intOf]; omega
    · have he : k = xs.length := by omega
      subst he
      go_wp2
      go_ret
      refine ⟨⟨-1, rfl, Or.inr ⟨rfl, fun hm => ?_⟩⟩, rfl⟩
      obtain ⟨j, hj, e⟩ := List.getElem_of_mem hm
      exact HLow.out j hj (by rw [List.getD_eq_getElem?_getD, List.getElem?_eq_getElem hj]; exact e)

set_option maxHeartbeats 400000 in
theorem containsW (ad : Option Addr) (cap : Nat) (xs : List Int) (y : Int) (w : World) (hl : xs.length ≤ 1048576) (hr : RdI w ad xs) :
    Calls Tryz.prog 58 #[.slice ad xs.length cap, .int .i64 y] w fun e w' => e = .returned (.bool (decide (y ∈ xs))) ∧ w = w' := by
  go_enter Tryz.func58, Tryz.ntmps58
  go_wp2_with fail
  refine (index0W ad cap xs y _ hl hr).mono ?_
  rintro e w' ⟨⟨r, rfl, hr'⟩, rfl⟩
  have hd : Hid (decide (0 ≤ r) = decide (y ∈ xs)) := by
    show _ = _
    rcases hr' with ⟨h1, h2⟩ | ⟨rfl, h2⟩
    · simp [h1, h2]
    · simp [h2]
  clear hr'
  go_wp2_with fail
  go_ret
  exact ⟨ret_bool hd.out, rfl⟩

set_option maxHeartbeats 400000 in
theorem l1HasW (ad : Option Addr) (cap : Nat) (xs : List Int) (y : Int) (w : World) (hl : xs.length ≤ 1048576) (hr : RdI w ad xs) :
    Calls Tryz.prog 91 #[.slice ad xs.length cap, .int .i64 y] w fun e w' => e = .returned (.bool (decide (y ∈ xs))) ∧ w = w' := by
  have HR := Lib.hid hr; clear hr
  go_enter Tryz.func91, Tryz.ntmps91
  go_wp2
  go_loop [9] (fun i => ∃ k : Nat, k ≤ xs.length ∧ i = .int .i64 k ∧ ∀ j, j < k → xs.getD j 0 ≠ y) (fun i => xs.length - (intOf i).toNat)
  case atStart => exact ⟨0, Nat.zero_le _, rfl, fun j hj => by omega⟩
  case round =>
    obtain ⟨k, hk, rfl, hj⟩ := hrel
    have HJ := Lib.hid hj; clear hj
    by_cases hlt : k < xs.length
    · obtain ⟨b, off, rfl, hb, c⟩ := HR.out k hlt
      generalize hx : xs.getD k 0 = x at c
      have HX := Lib.hid hx; clear hx
      by_cases h1 : x = y
      · have h1' : (x == y) = true := by simpa using h1
        have H1 := Lib.hid h1; clear h1
        go_wp2
        go_ret
        refine ⟨ret_bool ?_, rfl⟩
        symm
        rw [decide_eq_true_iff, ← H1.out, ← HX.out]
        simp [List.getD, hlt]
      · have h1' : (x == y) = false := by simpa using h1
        have H1 := Lib.hid h1; clear h1
        go_wp2
        go_round
        case rel =>
          refine ⟨k + 1, by omega, by go_num, fun j hj => ?_⟩
          by_cases e : j = k
          · subst e; rw [HX.out]; exact H1.out
          · exact HJ.out j (by omega)
        case measure => simp [intOf]; omega
    · have he : k = xs.length := by omega
      subst he
      go_wp2
      go_ret
      refine ⟨ret_bool ?_, rfl⟩
      symm
      rw [decide_eq_false_iff_not]
      intro hc
      obtain ⟨j, hj, e⟩ := List.getElem_of_mem hc
      exact HJ.out j hj (by simp [List.getD, hj, e])

set_option maxHeartbeats 1600000 in
set_option maxRecDepth 100000 in
theorem costOfCircuit_c (n : Nat) (ad : Option Addr) (cap : Nat) (m : Nat → Nat → Int) (adw : Option Addr) (capw : Nat) (l : List Int) (w : World) (hr : RdM w ad (toM n m)) (hw : RdI w adw l) (hn : 1 ≤ n ∧ n ≤ 6) (hp : Pth n m l) (hnum : ∀ a b, a < n → b < n → numB (m a b) = true) :
    Calls Tryz.prog 88 #[.slice ad n cap, .slice adw l.length capw] w fun e w' => e = .returned (.int .i64 (cyC m l)) ∧ Below w.heap.size w w' := by
  have hl := hp.len
  have hl1 := hp.pos
  have CS := Lib.hid (costOfSteps_c n ad cap m adw capw l w.drew (hr.below (Below.refl _ _).drew) (hw.below (Below.refl _ _).drew) hn ⟨hl1, by omega⟩ hp.vt hnum)
  have hbd := co_bd hnum hp.vt (by omega) (l.length - 1) (by omega)
  have hm := numB_t (hnum (laV l) (vx l 0) hp.la hp.hd)
  obtain ⟨v1, u1⟩ := vt_at hp.vt (t := l.length - 1) (by omega)
  obtain ⟨v2, u2⟩ := vt_at hp.vt (t := 0) (by omega)
  obtain ⟨bp, op, rfl, hbp, q1⟩ := hw (l.length - 1) (by omega)
  have q2 := hw.at (j := 0) (by omega)
  rw [v1] at q1
  rw [v2] at q2
  rw [Nat.add_zero] at q2
  obtain ⟨bM, oM, rfl, hbM, hrow⟩ := hr.rowF (by omega)
  obtain ⟨b2, o2, c2, e2, hl2, hc2⟩ := hrow _ u1
  have k1 := hc2 _ u2
  have CP := Lib.hid (fun w => product_c (coF m l (l.length - 1)) (m (laV l) (vx l 0)) w (by
    rcases hbd with ⟨_, h⟩ | ⟨_, h1, h2⟩
    · rw [h]; omega
    · omega))
  unfold cyC at *
  unfold laV at *
  generalize hN : l.length = N at hl hl1 q1 e2 k1 u1 CS CP ⊢
  obtain ⟨t, ht⟩ : ∃ t, N - 1 = t := ⟨_, rfl⟩
  rw [ht] at q1 e2 k1 u1 CS CP ⊢
  have e1 : IntKind.i64.wrap ((N : Int) - 1) = (t : Int) := by rw [i64_small (by omega) (by omega)]; omega
  have x3 : (0 : Int) ≤ (t : Int) := by omega
  have x4 : (t : Int) < (N : Int) := by omega
  have x1 : 0 < N := by omega
  clear hr hw hp hnum hbd hm v1 v2 hrow hc2 ht hN
  generalize prodZ (coF m l t) (m (vx l t) (vx l 0)) = P at CP ⊢
  generalize coF m l t = C at CS CP
  generalize m (vx l t) (vx l 0) = D at k1 CP
  generalize vx l t = a at q1 e2 u1
  generalize vx l 0 = b at q2 k1 u2
  have x5 : (0 : Int) ≤ (a : Int) := by omega
  have x6 : (a : Int) < (n : Int) := by omega
  have x7 : (0 : Int) ≤ (b : Int) := by omega
  have x8 : (b : Int) < (n : Int) := by omega
  go_enter Tryz.func88, Tryz.ntmps88
  go_wp2_with fail
  go_region_held3 (fun w' => w'.cell? ⟨bp, op + t, none⟩ = some (.int .i64 (a : Int)) ∧ w'.cell? ⟨bp, op, none⟩ = some (.int .i64 (b : Int)) ∧ w'.cell? ⟨bM, oM + a, none⟩ = some (.slice (some ⟨b2, o2, none⟩) n c2) ∧ w'.cell? ⟨b2, o2 + b, none⟩ = some (.int .i64 D)) (exact ⟨by assumption, by assumption, by assumption, by assumption⟩)
    (first
      | (go_at_call 64; (with_reducible refine (CP.out _).mono ?_); rintro e W1 ⟨rfl, rfl⟩)
      | (go_at_call 99; (with_reducible refine (CS.out).mono ?_); rintro e W1 ⟨rfl, hb1⟩; have m0 := bcell hb1 hbp q1; have m1 := bcell hb1 hbp q2; have m2 := bcell hb1 hbM e2; have m3 := bcell hb1 hl2 k1)
      | fail)
  go_wp2_with fail
  go_ret
  exact ⟨rfl, ball (Below.refl _ _).drew hb1⟩
end Go.Proofs.YtjkfighooijblaaGreat
