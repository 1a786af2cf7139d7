/-
  Some texts of this proof in one: EhP EhQ EhR EhS. Each part tells what it proves. By an AI agent.
-/
import Derived.Test.YtjkfighooijblaaGreatEhL

/-
  Eigenvectors and potentials of program and reference are the same: plain. By an AI agent.
-/
namespace Go.Proofs.YtjkfighooijblaaGreat
open Go.RowKit

theorem ev_rw {n : Nat} {m : Nat → Nat → Int} (hn6 : n ≤ 6) (hm : ∀ a b, a < n → b < n → numB (m a b) = true) (h : EvP n m) : tab n (rwR n (shF m (lmF n m).n) (fun k => if k = lmQ n m then 0 else 1000000000) n) = tab n (eiV n m) := tab_congr fun j hj => by
  obtain ⟨h1, h2, h3⟩ := ev_facts hm h.ne h.den
  have hb := shF_bd hm h1
  refine (rwR_least hb hn6 h3 (fun k hk => ?_) hj).uniq (bf_colE hb hn6 h3 hj (lmQ_spec h.ne).1)
  split
  · exact Or.inl rfl
  · exact Or.inr rfl
theorem ev_lst {n : Nat} {m : Nat → Nat → Int} (hn6 : n ≤ 6) (hm : ∀ a b, a < n → b < n → numB (m a b) = true) (h : EvP n m) : ∀ j, j < n → LstE n (shF m (lmF n m).n) (fun k => if k = lmQ n m then 0 else 1000000000) j (eiV n m j) := fun j hj => by
  obtain ⟨h1, h2, h3⟩ := ev_facts hm h.ne h.den
  exact bf_colE (shF_bd hm h1) hn6 h3 hj (lmQ_spec h.ne).1
theorem ev_fin {n : Nat} {m : Nat → Nat → Int} (hn6 : n ≤ 6) (hm : ∀ a b, a < n → b < n → numB (m a b) = true) (h : EvP n m) : ∀ j, j < n → eiV n m j ≠ 1000000000 := fun _ hj => lst_fin hm (ev_facts hm h.ne h.den).1 h.str (lmQ_spec h.ne).1 (ev_lst hn6 hm h) hj
theorem all_fin {n : Nat} {V : Nat → Int} (h : ∀ j, j < n → V j ≠ 1000000000) : allB (tab n V) (-1000000) 1000000 = (tab n V).all numB := by
  rw [Bool.eq_iff_iff, allB_t, List.all_eq_true]
  constructor
  · intro g x hx
    obtain ⟨j, hj, rfl⟩ := List.mem_map.1 hx
    have hj := List.mem_range.1 hj
    have := g j (by rw [tab_length]; exact hj)
    rw [tab_getD hj] at this
    unfold numB
    rw [Bool.or_eq_true_iff]
    exact Or.inl (inB_t.2 this)
  · intro g j hj
    rw [tab_length] at hj
    rw [tab_getD hj]
    have := numB_t (g (V j) (List.mem_map.2 ⟨j, List.mem_range.2 hj, rfl⟩))
    have := h j hj
    omega
/-! ### circuits begin with their least node -/
theorem cirF_low {n : Nat} {m : Nat → Nat → Int} : ∀ (f : Nat) {l c : List Int}, Pth n m l → (∀ t, 0 < t → t < l.length → vx l 0 < vx l t) → c ∈ cirF n m f l → ∀ t, 0 < t → t < c.length → vx c 0 < vx c t
  | 0, l, c, h, hl, hc => by
    unfold cirF ownC at hc
    split at hc
    · cases hc
    · obtain rfl : c = l := by simpa using hc
      exact hl
  | f + 1, l, c, h, hl, hc => by
    unfold cirF at hc
    rcases List.mem_append.1 hc with hc | hc
    · unfold ownC at hc
      split at hc
      · cases hc
      · obtain rfl : c = l := by simpa using hc
        exact hl
    · obtain ⟨i, hi, hc⟩ := List.mem_flatMap.1 hc
      rw [List.mem_range] at hi
      split at hc
      · rename_i hex
        have he := exB_t.1 hex
        have hp := h.pos
        refine cirF_low f (h.ext (by omega) he.1 he.2) (fun t h0 ht => ?_) hc
        rw [List.length_append, List.length_singleton] at ht
        rw [vx_snoc_lt _ (show 0 < l.length by omega)]
        by_cases e : t = l.length
        · subst e
          rw [vx_snoc_eq]
          omega
        · rw [vx_snoc_lt _ (by omega)]
          exact hl t h0 (by omega)
      · cases hc
theorem allC_cir {n : Nat} {m : Nat → Nat → Int} {c : List Int} (h : c ∈ allC n m n) : Cir n m c := by
  have h0 := allC_cr h
  unfold allC at h
  obtain ⟨i, hi, hc⟩ := List.mem_flatMap.1 h
  exact ⟨h0.pth, h0.shut, cirF_low (n - 1) (Pth.one m (List.mem_range.1 hi)) (fun t h0 ht => by simp at ht; omega) hc⟩
/-! ### potentials -/
theorem po_rw {n : Nat} {m : Nat → Nat → Int} {x : Int} (hn6 : n ≤ 6) (hm : ∀ a b, a < n → b < n → numB (m a b) = true) (hx : -1000000 ≤ x ∧ x ≤ 1000000) (h : cirP n m x) : tab n (rwR n (shF m x) (fun _ => 0) n) = tab n (poV n m x) := tab_congr fun _ hj => by
  have hb := shF_bd hm hx
  have h3 := (closed_iff hm hx).2 h
  exact (rwR_least hb hn6 h3 (fun _ _ => Or.inl rfl) hj).uniq (row_least hb hn6 h3 hj)
theorem po_lst {n : Nat} {m : Nat → Nat → Int} {x : Int} (hn6 : n ≤ 6) (hm : ∀ a b, a < n → b < n → numB (m a b) = true) (hx : -1000000 ≤ x ∧ x ≤ 1000000) (h : cirP n m x) : ∀ j, j < n → LstE n (shF m x) (fun _ => 0) j (poV n m x j) := fun _ hj => row_least (shF_bd hm hx) hn6 ((closed_iff hm hx).2 h) hj
theorem po_fin {n : Nat} {m : Nat → Nat → Int} {x : Int} (hn6 : n ≤ 6) (hm : ∀ a b, a < n → b < n → numB (m a b) = true) (hx : -1000000 ≤ x ∧ x ≤ 1000000) (h : cirP n m x) : ∀ j, j < n → poV n m x j ≠ 1000000000 := fun _ hj => (lst_zero (po_lst hn6 hm hx h) hj).1
theorem po_proves {n : Nat} {m : Nat → Nat → Int} {x : Int} (hn6 : n ≤ 6) (hm : ∀ a b, a < n → b < n → numB (m a b) = true) (hx : -1000000 ≤ x ∧ x ≤ 1000000) (h : cirP n m x) : prvP n m x (poV n m x) := lst_proves hm hx (po_lst hn6 hm hx h) (po_fin hn6 hm hx h)
/-- the reference's test. -/
theorem po_test {n : Nat} {m : Nat → Nat → Int} {x : Int} (hx : -1000000 ≤ x ∧ x ≤ 1000000) : (lmB n m ≠ [] ∧ cmpF (meC m (lmB n m)) ⟨x, 1⟩ < 0) ↔ ¬ cirP n m x := by
  have key : ∀ c, Cr0 n m c → (cmpF (meC m c) ⟨x, 1⟩ < 0 ↔ sumC m c < x * (c.length : Int)) := fun c hc => by
    have h1 := hc.pth.pos
    have h3 := low_lt (n1 := sumC m c) (d1 := (c.length : Int)) (n2 := x) (d2 := 1) (by omega) (by omega)
    rw [low_one (by omega)] at h3
    simp only [Int.mul_one] at h3
    rw [← h3]
    unfold cmpF meC
    simp only [Int.mul_one]
    generalize (lowF (sumC m c) (c.length : Int)).n = X
    generalize x * (lowF (sumC m c) (c.length : Int)).d = Y
    split
    · omega
    · split <;> omega
  constructor
  · rintro ⟨h1, h2⟩ h
    have hm := mnC_mem h1
    have h3 := h _ (allC_cir hm)
    have h4 := (key _ (allC_cr hm)).1 h2
    omega
  · intro h
    obtain ⟨l, hl⟩ : ∃ l, Cir n m l ∧ sumC m l < x * (l.length : Int) := by
      apply Classical.byContradiction
      intro g
      exact h fun l hl => by
        rcases Int.lt_or_le (sumC m l) (x * (l.length : Int)) with q | q
        · exact absurd ⟨l, hl, q⟩ g
        · exact q
    have hla := allC_all hl.1
    rcases mnC_spec (m := m) (allC_ne (n := n) (m := m)) with ⟨g1, g2⟩ | ⟨g1, g2⟩
    · rw [g2] at hla; cases hla
    · have hb := allC_cr g1
      have hbp := hb.pth.pos
      have hlp := hl.1.pth.pos
      refine ⟨fun e => ?_, (key _ hb).2 ?_⟩
      · have e : mnC m (allC n m n) = [] := e
        rw [e] at hbp
        simp at hbp
      · have h5 := g2 l hla
        unfold ltC at h5
        show sumC m (mnC m (allC n m n)) < x * ((mnC m (allC n m n)).length : Int)
        have hl0 : (0 : Int) < (l.length : Int) := by omega
        have hb0 : (0 : Int) < ((mnC m (allC n m n)).length : Int) := by omega
        generalize ((mnC m (allC n m n)).length : Int) = lb at h5 hb0 ⊢
        have h6 := Int.mul_lt_mul_of_pos_right hl.2 hb0
        have e : x * (l.length : Int) * lb = x * lb * (l.length : Int) := Int.mul_right_comm _ _ _
        rw [e] at h6
        exact Int.lt_of_mul_lt_mul_right (by omega) (Int.le_of_lt hl0)
/-- the eigenvector is one. -/
theorem ev_eigen {n : Nat} {m : Nat → Nat → Int} (hn6 : n ≤ 6) (hm : ∀ a b, a < n → b < n → numB (m a b) = true) (h : EvP n m) (hb : ∀ j, j < n → -1000000 ≤ eiV n m j ∧ eiV n m j ≤ 1000000) : eigP n m (lmF n m).n (eiV n m) := fun i hi => by
  obtain ⟨h1, h2, h3⟩ := ev_facts hm h.ne h.den
  obtain ⟨hq, _, _, hk⟩ := lmQ_spec h.ne
  obtain ⟨c, hc, he, hin⟩ := markB_t.1 hk
  have hcc := allC_cir hc
  obtain ⟨t, ht, e⟩ := List.getElem_of_mem hin
  obtain ⟨e1, _⟩ := vt_at hcc.pth.vt ht
  rw [List.getD_eq_getElem?_getD, List.getElem?_eq_getElem ht, Option.getD_some, e] at e1
  have hvt : vx c t = lmQ n m := by omega
  have hmb : lmB n m ∈ allC n m n := mnC_mem h.ne
  have hcb : Cr0 n m (lmB n m) := allC_cr hmb
  have hsb := (me_whole hm hcb (by rw [← lmF_ne h.ne]; exact h.den)).1
  rw [← lmF_ne h.ne] at hsb
  have hlb := hcb.pth.pos
  have hsc : sumC m c = (lmF n m).n * (c.length : Int) := by
    unfold eqC at he
    have he : sumC m c * ((lmB n m).length : Int) = sumC m (lmB n m) * (c.length : Int) := he
    rw [hsb] at he
    refine Int.eq_of_mul_eq_mul_right (a := ((lmB n m).length : Int)) ?_ ?_
    · have : 0 < (lmB n m).length := hlb
      omega
    · rw [he]
      exact Int.mul_right_comm _ _ _
  obtain ⟨k, hk1, hk2, hk3⟩ := lst_eigen hm h1 h2 hcc hsc ht (V := eiV n m) (by rw [hvt]; exact ev_lst hn6 hm h) (ev_fin hn6 hm h) hi
  have hpr := lst_proves hm h1 (ev_lst hn6 hm h) (ev_fin hn6 hm h)
  have hik := numB_t (hm i k hi hk1)
  have hbk := hb k hk1
  have hbi := hb i hi
  have hle := mnF_le 1000000000 (fun k => prodZ (m i k) (eiV n m k)) hk1
  have hek : prodZ (m i k) (eiV n m k) = (lmF n m).n + eiV n m i := by
    rw [prodZ_fin (by omega) (by omega)]
    exact hk3
  have hle2 : mnF 1000000000 (fun k => prodZ (m i k) (eiV n m k)) n ≤ (lmF n m).n + eiV n m i := by rw [← hek]; exact hle
  rcases mnF_at 1000000000 (fun k => prodZ (m i k) (eiV n m k)) n with g | ⟨j, hj, g⟩
  · omega
  · have hij := numB_t (hm i j hi hj)
    have hbj := hb j hj
    have g : mnF 1000000000 (fun k => prodZ (m i k) (eiV n m k)) n = prodZ (m i j) (eiV n m j) := g
    by_cases hinf : m i j = 1000000000
    · rw [hinf, prodZ_inf (Or.inl rfl)] at g
      omega
    · have := hpr i j hi hj hinf
      rw [prodZ_fin (by omega) (by omega)] at g
      omega
end Go.Proofs.YtjkfighooijblaaGreat

/-
  Eigenvectors and potentials: the reference's. By an AI agent.
-/
namespace Go.Proofs.YtjkfighooijblaaGreat
open Go.RowKit

/-- A list in memory of the call's own, or none. -/
def LisO (B : Bool) (X : List Int) (w : World) (e : Ending) (w' : World) : Prop := ∃ ad cap, e = .returned (.tuple #[.slice ad (onL B X).length cap, .bool B]) ∧ RowI w' w.heap.size (.slice ad (onL B X).length cap) (onL B X) ∧ Below w.heap.size w w'
theorem LisO.no {w w' : World} (X : List Int) (hb : Below w.heap.size w w') : LisO false X w (.returned (.tuple #[.slice none 0 0, .bool false])) w' := ⟨none, 0, rfl, ⟨rfl, Or.inl ⟨rfl, rfl⟩⟩, hb⟩
theorem LisO.yes {w w' : World} {ad : Option Addr} {cap n : Nat} {X : List Int} (h : RowI w' w.heap.size (.slice ad n cap) X) (hn : X.length = n) (hb : Below w.heap.size w w') : LisO true X w (.returned (.tuple #[.slice ad n cap, .bool true])) w' := by
  subst hn
  exact ⟨ad, cap, rfl, h, hb⟩

set_option maxHeartbeats 800000 in
theorem mnIf_c (ad : Option Addr) (cap : Nat) (r : List Int) (w : World) (hr : RdI w ad r) (hl : r.length ≤ 1048576) :
    Calls Tryz.prog 33 #[.slice ad r.length cap] w fun e w' => e = .returned (.tuple #[if allB r (-1000000) 1000000 = true then .slice ad r.length cap else .slice none 0 0, .bool (allB r (-1000000) 1000000)]) ∧ w = w' := by
  have C1 := Lib.hid (l1All_any ad cap r (-1000000) 1000000 w hl hr)
  clear hr hl
  generalize allB r (-1000000) 1000000 = V at C1 ⊢
  generalize r.length = n at C1 ⊢
  cases V
  · go_enter Tryz.func33, Tryz.ntmps33
    go_wp2_with fail
    refine C1.out.mono ?_
    rintro e w1 ⟨rfl, rfl⟩
    go_wp2_with fail
    exact bodyPost_ret (v := .tuple #[.slice none 0 0, .bool false]) (by simp [results, Tryz.results33, go_sem]) rfl ⟨rfl, rfl⟩
  · go_enter Tryz.func33, Tryz.ntmps33
    go_wp2_with fail
    refine C1.out.mono ?_
    rintro e w1 ⟨rfl, rfl⟩
    go_wp2_with fail
    exact bodyPost_ret (v := .tuple #[.slice ad n cap, .bool true]) (by simp [results, Tryz.results33, go_sem]) rfl ⟨rfl, rfl⟩

def endF (q k : Nat) : Int := if k = q then 0 else 1000000000
set_option maxHeartbeats 6400000 in
set_option maxRecDepth 100000 in
theorem sEigenvector_c (ad : Option Addr) (cap : Nat) (M : List (List Int)) (w : World) (hr : RdM w ad M) (hl : smM M) :
    Calls Tryz.prog 6 #[.slice ad M.length cap] w fun e w' => ∃ B, (B = true ↔ sqB M = true ∧ EvP M.length (entM M) ∧ (tab M.length (eiV M.length (entM M))).all numB = true) ∧ LisO B (tab M.length (eiV M.length (entM M))) w e w' := by
  have C1 := Lib.hid (mxSquare_c ad cap M w hr (by have := hl.1; omega) (fun i hi => by have := hl.2 i hi; omega))
  by_cases hs : sqB M = true
  case neg =>
    have hs := Bool.eq_false_iff.2 hs
    rw [hs] at C1 ⊢
    clear hs hr hl
    generalize M.length = n at C1 ⊢
    go_enter Tryz.func6, Tryz.ntmps6
    go_wp2_with fail
    refine C1.out.mono ?_
    rintro e w1 ⟨rfl, rfl⟩
    go_wp2_with fail
    exact bodyPost_ret (v := .tuple #[.slice none 0 0, .bool false]) (by simp [results, Tryz.results6, go_sem]) rfl ⟨false, ⟨(fun h => by cases h), (fun h => by simp at h)⟩, LisO.no _ (Below.refl _ _)⟩
  case pos =>
    obtain ⟨hn, _, hnum⟩ := sq_facts hs
    have hnum : ∀ a b, a < M.length → b < M.length → numB (entM M a b) = true := hnum
    rw [hs] at C1 ⊢
    have h3 := hr
    rw [← sq_toM hs] at h3
    generalize entM M = m at h3 hnum ⊢
    generalize M.length = n at C1 h3 hn hnum ⊢
    have HR := Lib.hid h3; have HNUM := Lib.hid hnum
    have C2 := Lib.hid (mnConnected_c n ad cap m w h3 hn)
    have C3 := Lib.hid (fun u (hb : Below w.heap.size w u) => mnLeast_c n ad cap m u (h3.below hb) hn hnum)
    clear hr hl hs h3 hnum
    go_enter Tryz.func6, Tryz.ntmps6
    go_wp2_with fail
    refine C1.out.mono ?_
    rintro e w1 ⟨rfl, rfl⟩
    go_wp2_with fail
    refine C2.out.mono ?_
    rintro e w2 ⟨b, rfl, hbs, hb2⟩
    have HBS := Lib.hid hbs
    clear hbs C1 C2
    cases b
    · go_wp2_with fail
      exact bodyPost_ret (v := .tuple #[.slice none 0 0, .bool false]) (by simp [results, Tryz.results6, go_sem]) rfl ⟨false, ⟨(fun h => by cases h), fun h => HBS.out.2 h.2.1.str⟩, LisO.no _ hb2⟩
    · have HSTR := Lib.hid (HBS.out.1 (by first | rfl | trivial))
      clear HBS
      go_wp2_with fail
      refine (C3.out w2 hb2).mono ?_
      rintro e w3 ⟨av, cv, rfl, -, hb3⟩
      have hb3 := ball hb2 hb3
      by_cases hne : lmB n m = []
      · have HNE := Lib.hid hne
        rw [hne]
        clear hne
        go_wp2_with fail
        exact bodyPost_ret (v := .tuple #[.slice none 0 0, .bool false]) (by simp [results, Tryz.results6, go_sem]) rfl ⟨false, ⟨(fun h => by cases h), fun h => absurd HNE.out h.2.1.ne⟩, LisO.no _ hb3⟩
      · have hpos := List.length_pos_iff.2 hne
        have HNE := Lib.hid hne
        have C4 := Lib.hid (fun u (hb : Below w.heap.size w u) a c (h : RdI u a (lmB n m)) => mnMean_c n ad cap m a c (lmB n m) u (HR.out.below hb) h hn (allC_cr (mnC_mem hne)) HNUM.out)
        rw [← lmF_ne hne] at C4
        obtain ⟨NB, hNB⟩ : ∃ NB, (lmB n m).length = NB := ⟨_, rfl⟩
        rw [hNB] at C3 C4 hpos ⊢
        have g1 : ((NB : Int) == 0) = false := beq_eq_false_iff_ne.2 (by omega)
        obtain ⟨F, hF⟩ : ∃ F, lmF n m = F := ⟨_, rfl⟩
        rw [hF] at C4
        have HF := Lib.hid hF
        obtain ⟨a, b⟩ := F
        unfold frV at C4
        simp only at C4
        clear hne hNB hF
        go_wp2_with fail
        refine (C3.out w3 hb3).mono ?_
        rintro e w4 ⟨av2, cv2, rfl, hrd, hb4⟩
        have hb4 := ball hb3 hb4
        have HRD := Lib.hid hrd
        clear hrd C3
        go_wp2_with fail
        refine (C4.out w4 hb4 _ _ HRD.out).mono ?_
        rintro e w5 ⟨rfl, hb5⟩
        have hb5 := ball hb4 hb5
        have oQ : FrO (w5.alloc (.cells #[.int .i64 a, .int .i64 b] 30)) w5.heap.size ⟨a, b⟩ := FrO.new w5 a b rfl
        have hb6 : Below w.heap.size w (w5.alloc (.cells #[.int .i64 a, .int .i64 b] 30)) := bal_alloc hb5
        obtain ⟨x0, x1⟩ := oQ.at
        clear C4 hb4
        by_cases hd : b = 1
        case neg =>
          have g2 : (b != 1) = true := bne_iff_ne.2 hd
          have HD := Lib.hid hd
          clear hd
          go_wp2_with fail
          exact bodyPost_ret (v := .tuple #[.slice none 0 0, .bool false]) (by simp [results, Tryz.results6, go_sem]) rfl ⟨false, ⟨(fun h => by cases h), fun h => absurd (by have := h.2.1.den; rw [HF.out] at this; exact this) HD.out⟩, LisO.no _ hb6⟩
        case pos =>
          subst hd
          have HEV := Lib.hid (show EvP n m from ⟨HSTR.out, HNE.out, by rw [HF.out]⟩)
          obtain ⟨hx, -, -⟩ := ev_facts HNUM.out HNE.out HEV.out.den
          rw [HF.out] at hx
          have hx : -1000000 ≤ a ∧ a ≤ 1000000 := hx
          have HQ := Lib.hid (lmQ_spec HNE.out)
          have CC := Lib.hid (fun u (hb : Below w.heap.size w u) => mnCritical_c n ad cap m u (HR.out.below hb) hn HNUM.out HNE.out)
          have CW := Lib.hid (fun u (hb : Below w.heap.size w u) a1 c1 (h : RdI u a1 (tab n (endF (lmQ n m)))) => mnWays_c n ad cap m a a1 c1 (endF (lmQ n m)) u (HR.out.below hb) h hn HNUM.out hx (fun k _ => by unfold endF; split; exact Or.inl rfl; exact Or.inr rfl))
          have hrw := ev_rw hn.2 HNUM.out HEV.out
          rw [HF.out] at hrw
          have hrw : tab n (rwR n (shF m a) (endF (lmQ n m)) n) = tab n (eiV n m) := hrw
          have hlen : (tab n (rwR n (shF m a) (endF (lmQ n m)) n)).length = n := tab_length _ _
          rw [hrw] at CW
          have HALL := Lib.hid (all_fin (ev_fin hn.2 HNUM.out HEV.out))
          obtain ⟨w6, hw6⟩ : ∃ x, w5.alloc (.cells #[.int .i64 a, .int .i64 1] 30) = x := ⟨_, rfl⟩
          have HW6 := Lib.hid hw6
          obtain ⟨Q, hQ⟩ : ∃ Q, w5.heap.size = Q := ⟨_, rfl⟩
          rw [hw6] at oQ hb6 x0 x1
          rw [hQ] at oQ x0 x1
          have HOQ := Lib.hid oQ
          have HB6 := Lib.hid hb6
          obtain ⟨q, hq⟩ : ∃ q, lmQ n m = q := ⟨_, rfl⟩
          rw [hq] at HQ CW
          clear hrw hlen hx hw6 hq
          go_wp2_with fail
          rw [HW6.out]
          go_loopw [5, 30] (fun v i wr => ∃ k : Nat, k ≤ n ∧ i = .int .i64 k ∧ RowI wr w6.heap.size v (tab k (endF q)) ∧ Below w6.heap.size w6 wr) (fun _ i _ => n - (intOf i).toNat)
          case atStart => exact ⟨0, Nat.zero_le _, rfl, ⟨rfl, Or.inl ⟨rfl, rfl⟩⟩, Below.refl _ _⟩
          case round =>
            obtain ⟨wE, rfl⟩ : ∃ x : World, x = wr := ⟨_, rfl⟩
            obtain ⟨k, hk, rfl, hrow, hbel⟩ := hrel
            have hbe := ball HB6.out hbel
            have HRW := Lib.hid hrow
            obtain ⟨adr, car, rfl⟩ := row_shp hrow
            rw [tab_length] at HRW ⊢
            clear hrow
            by_cases hlt : k < n
            case neg =>
              obtain rfl : k = n := by omega
              have CW2 := Lib.hid (CW.out wE hbe adr car HRW.out.rdT)
              obtain ⟨x2, x3⟩ := (HOQ.out.below hbel).at
              clear x0 x1 CC CW
              go_wp2_with fail
              refine CW2.out.mono ?_
              rintro e w8 ⟨g8, c8, rfl, hr8, hb8⟩
              have HR8 := Lib.hid hr8
              have C9 := mnIf_c (some ⟨g8, 0, none⟩) c8 (tab k (eiV k m)) w8 hr8.rdT (by rw [tab_length]; omega)
              rw [tab_length, HALL.out] at C9
              have hb8 := ball hbe hb8
              generalize hV : (tab k (eiV k m)).all numB = V at C9
              have HVV := Lib.hid hV
              have CI := Lib.hid C9
              have hbes := hbe.size
              clear hr8 C9 hV HALL CW2
              go_wp2_with fail
              refine CI.out.mono ?_
              rintro e w9 ⟨rfl, rfl⟩
              cases V
              · go_wp2_with fail
                exact bodyPost_ret (v := .tuple #[.slice none 0 0, .bool false]) (by simp [results, Tryz.results6, go_sem]) rfl ⟨false, ⟨(fun h => by cases h), fun h => (by rw [HVV.out] at h; cases h.2.2)⟩, LisO.no _ hb8⟩
              · go_wp2_with fail
                exact bodyPost_ret (v := .tuple #[.slice (some ⟨g8, 0, none⟩) k c8, .bool true]) (by simp [results, Tryz.results6, go_sem]) rfl ⟨true, ⟨fun _ => ⟨(by first | rfl | trivial), HEV.out, HVV.out⟩, fun _ => rfl⟩, LisO.yes (HR8.out.low hbes) (tab_length _ _) hb8⟩
            case pos =>
              have HSN := Lib.hid (tab_succ k (endF q))
              have HLK := Lib.hid (tab_length k (endF q))
              have hends : endF q k = if k = q then 0 else 1000000000 := rfl
              generalize tab k (endF q) = R at HRW HSN HLK
              rw [hends] at HSN
              have x3 : (0 : Int) ≤ (k : Int) := by omega
              have x4 : (k : Int) < (n : Int) := by omega
              clear x0 x1
              go_wp2_with fail
              refine (CC.out wE hbe).mono ?_
              rintro e w7 ⟨v7, rfl, hz7, hb7⟩
              obtain ⟨az, cz, rfl, hrz⟩ := hz7.shape
              obtain ⟨hq1, hq2, hq3, -⟩ := HQ.out
              obtain ⟨bz, oz, rfl, hbz, kz⟩ := hrz 0 hq2
              rw [hq3, Nat.add_zero] at kz
              generalize (mkL (lmK n m) n).length = NL at hq2
              have z3 : (0 : Int) < (NL : Int) := by omega
              have HRW7 := Lib.hid (HRW.out.below hb7)
              have hb67 := ball hbel hb7
              have hs67 := hb67.size
              clear hz7 hrz hq3
              by_cases hkq : k = q
              · subst hkq
                have g2 : ((k : Int) == (k : Int)) = true := beq_self_eq_true _
                rw [if_pos rfl] at HSN
                go_wp2_with (at_builtin; refine wpList_appN rfl _ _ rfl w6.heap.size _ 0 1 _ R [0] (k + 1) (by rw [HLK.out]; rfl) rfl rfl (RowI.alloc' HRW7.out) (rdI_one _ _ _ rfl) (by have := HLK.out; omega) (by simp) (by simp; omega) ?_; intro v5 wm hown hsh hbm hgr)
                have hb8 := (bal_alloc (o := .cells #[.int .i64 0] 3) hb67).trans hbm
                rw [← HSN.out] at hown
                have HO5 := Lib.hid hown; clear hown hsh hgr hbm
                go_wp2_with fail
                go_roundw
                case rel => exact ⟨k + 1, by omega, by go_num, HO5.out, hb8⟩
                case measure => simp [intOf]; omega
              · have g2 : ((k : Int) == (q : Int)) = false := beq_eq_false_iff_ne.2 (by omega)
                rw [if_neg hkq] at HSN
                clear hkq
                go_wp2_with (at_builtin; refine wpList_appN rfl _ _ rfl w6.heap.size _ 0 1 _ R [1000000000] (k + 1) (by rw [HLK.out]; rfl) rfl rfl (RowI.alloc' HRW7.out) (rdI_one _ _ _ rfl) (by have := HLK.out; omega) (by simp) (by simp; omega) ?_; intro v5 wm hown hsh hbm hgr)
                have hb8 := (bal_alloc (o := .cells #[.int .i64 1000000000] 3) hb67).trans hbm
                rw [← HSN.out] at hown
                have HO5 := Lib.hid hown; clear hown hsh hgr hbm
                go_wp2_with fail
                go_roundw
                case rel => exact ⟨k + 1, by omega, by go_num, HO5.out, hb8⟩
                case measure => simp [intOf]; omega
end Go.Proofs.YtjkfighooijblaaGreat

/-
  Potentials for means: the reference's. By an AI agent.
-/
namespace Go.Proofs.YtjkfighooijblaaGreat
open Go.RowKit

set_option maxHeartbeats 3200000 in
set_option maxRecDepth 100000 in
/-- what the reference does once no circuit is less. -/
theorem sPot_facts (n : Nat) (ad : Option Addr) (cap : Nat) (m : Nat → Nat → Int) (x : Int) (w : World) (hr : RdM w ad (toM n m)) (hn : 1 ≤ n ∧ n ≤ 6) (hnum : ∀ a b, a < n → b < n → numB (m a b) = true) (hx : -1000000 ≤ x ∧ x ≤ 1000000) (hc : cirP n m x) :
    ∀ u, Below w.heap.size w u → ∀ a1 c1, RdI u a1 (tab n fun _ => (0 : Int)) → Calls Tryz.prog 34 #[.slice ad n cap, .int .i64 x, .slice a1 n c1] u fun e w' => ∃ g c', e = .returned (.slice (some ⟨g, 0, none⟩) n c') ∧ RowI w' u.heap.size (.slice (some ⟨g, 0, none⟩) n c') (tab n (poV n m x)) ∧ Below u.heap.size u w' := fun u hb a1 c1 h => by
  have := mnWays_c n ad cap m x a1 c1 (fun _ => 0) u (hr.below hb) h hn hnum hx (fun _ _ => Or.inl rfl)
  rw [po_rw hn.2 hnum hx hc] at this
  exact this
theorem rdI_zeros (w : World) (n H : Nat) (hH : w.heap.size = H) : RdI (w.alloc (.cells (madeCells #[.int .i64 0] n) 3)) (some ⟨H, 0, none⟩) (tab n fun _ => (0 : Int)) := by
  refine Own.rd (g := H) (E := 3) (Own.newHG _ _ _ ?_ hH)
  rw [toList_madeCells_one]
  simp [ints, tab, List.map_const']

def EdO (C : Prop) (X : List Int) (w : World) (e : Ending) (w' : World) : Prop := ∃ B, (B = true ↔ C) ∧ LisO B X w e w'
set_option maxHeartbeats 6400000 in
set_option maxRecDepth 100000 in
theorem sPotential_c (ad : Option Addr) (cap : Nat) (M : List (List Int)) (x : Int) (w : World) (hr : RdM w ad M) (hl : smM M) :
    Calls Tryz.prog 13 #[.slice ad M.length cap, .int .i64 x] w (EdO ((sqB M = true ∧ inB x (-1000000) 1000000 = true) ∧ cirP M.length (entM M) x ∧ (tab M.length (poV M.length (entM M) x)).all numB = true) (tab M.length (poV M.length (entM M) x)) w) := by
  have C1 := Lib.hid (mxSquare_c ad cap M w hr (by have := hl.1; omega) (fun i hi => by have := hl.2 i hi; omega))
  have C2 := Lib.hid (fun w => poFin_c x w)
  rw [show finB x = inB x (-1000000) 1000000 from rfl] at C2
  by_cases hs : sqB M = true
  case neg =>
    have hs := Bool.eq_false_iff.2 hs
    rw [hs] at C1 ⊢
    clear hs hr hl C2
    generalize M.length = n at C1 ⊢
    go_enter Tryz.func13, Tryz.ntmps13
    go_wp2_with fail
    refine C1.out.mono ?_
    rintro e w1 ⟨rfl, rfl⟩
    go_wp2_with fail
    exact bodyPost_ret (v := .tuple #[.slice none 0 0, .bool false]) (by simp [results, Tryz.results13, go_sem]) rfl ⟨false, ⟨(fun h => by cases h), (fun h => by simp at h)⟩, LisO.no _ (Below.refl _ _)⟩
  case pos =>
    obtain ⟨hn, _, hnum⟩ := sq_facts hs
    have hnum : ∀ a b, a < M.length → b < M.length → numB (entM M a b) = true := hnum
    rw [hs] at C1 ⊢
    have h3 := hr
    rw [← sq_toM hs] at h3
    generalize entM M = m at h3 hnum ⊢
    generalize M.length = n at C1 h3 hn hnum ⊢
    have HR := Lib.hid h3; have HNUM := Lib.hid hnum
    by_cases hx : inB x (-1000000) 1000000 = true
    case neg =>
      have hx := Bool.eq_false_iff.2 hx
      rw [hx] at C2 ⊢
      clear hx hr hl hs h3 hnum HR HNUM
      go_enter Tryz.func13, Tryz.ntmps13
      go_wp2_with fail
      refine C1.out.mono ?_
      rintro e w1 ⟨rfl, rfl⟩
      go_wp2_with fail
      refine (C2.out _).mono ?_
      rintro e w2 ⟨rfl, rfl⟩
      go_wp2_with fail
      exact bodyPost_ret (v := .tuple #[.slice none 0 0, .bool false]) (by simp [results, Tryz.results13, go_sem]) rfl ⟨false, ⟨(fun h => by cases h), (fun h => by simp at h)⟩, LisO.no _ (Below.refl _ _)⟩
    case pos =>
      have hxb := inB_t.1 hx
      rw [hx] at C2 ⊢
      have C3 := Lib.hid (mnLeast_c n ad cap m w h3 hn hnum)
      have C4 := Lib.hid (fun (hne : lmB n m ≠ []) u (hb : Below w.heap.size w u) a c (h : RdI u a (lmB n m)) => mnMean_c n ad cap m a c (lmB n m) u (h3.below hb) h hn (allC_cr (mnC_mem hne)) hnum)
      have C5 := Lib.hid (fun (hne : lmB n m ≠ []) u => frCmp_c (meC m (lmB n m)) ⟨x, 1⟩ u (meC_frB hnum hn.2 (allC_cr (mnC_mem hne))) (frB_one (by omega)))
      have C6 := Lib.hid (fun u => frInt_c x u)
      have CW := Lib.hid (fun (hc : cirP n m x) => sPot_facts n ad cap m x w h3 hn hnum hxb hc)
      have HT := Lib.hid (po_test (n := n) (m := m) hxb)
      have HALL := Lib.hid (fun (hc : cirP n m x) => all_fin (po_fin hn.2 hnum hxb hc))
      have hmk := fun (w : World) => run_makeN (P := Tryz.prog) 25 3 (.int .i64 0) 1 8 Tryz.underlying25 (by kernel_rfl) n (by omega) (by omega) w
      have CI := Lib.hid (fun u a c (h : RdI u a (tab n (poV n m x))) => mnIf_c a c (tab n (poV n m x)) u h (by rw [tab_length]; omega))
      rw [tab_length] at CI
      clear hx hr hl hs h3 hnum HR HNUM
      simp only [Value.cells, Nat.mul_one] at hmk
      obtain ⟨NB, hNB⟩ : ∃ NB, (lmB n m).length = NB := ⟨_, rfl⟩
      have HNB := Lib.hid hNB
      rw [hNB] at C3 C4
      clear hNB
      obtain ⟨V, hV⟩ : ∃ V, (tab n (poV n m x)).all numB = V := ⟨_, rfl⟩
      have HVV := Lib.hid hV
      rw [hV]
      go_enter Tryz.func13, Tryz.ntmps13
      go_wp2_with fail
      refine C1.out.mono ?_
      rintro e w1 ⟨rfl, rfl⟩
      go_wp2_with fail
      refine (C2.out _).mono ?_
      rintro e w2 ⟨rfl, rfl⟩
      go_wp2_with fail
      refine C3.out.mono ?_
      rintro e w3 ⟨av, cv, rfl, hrd, hb3⟩
      have HRD := Lib.hid hrd
      obtain ⟨tb, htb⟩ : ∃ tb, decide (lmB n m ≠ [] ∧ cmpF (meC m (lmB n m)) ⟨x, 1⟩ < 0) = tb := ⟨_, rfl⟩
      have HTB := Lib.hid htb
      clear hrd C1 C2 C3 htb hV
      go_upto_region 4 with fail
      go_cut [28] from 18 to 28 (fun s wc => s = .bool tb ∧ Below w3.heap.size w3 wc)
      case first =>
        by_cases h0 : NB = 0
        · have hnil : lmB n m = [] := List.eq_nil_of_length_eq_zero (by rw [HNB.out]; exact h0)
          have HF := Lib.hid (show tb = false by rw [← HTB.out]; exact decide_eq_false (fun h => h.1 hnil))
          subst h0
          clear hnil
          go_wp2_with fail
          go_meet
          exact ⟨by rw [HF.out], Below.refl _ _⟩
        · have hne : lmB n m ≠ [] := fun e => h0 (by rw [← HNB.out, e]; rfl)
          have C4' := Lib.hid (C4.out hne)
          have C5' := Lib.hid (C5.out hne)
          have HD := Lib.hid (show decide (cmpF (meC m (lmB n m)) ⟨x, 1⟩ < 0) = tb by
            rw [← HTB.out, decide_eq_decide]
            exact ⟨fun h => ⟨hne, h⟩, fun h => h.2⟩)
          have g0 : decide (0 < NB) = true := decide_eq_true (by omega)
          have g00 : 0 < NB := by omega
          obtain ⟨Z, hZ⟩ : ∃ Z, cmpF (meC m (lmB n m)) ⟨x, 1⟩ = Z := ⟨_, rfl⟩
          rw [hZ] at C5' HD
          obtain ⟨F, hF⟩ : ∃ F, meC m (lmB n m) = F := ⟨_, rfl⟩
          rw [hF] at C4' C5'
          obtain ⟨a, b⟩ := F
          unfold frV at C4' C5'
          simp only at C4' C5'
          obtain ⟨gz, hgz⟩ : ∃ gz, decide (Z < 0) = gz := ⟨_, rfl⟩
          have HGZ := Lib.hid (hgz.symm.trans HD.out)
          clear hne C4 C5 hZ hF HD h0
          go_wp2_with fail
          refine (C4'.out w3 hb3 _ _ HRD.out).mono ?_
          rintro e w4 ⟨rfl, hb4⟩
          go_wp2_with fail
          refine (C6.out w4).mono ?_
          rintro e w5 ⟨rfl, hb5⟩
          have hb5 := ball hb4 hb5
          go_wp2_with fail
          refine (C5'.out w5).mono ?_
          rintro e w6 ⟨rfl, hb6⟩
          have hb6 := ball hb5 hb6
          go_wp2_with fail
          go_meet
          exact ⟨by rw [HGZ.out], hb6⟩
      case rest =>
        obtain ⟨rfl, hbc⟩ := hcut
        obtain ⟨w4, rfl⟩ : ∃ x : World, x = wc := ⟨_, rfl⟩
        have hb4 := ball hb3 hbc
        clear C4 C5 C6 HRD
        cases tb
        case true =>
          have HNO := Lib.hid (HT.out.1 (of_decide_eq_true HTB.out))
          go_wp2_with fail
          exact bodyPost_ret (v := .tuple #[.slice none 0 0, .bool false]) (by simp [results, Tryz.results13, go_sem]) rfl ⟨false, ⟨(fun h => by cases h), fun h => absurd h.2.1 HNO.out⟩, LisO.no _ hb4⟩
        case false =>
          have hcir : cirP n m x := Classical.byContradiction fun h => (of_decide_eq_false HTB.out) (HT.out.2 h)
          have HCIR := Lib.hid hcir
          have CW2 := Lib.hid (CW.out hcir)
          have hall := HALL.out hcir
          rw [HVV.out] at hall
          rw [hall] at CI
          have HZ := Lib.hid (rdI_zeros w4 n w4.heap.size rfl)
          have hb5 := bal_alloc (o := .cells (madeCells #[.int .i64 0] n) 3) hb4
          clear hcir CW HALL HT hall HTB
          go_wp2_with fail
          refine (CW2.out _ hb5 _ _ HZ.out).mono ?_
          rintro e w8 ⟨g8, c8, rfl, hr8, hb8⟩
          have HR8 := Lib.hid hr8
          have hs5 := hb5.size
          have hb8 := ball hb5 hb8
          clear hr8
          go_wp2_with fail
          refine (CI.out w8 _ _ HR8.out.rdT).mono ?_
          rintro e w9 ⟨rfl, rfl⟩
          cases V
          · go_wp2_with fail
            exact bodyPost_ret (v := .tuple #[.slice none 0 0, .bool false]) (by simp [results, Tryz.results13, go_sem]) rfl ⟨false, ⟨(fun h => by cases h), fun h => (by simp at h)⟩, LisO.no _ hb8⟩
          · go_wp2_with fail
            exact bodyPost_ret (v := .tuple #[.slice (some ⟨g8, 0, none⟩) n c8, .bool true]) (by simp [results, Tryz.results13, go_sem]) rfl ⟨true, ⟨fun _ => ⟨(by simp), HCIR.out, (by first | rfl | trivial)⟩, fun _ => rfl⟩, LisO.yes (HR8.out.low hs5) (tab_length _ _) hb8⟩
end Go.Proofs.YtjkfighooijblaaGreat

/-
  Whether vectors prove means, and are eigenvectors: the reference's. By an AI agent.
-/
namespace Go.Proofs.YtjkfighooijblaaGreat
open Go.RowKit

def vecM (M : List (List Int)) (p : List Int) : Bool := sqB M && (decide (p.length = M.length) && allB p (-1000000) 1000000)
theorem qu_vec (M : List (List Int)) (x : Int) (p : List Int) : quB M x p = (vecM M p && inB x (-1000000) 1000000) := by
  unfold quB vecM
  rw [show p.all finB = allB p (-1000000) 1000000 from rfl]
  cases sqB M <;> cases inB x (-1000000) 1000000 <;> cases decide (p.length = M.length) <;> cases allB p (-1000000) 1000000 <;> rfl
theorem qu_split {M : List (List Int)} {x : Int} {p : List Int} (h : quB M x p = true) : vecM M p = true ∧ inB x (-1000000) 1000000 = true := by
  rw [qu_vec, Bool.and_eq_true] at h
  exact h
set_option maxHeartbeats 1600000 in
theorem mnVector_c (ad : Option Addr) (cap : Nat) (M : List (List Int)) (adp : Option Addr) (capp : Nat) (p : List Int) (w : World) (hr : RdM w ad M) (hl : smM M) (hp : RdI w adp p) (hlp : p.length ≤ 1048576) :
    Calls Tryz.prog 51 #[.slice ad M.length cap, .slice adp p.length capp] w fun e w' => e = .returned (.bool (vecM M p)) ∧ Below w.heap.size w w' := by
  have C1 := Lib.hid (mxSquare_c ad cap M w hr (by have := hl.1; omega) (fun i hi => by have := hl.2 i hi; omega))
  have C3 := Lib.hid (l1All_any adp capp p (-1000000) 1000000 w hlp hp)
  unfold vecM
  clear hr hl hp hlp
  generalize allB p (-1000000) 1000000 = C at C3 ⊢
  generalize sqB M = A at C1 ⊢
  generalize M.length = n at C1 ⊢
  generalize p.length = k at C3 ⊢
  obtain ⟨q, hq⟩ : ∃ q, ((k : Int) == (n : Int)) = q := ⟨_, rfl⟩
  have hq2 : (k == n) = q := by rw [← hq, (natEq k n).1, (natEq k n).2.1]
  have hq3 : decide (k = n) = q := by rw [← hq, (natEq k n).1]
  rw [hq3]
  clear hq3
  cases A
  · go_enter Tryz.func51, Tryz.ntmps51
    go_wp2_with fail
    refine C1.out.mono ?_
    rintro e w1 ⟨rfl, rfl⟩
    go_wp2_with fail
    go_ret
    exact ⟨rfl, Below.refl _ _⟩
  · cases q
    · go_enter Tryz.func51, Tryz.ntmps51
      go_wp2_with fail
      refine C1.out.mono ?_
      rintro e w1 ⟨rfl, rfl⟩
      go_wp2_with fail
      go_ret
      exact ⟨rfl, Below.refl _ _⟩
    · go_enter Tryz.func51, Tryz.ntmps51
      go_wp2_with fail
      refine C1.out.mono ?_
      rintro e w1 ⟨rfl, rfl⟩
      go_wp2_with fail
      refine C3.out.mono ?_
      rintro e w3 ⟨rfl, rfl⟩
      go_wp2_with fail
      go_ret
      exact ⟨by simp, Below.refl _ _⟩

set_option maxHeartbeats 6400000 in
set_option maxRecDepth 100000 in
theorem sProves_c (ad : Option Addr) (cap : Nat) (M : List (List Int)) (x : Int) (adp : Option Addr) (capp : Nat) (p : List Int) (w : World) (hr : RdM w ad M) (hl : smM M) (hp : RdI w adp p) (hlp : p.length ≤ 1048576) :
    Calls Tryz.prog 17 #[.slice ad M.length cap, .int .i64 x, .slice adp p.length capp] w fun e w' => ∃ B, e = .returned (.tuple #[.bool B, .bool (quB M x p)]) ∧ (B = true ↔ quB M x p = true ∧ prvP M.length (entM M) x (vOf p)) ∧ Below w.heap.size w w' := by
  have C1 := Lib.hid (mnVector_c ad cap M adp capp p w hr hl hp hlp)
  have C2 := Lib.hid (fun w => poFin_c x w)
  rw [show finB x = inB x (-1000000) 1000000 from rfl] at C2
  by_cases hq : quB M x p = true
  case neg =>
    have hq := Bool.eq_false_iff.2 hq
    have hq2 := qu_vec M x p
    rw [hq] at hq2 ⊢
    clear hq hr hl hp hlp
    generalize vecM M p = A at C1 hq2
    generalize inB x (-1000000) 1000000 = B at C2 hq2
    generalize M.length = n at C1 ⊢
    generalize p.length = k at C1 ⊢
    cases A
    · clear hq2
      go_enter Tryz.func17, Tryz.ntmps17
      go_wp2_with fail
      refine C1.out.mono ?_
      rintro e w1 ⟨rfl, hb1⟩
      go_wp2_with fail
      exact bodyPost_ret (v := .tuple #[.bool false, .bool false]) (by simp [results, Tryz.results17, go_sem]) rfl ⟨false, rfl, by simp, hb1⟩
    · obtain rfl : B = false := by simpa using hq2.symm
      clear hq2
      go_enter Tryz.func17, Tryz.ntmps17
      go_wp2_with fail
      refine C1.out.mono ?_
      rintro e w1 ⟨rfl, hb1⟩
      go_wp2_with fail
      refine (C2.out _).mono ?_
      rintro e w2 ⟨rfl, rfl⟩
      go_wp2_with fail
      exact bodyPost_ret (v := .tuple #[.bool false, .bool false]) (by simp [results, Tryz.results17, go_sem]) rfl ⟨false, rfl, by simp, hb1⟩
  case pos =>
    obtain ⟨hs, hxb, hpl, hpb⟩ := qu_facts hq
    obtain ⟨hn, _, hnum⟩ := sq_facts hs
    have hnum : ∀ a b, a < M.length → b < M.length → numB (entM M a b) = true := hnum
    rw [hq]
    obtain ⟨hv1, hv2⟩ := qu_split hq
    rw [hv1] at C1
    rw [hv2] at C2
    have h3 := hr
    rw [← sq_toM hs] at h3
    rw [hpl] at C1 hpb ⊢
    clear hv1 hv2
    generalize entM M = m at h3 hnum ⊢
    generalize M.length = n at C1 h3 hn hnum hpl hpb ⊢
    have HR := Lib.hid h3; have HNUM := Lib.hid hnum
    have HP := Lib.hid hp
    have HPB := Lib.hid (show ∀ j, j < n → -1000000 ≤ vOf p j ∧ vOf p j ≤ 1000000 from hpb)
    have HPL := Lib.hid hpl
    clear hr hl hs hq h3 hnum hp hlp hpl hpb
    go_enter Tryz.func17, Tryz.ntmps17
    go_wp2_with fail
    refine C1.out.mono ?_
    rintro e w1 ⟨rfl, hb1⟩
    go_wp2_with fail
    refine (C2.out _).mono ?_
    rintro e w0 ⟨rfl, rfl⟩
    have HR1 := Lib.hid (HR.out.below hb1); have HP1 := Lib.hid (HP.out.below hb1)
    clear HR HP C1
    go_wp2_with fail
    go_loopw [23] (fun i wr => ∃ k : Nat, k ≤ n ∧ i = .int .i64 k ∧ (∀ a c, a < k → c < n → m a c ≠ 1000000000 → x + vOf p a ≤ m a c + vOf p c) ∧ Below w1.heap.size w1 wr) (fun i _ => n - (intOf i).toNat)
    case atStart => exact ⟨0, Nat.zero_le _, rfl, fun a c ha => by omega, Below.refl _ _⟩
    case round =>
      obtain ⟨wE, rfl⟩ : ∃ x : World, x = wr := ⟨_, rfl⟩
      obtain ⟨i, hi, rfl, hall, hbel⟩ := hrel
      have HALL := Lib.hid hall; clear hall
      by_cases hlt : i < n
      case neg =>
        obtain rfl : i = n := by omega
        go_wp2_with fail
        exact bodyPost_ret (v := .tuple #[.bool true, .bool true]) (by simp [results, Tryz.results17, go_sem]) rfl ⟨true, rfl, ⟨fun _ => ⟨(by first | rfl | trivial), HALL.out⟩, fun _ => rfl⟩, ball hb1 hbel⟩
      case pos =>
        obtain ⟨bM, oM, rfl, hbM, hrow⟩ := HR1.out.rowF (by omega)
        obtain ⟨b2, o2, c2, e2, hl2, hc2⟩ := hrow i hlt
        have e2 := bcell hbel hbM e2
        have HC2 := Lib.hid hc2
        obtain ⟨bp, op, rfl, hbp, qi⟩ := HP1.out i (by rw [HPL.out]; exact hlt)
        clear hrow hc2
        go_wp2_with fail
        go_loopw [30] (fun i' wr => ∃ k : Nat, k ≤ n ∧ i' = .int .i64 k ∧ (∀ c, c < k → m i c ≠ 1000000000 → x + vOf p i ≤ m i c + vOf p c) ∧ Below w1.heap.size w1 wr) (fun i _ => n - (intOf i).toNat)
        case atStart => exact ⟨0, Nat.zero_le _, rfl, fun c hc => by omega, hbel⟩
        case round =>
          obtain ⟨wK, rfl⟩ : ∃ x : World, x = wr := ⟨_, rfl⟩
          obtain ⟨k, hk, rfl, hall2, hbelK⟩ := hrel
          have HALL2 := Lib.hid hall2; clear hall2
          by_cases hlk : k < n
          case neg =>
            obtain rfl : k = n := by omega
            go_wp2_with fail
            go_roundw
            case rel =>
              refine ⟨i + 1, by omega, by go_num, fun a c ha hc hne => ?_, hbelK⟩
              by_cases e : a = i
              · subst e; exact HALL2.out c hc hne
              · exact HALL.out a c (by omega) hc hne
            case measure => simp [intOf]; omega
          case pos =>
            have q1 := bcell hbelK hl2 (HC2.out k hlk)
            have q2 : wK.cell? ⟨bp, op + i, none⟩ = some (.int .i64 (vOf p i)) := bcell hbelK hbp qi
            obtain ⟨_, _, e5, _, qk⟩ := HP1.out k (by rw [HPL.out]; exact hlk)
            injection e5 with e5
            injection e5 with e5 e6 _
            subst e5; subst e6
            have q3 : wK.cell? ⟨bp, op + k, none⟩ = some (.int .i64 (vOf p k)) := bcell hbelK hbp qk
            have b1 := HPB.out i hlt
            have b2' := HPB.out k hlk
            have b3 := numB_t (HNUM.out i k hlt hlk)
            have x1 : (0 : Int) ≤ (k : Int) := by omega
            have x2 : (k : Int) < (n : Int) := by omega
            have x3 : (0 : Int) ≤ (i : Int) := by omega
            have x4 : (i : Int) < (n : Int) := by omega
            clear qi qk
            have HNX := Lib.hid (fun (h : m i k ≠ 1000000000 → x + vOf p i ≤ m i k + vOf p k) => show ∀ c, c < k + 1 → m i c ≠ 1000000000 → x + vOf p i ≤ m i c + vOf p c from fun c hc hne => by
              by_cases e : c = k
              · subst e; exact h hne
              · exact HALL2.out c (by omega) hne)
            have HNO := Lib.hid (fun (hC : m i k ≠ 1000000000) (hD : m i k + vOf p k < x + vOf p i) => show ¬ prvP n m x (vOf p) from fun h => by
              have := h i k hlt hlk hC
              omega)
            clear HALL2
            generalize m i k = C at q1 b3 HNX HNO
            generalize vOf p i = A at q2 b1 HNX HNO
            generalize vOf p k = B at q3 b2' HNX HNO
            by_cases hC : C = 1000000000
            · have HNX2 := Lib.hid (HNX.out (fun h => absurd hC h))
              subst hC
              clear b3 HNX HNO
              go_wp2_with fail
              go_quiet (fail)
              go_wp2_with fail
              go_roundw
              case rel => exact ⟨k + 1, by omega, by go_num, HNX2.out, bdrewN hbelK _⟩
              case measure => simp [intOf]; omega
            · have g1 : (C != 1000000000) = true := bne_iff_ne.2 hC
              have w1' : IntKind.i64.wrap (C + B) = C + B := i64_small (by omega) (by omega)
              have w2' : IntKind.i64.wrap (x + A) = x + A := i64_small (by omega) (by omega)
              by_cases hD : C + B < x + A
              · have HNO2 := Lib.hid (HNO.out hC hD)
                have g2 : decide (C + B < x + A) = true := decide_eq_true hD
                clear b3 HNX HALL b1 b2' HNO
                go_wp2_with fail
                go_quiet (fail)
                go_wp2_with fail
                exact bodyPost_ret (v := .tuple #[.bool false, .bool true]) (by simp [results, Tryz.results17, go_sem]) rfl ⟨false, rfl, ⟨(fun h => by cases h), fun h => absurd h.2 HNO2.out⟩, ball hb1 (bdrewN hbelK _)⟩
              · have HNX2 := Lib.hid (HNX.out (fun _ => by omega))
                have g2 : decide (C + B < x + A) = false := decide_eq_false hD
                clear b3 HNX b1 b2' HNO
                go_wp2_with fail
                go_quiet (fail)
                go_wp2_with fail
                go_roundw
                case rel => exact ⟨k + 1, by omega, by go_num, HNX2.out, bdrewN hbelK _⟩
                case measure => simp [intOf]; omega

set_option maxHeartbeats 6400000 in
set_option maxRecDepth 100000 in
theorem sIsEigen_c (ad : Option Addr) (cap : Nat) (M : List (List Int)) (x : Int) (adp : Option Addr) (capp : Nat) (p : List Int) (w : World) (hr : RdM w ad M) (hl : smM M) (hp : RdI w adp p) (hlp : p.length ≤ 1048576) :
    Calls Tryz.prog 15 #[.slice ad M.length cap, .int .i64 x, .slice adp p.length capp] w fun e w' => ∃ B, e = .returned (.tuple #[.bool B, .bool (quB M x p)]) ∧ (B = true ↔ quB M x p = true ∧ eigP M.length (entM M) x (vOf p)) ∧ Below w.heap.size w w' := by
  have C1 := Lib.hid (mnVector_c ad cap M adp capp p w hr hl hp hlp)
  have C2 := Lib.hid (fun w => poFin_c x w)
  rw [show finB x = inB x (-1000000) 1000000 from rfl] at C2
  by_cases hq : quB M x p = true
  case neg =>
    have hq := Bool.eq_false_iff.2 hq
    have hq2 := qu_vec M x p
    rw [hq] at hq2 ⊢
    clear hq hr hl hp hlp
    generalize vecM M p = A at C1 hq2
    generalize inB x (-1000000) 1000000 = B at C2 hq2
    generalize M.length = n at C1 ⊢
    generalize p.length = k at C1 ⊢
    cases A
    · clear hq2
      go_enter Tryz.func15, Tryz.ntmps15
      go_wp2_with fail
      refine C1.out.mono ?_
      rintro e w1 ⟨rfl, hb1⟩
      go_wp2_with fail
      exact bodyPost_ret (v := .tuple #[.bool false, .bool false]) (by simp [results, Tryz.results15, go_sem]) rfl ⟨false, rfl, by simp, hb1⟩
    · obtain rfl : B = false := by simpa using hq2.symm
      clear hq2
      go_enter Tryz.func15, Tryz.ntmps15
      go_wp2_with fail
      refine C1.out.mono ?_
      rintro e w1 ⟨rfl, hb1⟩
      go_wp2_with fail
      refine (C2.out _).mono ?_
      rintro e w2 ⟨rfl, rfl⟩
      go_wp2_with fail
      exact bodyPost_ret (v := .tuple #[.bool false, .bool false]) (by simp [results, Tryz.results15, go_sem]) rfl ⟨false, rfl, by simp, hb1⟩
  case pos =>
    obtain ⟨hs, hxb, hpl, hpb⟩ := qu_facts hq
    obtain ⟨hn, _, hnum⟩ := sq_facts hs
    have hnum : ∀ a b, a < M.length → b < M.length → numB (entM M a b) = true := hnum
    rw [hq]
    obtain ⟨hv1, hv2⟩ := qu_split hq
    rw [hv1] at C1
    rw [hv2] at C2
    have h3 := hr
    rw [← sq_toM hs] at h3
    rw [hpl] at C1 hpb ⊢
    clear hv1 hv2
    generalize entM M = m at h3 hnum ⊢
    generalize M.length = n at C1 h3 hn hnum hpl hpb ⊢
    have HR := Lib.hid h3; have HNUM := Lib.hid hnum
    have HP := Lib.hid hp
    have HPB := Lib.hid (show ∀ j, j < n → -1000000 ≤ vOf p j ∧ vOf p j ≤ 1000000 from hpb)
    have HPL := Lib.hid hpl
    clear hr hl hs hq h3 hnum hp hlp hpl hpb
    go_enter Tryz.func15, Tryz.ntmps15
    go_wp2_with fail
    refine C1.out.mono ?_
    rintro e w1 ⟨rfl, hb1⟩
    go_wp2_with fail
    refine (C2.out _).mono ?_
    rintro e w0 ⟨rfl, rfl⟩
    have HR1 := Lib.hid (HR.out.below hb1); have HP1 := Lib.hid (HP.out.below hb1)
    clear HR HP C1 C2
    go_wp2_with fail
    go_loopw [24] (fun i wr => ∃ k : Nat, k ≤ n ∧ i = .int .i64 k ∧ (∀ a, a < k → mnF 1000000000 (fun k => prodZ (m a k) (vOf p k)) n = x + vOf p a) ∧ Below w1.heap.size w1 wr) (fun i _ => n - (intOf i).toNat)
    case atStart => exact ⟨0, Nat.zero_le _, rfl, fun a ha => by omega, Below.refl _ _⟩
    case round =>
      obtain ⟨wE, rfl⟩ : ∃ x : World, x = wr := ⟨_, rfl⟩
      obtain ⟨i, hi, rfl, hall, hbel⟩ := hrel
      have HALL := Lib.hid hall; clear hall
      by_cases hlt : i < n
      case neg =>
        obtain rfl : i = n := by omega
        go_wp2_with fail
        exact bodyPost_ret (v := .tuple #[.bool true, .bool true]) (by simp [results, Tryz.results15, go_sem]) rfl ⟨true, rfl, ⟨fun _ => ⟨(by first | rfl | trivial), HALL.out⟩, fun _ => rfl⟩, ball hb1 hbel⟩
      case pos =>
        obtain ⟨bM, oM, rfl, hbM, hrow⟩ := HR1.out.rowF (by omega)
        obtain ⟨b2, o2, c2, e2, hl2, hc2⟩ := hrow i hlt
        have e2 := bcell hbel hbM e2
        have HC2 := Lib.hid hc2
        obtain ⟨bp, op, rfl, hbp, qi⟩ := HP1.out i (by rw [HPL.out]; exact hlt)
        have QI := Lib.hid qi
        clear hrow hc2 qi
        go_wp2_with fail
        clear e2
        go_loopw [10, 31] (fun v i' wr => ∃ k : Nat, k ≤ n ∧ i' = .int .i64 k ∧ v = .int .i64 (mnF 1000000000 (fun k => prodZ (m i k) (vOf p k)) k) ∧ Below w1.heap.size w1 wr) (fun _ i _ => n - (intOf i).toNat)
        case atStart => exact ⟨0, Nat.zero_le _, rfl, rfl, hbel⟩
        case round =>
          obtain ⟨wK, rfl⟩ : ∃ x : World, x = wr := ⟨_, rfl⟩
          obtain ⟨k, hk, rfl, rfl, hbelK⟩ := hrel
          by_cases hlk : k < n
          case neg =>
            obtain rfl : k = n := by omega
            have q2 : wK.cell? ⟨bp, op + i, none⟩ = some (.int .i64 (vOf p i)) := bcell hbelK hbp QI.out
            have b1 := HPB.out i hlt
            obtain ⟨S, hS⟩ : ∃ S, mnF 1000000000 (fun j => prodZ (m i j) (vOf p j)) k = S := ⟨_, rfl⟩
            have HS := Lib.hid hS
            rw [hS]
            have HNO := Lib.hid (fun (h : S ≠ x + vOf p i) => show ¬ eigP k m x (vOf p) from fun g => h (by rw [← hS]; exact g i hlt))
            have HYES := Lib.hid (fun (h : S = x + vOf p i) => show ∀ a, a < i + 1 → mnF 1000000000 (fun j => prodZ (m a j) (vOf p j)) k = x + vOf p a from fun a ha => by
              by_cases e : a = i
              · subst e; rw [hS]; exact h
              · exact HALL.out a (by omega))
            clear hS
            generalize vOf p i = A at q2 b1 HNO HYES
            have x3 : (0 : Int) ≤ (i : Int) := by omega
            have x4 : (i : Int) < (k : Int) := by omega
            have w2' : IntKind.i64.wrap (x + A) = x + A := i64_small (by omega) (by omega)
            obtain ⟨XA, hXA⟩ : ∃ XA, x + A = XA := ⟨_, rfl⟩
            rw [hXA] at HNO HYES
            have w3' := w2'.trans hXA
            by_cases hD : S = XA
            · have HY2 := Lib.hid (HYES.out hD)
              subst hD
              clear HNO HYES HALL HS w2' hXA
              go_wp2_with fail
              go_roundw
              case rel => exact ⟨i + 1, by omega, by go_num, HY2.out, hbelK⟩
              case measure => simp [intOf]; omega
            · have HN2 := Lib.hid (HNO.out hD)
              have g1 : (S != XA) = true := bne_iff_ne.2 hD
              clear HNO HYES HALL HS w2' hXA
              go_wp2_with fail
              exact bodyPost_ret (v := .tuple #[.bool false, .bool true]) (by simp [results, Tryz.results15, go_sem]) rfl ⟨false, rfl, ⟨(fun h => by cases h), fun h => absurd h.2 HN2.out⟩, ball hb1 hbelK⟩
          case pos =>
            have q1 := bcell hbelK hl2 (HC2.out k hlk)
            obtain ⟨_, _, e5, _, qk⟩ := HP1.out k (by rw [HPL.out]; exact hlk)
            injection e5 with e5
            injection e5 with e5 e6 _
            subst e5; subst e6
            have q3 : wK.cell? ⟨bp, op + k, none⟩ = some (.int .i64 (vOf p k)) := bcell hbelK hbp qk
            have b2' := HPB.out k hlk
            have b3 := numB_t (HNUM.out i k hlt hlk)
            have CP := Lib.hid (fun u => nuPlus_c (m i k) (vOf p k) u (by omega))
            have HSN := Lib.hid (show mnF 1000000000 (fun k => prodZ (m i k) (vOf p k)) (k + 1) = leastZ (mnF 1000000000 (fun k => prodZ (m i k) (vOf p k)) k) (prodZ (m i k) (vOf p k)) from rfl)
            generalize mnF 1000000000 (fun k => prodZ (m i k) (vOf p k)) k = S at HSN ⊢
            generalize prodZ (m i k) (vOf p k) = Z at CP HSN
            have CL := Lib.hid (fun u => l1Least_n S Z u)
            generalize leastZ S Z = Y at CL HSN
            generalize m i k = C at q1 CP
            generalize vOf p k = D at q3 CP
            have x1 : (0 : Int) ≤ (k : Int) := by omega
            have x2 : (k : Int) < (n : Int) := by omega
            clear qk b2' b3
            go_wp2_with fail
            refine (CP.out _).mono ?_
            rintro e w3 ⟨rfl, rfl⟩
            go_wp2_with fail
            refine (CL.out _).mono ?_
            rintro e w4 ⟨rfl, rfl⟩
            go_wp2_with fail
            go_roundw
            case rel => exact ⟨k + 1, by omega, by go_num, by rw [HSN.out], hbelK⟩
            case measure => simp [intOf]; omega
end Go.Proofs.YtjkfighooijblaaGreat
