/-
  The transposed matrix; potentials: program and reference. By an AI agent.
-/
import Derived.Test.YtfgdhlnmndgjbaaGreatDoorWyF
import Derived.Test.YtfgdhlnmndgjbaaGreatDoorAll
import Derived.Maps.AppendAt
namespace Go.Proofs.YtfgdhlnmndgjbaaGreatDoor
open Go.RowKit

/-- append of numbers in the list of a plain region, with the block of what comes. -/
theorem wpList_appT {w : World} {ops : Array Oper} {rest : List Oper} {o : Oper} {a : Act} {Q : Exit → Act → World → Prop} (hgd : o.guard = none) (s x : Operand)
    (ho : o.op = .call { callee := .builtin .append, args := #[s, x], argTypes := #[38, 38] })
    (B b off c N : Nat) (v : Value) (l m : List Int) (hN : l.length + m.length = N) (h0 : 0 < N) (hs : a.eval s = v) (hx : a.eval x = .slice (some ⟨b, off, none⟩) m.length c) (hown : RowI w B v l) (hX : RdI w (some ⟨b, off, none⟩) m) (hl : l.length ≤ 100000) (hm : m.length ≤ 100000) (hB : B ≤ w.heap.size)
    (h : ∀ g' cap' w', RowI w' B (.slice (some ⟨g', 0, none⟩) N cap') (l ++ m) → w.grownBy w' v.ownBlock → (some g' = v.ownBlock ∨ some g' = some w.heap.size) → Below B w w' → wpList Tryz.prog ops Q rest (a.put o.dst (.slice (some ⟨g', 0, none⟩) N cap')) w') : wpList Tryz.prog ops Q (o :: rest) a w := by
  refine wpList_plain hgd fun _ hK => ?_
  obtain ⟨iP, hiP, hzP, hsP, hbP⟩ := info_parts Tryz.infoI
  obtain ⟨v', w', hr, h2, h3, _, h5⟩ := run_append_own_at (P := Tryz.prog) w B 38 o.type 3 iP _ 1 8 Tryz.underlying38 hiP hzP hsP hbP rfl (by omega) v l.length (ints l) hown ⟨b, off, none⟩ m.length c (ints m) (by rw [ints_length]; omega) (fun j u hu => by
    have hj : j < m.length := by
      have := (List.getElem?_eq_some_iff.1 hu).1
      rwa [ints_length] at this
    rw [addr_plain, hX.at hj]
    rw [ints_get hj] at hu
    exact hu) (ints_oneCell m) (by unfold maxLen; omega) (by omega) hB
  have hrow : RowI w' B v' (l ++ m) := row_congr h2 (by simp) (by simp [ints])
  have hbl := (Below.refl B w).grown h3 hB (fun q e => (World.ownsRow.lt hown q e).1)
  unfold Oper.wp execOp
  simp only [ho, resolve, invoke, builtin, Sem.run_bind, Sem.run_pure, Result.andThen_ok, List.map_toArray, List.map_cons, List.map_nil, hs, hx, hr]
  rcases Own.of_row hrow with ⟨_, h1, _⟩ | ⟨g, cap, h1, hg, _⟩
  · rw [List.length_append] at h1; omega
  · rw [List.length_append, hN] at h1
    subst h1
    exact hK _ _ (h g cap w' hrow h3 h5 hbl)
theorem RowI.of_block {w w' : World} {B : Nat} {v : Value} {l : List Int} (h : RowI w B v l) (e : ∀ q, v.ownBlock = some q → w'.heap[q]? = w.heap[q]?) : RowI w' B v l := by
  refine ⟨h.1, ?_⟩
  rcases h.2 with hn | ⟨g, cap, cur, rfl, hb, hgg, rest⟩
  · exact .inl hn
  · exact .inr ⟨g, cap, cur, rfl, hb, by rw [e g rfl]; exact hgg, rest⟩
/-- Rows that grow in their places. -/
structure TrO (w : World) (B g n : Nat) (R : Nat → List Int) (vs : List Value) : Prop where
  hB : B ≤ g
  out : Own w g 38 vs
  len : vs.length = n
  each : ∀ i, i < n → RowI w B (vs.getD i undef) (R i)
  apart : ∀ i j, i < n → j < n → i ≠ j → ∀ q, (vs.getD i undef).ownBlock = some q → (vs.getD j undef).ownBlock ≠ some q
theorem TrO.below {w w' : World} {B g n : Nat} {R : Nat → List Int} {vs : List Value} (h : TrO w B g n R vs) (hb : Below w.heap.size w w') : TrO w' B g n R vs :=
  ⟨h.hB, h.out.belowAll hb, h.len, fun i hi => (h.each i hi).below hb, h.apart⟩
theorem TrO.congr {w : World} {B g n : Nat} {R R' : Nat → List Int} {vs : List Value} (h : TrO w B g n R vs) (e : ∀ i, i < n → R i = R' i) : TrO w B g n R' vs :=
  ⟨h.hB, h.out, h.len, fun i hi => by rw [← e i hi]; exact h.each i hi, h.apart⟩
theorem TrO.start (w : World) (n : Nat) (c : Array Value) (h : c.toList = List.replicate n (.slice none 0 0)) : TrO (w.alloc (.cells c 38)) w.heap.size w.heap.size n (fun _ => []) (List.replicate n (.slice none 0 0)) := by
  have e : ∀ i, i < n → (List.replicate n (Value.slice none 0 0)).getD i undef = .slice none 0 0 := fun i hi => by simp [List.getD, hi]
  exact ⟨Nat.le_refl _, Own.newA w c _ h, by simp, fun i hi => by rw [e i hi]; exact RowI.nil _ _, fun i j hi _ _ q hq => by rw [e i hi] at hq; cases hq⟩
theorem TrO.step {w w' : World} {B g n k : Nat} {R : Nat → List Int} {vs : List Value} {u : Value} {x : Int} (h : TrO w B g n R vs) (hk : k < n) (hu : RowI w' B u (R k ++ [x])) (hg : w.grownBy w' (vs.getD k undef).ownBlock)
    (hb : u.ownBlock = (vs.getD k undef).ownBlock ∨ u.ownBlock = some w.heap.size) : TrO (w'.setCell ⟨g, k, none⟩ u) B g n (fun i => if i = k then R k ++ [x] else R i) (vs.set k u) := by
  have hne : ∀ {i}, i < n → (vs.getD i undef).ownBlock ≠ some g := fun {i} hi => row_ne_ty (h.each i hi) h.out (by decide)
  have ho' : Own w' g 38 vs := h.out.grown hg (hne hk)
  have hl := h.len
  have hlow : ∀ {i q}, i < n → (vs.getD i undef).ownBlock = some q → q < w.heap.size := fun {i q} hi hq => (World.ownsRow.lt (h.each i hi) q hq).2
  have eS : (vs.set k u).getD k undef = u := by simp [List.getD_eq_getElem?_getD, hl, hk]
  have eO : ∀ {i}, i ≠ k → (vs.set k u).getD i undef = vs.getD i undef := fun {i} hi => by rw [List.getD_eq_getElem?_getD, List.getElem?_set_ne (by omega), ← List.getD_eq_getElem?_getD]
  refine ⟨h.hB, ho'.set k u, by rw [List.length_set]; exact hl, fun i hi => ?_, fun i j hi hj hij q => ?_⟩
  · by_cases e : i = k
    · subst e
      rw [eS]
      simp only [if_pos]
      exact ownsRow_setCell_other hu (row_ne_ty hu ho' (by decide)) _
    · rw [eO e]
      simp only [if_neg e]
      have h1 : RowI w' B (vs.getD i undef) (R i) := (h.each i hi).of_block fun q hq => hg.block q (hlow hi hq) fun e2 => h.apart i k hi hk e q hq e2.symm
      exact ownsRow_setCell_other h1 (hne hi) _
  · by_cases e : i = k
    · subst e
      rw [eS, eO (by omega)]
      intro h1 h2
      rcases hb with hb | hb
      · rw [hb] at h1; exact h.apart i j hi hj hij q h1 h2
      · rw [hb] at h1
        cases h1
        exact absurd (hlow hj h2) (Nat.lt_irrefl _)
    · by_cases e' : j = k
      · subst e'
        rw [eS, eO e]
        intro h1 h2
        rcases hb with hb | hb
        · rw [hb] at h2; exact h.apart i j hi hj hij q h1 h2
        · rw [hb] at h2
          cases h2
          exact absurd (hlow hi h1) (Nat.lt_irrefl _)
      · rw [eO e, eO e']
        exact h.apart i j hi hj hij q
theorem TrO.low {w : World} {B g n : Nat} {R : Nat → List Int} {vs : List Value} (h : TrO w B g n R vs) : g < w.heap.size ∧ ∀ i q, i < n → (vs.getD i undef).ownBlock = some q → q < w.heap.size :=
  ⟨h.out.lt, fun i q hi hq => (World.ownsRow.lt (h.each i hi) q hq).2⟩
theorem TrO.grown {w w' : World} {B g n K : Nat} {row : Option Nat} {R : Nat → List Int} {vs : List Value} (h : TrO w B g n R vs) (hK : g < K ∧ ∀ i q, i < n → (vs.getD i undef).ownBlock = some q → q < K) (hg : w.grownBy w' row) (hne : ∀ q, row = some q → q < B ∨ K ≤ q) : TrO w' B g n R vs := by
  have hl := h.low
  refine ⟨h.hB, h.out.of_block (hg.block g hl.1 fun e => ?_), h.len, fun i hi => (h.each i hi).of_block fun q hq => hg.block q (hl.2 i q hi hq) fun e => ?_, h.apart⟩
  · have := hne g e.symm
    have := h.hB
    omega
  · have := hne q e.symm
    have := hK.2 i q hi hq
    have := (World.ownsRow.lt (h.each i hi) q hq).1
    omega
theorem TrO.rd {w : World} {B g n : Nat} {F : Nat → Nat → Int} {vs : List Value} (h : TrO w B g n (fun i => tab n (F i)) vs) (h0 : 0 < n) : RdM w (some ⟨g, 0, none⟩) (toM n F) := by
  intro i hi
  rw [toM_len] at hi
  have hrow := h.each i hi
  obtain ⟨gr, cr, e, _⟩ := hrow.shp (by rw [tab_length]; exact h0)
  have hc : w.cell? ⟨g, i, none⟩ = some (vs.getD i undef) := h.out.cell? (by simp [List.getD, h.len, hi])
  rw [e] at hc hrow
  obtain ⟨_, _, e2, hrd⟩ := hrow.shape
  injection e2 with e2 _ _
  subst e2
  exact ⟨g, 0, _, cr, rfl, h.out.lt, by rw [Nat.zero_add, toM_row F hi]; exact hc, by rw [toM_row F hi]; exact hrd⟩

/-- Rows of the transposed: i rows and j numbers of the next one are done. -/
def trR (F : Nat → Nat → Int) (i j k : Nat) : List Int := tab (if k < j then i + 1 else i) fun a => F a k
theorem trR_next (F : Nat → Nat → Int) (i j k : Nat) : (if k = j then trR F i j j ++ [F i j] else trR F i j k) = trR F i (j + 1) k := by
  unfold trR
  by_cases h : k = j
  · subst h
    rw [if_pos rfl, if_neg (by omega), if_pos (by omega)]
    unfold tab
    rw [List.range_succ, List.map_append]
    rfl
  · rw [if_neg h]
    by_cases h2 : k < j
    · rw [if_pos h2, if_pos (by omega)]
    · rw [if_neg h2, if_neg (by omega)]
set_option maxHeartbeats 3200000 in
set_option maxRecDepth 100000 in
theorem transposed_c (n : Nat) (ad : Option Addr) (cap : Nat) (F : Nat → Nat → Int) (w : World) (hr : RdM w ad (toM n F)) (hn : 1 ≤ n ∧ n ≤ 6) :
    Calls Tryz.prog 37 #[.slice ad n cap] w fun e w' => ∃ g, e = .returned (.slice (some ⟨g, 0, none⟩) n n) ∧ (∃ vs, TrO w' w.heap.size g n (fun i => tab n fun j => F j i) vs) ∧ Below w.heap.size w w' := by
  obtain ⟨bM, oM, rfl, hbM, hrowM⟩ := hr.rowF (by omega)
  obtain ⟨b0, o0, c0, e0, _, _⟩ := hrowM 0 (by omega)
  rw [Nat.add_zero] at e0
  have HRW := Lib.hid hrowM
  clear hr hrowM
  have hmk := run_makeN (P := Tryz.prog) 23 38 (.slice none 0 0) 1 24 Tryz.underlying23 Tryz.infoM n (by omega) (by omega)
  simp only [Value.cells, Nat.mul_one] at hmk
  have hst := TrO.start w n (madeCells #[.slice none 0 0] n) (toList_madeCells_one _ _)
  have hb0 : Below w.heap.size w (w.alloc (.cells (madeCells #[.slice none 0 0] n) 38)) := (Below.refl _ _).alloc (Nat.le_refl _) _
  have x0 : (0 : Int) < (n : Int) := by omega
  go_enter Tryz.func37, Tryz.ntmps37
  go_wp2_with fail
  generalize w.alloc (.cells (madeCells #[.slice none 0 0] n) 38) = w1 at hst hb0 ⊢
  have HST := Lib.hid hst
  clear hst hmk e0
  go_loopw [15] (fun i wr => ∃ (a : Nat) (vs : List Value), a ≤ n ∧ i = .int .i64 a ∧ TrO wr w.heap.size w.heap.size n (trR F a 0) vs ∧ Below w.heap.size w wr) (fun i _ => n - (intOf i).toNat)
  case atStart => exact ⟨0, _, Nat.zero_le _, rfl, HST.out.congr (fun i _ => by unfold trR; rw [if_neg (by omega)]; rfl), hb0⟩
  case round =>
    obtain ⟨wI, rfl⟩ : ∃ x : World, x = wr := ⟨_, rfl⟩
    obtain ⟨a, vs, ha, rfl, htr, hbel⟩ := hrel
    have HT := Lib.hid htr; clear htr HST
    by_cases hla : a < n
    case neg =>
      obtain rfl : a = n := by omega
      have hfin := HT.out.congr (R' := fun i => tab a fun j => F j i) (fun i _ => by unfold trR; rw [if_neg (by omega)])
      have HF := Lib.hid hfin; clear hfin
      go_wp2_with fail
      go_ret
      exact ⟨_, rfl, ⟨_, HF.out⟩, hbel⟩
    case pos =>
      obtain ⟨b2, o2, c2, e2, hl2, hc2⟩ := HRW.out a hla
      have HC2 := Lib.hid hc2
      have e2 := bcell hbel hbM e2
      have x1 : (0 : Int) ≤ (a : Int) := by omega
      have x2 : (a : Int) < (n : Int) := by omega
      clear hc2
      go_wp2_with fail
      go_loopw [21] (fun i wr => ∃ (j : Nat) (vs : List Value), j ≤ n ∧ i = .int .i64 j ∧ TrO wr w.heap.size w.heap.size n (trR F a j) vs ∧ Below w.heap.size w wr) (fun i _ => n - (intOf i).toNat)
      case atStart => exact ⟨0, vs, Nat.zero_le _, rfl, HT.out, hbel⟩
      case round =>
        obtain ⟨wJ, rfl⟩ : ∃ x : World, x = wr := ⟨_, rfl⟩
        obtain ⟨j, us, hj, rfl, htr, hbel2⟩ := hrel
        clear e2
        by_cases hlj : j < n
        case neg =>
          obtain rfl : j = n := by omega
          have HT2 := Lib.hid (htr.congr (R' := trR F (a + 1) 0) (fun i hi => by unfold trR; rw [if_pos hi, if_neg (by omega)]))
          clear htr HT
          go_wp2_with fail
          go_roundw
          case rel => exact ⟨a + 1, us, by omega, by go_num, HT2.out, hbel2⟩
          case measure => simp [intOf]; omega
        case pos =>
          have k1 := bcell hbel2 hl2 (HC2.out j hlj)
          have k2 : wJ.cell? ⟨w.heap.size, j, none⟩ = some (us.getD j undef) := htr.out.cell? (by simp [List.getD, htr.len, hlj])
          have hsz := hbel2.size
          have htr2 := htr.below ((Below.refl _ _).alloc (Nat.le_refl _) (.cells #[.int .i64 (F a j)] 3))
          have HTR := Lib.hid htr2
          have HNX := Lib.hid (fun k => trR_next F a j k)
          have HO := Lib.hid (htr2.each j hlj)
          have hlen : (trR F a j j).length = a := by unfold trR; rw [tab_length, if_neg (by omega)]
          have HK := Lib.hid (show ∀ wm, (wJ.alloc (.cells #[.int .i64 (F a j)] 3)).grownBy wm (us.getD j undef).ownBlock → wm.cell? ⟨w.heap.size, j, none⟩ = some (us.getD j undef) ∧ wm.frozen? ⟨w.heap.size, j, none⟩ = false from fun wm hg => by
            have ho := htr2.out.grown hg (row_ne_ty (htr2.each j hlj) htr2.out (by decide))
            exact ⟨ho.cell? (by simp [List.getD, htr.len, hlj]), ho.frozen j⟩)
          have x3 : (0 : Int) ≤ (j : Int) := by omega
          have x4 : (j : Int) < (n : Int) := by omega
          have hgB : w.heap.size ≤ w.heap.size := Nat.le_refl _
          clear htr htr2 HT
          obtain ⟨X, hX⟩ : ∃ X, F a j = X := ⟨_, rfl⟩
          obtain ⟨u0, hu0⟩ : ∃ u0, us.getD j undef = u0 := ⟨_, rfl⟩
          rw [hX] at k1 HTR HNX HK HO
          rw [hu0] at k2 HK HO
          have HU0 := Lib.hid hu0
          clear hX hu0
          go_wp2_with (at_builtin; refine wpList_appT rfl _ _ rfl w.heap.size _ 0 1 (a + 1) _ (trR F a j j) [X] (by rw [hlen]; rfl) (by omega) rfl rfl HO.out (rdI_one _ _ _ rfl) (by rw [hlen]; omega) (by simp) (by simp; omega) ?_; intro g5 c5 wm hown hgr hbk hbm; obtain ⟨d1, d2⟩ := HK.out wm hgr)
          have hst := HTR.out.step hlj hown (by rw [HU0.out]; exact hgr) (by rw [HU0.out]; exact hbk)
          have hb5 := ((hbel2.alloc hsz (.cells #[.int .i64 X] 3)).trans hbm).setCell (p := ⟨w.heap.size, j, none⟩) hgB (.slice (some ⟨g5, 0, none⟩) (a + 1) c5)
          have HST := Lib.hid (hst.congr (R' := trR F a (j + 1)) (fun i _ => HNX.out i))
          clear hst hown hgr hbk hbm
          go_wp2_with fail
          go_roundw
          case rel => exact ⟨j + 1, _, by omega, by go_num, HST.out, hb5⟩
          case measure => simp [intOf]; omega

set_option maxHeartbeats 800000 in
theorem toldList_c (ad : Option Addr) (cap : Nat) (r : List Int) (w : World) (hr : RdI w ad r) (hl : r.length ≤ 1048576) :
    Calls Tryz.prog 48 #[.slice ad r.length cap] w fun e w' => e = .returned (.tuple #[if r.all numB = true then .slice ad r.length cap else .slice none 0 0, .bool (r.all numB)]) ∧ w = w' := by
  have C1 := Lib.hid (areNumbers_c ad cap r w hr hl)
  clear hr hl
  generalize r.all numB = V at C1 ⊢
  generalize r.length = n at C1 ⊢
  cases V
  · go_enter Tryz.func48, Tryz.ntmps48
    go_wp2_with fail
    refine C1.out.mono ?_
    rintro e w1 ⟨rfl, rfl⟩
    go_wp2_with fail
    exact bodyPost_ret (v := .tuple #[.slice none 0 0, .bool false]) (by simp [results, Tryz.results48, go_sem]) rfl ⟨rfl, rfl⟩
  · go_enter Tryz.func48, Tryz.ntmps48
    go_wp2_with fail
    refine C1.out.mono ?_
    rintro e w1 ⟨rfl, rfl⟩
    go_wp2_with fail
    exact bodyPost_ret (v := .tuple #[.slice ad n cap, .bool true]) (by simp [results, Tryz.results48, go_sem]) rfl ⟨rfl, rfl⟩

end Go.Proofs.YtfgdhlnmndgjbaaGreatDoor
