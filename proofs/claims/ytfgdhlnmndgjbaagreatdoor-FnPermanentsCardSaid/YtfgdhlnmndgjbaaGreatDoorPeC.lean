/-
  Some texts of this proof in one: PeC PeD PeE. Each part tells what it proves. By an AI agent.
-/
import Derived.Test.YtfgdhlnmndgjbaaGreatDoorPeA
import Derived.Test.YtfgdhlnmndgjbaaGreatDoorEgG

/-
  The shifted matrix, both sides. By an AI agent.
-/
namespace Go.Proofs.YtfgdhlnmndgjbaaGreatDoor
open Go.RowKit

def MtxO (b : Bool) (L : List (List Int)) (w : World) (e : Ending) (w' : World) : Prop := ∃ ad c, e = .returned (.tuple #[.slice ad (if b = true then L else []).length c, .bool b]) ∧ RdM w' ad (if b = true then L else []) ∧ Below w.heap.size w w'
theorem MtxO.no {L : List (List Int)} {w w' : World} (hb : Below w.heap.size w w') : MtxO false L w (.returned (.tuple #[.slice none 0 0, .bool false])) w' := ⟨none, 0, rfl, (fun i hi => by simp at hi), hb⟩
theorem MtxO.yes {L : List (List Int)} {w w' : World} {a : Option Addr} {c : Nat} (h : RdM w' a L) (hb : Below w.heap.size w w') : MtxO true L w (.returned (.tuple #[.slice a L.length c, .bool true])) w' := ⟨a, c, rfl, h, hb⟩
theorem MtxO.up {b : Bool} {L : List (List Int)} {u w w' : World} {e : Ending} (h : MtxO b L w e w') (hb : Below u.heap.size u w) : MtxO b L u e w' := by
  obtain ⟨ad, c, h1, h2, h3⟩ := h
  exact ⟨ad, c, h1, h2, ball hb h3⟩

set_option maxHeartbeats 800000 in
theorem toldMatrix_c (ad : Option Addr) (cap : Nat) (M : List (List Int)) (w : World) (hr : RdM w ad M) (hl : smM M) :
    Calls Tryz.prog 40 #[.slice ad M.length cap] w (MtxO (matB M) M w) := by
  have C1 := Lib.hid (isMatrix_c ad cap M w hr (by have := hl.1; omega) (fun i hi => by have := hl.2 i hi; omega))
  have HX := Lib.hid hr
  clear hr hl
  generalize matB M = B at C1 ⊢
  obtain ⟨n, hn⟩ : ∃ n, M.length = n := ⟨_, rfl⟩
  have HN := Lib.hid hn
  rw [hn] at C1 ⊢
  clear hn
  cases B
  · go_enter Tryz.func40, Tryz.ntmps40
    go_wp2_with fail
    refine C1.out.mono ?_
    rintro e w1 ⟨rfl, hb1⟩
    go_wp2_with fail
    exact bodyPost_ret (v := .tuple #[.slice none 0 0, .bool false]) (by simp [results, Tryz.results40, go_sem]) rfl (MtxO.no hb1)
  · go_enter Tryz.func40, Tryz.ntmps40
    go_wp2_with fail
    refine C1.out.mono ?_
    rintro e w1 ⟨rfl, hb1⟩
    go_wp2_with fail
    refine bodyPost_ret (v := .tuple #[.slice ad n cap, .bool true]) (by simp [results, Tryz.results40, go_sem]) rfl ?_
    have := MtxO.yes (w := w) (c := cap) (HX.out.below hb1) hb1
    rw [HN.out] at this
    exact this

/-! ### Plain -/
def shL (M : List (List Int)) (b : Int) : List (List Int) := M.map fun r => r.map fun x => prodZ x b
def shB (M : List (List Int)) (b : Int) : Bool := matB M && (inB b (-1000000) 1000000 && matB (shL M b))
theorem shL_len (M : List (List Int)) (b : Int) : (shL M b).length = M.length := by unfold shL; rw [List.length_map]
theorem shL_row (M : List (List Int)) (b : Int) {i : Nat} (hi : i < M.length) : (shL M b).getD i [] = (M.getD i []).map fun x => prodZ x b := by
  unfold shL
  rw [List.getD_eq_getElem?_getD, List.getElem?_map, List.getD_eq_getElem?_getD, List.getElem?_eq_getElem hi]
  rfl
theorem map_getD (l : List Int) (f : Int → Int) {j : Nat} (hj : j < l.length) : (l.map f).getD j 0 = f (l.getD j 0) := by
  rw [List.getD_eq_getElem?_getD, List.getElem?_map, List.getD_eq_getElem?_getD, List.getElem?_eq_getElem hj]
  rfl
theorem shL_col {M : List (List Int)} {b : Int} (h : matB M = true) : colN (shL M b) = colN M := by
  obtain ⟨h1, _, _⟩ := mat_facts h
  unfold colN
  rw [shL_row M b (by omega), List.length_map]
theorem shL_ent {M : List (List Int)} {b : Int} (h : matB M = true) {i j : Nat} (hi : i < M.length) (hj : j < colN M) : entM (shL M b) i j = prodZ (entM M i j) b := by
  obtain ⟨_, _, h3, _⟩ := mat_facts h
  unfold entM
  rw [shL_row M b hi, map_getD _ _ (by rw [h3 i hi]; exact hj)]
theorem mat_of {M : List (List Int)} {R C : Nat} (h1 : M.length = R) (hR : 1 ≤ R ∧ R ≤ 6) (hC : 1 ≤ C ∧ C ≤ 6) (h2 : ∀ i, i < R → (M.getD i []).length = C) (h3 : ∀ i j, i < R → j < C → numB (entM M i j) = true) : matB M = true := by
  unfold matB
  rw [Bool.and_eq_true, List.all_eq_true]
  refine ⟨inB_t.2 (by omega), fun r hr => ?_⟩
  obtain ⟨i, hi, rfl⟩ := List.getElem_of_mem hr
  have e : M.getD i [] = M[i] := by rw [List.getD_eq_getElem?_getD, List.getElem?_eq_getElem hi]; rfl
  have g2 := h2 i (by omega)
  have g0 := h2 0 (by omega)
  rw [e] at g2
  rw [Bool.and_eq_true, decide_eq_true_eq]
  refine ⟨?_, by rw [g2, g0]⟩
  unfold vecB
  rw [Bool.and_eq_true, List.all_eq_true]
  refine ⟨inB_t.2 (by omega), fun x hx => ?_⟩
  obtain ⟨j, hj, rfl⟩ := List.getElem_of_mem hx
  have := h3 i j (by omega) (by omega)
  unfold entM at this
  rw [e, List.getD_eq_getElem?_getD, List.getElem?_eq_getElem hj] at this
  exact this
theorem shL_dims {M : List (List Int)} {b : Int} (h : matB M = true) : (shL M b).length = M.length ∧ ∀ i, i < M.length → ((shL M b).getD i []).length = colN M := by
  obtain ⟨_, _, h3, _⟩ := mat_facts h
  exact ⟨shL_len M b, fun i hi => by rw [shL_row M b hi, List.length_map]; exact h3 i hi⟩
/-- the shifted matrix is one where all its entries are numbers. -/
theorem shB_ent {M : List (List Int)} {b : Int} (h : matB M = true) : matB (shL M b) = true ↔ ∀ i j, i < M.length → j < colN M → numB (prodZ (entM M i j) b) = true := by
  obtain ⟨h1, h2, h3, _⟩ := mat_facts h
  obtain ⟨d1, d2⟩ := shL_dims (b := b) h
  constructor
  · intro g i j hi hj
    have := (mat_facts g).2.2.2.1 i j (by omega) (by rw [shL_col h]; exact hj)
    rwa [shL_ent h hi hj] at this
  · intro g
    exact mat_of d1 h1 h2 d2 fun i j hi hj => by rw [shL_ent h hi hj]; exact g i j hi hj

set_option maxHeartbeats 3200000 in
set_option maxRecDepth 100000 in
theorem iShiftMatrix_c (ad : Option Addr) (cap : Nat) (M : List (List Int)) (b : Int) (w : World) (hr : RdM w ad M) (hl : smM M) :
    Calls Tryz.prog 13 #[.slice ad M.length cap, .int .i64 b] w (MtxO (shB M b) (shL M b) w) := by
  have C1 := Lib.hid (isMatrix_c ad cap M w hr (by have := hl.1; omega) (fun i hi => by have := hl.2 i hi; omega))
  have C2 := Lib.hid (fun w => isFinite_c b w)
  have CT := Lib.hid (fun (h : matB M = true) ad' cap' x (hx : RdM x ad' (shL M b)) => show Calls Tryz.prog 40 #[.slice ad' M.length cap'] x (MtxO (matB (shL M b)) (shL M b) x) from by
    have d := shL_dims (b := b) h
    have hc := (mat_facts h).2.1
    rw [← d.1]
    exact toldMatrix_c ad' cap' (shL M b) x hx ⟨by rw [d.1]; exact hl.1, fun i hi => by rw [d.2 i (by rw [← d.1]; exact hi)]; omega⟩)
  have CS := Lib.hid (fun (h : matB M = true) (h2 : inB b (-1000000) 1000000 = true) i (hi : i < M.length) a c x (hx : RdI x a (M.getD i [])) => show Calls Tryz.prog 39 #[.slice a (colN M) c, .int .i64 b] x fun e w' => ∃ g cap', e = .returned (.slice (some ⟨g, 0, none⟩) (colN M) cap') ∧ RowI w' x.heap.size (.slice (some ⟨g, 0, none⟩) (colN M) cap') ((M.getD i []).map fun y => prodZ y b) ∧ Below x.heap.size x w' from by
    obtain ⟨h1, hc, h3, h4, _⟩ := mat_facts h
    have hb := inB_t.1 h2
    have k := shifted_c a c (M.getD i []) b x hx (by rw [h3 i hi]; omega) (by rw [h3 i hi]; omega) (by omega) (fun j hj => by have := numB_bd (h4 i j hi (by rw [h3 i hi] at hj; exact hj)); unfold entM at this; omega)
    rw [h3 i hi] at k
    exact k)
  have HF := Lib.hid (fun (h : matB M = true) => mat_facts h)
  have HU := Lib.hid hr
  have HSR := Lib.hid (fun i hi => shL_row M b (i := i) hi)
  have HSL := Lib.hid (shL_len M b)
  unfold shB
  clear hr hl
  generalize shL M b = L at CT HSR HSL ⊢
  generalize matB L = B at CT ⊢
  obtain ⟨p, hp⟩ : ∃ p, matB M = p := ⟨_, rfl⟩
  obtain ⟨q, hq⟩ : ∃ q, inB b (-1000000) 1000000 = q := ⟨_, rfl⟩
  rw [hp] at C1 CT CS HF ⊢
  rw [hq] at C2 CS ⊢
  clear hp hq
  cases p
  case false =>
    clear CT CS C2 HF HU HSR HSL
    generalize M.length = n at C1 ⊢
    rw [Bool.false_and]
    go_enter Tryz.func13, Tryz.ntmps13
    go_wp2_with fail
    refine C1.out.mono ?_
    rintro e w1 ⟨rfl, hb1⟩
    go_wp2_with fail
    exact bodyPost_ret (v := .tuple #[.slice none 0 0, .bool false]) (by simp [results, Tryz.results13, go_sem]) rfl (MtxO.no hb1)
  case true =>
    cases q
    case false =>
      clear CT CS HF HU HSR HSL
      generalize M.length = n at C1 ⊢
      rw [Bool.false_and, Bool.and_false]
      go_enter Tryz.func13, Tryz.ntmps13
      go_wp2_with fail
      refine C1.out.mono ?_
      rintro e w1 ⟨rfl, hb1⟩
      go_wp2_with fail
      refine (C2.out _).mono ?_
      rintro e w2 ⟨rfl, rfl⟩
      go_wp2_with fail
      exact bodyPost_ret (v := .tuple #[.slice none 0 0, .bool false]) (by simp [results, Tryz.results13, go_sem]) rfl (MtxO.no hb1)
    case true =>
      rw [Bool.true_and, Bool.true_and]
      obtain ⟨hn6, _, hrl, _⟩ := HF.out rfl
      have DT := Lib.hid (CT.out rfl); have DS := Lib.hid (CS.out rfl rfl)
      have HRL := Lib.hid hrl
      obtain ⟨n, hn⟩ : ∃ n, M.length = n := ⟨_, rfl⟩
      have HNU := Lib.hid hn
      rw [hn] at C1 DT DS HSR HSL HRL hn6 ⊢
      generalize colN M = n2 at DS HRL
      clear CT CS HF hn hrl
      go_enter Tryz.func13, Tryz.ntmps13
      go_wp2_with fail
      refine C1.out.mono ?_
      rintro e w1 ⟨rfl, hb1⟩
      go_wp2_with fail
      refine (C2.out _).mono ?_
      rintro e w2 ⟨rfl, rfl⟩
      have HN0 := Lib.hid (MatO.empty w1 w1.heap.size w1.heap.size (Nat.le_refl _) rfl)
      have hb0 := bal_alloc (o := .cells #[] 38) (Below.refl w1.heap.size w1)
      have HU1 := Lib.hid (HU.out.below hb1)
      have HB1 := Lib.hid hb1
      clear hb1
      go_wp2_with fail
      go_loopw [6, 20] (fun x i wr => ∃ (k : Nat) (vs : List Value), k ≤ n ∧ i = .int .i64 k ∧ MatO wr w1.heap.size x (L.take k) vs ∧ Below w1.heap.size w1 wr) (fun _ i _ => n - (intOf i).toNat)
      case atStart => exact ⟨0, [], Nat.zero_le _, rfl, HN0.out, hb0⟩
      case round =>
        obtain ⟨wE, rfl⟩ : ∃ x : World, x = wr := ⟨_, rfl⟩
        obtain ⟨k, vs, hk, rfl, hmat, hbel⟩ := hrel
        obtain ⟨adm, cam, rfl, _⟩ := hmat.shape
        have htl : (L.take k).length = k := by rw [List.length_take, HSL.out]; omega
        have HM := Lib.hid hmat
        by_cases hlt : k < n
        case neg =>
          obtain rfl : k = n := by omega
          rw [htl]
          rw [List.take_of_length_le (by rw [HSL.out]; omega)] at hmat HM
          rw [HSL.out] at hmat HM
          have E := Lib.hid (DT.out adm cam wE HM.out.rd)
          clear hmat htl
          go_wp2_with fail
          refine E.out.mono ?_
          rintro e w5 ⟨a5, c5, rfl, h1, h2⟩
          have H1 := Lib.hid h1
          have hb9 := ball HB1.out (ball hbel h2)
          clear h1 h2
          obtain ⟨q, hq⟩ : ∃ q, (if B = true then L else []).length = q := ⟨_, rfl⟩
          rw [hq]
          have HQ := Lib.hid hq
          clear hq
          go_wp2_with fail
          exact bodyPost_ret (v := .tuple #[.slice a5 q c5, .bool B]) (by simp [results, Tryz.results13, go_sem]) rfl ⟨a5, c5, by rw [HQ.out], H1.out, hb9⟩
        case pos =>
          have hsn := takeM_snoc L k (by rw [HSL.out]; exact hlt)
          rw [HSR.out k hlt] at hsn
          have HSN := Lib.hid hsn
          have hsz := hbel.size
          obtain ⟨G, hG⟩ : ∃ G, L.take k = G := ⟨_, rfl⟩
          rw [hG] at HM HSN htl ⊢
          have HTL := Lib.hid htl
          rw [htl] at HM ⊢
          obtain ⟨bb, off, a, c, rfl, hbb, c1, hri⟩ := HU1.out k (by rw [HNU.out]; exact hlt)
          have c1 := bcell hbel hbb c1
          rw [HRL.out k hlt] at c1
          have E := Lib.hid (DS.out k hlt a c wE (hri.below hbel))
          generalize ((M.getD k []).map fun y => prodZ y b) = Z at E HSN
          have x1 : (0 : Int) ≤ (k : Int) := by omega
          have x2 : (k : Int) < (n : Int) := by omega
          clear htl hG hmat hsn hri
          go_wp2_with fail
          refine E.out.mono ?_
          rintro e w2 ⟨g3, c3, rfl, hrow, hb2⟩
          have HX2 := Lib.hid (HM.out.below hb2)
          have HCX := Lib.hid (CellO.of_row (hrow.low (B' := w1.heap.size) hsz))
          have HB := Lib.hid (RowI.blk hrow)
          have HLOW := Lib.hid HM.out.low
          have hsz2 := hb2.size
          clear hrow E
          go_wp2_with (at_builtin; refine wpList_appM rfl _ _ rfl w1.heap.size wE.heap.size w2.heap.size _ (.slice (some ⟨g3, 0, none⟩) n2 c3) G vs Z (k + 1) (by rw [HTL.out]) rfl rfl (by simp [go_sem]) (HX2.out.below ((Below.refl _ _).alloc (Nat.le_refl _) _)) (HCX.out.below ((Below.refl _ _).alloc (Nat.le_refl _) _)) HB.out HLOW.out (by rw [HTL.out]; omega) (by simp; omega) ?_; intro ad5 cap5 wm hmat5 hbm)
          have hb3 := ((hbel.trans (hb2.mono hsz)).alloc (by omega) (.cells #[.slice (some ⟨g3, 0, none⟩) n2 c3] 38)).trans hbm
          rw [← HSN.out] at hmat5
          have HM5 := Lib.hid hmat5; clear hmat5 hbm
          go_wp2_with fail
          go_roundw
          case rel => exact ⟨k + 1, _, by omega, by go_num, HM5.out, hb3⟩
          case measure => simp [intOf]; omega
end Go.Proofs.YtfgdhlnmndgjbaaGreatDoor

/-
  The shifted matrix: the reference's. By an AI agent.
-/
namespace Go.Proofs.YtfgdhlnmndgjbaaGreatDoor
open Go.RowKit

/-! ### a matrix of any sides in memory of one's own -/
theorem toG_set {R C : Nat} (F : Nat → Nat → Int) {i : Nat} (j : Nat) (x : Int) (hi : i < R) : (toG R C F).set i ((tab C (F i)).set j x) = toG R C (fun a c => if a = i ∧ c = j then x else F a c) := by
  unfold toG
  rw [tab_set, tab_set]
  refine tab_congr fun a ha => ?_
  by_cases e : a = i
  · subst e
    rw [if_pos rfl]
    refine tab_congr fun c _ => ?_
    by_cases e2 : c = j
    · simp only [e2, if_true, and_self]
    · simp only [e2, if_false, and_false]
  · rw [if_neg e]
    refine tab_congr fun c _ => ?_
    simp only [e, false_and, if_false]
theorem MatO.rowH {w : World} {B R C : Nat} {v : Value} {F : Nat → Nat → Int} {vs : List Value} (h : MatO w B v (toG R C F) vs) {i : Nat} (hi : i < R) (hC : 0 < C) : ∃ b o c, vs.getD i undef = .slice (some ⟨b, o, none⟩) C c ∧ B ≤ b ∧ b < w.heap.size ∧
    (∀ j, j < C → w.cell? ⟨b, o + j, none⟩ = some (.int .i64 (F i j)) ∧ w.frozen? ⟨b, o + j, none⟩ = false) ∧ ∀ j x, j < C → MatO (w.setCell ⟨b, o + j, none⟩ (.int .i64 x)) B v (toG R C (fun a c => if a = i ∧ c = j then x else F a c)) vs := by
  have e1 : ((toG R C F).getD i []).length = C := by rw [toG_row F hi, tab_length]
  obtain ⟨h1, h2, h3, h4⟩ := h.rowOf (i := i) (by rw [toG_len]; exact hi) (by rw [e1]; omega)
  rw [e1] at h1 h4
  refine ⟨_, _, _, h1, h2, h3, fun j hj => ?_, fun j x hj => ?_⟩
  · have := h4 j hj
    rwa [toG_row F hi, tab_getD hj] at this
  · have := h.set (i := i) (j := j) (by rw [toG_len]; exact hi) (by rw [e1]; exact hj) x
    rwa [toG_row F hi, toG_set F j x hi] at this
theorem MatO.outH {w : World} {B n cap R C : Nat} {ad : Option Addr} {F : Nat → Nat → Int} {vs : List Value} (h : MatO w B (.slice ad n cap) (toG R C F) vs) (hR : 0 < R) : ∃ g, ad = some ⟨g, 0, none⟩ ∧ B ≤ g ∧ g < w.heap.size ∧ n = R ∧ ∀ i, i < R → w.cell? ⟨g, i, none⟩ = some (vs.getD i undef) := by
  obtain ⟨g', cap', e, hB, _, ho⟩ := h.cells (by rw [toG_len]; exact hR)
  injection e with e e2 _
  subst e
  refine ⟨g', rfl, hB, ho.lt, by rw [e2, toG_len], fun i hi => ho.cell? ?_⟩
  have : i < vs.length := by rw [h.len, toG_len]; exact hi
  simp [List.getD, this]
/-- what is shifted so far. -/
def shK (F : Nat → Nat → Int) (b : Int) (i j : Nat) : Nat → Nat → Int := fun a c => if a < i ∨ (a = i ∧ c < j) then prodZ (F a c) b else F a c
theorem shK_zero (F : Nat → Nat → Int) (b : Int) : shK F b 0 0 = F := by
  funext a c
  unfold shK
  rw [if_neg (by omega)]
theorem shK_step (F : Nat → Nat → Int) (b : Int) (i j : Nat) : (fun a c => if a = i ∧ c = j then prodZ (F i j) b else shK F b i j a c) = shK F b i (j + 1) := by
  funext a c
  unfold shK
  by_cases e : a = i ∧ c = j
  · rw [if_pos e, if_pos (by omega), e.1, e.2]
  · rw [if_neg e]
    by_cases e2 : a < i ∨ (a = i ∧ c < j)
    · rw [if_pos e2, if_pos (by omega)]
    · rw [if_neg e2, if_neg (by omega)]
theorem shK_row (F : Nat → Nat → Int) (b : Int) (R C i : Nat) : toG R C (shK F b i C) = toG R C (shK F b (i + 1) 0) := by
  unfold toG
  refine tab_congr fun a _ => tab_congr fun c hc => ?_
  unfold shK
  by_cases e : a < i ∨ (a = i ∧ c < C)
  · rw [if_pos e, if_pos (by omega)]
  · rw [if_neg e, if_neg (by omega)]
theorem list_ext0 {l m : List Int} (h : l.length = m.length) (h2 : ∀ j, j < l.length → l.getD j 0 = m.getD j 0) : l = m := by
  rw [← tab_self l 0, ← tab_self m 0, h]
  exact tab_congr fun j hj => h2 j (by omega)
theorem mat_ext {L M : List (List Int)} (h : L.length = M.length) (h2 : ∀ i, i < L.length → L.getD i [] = M.getD i []) : L = M := by
  rw [← tab_self L [], ← tab_self M [], h]
  exact tab_congr fun j hj => h2 j (by omega)
theorem shK_all {M : List (List Int)} (b : Int) (h : matB M = true) : toG M.length (colN M) (shK (entM M) b M.length 0) = shL M b := by
  obtain ⟨_, _, h3, _⟩ := mat_facts h
  refine mat_ext (by rw [toG_len, shL_len]) fun i hi => ?_
  rw [toG_len] at hi
  rw [toG_row _ hi, shL_row M b hi]
  refine list_ext0 (by rw [tab_length, List.length_map, h3 i hi]) fun j hj => ?_
  rw [tab_length] at hj
  rw [tab_getD hj, map_getD _ _ (by rw [h3 i hi]; exact hj)]
  unfold shK
  rw [if_pos (Or.inl hi)]
  rfl

set_option maxHeartbeats 6400000 in
set_option maxRecDepth 100000 in
theorem sShiftMatrix_c (ad : Option Addr) (cap : Nat) (M : List (List Int)) (b : Int) (w : World) (hr : RdM w ad M) (hl : smM M) :
    Calls Tryz.prog 21 #[.slice ad M.length cap, .int .i64 b] w (MtxO (shB M b) (shL M b) w) := by
  have C1 := Lib.hid (mxGood_c ad cap M w hr (by have := hl.1; omega) (fun i hi => by have := hl.2 i hi; omega))
  have C2 := Lib.hid (fun w => nuGood_c b w)
  unfold shB
  obtain ⟨p, hp⟩ : ∃ p, matB M = p := ⟨_, rfl⟩
  cases p
  case false =>
    rw [hp] at C1 ⊢
    clear C2 hr hl hp
    generalize M.length = n at C1 ⊢
    rw [Bool.false_and]
    go_enter Tryz.func21, Tryz.ntmps21
    go_wp2_with fail
    refine C1.out.mono ?_
    rintro e w1 ⟨rfl, rfl⟩
    go_wp2_with fail
    exact bodyPost_ret (v := .tuple #[.slice none 0 0, .bool false]) (by simp [results, Tryz.results21, go_sem]) rfl (MtxO.no (Below.refl _ _))
  case true =>
    obtain ⟨h1, h2, h3, h4, h5⟩ := mat_facts hp
    have HEN := Lib.hid (shB_ent (b := b) hp)
    have HAL := Lib.hid (shK_all b hp)
    have HSL := Lib.hid (shL_len M b)
    have CO := Lib.hid (mxOwn_c ad cap M w hr (by omega) (fun i hi => by rw [h3 i hi]; omega))
    have HRM := Lib.hid (show RdM w ad (toG M.length (colN M) (entM M)) by rw [h5]; exact hr)
    rw [hp] at C1 ⊢
    rw [Bool.true_and]
    obtain ⟨q, hq⟩ : ∃ q, inB b (-1000000) 1000000 = q := ⟨_, rfl⟩
    rw [hq]
    clear hr hl hp h3
    have HO := Lib.hid (show ∀ w' v, (∃ vs, MatO w' w.heap.size v M vs) → ∃ vs, MatO w' w.heap.size v (toG M.length (colN M) (entM M)) vs from fun w' v h => by rw [h5]; exact h)
    clear h5
    generalize shL M b = L at HEN HAL HSL ⊢
    obtain ⟨n, hn⟩ : ∃ n, M.length = n := ⟨_, rfl⟩
    rw [hn] at C1 HEN HAL HSL CO HRM HO h1 h4 ⊢
    clear hn
    generalize colN M = k2 at HEN HAL HRM HO h2 h4
    generalize entM M = F at HEN HAL HRM HO h4
    have H4 := Lib.hid h4
    clear h4
    cases q
    case false =>
      rw [Bool.false_and]
      clear HEN HAL HSL CO HRM HO H4
      by_cases hnb : numB b = true
      · have hbi : b = 1000000000 := by
          unfold numB at hnb
          rw [hq, Bool.false_or, beq_iff_eq] at hnb
          exact hnb
        subst hbi
        rw [hnb] at C2
        clear hq hnb
        go_enter Tryz.func21, Tryz.ntmps21
        go_wp2_with fail
        refine C1.out.mono ?_
        rintro e w1 ⟨rfl, rfl⟩
        go_wp2_with fail
        refine (C2.out _).mono ?_
        rintro e w1 ⟨rfl, rfl⟩
        go_wp2_with fail
        exact bodyPost_ret (v := .tuple #[.slice none 0 0, .bool false]) (by simp [results, Tryz.results21, go_sem]) rfl (MtxO.no (Below.refl _ _))
      · have hnf : numB b = false := by simpa using hnb
        rw [hnf] at C2
        clear hq hnb hnf
        go_enter Tryz.func21, Tryz.ntmps21
        go_wp2_with fail
        refine C1.out.mono ?_
        rintro e w1 ⟨rfl, rfl⟩
        go_wp2_with fail
        refine (C2.out _).mono ?_
        rintro e w1 ⟨rfl, rfl⟩
        go_wp2_with fail
        exact bodyPost_ret (v := .tuple #[.slice none 0 0, .bool false]) (by simp [results, Tryz.results21, go_sem]) rfl (MtxO.no (Below.refl _ _))
    case true =>
      have hbb := inB_t.1 hq
      have hnb : numB b = true := by unfold numB; rw [hq]; rfl
      rw [hnb] at C2
      have e9 : (b == 1000000000) = false := beq_eq_false_iff_ne.2 (by omega)
      rw [Bool.true_and]
      clear hq hnb
      obtain ⟨B, hB⟩ : ∃ B, matB L = B := ⟨_, rfl⟩
      rw [hB] at HEN ⊢
      clear hB
      go_enter Tryz.func21, Tryz.ntmps21
      go_wp2_with fail
      refine C1.out.mono ?_
      rintro e w1 ⟨rfl, rfl⟩
      go_wp2_with fail
      refine (C2.out _).mono ?_
      rintro e w1 ⟨rfl, rfl⟩
      go_wp2_with fail
      refine CO.out.mono ?_
      rintro e w1 ⟨v, rfl, hvs, hb1⟩
      obtain ⟨vs, hm⟩ := HO.out _ _ hvs
      obtain ⟨ado, capo, rfl, _⟩ := hm.shape
      obtain ⟨g, rfl, hg1, hg2, hnn, _⟩ := hm.outH (by omega)
      rw [toG_len] at hm ⊢
      clear e9 C1 C2 CO hvs HO hnn
      have HM0 := Lib.hid hm
      clear hm
      go_wp2_with fail
      go_loopw [29] (fun i wr => ∃ k : Nat, k ≤ n ∧ i = .int .i64 k ∧ MatO wr w.heap.size (.slice (some ⟨g, 0, none⟩) n capo) (toG n k2 (shK F b k 0)) vs ∧ (∀ a c, a < k → c < k2 → numB (prodZ (F a c) b) = true) ∧ Below w.heap.size w wr) (fun i _ => n - (intOf i).toNat)
      case atStart => exact ⟨0, Nat.zero_le _, rfl, by rw [shK_zero]; exact HM0.out, fun a c h => by omega, hb1⟩
      case round =>
        obtain ⟨wE, rfl⟩ : ∃ x : World, x = wr := ⟨_, rfl⟩
        obtain ⟨k, hk, rfl, hmat, hok, hbel⟩ := hrel
        have HM := Lib.hid hmat; have HOK := Lib.hid hok
        clear hmat hok HM0
        by_cases hlt : k < n
        case neg =>
          obtain rfl : k = n := by omega
          obtain rfl : B = true := HEN.out.2 HOK.out
          have hmm := HM.out
          rw [HAL.out] at hmm
          have HRD := Lib.hid hmm.rd
          clear hmm
          go_wp2_with fail
          refine bodyPost_ret (v := .tuple #[.slice (some ⟨g, 0, none⟩) k capo, .bool true]) (by simp [results, Tryz.results21, go_sem]) rfl ?_
          have := MtxO.yes (w := w) (c := capo) HRD.out hbel
          rw [HSL.out] at this
          exact this
        case pos =>
          obtain ⟨bR, oR, rfl, hbR, hrowR⟩ := HRM.out.rowG (by omega) (by omega)
          obtain ⟨b2, o2, c2, e2, hb2, hcells⟩ := hrowR k hlt
          have e2 := bcell hbel hbR e2
          have HCE := Lib.hid hcells
          have x1 : (0 : Int) ≤ (k : Int) := by omega
          have x2 : (k : Int) < (n : Int) := by omega
          clear hrowR hcells
          go_wp2_with fail
          go_loopw [36] (fun i wr => ∃ j : Nat, j ≤ k2 ∧ i = .int .i64 j ∧ MatO wr w.heap.size (.slice (some ⟨g, 0, none⟩) n capo) (toG n k2 (shK F b k j)) vs ∧ (∀ c, c < j → numB (prodZ (F k c) b) = true) ∧ Below w.heap.size w wr) (fun i _ => k2 - (intOf i).toNat)
          case atStart => exact ⟨0, Nat.zero_le _, rfl, HM.out, fun c h => by omega, hbel⟩
          case round =>
            obtain ⟨wF, rfl⟩ : ∃ x : World, x = wr := ⟨_, rfl⟩
            obtain ⟨j, hj, rfl, hmat, hok, hbel2⟩ := hrel
            have HM2 := Lib.hid hmat; have HOK2 := Lib.hid hok
            clear hmat hok
            by_cases hlj : j < k2
            case neg =>
              obtain rfl : j = k2 := by omega
              go_wp2_with fail
              go_roundw
              case rel => exact ⟨k + 1, by omega, by go_num, by rw [← shK_row]; exact HM2.out, fun a c ha hc => by
                by_cases e : a = k
                · subst e; exact HOK2.out c hc
                · exact HOK.out a c (by omega) hc, hbel2⟩
              case measure => simp [intOf]; omega
            case pos =>
              have cF := bcell hbel2 hb2 (HCE.out j hlj)
              obtain ⟨b3, o3, c3, e3, hB3, hb3, hc3, hset⟩ := HM2.out.rowH (i := k) hlt (by omega)
              obtain ⟨_, eg, _, _, _, hout⟩ := HM2.out.outH (by omega)
              injection eg with eg
              injection eg with eg _ _
              subst eg
              have cO := hout k hlt
              rw [e3] at cO
              obtain ⟨cI, fI⟩ := hc3 j hlj
              have hst := hset j (prodZ (F k j) b) hlj
              rw [shK_step] at hst
              have HST := Lib.hid hst
              have HPE := Lib.hid (show numB (prodZ (F k j) b) = false → B = false from fun h => by
                cases hB : B
                · rfl
                · have := HEN.out.1 hB k j hlt hlj
                  rw [h] at this
                  exact absurd this (by simp))
              have HPT := Lib.hid (show numB (prodZ (F k j) b) = true → ∀ c, c < j + 1 → numB (prodZ (F k c) b) = true from fun h c hc => by
                by_cases e : c = j
                · subst e; exact h
                · exact HOK2.out c (by omega))
              have hFb := numB_bd (H4.out k j hlt hlj)
              have cm := fun w => nuMul_c (F k j) b w (by omega)
              have y1 : (0 : Int) ≤ (j : Int) := by omega
              have y2 : (j : Int) < (k2 : Int) := by omega
              unfold pairV at cm
              generalize hz : prodZ (F k j) b = z at cm HST HPE HPT
              clear hz
              have z1 : numB z = true → toldZ z = z := fun h => if_pos h
              generalize toldZ z = z2 at cm z1
              generalize numB z = u at cm z1 HPE HPT
              have CM := Lib.hid cm
              generalize F k j = X at cF CM
              clear hst hset hc3 hout cm hFb
              cases u
              case false =>
                obtain rfl := HPE.out rfl
                clear z1
                go_wp2_with fail
                refine (CM.out _).mono ?_
                rintro e w4 ⟨rfl, rfl⟩
                go_wp2_with fail
                exact bodyPost_ret (v := .tuple #[.slice none 0 0, .bool false]) (by simp [results, Tryz.results21, go_sem]) rfl (MtxO.no hbel2)
              case true =>
                obtain rfl := z1 rfl
                go_wp2_with fail
                refine (CM.out _).mono ?_
                rintro e w4 ⟨rfl, rfl⟩
                go_wp2_with fail
                go_roundw
                case rel => exact ⟨j + 1, by omega, by go_num, HST.out, HPT.out (by first | rfl | trivial), bchg hbel2 (Chg.set _ _ _ _) hB3 hbel2.size⟩
                case measure => simp [intOf]; omega
end Go.Proofs.YtfgdhlnmndgjbaaGreatDoor

/-
  Matrices applied to vectors, both sides. By an AI agent.
-/
namespace Go.Proofs.YtfgdhlnmndgjbaaGreatDoor
open Go.RowKit

def IntO (b : Bool) (L : List Int) (w : World) (e : Ending) (w' : World) : Prop := ∃ ad c, e = .returned (.tuple #[.slice ad (if b = true then L else []).length c, .bool b]) ∧ RdI w' ad (if b = true then L else []) ∧ Below w.heap.size w w'
theorem IntO.no {L : List Int} {w w' : World} (hb : Below w.heap.size w w') : IntO false L w (.returned (.tuple #[.slice none 0 0, .bool false])) w' := ⟨none, 0, rfl, RdI.nil _ _, hb⟩
theorem IntO.yes {L : List Int} {w w' : World} {a : Option Addr} {c : Nat} (h : RdI w' a L) (hb : Below w.heap.size w w') : IntO true L w (.returned (.tuple #[.slice a L.length c, .bool true])) w' := ⟨a, c, rfl, h, hb⟩
def apE (C : Nat) (m : Nat → Nat → Int) (g : Nat → Int) (i : Nat) : Int := mnF 1000000000 (fun k => prodZ (m i k) (g k)) C
def apL (M : List (List Int)) (v : List Int) : List Int := tab M.length (apE (colN M) (entM M) (fun k => v.getD k 0))
def apB (M : List (List Int)) (v : List Int) : Bool := matB M && (vecB v && (decide (colN M = v.length) && (apL M v).all numB))

set_option maxHeartbeats 1600000 in
set_option maxRecDepth 100000 in
theorem appliedG_c (R C : Nat) (ad : Option Addr) (cap : Nat) (m : Nat → Nat → Int) (ad2 : Option Addr) (cap2 : Nat) (g : Nat → Int) (w : World) (hr : RdM w ad (toG R C m)) (h2 : RdI w ad2 (tab C g)) (hR : 1 ≤ R ∧ R ≤ 6) (hC : 1 ≤ C ∧ C ≤ 6) (hb : ∀ i k, i < R → k < C → -4000000000 ≤ m i k + g k ∧ m i k + g k ≤ 4000000000) :
    Calls Tryz.prog 49 #[.slice ad R cap, .slice ad2 C cap2] w fun e w' => ∃ a' c', e = .returned (.slice a' R c') ∧ RowI w' w.heap.size (.slice a' R c') (tab R (apE C m g)) ∧ Below w.heap.size w w' := by
  have HR := Lib.hid hr; have H2 := Lib.hid h2; have HB := Lib.hid hb
  have HO0 := Lib.hid (rowI_new w w.heap.size w.heap.size (Nat.le_refl _) rfl)
  have hb0 : Below w.heap.size w (w.alloc (.cells #[] 3)) := (Below.refl _ _).alloc (Nat.le_refl _) _
  clear hr h2 hb
  go_enter Tryz.func49, Tryz.ntmps49
  go_wp2_with fail
  go_loopw [5, 11] (fun v i wr => ∃ k : Nat, k ≤ R ∧ i = .int .i64 k ∧ RowI wr w.heap.size v (tab k (apE C m g)) ∧ Below w.heap.size w wr) (fun _ i _ => R - (intOf i).toNat)
  case atStart => exact ⟨0, Nat.zero_le _, rfl, HO0.out, hb0⟩
  case round =>
    obtain ⟨wE, rfl⟩ : ∃ x : World, x = wr := ⟨_, rfl⟩
    obtain ⟨k, hk, rfl, hrow, hbel⟩ := hrel
    obtain ⟨adr, car, rfl⟩ := row_shp hrow
    rw [tab_length] at hrow ⊢
    have HO := Lib.hid hrow; clear hrow
    have hsz := hbel.size
    by_cases hlt : k < R
    case neg =>
      obtain rfl : k = R := by omega
      go_wp2_with fail
      go_ret
      exact ⟨adr, car, rfl, HO.out, hbel⟩
    case pos =>
      obtain ⟨bM, oM, a1, c1, rfl, hbM, k1, r1⟩ := HR.out k (by rw [toG_len]; exact hlt)
      rw [toG_row _ hlt, tab_length] at k1
      rw [toG_row _ hlt] at r1
      have k1 := bcell hbel hbM k1
      have R1 := r1.below hbel
      have CD := Lib.hid (fun u (hb : Below wE.heap.size wE u) => dot_c C a1 c1 (m k) ad2 cap2 g u (R1.below hb) ((H2.out.below hbel).below hb) hC.2 (fun j hj => HB.out k j hlt hj))
      have HSN := Lib.hid (tab_succ k (apE C m g))
      have hlk := tab_length k (apE C m g)
      generalize tab k (apE C m g) = Q at HO HSN hlk
      rw [show mnF 1000000000 (fun j => prodZ (m k j) (g j)) C = apE C m g k from rfl] at CD
      generalize apE C m g k = V at CD HSN
      have HLK := Lib.hid hlk
      have x1 : (0 : Int) ≤ (k : Int) := by omega
      have x2 : (k : Int) < (R : Int) := by omega
      clear R1 r1 hlk
      go_wp2_with fail
      refine (CD.out _ (Below.refl _ _)).mono ?_
      rintro e w2 ⟨rfl, hb2⟩
      have HO2 := Lib.hid (HO.out.below hb2)
      have hb3 := ball hbel hb2
      have hsz3 := hb3.size
      clear hb2
      go_wp2_with (at_builtin; refine wpList_appN rfl _ _ rfl w.heap.size _ 0 1 _ Q [V] (k + 1) (by rw [HLK.out]; rfl) rfl rfl (RowI.alloc' HO2.out) (rdI_one _ _ _ rfl) (by have := HLK.out; omega) (by simp) (by simp; omega) ?_; intro v5 wm hown hsh hbm hgr)
      have hb5 := (bal_alloc (o := .cells #[.int .i64 V] 3) hb3).trans hbm
      rw [← HSN.out] at hown
      have HO5 := Lib.hid hown; clear hown hsh hgr hbm
      go_wp2_with fail
      go_roundw
      case rel => exact ⟨k + 1, by omega, by go_num, HO5.out, hb5⟩
      case measure => simp [intOf]; omega

set_option maxHeartbeats 6400000 in
set_option maxRecDepth 100000 in
theorem mxApply_c (R C : Nat) (ad : Option Addr) (cap : Nat) (m : Nat → Nat → Int) (ad2 : Option Addr) (cap2 : Nat) (g : Nat → Int) (w : World) (hr : RdM w ad (toG R C m)) (h2 : RdI w ad2 (tab C g)) (hR : 1 ≤ R ∧ R ≤ 6) (hC : 1 ≤ C ∧ C ≤ 6) (hb : ∀ i k, i < R → k < C → -4000000000 ≤ m i k + g k ∧ m i k + g k ≤ 4000000000) :
    Calls Tryz.prog 51 #[.slice ad R cap, .slice ad2 C cap2] w (IntO ((tab R (apE C m g)).all numB) (tab R (apE C m g)) w) := by
  obtain ⟨i0, hi0, hz0, hz1, hz2⟩ := info_parts Tryz.infoI
  obtain ⟨bR, oR, rfl, hbR, hrowR⟩ := hr.rowG (by omega) (by omega)
  have HR := Lib.hid hrowR; have H2 := Lib.hid h2; have HB := Lib.hid hb
  have HF := Lib.hid (show ∀ k, k < R → numB (apE C m g k) = false → (tab R (apE C m g)).all numB = false from fun k hk h => by
    cases hB : (tab R (apE C m g)).all numB
    · rfl
    · have := List.all_eq_true.1 hB (apE C m g k) (List.mem_map.2 ⟨k, List.mem_range.2 hk, rfl⟩)
      rw [h] at this
      exact absurd this (by simp))
  have HT := Lib.hid (show (∀ k, k < R → numB (apE C m g k) = true) → (tab R (apE C m g)).all numB = true from fun h => List.all_eq_true.2 fun x hx => by
    obtain ⟨k, hk, rfl⟩ := List.mem_map.1 hx
    exact h k (List.mem_range.1 hk))
  generalize (tab R (apE C m g)).all numB = B at HF HT ⊢
  clear hr h2 hb hrowR
  go_enter Tryz.func51, Tryz.ntmps51
  go_wp2_with fail
  go_loopw [6, 14] (fun v i wr => ∃ k : Nat, k ≤ R ∧ i = .int .i64 k ∧ RowI wr w.heap.size v (tab k (apE C m g)) ∧ (∀ a, a < k → numB (apE C m g a) = true) ∧ Below w.heap.size w wr) (fun _ i _ => R - (intOf i).toNat)
  case atStart => exact ⟨0, Nat.zero_le _, rfl, RowI.nil _ _, fun a h => by omega, Below.refl _ _⟩
  case round =>
    obtain ⟨wE, rfl⟩ : ∃ x : World, x = wr := ⟨_, rfl⟩
    obtain ⟨k, hk, rfl, hrow, hok, hbel⟩ := hrel
    have HOK := Lib.hid hok; clear hok
    obtain ⟨adr, car, rfl⟩ := row_shp hrow
    rw [tab_length] at hrow ⊢
    have HO := Lib.hid hrow; clear hrow
    have hsz := hbel.size
    by_cases hlt : k < R
    case neg =>
      obtain rfl : k = R := by omega
      obtain rfl : B = true := HT.out HOK.out
      obtain ⟨_, _, e1, hrd⟩ := HO.out.shape
      rw [tab_length] at e1
      injection e1 with e1 _ e3
      subst e1
      have HRD := Lib.hid hrd
      clear hrd e3
      go_wp2_with fail
      refine bodyPost_ret (v := .tuple #[.slice adr k car, .bool true]) (by simp [results, Tryz.results51, go_sem]) rfl ?_
      have := IntO.yes (w := w) (c := car) HRD.out hbel
      rw [tab_length] at this
      exact this
    case pos =>
      obtain ⟨b2, o2, c2, e2, hb2, hcells⟩ := HR.out k hlt
      have e2 := bcell hbel hbR e2
      have HCE := Lib.hid hcells
      have x1 : (0 : Int) ≤ (k : Int) := by omega
      have x2 : (k : Int) < (R : Int) := by omega
      clear hcells
      go_wp2_with fail
      go_loopw [9, 20] (fun v i wr => ∃ j : Nat, j ≤ C ∧ i = .int .i64 j ∧ v = .int .i64 (mnF 1000000000 (fun t => prodZ (m k t) (g t)) j) ∧ wE = wr) (fun _ i _ => C - (intOf i).toNat)
      case atStart => exact ⟨0, Nat.zero_le _, rfl, rfl, rfl⟩
      case round =>
        obtain ⟨j, hj, rfl, rfl, rfl⟩ := hrel
        by_cases hlj : j < C
        case neg =>
          obtain rfl : j = C := by omega
          have hff := HF.out k hlt
          have hst := tab_succ k (apE j m g)
          have hok2 : numB (apE j m g k) = true → ∀ a, a < k + 1 → numB (apE j m g a) = true := fun h a ha => by
            by_cases e : a = k
            · subst e; exact h
            · exact HOK.out a (by omega)
          rw [show mnF 1000000000 (fun t => prodZ (m k t) (g t)) j = apE j m g k from rfl]
          generalize apE j m g k = V at hff hst hok2 ⊢
          have cg := fun w => nuGood_c V w
          generalize numB V = u at cg hff hok2
          have hlk := tab_length k (apE j m g)
          generalize tab k (apE j m g) = Q at HO hst hlk
          have CG := Lib.hid cg; have HSN := Lib.hid hst; have HLK := Lib.hid hlk
          clear cg hst hlk
          cases u
          case false =>
            obtain rfl := hff rfl
            clear hok2
            go_wp2_with fail
            refine (CG.out _).mono ?_
            rintro e w4 ⟨rfl, rfl⟩
            go_wp2_with fail
            exact bodyPost_ret (v := .tuple #[.slice none 0 0, .bool false]) (by simp [results, Tryz.results51, go_sem]) rfl (IntO.no hbel)
          case true =>
            have HOK2 := Lib.hid (hok2 rfl)
            clear hff hok2
            go_wp2_with fail
            refine (CG.out _).mono ?_
            rintro e w4 ⟨rfl, rfl⟩
            go_wp2_with (at_builtin; refine wpList_append_lies _ rfl _ _ _ rfl w.heap.size 3 i0 _ 1 8 Tryz.underlying38 hi0 hz0 hz1 hz2 rfl (by omega) (.slice adr k car) k (ints Q) rfl ((row_congr HO.out HLK.out rfl).alloc _) ⟨wE.heap.size, 0, none⟩ 1 1 [.int .i64 V] rfl rfl (World.news_of_block (cs := #[.int .i64 V]) (t := 3) (fr := (0, 0)) (heap_alloc_new _ _)) (by simp [Value.oneCell']) (by omega) (by unfold maxLen; omega) (by omega) (by simp; omega) (wE.heap.size + 1) (by simp) ?_; intro gg gcap w9 hown1 hgrow hat hltg)
            go_roundw
            case rel =>
              refine ⟨k + 1, by omega, by go_num, ?_, HOK2.out, app_below hbel hsz HO.out hgrow⟩
              rw [HSN.out]
              exact row_congr hown1 (by rw [List.length_append, HLK.out]; rfl) (by simp [ints])
            case measure => simp [intOf]; omega
        case pos =>
          obtain ⟨b3, o3, rfl, hb3, cg⟩ := H2.out j (by rw [tab_length]; exact hlj)
          rw [tab_getD hlj] at cg
          have cg := bcell hbel hb3 cg
          have cm := bcell hbel hb2 (HCE.out j hlj)
          have hbd := HB.out k j hlt hlj
          have HMN := (show mnF 1000000000 (fun t => prodZ (m k t) (g t)) (j + 1) = leastZ (mnF 1000000000 (fun t => prodZ (m k t) (g t)) j) (prodZ (m k j) (g j)) from rfl)
          generalize mnF 1000000000 (fun t => prodZ (m k t) (g t)) j = A at HMN ⊢
          generalize m k j = X at cm hbd HMN
          generalize g j = Y at cg hbd HMN
          have CP := Lib.hid (fun w => nuPlus_c X Y w (by omega))
          generalize prodZ X Y = P at CP HMN
          have CL := Lib.hid (fun w => l1Least_n A P w)
          have HST := Lib.hid HMN
          have y1 : (0 : Int) ≤ (j : Int) := by omega
          have y2 : (j : Int) < (C : Int) := by omega
          generalize leastZ A P = Z at CL HST
          clear HMN hbd
          go_wp2_with fail
          refine (CP.out _).mono ?_
          rintro e w4 ⟨rfl, rfl⟩
          go_wp2_with fail
          refine (CL.out _).mono ?_
          rintro e w4 ⟨rfl, rfl⟩
          go_wp2_with fail
          go_roundw
          case rel => exact ⟨j + 1, by omega, by go_num, by rw [HST.out], trivial⟩
          case measure => simp [intOf]; omega

theorem ap_g {M : List (List Int)} {v : List Int} (h : colN M = v.length) : tab (colN M) (fun k => v.getD k 0) = v := by rw [h]; exact tab_self v 0
theorem vec_at {v : List Int} (h : vecB v = true) {k : Nat} (hk : k < v.length) : numB (v.getD k 0) = true := by
  unfold vecB at h
  rw [Bool.and_eq_true, List.all_eq_true] at h
  exact h.2 _ (getD_memI hk)
theorem if_dec {p : Prop} [Decidable p] (h : ¬ p) (b : Bool) : (decide p && b) = false := by rw [decide_eq_false h]; rfl

set_option maxHeartbeats 1600000 in
theorem iApplyMatrix_c (ad : Option Addr) (cap : Nat) (M : List (List Int)) (av : Option Addr) (cv : Nat) (v : List Int) (w : World) (hr : RdM w ad M) (hl : smM M) (hv : RdI w av v) (hvl : v.length ≤ 1048576) :
    Calls Tryz.prog 18 #[.slice ad M.length cap, .slice av v.length cv] w (IntO (apB M v) (apL M v) w) := by
  have C1 := Lib.hid (isMatrix_c ad cap M w hr (by have := hl.1; omega) (fun i hi => by have := hl.2 i hi; omega))
  have C2 := Lib.hid (fun u (hb : Below w.heap.size w u) => isVector_c av cv v u (hv.below hb) hvl)
  have CA := Lib.hid (fun (h : matB M = true) (h2 : vecB v = true) (h3 : colN M = v.length) u (hb : Below w.heap.size w u) => show Calls Tryz.prog 49 #[.slice ad M.length cap, .slice av v.length cv] u fun e w' => ∃ a' c', e = .returned (.slice a' M.length c') ∧ RowI w' u.heap.size (.slice a' M.length c') (apL M v) ∧ Below u.heap.size u w' from by
    obtain ⟨g1, g2, g3, g4, g5⟩ := mat_facts h
    have k := appliedG_c M.length (colN M) ad cap (entM M) av cv (fun k => v.getD k 0) u (by rw [g5]; exact hr.below hb) (by rw [ap_g h3]; exact hv.below hb) g1 g2 (fun i k hi hk => by
      have q1 := numB_bd (g4 i k hi hk)
      have q2 := numB_bd (vec_at h2 (k := k) (by omega))
      omega)
    rw [h3] at k
    unfold apL
    rw [h3]
    exact k)
  have CT := Lib.hid (fun a c u (h : RdI u a (apL M v)) => show Calls Tryz.prog 48 #[.slice a M.length c] u fun e w' => e = .returned (.tuple #[if (apL M v).all numB = true then .slice a M.length c else .slice none 0 0, .bool ((apL M v).all numB)]) ∧ u = w' from by
    have hal : (apL M v).length = M.length := tab_length _ _
    have k := toldList_c a c (apL M v) u h (by rw [hal]; have := hl.1; omega)
    rwa [hal] at k)
  have HAL := Lib.hid (show (apL M v).length = M.length from tab_length _ _)
  have HR0 := Lib.hid hr
  unfold apB
  obtain ⟨p, hp⟩ : ∃ p, matB M = p := ⟨_, rfl⟩
  have HPF := Lib.hid (fun h : matB M = true => mat_facts h)
  rw [hp] at C1 CA HPF ⊢
  obtain ⟨q, hq⟩ : ∃ q, vecB v = q := ⟨_, rfl⟩
  rw [hq] at C2 CA ⊢
  clear hr hl hv hvl hp hq
  generalize apL M v = L at CA CT HAL ⊢
  cases p
  case false =>
    clear CA CT C2 HAL HR0 HPF
    rw [Bool.false_and]
    generalize M.length = n at C1 ⊢
    generalize v.length = n2
    go_enter Tryz.func18, Tryz.ntmps18
    go_wp2_with fail
    refine C1.out.mono ?_
    rintro e w1 ⟨rfl, hb1⟩
    go_wp2_with fail
    exact bodyPost_ret (v := .tuple #[.slice none 0 0, .bool false]) (by simp [results, Tryz.results18, go_sem]) rfl (IntO.no hb1)
  case true =>
    rw [Bool.true_and]
    obtain ⟨g1, g2, g3, _⟩ := HPF.out rfl
    cases q
    case false =>
      clear CA CT HAL HR0 HPF g3
      rw [Bool.false_and]
      generalize M.length = n at C1 ⊢
      generalize v.length = n2 at C2 ⊢
      go_enter Tryz.func18, Tryz.ntmps18
      go_wp2_with fail
      refine C1.out.mono ?_
      rintro e w1 ⟨rfl, hb1⟩
      go_wp2_with fail
      refine (C2.out _ hb1).mono ?_
      rintro e w2 ⟨rfl, rfl⟩
      go_wp2_with fail
      exact bodyPost_ret (v := .tuple #[.slice none 0 0, .bool false]) (by simp [results, Tryz.results18, go_sem]) rfl (IntO.no hb1)
    case true =>
      rw [Bool.true_and]
      obtain ⟨bM, oM, a0, c0, rfl, hbM, k0, _⟩ := HR0.out 0 (by omega)
      rw [Nat.add_zero, g3 0 (by omega)] at k0
      have x3 : (0 : Int) < (M.length : Int) := by omega
      by_cases he : colN M = v.length
      case neg =>
        rw [if_dec he]
        have ne1 : ((colN M : Int) != (v.length : Int)) = true := bne_iff_ne.2 (by omega)
        have ne2 : ((colN M : Int) == (v.length : Int)) = false := beq_eq_false_iff_ne.2 (by omega)
        have ne3 : (colN M == v.length) = false := beq_eq_false_iff_ne.2 he
        have ne4 : (colN M != v.length) = true := bne_iff_ne.2 he
        clear CA CT HAL HR0 HPF g3
        generalize colN M = n3 at k0 he ne1 ne2 ne3 ne4 g2
        generalize M.length = n at C1 x3 g1 ⊢
        generalize v.length = n2 at C2 he ne1 ne2 ne3 ne4 ⊢
        go_enter Tryz.func18, Tryz.ntmps18
        go_wp2_with fail
        refine C1.out.mono ?_
        rintro e w1 ⟨rfl, hb1⟩
        go_wp2_with fail
        refine (C2.out _ hb1).mono ?_
        rintro e w2 ⟨rfl, rfl⟩
        have k0 := bcell hb1 hbM k0
        go_wp2_with fail
        exact bodyPost_ret (v := .tuple #[.slice none 0 0, .bool false]) (by simp [results, Tryz.results18, go_sem]) rfl (IntO.no hb1)
      case pos =>
        rw [decide_eq_true he, Bool.true_and]
        have DA := Lib.hid (CA.out rfl rfl he)
        rw [he] at k0
        have ee : ((v.length : Int) != (v.length : Int)) = false := bne_self_eq_false _
        clear CA HR0 HPF g3 he g2
        obtain ⟨B, hB⟩ : ∃ B, L.all numB = B := ⟨_, rfl⟩
        rw [hB] at CT ⊢
        clear hB
        generalize v.length = n2 at C2 DA k0 ee ⊢
        obtain ⟨n, hn⟩ : ∃ n, M.length = n := ⟨_, rfl⟩
        rw [hn] at C1 DA CT HAL x3 g1 ⊢
        clear hn
        go_enter Tryz.func18, Tryz.ntmps18
        go_wp2_with fail
        refine C1.out.mono ?_
        rintro e w1 ⟨rfl, hb1⟩
        go_wp2_with fail
        refine (C2.out _ hb1).mono ?_
        rintro e w2 ⟨rfl, rfl⟩
        have k0 := bcell hb1 hbM k0
        go_wp2_with fail
        refine (DA.out _ hb1).mono ?_
        rintro e w3 ⟨a5, c5, rfl, hrow, hb3⟩
        obtain ⟨_, _, e1, hrd⟩ := hrow.shape
        rw [HAL.out] at e1
        injection e1 with e1 _ e3
        subst e1
        have HRD := Lib.hid hrd
        have E := Lib.hid (CT.out a5 c5 w3 hrd)
        clear hrd e3 hrow
        cases B
        case false =>
          simp only [Bool.false_eq_true, if_false] at E
          go_wp2_with fail
          refine E.out.mono ?_
          rintro e w4 ⟨rfl, rfl⟩
          go_wp2_with fail
          exact bodyPost_ret (v := .tuple #[.slice none 0 0, .bool false]) (by simp [results, Tryz.results18, go_sem]) rfl (IntO.no (ball hb1 hb3))
        case true =>
          simp only [if_true] at E
          go_wp2_with fail
          refine E.out.mono ?_
          rintro e w4 ⟨rfl, rfl⟩
          go_wp2_with fail
          refine bodyPost_ret (v := .tuple #[.slice a5 n c5, .bool true]) (by simp [results, Tryz.results18, go_sem]) rfl ?_
          have := IntO.yes (w := w) (c := c5) HRD.out (ball hb1 hb3)
          rw [HAL.out] at this
          exact this

set_option maxHeartbeats 1600000 in
theorem sApplyMatrix_c (ad : Option Addr) (cap : Nat) (M : List (List Int)) (av : Option Addr) (cv : Nat) (v : List Int) (w : World) (hr : RdM w ad M) (hl : smM M) (hv : RdI w av v) (hvl : v.length ≤ 1048576) :
    Calls Tryz.prog 19 #[.slice ad M.length cap, .slice av v.length cv] w (IntO (apB M v) (apL M v) w) := by
  have C1 := Lib.hid (mxGood_c ad cap M w hr (by have := hl.1; omega) (fun i hi => by have := hl.2 i hi; omega))
  have C2 := Lib.hid (mxVector_c av cv v w hv hvl)
  have CA := Lib.hid (fun (h : matB M = true) (h2 : vecB v = true) (h3 : colN M = v.length) => show Calls Tryz.prog 51 #[.slice ad M.length cap, .slice av v.length cv] w (IntO ((apL M v).all numB) (apL M v) w) from by
    obtain ⟨g1, g2, g3, g4, g5⟩ := mat_facts h
    have k := mxApply_c M.length (colN M) ad cap (entM M) av cv (fun k => v.getD k 0) w (by rw [g5]; exact hr) (by rw [ap_g h3]; exact hv) g1 g2 (fun i k hi hk => by
      have q1 := numB_bd (g4 i k hi hk)
      have q2 := numB_bd (vec_at h2 (k := k) (by omega))
      omega)
    rw [h3] at k
    unfold apL
    rw [h3]
    exact k)
  have HR0 := Lib.hid hr
  unfold apB
  obtain ⟨p, hp⟩ : ∃ p, matB M = p := ⟨_, rfl⟩
  have HPF := Lib.hid (fun h : matB M = true => mat_facts h)
  rw [hp] at C1 CA HPF ⊢
  obtain ⟨q, hq⟩ : ∃ q, vecB v = q := ⟨_, rfl⟩
  rw [hq] at C2 CA ⊢
  clear hr hl hv hvl hp hq
  generalize apL M v = L at CA ⊢
  cases p
  case false =>
    clear CA C2 HR0 HPF
    rw [Bool.false_and]
    generalize M.length = n at C1 ⊢
    generalize v.length = n2
    go_enter Tryz.func19, Tryz.ntmps19
    go_wp2_with fail
    refine C1.out.mono ?_
    rintro e w1 ⟨rfl, rfl⟩
    go_wp2_with fail
    exact bodyPost_ret (v := .tuple #[.slice none 0 0, .bool false]) (by simp [results, Tryz.results19, go_sem]) rfl (IntO.no (Below.refl _ _))
  case true =>
    rw [Bool.true_and]
    obtain ⟨g1, g2, g3, _⟩ := HPF.out rfl
    cases q
    case false =>
      clear CA HR0 HPF g3
      rw [Bool.false_and]
      generalize M.length = n at C1 ⊢
      generalize v.length = n2 at C2 ⊢
      go_enter Tryz.func19, Tryz.ntmps19
      go_wp2_with fail
      refine C1.out.mono ?_
      rintro e w1 ⟨rfl, rfl⟩
      go_wp2_with fail
      refine C2.out.mono ?_
      rintro e w2 ⟨rfl, rfl⟩
      go_wp2_with fail
      exact bodyPost_ret (v := .tuple #[.slice none 0 0, .bool false]) (by simp [results, Tryz.results19, go_sem]) rfl (IntO.no (Below.refl _ _))
    case true =>
      rw [Bool.true_and]
      obtain ⟨bM, oM, a0, c0, rfl, hbM, k0, _⟩ := HR0.out 0 (by omega)
      rw [Nat.add_zero, g3 0 (by omega)] at k0
      have x3 : (0 : Int) < (M.length : Int) := by omega
      by_cases he : colN M = v.length
      case neg =>
        rw [if_dec he]
        have ne1 : ((v.length : Int) != (colN M : Int)) = true := bne_iff_ne.2 (by omega)
        have ne2 : ((v.length : Int) == (colN M : Int)) = false := beq_eq_false_iff_ne.2 (by omega)
        have ne3 : (v.length == colN M) = false := beq_eq_false_iff_ne.2 (fun h => he h.symm)
        have ne4 : (v.length != colN M) = true := bne_iff_ne.2 (fun h => he h.symm)
        clear CA HR0 HPF g3
        generalize colN M = n3 at k0 he ne1 ne2 ne3 ne4 g2
        generalize M.length = n at C1 x3 g1 ⊢
        generalize v.length = n2 at C2 he ne1 ne2 ne3 ne4 ⊢
        go_enter Tryz.func19, Tryz.ntmps19
        go_wp2_with fail
        refine C1.out.mono ?_
        rintro e w1 ⟨rfl, rfl⟩
        go_wp2_with fail
        refine C2.out.mono ?_
        rintro e w2 ⟨rfl, rfl⟩
        go_wp2_with fail
        exact bodyPost_ret (v := .tuple #[.slice none 0 0, .bool false]) (by simp [results, Tryz.results19, go_sem]) rfl (IntO.no (Below.refl _ _))
      case pos =>
        rw [decide_eq_true he, Bool.true_and]
        have DA := Lib.hid (CA.out rfl rfl he)
        rw [he] at k0
        have ee : ((v.length : Int) != (v.length : Int)) = false := bne_self_eq_false _
        clear CA HR0 HPF g3 he g2
        obtain ⟨B, hB⟩ : ∃ B, L.all numB = B := ⟨_, rfl⟩
        rw [hB] at DA ⊢
        clear hB
        obtain ⟨Z, hZ⟩ : ∃ Z, (if B = true then L else []) = Z := ⟨_, rfl⟩
        unfold IntO at DA ⊢
        rw [hZ] at DA ⊢
        clear hZ
        generalize v.length = n2 at C2 DA k0 ee ⊢
        generalize M.length = n at C1 DA x3 g1 ⊢
        go_enter Tryz.func19, Tryz.ntmps19
        go_wp2_with fail
        refine C1.out.mono ?_
        rintro e w1 ⟨rfl, rfl⟩
        go_wp2_with fail
        refine C2.out.mono ?_
        rintro e w2 ⟨rfl, rfl⟩
        go_wp2_with fail
        refine DA.out.mono ?_
        rintro e w3 ⟨a5, c5, rfl, hrd, hb3⟩
        have HRD := Lib.hid hrd
        clear hrd
        go_wp2_with fail
        exact bodyPost_ret (v := .tuple #[.slice a5 Z.length c5, .bool B]) (by simp [results, Tryz.results19, go_sem]) rfl ⟨a5, c5, rfl, HRD.out, hb3⟩
end Go.Proofs.YtfgdhlnmndgjbaaGreatDoor
