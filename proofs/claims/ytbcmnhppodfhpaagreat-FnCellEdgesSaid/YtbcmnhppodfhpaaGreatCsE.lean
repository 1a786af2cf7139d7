/-
  Some texts of this proof in one: CsE CsF CsG CsH CsI CsJ CsS. Each part tells what it proves. By an AI agent.
-/
import Derived.Test.YtbcmnhppodfhpaaGreatCsB
import Derived.Test.YtbcmnhppodfhpaaGreatCpC
import Derived.Deep.QuietTactic
import Derived.StillTailTactics
import Derived.Test.YtbcmnhppodfhpaaGreatPtB
import Derived.Test.YtbcmnhppodfhpaaGreatSkip

/-
  The cells at an edge: the program's look-up. By an AI agent.
-/
namespace Go.Proofs.YtbcmnhppodfhpaaGreat
open Go.RowKit Go.Maps
open Go.ChangeMaps (setBlock heap_setBlock_same heap_setBlock_other)
open Go.WideElems (Fit findIdx_born findIdx_arr modify_last set_self)
open Go.MapKept (stamped_iff)
open Go.ChangeMaps (modify_eq_set)

set_option maxRecDepth 100000 in
theorem lookup_pair {w : World} {Z b n : Nat} {D : DataW Unit} (h : OwnG w Z b n D) {a c : Int} (ha : Wf a) (hc : Wf c) : ∃ (v : Value) (zs : List Int),
    (∀ u : World, u.heap[b]? = w.heap[b]? → (Instr.lookup 48 (.map (some b)) (.agg #[.int .i64 a, .int .i64 c]) false).run Tryz.prog u = .ok v u) ∧ w.ownsInts Z 3 .i64 v zs ∧ D.atKey (kP a c) .nil = rowDatum .i64 v zs := by
  obtain ⟨es, clock, hb, F, hs, rfl, hbb, hlen, hap⟩ := h
  have hkey := keyP ha hc
  have hpair : es.toList.Pairwise (fun x y => x.key ≠ y.key) := ((stamped_iff es clock).1 F.stamped).2.2
  rcases Maps.fit_look false keydK undM (zeroL w) hb F hkey with ⟨h1, hno, hat⟩ | ⟨e0, y, hm0, h3, h1, hR, hat, _⟩
  · refine ⟨.slice none 0 0, [], fun u hu => ?_, World.ownsInts_nil _ _ _ _, hat _⟩
    rcases Maps.fit_look false keydK undM (zeroL u) (hu.trans hb) F hkey with ⟨g1, _, _⟩ | ⟨e1, y1, g0, g3, _⟩
    · simpa using g1
    · exact absurd g3 (hno e1 g0)
  · obtain ⟨zs, ho, rfl⟩ := rowElem_inv hR
    refine ⟨e0.val, zs, fun u hu => ?_, ho, hat _⟩
    rcases Maps.fit_look false keydK undM (zeroL u) (hu.trans hb) F hkey with ⟨_, hno, _⟩ | ⟨e1, y1, g0, g3, g1, _⟩
    · exact absurd h3 (hno e0 hm0)
    · obtain rfl := entry_eq_of_key hpair hm0 g0 (h3.trans g3.symm)
      simpa using g1
theorem lookup_len {w : World} {S : Nat} {L : List Tm} {lt : Value} {d : SubD} (h : SubM w S L lt d) {a c : Int} (ha : Wf a) (hc : Wf c) : ∃ (av : Option Addr) (cv : Nat), ∀ u : World, u.heap[d.b]? = w.heap[d.b]? →
    (Instr.lookup 48 (.map (some d.b)) (.agg #[.int .i64 a, .int .i64 c]) false).run Tryz.prog u = .ok (.slice av (sdA L (celA L) (celA L).length a c).length cv) u := by
  obtain ⟨v, zs, h1, h2, h3⟩ := lookup_pair h.map ha hc
  have e := agrG_at h.agr ha hc h2 h3
  rw [← e]
  rcases Own.of_row h2.1 with ⟨h4, h5, _⟩ | ⟨g, cap, h4, _⟩
  · exact ⟨none, 0, fun u hu => by rw [h1 u hu, h4]; congr 2; omega⟩
  · exact ⟨_, cap, fun u hu => by rw [h1 u hu, h4]⟩

set_option maxHeartbeats 1600000 in
set_option maxRecDepth 100000 in
theorem cellsAt_c (S : Nat) (L : List Tm) (lt : Value) (d : SubD) (g o cap : Nat) (a c : Int) (w : World) (h : SubM w S L lt d) (k0 : w.cell? ⟨g, o, none⟩ = some (.int .i64 a)) (k1 : w.cell? ⟨g, o + 1, none⟩ = some (.int .i64 c)) (ha : Wf a) (hc : Wf c) :
    Calls Tryz.prog 39 #[.pointer (some ⟨S, 0, none⟩), .slice (some ⟨g, o, none⟩) 2 cap] w fun e w' => (∃ av cv, e = .returned (.slice av (sdA L (celA L) (celA L).length a c).length cv)) ∧ Below w.heap.size w w' := by
  obtain ⟨av, cv, hk⟩ := lookup_len h ha hc
  have m1 := h.own.cell? (i := 4) rfl
  have hk1 := hk w rfl
  have hkd := hk w.drew rfl
  have f0 : (0 : Int) < 2 := by omega
  have hb := Below.refl w.heap.size w
  generalize (sdA L (celA L) (celA L).length a c).length = N at hk1 hkd ⊢
  clear h hk ha hc
  go_enter Tryz.func39, Tryz.ntmps39
  go_wp2_with fail
  refine wp_region_still_tail 11 (by kernel_rfl) (by kernel_rfl) ?_
  simp only [List.take_succ_cons, List.take_zero, List.drop_succ_cons, List.drop_zero]
  repeat still_step
  refine wpStill_nil ?_
  change wpList _ _ _ _ _ w.drew
  go_wp2_with fail
  go_ret
  exact ⟨⟨av, cv, rfl⟩, hb.drew⟩
end Go.Proofs.YtbcmnhppodfhpaaGreat

/-
  Edges of the subdivision: the program's. By an AI agent.
-/
namespace Go.Proofs.YtbcmnhppodfhpaaGreat
open Go.RowKit

/-! ### Plain -/
theorem befT_b {p q : Tm} (h : befT p q = true) : p.i < q.i ∨ (p.i = q.i ∧ p.j < q.j) := by
  unfold befT at h
  simp only [Bool.or_eq_true, Bool.and_eq_true, decide_eq_true_eq] at h
  exact h
theorem plane_ord {L : List Tm} (h : planeB L = true) : ∀ i j, i < j → j < L.length → (tmAt L i).i < (tmAt L j).i ∨ ((tmAt L i).i = (tmAt L j).i ∧ (tmAt L i).j < (tmAt L j).j) := by
  unfold planeB at h
  rw [Bool.and_eq_true] at h
  have step : ∀ j, j + 1 < L.length → (tmAt L j).i < (tmAt L (j + 1)).i ∨ ((tmAt L j).i = (tmAt L (j + 1)).i ∧ (tmAt L j).j < (tmAt L (j + 1)).j) := fun j hj => by
    have h2 := plnK_le h.2 (show j + 1 + 1 ≤ L.length by omega)
    unfold plnK at h2
    simp only [Bool.and_eq_true, Bool.or_eq_true, decide_eq_true_eq] at h2
    rcases h2.2.2 with h3 | h3
    · omega
    · exact befT_b h3
  intro i j
  induction j with
  | zero => intro hij; omega
  | succ j ih =>
    intro hij hj
    have h1 := step j hj
    by_cases e : i = j
    · subst e; exact h1
    · have h2 := ih (by omega) (by omega)
      omega
theorem plane_dist {L : List Tm} (h : planeB L = true) : Dist L := dist_of (plane_ord h)
theorem edgA_two {L : List Tm} (hd : Dist L) {x : List Int} (h : x ∈ edgA L) : ∃ a b : Int, x = [a, b] ∧ 0 ≤ a ∧ a < b ∧ b < L.length := by
  unfold edgA at h
  rw [LstSort.putF_mem] at h
  unfold sdAll at h
  obtain ⟨c, hc, hx⟩ := List.mem_flatMap.1 h
  obtain ⟨⟨a, b⟩, hm, rfl⟩ := List.mem_map.1 hx
  exact ⟨a, b, rfl, prX_in (celA_g hc) hd hm⟩
/-- the edges that are chosen, so far. -/
def chsF (L : List Tm) (m : Nat) (k : Nat) : List (List Int) := ((edgA L).take k).filter fun e => decide ((sdA L (celA L) (celA L).length (e.getD 0 0) (e.getD 1 0)).length = m)
theorem chs_step (L : List Tm) (m : Nat) {k : Nat} (h : k < (edgA L).length) : chsF L m (k + 1) = if (sdA L (celA L) (celA L).length (((edgA L).getD k []).getD 0 0) (((edgA L).getD k []).getD 1 0)).length = m then chsF L m k ++ [(edgA L).getD k []] else chsF L m k := by
  unfold chsF
  rw [List.take_succ_eq_append_getElem h, List.filter_append]
  have e : (edgA L).getD k [] = (edgA L)[k] := by rw [List.getD_eq_getElem?_getD, List.getElem?_eq_getElem h]; rfl
  rw [e]
  split
  · rename_i hc
    rw [List.filter_cons, if_pos (decide_eq_true hc), List.filter_nil]
  · rename_i hc
    rw [List.filter_cons, if_neg (by simpa using hc), List.filter_nil, List.append_nil]
theorem chs_len (L : List Tm) (m k : Nat) : (chsF L m k).length ≤ k := by
  unfold chsF
  exact Nat.le_trans (List.length_filter_le _ _) (List.length_take_le _ _)
theorem chs_all (L : List Tm) : chsF L 2 (edgA L).length = innA L := by unfold chsF innA; rw [List.take_length]

def LstO (B : Bool) (M : List (List Int)) (w : World) (e : Ending) (w' : World) : Prop := ∃ ad c, e = .returned (.tuple #[.slice ad (if B = true then M else []).length c, .bool B]) ∧ RdM w' ad (if B = true then M else []) ∧ Below w.heap.size w w'
theorem LstO.no {M : List (List Int)} {w w' : World} (hb : Below w.heap.size w w') : LstO false M w (.returned (.tuple #[.slice none 0 0, .bool false])) w' := ⟨none, 0, rfl, (fun i hi => by simp at hi), hb⟩
theorem LstO.yes {M : List (List Int)} {w w' : World} {a : Option Addr} {c : Nat} (h : RdM w' a M) (hb : Below w.heap.size w w') : LstO true M w (.returned (.tuple #[.slice a M.length c, .bool true])) w' := ⟨a, c, rfl, h, hb⟩

/-! ### Walks -/
set_option maxHeartbeats 800000 in
theorem cloneE_c (ad : Option Addr) (cap : Nat) (l : List Int) (w : World) (hr : RdI w ad l) (h0 : 0 < l.length) (hl : l.length ≤ 100000) :
    Calls Tryz.prog 66 #[.slice ad l.length cap] w fun e w' => ∃ g cap', e = .returned (.slice (some ⟨g, 0, none⟩) l.length cap') ∧ RowI w' w.heap.size (.slice (some ⟨g, 0, none⟩) l.length cap') l ∧ w.heap.size ≤ g ∧ Below w.heap.size w w' := by
  obtain ⟨b, off, rfl, _, _⟩ := hr 0 h0
  have hnl := fun (w : World) (a : Option Addr) (l c : Nat) => Lib.run_eql_slice_nil (P := Tryz.prog) w 32 3 a l c 0 0 Tryz.underlying32
  have HO := Lib.hid (show RowI (w.alloc (.cells #[] 3)) w.heap.size (.slice (some ⟨w.heap.size, 0, none⟩) 0 0) [] from row_empty w 3)
  have HX := Lib.hid (hr.below ((Below.refl _ _).alloc (Nat.le_refl _) (.cells #[] 3)))
  clear hr
  go_enter Tryz.func66, Tryz.ntmps66
  go_wp2_with (at_builtin; refine wpList_appN rfl _ _ rfl w.heap.size _ _ _ _ [] l l.length (by simp) rfl rfl HO.out HX.out (by simp) hl (by simp) ?_; intro v5 wm hown hsh hbm hgr)
  obtain ⟨g, cap5, rfl, hg⟩ := hsh h0
  rw [List.nil_append] at hown
  have HOW := Lib.hid hown; clear hown hgr hsh
  go_wp2_with fail
  go_ret
  exact ⟨g, cap5, rfl, HOW.out, hg, ((Below.refl _ _).alloc (Nat.le_refl _) _).trans hbm⟩

set_option maxHeartbeats 3200000 in
set_option maxRecDepth 100000 in
theorem chosenEdges_c (S : Nat) (L : List Tm) (lt : Value) (d : SubD) (m : Nat) (w : World) (h : SubM w S L lt d) (hd : Dist L) (hl : L.length ≤ 12) :
    Calls Tryz.prog 29 #[.pointer (some ⟨S, 0, none⟩), .int .i64 m] w fun e w' => ∃ v vs, e = .returned v ∧ MatL w' w.heap.size w.heap.size v (chsF L m (edgA L).length) vs ∧ Below w.heap.size w w' := by
  have eE : d.E = edgA L := edg_same hd hl h.edg
  have k3 := h.own.cell? (i := 3) rfl
  have hlen := h.lenE
  rw [eE] at k3 hlen
  have HED := Lib.hid (show RdZ w 0 d.adE (edgA L) by rw [← eE]; exact h.edges)
  have HTW := Lib.hid (fun k (hk : k < (edgA L).length) => edgA_two hd (show (edgA L).getD k [] ∈ edgA L by rw [List.getD_eq_getElem?_getD, List.getElem?_eq_getElem hk]; exact List.getElem_mem _))
  have HCS := Lib.hid (fun k (hk : k < (edgA L).length) => chs_step L m hk)
  have HCL := Lib.hid (fun k => chs_len L m k)
  have HH := Lib.hid h
  clear h eE
  have hM0 : MatL (w.alloc (.cells #[] 32)) w.heap.size w.heap.size (.slice (some ⟨w.heap.size, 0, none⟩) 0 0) [] [] := ⟨World.ownsRow_made w #[] 0 (Nat.le_refl _) (by decide) rfl, fun i hi => by simp at hi⟩
  have HM0 := Lib.hid hM0
  have hb0 : Below w.heap.size w (w.alloc (.cells #[] 32)) := bal_alloc (Below.refl _ _)
  have hSl := HH.out.own.lt
  have k3b := bcell hb0 hSl k3
  clear hM0
  obtain ⟨n, hn⟩ : ∃ n, (edgA L).length = n := ⟨_, rfl⟩
  have HN := Lib.hid hn
  rw [hn] at k3 k3b hlen HTW HCS ⊢
  clear hn
  go_enter Tryz.func29, Tryz.ntmps29
  go_wp2_with fail
  go_loopw [5, 14] (fun v i wr => ∃ (k : Nat) (vs : List Value), k ≤ n ∧ i = .int .i64 k ∧ MatL wr w.heap.size w.heap.size v (chsF L m k) vs ∧ Below w.heap.size w wr) (fun _ i _ => n - (intOf i).toNat)
  case atStart => exact ⟨0, [], Nat.zero_le _, rfl, HM0.out, hb0⟩
  case round =>
    obtain ⟨wE, rfl⟩ : ∃ u : World, u = wr := ⟨_, rfl⟩
    obtain ⟨k, vs, hk, rfl, hmat, hbel⟩ := hrel
    obtain ⟨adm, cam, rfl, _⟩ := hmat.shape
    have HM := Lib.hid hmat; clear hmat hb0 k3b
    have hsz := hbel.size
    by_cases hlt : k < n
    case neg =>
      obtain rfl : k = n := by omega
      go_wp2_with fail
      go_ret
      exact ⟨_, vs, rfl, HM.out, hbel⟩
    case pos =>
      obtain ⟨b, off, a3, c3, had, _, hb, kk, hri, _⟩ := HED.out k (by rw [HN.out]; exact hlt)
      obtain ⟨a, c, he, ha0, hac, hcl⟩ := HTW.out k hlt
      have hst := HCS.out k hlt
      rw [he] at kk hri hst
      have e0 : ([a, c] : List Int).getD 0 0 = a := rfl
      have e1 : ([a, c] : List Int).getD 1 0 = c := rfl
      have e2 : ([a, c] : List Int).length = 2 := rfl
      rw [e0, e1] at hst
      rw [e2] at kk
      have kk := bcell hbel hb kk
      have hri := hri.below hbel
      obtain ⟨g2, o2, rfl, _, q0⟩ := hri 0 (by simp)
      have q1 := hri.at (j := 1) (by simp)
      rw [Nat.add_zero] at q0
      have q0 : wE.cell? ⟨g2, o2, none⟩ = some (.int .i64 a) := q0
      have q1 : wE.cell? ⟨g2, o2 + 1, none⟩ = some (.int .i64 c) := q1
      have CA := Lib.hid (cellsAt_c S L lt d g2 o2 c3 a c wE (HH.out.below hbel) q0 q1 (wf_nat (by omega) (by omega)) (wf_nat (by omega) (by omega)))
      have hcln := HCL.out k
      generalize (sdA L (celA L) (celA L).length a c).length = N at CA hst
      generalize chsF L m k = G at HM hst hcln
      have HRI := Lib.hid hri
      have CC := Lib.hid (fun u (hu : Below wE.heap.size wE u) => (show Calls Tryz.prog 66 #[.slice (some ⟨g2, o2, none⟩) 2 c3] u fun e w' => ∃ g cap', e = .returned (.slice (some ⟨g, 0, none⟩) 2 cap') ∧ RowI w' u.heap.size (.slice (some ⟨g, 0, none⟩) 2 cap') [a, c] ∧ u.heap.size ≤ g ∧ Below u.heap.size u w' from cloneE_c (some ⟨g2, o2, none⟩) c3 [a, c] u (HRI.out.below hu) (by simp) (by simp)))
      have HST := Lib.hid hst
      have x1 : (0 : Int) ≤ (k : Int) := by omega
      have x2 : (k : Int) < (n : Int) := by omega
      obtain ⟨gl, hgl⟩ : ∃ gl, G.length = gl := ⟨_, rfl⟩
      have HGL := Lib.hid hgl
      rw [hgl] at HM hcln ⊢
      rw [had] at k3 ⊢
      clear hri q0 q1 hst he ha0 hac hcl had hgl
      go_wp2_with fail
      refine CA.out.mono ?_
      rintro _ w1 ⟨⟨av, cv, rfl⟩, hb1⟩
      have HC1 := Lib.hid (CC.out w1 hb1)
      have HM1 := Lib.hid (HM.out.below hb1)
      have HB1 := Lib.hid hb1
      have hs1 := hb1.size
      clear hb1
      have HBW := Lib.hid (hbel.trans (HB1.out.mono hsz))
      have hwm : w.heap.size ≤ w1.heap.size := by omega
      go_wp2_with fail
      · have hNm : N = m := by
          rename_i hbq _ _
          have := eq_of_beq hbq
          omega
        refine HC1.out.mono ?_
        rintro _ w2 ⟨g, cap', rfl, hrow, hg, hb2⟩
        have hs2 := hb2.size
        have HG := Lib.hid (HST.out.trans (if_pos hNm))
        have HONE := Lib.hid (MatL.one w2 w.heap.size w.heap.size _ [a, c] ((CellO.of_row hrow).mono (by omega)) (by omega))
        have HMA := Lib.hid ((HM1.out.below hb2).below ((Below.refl w2.heap.size w2).alloc (Nat.le_refl _) (.cells #[.slice (some ⟨g, 0, none⟩) 2 cap'] 32)))
        have HB2 := Lib.hid ((HBW.out.trans (hb2.mono hwm)).trans ((bal_alloc (o := .cells #[.slice (some ⟨g, 0, none⟩) 2 cap'] 32) (Below.refl w2.heap.size w2)).mono (show w.heap.size ≤ w2.heap.size by omega)))
        have hS9 : w.heap.size ≤ (w2.alloc (.cells #[.slice (some ⟨g, 0, none⟩) 2 cap'] 32)).heap.size := by simp; omega
        clear hrow hb2
        go_wp2_with (at_builtin; refine wpList_appL rfl _ _ rfl w.heap.size _ w.heap.size (.slice adm gl cam) _ G [[a, c]] vs _ (gl + 1) (by rw [HGL.out]; rfl) rfl rfl (by exact HMA.out) HONE.out (by rw [HGL.out]; omega) (by simp) hS9 ?_; intro ad9 cap9 w9 hml9 hbm9)
        have HML := Lib.hid hml9
        have HBM := Lib.hid (HB2.out.trans hbm9)
        clear hml9 hbm9
        go_wp2_with fail
        go_roundw
        case rel => exact ⟨k + 1, _, by omega, by go_num, by rw [HG.out]; exact HML.out, HBM.out⟩
        case measure => simp [intOf]; omega
      · have hNm : ¬ N = m := by
          rename_i hbq
          intro e
          subst e
          simp at hbq
        have HG := Lib.hid (HST.out.trans (if_neg hNm))
        go_roundw
        case rel => exact ⟨k + 1, vs, by omega, by go_num, by rw [HG.out]; exact HM1.out, HBW.out⟩
        case measure => simp [intOf]; omega
end Go.Proofs.YtbcmnhppodfhpaaGreat

/-
  EdgesOfCells and InnerEdges: the program's. By an AI agent.
-/
namespace Go.Proofs.YtbcmnhppodfhpaaGreat
open Go.RowKit

set_option maxHeartbeats 800000 in
theorem iEdgesOfCells_c (ad : Option Addr) (cap : Nat) (L : List Tm) (w : World) (hr : RdT w ad L) (hl : L.length ≤ 1048576) :
    Calls Tryz.prog 6 #[.slice ad L.length cap] w (LstO (planeB L) (edgA L) w) := by
  have CI := Lib.hid (subdivided_c ad cap L w hr hl)
  cases hB : planeB L
  case false =>
    rw [hB] at CI
    have HQ := Lib.hid (fun w' (h : Below w.heap.size w w') => LstO.no (M := edgA L) h)
    generalize LstO false (edgA L) w = Q at HQ ⊢
    generalize L.length = n at CI ⊢
    clear hr hB hl
    go_enter Tryz.func6, Tryz.ntmps6
    go_wp2_with fail
    refine CI.out.mono ?_
    rintro e w1 ⟨hb1, he⟩
    rw [if_neg (by simp)] at he
    subst he
    go_wp2_with fail
    exact HQ.out _ hb1
  case true =>
    rw [hB] at CI
    obtain ⟨h0, h12, hp⟩ := planeB_t hB
    have hd := plane_dist hB
    have HS := Lib.hid (fun w' S d (h : SubM w' S L (.slice ad L.length cap) d) (hb : Below w.heap.size w w') => show ∃ v, w'.cell? ⟨S, 3, none⟩ = some v ∧ S < w'.heap.size ∧ LstO true (edgA L) w (.returned (.tuple #[v, .bool true])) w' from by
      have eE : d.E = edgA L := edg_same hd h12 h.edg
      have k3 := h.own.cell? (i := 3) rfl
      refine ⟨_, k3, h.own.lt, ?_⟩
      rw [eE]
      exact LstO.yes (by rw [← eE]; exact h.edges.rd) hb)
    generalize LstO true (edgA L) w = Q at HS ⊢
    obtain ⟨n, hn⟩ : ∃ n, L.length = n := ⟨_, rfl⟩
    rw [hn] at CI HS ⊢
    clear hr hB hl hn h0 h12 hp hd
    go_enter Tryz.func6, Tryz.ntmps6
    go_wp2_with fail
    refine CI.out.mono ?_
    rintro e w1 ⟨hb1, he⟩
    rw [if_pos rfl] at he
    obtain ⟨S, d, rfl, hsm⟩ := he
    obtain ⟨v, k3, hS, hf⟩ := HS.out w1 S d hsm hb1
    have HF := Lib.hid hf
    clear hsm CI HS hf
    go_wp2_with fail
    exact HF.out

set_option maxHeartbeats 800000 in
theorem iInnerEdges_c (ad : Option Addr) (cap : Nat) (L : List Tm) (w : World) (hr : RdT w ad L) (hl : L.length ≤ 1048576) :
    Calls Tryz.prog 8 #[.slice ad L.length cap] w (LstO (planeB L) (innA L) w) := by
  have CI := Lib.hid (subdivided_c ad cap L w hr hl)
  cases hB : planeB L
  case false =>
    rw [hB] at CI
    have HQ := Lib.hid (fun w' (h : Below w.heap.size w w') => LstO.no (M := innA L) h)
    generalize LstO false (innA L) w = Q at HQ ⊢
    generalize L.length = n at CI ⊢
    clear hr hB hl
    go_enter Tryz.func8, Tryz.ntmps8
    go_wp2_with fail
    refine CI.out.mono ?_
    rintro e w1 ⟨hb1, he⟩
    rw [if_neg (by simp)] at he
    subst he
    go_wp2_with fail
    exact HQ.out _ hb1
  case true =>
    rw [hB] at CI
    obtain ⟨h0, h12, hp⟩ := planeB_t hB
    have hd := plane_dist hB
    have HS := Lib.hid (fun w' S d (h : SubM w' S L (.slice ad L.length cap) d) (hb : Below w.heap.size w w') => show Calls Tryz.prog 29 #[.pointer (some ⟨S, 0, none⟩), .int .i64 2] w' fun e w2 => ∃ v, e = .returned v ∧ LstO true (innA L) w (.returned (.tuple #[v, .bool true])) w2 from by
      refine (chosenEdges_c S L _ d 2 w' h hd h12).mono ?_
      rintro e w2 ⟨v, vs, rfl, hm, hb2⟩
      rw [chs_all] at hm
      obtain ⟨ad2, cp2, rfl, _⟩ := hm.shape
      exact ⟨_, rfl, LstO.yes hm.rd (ball hb hb2)⟩)
    generalize LstO true (innA L) w = Q at HS ⊢
    obtain ⟨n, hn⟩ : ∃ n, L.length = n := ⟨_, rfl⟩
    rw [hn] at CI HS ⊢
    clear hr hB hl hn h0 h12 hp hd
    go_enter Tryz.func8, Tryz.ntmps8
    go_wp2_with fail
    refine CI.out.mono ?_
    rintro e w1 ⟨hb1, he⟩
    rw [if_pos rfl] at he
    obtain ⟨S, d, rfl, hsm⟩ := he
    have HC := Lib.hid (HS.out w1 S d hsm hb1)
    clear hsm CI HS
    go_wp2_with fail
    refine HC.out.mono ?_
    rintro e w2 ⟨v, rfl, hf⟩
    have HF := Lib.hid hf
    clear hf HC
    go_wp2_with fail
    exact HF.out
end Go.Proofs.YtbcmnhppodfhpaaGreat

/-
  IsTriangulated: the program's. By an AI agent.
-/
namespace Go.Proofs.YtbcmnhppodfhpaaGreat
open Go.RowKit

set_option maxHeartbeats 400000 in
theorem indexFuncL_any (fid : FuncId) (p : List Int → Bool) (ad : Option Addr) (cap : Nat) (xs : List (List Int)) (w : World) (hl : xs.length ≤ 1048576) (hr : RdM w ad xs)
    (hcf : ∀ (xa : Array Value) (w : World), (callFunc fid xa).run Tryz.prog w = .ok (.enter fid xa) w) (hf : ∀ (x : List Int) a c, x ∈ xs → Calls Tryz.prog fid #[.slice a x.length c] w fun e w' => e = .returned (.bool (p x)) ∧ w = w') :
    Calls Tryz.prog 67 #[.slice ad xs.length cap, .func (Fn.func fid) #[] #[]] w fun e w' => (∃ r : Int, e = .returned (.int .i64 r) ∧ ((0 ≤ r ∧ xs.any p = true) ∨ (r = -1 ∧ xs.any p = false))) ∧ w = w' := by
  have HR := Lib.hid hr; clear hr
  have HF := Lib.hid hf; clear hf
  go_enter Tryz.func67, Tryz.ntmps67
  go_wp2_with fail
  go_loop [8] (fun i => ∃ k : Nat, k ≤ xs.length ∧ i = .int .i64 k ∧ ∀ j, j < k → p (xs.getD j []) = false) (fun i => xs.length - (intOf i).toNat)
  case atStart => exact ⟨0, Nat.zero_le _, rfl, fun j hj => by omega⟩
  case round =>
    obtain ⟨k, hk, rfl, hj⟩ := hrel
    have HJ := Lib.hid hj; clear hj
    by_cases hlt : k < xs.length
    · obtain ⟨b, off, a2, c2, rfl, hb, cc, _⟩ := HR.out k hlt
      generalize hx : xs.getD k [] = x at cc
      have HXM := Lib.hid (show x ∈ xs by rw [← hx, List.getD_eq_getElem?_getD, List.getElem?_eq_getElem hlt]; exact List.getElem_mem _)
      have HX := Lib.hid hx; clear hx
      by_cases h1 : p x = true
      · go_wp2_with fail
        refine (HF.out x a2 c2 HXM.out).mono ?_
        rw [h1]
        rintro e w' ⟨rfl, rfl⟩
        go_wp2_with fail
        go_ret
        refine ⟨⟨k, rfl, Or.inl ⟨by omega, ?_⟩⟩, rfl⟩
        rw [List.any_eq_true]
        exact ⟨x, by rw [← HX.out]; simp [List.getD, hlt], h1⟩
      · have h1' := Bool.eq_false_iff.2 h1
        go_wp2_with fail
        refine (HF.out x a2 c2 HXM.out).mono ?_
        rw [h1']
        rintro e w' ⟨rfl, rfl⟩
        go_wp2_with fail
        go_round
        case rel =>
          refine ⟨k + 1, by omega, by go_num, fun j hj => ?_⟩
          by_cases e : j = k
          · subst e; rw [HX.out]; exact h1'
          · exact HJ.out j (by omega)
        case measure => simp [intOf]; omega
    · have he : k = xs.length := by omega
      subst he
      go_wp2_with fail
      go_ret
      refine ⟨⟨-1, rfl, Or.inr ⟨rfl, ?_⟩⟩, rfl⟩
      intro x hx
      obtain ⟨j, hj, rfl⟩ := List.getElem_of_mem hx
      have := HJ.out j hj
      simpa [List.getD, hj] using this
set_option maxHeartbeats 400000 in
theorem containsFuncL_any (fid : FuncId) (p : List Int → Bool) (ad : Option Addr) (cap : Nat) (xs : List (List Int)) (w : World) (hl : xs.length ≤ 1048576) (hr : RdM w ad xs)
    (hcf : ∀ (xa : Array Value) (w : World), (callFunc fid xa).run Tryz.prog w = .ok (.enter fid xa) w) (hf : ∀ (x : List Int) a c, x ∈ xs → Calls Tryz.prog fid #[.slice a x.length c] w fun e w' => e = .returned (.bool (p x)) ∧ w = w') :
    Calls Tryz.prog 30 #[.slice ad xs.length cap, .func (Fn.func fid) #[] #[]] w fun e w' => e = .returned (.bool (xs.any p)) ∧ w = w' := by
  go_enter Tryz.func30, Tryz.ntmps30
  go_wp2_with fail
  refine (indexFuncL_any fid p ad cap xs w hl hr hcf hf).mono ?_
  rintro e w' ⟨⟨r, rfl, hr1⟩, rfl⟩
  have HA := Lib.hid hr1; clear hr1
  by_cases h0 : 0 ≤ r
  · go_wp2
    go_ret
    exact ⟨ret_bool (by rcases HA.out with h | h; exact h.2.symm; omega), rfl⟩
  · have h0' : r < 0 := by omega
    go_wp2
    go_ret
    exact ⟨ret_bool (by rcases HA.out with h | h; omega; rw [h.2]; simp; omega), rfl⟩

set_option maxHeartbeats 800000 in
theorem three1_c (x : List Int) (a : Option Addr) (c : Nat) (hx : x.length ≤ 1000) (w : World) : Calls Tryz.prog 31 #[.slice a x.length c] w fun e w' => e = .returned (.bool (decide (x.length ≠ 3))) ∧ w = w' := by
  generalize x.length = n at hx ⊢
  by_cases h : n = 3
  · subst h
    go_enter Tryz.func31, Tryz.ntmps31
    go_wp2_with fail
    go_ret
    exact ⟨by first | rfl | simp, rfl⟩
  · have d1 : ((n : Int) != 3) = true := bne_iff_ne.2 (by omega)
    have d2 : decide (n ≠ 3) = true := decide_eq_true h
    rw [d2]
    go_enter Tryz.func31, Tryz.ntmps31
    go_wp2_with fail
    go_ret
    exact ⟨by first | rfl | simp [d1] | simpa using h, rfl⟩
theorem cell_len {L : List Tm} {C : List Int} (h : C ∈ celA L) : C.length ≤ L.length := by
  unfold celA at h
  rw [LstSort.putF_mem] at h
  obtain ⟨a, b, c, _, _, _, _, rfl⟩ := cel1_cel h
  unfold celL
  exact onL3_len L a b c L.length
/-- each cell has just three terms. -/
def triB (L : List Tm) : Bool := !((celA L).any fun x => decide (x.length ≠ 3))
set_option maxHeartbeats 800000 in
theorem iIsTriangulated_c (ad : Option Addr) (cap : Nat) (L : List Tm) (w : World) (hr : RdT w ad L) (hl : L.length ≤ 1048576) :
    Calls Tryz.prog 10 #[.slice ad L.length cap] w fun e w' => e = .returned (.tuple #[.bool (planeB L && triB L), .bool (planeB L)]) ∧ Below w.heap.size w w' := by
  have CI := Lib.hid (subdivided_c ad cap L w hr hl)
  cases hB : planeB L
  case false =>
    rw [hB] at CI
    rw [Bool.false_and]
    generalize L.length = n at CI ⊢
    clear hr hB hl
    go_enter Tryz.func10, Tryz.ntmps10
    go_wp2_with fail
    refine CI.out.mono ?_
    rintro e w1 ⟨hb1, he⟩
    rw [if_neg (by simp)] at he
    subst he
    go_wp2_with fail
    exact bodyPost_ret (v := .tuple #[.bool false, .bool false]) (by simp [results, Tryz.results10, go_sem]) rfl ⟨rfl, hb1⟩
  case true =>
    rw [hB] at CI
    rw [Bool.true_and]
    obtain ⟨h0, h12, hp⟩ := planeB_t hB
    have hcl := celA_len L h12
    have HS := Lib.hid (fun w' S d (h : SubM w' S L (.slice ad L.length cap) d) => show w'.cell? ⟨S, 2, none⟩ = some (.slice d.adC (celA L).length d.capC) ∧ S < w'.heap.size ∧ Calls Tryz.prog 30 #[.slice d.adC (celA L).length d.capC, .func (Fn.func 31) #[] #[]] w' fun e w2 => e = .returned (.bool (!triB L)) ∧ w' = w2 from by
      refine ⟨h.own.cell? (i := 2) rfl, h.own.lt, (containsFuncL_any 31 (fun x => decide (x.length ≠ 3)) d.adC d.capC (celA L) w' (by omega) h.cells.rd (callFunc_plain Tryz.func31 (by kernel_rfl) (by kernel_rfl)) (fun x a c hx => three1_c x a c (Nat.le_trans (cell_len hx) (by omega)) _)).mono ?_⟩
      rintro e w2 ⟨rfl, rfl⟩
      exact ⟨by rw [triB, Bool.not_not], rfl⟩)
    generalize triB L = B at HS ⊢
    obtain ⟨n, hn⟩ : ∃ n, L.length = n := ⟨_, rfl⟩
    rw [hn] at CI HS ⊢
    generalize (celA L).length = nC at HS hcl
    clear hr hB hl hn h0 h12 hp
    go_enter Tryz.func10, Tryz.ntmps10
    go_wp2_with fail
    refine CI.out.mono ?_
    rintro e w1 ⟨hb1, he⟩
    rw [if_pos rfl] at he
    obtain ⟨S, d, rfl, hsm⟩ := he
    obtain ⟨k2, hS, hc⟩ := HS.out w1 S d hsm
    have HC := Lib.hid hc
    clear hsm CI HS hc
    go_wp2_with fail
    refine HC.out.mono ?_
    rintro e w2 ⟨rfl, rfl⟩
    cases B
    · go_wp2_with fail
      exact bodyPost_ret (v := .tuple #[.bool false, .bool true]) (by simp [results, Tryz.results10, go_sem]) rfl ⟨rfl, hb1⟩
    · go_wp2_with fail
      exact bodyPost_ret (v := .tuple #[.bool true, .bool true]) (by simp [results, Tryz.results10, go_sem]) rfl ⟨rfl, hb1⟩
end Go.Proofs.YtbcmnhppodfhpaaGreat

/-
  The length of an edge: the program's. By an AI agent.
-/
namespace Go.Proofs.YtbcmnhppodfhpaaGreat
open Go.RowKit

set_option maxHeartbeats 3200000 in
set_option maxRecDepth 100000 in
theorem length_c (S bp op cpp n : Nat) (L : List Tm) (g o c2 : Nat) (a k : Nat) (w : World) (hS : S < w.heap.size) (k1 : w.cell? ⟨S, 1, none⟩ = some (.slice (some ⟨bp, op, none⟩) n cpp)) (hb : bp < w.heap.size)
    (hpt : ∀ j, j < n → w.cell? ⟨bp, op + j * 2, none⟩ = some (.int .i64 (tmAt L j).i) ∧ w.cell? ⟨bp, op + j * 2 + 1, none⟩ = some (.int .i64 (tmAt L j).j)) (hg : g < w.heap.size) (q0 : w.cell? ⟨g, o, none⟩ = some (.int .i64 a)) (q1 : w.cell? ⟨g, o + 1, none⟩ = some (.int .i64 k)) (ha : a < n) (hk : k < n) (hsa : Sm (pI L a)) (hsk : Sm (pI L k)) :
    Calls Tryz.prog 40 #[.pointer (some ⟨S, 0, none⟩), .slice (some ⟨g, o, none⟩) 2 c2] w fun e w' => e = .returned (.int .i64 (gcdN ((tmAt L k).i - (tmAt L a).i) ((tmAt L k).j - (tmAt L a).j))) ∧ Below w.heap.size w w' := by
  obtain ⟨m0, m1⟩ := hpt a ha
  obtain ⟨m2, m3⟩ := hpt k hk
  have cm := fun w => minus_c (pI L k) (pI L a) w hsk hsa
  obtain ⟨b1, b2, b3, b4⟩ := hsa
  obtain ⟨b5, b6, b7, b8⟩ := hsk
  unfold pI pnt at cm b1 b2 b3 b4 b5 b6 b7 b8
  generalize tmAt L k = tk at *
  generalize tmAt L a = ta at *
  clear hpt
  obtain ⟨ki, kj, kh⟩ := tk
  obtain ⟨ai, aj, ah⟩ := ta
  unfold ptV subP at cm
  simp only at cm m0 m1 m2 m3 b1 b2 b3 b4 b5 b6 b7 b8 ⊢
  have cg := fun w => gcd_c (ki - ai) (kj - aj) w (by omega) (by omega)
  generalize gcdN (ki - ai) (kj - aj) = G at cg ⊢
  generalize ki - ai = zx at cm cg
  generalize kj - aj = zy at cm cg
  have x1 : (0 : Int) ≤ (a : Int) := by omega
  have x2 : (a : Int) < (n : Int) := by omega
  have x3 : (0 : Int) ≤ (k : Int) := by omega
  have x4 : (k : Int) < (n : Int) := by omega
  have CM := Lib.hid cm; have CG := Lib.hid cg
  clear cm cg b1 b2 b3 b4 b5 b6 b7 b8
  go_enter Tryz.func40, Tryz.ntmps40
  go_wp2_with fail
  go_region_held3 (fun w' => w'.cell? ⟨S, 1, none⟩ = some (.slice (some ⟨bp, op, none⟩) n cpp) ∧ w'.cell? ⟨g, o, none⟩ = some (.int .i64 a) ∧ w'.cell? ⟨g, o + 1, none⟩ = some (.int .i64 k) ∧ w'.cell? ⟨bp, op + a * 2, none⟩ = some (.int .i64 ai) ∧ w'.cell? ⟨bp, op + a * 2 + 1, none⟩ = some (.int .i64 aj) ∧ w'.cell? ⟨bp, op + k * 2, none⟩ = some (.int .i64 ki) ∧ w'.cell? ⟨bp, op + k * 2 + 1, none⟩ = some (.int .i64 kj)) (with_reducible repeat' (first | apply And.intro | assumption | (apply cell_set' (Nat.ne_of_lt hS)) | (apply cell_set' (Nat.ne_of_lt hg)) | (apply cell_set' (Nat.ne_of_lt hb)) | apply cell_alloc' | apply cell_drew'))
    (first
      | (go_at_call 75; (with_reducible refine (CM.out _).mono ?_); rintro e W1 ⟨rfl, hw1⟩; have k1' : W1.cell? ⟨S, 1, none⟩ = some (.slice (some ⟨bp, op, none⟩) n cpp) := bcell' hw1 (by (with_reducible repeat' (first | assumption | apply cell_alloc' | apply cell_drew'))); have q0' : W1.cell? ⟨g, o, none⟩ = some (.int .i64 a) := bcell' hw1 (by (with_reducible repeat' (first | assumption | apply cell_alloc' | apply cell_drew'))); have q1' : W1.cell? ⟨g, o + 1, none⟩ = some (.int .i64 k) := bcell' hw1 (by (with_reducible repeat' (first | assumption | apply cell_alloc' | apply cell_drew'))); have m0' : W1.cell? ⟨bp, op + a * 2, none⟩ = some (.int .i64 ai) := bcell' hw1 (by (with_reducible repeat' (first | assumption | apply cell_alloc' | apply cell_drew'))); have m1' : W1.cell? ⟨bp, op + a * 2 + 1, none⟩ = some (.int .i64 aj) := bcell' hw1 (by (with_reducible repeat' (first | assumption | apply cell_alloc' | apply cell_drew'))); have m2' : W1.cell? ⟨bp, op + k * 2, none⟩ = some (.int .i64 ki) := bcell' hw1 (by (with_reducible repeat' (first | assumption | apply cell_alloc' | apply cell_drew'))); have m3' : W1.cell? ⟨bp, op + k * 2 + 1, none⟩ = some (.int .i64 kj) := bcell' hw1 (by (with_reducible repeat' (first | assumption | apply cell_alloc' | apply cell_drew'))); have hbW : Below w.heap.size w W1 := ball (by (with_reducible repeat' (first | exact Below.refl _ _ | apply bal_alloc | apply Below.drew))) hw1; (first | (have ho : Own W1 w.heap.size 73 [.int .i64 0, .int .i64 0] := (Own.new w [.int .i64 0, .int .i64 0] 73).drew.belowAll hw1; have o0 := ho.cell? (i := 0) rfl; have o1 := ho.cell? (i := 1) rfl; have r0 := ho.frozen 0; have r1 := ho.frozen 1; clear ho) | skip)))
  all_goals
    have hz1 := hw1.size
    go_wp2_with fail
    refine (CG.out _).mono ?_
    rintro e W2 ⟨rfl, hw2⟩
    go_wp2_with fail
    go_ret
    exact ⟨rfl, by first | exact ball (bal_alloc hbW) hw2 | exact ball ((hbW.setCell (p := ⟨w.heap.size, 0, none⟩) (Nat.le_refl _) _).setCell (p := ⟨w.heap.size, 1, none⟩) (Nat.le_refl _) _) hw2⟩
end Go.Proofs.YtbcmnhppodfhpaaGreat

/-
  EdgeLength: the program's. By an AI agent.
-/
namespace Go.Proofs.YtbcmnhppodfhpaaGreat
open Go.RowKit

/-- there is such an edge. -/
def hasE (L : List Tm) (a b : Int) : Bool := decide (0 < (sdA L (celA L) (celA L).length a b).length)
def lenE (L : List Tm) (a b : Int) : Int := gcdN ((tmAt L b.toNat).i - (tmAt L a.toNat).i) ((tmAt L b.toNat).j - (tmAt L a.toNat).j)
theorem hasE_in {L : List Tm} (hd : Dist L) {a b : Int} (h : hasE L a b = true) : 0 ≤ a ∧ a < b ∧ b < L.length := by
  unfold hasE at h
  rw [decide_eq_true_eq, sdA_at (fun x hx => celA_g hx) hd a b _ (Nat.le_refl _), List.length_map] at h
  obtain ⟨n, hn⟩ := List.exists_mem_of_length_pos h
  rw [List.mem_filter, List.mem_range] at hn
  obtain ⟨h1, h2⟩ := hn
  unfold inX at h2
  rw [decide_eq_true_eq] at h2
  exact prX_in (celA_g (by rw [List.getD_eq_getElem?_getD, List.getElem?_eq_getElem h1]; exact List.getElem_mem _)) hd h2
theorem sm_pI {L : List Tm} (hp : ∀ k, k < L.length → termB (tmAt L k) = true) {k : Nat} (hk : k < L.length) : Sm (pI L k) := by
  have h := hp k hk
  unfold termB at h
  simp only [Bool.and_eq_true, inB_t] at h
  unfold pI pnt Sm
  simp only
  omega

set_option maxHeartbeats 1600000 in
theorem iEdgeLength_c (ad : Option Addr) (cap : Nat) (L : List Tm) (i k : Int) (w : World) (hr : RdT w ad L) (hl : L.length ≤ 1048576) (hi : Wf i) (hk : Wf k) :
    Calls Tryz.prog 16 #[.slice ad L.length cap, .int .i64 i, .int .i64 k] w fun e w' => e = .returned (.tuple #[.int .i64 (if (planeB L && hasE L i k) = true then lenE L i k else 0), .bool (planeB L && hasE L i k)]) ∧ Below w.heap.size w w' := by
  have CI := Lib.hid (subdivided_c ad cap L w hr hl)
  cases hB : planeB L
  case false =>
    rw [hB] at CI
    rw [Bool.false_and, if_neg (by simp)]
    generalize L.length = n at CI ⊢
    clear hr hB hl
    go_enter Tryz.func16, Tryz.ntmps16
    go_wp2_with fail
    refine CI.out.mono ?_
    rintro e w1 ⟨hb1, he⟩
    rw [if_neg (by simp)] at he
    subst he
    go_wp2_with fail
    exact bodyPost_ret (v := .tuple #[.int .i64 0, .bool false]) (by simp [results, Tryz.results16, go_sem]) rfl ⟨rfl, hb1⟩
  case true =>
    rw [hB] at CI
    rw [Bool.true_and]
    obtain ⟨h0, h12, hp⟩ := planeB_t hB
    have hd := plane_dist hB
    have HC := Lib.hid (fun w' S d (h : SubM w' S L (.slice ad L.length cap) d) g q0 q1 => cellsAt_c S L _ d g 0 2 i k w' h q0 q1 hi hk)
    have HH := Lib.hid (show hasE L i k = decide (0 < (sdA L (celA L) (celA L).length i k).length) from rfl)
    have HLn := Lib.hid (fun w' S d (h : SubM w' S L (.slice ad L.length cap) d) (g : Nat) (hg : g < w'.heap.size) (q0 : w'.cell? ⟨g, 0, none⟩ = some (.int .i64 i)) (q1 : w'.cell? ⟨g, 0 + 1, none⟩ = some (.int .i64 k)) (hE : hasE L i k = true) => show Calls Tryz.prog 40 #[.pointer (some ⟨S, 0, none⟩), .slice (some ⟨g, 0, none⟩) 2 2] w' fun e w2 => e = .returned (.int .i64 (lenE L i k)) ∧ Below w'.heap.size w' w2 from by
      obtain ⟨e0, e1, e2⟩ := hasE_in hd hE
      obtain ⟨a, rfl⟩ : ∃ a : Nat, i = a := ⟨i.toNat, by omega⟩
      obtain ⟨b, rfl⟩ : ∃ b : Nat, k = b := ⟨k.toNat, by omega⟩
      exact length_c S d.bp d.op d.cpp L.length L g 0 2 a b w' h.own.lt (h.own.cell? (i := 1) rfl) h.hbp h.pt hg q0 q1 (by omega) (by omega) (sm_pI hp (by omega)) (sm_pI hp (by omega)))
    generalize (sdA L (celA L) (celA L).length i k).length = N at HC HH
    generalize hasE L i k = B at HH HLn ⊢
    generalize lenE L i k = G at HLn ⊢
    obtain ⟨n, hn⟩ : ∃ n, L.length = n := ⟨_, rfl⟩
    rw [hn] at CI HC HLn ⊢
    clear hr hB hl hn h0 h12 hp hd
    go_enter Tryz.func16, Tryz.ntmps16
    go_wp2_with fail
    refine CI.out.mono ?_
    rintro e w1 ⟨hb1, he⟩
    rw [if_pos rfl] at he
    obtain ⟨S, d, rfl, hsm⟩ := he
    have HSM := Lib.hid hsm
    clear hsm CI
    go_wp2_with fail
    obtain ⟨W2, hW2⟩ : ∃ u, u = w1.alloc (.cells #[.int .i64 i, .int .i64 k] 3) := ⟨_, rfl⟩
    have hbA : Below w1.heap.size w1 W2 := by rw [hW2]; exact bal_alloc (Below.refl _ _)
    have hO : Own W2 w1.heap.size 3 [.int .i64 i, .int .i64 k] := by rw [hW2]; exact Own.new w1 [.int .i64 i, .int .i64 k] 3
    have C2 := Lib.hid (HC.out W2 S d (HSM.out.below hbA) w1.heap.size (hO.cell? (i := 0) rfl) (hO.cell? (i := 1) rfl))
    have HSM2 := Lib.hid (HSM.out.below hbA)
    rw [← hW2]
    have HB2 := Lib.hid (ball hb1 hbA)
    clear hO hW2 HC hbA HSM
    refine C2.out.mono ?_
    rintro e W3 ⟨⟨av, cv, rfl⟩, hb3⟩
    have HSM3 := Lib.hid (HSM2.out.below hb3)
    have HB3 := Lib.hid (ball HB2.out hb3)
    clear C2 HSM2 hb3
    cases B
    case false =>
      have hN : N = 0 := by have := HH.out; simp at this; omega
      subst hN
      go_wp2_with fail
      exact bodyPost_ret (v := .tuple #[.int .i64 0, .bool false]) (by simp [results, Tryz.results16, go_sem]) rfl ⟨rfl, HB3.out⟩
    case true =>
      have hN : ((N : Int) == 0) = false := beq_eq_false_iff_ne.2 (by have := HH.out; simp at this; omega)
      go_wp2_with fail
      obtain ⟨W4, hW4⟩ : ∃ u, u = W3.alloc (.cells #[.int .i64 i, .int .i64 k] 3) := ⟨_, rfl⟩
      have hbA : Below W3.heap.size W3 W4 := by rw [hW4]; exact bal_alloc (Below.refl _ _)
      have hO : Own W4 W3.heap.size 3 [.int .i64 i, .int .i64 k] := by rw [hW4]; exact Own.new W3 [.int .i64 i, .int .i64 k] 3
      have C4 := Lib.hid (HLn.out W4 S d (HSM3.out.below hbA) W3.heap.size hO.lt (hO.cell? (i := 0) rfl) (hO.cell? (i := 1) rfl) (by first | rfl | trivial))
      rw [← hW4]
      have HB4 := Lib.hid (ball HB3.out hbA)
      clear hO hW4 HLn hbA HSM3
      refine C4.out.mono ?_
      rintro e W5 ⟨rfl, hb5⟩
      have HB5 := Lib.hid (ball HB4.out hb5)
      clear C4 hb5
      go_wp2_with fail
      exact bodyPost_ret (v := .tuple #[.int .i64 G, .bool true]) (by simp [results, Tryz.results16, go_sem]) rfl ⟨rfl, HB5.out⟩
end Go.Proofs.YtbcmnhppodfhpaaGreat

/-
  HaveSameCells: the program's. By an AI agent.
-/
namespace Go.Proofs.YtbcmnhppodfhpaaGreat
open Go.RowKit

theorem list_eq_at {α : Type} {d : α} {l m : List α} (h : l.length = m.length) (he : ∀ j, j < l.length → l.getD j d = m.getD j d) : l = m := by
  refine List.ext_getElem h fun i h1 h2 => ?_
  have := he i h1
  rw [List.getD_eq_getElem?_getD, List.getD_eq_getElem?_getD, List.getElem?_eq_getElem h1, List.getElem?_eq_getElem h2] at this
  exact this
set_option maxHeartbeats 1600000 in
set_option maxRecDepth 100000 in
theorem equalFuncL_c (fid : FuncId) (ad : Option Addr) (cap : Nat) (X : List (List Int)) (ad2 : Option Addr) (cap2 : Nat) (Y : List (List Int)) (w : World) (hl : X.length ≤ 1048576) (h1 : RdM w ad X) (h2 : RdM w ad2 Y)
    (hcf : ∀ (xa : Array Value) (w : World), (callFunc fid xa).run Tryz.prog w = .ok (.enter fid xa) w)
    (hf : ∀ i a c a2 c2 u, i < X.length → i < Y.length → RdI u a (X.getD i []) → RdI u a2 (Y.getD i []) → Calls Tryz.prog fid #[.slice a (X.getD i []).length c, .slice a2 (Y.getD i []).length c2] u fun e w' => e = .returned (.bool (decide (X.getD i [] = Y.getD i []))) ∧ Below u.heap.size u w') :
    Calls Tryz.prog 49 #[.slice ad X.length cap, .slice ad2 Y.length cap2, .func (Fn.func fid) #[] #[]] w fun e w' => e = .returned (.bool (decide (X = Y))) ∧ Below w.heap.size w w' := by
  have H1 := Lib.hid h1; clear h1
  have H2 := Lib.hid h2; clear h2
  have HF := Lib.hid hf; clear hf
  by_cases hlm : X.length = Y.length
  case neg =>
    have hd0 : ((X.length : Int) != (Y.length : Int)) = true := bne_iff_ne.2 (by omega)
    have hlm2 : ((X.length : Int) == (Y.length : Int)) = false := beq_eq_false_iff_ne.2 (by omega)
    have hres : decide (X = Y) = false := decide_eq_false (fun e => hlm (by rw [e]))
    rw [hres]
    clear hlm hres
    go_enter Tryz.func49, Tryz.ntmps49
    go_wp2_with fail
    go_ret
    exact ⟨rfl, Below.refl _ _⟩
  case pos =>
    have HALL := Lib.hid (fun (h : ∀ j, j < X.length → X.getD j [] = Y.getD j []) => show decide (X = Y) = true from decide_eq_true (list_eq_at hlm h))
    have HONE := Lib.hid (fun j (_ : j < X.length) (h : X.getD j [] ≠ Y.getD j []) => show decide (X = Y) = false from decide_eq_false (fun e => h (by rw [e])))
    obtain ⟨N, hN⟩ : ∃ N, X.length = N := ⟨_, rfl⟩
    have hM : Y.length = N := by omega
    generalize decide (X = Y) = RES at HALL HONE ⊢
    rw [hN] at HALL HONE HF
    rw [hM] at HF
    rw [hN, hM]
    have HN := Lib.hid hN; have HM := Lib.hid hM
    have hN2 : N ≤ 1048576 := by omega
    clear hN hM hlm hl
    have hd0 : ((N : Int) != (N : Int)) = false := by simp
    go_enter Tryz.func49, Tryz.ntmps49
    go_wp2_with fail
    clear hd0
    go_loopw [17] (fun i wr => ∃ k : Nat, k ≤ N ∧ i = .int .i64 k ∧ (∀ j, j < k → X.getD j [] = Y.getD j []) ∧ Below w.heap.size w wr) (fun i _ => N - (intOf i).toNat)
    case atStart => exact ⟨0, Nat.zero_le _, rfl, fun j hj => by omega, Below.refl _ _⟩
    case round =>
      obtain ⟨k, hk, rfl, hlow, hbel⟩ := hrel
      have HLow := Lib.hid hlow; clear hlow
      obtain ⟨wo, rfl⟩ : ∃ wo : World, wo = wr := ⟨_, rfl⟩
      by_cases hlt : k < N
      · obtain ⟨b1, o1, a1, c1, rfl, hb1, k1, r1⟩ := (H1.out.below hbel) k (by have := HN.out; omega)
        obtain ⟨b2, o2, a2, c2, rfl, hb2, k2, r2⟩ := (H2.out.below hbel) k (by have := HM.out; omega)
        have x1 : (0 : Int) ≤ (k : Int) := by omega
        have x2 : (k : Int) < (N : Int) := by omega
        have C := HF.out k a1 c1 a2 c2 wo hlt hlt r1 r2
        have HL2 := Lib.hid (fun (h : X.getD k [] = Y.getD k []) => show ∀ j, j < k + 1 → X.getD j [] = Y.getD j [] from fun j hj => by
          by_cases e : j = k
          · subst e; exact h
          · exact HLow.out j (by omega))
        have HO2 := Lib.hid (HONE.out k hlt)
        clear r1 r2
        generalize X.getD k [] = x at k1 C HL2 HO2
        generalize Y.getD k [] = y at k2 C HL2 HO2
        by_cases he : x = y
        · have HL3 := Lib.hid (HL2.out he)
          rw [decide_eq_true he] at C
          have C := Lib.hid C
          clear he
          go_wp2_with fail
          refine C.out.mono ?_
          rintro e w5 ⟨rfl, hb5⟩
          have hbN := ball hbel hb5
          go_wp2_with fail
          go_roundw
          case rel => exact ⟨k + 1, by omega, by go_num, HL3.out, hbN⟩
          case measure => simp [intOf]; omega
        · obtain rfl := HO2.out he
          rw [decide_eq_false he] at C
          have C := Lib.hid C
          clear he
          go_wp2_with fail
          refine C.out.mono ?_
          rintro e w5 ⟨rfl, hb5⟩
          have hbN := ball hbel hb5
          go_wp2_with fail
          go_ret
          exact ⟨rfl, hbN⟩
      · obtain rfl : k = N := by omega
        obtain rfl := HALL.out HLow.out
        go_wp2_with fail
        go_ret
        exact ⟨rfl, hbel⟩
/-- the same points and the same cells. -/
def smcB (a b : List Tm) : Bool := decide (ptsL a a.length = ptsL b b.length) && decide (celA a = celA b)

set_option maxHeartbeats 3200000 in
set_option maxRecDepth 100000 in
theorem iHaveSameCells_c (ad ad2 : Option Addr) (cap cap2 : Nat) (a b : List Tm) (w : World) (hr : RdT w ad a) (hr2 : RdT w ad2 b) (hla : a.length ≤ 1048576) (hlb : b.length ≤ 1048576) :
    Calls Tryz.prog 20 #[.slice ad a.length cap, .slice ad2 b.length cap2] w fun e w' => e = .returned (.tuple #[.bool (planeB a && (planeB b && smcB a b)), .bool (planeB a && planeB b)]) ∧ Below w.heap.size w w' := by
  have CA := Lib.hid (subdivided_c ad cap a w hr hla)
  have CB := Lib.hid (fun (u : World) (h : Below w.heap.size w u) => subdivided_c ad2 cap2 b u (hr2.below h) hlb)
  cases hA : planeB a
  case false =>
    rw [hA] at CA
    simp only [Bool.false_and]
    cases hB : planeB b
    all_goals
      rw [hB] at CB
      generalize hna : a.length = na at *
      generalize hnb : b.length = nb at *
      clear hr hr2 hla hlb hA hB hna hnb
      go_enter Tryz.func20, Tryz.ntmps20
      go_wp2_with fail
      refine CA.out.mono ?_
      rintro e w1 ⟨hb1, he⟩
      rw [if_neg (by simp)] at he
      subst he
      have CB1 := Lib.hid (CB.out w1 hb1)
      go_wp2_with fail
      refine CB1.out.mono ?_
      rintro e w2 ⟨hb2, he⟩
    · rw [if_neg (by simp)] at he
      subst he
      go_wp2_with fail
      exact bodyPost_ret (v := .tuple #[.bool false, .bool false]) (by simp [results, Tryz.results20, go_sem]) rfl ⟨rfl, ball hb1 hb2⟩
    · rw [if_pos rfl] at he
      obtain ⟨S2, d2, rfl, _⟩ := he
      go_wp2_with fail
      exact bodyPost_ret (v := .tuple #[.bool false, .bool false]) (by simp [results, Tryz.results20, go_sem]) rfl ⟨rfl, ball hb1 hb2⟩
  case true =>
    rw [hA] at CA
    cases hB : planeB b
    case false =>
      rw [hB] at CB
      simp only [Bool.true_and, Bool.false_and]
      generalize hna : a.length = na at *
      generalize hnb : b.length = nb at *
      clear hr hr2 hla hlb hA hB hna hnb
      go_enter Tryz.func20, Tryz.ntmps20
      go_wp2_with fail
      refine CA.out.mono ?_
      rintro e w1 ⟨hb1, he⟩
      rw [if_pos rfl] at he
      obtain ⟨S1, d1, rfl, _⟩ := he
      have CB1 := Lib.hid (CB.out w1 hb1)
      go_wp2_with fail
      refine CB1.out.mono ?_
      rintro e w2 ⟨hb2, he⟩
      rw [if_neg (by simp)] at he
      subst he
      go_wp2_with fail
      exact bodyPost_ret (v := .tuple #[.bool false, .bool false]) (by simp [results, Tryz.results20, go_sem]) rfl ⟨rfl, ball hb1 hb2⟩
    case true =>
      rw [hB] at CB
      simp only [Bool.true_and]
      obtain ⟨_, ha12, _⟩ := planeB_t hA
      obtain ⟨_, hb12, _⟩ := planeB_t hB
      have hca := celA_len a ha12
      have hcb := celA_len b hb12
      have HPT := Lib.hid (fun u b1 o1 c1 b2 o2 c2 (h1 : RdP u (some ⟨b1, o1, none⟩) (ptsL a a.length)) (h2 : RdP u (some ⟨b2, o2, none⟩) (ptsL b b.length)) => show Calls Tryz.prog 48 #[.slice (some ⟨b1, o1, none⟩) a.length c1, .slice (some ⟨b2, o2, none⟩) b.length c2] u fun e w' => e = .returned (.bool (decide (ptsL a a.length = ptsL b b.length))) ∧ Below u.heap.size u w' from by
        have h := equal_c (some ⟨b1, o1, none⟩) (some ⟨b2, o2, none⟩) c1 c2 _ _ u h1 h2 (by rw [ptsL_len]; omega) (by rw [ptsL_len]; omega)
        rw [ptsL_len, ptsL_len] at h
        exact h)
      have HLS := Lib.hid (fun u a1 c1 a2 c2 (h1 : RdM u a1 (celA a)) (h2 : RdM u a2 (celA b)) => equalFuncL_c 50 a1 c1 (celA a) a2 c2 (celA b) u (by omega) h1 h2 (callFunc_plain Tryz.func50 (by kernel_rfl) (by kernel_rfl)) (fun i a c a2 c2 u hi hj r1 r2 => eqI_c a c _ a2 c2 _ u (Nat.le_trans (cell_len (by rw [List.getD_eq_getElem?_getD, List.getElem?_eq_getElem hi]; exact List.getElem_mem _)) (by omega)) r1 r2))
      unfold smcB
      have HSA := Lib.hid (fun w' S d (h : SubM w' S a (.slice ad a.length cap) d) => show S < w'.heap.size ∧ w'.cell? ⟨S, 1, none⟩ = some (.slice (some ⟨d.bp, d.op, none⟩) a.length d.cpp) ∧ w'.cell? ⟨S, 2, none⟩ = some (.slice d.adC (celA a).length d.capC) ∧ RdP w' (some ⟨d.bp, d.op, none⟩) (ptsL a a.length) ∧ RdM w' d.adC (celA a) from ⟨h.own.lt, h.own.cell? (i := 1) rfl, h.own.cell? (i := 2) rfl, rdP_of_terms h.hbp h.pt, h.cells.rd⟩)
      have HSB := Lib.hid (fun w' S d (h : SubM w' S b (.slice ad2 b.length cap2) d) => show S < w'.heap.size ∧ w'.cell? ⟨S, 1, none⟩ = some (.slice (some ⟨d.bp, d.op, none⟩) b.length d.cpp) ∧ w'.cell? ⟨S, 2, none⟩ = some (.slice d.adC (celA b).length d.capC) ∧ RdP w' (some ⟨d.bp, d.op, none⟩) (ptsL b b.length) ∧ RdM w' d.adC (celA b) from ⟨h.own.lt, h.own.cell? (i := 1) rfl, h.own.cell? (i := 2) rfl, rdP_of_terms h.hbp h.pt, h.cells.rd⟩)
      generalize decide (ptsL a a.length = ptsL b b.length) = P at HPT ⊢
      generalize decide (celA a = celA b) = Q at HLS ⊢
      generalize ptsL a a.length = PA at HPT HSA
      generalize ptsL b b.length = PB at HPT HSB
      have HBL := Lib.hid (fun u S d (h : SubM u S a (.slice ad a.length cap) d) w' (hb : Below u.heap.size u w') => SubM.below h hb)
      generalize celA a = XA at HLS HSA hca
      generalize celA b = XB at HLS HSB hcb
      generalize XA.length = nx at *
      generalize XB.length = ny at *
      generalize hna : a.length = na at *
      generalize hnb : b.length = nb at *
      clear hr hr2 hla hlb hA hB hna hnb
      cases P
      all_goals
        go_enter Tryz.func20, Tryz.ntmps20
        go_wp2_with fail
        refine CA.out.mono ?_
        rintro e w1 ⟨hb1, he⟩
        rw [if_pos rfl] at he
        obtain ⟨S1, d1, rfl, hs1⟩ := he
        have HS1 := Lib.hid hs1
        have CB1 := Lib.hid (CB.out w1 hb1)
        clear hs1
        go_wp2_with fail
        refine CB1.out.mono ?_
        rintro e w2 ⟨hb2, he⟩
        rw [if_pos rfl] at he
        obtain ⟨S2, d2, rfl, hs2⟩ := he
        obtain ⟨hS1, k0, k1, r1, r2⟩ := HSA.out w2 S1 d1 (HBL.out w1 S1 d1 HS1.out w2 hb2)
        obtain ⟨hS2, k2, k3, r3, r4⟩ := HSB.out w2 S2 d2 hs2
        have HB2 := Lib.hid (ball hb1 hb2)
        obtain ⟨bp1, op1, cq1, ac1, cc1, hq1⟩ : ∃ x y z u v, d1.bp = x ∧ d1.op = y ∧ d1.cpp = z ∧ d1.adC = u ∧ d1.capC = v := ⟨_, _, _, _, _, rfl, rfl, rfl, rfl, rfl⟩
        obtain ⟨e1, e2, e3, e4, e5⟩ := hq1
        rw [e1, e2] at k0 r1
        rw [e3] at k0
        rw [e4] at k1 r2
        rw [e5] at k1
        obtain ⟨bp2, op2, cq2, ac2, cc2, hq2⟩ : ∃ x y z u v, d2.bp = x ∧ d2.op = y ∧ d2.cpp = z ∧ d2.adC = u ∧ d2.capC = v := ⟨_, _, _, _, _, rfl, rfl, rfl, rfl, rfl⟩
        obtain ⟨f1, f2, f3, f4, f5⟩ := hq2
        rw [f1, f2] at k2 r3
        rw [f3] at k2
        rw [f4] at k3 r4
        rw [f5] at k3
        have CP := Lib.hid (fun u (h : Below w2.heap.size w2 u) => HPT.out u bp1 op1 cq1 bp2 op2 cq2 (r1.below h) (r3.below h))
        have CQ := Lib.hid (fun u (h : Below w2.heap.size w2 u) => HLS.out u ac1 cc1 ac2 cc2 (r2.below h) (r4.below h))
        clear hs2 r1 r2 r3 r4 e1 e2 e3 e4 e5 f1 f2 f3 f4 f5 HSA HSB HPT HLS HBL HS1 CA CB CB1 hb1 hb2
        go_wp2_with fail
      · have n0 := bcell ((Below.refl w2.heap.size w2).drew) hS1 k0
        have n1 := bcell ((Below.refl w2.heap.size w2).drew) hS1 k1
        have n2 := bcell ((Below.refl w2.heap.size w2).drew) hS2 k2
        have n3 := bcell ((Below.refl w2.heap.size w2).drew) hS2 k3
        refine wp_region_noPanic ?_
        refine wp_region_held_drew (S := (fun w' => w'.cell? ⟨S1, 1, none⟩ = some (.slice (some ⟨bp1, op1, none⟩) na cq1) ∧ w'.cell? ⟨S1, 2, none⟩ = some (.slice ac1 nx cc1) ∧ w'.cell? ⟨S2, 1, none⟩ = some (.slice (some ⟨bp2, op2, none⟩) nb cq2) ∧ w'.cell? ⟨S2, 2, none⟩ = some (.slice ac2 ny cc2))) (by kernel_rfl) ?_ (fun hHeld => ?_)
        · (try dsimp only); exact ⟨by assumption, by assumption, by assumption, by assumption⟩
        refine wpAnyH_take (i := 0) (oi := ⟨some 26, _, _, _, _, _⟩) (v := .pointer (some ⟨S1, 0, none⟩)) rfl (by kernel_rfl) (by kernel_rfl) (by kernel_rfl) (fun _ _ _ h => h) (Or.inl ⟨by rfl, fun w hSw => ?_⟩) hHeld ?_
        · (try dsimp only at hSw); go_simp
        try simp only [Act.put, List.setIfInBounds_toArray, List.set_cons_zero, List.set_cons_succ]
        refine wpAnyH_take (i := 1) (oi := ⟨some 27, _, _, _, _, _⟩) (v := .pointer (some ⟨S1, 0, none⟩)) rfl (by kernel_rfl) (by kernel_rfl) (by kernel_rfl) (fun _ _ _ h => h) (Or.inl ⟨by rfl, fun w hSw => ?_⟩) hHeld ?_
        · (try dsimp only at hSw); go_simp
        try simp only [Act.put, List.setIfInBounds_toArray, List.set_cons_zero, List.set_cons_succ]
        refine wpAnyH_take (i := 2) (oi := ⟨some 28, _, _, _, _, _⟩) (v := .pointer (some ⟨S1, 1, none⟩)) rfl (by kernel_rfl) (by kernel_rfl) (by kernel_rfl) (fun _ _ _ h => h) (Or.inl ⟨by rfl, fun w hSw => ?_⟩) hHeld ?_
        · (try dsimp only at hSw); go_simp
        try simp only [Act.put, List.setIfInBounds_toArray, List.set_cons_zero, List.set_cons_succ]
        refine wpAnyH_take (i := 3) (oi := ⟨some 29, _, _, _, _, _⟩) (v := (.slice (some ⟨bp1, op1, none⟩) na cq1)) rfl (by kernel_rfl) (by kernel_rfl) (by kernel_rfl) (fun _ _ _ h => h) (Or.inl ⟨by rfl, fun w hSw => ?_⟩) hHeld ?_
        · (try dsimp only at hSw); go_simp
        try simp only [Act.put, List.setIfInBounds_toArray, List.set_cons_zero, List.set_cons_succ]
        refine wpAnyH_take (i := 4) (oi := ⟨some 30, _, _, _, _, _⟩) (v := .pointer (some ⟨S2, 0, none⟩)) rfl (by kernel_rfl) (by kernel_rfl) (by kernel_rfl) (fun _ _ _ h => h) (Or.inl ⟨by rfl, fun w hSw => ?_⟩) hHeld ?_
        · (try dsimp only at hSw); go_simp
        try simp only [Act.put, List.setIfInBounds_toArray, List.set_cons_zero, List.set_cons_succ]
        refine wpAnyH_take (i := 5) (oi := ⟨some 31, _, _, _, _, _⟩) (v := .pointer (some ⟨S2, 0, none⟩)) rfl (by kernel_rfl) (by kernel_rfl) (by kernel_rfl) (fun _ _ _ h => h) (Or.inl ⟨by rfl, fun w hSw => ?_⟩) hHeld ?_
        · (try dsimp only at hSw); go_simp
        try simp only [Act.put, List.setIfInBounds_toArray, List.set_cons_zero, List.set_cons_succ]
        refine wpAnyH_take (i := 6) (oi := ⟨some 32, _, _, _, _, _⟩) (v := .pointer (some ⟨S2, 1, none⟩)) rfl (by kernel_rfl) (by kernel_rfl) (by kernel_rfl) (fun _ _ _ h => h) (Or.inl ⟨by rfl, fun w hSw => ?_⟩) hHeld ?_
        · (try dsimp only at hSw); go_simp
        try simp only [Act.put, List.setIfInBounds_toArray, List.set_cons_zero, List.set_cons_succ]
        refine wpAnyH_take (i := 7) (oi := ⟨some 33, _, _, _, _, _⟩) (v := (.slice (some ⟨bp2, op2, none⟩) nb cq2)) rfl (by kernel_rfl) (by kernel_rfl) (by kernel_rfl) (fun _ _ _ h => h) (Or.inl ⟨by rfl, fun w hSw => ?_⟩) hHeld ?_
        · (try dsimp only at hSw); go_simp
        try simp only [Act.put, List.setIfInBounds_toArray, List.set_cons_zero, List.set_cons_succ]
        refine wpAnyH_ready (rs := [8]) (by kernel_rfl) (by simp) ?_
        refine AllReadyH.cons (o := ⟨some 34, _, _, _, _, _⟩) rfl (fun K hK => ?_) AllReadyH.nil
        go_simp
        ((with_reducible refine (CP.out _ (Below.refl _ _).drew).mono ?_); rintro e W1 ⟨rfl, hw1⟩; have hbP : Below w2.heap.size w2 W1 := ball (Below.refl _ _).drew hw1; have m0 := bcell hbP hS1 k0; have m1 := bcell hbP hS1 k1; have m2 := bcell hbP hS2 k2; have m3 := bcell hbP hS2 k3)
        clear hHeld
        refine hK.out _ _ ?_ (fun hHeld => ?_)
        · (try dsimp only); exact ⟨by assumption, by assumption, by assumption, by assumption⟩
        clear hK K
        try simp only [Act.put, List.setIfInBounds_toArray, List.set_cons_zero, List.set_cons_succ]
        refine wpAnyH_take (i := 9) (oi := ⟨some 35, _, _, _, _, _⟩) (v := .bool false) rfl (by kernel_rfl) (by kernel_rfl) (by kernel_rfl) (fun _ _ _ h => h) (Or.inl ⟨by rfl, fun w hSw => ?_⟩) hHeld ?_
        · (try dsimp only at hSw); go_simp
        try simp only [Act.put, List.setIfInBounds_toArray, List.set_cons_zero, List.set_cons_succ]
        refine wpAnyH_skip 10 36 (by kernel_rfl) (by kernel_rfl) (by kernel_rfl) (by kernel_rfl) (fun _ _ _ h => h) hHeld ?_
        try simp only [Act.put, List.setIfInBounds_toArray, List.set_cons_zero, List.set_cons_succ]
        refine wpAnyH_skip 11 37 (by kernel_rfl) (by kernel_rfl) (by kernel_rfl) (by kernel_rfl) (fun _ _ _ h => h) hHeld ?_
        try simp only [Act.put, List.setIfInBounds_toArray, List.set_cons_zero, List.set_cons_succ]
        refine wpAnyH_skip 12 38 (by kernel_rfl) (by kernel_rfl) (by kernel_rfl) (by kernel_rfl) (fun _ _ _ h => h) hHeld ?_
        try simp only [Act.put, List.setIfInBounds_toArray, List.set_cons_zero, List.set_cons_succ]
        refine wpAnyH_skip 13 39 (by kernel_rfl) (by kernel_rfl) (by kernel_rfl) (by kernel_rfl) (fun _ _ _ h => h) hHeld ?_
        try simp only [Act.put, List.setIfInBounds_toArray, List.set_cons_zero, List.set_cons_succ]
        refine wpAnyH_skip 14 40 (by kernel_rfl) (by kernel_rfl) (by kernel_rfl) (by kernel_rfl) (fun _ _ _ h => h) hHeld ?_
        try simp only [Act.put, List.setIfInBounds_toArray, List.set_cons_zero, List.set_cons_succ]
        refine wpAnyH_skip 15 41 (by kernel_rfl) (by kernel_rfl) (by kernel_rfl) (by kernel_rfl) (fun _ _ _ h => h) hHeld ?_
        try simp only [Act.put, List.setIfInBounds_toArray, List.set_cons_zero, List.set_cons_succ]
        refine wpAnyH_skip 16 42 (by kernel_rfl) (by kernel_rfl) (by kernel_rfl) (by kernel_rfl) (fun _ _ _ h => h) hHeld ?_
        try simp only [Act.put, List.setIfInBounds_toArray, List.set_cons_zero, List.set_cons_succ]
        refine wpAnyH_skip 17 43 (by kernel_rfl) (by kernel_rfl) (by kernel_rfl) (by kernel_rfl) (fun _ _ _ h => h) hHeld ?_
        try simp only [Act.put, List.setIfInBounds_toArray, List.set_cons_zero, List.set_cons_succ]
        refine wpAnyH_skip 18 44 (by kernel_rfl) (by kernel_rfl) (by kernel_rfl) (by kernel_rfl) (fun _ _ _ h => h) hHeld ?_
        try simp only [Act.put, List.setIfInBounds_toArray, List.set_cons_zero, List.set_cons_succ]
        refine wpAnyH_take (i := 19) (oi := ⟨some 45, _, _, _, _, _⟩) (v := .bool false) rfl (by kernel_rfl) (by kernel_rfl) (by kernel_rfl) (fun _ _ _ h => h) (Or.inl ⟨by rfl, fun w hSw => ?_⟩) hHeld ?_
        · (try dsimp only at hSw); go_simp
        try simp only [Act.put, List.setIfInBounds_toArray, List.set_cons_zero, List.set_cons_succ]
        refine wpAnyH_take (i := 20) (oi := ⟨some 4, _, _, _, _, _⟩) (v := .bool false) rfl (by kernel_rfl) (by kernel_rfl) (by kernel_rfl) (fun _ _ _ h => h) (Or.inl ⟨by rfl, fun w hSw => ?_⟩) hHeld ?_
        · (try dsimp only at hSw); go_simp
        try simp only [Act.put, List.setIfInBounds_toArray, List.set_cons_zero, List.set_cons_succ]
        refine wpAnyH_take (i := 21) (oi := ⟨some 5, _, _, _, _, _⟩) (v := .bool true) rfl (by kernel_rfl) (by kernel_rfl) (by kernel_rfl) (fun _ _ _ h => h) (Or.inl ⟨by rfl, fun w hSw => ?_⟩) hHeld ?_
        · (try dsimp only at hSw); go_simp
        try simp only [Act.put, List.setIfInBounds_toArray, List.set_cons_zero, List.set_cons_succ]
        refine wpAnyH_done (by kernel_rfl) ?_ _
        refine NoPanic.normal ?_
        go_wp2_with fail
        exact bodyPost_ret (v := .tuple #[.bool false, .bool true]) (by simp [results, Tryz.results20, go_sem]) rfl ⟨by simp, ball HB2.out hbP⟩
      · go_region_held3 (fun w' => w'.cell? ⟨S1, 1, none⟩ = some (.slice (some ⟨bp1, op1, none⟩) na cq1) ∧ w'.cell? ⟨S1, 2, none⟩ = some (.slice ac1 nx cc1) ∧ w'.cell? ⟨S2, 1, none⟩ = some (.slice (some ⟨bp2, op2, none⟩) nb cq2) ∧ w'.cell? ⟨S2, 2, none⟩ = some (.slice ac2 ny cc2)) (exact ⟨by assumption, by assumption, by assumption, by assumption⟩)
          (first
            | (go_at_call 48; (with_reducible refine (CP.out _ (by with_reducible (first | exact Below.refl _ _ | exact (Below.refl _ _).drew | exact hbP | exact hbP.drew))).mono ?_); rintro e WP ⟨rfl, hwP⟩; have hbP : Below w2.heap.size w2 WP := ball (by with_reducible (first | exact Below.refl _ _ | exact (Below.refl _ _).drew | exact hbP | exact hbP.drew)) hwP; have k0P := bcell hbP hS1 k0; have k1P := bcell hbP hS1 k1; have k2P := bcell hbP hS2 k2; have k3P := bcell hbP hS2 k3)
            | (go_at_call 49; (with_reducible refine (CQ.out _ (by with_reducible (first | exact Below.refl _ _ | exact (Below.refl _ _).drew | exact hbP | exact hbP.drew))).mono ?_); rintro e WQ ⟨rfl, hwQ⟩; have hbQ : Below w2.heap.size w2 WQ := ball (by with_reducible (first | exact Below.refl _ _ | exact (Below.refl _ _).drew | exact hbP | exact hbP.drew)) hwQ; have k0Q := bcell hbQ hS1 k0; have k1Q := bcell hbQ hS1 k1; have k2Q := bcell hbQ hS2 k2; have k3Q := bcell hbQ hS2 k3))
        all_goals
          go_wp2_with fail
          exact bodyPost_ret (v := .tuple #[.bool Q, .bool true]) (by simp [results, Tryz.results20, go_sem]) rfl ⟨by simp, ball HB2.out hbQ⟩
end Go.Proofs.YtbcmnhppodfhpaaGreat
