/-
  The program's TreesOf.
-/
import Derived.Deep.Onto
import Derived.Test.YtopkohkilmlpaaaDet
import Derived.Test.YtopkohkilmlpaaaTreeC
namespace Go.Proofs.Ytopkohkilmlpaaa
open Go.RowKit

theorem MatC.grown {w w' : World} {B g : Nat} {rb cb : Nat → Nat} {N : Nat} {M : Nat → Nat → Int} {row : Option Nat} (h : MatC w B g rb cb N M) (hg : w.grownBy w' row) (h1 : row ≠ some g) (h2 : ∀ i, i < N → row ≠ some (rb i)) : MatC w' B g rb cb N M :=
  ⟨h.hg, h.hb.grown hg h1, fun i hi => ⟨(h.hr i hi).1, (h.hr i hi).2.grown hg (h2 i hi)⟩, h.inj⟩
theorem MatC.alloc {w : World} {B g : Nat} {rb cb : Nat → Nat} {N : Nat} {M : Nat → Nat → Int} (h : MatC w B g rb cb N M) (o : Obj) : MatC (w.alloc o) B g rb cb N M :=
  ⟨h.hg, h.hb.alloc o, fun i hi => ⟨(h.hr i hi).1, (h.hr i hi).2.alloc o⟩, h.inj⟩
set_option maxRecDepth 100000 in
theorem slice_one {b n cc : Nat} (hn : 1 ≤ n) (hcc : 2 ≤ cc) (w' : World) : (Instr.slice 23 (.slice (some ⟨b, 0, none⟩) n cc) (some (.int .i64 1)) none none).run Try.prog w' = .ok (.slice (some ⟨b, 1, none⟩) (n - 1) (cc - 1)) w' := by
  rw [run_slice_l w' _ _ _ _ Try.underlying23 _ _ (by omega) (by omega)]
  simp [go_sem, show cc ≠ 1 by omega]
theorem tab_drop1 {α : Type} (n : Nat) (f : Nat → α) : (tab (n + 1) f).drop 1 = tab n fun j => f (j + 1) := by
  apply List.ext_getElem?
  intro j
  by_cases hj : j < n
  · rw [List.getElem?_drop, tab_get hj, tab_get (by omega), Nat.add_comm 1 j]
  · rw [List.getElem?_eq_none (by rw [List.length_drop, tab_length]; omega), List.getElem?_eq_none (by rw [tab_length]; omega)]

set_option maxHeartbeats 3200000 in
set_option maxRecDepth 100000 in
theorem implTrees_c (n : Int) (ad : Option Addr) (cap : Nat) (ls : List Lk) (w : World) (hl : ls.length ≤ 1048576) (hr : RdL w ad ls) (_hcl : ls.length ≤ cap) :
    Calls Try.prog 27 #[.int .i64 n, .slice ad ls.length cap] w (RetIB (treesR n ls) w) := by
  clear _hcl
  by_cases hg : goodL n ls = true
  case neg =>
    have hg' := Bool.eq_false_iff.2 hg
    have hR : Hid (treesR n ls = (0, false)) := if_neg (by simp [pgB_no hg'])
    go_enter Try.func27, Try.ntmps27
    go_wp2_with fail
    refine (tableOf_no n ad cap ls 0 _ hl hr hg').mono ?_
    rintro e w1 ⟨rfl, hb1⟩
    go_wp2_with fail
    go_ret2
    exact RetIB.of hR.out (hb1.alloc hb1.size _)
  case pos =>
    by_cases hp : pgB n ls 0 = true
    case neg =>
      have hp' := Bool.eq_false_iff.2 hp
      have hR : Hid (treesR n ls = (0, false)) := if_neg hp
      go_enter Try.func27, Try.ntmps27
      go_wp2_with fail
      refine (tableOf_any n ad cap ls 0 _ hl hr hg).mono ?_
      rw [hp']
      rintro e w1 ⟨G, gb, gv, capb, rb, rfl, hG, hGB, hGV, hb1⟩
      clear hG
      go_wp2_with fail
      go_ret2
      exact RetIB.of hR.out (hb1.alloc hb1.size _)
    case pos =>
      have hR0 : treesR n ls = (treesL (idL n.toNat) ls, true) := if_pos hp
      obtain ⟨_, h5, he, hc, hz⟩ := pgB_t.1 hp
      have hgn := good_n hg
      obtain ⟨k, rfl⟩ : ∃ k : Nat, n = (k + 1 : Nat) := ⟨n.toNat - 1, by omega⟩
      rw [Int.toNat_natCast, trees_det (N := k + 1) rfl hg (by omega)] at hR0
      simp only [Nat.add_sub_cancel] at hR0
      have hR := Lib.hid hR0; clear hR0
      have hGr := gr_of (N := k + 1) rfl hg
      have HGR := Lib.hid hGr; clear hGr
      obtain ⟨i0, hi0, hz0, hz1, hz2⟩ := info_parts Try.infoII
      go_enter Try.func27, Try.ntmps27
      go_wp2_with fail
      refine (tableOf_any _ ad cap ls 0 _ hl hr hg).mono ?_
      rw [hp]
      rintro e w1 ⟨G, gb, gv, capb, rb, rfl, hG, hGB, hGV, hb1⟩
      rw [Int.toNat_natCast] at hG
      have hba := hb1.alloc hb1.size (.cells #[.pointer (some ⟨G, 0, none⟩), .int .i64 0] 55)
      have HT := Lib.hid ((Own.newA w1 #[.pointer (some ⟨G, 0, none⟩), .int .i64 0] 55 rfl).alloc (.cells #[] 23))
      have HG := Lib.hid ((hG.alloc (.cells #[.pointer (some ⟨G, 0, none⟩), .int .i64 0] 55)).alloc (.cells #[] 23)); clear hG
      have hbb := hba.alloc hba.size (.cells #[] 23)
      have HO := Lib.hid (row_empty (w1.alloc (.cells #[.pointer (some ⟨G, 0, none⟩), .int .i64 0] 55)) 23)
      go_wp2_with fail
      have hsz1 : (w1.alloc (.cells #[.pointer (some ⟨G, 0, none⟩), .int .i64 0] 55)).heap.size = w1.heap.size + 1 := by simp
      rw [hsz1] at HO
      have hsz2 : ((w1.alloc (.cells #[.pointer (some ⟨G, 0, none⟩), .int .i64 0] 55)).alloc (.cells #[] 23)).heap.size = w1.heap.size + 2 := by simp
      have HS2 := Lib.hid hsz2; clear hsz1 hsz2
      generalize (w1.alloc (.cells #[.pointer (some ⟨G, 0, none⟩), .int .i64 0] 55)).alloc (.cells #[] 23) = W at HT HG HO HS2 hbb ⊢
      refine (laplacian_cap G gb gv capb rb (k + 1) _ _ _ W HG.out (by omega) (by omega) (fun i j _ _ => ⟨HGR.out.nn i j, by have := HGR.out.le i j; omega⟩)).mono ?_
      rintro e w2 ⟨g, capl, rb', cb', rfl, hM, hcapl, hcb, hb2⟩
      have hgW : w1.heap.size + 2 ≤ g := by have := hM.hg; rw [HS2.out] at this; exact this
      have HM := Lib.hid hM; clear hM
      have HCB := Lib.hid hcb; clear hcb
      have HO2 := Lib.hid (ownsRow_bel HO.out hb2)
      have hbw := ball hbb hb2
      obtain ⟨offg, capg, hslg, hoffg⟩ := slice_rows (g := g) (k := k) (cap := capl)
      have hoffg' := hoffg hcapl
      clear hoffg hcapl
      have hw12 : w1.heap.size + 1 ≤ w2.heap.size := by have h1 := hb2.size; rw [HS2.out] at h1; omega
      go_wp2_with fail
      go_loopw [8, 25] (fun v i wr => ∃ i' : Nat, i' ≤ k ∧ i = .int .i64 i' ∧ wr.ownsRow (w1.heap.size + 1) 23 1 v i' (tab i' fun j => .slice (some ⟨rb' (j + 1), 1, none⟩) k (cb' (j + 1) - 1)) ∧ (∀ q, v.ownBlock = some q → q ≠ g) ∧ MatC wr W.heap.size g rb' cb' (k + 1) (lapE (betF ls) (valF ls)) ∧ Below w.heap.size w wr ∧ w1.heap.size + 1 ≤ wr.heap.size) (fun _ i _ => k - (intOf i).toNat)
      case atStart => exact ⟨0, Nat.zero_le _, rfl, HO2.out, fun q hq => by simp [Value.ownBlock] at hq; omega, HM.out, hbw, hw12⟩
      case round =>
        obtain ⟨i, hi, rfl, hown, hne, hM, hbel, hsz⟩ := hrel
        have HOW := Lib.hid hown; clear hown
        have HNE := Lib.hid hne; clear hne
        by_cases hlt : i < k
        case pos =>
          have cg : wr.cell? ⟨g, offg + i, none⟩ = some (.slice (some ⟨rb' (i + 1), 0, none⟩) (k + 1) (cb' (i + 1))) := by
            have := hoffg' (by omega)
            rw [show offg + i = i + 1 by omega]
            exact hM.row (by omega)
          have hcc := HCB.out (i + 1) (by omega)
          have hlg := hM.hb.lt
          have HM2 := Lib.hid hM; clear hM
          have hst : Hid (tab (i + 1) (fun j => Value.slice (some ⟨rb' (j + 1), 1, none⟩) k (cb' (j + 1) - 1)) = tab i (fun j => Value.slice (some ⟨rb' (j + 1), 1, none⟩) k (cb' (j + 1) - 1)) ++ [.slice (some ⟨rb' (i + 1), 1, none⟩) k (cb' (i + 1) - 1)]) := tab_succ _ _
          generalize cb' (i + 1) = cc at cg hcc hst
          generalize rb' (i + 1) = rr at cg hst
          have hs1 := slice_one (b := rr) (n := k + 1) (cc := cc) (by omega) (by omega)
          simp only [Nat.add_sub_cancel] at hs1
          go_wp2_with (at_builtin; refine wpList_append_lies _ rfl _ _ _ rfl (w1.heap.size + 1) 23 i0 _ 1 24 Try.underlying61 hi0 hz0 hz1 hz2 rfl (by omega) _ i _ rfl (HOW.out.alloc _) ⟨wr.heap.size, 0, none⟩ 1 1 [.slice (some ⟨rr, 1, none⟩) k (cc - 1)] rfl rfl (World.news_of_block (cs := #[.slice (some ⟨rr, 1, none⟩) k (cc - 1)]) (t := 23) (fr := (0, 0)) (heap_alloc_new _ _)) (by simp [Value.oneCell']) (by omega) (by unfold maxLen; omega) (by omega) (by simp; omega) (wr.heap.size + 1) (by simp) ?_; intro gg gcap w4 hown4 hgrow4 hat4 hlt4)
          have hM4 := (HM2.out.alloc (.cells #[.slice (some ⟨rr, 1, none⟩) k (cc - 1)] 23)).grown hgrow4 (fun q => HNE.out g q rfl) (fun j hj => ownsRow_ne HOW.out ((HM2.out.hr j hj).2) (by decide))
          have HM4 := Lib.hid hM4; clear hM4
          have hsz4 := hgrow4.size
          have hb4 := app_below hbel hbel.size (World.ownsRow.mono HOW.out (by have := hb1.size; omega)) hgrow4
          have hne4 : gg ≠ g := by
            rcases hat4 with h | h
            · exact HNE.out gg h
            · omega
          have HN4 := Lib.hid hne4; clear hne4
          go_roundw
          case rel =>
            refine ⟨i + 1, by omega, by go_num, row_congr hown4 rfl hst.out.symm, fun q hq => ?_, HM4.out, hb4, by simp at hsz4; omega⟩
            simp [Value.ownBlock] at hq
            subst hq
            exact HN4.out
          case measure => simp [intOf]; omega
        case neg =>
          have he : i = k := by omega
          subst he
          have hda : DetArg wr u8 i (fun a b => lapE (betF ls) (valF ls) (a + 1) (b + 1)) := by
            rcases Own.of_row HOW.out with ⟨h1, h0, _⟩ | ⟨g', cap', h1, hg', hcap', _, ho⟩
            · exact Or.inl ⟨h0, none, 0, h1⟩
            · refine Or.inr ⟨g', cap', _, h1, hcap', ho, tab_length _ _, fun j hj => ⟨rb' (j + 1), 1, cb' (j + 1) - 1, tab_get hj, by have := HCB.out (j + 1) (by omega); omega, ?_⟩⟩
              have := (hM.hr (j + 1) (by omega)).2.rd.drop 1
              rw [tab_drop1, Nat.zero_add] at this
              exact this
          have HDA := Lib.hid hda; clear hda hM
          go_wp2_with fail
          refine (det_any i (fun a b => lapE (betF ls) (valF ls) (a + 1) (b + 1)) _ wr (by omega) HDA.out (fun a b ha hb => ?_)).mono ?_
          · unfold lapE
            have h1 := HGR.out.nn (a + 1) (b + 1)
            have h2 := HGR.out.le (a + 1) (b + 1)
            split
            · have h3 := HGR.out.val_nn (i := a + 1) (by omega)
              have h4 := HGR.out.vs (a + 1) (by omega)
              have h5' := sm_mono (N := i + 1) (f := betF ls (a + 1)) (g := fun j => 5 - if j = a + 1 then 5 else 0) (fun j _ => by
                by_cases q : j = a + 1
                · subst q; rw [HGR.out.dg, if_pos rfl]; omega
                · rw [if_neg q]; have := HGR.out.le (a + 1) j; omega)
              rw [sm_sub, sm_const, sm_one, if_pos (by omega)] at h5'
              omega
            · omega
          rintro e w5 ⟨rfl, hb5⟩
          go_wp2_with fail
          go_ret2
          exact RetIB.of hR.out (ball hbel hb5)

end Go.Proofs.Ytopkohkilmlpaaa
