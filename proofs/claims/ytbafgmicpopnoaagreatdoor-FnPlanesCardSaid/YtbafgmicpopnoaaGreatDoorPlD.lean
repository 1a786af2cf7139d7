/-
  The program's reading of a plane polynomial. By an AI agent.
-/
import Derived.Test.YtbafgmicpopnoaaGreatDoorPlC
import Derived.Test.YtbafgmicpopnoaaGreatDoorParts
import Derived.Test.YtbafgmicpopnoaaGreatDoorCeC
namespace Go.Proofs.YtbafgmicpopnoaaGreatDoor
open Go.RowKit

def PlnR (w : World) (l : List Tm) (b : Bool) (e : Ending) (w' : World) : Prop := ∃ ad cap, e = .returned (.tuple #[.slice ad l.length cap, .bool b]) ∧ RdT w' ad l ∧ Below w.heap.size w w'
theorem plnL_tab {l : List UInt8} {D : List ByteArray} {m : Nat} (hD : D.map (·.toList) = splitB 59 l) (hm : D.length = m + 1) :
    plnL l = tab m (fun k => tmPT (D.getD k default).toList) ∧ ((splitB 59 l).dropLast.all okPT = true ↔ ∀ k, k < m → okPT (D.getD k default).toList = true) := by
  have h1 : (splitB 59 l).dropLast = tab m (fun k => (D.getD k default).toList) := by
    rw [← hD]
    apply List.ext_getElem
    · simp [tab, hm]
    · intro i h1 h2
      have hi : i < D.length := by simp [hm] at h1; omega
      simp [tab, List.getElem_dropLast, List.getD_eq_getElem?_getD, List.getElem?_eq_getElem hi]
  unfold plnL
  rw [h1]
  constructor
  · unfold tab; rw [List.map_map]; rfl
  · unfold tab
    rw [List.all_eq_true]
    constructor
    · intro h k hk
      exact h _ (List.mem_map.2 ⟨k, List.mem_range.2 hk, rfl⟩)
    · intro h x hx
      obtain ⟨k, hk, rfl⟩ := List.mem_map.1 hx
      exact h k (List.mem_range.1 hk)
theorem plnB_a {l : List UInt8} (h : (splitB 59 l).dropLast.all okPT = false) : plnB l = false := by unfold plnB; rw [h]; rfl
theorem plnB_b {l : List UInt8} (h : (splitB 59 l).dropLast.all okPT = true) : plnB l = (decide ((splitB 59 l).getLastD [] = []) && (planeB (plnL l) && decide (plnTxt (plnL l) = l))) := by unfold plnB; rw [h]; rfl

set_option maxHeartbeats 6400000 in
set_option maxRecDepth 100000 in
theorem iParsePlane_c (l : List UInt8) (w : World) (hs : l.length ≤ 10000) (hL : LaidL w) :
    Calls Tryz.prog 22 #[.string ⟨l.toArray⟩] w (PlnR w (if plnB l = true then plnL l else []) (plnB l)) := by
  have cp := parts_c ⟨l.toArray⟩ w (by simp [ByteArray.size]; omega) hL
  rw [ByteArray.toList_mk] at cp
  have hsl := splitB_len 59 l
  have HSL := Lib.hid hsl; clear hsl
  have HNE := Lib.hid (splitB_ne 59 l)
  have HT := Lib.hid (fun (D : List ByteArray) (m : Nat) => plnL_tab (l := l) (D := D) (m := m))
  have HPA := Lib.hid (plnB_a (l := l)); have HPB := Lib.hid (plnB_b (l := l))
  obtain ⟨pb, hpb⟩ : ∃ b, plnB l = b := ⟨_, rfl⟩
  obtain ⟨R, hR⟩ : ∃ R, (if pb = true then plnL l else []) = R := ⟨_, rfl⟩
  rw [hpb] at HPA HPB
  rw [hpb, hR]
  have HRR := Lib.hid hR
  obtain ⟨la, hla⟩ : ∃ b, decide ((splitB 59 l).getLastD [] = []) = b := ⟨_, rfl⟩
  rw [hla] at cp HPB
  clear hpb hR hla
  have HL := Lib.hid hL; clear hL
  have CP := Lib.hid cp; clear cp
  go_enter Tryz.func22, Tryz.ntmps22
  go_wp2_with fail
  refine CP.out.mono ?_
  rintro e w1 ⟨D, cap, rfl, hown, hD, hDc, hcap, hb1⟩
  obtain ⟨m, hm⟩ : ∃ m, D.length = m + 1 := ⟨D.length - 1, by
    have h1 := congrArg List.length hD
    rw [List.length_map] at h1
    have : (splitB 59 l).length ≠ 0 := fun h => HNE.out (List.length_eq_zero_iff.1 h)
    omega⟩
  have hmb : m ≤ 10000 := by
    have h1 := congrArg List.length hD
    rw [List.length_map] at h1
    have := HSL.out
    omega
  obtain ⟨hpl, hall⟩ := HT.out D m hD hm
  have HALL := Lib.hid hall
  have hlen : ∀ k, k < m → (D.getD k default).toList.length ≤ 1000000 := fun k hk => by
    have h1 : (D.getD k default).toList ∈ splitB 59 l := by
      rw [← hD, List.getD_eq_getElem?_getD, List.getElem?_eq_getElem (by omega)]
      exact List.mem_map.2 ⟨_, List.getElem_mem _, rfl⟩
    have := splitB_mem_len 59 l _ h1
    omega
  have hcell : ∀ k, k < m → (strs D)[k]? = some (.string ⟨((D.getD k default).toList).toArray⟩) := fun k hk => by
    rw [bytes_back]; exact strs_get (by omega)
  obtain ⟨W, hW⟩ : ∃ W : Nat → List UInt8, (fun k => (D.getD k default).toList) = W := ⟨_, rfl⟩
  have hWk : ∀ k, (D.getD k default).toList = W k := fun k => by rw [← hW]
  simp only [hWk] at hlen hcell hpl HALL
  have HLEN := Lib.hid hlen; have HCELL := Lib.hid hcell
  obtain ⟨PT, hPT⟩ : ∃ PT : Nat → Tm, (fun k => tmPT (W k)) = PT := ⟨_, rfl⟩
  have hPTk : ∀ k, (⟨swN [58, 44] (W k) 1, swN [58, 44] (W k) 2, swN [58, 44] (W k) 0⟩ : Tm) = PT k := fun k => by rw [← hPT]; rfl
  have HPT := Lib.hid hPTk
  rw [hPT] at hpl
  have hm1 : D.length - 1 = m := by omega
  rw [hm1]
  have hbz := hb1.size
  have hgl := hown.lt
  have hrow0 : RowT (w1.alloc (.cells #[] 43)) w1.heap.size (.slice (some ⟨w1.heap.size, 0, none⟩) 0 0) [] := rowY_new w1 w1.heap.size w1.heap.size (Nat.le_refl _) rfl
  have hown2 := hown.alloc (.cells #[] 43)
  have hb2 : Below w.heap.size w (w1.alloc (.cells #[] 43)) := hb1.alloc hbz _
  have HROW := Lib.hid hrow0; have HOW := Lib.hid hown2; have HPL := Lib.hid hpl
  clear hrow0 hown2 hpl hPT hPTk hlen hcell hW hWk hown hD hall hm hm1 hDc hcap
  have hz2 : w1.heap.size ≤ (w1.alloc (.cells #[] 43)).heap.size := by simp
  go_wp2_with fail
  generalize w1.alloc (.cells #[] 43) = w2 at hb2 HROW HOW hz2 ⊢
  go_loopw [6, 19] (fun v i wr => ∃ k : Nat, k ≤ m ∧ i = .int .i64 k ∧ RowT wr w1.heap.size v (tab k PT) ∧ Own wr w.heap.size 9 (strs D) ∧ (∀ j, j < k → okPT (W j) = true) ∧ Below w.heap.size w wr ∧ w1.heap.size ≤ wr.heap.size) (fun _ i _ => m - (intOf i).toNat)
  case atStart => exact ⟨0, Nat.zero_le _, rfl, HROW.out, HOW.out, fun j hj => absurd hj (by omega), hb2, hz2⟩
  case round =>
    obtain ⟨k, hk, rfl, hrow, hown, hok, hbel, hsz⟩ := hrel
    clear hb2 hz2 HROW HOW
    have hsw := hbel.size
    have HOK := Lib.hid hok; have HO := Lib.hid hown; have HR := Lib.hid hrow; clear hok hown hrow
    by_cases hlt : k < m
    case neg =>
      obtain rfl : k = m := by omega
      have hall := HALL.out.2 HOK.out
      have hpb := HPB.out hall
      rw [HPL.out] at hpb
      have hrr : (if pb = true then tab k PT else []) = R := by rw [← HPL.out]; exact HRR.out
      obtain ⟨Q, hQ⟩ : ∃ Q, tab k PT = Q := ⟨_, rfl⟩
      have hQl : Q.length = k := by rw [← hQ, tab_length]
      have hrow := HR.out
      rw [hQ] at hpb hrr hrow
      obtain ⟨ad2, cap2, rfl, hc1, hc2⟩ := hrow.shape
      have hrd := RowT.rd hrow
      have cpo := fun w hr => isPlane_c ad2 cap2 Q w hr (by omega)
      have cpt := fun (h : planeB Q = true) w hr hL => planeText_c ad2 cap2 Q w hr (by omega) (plane_term h) hL
      have HQ := Lib.hid hrd
      generalize planeB Q = up at hpb cpo cpt
      generalize plnTxt Q = T at hpb cpt
      unfold strV at cpt
      have hneq : (T == l) = decide (T = l) := Bool.eq_iff_iff.2 (by rw [beq_iff_eq, decide_eq_true_iff])
      generalize decide (T = l) = tb at hpb hneq
      have CPO := Lib.hid cpo; have CPT := Lib.hid cpt
      have HRR2 := Lib.hid hrr
      clear cpo cpt hrr hrow hrd hall hQ HR HRR HPB HPA HT
      have HQL := Lib.hid hQl; clear hQl
      cases la
      case false =>
        obtain rfl : pb = false := hpb
        obtain rfl : R = [] := HRR2.out.symm
        go_wp2_with fail
        go_ret2
        exact ⟨none, 0, rfl, RdT.nil _ _, hbel⟩
      case true =>
        cases up
        case false =>
          obtain rfl : pb = false := hpb
          obtain rfl : R = [] := HRR2.out.symm
          clear hneq
          go_wp2_with fail
          refine (CPO.out _ HQ.out).mono ?_
          rintro e w3 ⟨rfl, hw3⟩
          have hb3 := ball hbel hw3
          go_wp2_with fail
          go_ret2
          exact ⟨none, 0, rfl, RdT.nil _ _, hb3⟩
        case true =>
          obtain rfl : pb = tb := hpb
          cases pb
          case false =>
            obtain rfl : R = [] := HRR2.out.symm
            go_wp2_with fail
            refine (CPO.out _ HQ.out).mono ?_
            rintro e w3 ⟨rfl, hw3⟩
            have hb3 := ball hbel hw3
            have HQ3 := Lib.hid (HQ.out.below hw3)
            go_wp2_with fail
            refine (CPT.out trivial _ HQ3.out (HL.out.s.below hb3)).mono ?_
            rintro e w4 ⟨rfl, hw4⟩
            have hb4 := ball hb3 hw4
            go_wp2_with fail
            go_ret2
            exact ⟨none, 0, rfl, RdT.nil _ _, hb4⟩
          case true =>
            obtain rfl : R = Q := HRR2.out.symm
            go_wp2_with fail
            refine (CPO.out _ HQ.out).mono ?_
            rintro e w3 ⟨rfl, hw3⟩
            have hb3 := ball hbel hw3
            have HQ3 := Lib.hid (HQ.out.below hw3)
            go_wp2_with fail
            refine (CPT.out trivial _ HQ3.out (HL.out.s.below hb3)).mono ?_
            rintro e w4 ⟨rfl, hw4⟩
            have hb4 := ball hb3 hw4
            have HQ4 := Lib.hid (HQ3.out.below hw4)
            go_wp2_with fail
            go_ret2
            exact ⟨ad2, cap2, rfl, HQ4.out, hb4⟩
    case pos =>
      have hcl := HO.out.cell? (HCELL.out k hlt)
      have hwl := HLEN.out k hlt
      have hbA : Below w.heap.size w (wr.alloc (.cells #[.string ⟨#[58]⟩, .string ⟨#[44]⟩] 9)) := hbel.alloc hsw _
      have cs := split2_c 58 44 (W k) wr.heap.size (wr.alloc (.cells #[.string ⟨#[58]⟩, .string ⟨#[44]⟩] 9)) hwl (Own.newA wr _ _ rfl) (HL.out.below hbA)
      have hokk : okPT (W k) = swB [58, 44] (W k) := rfl
      have hpt := HPT.out k
      generalize swB [58, 44] (W k) = u at cs hokk
      generalize swN [58, 44] (W k) 0 = n0 at cs hpt
      generalize swN [58, 44] (W k) 1 = n1 at cs hpt
      generalize swN [58, 44] (W k) 2 = n2 at cs hpt
      have CS := Lib.hid cs; have HOKK := Lib.hid hokk; have HPK := Lib.hid hpt; clear cs hokk hpt hwl
      generalize (⟨(W k).toArray⟩ : ByteArray) = WB at hcl CS
      cases u
      case false =>
        have hpf : pb = false := HPA.out (by
          cases h : (splitB 59 l).dropLast.all okPT
          · rfl
          · have := HALL.out.1 h k hlt
            rw [HOKK.out] at this
            exact absurd this (by simp))
        subst hpf
        obtain rfl : R = [] := HRR.out.symm
        go_wp2_with fail
        refine CS.out.mono ?_
        rintro e w3 ⟨⟨v, rfl, -⟩, hw3⟩
        have hb3 := ball hbA hw3
        go_wp2_with fail
        go_ret2
        exact ⟨none, 0, rfl, RdT.nil _ _, hb3⟩
      case true =>
        go_wp2_with fail
        refine CS.out.mono ?_
        rintro e w3 ⟨⟨v, rfl, hv⟩, hw3⟩
        obtain ⟨gi, capi, rfl, hgi, hint⟩ := hv trivial
        have hb3 := ball hbA hw3
        have hbr : Below wr.heap.size wr w3 := ball ((Below.refl _ _).alloc (Nat.le_refl _) _) hw3
        have HR3 := Lib.hid (HR.out.below hbr)
        have HO3 := Lib.hid (HO.out.belowAll hbr)
        have d0 := hint.cell? (i := 0) rfl
        have d1 := hint.cell? (i := 1) rfl
        have d2 := hint.cell? (i := 2) rfl
        have hgl3 := hint.lt
        have hz3 := hb3.size
        have hz4 := hbr.size
        have hgw : wr.heap.size < gi := by simp at hgi; omega
        clear hint hgi hcl hv
        obtain ⟨ad2, cap2, rfl, hc1, hc2⟩ := HR.out.shape
        have hql : (tab k PT).length = k := tab_length _ _
        obtain ⟨Q, hQ⟩ : ∃ Q, tab k PT = Q := ⟨_, rfl⟩
        have HRQ := HR3.out
        have HRO := HR.out
        rw [hQ] at hql HRQ HRO ⊢
        have HQ := Lib.hid hQ; have HQL := Lib.hid hql; have HR4 := Lib.hid HRQ; have HR0 := Lib.hid HRO
        clear hQ hql HRQ HRO HR3 HR
        have hfar : ∀ q, (Value.slice ad2 Q.length cap2).ownBlock = some q → q < wr.heap.size := fun q e => (World.ownsRow.lt HR0.out q e).2
        have hne : (Value.slice ad2 Q.length cap2).ownBlock ≠ some gi := fun e => by have := hfar gi e; omega
        have hnw : (Value.slice ad2 Q.length cap2).ownBlock ≠ some w.heap.size := fun e => by
          have := (World.ownsRow.lt HR0.out _ e).1
          have hlt1 : w.heap.size < w1.heap.size := hgl
          omega
        go_wp2_with fail
        go_region_held3 (fun w' => w'.cell? ⟨gi, 0, none⟩ = some (.int .i64 n0) ∧ w'.cell? ⟨gi, 1, none⟩ = some (.int .i64 n1) ∧ w'.cell? ⟨gi, 2, none⟩ = some (.int .i64 n2)) (first | exact ⟨by assumption, by assumption, by assumption⟩ | (with_reducible repeat' (first | apply And.intro | assumption | apply cell_alloc' | apply cell_drew')) | fail)
          (first
            | (refine step_appT (by rfl) _ _ (by rfl) w1.heap.size (.slice ad2 Q.length cap2) (.slice (some ⟨_, 0, none⟩) 1 1) Q [⟨n1, n2, n0⟩] (by rfl) (by rfl) (by (with_reducible repeat (first | exact HR4.out | apply RowT.alloc' | apply RowT.drew'))) (by (with_reducible repeat (first | exact readsY_one _ _ _ _ _ (by simp) | apply ReadsT.alloc' | apply ReadsT.drew'))) (by have := HQL.out; omega) (by simp) (by first | omega | ((try simp) <;> omega)) ?_; intro v5 w5 hown5 hb5 hg5; have m5 := (World.grownBy.cell_far hg5 ⟨gi, 0, none⟩ (Nat.lt_of_lt_of_le hgl3 (by simp)) (Ne.symm hne)).trans (bcell ((Below.refl _ _).alloc (Nat.le_refl _) _) hgl3 d0); have m6 := (World.grownBy.cell_far hg5 ⟨gi, 1, none⟩ (Nat.lt_of_lt_of_le hgl3 (by simp)) (Ne.symm hne)).trans (bcell ((Below.refl _ _).alloc (Nat.le_refl _) _) hgl3 d1); have m7 := (World.grownBy.cell_far hg5 ⟨gi, 2, none⟩ (Nat.lt_of_lt_of_le hgl3 (by simp)) (Ne.symm hne)).trans (bcell ((Below.refl _ _).alloc (Nat.le_refl _) _) hgl3 d2)))
        have HO5 := Lib.hid (show Own w5 w.heap.size 9 (strs D) from Own.grown (w := (w3.alloc (.cells #[.int .i64 n1, .int .i64 n2, .int .i64 n0] 43)).drew) (Own.alloc HO3.out (.cells #[.int .i64 n1, .int .i64 n2, .int .i64 n0] 43)) hg5 hnw)
        have hb6 : Below w.heap.size w w5 := Below.trans (hb3.alloc hz3 (.cells #[.int .i64 n1, .int .i64 n2, .int .i64 n0] 43)).drew (hb5.mono hbz)
        have hz5 : w1.heap.size ≤ w5.heap.size := by have := hg5.size; simp at this; omega
        go_wp2_with fail
        go_roundw
        case rel => exact ⟨k + 1, by omega, by go_num, by rw [tab_succ, HQ.out, ← HPK.out]; exact hown5, HO5.out, fun j hj => by
          by_cases hjk : j = k
          · subst hjk; exact HOKK.out
          · exact HOK.out j (by omega), hb6, hz5⟩
        case measure => simp [intOf]; omega
end Go.Proofs.YtbafgmicpopnoaaGreatDoor
