/-
  The reference's reading of a plane polynomial. By an AI agent.
-/
import Derived.Test.YtbafgmicpopnoaaGreatDoorPlD
import Derived.Test.YtbafgmicpopnoaaGreatDoorTxP
namespace Go.Proofs.YtbafgmicpopnoaaGreatDoor
open Go.RowKit

theorem plnSL_tab {l : List UInt8} {D : List ByteArray} {m : Nat} (hD : D.map (·.toList) = splitB 59 l) (hm : D.length = m + 1) :
    plnSL l = tab m (fun k => tmST (D.getD k default).toList) ∧ ((splitB 59 l).dropLast.all okST = true ↔ ∀ k, k < m → okST (D.getD k default).toList = true) := by
  have h1 : (splitB 59 l).dropLast = tab m (fun k => (D.getD k default).toList) := by
    rw [← hD]
    apply List.ext_getElem
    · simp [tab, hm]
    · intro i h1 h2
      have hi : i < D.length := by simp [hm] at h1; omega
      simp [tab, List.getElem_dropLast, List.getD_eq_getElem?_getD, List.getElem?_eq_getElem hi]
  unfold plnSL
  rw [h1]
  constructor
  · unfold tab; rw [List.map_map]; rfl
  · unfold tab
    rw [List.all_eq_true]
    constructor
    · intro h k hk
      exact h _ (List.mem_map.2 ⟨k, List.mem_range.2 hk, rfl⟩)
    · intro h x hx
      obtain ⟨k, hk, rfl⟩ := List.mem_map.1 hx
      exact h k (List.mem_range.1 hk)
theorem plnSB_0 {l : List UInt8} (h : ¬ (splitB 59 l).length ≤ 13) : plnSB l = false := by unfold plnSB; rw [decide_eq_false h]; rfl
theorem plnSB_a {l : List UInt8} (h : (splitB 59 l).dropLast.all okST = false) : plnSB l = false := by unfold plnSB; rw [h, Bool.false_and, Bool.and_false]
theorem plnSB_b {l : List UInt8} (h0 : (splitB 59 l).length ≤ 13) (h : (splitB 59 l).dropLast.all okST = true) : plnSB l = (planeB (plnSL l) && decide (plnTxt (plnSL l) = l)) := by unfold plnSB; rw [h, decide_eq_true h0]; rfl

set_option maxHeartbeats 6400000 in
set_option maxRecDepth 100000 in
theorem plParse_c (l : List UInt8) (w : World) (hs : l.length ≤ 10000) :
    Calls Tryz.prog 51 #[.string ⟨l.toArray⟩] w (PlnR w (if plnSB l = true then plnSL l else []) (plnSB l)) := by
  have cp := fun w => splitB_c 59 ⟨l.toArray⟩ w (by simp [ByteArray.size]; omega)
  rw [ByteArray.toList_mk] at cp
  have HNE := Lib.hid (splitB_ne 59 l)
  have HT := Lib.hid (fun (D : List ByteArray) (m : Nat) => plnSL_tab (l := l) (D := D) (m := m))
  have HP0 := Lib.hid (plnSB_0 (l := l)); have HPA := Lib.hid (plnSB_a (l := l)); have HPB := Lib.hid (plnSB_b (l := l))
  obtain ⟨pb, hpb⟩ : ∃ b, plnSB l = b := ⟨_, rfl⟩
  obtain ⟨R, hR⟩ : ∃ R, (if pb = true then plnSL l else []) = R := ⟨_, rfl⟩
  rw [hpb] at HP0 HPA HPB
  rw [hpb, hR]
  have HRR := Lib.hid hR
  have HSM := Lib.hid (splitB_mem_len 59 l)
  clear hpb hR
  have CP := Lib.hid cp; clear cp
  go_enter Tryz.func51, Tryz.ntmps51
  go_wp2_with fail
  refine (CP.out _).mono ?_
  rintro e w1 ⟨⟨v1, D, rfl, hrow, hD, hDl⟩, hb1⟩
  have hDs : (splitB 59 l).length = D.length := by rw [← hD, List.length_map]
  obtain ⟨m, hm⟩ : ∃ m, D.length = m + 1 := ⟨D.length - 1, by
    have : (splitB 59 l).length ≠ 0 := fun h => HNE.out (List.length_eq_zero_iff.1 h)
    omega⟩
  obtain ⟨g, cap, rfl, hg, hcap, hown⟩ : ∃ g cap, v1 = .slice (some ⟨g, 0, none⟩) D.length cap ∧ w.heap.size ≤ g ∧ D.length ≤ cap ∧ Own w1 g 9 (strs D) := by
    rcases Own.of_row hrow with ⟨_, h, _⟩ | ⟨g, cap, h, hg, hc, _, ho⟩
    · omega
    · exact ⟨g, cap, h, hg, hc, ho⟩
  have hmb : m ≤ 10001 := by have := hDl; simp [ByteArray.size] at this; omega
  obtain ⟨hpl, hall⟩ := HT.out D m hD hm
  have HALL := Lib.hid hall
  have hlen : ∀ k, k < m → (D.getD k default).size ≤ 10000 := fun k hk => by
    have h1 : (D.getD k default).toList ∈ splitB 59 l := by
      rw [← hD, List.getD_eq_getElem?_getD, List.getElem?_eq_getElem (by omega)]
      exact List.mem_map.2 ⟨_, List.getElem_mem _, rfl⟩
    have := HSM.out _ h1
    rw [len_str] at this
    omega
  have hcell : ∀ k, k < m → (strs D)[k]? = some (.string (D.getD k default)) := fun k hk => strs_get (by omega)
  obtain ⟨W, hW⟩ : ∃ W : Nat → ByteArray, (fun k => D.getD k default) = W := ⟨_, rfl⟩
  have hWk : ∀ k, D.getD k default = W k := fun k => by rw [← hW]
  simp only [hWk] at hlen hcell hpl HALL
  have HLEN := Lib.hid hlen; have HCELL := Lib.hid hcell
  obtain ⟨PT, hPT⟩ : ∃ PT : Nat → Tm, (fun k => tmST (W k).toList) = PT := ⟨_, rfl⟩
  have hPTk : ∀ k, tmST (W k).toList = PT k := fun k => by rw [← hPT]
  have HPT := Lib.hid hPTk
  rw [hPT] at hpl
  have hbz := hb1.size
  have hgl := hown.lt
  have HOW := Lib.hid hown; have HPL := Lib.hid hpl; have HDS := Lib.hid hDs
  have hcm : m + 1 ≤ cap := by omega
  rw [hm]
  have hDm := Lib.hid hm
  clear hpl hPT hPTk hlen hcell hW hWk hown hD hall hrow hDl hm hcap hDs
  have HROW := Lib.hid (RowT.nil w1 w1.heap.size)
  by_cases h13 : m + 1 ≤ 13
  case neg =>
    have hpf : pb = false := HP0.out (by have := HDS.out; have := hDm.out; omega)
    subst hpf
    obtain rfl : R = [] := HRR.out.symm
    have g1 : decide ((13 : Int) < ((m + 1 : Nat) : Int)) = true := decide_eq_true (by omega)
    have g2 : decide ((13 : Int) < (m : Int) + 1) = true := decide_eq_true (by omega)
    go_wp2_with fail
    go_ret2
    exact ⟨none, 0, rfl, RdT.nil _ _, hb1⟩
  case pos =>
    have g1 : decide ((13 : Int) < ((m + 1 : Nat) : Int)) = false := decide_eq_false (by omega)
    have g2 : decide ((13 : Int) < (m : Int) + 1) = false := decide_eq_false (by omega)
    have n1 : (((m + 1 : Nat) : Int)) - 1 = (m : Int) := by omega
    have n2 : ((m : Int) + 1) - 1 = (m : Int) := by omega
    have p1 : IntKind.i64.wrap (m : Int) = (m : Int) := i64_small (by omega) (by omega)
    have p2 : m ≤ m + 1 := by omega
    have p3 : m ≤ cap := by omega
    go_wp2_with fail
    clear g1 g2 n1 n2 p1 p2 p3
    go_loopw [5, 23] (fun v i wr => ∃ k : Nat, k ≤ m ∧ i = .int .i64 k ∧ RowT wr w1.heap.size v (tab k PT) ∧ Own wr g 9 (strs D) ∧ (∀ j, j < k → okST (W j).toList = true) ∧ Below w1.heap.size w1 wr) (fun _ i _ => m - (intOf i).toNat)
    case atStart => exact ⟨0, Nat.zero_le _, rfl, HROW.out, HOW.out, fun j hj => absurd hj (by omega), Below.refl _ _⟩
    case round =>
      obtain ⟨k, hk, rfl, hrow, hown, hok, hbel⟩ := hrel
      clear HROW HOW
      have hsw := hbel.size
      have hb1r : Below w.heap.size w wr := ball hb1 hbel
      have HOK := Lib.hid hok; have HO := Lib.hid hown; have HR := Lib.hid hrow; clear hok hown hrow
      by_cases hlt : k < m
      case neg =>
        obtain rfl : k = m := by omega
        have hall := HALL.out.2 HOK.out
        have hpb := HPB.out (by have := HDS.out; have := hDm.out; omega) hall
        rw [HPL.out] at hpb
        have hrr : (if pb = true then tab k PT else []) = R := by rw [← HPL.out]; exact HRR.out
        obtain ⟨Q, hQ⟩ : ∃ Q, tab k PT = Q := ⟨_, rfl⟩
        have hQl : Q.length = k := by rw [← hQ, tab_length]
        have hrow := HR.out
        rw [hQ] at hpb hrr hrow
        obtain ⟨ad2, cap2, rfl, hc1, hc2⟩ := hrow.shape
        have hrd := RowT.rd hrow
        have cpo := fun w hr => plGood_c ad2 cap2 Q w hr (by omega)
        have cpt := fun (h : planeB Q = true) w hr => plText_c ad2 cap2 Q w hr (by omega) (plane_term h)
        have HQ := Lib.hid hrd
        generalize planeB Q = up at hpb cpo cpt
        generalize plnTxt Q = T at hpb cpt
        unfold strV at cpt
        have hneq : (T == l) = decide (T = l) := Bool.eq_iff_iff.2 (by rw [beq_iff_eq, decide_eq_true_iff])
        generalize decide (T = l) = tb at hpb hneq
        have CPO := Lib.hid cpo; have CPT := Lib.hid cpt
        have HRR2 := Lib.hid hrr
        clear cpo cpt hrr hrow hrd hall hQ HR HRR HPB HPA HT HP0
        have HQL := Lib.hid hQl; clear hQl
        cases up
        case false =>
          obtain rfl : pb = false := hpb
          obtain rfl : R = [] := HRR2.out.symm
          clear hneq
          go_wp2_with fail
          refine (CPO.out _ HQ.out).mono ?_
          rintro e w3 ⟨rfl, hw3⟩
          have hb3 := ball hb1r hw3
          go_wp2_with fail
          go_ret2
          exact ⟨none, 0, rfl, RdT.nil _ _, hb3⟩
        case true =>
          obtain rfl : pb = tb := hpb
          cases pb
          case false =>
            obtain rfl : R = [] := HRR2.out.symm
            go_wp2_with fail
            refine (CPO.out _ HQ.out).mono ?_
            rintro e w3 ⟨rfl, hw3⟩
            have hb3 := ball hb1r hw3
            have HQ3 := Lib.hid (HQ.out.below hw3)
            go_wp2_with fail
            refine (CPT.out trivial _ HQ3.out).mono ?_
            rintro e w4 ⟨rfl, hw4⟩
            have hb4 := ball hb3 hw4
            go_wp2_with fail
            go_ret2
            exact ⟨none, 0, rfl, RdT.nil _ _, hb4⟩
          case true =>
            obtain rfl : R = Q := HRR2.out.symm
            go_wp2_with fail
            refine (CPO.out _ HQ.out).mono ?_
            rintro e w3 ⟨rfl, hw3⟩
            have hb3 := ball hb1r hw3
            have HQ3 := Lib.hid (HQ.out.below hw3)
            go_wp2_with fail
            refine (CPT.out trivial _ HQ3.out).mono ?_
            rintro e w4 ⟨rfl, hw4⟩
            have hb4 := ball hb3 hw4
            have HQ4 := Lib.hid (HQ3.out.below hw4)
            go_wp2_with fail
            go_ret2
            exact ⟨ad2, cap2, rfl, HQ4.out, hb4⟩
      case pos =>
        have hcl := HO.out.cell? (HCELL.out k hlt)
        have hwl := HLEN.out k hlt
        have cs := fun w => splitB_c 58 (W k) w (by omega)
        have hokk : okST (W k).toList = (decide ((splitB 58 (W k).toList).length = 2) && (decide ((splitB 44 ((splitB 58 (W k).toList).getD 1 [])).length = 2) && (nuParseR ((splitB 58 (W k).toList).getD 0 [])).2)) := rfl
        have hpt := HPT.out k
        unfold tmST rstS at hpt
        have hne2 := splitB_ne 58 (W k).toList
        have hml := splitB_mem_len 58 (W k).toList
        rw [len_str] at hml
        generalize splitB 58 (W k).toList = S2 at cs hokk hpt hne2 hml
        have CS := Lib.hid cs; have HOKK := Lib.hid hokk; have HPK := Lib.hid hpt; have HNE2 := Lib.hid hne2; have HML := Lib.hid hml; clear cs hokk hpt hne2 hml
        have HPA2 := Lib.hid (show okST (W k).toList = false → pb = false from fun hf => HPA.out (by
          cases h : (splitB 59 l).dropLast.all okST
          · rfl
          · have := HALL.out.1 h k hlt
            rw [hf] at this
            exact absurd this (by simp)))
        obtain ⟨WB, hWB⟩ : ∃ WB, W k = WB := ⟨_, rfl⟩
        rw [hWB] at hcl CS HOKK hwl HML HPA2
        have HWB := Lib.hid hWB; clear hWB
        go_wp2_with fail
        refine (CS.out _).mono ?_
        rintro e w3 ⟨⟨v2, D2, rfl, hrow2, hD2, hDl2⟩, hw3⟩
        have hb3 := ball hb1r hw3
        have hS2 : S2.length = D2.length := by rw [← hD2, List.length_map]
        obtain ⟨g2, cap2', rfl, hg2, hown2⟩ : ∃ g cap, v2 = .slice (some ⟨g, 0, none⟩) D2.length cap ∧ wr.heap.size ≤ g ∧ Own w3 g 9 (strs D2) := by
          rcases Own.of_row hrow2 with ⟨_, h, _⟩ | ⟨g, cap, h, hg, hc, _, ho⟩
          · exact absurd (List.length_eq_zero_iff.1 (hS2.trans h)) HNE2.out
          · exact ⟨g, cap, h, hg, ho⟩
        clear hrow2 hDl2
        by_cases h2 : D2.length = 2
        case neg =>
          have hf : okST WB.toList = false := by rw [HOKK.out, hS2, decide_eq_false h2]; rfl
          have hpf := HPA2.out hf
          subst hpf
          obtain rfl : R = [] := HRR.out.symm
          have hn2 : ((D2.length : Int) == 2) = false := beq_eq_false_iff_ne.2 (by omega)
          clear h2 hS2 hD2
          go_wp2_with fail
          go_ret2
          exact ⟨none, 0, rfl, RdT.nil _ _, hb3⟩
        case pos =>
          obtain ⟨A, B, rfl⟩ : ∃ A B, D2 = [A, B] := by
            match D2, h2 with
            | [A, B], _ => exact ⟨A, B, rfl⟩
          have d0 : w3.cell? ⟨g2, 0, none⟩ = some (.string A) := hown2.cell? (i := 0) rfl
          have d1 : w3.cell? ⟨g2, 1, none⟩ = some (.string B) := hown2.cell? (i := 1) rfl
          have hgl2 := hown2.lt
          have hSS : S2 = [A.toList, B.toList] := hD2.symm
          have hpk := HPK.out
          have hokk := HOKK.out
          have hla := HML.out A.toList (by rw [hSS]; simp)
          have hlb := HML.out B.toList (by rw [hSS]; simp)
          rw [len_str] at hla hlb
          rw [hSS] at hpk hokk
          simp only [List.getD_cons_zero, List.getD_cons_succ, List.length_cons, List.length_nil, Nat.zero_add, decide_true, Bool.true_and] at hpk hokk
          have ct := fun w => splitB_c 44 B w (by omega)
          have cn := fun w => nuParse_c A w (by omega)
          have hne3 := splitB_ne 44 B.toList
          have hml3 := splitB_mem_len 44 B.toList
          rw [len_str] at hml3
          generalize splitB 44 B.toList = S3 at ct hokk hpk hne3 hml3
          unfold pairQ at cn
          generalize (nuParseR A.toList).1 = nc at cn hpk
          generalize (nuParseR A.toList).2 = kc at cn hokk
          have CT := Lib.hid ct; have CN := Lib.hid cn; have HOK3 := Lib.hid hokk; have HPK3 := Lib.hid hpk; have HNE3 := Lib.hid hne3; have HML3 := Lib.hid hml3
          clear ct cn hpk hokk hne3 hml3 hSS hD2 hS2 h2 HPK HML HNE2 HOKK CS hown2 hla
          go_wp2_with fail
          refine (CT.out _).mono ?_
          rintro e w4 ⟨⟨v3, D3, rfl, hrow3, hD3, hDl3⟩, hw4⟩
          have hb4 := ball hb3 hw4
          have hS3 : S3.length = D3.length := by rw [← hD3, List.length_map]
          obtain ⟨g3, cap3', rfl, hg3, hown3⟩ : ∃ g cap, v3 = .slice (some ⟨g, 0, none⟩) D3.length cap ∧ w3.heap.size ≤ g ∧ Own w4 g 9 (strs D3) := by
            rcases Own.of_row hrow3 with ⟨_, h, _⟩ | ⟨g, cap, h, hg, hc, _, ho⟩
            · exact absurd (List.length_eq_zero_iff.1 (hS3.trans h)) HNE3.out
            · exact ⟨g, cap, h, hg, ho⟩
          have e0 := bcell hw4 hgl2 d0
          have e1 := bcell hw4 hgl2 d1
          clear hrow3 hDl3 d0 d1
          go_wp2_with fail
          refine (CN.out _).mono ?_
          rintro e w5 ⟨rfl, hw5⟩
          have hb5 := ball hb4 hw5
          have hown5 := hown3.belowAll hw5
          clear e0 e1 CN CT hown3
          by_cases h3 : D3.length = 2
          case neg =>
            have hf : okST WB.toList = false := by rw [HOK3.out, hS3, decide_eq_false h3]; rfl
            have hpf := HPA2.out hf
            subst hpf
            obtain rfl : R = [] := HRR.out.symm
            have hn3 : ((D3.length : Int) != 2) = true := bne_iff_ne.2 (by omega)
            have hn4 : ¬ ((D3.length : Int) = 2) := by omega
            clear h3 hS3 hD3
            go_wp2_with fail
            go_ret2
            exact ⟨none, 0, rfl, RdT.nil _ _, hb5⟩
          case pos =>
            cases kc
            case false =>
              have hf : okST WB.toList = false := by rw [HOK3.out, Bool.and_false]
              have hpf := HPA2.out hf
              subst hpf
              obtain rfl : R = [] := HRR.out.symm
              rw [h3]
              clear h3 hS3 hD3
              go_wp2_with fail
              go_ret2
              exact ⟨none, 0, rfl, RdT.nil _ _, hb5⟩
            case true =>
              have hkk := Lib.hid (show okST WB.toList = true by rw [HOK3.out, hS3, decide_eq_true h3]; rfl)
              obtain ⟨E, F, rfl⟩ : ∃ E F, D3 = [E, F] := by
                match D3, h3 with
                | [E, F], _ => exact ⟨E, F, rfl⟩
              have f0 : w5.cell? ⟨g3, 0, none⟩ = some (.string E) := hown5.cell? (i := 0) rfl
              have f1 : w5.cell? ⟨g3, 1, none⟩ = some (.string F) := hown5.cell? (i := 1) rfl
              have hgl3 := hown5.lt
              have hSS : S3 = [E.toList, F.toList] := hD3.symm
              have hpk := HPK3.out
              have hle := HML3.out E.toList (by rw [hSS]; simp)
              have hlf := HML3.out F.toList (by rw [hSS]; simp)
              rw [len_str] at hle hlf
              rw [hSS] at hpk
              simp only [List.getD_cons_zero, List.getD_cons_succ] at hpk
              have pa := fun w => l1Read_c E w (by omega)
              have pbb := fun w => l1Read_c F w (by omega)
              generalize l1RdF E.toList = n0 at pa hpk
              generalize l1RdF F.toList = n1 at pbb hpk
              have PA := Lib.hid pa; have PB := Lib.hid pbb; have HPK2 := Lib.hid hpk
              clear pa pbb hpk hSS hle hlf hD3 hS3 h3 HPK3 HML3 HNE3 HOK3 hown5 hlb
              have hbr : Below wr.heap.size wr w5 := ball (ball hw3 hw4) hw5
              have hz5 := hb5.size
              have hz6 := hbr.size
              have HR3 := Lib.hid (HR.out.below hbr)
              have HO3 := Lib.hid (HO.out.belowAll hbr)
              have hg3r : wr.heap.size ≤ g3 := Nat.le_trans hw3.size hg3
              obtain ⟨ad2, cap2, rfl, hc1, hc2⟩ := HR.out.shape
              have hql : (tab k PT).length = k := tab_length _ _
              obtain ⟨Q, hQ⟩ : ∃ Q, tab k PT = Q := ⟨_, rfl⟩
              have HRQ := HR3.out
              have HRO := HR.out
              rw [hQ] at hql HRQ HRO ⊢
              have HQ := Lib.hid hQ; have HQL := Lib.hid hql; have HR4 := Lib.hid HRQ; have HR0 := Lib.hid HRO
              clear hQ hql HRQ HRO HR3 HR
              have hfar : ∀ q, (Value.slice ad2 Q.length cap2).ownBlock = some q → q < wr.heap.size := fun q e => (World.ownsRow.lt HR0.out q e).2
              have hne : (Value.slice ad2 Q.length cap2).ownBlock ≠ some g3 := fun e => by have := hfar g3 e; omega
              have hnw : (Value.slice ad2 Q.length cap2).ownBlock ≠ some g := fun e => by
                have := (World.ownsRow.lt HR0.out _ e).1
                have hlt1 : g < w1.heap.size := hgl
                omega
              go_wp2_with fail
              go_region_held3 (fun w' => w'.cell? ⟨g3, 0, none⟩ = some (.string E) ∧ w'.cell? ⟨g3, 1, none⟩ = some (.string F)) (first | exact ⟨by assumption, by assumption⟩ | (with_reducible repeat' (first | apply And.intro | assumption | apply cell_alloc' | apply cell_drew')) | fail)
                (first
                  | (go_at_call 79; (with_reducible refine (PA.out _).mono ?_); rintro e W1 ⟨rfl, rfl⟩)
                  | (go_at_call 79; (with_reducible refine (PB.out _).mono ?_); rintro e W1 ⟨rfl, rfl⟩)
                  | (refine step_appT (by rfl) _ _ (by rfl) w1.heap.size (.slice ad2 Q.length cap2) (.slice (some ⟨_, 0, none⟩) 1 1) Q [⟨n0, n1, nc⟩] (by rfl) (by rfl) (by (with_reducible repeat (first | exact HR4.out | apply RowT.alloc' | apply RowT.drew'))) (by (with_reducible repeat (first | exact readsY_one _ _ _ _ _ (by simp) | apply ReadsT.alloc' | apply ReadsT.drew'))) (by have := HQL.out; omega) (by simp) (by first | omega | ((try simp) <;> omega)) ?_; intro v5 w6 hownA hbA hgA; have m5 := (World.grownBy.cell_far hgA ⟨g3, 0, none⟩ (Nat.lt_of_lt_of_le hgl3 (by simp)) (Ne.symm hne)).trans (bcell ((Below.refl _ _).alloc (Nat.le_refl _) _) hgl3 f0); have m6 := (World.grownBy.cell_far hgA ⟨g3, 1, none⟩ (Nat.lt_of_lt_of_le hgl3 (by simp)) (Ne.symm hne)).trans (bcell ((Below.refl _ _).alloc (Nat.le_refl _) _) hgl3 f1)))
              have HO5 := Lib.hid (show Own w6 g 9 (strs D) from Own.grown (w := (w5.alloc (.cells #[.int .i64 n0, .int .i64 n1, .int .i64 nc] 43)).drew) (Own.alloc HO3.out (.cells #[.int .i64 n0, .int .i64 n1, .int .i64 nc] 43)) hgA hnw)
              have hb7 : Below w1.heap.size w1 w6 := Below.trans ((hbel.trans (hbr.mono hsw)).alloc (Nat.le_trans hsw hz6) (.cells #[.int .i64 n0, .int .i64 n1, .int .i64 nc] 43)).drew hbA
              go_wp2_with fail
              go_roundw
              case rel => exact ⟨k + 1, by omega, by go_num, by rw [tab_succ, HQ.out, ← HPK2.out]; exact hownA, HO5.out, fun j hj => by
                by_cases hjk : j = k
                · subst hjk; rw [HWB.out]; exact hkk.out
                · exact HOK.out j (by omega), hb7⟩
              case measure => simp [intOf]; omega

set_option maxHeartbeats 400000 in
theorem sParsePlane_c (l : List UInt8) (w : World) (hs : l.length ≤ 10000) :
    Calls Tryz.prog 23 #[.string ⟨l.toArray⟩] w (PlnR w (if plnB l = true then plnL l else []) (plnB l)) := by
  have c := plParse_c l w hs
  obtain ⟨h1, h2⟩ := pln_eq l
  rw [h1] at c
  have e : (if plnB l = true then plnSL l else []) = (if plnB l = true then plnL l else []) := by
    split
    · rename_i h3; rw [h2 h3]
    · rfl
  rw [e] at c
  generalize (if plnB l = true then plnL l else []) = X at c ⊢
  generalize plnB l = u at c ⊢
  have C := Lib.hid c; clear c h1 h2 e
  go_enter Tryz.func23, Tryz.ntmps23
  go_wp2_with fail
  refine C.out.mono ?_
  rintro e w1 ⟨ad, cap, rfl, hr, hb⟩
  have HR := Lib.hid hr; clear hr
  go_wp2_with fail
  go_ret2
  exact ⟨ad, cap, rfl, HR.out, hb⟩
end Go.Proofs.YtbafgmicpopnoaaGreatDoor
