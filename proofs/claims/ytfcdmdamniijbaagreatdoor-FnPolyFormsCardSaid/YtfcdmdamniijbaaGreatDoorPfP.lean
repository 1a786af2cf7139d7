/-
  The text and the reading of a polynomial: the reference's. By an AI agent.
-/
import Derived.Test.YtfcdmdamniijbaaGreatDoorPfI
import Derived.Test.YtfcdmdamniijbaaGreatDoorTxC
namespace Go.Proofs.YtfcdmdamniijbaaGreatDoor
open Go.RowKit

set_option maxHeartbeats 800000 in
theorem sPolyText_c (ad : Option Addr) (cap : Nat) (p : List Int) (w : World) (hr : RdI w ad p) (hl : p.length ≤ 1048576) :
    Calls Tryz.prog 21 #[.slice ad p.length cap] w fun e w' => e = .returned (.tuple #[strV (ptO p), .bool (polyB p)]) ∧ Below w.heap.size w w' := by
  have c := poGood_c ad cap p w hr hl
  unfold ptO
  obtain ⟨u, hu⟩ : ∃ u, polyB p = u := ⟨_, rfl⟩
  rw [hu] at c ⊢
  have C := Lib.hid c; clear c
  cases u
  case false =>
    rw [if_neg (by simp)]
    unfold strV
    clear hr hu
    go_enter Tryz.func21, Tryz.ntmps21
    go_wp2_with fail
    refine C.out.mono ?_
    rintro e w1 ⟨rfl, rfl⟩
    go_wp2_with fail
    go_ret2
    exact ⟨rfl, Below.refl _ _⟩
  case true =>
    rw [if_pos rfl]
    obtain ⟨h1, h2, _⟩ := polyB_m hu
    have ct := poText_c ad cap p w hr (by omega) h2
    generalize numsTxt 44 p = T at ct ⊢
    unfold strV at ct ⊢
    have CT := Lib.hid ct
    clear ct hr hu h1 h2
    go_enter Tryz.func21, Tryz.ntmps21
    go_wp2_with fail
    refine C.out.mono ?_
    rintro e w1 ⟨rfl, rfl⟩
    go_wp2_with fail
    refine CT.out.mono ?_
    rintro e w2 ⟨rfl, hw2⟩
    go_wp2_with fail
    go_ret2
    exact ⟨rfl, hw2⟩

theorem pp_tab {l : List UInt8} {D : List ByteArray} (hD : D.map (·.toList) = splitB 44 l) :
    valN 44 l = tab D.length (fun k => (nuParseR (D.getD k default).toList).1) ∧ (okN 44 l = true ↔ ∀ k, k < D.length → (nuParseR (D.getD k default).toList).2 = true) := by
  have h1 : splitB (44 : UInt8).toNat l = tab D.length (fun k => (D.getD k default).toList) := by
    rw [show (44 : UInt8).toNat = 44 from rfl, ← hD]
    apply List.ext_getElem
    · simp [tab]
    · intro i h1 h2
      have hi : i < D.length := by simpa using h1
      simp [tab, List.getD_eq_getElem?_getD, List.getElem?_eq_getElem hi]
  unfold valN okN
  rw [h1]
  constructor
  · rw [tab_map]
    exact tab_congr fun i _ => by rw [parse_wide, ← parse_same]
  · unfold tab
    rw [List.all_eq_true]
    constructor
    · intro h k hk
      have := h _ (List.mem_map.2 ⟨k, List.mem_range.2 hk, rfl⟩)
      rwa [parse_wide, ← parse_same] at this
    · intro h x hx
      obtain ⟨k, hk, rfl⟩ := List.mem_map.1 hx
      rw [parse_wide, ← parse_same]
      exact h k (List.mem_range.1 hk)
theorem valN_len (l : List UInt8) : (valN 44 l).length = (splitB 44 l).length := by
  unfold valN
  rw [List.length_map]
  rfl
theorem pp_wide {l : List UInt8} (h : ¬ (splitB 44 l).length ≤ 13) : ppB l = false := by
  unfold ppB
  cases okN 44 l
  · rfl
  · rw [Bool.true_and]
    cases hp : polyB (valN 44 l)
    · rfl
    · have := (polyB_m hp).1
      rw [valN_len] at this
      omega
theorem pp_not {l : List UInt8} (h : okN 44 l = false) : ppB l = false := by unfold ppB; rw [h]; rfl
theorem pp_yes {l : List UInt8} (h : okN 44 l = true) : ppB l = polyB (valN 44 l) := by unfold ppB; rw [h]; rfl

set_option maxHeartbeats 6400000 in
set_option maxRecDepth 100000 in
theorem sParsePoly_c (l : List UInt8) (w : World) (hs : l.length ≤ 10000) :
    Calls Tryz.prog 24 #[.string ⟨l.toArray⟩] w (IntsO w (ppB l) (if ppB l = true then valN 44 l else [])) := by
  obtain ⟨i0, hi0, hz0, hz1, hz2⟩ := info_parts Tryz.infoI
  have cp := splitB_c 44 ⟨l.toArray⟩ w (by simp [ByteArray.size]; omega)
  rw [ByteArray.toList_mk] at cp
  have HNE := Lib.hid (splitB_ne 44 l)
  have HT := Lib.hid (fun (D : List ByteArray) => pp_tab (l := l) (D := D))
  have HP0 := Lib.hid (pp_wide (l := l)); have HPA := Lib.hid (pp_not (l := l)); have HPB := Lib.hid (pp_yes (l := l))
  obtain ⟨pb, hpb⟩ : ∃ b, ppB l = b := ⟨_, rfl⟩
  obtain ⟨R, hR⟩ : ∃ R, (if pb = true then valN 44 l else []) = R := ⟨_, rfl⟩
  rw [hpb] at HP0 HPA HPB
  rw [hpb, hR]
  have HRR := Lib.hid hR
  have HSM := Lib.hid (splitB_mem_len 44 l)
  clear hpb hR
  have CP := Lib.hid cp; clear cp
  go_enter Tryz.func24, Tryz.ntmps24
  go_wp2_with fail
  refine CP.out.mono ?_
  rintro e w1 ⟨⟨v1, D, rfl, hrow, hD, hDl⟩, hb1⟩
  have hDs : (splitB 44 l).length = D.length := by rw [← hD, List.length_map]
  have hm0 : 0 < D.length := by
    have : (splitB 44 l).length ≠ 0 := fun h => HNE.out (List.length_eq_zero_iff.1 h)
    omega
  obtain ⟨g, cap, rfl, hg, hcap, hown⟩ : ∃ g cap, v1 = .slice (some ⟨g, 0, none⟩) D.length cap ∧ w.heap.size ≤ g ∧ D.length ≤ cap ∧ Own w1 g 9 (strs D) := by
    rcases Own.of_row hrow with ⟨_, h, _⟩ | ⟨g, cap, h, hg, hc, _, ho⟩
    · omega
    · exact ⟨g, cap, h, hg, hc, ho⟩
  have hmb : D.length ≤ 10001 := by simp [ByteArray.size] at hDl; omega
  obtain ⟨hpl, hall⟩ := HT.out D hD
  have HALL := Lib.hid hall
  have HLEN := Lib.hid (show ∀ k, k < D.length → (D.getD k default).size ≤ 10000 from fun k hk => by
    have h1 : (D.getD k default).toList ∈ splitB 44 l := by
      rw [← hD, List.getD_eq_getElem?_getD, List.getElem?_eq_getElem (by omega)]
      exact List.mem_map.2 ⟨_, List.getElem_mem _, rfl⟩
    have := HSM.out _ h1
    rw [len_str] at this
    omega)
  obtain ⟨m, hm⟩ : ∃ m, D.length = m := ⟨_, rfl⟩
  have HCELL := Lib.hid (show ∀ k, k < m → (strs D)[k]? = some (.string (D.getD k default)) from fun k hk => strs_get (by omega))
  rw [hm] at hpl HALL HLEN hmb hm0 ⊢
  have HOW := Lib.hid hown; have HPL := Lib.hid hpl
  have HDS := Lib.hid (hDs.trans hm)
  have hgl := hown.lt
  clear hpl hown hrow hDl hDs hD hall hcap hm
  obtain ⟨W, hW⟩ : ∃ W : Nat → ByteArray, (fun k => D.getD k default) = W := ⟨_, rfl⟩
  have hWk : ∀ k, D.getD k default = W k := fun k => by rw [← hW]
  simp only [hWk] at HLEN HCELL HPL HALL
  obtain ⟨PT, hPT⟩ : ∃ PT : Nat → Int, (fun k => (nuParseR (W k).toList).1) = PT := ⟨_, rfl⟩
  have HPT := Lib.hid (show ∀ k, (nuParseR (W k).toList).1 = PT k from fun k => by rw [← hPT])
  rw [hPT] at HPL
  clear hPT hW hWk
  by_cases h13 : m ≤ 13
  case neg =>
    have hpf : pb = false := HP0.out (by have := HDS.out; omega)
    subst hpf
    obtain rfl : R = [] := HRR.out.symm
    have g1 : decide ((13 : Int) < (m : Int)) = true := decide_eq_true (by omega)
    go_wp2_with fail
    go_ret2
    exact ⟨none, 0, rfl, RdI.nil _ _, hb1⟩
  case pos =>
    have g1 : decide ((13 : Int) < (m : Int)) = false := decide_eq_false (by omega)
    go_wp2_with fail
    clear g1
    go_loopw [5, 17] (fun v i wr => ∃ k : Nat, k ≤ m ∧ i = .int .i64 k ∧ RowI wr w1.heap.size v (tab k PT) ∧ (∀ j, j < k → (nuParseR (W j).toList).2 = true) ∧ Below w1.heap.size w1 wr) (fun _ i _ => m - (intOf i).toNat)
    case atStart => exact ⟨0, Nat.zero_le _, rfl, RowI.nil _ _, fun j hj => absurd hj (by omega), Below.refl _ _⟩
    case round =>
      obtain ⟨wE, rfl⟩ : ∃ u : World, u = wr := ⟨_, rfl⟩
      obtain ⟨k, hk, rfl, hrow, hok, hbel⟩ := hrel
      have hsz := hbel.size
      have hb1r : Below w.heap.size w wE := ball hb1 hbel
      have HOK := Lib.hid hok; clear hok
      by_cases hlt : k < m
      case neg =>
        obtain rfl : k = m := by omega
        have hpb := HPB.out (HALL.out.2 HOK.out)
        rw [HPL.out] at hpb
        have hrr : (if pb = true then tab k PT else []) = R := by rw [← HPL.out]; exact HRR.out
        obtain ⟨Q, hQ⟩ : ∃ Q, tab k PT = Q := ⟨_, rfl⟩
        have hQl : Q.length = k := by rw [← hQ, tab_length]
        rw [hQ] at hpb hrr hrow
        obtain ⟨ad2, cap2, rfl, hrd⟩ := hrow.shape
        have CPO := Lib.hid (show Calls Tryz.prog 30 #[.slice ad2 Q.length cap2] wE fun e w' => e = .returned (.bool pb) ∧ wE = w' by
          rw [hpb]; exact poGood_c ad2 cap2 Q wE hrd (by omega))
        have HQ := Lib.hid hrd
        have HRR2 := Lib.hid hrr
        have HQL := Lib.hid hQl
        rw [hQl] at CPO ⊢
        clear hpb hrr hrow hrd hQ HPB HPA HT HP0 hQl
        cases pb
        case false =>
          obtain rfl : R = [] := HRR2.out.symm
          go_wp2_with fail
          refine CPO.out.mono ?_
          rintro e w3 ⟨rfl, rfl⟩
          go_wp2_with fail
          go_ret2
          exact ⟨none, 0, rfl, RdI.nil _ _, hb1r⟩
        case true =>
          obtain rfl : Q = R := HRR2.out
          go_wp2_with fail
          refine CPO.out.mono ?_
          rintro e w3 ⟨rfl, rfl⟩
          go_wp2_with fail
          go_ret2
          exact ⟨ad2, cap2, by rw [HQL.out]; rfl, HQ.out, hb1r⟩
      case pos =>
        have hown2 := HOW.out.belowAll hbel
        have hcl := hown2.cell? (HCELL.out k hlt)
        have cn := fun w => nuParse_c (W k) w (by have := HLEN.out k hlt; omega)
        have hp1 := HPT.out k
        have HPA2 := Lib.hid (show (nuParseR (W k).toList).2 = false → pb = false from fun hf => HPA.out (by
          cases h : okN 44 l
          · rfl
          · have := HALL.out.1 h k hlt
            rw [hf] at this
            exact absurd this (by simp)))
        have HO2 := Lib.hid (show (nuParseR (W k).toList).2 = true → ∀ j, j < k + 1 → (nuParseR (W j).toList).2 = true from fun h j hj => by
          rcases Nat.lt_or_ge j k with h1 | h1
          · exact HOK.out j h1
          · obtain rfl : j = k := by omega
            exact h)
        unfold pairQ at cn
        rw [hp1] at cn
        generalize (nuParseR (W k).toList).2 = q at cn HPA2 HO2
        have hst := tab_one k PT
        generalize PT k = z at cn hst
        generalize W k = WB at cn hcl
        have HST := Lib.hid hst; have CN := Lib.hid cn
        have htl := tab_length k PT
        generalize tab k PT = L at hrow HST htl
        have x1 : (0 : Int) ≤ (k : Int) := by omega
        have x2 : (k : Int) < (m : Int) := by omega
        have hL : L.length ≤ 1048576 := by omega
        have HRW := Lib.hid hrow
        clear hst cn hown2 hp1 hrow htl HOK
        cases q
        case false =>
          obtain rfl := HPA2.out rfl
          obtain rfl : R = [] := HRR.out.symm
          go_wp2_with fail
          refine (CN.out _).mono ?_
          rintro e w3 ⟨rfl, hw3⟩
          have hb3 := ball hb1r hw3
          go_wp2_with fail
          go_ret2
          exact ⟨none, 0, rfl, RdI.nil _ _, hb3⟩
        case true =>
          go_wp2_with fail
          refine (CN.out _).mono ?_
          rintro e w3 ⟨rfl, hw3⟩
          have hs3 := hw3.size
          have hrow3 := Lib.hid (HRW.out.below hw3)
          have hb3 : Below w1.heap.size w1 w3 := ball hbel hw3
          go_wp2_with (at_builtin; refine wpList_append_lies _ rfl _ _ _ rfl w1.heap.size 3 i0 _ 1 8 Tryz.underlying24 hi0 hz0 hz1 hz2 rfl (by omega) _ L.length (ints L) rfl (hrow3.out.alloc _) ⟨w3.heap.size, 0, none⟩ 1 1 [.int .i64 z] rfl rfl (World.news_of_block (cs := #[.int .i64 z]) (t := 3) (fr := (0, 0)) (heap_alloc_new _ _)) (by simp [Value.oneCell']) (by omega) (by unfold maxLen; omega) (by omega) (by simp; omega) (w3.heap.size + 1) (by simp) ?_; intro gg gcap w2 hown1 hgrow hat hlt2)
          go_roundw
          case rel =>
            refine ⟨k + 1, by omega, by go_num, ?_, HO2.out (by first | rfl | trivial), app_below hb3 (by omega) hrow3.out hgrow⟩
            rw [HST.out]
            exact row_congr hown1 (by simp) (by simp [ints])
          case measure => simp [intOf]; omega
end Go.Proofs.YtfcdmdamniijbaaGreatDoor
