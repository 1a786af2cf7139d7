/-
  Some texts of this proof in one: PeH PeI. Each part tells what it proves. By an AI agent.
-/
import Derived.Test.YtfgdhlnmndgjbaaGreatDoorPeF
import Derived.Test.YtfgdhlnmndgjbaaGreatDoorPfD
import Derived.Test.YtfgdhlnmndgjbaaGreatDoorTxC

/-
  Matrices read from texts: the program's. By an AI agent.
-/
namespace Go.Proofs.YtfgdhlnmndgjbaaGreatDoor
open Go.RowKit

def pmL (l : List UInt8) : List (List Int) := (splitB 59 l).dropLast.map (valN 32)
def pmA (l : List UInt8) : Bool := (splitB 59 l).dropLast.all (okN 32)
def pmB (l : List UInt8) : Bool := pmA l && (decide ((splitB 59 l).getLastD [] = []) && matB (pmL l))
theorem pm_tab {l : List UInt8} {D : List ByteArray} {m : Nat} (hD : D.map (·.toList) = splitB 59 l) (hm : D.length = m + 1) :
    pmL l = tab m (fun k => valN 32 (D.getD k default).toList) ∧ (pmA l = true ↔ ∀ k, k < m → okN 32 (D.getD k default).toList = true) := by
  have h1 : (splitB 59 l).dropLast = tab m (fun k => (D.getD k default).toList) := by
    rw [← hD]
    apply List.ext_getElem
    · simp [tab, hm]
    · intro i h1 h2
      have hi : i < D.length := by simp [hm] at h1; omega
      simp [tab, List.getElem_dropLast, List.getD_eq_getElem?_getD, List.getElem?_eq_getElem hi]
  unfold pmL pmA
  rw [h1]
  constructor
  · unfold tab; rw [List.map_map]; rfl
  · unfold tab
    rw [List.all_eq_true]
    constructor
    · intro h k hk
      exact h _ (List.mem_map.2 ⟨k, List.mem_range.2 hk, rfl⟩)
    · intro h x hx
      obtain ⟨k, hk, rfl⟩ := List.mem_map.1 hx
      exact h k (List.mem_range.1 hk)
theorem pm_a {l : List UInt8} (h : pmA l = false) : pmB l = false := by unfold pmB; rw [h]; rfl
theorem pm_b {l : List UInt8} (h : pmA l = true) : pmB l = (decide ((splitB 59 l).getLastD [] = []) && matB (pmL l)) := by unfold pmB; rw [h]; rfl
theorem valN_lenB (c : UInt8) (l : List UInt8) : (valN c l).length ≤ l.length + 1 := by
  unfold valN
  rw [List.length_map]
  exact splitB_lenC _ l

set_option maxHeartbeats 6400000 in
set_option maxRecDepth 100000 in
theorem iParseMatrix_c (l : List UInt8) (w : World) (hs : l.length ≤ 990) (hL : LaidL w) :
    Calls Tryz.prog 15 #[.string ⟨l.toArray⟩] w (MtxO (pmB l) (pmL l) w) := by
  have cp := parts_c ⟨l.toArray⟩ w (by simp [ByteArray.size]; omega) hL
  rw [ByteArray.toList_mk] at cp
  have HSL := Lib.hid (splitB_len 59 l)
  have HNE := Lib.hid (splitB_ne 59 l)
  have HT := Lib.hid (fun (D : List ByteArray) (m : Nat) => pm_tab (l := l) (D := D) (m := m))
  have HPA := Lib.hid (pm_a (l := l)); have HPB := Lib.hid (pm_b (l := l))
  obtain ⟨pb, hpb⟩ : ∃ b, pmB l = b := ⟨_, rfl⟩
  rw [hpb] at HPA HPB
  rw [hpb]
  obtain ⟨la, hla⟩ : ∃ b, decide ((splitB 59 l).getLastD [] = []) = b := ⟨_, rfl⟩
  rw [hla] at cp HPB
  obtain ⟨L, hLL⟩ : ∃ L, pmL l = L := ⟨_, rfl⟩
  rw [hLL] at HT HPB
  rw [hLL]
  have HSM := Lib.hid (splitB_mem_len 59 l)
  clear hpb hla hLL
  have HL := Lib.hid hL; clear hL
  have CP := Lib.hid cp; clear cp
  go_enter Tryz.func15, Tryz.ntmps15
  go_wp2_with fail
  refine CP.out.mono ?_
  rintro e w1 ⟨D, cap, rfl, hown, hD, hDc, hcap, hb1⟩
  obtain ⟨m, hm⟩ : ∃ m, D.length = m + 1 := ⟨D.length - 1, by
    have h1 := congrArg List.length hD
    rw [List.length_map] at h1
    have : (splitB 59 l).length ≠ 0 := fun h => HNE.out (List.length_eq_zero_iff.1 h)
    omega⟩
  have hmb : m ≤ 990 := by
    have h1 := congrArg List.length hD
    rw [List.length_map] at h1
    have := HSL.out
    omega
  obtain ⟨hpl, hall⟩ := HT.out D m hD hm
  have HALL := Lib.hid hall
  have hlen : ∀ k, k < m → (D.getD k default).toList.length ≤ 990 := fun k hk => by
    have h1 : (D.getD k default).toList ∈ splitB 59 l := by
      rw [← hD, List.getD_eq_getElem?_getD, List.getElem?_eq_getElem (by omega)]
      exact List.mem_map.2 ⟨_, List.getElem_mem _, rfl⟩
    have := HSM.out _ h1
    omega
  have hcell : ∀ k, k < m → (strs D)[k]? = some (.string ⟨((D.getD k default).toList).toArray⟩) := fun k hk => by
    rw [bytes_back]; exact strs_get (by omega)
  obtain ⟨W, hW⟩ : ∃ W : Nat → List UInt8, (fun k => (D.getD k default).toList) = W := ⟨_, rfl⟩
  have hWk : ∀ k, (D.getD k default).toList = W k := fun k => by rw [← hW]
  simp only [hWk] at hlen hcell hpl HALL
  have HLEN := Lib.hid hlen; have HCELL := Lib.hid hcell
  have hm1 : D.length - 1 = m := by omega
  rw [hm1]
  have hbz := hb1.size
  have hgl := hown.lt
  have HM0 := Lib.hid (MatO.empty w1 w1.heap.size w1.heap.size (Nat.le_refl _) rfl)
  have hown2 := hown.alloc (.cells #[] 38)
  have hb2 : Below w1.heap.size w1 (w1.alloc (.cells #[] 38)) := bal_alloc (Below.refl _ _)
  have HOW := Lib.hid hown; have HPL := Lib.hid hpl
  have HPT := Lib.hid (show L.length = m by rw [hpl]; exact tab_length _ _)
  have HLR := Lib.hid (show ∀ i, i < L.length → (L.getD i []).length ≤ 1000 from fun i hi => by
    rw [hpl] at hi ⊢
    rw [tab_length] at hi
    rw [tab_getD hi]
    have := valN_lenB 32 (W i)
    have := hlen i hi
    omega)
  have HB1 := Lib.hid hb1
  clear hown2 hpl hlen hcell hW hWk hown hD hall hm hm1 hDc hcap hb1 HT HSL HNE HSM
  go_wp2_with fail
  go_loopw [6, 19] (fun v i wr => ∃ (k : Nat) (vs : List Value), k ≤ m ∧ i = .int .i64 k ∧ MatO wr w1.heap.size v (tab k fun j => valN 32 (W j)) vs ∧ (∀ j, j < k → okN 32 (W j) = true) ∧ Below w1.heap.size w1 wr) (fun _ i _ => m - (intOf i).toNat)
  case atStart => exact ⟨0, [], Nat.zero_le _, rfl, HM0.out, fun j hj => absurd hj (by omega), hb2⟩
  case round =>
    obtain ⟨wE, rfl⟩ : ∃ u : World, u = wr := ⟨_, rfl⟩
    obtain ⟨k, vs, hk, rfl, hmat, hok, hbel⟩ := hrel
    clear hb2 HM0
    obtain ⟨adm, cam, rfl, _⟩ := hmat.shape
    rw [tab_length] at hmat ⊢
    have hsz := hbel.size
    have HOK := Lib.hid hok; have HM := Lib.hid hmat; clear hok hmat
    by_cases hlt : k < m
    case neg =>
      obtain rfl : k = m := by omega
      have hpb := HPB.out (HALL.out.2 HOK.out)
      have hmm := HM.out
      rw [← HPL.out] at hmm
      have CT := Lib.hid (show Calls Tryz.prog 40 #[.slice adm k cam] wE (MtxO (matB L) L wE) from by
        have := toldMatrix_c adm cam L wE hmm.rd ⟨by rw [HPT.out]; omega, fun i hi => by have := HLR.out i hi; omega⟩
        rwa [HPT.out] at this)
      clear hmm HM HOK HALL HPA HPB
      have hb9 := ball HB1.out hbel
      cases la
      case false =>
        rw [Bool.false_and] at hpb
        subst hpb
        go_wp2_with fail
        exact bodyPost_ret (v := .tuple #[.slice none 0 0, .bool false]) (by simp [results, Tryz.results15, go_sem]) rfl (MtxO.no hb9)
      case true =>
        rw [Bool.true_and] at hpb
        rw [← hpb] at CT
        obtain ⟨Z, hZ⟩ : ∃ Z, (if pb = true then L else []) = Z := ⟨_, rfl⟩
        unfold MtxO at CT ⊢
        rw [hZ] at CT
        have HZ := Lib.hid hZ
        clear hZ hpb
        go_wp2_with fail
        refine CT.out.mono ?_
        rintro e w5 ⟨a5, c5, rfl, h1, h2⟩
        have H1 := Lib.hid h1
        have hb10 := ball hb9 h2
        clear h1 h2
        go_wp2_with fail
        exact bodyPost_ret (v := .tuple #[.slice a5 Z.length c5, .bool pb]) (by simp [results, Tryz.results15, go_sem]) rfl ⟨a5, c5, by rw [HZ.out], by rw [HZ.out]; exact H1.out, hb10⟩
    case pos =>
      have hown := HOW.out.belowAll hbel
      have hcl := hown.cell? (HCELL.out k hlt)
      have hwl := HLEN.out k hlt
      have cn := parseNumbers_c (W k) 32 wE (by omega) (HL.out.below (ball HB1.out hbel))
      have HPA2 := Lib.hid (show okN 32 (W k) = false → pb = false from fun hf => HPA.out (by
        cases h : pmA l
        · rfl
        · have := HALL.out.1 h k hlt
          rw [hf] at this
          exact absurd this (by simp)))
      have HO2 := Lib.hid (show okN 32 (W k) = true → ∀ j, j < k + 1 → okN 32 (W j) = true from fun h j hj => by
        rcases Nat.lt_or_ge j k with h1 | h1
        · exact HOK.out j h1
        · obtain rfl : j = k := by omega
          exact h)
      have hsn := tab_succ k (fun j => valN 32 (W j))
      have hvl := valN_lenB 32 (W k)
      generalize okN 32 (W k) = q at cn HPA2 HO2
      generalize valN 32 (W k) = Z at cn hsn hvl
      generalize (⟨(W k).toArray⟩ : ByteArray) = WB at cn hcl
      have htl := tab_length k (fun j => valN 32 (W j))
      generalize (tab k fun j => valN 32 (W j)) = G at HM hsn htl
      have HSN := Lib.hid hsn; have HTL := Lib.hid htl; have CN := Lib.hid cn
      have x1 : (0 : Int) ≤ (k : Int) := by omega
      have x2 : (k : Int) < (m : Int) := by omega
      clear hown hsn htl cn
      cases q
      case false =>
        obtain rfl := HPA2.out rfl
        go_wp2_with fail
        refine CN.out.mono ?_
        rintro e w3 ⟨v3, rfl, _, hw3⟩
        have hb3 := ball HB1.out (ball hbel hw3)
        go_wp2_with fail
        exact bodyPost_ret (v := .tuple #[.slice none 0 0, .bool false]) (by simp [results, Tryz.results15, go_sem]) rfl (MtxO.no hb3)
      case true =>
        go_wp2_with fail
        refine CN.out.mono ?_
        rintro e w3 ⟨v3, rfl, hrow, hb2⟩
        rw [if_pos rfl] at hrow
        obtain ⟨a3, c3, rfl, _⟩ := hrow.shape
        have HX2 := Lib.hid (HM.out.below hb2)
        have HCX := Lib.hid (CellO.of_row (hrow.low (B' := w1.heap.size) hsz))
        have HB := Lib.hid (RowI.blk hrow)
        have HLOW := Lib.hid HM.out.low
        have hsz2 := hb2.size
        have HO3 := Lib.hid (HO2.out (by first | rfl | trivial))
        clear hrow
        obtain ⟨zl, hzl⟩ : ∃ zl, Z.length = zl := ⟨_, rfl⟩
        rw [hzl] at HCX HB ⊢
        clear hzl hvl
        go_wp2_with (at_builtin; refine wpList_appM rfl _ _ rfl w1.heap.size wE.heap.size w3.heap.size _ (.slice a3 zl c3) G vs Z (k + 1) (by rw [HTL.out]) rfl rfl (by simp [go_sem]) (HX2.out.below ((Below.refl _ _).alloc (Nat.le_refl _) _)) (HCX.out.below ((Below.refl _ _).alloc (Nat.le_refl _) _)) HB.out HLOW.out (by rw [HTL.out]; omega) (by simp; omega) ?_; intro ad5 cap5 wm hmat5 hbm)
        have hb3 := ((hbel.trans (hb2.mono hsz)).alloc (by omega) (.cells #[.slice a3 zl c3] 38)).trans hbm
        rw [← HSN.out] at hmat5
        have HM5 := Lib.hid hmat5; clear hmat5 hbm
        go_wp2_with fail
        go_roundw
        case rel => exact ⟨k + 1, _, by omega, by go_num, HM5.out, HO3.out, hb3⟩
        case measure => simp [intOf]; omega
end Go.Proofs.YtfgdhlnmndgjbaaGreatDoor

/-
  Matrices read from texts: the reference's. By an AI agent.
-/
namespace Go.Proofs.YtfgdhlnmndgjbaaGreatDoor
open Go.RowKit

/-! ### Plain -/
theorem join_split (c : UInt8) : ∀ l : List UInt8, Lib.join (splitB c.toNat l) [c] = l
  | [] => by simp [splitB, Lib.join_one]
  | x :: l => by
    have ih := join_split c l
    have hne := splitB_ne c.toNat l
    unfold splitB
    cases hs : splitB c.toNat l with
    | nil => exact absurd hs hne
    | cons p ps =>
      rw [hs] at ih
      rw [Lib.join_cons] at ih
      split
      · rename_i h
        have hx : x = c := UInt8.toNat_inj.1 h
        subst hx
        rw [Lib.join_cons, List.nil_append, Lib.joinTail]
        simp only [List.map_cons, List.flatten_cons, List.cons_append, List.nil_append]
        rw [← ih]
        rfl
      · rw [Lib.join_cons, List.cons_append, ih]
theorem flat_split (c : UInt8) : ∀ S : List (List UInt8), S ≠ [] → S.dropLast.flatMap (fun w => w ++ [c]) ++ S.getLastD [] = Lib.join S [c]
  | [], h => absurd rfl h
  | [p], _ => by simp [Lib.join_one]
  | p :: q :: S, _ => by
    have ih := flat_split c (q :: S) (by simp)
    rw [List.dropLast_cons_cons, List.flatMap_cons, List.append_assoc, List.getLastD_cons]
    have e : (q :: S).getLastD p = (q :: S).getLastD [] := by rw [List.getLastD_cons, List.getLastD_cons]
    rw [e, ih, Lib.join_cons, Lib.join_cons]
    unfold Lib.joinTail
    simp
theorem parse_txt {l : List UInt8} (h : (parseW l).2 = true) : numTxt (parseW l).1 = l := by
  rw [parse_wide] at h ⊢
  unfold parseR at h ⊢
  split
  · rename_i e
    rw [e]
    rfl
  · rename_i e
    rw [if_neg e] at h
    cases ha : Lib.atoi l with
    | none => rw [ha] at h; exact absurd h (by simp)
    | some n =>
      rw [ha] at h
      simp only at h ⊢
      split at h
      · rename_i hc
        rw [if_pos hc]
        rw [Bool.and_eq_true, decide_eq_true_eq] at hc
        have hb := inB_t.1 (show inB n (-1000000) 1000000 = true from hc.1)
        show numTxt n = l
        unfold numTxt
        rw [if_neg (by omega)]
        exact hc.2
      · exact absurd h (by simp)
theorem nums_back {c : UInt8} {l : List UInt8} (h : okN c l = true) : numsTxt c (valN c l) = l := by
  unfold okN at h
  rw [List.all_eq_true] at h
  unfold numsTxt valN
  rw [List.map_map, show (splitB c.toNat l).map (numTxt ∘ fun l => (parseW l).1) = splitB c.toNat l from ?_]
  · exact join_split c l
  · conv => rhs; rw [← List.map_id (splitB c.toNat l)]
    exact List.map_congr_left fun w hw => parse_txt (h w hw)
theorem pm_text {l : List UInt8} (h : pmA l = true) : decide ((splitB 59 l).getLastD [] = []) = decide (mtxT (pmL l) = l) := by
  have h1 : mtxT (pmL l) = (splitB 59 l).dropLast.flatMap (fun w => w ++ [59]) := by
    unfold mtxT pmL
    rw [List.flatMap_map]
    unfold pmA at h
    rw [List.all_eq_true] at h
    rw [List.flatMap_def, List.flatMap_def]
    congr 1
    exact List.map_congr_left fun w hw => by rw [nums_back (h w hw)]
  have h2 := flat_split 59 (splitB 59 l) (splitB_ne 59 l)
  have h3 := join_split 59 l
  rw [show (59 : UInt8).toNat = 59 from rfl] at h3
  rw [h3, ← h1] at h2
  refine decide_eq_decide.2 ⟨fun e => ?_, fun e => ?_⟩
  · rw [e, List.append_nil] at h2; exact h2
  · rw [e] at h2
    exact List.append_right_eq_self.1 h2
theorem pm_many {l : List UInt8} (h : ¬ (splitB 59 l).length ≤ 7) : pmB l = false := by
  cases hb : pmB l
  · rfl
  · unfold pmB at hb
    simp only [Bool.and_eq_true] at hb
    have := (mat_facts hb.2.2).1
    unfold pmL at this
    rw [List.length_map, List.length_dropLast] at this
    omega
theorem pm_r {l : List UInt8} (h : pmA l = true) : pmB l = (matB (pmL l) && decide (mtxT (pmL l) = l)) := by
  rw [pm_b h, pm_text h, Bool.and_comm]
theorem pp_tabM {l : List UInt8} {D : List ByteArray} (hD : D.map (·.toList) = splitB 32 l) :
    valN 32 l = tab D.length (fun k => (nuParseR (D.getD k default).toList).1) ∧ (okN 32 l = true ↔ ∀ k, k < D.length → (nuParseR (D.getD k default).toList).2 = true) := by
  have h1 : splitB (32 : UInt8).toNat l = tab D.length (fun k => (D.getD k default).toList) := by
    rw [show (32 : UInt8).toNat = 32 from rfl, ← hD]
    apply List.ext_getElem
    · simp [tab]
    · intro i h1 h2
      have hi : i < D.length := by simpa using h1
      simp [tab, List.getD_eq_getElem?_getD, List.getElem?_eq_getElem hi]
  unfold valN okN
  rw [h1]
  constructor
  · rw [tab_map]
    exact tab_congr fun i _ => by rw [parse_wide, ← parse_same]
  · unfold tab
    rw [List.all_eq_true]
    constructor
    · intro h k hk
      have := h _ (List.mem_map.2 ⟨k, List.mem_range.2 hk, rfl⟩)
      rwa [parse_wide, ← parse_same] at this
    · intro h x hx
      obtain ⟨k, hk, rfl⟩ := List.mem_map.1 hx
      rw [parse_wide, ← parse_same]
      exact h k (List.mem_range.1 hk)

set_option maxHeartbeats 6400000 in
set_option maxRecDepth 100000 in
theorem sParseMatrix_c (l : List UInt8) (w : World) (hs : l.length ≤ 990) :
    Calls Tryz.prog 23 #[.string ⟨l.toArray⟩] w (MtxO (pmB l) (pmL l) w) := by
  obtain ⟨i0, hi0, hz0, hz1, hz2⟩ := info_parts Tryz.infoI
  have cp := splitB_c 59 ⟨l.toArray⟩ w (by simp [ByteArray.size]; omega)
  rw [ByteArray.toList_mk] at cp
  have HNE := Lib.hid (splitB_ne 59 l)
  have HT := Lib.hid (fun (D : List ByteArray) (m : Nat) => pm_tab (l := l) (D := D) (m := m))
  have HP0 := Lib.hid (pm_many (l := l)); have HPA := Lib.hid (pm_a (l := l)); have HPB := Lib.hid (pm_r (l := l))
  have HMR := Lib.hid (fun h : matB (pmL l) = true => mat_rows h)
  obtain ⟨pb, hpb⟩ : ∃ b, pmB l = b := ⟨_, rfl⟩
  rw [hpb] at HP0 HPA HPB
  rw [hpb]
  obtain ⟨L, hLL⟩ : ∃ L, pmL l = L := ⟨_, rfl⟩
  rw [hLL] at HT HPB HMR
  rw [hLL]
  have HSM := Lib.hid (splitB_mem_len 59 l)
  clear hpb hLL
  have CP := Lib.hid cp; clear cp
  go_enter Tryz.func23, Tryz.ntmps23
  go_wp2_with fail
  refine CP.out.mono ?_
  rintro e w1 ⟨⟨v1, D, rfl, hrow, hD, hDl⟩, hb1⟩
  have hDs : (splitB 59 l).length = D.length := by rw [← hD, List.length_map]
  obtain ⟨m, hm⟩ : ∃ m, D.length = m + 1 := ⟨D.length - 1, by
    have : (splitB 59 l).length ≠ 0 := fun h => HNE.out (List.length_eq_zero_iff.1 h)
    omega⟩
  obtain ⟨g, cap, rfl, hg, hcap, hown⟩ : ∃ g cap, v1 = .slice (some ⟨g, 0, none⟩) D.length cap ∧ w.heap.size ≤ g ∧ D.length ≤ cap ∧ Own w1 g 9 (strs D) := by
    rcases Own.of_row hrow with ⟨_, h, _⟩ | ⟨g, cap, h, hg, hc, _, ho⟩
    · omega
    · exact ⟨g, cap, h, hg, hc, ho⟩
  have hmb : m ≤ 991 := by simp [ByteArray.size] at hDl; omega
  obtain ⟨hpl, hall⟩ := HT.out D m hD hm
  have HALL := Lib.hid hall
  have hlen : ∀ k, k < m → (D.getD k default).size ≤ 990 := fun k hk => by
    have h1 : (D.getD k default).toList ∈ splitB 59 l := by
      rw [← hD, List.getD_eq_getElem?_getD, List.getElem?_eq_getElem (by omega)]
      exact List.mem_map.2 ⟨_, List.getElem_mem _, rfl⟩
    have := HSM.out _ h1
    rw [len_str] at this
    omega
  have hcell : ∀ k, k < m → (strs D)[k]? = some (.string (D.getD k default)) := fun k hk => strs_get (by omega)
  obtain ⟨W, hW⟩ : ∃ W : Nat → ByteArray, (fun k => D.getD k default) = W := ⟨_, rfl⟩
  have hWk : ∀ k, D.getD k default = W k := fun k => by rw [← hW]
  simp only [hWk] at hlen hcell hpl HALL
  have HLEN := Lib.hid hlen; have HCELL := Lib.hid hcell
  have hbz := hb1.size
  have hgl := hown.lt
  have HOW := Lib.hid hown; have HPL := Lib.hid hpl
  have HPT := Lib.hid (show L.length = m by rw [hpl]; exact tab_length _ _)
  have HLR := Lib.hid (show ∀ i, i < L.length → (L.getD i []).length ≤ 1048576 from fun i hi => by
    rw [hpl] at hi ⊢
    rw [tab_length] at hi
    rw [tab_getD hi]
    have h1 := valN_lenB 32 (W i).toList
    rw [len_str] at h1
    have := hlen i hi
    omega)
  have HB1 := Lib.hid hb1
  have HDS := Lib.hid (show (splitB 59 l).length = m + 1 by rw [hDs, hm])
  have hcm : m + 1 ≤ cap := by omega
  rw [hm]
  clear hpl hlen hcell hW hWk hown hD hall hDs hDl hcap hb1 HT HNE HSM hrow hm
  by_cases h7 : m + 1 ≤ 7
  case neg =>
    have hpf : pb = false := HP0.out (by have := HDS.out; omega)
    subst hpf
    have g1 : decide ((7 : Int) < ((m + 1 : Nat) : Int)) = true := decide_eq_true (by omega)
    have g2 : decide ((7 : Int) < (m : Int) + 1) = true := decide_eq_true (by omega)
    go_wp2_with fail
    exact bodyPost_ret (v := .tuple #[.slice none 0 0, .bool false]) (by simp [results, Tryz.results23, go_sem]) rfl (MtxO.no HB1.out)
  case pos =>
    have g1 : decide ((7 : Int) < ((m + 1 : Nat) : Int)) = false := decide_eq_false (by omega)
    have g2 : decide ((7 : Int) < (m : Int) + 1) = false := decide_eq_false (by omega)
    have n1 : (((m + 1 : Nat) : Int)) - 1 = (m : Int) := by omega
    have n2 : ((m : Int) + 1) - 1 = (m : Int) := by omega
    have p1 : IntKind.i64.wrap (m : Int) = (m : Int) := i64_small (by omega) (by omega)
    have p2 : m ≤ m + 1 := by omega
    have p3 : m ≤ cap := by omega
    go_wp2_with fail
    clear g1 g2 n1 n2 p1 p2 p3
    go_loopw [5, 24] (fun v i wr => ∃ (k : Nat) (vs : List Value), k ≤ m ∧ i = .int .i64 k ∧ MatO wr w1.heap.size v (tab k fun j => valN 32 (W j).toList) vs ∧ (∀ j, j < k → okN 32 (W j).toList = true) ∧ Below w1.heap.size w1 wr) (fun _ i _ => m - (intOf i).toNat)
    case atStart => exact ⟨0, [], Nat.zero_le _, rfl, MatO.nil _ _, fun j hj => absurd hj (by omega), Below.refl _ _⟩
    case round =>
      obtain ⟨wE, rfl⟩ : ∃ u : World, u = wr := ⟨_, rfl⟩
      obtain ⟨k, vs, hk, rfl, hmat, hok, hbel⟩ := hrel
      obtain ⟨adm, cam, rfl, _⟩ := hmat.shape
      rw [tab_length] at hmat ⊢
      have hsz := hbel.size
      have HOK := Lib.hid hok; have HM := Lib.hid hmat; clear hok hmat
      by_cases hlt : k < m
      case neg =>
        obtain rfl : k = m := by omega
        have hpb := HPB.out (HALL.out.2 HOK.out)
        have hmm := HM.out
        rw [← HPL.out] at hmm
        have hrd := hmm.rd
        have cg := (show Calls Tryz.prog 35 #[.slice adm k cam] wE fun e w' => e = .returned (.bool (matB L)) ∧ wE = w' from by
          have := mxGood_c adm cam L wE hrd (by rw [HPT.out]; omega) HLR.out
          rwa [HPT.out] at this)
        have ct := (fun (h : matB L = true) => show Calls Tryz.prog 36 #[.slice adm k cam] wE fun e w' => e = .returned (strV (mtxT L)) ∧ Below wE.heap.size wE w' from by
          have := mxText_c adm cam L wE hrd (by rw [HPT.out]; omega) (fun r hr => ⟨(HMR.out h r hr).1.2, (HMR.out h r hr).2⟩)
          rwa [HPT.out] at this)
        have HRD := Lib.hid hrd
        generalize matB L = up at hpb cg ct
        generalize mtxT L = T at hpb ct
        have hneq : (T == l) = decide (T = l) := Bool.eq_iff_iff.2 (by rw [beq_iff_eq, decide_eq_true_iff])
        generalize decide (T = l) = tb at hpb hneq
        unfold strV at ct
        have CG := Lib.hid cg; have CT := Lib.hid ct
        have hb9 := ball HB1.out hbel
        clear hmm hrd cg ct HM HOK HALL HPA HPB HMR
        cases up
        case false =>
          obtain rfl : pb = false := hpb
          clear hneq
          go_wp2_with fail
          refine CG.out.mono ?_
          rintro e w3 ⟨rfl, rfl⟩
          go_wp2_with fail
          exact bodyPost_ret (v := .tuple #[.slice none 0 0, .bool false]) (by simp [results, Tryz.results23, go_sem]) rfl (MtxO.no hb9)
        case true =>
          obtain rfl : pb = tb := hpb
          cases pb
          case false =>
            go_wp2_with fail
            refine CG.out.mono ?_
            rintro e w3 ⟨rfl, rfl⟩
            go_wp2_with fail
            refine (CT.out (by first | rfl | trivial)).mono ?_
            rintro e w4 ⟨rfl, hw4⟩
            have hb10 := ball hb9 hw4
            go_wp2_with fail
            exact bodyPost_ret (v := .tuple #[.slice none 0 0, .bool false]) (by simp [results, Tryz.results23, go_sem]) rfl (MtxO.no hb10)
          case true =>
            go_wp2_with fail
            refine CG.out.mono ?_
            rintro e w3 ⟨rfl, rfl⟩
            go_wp2_with fail
            refine (CT.out (by first | rfl | trivial)).mono ?_
            rintro e w4 ⟨rfl, hw4⟩
            have hb10 := ball hb9 hw4
            have HRD4 := Lib.hid (HRD.out.below hw4)
            go_wp2_with fail
            refine bodyPost_ret (v := .tuple #[.slice adm k cam, .bool true]) (by simp [results, Tryz.results23, go_sem]) rfl ?_
            have := MtxO.yes (w := w) (c := cam) HRD4.out hb10
            rw [HPT.out] at this
            exact this
      case pos =>
        have hown := HOW.out.belowAll hbel
        have hcl := hown.cell? (HCELL.out k hlt)
        have hwl := HLEN.out k hlt
        have cs := splitB_c 32 (W k) wE (by omega)
        have HPA2 := Lib.hid (show okN 32 (W k).toList = false → pb = false from fun hf => HPA.out (by
          cases h : pmA l
          · rfl
          · have := HALL.out.1 h k hlt
            rw [hf] at this
            exact absurd this (by simp)))
        have HO2 := Lib.hid (show okN 32 (W k).toList = true → ∀ j, j < k + 1 → okN 32 (W j).toList = true from fun h j hj => by
          rcases Nat.lt_or_ge j k with h1 | h1
          · exact HOK.out j h1
          · obtain rfl : j = k := by omega
            exact h)
        have hsn := tab_succ k (fun j => valN 32 (W j).toList)
        have HPP := Lib.hid (fun (D2 : List ByteArray) => pp_tabM (l := (W k).toList) (D := D2))
        have HS2 := Lib.hid (splitB_mem_len 32 (W k).toList)
        rw [len_str] at HS2
        generalize okN 32 (W k).toList = q at HPA2 HO2 HPP
        generalize valN 32 (W k).toList = Z at hsn HPP
        have htl := tab_length k (fun j => valN 32 (W j).toList)
        generalize (tab k fun j => valN 32 (W j).toList) = G at HM hsn htl
        have HSN := Lib.hid hsn; have HTL := Lib.hid htl; have CS := Lib.hid cs
        obtain ⟨WB, hWB⟩ : ∃ WB, W k = WB := ⟨_, rfl⟩
        rw [hWB] at hcl CS hwl HPP HS2
        have x1 : (0 : Int) ≤ (k : Int) := by omega
        have x2 : (k : Int) < (m : Int) := by omega
        clear hown hsn htl cs hWB
        go_wp2_with fail
        refine CS.out.mono ?_
        rintro e w3 ⟨⟨v2, D2, rfl, hrow2, hD2, hDl2⟩, hw3⟩
        obtain ⟨hz3, hok3⟩ := HPP.out D2 hD2
        have HZ3 := Lib.hid hz3; have HOK3 := Lib.hid hok3
        have hlen2 : ∀ t, t < D2.length → (D2.getD t default).size ≤ 990 := fun t ht => by
          have h1 : (D2.getD t default).toList ∈ splitB 32 WB.toList := by
            rw [← hD2, List.getD_eq_getElem?_getD, List.getElem?_eq_getElem ht]
            exact List.mem_map.2 ⟨_, List.getElem_mem _, rfl⟩
          have := HS2.out _ h1
          rw [len_str] at this
          omega
        have HLEN2 := Lib.hid hlen2
        have hdd : D2.length ≤ 1000 := by omega
        have hw3s := hw3.size
        obtain ⟨ad2, cap2, rfl, hown2⟩ : ∃ ad2 cap2, v2 = .slice ad2 D2.length cap2 ∧ (0 < D2.length → ∃ g2, ad2 = some ⟨g2, 0, none⟩ ∧ Own w3 g2 9 (strs D2)) := by
          rcases Own.of_row hrow2 with ⟨h, h0, _⟩ | ⟨g, cap, h, hg, hc, _, ho⟩
          · exact ⟨none, 0, by rw [h, h0], fun h1 => by omega⟩
          · exact ⟨_, cap, h, fun _ => ⟨g, rfl, ho⟩⟩
        have HO2W := Lib.hid hown2
        have HC2 := Lib.hid (fun t (ht : t < D2.length) => (strs_get ht : (strs D2)[t]? = _))
        obtain ⟨d, hd⟩ : ∃ d, D2.length = d := ⟨_, rfl⟩
        rw [hd] at HZ3 HOK3 HLEN2 hdd HO2W HC2 ⊢
        obtain ⟨V, hV⟩ : ∃ V : Nat → ByteArray, (fun t => D2.getD t default) = V := ⟨_, rfl⟩
        have hVk : ∀ t, D2.getD t default = V t := fun t => by rw [← hV]
        simp only [hVk] at HZ3 HOK3 HLEN2 HC2
        obtain ⟨PT, hPT⟩ : ∃ PT : Nat → Int, (fun t => (nuParseR (V t).toList).1) = PT := ⟨_, rfl⟩
        have HPTT := Lib.hid (show ∀ t, (nuParseR (V t).toList).1 = PT t from fun t => by rw [← hPT])
        rw [hPT] at HZ3
        have HM3 := Lib.hid (HM.out.below hw3)
        have HLOW := Lib.hid HM.out.low
        have HBE3 := Lib.hid (ball hbel hw3)
        clear hPT hV hVk hd hz3 hok3 hlen2 hown2 hrow2 hD2 hDl2 HPP HS2 HM hw3
        go_wp2_with fail
        go_loopw [8, 31] (fun v i wr => ∃ j : Nat, j ≤ d ∧ i = .int .i64 j ∧ RowI wr w3.heap.size v (tab j PT) ∧ (∀ t, t < j → (nuParseR (V t).toList).2 = true) ∧ Below w3.heap.size w3 wr) (fun _ i _ => d - (intOf i).toNat)
        case atStart => exact ⟨0, Nat.zero_le _, rfl, RowI.nil _ _, fun t ht => absurd ht (by omega), Below.refl _ _⟩
        case round =>
          obtain ⟨wF, rfl⟩ : ∃ u : World, u = wr := ⟨_, rfl⟩
          obtain ⟨j, hj, rfl, hrowj, hokj, hbel2⟩ := hrel
          have hsz2 := hbel2.size
          have HOKJ := Lib.hid hokj; clear hokj
          have hb4 := ball HBE3.out hbel2
          by_cases hlj : j < d
          case neg =>
            obtain rfl : j = d := by omega
            obtain rfl : q = true := HOK3.out.2 HOKJ.out
            rw [← HZ3.out] at hrowj
            obtain ⟨a3, c3, rfl, _⟩ := hrowj.shape
            have HX2 := Lib.hid (HM3.out.below hbel2)
            have HCX := Lib.hid (CellO.of_row (hrowj.low (B' := w1.heap.size) (by omega)))
            have HB := Lib.hid (show ∀ q, (Value.slice a3 Z.length c3).ownBlock = some q → wE.heap.size ≤ q from fun q hq => by have := RowI.blk hrowj q hq; omega)
            have HO3 := Lib.hid (HO2.out (by first | rfl | trivial))
            clear hrowj HO2 HPA2
            obtain ⟨zl, hzl⟩ : ∃ zl, Z.length = zl := ⟨_, rfl⟩
            rw [hzl] at HCX HB ⊢
            clear hzl
            go_wp2_with (at_builtin; refine wpList_appM rfl _ _ rfl w1.heap.size wE.heap.size wF.heap.size _ (.slice a3 zl c3) G vs Z (k + 1) (by rw [HTL.out]) rfl rfl (by simp [go_sem]) (HX2.out.below ((Below.refl _ _).alloc (Nat.le_refl _) _)) (HCX.out.below ((Below.refl _ _).alloc (Nat.le_refl _) _)) HB.out HLOW.out (by rw [HTL.out]; omega) (by simp; omega) ?_; intro ad5 cap5 wm hmat5 hbm)
            have hb5 := (hb4.alloc (by omega) (.cells #[.slice a3 zl c3] 38)).trans hbm
            rw [← HSN.out] at hmat5
            have HM5 := Lib.hid hmat5; clear hmat5 hbm
            go_wp2_with fail
            go_roundw
            case rel => exact ⟨k + 1, _, by omega, by go_num, HM5.out, HO3.out, hb5⟩
            case measure => simp [intOf]; omega
          case pos =>
            obtain ⟨g2, rfl, ho2⟩ := HO2W.out (by omega)
            have hcl2 := (ho2.belowAll hbel2).cell? (HC2.out j hlj)
            have cn := fun w => nuParse_c (V j) w (by have := HLEN2.out j hlj; omega)
            have hp1 := HPTT.out j
            have HPJ := Lib.hid (show (nuParseR (V j).toList).2 = false → q = false from fun hf => by
              cases hq : q
              · rfl
              · have := HOK3.out.1 hq j hlj
                rw [hf] at this
                exact absurd this (by simp))
            have HJ2 := Lib.hid (show (nuParseR (V j).toList).2 = true → ∀ t, t < j + 1 → (nuParseR (V t).toList).2 = true from fun h t ht => by
              rcases Nat.lt_or_ge t j with h1 | h1
              · exact HOKJ.out t h1
              · obtain rfl : t = j := by omega
                exact h)
            unfold pairQ at cn
            rw [hp1] at cn
            generalize (nuParseR (V j).toList).2 = u at cn HPJ HJ2
            have hst := tab_succ j PT
            generalize PT j = z at cn hst
            generalize V j = VB at cn hcl2
            have HST := Lib.hid hst; have CN := Lib.hid cn
            have htl := tab_length j PT
            generalize tab j PT = Q at hrowj HST htl
            have y1 : (0 : Int) ≤ (j : Int) := by omega
            have y2 : (j : Int) < (d : Int) := by omega
            have hQ : Q.length ≤ 1048576 := by omega
            have HRW := Lib.hid hrowj
            clear hst cn hp1 hrowj htl HOKJ ho2
            cases u
            case false =>
              obtain rfl := HPJ.out rfl
              obtain rfl := HPA2.out rfl
              go_wp2_with fail
              refine (CN.out _).mono ?_
              rintro e w5 ⟨rfl, hw5⟩
              have hb6 := ball HB1.out (ball hb4 hw5)
              go_wp2_with fail
              exact bodyPost_ret (v := .tuple #[.slice none 0 0, .bool false]) (by simp [results, Tryz.results23, go_sem]) rfl (MtxO.no hb6)
            case true =>
              go_wp2_with fail
              refine (CN.out _).mono ?_
              rintro e w5 ⟨rfl, hw5⟩
              have hs5 := hw5.size
              have HRW5 := Lib.hid (HRW.out.below hw5)
              have hb6 : Below w3.heap.size w3 w5 := ball hbel2 hw5
              go_wp2_with (at_builtin; refine wpList_append_lies _ rfl _ _ _ rfl w3.heap.size 3 i0 _ 1 8 Tryz.underlying38 hi0 hz0 hz1 hz2 rfl (by omega) _ Q.length (ints Q) rfl (HRW5.out.alloc _) ⟨w5.heap.size, 0, none⟩ 1 1 [.int .i64 z] rfl rfl (World.news_of_block (cs := #[.int .i64 z]) (t := 3) (fr := (0, 0)) (heap_alloc_new _ _)) (by simp [Value.oneCell']) (by omega) (by unfold maxLen; omega) (by omega) (by simp; omega) (w5.heap.size + 1) (by simp) ?_; intro gg gcap w6 hown1 hgrow hat hlt6)
              go_roundw
              case rel =>
                refine ⟨j + 1, by omega, by go_num, ?_, HJ2.out (by first | rfl | trivial), app_below hb6 (by omega) HRW5.out hgrow⟩
                rw [HST.out]
                exact row_congr hown1 (by simp) (by simp [ints])
              case measure => simp [intOf]; omega
end Go.Proofs.YtfgdhlnmndgjbaaGreatDoor
