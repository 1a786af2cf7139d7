/-
  The sum of stars: the program's. By an AI agent.
-/
import Derived.Test.YtlplodkabeiimaaStT
namespace Go.Proofs.Ytlplodkabeiimaa
open Go.RowKit
open RaySort (ltRy ltRy_iff swo_ltRy sortFunc_c Bd compareRays_g)

/-! ### nothing is sorted -/
set_option maxHeartbeats 400000 in
theorem insNil_c (w : World) : Calls Try.prog 67 #[.slice none 0 0, .int .i64 0, .int .i64 0, RaySort.cmpV] w fun e w' => e = .returned (.tuple #[]) ∧ w' = w := by
  unfold RaySort.cmpV
  go_enter Try.func67, Try.ntmps67
  go_wp2_with fail
  go_loop [8] (fun i => i = .int .i64 1) (fun _ => 0)
  case atStart => rfl
  case round =>
    subst hrel
    go_wp2_with fail
    go_end0
    exact ⟨rfl, rfl⟩
set_option maxHeartbeats 400000 in
set_option maxRecDepth 1000000 in
theorem pdqNil_c (w : World) : Calls Try.prog 57 #[.slice none 0 0, .int .i64 0, .int .i64 0, .int .i64 0, RaySort.cmpV] w fun e w' => e = .returned (.tuple #[]) ∧ w' = w := by
  have HC := Lib.hid (insNil_c w)
  unfold RaySort.cmpV at HC ⊢
  go_enter Try.func57, Try.ntmps57
  go_wp2_with fail
  go_loop [1, 2, 3, 10, 11] (fun a b c d e => a = .int .i64 0 ∧ b = .int .i64 0 ∧ c = .int .i64 0 ∧ d = .bool true ∧ e = .bool true) (fun _ _ _ _ _ => 0)
  case atStart => exact ⟨rfl, rfl, rfl, rfl, rfl⟩
  case round =>
    obtain ⟨rfl, rfl, rfl, rfl, rfl⟩ := hrel
    go_wp2_with fail
    refine HC.out.mono ?_
    rintro e w1 ⟨rfl, rfl⟩
    go_wp2_with fail
    (try simp only [Exit.inBlock, Exit.then]); refine bodyPost_ret (results_none rfl _ _ _) rfl ?_
    exact ⟨rfl, rfl⟩
set_option maxHeartbeats 400000 in
theorem sortNil_c (w : World) : Calls Try.prog 29 #[.slice none 0 0, RaySort.cmpV] w fun e w' => e = .returned (.tuple #[]) ∧ w' = w := by
  have HL : Calls Try.prog 58 #[.int .u64 0] w fun e w' => e = .returned (.int .i64 0) ∧ w' = w := bits_Len 0 w (by omega) (by omega)
  have HL := Lib.hid HL
  have HC := Lib.hid (pdqNil_c w)
  unfold RaySort.cmpV at HC ⊢
  go_enter Try.func29, Try.ntmps29
  go_wp2_with fail
  refine HL.out.mono ?_
  rintro e w1 ⟨rfl, rfl⟩
  go_wp2_with fail
  refine HC.out.mono ?_
  rintro e w1 ⟨rfl, rfl⟩
  go_wp2_with fail
  go_end0
  exact ⟨rfl, rfl⟩

/-! ### what is merged -/
theorem mg_len : ∀ (l acc : List Ry), (l.foldl mgR acc).length ≤ acc.length + l.length
  | [], acc => by simp
  | r :: l, acc => by
    have h1 := mg_len l (mgR acc r)
    have h2 : (mgR acc r).length ≤ acc.length + 1 := by
      unfold mgR
      split
      · simp
      · split <;> simp
    rw [List.foldl_cons, List.length_cons]
    omega
theorem mg_keep {P : Int → Int → Prop} : ∀ {l acc : List Ry}, (∀ r ∈ acc, P r.x r.y) → (∀ r ∈ l, P r.x r.y) → ∀ r ∈ l.foldl mgR acc, P r.x r.y
  | [], acc, ha, _ => ha
  | q :: l, acc, ha, hl => by
    rw [List.foldl_cons]
    refine mg_keep (l := l) (acc := mgR acc q) ?_ (fun r hr => hl r (List.mem_cons_of_mem _ hr))
    have hq := hl q List.mem_cons_self
    intro r hr
    unfold mgR at hr
    cases acc with
    | nil => simp at hr; subst hr; exact hq
    | cons a t =>
      simp only at hr
      split at hr
      · rcases List.mem_cons.1 hr with rfl | hr
        · exact ha a List.mem_cons_self
        · exact ha r (List.mem_cons_of_mem _ hr)
      · rcases List.mem_cons.1 hr with rfl | hr
        · exact hq
        · exact ha r hr
theorem mg_w {M : Int} (hM : 0 ≤ M) : ∀ {l acc : List Ry} {K : Int}, 0 ≤ K → (∀ r ∈ l, -M ≤ r.w ∧ r.w ≤ M) → (∀ r ∈ acc, -K ≤ r.w ∧ r.w ≤ K) → ∀ r ∈ l.foldl mgR acc, -(K + M * l.length) ≤ r.w ∧ r.w ≤ K + M * l.length
  | [], acc, K, _, _, ha => by simpa using ha
  | q :: l, acc, K, hK, hl, ha => by
    have hq := hl q List.mem_cons_self
    have h1 : ∀ r ∈ mgR acc q, -(K + M) ≤ r.w ∧ r.w ≤ K + M := by
      intro r hr
      unfold mgR at hr
      cases acc with
      | nil => simp at hr; subst hr; omega
      | cons a t =>
        have h3 := ha a List.mem_cons_self
        simp only at hr
        split at hr
        · rcases List.mem_cons.1 hr with rfl | hr
          · simp only; omega
          · have := ha r (List.mem_cons_of_mem _ hr); omega
        · rcases List.mem_cons.1 hr with rfl | hr
          · omega
          · have := ha r hr; omega
    intro r hr
    have := mg_w hM (l := l) (acc := mgR acc q) (K := K + M) (by omega) (fun r hr => hl r (List.mem_cons_of_mem _ hr)) h1 r hr
    rw [List.length_cons, Int.natCast_add, Int.mul_add]
    omega
def mrgA (s : List Ry) (j : Nat) : List Ry := (s.take j).foldl mgR []
theorem mrgA_succ {s : List Ry} {j : Nat} (h : j < s.length) : mrgA s (j + 1) = mgR (mrgA s j) (s.getD j default) := by
  unfold mrgA
  rw [takeR_snoc s j h, List.foldl_append]
  rfl
theorem mrgA_all (s : List Ry) : (mrgA s s.length).reverse = mergeR s := by
  unfold mrgA mergeR
  rw [List.take_length]
theorem rev_len (acc : List Ry) (p : Ry) : (p :: acc).reverse.length = acc.length + 1 := by simp
theorem rev_last (acc : List Ry) (p : Ry) : (p :: acc).reverse.getD acc.length default = p := by simp [List.getD_eq_getElem?_getD]
theorem rev_set (acc : List Ry) (p q : Ry) : (p :: acc).reverse.set acc.length q = (q :: acc).reverse := by
  rw [List.reverse_cons, List.set_append_right _ _ (by simp), List.reverse_cons]
  simp

/-- The sort of a row of one's own, empty or not. -/
theorem sortAny_c (B : Nat) (ar : Option Addr) (cr : Nat) (L : List Ry) (w : World) (h : RowY w B (.slice ar L.length cr) L) (hbd : ∀ p ∈ L, Bd p) (hl : L.length ≤ 1000) (hB : B ≤ w.heap.size) :
    Calls Try.prog 29 #[.slice ar L.length cr, RaySort.cmpV] w fun e w' => e = .returned (.tuple #[]) ∧ RdY w' ar (srtR L) ∧ Below B w w' := by
  by_cases h0 : 0 < L.length
  · obtain ⟨g, c, e, hg, hgl⟩ := h.own h0
    injection e with e1 _ e2
    subst e1; subst e2
    have c2 := sortFunc_c g 0 cr L.toArray w (h.ph hbd) hgl (by simp; omega)
    rw [List.size_toArray] at c2
    refine c2.mono ?_
    rintro e w' ⟨rfl, hp, hc, _⟩
    exact ⟨rfl, hp.rd, hc.below hg hB⟩
  · obtain rfl : L = [] := List.length_eq_zero_iff.1 (by omega)
    rcases h.2 with ⟨e, e2⟩ | ⟨g, cap, cur, e, hb, hg, _⟩
    · injection e with e1 _ e2
      subst e1; subst e2
      refine (sortNil_c w).mono ?_
      rintro e w' ⟨rfl, rfl⟩
      exact ⟨rfl, by rw [show srtR [] = [] from List.length_eq_zero_iff.1 (srtR_len [])]; exact RdY.nil _ _, Below.refl _ _⟩
    · injection e with e1 _ e2
      subst e1; subst e2
      have c2 := sortFunc_c g 0 cr ([] : List Ry).toArray w (h.ph hbd) (Array.getElem?_eq_some_iff.1 hg).1 (by simp)
      refine c2.mono ?_
      rintro e w' ⟨rfl, hp, hc, _⟩
      exact ⟨rfl, hp.rd, hc.below hb hB⟩

set_option maxHeartbeats 3200000 in
set_option maxRecDepth 100000 in
theorem addStars_c (ad1 ad2 : Option Addr) (c1 c2 : Nat) (a b : List Ry) (w : World) (hr1 : RdY w ad1 a) (hs1 : SY ad1 a.length c1) (hl1 : a.length ≤ 1048576) (hr2 : RdY w ad2 b) (hs2 : SY ad2 b.length c2) (hl2 : b.length ≤ 1048576) :
    Calls Try.prog 6 #[.slice ad1 a.length c1, .slice ad2 b.length c2] w fun e w' => StarR w' e (addB a b) (addR a b) ∧ Below w.heap.size w w' := by
  have CA := Lib.hid (isStar_c ad1 c1 a w hr1 hl1)
  have CB := Lib.hid (fun w' (hw : Below w.heap.size w w') => isStar_c ad2 c2 b w' (hr2.below hw) hl2)
  unfold addB
  cases hua : starB a
  · rw [hua] at CA
    clear hua hr1 hr2 hs1 hs2
    go_enter Try.func6, Try.ntmps6
    go_wp2_with fail
    refine (CA.out).mono ?_
    rintro e w1 ⟨rfl, hw1⟩
    go_wp2_with fail
    exact bodyPost_ret (v := .tuple #[.slice none 0 0, .bool false]) (by simp [results, Try.results6, go_sem]) rfl ⟨starR_no _ _, hw1⟩
  · rw [hua] at CA
    cases hub : starB b
    · rw [hub] at CB
      clear hua hub hr1 hr2 hs1 hs2
      go_enter Try.func6, Try.ntmps6
      go_wp2_with fail
      refine (CA.out).mono ?_
      rintro e w1 ⟨rfl, hw1⟩
      go_wp2_with fail
      refine (CB.out _ hw1).mono ?_
      rintro e w2 ⟨rfl, hw2⟩
      go_wp2_with fail
      exact bodyPost_ret (v := .tuple #[.slice none 0 0, .bool false]) (by simp [results, Try.results6, go_sem]) rfl ⟨starR_no _ _, ball hw1 hw2⟩
    · rw [hub] at CB
      obtain ⟨la, ya, sta⟩ := star_of hua
      obtain ⟨lb, yb, _⟩ := star_of hub
      have WT : ∀ r ∈ a ++ b, ((-20 : Int) ≤ r.w ∧ r.w ≤ 20) ∧ (-20 ≤ r.x ∧ r.x ≤ 20) ∧ -20 ≤ r.y ∧ r.y ≤ 20 := fun r hr => by
        rcases List.mem_append.1 hr with hr | hr
        · have := ry_of (ya r hr); omega
        · have := ry_of (yb r hr); omega
      have HWT := Lib.hid WT
      have HSA := Lib.hid sta
      have CC := Lib.hid (fun (g cap : Nat) (u : World) (ho : Own u g 24 [.slice ad1 a.length c1, .slice ad2 b.length c2]) (h : Below w.heap.size w u) => concatY_c g cap ad1 ad2 c1 c2 a b u ho (hr1.below h) hs1 (hr2.below h) hs2 (by omega))
      clear hua hub ya yb WT sta hr1 hr2 hs1 hs2
      simp only [Bool.true_and]
      go_enter Try.func6, Try.ntmps6
      go_wp2_with fail
      refine (CA.out).mono ?_
      rintro e w1 ⟨rfl, hw1⟩
      go_wp2_with fail
      refine (CB.out _ hw1).mono ?_
      rintro e w2 ⟨rfl, hw2⟩
      have hb2 := ball hw1 hw2
      clear hw1 hw2 CA CB
      go_wp2_with fail
      have hoA := Own.newA w2 #[.slice ad1 a.length c1, .slice ad2 b.length c2] 24 (cs := [.slice ad1 a.length c1, .slice ad2 b.length c2]) rfl
      have hbA := bal_alloc (o := .cells #[.slice ad1 a.length c1, .slice ad2 b.length c2] 24) hb2
      generalize w2.alloc (.cells #[.slice ad1 a.length c1, .slice ad2 b.length c2] 24) = w3 at hoA hbA ⊢
      refine (CC.out _ _ _ hoA hbA).mono ?_
      rintro e w4 ⟨ar, cr, rfl, hrow, hsy, hb4⟩
      clear hoA hsy CC
      have hN : (a ++ b).length = a.length + b.length := List.length_append
      have C5 := sortAny_c w3.heap.size ar cr (a ++ b) w4 hrow (fun p hp => by have := HWT.out p hp; unfold Bd; omega) (by omega) hb4.size
      have hsame : (mrgA (srtR (a ++ b)) (srtR (a ++ b)).length).reverse = addR a b := by rw [mrgA_all]; exact merge_put HSA.out (srtR_sorted _) (srtR_perm _)
      have hslen := srtR_len (a ++ b)
      have hsw : ∀ r ∈ srtR (a ++ b), ((-20 : Int) ≤ r.w ∧ r.w ≤ 20) ∧ (-20 ≤ r.x ∧ r.x ≤ 20) ∧ -20 ≤ r.y ∧ r.y ≤ 20 := fun r hr => HWT.out r ((srtR_perm (a ++ b)).mem_iff.1 hr)
      rw [hslen] at hsame
      obtain ⟨S, hS⟩ : ∃ S, srtR (a ++ b) = S := ⟨_, rfl⟩
      rw [hS] at hsame hslen hsw C5
      clear hS hrow HWT HSA
      obtain ⟨N, hNN⟩ : ∃ N, (a ++ b).length = N := ⟨_, rfl⟩
      have hN20 : N ≤ 20 := by omega
      rw [hNN] at hsame hslen C5 ⊢
      have C5 := Lib.hid C5
      have HSAME := Lib.hid hsame; have HSL := Lib.hid hslen; have HSW := Lib.hid hsw
      unfold RaySort.cmpV at C5
      clear hsame hslen hsw hNN hN la lb
      go_wp2_with fail
      refine C5.out.mono ?_
      rintro e w5 ⟨rfl, hrd5, hb5⟩
      have hbel5 := (ball hbA hb4).trans (hb5.mono (by have := hbA.size; omega))
      have HR5 := Lib.hid hrd5
      clear hrd5 hb5 hb4 C5
      have HN := Lib.hid (RowZ.new w5 w5.heap.size w5.heap.size (Nat.le_refl _) rfl)
      go_wp2_with fail
      go_loopw [7, 28] (fun v i wr => ∃ j : Nat, j ≤ N ∧ i = .int .i64 j ∧ RowZ wr w5.heap.size v (mrgA S j).reverse ∧ Below w5.heap.size w5 wr) (fun _ i _ => N - (intOf i).toNat)
      case atStart => exact ⟨0, Nat.zero_le _, rfl, HN.out, (Below.refl _ _).alloc (Nat.le_refl _) _⟩
      case round =>
        obtain ⟨wE, rfl⟩ : ∃ x : World, x = wr := ⟨_, rfl⟩
        obtain ⟨j, hj, rfl, hrow, hbel7⟩ := hrel
        have hbel := ball hbel5 hbel7
        obtain ⟨hrow, g, cg, rfl, hBg, hgl⟩ := hrow
        have HO := Lib.hid hrow
        clear hrow HN
        by_cases hlt : j < N
        case neg =>
          obtain rfl : j = N := by omega
          rw [HSAME.out] at HO ⊢
          have hml := mg_len (S.take j) []
          have hal : (addR a b).length = (mrgA S j).length := by rw [← HSAME.out, List.length_reverse]
          have CT := Lib.hid (toldStar_c (some ⟨g, 0, none⟩) cg (addR a b) wE HO.out.rd (by unfold mrgA at hal; rw [hal]; rw [List.length_take, List.length_nil] at hml; omega))
          clear hml hal
          have hshp := HO.out.shape
          have hsy : SY (some ⟨g, 0, none⟩) (addR a b).length cg := by
            obtain ⟨_, _, e1, h1, h2⟩ := hshp
            injection e1 with _ _ e2
            exact Or.inr ⟨⟨_, _, rfl⟩, by omega, by omega⟩
          have HSY := Lib.hid hsy
          have HRD := Lib.hid HO.out.rd
          clear hsy hshp HO
          obtain ⟨B, hB⟩ : ∃ B, starB (addR a b) = B := ⟨_, rfl⟩
          rw [hB] at CT
          have HB := Lib.hid hB; clear hB
          obtain ⟨A, hA⟩ : ∃ A, addR a b = A := ⟨_, rfl⟩
          rw [hA] at CT HSY HRD ⊢
          obtain ⟨n, hn⟩ : ∃ n, A.length = n := ⟨_, rfl⟩
          rw [hn] at CT HSY ⊢
          have HA := Lib.hid hA; have HNL := Lib.hid hn; clear hA hn
          go_wp2_with fail
          refine CT.out.mono ?_
          rintro e w6 ⟨rfl, hw6⟩
          unfold toldV
          cases B
          · go_wp2_with fail
            exact bodyPost_ret (v := .tuple #[.slice none 0 0, .bool false]) (by simp [results, Try.results6, go_sem]) rfl ⟨by rw [HB.out]; exact starR_no _ _, ball hbel hw6⟩
          · go_wp2_with fail
            exact bodyPost_ret (v := .tuple #[.slice (some ⟨g, 0, none⟩) n cg, .bool true]) (by simp [results, Try.results6, go_sem]) rfl ⟨⟨some ⟨g, 0, none⟩, cg, by rw [HB.out, HA.out, HNL.out]; rfl, fun _ => ⟨by rw [HA.out]; exact HRD.out.below hw6, by rw [HA.out, HNL.out]; exact HSY.out⟩⟩, ball hbel hw6⟩
        case pos =>
          obtain ⟨bb, off, rfl, hbb, x0, x1, x2⟩ := HR5.out j (by rw [HSL.out]; exact hlt)
          have x0 := bcell hbel7 hbb x0
          have x1 := bcell hbel7 hbb x1
          have x2 := bcell hbel7 hbb x2
          have hbE : bb < wE.heap.size := Nat.lt_of_lt_of_le hbb hbel7.size
          have hnx := mrgA_succ (s := S) (j := j) (by rw [HSL.out]; exact hlt)
          have hrw := HSW.out _ (getD_mem (l := S) (k := j) (by rw [HSL.out]; exact hlt))
          have hkp := mg_keep (P := fun x y => (-20 ≤ x ∧ x ≤ 20) ∧ -20 ≤ y ∧ y ≤ 20) (l := S.take j) (acc := []) (fun r hr => by cases hr) (fun r hr => (HSW.out r (List.mem_of_mem_take hr)).2)
          have hkw := mg_w (M := 20) (K := 0) (by omega) (by omega) (l := S.take j) (acc := []) (fun r hr => (HSW.out r (List.mem_of_mem_take hr)).1) (fun r hr => by cases hr)
          rw [show (S.take j).foldl mgR [] = mrgA S j from rfl] at hkp hkw
          have htl : (S.take j).length ≤ 20 := by rw [List.length_take]; omega
          have hml := mg_len (S.take j) []
          rw [show (S.take j).foldl mgR [] = mrgA S j from rfl, List.length_nil] at hml
          generalize hrr : S.getD j default = r at hnx hrw x0 x1 x2
          clear hrr
          have y1 : (0 : Int) ≤ (j : Int) := by omega
          have y2 : (j : Int) < (N : Int) := by omega
          obtain ⟨acc, hacc⟩ : ∃ acc, mrgA S j = acc := ⟨_, rfl⟩
          rw [hacc] at hnx hkp hkw hml HO ⊢
          clear hacc
          cases acc with
          | nil =>
            have HNX := Lib.hid (show mrgA S (j + 1) = [r] from hnx)
            clear hnx hkp hkw hml htl hrw
            obtain ⟨rx, ry, rw'⟩ := r
            simp only at x0 x1 x2
            rw [show ([] : List Ry).reverse = [] from rfl] at HO ⊢
            rw [show ([] : List Ry).length = 0 from rfl] at HO ⊢
            have y3 : RowY wE w5.heap.size (.slice (some ⟨g, 0, none⟩) 0 cg) [] := HO.out
            clear y3
            go_upto_region 12 with (go_quiet (fail))
            have oA := Own.newA wE #[.int .i64 rx, .int .i64 ry, .int .i64 rw'] 35 (cs := [.int .i64 rx, .int .i64 ry, .int .i64 rw']) rfl
            have hbA : Below wE.heap.size wE ((wE.alloc (.cells #[.int .i64 rx, .int .i64 ry, .int .i64 rw'] 35)).drewN nq) := bdrewN ((Below.refl _ _).alloc (Nat.le_refl _) _) nq
            have oA := oA.belowAll (bdrewN (Below.refl _ _) nq)
            have hbB7 := ball hbel7 hbA
            have HO2 := Lib.hid (HO.out.below hbA)
            have hgl2 := Own.lt oA
            generalize (wE.alloc (.cells #[.int .i64 rx, .int .i64 ry, .int .i64 rw'] 35)).drewN nq = wB at oA hbB7 HO2 hgl2 ⊢
            have c0 : wB.cell? ⟨wE.heap.size, 0, none⟩ = some (.int .i64 rx) := oA.cell? rfl
            have c1 : wB.cell? ⟨wE.heap.size, 1, none⟩ = some (.int .i64 ry) := oA.cell? rfl
            have c2 : wB.cell? ⟨wE.heap.size, 2, none⟩ = some (.int .i64 rw') := oA.cell? rfl
            have hsz := hbB7.size
            clear hbA oA
            go_wp2_with (at_builtin; refine wpList_appY rfl _ _ rfl w5.heap.size _ _ [] [⟨rx, ry, rw'⟩] 1 rfl rfl rfl (RowY.alloc' HO2.out) (readsY_one _ _ _ _ _ (by simp)) (by simp) (by simp) (by simp; omega) ?_; intro ad5 cap5 wm hown hsy hbm)
            have hb4 := (bal_alloc (o := .cells #[.int .i64 rx, .int .i64 ry, .int .i64 rw'] 35) hbB7).trans hbm
            have HO3 := Lib.hid (show RowZ wm w5.heap.size (.slice ad5 1 cap5) (mrgA S (j + 1)).reverse by rw [HNX.out]; exact RowZ.of hown (by simp)); clear hown hsy hbm
            go_roundw
            case rel => exact ⟨j + 1, by omega, by go_num, HO3.out, hb4⟩
            case measure => simp [intOf]; omega
          | cons p acc =>
            have hp1 := hkp p List.mem_cons_self
            have hp2 := hkw p List.mem_cons_self
            have hp3 : -420 ≤ p.w ∧ p.w ≤ 420 := by omega
            rw [rev_len] at HO ⊢
            rw [List.length_cons] at hml
            have hOL : RowY wE w5.heap.size (.slice (some ⟨g, 0, none⟩) (p :: acc).reverse.length cg) (p :: acc).reverse := by rw [rev_len]; exact HO.out
            have g0 := (rysV_get (l := (p :: acc).reverse) (i := acc.length) (by rw [rev_len]; omega))
            rw [rev_last] at g0
            have q0 := World.ownsRow.cellAt hOL (acc.length * 3) (by rw [rev_len]; omega)
            have q1 := World.ownsRow.cellAt hOL (acc.length * 3 + 1) (by rw [rev_len]; omega)
            have q2 := World.ownsRow.cellAt hOL (acc.length * 3 + 2) (by rw [rev_len]; omega)
            rw [g0.1] at q0
            rw [g0.2.1] at q1
            rw [g0.2.2] at q2
            have HSET := Lib.hid (fun (u : World) (h : RowY u w5.heap.size (.slice (some ⟨g, 0, none⟩) (p :: acc).reverse.length cg) (p :: acc).reverse) (x : Int) => h.set (j := acc.length) (by rw [rev_len]; omega) x)
            rw [rev_last, rev_len] at HSET
            have HSR := Lib.hid (fun q => rev_set acc p q)
            have HFZ := Lib.hid (fun (u : World) (h : RowY u w5.heap.size (.slice (some ⟨g, 0, none⟩) (p :: acc).reverse.length cg) (p :: acc).reverse) => World.ownsRow.frozenAt h (acc.length * 3 + 2))
            rw [rev_len] at HFZ
            have HNX := Lib.hid hnx
            clear hnx hkp hkw hp2 g0 hOL
            obtain ⟨L, hL⟩ : ∃ L, (p :: acc).reverse = L := ⟨_, rfl⟩
            rw [hL] at HO HSET HSR HFZ
            have HLL := Lib.hid hL; clear hL
            obtain ⟨n, hn⟩ : ∃ n, acc.length = n := ⟨_, rfl⟩
            rw [hn] at HO HSET HSR HFZ q0 q1 q2 hml ⊢
            have HACC := Lib.hid hn; clear hn
            have CC := Lib.hid (fun w => compareRays_g p r w (by unfold Bd; omega) (by unfold Bd; omega))
            have y3 : IntKind.i64.wrap (n : Int) = (n : Int) := i64_small (by omega) (by omega)
            have y4 : decide ((0 : Int) ≤ (n : Int)) = true := decide_eq_true (by omega)
            have y5 : (0 : Int) ≤ (n : Int) := by omega
            have y6 : (n : Int) < (n : Int) + 1 := by omega
            have e1 : IntKind.i64.wrap (p.w + r.w) = p.w + r.w := i64_small (by omega) (by omega)
            have hn20 : n ≤ 20 := by omega
            clear htl hml hp1 hp3 hrw
            unfold ryV at CC
            obtain ⟨rx, ry, rw'⟩ := r
            obtain ⟨px, py, pw⟩ := p
            simp only at x0 x1 x2 q0 q1 q2 CC e1 HSET
            generalize hC : (if px = rx then py - ry else px - rx) = C at CC
            go_upto_region 10 with fail
            have oA := Own.newA wE #[.int .i64 rx, .int .i64 ry, .int .i64 rw'] 35 (cs := [.int .i64 rx, .int .i64 ry, .int .i64 rw']) rfl
            have hbA : Below wE.heap.size wE (wE.alloc (.cells #[.int .i64 rx, .int .i64 ry, .int .i64 rw'] 35)) := (Below.refl _ _).alloc (Nat.le_refl _) _
            have hbB7 := ball hbel7 hbA
            have p0 := bcell hbA hgl q0
            have p1 := bcell hbA hgl q1
            have p2 := bcell hbA hgl q2
            have gl : g < (wE.alloc (.cells #[.int .i64 rx, .int .i64 ry, .int .i64 rw'] 35)).heap.size := Nat.lt_of_lt_of_le hgl hbA.size
            have HO2 := Lib.hid (HO.out.below hbA)
            clear q0 q1 q2
            generalize wE.alloc (.cells #[.int .i64 rx, .int .i64 ry, .int .i64 rw'] 35) = wB at oA hbB7 HO2 p0 p1 p2 gl ⊢
            have b0 : wB.cell? ⟨wE.heap.size, 0, none⟩ = some (.int .i64 rx) := oA.cell? rfl
            have b1 : wB.cell? ⟨wE.heap.size, 1, none⟩ = some (.int .i64 ry) := oA.cell? rfl
            have b2 : wB.cell? ⟨wE.heap.size, 2, none⟩ = some (.int .i64 rw') := oA.cell? rfl
            have bl := oA.lt
            have HOA := Lib.hid oA
            clear hbA HO oA
            by_cases hsd : px = rx ∧ py = ry
            case pos =>
              obtain rfl : C = 0 := by rw [← hC]; exact (cmp_same ⟨px, py, pw⟩ ⟨rx, ry, rw'⟩).2 hsd
              have hnx2 := HNX.out
              unfold mgR at hnx2
              simp only at hnx2
              rw [if_pos (show sameD ⟨px, py, pw⟩ ⟨rx, ry, rw'⟩ from hsd)] at hnx2
              have HN2 := Lib.hid hnx2
              clear hC hsd hnx2
              go_region_held3 (fun w' => (w'.cell? ⟨wE.heap.size, 0, none⟩ = some (.int .i64 rx) ∧ w'.cell? ⟨wE.heap.size, 1, none⟩ = some (.int .i64 ry) ∧ w'.cell? ⟨wE.heap.size, 2, none⟩ = some (.int .i64 rw')) ∧ w'.cell? ⟨g, n * 3, none⟩ = some (.int .i64 px) ∧ w'.cell? ⟨g, n * 3 + 1, none⟩ = some (.int .i64 py) ∧ w'.cell? ⟨g, n * 3 + 2, none⟩ = some (.int .i64 pw)) (exact ⟨⟨by assumption, by assumption, by assumption⟩, by assumption, by assumption, by assumption⟩)
                    (first | (go_at_call 30; (with_reducible refine (CC.out _).mono ?_); rintro e W1 ⟨rfl, hw1⟩; have m0 := bcell hw1 bl b0; have m1 := bcell hw1 bl b1; have m2 := bcell hw1 bl b2; have m3 := bcell hw1 gl p0; have m4 := bcell hw1 gl p1; have m5 := bcell hw1 gl p2))
              have hbW := ball hbB7 ((Below.refl wB.heap.size wB).drew.trans (hw1.mono (Nat.le_refl _)))
              have HOW := Lib.hid ((HO2.out.drew').below hw1)
              have fz := HFZ.out W1 HOW.out
              have hst := HSET.out W1.drew (RowY.drew' HOW.out) (pw + rw')
              rw [HSR.out, ← HN2.out] at hst
              have hst := RowZ.of hst (by rw [HN2.out]; simp)
              have HST := Lib.hid hst
              have hbX := (hbW.trans (Below.refl _ _).drew).setCell (p := ⟨g, n * 3 + 2, none⟩) hBg (.int .i64 (pw + rw'))
              clear hst
              go_upto_region 11 with fail
              go_still_tail 10, (by kernel_rfl)
              change wpList _ _ _ _ _ W1.drew
              go_wp2_with fail
              go_roundw
              case rel => exact ⟨j + 1, by omega, by go_num, HST.out, hbX⟩
              case measure => simp [intOf]; omega
            case neg =>
              have hC0 : (C == 0) = false := by
                have := mt (cmp_same ⟨px, py, pw⟩ ⟨rx, ry, rw'⟩).1 hsd
                simp only [hC] at this
                simpa using this
              have hnx2 := HNX.out
              unfold mgR at hnx2
              simp only at hnx2
              rw [if_neg (show ¬ sameD ⟨px, py, pw⟩ ⟨rx, ry, rw'⟩ from hsd)] at hnx2
              have HN2 := Lib.hid hnx2
              clear hC hsd hnx2
              go_region_held3 (fun w' => (w'.cell? ⟨wE.heap.size, 0, none⟩ = some (.int .i64 rx) ∧ w'.cell? ⟨wE.heap.size, 1, none⟩ = some (.int .i64 ry) ∧ w'.cell? ⟨wE.heap.size, 2, none⟩ = some (.int .i64 rw')) ∧ w'.cell? ⟨g, n * 3, none⟩ = some (.int .i64 px) ∧ w'.cell? ⟨g, n * 3 + 1, none⟩ = some (.int .i64 py) ∧ w'.cell? ⟨g, n * 3 + 2, none⟩ = some (.int .i64 pw)) (exact ⟨⟨by assumption, by assumption, by assumption⟩, by assumption, by assumption, by assumption⟩)
                    (first | (go_at_call 30; (with_reducible refine (CC.out _).mono ?_); rintro e W1 ⟨rfl, hw1⟩; have m0 := bcell hw1 bl b0; have m1 := bcell hw1 bl b1; have m2 := bcell hw1 bl b2; have m3 := bcell hw1 gl p0; have m4 := bcell hw1 gl p1; have m5 := bcell hw1 gl p2))
              have hbW := ball hbB7 ((Below.refl wB.heap.size wB).drew.trans (hw1.mono (Nat.le_refl _)))
              have HOW := Lib.hid ((HO2.out.drew').below hw1)
              go_upto_region 12 with fail
              have hLl : L.length = n + 1 := by rw [← HLL.out, rev_len, HACC.out]
              have hbl1 : wE.heap.size < W1.heap.size := Nat.lt_of_lt_of_le bl hw1.size
              have hsz := hbW.size
              go_wp2_with (at_builtin; refine wpList_appY rfl _ _ rfl w5.heap.size _ _ L [⟨rx, ry, rw'⟩] (n + 1 + 1) (by rw [hLl]; rfl) rfl rfl (RowY.alloc' HOW.out) (readsY_one _ _ _ _ _ (by simp)) (by omega) (by simp) (by simp; omega) ?_; intro ad5 cap5 wm hown hsy hbm)
              have hb4 := (bal_alloc (o := .cells #[.int .i64 rx, .int .i64 ry, .int .i64 rw'] 35) hbW).trans hbm
              have HO3 := Lib.hid (show RowZ wm w5.heap.size (.slice ad5 (n + 1 + 1) cap5) (mrgA S (j + 1)).reverse by rw [HN2.out, List.reverse_cons, HLL.out]; exact RowZ.of hown (by simp)); clear hown hsy hbm
              go_roundw
              case rel => exact ⟨j + 1, by omega, by go_num, HO3.out, hb4⟩
              case measure => simp [intOf]; omega

end Go.Proofs.Ytlplodkabeiimaa
