/-
  Rays sorted: plain; mapped stars: the program's. By an AI agent.
-/
import Derived.Test.YtlplodkabeiimaaStS
namespace Go.Proofs.Ytlplodkabeiimaa
open Go.RowKit
open RaySort (ltRy ltRy_iff swo_ltRy sortFunc_c Bd)

/-- Rays in their order. -/
def srtR (l : List Ry) : List Ry := (Sort.sort ltRy l.toArray).toList
theorem srtR_perm (l : List Ry) : (srtR l).Perm l := by
  obtain ⟨h1, h2, h3⟩ := (Sort.sort_sorts ltRy swo_ltRy l.toArray).1
  unfold srtR
  rw [show l.toArray.size = (Sort.sort ltRy l.toArray).size from h1.symm] at h3
  rw [Array.extract_size] at h3
  rw [h1, Array.extract_size] at h3
  simpa using h3
theorem srtR_len (l : List Ry) : (srtR l).length = l.length := (srtR_perm l).length_eq
theorem srtR_sorted (l : List Ry) : SortedR (srtR l) := by
  have h := (Sort.sort_sorts ltRy swo_ltRy l.toArray).2
  have h1 := (Sort.sort_sorts ltRy swo_ltRy l.toArray).1.1
  rw [← h1] at h
  unfold SortedR srtR
  refine List.pairwise_iff_getElem.2 fun i j hi hj hij => ?_
  have := h i j (Nat.zero_le _) hij (by simpa using hj)
  rw [Array.length_toList] at hi hj
  rw [getElem!_pos _ i hi, getElem!_pos _ j hj] at this
  rw [Array.getElem_toList, Array.getElem_toList]
  intro hb
  have := ltRy_iff.2 hb
  simp_all

/-- A row whose block is its own. -/
def RowZ (w : World) (B : Nat) (v : Value) (l : List Ry) : Prop := RowY w B v l ∧ ∃ g cap, v = .slice (some ⟨g, 0, none⟩) l.length cap ∧ B ≤ g ∧ g < w.heap.size
theorem RowZ.new (u : World) (B H : Nat) (hB : B ≤ u.heap.size) (hH : u.heap.size = H) : RowZ (u.alloc (.cells #[] 35)) B (.slice (some ⟨H, 0, none⟩) 0 0) [] := ⟨rowY_new u B H hB hH, H, 0, rfl, by omega, by subst hH; simp⟩
theorem RowZ.of {w : World} {B : Nat} {v : Value} {l : List Ry} (h : RowY w B v l) (h0 : 0 < l.length) : RowZ w B v l := ⟨h, h.own h0⟩

def gat (l : List Int) (lo hi : Int) (k : Nat) : Prop := ∀ j, j < k → lo ≤ l.getD j 0 ∧ l.getD j 0 ≤ hi

set_option maxHeartbeats 3200000 in
set_option maxRecDepth 100000 in
theorem mapStar_c (ad : Option Addr) (cap : Nat) (l : List Ry) (a b c d : Int) (w : World) (hr : RdY w ad l) (hl : l.length ≤ 1048576) :
    Calls Try.prog 17 #[.slice ad l.length cap, .int .i64 a, .int .i64 b, .int .i64 c, .int .i64 d] w fun e w' => StarR w' e (mpsB a b c d l) (fputs (l.map (mapR a b c d)) []) ∧ Below w.heap.size w w' := by
  have CA := Lib.hid (isStar_c ad cap l w hr hl)
  obtain ⟨M, hM⟩ : ∃ M, mpsB a b c d l = M := ⟨_, rfl⟩
  rw [hM]
  cases hua : starB l
  · obtain rfl : M = false := by rw [← hM]; unfold mpsB; rw [hua]; rfl
    rw [hua] at CA
    clear hua hr hM
    go_enter Try.func17, Try.ntmps17
    go_wp2_with fail
    refine (CA.out).mono ?_
    rintro e w1 ⟨rfl, hw1⟩
    go_wp2_with fail
    exact bodyPost_ret (v := .tuple #[.slice none 0 0, .bool false]) (by simp [results, Try.results17, go_sem]) rfl ⟨starR_no _ _, hw1⟩
  · rw [hua] at CA
    have hMM : M = ((allB [a, b, c, d] (-3) 3 && detB a b c d) && starB (fputs (l.map (mapR a b c d)) [])) := by rw [← hM]; unfold mpsB; rw [hua]; rfl
    have HM := Lib.hid hMM
    obtain ⟨la, ya, hst⟩ := star_of hua
    have WA : ∀ r ∈ l, ((-20 : Int) ≤ r.w ∧ r.w ≤ 20) ∧ (-20 ≤ r.x ∧ r.x ≤ 20) ∧ -20 ≤ r.y ∧ r.y ≤ 20 := fun r hr => by have := ry_of (ya r hr); omega
    have HWA := Lib.hid WA
    have HR2 := Lib.hid hr
    have HST := Lib.hid hst
    clear hua ya WA hr hst hM hMM
    go_enter Try.func17, Try.ntmps17
    go_wp2_with fail
    refine (CA.out).mono ?_
    rintro e w1 ⟨rfl, hw1⟩
    clear CA
    go_wp2_with fail
    have hoI := Own.newA w1 #[.int .i64 a, .int .i64 b, .int .i64 c, .int .i64 d] 3 (cs := ints [a, b, c, d]) rfl
    have hb2 := bal_alloc (o := .cells #[.int .i64 a, .int .i64 b, .int .i64 c, .int .i64 d] 3) hw1
    generalize w1.alloc (.cells #[.int .i64 a, .int .i64 b, .int .i64 c, .int .i64 d] 3) = w2 at hb2 hoI ⊢
    have HRI := Lib.hid hoI.rd
    clear hoI
    obtain ⟨XS, hXS⟩ : ∃ XS, [a, b, c, d] = XS := ⟨_, rfl⟩
    have hX4 : XS.length = 4 := by rw [← hXS]; rfl
    rw [hXS] at HRI HM
    have HX4 := Lib.hid hX4; clear hX4
    have HXS := Lib.hid hXS; clear hXS
    go_loop [26] (fun i => ∃ k : Nat, k ≤ 4 ∧ i = .int .i64 k ∧ gat XS (-3) 3 k) (fun i => 4 - (intOf i).toNat)
    case atStart => exact ⟨0, Nat.zero_le _, rfl, fun j hj => by omega⟩
    case round =>
      obtain ⟨k, hk, rfl, hj⟩ := hrel
      have HJ := Lib.hid hj; clear hj
      by_cases hlt : k < 4
      case pos =>
        obtain ⟨bb, off, eb, hb, cc⟩ := HRI.out k (by rw [HX4.out]; exact hlt)
        injection eb with eb
        injection eb with eb1 eb2
        subst eb1; subst eb2
        have cc : w2.cell? ⟨w1.heap.size, k, none⟩ = some (.int .i64 (XS.getD k 0)) := by simpa using cc
        generalize hx : XS.getD k 0 = x at cc
        have HX := Lib.hid hx; clear hx
        have CI := Lib.hid (fun w => within_any x (-3) 3 w)
        have y1 : (0 : Int) ≤ (k : Int) := by omega
        have y2 : (k : Int) < 4 := by omega
        by_cases h1 : inB x (-3) 3 = true
        · rw [h1] at CI
          go_wp2_with fail
          refine (CI.out _).mono ?_
          rintro e w3 ⟨rfl, rfl⟩
          go_wp2_with fail
          go_round
          case rel =>
            refine ⟨k + 1, by omega, by go_num, fun j hj => ?_⟩
            by_cases e : j = k
            · subst e; rw [HX.out]; exact inB_t.1 h1
            · exact HJ.out j (by omega)
          case measure => simp [intOf]; omega
        · have h1' := Bool.eq_false_iff.2 h1
          rw [h1'] at CI
          obtain rfl : M = false := by
            rw [HM.out, allB_f (j := k) (by rw [HX4.out]; exact hlt) (by rw [HX.out]; exact h1')]
            rfl
          go_wp2_with fail
          refine (CI.out _).mono ?_
          rintro e w3 ⟨rfl, rfl⟩
          go_wp2_with fail
          exact bodyPost_ret (v := .tuple #[.slice none 0 0, .bool false]) (by simp [results, Try.results17, go_sem]) rfl ⟨starR_no _ _, hb2⟩
      case neg =>
        obtain rfl : k = 4 := by omega
        have hall : allB XS (-3) 3 = true := allB_t.2 (by rw [HX4.out]; exact HJ.out)
        have hM2 := HM.out
        rw [hall, Bool.true_and] at hM2
        have HM2 := Lib.hid hM2; clear hM2 HM
        rw [← HXS.out] at hall
        obtain ⟨ha, hb, hc, hd⟩ := four_of hall
        have m1 := mulbS (k := a) (m := d) (K := 3) (M := 3) (by omega) ha hd
        have m2 := mulbS (k := b) (m := c) (K := 3) (M := 3) (by omega) hb hc
        have z1 : IntKind.i64.wrap (a * d) = a * d := i64_small (by omega) (by omega)
        have z2 : IntKind.i64.wrap (b * c) = b * c := i64_small (by omega) (by omega)
        have z3 : IntKind.i64.wrap (a * d - b * c) = a * d - b * c := i64_small (by omega) (by omega)
        have AX := Lib.hid (fun w => absW_c (a * d - b * c) w (by omega))
        clear hall HX4 HJ hlt HRI
        cases hdet : detB a b c d
        case false =>
          obtain rfl : M = false := by rw [HM2.out, hdet]; rfl
          have hdd : (((a * d - b * c).natAbs : Int) != 1) = true := by
            unfold detB at hdet
            have := of_decide_eq_false hdet
            simp; omega
          generalize ((a * d - b * c).natAbs : Int) = na at AX hdd
          clear hdet m1 m2 ha hb hc hd
          go_wp2_with fail
          refine (AX.out _).mono ?_
          rintro e w3 ⟨rfl, rfl⟩
          go_wp2_with fail
          exact bodyPost_ret (v := .tuple #[.slice none 0 0, .bool false]) (by simp [results, Try.results17, go_sem]) rfl ⟨starR_no _ _, hb2⟩
        case true =>
          have hdd : ((a * d - b * c).natAbs : Int) = 1 := by
            unfold detB at hdet
            have := of_decide_eq_true hdet
            omega
          have hdo : a * d - b * c = 1 ∨ a * d - b * c = -1 := by omega
          have hM3 := HM2.out
          rw [hdet, Bool.true_and] at hM3
          have HM3 := Lib.hid hM3; clear hM3 HM2
          rw [hdd] at AX
          have HDO := Lib.hid hdo
          clear hdd hdet m1 m2 hdo
          go_wp2_with fail
          refine (AX.out _).mono ?_
          rintro e w3 ⟨rfl, rfl⟩
          clear AX
          have HN := Lib.hid (RowZ.new w2 w.heap.size w2.heap.size hb2.size rfl)
          have hb3 := bal_alloc (o := .cells #[] 35) hb2
          go_wp2_with fail
          go_loopw [14, 46] (fun v i wr => ∃ j : Nat, j ≤ l.length ∧ i = .int .i64 j ∧ RowZ wr w.heap.size v ((l.take j).map (mapR a b c d)) ∧ Below w.heap.size w wr) (fun _ i _ => l.length - (intOf i).toNat)
          case atStart => exact ⟨0, Nat.zero_le _, rfl, HN.out, hb3⟩
          case round =>
            obtain ⟨wE, rfl⟩ : ∃ x : World, x = wr := ⟨_, rfl⟩
            obtain ⟨j, hj, rfl, hrow, hbel⟩ := hrel
            obtain ⟨hrow, g, cg, rfl, hBg, hgl⟩ := hrow
            have HO := Lib.hid hrow
            clear hrow HN
            have hsl : ((l.take j).map (mapR a b c d)).length = j := by rw [List.length_map, List.length_take]; omega
            by_cases hlt : j < l.length
            case neg =>
              obtain rfl : j = l.length := by omega
              rw [List.take_length] at HO hsl ⊢
              obtain ⟨L, hL⟩ : ∃ L, l.map (mapR a b c d) = L := ⟨_, rfl⟩
              have hbd : ∀ p ∈ L, Bd p := fun p hp => by
                rw [← hL] at hp
                obtain ⟨q, hq, rfl⟩ := List.mem_map.1 hp
                have hwr := HWA.out q hq
                have k1 := mulbS (k := a) (m := q.x) (K := 3) (M := 20) (by omega) ha (by omega)
                have k2 := mulbS (k := b) (m := q.y) (K := 3) (M := 20) (by omega) hb (by omega)
                have k3 := mulbS (k := c) (m := q.x) (K := 3) (M := 20) (by omega) hc (by omega)
                have k4 := mulbS (k := d) (m := q.y) (K := 3) (M := 20) (by omega) hd (by omega)
                unfold Bd mapR
                simp only
                omega
              have hsame : srtR L = fputs L [] := by rw [← hL]; exact map_put HDO.out HST.out (srtR_sorted _) (srtR_perm _)
              rw [hL] at HO hsl HM3 ⊢
              have hshp := HO.out.shape
              have c2 := sortFunc_c g 0 cg L.toArray wE (HO.out.ph hbd) hgl (by simp; omega)
              rw [List.size_toArray, hsl] at c2
              have C2 := Lib.hid c2; clear c2 hbd
              unfold RaySort.cmpV at C2
              have HSAME := Lib.hid hsame; have HLL := Lib.hid hL; clear hsame hL
              have HSL := Lib.hid hsl
              rw [hsl]
              clear hsl z1 z2 z3
              go_wp2_with fail
              refine C2.out.mono ?_
              rintro e w4 ⟨rfl, hp4, hc4, hs4⟩
              have hb4 := hbel.trans (hc4.below hBg hbel.size)
              have hrd := hp4.rd
              rw [show (Sort.sort ltRy L.toArray).toList = srtR L from rfl, HSAME.out] at hrd
              have hfl : (fputs L []).length = l.length := by rw [← HSAME.out, srtR_len, HSL.out]
              have CT := toldStar_c (some ⟨g, 0, none⟩) cg (fputs L []) w4 hrd (by omega)
              rw [hfl, ← HM3.out] at CT
              have hsy : SY (some ⟨g, 0, none⟩) l.length cg := by
                obtain ⟨_, _, e1, h1, h2⟩ := hshp
                injection e1 with _ _ e2
                rw [HSL.out] at h1
                exact Or.inr ⟨⟨_, _, rfl⟩, by omega, by omega⟩
              have CT := Lib.hid CT
              have HRD := Lib.hid hrd; have HSY := Lib.hid hsy; have HFL := Lib.hid hfl
              clear hrd hsy hfl hp4 hs4 hc4 C2 hshp HO
              go_wp2_with fail
              refine CT.out.mono ?_
              rintro e w5 ⟨rfl, hw5⟩
              unfold toldV
              cases M
              · go_wp2_with fail
                exact bodyPost_ret (v := .tuple #[.slice none 0 0, .bool false]) (by simp [results, Try.results17, go_sem]) rfl ⟨starR_no _ _, ball hb4 hw5⟩
              · go_wp2_with fail
                exact bodyPost_ret (v := .tuple #[.slice (some ⟨g, 0, none⟩) l.length cg, .bool true]) (by simp [results, Try.results17, go_sem]) rfl ⟨⟨some ⟨g, 0, none⟩, cg, by rw [HLL.out, HFL.out]; rfl, fun _ => ⟨by rw [HLL.out]; exact HRD.out.below hw5, by rw [HLL.out, HFL.out]; exact HSY.out⟩⟩, ball hb4 hw5⟩
            case pos =>
              obtain ⟨bb, off, rfl, hbb, x0, x1, x2⟩ := HR2.out j hlt
              have x0 := bcell hbel hbb x0
              have x1 := bcell hbel hbb x1
              have x2 := bcell hbel hbb x2
              have hnx : (l.take (j + 1)).map (mapR a b c d) = (l.take j).map (mapR a b c d) ++ [mapR a b c d (l.getD j default)] := by rw [takeR_snoc l j hlt, List.map_append, List.map_cons, List.map_nil]
              have hwr := HWA.out _ (getD_mem hlt)
              generalize hrr : l.getD j default = r at hnx hwr x0 x1 x2
              clear hrr
              have hbE : bb < wE.heap.size := Nat.lt_of_lt_of_le hbb hbel.size
              have y1 : (0 : Int) ≤ (j : Int) := by omega
              have y2 : (j : Int) < (l.length : Int) := by omega
              obtain ⟨rx, ry, rw'⟩ := r
              simp only at x0 x1 x2 hwr
              have HNX := Lib.hid hnx
              clear hnx
              have k1 := mulbS (k := a) (m := rx) (K := 3) (M := 20) (by omega) ha (by omega)
              have k2 := mulbS (k := b) (m := ry) (K := 3) (M := 20) (by omega) hb (by omega)
              have k3 := mulbS (k := c) (m := rx) (K := 3) (M := 20) (by omega) hc (by omega)
              have k4 := mulbS (k := d) (m := ry) (K := 3) (M := 20) (by omega) hd (by omega)
              have v1 : IntKind.i64.wrap (a * rx) = a * rx := i64_small (by omega) (by omega)
              have v2 : IntKind.i64.wrap (b * ry) = b * ry := i64_small (by omega) (by omega)
              have v3 : IntKind.i64.wrap (c * rx) = c * rx := i64_small (by omega) (by omega)
              have v4 : IntKind.i64.wrap (d * ry) = d * ry := i64_small (by omega) (by omega)
              have v5 : IntKind.i64.wrap (a * rx + b * ry) = a * rx + b * ry := i64_small (by omega) (by omega)
              have v6 : IntKind.i64.wrap (c * rx + d * ry) = c * rx + d * ry := i64_small (by omega) (by omega)
              obtain ⟨L, hL⟩ : ∃ L, (l.take j).map (mapR a b c d) = L := ⟨_, rfl⟩
              rw [hL] at HO hsl HNX ⊢
              obtain ⟨N, hN⟩ : ∃ n, L.length = n := ⟨_, rfl⟩
              have HNL := Lib.hid hN
              rw [hN] at hsl HO ⊢
              clear hL hN k1 k2 k3 k4 hwr z1 z2 z3
              go_upto_region 15 with fail
              have oA := Own.newA wE #[.int .i64 rx, .int .i64 ry, .int .i64 rw'] 35 (cs := [.int .i64 rx, .int .i64 ry, .int .i64 rw']) rfl
              have hbA : Below wE.heap.size wE (wE.alloc (.cells #[.int .i64 rx, .int .i64 ry, .int .i64 rw'] 35)) := (Below.refl _ _).alloc (Nat.le_refl _) _
              have hbB := ball hbel hbA
              have HO2 := Lib.hid (HO.out.below hbA)
              have hgl2 := Own.lt oA
              generalize wE.alloc (.cells #[.int .i64 rx, .int .i64 ry, .int .i64 rw'] 35) = wB at oA hbB HO2 hgl2 ⊢
              have c0 : wB.cell? ⟨wE.heap.size, 0, none⟩ = some (.int .i64 rx) := oA.cell? rfl
              have c1 : wB.cell? ⟨wE.heap.size, 1, none⟩ = some (.int .i64 ry) := oA.cell? rfl
              have c2 : wB.cell? ⟨wE.heap.size, 2, none⟩ = some (.int .i64 rw') := oA.cell? rfl
              have hsz := hbB.size
              clear hbA oA
              go_wp2_with (at_builtin; refine wpList_appY rfl _ _ rfl w.heap.size _ _ L [⟨a * rx + b * ry, c * rx + d * ry, rw'⟩] (N + 1) (by rw [HNL.out]; rfl) rfl rfl (RowY.alloc' HO2.out) (readsY_one _ _ _ _ _ (by simp)) (by rw [HNL.out]; omega) (by simp) (by simp; omega) ?_; intro ad5 cap5 wm hown hsy hbm)
              have hb3 := (bal_alloc (o := .cells #[.int .i64 (a * rx + b * ry), .int .i64 (c * rx + d * ry), .int .i64 rw'] 35) hbB).trans hbm
              rw [show L ++ [⟨a * rx + b * ry, c * rx + d * ry, rw'⟩] = (l.take (j + 1)).map (mapR a b c d) from HNX.out.symm] at hown
              have HO3 := Lib.hid (RowZ.of hown (by rw [List.length_map, List.length_take]; omega)); clear hown hsy hbm
              go_roundw
              case rel => exact ⟨j + 1, by omega, by go_num, by have := HO3.out; rwa [hsl] at this, hb3⟩
              case measure => simp [intOf]; omega

end Go.Proofs.Ytlplodkabeiimaa
