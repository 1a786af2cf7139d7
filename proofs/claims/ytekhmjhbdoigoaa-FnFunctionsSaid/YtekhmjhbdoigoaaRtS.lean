/-
  The reference's polynomials and corners. Printed by gen_rtS.py.
-/
import Derived.Test.YtekhmjhbdoigoaaRtI
namespace Go.Proofs.Ytekhmjhbdoigoaa
open Go.RowKit

theorem rowI_lower {w : World} {B B' : Nat} {v : Value} {xs : List Int} (h : RowI w B v xs) (hB : B' ≤ B) : RowI w B' v xs := by
  obtain ⟨hl, h | ⟨g, cap, cur, hv, hg, hh⟩⟩ := h
  · exact ⟨hl, Or.inl h⟩
  · exact ⟨hl, Or.inr ⟨g, cap, cur, hv, Nat.le_trans hB hg, hh⟩⟩

set_option maxHeartbeats 1600000 in
theorem rtPoints_c (ad : Option Addr) (cap : Nat) (p : List Int) (w : World) (hr : RdI w ad p) (hl : p.length ≤ 1000) :
    Calls Try.prog 54 #[.slice ad p.length cap] w fun e w' => ∃ v, e = .returned v ∧ RowI w' w.heap.size v (natL (finK p p.length)) ∧ Below w.heap.size w w' := by
  have HR := Lib.hid hr; clear hr
  obtain ⟨iI, hiI0, hiI1, hiI2, hiI3⟩ := info_parts Try.infoI
  go_enter Try.func54, Try.ntmps54
  go_wp2_with fail
  go_loopw [3, 8] (fun v i wr => ∃ k : Nat, k ≤ p.length ∧ i = .int .i64 k ∧ RowI wr w.heap.size v (natL (finK p k)) ∧ Below w.heap.size w wr) (fun _ i _ => p.length - (intOf i).toNat)
  case atStart => exact ⟨0, Nat.zero_le _, rfl, RowI.nil _ _, Below.refl _ _⟩
  case round =>
    obtain ⟨wE, rfl⟩ : ∃ x : World, x = wr := ⟨_, rfl⟩
    obtain ⟨k, hk, rfl, hrow, hbel⟩ := hrel
    have HO := Lib.hid hrow; clear hrow
    by_cases hlt : k < p.length
    case neg =>
      obtain rfl : k = p.length := by omega
      go_wp2_with fail
      go_ret
      exact ⟨_, rfl, HO.out, hbel⟩
    case pos =>
      obtain ⟨b, off, rfl, hb, c0⟩ := HR.out k hlt
      have d0 := bcell hbel hb c0
      clear c0
      have hcx : p.getD k 0 = cof p k := rfl
      rw [hcx] at d0
      by_cases hinf : cof p k = 1000000000
      case pos =>
        have hfk := Lib.hid (finK_miss hinf)
        rw [hinf] at d0
        clear hinf hcx
        go_wp2_with fail
        go_roundw
        case rel => exact ⟨k + 1, by omega, by go_num, by rw [hfk.out]; exact HO.out, hbel⟩
        case measure => simp [intOf]; omega
      case neg =>
        have hfk := Lib.hid (finK_hit hinf)
        have g0 : (cof p k == 1000000000) = false := beq_eq_false_iff_ne.2 hinf
        have hfl := finK_len p k
        have hzE := hbel.size
        generalize cof p k = x at d0 g0
        obtain ⟨o, ho⟩ : ∃ o, finK p k = o := ⟨_, rfl⟩
        rw [ho] at HO hfk hfl
        clear hinf hcx ho
        obtain ⟨N, hN⟩ : ∃ N, o.length = N := ⟨_, rfl⟩
        obtain ⟨adv, capv, rfl, -, -⟩ := HO.out.shape2
        have HN := Lib.hid hN
        rw [natL_len, hN] at HO ⊢
        rw [hN] at hfl
        clear hN
        go_wp2_with (at_builtin; refine wpList_append_lies _ rfl _ _ 23 rfl w.heap.size 3 iI _ 1 8 Try.underlying23 hiI0 hiI1 hiI2 hiI3 rfl (by omega) (.slice adv N capv) N (ints (natL o)) rfl ((rowN HO.out HN.out).alloc _) ⟨wE.heap.size, 0, none⟩ 1 1 [.int .i64 (k : Int)] rfl rfl (World.news_of_block (cs := #[.int .i64 (k : Int)]) (t := 3) (fr := (0, 0)) (heap_alloc_new _ _)) (by simp [Value.oneCell']) (by omega) (by unfold maxLen; omega) (by omega) (by simp; omega) (wE.heap.size + 1) (by simp) ?_; intro g5 cap5 wm hown hgrow hat hlt5; clear hat)
        have hbm := app_below hbel hzE (rowN HO.out HN.out) hgrow
        go_roundw
        case rel => exact ⟨k + 1, by omega, by go_num, by rw [hfk.out, natL_snoc]; exact row_congr hown (by simp [natL_len, HN.out]) (by simp [ints]), hbm⟩
        case measure => simp [intOf]; omega

set_option maxHeartbeats 1600000 in
theorem poGood_c (ad : Option Addr) (cap : Nat) (p : List Int) (w : World) (hr : RdI w ad p) (hl : p.length ≤ 1048576) :
    Calls Try.prog 27 #[.slice ad p.length cap] w fun e w' => e = .returned (.bool (polyB p)) ∧ w = w' := by
  have c1 := fun w => l1In_any (p.length : Int) 1 13 w
  have h13 := fun h => inB_t.1 (show inB (p.length : Int) 1 13 = true from h)
  have HR := Lib.hid hr; clear hr
  obtain ⟨A, hA⟩ : ∃ A, p.all numB = A := ⟨_, rfl⟩
  have HA := Lib.hid hA
  have hPB : polyB p = (inB p.length 1 13 && (A && decide (p.getD (p.length - 1) 0 ≠ 1000000000))) := by rw [← hA]; rfl
  clear hA
  generalize inB (p.length : Int) 1 13 = u at c1 h13 hPB
  generalize polyB p = R at hPB ⊢
  have HPB := Lib.hid hPB
  have C1 := Lib.hid c1; clear c1 hPB
  go_enter Try.func27, Try.ntmps27
  go_wp2_with fail
  go_loopw [7] (fun i wr => ∃ k : Nat, k ≤ p.length ∧ i = .int .i64 k ∧ (p.take k).all numB = true ∧ w = wr) (fun i _ => p.length - (intOf i).toNat)
  case atStart => exact ⟨0, Nat.zero_le _, rfl, by simp, rfl⟩
  case round =>
    obtain ⟨k, hk, rfl, hall, rfl⟩ := hrel
    have HALL := Lib.hid hall; clear hall
    by_cases hlt : k < p.length
    case neg =>
      obtain rfl : k = p.length := by omega
      obtain rfl : A = true := by rw [← HA.out]; have := HALL.out; rwa [List.take_length] at this
      cases u
      case false =>
        go_wp2_with fail
        refine (C1.out _).mono ?_
        rintro e w1 ⟨rfl, rfl⟩
        go_wp2_with fail
        go_ret
        exact ⟨ret_bool (by rw [HPB.out]; rfl), rfl⟩
      case true =>
        have hlen := h13 rfl
        obtain ⟨m, hm⟩ : ∃ m, p.length = m + 1 := ⟨p.length - 1, by omega⟩
        obtain ⟨b, off, rfl, hb, c0⟩ := HR.out m (by omega)
        have hpb := HPB.out
        rw [show p.length - 1 = m by omega] at hpb
        generalize p.getD m 0 = x at c0 hpb
        obtain ⟨n, hn⟩ : ∃ n, p.length = n := ⟨_, rfl⟩
        rw [hn] at C1 hlen hm ⊢
        have en : (n : Int) - 1 = (m : Int) := by omega
        have wn : IntKind.i64.wrap (m : Int) = (m : Int) := i64_small (by omega) (by omega)
        have x1 : (0 : Int) ≤ (m : Int) := by omega
        have x2 : (m : Int) < (n : Int) := by omega
        have hq : (x != 1000000000) = decide (x ≠ 1000000000) := by by_cases h : x = 1000000000 <;> simp [h]
        have hq2 : (!(x == 1000000000)) = decide (x ≠ 1000000000) := by by_cases h : x = 1000000000 <;> simp [h]
        generalize decide (x ≠ 1000000000) = q at hq hq2 hpb
        have HPB2 := Lib.hid hpb
        clear hm hlen h13 hpb hn
        go_wp2_with fail
        refine (C1.out _).mono ?_
        rintro e w1 ⟨rfl, rfl⟩
        go_wp2_with fail
        go_ret
        exact ⟨ret_bool (by rw [HPB2.out]; rfl), rfl⟩
    case pos =>
      obtain ⟨b, off, rfl, hb, c0⟩ := HR.out k hlt
      obtain ⟨x, hx⟩ : ∃ x, p.getD k 0 = x := ⟨_, rfl⟩
      rw [hx] at c0
      have cb := fun w => nuGood_c x w
      have hst := Lib.hid (show (p.take (k + 1)).all numB = ((p.take k).all numB && numB x) by rw [List.take_succ_eq_append_getElem hlt, List.all_append, ← hx, List.getD_eq_getElem?_getD, List.getElem?_eq_getElem hlt]; simp)
      have hmem := Lib.hid (show numB x = false → A = false from fun h => by
        rw [← HA.out]
        cases hc : p.all numB
        · rfl
        · have := List.all_eq_true.1 hc x (by rw [← hx, List.getD_eq_getElem?_getD, List.getElem?_eq_getElem hlt, Option.getD_some]; exact List.getElem_mem _)
          rw [h] at this; exact absurd this (by simp))
      generalize numB x = v at cb hst hmem
      have CB := Lib.hid cb; clear cb hx
      cases v
      case false =>
        obtain rfl := hmem.out rfl
        go_wp2_with fail
        refine (CB.out _).mono ?_
        rintro e w1 ⟨rfl, rfl⟩
        go_wp2_with fail
        go_ret
        exact ⟨ret_bool (by rw [HPB.out]; simp), rfl⟩
      case true =>
        go_wp2_with fail
        refine (CB.out _).mono ?_
        rintro e w1 ⟨rfl, rfl⟩
        go_wp2_with fail
        go_roundw
        case rel => exact ⟨k + 1, by omega, by go_num, by rw [hst.out, HALL.out]; rfl, trivial⟩
        case measure => simp [intOf]; omega

set_option maxHeartbeats 6400000 in
set_option maxRecDepth 100000 in
theorem rtCorners_c (ad : Option Addr) (cap : Nat) (p : List Int) (w : World) (hr : RdI w ad p) (hp : polyB p = true) :
    Calls Try.prog 30 #[.slice ad p.length cap] w fun e w' => ∃ v, e = .returned v ∧ RowI w' w.heap.size v (natL (corP p)) ∧ Below w.heap.size w w' := by
  obtain ⟨⟨hp1, hp2⟩, hnum, -⟩ := polyB_t hp
  have hbd := Lib.hid (fun e (he : e < p.length) (hf : cof p e ≠ 1000000000) => show -1000000 ≤ cof p e ∧ cof p e ≤ 1000000 from numB_fin (hnum e he) hf)
  have HR := Lib.hid hr; clear hr hp hnum
  obtain ⟨iI, hiI0, hiI1, hiI2, hiI3⟩ := info_parts Try.infoI
  have HCP := Lib.hid (show corP p = corL (cof p) (finK p p.length) from rfl)
  go_enter Try.func30, Try.ntmps30
  go_wp2_with fail
  refine (rtPoints_c ad cap p w HR.out (by omega)).mono ?_
  rintro e w0 ⟨vL, rfl, hrowL, hw0⟩
  obtain ⟨adL, capL, rfl, hrdL⟩ := hrowL.shape
  have hfl := finK_len p p.length
  have hLm := fun y (h : y ∈ finK p p.length) => finK_mem (p := p) (k := p.length) h
  have hLi := finK_inc p p.length
  rw [natL_len]
  generalize finK p p.length = L at hrdL hfl hLm hLi HCP ⊢
  have HRL := Lib.hid hrdL; have HLM := Lib.hid hLm; have HLI := Lib.hid hLi; clear hrdL hrowL hLm hLi
  go_wp2_with fail
  go_loopw [3, 11] (fun v i wr => ∃ k : Nat, k ≤ L.length ∧ i = .int .i64 k ∧ RowI wr w0.heap.size v (natL (corL (cof p) (L.take k))) ∧ Below w0.heap.size w0 wr) (fun _ i _ => L.length - (intOf i).toNat)
  case atStart => exact ⟨0, Nat.zero_le _, rfl, RowI.nil _ _, Below.refl _ _⟩
  case round =>
    obtain ⟨wE, rfl⟩ : ∃ x : World, x = wr := ⟨_, rfl⟩
    obtain ⟨k0, hk0, rfl, hrow, hbel0⟩ := hrel
    have HO := Lib.hid hrow; clear hrow
    have hbel := ball hw0 hbel0
    by_cases hlt0 : k0 < L.length
    case neg =>
      obtain rfl : k0 = L.length := by omega
      rw [List.take_length] at HO
      go_wp2_with fail
      go_ret
      exact ⟨_, rfl, by rw [HCP.out]; exact rowI_lower HO.out hw0.size, hbel⟩
    case pos =>
      obtain ⟨bL, offL, rfl, hbL, cL⟩ := HRL.out k0 (by rw [natL_len]; exact hlt0)
      have dL := bcell hbel0 (p := ⟨bL, offL + k0, none⟩) hbL cL
      rw [natL_getD hlt0] at dL
      clear cL hbL
      have htk : L.take (k0 + 1) = L.take k0 ++ [L.getD k0 0] := by
        rw [List.take_succ_eq_append_getElem hlt0, List.getD_eq_getElem?_getD, List.getElem?_eq_getElem hlt0]; rfl
      have hkm := HLM.out (L.getD k0 0) (by rw [List.getD_eq_getElem?_getD, List.getElem?_eq_getElem hlt0]; exact List.getElem_mem hlt0)
      have hinc : IncL (L.take (k0 + 1)) := List.Pairwise.sublist (List.take_sublist _ _) HLI.out
      have hinc0 : IncL (L.take k0) := List.Pairwise.sublist (List.take_sublist _ _) HLI.out
      rw [htk] at hinc
      have hbefore := fun y (h : y ∈ L.take k0) => (List.pairwise_append.1 hinc).2.2 y h (L.getD k0 0) (by simp)
      have hfk := Lib.hid htk
      obtain ⟨k, hk⟩ : ∃ k, L.getD k0 0 = k := ⟨_, rfl⟩
      rw [hk] at dL hkm hbefore hfk
      have hlt : k < p.length := hkm.1
      have hinf := hkm.2
      have hmem := Lib.hid (fun y (h : y ∈ corL (cof p) (L.take k0)) => (⟨hbefore y (corL_mem hinc0 y h), (HLM.out y (List.mem_of_mem_take (corL_mem hinc0 y h))).2⟩ : y < k ∧ cof p y ≠ 1000000000))
      have hcl : (corL (cof p) (L.take k0)).length ≤ k0 := Nat.le_trans (corL_len (c := cof p) hinc0) (by rw [List.length_take]; omega)
      obtain ⟨b, off, rfl, hb, c0⟩ := HR.out k hlt
      have d0 := bcell hbel hb c0
      clear c0
      have hcx : p.getD k 0 = cof p k := rfl
      rw [hcx] at d0
      have hk0L : k0 ≤ 13 := by omega
      clear hk htk hkm hinc hinc0 hbefore
      have hb0 := hbd.out k hlt hinf
      have HS := Lib.hid (corL_snoc (cof p) (L.take k0) k)
      have hzE := hbel.size
      have HCF := Lib.hid hcx; clear hcx
      obtain ⟨o0, ho0⟩ : ∃ o, corL (cof p) (L.take k0) = o := ⟨_, rfl⟩
      rw [ho0] at HO hmem hcl HS
      obtain ⟨x, hx⟩ : ∃ x, cof p k = x := ⟨_, rfl⟩
      rw [hx] at d0 hb0
      have HX := Lib.hid hx
      clear ho0 hx hinf
      go_wp2_with fail
      go_loopw [3] (fun v wr => ∃ o : List Nat, RowI wr w0.heap.size v (natL o) ∧ (∀ y ∈ o, y < k ∧ cof p y ≠ 1000000000) ∧ o.length ≤ k0 ∧ popF (cof p) o k = popF (cof p) o0 k ∧ Below wE.heap.size wE wr) (fun v _ => lenOf v)
      case atStart => exact ⟨o0, HO.out, hmem.out, hcl, rfl, Below.refl _ _⟩
      case round =>
        obtain ⟨wF, rfl⟩ : ∃ x : World, x = wr := ⟨_, rfl⟩
        obtain ⟨o, hro, hso, hol, hpo, hbF⟩ := hrel
        obtain ⟨adv, capv, rfl, hc1, hc2⟩ := hro.shape2
        have HRO := Lib.hid hro; have HPO := Lib.hid hpo; have HSO := Lib.hid hso; clear hro hpo hso
        have e0 := bcell hbF (Nat.lt_of_lt_of_le hb hbel.size) d0
        have HRF := Lib.hid ((HR.out.below hbel).below hbF)
        rw [natL_len] at hc1 ⊢
        obtain ⟨N, hN⟩ : ∃ N, o.length = N := ⟨_, rfl⟩
        by_cases hle : 1 < o.length
        case neg =>
          rw [hN] at hle hc1 hol ⊢
          have g1 : decide ((1 : Int) < (N : Int)) = false := decide_eq_false (by omega)
          have HEQ := Lib.hid (show corL (cof p) (L.take (k0 + 1)) = o ++ [k] by rw [hfk.out, HS.out, ← HPO.out, popF_stop (by unfold popB; rw [hN, decide_eq_false hle]; rfl)])
          have HN := Lib.hid hN
          have hbw := ball hbel0 hbF
          have hszG := hbw.size
          have HRN : Hid (RowI wF w0.heap.size (.slice adv N capv) (natL o)) := Lib.hid (by have := HRO.out; rwa [natL_len, hN] at this)
          clear hN hle
          go_wp2_with (at_builtin; refine wpList_append_lies _ rfl _ _ 23 rfl w0.heap.size 3 iI _ 1 8 Try.underlying23 hiI0 hiI1 hiI2 hiI3 rfl (by omega) (.slice adv N capv) N (ints (natL o)) rfl ((rowN HRN.out HN.out).alloc _) ⟨wF.heap.size, 0, none⟩ 1 1 [.int .i64 (k : Int)] rfl rfl (World.news_of_block (cs := #[.int .i64 (k : Int)]) (t := 3) (fr := (0, 0)) (heap_alloc_new _ _)) (by simp [Value.oneCell']) (by omega) (by unfold maxLen; omega) (by omega) (by simp; omega) (wF.heap.size + 1) (by simp) ?_; intro g5 cap5 wm hown hgrow hat hlt5; clear hat)
          have hbm0 := app_below hbw hszG (rowN HRN.out HN.out) hgrow
          go_roundw
          case rel => first | exact ⟨k0 + 1, by omega, by go_num, by rw [HEQ.out, natL_snoc]; exact row_congr hown (by simp [natL_len, HN.out]) (by simp [ints]), hbm0⟩ | ((repeat apply Exists.intro); exact ⟨⟨k0 + 1, by omega, by go_num, by rw [HEQ.out, natL_snoc]; exact row_congr hown (by simp [natL_len, HN.out]) (by simp [ints]), hbm0⟩, rfl⟩)
          case measure => simp [intOf]; omega
        case pos =>
          have hrd := HRO.out.rdc
          obtain ⟨i2, hi2⟩ : ∃ i2, o.length = i2 + 2 := ⟨o.length - 2, by omega⟩
          obtain ⟨i1, hi1⟩ : ∃ i1, o.length = i1 + 1 := ⟨o.length - 1, by omega⟩
          obtain ⟨bo, offo, rfl, hbo, p1⟩ := hrd i2 (by rw [natL_len]; omega)
          have q1 := hrd.at (j := i1) (by rw [natL_len]; omega)
          rw [natL_getD (by omega)] at p1 q1
          have m1 := HSO.out (o.getD i2 0) (by rw [List.getD_eq_getElem?_getD, List.getElem?_eq_getElem (by omega)]; exact List.getElem_mem _)
          have m2 := HSO.out (o.getD i1 0) (by rw [List.getD_eq_getElem?_getD, List.getElem?_eq_getElem (by omega)]; exact List.getElem_mem _)
          have hpop : popB (cof p) o k = !(keepQ (cof p) (o.getD i2 0) (o.getD i1 0) k) := by unfold popB; rw [decide_eq_true hle, Bool.true_and, show o.length - 2 = i2 by omega, show o.length - 1 = i1 by omega]
          have hdr := HRO.out.drop (by rw [natL_len]; omega)
          rw [natL_len, show o.length - 1 = i1 by omega, natL_drop] at hdr
          have hdl : o.dropLast.length = i1 := by rw [List.length_dropLast]; omega
          have hdm := Lib.hid (fun y (h : y ∈ o.dropLast) => HSO.out y (List.dropLast_subset o h))
          obtain ⟨a, ha⟩ : ∃ a, o.getD i2 0 = a := ⟨_, rfl⟩
          obtain ⟨b', hb'⟩ : ∃ b, o.getD i1 0 = b := ⟨_, rfl⟩
          rw [ha] at p1 m1 hpop
          rw [hb'] at q1 m2 hpop
          have ba := hbd.out a (by omega) m1.2
          have bb := hbd.out b' (by omega) m2.2
          have ra := HRF.out.at (j := a) (by omega)
          have rb := HRF.out.at (j := b') (by omega)
          have ea : p.getD a 0 = cof p a := rfl
          have eb : p.getD b' 0 = cof p b' := rfl
          rw [ea] at ra
          rw [eb] at rb
          unfold keepQ at hpop
          rw [HX.out] at hpop
          obtain ⟨ca, hca⟩ : ∃ z, cof p a = z := ⟨_, rfl⟩
          obtain ⟨cb, hcb⟩ : ∃ z, cof p b' = z := ⟨_, rfl⟩
          rw [hca] at ra ba hpop
          rw [hcb] at rb bb hpop
          have mm1 := mulbF (K := 2000000) (M := 13) (k := cb - ca) (m := (k : Int) - (a : Int)) (by omega) (by omega) (by omega)
          have mm2 := mulbF (K := 2000000) (M := 13) (k := x - ca) (m := (b' : Int) - (a : Int)) (by omega) (by omega) (by omega)
          have w1 : IntKind.i64.wrap (cb - ca) = cb - ca := i64_small (by omega) (by omega)
          have w2 : IntKind.i64.wrap ((k : Int) - (a : Int)) = (k : Int) - (a : Int) := i64_small (by omega) (by omega)
          have w3 : IntKind.i64.wrap (x - ca) = x - ca := i64_small (by omega) (by omega)
          have w4 : IntKind.i64.wrap ((b' : Int) - (a : Int)) = (b' : Int) - (a : Int) := i64_small (by omega) (by omega)
          have w5 : IntKind.i64.wrap ((cb - ca) * ((k : Int) - (a : Int))) = (cb - ca) * ((k : Int) - (a : Int)) := i64_small (by omega) (by omega)
          have w6 : IntKind.i64.wrap ((x - ca) * ((b' : Int) - (a : Int))) = (x - ca) * ((b' : Int) - (a : Int)) := i64_small (by omega) (by omega)
          obtain ⟨t, ht⟩ : ∃ t, decide ((cb - ca) * ((k : Int) - (a : Int)) < (x - ca) * ((b' : Int) - (a : Int))) = t := ⟨_, rfl⟩
          rw [ht] at hpop
          have y1 : (0 : Int) ≤ (a : Int) := by omega
          have y2 : (a : Int) < (p.length : Int) := by omega
          have y3 : (0 : Int) ≤ (b' : Int) := by omega
          have y4 : (b' : Int) < (p.length : Int) := by omega
          have y5 : (0 : Int) ≤ (k : Int) := by omega
          have y6 : (k : Int) < (p.length : Int) := by omega
          have f2 : (N : Int) - 2 = (i2 : Int) := by omega
          have f1 : (N : Int) - 1 = (i1 : Int) := by omega
          have v2 : IntKind.i64.wrap (i2 : Int) = (i2 : Int) := i64_small (by omega) (by omega)
          have v1 : IntKind.i64.wrap (i1 : Int) = (i1 : Int) := i64_small (by omega) (by omega)
          have x1 : (0 : Int) ≤ (i2 : Int) := by omega
          have x2 : (i2 : Int) < (N : Int) := by omega
          have x3 : (0 : Int) ≤ (i1 : Int) := by omega
          have x4 : (i1 : Int) < (N : Int) := by omega
          have g1 : decide ((1 : Int) < (N : Int)) = true := decide_eq_true (by omega)
          have mc : i1 ≤ capv := by omega
          have mn : i1 < N := by omega
          rw [hN]
          have HPOP := Lib.hid hpop; have HDR := Lib.hid hdr; have HDL := Lib.hid hdl; have HN := Lib.hid hN
          have HRN : Hid (RowI wF w0.heap.size (.slice (some ⟨bo, offo, none⟩) N capv) (natL o)) := Lib.hid (by have := HRO.out; rwa [natL_len, hN] at this)
          rw [hN] at hc1 hol
          clear hpop hdr hdl hN hi1 hi2 ha hb' m1 m2 ba bb ea eb hca hcb mm1 mm2 hle hrd HRO
          have hbw := ball hbel0 hbF
          have hszG := hbw.size
          cases t
          case false =>
            go_wp2_with fail
            go_quiet (fail)
            go_wp2_with fail
            go_quiet (fail)
            go_wp2_with fail
            go_roundw
            case rel => first | exact ⟨o.dropLast, HDR.out.below (bdrewN (Below.refl _ _) _), hdm.out, by rw [HDL.out]; omega, by rw [← popF_go HPOP.out]; exact HPO.out, bdrewN hbF _⟩ | ((repeat apply Exists.intro); exact ⟨⟨o.dropLast, HDR.out, hdm.out, by rw [HDL.out]; omega, by rw [← popF_go HPOP.out]; exact HPO.out, hbF⟩, rfl⟩)
            case measure => simp [lenOf]; omega
          case true =>
            have HEQ := Lib.hid (show corL (cof p) (L.take (k0 + 1)) = o ++ [k] by rw [hfk.out, HS.out, ← HPO.out, popF_stop HPOP.out])
            have hblt : b < wF.heap.size := Nat.lt_of_lt_of_le hb (Nat.le_trans hbel.size hbF.size)
            have ek := e0
            clear d0
            go_wp2_with fail
            go_quiet (fail)
            have hbq := bdrewN (Below.refl wF.heap.size wF) nq
            have ra2 := bcell hbq (p := ⟨b, off + a, none⟩) hblt ra
            have rb2 := bcell hbq (p := ⟨b, off + b', none⟩) hblt rb
            have rk2 := bcell hbq (p := ⟨b, off + k, none⟩) hblt ek
            have HRN2 := Lib.hid (RowI.below HRN.out hbq)
            have hbF2 := bdrewN hbF nq
            clear ra rb ek e0 p1 q1 hbo HRN HRF
            generalize wF.drewN nq = wG at hbq ra2 rb2 rk2 HRN2 hbF2 ⊢
            go_wp2_with fail
            go_quiet (fail)
            have hbq3 := bdrewN (Below.refl wG.heap.size wG) nq
            have HRN3 := Lib.hid (RowI.below HRN2.out hbq3)
            have hbF3 := bdrewN hbF2 nq
            clear ra2 rb2 rk2 HRN2 hbF2
            generalize wG.drewN nq = wH at hbq3 HRN3 hbF3 ⊢
            have hbw3 := ball hbel0 hbF3
            have hsz3 := hbw3.size
            go_wp2_with (at_builtin; refine wpList_append_lies _ rfl _ _ 23 rfl w0.heap.size 3 iI _ 1 8 Try.underlying23 hiI0 hiI1 hiI2 hiI3 rfl (by omega) (.slice (some ⟨bo, offo, none⟩) N capv) N (ints (natL o)) rfl ((rowN HRN3.out HN.out).alloc _) ⟨wH.heap.size, 0, none⟩ 1 1 [.int .i64 (k : Int)] rfl rfl (World.news_of_block (cs := #[.int .i64 (k : Int)]) (t := 3) (fr := (0, 0)) (heap_alloc_new _ _)) (by simp [Value.oneCell']) (by omega) (by unfold maxLen; omega) (by omega) (by simp; omega) (wH.heap.size + 1) (by simp) ?_; intro g5 cap5 wm hown hgrow hat hlt5; clear hat)
            have hbm0 := app_below hbw3 hsz3 (rowN HRN3.out HN.out) hgrow
            go_roundw
            case rel => first | exact ⟨k0 + 1, by omega, by go_num, by rw [HEQ.out, natL_snoc]; exact row_congr hown (by simp [natL_len, HN.out]) (by simp [ints]), hbm0⟩ | ((repeat apply Exists.intro); exact ⟨⟨k0 + 1, by omega, by go_num, by rw [HEQ.out, natL_snoc]; exact row_congr hown (by simp [natL_len, HN.out]) (by simp [ints]), hbm0⟩, rfl⟩)
            case measure => simp [intOf]; omega


end Go.Proofs.Ytekhmjhbdoigoaa
