/-
  Polynomials and their corners: program and reference. Printed by gen_rtI.py.
-/
import Derived.Test.YtekhmjhbdoigoaaRtP
import Derived.Test.YtekhmjhbdoigoaaFrI
import Derived.Test.YtekhmjhbdoigoaaRowI
import Derived.Test.YtekhmjhbdoigoaaNum
import Derived.Deep.DeepCutAuto
import Derived.Deep.QuietTactic
namespace Go.Proofs.Ytekhmjhbdoigoaa
open Go.RowKit

/-- A valid polynomial. -/
def polyB (p : List Int) : Bool := inB p.length 1 13 && (p.all numB && decide (p.getD (p.length - 1) 0 ≠ 1000000000))
theorem polyB_t {p : List Int} (h : polyB p = true) : (1 ≤ p.length ∧ p.length ≤ 13) ∧ (∀ e, e < p.length → numB (p.getD e 0) = true) ∧ p.getD (p.length - 1) 0 ≠ 1000000000 := by
  unfold polyB at h
  obtain ⟨h1, h2⟩ := Bool.and_eq_true_iff.1 h
  obtain ⟨h3, h4⟩ := Bool.and_eq_true_iff.1 h2
  have h1 := inB_t.1 h1
  refine ⟨by omega, fun e he => ?_, of_decide_eq_true h4⟩
  rw [List.getD_eq_getElem?_getD, List.getElem?_eq_getElem he, Option.getD_some]
  exact List.all_eq_true.1 h3 _ (List.getElem_mem he)
def cof (p : List Int) (e : Nat) : Int := p.getD e 0
/-- The exponents less than k whose coefficients are numbers. -/
def finK (p : List Int) (k : Nat) : List Nat := (List.range k).filter fun e => decide (cof p e ≠ 1000000000)
theorem finK_hit {p : List Int} {k : Nat} (h : cof p k ≠ 1000000000) : finK p (k + 1) = finK p k ++ [k] := by simp [finK, List.range_succ, h]
theorem finK_miss {p : List Int} {k : Nat} (h : cof p k = 1000000000) : finK p (k + 1) = finK p k := by simp [finK, List.range_succ, h]
theorem finK_mem {p : List Int} {k y : Nat} (h : y ∈ finK p k) : y < k ∧ cof p y ≠ 1000000000 := by simpa [finK] using h
theorem finK_inc (p : List Int) (k : Nat) : IncL (finK p k) := List.Pairwise.filter _ List.pairwise_lt_range
theorem finK_len (p : List Int) (k : Nat) : (finK p k).length ≤ k := by
  have := List.length_filter_le (fun e => decide (cof p e ≠ 1000000000)) (List.range k)
  simpa [finK] using this
def natL (o : List Nat) : List Int := o.map fun (n : Nat) => (n : Int)
theorem natL_len (o : List Nat) : (natL o).length = o.length := by simp [natL]
theorem natL_getD {o : List Nat} {i : Nat} (h : i < o.length) : (natL o).getD i 0 = ((o.getD i 0 : Nat) : Int) := by
  simp [natL, List.getD_eq_getElem?_getD, List.getElem?_eq_getElem h]
theorem natL_drop (o : List Nat) : (natL o).dropLast = natL o.dropLast := by simp [natL, List.map_dropLast]
theorem natL_snoc (o : List Nat) (k : Nat) : natL (o ++ [k]) = natL o ++ [(k : Int)] := by simp [natL]
/-- The corners, from the least on. -/
def corL (c : Nat → Int) (l : List Nat) : List Nat := (corR c l).reverse
def corP (p : List Int) : List Nat := corL (cof p) (finK p p.length)
def popF (c : Nat → Int) (o : List Nat) (i : Nat) : List Nat := (popR c i o.reverse).reverse
def popB (c : Nat → Int) (o : List Nat) (i : Nat) : Bool := decide (1 < o.length) && !(keepQ c (o.getD (o.length - 2) 0) (o.getD (o.length - 1) 0) i)
theorem corL_snoc (c : Nat → Int) (l : List Nat) (i : Nat) : corL c (l ++ [i]) = popF c (corL c l) i ++ [i] := by
  unfold corL popF
  rw [corR_snoc, List.reverse_reverse, List.reverse_cons]
theorem two_last {o : List Nat} (h : 1 < o.length) : o.reverse = o.getD (o.length - 1) 0 :: o.getD (o.length - 2) 0 :: (o.dropLast.dropLast).reverse ∧ o.dropLast.reverse = o.getD (o.length - 2) 0 :: (o.dropLast.dropLast).reverse := by
  obtain ⟨o1, b, rfl⟩ : ∃ o1 b, o = o1 ++ [b] := ⟨o.dropLast, o.getLast (by intro e; subst e; simp at h), (List.dropLast_concat_getLast _).symm⟩
  obtain ⟨o2, a, rfl⟩ : ∃ o2 a, o1 = o2 ++ [a] := ⟨o1.dropLast, o1.getLast (by intro e; subst e; simp at h), (List.dropLast_concat_getLast _).symm⟩
  simp [List.getD_eq_getElem?_getD]
theorem popF_go {c : Nat → Int} {o : List Nat} {i : Nat} (h : popB c o i = true) : popF c o i = popF c o.dropLast i := by
  unfold popB at h
  obtain ⟨h1, h2⟩ := Bool.and_eq_true_iff.1 h
  obtain ⟨e1, e2⟩ := two_last (of_decide_eq_true h1)
  unfold popF
  rw [e1, e2]
  congr 1
  rw [popR, if_neg (by simpa using h2)]
theorem popF_stop {c : Nat → Int} {o : List Nat} {i : Nat} (h : popB c o i = false) : popF c o i = o := by
  unfold popF
  by_cases h1 : 1 < o.length
  · obtain ⟨e1, e2⟩ := two_last h1
    have h2 : keepQ c (o.getD (o.length - 2) 0) (o.getD (o.length - 1) 0) i = true := by
      unfold popB at h
      rw [decide_eq_true h1] at h
      simpa using h
    have e3 : popR c i o.reverse = o.reverse := by
      rw [e1, popR, if_pos h2]
    rw [e3, List.reverse_reverse]
  · have : o.length = 0 ∨ o.length = 1 := by omega
    rcases this with h0 | h0
    · rw [List.eq_nil_of_length_eq_zero h0]; rfl
    · obtain ⟨a, rfl⟩ := List.length_eq_one_iff.1 h0; rfl
theorem corL_mem {c : Nat → Int} {l : List Nat} (hl : IncL l) : ∀ y ∈ corL c l, y ∈ l := fun y hy => (cor_all l hl).2.1 y (List.mem_reverse.1 hy)
theorem corL_len {c : Nat → Int} {l : List Nat} (hl : IncL l) : (corL c l).length ≤ l.length := by
  have := (cor_all (c := c) l hl).2.2.1
  unfold corL
  rwa [List.length_reverse]
theorem RowI.drop {w : World} {B n cap : Nat} {ad : Option Addr} {l : List Int} (h : RowI w B (.slice ad n cap) l) (h0 : 0 < l.length) : RowI w B (.slice ad (l.length - 1) cap) l.dropLast := by
  rcases h.2 with ⟨e, e2⟩ | ⟨g, cap', cur, e, hb, hg, h1, h2, h3, h4⟩
  · omega
  · injection e with e1 e3 e4
    subst e1; subst e4
    refine ⟨by simp [ints], .inr ⟨g, cap, cur, by rw [List.length_dropLast], hb, hg, by rw [List.length_dropLast]; omega, h2, h3, ?_⟩⟩
    rw [List.length_dropLast, List.dropLast_eq_take]
    have e5 : ints (l.take (l.length - 1)) = (ints l).take (l.length - 1) := by simp [ints, List.map_take]
    rw [e5, ← h4, List.take_take]
    congr 1
    omega
theorem RowI.shape2 {w : World} {B : Nat} {v : Value} {l : List Int} (h : RowI w B v l) : ∃ ad cap, v = .slice ad l.length cap ∧ l.length ≤ cap ∧ cap ≤ maxLen := by
  rcases h.2 with ⟨e, e2⟩ | ⟨g, cap, cur, e, _, _, h1, h2, _⟩
  · exact ⟨none, 0, by rw [e, e2], by omega, by unfold maxLen; omega⟩
  · exact ⟨_, cap, e, h1, h2⟩
theorem RowI.rdc {w : World} {B : Nat} {ad : Option Addr} {n cap : Nat} {l : List Int} (h : RowI w B (.slice ad n cap) l) : RdI w ad l := by
  obtain ⟨ad', cap', e, hr⟩ := h.shape
  injection e with e1 _ _
  subst e1
  exact hr
theorem rowI_empty (w : World) : RowI (w.alloc (.cells #[] 3)) w.heap.size (.slice (some ⟨w.heap.size, 0, none⟩) 0 0) [] :=
  World.ownsRow_made w #[] 0 (Nat.le_refl _) (by decide) rfl
def lenOf : Value → Nat
  | .slice _ n _ => n
  | _ => 0

set_option maxHeartbeats 1600000 in
theorem isPoly_c (ad : Option Addr) (cap : Nat) (p : List Int) (w : World) (hr : RdI w ad p) (hl : p.length ≤ 1048576) :
    Calls Try.prog 23 #[.slice ad p.length cap] w fun e w' => e = .returned (.bool (polyB p)) ∧ w = w' := by
  have c1 := fun w => within_any (p.length : Int) 1 13 w
  have c2 := areNumbers_c ad cap p w hr hl
  have HR := Lib.hid hr; clear hr
  have h13 := fun h => inB_t.1 (show inB (p.length : Int) 1 13 = true from h)
  unfold polyB
  generalize inB (p.length : Int) 1 13 = u at c1 h13 ⊢
  generalize p.all numB = v at c2 ⊢
  have C1 := Lib.hid c1; have C2 := Lib.hid c2; clear c1 c2
  cases u
  case false =>
    clear h13
    rw [Bool.false_and]
    go_enter Try.func23, Try.ntmps23
    go_wp2_with fail
    refine (C1.out _).mono ?_
    rintro e w1 ⟨rfl, rfl⟩
    go_wp2_with fail
    go_ret
    exact ⟨rfl, rfl⟩
  case true =>
    have hlen := h13 rfl
    clear h13
    cases v
    case false =>
      rw [Bool.false_and, Bool.and_false]
      go_enter Try.func23, Try.ntmps23
      go_wp2_with fail
      refine (C1.out _).mono ?_
      rintro e w1 ⟨rfl, rfl⟩
      go_wp2_with fail
      refine C2.out.mono ?_
      rintro e w1 ⟨rfl, rfl⟩
      go_wp2_with fail
      go_ret
      exact ⟨rfl, rfl⟩
    case true =>
      obtain ⟨m, hm⟩ : ∃ m, p.length = m + 1 := ⟨p.length - 1, by omega⟩
      obtain ⟨b, off, rfl, hb, c0⟩ := HR.out m (by omega)
      rw [show p.length - 1 = m by omega]
      generalize p.getD m 0 = x at c0 ⊢
      obtain ⟨n, hn⟩ : ∃ n, p.length = n := ⟨_, rfl⟩
      rw [hn] at C1 C2 hlen hm ⊢
      have en : (n : Int) - 1 = (m : Int) := by omega
      have wn : IntKind.i64.wrap (m : Int) = (m : Int) := i64_small (by omega) (by omega)
      have x1 : (0 : Int) ≤ (m : Int) := by omega
      have x2 : (m : Int) < (n : Int) := by omega
      have hq : (x != 1000000000) = decide (x ≠ 1000000000) := by by_cases h : x = 1000000000 <;> simp [h]
      have hq2 : (!(x == 1000000000)) = decide (x ≠ 1000000000) := by by_cases h : x = 1000000000 <;> simp [h]
      generalize decide (x ≠ 1000000000) = q at hq hq2 ⊢
      clear hn hm HR hlen
      go_enter Try.func23, Try.ntmps23
      go_wp2_with fail
      refine (C1.out _).mono ?_
      rintro e w1 ⟨rfl, rfl⟩
      go_wp2_with fail
      refine C2.out.mono ?_
      rintro e w1 ⟨rfl, rfl⟩
      go_wp2_with fail
      go_ret
      exact ⟨rfl, rfl⟩
theorem rowN {w : World} {B : Nat} {v : Value} {o : List Nat} {N : Nat} (h : RowI w B v (natL o)) (e : o.length = N) : w.ownsRow B 3 1 v N (ints (natL o)) := by
  subst e
  have := h
  unfold RowI at this
  rwa [natL_len] at this
set_option maxHeartbeats 6400000 in
set_option maxRecDepth 100000 in
theorem corners_c (ad : Option Addr) (cap : Nat) (p : List Int) (w : World) (hr : RdI w ad p) (hp : polyB p = true) :
    Calls Try.prog 31 #[.slice ad p.length cap] w fun e w' => ∃ v, e = .returned v ∧ RowI w' w.heap.size v (natL (corP p)) ∧ Below w.heap.size w w' := by
  obtain ⟨⟨hp1, hp2⟩, hnum, -⟩ := polyB_t hp
  have hbd := Lib.hid (fun e (he : e < p.length) (hf : cof p e ≠ 1000000000) => show -1000000 ≤ cof p e ∧ cof p e ≤ 1000000 from numB_fin (hnum e he) hf)
  have HR := Lib.hid hr; clear hr hp hnum
  obtain ⟨iI, hiI0, hiI1, hiI2, hiI3⟩ := info_parts Try.infoI
  go_enter Try.func31, Try.ntmps31
  go_wp2_with fail
  go_loopw [3, 11] (fun v i wr => ∃ k : Nat, k ≤ p.length ∧ i = .int .i64 k ∧ RowI wr w.heap.size v (natL (corL (cof p) (finK p k))) ∧ Below w.heap.size w wr) (fun _ i _ => p.length - (intOf i).toNat)
  case atStart => exact ⟨0, Nat.zero_le _, rfl, rowI_empty w, (Below.refl _ _).alloc (Nat.le_refl _) _⟩
  case round =>
    obtain ⟨wE, rfl⟩ : ∃ x : World, x = wr := ⟨_, rfl⟩
    obtain ⟨k, hk, rfl, hrow, hbel⟩ := hrel
    have HO := Lib.hid hrow; clear hrow
    by_cases hlt : k < p.length
    case neg =>
      obtain rfl : k = p.length := by omega
      go_wp2_with fail
      go_ret
      exact ⟨_, rfl, HO.out, hbel⟩
    case pos =>
      obtain ⟨b, off, rfl, hb, c0⟩ := HR.out k hlt
      have d0 := bcell hbel hb c0
      clear c0
      have hcx : p.getD k 0 = cof p k := rfl
      rw [hcx] at d0
      by_cases hinf : cof p k = 1000000000
      case pos =>
        have hfk := Lib.hid (finK_miss hinf)
        rw [hinf] at d0
        clear hinf hcx
        go_wp2_with fail
        go_roundw
        case rel => exact ⟨k + 1, by omega, by go_num, by rw [hfk.out]; exact HO.out, hbel⟩
        case measure => simp [intOf]; omega
      case neg =>
        have hfk := Lib.hid (finK_hit hinf)
        have hb0 := hbd.out k hlt hinf
        have hmem := Lib.hid (fun y (h : y ∈ corL (cof p) (finK p k)) => finK_mem (corL_mem (finK_inc p k) y h))
        have hcl := Nat.le_trans (corL_len (c := cof p) (finK_inc p k)) (finK_len p k)
        have g0 : (cof p k == 1000000000) = false := beq_eq_false_iff_ne.2 hinf
        have HS := Lib.hid (corL_snoc (cof p) (finK p k) k)
        have hzE := hbel.size
        have HCF := Lib.hid hcx; clear hcx
        obtain ⟨o0, ho0⟩ : ∃ o, corL (cof p) (finK p k) = o := ⟨_, rfl⟩
        rw [ho0] at HO hmem hcl HS
        obtain ⟨x, hx⟩ : ∃ x, cof p k = x := ⟨_, rfl⟩
        rw [hx] at d0 hb0 g0
        have HX := Lib.hid hx
        clear ho0 hx hinf
        go_wp2_with fail
        go_loopw [3] (fun v wr => ∃ o : List Nat, RowI wr w.heap.size v (natL o) ∧ (∀ y ∈ o, y < k ∧ cof p y ≠ 1000000000) ∧ o.length ≤ k ∧ popF (cof p) o k = popF (cof p) o0 k ∧ Below wE.heap.size wE wr) (fun v _ => lenOf v)
        case atStart => exact ⟨o0, HO.out, hmem.out, hcl, rfl, Below.refl _ _⟩
        case round =>
          obtain ⟨wF, rfl⟩ : ∃ x : World, x = wr := ⟨_, rfl⟩
          obtain ⟨o, hro, hso, hol, hpo, hbF⟩ := hrel
          obtain ⟨adv, capv, rfl, hc1, hc2⟩ := hro.shape2
          have HRO := Lib.hid hro; have HPO := Lib.hid hpo; have HSO := Lib.hid hso; clear hro hpo hso
          have e0 := bcell hbF (Nat.lt_of_lt_of_le hb hbel.size) d0
          have HRF := Lib.hid ((HR.out.below hbel).below hbF)
          rw [natL_len] at hc1 ⊢
          obtain ⟨N, hN⟩ : ∃ N, o.length = N := ⟨_, rfl⟩
          by_cases hle : 1 < o.length
          case neg =>
            rw [hN] at hle hc1 hol ⊢
            have g1 : decide ((1 : Int) < (N : Int)) = false := decide_eq_false (by omega)
            have HEQ := Lib.hid (show corL (cof p) (finK p (k + 1)) = o ++ [k] by rw [hfk.out, HS.out, ← HPO.out, popF_stop (by unfold popB; rw [hN, decide_eq_false hle]; rfl)])
            have HN := Lib.hid hN
            have hbw := ball hbel hbF
            have hszG := hbw.size
            have HRN : Hid (RowI wF w.heap.size (.slice adv N capv) (natL o)) := Lib.hid (by have := HRO.out; rwa [natL_len, hN] at this)
            clear hN hle
            go_wp2_with (at_builtin; refine wpList_append_lies _ rfl _ _ 23 rfl w.heap.size 3 iI _ 1 8 Try.underlying23 hiI0 hiI1 hiI2 hiI3 rfl (by omega) (.slice adv N capv) N (ints (natL o)) rfl ((rowN HRN.out HN.out).alloc _) ⟨wF.heap.size, 0, none⟩ 1 1 [.int .i64 (k : Int)] rfl rfl (World.news_of_block (cs := #[.int .i64 (k : Int)]) (t := 3) (fr := (0, 0)) (heap_alloc_new _ _)) (by simp [Value.oneCell']) (by omega) (by unfold maxLen; omega) (by omega) (by simp; omega) (wF.heap.size + 1) (by simp) ?_; intro g5 cap5 wm hown hgrow hat hlt5; clear hat)
            have hbm := app_below hbw hszG (rowN HRN.out HN.out) hgrow
            go_roundw
            case rel => first | exact ⟨k + 1, by omega, by go_num, by rw [HEQ.out, natL_snoc]; exact row_congr hown (by simp [natL_len, HN.out]) (by simp [ints]), hbm⟩ | ((repeat apply Exists.intro); exact ⟨⟨k + 1, by omega, by go_num, by rw [HEQ.out, natL_snoc]; exact row_congr hown (by simp [natL_len, HN.out]) (by simp [ints]), hbm⟩, rfl⟩)
            case measure => simp [intOf]; omega
          case pos =>
            have hrd := HRO.out.rdc
            obtain ⟨i2, hi2⟩ : ∃ i2, o.length = i2 + 2 := ⟨o.length - 2, by omega⟩
            obtain ⟨i1, hi1⟩ : ∃ i1, o.length = i1 + 1 := ⟨o.length - 1, by omega⟩
            obtain ⟨bo, offo, rfl, hbo, p1⟩ := hrd i2 (by rw [natL_len]; omega)
            have q1 := hrd.at (j := i1) (by rw [natL_len]; omega)
            rw [natL_getD (by omega)] at p1 q1
            have m1 := HSO.out (o.getD i2 0) (by rw [List.getD_eq_getElem?_getD, List.getElem?_eq_getElem (by omega)]; exact List.getElem_mem _)
            have m2 := HSO.out (o.getD i1 0) (by rw [List.getD_eq_getElem?_getD, List.getElem?_eq_getElem (by omega)]; exact List.getElem_mem _)
            have hpop : popB (cof p) o k = !(keepQ (cof p) (o.getD i2 0) (o.getD i1 0) k) := by unfold popB; rw [decide_eq_true hle, Bool.true_and, show o.length - 2 = i2 by omega, show o.length - 1 = i1 by omega]
            have hdr := HRO.out.drop (by rw [natL_len]; omega)
            rw [natL_len, show o.length - 1 = i1 by omega, natL_drop] at hdr
            have hdl : o.dropLast.length = i1 := by rw [List.length_dropLast]; omega
            have hdm := Lib.hid (fun y (h : y ∈ o.dropLast) => HSO.out y (List.dropLast_subset o h))
            obtain ⟨a, ha⟩ : ∃ a, o.getD i2 0 = a := ⟨_, rfl⟩
            obtain ⟨b', hb'⟩ : ∃ b, o.getD i1 0 = b := ⟨_, rfl⟩
            rw [ha] at p1 m1 hpop
            rw [hb'] at q1 m2 hpop
            have ba := hbd.out a (by omega) m1.2
            have bb := hbd.out b' (by omega) m2.2
            have ra := HRF.out.at (j := a) (by omega)
            have rb := HRF.out.at (j := b') (by omega)
            have ea : p.getD a 0 = cof p a := rfl
            have eb : p.getD b' 0 = cof p b' := rfl
            rw [ea] at ra
            rw [eb] at rb
            unfold keepQ at hpop
            rw [HX.out] at hpop
            obtain ⟨ca, hca⟩ : ∃ z, cof p a = z := ⟨_, rfl⟩
            obtain ⟨cb, hcb⟩ : ∃ z, cof p b' = z := ⟨_, rfl⟩
            rw [hca] at ra ba hpop
            rw [hcb] at rb bb hpop
            have mm1 := mulbF (K := 2000000) (M := 13) (k := cb - ca) (m := (k : Int) - (a : Int)) (by omega) (by omega) (by omega)
            have mm2 := mulbF (K := 2000000) (M := 13) (k := x - ca) (m := (b' : Int) - (a : Int)) (by omega) (by omega) (by omega)
            have w1 : IntKind.i64.wrap (cb - ca) = cb - ca := i64_small (by omega) (by omega)
            have w2 : IntKind.i64.wrap ((k : Int) - (a : Int)) = (k : Int) - (a : Int) := i64_small (by omega) (by omega)
            have w3 : IntKind.i64.wrap (x - ca) = x - ca := i64_small (by omega) (by omega)
            have w4 : IntKind.i64.wrap ((b' : Int) - (a : Int)) = (b' : Int) - (a : Int) := i64_small (by omega) (by omega)
            have w5 : IntKind.i64.wrap ((cb - ca) * ((k : Int) - (a : Int))) = (cb - ca) * ((k : Int) - (a : Int)) := i64_small (by omega) (by omega)
            have w6 : IntKind.i64.wrap ((x - ca) * ((b' : Int) - (a : Int))) = (x - ca) * ((b' : Int) - (a : Int)) := i64_small (by omega) (by omega)
            obtain ⟨t, ht⟩ : ∃ t, decide ((cb - ca) * ((k : Int) - (a : Int)) < (x - ca) * ((b' : Int) - (a : Int))) = t := ⟨_, rfl⟩
            rw [ht] at hpop
            have y1 : (0 : Int) ≤ (a : Int) := by omega
            have y2 : (a : Int) < (p.length : Int) := by omega
            have y3 : (0 : Int) ≤ (b' : Int) := by omega
            have y4 : (b' : Int) < (p.length : Int) := by omega
            have f2 : (N : Int) - 2 = (i2 : Int) := by omega
            have f1 : (N : Int) - 1 = (i1 : Int) := by omega
            have v2 : IntKind.i64.wrap (i2 : Int) = (i2 : Int) := i64_small (by omega) (by omega)
            have v1 : IntKind.i64.wrap (i1 : Int) = (i1 : Int) := i64_small (by omega) (by omega)
            have x1 : (0 : Int) ≤ (i2 : Int) := by omega
            have x2 : (i2 : Int) < (N : Int) := by omega
            have x3 : (0 : Int) ≤ (i1 : Int) := by omega
            have x4 : (i1 : Int) < (N : Int) := by omega
            have g1 : decide ((1 : Int) < (N : Int)) = true := decide_eq_true (by omega)
            have mc : i1 ≤ capv := by omega
            have mn : i1 < N := by omega
            rw [hN]
            have HPOP := Lib.hid hpop; have HDR := Lib.hid hdr; have HDL := Lib.hid hdl; have HN := Lib.hid hN
            have HRN : Hid (RowI wF w.heap.size (.slice (some ⟨bo, offo, none⟩) N capv) (natL o)) := Lib.hid (by have := HRO.out; rwa [natL_len, hN] at this)
            rw [hN] at hc1 hol
            clear hpop hdr hdl hN hi1 hi2 ha hb' m1 m2 ba bb ea eb hca hcb mm1 mm2 hle hrd HRO
            have hbw := ball hbel hbF
            have hszG := hbw.size
            cases t
            case false =>
              go_wp2_with fail
              go_quiet (fail)
              go_wp2_with fail
              go_quiet (fail)
              go_wp2_with fail
              go_roundw
              case rel => first | exact ⟨o.dropLast, HDR.out.below (bdrewN (Below.refl _ _) _), hdm.out, by rw [HDL.out]; omega, by rw [← popF_go HPOP.out]; exact HPO.out, bdrewN hbF _⟩ | ((repeat apply Exists.intro); exact ⟨⟨o.dropLast, HDR.out, hdm.out, by rw [HDL.out]; omega, by rw [← popF_go HPOP.out]; exact HPO.out, hbF⟩, rfl⟩)
              case measure => simp [lenOf]; omega
            case true =>
              have HEQ := Lib.hid (show corL (cof p) (finK p (k + 1)) = o ++ [k] by rw [hfk.out, HS.out, ← HPO.out, popF_stop HPOP.out])
              have hblt : b < wF.heap.size := Nat.lt_of_lt_of_le hb (Nat.le_trans hbel.size hbF.size)
              clear e0 d0
              go_wp2_with fail
              go_quiet (fail)
              have hbq := bdrewN (Below.refl wF.heap.size wF) nq
              have ra2 := bcell hbq (p := ⟨b, off + a, none⟩) hblt ra
              have rb2 := bcell hbq (p := ⟨b, off + b', none⟩) hblt rb
              have HRN2 := Lib.hid (RowI.below HRN.out hbq)
              have hbF2 := bdrewN hbF nq
              clear ra rb p1 q1 hbo HRN HRF
              generalize wF.drewN nq = wG at hbq ra2 rb2 HRN2 hbF2 ⊢
              go_wp2_with fail
              go_quiet (fail)
              have hbq3 := bdrewN (Below.refl wG.heap.size wG) nq
              have HRN3 := Lib.hid (RowI.below HRN2.out hbq3)
              have hbF3 := bdrewN hbF2 nq
              clear ra2 rb2 HRN2 hbF2
              generalize wG.drewN nq = wH at hbq3 HRN3 hbF3 ⊢
              have hbw3 := ball hbel hbF3
              have hsz3 := hbw3.size
              go_wp2_with (at_builtin; refine wpList_append_lies _ rfl _ _ 23 rfl w.heap.size 3 iI _ 1 8 Try.underlying23 hiI0 hiI1 hiI2 hiI3 rfl (by omega) (.slice (some ⟨bo, offo, none⟩) N capv) N (ints (natL o)) rfl ((rowN HRN3.out HN.out).alloc _) ⟨wH.heap.size, 0, none⟩ 1 1 [.int .i64 (k : Int)] rfl rfl (World.news_of_block (cs := #[.int .i64 (k : Int)]) (t := 3) (fr := (0, 0)) (heap_alloc_new _ _)) (by simp [Value.oneCell']) (by omega) (by unfold maxLen; omega) (by omega) (by simp; omega) (wH.heap.size + 1) (by simp) ?_; intro g5 cap5 wm hown hgrow hat hlt5; clear hat)
              have hbm := app_below hbw3 hsz3 (rowN HRN3.out HN.out) hgrow
              go_roundw
              case rel => first | exact ⟨k + 1, by omega, by go_num, by rw [HEQ.out, natL_snoc]; exact row_congr hown (by simp [natL_len, HN.out]) (by simp [ints]), hbm⟩ | ((repeat apply Exists.intro); exact ⟨⟨k + 1, by omega, by go_num, by rw [HEQ.out, natL_snoc]; exact row_congr hown (by simp [natL_len, HN.out]) (by simp [ints]), hbm⟩, rfl⟩)
              case measure => simp [intOf]; omega

end Go.Proofs.Ytekhmjhbdoigoaa
