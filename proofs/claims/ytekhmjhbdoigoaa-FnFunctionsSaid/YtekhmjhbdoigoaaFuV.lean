/-
  Values at a fraction: program and reference. Printed by gen_fuV.py.
-/
import Derived.Test.YtekhmjhbdoigoaaFuA
import Derived.Test.YtekhmjhbdoigoaaRtV
import Derived.Test.YtekhmjhbdoigoaaRtE
namespace Go.Proofs.Ytekhmjhbdoigoaa
open Go.RowKit

/-- A term's step and value, and whether they are fractions. -/
def sV (f : Fr) (e : Nat) : Fr := lowF ((e : Int) * f.n) (1 * f.d)
def sB (f : Fr) (e : Nat) : Bool := mkB ((e : Int) * f.n) (1 * f.d)
def sW (f : Fr) (e : Nat) : Fr := if sB f e = true then sV f e else Fr.z
def tV (p : List Int) (f : Fr) (e : Nat) : Fr := lowF (addN ⟨cof p e, 1⟩ (sW f e)) (1 * (sW f e).d)
def tK (p : List Int) (f : Fr) (e : Nat) : Bool := mkB (addN ⟨cof p e, 1⟩ (sW f e)) (1 * (sW f e).d)
def tB (p : List Int) (f : Fr) (e : Nat) : Bool := sB f e && tK p f e
def tW (p : List Int) (f : Fr) (e : Nat) : Fr := if tK p f e = true then tV p f e else Fr.z
/-- The least one, the first of equals. -/
def bstN (b : Option Fr) (v : Fr) : Option Fr := match b with
  | none => some v
  | some b => if cmpF v b < 0 then some v else some b
def bst (t : Nat → Fr) (l : List Nat) : Option Fr := l.foldl (fun b e => bstN b (t e)) none
theorem bst_snoc (t : Nat → Fr) (l : List Nat) (e : Nat) : bst t (l ++ [e]) = bstN (bst t l) (t e) := by simp [bst]
theorem bst_good {t : Nat → Fr} : ∀ {l : List Nat}, (∀ e ∈ l, frB (t e) = true) → ∀ b, bst t l = some b → frB b = true := by
  intro l
  suffices H : ∀ (l : List Nat) (o : Option Fr), (∀ b, o = some b → frB b = true) → (∀ e ∈ l, frB (t e) = true) → ∀ b, l.foldl (fun b e => bstN b (t e)) o = some b → frB b = true from fun h => H l none (fun b hb => by cases hb) h
  intro l
  induction l with
  | nil => intro o ho _ b hb; exact ho b hb
  | cons a l ih =>
    intro o ho hl b hb
    refine ih _ (fun c hc => ?_) (fun e he => hl e (List.mem_cons_of_mem _ he)) b hb
    have ha := hl a (by simp)
    cases o with
    | none => simp only [bstN, Option.some.injEq] at hc; rw [← hc]; exact ha
    | some q =>
      simp only [bstN] at hc
      split at hc
      · rw [← Option.some.inj hc]; exact ha
      · rw [← Option.some.inj hc]; exact ho q rfl
theorem bst_some {t : Nat → Fr} {l : List Nat} : (bst t l).isSome = decide (l ≠ []) := by
  rcases List.eq_nil_or_concat l with rfl | ⟨l', e, rfl⟩
  · rfl
  · rw [List.concat_eq_append, bst_snoc]
    have : (bstN (bst t l') (t e)).isSome = true := by
      unfold bstN
      split
      · rfl
      · split <;> rfl
    rw [this]
    simp
theorem bst_congr {t t' : Nat → Fr} : ∀ (l : List Nat), (∀ e ∈ l, t e = t' e) → bst t l = bst t' l := by
  intro l
  suffices H : ∀ (l : List Nat) (o : Option Fr), (∀ e ∈ l, t e = t' e) → l.foldl (fun b e => bstN b (t e)) o = l.foldl (fun b e => bstN b (t' e)) o from fun h => H l none h
  intro l
  induction l with
  | nil => intro o _; rfl
  | cons a l ih => intro o h; rw [List.foldl_cons, List.foldl_cons, h a (by simp), ih _ (fun e he => h e (List.mem_cons_of_mem _ he))]
def vafB (p : List Int) (f : Fr) : Bool := (polyB p && frB f) && (finK p p.length).all (tB p f)
def vafF (p : List Int) (f : Fr) : Fr := (bst (tV p f) (finK p p.length)).getD Fr.z
theorem cof_inB {p : List Int} (hp : polyB p = true) {e : Nat} (he : e < p.length) (h : cof p e ≠ 1000000000) : -1000000 ≤ cof p e ∧ cof p e ≤ 1000000 := by
  have := numB_t ((polyB_t hp).2.1 e he)
  have e1 : p.getD e 0 = cof p e := rfl
  rw [e1] at this
  omega
set_option maxHeartbeats 12800000 in
set_option maxRecDepth 100000 in
theorem iValueAtFrac_c (ad : Option Addr) (cap : Nat) (p : List Int) (f : Fr) (w : World) (hr : RdI w ad p) (hl : p.length ≤ 1048576) :
    Calls Try.prog 19 #[.slice ad p.length cap, frV f] w fun e w' => e = .returned (frR (vafF p f) (vafB p f)) ∧ Below w.heap.size w w' := by
  have c1 := fun w hr => isPoly_c ad cap p w hr hl
  have c2 := fun w => isFrac_c f w
  have HR := Lib.hid hr; clear hr
  obtain ⟨u, hu⟩ : ∃ u, polyB p = u := ⟨_, rfl⟩
  obtain ⟨v, hv⟩ : ∃ v, frB f = v := ⟨_, rfl⟩
  unfold vafB
  rw [hu, hv]
  rw [hv] at c2
  simp only [hu] at c1
  obtain ⟨a, b⟩ := f
  unfold frV at c2 ⊢
  simp only at c2 ⊢
  have C1 := Lib.hid c1; have C2 := Lib.hid c2; clear c1 c2
  have hbx : Below w.heap.size w (w.alloc (.cells #[.int .i64 a, .int .i64 b] 38)) := (Below.refl _ _).alloc (Nat.le_refl _) _
  have hb0 : Below w.heap.size w ((w.alloc (.cells #[.int .i64 a, .int .i64 b] 38)).alloc (.cells #[.int .i64 0, .int .i64 0] 38)) := hbx.alloc (by simp) _
  have oF : FrO _ w.heap.size ⟨a, b⟩ := (FrO.new w a b rfl).alloc (.cells #[.int .i64 0, .int .i64 0] 38)
  have oZ : FrO _ (w.heap.size + 1) ⟨0, 0⟩ := FrO.new (w.alloc (.cells #[.int .i64 a, .int .i64 b] 38)) 0 0 (by simp)
  have HR0 := Lib.hid (HR.out.below hb0)
  cases u
  case false =>
    rw [Bool.false_and, Bool.false_and, frR_f]
    unfold frV Fr.z
    have HU := Lib.hid hu; have HV := Lib.hid hv; clear hu hv hbx
    go_enter Try.func19, Try.ntmps19
    go_wp2_with fail
    refine (C1.out _ HR0.out).mono ?_
    rintro e w1 ⟨rfl, rfl⟩
    obtain ⟨x0, x1⟩ := oZ.at
    obtain ⟨y0, y1⟩ := oZ.fr
    go_wp2_with fail
    obtain ⟨W, hW, ⟨q0, q1⟩, hB⟩ := fr2_end (u := w) (a := 0) (b := 0) oZ hb0 (by omega)
    unfold fr2 at hW
    first
      | (rw [hW]; exact bodyPost_ret (v := .tuple #[.agg #[.int .i64 0, .int .i64 0], .bool false]) (by simp [results, Try.results19, go_sem, q0, q1]) rfl ⟨rfl, hB⟩)
      | exact bodyPost_ret (v := .tuple #[.agg #[.int .i64 0, .int .i64 0], .bool false]) (by simp [results, Try.results19, go_sem]) rfl ⟨rfl, hb0⟩
  case true =>
    cases v
    case false =>
      rw [Bool.and_false, Bool.false_and, frR_f]
      unfold frV Fr.z
      have HU := Lib.hid hu; have HV := Lib.hid hv; clear hu hv hbx
      go_enter Try.func19, Try.ntmps19
      go_wp2_with fail
      refine (C1.out _ HR0.out).mono ?_
      rintro e w1 ⟨rfl, rfl⟩
      obtain ⟨f0, f1⟩ := oF.at
      go_wp2_with fail
      refine (C2.out _).mono ?_
      rintro e w1 ⟨rfl, hw1⟩
      have o1 := oZ.below hw1
      have hb1 := hb0.trans (hw1.mono hb0.size)
      clear f0 f1
      obtain ⟨x0, x1⟩ := o1.at
      obtain ⟨y0, y1⟩ := o1.fr
      go_wp2_with fail
      obtain ⟨W, hW, ⟨q0, q1⟩, hB⟩ := fr2_end (u := w) (a := 0) (b := 0) o1 hb1 (by omega)
      unfold fr2 at hW
      first
        | (rw [hW]; exact bodyPost_ret (v := .tuple #[.agg #[.int .i64 0, .int .i64 0], .bool false]) (by simp [results, Try.results19, go_sem, q0, q1]) rfl ⟨rfl, hB⟩)
        | exact bodyPost_ret (v := .tuple #[.agg #[.int .i64 0, .int .i64 0], .bool false]) (by simp [results, Try.results19, go_sem]) rfl ⟨rfl, hb1⟩
    case true =>
      rw [Bool.and_self, Bool.true_and]
      have hp := hu
      have hpl := (polyB_t hp).1
      have HF := Lib.hid hv
      have HP := Lib.hid hp
      clear hu hv hp hbx
      go_enter Try.func19, Try.ntmps19
      go_wp2_with fail
      refine (C1.out _ HR0.out).mono ?_
      rintro e w1 ⟨rfl, rfl⟩
      obtain ⟨f0, f1⟩ := oF.at
      go_wp2_with fail
      refine (C2.out _).mono ?_
      rintro e w1 ⟨rfl, hw1⟩
      have oF1 := oF.below hw1
      have oZ1 := oZ.below hw1
      have hb1 := hb0.trans (hw1.mono hb0.size)
      have HR1 := Lib.hid (HR0.out.below hw1)
      have hb2 := hb1.alloc hb1.size (.cells #[.int .i64 0, .int .i64 0] 38)
      have oF2 := oF1.alloc (.cells #[.int .i64 0, .int .i64 0] 38)
      have oZ2 := oZ1.alloc (.cells #[.int .i64 0, .int .i64 0] 38)
      have oM : FrO _ w1.heap.size ⟨0, 0⟩ := FrO.new w1 0 0 rfl
      have HR2 := Lib.hid (HR1.out.below ((Below.refl w1.heap.size w1).alloc (Nat.le_refl _) (.cells #[.int .i64 0, .int .i64 0] 38)))
      have nF : w.heap.size < w1.heap.size := oF1.lt
      have nZ : w.heap.size + 1 < w1.heap.size := oZ1.lt
      clear f0 f1 hw1 hb0 hb1 oF oZ oF1 oZ1 HR0 HR1 C1 C2
      go_wp2_with fail
      generalize w1.alloc (.cells #[.int .i64 0, .int .i64 0] 38) = wG at hb2 oF2 oZ2 oM HR2 ⊢
      obtain ⟨gm, hgm⟩ : ∃ g, w1.heap.size = g := ⟨_, rfl⟩
      obtain ⟨gz, hgz⟩ : ∃ g, w.heap.size + 1 = g := ⟨_, rfl⟩
      rw [hgm] at oM nF nZ ⊢
      rw [hgz] at oZ2 nZ ⊢
      have hzw : w.heap.size ≤ gz := by omega
      have hfz : w.heap.size ≠ gm := by omega
      have hzm : gz ≠ gm := by omega
      have hmw : w.heap.size ≤ gm := by omega
      obtain ⟨N, hN⟩ : ∃ N, p.length = N := ⟨_, rfl⟩
      have hN13 : N ≤ 13 := by omega
      have HN := Lib.hid hN
      clear hgm hgz hpl nF nZ
      rw [hN]
      have HLEN := Lib.hid hN
      clear hN
      go_loopw [7, 26] (fun q i wr => ∃ k : Nat, k ≤ N ∧ i = .int .i64 k ∧ q = .bool (bst (tV p ⟨a, b⟩) (finK p k)).isSome ∧ (finK p k).all (tB p ⟨a, b⟩) = true ∧ FrO wr w.heap.size ⟨a, b⟩ ∧ FrO wr gz ⟨0, 0⟩ ∧ FrO wr gm ((bst (tV p ⟨a, b⟩) (finK p k)).getD Fr.z) ∧ Below w.heap.size w wr) (fun _ i _ => N - (intOf i).toNat)
      case atStart => exact ⟨0, Nat.zero_le _, rfl, rfl, rfl, oF2, oZ2, oM, hb2⟩
      case round =>
        obtain ⟨wE, rfl⟩ : ∃ y : World, y = wr := ⟨_, rfl⟩
        obtain ⟨k, hk, rfl, rfl, hall, hoF, hoZ, hoM, hbw⟩ := hrel
        have hrd := HR.out.below hbw
        clear oF2 oZ2 oM HR2 hb2
        by_cases hlt : k < N
        case neg =>
          obtain rfl : k = N := by omega
          have hvf : (bst (tV p ⟨a, b⟩) (finK p k)).getD Fr.z = vafF p ⟨a, b⟩ := by unfold vafF; rw [HN.out]
          have hres : frR (vafF p ⟨a, b⟩) ((finK p p.length).all (tB p ⟨a, b⟩)) = .tuple #[frV (vafF p ⟨a, b⟩), .bool true] := by rw [HN.out, hall, frR_t]
          have HRES := Lib.hid hres; clear hres
          rw [hvf] at hoM
          obtain ⟨M, hM⟩ : ∃ M, vafF p ⟨a, b⟩ = M := ⟨_, rfl⟩
          rw [hM] at hoM HRES
          obtain ⟨ma, mb⟩ := M
          have HM := Lib.hid hM; clear hM
          obtain ⟨x0, x1⟩ := hoM.at
          obtain ⟨y0, y1⟩ := hoZ.fr
          obtain ⟨z0, z1⟩ := hoZ.at
          clear hall hvf hrd
          go_wp2_with fail
          obtain ⟨W, hW, ⟨q0, q1⟩, hB⟩ := fr2_end (u := w) (a := ma) (b := mb) hoZ hbw hzw
          unfold fr2 at hW
          rw [hW]
          exact bodyPost_ret (v := .tuple #[.agg #[.int .i64 ma, .int .i64 mb], .bool true]) (by simp [results, Try.results19, go_sem, q0, q1]) rfl ⟨by rw [HM.out, HRES.out]; rfl, hB⟩
        case pos =>
          have hklen : k < p.length := by have := HN.out; omega
          have hpb := HP.out
          obtain ⟨bp, off, rfl, hbp, c0⟩ := hrd k hklen
          rw [show p.getD k 0 = cof p k from rfl] at c0
          have x1 : (0 : Int) ≤ (k : Int) := by omega
          have x2 : (k : Int) < (N : Int) := by omega
          have x3 : IntKind.i64.wrap ((k : Int) + 1) = ((k + 1 : Nat) : Int) := by rw [i64_small (by omega) (by omega)]; omega
          by_cases hinf : cof p k = 1000000000
          case pos =>
            have hfk := finK_miss hinf
            rw [hinf] at c0
            rw [← hfk] at hall hoM ⊢
            obtain ⟨qs, hqs⟩ : ∃ q, (bst (tV p ⟨a, b⟩) (finK p (k + 1))).isSome = q := ⟨_, rfl⟩
            rw [hqs]
            have HQS := Lib.hid hqs; have HA := Lib.hid hall
            clear hinf hall hfk hpb hklen hqs
            go_wp2_with fail
            go_roundw
            case rel => exact ⟨k + 1, by omega, by go_num, by rw [HQS.out], HA.out, hoF, hoZ, hoM, hbw⟩
            case measure => (simp [intOf]; omega)
          case neg =>
            have hfk := finK_hit hinf
            have hV := cof_inB hpb hklen hinf
            have hkf := fin_mem hklen hinf
            have hb1 := frB_one (n := (k : Int)) (by omega)
            have hb2 := frB_one (n := cof p k) (by omega)
            have hFb := HF.out
            have hms : mulB ⟨(k : Int), 1⟩ ⟨a, b⟩ = sB ⟨a, b⟩ k := by unfold mulB sB; rw [hb1, hFb]; rfl
            have cm := fun w => iMultiplyFracs_c ⟨(k : Int), 1⟩ ⟨a, b⟩ w
            rw [hms] at cm
            have esw : ∀ (x : Int) (y : Int), frR (lowF ((k : Int) * a) (1 * b)) (sB ⟨a, b⟩ k) = .tuple #[frV (sW ⟨a, b⟩ k), .bool (sB ⟨a, b⟩ k)] := fun _ _ => rfl
            simp only [esw 0 0] at cm
            have ca := fun w => iAddFracs_c ⟨cof p k, 1⟩ (sW ⟨a, b⟩ k) w
            have htK : sB ⟨a, b⟩ k = true → addB ⟨cof p k, 1⟩ (sW ⟨a, b⟩ k) = tK p ⟨a, b⟩ k := fun hs => by
              unfold addB tK
              have : frB (sW ⟨a, b⟩ k) = true := by
                unfold sW
                rw [if_pos hs]
                unfold sB at hs
                exact (mkB_t.1 hs).2
              rw [hb2, this]
              rfl
            have htV : tV p ⟨a, b⟩ k = lowF (addN ⟨cof p k, 1⟩ (sW ⟨a, b⟩ k)) (1 * (sW ⟨a, b⟩ k).d) := rfl
            have htB : tB p ⟨a, b⟩ k = (sB ⟨a, b⟩ k && tK p ⟨a, b⟩ k) := rfl
            have hgK : tK p ⟨a, b⟩ k = true → frB (tV p ⟨a, b⟩ k) = true := fun h => (mkB_t.1 h).2
            have hbs := bst_snoc (tV p ⟨a, b⟩) (finK p k) k
            have hgood := fun h => bst_good (t := tV p ⟨a, b⟩) (l := finK p k) h
            have hg2 := hgood (fun e he => by
              have h1 := List.all_eq_true.1 hall e he
              unfold tB at h1
              exact (mkB_t.1 (Bool.and_eq_true_iff.1 h1).2).2)
            rw [← hfk] at hbs
            have hall2 : (finK p (k + 1)).all (tB p ⟨a, b⟩) = ((finK p k).all (tB p ⟨a, b⟩) && tB p ⟨a, b⟩ k) := by rw [hfk, List.all_append]; simp
            rw [hall, Bool.true_and, htB] at hall2
            have hfail : tB p ⟨a, b⟩ k = false → frR (vafF p ⟨a, b⟩) ((finK p p.length).all (tB p ⟨a, b⟩)) = .tuple #[.agg #[.int .i64 0, .int .i64 0], .bool false] := fun h => by
              rw [show (finK p p.length).all (tB p ⟨a, b⟩) = false from List.all_eq_false.2 ⟨k, hkf, by rw [h]; simp⟩]
              rfl
            rw [htB] at hfail
            have HFAIL := Lib.hid hfail; have HALL := Lib.hid hall2
            rw [← htV] at ca
            obtain ⟨s1, hs1⟩ : ∃ s, sB ⟨a, b⟩ k = s := ⟨_, rfl⟩
            obtain ⟨sw, hsw⟩ : ∃ s, sW ⟨a, b⟩ k = s := ⟨_, rfl⟩
            obtain ⟨tt, htt⟩ : ∃ s, tV p ⟨a, b⟩ k = s := ⟨_, rfl⟩
            obtain ⟨s2, hs2⟩ : ∃ s, addB ⟨cof p k, 1⟩ sw = s := ⟨_, rfl⟩
            obtain ⟨M, hM⟩ : ∃ s, bst (tV p ⟨a, b⟩) (finK p k) = s := ⟨_, rfl⟩
            obtain ⟨V, hVV⟩ : ∃ V, cof p k = V := ⟨_, rfl⟩
            rw [hsw] at cm ca htK
            rw [htt] at ca hgK hbs
            rw [hVV] at ca c0 htK hs2
            rw [hs2] at htK ca
            rw [hs1] at cm htK HFAIL HALL
            rw [hM] at hbs hg2 hoM ⊢
            have HTK := Lib.hid htK; have HGK := Lib.hid hgK; have HBS := Lib.hid hbs; have HG := Lib.hid hg2
            have g0 : (V == 1000000000) = false := beq_eq_false_iff_ne.2 (by omega)
            obtain ⟨TT, hTT⟩ : ∃ T, (if s2 = true then tt else Fr.z) = T := ⟨_, rfl⟩
            unfold frR at ca
            simp only [hTT] at ca
            have HTT := Lib.hid hTT
            obtain ⟨sn, sd⟩ := sw
            obtain ⟨tn, td⟩ := TT
            unfold frV at cm ca
            simp only at cm ca
            have CW := Lib.hid (fun w => whole_c (k : Int) w); have CV := Lib.hid (fun w => whole_c V w)
            have CM := Lib.hid cm; have CA := Lib.hid ca
            clear cm ca hms esw htK htV htB hgK hbs hgood hg2 hall hall2 hfail hs1 hsw htt hs2 hM hVV hb1 hb2 hFb hkf hpb hTT hV hinf hklen hfk hrd
            have hbR := Below.refl wE.heap.size wE
            obtain ⟨f0, f1⟩ := hoF.at
            have nF := hoF.lt
            go_wp2_with fail
            go_region_held3 (fun w' => w'.cell? ⟨w.heap.size, 0, none⟩ = some (.int .i64 a) ∧ w'.cell? ⟨w.heap.size, 1, none⟩ = some (.int .i64 b)) (with_reducible repeat' (first | apply And.intro | assumption | (refine cell_set' (Nat.ne_of_lt (Nat.lt_of_lt_of_le nF oA2.2)) ?_) | apply cell_alloc' | apply cell_drew'))
              (first
          | (go_at_call 29; (with_reducible refine (CW.out _).mono ?_); rintro e W1 ⟨rfl, hwK1⟩; have hbK1 : Below wE.heap.size wE W1 := ball (by with_reducible repeat (first | exact hbR | apply Below.drew | apply bal_alloc)) hwK1; (try (have oA1 : FrO W1 wE.heap.size ⟨0, 0⟩ ∧ wE.heap.size ≤ wE.heap.size := ⟨FrO.below (by first | exact FrO.new wE 0 0 rfl | exact FrO.drew' (FrO.new wE 0 0 rfl) | exact FrO.new wE.drew 0 0 rfl) hwK1, Nat.le_refl _⟩)); have y1_0 := bcell hbK1 nF f0; have y1_1 := bcell hbK1 nF f1)
          | (go_at_call 50; (with_reducible refine (CM.out _).mono ?_); rintro e W2 ⟨rfl, hwK2⟩; have hbK2 : Below wE.heap.size wE W2 := ball (by with_reducible repeat (first | exact hbK1 | apply Below.drew | apply bal_alloc)) hwK2; (try (have oA2 : FrO W2 W1.heap.size ⟨0, 0⟩ ∧ wE.heap.size ≤ W1.heap.size := ⟨FrO.below (by first | exact FrO.new W1 0 0 rfl | exact FrO.drew' (FrO.new W1 0 0 rfl) | exact FrO.new W1.drew 0 0 rfl) hwK2, hbK1.size⟩)); (try (have oA2 := And.intro (FrO.below (by first | exact oA1.1 | exact FrO.drew' oA1.1) hwK2) oA1.2)); (try (obtain ⟨x0, x1⟩ := oA2.1.at; obtain ⟨z0, z1⟩ := oA2.1.fr)); have y2_0 := bcell hbK2 nF f0; have y2_1 := bcell hbK2 nF f1))
            all_goals
              first
                | (have oB := FrO.set oA2.1 (sn) (sd)
                   have hbZ := fr2_below (u := wE) (a := (sn)) (b := (sd)) hbK2 oA2.2
                   have hgB := oA2.2
                   unfold fr2 at oB hbZ
                   generalize hWZ : World.setCell _ ⟨_, 1, none⟩ (.int .i64 (sd)) = wZ at oB hbZ ⊢
                   clear hWZ)
                | (have oB := FrO.new W2 (sn) (sd) rfl
                   have hbZ := bal_alloc (o := (.cells #[.int .i64 sn, .int .i64 sd] 38)) hbK2
                   have hgB := hbK2.size
                   generalize W2.alloc (.cells #[.int .i64 sn, .int .i64 sd] 38) = wZ at oB hbZ ⊢)
              have oF3 := hoF.below hbZ
              have oZ3 := hoZ.below hbZ
              have oM3 := hoM.below hbZ
              have hb3 := hbw.trans (hbZ.mono hbw.size)
              obtain ⟨g10, hg10⟩ := gname oB
              rw [hg10] at oB ⊢
              obtain ⟨q0, q1⟩ := oB.at
              have n10 := oB.lt
              have oS := oB
              clear hg10 hgB hbZ oB hbR hbK1 hbK2 hwK1 hwK2 f0 f1 nF
              have hbR := Below.refl wZ.heap.size wZ
              go_wp2_with fail
              go_region_held3 (fun w' => w'.cell? ⟨g10, 0, none⟩ = some (.int .i64 sn) ∧ w'.cell? ⟨g10, 1, none⟩ = some (.int .i64 sd)) (with_reducible repeat' (first | apply And.intro | assumption | (refine cell_set' (Nat.ne_of_lt (Nat.lt_of_lt_of_le n10 oA2.2)) ?_) | apply cell_alloc' | apply cell_drew'))
                (first
          | (go_at_call 29; (with_reducible refine (CV.out _).mono ?_); rintro e W1 ⟨rfl, hwK1⟩; have hbK1 : Below wZ.heap.size wZ W1 := ball (by with_reducible repeat (first | exact hbR | apply Below.drew | apply bal_alloc)) hwK1; (try (have oA1 : FrO W1 wZ.heap.size ⟨0, 0⟩ ∧ wZ.heap.size ≤ wZ.heap.size := ⟨FrO.below (by first | exact FrO.new wZ 0 0 rfl | exact FrO.drew' (FrO.new wZ 0 0 rfl) | exact FrO.new wZ.drew 0 0 rfl) hwK1, Nat.le_refl _⟩)); have y1_0 := bcell hbK1 n10 q0; have y1_1 := bcell hbK1 n10 q1)
          | (go_at_call 51; (with_reducible refine (CA.out _).mono ?_); rintro e W2 ⟨rfl, hwK2⟩; have hbK2 : Below wZ.heap.size wZ W2 := ball (by with_reducible repeat (first | exact hbK1 | apply Below.drew | apply bal_alloc)) hwK2; (try (have oA2 : FrO W2 W1.heap.size ⟨0, 0⟩ ∧ wZ.heap.size ≤ W1.heap.size := ⟨FrO.below (by first | exact FrO.new W1 0 0 rfl | exact FrO.drew' (FrO.new W1 0 0 rfl) | exact FrO.new W1.drew 0 0 rfl) hwK2, hbK1.size⟩)); (try (have oA2 := And.intro (FrO.below (by first | exact oA1.1 | exact FrO.drew' oA1.1) hwK2) oA1.2)); (try (obtain ⟨x0, x1⟩ := oA2.1.at; obtain ⟨z0, z1⟩ := oA2.1.fr)); have y2_0 := bcell hbK2 n10 q0; have y2_1 := bcell hbK2 n10 q1))
              all_goals
                first
                  | (have oB := FrO.set oA2.1 (tn) (td)
                     have hbZ := fr2_below (u := wZ) (a := (tn)) (b := (td)) hbK2 oA2.2
                     have hgB := oA2.2
                     unfold fr2 at oB hbZ
                     generalize hWZ : World.setCell _ ⟨_, 1, none⟩ (.int .i64 (td)) = wY at oB hbZ ⊢
                     clear hWZ)
                  | (have oB := FrO.new W2 (tn) (td) rfl
                     have hbZ := bal_alloc (o := (.cells #[.int .i64 tn, .int .i64 td] 38)) hbK2
                     have hgB := hbK2.size
                     generalize W2.alloc (.cells #[.int .i64 tn, .int .i64 td] 38) = wY at oB hbZ ⊢)
                have oF4 := oF3.below hbZ
                have oZ4 := oZ3.below hbZ
                have oM4 := oM3.below hbZ
                have hb4 := hb3.trans (hbZ.mono hb3.size)
                obtain ⟨g12, hg12⟩ := gname oB
                rw [hg12] at oB ⊢
                have oT := oB
                have hTm : g12 ≠ gm := by have := oM3.lt; omega
                clear hg12 hgB hbZ oB hbR hbK1 hbK2 hwK1 hwK2 q0 q1 n10 oF3 oZ3 oM3 hb3 oS
                cases s1
                case false =>
                  obtain ⟨y0, y1⟩ := oZ4.fr
                  obtain ⟨z0, z1⟩ := oZ4.at
                  go_wp2_with fail
                  obtain ⟨W, hW, ⟨q0, q1⟩, hB⟩ := fr2_end (u := w) (a := 0) (b := 0) oZ4 hb4 hzw
                  unfold fr2 at hW
                  first
                    | (rw [hW]; exact bodyPost_ret (v := .tuple #[.agg #[.int .i64 0, .int .i64 0], .bool false]) (by simp [results, Try.results19, go_sem, q0, q1]) rfl ⟨by rw [HFAIL.out (Bool.false_and _)], hB⟩)
                case true =>
                  cases s2
                  case false =>
                    have hfl := HFAIL.out (by rw [← HTK.out rfl]; rfl)
                    have HFL := Lib.hid hfl; clear hfl
                    obtain ⟨y0, y1⟩ := oZ4.fr
                    obtain ⟨z0, z1⟩ := oZ4.at
                    go_wp2_with fail
                    obtain ⟨W, hW, ⟨q0, q1⟩, hB⟩ := fr2_end (u := w) (a := 0) (b := 0) oZ4 hb4 hzw
                    unfold fr2 at hW
                    first
                      | (rw [hW]; exact bodyPost_ret (v := .tuple #[.agg #[.int .i64 0, .int .i64 0], .bool false]) (by simp [results, Try.results19, go_sem, q0, q1]) rfl ⟨by rw [HFL.out], hB⟩)
                  case true =>
                    have hk2 := (HTK.out rfl).symm
                    have hgt := HGK.out hk2
                    have htt := HTT.out
                    rw [if_pos rfl] at htt
                    have ha2 := HALL.out
                    rw [hk2, Bool.and_self] at ha2
                    have HA2 := Lib.hid ha2
                    have hbs := HBS.out
                    rw [htt] at hgt hbs
                    clear hk2 ha2 htt HTK HGK HTT HALL HFAIL HBS
                    obtain ⟨v0, v1⟩ := oT.at
                    cases M with
                    | none =>
                      have HBS := Lib.hid hbs
                      clear hbs hgt HG
                      simp only [Option.isSome_none, Option.getD_none] at oM4 ⊢
                      obtain ⟨y0, y1⟩ := oM4.fr
                      obtain ⟨z0, z1⟩ := oM4.at
                      have rF := oF4.setOther hfz tn td
                      have rZ := oZ4.setOther hzm tn td
                      have rM := oM4.set tn td
                      have rB := fr2_below (a := tn) (b := td) hb4 hmw
                      unfold fr2 at rF rZ rM rB
                      go_wp2_with fail
                      generalize (wY.setCell ⟨gm, 0, none⟩ (.int .i64 tn)).setCell ⟨gm, 1, none⟩ (.int .i64 td) = wF at rF rZ rM rB ⊢
                      clear v0 v1 y0 y1 z0 z1 oT
                      go_roundw
                      case rel => exact ⟨k + 1, by omega, by go_num, by rw [HBS.out]; rfl, HA2.out, rF, rZ, by rw [HBS.out]; exact rM, rB⟩
                      case measure => (simp [intOf]; omega)
                    | some M =>
                      have hgm2 := HG.out M rfl
                      obtain ⟨ma, mb⟩ := M
                      simp only [Option.isSome_some, Option.getD_some] at oM4 ⊢
                      have cc := fun w => compare_c ⟨tn, td⟩ ⟨ma, mb⟩ w hgt hgm2
                      obtain ⟨Z, hZ⟩ : ∃ Z, cmpF ⟨tn, td⟩ ⟨ma, mb⟩ = Z := ⟨_, rfl⟩
                      unfold bstN at hbs
                      simp only [hZ] at hbs cc
                      unfold frV at cc
                      simp only at cc
                      have CC := Lib.hid cc; have HBS := Lib.hid hbs
                      clear cc hbs hgt hgm2 HG hZ
                      obtain ⟨z0, z1⟩ := oM4.at
                      by_cases hz : Z < 0
                      case pos =>
                        have gz0 : decide (Z < 0) = true := decide_eq_true hz
                        have hb5 := HBS.out
                        rw [if_pos hz] at hb5
                        have HB5 := Lib.hid hb5
                        clear hz hb5 HBS
                        go_wp2_with fail
                        refine (CC.out _).mono ?_
                        rintro e w5 ⟨rfl, hw5⟩
                        have oT5 := oT.below hw5
                        have oM5 := oM4.below hw5
                        have hb5 := hb4.trans (hw5.mono hb4.size)
                        have rF := (oF4.below hw5).setOther hfz tn td
                        have rZ := (oZ4.below hw5).setOther hzm tn td
                        have rM := oM5.set tn td
                        have rB := fr2_below (a := tn) (b := td) hb5 hmw
                        unfold fr2 at rF rZ rM rB
                        clear v0 v1 z0 z1
                        obtain ⟨v0, v1⟩ := oT5.at
                        obtain ⟨z0, z1⟩ := oM5.at
                        obtain ⟨y0, y1⟩ := oM5.fr
                        go_wp2_with fail
                        generalize (w5.setCell ⟨gm, 0, none⟩ (.int .i64 tn)).setCell ⟨gm, 1, none⟩ (.int .i64 td) = wF at rF rZ rM rB ⊢
                        clear v0 v1 y0 y1 z0 z1 oT oT5 oM5
                        go_roundw
                        case rel => exact ⟨k + 1, by omega, by go_num, by rw [HB5.out]; rfl, HA2.out, rF, rZ, by rw [HB5.out]; exact rM, rB⟩
                        case measure => (simp [intOf]; omega)
                      case neg =>
                        have gz0 : decide (Z < 0) = false := decide_eq_false hz
                        have hb5 := HBS.out
                        rw [if_neg hz] at hb5
                        have HB5 := Lib.hid hb5
                        clear hz hb5 HBS
                        go_wp2_with fail
                        refine (CC.out _).mono ?_
                        rintro e w5 ⟨rfl, hw5⟩
                        have rF := oF4.below hw5
                        have rZ := oZ4.below hw5
                        have rM := oM4.below hw5
                        have rB := hb4.trans (hw5.mono hb4.size)
                        clear v0 v1 z0 z1
                        go_wp2_with fail
                        go_roundw
                        case rel => exact ⟨k + 1, by omega, by go_num, by rw [HB5.out]; rfl, HA2.out, rF, rZ, by rw [HB5.out]; exact rM, rB⟩
                        case measure => (simp [intOf]; omega)
set_option maxHeartbeats 12800000 in
set_option maxRecDepth 100000 in
theorem sValueAtFrac_c (ad : Option Addr) (cap : Nat) (p : List Int) (f : Fr) (w : World) (hr : RdI w ad p) (hl : p.length ≤ 1048576) :
    Calls Try.prog 20 #[.slice ad p.length cap, frV f] w fun e w' => e = .returned (frR (vafF p f) (vafB p f)) ∧ Below w.heap.size w w' := by
  have c1 := fun w hr => poGood_c ad cap p w hr hl
  have c2 := fun w => frGood_c f w
  have HR := Lib.hid hr; clear hr
  obtain ⟨u, hu⟩ : ∃ u, polyB p = u := ⟨_, rfl⟩
  obtain ⟨v, hv⟩ : ∃ v, frB f = v := ⟨_, rfl⟩
  unfold vafB
  rw [hu, hv]
  rw [hv] at c2
  simp only [hu] at c1
  obtain ⟨a, b⟩ := f
  unfold frV at c2 ⊢
  simp only at c2 ⊢
  have C1 := Lib.hid c1; have C2 := Lib.hid c2; clear c1 c2
  have hbx : Below w.heap.size w (w.alloc (.cells #[.int .i64 a, .int .i64 b] 38)) := (Below.refl _ _).alloc (Nat.le_refl _) _
  have hb0 : Below w.heap.size w ((w.alloc (.cells #[.int .i64 a, .int .i64 b] 38)).alloc (.cells #[.int .i64 0, .int .i64 0] 38)) := hbx.alloc (by simp) _
  have oF : FrO _ w.heap.size ⟨a, b⟩ := (FrO.new w a b rfl).alloc (.cells #[.int .i64 0, .int .i64 0] 38)
  have oZ : FrO _ (w.heap.size + 1) ⟨0, 0⟩ := FrO.new (w.alloc (.cells #[.int .i64 a, .int .i64 b] 38)) 0 0 (by simp)
  have HR0 := Lib.hid (HR.out.below hb0)
  cases u
  case false =>
    rw [Bool.false_and, Bool.false_and, frR_f]
    unfold frV Fr.z
    have HU := Lib.hid hu; have HV := Lib.hid hv; clear hu hv hbx
    go_enter Try.func20, Try.ntmps20
    go_wp2_with fail
    refine (C1.out _ HR0.out).mono ?_
    rintro e w1 ⟨rfl, rfl⟩
    obtain ⟨x0, x1⟩ := oZ.at
    obtain ⟨y0, y1⟩ := oZ.fr
    go_wp2_with fail
    obtain ⟨W, hW, ⟨q0, q1⟩, hB⟩ := fr2_end (u := w) (a := 0) (b := 0) oZ hb0 (by omega)
    unfold fr2 at hW
    first
      | (rw [hW]; exact bodyPost_ret (v := .tuple #[.agg #[.int .i64 0, .int .i64 0], .bool false]) (by simp [results, Try.results20, go_sem, q0, q1]) rfl ⟨rfl, hB⟩)
      | exact bodyPost_ret (v := .tuple #[.agg #[.int .i64 0, .int .i64 0], .bool false]) (by simp [results, Try.results20, go_sem]) rfl ⟨rfl, hb0⟩
  case true =>
    cases v
    case false =>
      rw [Bool.and_false, Bool.false_and, frR_f]
      unfold frV Fr.z
      have HU := Lib.hid hu; have HV := Lib.hid hv; clear hu hv hbx
      go_enter Try.func20, Try.ntmps20
      go_wp2_with fail
      refine (C1.out _ HR0.out).mono ?_
      rintro e w1 ⟨rfl, rfl⟩
      obtain ⟨f0, f1⟩ := oF.at
      go_wp2_with fail
      refine (C2.out _).mono ?_
      rintro e w1 ⟨rfl, hw1⟩
      have o1 := oZ.below hw1
      have hb1 := hb0.trans (hw1.mono hb0.size)
      clear f0 f1
      obtain ⟨x0, x1⟩ := o1.at
      obtain ⟨y0, y1⟩ := o1.fr
      go_wp2_with fail
      obtain ⟨W, hW, ⟨q0, q1⟩, hB⟩ := fr2_end (u := w) (a := 0) (b := 0) o1 hb1 (by omega)
      unfold fr2 at hW
      first
        | (rw [hW]; exact bodyPost_ret (v := .tuple #[.agg #[.int .i64 0, .int .i64 0], .bool false]) (by simp [results, Try.results20, go_sem, q0, q1]) rfl ⟨rfl, hB⟩)
        | exact bodyPost_ret (v := .tuple #[.agg #[.int .i64 0, .int .i64 0], .bool false]) (by simp [results, Try.results20, go_sem]) rfl ⟨rfl, hb1⟩
    case true =>
      rw [Bool.and_self, Bool.true_and]
      have hp := hu
      have hpl := (polyB_t hp).1
      have HF := Lib.hid hv
      have HP := Lib.hid hp
      clear hu hv hp hbx
      go_enter Try.func20, Try.ntmps20
      go_wp2_with fail
      refine (C1.out _ HR0.out).mono ?_
      rintro e w1 ⟨rfl, rfl⟩
      obtain ⟨f0, f1⟩ := oF.at
      go_wp2_with fail
      refine (C2.out _).mono ?_
      rintro e w1 ⟨rfl, hw1⟩
      have oF1 := oF.below hw1
      have oZ1 := oZ.below hw1
      have hb1 := hb0.trans (hw1.mono hb0.size)
      have HR1 := Lib.hid (HR0.out.below hw1)
      have hb2 := hb1.alloc hb1.size (.cells #[.int .i64 0, .int .i64 0] 38)
      have oF2 := oF1.alloc (.cells #[.int .i64 0, .int .i64 0] 38)
      have oZ2 := oZ1.alloc (.cells #[.int .i64 0, .int .i64 0] 38)
      have oM : FrO _ w1.heap.size ⟨0, 0⟩ := FrO.new w1 0 0 rfl
      have HR2 := Lib.hid (HR1.out.below ((Below.refl w1.heap.size w1).alloc (Nat.le_refl _) (.cells #[.int .i64 0, .int .i64 0] 38)))
      have nF : w.heap.size < w1.heap.size := oF1.lt
      have nZ : w.heap.size + 1 < w1.heap.size := oZ1.lt
      clear f0 f1 hw1 hb0 hb1 oF oZ oF1 oZ1 HR0 HR1 C1 C2
      go_wp2_with fail
      generalize w1.alloc (.cells #[.int .i64 0, .int .i64 0] 38) = wG at hb2 oF2 oZ2 oM HR2 ⊢
      obtain ⟨gm, hgm⟩ : ∃ g, w1.heap.size = g := ⟨_, rfl⟩
      obtain ⟨gz, hgz⟩ : ∃ g, w.heap.size + 1 = g := ⟨_, rfl⟩
      rw [hgm] at oM nF nZ ⊢
      rw [hgz] at oZ2 nZ ⊢
      have hzw : w.heap.size ≤ gz := by omega
      have hfz : w.heap.size ≠ gm := by omega
      have hzm : gz ≠ gm := by omega
      have hmw : w.heap.size ≤ gm := by omega
      obtain ⟨N, hN⟩ : ∃ N, p.length = N := ⟨_, rfl⟩
      have hN13 : N ≤ 13 := by omega
      have HN := Lib.hid hN
      clear hgm hgz hpl nF nZ
      have HLEN := Lib.hid hN
      refine (rtPoints_c ad cap p _ HR2.out (by omega)).mono ?_
      rintro e wP ⟨vP, rfl, hrow, hwP⟩
      obtain ⟨adP, capP, rfl, -⟩ := hrow.shape
      rw [natL_len]
      have oF3 := oF2.below hwP
      have oZ3 := oZ2.below hwP
      have oM3 := oM.below hwP
      have hb3 := hb2.trans (hwP.mono hb2.size)
      have hmG := oM.lt
      have HROW := Lib.hid hrow
      have hlm := fun j (h : j < (finK p p.length).length) => finK_mem (p := p) (k := p.length) (y := (finK p p.length).getD j 0) (getD_mem h)
      obtain ⟨L, hL⟩ : ∃ L, finK p p.length = L := ⟨_, rfl⟩
      rw [hL] at hlm HROW ⊢
      have hlen13 := finK_len p p.length
      rw [hL] at hlen13
      obtain ⟨N, hNN⟩ : ∃ N, L.length = N := ⟨_, rfl⟩
      rw [hNN] at hlen13 hlm ⊢
      have HNN := Lib.hid hNN; have HL := Lib.hid hL; have HLM := Lib.hid hlm
      have hN13' : N ≤ 13 := by omega
      clear hNN hL hlm hlen13 hN hrow hwP oF2 oZ2 oM hb2
      go_wp2_with fail
      go_loopw [25] (fun i wr => ∃ k : Nat, k ≤ N ∧ i = .int .i64 k ∧ (L.take k).all (tB p ⟨a, b⟩) = true ∧ FrO wr w.heap.size ⟨a, b⟩ ∧ FrO wr gz ⟨0, 0⟩ ∧ FrO wr gm ((bst (tV p ⟨a, b⟩) (L.take k)).getD Fr.z) ∧ RowI wr wG.heap.size (.slice adP L.length capP) (natL L) ∧ Below w.heap.size w wr) (fun i _ => N - (intOf i).toNat)
      case atStart => exact ⟨0, Nat.zero_le _, rfl, rfl, oF3, oZ3, oM3, by have h := HROW.out; rw [natL_len] at h; exact h, hb3⟩
      case round =>
        obtain ⟨wE, rfl⟩ : ∃ y : World, y = wr := ⟨_, rfl⟩
        obtain ⟨j, hj, rfl, hall, hoF, hoZ, hoM, hrw, hbw⟩ := hrel
        have hrd := HR.out.below hbw
        clear oF3 oZ3 oM3 hb3 HROW
        by_cases hlt : j < N
        case neg =>
          obtain rfl : j = N := by omega
          have htk : L.take j = L := by rw [← HNN.out]; exact List.take_length
          rw [htk] at hall hoM
          have hvf : (bst (tV p ⟨a, b⟩) L).getD Fr.z = vafF p ⟨a, b⟩ := by unfold vafF; rw [HL.out]
          have hres : frR (vafF p ⟨a, b⟩) (L.all (tB p ⟨a, b⟩)) = .tuple #[frV (vafF p ⟨a, b⟩), .bool true] := by rw [hall, frR_t]
          have HRES := Lib.hid hres; clear hres
          rw [hvf] at hoM
          obtain ⟨M, hM⟩ : ∃ M, vafF p ⟨a, b⟩ = M := ⟨_, rfl⟩
          rw [hM] at hoM HRES
          obtain ⟨ma, mb⟩ := M
          have HM := Lib.hid hM; clear hM
          obtain ⟨x0, x1⟩ := hoM.at
          obtain ⟨y0, y1⟩ := hoZ.fr
          obtain ⟨z0, z1⟩ := hoZ.at
          clear hall hvf hrd htk hrw
          go_wp2_with fail
          obtain ⟨W, hW, ⟨q0, q1⟩, hB⟩ := fr2_end (u := w) (a := ma) (b := mb) hoZ hbw hzw
          unfold fr2 at hW
          rw [hW]
          exact bodyPost_ret (v := .tuple #[.agg #[.int .i64 ma, .int .i64 mb], .bool true]) (by simp [results, Try.results20, go_sem, q0, q1]) rfl ⟨by rw [HM.out, HL.out, HRES.out]; rfl, hB⟩
        case pos =>
          have hjL : j < L.length := by have := HNN.out; omega
          obtain ⟨hklen, hinf⟩ := HLM.out j hlt
          have hpb := HP.out
          obtain ⟨bq, offq, rfl, hbq, c1⟩ := (RowI.rdc hrw) j (by rw [natL_len]; exact hjL)
          rw [natL_getD hjL] at c1
          have hfk : L.take (j + 1) = L.take j ++ [L.getD j 0] := by rw [List.take_succ_eq_append_getElem hjL, List.getD_eq_getElem?_getD, List.getElem?_eq_getElem hjL, Option.getD_some]
          obtain ⟨k, hkk⟩ : ∃ k, L.getD j 0 = k := ⟨_, rfl⟩
          rw [hkk] at c1 hfk hklen hinf
          obtain ⟨bp, off, rfl, hbp, c0⟩ := hrd k hklen
          rw [show p.getD k 0 = cof p k from rfl] at c0
          have x1 : (0 : Int) ≤ (j : Int) := by omega
          have x2 : (j : Int) < (N : Int) := by omega
          have x3 : IntKind.i64.wrap ((j : Int) + 1) = ((j + 1 : Nat) : Int) := by rw [i64_small (by omega) (by omega)]; omega
          have x4 : (0 : Int) ≤ (k : Int) := by omega
          have x5 : (k : Int) < (p.length : Int) := by omega
          have hjM : (bst (tV p ⟨a, b⟩) (L.take j)).isSome = decide (j ≠ 0) := by
            rw [bst_some]
            refine decide_eq_decide.2 ⟨fun h e => h (by rw [e]; rfl), fun h e => h ?_⟩
            have := congrArg List.length e
            rw [List.length_take] at this
            simp only [List.length_nil] at this
            omega
          have HJM := Lib.hid hjM; clear hjM hkk
          have hrwN := hrw
          rw [HNN.out] at hrw
          have hV := cof_inB hpb hklen hinf
          have hkf := fin_mem hklen hinf
          have hb1 := frB_one (n := (k : Int)) (by omega)
          have hb2 := frB_one (n := cof p k) (by omega)
          have hFb := HF.out
          have hms : mkB ((k : Int) * a) (1 * b) = sB ⟨a, b⟩ k := rfl
          have cm := fun w => frMul_c ⟨(k : Int), 1⟩ ⟨a, b⟩ w hb1 hFb
          have esw : ∀ (x : Int) (y : Int), frR (lowF ((k : Int) * a) (1 * b)) (sB ⟨a, b⟩ k) = .tuple #[frV (sW ⟨a, b⟩ k), .bool (sB ⟨a, b⟩ k)] := fun _ _ => rfl
          simp only [hms, esw 0 0] at cm
          have hSb : (-1000000000 ≤ (sW ⟨a, b⟩ k).n ∧ (sW ⟨a, b⟩ k).n ≤ 1000000000) ∧ (0 ≤ (sW ⟨a, b⟩ k).d ∧ (sW ⟨a, b⟩ k).d ≤ 1000000000) := by
            unfold sW
            by_cases hs : sB ⟨a, b⟩ k = true
            · rw [if_pos hs]
              unfold sB at hs
              have h := frB_t.1 (mkB_t.1 hs).2
              exact ⟨h.1, by have := h.2.1; unfold sV; omega⟩
            · rw [if_neg hs]
              unfold Fr.z
              simp
          have ca := fun w => frAdd_c (sW ⟨a, b⟩ k) ⟨cof p k, 1⟩ w hSb ⟨by simp only; omega, by simp⟩
          have hcm : addN (sW ⟨a, b⟩ k) ⟨cof p k, 1⟩ = addN ⟨cof p k, 1⟩ (sW ⟨a, b⟩ k) := by unfold addN; exact Int.add_comm _ _
          have hcd : (sW ⟨a, b⟩ k).d * 1 = 1 * (sW ⟨a, b⟩ k).d := Int.mul_comm _ _
          simp only [hcm, hcd] at ca
          have htK : sB ⟨a, b⟩ k = true → mkB (addN ⟨cof p k, 1⟩ (sW ⟨a, b⟩ k)) (1 * (sW ⟨a, b⟩ k).d) = tK p ⟨a, b⟩ k := fun _ => rfl
          clear hSb hcm hcd
          have htV : tV p ⟨a, b⟩ k = lowF (addN ⟨cof p k, 1⟩ (sW ⟨a, b⟩ k)) (1 * (sW ⟨a, b⟩ k).d) := rfl
          have htB : tB p ⟨a, b⟩ k = (sB ⟨a, b⟩ k && tK p ⟨a, b⟩ k) := rfl
          have hgK : tK p ⟨a, b⟩ k = true → frB (tV p ⟨a, b⟩ k) = true := fun h => (mkB_t.1 h).2
          have hbs := bst_snoc (tV p ⟨a, b⟩) (L.take j) k
          have hgood := fun h => bst_good (t := tV p ⟨a, b⟩) (l := L.take j) h
          have hg2 := hgood (fun e he => by
            have h1 := List.all_eq_true.1 hall e he
            unfold tB at h1
            exact (mkB_t.1 (Bool.and_eq_true_iff.1 h1).2).2)
          rw [← hfk] at hbs
          have hall2 : (L.take (j + 1)).all (tB p ⟨a, b⟩) = ((L.take j).all (tB p ⟨a, b⟩) && tB p ⟨a, b⟩ k) := by rw [hfk, List.all_append]; simp
          rw [hall, Bool.true_and, htB] at hall2
          have hfail : tB p ⟨a, b⟩ k = false → frR (vafF p ⟨a, b⟩) ((finK p p.length).all (tB p ⟨a, b⟩)) = .tuple #[.agg #[.int .i64 0, .int .i64 0], .bool false] := fun h => by
            rw [show (finK p p.length).all (tB p ⟨a, b⟩) = false from List.all_eq_false.2 ⟨k, hkf, by rw [h]; simp⟩]
            rfl
          rw [htB] at hfail
          have HFAIL := Lib.hid hfail; have HALL := Lib.hid hall2
          rw [← htV] at ca
          obtain ⟨s1, hs1⟩ : ∃ s, sB ⟨a, b⟩ k = s := ⟨_, rfl⟩
          obtain ⟨sw, hsw⟩ : ∃ s, sW ⟨a, b⟩ k = s := ⟨_, rfl⟩
          obtain ⟨tt, htt⟩ : ∃ s, tV p ⟨a, b⟩ k = s := ⟨_, rfl⟩
          obtain ⟨s2, hs2⟩ : ∃ s, mkB (addN ⟨cof p k, 1⟩ sw) (1 * sw.d) = s := ⟨_, rfl⟩
          obtain ⟨M, hM⟩ : ∃ s, bst (tV p ⟨a, b⟩) (L.take j) = s := ⟨_, rfl⟩
          obtain ⟨V, hVV⟩ : ∃ V, cof p k = V := ⟨_, rfl⟩
          rw [hsw] at cm ca htK
          rw [htt] at ca hgK hbs
          rw [hVV] at ca c0 htK hs2
          rw [hs2] at htK ca
          rw [hs1] at cm htK HFAIL HALL
          rw [hM] at hbs hg2 hoM HJM
          have HTK := Lib.hid htK; have HGK := Lib.hid hgK; have HBS := Lib.hid hbs; have HG := Lib.hid hg2
          obtain ⟨TT, hTT⟩ : ∃ T, (if s2 = true then tt else Fr.z) = T := ⟨_, rfl⟩
          unfold frR at ca
          simp only [hTT] at ca
          have HTT := Lib.hid hTT
          obtain ⟨sn, sd⟩ := sw
          obtain ⟨tn, td⟩ := TT
          unfold frV at cm ca
          simp only at cm ca
          have CW := Lib.hid (fun w => frInt_c (k : Int) w); have CV := Lib.hid (fun w => frInt_c V w)
          have CM := Lib.hid cm; have CA := Lib.hid ca
          clear cm ca hms esw htK htV htB hgK hbs hgood hg2 hall hall2 hfail hs1 hsw htt hs2 hM hVV hb1 hb2 hFb hkf hpb hTT hV hinf hklen hfk hrd
          have hbR := Below.refl wE.heap.size wE
          clear hrw
          obtain ⟨f0, f1⟩ := hoF.at
          have nF := hoF.lt
          go_wp2_with fail
          go_region_held3 (fun w' => w'.cell? ⟨w.heap.size, 0, none⟩ = some (.int .i64 a) ∧ w'.cell? ⟨w.heap.size, 1, none⟩ = some (.int .i64 b)) (with_reducible repeat' (first | apply And.intro | assumption | (refine cell_set' (Nat.ne_of_lt (Nat.lt_of_lt_of_le nF oA2.2)) ?_) | apply cell_alloc' | apply cell_drew'))
            (first
          | (go_at_call 56; (with_reducible refine (CW.out _).mono ?_); rintro e W1 ⟨rfl, hwK1⟩; have hbK1 : Below wE.heap.size wE W1 := ball (by with_reducible repeat (first | exact hbR | apply Below.drew | apply bal_alloc)) hwK1; (try (have oA1 : FrO W1 wE.heap.size ⟨0, 0⟩ ∧ wE.heap.size ≤ wE.heap.size := ⟨FrO.below (by first | exact FrO.new wE 0 0 rfl | exact FrO.drew' (FrO.new wE 0 0 rfl) | exact FrO.new wE.drew 0 0 rfl) hwK1, Nat.le_refl _⟩)); have y1_0 := bcell hbK1 nF f0; have y1_1 := bcell hbK1 nF f1)
          | (go_at_call 55; (with_reducible refine (CM.out _).mono ?_); rintro e W2 ⟨rfl, hwK2⟩; have hbK2 : Below wE.heap.size wE W2 := ball (by with_reducible repeat (first | exact hbK1 | apply Below.drew | apply bal_alloc)) hwK2; (try (have oA2 : FrO W2 W1.heap.size ⟨0, 0⟩ ∧ wE.heap.size ≤ W1.heap.size := ⟨FrO.below (by first | exact FrO.new W1 0 0 rfl | exact FrO.drew' (FrO.new W1 0 0 rfl) | exact FrO.new W1.drew 0 0 rfl) hwK2, hbK1.size⟩)); (try (have oA2 := And.intro (FrO.below (by first | exact oA1.1 | exact FrO.drew' oA1.1) hwK2) oA1.2)); (try (obtain ⟨x0, x1⟩ := oA2.1.at; obtain ⟨z0, z1⟩ := oA2.1.fr)); have y2_0 := bcell hbK2 nF f0; have y2_1 := bcell hbK2 nF f1))
          all_goals
            first
              | (have oB := FrO.set oA2.1 (sn) (sd)
                 have hbZ := fr2_below (u := wE) (a := (sn)) (b := (sd)) hbK2 oA2.2
                 have hgB := oA2.2
                 unfold fr2 at oB hbZ
                 generalize hWZ : World.setCell _ ⟨_, 1, none⟩ (.int .i64 (sd)) = wZ at oB hbZ ⊢
                 clear hWZ)
              | (have oB := FrO.new W2 (sn) (sd) rfl
                 have hbZ := bal_alloc (o := (.cells #[.int .i64 sn, .int .i64 sd] 38)) hbK2
                 have hgB := hbK2.size
                 generalize W2.alloc (.cells #[.int .i64 sn, .int .i64 sd] 38) = wZ at oB hbZ ⊢)
            have oF3 := hoF.below hbZ
            have oZ3 := hoZ.below hbZ
            have oM3 := hoM.below hbZ
            have cp := bcell hbZ hbp c0
            have nP := Nat.lt_of_lt_of_le hbp hbZ.size
            have hr3 := RowI.below hrwN hbZ
            have hb3 := hbw.trans (hbZ.mono hbw.size)
            obtain ⟨g10, hg10⟩ := gname oB
            rw [hg10] at oB ⊢
            obtain ⟨q0, q1⟩ := oB.at
            have n10 := oB.lt
            have oS := oB
            clear hg10 hgB hbZ oB hbR hbK1 hbK2 hwK1 hwK2 f0 f1 nF c0 c1
            have hbR := Below.refl wZ.heap.size wZ
            go_wp2_with fail
            go_region_held3 (fun w' => w'.cell? ⟨g10, 0, none⟩ = some (.int .i64 sn) ∧ w'.cell? ⟨g10, 1, none⟩ = some (.int .i64 sd) ∧ w'.cell? ⟨bp, off + k, none⟩ = some (.int .i64 V)) (with_reducible repeat' (first | apply And.intro | assumption | (refine cell_set' (Nat.ne_of_lt (Nat.lt_of_lt_of_le n10 oA2.2)) ?_) | (refine cell_set' (Nat.ne_of_lt (Nat.lt_of_lt_of_le nP oA2.2)) ?_) | apply cell_alloc' | apply cell_drew'))
              (first
          | (go_at_call 56; (with_reducible refine (CV.out _).mono ?_); rintro e W1 ⟨rfl, hwK1⟩; have hbK1 : Below wZ.heap.size wZ W1 := ball (by with_reducible repeat (first | exact hbR | apply Below.drew | apply bal_alloc)) hwK1; (try (have oA1 : FrO W1 wZ.heap.size ⟨0, 0⟩ ∧ wZ.heap.size ≤ wZ.heap.size := ⟨FrO.below (by first | exact FrO.new wZ 0 0 rfl | exact FrO.drew' (FrO.new wZ 0 0 rfl) | exact FrO.new wZ.drew 0 0 rfl) hwK1, Nat.le_refl _⟩)); have y1_0 := bcell hbK1 n10 q0; have y1_1 := bcell hbK1 n10 q1; have y1_2 := bcell hbK1 nP cp)
          | (go_at_call 57; (with_reducible refine (CA.out _).mono ?_); rintro e W2 ⟨rfl, hwK2⟩; have hbK2 : Below wZ.heap.size wZ W2 := ball (by with_reducible repeat (first | exact hbK1 | apply Below.drew | apply bal_alloc)) hwK2; (try (have oA2 : FrO W2 W1.heap.size ⟨0, 0⟩ ∧ wZ.heap.size ≤ W1.heap.size := ⟨FrO.below (by first | exact FrO.new W1 0 0 rfl | exact FrO.drew' (FrO.new W1 0 0 rfl) | exact FrO.new W1.drew 0 0 rfl) hwK2, hbK1.size⟩)); (try (have oA2 := And.intro (FrO.below (by first | exact oA1.1 | exact FrO.drew' oA1.1) hwK2) oA1.2)); (try (obtain ⟨x0, x1⟩ := oA2.1.at; obtain ⟨z0, z1⟩ := oA2.1.fr)); have y2_0 := bcell hbK2 n10 q0; have y2_1 := bcell hbK2 n10 q1; have y2_2 := bcell hbK2 nP cp))
            all_goals
              first
                | (have oB := FrO.set oA2.1 (tn) (td)
                   have hbZ := fr2_below (u := wZ) (a := (tn)) (b := (td)) hbK2 oA2.2
                   have hgB := oA2.2
                   unfold fr2 at oB hbZ
                   generalize hWZ : World.setCell _ ⟨_, 1, none⟩ (.int .i64 (td)) = wY at oB hbZ ⊢
                   clear hWZ)
                | (have oB := FrO.new W2 (tn) (td) rfl
                   have hbZ := bal_alloc (o := (.cells #[.int .i64 tn, .int .i64 td] 38)) hbK2
                   have hgB := hbK2.size
                   generalize W2.alloc (.cells #[.int .i64 tn, .int .i64 td] 38) = wY at oB hbZ ⊢)
              have oF4 := oF3.below hbZ
              have oZ4 := oZ3.below hbZ
              have oM4 := oM3.below hbZ
              have hr4 := RowI.below hr3 hbZ
              have hb4 := hb3.trans (hbZ.mono hb3.size)
              obtain ⟨g12, hg12⟩ := gname oB
              rw [hg12] at oB ⊢
              have oT := oB
              have hTm : g12 ≠ gm := by have := oM3.lt; omega
              clear hg12 hgB hbZ oB hbR hbK1 hbK2 hwK1 hwK2 q0 q1 n10 oF3 oZ3 oM3 hb3 oS hr3 cp nP
              cases s1
              case false =>
                obtain ⟨y0, y1⟩ := oZ4.fr
                obtain ⟨z0, z1⟩ := oZ4.at
                go_wp2_with fail
                obtain ⟨W, hW, ⟨q0, q1⟩, hB⟩ := fr2_end (u := w) (a := 0) (b := 0) oZ4 hb4 hzw
                unfold fr2 at hW
                first
                  | (rw [hW]; exact bodyPost_ret (v := .tuple #[.agg #[.int .i64 0, .int .i64 0], .bool false]) (by simp [results, Try.results20, go_sem, q0, q1]) rfl ⟨by rw [HFAIL.out (Bool.false_and _)], hB⟩)
              case true =>
                cases s2
                case false =>
                  have hfl := HFAIL.out (by rw [← HTK.out rfl]; rfl)
                  have HFL := Lib.hid hfl; clear hfl
                  obtain ⟨y0, y1⟩ := oZ4.fr
                  obtain ⟨z0, z1⟩ := oZ4.at
                  go_wp2_with fail
                  obtain ⟨W, hW, ⟨q0, q1⟩, hB⟩ := fr2_end (u := w) (a := 0) (b := 0) oZ4 hb4 hzw
                  unfold fr2 at hW
                  first
                    | (rw [hW]; exact bodyPost_ret (v := .tuple #[.agg #[.int .i64 0, .int .i64 0], .bool false]) (by simp [results, Try.results20, go_sem, q0, q1]) rfl ⟨by rw [HFL.out], hB⟩)
                case true =>
                  have hk2 := (HTK.out rfl).symm
                  have hgt := HGK.out hk2
                  have htt := HTT.out
                  rw [if_pos rfl] at htt
                  have ha2 := HALL.out
                  rw [hk2, Bool.and_self] at ha2
                  have HA2 := Lib.hid ha2
                  have hbs := HBS.out
                  rw [htt] at hgt hbs
                  clear hk2 ha2 htt HTK HGK HTT HALL HFAIL HBS
                  obtain ⟨v0, v1⟩ := oT.at
                  cases M with
                  | none =>
                    have HBS := Lib.hid hbs
                    clear hbs hgt HG
                    have hj0 : j = 0 := by have h := HJM.out; simp at h; omega
                    have gj : ((j : Int) == 0) = true := beq_iff_eq.2 (by omega)
                    simp only [Option.getD_none] at oM4
                    obtain ⟨y0, y1⟩ := oM4.fr
                    obtain ⟨z0, z1⟩ := oM4.at
                    have rF := oF4.setOther hfz tn td
                    have rZ := oZ4.setOther hzm tn td
                    have rM := oM4.set tn td
                    have rR := RowI.setOther (a := tn) (b := td) hr4 hmG
                    have rB := fr2_below (a := tn) (b := td) hb4 hmw
                    unfold fr2 at rF rZ rM rR rB
                    go_wp2_with fail
                    generalize (wY.setCell ⟨gm, 0, none⟩ (.int .i64 tn)).setCell ⟨gm, 1, none⟩ (.int .i64 td) = wF at rF rZ rM rR rB ⊢
                    clear v0 v1 y0 y1 z0 z1 oT
                    go_roundw
                    case rel => exact ⟨j + 1, by omega, by go_num, HA2.out, rF, rZ, by rw [HBS.out]; exact rM, rR, rB⟩
                    case measure => (simp [intOf]; omega)
                  | some M =>
                    have hgm2 := HG.out M rfl
                    obtain ⟨ma, mb⟩ := M
                    have hj0 : j ≠ 0 := by have h := HJM.out; simp at h; omega
                    have gj : ((j : Int) == 0) = false := beq_eq_false_iff_ne.2 (by omega)
                    simp only [Option.getD_some] at oM4
                    have cc := fun w => frCmp_c ⟨tn, td⟩ ⟨ma, mb⟩ w hgt hgm2
                    obtain ⟨Z, hZ⟩ : ∃ Z, cmpF ⟨tn, td⟩ ⟨ma, mb⟩ = Z := ⟨_, rfl⟩
                    unfold bstN at hbs
                    simp only [hZ] at hbs cc
                    unfold frV at cc
                    simp only at cc
                    have CC := Lib.hid cc; have HBS := Lib.hid hbs
                    clear cc hbs hgt hgm2 HG hZ
                    obtain ⟨z0, z1⟩ := oM4.at
                    by_cases hz : Z < 0
                    case pos =>
                      have gz0 : decide (Z < 0) = true := decide_eq_true hz
                      have hb5 := HBS.out
                      rw [if_pos hz] at hb5
                      have HB5 := Lib.hid hb5
                      clear hz hb5 HBS
                      go_wp2_with fail
                      refine (CC.out _).mono ?_
                      rintro e w5 ⟨rfl, hw5⟩
                      have oT5 := oT.below hw5
                      have oM5 := oM4.below hw5
                      have hb5 := hb4.trans (hw5.mono hb4.size)
                      have rF := (oF4.below hw5).setOther hfz tn td
                      have rZ := (oZ4.below hw5).setOther hzm tn td
                      have rM := oM5.set tn td
                      have rR := RowI.setOther (a := tn) (b := td) (RowI.below hr4 hw5) hmG
                      have rB := fr2_below (a := tn) (b := td) hb5 hmw
                      unfold fr2 at rF rZ rM rR rB
                      clear v0 v1 z0 z1
                      obtain ⟨v0, v1⟩ := oT5.at
                      obtain ⟨z0, z1⟩ := oM5.at
                      obtain ⟨y0, y1⟩ := oM5.fr
                      go_wp2_with fail
                      generalize (w5.setCell ⟨gm, 0, none⟩ (.int .i64 tn)).setCell ⟨gm, 1, none⟩ (.int .i64 td) = wF at rF rZ rM rR rB ⊢
                      clear v0 v1 y0 y1 z0 z1 oT oT5 oM5
                      go_roundw
                      case rel => exact ⟨j + 1, by omega, by go_num, HA2.out, rF, rZ, by rw [HB5.out]; exact rM, rR, rB⟩
                      case measure => (simp [intOf]; omega)
                    case neg =>
                      have gz0 : decide (Z < 0) = false := decide_eq_false hz
                      have hb5 := HBS.out
                      rw [if_neg hz] at hb5
                      have HB5 := Lib.hid hb5
                      clear hz hb5 HBS
                      go_wp2_with fail
                      refine (CC.out _).mono ?_
                      rintro e w5 ⟨rfl, hw5⟩
                      have rF := oF4.below hw5
                      have rZ := oZ4.below hw5
                      have rM := oM4.below hw5
                      have rR := RowI.below hr4 hw5
                      have rB := hb4.trans (hw5.mono hb4.size)
                      clear v0 v1 z0 z1
                      go_wp2_with fail
                      go_roundw
                      case rel => exact ⟨j + 1, by omega, by go_num, HA2.out, rF, rZ, by rw [HB5.out]; exact rM, rR, rB⟩
                      case measure => (simp [intOf]; omega)

end Go.Proofs.Ytekhmjhbdoigoaa
