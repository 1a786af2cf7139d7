/-
  The program's needless terms and least coefficients. Printed by gen_fuN.py.
-/
import Derived.Test.YtekhmjhbdoigoaaFuS
import Derived.Test.YtekhmjhbdoigoaaRtS
import Derived.Maps.OwnSet
import Derived.Maps.OwnOps
namespace Go.Proofs.Ytekhmjhbdoigoaa
open Go.RowKit Go.Maps

theorem zeroFr (w : World) : (zeroValue 38).run Try.prog w = .ok (.agg #[.int .i64 0, .int .i64 0]) w := by kernel_rfl
/-- 'v, ok := m[k]' of a map to fractions. -/
theorem wpList_lookup_frac (w : World) {ops : Array Oper} {rest : List Oper} {o : Oper} {a : Act} {Q : Exit → Act → World → Prop} (hg : o.guard = none) (m x : Operand) (hop : o.op = Op.lookup 46 m x true)
    (b n : Nat) (D : DataW Unit) (f : Nat → Option Fr) (hm : a.eval m = .map (some b)) (hown : OwnM w b n D) (hag : Agr D f) (e : Nat) (he : e ≤ 1000) (hx : a.eval x = .int .i64 (e : Int))
    (hK : ∀ g : Fr, (∀ h, f e = some h → g = h) → wpList Try.prog ops Q rest (a.put o.dst (.tuple #[.agg #[.int .i64 g.n, .int .i64 g.d], .bool (f e).isSome])) w) :
    wpList Try.prog ops Q (o :: rest) a w := by
  refine wpList_lookup_own_ok w hg m x 46 hop 3 38 lawKey Try.underlying46 fracElem (zeroFr w) (frD ⟨0, 0⟩) [] (fracElem_mk ⟨0, 0⟩) b n D hm hown (.int .i64 (e : Int)) (kLit e) hx (keyOf_int_mk (a := (e : Int)) Try.underlying3 (WalkArith.wf_i64 (by omega))) ?_
  intro v ps hv
  obtain ⟨g, rfl, hz⟩ := fracElem_inv hv
  rw [hag.1 e]
  refine hK g (fun h hh => ?_)
  have h1 := hag.2.1 e h hh (frD ⟨0, 0⟩)
  rw [h1] at hz
  exact (frD_inj (congrArg Prod.fst hz)).symm
theorem rdNews {w : World} {a : Addr} {xs : List Int} (h : RdI w (some a) xs) : ∀ j u, (ints xs)[j]? = some u → w.cell? (a.add j) = some u := by
  intro j u hu
  have hj : j < xs.length := by
    have := List.getElem?_eq_some_iff.1 hu
    obtain ⟨h1, _⟩ := this
    rwa [ints_length] at h1
  obtain ⟨b, off, e, _, hc⟩ := h j hj
  cases e
  rw [ints_get hj] at hu
  have hadd : (⟨b, off, none⟩ : Addr).add j = ⟨b, off + j, none⟩ := by unfold Addr.add; split <;> simp_all
  rw [hadd, hc]
  exact hu
set_option maxHeartbeats 400000 in
theorem cloneP_c (a : Addr) (cap : Nat) (xs : List Int) (w : World) (hl : xs.length ≤ 1048576) (hpos : 0 < xs.length) (hr : RdI w (some a) xs) :
    Calls Try.prog 25 #[.slice (some a) xs.length cap] w fun e w' => ∃ g cap', e = .returned (.slice (some ⟨g, 0, none⟩) xs.length cap') ∧ xs.length ≤ cap' ∧ w.heap.size ≤ g ∧ Own w' g 3 (ints xs) ∧ Below w.heap.size w w' := by
  obtain ⟨i0, hi0, hz0, hz1, hz2⟩ := info_parts Try.infoI
  have hnl := fun (w : World) (a : Option Addr) (l c : Nat) => Lib.run_eql_slice_nil (P := Try.prog) w 23 3 a l c 0 0 Try.underlying23
  have hb0 : Below w.heap.size w (w.alloc (.cells #[] 3)) := (Below.refl _ _).alloc (Nat.le_refl _) _
  have hr1 := hr.below hb0
  have HO := Lib.hid (row_empty w 3)
  have HN := Lib.hid (rdNews hr1)
  clear hr hr1
  go_enter Try.func25, Try.ntmps25
  go_wp2_with (at_builtin; refine wpList_append_own _ rfl _ _ 23 rfl w.heap.size 3 i0 _ 1 8 Try.underlying23 hi0 hz0 hz1 hz2 rfl (by decide) (.slice (some ⟨w.heap.size, 0, none⟩) 0 0) 0 [] rfl HO.out a xs.length cap (ints xs) rfl (by rw [ints_length]; omega) HN.out (ints_oneCell xs) (by unfold maxLen; omega) (by omega) (by simp) ?_; intro v' w2 hown hgrow hnil)
  clear hnil
  rcases Own.of_row hown with ⟨_, h1, _⟩ | ⟨g, cap', rfl, hg, hcap, _, ho⟩
  · omega
  have HOO := Lib.hid ho; clear ho
  have HB2 := Lib.hid (hb0.grown hgrow (by simp) (fun q e => by simp [Value.ownBlock] at e; omega)); clear hown hgrow
  go_ret
  exact ⟨g, cap', by simp, by omega, hg, HOO.out, HB2.out⟩
set_option maxHeartbeats 6400000 in
set_option maxRecDepth 100000 in
theorem iNeedless_c (ad : Option Addr) (cap : Nat) (p : List Int) (w : World) (hr : RdI w ad p) (hl : p.length ≤ 1048576) :
    Calls Try.prog 7 #[.slice ad p.length cap] w fun e w' => ∃ v, e = .returned (.tuple #[v, .bool (polyB p)]) ∧ RowI w' w.heap.size v (if polyB p = true then natL (needK p p.length) else []) ∧ Below w.heap.size w w' := by
  have c1 := fun w hr => isPoly_c ad cap p w hr hl
  have HR := Lib.hid hr; clear hr
  obtain ⟨iI, hiI0, hiI1, hiI2, hiI3⟩ := info_parts Try.infoI
  obtain ⟨u, hu⟩ : ∃ u, polyB p = u := ⟨_, rfl⟩
  simp only [hu] at c1 ⊢
  have C1 := Lib.hid c1; clear c1
  cases u
  case false =>
    rw [if_neg (by simp)]
    have HU := Lib.hid hu; clear hu
    go_enter Try.func7, Try.ntmps7
    go_wp2_with fail
    refine (C1.out _ HR.out).mono ?_
    rintro e w1 ⟨rfl, rfl⟩
    go_wp2_with fail
    go_ret2
    exact ⟨_, rfl, RowI.nil _ _, Below.refl _ _⟩
  case true =>
    rw [if_pos rfl]
    have hp := hu
    have hpl := (polyB_t hp).1
    have HND := Lib.hid (fun e he => need_side (p := p) hp (e := e) he)
    have HBD := Lib.hid (fun e (he : e < p.length) => numB_t ((polyB_t hp).2.1 e he))
    have CS := Lib.hid (fun w hr => sides_c ad cap p w hr hp)
    clear hu
    have HP := Lib.hid hp; clear hp
    go_enter Try.func7, Try.ntmps7
    go_wp2_with fail
    refine (C1.out _ HR.out).mono ?_
    rintro e w1 ⟨rfl, rfl⟩
    go_wp2_with fail
    refine (CS.out _ HR.out).mono ?_
    rintro e w1 ⟨gM, D, rfl, hoM, hag, hgM, hb1⟩
    have HM := Lib.hid hoM; have HAG := Lib.hid hag
    have HR1 := Lib.hid (HR.out.below hb1)
    have hrow0 : RowI (w1.alloc (.cells #[] 3)) w1.heap.size (.slice (some ⟨w1.heap.size, 0, none⟩) 0 0) (natL []) := row_empty w1 3
    obtain ⟨N, hN⟩ : ∃ N, p.length = N := ⟨_, rfl⟩
    have hN13 : N ≤ 13 := by omega
    have HN := Lib.hid hN
    clear hoM hag C1 CS HR hpl
    go_wp2_with fail
    try rw [hN]
    clear hN
    go_loopw [5, 18] (fun v i wr => ∃ k : Nat, k ≤ N ∧ i = .int .i64 k ∧ RowI wr w1.heap.size v (natL (needK p k)) ∧ Below w1.heap.size w1 wr) (fun _ i _ => N - (intOf i).toNat)
    case atStart => exact ⟨0, Nat.zero_le _, rfl, hrow0, (Below.refl _ _).alloc (Nat.le_refl _) _⟩
    case round =>
      obtain ⟨wE, rfl⟩ : ∃ y : World, y = wr := ⟨_, rfl⟩
      obtain ⟨k, hk, rfl, hrow, hbel⟩ := hrel
      have HO := Lib.hid hrow; clear hrow hrow0
      by_cases hlt : k < N
      case neg =>
        obtain rfl : k = N := by omega
        have hbw := hb1.trans (hbel.mono hb1.size)
        go_wp2_with fail
        go_ret2
        exact ⟨_, rfl, by rw [HN.out]; exact rowI_lower HO.out hb1.size, hbw⟩
      case pos =>
        have hkl : k < p.length := by have := HN.out; omega
        obtain ⟨bp, off, rfl, hbp, c0⟩ := HR1.out k hkl
        rw [show p.getD k 0 = cof p k from rfl] at c0
        have d0 := bcell hbel hbp c0
        have hnd := HND.out k hkl
        obtain ⟨nb, hnb⟩ : ∃ b, needB p k = b := ⟨_, rfl⟩
        rw [hnb] at hnd
        have hcb := HBD.out k hkl
        rw [show p.getD k 0 = cof p k from rfl] at hcb
        obtain ⟨V, hV⟩ : ∃ V, cof p k = V := ⟨_, rfl⟩
        rw [hV] at d0 hnd hcb
        have x1 : (0 : Int) ≤ (k : Int) := by omega
        have x2 : (k : Int) < (N : Int) := by omega
        have HNB := Lib.hid hnb
        have HND2 := Lib.hid hnd
        have hMl := HM.out.below hbel
        have CW := Lib.hid (fun w => whole_c V w)
        clear hV hnb hnd c0 hkl hcb
        go_upto_region 8 with fail
        go_wp2_with (at_lookup; refine wpList_lookup_frac _ rfl _ _ rfl gM 14 D (sideA p) rfl hMl HAG.out k (by omega) rfl ?_; intro g; obtain ⟨gn, gd⟩ := g; intro hgs)
        have hbA := hbel.alloc hbel.size (.cells #[.int .i64 gn, .int .i64 gd] 38)
        have oG : FrO _ wE.heap.size ⟨gn, gd⟩ := FrO.new wE gn gd rfl
        have HOA := Lib.hid (RowI.below HO.out ((Below.refl wE.heap.size wE).alloc (Nat.le_refl _) (.cells #[.int .i64 gn, .int .i64 gd] 38)))
        (try simp only)
        generalize wE.alloc (.cells #[.int .i64 gn, .int .i64 gd] 38) = wG at hbA oG HOA ⊢
        obtain ⟨gG, hgG⟩ : ∃ g, wE.heap.size = g := ⟨_, rfl⟩
        rw [hgG] at oG ⊢
        clear hMl d0 hbel HO hgG
        obtain ⟨fl, hfl⟩ : ∃ b, (sideA p k).isSome = b := ⟨_, rfl⟩
        rw [hfl]
        have HFL := Lib.hid hfl
        clear hfl
        go_cut [39] from 29 to 39 (fun s wc => s = .bool nb ∧ Below wG.heap.size wG wc)
        case first =>
          obtain ⟨q0, q1⟩ := oG.at
          have nG := oG.lt
          cases fl
          case false =>
            have hs : sideA p k = none := by have h := HFL.out; cases h9 : sideA p k; rfl; rw [h9] at h; cases h
            have h0 := HND2.out
            rw [hs] at h0
            simp only at h0
            subst h0
            go_wp2_with fail
            go_quiet (fail)
            go_wp2_with fail
            go_meet
            exact ⟨rfl, bdrewN (Below.refl _ _) nq⟩
          case true =>
            obtain ⟨f, hs⟩ : ∃ f, sideA p k = some f := by have h := HFL.out; cases h9 : sideA p k; rw [h9] at h; cases h; exact ⟨_, rfl⟩
            have h0 := HND2.out
            rw [hs] at h0
            simp only at h0
            have h1 := hgs f hs
            rw [← h1] at h0
            simp only at h0
            clear h1 hgs hs
            have H0 := Lib.hid h0; clear h0
            by_cases hi : V = 1000000000
            case pos =>
              have g0 : (V == 1000000000) = true := beq_iff_eq.2 hi
              have h2 := H0.out
              rw [decide_eq_true (show V = INF from hi), Bool.true_or] at h2
              subst h2
              clear hi H0
              go_wp2_with fail
              go_quiet (fail)
              go_wp2_with fail
              go_meet
              exact ⟨rfl, bdrewN (Below.refl _ _) nq⟩
            case neg =>
              have g0 : (V == 1000000000) = false := beq_eq_false_iff_ne.2 hi
              have hbR := Below.refl wG.heap.size wG
              have h2 := H0.out
              rw [decide_eq_false (show ¬ V = INF from hi), Bool.false_or] at h2
              clear hi H0
              by_cases h3 : V = gn
              case pos =>
                by_cases h4 : (1 : Int) = gd
                case pos =>
                  have j1 : (V == gn) = true := beq_iff_eq.2 h3
                  have j2 : ((1 : Int) == gd) = true := beq_iff_eq.2 h4
                  rw [decide_eq_true h3, decide_eq_true h4] at h2
                  have h5 : nb = false := h2
                  subst h5
                  clear h3 h4 h2
                  go_wp2_with fail
                  go_region_held3 (fun w' => w'.cell? ⟨gG, 0, none⟩ = some (.int .i64 gn) ∧ w'.cell? ⟨gG, 1, none⟩ = some (.int .i64 gd)) (with_reducible repeat' (first | apply And.intro | assumption | apply cell_alloc' | apply cell_drew'))
                    (first     | (go_at_call 29; (with_reducible refine (CW.out _).mono ?_); rintro e W1 ⟨rfl, hwK1⟩; have hbK1 : Below wG.heap.size wG W1 := ball (by with_reducible repeat (first | exact hbR | apply Below.drew | apply bal_alloc)) hwK1; (try (have oA1 : FrO W1 wG.heap.size ⟨0, 0⟩ ∧ wG.heap.size ≤ wG.heap.size := ⟨FrO.below (by first | exact FrO.new wG 0 0 rfl | exact FrO.drew' (FrO.new wG 0 0 rfl) | exact FrO.new wG.drew 0 0 rfl) hwK1, Nat.le_refl _⟩)); have y1_0 := bcell hbK1 nG q0; have y1_1 := bcell hbK1 nG q1))
                  all_goals
                    go_wp2_with fail
                    go_meet
                    exact ⟨rfl, hbK1⟩
                case neg =>
                  have j1 : (V == gn) = true := beq_iff_eq.2 h3
                  have j2 : ((1 : Int) == gd) = false := beq_eq_false_iff_ne.2 h4
                  rw [decide_eq_true h3, decide_eq_false h4] at h2
                  have h5 : nb = true := h2
                  subst h5
                  clear h3 h4 h2
                  go_wp2_with fail
                  go_region_held3 (fun w' => w'.cell? ⟨gG, 0, none⟩ = some (.int .i64 gn) ∧ w'.cell? ⟨gG, 1, none⟩ = some (.int .i64 gd)) (with_reducible repeat' (first | apply And.intro | assumption | apply cell_alloc' | apply cell_drew'))
                    (first     | (go_at_call 29; (with_reducible refine (CW.out _).mono ?_); rintro e W1 ⟨rfl, hwK1⟩; have hbK1 : Below wG.heap.size wG W1 := ball (by with_reducible repeat (first | exact hbR | apply Below.drew | apply bal_alloc)) hwK1; (try (have oA1 : FrO W1 wG.heap.size ⟨0, 0⟩ ∧ wG.heap.size ≤ wG.heap.size := ⟨FrO.below (by first | exact FrO.new wG 0 0 rfl | exact FrO.drew' (FrO.new wG 0 0 rfl) | exact FrO.new wG.drew 0 0 rfl) hwK1, Nat.le_refl _⟩)); have y1_0 := bcell hbK1 nG q0; have y1_1 := bcell hbK1 nG q1))
                  all_goals
                    go_wp2_with fail
                    go_meet
                    exact ⟨rfl, hbK1⟩
              case neg =>
                have j1 : (V == gn) = false := beq_eq_false_iff_ne.2 h3
                rw [decide_eq_false h3] at h2
                have h5 : nb = true := h2
                subst h5
                clear h3 h2
                go_wp2_with fail
                go_region_held3 (fun w' => w'.cell? ⟨gG, 0, none⟩ = some (.int .i64 gn) ∧ w'.cell? ⟨gG, 1, none⟩ = some (.int .i64 gd)) (with_reducible repeat' (first | apply And.intro | assumption | apply cell_alloc' | apply cell_drew'))
                  (first     | (go_at_call 29; (with_reducible refine (CW.out _).mono ?_); rintro e W1 ⟨rfl, hwK1⟩; have hbK1 : Below wG.heap.size wG W1 := ball (by with_reducible repeat (first | exact hbR | apply Below.drew | apply bal_alloc)) hwK1; (try (have oA1 : FrO W1 wG.heap.size ⟨0, 0⟩ ∧ wG.heap.size ≤ wG.heap.size := ⟨FrO.below (by first | exact FrO.new wG 0 0 rfl | exact FrO.drew' (FrO.new wG 0 0 rfl) | exact FrO.new wG.drew 0 0 rfl) hwK1, Nat.le_refl _⟩)); have y1_0 := bcell hbK1 nG q0; have y1_1 := bcell hbK1 nG q1))
                all_goals
                  go_wp2_with fail
                  go_meet
                  exact ⟨rfl, hbK1⟩
        case rest =>
          obtain ⟨rfl, hbc⟩ := hcut
          obtain ⟨wH, rfl⟩ : ∃ x : World, x = wc := ⟨_, rfl⟩
          have HOH := Lib.hid (RowI.below HOA.out hbc)
          have hbH := ball hbA hbc
          clear hbA hbc HOA oG hgs HND2
          cases nb
          case false =>
            have hfk := Lib.hid (needK_miss HNB.out)
            go_wp2_with fail
            go_roundw
            case rel => exact ⟨k + 1, by omega, by go_num, by rw [hfk.out]; exact HOH.out, hbH⟩
            case measure => (simp [intOf]; omega)
          case true =>
            have hfk := Lib.hid (needK_hit HNB.out)
            have hfl := needK_len p k
            have hzE := hbH.size
            obtain ⟨o, ho⟩ : ∃ o, needK p k = o := ⟨_, rfl⟩
            rw [ho] at HOH hfk hfl
            clear ho
            obtain ⟨L, hL⟩ : ∃ N, o.length = N := ⟨_, rfl⟩
            obtain ⟨adv, capv, rfl, -⟩ := RowI.shape HOH.out
            have HL := Lib.hid hL
            rw [natL_len, hL] at HOH ⊢
            rw [hL] at hfl
            clear hL
            go_wp2_with (at_builtin; refine wpList_append_lies _ rfl _ _ 23 rfl w1.heap.size 3 iI _ 1 8 Try.underlying23 hiI0 hiI1 hiI2 hiI3 rfl (by omega) (.slice adv L capv) L (ints (natL o)) rfl ((rowN HOH.out HL.out).alloc _) ⟨wH.heap.size, 0, none⟩ 1 1 [.int .i64 (k : Int)] rfl rfl (World.news_of_block (cs := #[.int .i64 (k : Int)]) (t := 3) (fr := (0, 0)) (heap_alloc_new _ _)) (by simp [Value.oneCell']) (by omega) (by unfold maxLen; omega) (by omega) (by simp; omega) (wH.heap.size + 1) (by simp) ?_; intro g5 cap5 wm hown hgrow hat hlt5; clear hat)
            have hbm := app_below hbH hzE (rowN HOH.out HL.out) hgrow
            go_roundw
            case rel => exact ⟨k + 1, by omega, by go_num, by rw [hfk.out, natL_snoc]; exact row_congr hown (by simp [natL_len, HL.out]) (by simp [ints]), hbm⟩
            case measure => (simp [intOf]; omega)
/-- A step of a range over a map to fractions. -/
theorem wpList_next_frac (w : World) {ops : Array Oper} {rest : List Oper} {o : Oper} {a : Act} {Q : Exit → Act → World → Prop} (hg : o.guard = none) (it : Operand) (hop : o.op = Op.next it false)
    (b r n : Nat) (D : DataW Unit) (f : Nat → Option Fr) (left : Lit → Bool) (cnt : Nat) (hit : a.eval it = .pointer (some ⟨r, 0, none⟩)) (h : RgM w b r n D left cnt) (hag : Agr D f)
    (hDone : (∀ kl, left kl = false) → wpList Try.prog ops Q rest (a.put o.dst (.tuple #[.bool false])) w)
    (hMore : ∀ (e : Nat) (g : Fr) (w' : World) (cnt' : Nat), f e = some g → RgM w' b r n D (fun z => left z && !z.sameKey (kLit e)) cnt' → cnt' < cnt → w.grownBy w' (some r) → w'.heap.size = w.heap.size →
      (Instr.entry (.pointer (some ⟨r, 0, none⟩))).run Try.prog w' = .ok (.tuple #[.int .i64 (e : Int), .agg #[.int .i64 g.n, .int .i64 g.d]]) w' → wpList Try.prog ops Q rest (a.put o.dst (.tuple #[.bool true, .int .i64 (e : Int), .agg #[.int .i64 g.n, .int .i64 g.d]])) w') :
    wpList Try.prog ops Q (o :: rest) a w := by
  refine wpList_next_ranges w hg it hop 3 lawKey fracElem (Value.int .i64) (fun g : Fr => .agg #[.int .i64 g.n, .int .i64 g.d]) (fun key kl hkey => by obtain ⟨x, rfl, _⟩ := Maps.keyOf_int_inv Try.underlying3 hkey; exact ⟨x, rfl⟩) (fun v y hv => by obtain ⟨c, rfl, _⟩ := fracElem_inv hv; exact ⟨c, rfl⟩)
    b r n D left cnt hit h (fun _ hl => hDone hl) ?_
  intro x c kl y w' cnt' hkey hlk hv hat hrg hlt hgr hsz hen
  obtain ⟨x', ex, rfl, hwx⟩ := Maps.keyOf_int_inv Try.underlying3 hkey
  cases ex
  obtain ⟨e, he⟩ := hag.2.2 _ (Maps.has_true_of_atKey hat)
  unfold kLit at he
  injection he with _ he
  subst he
  obtain ⟨g, hg1, hg2⟩ := fracElem_inv hv
  have hcg : c = g := by
    unfold frV at hg1
    injection hg1 with h1
    have h2 := congrArg Array.toList h1
    simp only [List.cons.injEq, Value.int.injEq, true_and, and_true] at h2
    cases c; cases g; simp only at h2; rw [h2.1, h2.2]
  subst hcg
  have hh : (f e).isSome = true := by rw [← hag.1 e]; exact Maps.has_true_of_atKey hat
  obtain ⟨f0, hf0⟩ := Option.isSome_iff_exists.1 hh
  have h3 := hag.2.1 e f0 hf0 (frD ⟨0, 0⟩)
  have h4 := hat (frD ⟨0, 0⟩)
  have h5 : D.atKey (kLit e) (frD ⟨0, 0⟩) = y.1 := h4
  rw [h3, hg2] at h5
  have h6 := frD_inj h5
  subst h6
  exact hMore e f0 w' cnt' hf0 hrg hlt hgr hsz hen
theorem grown_chg {w w' : World} {c : Nat} (h : w.grownBy w' (some c)) : Chg c w w' := ⟨h.os, h.tape, h.output, h.size, fun k hk hne => h.block k hk (fun e => hne (Option.some.inj e))⟩
theorem RgM.left_eq {w : World} {b r n : Nat} {D : DataW Unit} {left : Lit → Bool} {cnt : Nat} (h : RgM w b r n D left cnt) : w.rangeLeft b r = cnt := World.ranges.left_eq h
theorem RgM.lt {w : World} {b r n : Nat} {D : DataW Unit} {left : Lit → Bool} {cnt : Nat} (h : RgM w b r n D left cnt) : r < w.heap.size := World.ranges.lt h
/-- What has been written when some keys are still to come. -/
def mixP (p : List Int) (left : Lit → Bool) : List Int := tab p.length fun e => if ((sideA p e).isSome && !left (kLit e)) = true then lstA (cof p) (stP p) e else cof p e
theorem mix_len (p : List Int) (left : Lit → Bool) : (mixP p left).length = p.length := by unfold mixP; rw [tab_length]
theorem mix_start {p : List Int} {D : DataW Unit} (h : Agr D (sideA p)) : mixP p (Maps.has D) = p := by
  unfold mixP
  have : tab p.length (fun e => if ((sideA p e).isSome && !(Maps.has D (kLit e))) = true then lstA (cof p) (stP p) e else cof p e) = tab p.length (fun i => p.getD i 0) := tab_congr (fun e _ => by
    rw [h.1 e]
    cases (sideA p e).isSome <;> rfl)
  rw [this, tab_self]
theorem mix_end {p : List Int} (hp : polyB p = true) {left : Lit → Bool} (h : ∀ kl, left kl = false) : mixP p left = leastP p := by
  unfold mixP leastP
  refine tab_congr (fun e he => ?_)
  rw [h]
  unfold sideA
  cases hh : hgt (cof p) (stP p) e with
  | none =>
    have h1 := hgt_out hp he hh
    simp only [Option.map_none, Option.isSome_none, Bool.false_and, Bool.false_eq_true, if_false]
    unfold lstA
    rw [hh, h1]
  | some f => simp
theorem mix_step {p : List Int} {left : Lit → Bool} {e : Nat} {g : Fr} (he : e < p.length) (hg : sideA p e = some g) : (mixP p left).set e (ceiZ g.n g.d) = mixP p (fun z => left z && !z.sameKey (kLit e)) := by
  unfold mixP
  rw [tab_set]
  refine tab_congr (fun i hi => ?_)
  by_cases hie : i = e
  · subst hie
    rw [if_pos rfl]
    have h1 : (kLit i).sameKey (kLit i) = true := WideAt.sameKey_self (show WideAt.IsKeyLit (kLit i) from trivial)
    simp only [h1, hg, Option.isSome_some, Bool.not_true, Bool.and_false, Bool.not_false, Bool.and_self, if_true]
    unfold sideA at hg
    unfold lstA
    cases hh : hgt (cof p) (stP p) i with
    | none => rw [hh] at hg; cases hg
    | some f =>
      rw [hh] at hg
      simp only [Option.map_some, Option.some.injEq] at hg
      subst hg
      exact low_cei (hgt_pos (stP_ok p) hh)
  · rw [if_neg hie]
    have h1 : (kLit i).sameKey (kLit e) = false := Maps.sameKey_ne (fun h => hie (kLit_inj h))
    simp only [h1, Bool.not_false, Bool.and_true]
theorem side_bd {p : List Int} (hp : polyB p = true) {e : Nat} {g : Fr} (h : sideA p e = some g) : e < p.length ∧ (1 ≤ g.d ∧ g.d ≤ 13) ∧ (-13000000 ≤ g.n ∧ g.n ≤ 13000000) := by
  have hl : e < p.length := by
    rcases Nat.lt_or_ge e p.length with h1 | h1
    · exact h1
    · have h2 := side_all hp
      have h3 : sideQ p p.length e = none := by unfold sideQ; rw [if_neg (by omega)]
      rw [h2, h] at h3
      cases h3
  unfold sideA at h
  cases hh : hgt (cof p) (stP p) e with
  | none => rw [hh] at h; cases h
  | some f =>
    rw [hh] at h
    simp only [Option.map_some, Option.some.injEq] at h
    subst h
    have := sg_bd hp hh
    exact ⟨hl, (low_bd this.1 this.2).2⟩
theorem own_ints_set {w : World} {g : Nat} {xs : List Int} (h : Own w g 3 (ints xs)) (k : Nat) (x : Int) : Own (w.setCell ⟨g, k, none⟩ (.int .i64 x)) g 3 (ints (xs.set k x)) := by
  have := Own.set h k (.int .i64 x)
  rwa [ints_set] at this
set_option maxHeartbeats 6400000 in
set_option maxRecDepth 100000 in
theorem iLeast_c (ad : Option Addr) (cap : Nat) (p : List Int) (w : World) (hr : RdI w ad p) (hl : p.length ≤ 1048576) :
    Calls Try.prog 5 #[.slice ad p.length cap] w fun e w' => ∃ ad' cap', e = .returned (.tuple #[.slice ad' (if polyB p = true then leastP p else []).length cap', .bool (polyB p)]) ∧ RdI w' ad' (if polyB p = true then leastP p else []) ∧ Below w.heap.size w w' := by
  have c1 := fun w hr => isPoly_c ad cap p w hr hl
  have HR := Lib.hid hr; clear hr
  obtain ⟨u, hu⟩ : ∃ u, polyB p = u := ⟨_, rfl⟩
  simp only [hu] at c1 ⊢
  have C1 := Lib.hid c1; clear c1
  cases u
  case false =>
    rw [if_neg (by simp)]
    have HU := Lib.hid hu; clear hu
    go_enter Try.func5, Try.ntmps5
    go_wp2_with fail
    refine (C1.out _ HR.out).mono ?_
    rintro e w1 ⟨rfl, rfl⟩
    go_wp2_with fail
    go_ret2
    exact ⟨none, 0, rfl, RdI.nil _ _, Below.refl _ _⟩
  case true =>
    rw [if_pos rfl]
    have hp := hu
    have hpl := (polyB_t hp).1
    have HBD := Lib.hid (fun e g h => side_bd (p := p) hp (e := e) (g := g) h)
    have HEND := Lib.hid (fun left h => mix_end (p := p) hp (left := left) h)
    have CS := Lib.hid (fun w hr => sides_c ad cap p w hr hp)
    clear hu hp
    obtain ⟨bp, off, rfl, hbp⟩ := HR.out.shape (j := 0) (by omega)
    go_enter Try.func5, Try.ntmps5
    go_wp2_with fail
    refine (C1.out _ HR.out).mono ?_
    rintro e w1 ⟨rfl, rfl⟩
    go_wp2_with fail
    refine (CS.out _ HR.out).mono ?_
    rintro e w1 ⟨gM, D, rfl, hoM, hag, hgM, hb1⟩
    go_wp2_with fail
    refine (cloneP_c ⟨bp, off, none⟩ cap p w1 hl (by omega) (HR.out.below hb1)).mono ?_
    rintro e w2 ⟨g, cap2, rfl, hcap, hg, hog, hb2⟩
    have hoM2 := OwnM.below hoM hb2
    have hml := hoM.lt
    have hbw := hb1.trans (hb2.mono hb1.size)
    have hst := mix_start hag
    have HAG := Lib.hid hag; have HST := Lib.hid hst
    have HO := Lib.hid hog
    clear hag hst hog C1 CS HR hoM
    obtain ⟨N, hN⟩ : ∃ N, p.length = N := ⟨_, rfl⟩
    rw [hN] at hcap hpl ⊢
    have HN := Lib.hid hN
    clear hN hl
    have hgl := HO.out.lt
    go_wp2_with (first
      | (at_range; refine wpList_range_own _ rfl _ 46 rfl 3 38 lawKey Try.underlying46 fracElem gM 14 D rfl hoM2 ?_; intro w3 hrg0 hg0 hs0)
      | go_in)
    go_frame
    have hb3 : Below w2.heap.size w2 w3 := ⟨hg0.os, hg0.tape, hg0.output, hg0.size, fun k hk => hg0.block k hk (by simp)⟩
    have ho3 := HO.out.belowAll hb3
    have hbw3 := hbw.trans (hb3.mono hbw.size)
    have hr1 := hbw.size
    obtain ⟨r, hr⟩ : ∃ r, w2.heap.size = r := ⟨_, rfl⟩
    rw [hr] at hrg0 hgl ⊢
    have hrg1 : RgM w3 gM r 14 D (Maps.has D) (Maps.size D) := hrg0
    have hgr : g ≠ r := by omega
    have hgm : gM ≠ g := by omega
    have hwg : w.heap.size ≤ g := by have := hb1.size; omega
    have hwr : w.heap.size ≤ r := by omega
    clear hg0 hs0 hrg0 hb3 hbw HO hoM2 hr
    go_loopw [6] (fun _ wr => ∃ (left : Lit → Bool) (cnt : Nat), RgM wr gM r 14 D left cnt ∧ Own wr g 3 (ints (mixP p left)) ∧ Below w.heap.size w wr) (fun _ wr => wr.rangeLeft gM r)
    case atStart => exact ⟨_, _, hrg1, by rw [HST.out]; exact ho3, hbw3⟩
    case round =>
      obtain ⟨wE, rfl⟩ : ∃ y : World, y = wr := ⟨_, rfl⟩
      obtain ⟨left, cnt, hrg, hoo, hbel⟩ := hrel
      clear hrg1 ho3 hbw3
      go_wp2_with (first
        | (at_next; refine wpList_next_frac _ rfl _ rfl gM r 14 D (sideA p) left cnt rfl hrg HAG.out ?_ ?_)
        | go_in)
      · intro hlf
        have hmx := HEND.out left hlf
        rw [hmx] at hoo
        go_wp2
        go_ret2
        have hln : (leastP p).length = N := by rw [leastP_len, HN.out]
        exact ⟨some ⟨g, 0, none⟩, cap2, by first | (rw [hln]; rfl) | simp [hln], Own.rd hoo, hbel⟩
      · intro e x w4 cnt4 hxe hrg4 hlt hg4 hs4 hen
        obtain ⟨hel, hd, hn⟩ := HBD.out e x hxe
        have hms := Lib.hid (mix_step (left := left) hel hxe)
        obtain ⟨xn, xd⟩ := x
        simp only at hd hn hen hms
        have cc := Lib.hid (fun w => ceil_c xn xd w (by omega) (by omega))
        generalize ceiZ xn xd = Z at cc hms
        have hoo4 := hoo.chg (grown_chg hg4) hgr
        have hbel4 := grown_below hbel hg4 hwr
        have hrl := hrg4.lt
        have xx0 : (0 : Int) ≤ (e : Int) := by omega
        have xx1 : (e : Int) < (N : Int) := by have := HN.out; omega
        have hmE := hrg.left_eq
        have HME := Lib.hid hmE
        have hxs : ∃ v0, (ints (mixP p left))[e]? = some (.int .i64 v0) := ⟨_, ints_get (by rw [mix_len]; exact hel)⟩
        obtain ⟨v0, hv0⟩ := hxs
        have hbA := hbel4.alloc hbel4.size (.cells #[.int .i64 xn, .int .i64 xd] 38)
        have hooA := hoo4.alloc (.cells #[.int .i64 xn, .int .i64 xd] 38)
        have hrgA := RgM.below hrg4 ((Below.refl w4.heap.size w4).alloc (Nat.le_refl _) (.cells #[.int .i64 xn, .int .i64 xd] 38))
        have oX : FrO _ w4.heap.size ⟨xn, xd⟩ := FrO.new w4 xn xd rfl
        obtain ⟨x0, x1⟩ := oX.at
        clear hoo hrg hbel hmE
        go_wp2_with fail
        refine (cc.out _).mono ?_
        rintro e5 w5 ⟨rfl, hw5⟩
        have hoo5 := hooA.belowAll hw5
        have hrg5 := RgM.below hrgA hw5
        have hb5 := hbA.trans (hw5.mono hbA.size)
        have z0 := hoo5.cell? hv0
        have z1 := hoo5.frozen e
        clear x0 x1 oX hooA hrgA hbA hw5 hoo4 hbel4 hen hrg4 hg4 hs4
        go_wp2_with fail
        have hoo6 := own_ints_set hoo5 e Z
        rw [hms.out] at hoo6
        have hrg6 := RgM.chg hrg5 (Chg.set g e w5 (.int .i64 Z)) hgm hgr.symm
        have hb6 := hb5.setCell (p := ⟨g, e, none⟩) hwg (.int .i64 Z)
        generalize w5.setCell ⟨g, e, none⟩ (.int .i64 Z) = wF at hoo6 hrg6 hb6 ⊢
        clear z0 z1 hoo5 hrg5 hb5 hv0
        go_roundw
        case rel => exact ⟨_, cnt4, hrg6, hoo6, hb6⟩
        case measure => rw [hrg6.left_eq, HME.out]; exact hlt

end Go.Proofs.Ytekhmjhbdoigoaa
