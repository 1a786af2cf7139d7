/-
  The reference's piTrees, piCount, TreesOf.
-/
import Derived.Test.YtopkohkilmlpaaaStabR
import Derived.Test.YtopkohkilmlpaaaTreeP
namespace Go.Proofs.Ytopkohkilmlpaaa
open Go.RowKit

theorem RdL.tail {w : World} {b off : Nat} {x : Lk} {t : List Lk} (h : RdL w (some ⟨b, off, none⟩) (x :: t)) : RdL w (some ⟨b, off + 3, none⟩) t := fun j hj => by
  obtain ⟨b', off', e, hb, c0, c1, c2⟩ := h (j + 1) (by simpa using hj)
  simp only [Option.some.injEq, Addr.mk.injEq, and_true] at e
  obtain ⟨rfl, rfl⟩ := e
  refine ⟨b, off + 3, rfl, hb, ?_, ?_, ?_⟩
  · rw [show off + 3 + j * 3 = off + (j + 1) * 3 by omega, c0]; simp
  · rw [show off + 3 + j * 3 = off + (j + 1) * 3 by omega, c1]; simp
  · rw [show off + 3 + j * 3 = off + (j + 1) * 3 by omega, c2]; simp
set_option maxRecDepth 100000 in
theorem slice_links {w : World} {b off capl : Nat} {x : Lk} {t : List Lk} (hr : RdL w (some ⟨b, off, none⟩) (x :: t)) (hc : t.length + 1 ≤ capl) :
    ∃ ad2 cap2, (∀ w' : World, (Instr.slice 27 (.slice (some ⟨b, off, none⟩) (t.length + 1) capl) (some (.int .i64 1)) none none).run Try.prog w' = .ok (.slice ad2 t.length cap2) w') ∧ RdL w ad2 t ∧ t.length ≤ cap2 := by
  by_cases hc1 : capl = 1
  · subst hc1
    have ht : t = [] := List.eq_nil_of_length_eq_zero (by omega)
    subst ht
    refine ⟨some ⟨b, off, none⟩, 0, fun w' => ?_, fun j hj => by simp at hj, by simp⟩
    rw [run_slice_l w' _ _ _ _ Try.underlying27 _ _ (by omega) (by omega)]
    simp [go_sem]
  · refine ⟨some ⟨b, off + 3, none⟩, capl - 1, fun w' => ?_, hr.tail, by omega⟩
    rw [run_slice_l w' _ _ _ _ Try.underlying27 _ _ (by omega) (by omega)]
    simp [go_sem, hc1]
theorem all_same {g : List Int} : (g.all fun x => x == g.getD 0 0) = true ↔ ∀ j, j < g.length → g.getD j 0 = g.getD 0 0 := by
  rw [List.all_eq_true]
  constructor
  · intro h j hj
    have := h (g.getD j 0) (by simp [List.getD, hj])
    simpa using this
  · intro h x hx
    obtain ⟨j, hj, rfl⟩ := List.getElem_of_mem hx
    have := h j hj
    simp only [List.getD, List.getElem?_eq_getElem hj, Option.getD_some] at this ⊢
    simpa using this
theorem replL_tab {g : List Int} {N : Nat} (h : g.length = N) (b a : Int) : replL g b a = tab N fun i => if g.getD i 0 = b then a else g.getD i 0 := by
  subst h
  unfold replL
  have := tab_self g 0
  conv => lhs; rw [← this]
  rw [tab_map]

set_option maxHeartbeats 6400000 in
set_option maxRecDepth 100000 in
theorem piTrees_any (N : Nat) (hN0 : 0 < N) (hN : N ≤ 8) : ∀ (l : List Lk) (ad : Option Addr) (capl : Nat) (a : Addr) (cap : Nat) (g : List Int) (w : World), l.length ≤ 10 → l.length ≤ capl → RdL w ad l → (∀ x ∈ l, 0 ≤ x.a ∧ x.a < N ∧ 0 ≤ x.b ∧ x.b < N ∧ 0 ≤ x.n ∧ x.n ≤ 5) → g.length = N → RdI w (some a) g →
    Calls Try.prog 81 #[.slice (some a) N cap, .slice ad l.length capl] w fun e w' => e = .returned (.int .i64 (treesL g l)) ∧ Below w.heap.size w w' := by
  intro l
  induction l with
  | nil =>
    intro ad capl a cap g w _ hcl hrl _ hgl hr
    clear hrl
    have HR := Lib.hid hr; clear hr
    have HGL := Lib.hid hgl; clear hgl
    obtain ⟨ga, goff, e, hb, c0⟩ := HR.out 0 (by rw [HGL.out]; exact hN0)
    obtain rfl : a = ⟨ga, goff, none⟩ := by simpa using e
    clear e
    rw [Nat.add_zero] at c0
    obtain ⟨x0, hx0⟩ : ∃ x, g.getD 0 0 = x := ⟨_, rfl⟩
    rw [hx0] at c0
    have HX0 := Lib.hid hx0; clear hx0
    go_enter Try.func81, Try.ntmps81
    go_wp2_with fail
    go_loop [19] (fun i => ∃ k : Nat, k ≤ N ∧ i = .int .i64 k ∧ ∀ j, j < k → g.getD j 0 = x0) (fun i => N - (intOf i).toNat)
    case atStart => exact ⟨0, Nat.zero_le _, rfl, fun j hj => by omega⟩
    case round =>
      obtain ⟨k, hk, rfl, hj⟩ := hrel
      have HJ := Lib.hid hj; clear hj
      by_cases hlt : k < N
      case neg =>
        have he : k = N := by omega
        subst he
        go_wp2_with fail
        go_ret
        refine ⟨ret_int ?_, Below.refl _ _⟩
        simp only [treesL]
        rw [if_pos (all_same.2 fun j hj => by rw [HX0.out]; exact HJ.out j (by rw [HGL.out] at hj; exact hj))]
      case pos =>
        have ck := HR.out.at (j := k) (by rw [HGL.out]; exact hlt)
        obtain ⟨x, hx⟩ : ∃ x, g.getD k 0 = x := ⟨_, rfl⟩
        rw [hx] at ck
        have HX := Lib.hid hx; clear hx
        by_cases hxx : x = x0
        case pos =>
          have h1 : (x == x0) = true := by simpa using hxx
          have h2 : (x != x0) = false := by simpa using hxx
          have HXX := Lib.hid hxx; clear hxx
          go_wp2_with fail
          go_round
          case rel =>
            refine ⟨k + 1, by omega, by go_num, fun j hj => ?_⟩
            by_cases e : j = k
            · subst e; rw [HX.out]; exact HXX.out
            · exact HJ.out j (by omega)
          case measure => simp [intOf]; omega
        case neg =>
          have h1 : (x == x0) = false := by simpa using hxx
          have h2 : (x != x0) = true := by simpa using hxx
          have HXX := Lib.hid hxx; clear hxx
          go_wp2_with fail
          go_ret
          refine ⟨ret_int ?_, Below.refl _ _⟩
          simp only [treesL]
          rw [if_neg]
          intro q
          have := all_same.1 q k (by rw [HGL.out]; exact hlt)
          rw [HX.out, HX0.out] at this
          exact HXX.out this
  | cons x t ih =>
    intro ad capl a cap g w hl10 hcl hrl hx hgl hr
    simp only [List.length_cons] at hl10 hcl
    have IH := Lib.hid ih; clear ih
    have hxx := hx x List.mem_cons_self
    have HTX := Lib.hid (fun y hy => hx y (List.mem_cons_of_mem _ hy)); clear hx
    obtain ⟨b, off, rfl, hb, c0, c1, c2⟩ := hrl 0 (by simp)
    simp only [List.getD_cons_zero, Nat.zero_mul, Nat.add_zero] at c0 c1 c2
    obtain ⟨ad2, cap2, hsl, hrt, hct⟩ := slice_links hrl hcl
    have HRT := Lib.hid hrt; clear hrt hrl
    have hbd := treesL_bd t g (fun y hy => by have := HTX.out y hy; omega)
    have hpw : (6 : Int) ^ t.length ≤ 60466176 := by
      have h := Nat.pow_le_pow_right (n := 6) (by omega) (show t.length ≤ 10 by omega)
      rw [show (6 : Nat) ^ 10 = 60466176 from rfl] at h
      have e : ((6 ^ t.length : Nat) : Int) = (6 : Int) ^ t.length := by simp
      omega
    have hbd2 := treesL_bd t (replL g (g.getD x.b.toNat 0) (g.getD x.a.toNat 0)) (fun y hy => by have := HTX.out y hy; omega)
    obtain ⟨xa, xb, xn⟩ := x
    simp only at hxx c0 c1 c2 hbd2
    obtain ⟨ia, rfl⟩ : ∃ k : Nat, xa = k := ⟨xa.toNat, by omega⟩
    obtain ⟨ib, rfl⟩ : ∃ k : Nat, xb = k := ⟨xb.toNat, by omega⟩
    have hia : ia < N := by omega
    have hib : ib < N := by omega
    rw [Int.toNat_natCast, Int.toNat_natCast] at hbd2
    have HTR := Lib.hid (show treesL g (⟨ia, ib, xn⟩ :: t) = treesL g t + if g.getD ia 0 = g.getD ib 0 then 0 else xn * treesL (replL g (g.getD ib 0) (g.getD ia 0)) t by simp only [treesL, Int.toNat_natCast])
    have HR := Lib.hid hr; clear hr
    have HGL := Lib.hid hgl; clear hgl
    obtain ⟨ga, goff, e, hgb, ca⟩ := HR.out ia (by rw [HGL.out]; exact hia)
    obtain rfl : a = ⟨ga, goff, none⟩ := by simpa using e
    clear e
    have cb := HR.out.at (j := ib) (by rw [HGL.out]; exact hib)
    obtain ⟨va, hva⟩ : ∃ v, g.getD ia 0 = v := ⟨_, rfl⟩
    obtain ⟨vb, hvb⟩ : ∃ v, g.getD ib 0 = v := ⟨_, rfl⟩
    rw [hva] at ca HTR hbd2
    rw [hvb] at cb HTR hbd2
    have HVA := Lib.hid hva; clear hva
    have HVB := Lib.hid hvb; clear hvb
    have hb0 : Below w.heap.size w (w.alloc (.cells #[.int .i64 ia, .int .i64 ib, .int .i64 xn] 50)) := (Below.refl _ _).alloc (Nat.le_refl _) _
    have HK := Lib.hid (Own.newA w #[.int .i64 ia, .int .i64 ib, .int .i64 xn] 50 rfl)
    rw [List.length_cons]
    go_enter Try.func81, Try.ntmps81
    go_wp2_with fail
    refine (IH.out ad2 cap2 ⟨ga, goff, none⟩ cap g _ (by omega) hct (HRT.out.below hb0) HTX.out HGL.out (HR.out.below hb0)).mono ?_
    generalize htv : treesL g t = tv at hbd HTR
    rintro e w1 ⟨rfl, hb1⟩
    have hbw := ball hb0 hb1
    have HK1 := Lib.hid (HK.out.belowAll hb1)
    have k0 := HK1.out.cell? (i := 0) rfl
    have k1 := HK1.out.cell? (i := 1) rfl
    have da := bcell hbw hgb ca
    have db := bcell hbw hgb cb
    have x1 : (0 : Int) ≤ (ia : Int) := by omega
    have x2 : (ia : Int) < (N : Int) := by omega
    have x3 : (0 : Int) ≤ (ib : Int) := by omega
    have x4 : (ib : Int) < (N : Int) := by omega
    have HTV := Lib.hid htv; clear htv
    go_wp2_with fail
    go_quiet (fail)
    have hbw2 := bdrewN hbw nq
    have HK2 := Lib.hid (HK1.out.drewN nq)
    have hb1' := bdrewN (Below.refl w1.heap.size w1) nq
    generalize w1.drewN nq = W2 at hbw2 HK2 hb1' ⊢
    clear k0 k1 da db c0 c1 c2 ca cb
    by_cases hv : va = vb
    case pos =>
      have h1 : (va == vb) = true := by simpa using hv
      have h2 : (va != vb) = false := by simpa using hv
      have HV := Lib.hid hv; clear hv
      go_wp2_with fail
      go_ret
      exact ⟨ret_int (by rw [HTR.out, if_pos HV.out]; omega), hbw2⟩
    case neg =>
      have h1 : (va == vb) = false := by simpa using hv
      have h2 : (va != vb) = true := by simpa using hv
      have HV := Lib.hid hv; clear hv
      go_wp2_with fail
      have hown := l1Own_any ⟨ga, goff, none⟩ cap g W2 (by rw [HGL.out]; omega) (HR.out.below hbw2)
      rw [HGL.out] at hown
      refine hown.mono ?_
      clear hown
      rintro e w3 ⟨v3, rfl, hv3, hb3⟩
      rcases hv3 with ⟨_, h0⟩ | ⟨gn, capn, e', hgn, ho⟩
      · have := HGL.out; rw [h0] at this; simp at this; omega
      rw [HGL.out] at e'
      subst e'
      have hgt : g = tab N (fo g) := by
        have := tab_self g 0
        rw [HGL.out] at this
        exact this.symm
      have HO := Lib.hid (ho.congr (cs' := ints (tab N (fo g))) (by rw [← hgt])); clear ho hgt
      have hbw3 := ball hbw2 hb3
      have HK3 := Lib.hid (HK2.out.belowAll hb3)
      have hKl := HK2.out.lt
      have hgK : gn ≠ w.heap.size := by omega
      go_wp2_with fail
      go_loopw [53] (fun i wr => ∃ k : Nat, k ≤ N ∧ i = .int .i64 k ∧ Own wr gn 3 (ints (tab N fun j => if j < k then (if fo g j = vb then va else fo g j) else fo g j)) ∧ Chg gn w3 wr) (fun i _ => N - (intOf i).toNat)
      case atStart => exact ⟨0, Nat.zero_le _, rfl, HO.out.congr (by congr 1), Chg.refl _ _⟩
      case round =>
        obtain ⟨k, hk, rfl, hown, hchg⟩ := hrel
        have HW := Lib.hid hown; clear hown
        by_cases hlt : k < N
        case pos =>
          have c0 := HW.out.cell? (i := k) (ints_get (by rw [tab_length]; exact hlt))
          rw [tab_getD hlt, if_neg (Nat.lt_irrefl k)] at c0
          have f0 := HW.out.frozen k
          have st : ∀ x : Int, x = (if fo g k = vb then va else fo g k) → Own (wr.setCell ⟨gn, k, none⟩ (.int .i64 x)) gn 3 (ints (tab N fun j => if j < k + 1 then (if fo g j = vb then va else fo g j) else fo g j)) := fun x hx => by
            have := HW.out.set k (.int .i64 x)
            rw [ints_set, tab_set] at this
            refine this.congr ?_
            congr 1
            refine tab_congr fun i _ => ?_
            by_cases e : i = k
            · subst e; rw [if_pos rfl, if_pos (show i < i + 1 by omega), hx]
            · rw [if_neg e]
              by_cases e2 : i < k
              · rw [if_pos e2, if_pos (show i < k + 1 by omega)]
              · rw [if_neg e2, if_neg (show ¬ i < k + 1 by omega)]
          have HST := Lib.hid st; clear st
          by_cases hxv : fo g k = vb
          case pos =>
            have HXV := Lib.hid hxv
            rw [hxv] at c0
            have hd1 : (vb == vb) = true := by simp
            clear hxv
            go_wp2_with fail
            go_roundw
            case rel => exact ⟨k + 1, by omega, by go_num, HST.out va (by rw [if_pos HXV.out]), hchg.trans (Chg.set _ _ _ _)⟩
            case measure => simp [intOf]; omega
          case neg =>
            have stay : Own wr gn 3 (ints (tab N fun j => if j < k + 1 then (if fo g j = vb then va else fo g j) else fo g j)) := by
              refine HW.out.congr ?_
              congr 1
              refine tab_congr fun i _ => ?_
              by_cases e : i = k
              · subst e; rw [if_neg (Nat.lt_irrefl _), if_pos (show i < i + 1 by omega), if_neg hxv]
              · by_cases e2 : i < k
                · rw [if_pos e2, if_pos (show i < k + 1 by omega)]
                · rw [if_neg e2, if_neg (show ¬ i < k + 1 by omega)]
            have HSY := Lib.hid stay; clear stay HST
            obtain ⟨x, hx⟩ : ∃ x, fo g k = x := ⟨_, rfl⟩
            rw [hx] at c0 hxv
            have hd1 : (x == vb) = false := by simpa using hxv
            clear hxv hx
            go_wp2_with fail
            go_roundw
            case rel => exact ⟨k + 1, by omega, by go_num, HSY.out, hchg⟩
            case measure => simp [intOf]; omega
        case neg =>
          have he : k = N := by omega
          subst he
          have HN := Lib.hid (HW.out.congr (cs' := ints (replL g vb va)) (by rw [replL_tab HGL.out]; congr 1; exact tab_congr fun j hj => if_pos hj))
          have hbw4 := bchg hbw3 hchg (by omega) hbw3.size
          have HK4 := Lib.hid (HK3.out.chg hchg (Ne.symm hgK))
          have hlen4 : (replL g vb va).length = k := by rw [replL_tab HGL.out, tab_length]
          have HL4 := Lib.hid hlen4; clear hlen4
          have hcall := fun w' (hb' : Below w.heap.size w w') (hn : Own w' gn 3 (ints (replL g vb va))) => IH.out ad2 cap2 ⟨gn, 0, none⟩ capn (replL g vb va) w' (by omega) hct (HRT.out.below hb') HTX.out HL4.out hn.rd
          have HC := Lib.hid (hcall wr.drew hbw4.drew HN.out.drew); clear hcall
          have k2 : wr.drew.cell? ⟨w.heap.size, 2, none⟩ = some (.int .i64 xn) := HK4.out.drew.cell? (i := 2) rfl
          have kl : w.heap.size < wr.drew.heap.size := HK4.out.lt
          generalize htv2 : treesL (replL g vb va) t = tv2 at hbd2 HTR HC
          have hm := mul_bd (a := xn) (b := tv2) (A := 5) (B := 60466176) (by omega) (by omega)
          have hm0 := Int.mul_nonneg hxx.2.2.2.2.1 hbd2.1
          have e1 : IntKind.i64.wrap (xn * tv2) = xn * tv2 := i64_small (by omega) (by omega)
          have e2 : IntKind.i64.wrap (tv + xn * tv2) = tv + xn * tv2 := i64_small (by omega) (by omega)
          go_wp2_with fail
          go_region_held3 (fun w' => w'.cell? ⟨w.heap.size, 2, none⟩ = some (.int .i64 xn)) (exact (by assumption))
            (first | (go_at_call 81; (with_reducible refine HC.out.mono ?_); rintro e w5 ⟨rfl, hb5⟩; have m2 := bcell hb5 kl k2))
          clear e1 e2
          go_wp2_with fail
          go_ret
          exact ⟨ret_int (by rw [HTR.out, if_neg HV.out]), ball hbw4.drew hb5⟩

end Go.Proofs.Ytopkohkilmlpaaa
