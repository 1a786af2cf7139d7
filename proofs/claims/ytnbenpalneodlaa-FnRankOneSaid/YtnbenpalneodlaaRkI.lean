/-
  Choices, the reference's: the walk. By an AI agent.
-/
import Derived.Test.YtnbenpalneodlaaRkH
namespace Go.Proofs.Ytnbenpalneodlaa
open Go.RowKit

theorem rowI_one (u : World) (B H : Nat) (x : Int) (hB : B ≤ u.heap.size) (hH : u.heap.size = H) : RowI (u.alloc (.cells #[.int .i64 x] 3)) B (.slice (some ⟨H, 0, none⟩) 1 1) [x] := by
  subst hH
  exact ⟨rfl, Or.inr ⟨u.heap.size, 1, #[.int .i64 x], rfl, hB, heap_alloc_new u _, Nat.le_refl _, by unfold maxLen; omega, rfl, rfl⟩⟩
theorem MatL.atL {w : World} {R B : Nat} {ad : Option Addr} {n cap : Nat} {M : List (List Int)} {vs : List Value} (h : MatL w R B (.slice ad n cap) M vs) {i : Nat} (hi : i < M.length) : ∃ g a c, ad = some ⟨g, 0, none⟩ ∧ g < w.heap.size ∧ w.cell? ⟨g, i, none⟩ = some (.slice a (M.getD i []).length c) ∧ CellO w B (.slice a (M.getD i []).length c) (M.getD i []) := by
  rcases Own.of_row h.row with ⟨_, h0, _⟩ | ⟨g, cap', h1, hB, _, _, ho⟩
  · omega
  · injection h1 with h1 _ _
    subst h1
    have hi' : i < vs.length := by rw [h.len]; exact hi
    have hc : w.cell? ⟨g, i, none⟩ = some (vs.getD i undef) := ho.cell? (by simp [List.getD, hi'])
    have he := h.each i hi
    obtain ⟨a, c, e, _⟩ := he
    have hr := h.each i hi
    rw [e] at hc hr
    exact ⟨g, a, c, rfl, ho.lt, hc, hr⟩
theorem takeL_snoc (M : List (List Int)) (k : Nat) (h : k < M.length) : M.take (k + 1) = M.take k ++ [M.getD k []] := by
  rw [List.take_succ_eq_append_getElem h, List.getD_eq_getElem?_getD, List.getElem?_eq_getElem h, Option.getD_some]
theorem takeN_snoc {a : List Int} {t : Nat} (h : t < a.length) : a.take (t + 1) = a.take t ++ [a.getD t 0] := by
  rw [List.take_succ_eq_append_getElem h, List.getD_eq_getElem?_getD, List.getElem?_eq_getElem h, Option.getD_some]
/-- append of one row, and where the new list lies. -/
theorem wpList_appL2 {w : World} {ops : Array Oper} {rest : List Oper} {o : Oper} {a : Act} {Q : Exit → Act → World → Prop} (hgd : o.guard = none) (s x : Operand)
    (ho : o.op = .call { callee := .builtin .append, args := #[s, x], argTypes := #[26, 26] })
    (R R2 B H : Nat) (v u : Value) (M : List (List Int)) (xs : List Int) (vs : List Value) (N : Nat) (hN : M.length + 1 = N) (hs : a.eval s = v) (hx : a.eval x = .slice (some ⟨H, 0, none⟩) 1 1)
    (hm : MatL w R B v M vs) (hu : MatL w R2 B (.slice (some ⟨H, 0, none⟩) 1 1) [xs] [u]) (hl : M.length ≤ 100000) (hR : R ≤ w.heap.size)
    (h : ∀ ad' cap' w', MatL w' R B (.slice ad' N cap') (M ++ [xs]) (vs ++ [u]) → w.grownBy w' v.ownBlock → ((Value.slice ad' N cap').ownBlock = v.ownBlock ∨ (Value.slice ad' N cap').ownBlock = some w.heap.size) → w.heap.size ≤ w'.heap.size → wpList Try.prog ops Q rest (a.put o.dst (.slice ad' N cap')) w') : wpList Try.prog ops Q (o :: rest) a w := by
  refine wpList_plain hgd fun _ hQ => ?_
  obtain ⟨iP, hiP, hzP, hsP, hbP⟩ := info_parts Try.infoM
  obtain ⟨v', w', hr, h2, h3, _, h5⟩ := run_append_own_at (P := Try.prog) w R 26 o.type 23 iP _ 1 24 Try.underlying26 hiP hzP hsP hbP rfl (by omega) _ M.length vs hm.row ⟨H, 0, none⟩ 1 1 [u] rfl (fun j z hz => by
    rw [addr_plain, Nat.zero_add]
    obtain ⟨_, _, e0, _, _, hso⟩ := hu.shape
    injection e0 with e0 _ _
    obtain ⟨g, e1, hog⟩ := hso _ e0.symm
    injection e1 with e1 _ _
    subst e1
    exact hog.cell? hz) (fun z hz => by
      rw [List.mem_singleton] at hz
      subst hz
      have h6 := hu.each 0 (by simp)
      simp only [List.getD_cons_zero] at h6
      obtain ⟨_, _, rfl, _⟩ := h6
      rfl) (by unfold maxLen; omega) (by omega) hR
  have hmat := hm.cat hu h2 h3
  obtain ⟨ad', cap', e, _⟩ := hmat.shape
  rw [List.length_append, List.length_singleton, hN] at e
  subst e
  unfold Oper.wp execOp
  simp only [ho, resolve, invoke, builtin, Sem.run_bind, Sem.run_pure, Result.andThen_ok, List.map_toArray, List.map_cons, List.map_nil, hs, hx, hr]
  exact hQ _ _ (h _ _ w' hmat h3 h5 h3.size)
def PWq (B E q : Nat) : Prop := B ≤ q ∧ q < E
def ChR (n N : Nat) (w : World) (e : Ending) (w' : World) : Prop := ∃ ad cap, e = .returned (.slice ad (rkC n N).length cap) ∧ (∃ vs, MatL w' w.heap.size w.heap.size (.slice ad (rkC n N).length cap) (rkC n N) vs) ∧ Below w.heap.size w w'

set_option maxHeartbeats 6400000 in
set_option maxRecDepth 100000 in
theorem rkChoices_c : ∀ (n N : Nat) (w : World), n ≤ 6 → N ≤ 6 → Calls Try.prog 71 #[.int .i64 (N : Int), .int .i64 (n : Int)] w (ChR n N w) := by
  intro n
  induction n with
  | zero =>
    intro N w _ _
    have HO := Lib.hid (MatL.one w w.heap.size w.heap.size (.slice none 0 0) [] ⟨none, 0, rfl, Nat.le_refl _, Or.inl ⟨rfl, rfl⟩⟩ (Nat.le_refl _))
    have g1 : (((0 : Nat) : Int) == 0) = true := rfl
    go_enter Try.func71, Try.ntmps71
    go_wp2_with fail
    refine bodyPost_ret (v := .slice (some ⟨w.heap.size, 0, none⟩) 1 1) (by simp [results, Try.results71, go_sem]) rfl ?_
    exact ⟨_, _, rfl, ⟨_, HO.out⟩, (Below.refl _ _).alloc (Nat.le_refl _) _⟩
  | succ n ih =>
    intro N w hn hN
    have HIH := Lib.hid (fun (N : Nat) (u : World) (h : N ≤ 6) => ih N u (by omega) h)
    clear ih
    have HSU := Lib.hid (fun j => rcT_succ n N j)
    have HEN := Lib.hid (rkC_succ n N)
    have HTL := Lib.hid (fun j (hj : j ≤ N - n) => show (rcT n N j).length ≤ 50000 from by
      have hT : ∀ j, (rcT n N j).length ≤ j * 6 ^ n := by
        intro j
        induction j with
        | zero => simp [rcT]
        | succ j ih =>
          rw [rcT_succ, List.length_append, Nat.add_mul, Nat.one_mul, List.length_map]
          exact Nat.add_le_add ih (rkC_len n (by omega))
      have h1 := hT j
      have h3 : 6 ^ n ≤ 7776 := Nat.pow_le_pow_right (n := 6) (by omega) (show n ≤ 5 by omega)
      have h5 : j * 6 ^ n ≤ 6 * 7776 := Nat.mul_le_mul (by omega) h3
      omega)
    have HWL := Lib.hid (fun N' (h : N' ≤ 6) => show (rkC n N').length ≤ 50000 from by
      have h1 := rkC_len n h
      have h3 : 6 ^ n ≤ 7776 := Nat.pow_le_pow_right (n := 6) (by omega) (show n ≤ 5 by omega)
      omega)
    unfold ChR
    rw [HEN.out]
    have HT0 := Lib.hid (show rcT n N 0 = [] from rfl)
    obtain ⟨q, hq⟩ : ∃ q, n + 1 = q := ⟨_, rfl⟩
    rw [hq]
    have g1 : ((q : Int) == 0) = false := beq_eq_false_iff_ne.2 (by omega)
    have e0 : IntKind.i64.wrap ((N : Int) - (q : Int)) = (N : Int) - (q : Int) := i64_small (by omega) (by omega)
    have e1 : IntKind.i64.wrap ((q : Int) - 1) = (n : Int) := by rw [i64_small (by omega) (by omega)]; omega
    have HQ := Lib.hid hq
    clear hq
    go_enter Try.func71, Try.ntmps71
    go_wp2_with fail
    go_loopw [5, 6] (fun v i wr => ∃ (k : Nat) (vs : List Value), k ≤ N - n ∧ i = .int .i64 k ∧ MatL wr w.heap.size w.heap.size v (rcT n N k) vs ∧ Below w.heap.size w wr) (fun _ i _ => N + 1 - (intOf i).toNat)
    case atStart => exact ⟨0, [], Nat.zero_le _, rfl, MatL.nil _ _ _, Below.refl _ _⟩
    case round =>
      obtain ⟨wE, rfl⟩ : ∃ x : World, x = wr := ⟨_, rfl⟩
      obtain ⟨k, vs, hk, rfl, hml, hbel⟩ := hrel
      obtain ⟨ad1, cap1, rfl, _⟩ := hml.shape
      have hq := HQ.out
      by_cases hlt : k < N - n
      case neg =>
        obtain rfl : k = N - n := by omega
        have HML := Lib.hid hml; clear hml
        have d1 : decide (((N - n : Nat) : Int) ≤ (N : Int) - (q : Int)) = false := decide_eq_false (by omega)
        have d2 : ¬ (((N - n : Nat) : Int) ≤ (N : Int) - (q : Int)) := by omega
        obtain ⟨t, ht⟩ : ∃ t, N - n = t := ⟨_, rfl⟩
        rw [ht] at HML d1 d2 hk ⊢
        have HTN := Lib.hid ht
        clear ht hq
        go_wp2_with fail
        go_ret
        exact ⟨_, _, by rw [HTN.out]; rfl, ⟨_, by rw [HTN.out]; exact HML.out⟩, hbel⟩
      case pos =>
        have d1 : decide ((k : Int) ≤ (N : Int) - (q : Int)) = true := decide_eq_true (by omega)
        have d2 : (k : Int) ≤ (N : Int) - (q : Int) := by omega
        obtain ⟨N1, hN1⟩ : ∃ N1, N - k - 1 = N1 := ⟨_, rfl⟩
        have e2 : IntKind.i64.wrap ((N : Int) - (k : Int)) = (N : Int) - (k : Int) := i64_small (by omega) (by omega)
        have e3 : IntKind.i64.wrap ((N : Int) - (k : Int) - 1) = (N1 : Int) := by rw [i64_small (by omega) (by omega)]; omega
        have e4 : IntKind.i64.wrap ((k : Int) + 1) = (k : Int) + 1 := i64_small (by omega) (by omega)
        have hst := HSU.out k
        rw [hN1] at hst
        have htl := HTL.out k hk
        have htl1 := HTL.out (k + 1) (by omega)
        have C2 := Lib.hid (HIH.out N1 wE (by omega))
        have hwl := HWL.out N1 (by omega)
        have HEL := Lib.hid (fun c (hc : c ∈ rkC n N1) t (ht : t < c.length) => show 0 ≤ c.getD t 0 ∧ c.getD t 0 ≤ 6 from by
          have := vt_at (rkC_mem.1 hc).2.vt ht
          omega)
        have HCL := Lib.hid (fun c (hc : c ∈ rkC n N1) => show c.length ≤ 6 from by
          have := (rkC_mem.1 hc).1
          omega)
        unfold ChR at C2
        generalize rkC n N1 = W at hst C2 hwl HEL HCL
        have HST := Lib.hid hst
        obtain ⟨T, hT⟩ : ∃ T, rcT n N k = T := ⟨_, rfl⟩
        rw [hT] at hml htl hst ⊢
        rw [hst, List.length_append, List.length_map] at htl1
        have HTT := Lib.hid hT
        have HML := Lib.hid hml
        have hszE := hbel.size
        have hk6 : k ≤ 6 := by omega
        clear hml hst hT hN1 hq
        go_wp2_with fail
        refine C2.out.mono ?_
        rintro e w2 ⟨ad2, cap2, rfl, ⟨us, hw⟩, hb2⟩
        obtain ⟨K, hK⟩ : ∃ K, W.length = K := ⟨_, rfl⟩
        rw [hK] at hw hwl htl1 ⊢
        have HK := Lib.hid hK
        have HW := Lib.hid hw
        have hs2 := hb2.size
        have HM2 := Lib.hid (HML.out.below hb2)
        have hbE := ball hbel hb2
        clear hw hK C2
        go_wp2_with fail
        go_loopw [5, 30] (fun v i wr => ∃ (j : Nat) (us : List Value), j ≤ K ∧ i = .int .i64 j ∧ MatL wr w.heap.size w.heap.size v (T ++ (W.take j).map (shC k)) us ∧ (∀ q, v.ownBlock = some q → q < wE.heap.size ∨ w2.heap.size ≤ q) ∧ FrP w2.heap.size (PWq w.heap.size wE.heap.size) w2 wr) (fun _ i _ => K - (intOf i).toNat)
        case atStart => exact ⟨0, _, Nat.zero_le _, rfl, by rw [List.take_zero, List.map_nil, List.append_nil]; exact HM2.out, (fun q hq => Or.inl (World.ownsRow.lt HML.out.row q hq).2), FrP.refl _ _ _⟩
        case round =>
          obtain ⟨wF, rfl⟩ : ∃ x : World, x = wr := ⟨_, rfl⟩
          obtain ⟨j, us2, hj, rfl, hmj, hblk, hfF⟩ := hrel
          obtain ⟨ad3, cap3, rfl, _⟩ := hmj.shape
          have hbwF : Below w.heap.size w wF := hbE.trans (hfF.below (by omega) (fun q hq e => by have := e.1; omega))
          have hszF := hfF.size
          by_cases hlj : j < K
          case neg =>
            obtain rfl : j = K := by omega
            rw [show W.take j = W from List.take_of_length_le (by rw [HK.out]; exact Nat.le_refl _)] at hmj ⊢
            have HMJ := Lib.hid hmj; clear hmj
            go_wp2_with fail
            go_roundw
            case rel => exact ⟨k + 1, us2, by omega, by go_num, by rw [HST.out, HTT.out]; exact HMJ.out, hbwF⟩
            case measure => simp [intOf]; omega
          case pos =>
            obtain ⟨gW, ar, cr, rfl, hgW, c1, hce⟩ := HW.out.atL (i := j) (by rw [HK.out]; exact hlj)
            have hgE : wE.heap.size ≤ gW := (World.ownsRow.lt HW.out.row gW rfl).1
            have hmem : W.getD j [] ∈ W := by
              rw [List.getD_eq_getElem?_getD, List.getElem?_eq_getElem (by rw [HK.out]; exact hlj), Option.getD_some]
              exact List.getElem_mem _
            have hel := HEL.out _ hmem
            have hcl := HCL.out _ hmem
            have hsn := takeL_snoc W j (by rw [HK.out]; exact hlj)
            have htk : (W.take j).length = j := by rw [List.length_take, HK.out]; omega
            generalize W.getD j [] = r at c1 hce hel hcl hsn
            have c3 := hfF.cell (p := ⟨gW, j, none⟩) hgW (fun e => by have h1 : gW < wE.heap.size := e.2; omega) c1
            have HRF := Lib.hid (hce.of_block (w' := wF) fun q hq => hfF.block q (hce.lt hq).2 (fun e => by have := e.2; have := (hce.lt hq).1; omega)).rd
            have HSN := Lib.hid (show T ++ (W.take (j + 1)).map (shC k) = (T ++ (W.take j).map (shC k)) ++ [shC k r] by rw [hsn, List.map_append, List.append_assoc]; rfl)
            obtain ⟨L, hL⟩ : ∃ L, r.length = L := ⟨_, rfl⟩
            have HL := Lib.hid hL
            rw [hL] at c3 hcl hel
            have HEL2 := Lib.hid hel
            obtain ⟨Q, hQ⟩ : ∃ Q, T ++ (W.take j).map (shC k) = Q := ⟨_, rfl⟩
            have hQl : Q.length ≤ 100000 := by rw [← hQ, List.length_append, List.length_map, htk]; omega
            rw [hQ] at hmj HSN ⊢
            obtain ⟨nQ, hnQ⟩ : ∃ nQ, Q.length = nQ := ⟨_, rfl⟩
            have HNQ := Lib.hid hnQ
            rw [hnQ] at hmj ⊢
            have HMJ := Lib.hid hmj
            have HBLK := Lib.hid (show ∀ q, (Value.slice ad3 nQ cap3).ownBlock = some q → q < wE.heap.size ∨ w2.heap.size ≤ q from fun q hq => hblk q (by cases ad3 <;> exact hq)); have HFF := Lib.hid hfF
            have hgB := fun q (hq : (Value.slice ad3 nQ cap3).ownBlock = some q) => (World.ownsRow.lt hmj.row q hq).1
            have HGB := Lib.hid hgB
            have y1 : (0 : Int) ≤ (j : Int) := by omega
            have y2 : (j : Int) < (K : Int) := by omega
            have HR0 := Lib.hid (rowI_one wF wF.heap.size wF.heap.size (k : Int) (Nat.le_refl _) rfl)
            clear hmj hsn htk hmem c1 hce hL hQ hnQ hel hblk hfF hgB
            go_wp2_with fail
            go_loopw [9, 38] (fun v i wr => ∃ t : Nat, t ≤ L ∧ i = .int .i64 t ∧ RowI wr wF.heap.size v (shC k (r.take t)) ∧ Below wF.heap.size wF wr) (fun _ i _ => L - (intOf i).toNat)
            case atStart => exact ⟨0, Nat.zero_le _, rfl, HR0.out, (Below.refl _ _).alloc (Nat.le_refl _) _⟩
            case round =>
              obtain ⟨wI, rfl⟩ : ∃ x : World, x = wr := ⟨_, rfl⟩
              obtain ⟨t, ht, rfl, hrow, hbi⟩ := hrel
              have hszi := hbi.size
              by_cases hlt3 : t < L
              case pos =>
                obtain ⟨b, off, rfl, hbb, c5⟩ := HRF.out t (by rw [HL.out]; exact hlt3)
                have c5 := bcell hbi hbb c5
                have hex := HEL2.out t hlt3
                have hsn := takeN_snoc (a := r) (t := t) (by rw [HL.out]; exact hlt3)
                generalize r.getD t 0 = x at c5 hex hsn
                have HSH := Lib.hid (show shC k (r.take (t + 1)) = shC k (r.take t) ++ [(k : Int) + 1 + x] by rw [hsn]; simp [shC])
                have hlen : (shC k (r.take t)).length = t + 1 := by rw [shC_len, List.length_take, HL.out]; omega
                generalize shC k (r.take t) = G at hrow HSH hlen
                obtain ⟨adr, car, rfl, _⟩ := hrow.shape
                rw [hlen] at hrow ⊢
                have HLN := Lib.hid hlen
                have HO := Lib.hid hrow
                have e6 : IntKind.i64.wrap ((k : Int) + 1 + x) = (k : Int) + 1 + x := i64_small (by omega) (by omega)
                obtain ⟨z, hz⟩ : ∃ z, (k : Int) + 1 + x = z := ⟨_, rfl⟩
                rw [hz] at HSH
                have e7 : IntKind.i64.wrap ((k : Int) + 1 + x) = z := by rw [e6]; exact hz
                have z1 : (0 : Int) ≤ (t : Int) := by omega
                have z2 : (t : Int) < (L : Int) := by omega
                clear hrow hlen hsn e6 hz hex c3
                go_wp2_with (at_builtin; refine wpList_appN rfl _ _ rfl wF.heap.size _ 0 1 (.slice adr (t + 1) car) G [z] (t + 1 + 1) (by rw [HLN.out]; rfl) rfl rfl (RowI.alloc' HO.out) (rdI_one _ _ _ rfl) (by rw [HLN.out]; omega) (by simp) (by simp; omega) ?_; intro v5 wm hown hsh hbm hgr)
                have hb3 := (bal_alloc (o := .cells #[.int .i64 z] 3) hbi).trans hbm
                rw [← HSH.out] at hown
                have HO5 := Lib.hid hown; clear hown hsh hgr hbm
                go_wp2_with fail
                go_roundw
                case rel => exact ⟨t + 1, by omega, by go_num, HO5.out, hb3⟩
                case measure => simp [intOf]; omega
              case neg =>
                obtain rfl : t = L := by omega
                rw [show r.take t = r from List.take_of_length_le (by rw [HL.out]; exact Nat.le_refl _)] at hrow
                obtain ⟨adr, car, rfl, _⟩ := hrow.shape
                have hsl : (shC k r).length = t + 1 := by rw [shC_len, HL.out]
                rw [hsl] at hrow ⊢
                have HONE := Lib.hid (MatL.one wI w.heap.size w.heap.size (.slice adr (t + 1) car) (shC k r) (CellO.of_row (hrow.low (by have := hbwF.size; omega))) (by have := hbwF.size; omega))
                have HMI := Lib.hid ((HMJ.out.below hbi).below (bal_alloc (o := .cells #[.slice adr (t + 1) car] 23) (Below.refl _ _)))
                have hs9 : w.heap.size ≤ (wI.alloc (.cells #[.slice adr (t + 1) car] 23)).heap.size := by simp; omega
                have hs8 : w2.heap.size ≤ (wI.alloc (.cells #[.slice adr (t + 1) car] 23)).heap.size := by simp; omega
                have HF8 := Lib.hid (show FrP w2.heap.size (PWq w.heap.size wE.heap.size) w2 (wI.alloc (.cells #[.slice adr (t + 1) car] 23)) from HFF.out.trans (FrP.of_below (bal_alloc hbi) (by omega)))
                clear hrow hsl c3
                go_wp2_with (at_builtin; refine wpList_appL2 rfl _ _ rfl w.heap.size w.heap.size w.heap.size wI.heap.size (.slice ad3 nQ cap3) _ Q (shC k r) us2 (nQ + 1) (by rw [HNQ.out]) rfl rfl HMI.out HONE.out hQl hs9 ?_; intro ad9 cap9 w9 hml9 hgr9 hob9 hsz9)
                rw [← HSN.out] at hml9
                have HM9 := Lib.hid hml9
                have HB9 := Lib.hid (show ∀ q, (Value.slice ad9 (nQ + 1) cap9).ownBlock = some q → q < wE.heap.size ∨ w2.heap.size ≤ q from fun q hq => by
                  rcases hob9 with h | h
                  · exact HBLK.out q (by rw [← h, hq])
                  · rw [hq] at h
                    injection h with h
                    exact Or.inr (by omega))
                have HF9 := Lib.hid (show FrP w2.heap.size (PWq w.heap.size wE.heap.size) w2 w9 from HF8.out.trans ⟨hgr9.os, hgr9.tape, hgr9.output, hgr9.size, fun x hx hn => hgr9.block x (by omega) (fun e => hn (by
                  have h1 := HBLK.out x e.symm
                  have h2 := HGB.out x e.symm
                  exact ⟨h2, by omega⟩))⟩)
                clear hml9 hgr9 hob9
                go_wp2_with fail
                go_roundw
                case rel => exact ⟨j + 1, _, by omega, by go_num, HM9.out, HB9.out, HF9.out⟩
                case measure => simp [intOf]; omega
end Go.Proofs.Ytnbenpalneodlaa
