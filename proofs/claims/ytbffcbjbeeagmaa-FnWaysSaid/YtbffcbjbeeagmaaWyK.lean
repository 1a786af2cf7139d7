/-
  Reduced matrices: program and reference. By an AI agent.
-/
import Derived.Test.YtbffcbjbeeagmaaWyJ
namespace Go.Proofs.Ytbffcbjbeeagmaa
open Go.RowKit

/-! ### append of numbers at a step of a region that draws its order -/
theorem rdNewsI {w : World} {a : Addr} {xs : List Int} (h : RdI w (some a) xs) : ∀ j u, (ints xs)[j]? = some u → w.cell? (a.add j) = some u := by
  intro j u hu
  have hj : j < xs.length := by
    have := List.getElem?_eq_some_iff.1 hu
    obtain ⟨h1, _⟩ := this
    rwa [ints_length] at h1
  obtain ⟨b, off, e, _, hc⟩ := h j hj
  cases e
  rw [ints_get hj] at hu
  have hadd : (⟨b, off, none⟩ : Addr).add j = ⟨b, off + j, none⟩ := by unfold Addr.add; split <;> simp_all
  rw [hadd, hc]
  exact hu
def ReadsN (w : World) (X : Value) (l : List Int) : Prop := ∃ b off c, X = .slice (some ⟨b, off, none⟩) l.length c ∧ RdI w (some ⟨b, off, none⟩) l
theorem ReadsN.below {w w' : World} {X : Value} {l : List Int} (h : ReadsN w X l) (hb : Below w.heap.size w w') : ReadsN w' X l := by
  obtain ⟨b, off, c, h1, h2⟩ := h
  exact ⟨b, off, c, h1, h2.below hb⟩
theorem step_appI {w : World} {ops : Array Oper} {o : Oper} {a : Act} {K : Act → World → Prop} {Q : Exit → Act → World → Prop} {E : Prop} (hgd : o.guard = none) (s x : Operand)
    (ho : o.op = .call { callee := .builtin .append, args := #[s, x], argTypes := #[29, 29] })
    (B : Nat) (v X : Value) (l m : List Int) (hs : a.eval s = v) (hx : a.eval x = X) (hown : RowI w B v l) (hX : ReadsN w X m) (hl : l.length ≤ 100000) (hm : m.length ≤ 100000) (hB : B ≤ w.heap.size)
    (h : ∀ v' w', RowI w' B v' (l ++ m) → Below B w w' → w.grownBy w' v.ownBlock → K (a.put o.dst v') w') :
    if Region.wanted o (yielded ops a.tmps) = true then Oper.wp Try.prog o a w K Q else E := by
  have hw : Region.wanted o (yielded ops a.tmps) = true := by simp [Region.wanted, hgd]
  rw [if_pos hw]
  obtain ⟨iP, hiP, hzP, hsP, hbP⟩ := info_parts Try.infoI
  obtain ⟨b, off, c, rfl, hrd⟩ := hX
  obtain ⟨v', w', hr, h2, h3, _, _⟩ := run_append_own_at (P := Try.prog) w B 29 o.type 3 iP _ 1 8 Try.underlying29 hiP hzP hsP hbP rfl (by omega) v l.length (ints l) hown ⟨b, off, none⟩ m.length c (ints m) (by rw [ints_length]; omega) (rdNewsI hrd) (ints_oneCell m) (by unfold maxLen; omega) (by omega) hB
  unfold Oper.wp execOp
  simp only [ho, resolve, invoke, builtin, Sem.run_bind, Sem.run_pure, Result.andThen_ok, List.map_toArray, List.map_cons, List.map_nil, hs, hx, hr]
  exact h v' w' (row_congr h2 (by simp) (by simp [ints])) ((Below.refl _ _).grown h3 hB (fun q e => (hown.lt q e).1)) h3
theorem readsN_one (u : World) (H : Nat) (x : Int) (hH : u.heap.size = H) : ReadsN (u.alloc (.cells #[.int .i64 x] 3)) (.slice (some ⟨H, 0, none⟩) 1 1) [x] := by
  subst hH
  refine ⟨_, _, 1, rfl, fun j hj => ?_⟩
  obtain rfl : j = 0 := by simpa using hj
  exact ⟨_, _, rfl, by simp, by simp [go_sem]⟩
theorem ReadsN.alloc' {w : World} {X : Value} {l : List Int} {o : Obj} (h : ReadsN w X l) : ReadsN (w.alloc o) X l := h.below ((Below.refl _ _).alloc (Nat.le_refl _) _)
theorem ReadsN.drew' {w : World} {X : Value} {l : List Int} (h : ReadsN w X l) : ReadsN w.drew X l := h.below (Below.refl _ _).drew
theorem RowI.drew' {w : World} {B : Nat} {v : Value} {l : List Int} (h : RowI w B v l) : RowI w.drew B v l := h.below (Below.refl _ _).drew

theorem row_shp {w : World} {B : Nat} {v : Value} {xs : List Int} (h : RowI w B v xs) : ∃ ad c, v = .slice ad xs.length c := by
  rcases h.2 with ⟨e, h0⟩ | ⟨g, cap, cur, e, hg, _⟩
  · exact ⟨none, 0, by rw [e, h0]⟩
  · exact ⟨_, cap, e⟩
def rdF (m : Nat → Nat → Int) (p : List Int) : Nat → Nat → Int := fun i k => prodZ (m i k) (p.getD i 0 - p.getD k 0)
def rdS (m : Nat → Nat → Int) (p : List Int) (i k : Nat) : Nat → Nat → Int := fun a b => if a < i ∨ (a = i ∧ b < k) then rdF m p a b else m a b
theorem rdS_next (m : Nat → Nat → Int) (p : List Int) (i k : Nat) : (fun a b => if a = i ∧ b = k then rdF m p i k else rdS m p i k a b) = rdS m p i (k + 1) := by
  funext a b
  unfold rdS
  by_cases h : a = i ∧ b = k
  · obtain ⟨rfl, rfl⟩ := h
    rw [if_pos ⟨rfl, rfl⟩, if_pos (by omega)]
  · rw [if_neg h]
    by_cases h2 : a < i ∨ (a = i ∧ b < k)
    · rw [if_pos h2, if_pos (by omega)]
    · rw [if_neg h2, if_neg (by omega)]
theorem rdS_row (n : Nat) (m : Nat → Nat → Int) (p : List Int) (i : Nat) : toM n (rdS m p i n) = toM n (rdS m p (i + 1) 0) := toM_congr fun a b ha hb => by
  unfold rdS
  by_cases h : a < i ∨ (a = i ∧ b < n)
  · rw [if_pos h, if_pos (by omega)]
  · rw [if_neg h, if_neg (by omega)]
theorem rdS_end (n : Nat) (m : Nat → Nat → Int) (p : List Int) : toM n (rdS m p n 0) = toM n (rdF m p) := toM_congr fun a b ha hb => by
  unfold rdS
  rw [if_pos (Or.inl ha)]
theorem rdS_start (m : Nat → Nat → Int) (p : List Int) : rdS m p 0 0 = m := by
  funext a b
  unfold rdS
  rw [if_neg (by omega)]

set_option maxHeartbeats 3200000 in
set_option maxRecDepth 100000 in
theorem iReduced_c (ad : Option Addr) (cap : Nat) (M : List (List Int)) (adp : Option Addr) (capp : Nat) (p : List Int) (w : World) (hr : RdM w ad M) (hl : smM M) (hp : RdI w adp p) (hlp : p.length ≤ 1048576) :
    Calls Try.prog 25 #[.slice ad M.length cap, .slice adp p.length capp] w (ManR (redB M p) (redM M p) w) := by
  have C1 := Lib.hid (hasPotentials_c ad cap M adp capp p w hr hl hp hlp)
  unfold redB
  cases hh : hasB M p
  · rw [hh] at C1
    clear hh hr hp hl hlp
    go_enter Try.func25, Try.ntmps25
    go_wp2_with fail
    refine C1.out.mono ?_
    rintro e w1 ⟨rfl, hb1⟩
    go_wp2_with fail
    exact bodyPost_ret (v := .tuple #[.slice none 0 0, .bool false]) (by simp [results, Try.results25, go_sem]) rfl (ManR.no _ hb1)
  · rw [hh] at C1
    have hask : askB M p = true := by unfold hasB at hh; simp only [Bool.and_eq_true] at hh; exact hh.1
    obtain ⟨hs, hpn, hpf⟩ := ask_facts hask
    obtain ⟨hn, _, hnum⟩ := sq_facts hs
    have hM := sq_toM hs
    have HF := Lib.hid (fun i (hi : i < M.length) => fin_bd hpf (i := i) (by rw [hpn]; exact hi))
    have hrm : redM M p = toM M.length (rdF (entM M) p) := rfl
    have hnum' : ∀ a b, a < M.length → b < M.length → numB (entM M a b) = true := hnum
    rw [← hM] at hr
    rw [hrm, Bool.true_and]
    rw [hpn] at C1 ⊢
    have HPN := Lib.hid hpn
    clear hh hask hs hpf hM hrm hnum hpn hl hlp
    generalize entM M = m at hr hnum' ⊢
    generalize M.length = n at C1 hr hnum' hn HF HPN ⊢
    have CC := clones_c ad cap (toM n m) w hr (by rw [toM_len]; omega) (fun i hi => by rw [toM_len] at hi; rw [toM_row m hi, tab_length]; omega)
    rw [toM_len] at CC
    have C2 := Lib.hid (fun u (hb : Below w.heap.size w u) => by
      have h := clones_c ad cap (toM n m) u (hr.below hb) (by rw [toM_len]; omega) (fun i hi => by rw [toM_len] at hi; rw [toM_row m hi, tab_length]; omega)
      rw [toM_len] at h
      exact h)
    have HR := Lib.hid hr; have HP := Lib.hid hp; have HNUM := Lib.hid hnum'
    clear hr hp hnum' CC
    obtain ⟨V, hV⟩ : ∃ V, nmB (toM n (rdF m p)) = V := ⟨_, rfl⟩
    rw [hV]
    have HV := Lib.hid hV; clear hV
    go_enter Try.func25, Try.ntmps25
    go_wp2_with fail
    refine C1.out.mono ?_
    rintro e w1 ⟨rfl, hb1⟩
    go_wp2_with fail
    refine (C2.out _ hb1).mono ?_
    rintro e w2 ⟨v, rfl, ⟨vs, hmat⟩, hb2⟩
    clear C1 C2
    obtain ⟨g, cv, rfl, hg, _⟩ := hmat.cells (by rw [toM_len]; omega)
    rw [toM_len] at hmat ⊢
    rw [← rdS_start m p] at hmat
    have HM1 := Lib.hid (hmat.mono hb1.size)
    have hb3 := ball hb1 hb2
    clear hmat hb1 hb2
    go_wp2_with fail
    go_loopw [19] (fun i wr => ∃ a : Nat, a ≤ n ∧ i = .int .i64 a ∧ MatO wr w.heap.size (.slice (some ⟨g, 0, none⟩) n cv) (toM n (rdS m p a 0)) vs ∧ Below w.heap.size w wr) (fun i _ => n - (intOf i).toNat)
    case atStart => exact ⟨0, Nat.zero_le _, rfl, HM1.out, hb3⟩
    case round =>
      obtain ⟨wI, rfl⟩ : ∃ x : World, x = wr := ⟨_, rfl⟩
      obtain ⟨a, ha, rfl, hmat, hbel⟩ := hrel
      have HMI := Lib.hid hmat; clear hmat HM1
      by_cases hla : a < n
      case neg =>
        obtain rfl : a = n := by omega
        rw [rdS_end] at HMI
        have CT := toldNumbers_c (some ⟨g, 0, none⟩) cv (toM a (rdF m p)) wI HMI.out.rd (by rw [toM_len]; omega) (fun i hi => by rw [toM_len] at hi; rw [toM_row _ hi, tab_length]; omega)
        rw [toM_len, HV.out] at CT
        have HCT := Lib.hid CT
        have HRD := Lib.hid HMI.out.rd
        clear CT HMI
        cases V
        · go_wp2_with fail
          refine HCT.out.mono ?_
          rintro e w5 ⟨rfl, hb5⟩
          go_wp2_with fail
          exact bodyPost_ret (v := .tuple #[.slice none 0 0, .bool false]) (by simp [results, Try.results25, go_sem]) rfl (ManR.no _ (ball hbel hb5))
        · go_wp2_with fail
          refine HCT.out.mono ?_
          rintro e w5 ⟨rfl, hb5⟩
          go_wp2_with fail
          exact bodyPost_ret (v := .tuple #[.slice (some ⟨g, 0, none⟩) a cv, .bool true]) (by simp [results, Try.results25, go_sem]) rfl (ManR.yes (HRD.out.below hb5) (toM_len _ _) (ball hbel hb5))
      case pos =>
        obtain ⟨bM, oM, rfl, hbM, hrow⟩ := HR.out.rowF (by omega)
        obtain ⟨b2, o2, c2, e2, hl2, hc2⟩ := hrow a hla
        have e2 := bcell hbel hbM e2
        have HC2 := Lib.hid hc2
        have x1 : (0 : Int) ≤ (a : Int) := by omega
        have x2 : (a : Int) < (n : Int) := by omega
        clear hrow hc2
        go_wp2_with fail
        go_loopw [26] (fun i wr => ∃ j : Nat, j ≤ n ∧ i = .int .i64 j ∧ MatO wr w.heap.size (.slice (some ⟨g, 0, none⟩) n cv) (toM n (rdS m p a j)) vs ∧ Below w.heap.size w wr) (fun i _ => n - (intOf i).toNat)
        case atStart => exact ⟨0, Nat.zero_le _, rfl, HMI.out, hbel⟩
        case round =>
          obtain ⟨wJ, rfl⟩ : ∃ x : World, x = wr := ⟨_, rfl⟩
          obtain ⟨j, hj, rfl, hmat, hbel2⟩ := hrel
          clear e2 HMI
          by_cases hlj : j < n
          case neg =>
            obtain rfl : j = n := by omega
            rw [rdS_row] at hmat
            have HM3 := Lib.hid hmat; clear hmat
            go_wp2_with fail
            go_roundw
            case rel => exact ⟨a + 1, by omega, by go_num, HM3.out, hbel2⟩
            case measure => simp [intOf]; omega
          case pos =>
            have k1 := bcell hbel2 hl2 (HC2.out j hlj)
            obtain ⟨bp, op, rfl, hbp, q1⟩ := HP.out a (by rw [HPN.out]; exact hla)
            have q2 := HP.out.at (j := j) (by rw [HPN.out]; exact hlj)
            have q1 := bcell hbel2 hbp q1
            have q2 := bcell hbel2 hbp q2
            have f1 := HF.out a hla
            have f2 := HF.out j hlj
            have hm := numB_t (HNUM.out a j hla hlj)
            obtain ⟨_, gl, ho⟩ := hmat.outer (by omega)
            obtain ⟨b, o, c, eb, hBb, bl, hcell, hset⟩ := hmat.rowF hla
            have c0 := ho a hla
            rw [eb] at c0
            obtain ⟨k3, k4⟩ := hcell j hlj
            have hst := hset j (rdF m p a j) hlj
            rw [rdS_next] at hst
            have hrd : rdF m p a j = prodZ (m a j) (p.getD a 0 - p.getD j 0) := rfl
            rw [hrd] at hst
            have HST := Lib.hid hst
            have x3 : (0 : Int) ≤ (j : Int) := by omega
            have x4 : (j : Int) < (n : Int) := by omega
            generalize rdS m p a j a j = OLD at k3
            generalize p.getD a 0 = A at q1 f1 HST
            generalize p.getD j 0 = B at q2 f2 HST
            generalize m a j = C at k1 hm HST
            have e1 : IntKind.i64.wrap (A - B) = A - B := i64_small (by omega) (by omega)
            have CP := Lib.hid (fun w => product_c C (A - B) w (by omega))
            have hbs := hbel2.setCell (p := ⟨b, o + j, none⟩) hBb (.int .i64 (prodZ C (A - B)))
            generalize prodZ C (A - B) = P at CP HST hbs
            clear hst hset hcell ho hmat hrd
            go_wp2_with fail
            refine wp_region_still_tail 17 (by kernel_rfl) (by kernel_rfl) ?_
            simp only [List.take_succ_cons, List.take_zero, List.drop_succ_cons, List.drop_zero]
            repeat still_step
            still_call ((CP.out _).mono (fun e w' h => ⟨h.1, h.2.symm⟩))
            repeat still_step
            refine wpStill_nil ?_
            change wpList _ _ _ _ _ wJ.drew
            have d1 : wJ.drew.cell? ⟨b, o + j, none⟩ = some (.int .i64 OLD) := k3
            have d2 : wJ.drew.frozen? ⟨b, o + j, none⟩ = false := k4
            go_wp2_with fail
            go_roundw
            case rel => exact ⟨j + 1, by omega, by go_num, HST.out.below (Below.refl _ _).drew, hbs.drew⟩
            case measure => simp [intOf]; omega

set_option maxHeartbeats 3200000 in
set_option maxRecDepth 100000 in
theorem sReduced_c (ad : Option Addr) (cap : Nat) (M : List (List Int)) (adp : Option Addr) (capp : Nat) (p : List Int) (w : World) (hr : RdM w ad M) (hl : smM M) (hp : RdI w adp p) (hlp : p.length ≤ 1048576) :
    Calls Try.prog 26 #[.slice ad M.length cap, .slice adp p.length capp] w (ManR (redB M p) (redM M p) w) := by
  have C1 := Lib.hid (wyAsked_c ad cap M adp capp p w hr hl hp hlp)
  unfold redB
  cases hask : askB M p
  · rw [hask] at C1
    have hh : hasB M p = false := by unfold hasB; rw [hask]; rfl
    rw [hh]
    clear hh hask hr hp hl hlp
    go_enter Try.func26, Try.ntmps26
    go_wp2_with fail
    refine C1.out.mono ?_
    rintro e w1 ⟨rfl, rfl⟩
    go_wp2_with fail
    exact bodyPost_ret (v := .tuple #[.slice none 0 0, .bool false]) (by simp [results, Try.results26, go_sem]) rfl (ManR.no _ (Below.refl _ _))
  · rw [hask] at C1
    obtain ⟨hs, hpn, hpf⟩ := ask_facts hask
    obtain ⟨hn, _, hnum⟩ := sq_facts hs
    have hM := sq_toM hs
    have HF := Lib.hid (fun i (hi : i < M.length) => fin_bd hpf (i := i) (by rw [hpn]; exact hi))
    have hrm : redM M p = toM M.length (rdF (entM M) p) := rfl
    have hhas : hasB M p = ptB M.length (entM M) p := by unfold hasB; rw [hask]; rfl
    have hnum' : ∀ a b, a < M.length → b < M.length → numB (entM M a b) = true := hnum
    rw [← hM] at hr
    have C2 := Lib.hid (wyPotentials_c M.length ad cap (entM M) adp capp p w hr hp hn hpn hpf hnum')
    rw [hrm, hhas]
    rw [hpn] at C1 ⊢
    have HPN := Lib.hid hpn
    clear hask hs hpf hM hrm hnum hpn hl hlp hhas
    generalize entM M = m at hr hnum' C2 ⊢
    generalize M.length = n at C1 C2 hr hnum' hn HF HPN ⊢
    have HR := Lib.hid hr; have HP := Lib.hid hp; have HNUM := Lib.hid hnum'
    clear hr hp hnum'
    generalize ptB n m p = T at C2 ⊢
    cases T
    · go_enter Try.func26, Try.ntmps26
      go_wp2_with fail
      refine C1.out.mono ?_
      rintro e w1 ⟨rfl, rfl⟩
      go_wp2_with fail
      refine C2.out.mono ?_
      rintro e w1 ⟨rfl, hb1⟩
      go_wp2_with fail
      exact bodyPost_ret (v := .tuple #[.slice none 0 0, .bool false]) (by simp [results, Try.results26, go_sem]) rfl (ManR.no _ hb1)
    · obtain ⟨V, hV⟩ : ∃ V, nmB (toM n (rdF m p)) = V := ⟨_, rfl⟩
      rw [hV, Bool.true_and]
      have HV := Lib.hid hV; clear hV
      go_enter Try.func26, Try.ntmps26
      go_wp2_with fail
      refine C1.out.mono ?_
      rintro e w1 ⟨rfl, rfl⟩
      go_wp2_with fail
      refine C2.out.mono ?_
      rintro e w1 ⟨rfl, hb1⟩
      clear C1 C2
      go_wp2_with fail
      go_loopw [6, 24] (fun v i wr => ∃ (a : Nat) (vs : List Value), a ≤ n ∧ i = .int .i64 a ∧ MatO wr w.heap.size v ((toM n (rdF m p)).take a) vs ∧ Below w.heap.size w wr) (fun _ i _ => n - (intOf i).toNat)
      case atStart => exact ⟨0, [], Nat.zero_le _, rfl, MatO.nil _ _, hb1⟩
      case round =>
        obtain ⟨wE, rfl⟩ : ∃ x : World, x = wr := ⟨_, rfl⟩
        obtain ⟨k, vs, hk, rfl, hmat, hbel⟩ := hrel
        obtain ⟨adv, cav, rfl, _⟩ := hmat.shape
        have HM := Lib.hid hmat; clear hmat
        have htl := tab_takeL n (fun i => tab n (rdF m p i)) hk
        rw [show tab n (fun i => tab n (rdF m p i)) = toM n (rdF m p) from rfl] at htl
        by_cases hlt : k < n
        case neg =>
          obtain rfl : k = n := by omega
          have e1 := tab_all k (fun i => tab k (rdF m p i))
          rw [show tab k (fun i => tab k (rdF m p i)) = toM k (rdF m p) from rfl] at e1
          rw [e1] at HM htl ⊢
          rw [htl]
          have CT := wyGood_c adv cav (toM k (rdF m p)) wE (by have h := HM.out.rd; exact h) (by rw [toM_len]; omega) (fun i hi => by rw [toM_len] at hi; rw [toM_row _ hi, tab_length]; omega)
          rw [toM_len, HV.out] at CT
          have HCT := Lib.hid CT
          have HRD := Lib.hid HM.out.rd
          clear CT HM e1
          cases V
          · go_wp2_with fail
            refine HCT.out.mono ?_
            rintro e w5 ⟨rfl, rfl⟩
            go_wp2_with fail
            exact bodyPost_ret (v := .tuple #[.slice none 0 0, .bool false]) (by simp [results, Try.results26, go_sem]) rfl (ManR.no _ hbel)
          · go_wp2_with fail
            refine HCT.out.mono ?_
            rintro e w5 ⟨rfl, rfl⟩
            go_wp2_with fail
            exact bodyPost_ret (v := .tuple #[.slice adv k cav, .bool true]) (by simp [results, Try.results26, go_sem]) rfl (ManR.yes HRD.out (toM_len _ _) hbel)
        case pos =>
          have hsn := tab_takeS n (fun i => tab n (rdF m p i)) hlt
          rw [show tab n (fun i => tab n (rdF m p i)) = toM n (rdF m p) from rfl] at hsn
          have HSN := Lib.hid hsn; clear hsn
          have hsz := hbel.size
          obtain ⟨L, hL⟩ : ∃ L, (toM n (rdF m p)).take k = L := ⟨_, rfl⟩
          rw [hL] at HM HSN htl ⊢
          have HTL := Lib.hid htl
          rw [htl] at HM ⊢
          clear htl hL
          obtain ⟨bM, oM, rfl, hbM, hrow⟩ := HR.out.rowF (by omega)
          obtain ⟨b2, o2, c2, e2, hl2, hc2⟩ := hrow k hlt
          have e2 := bcell hbel hbM e2
          have HC2 := Lib.hid hc2
          have x1 : (0 : Int) ≤ (k : Int) := by omega
          have x2 : (k : Int) < (n : Int) := by omega
          clear hrow hc2
          go_wp2_with fail
          go_loopw [9, 31] (fun v i wr => ∃ j : Nat, j ≤ n ∧ i = .int .i64 j ∧ RowI wr wE.heap.size v ((tab n (rdF m p k)).take j) ∧ Below wE.heap.size wE wr) (fun _ i _ => n - (intOf i).toNat)
          case atStart => exact ⟨0, Nat.zero_le _, rfl, RowI.nil _ _, Below.refl _ _⟩
          case round =>
            obtain ⟨wI, rfl⟩ : ∃ x : World, x = wr := ⟨_, rfl⟩
            obtain ⟨j, hj, rfl, hrow, hbi⟩ := hrel
            clear e2
            have HO := Lib.hid hrow
            have hszi := hbi.size
            have hjl := tab_takeL n (rdF m p k) hj
            by_cases hlj : j < n
            case pos =>
              have hbW := ball hbel hbi
              have hsj := tab_takeS n (rdF m p k) hlj
              have hrd : rdF m p k j = prodZ (m k j) (p.getD k 0 - p.getD j 0) := rfl
              rw [hrd] at hsj
              have HSJ := Lib.hid hsj
              have k1 := bcell hbW hl2 (HC2.out j hlj)
              obtain ⟨bp, op, rfl, hbp, q1⟩ := HP.out k (by rw [HPN.out]; exact hlt)
              have q2 := HP.out.at (j := j) (by rw [HPN.out]; exact hlj)
              have q1 := bcell hbW hbp q1
              have q2 := bcell hbW hbp q2
              have f1 := HF.out k hlt
              have f2 := HF.out j hlj
              have hm := numB_t (HNUM.out k j hlt hlj)
              have x3 : (0 : Int) ≤ (j : Int) := by omega
              have x4 : (j : Int) < (n : Int) := by omega
              have hvs : ∃ ad c, _ = Value.slice ad ((tab n (rdF m p k)).take j).length c := row_shp hrow
              rw [hjl] at hvs
              obtain ⟨adr, car, rfl⟩ := hvs
              clear hsj hrd hrow
              generalize (tab n (rdF m p k)).take j = R at HSJ HO hjl ⊢
              generalize p.getD k 0 = A at q1 f1 HSJ
              generalize p.getD j 0 = B at q2 f2 HSJ
              generalize m k j = C at k1 hm HSJ
              have e1 : IntKind.i64.wrap (A - B) = A - B := i64_small (by omega) (by omega)
              have CP := Lib.hid (fun w => nuPlus_c C (A - B) w (by omega))
              generalize prodZ C (A - B) = P at CP HSJ
              go_wp2_with fail
              go_region_held3 (fun w' => w'.cell? ⟨b2, o2 + j, none⟩ = some (.int .i64 C) ∧ w'.cell? ⟨bp, op + k, none⟩ = some (.int .i64 A) ∧ w'.cell? ⟨bp, op + j, none⟩ = some (.int .i64 B)) (with_reducible repeat' (first | apply And.intro | assumption | apply cell_alloc' | apply cell_drew'))
                (first
                  | (go_at_call 48; (with_reducible refine (CP.out _).mono ?_); rintro e W1 ⟨rfl, rfl⟩)
                  | (refine step_appI (by rfl) _ _ (by rfl) wE.heap.size (.slice adr j car) (.slice (some ⟨_, 0, none⟩) 1 1) R [P] (by rfl) (by rfl) (by (with_reducible repeat (first | exact HO.out | apply RowI.alloc' | apply RowI.drew'))) (by (with_reducible repeat (first | exact readsN_one _ _ _ (by simp) | apply ReadsN.alloc' | apply ReadsN.drew'))) (by omega) (by simp) (by first | exact hszi | (simp; omega)) ?_; intro v5 wm hown hbm hgr; have n0 : wm.cell? ⟨b2, o2 + j, none⟩ = some (.int .i64 C) := bcell hbm (Nat.lt_of_lt_of_le hl2 hsz) (by with_reducible repeat (first | assumption | apply cell_alloc' | apply cell_drew')); have n1 : wm.cell? ⟨bp, op + k, none⟩ = some (.int .i64 A) := bcell hbm (Nat.lt_of_lt_of_le hbp hsz) (by with_reducible repeat (first | assumption | apply cell_alloc' | apply cell_drew')); have n2 : wm.cell? ⟨bp, op + j, none⟩ = some (.int .i64 B) := bcell hbm (Nat.lt_of_lt_of_le hbp hsz) (by with_reducible repeat (first | assumption | apply cell_alloc' | apply cell_drew')); have hb3 : Below wE.heap.size wE wm := Below.trans (by with_reducible repeat (first | exact hbi | apply Below.drew | apply bal_alloc)) hbm))
              rw [← HSJ.out] at hown
              have HO5 := Lib.hid hown; clear hown hgr hbm
              go_wp2_with fail
              go_roundw
              case rel => exact ⟨j + 1, by omega, by go_num, HO5.out, hb3⟩
              case measure => simp [intOf]; omega
            case neg =>
              obtain rfl : j = n := by omega
              have hM1 := HM.out.below hbi
              have hlow := HM.out.low
              rw [tab_all] at hrow
              obtain ⟨gr, cr, rfl, hgr⟩ := hrow.shp (by rw [tab_length]; omega)
              rw [tab_length] at hrow ⊢
              have hX := CellO.of_row (hrow.low (B' := w.heap.size) hsz)
              have HB := Lib.hid hrow.blk
              have HX := Lib.hid hX
              have HM1 := Lib.hid hM1; have HLOW := Lib.hid hlow
              clear hrow hM1 hlow HM HO hX
              go_wp2_with (at_builtin; refine wpList_appM rfl _ _ rfl w.heap.size wE.heap.size wI.heap.size _ (.slice (some ⟨gr, 0, none⟩) j cr) L vs (tab j (rdF m p k)) (k + 1) (by rw [HTL.out]) rfl rfl (by simp [go_sem]) (HM1.out.below ((Below.refl _ _).alloc (Nat.le_refl _) _)) (HX.out.below ((Below.refl _ _).alloc (Nat.le_refl _) _)) HB.out HLOW.out (by rw [HTL.out]; omega) (by simp; omega) ?_; intro ad5 cap5 wm hmat5 hbm)
              have hb3 := ((hbel.trans (hbi.mono hsz)).alloc (by omega) (.cells #[.slice (some ⟨gr, 0, none⟩) j cr] 29)).trans hbm
              rw [← HSN.out] at hmat5
              have HM5 := Lib.hid hmat5; clear hmat5 hbm
              go_wp2_with fail
              go_roundw
              case rel => exact ⟨k + 1, _, by omega, by go_num, HM5.out, hb3⟩
              case measure => simp [intOf]; omega

end Go.Proofs.Ytbffcbjbeeagmaa
