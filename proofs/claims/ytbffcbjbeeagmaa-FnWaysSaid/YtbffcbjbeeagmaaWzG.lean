/-
  The circuits that the program visits: the function that calls itself. By an AI agent.
-/
import Derived.Test.YtbffcbjbeeagmaaWzF
namespace Go.Proofs.Ytbffcbjbeeagmaa
open Go.RowKit

theorem RowI.pre {w : World} {B g P N cap : Nat} {l : List Int} {k : Int} (h : RowI w B (.slice (some ⟨g, 0, none⟩) N cap) (l ++ [k])) (hP : l.length = P) (hN : P + 1 = N) : RowI w B (.slice (some ⟨g, 0, none⟩) P cap) l ∧ P ≤ cap := by
  subst hP; subst hN
  obtain ⟨h1, ⟨e, h0⟩ | ⟨g', cap', cur, e, hb, hg, hn, hm, hs, ht⟩⟩ := h
  · rw [List.length_append, List.length_singleton] at h0
    omega
  · rw [List.length_append, List.length_singleton] at e hn
    injection e with e1 e2 e3
    injection e1 with e1
    injection e1 with e1 _ _
    subst e1; subst e3
    refine ⟨⟨by simp [ints], .inr ⟨g, cap, cur, rfl, hb, hg, by omega, hm, hs, ?_⟩⟩, by omega⟩
    have h5 := congrArg (List.take l.length) ht
    rw [List.take_take, List.length_append, List.length_singleton, Nat.min_eq_left (by omega)] at h5
    rw [Nat.mul_one, h5, ← ints_append, List.take_left' (by rw [ints_length])]
theorem CirI.cutl {w : World} {B L T g P N cap : Nat} {l b : List Int} {k : Int} {vb : Value} (h : CirI w B L T (l ++ [k]) b (.slice (some ⟨g, 0, none⟩) N cap) vb) (hP : l.length = P) (hN : P + 1 = N) : CirI (w.setCell ⟨L, 0, none⟩ (.slice (some ⟨g, 0, none⟩) P cap)) B L T l b (.slice (some ⟨g, 0, none⟩) P cap) vb := by
  obtain ⟨h1, _⟩ := h.rl.pre hP hN
  refine ⟨?_, h.ne, h.cl.set 0 _, h.ct.setOther (a := ⟨L, 0, none⟩) (fun e => h.ne e.symm) _, ownsRow_setCell_other h1 (row_ne_ty h1 h.cl (by decide)) _, ownsRow_setCell_other h.rb (row_ne_ty h.rb h.cl (by decide)) _, fun q hq => h.ap q hq⟩
  have := h.sz
  simp
  omega
theorem CirI.push {w w2 : World} {B L T : Nat} {l b : List Int} {k : Int} {vl vb v2 : Value} {o : Obj} (h : CirI w B L T l b vl vb) (hr : RowI w2 B v2 (l ++ [k])) (hg : (w.alloc o).grownBy w2 vl.ownBlock) (ho : v2.ownBlock = vl.ownBlock ∨ v2.ownBlock = some (w.alloc o).heap.size) (hsz : (w.alloc o).heap.size ≤ w2.heap.size) :
    CirI (w2.setCell ⟨L, 0, none⟩ v2) B L T (l ++ [k]) b v2 vb := by
  have hl := (h.cl.alloc o).grown hg (row_ne_ty h.rl h.cl (by decide))
  have ht := (h.ct.alloc o).grown hg (row_ne_ty h.rl h.ct (by decide))
  have hb : RowI w2 0 vb b := (h.rb.alloc' (o := o)).of_block fun q hq => hg.block q (World.ownsRow.lt (h.rb.alloc' (o := o)) q hq).2 (fun e => h.ap q e.symm hq)
  refine ⟨?_, h.ne, hl.set 0 v2, ht.setOther (a := ⟨L, 0, none⟩) (fun e => h.ne e.symm) _, ownsRow_setCell_other hr (row_ne_ty hr hl (by decide)) _, ownsRow_setCell_other hb (row_ne_ty hb hl (by decide)) _, fun q hq e => ?_⟩
  · have := h.sz
    simp at hsz ⊢
    omega
  · rcases ho with ho | ho
    · exact h.ap q (by rw [← ho, hq]) e
    · have h3 := (World.ownsRow.lt h.rb q e).2
      rw [hq] at ho
      injection ho with ho
      simp at ho
      omega

def visF (M2 T : Nat) : Value := .func (Fn.func 55) #[] #[.pointer (some ⟨M2, 0, none⟩), .pointer (some ⟨T, 0, none⟩)]
def nexF (L Mb Vb Xb : Nat) : Value := .func (Fn.func 101) #[] #[.pointer (some ⟨L, 0, none⟩), .pointer (some ⟨Mb, 0, none⟩), .pointer (some ⟨Vb, 0, none⟩), .pointer (some ⟨Xb, 0, none⟩)]
/-- The variables that stay. -/
structure CirC (w0 w : World) (n cap : Nat) (ad : Option Addr) (Mb M2 Vb Xb L T : Nat) : Prop where
  m1 : w.cell? ⟨Mb, 0, none⟩ = some (.slice ad n cap)
  m2 : w.cell? ⟨M2, 0, none⟩ = some (.slice ad n cap)
  v : w.cell? ⟨Vb, 0, none⟩ = some (visF M2 T)
  x : w.cell? ⟨Xb, 0, none⟩ = some (nexF L Mb Vb Xb)
  bel : Below w0.heap.size w0 w
/-- Where they lie. -/
structure CirL (w0 : World) (N0 Mb M2 Vb Xb L T : Nat) : Prop where
  l : w0.heap.size ≤ L
  t : w0.heap.size ≤ T
  n : w0.heap.size ≤ N0
  m1 : Mb < N0 ∧ Mb ≠ L ∧ Mb ≠ T
  m2 : M2 < N0 ∧ M2 ≠ L ∧ M2 ≠ T
  v : Vb < N0 ∧ Vb ≠ L ∧ Vb ≠ T
  x : Xb < N0 ∧ Xb ≠ L ∧ Xb ≠ T
theorem CirC.chg {w0 w w' : World} {n cap N0 : Nat} {ad : Option Addr} {Mb M2 Vb Xb L T : Nat} (h : CirC w0 w n cap ad Mb M2 Vb Xb L T) (hl : CirL w0 N0 Mb M2 Vb Xb L T) (hc : Chg2 N0 L T w w') : CirC w0 w' n cap ad Mb M2 Vb Xb L T :=
  ⟨hc.cell hl.m1.1 hl.m1.2.1 hl.m1.2.2 h.m1, hc.cell hl.m2.1 hl.m2.2.1 hl.m2.2.2 h.m2, hc.cell hl.v.1 hl.v.2.1 hl.v.2.2 h.v, hc.cell hl.x.1 hl.x.2.1 hl.x.2.2 h.x, h.bel.trans (hc.below hl.n hl.l hl.t)⟩

theorem ext_none {n : Nat} {m : Nat → Nat → Int} {l : List Int} (h : Pth n m l) (hn : n ≤ l.length) {k : Nat} (hk : k < n) : exB m l k = false := by
  rw [Bool.eq_false_iff]
  intro e
  have h2 := exB_t.1 e
  have h3 := (h.ext hk h2.1 h2.2).len
  rw [List.length_append, List.length_singleton] at h3
  omega
theorem cir_all {n : Nat} {m : Nat → Nat → Int} {f : Nat} {l : List Int} (h : Pth n m l) (hf : n ≤ l.length + f) : cirF n m f l = ownC m l ++ cirT n m (f - 1) l (n - (vx l 0 + 1)) := by
  cases f with
  | succ f => exact cirF_succ n m f l
  | zero =>
    have h0 : ∀ j, vx l 0 + 1 + j ≤ n → cirT n m (0 - 1) l j = [] := by
      intro j
      induction j with
      | zero => intro _; rfl
      | succ j ih =>
        intro hj
        rw [cirT_succ, ih (by omega), ext_none h (by omega) (by omega)]
        rfl
    rw [h0 _ (by have := h.hd; omega), List.append_nil]
    rfl

set_option maxHeartbeats 6400000 in
set_option maxRecDepth 100000 in
theorem nextC_c (n : Nat) (ad : Option Addr) (cap : Nat) (m : Nat → Nat → Int) (w0 : World) (N0 Mb M2 Vb Xb L T : Nat) (hm : RdM w0 ad (toM n m)) (hn : 1 ≤ n ∧ n ≤ 6) (hnum : ∀ a b, a < n → b < n → numB (m a b) = true) (hL : CirL w0 N0 Mb M2 Vb Xb L T) :
    ∀ (f : Nat) (l b : List Int) (vl vb : Value) (w : World), Pth n m l → n ≤ l.length + f → CirI w N0 L T l b vl vb → CirC w0 w n cap ad Mb M2 Vb Xb L T →
    Calls Try.prog 101 #[.pointer (some ⟨L, 0, none⟩), .pointer (some ⟨Mb, 0, none⟩), .pointer (some ⟨Vb, 0, none⟩), .pointer (some ⟨Xb, 0, none⟩)] w fun e w' => e = .returned (.tuple #[]) ∧ (∃ vl' vb', CirI w' N0 L T l ((cirF n m f l).foldl (pkC m) b) vl' vb') ∧ Chg2 N0 L T w w' := by
  intro f
  induction f using Nat.strongRecOn with
  | _ f ih =>
  intro l b vl vb w hp hf hi hc
  have HIH := Lib.hid ih; clear ih
  rw [cir_all hp hf, List.foldl_append]
  have HP := Lib.hid hp; have HC := Lib.hid hc; have HI := Lib.hid hi; have HM := Lib.hid hm; have HL := Lib.hid hL
  have CV := Lib.hid (fun (u : World) (hb : Below w.heap.size w u) (hcu : CirC w0 u n cap ad Mb M2 Vb Xb L T) => visit_c n ad cap m M2 N0 L T l b vl vb u (hm.below hcu.bel) hcu.m2 (hi.below hb) hn hp hnum)
  obtain ⟨al, cl, rfl, hrl⟩ := hi.rl.shape
  have HRL := Lib.hid hrl
  have hla := hp.la; have hhd := hp.hd; have hpos := hp.pos; have hlen := hp.len
  obtain ⟨v1, _⟩ := vt_at hp.vt (t := l.length - 1) (by omega)
  obtain ⟨v2, _⟩ := vt_at hp.vt (t := 0) (by omega)
  obtain ⟨bp, op, rfl, hbp, q1⟩ := hrl (l.length - 1) (by omega)
  have q2 := hrl.at (j := 0) (by omega)
  rw [v1] at q1
  rw [v2] at q2
  rw [Nat.add_zero] at q2
  have q1 : w.cell? ⟨bp, op + (l.length - 1), none⟩ = some (.int .i64 (laV l : Int)) := q1
  obtain ⟨bM, oM, rfl, hbM, hrow⟩ := hm.rowF (by omega)
  obtain ⟨b2, o2, c2, e2, hl2, hc2⟩ := hrow _ hla
  have HR2 := Lib.hid hc2
  have k1 := bcell hc.bel hl2 (hc2 _ hhd)
  have e2' := bcell hc.bel hbM e2
  have hOW := Lib.hid (show (ownC m l).foldl (pkC m) b = if (m (laV l) (vx l 0) != 1000000000) = true then pkC m b l else b by
    unfold ownC
    by_cases e : m (laV l) (vx l 0) = 1000000000
    · rw [if_pos e, e]; rfl
    · rw [if_neg e, if_pos (bne_iff_ne.2 e)]; rfl)
  obtain ⟨b1, hb1⟩ : ∃ b1, (ownC m l).foldl (pkC m) b = b1 := ⟨_, rfl⟩
  rw [hb1] at hOW ⊢
  have hOW := Lib.hid hOW.out
  obtain ⟨nb, hnb⟩ : ∃ nb, (m (laV l) (vx l 0) != 1000000000) = nb := ⟨_, rfl⟩
  rw [hnb] at hOW
  have HNB := Lib.hid hnb
  have kL := hi.cl.cell? (i := 0) rfl
  have kM := hc.m1
  have kV := hc.v
  obtain ⟨P, hPl⟩ : ∃ P, l.length = P := ⟨_, rfl⟩
  have HPL := Lib.hid hPl
  rw [hPl] at q1 kL hpos hlen hf CV HI
  obtain ⟨Q, hQ⟩ : ∃ Q, P - 1 = Q := ⟨_, rfl⟩
  rw [hQ] at q1
  have eQ : IntKind.i64.wrap ((P : Int) - 1) = (Q : Int) := by rw [i64_small (by omega) (by omega)]; omega
  have y1 : (0 : Int) ≤ (Q : Int) := by omega
  have y2 : (Q : Int) < (P : Int) := by omega
  have y3 : 0 < P := hpos
  have hvx : vx l 0 < n := hhd
  obtain ⟨A, hA⟩ : ∃ A, laV l = A := ⟨_, rfl⟩
  obtain ⟨H, hH⟩ : ∃ H, vx l 0 = H := ⟨_, rfl⟩
  have HA := Lib.hid hA; have HH := Lib.hid hH
  rw [hA] at q1 k1 e2 e2' hla HR2 HNB
  rw [hH] at q2 k1 hhd HNB ⊢
  have y5 : (0 : Int) ≤ (A : Int) := by omega
  have y6 : (A : Int) < (n : Int) := by omega
  have y7 : (0 : Int) ≤ (H : Int) := by omega
  have y8 : (H : Int) < (n : Int) := by omega
  clear hm hp hi hc hrl hrow hc2 hb1 hPl hA hH hnb v1 v2 hpos hL hQ hvx
  obtain ⟨C0, hC0⟩ : ∃ C0, m A H = C0 := ⟨_, rfl⟩
  rw [hC0] at k1 HNB
  clear hC0
  go_enter Try.func101, Try.ntmps101
  go_wp2_with fail
  go_cut [21] from 12 to 21 (fun s wc => s = .bool nb ∧ Below w.heap.size w wc)
  case first =>
    have HN2 := Lib.hid HNB.out
    clear HNB
    go_quiet (fail)
    go_wp2_with fail
    go_meet
    exact ⟨by rw [← HN2.out], bdrewN (Below.refl _ _) _⟩
  case rest =>
    obtain ⟨rfl, hbc⟩ := hcut
    obtain ⟨w1, rfl⟩ : ∃ x : World, x = wc := ⟨_, rfl⟩
    have HC1 := Lib.hid (HC.out.chg HL.out (Chg2.of_below hbc HI.out.sz))
    have HI1 := Lib.hid (HI.out.below hbc)
    have kL1 := bcell' hbc kL
    have kV1 := HC1.out.v
    unfold visF at kV1
    have HCH1 := Lib.hid (Chg2.of_below (a := L) (b := T) hbc HI.out.sz)
    clear kL k1 e2' q1 q2 kM kV HNB
    go_upto_if 21 with fail
    go_cut [] from 22 to 24 (fun wd => ∃ vb1, CirI wd N0 L T l b1 (.slice (some ⟨bp, op, none⟩) P cl) vb1 ∧ Chg2 N0 L T w wd)
    case first =>
      cases nb
      · go_wp2_with fail
        go_meet
        exact ⟨vb, by rw [hOW.out]; exact HI1.out, HCH1.out⟩
      · go_wp2_with fail
        refine (CV.out w1 hbc HC1.out).mono ?_
        rintro e w2 ⟨rfl, ⟨vb', hci⟩, hch⟩
        have HCI := Lib.hid hci; have HCH := Lib.hid hch
        clear hci hch kV1 kL1
        go_wp2_with fail
        go_meet
        exact ⟨vb', by rw [hOW.out]; exact HCI.out, HCH1.out.trans (Chg2.of_chg HCH.out (HI1.out.sz))⟩
    case rest =>
      obtain ⟨vb1, hi2, hch2⟩ := hcut
      obtain ⟨w2, rfl⟩ : ∃ x : World, x = wc := ⟨_, rfl⟩
      obtain ⟨ax, cx, ex, hrx⟩ := hi2.rl.shape
      rw [HPL.out] at ex
      injection ex with ex1 _ ex3
      subst ex1
      have q2 := hrx.at (j := 0) (by rw [HPL.out]; omega)
      rw [(vt_at HP.out.vt (t := 0) (by rw [HPL.out]; omega)).1, HH.out, Nat.add_zero] at q2
      have kL2 := hi2.cl.cell? (i := 0) rfl
      have HI2 := Lib.hid hi2; have HCH2 := Lib.hid hch2
      clear ex3 hrx hi2 hch2 HI1 HC1 HCH1 kL1 kV1 CV hbc hOW
      have eH : IntKind.i64.wrap ((H : Int) + 1) = ((H + 1 : Nat) : Int) := by rw [i64_small (by omega) (by omega)]; omega
      go_wp2_with fail
      go_loopw [5] (fun v wr => ∃ k : Nat, H + 1 ≤ k ∧ k ≤ n ∧ v = .int .i64 k ∧ (∃ vl' vb', CirI wr N0 L T l ((cirT n m (f - 1) l (k - (H + 1))).foldl (pkC m) b1) vl' vb') ∧ Chg2 N0 L T w wr) (fun v _ => n - (intOf v).toNat)
      case atStart => exact ⟨H + 1, Nat.le_refl _, by omega, rfl, ⟨_, vb1, by rw [Nat.sub_self]; exact HI2.out⟩, HCH2.out⟩
      case round =>
        obtain ⟨wE, rfl⟩ : ∃ x : World, x = wr := ⟨_, rfl⟩
        obtain ⟨k, hk1, hk, rfl, ⟨vl', vb', hi⟩, hch⟩ := hrel
        obtain ⟨aE, cE, rfl, hrE⟩ := hi.rl.shape
        have kLE := hi.cl.cell? (i := 0) rfl
        rw [HPL.out] at hi kLE
        have HCE := Lib.hid (HC.out.chg HL.out hch)
        have kME := HCE.out.m1
        have HIE := Lib.hid hi; have HCHE := Lib.hid hch; have HRE := Lib.hid hrE
        clear hi hch hrE q2 kL2 HI2 HCH2 eH
        by_cases hlt : k < n
        case neg =>
          obtain rfl : k = n := by omega
          go_wp2_with fail
          go_end0
          exact ⟨rfl, ⟨_, vb', HIE.out⟩, HCHE.out⟩
        case pos =>
          have HSU := Lib.hid (show cirT n m (f - 1) l (k + 1 - (H + 1)) = cirT n m (f - 1) l (k - (H + 1)) ++ (if exB m l k = true then cirF n m (f - 1) (l ++ [(k : Int)]) else []) by
            have h1 := cirT_succ n m (f - 1) l (k - (H + 1))
            rw [HH.out, show H + 1 + (k - (H + 1)) = k by omega] at h1
            rw [show k + 1 - (H + 1) = k - (H + 1) + 1 by omega]
            exact h1)
          have e3 := bcell HCE.out.bel hbM e2
          have k3 := bcell HCE.out.bel hl2 (HR2.out k hlt)
          have x1 : (0 : Int) ≤ (k : Int) := by omega
          have x2 : (k : Int) < (n : Int) := by omega
          generalize (cirT n m (f - 1) l (k - (H + 1))) = TT at HIE HSU
          have HEX := Lib.hid (show exB m l k = (!decide (m A k = 1000000000) && !decide ((k : Int) ∈ l)) by unfold exB; rw [HA.out]; simp)
          by_cases hC : m A k = 1000000000
          · rw [hC] at k3
            have HNO := Lib.hid (show exB m l k = false by rw [HEX.out, hC]; rfl)
            clear hC HEX
            go_wp2_with fail
            go_roundw
            case rel => exact ⟨k + 1, by omega, by omega, by go_num, ⟨_, vb', by rw [HSU.out, HNO.out]; simpa using HIE.out⟩, HCHE.out⟩
            case measure => simp [intOf]; omega
          · have g1 : (m A k != 1000000000) = true := bne_iff_ne.2 hC
            have CON := Lib.hid (containsW aE cE l (k : Int) wE (by rw [HPL.out]; omega) HRE.out)
            rw [HPL.out] at CON
            by_cases hin : (k : Int) ∈ l
            · rw [decide_eq_true hin] at CON
              have HNO := Lib.hid (show exB m l k = false by rw [HEX.out, decide_eq_true hin]; simp)
              clear hC HEX hin
              generalize m A k = CC at k3 g1
              go_wp2_with fail
              refine CON.out.mono ?_
              rintro e w3 ⟨rfl, rfl⟩
              go_wp2_with fail
              go_roundw
              case rel => exact ⟨k + 1, by omega, by omega, by go_num, ⟨_, vb', by rw [HSU.out, HNO.out]; simpa using HIE.out⟩, HCHE.out⟩
              case measure => simp [intOf]; omega
            · rw [decide_eq_false hin] at CON
              have HYES := Lib.hid (show exB m l k = true by rw [HEX.out, decide_eq_false hin, decide_eq_false hC]; rfl)
              have hPX := HP.out.ext hlt (by rw [HA.out]; exact hC) hin
              have hplen := hPX.len
              rw [List.length_append, List.length_singleton, HPL.out] at hplen
              have HPX := Lib.hid hPX
              clear hC HEX hin hPX
              generalize m A k = CC at k3 g1
              go_wp2_with fail
              refine CON.out.mono ?_
              rintro e w3 ⟨rfl, rfl⟩
              have hszE := HIE.out.sz
              have hfp : 0 < f := by omega
              have hP6 : P + 1 ≤ 6 := by omega
              obtain ⟨N1, hN1⟩ : ∃ N1, P + 1 = N1 := ⟨_, rfl⟩
              have HNL := Lib.hid (show (l ++ [(k : Int)]).length = N1 by rw [List.length_append, HPL.out]; exact hN1)
              have HN1 := Lib.hid hN1
              have hrl := HIE.out.rl
              have eN : IntKind.i64.wrap ((N1 : Int) - 1) = (P : Int) := by rw [i64_small (by omega) (by omega)]; omega
              have IHC := Lib.hid (fun u v5 (h1 : CirI u N0 L T (l ++ [(k : Int)]) (TT.foldl (pkC m) b1) v5 vb') (h2 : CirC w0 u n cap (some ⟨bM, oM, none⟩) Mb M2 Vb Xb L T) => HIH.out (f - 1) (by omega) (l ++ [(k : Int)]) _ v5 vb' u HPX.out (by rw [HNL.out]; omega) h1 h2)
              have HRL2 := Lib.hid hrl
              have hwl : L < wE.heap.size := HIE.out.cl.lt
              have hN0 : 0 < N1 := by omega
              clear e3 k3 hrl hN1 kME CON
              go_wp2_with (at_builtin; refine wpList_appB rfl _ _ rfl N0 wE.heap.size 0 1 _ l [(k : Int)] N1 (by rw [HPL.out]; exact HN1.out) rfl rfl (RowI.alloc' HRL2.out) (rdI_one _ _ _ rfl) (by rw [HPL.out]; omega) (by simp) (by simp; omega) ?_; intro v5 wm hown hsh hbm hgr hob; obtain ⟨g5, cap5, rfl, _⟩ := hsh (by omega); have hLm := (HIE.out.cl.alloc _).grown hgr (row_ne_ty HIE.out.rl HIE.out.cl (by decide)); have kLm := hLm.cell? (i := 0) rfl; have fLm := hLm.frozen 0; have HP5 := Lib.hid (HIE.out.push hown hgr hob hbm.size); have HCX5 := Lib.hid ((HCHE.out.trans (Chg2.of_below ((bal_alloc (o := .cells #[.int .i64 (k : Int)] 3) (Below.refl wE.heap.size wE)).mono hszE |>.trans hbm) (Nat.le_refl _))).trans (Chg2.of_chg1 (Chg.set L 0 wm (.slice (some ⟨g5, 0, none⟩) N1 cap5)) (Nat.le_trans hszE (Nat.le_trans (by simp) hbm.size)))); have HC5 := Lib.hid (HC.out.chg HL.out HCX5.out); have kX5 := HC5.out.x; unfold nexF at kX5; clear hown hsh hgr hob hLm kLE)
              refine (IHC.out _ _ HP5.out HC5.out).mono ?_
              rintro e w6 ⟨rfl, ⟨vl6, vb6, hi6⟩, hch6⟩
              obtain ⟨g6, cap6, rfl, _⟩ := hi6.rl.shp (by rw [HNL.out]; omega)
              rw [HNL.out] at hi6
              have kL6 := hi6.cl.cell? (i := 0) rfl
              have fL6 := hi6.cl.frozen 0
              have hcp6 := (hi6.rl.pre HPL.out HN1.out).2
              have HI6 := Lib.hid (hi6.cutl HPL.out HN1.out)
              have HCH7 := Lib.hid ((HCX5.out.trans hch6).trans (Chg2.of_chg1 (Chg.set L 0 w6 (.slice (some ⟨g6, 0, none⟩) P cap6)) hi6.sz))
              have z1 : (0 : Int) ≤ (P : Int) := by omega
              have z2 : (P : Int) ≤ (cap6 : Int) := by omega
              clear kX5 kLm fLm hi6 hch6 HP5 HC5 HCX5 IHC hbm
              go_wp2_with fail
              go_roundw
              case rel => exact ⟨k + 1, by omega, by omega, by go_num, ⟨_, vb6, by rw [HSU.out, HYES.out, if_pos rfl, List.foldl_append]; exact HI6.out⟩, HCH7.out⟩
              case measure => simp [intOf]; omega
end Go.Proofs.Ytbffcbjbeeagmaa
