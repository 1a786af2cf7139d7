/-
  The reference's rdReduce.
-/
import Derived.Test.YtmhmdbmiimpbnaaRedQ
namespace Go.Proofs.Ytmhmdbmiimpbnaa
open Go.RowKit

/-- The blocks apart. -/
structure SepR (w : World) (N : Nat) (rb : Nat → Nat) (g gt : Nat) : Prop where
  ne : g ≠ gt
  r1 : ∀ i, i < N → rb i ≠ g
  r2 : ∀ i, i < N → rb i ≠ gt
  lo1 : w.heap.size ≤ g
  lo2 : w.heap.size ≤ gt
/-- The reference's memory on its way. -/
structure MemR (ls : List Lk) (N : Nat) (w wr : World) (gb : Nat) (rb : Nat → Nat) (g gt : Nat) (c s : Nat → Int) : Prop where
  own : Own wr g 3 (ints (tab N c))
  cnt : Own wr gt 3 (ints (tab N s))
  mat : MatAt wr gb rb N (lapF ls)
  bel : Below w.heap.size w wr
section
variable {ls : List Lk} {N : Nat} {w wr : World} {gb : Nat} {rb : Nat → Nat} {g gt : Nat} {c s : Nat → Int}
theorem MemR.below {w' : World} (h : MemR ls N w wr gb rb g gt c s) (hb : Below wr.heap.size wr w') : MemR ls N w w' gb rb g gt c s := ⟨h.own.belowAll hb, h.cnt.belowAll hb, h.mat.below hb, ball h.bel hb⟩
theorem MemR.congr {c' s' : Nat → Int} (h : MemR ls N w wr gb rb g gt c s) (e1 : ∀ j, j < N → c j = c' j) (e2 : ∀ j, j < N → s j = s' j) : MemR ls N w wr gb rb g gt c' s' := ⟨h.own.congr (by rw [tab_congr e1]), h.cnt.congr (by rw [tab_congr e2]), h.mat, h.bel⟩
theorem MemR.setO (h : MemR ls N w wr gb rb g gt c s) (sp : SepR w N rb g gt) (k : Nat) (x : Int) : MemR ls N w (wr.setCell ⟨g, k, none⟩ (.int .i64 x)) gb rb g gt (fun j => if j = k then x else c j) s := by
  have h1 := h.own.set k (.int .i64 x)
  rw [ints_set, tab_set] at h1
  exact ⟨h1, h.cnt.setOther (a := ⟨g, k, none⟩) (Ne.symm sp.ne) _, h.mat.chg (Chg.set _ _ _ _) (h.mat.hb.ne_of_type h.own (by decide)) (fun i hi => sp.r1 i hi), h.bel.setCell (by exact sp.lo1) _⟩
theorem MemR.setS (h : MemR ls N w wr gb rb g gt c s) (sp : SepR w N rb g gt) (k : Nat) (x : Int) : MemR ls N w (wr.setCell ⟨gt, k, none⟩ (.int .i64 x)) gb rb g gt c (fun j => if j = k then x else s j) := by
  have h1 := h.cnt.set k (.int .i64 x)
  rw [ints_set, tab_set] at h1
  exact ⟨h.own.setOther (a := ⟨gt, k, none⟩) sp.ne _, h1, h.mat.chg (Chg.set _ _ _ _) (h.mat.hb.ne_of_type h.cnt (by decide)) (fun i hi => sp.r2 i hi), h.bel.setCell (by exact sp.lo2) _⟩
theorem MemR.co (h : MemR ls N w wr gb rb g gt c s) {k : Nat} (hk : k < N) : wr.cell? ⟨g, k, none⟩ = some (.int .i64 (c k)) := by
  have := h.own.cell? (i := k) (ints_get (by rw [tab_length]; exact hk))
  rwa [tab_getD hk] at this
theorem MemR.cs (h : MemR ls N w wr gb rb g gt c s) {k : Nat} (hk : k < N) : wr.cell? ⟨gt, k, none⟩ = some (.int .i64 (s k)) := by
  have := h.cnt.cell? (i := k) (ints_get (by rw [tab_length]; exact hk))
  rwa [tab_getD hk] at this
end
theorem lapF_bd {ls : List Lk} {N : Nat} (g : Gr N (betF ls) (valF ls)) (hN : N ≤ 8) {i : Nat} (hi : i < N) (j : Nat) : -35 ≤ lapF ls i j ∧ lapF ls i j ≤ 35 := by
  have h1 := g.val_le hN hi
  have h2 := g.val_nn hi
  have h3 := g.le i j
  have h4 := g.nn i j
  unfold lapF
  split <;> omega

set_option maxHeartbeats 12800000 in
set_option maxRecDepth 100000 in
theorem rdReduce_any (N : Nat) (adl : Option Addr) (capl : Nat) (ls : List Lk) (q : Nat) (a : Addr) (cap : Nat) (d : List Int) (w : World) (hl : ls.length ≤ 1048576) (hrl : RdL w adl ls) (hg : goodL N ls = true) (hc : connB N ls = true) (hq : q < N) (hdl : d.length = N) (hr : RdI w (some a) d) (hd : ∀ j, j < N → -40 ≤ fd d j ∧ fd d j ≤ 40) :
    Calls Try.prog 79 #[.int .i64 N, .slice adl ls.length capl, .slice (some a) N cap, .int .i64 q] w (RetRed N (betF ls) (valF ls) q (fd d) w) := by
  have hgn := good_n hg
  obtain ⟨f, hf⟩ := pot_exists rfl hg hc hq
  have hGr := gr_of (N := N) rfl hg
  have HBD := Lib.hid (fun c s (h : BS N (betF ls) (valF ls) q (fd d) c s) => h.bound hf hGr (by omega) hd)
  have HP2 := Lib.hid (fun c1 s1 c s (hb : BS N (betF ls) (valF ls) q (fd d) c1 s1) (h : P2 N (betF ls) (valF ls) q f c1 s1 c s) => h.bound hGr hf (by omega) hq hb hd)
  have hd0 := Lib.hid (fun j hj => (hd j hj).2); clear hd
  have HF := Lib.hid hf; clear hf
  have HGR := Lib.hid hGr; clear hGr
  have HG := Lib.hid hg; clear hg
  have HDL := Lib.hid hdl; clear hdl
  have hmk := run_makeN (P := Try.prog) 30 3 (.int .i64 0) 1 8 Try.underlying30 Try.infoI N (by omega) (by omega)
  simp only [Value.cells, Nat.mul_one] at hmk
  go_enter Try.func79, Try.ntmps79
  go_wp2_with fail
  refine (chLap_any N adl capl ls _ hl hrl HG.out).mono ?_
  rw [Int.toNat_natCast]
  rintro e w1 ⟨gb, capb, rb, rfl, hM, hgb, hrb, hb1⟩
  have HM := Lib.hid hM; clear hM
  have hcl : ∀ w2 : World, RdI w2 (some a) d → Calls Try.prog 114 #[.slice (some a) N cap] w2 fun e w' => ∃ v, e = .returned v ∧ ∃ g cap', v = .slice (some ⟨g, 0, none⟩) N cap' ∧ w2.heap.size ≤ g ∧ Own w' g 3 (ints d) ∧ Below w2.heap.size w2 w' := fun w2 h2 => by
    have := l1Own_any a cap d w2 (by rw [HDL.out]; omega) h2
    rw [HDL.out] at this
    refine this.mono ?_
    rintro e w' ⟨v, he, hv, hb⟩
    rcases hv with ⟨_, h0⟩ | ⟨g, cap', e', hg, ho⟩
    · have := HDL.out; rw [h0] at this; simp at this; omega
    · rw [HDL.out] at e'
      exact ⟨v, he, g, cap', e', hg, ho, hb⟩
  have hra := (hr.below hb1).below ((Below.refl _ w1).drew)
  have hba : Below w1.drew.heap.size w1.drew (w1.alloc (.cells (madeCells #[.int .i64 0] N) 3)).drew := ((Below.refl w1.drew.heap.size w1.drew).alloc (Nat.le_refl _) _)
  have HC1 := Lib.hid (hcl _ hra)
  have HC2 := Lib.hid (hcl _ (hra.below hba))
  have HRB := Lib.hid hrb; clear hrb hcl hra
  clear hba
  go_wp2_with fail
  go_cut [11, 12] (fun s6 s7 wc => ∃ g gt cap', s6 = .slice (some ⟨g, 0, none⟩) N cap' ∧ s7 = .slice (some ⟨gt, 0, none⟩) N N ∧ g ≠ gt ∧ w1.heap.size ≤ g ∧ w1.heap.size ≤ gt ∧ Own wc g 3 (ints d) ∧ Own wc gt 3 (ints (tab N fun _ => 0)) ∧ Below w1.heap.size w1 wc)
  case first =>
    go_region_held3 (fun _ => True) (exact trivial)
      (first
        | (go_at_call 114; (with_reducible refine (HC1.out).mono ?_); rintro e w3 ⟨v3, rfl, g3, cap3, rfl, hg3, ho3, hb3⟩; have HO3 := Lib.hid ho3; clear ho3)
        | (go_at_call 114; (with_reducible refine (HC2.out).mono ?_); rintro e w3 ⟨v3, rfl, g3, cap3, rfl, hg3, ho3, hb3⟩; have HO3 := Lib.hid ho3; clear ho3))
    · have hbw := ball (Below.refl w1.heap.size w1).drew hb3
      have hz3 := hb3.size
      have hg3' : w1.heap.size ≤ g3 := hg3
      have hl3 := HO3.out.lt
      go_wp2_with fail
      go_meet
      exact ⟨g3, w3.heap.size, cap3, rfl, rfl, by omega, hg3', hz3, HO3.out.alloc _, Own.newA w3 _ 3 (madeInts N), hbw.alloc hz3 _⟩
    · have hba : Below w1.drew.heap.size w1.drew (w1.alloc (.cells (madeCells #[.int .i64 0] N) 3)).drew := ((Below.refl w1.drew.heap.size w1.drew).alloc (Nat.le_refl _) _)
      have hbw := ball (Below.refl w1.heap.size w1).drew (hba.trans (hb3.mono hba.size))
      have hz3 := hb3.size
      have hg3' : w1.heap.size < g3 := by have : (w1.alloc (.cells (madeCells #[.int .i64 0] N) 3)).drew.heap.size ≤ g3 := hg3; simp at this; omega
      have hcn := (Own.newA w1 _ 3 (madeInts N)).drew.belowAll hb3
      go_wp2_with fail
      go_meet
      exact ⟨g3, w1.heap.size, cap3, rfl, rfl, by omega, by omega, Nat.le_refl _, HO3.out, hcn, hbw⟩
  case rest =>
    obtain ⟨g, gt, cap', rfl, rfl, hne, hgl, hgtl, hog, hot, hbc⟩ := hcut
    have hdt : d = tab N (fd d) := by
      have := tab_self d 0
      rw [HDL.out] at this
      exact this.symm
    have hw1 := ball hb1 hbc
    have HSP := Lib.hid (⟨hne, fun i hi => by have h1 := (HM.out.hr i hi).lt; omega, fun i hi => by have h1 := (HM.out.hr i hi).lt; omega, Nat.le_trans hb1.size hgl, Nat.le_trans hb1.size hgtl⟩ : SepR w N rb g gt)
    have HST := Lib.hid (⟨hog.congr (by rw [← hdt]), hot.congr (by congr 1), HM.out.below hbc, hw1⟩ : MemR ls N w wc gb rb g gt (fd d) (fun j => - (fun _ => (0 : Int)) j))
    have HRL := Lib.hid (fun w' (hb : Below w.heap.size w w') => hrl.below hb)
    have hsz1 := hb1.size
    clear hdt hog hot HC1 HC2 hmk hr hbc hw1
    go_wp2_with fail
    go_loopg [] (owed N f (fd d)) (fun k wr => ∃ c s, MemR ls N w wr gb rb g gt c (fun j => - s j) ∧ BS N (betF ls) (valF ls) q (fd d) c s ∧ owed N f c ≤ k)
    case atStart => exact ⟨_, _, HST.out, BS.start hd0.out, Nat.le_refl _⟩
    case round =>
      obtain ⟨c, s, hI, hB, hm⟩ := hrel
      have how := rdOwes_any N q (some ⟨g, 0, none⟩) cap' (tab N c) wr (by omega) (tab_length _ _) hI.own.rd
      rw [owesB_congr (c' := c) (fun j hj => fd_tab hj)] at how
      have HI := Lib.hid hI; clear hI
      have HB := Lib.hid hB; clear hB
      obtain ⟨wo, rfl⟩ : ∃ wo : World, wo = wr := ⟨_, rfl⟩
      obtain ⟨k9, rfl⟩ : ∃ k9 : Nat, k9 = gk := ⟨_, rfl⟩
      obtain ⟨ow, how'⟩ : ∃ ow, owesB N q c = ow := ⟨_, rfl⟩
      rw [how'] at how
      have HOW := Lib.hid how; clear how
      have HOB := Lib.hid how'; clear how'
      cases ow
      case true =>
        obtain ⟨v0, hv0, hv0q, hv0c⟩ := owesB_t.1 HOB.out
        have HV0 := Lib.hid hv0c; clear hv0c
        go_wp2_with fail
        refine HOW.out.mono ?_
        rintro e w' ⟨rfl, rfl⟩
        go_wp2_with fail
        go_loopw [13] (fun i wm => ∃ k : Nat, k ≤ N ∧ i = .int .i64 k ∧ ∃ c' s', MemR ls N w wm gb rb g gt c' (fun j => - s' j) ∧ BS N (betF ls) (valF ls) q (fd d) c' s' ∧ Db N q f c k c') (fun i _ => N - (intOf i).toNat)
        case atStart => exact ⟨0, Nat.zero_le _, rfl, c, s, HI.out, HB.out, Db.start _ _ _ _⟩
        case round =>
          obtain ⟨k, hk, rfl, c', s', hI3, hB3, hD⟩ := hrel
          have HI3 := Lib.hid hI3; clear hI3
          have HB3 := Lib.hid hB3; clear hB3
          have HD := Lib.hid hD; clear hD
          by_cases hlt : k < N
          case neg =>
            have he : k = N := by omega
            subst he
            have hlow := HD.out.end hv0 hv0q HV0.out
            have hlow2 := owed_lt HF.out HB.out HB3.out hlow
            have HLL := Lib.hid (show owed k f c' ≤ k9 - 1 ∧ k9 - 1 < k9 by omega)
            clear hlow hlow2
            go_wp2_with fail
            go_roundg (k9 - 1)
            case measure => exact HLL.out.2
            case rel => exact ⟨c', s', HI3.out, HB3.out, HLL.out.1⟩
          case pos =>
            have co := HI3.out.co hlt
            by_cases hkq : k = q
            case pos =>
              have hd1 : ((k : Int) == (q : Int)) = true := by simp [hkq]
              have HK := Lib.hid hkq; clear hkq
              go_wp2_with fail
              go_roundw
              case rel => exact ⟨k + 1, by omega, by go_num, c', s', HI3.out, HB3.out, HD.out.next hlt fun h => absurd HK.out h⟩
              case measure => simp [intOf]; omega
            case neg =>
              have hd1 : ((k : Int) == (q : Int)) = false := by simpa using fun q => hkq (by omega)
              have HK := Lib.hid hkq; clear hkq
              have hbd := HBD.out c' s' HB3.out
              have hbk := hbd.1 k hlt
              have hvp := val_pos HGR.out HF.out hlt HK.out
              have hvl := HGR.out.val_le (by omega) hlt
              clear hbd
              by_cases hck : 0 ≤ c' k
              case pos =>
                have HCK := Lib.hid hck
                generalize c' k = ck at co hck hbk
                have hd2 : decide (0 ≤ ck) = true := by simpa using hck
                go_wp2_with fail
                go_roundw
                case rel => exact ⟨k + 1, by omega, by go_num, c', s', HI3.out, HB3.out, HD.out.next hlt fun _ => HCK.out⟩
                case measure => simp [intOf]; omega
              case neg =>
                have htm := times_ok (x := c' k) (v := valF ls k) (by omega) hvp
                obtain ⟨t1, t2, t3, t4⟩ := htm
                have hpay := HB3.out.borrow HGR.out (by omega) hlt HK.out t1 t2
                have hwr := wt_rise (c := c') HF.out hlt HK.out t1
                have hbd2 := HBD.out _ _ hpay
                have HPAY := Lib.hid hpay; clear hpay
                have HWR := Lib.hid (HD.out.pay (k' := k + 1) hwr); clear hwr
                have cs := HI3.out.cs hlt
                have f1 := HI3.out.cnt.frozen k
                have mr := HI3.out.mat.row hlt
                have mc := HI3.out.mat.cb hlt hlt
                rw [show lapF ls k k = valF ls k from lapE_self k] at mc
                have hsb := hbd2.2 k hlt
                rw [if_pos rfl] at hsb
                have hsb0 := (HBD.out c' s' HB3.out).2 k hlt
                have hS4 := fun x => HI3.out.setS HSP.out k x
                have HS4 := Lib.hid hS4; clear hS4
                have HBD2 := Lib.hid hbd2.1; clear hbd2
                generalize hvk : valF ls k = vk at t1 t2 t3 t4 hvp hvl mc hsb HPAY HWR HBD2
                generalize hckk : c' k = ck at t1 t2 t3 t4 co hck hbk hsb HPAY HWR HBD2
                clear hvk hckk t2 t4
                generalize hT : (-ck + vk - 1) / vk = T at t1 t3 hsb HPAY HWR HBD2
                have hd2 : decide (0 ≤ ck) = false := by simpa using hck
                have hd3 : (vk == 0) = false := by simpa using (by omega : ¬ vk = 0)
                have hck' : ck < 0 := by omega
                clear hck
                generalize hsk : s' k = sk at cs hsb hsb0
                have HSK := Lib.hid hsk; clear hsk
                go_wp2_with fail
                go_quiet (fail)
                have HI4 := Lib.hid (HI3.out.below (bdrewN (Below.refl wr.heap.size wr) nq))
                generalize wr.drewN nq = W5 at HI4 ⊢
                simp only [hT]
                clear co cs f1 mr mc HS4 hd2 hd3
                have cs := HI4.out.cs hlt
                have f1 := HI4.out.cnt.frozen k
                rw [HSK.out] at cs
                have HI5 := Lib.hid (HI4.out.setS HSP.out k (-sk - T))
                have HTT := Lib.hid hT; clear hT
                go_wp2_with fail
                go_loopw [15] (fun i wm => ∃ u : Nat, u ≤ N ∧ i = .int .i64 u ∧ MemR ls N w wm gb rb g gt (fun j => c' j + if j < u then T * lapF ls k j else 0) (fun j => if j = k then -sk - T else -s' j)) (fun i _ => N - (intOf i).toNat)
                case atStart => exact ⟨0, Nat.zero_le _, rfl, HI5.out.congr (fun j _ => by rw [if_neg (Nat.not_lt_zero j)]; omega) (fun _ _ => rfl)⟩
                case round =>
                  obtain ⟨u, hu, rfl, hI6⟩ := hrel
                  have HI6 := Lib.hid hI6; clear hI6
                  by_cases hltu : u < N
                  case neg =>
                    have he : u = N := by omega
                    subst he
                    have hfin := HI6.out.congr (c' := fun j => c' j + T * lapE (betF ls) (valF ls) k j) (s' := fun j => -(fun i => if i = k then s' k + T else s' i) j) (fun j hj => by rw [if_pos hj]; rfl) (fun j _ => by
                      by_cases e : j = k
                      · subst e; simp only [if_pos]; rw [HSK.out]; omega
                      · simp only [if_neg e])
                    have HFIN := Lib.hid hfin; clear hfin
                    go_wp2_with fail
                    go_roundw
                    case rel => exact ⟨k + 1, by omega, by go_num, _, _, HFIN.out, HPAY.out, HWR.out⟩
                    case measure => simp [intOf]; omega
                  case pos =>
                    have co := HI6.out.co hltu
                    rw [if_neg (Nat.lt_irrefl u), Int.add_zero] at co
                    have fo := HI6.out.own.frozen u
                    have mr := HI6.out.mat.row hlt
                    have mc := HI6.out.mat.cb hlt hltu
                    have lb := lapF_bd HGR.out (by omega) hlt u
                    have cb := (HBD.out c' s' HB3.out).1 u hltu
                    have nb := HBD2.out u hltu
                    rw [show lapE (betF ls) (valF ls) k u = lapF ls k u from rfl] at nb
                    have mm := mulb (k := lapF ls k u) (m := T) (K := 35) (M := 1000000000000000) (by omega) lb (by omega)
                    rw [Int.mul_comm] at nb
                    generalize hcu : c' u = cu at co cb nb
                    generalize hmu : lapF ls k u = m at mc lb nb mm
                    have HCU := Lib.hid hcu; clear hcu
                    have HMU := Lib.hid hmu; clear hmu
                    have e0 : T * m = m * T := Int.mul_comm _ _
                    have e1 : IntKind.i64.wrap (T * m) = m * T := by rw [e0]; exact i64_small (by omega) (by omega)
                    have e2 : IntKind.i64.wrap (cu + m * T) = cu + m * T := i64_small (by omega) (by omega)
                    clear e0
                    have st := (HI6.out.setO HSP.out u (cu + m * T)).below ((Below.refl _ _).drew)
                    have HST2 := Lib.hid st; clear st
                    go_wp2_with fail
                    go_still_tail 15, (by kernel_rfl)
                    change wpList _ _ _ _ _ wr.drew
                    clear e1 e2
                    go_wp2_with fail
                    go_roundw
                    case rel =>
                      refine ⟨u + 1, by omega, by go_num, HST2.out.congr (fun j _ => ?_) (fun _ _ => rfl)⟩
                      by_cases e : j = u
                      · subst e
                        rw [if_pos rfl, if_pos (by omega), HMU.out, HCU.out, Int.mul_comm m T]
                      · rw [if_neg e]
                        by_cases e2 : j < u
                        · rw [if_pos e2, if_pos (by omega)]
                        · rw [if_neg e2, if_neg (by omega)]
                    case measure => simp [intOf]; omega
      case false =>
        have hc0 := owesB_f.1 HOB.out
        have HC0 := Lib.hid hc0; clear hc0
        have hp2 := P2.start (f := f) HB.out HC0.out
        have HPS := Lib.hid hp2; clear hp2
        have hbel0 := HI.out.bel
        go_wp2_with fail
        refine HOW.out.mono ?_
        rintro e w' ⟨rfl, rfl⟩
        go_wp2_with fail
        go_loopg [] (wt N f c).toNat (fun k wr => ∃ c' s', MemR ls N w wr gb rb g gt c' s' ∧ P2 N (betF ls) (valF ls) q f c s c' s' ∧ (wt N f c').toNat ≤ k)
        case atStart => exact ⟨_, _, HI.out, HPS.out, Nat.le_refl _⟩
        case round =>
          obtain ⟨c', s', hI2, hP, hm2⟩ := hrel
          have HP := Lib.hid hP; clear hP
          have hbu := rdBurnt_any N adl capl ls (some ⟨g, 0, none⟩) cap' (tab N c') q wr hl (HRL.out _ hI2.bel) HG.out (by rw [tab_length]; simp) hI2.own.rd (by simpa using hq)
          rw [Int.toNat_natCast, selF_congr (p' := burnB N (betF ls) c' q) (fun v _ => burn_congr (fun j hj => fd_tab hj) q v)] at hbu
          have hfl := full_len (N := N) (bet := betF ls) (c := c') (q := q)
          have hsl := selF_len N (burnB N (betF ls) c' q)
          have hmem := fun v (hv : v < N) => (selF_mem (k := N) (p := burnB N (betF ls) c' q) (y := (v : Int)))
          obtain ⟨xs, hxs⟩ : ∃ xs, selF N (burnB N (betF ls) c' q) = xs := ⟨_, rfl⟩
          rw [hxs] at hbu hfl hsl hmem
          have hmb : ∀ v, v < N → decide ((v : Int) ∈ xs) = burnB N (betF ls) c' q v := fun v hv => by
            rw [Bool.eq_iff_iff, decide_eq_true_iff, hmem v hv]
            exact ⟨fun ⟨u, e, _, h⟩ => by have : u = v := by omega
                                          subst this; exact h, fun h => ⟨v, rfl, hv, h⟩⟩
          have HBU := Lib.hid hbu; clear hbu hmem hxs
          have HMB := Lib.hid hmb; clear hmb
          have HI2 := Lib.hid hI2; clear hI2
          obtain ⟨wq, rfl⟩ : ∃ wq : World, wq = wr := ⟨_, rfl⟩
          obtain ⟨k8, rfl⟩ : ∃ k8 : Nat, k8 = gk := ⟨_, rfl⟩
          have hbd := HP2.out c s c' s' HB.out HP.out
          have HBC := Lib.hid hbd.1
          have HBS := Lib.hid hbd.2
          clear hbd
          cases hfull : fullB N (betF ls) c' q
          case true =>
            have HFU := Lib.hid (HP.out.fin HB.out HC0.out (fullB_t.1 hfull))
            rw [hfull] at hfl
            have hlen : xs.length = N := of_decide_eq_true hfl
            clear hfl hfull
            have hd1 : ((xs.length : Int) == (N : Int)) = true := by simp [hlen]
            have HLEN := Lib.hid hlen; clear hlen
            go_wp2_with fail
            refine HBU.out.mono ?_
            rintro e w5 ⟨g5, cp5, rfl, hg5, hcp5, ho5, hb5⟩
            clear ho5
            have HI7 := Lib.hid (HI2.out.below hb5)
            go_wp2_with fail
            go_ret2
            exact ⟨c', s', g, cap', gt, HFU.out, rfl, HSP.out.lo1, HSP.out.lo2, HI7.out.own, HI7.out.cnt, HI7.out.bel⟩
          case false =>
            rw [hfull] at hfl
            have hlen : xs.length ≠ N := of_decide_eq_false hfl
            have hex : ∃ v, v < N ∧ burnB N (betF ls) c' q v = false := by
              apply Classical.byContradiction
              intro hno
              have : fullB N (betF ls) c' q = true := fullB_t.2 fun v hv => by
                cases hb : burnB N (betF ls) c' q v
                · exact absurd ⟨v, hv, hb⟩ hno
                · rfl
              rw [hfull] at this; cases this
            have HEX := Lib.hid hex; clear hex
            clear hfl hfull
            have hd1 : ((xs.length : Int) == (N : Int)) = false := by simpa using fun h => hlen (by omega)
            clear hlen
            go_wp2_with fail
            refine HBU.out.mono ?_
            rintro e w5 ⟨g5, cp5, rfl, hg5, hcp5, ho5, hb5⟩
            have HO5 := Lib.hid ho5; clear ho5
            have HI7 := Lib.hid (HI2.out.below hb5)
            have hgl5 := HI2.out.own.lt
            have htl5 := HI2.out.cnt.lt
            go_wp2_with fail
            clear hd1
            go_loopw [17] (fun i wm => ∃ k : Nat, k ≤ N ∧ i = .int .i64 k ∧ Own wm g5 3 (ints xs) ∧ MemR ls N w wm gb rb g gt (fun j => c' j - ap N (betF ls) (valF ls) (pt N (betF ls) c' q k) j) (fun j => s' j + pt N (betF ls) c' q k j)) (fun i _ => N - (intOf i).toNat)
            case atStart => exact ⟨0, Nat.zero_le _, rfl, HO5.out, HI7.out.congr (fun j _ => by rw [ap_congr (fun v _ => pt_zero c' q v), ap_zero]; omega) (fun j _ => by rw [pt_zero]; omega)⟩
            case round =>
              obtain ⟨k, hk, rfl, hoL, hI8⟩ := hrel
              have HOL := Lib.hid hoL; clear hoL
              have HI8 := Lib.hid hI8; clear hI8
              by_cases hlt : k < N
              case neg =>
                have he : k = N := by omega
                subst he
                have hnx := HP.out.next HGR.out HF.out hq HEX.out (fun j _ => rfl) (fun j _ => rfl)
                have hwn := hnx.1.wt_nn HF.out
                have HNX := Lib.hid hnx.1
                have HLL := Lib.hid (show (wt k f fun j => c' j - ap k (betF ls) (valF ls) (pt k (betF ls) c' q k) j).toNat ≤ k8 - 1 ∧ k8 - 1 < k8 by have := hnx.2; omega)
                clear hnx hwn
                go_wp2_with fail
                go_roundg (k8 - 1)
                case measure => exact HLL.out.2
                case rel => exact ⟨_, _, HI8.out, HNX.out, HLL.out.1⟩
              case pos =>
                have hhas := l1Has_any (some ⟨g5, 0, none⟩) cp5 xs k wr (by omega) HOL.out.rd
                rw [HMB.out k hlt] at hhas
                obtain ⟨pb, hpb⟩ : ∃ pb, burnB N (betF ls) c' q k = pb := ⟨_, rfl⟩
                rw [hpb] at hhas
                have HHAS := Lib.hid hhas; clear hhas
                have HPB := Lib.hid hpb; clear hpb
                cases pb
                case true =>
                  go_wp2_with fail
                  refine HHAS.out.mono ?_
                  rintro e w' ⟨rfl, rfl⟩
                  go_wp2_with fail
                  go_roundw
                  case rel => exact ⟨k + 1, by omega, by go_num, HOL.out, HI8.out.congr (fun j _ => by rw [ap_congr (fun v _ => (pt_skip HPB.out v))]) (fun j _ => by rw [pt_skip HPB.out])⟩
                  case measure => simp [intOf]; omega
                case false =>
                  have cs := HI8.out.cs hlt
                  have f1 := HI8.out.cnt.frozen k
                  have hsb := HBS.out k hlt
                  have hpn := pt_nn (N := N) (bet := betF ls) c' q k k
                  have hI9 := fun x => HI8.out.setS HSP.out k x
                  have hO9 := fun x => HOL.out.setOther (a := ⟨gt, k, none⟩) (show g5 ≠ gt by omega) (.int .i64 x)
                  generalize hsk : s' k + pt N (betF ls) c' q k k = sk at cs
                  have hskb : -3000000000000000 ≤ sk ∧ sk ≤ 3000000000000000 := by omega
                  have HSK := Lib.hid hsk; clear hsk hpn hsb
                  have HI9 := Lib.hid (hI9 (sk + 1)); clear hI9
                  have HO9 := Lib.hid (hO9 (sk + 1)); clear hO9
                  have hex2 : ∃ wo2 : World, wo2 = wr := ⟨_, rfl⟩
                  obtain ⟨wo2, rfl⟩ := hex2
                  go_wp2_with fail
                  refine HHAS.out.mono ?_
                  rintro e w' ⟨rfl, rfl⟩
                  go_wp2_with fail
                  go_loopw [18] (fun i wm => ∃ u : Nat, u ≤ N ∧ i = .int .i64 u ∧ Own wm g5 3 (ints xs) ∧ MemR ls N w wm gb rb g gt (fun j => c' j - ap N (betF ls) (valF ls) (pt N (betF ls) c' q k) j - if j < u then lapF ls k j else 0) (fun j => if j = k then sk + 1 else s' j + pt N (betF ls) c' q k j)) (fun i _ => N - (intOf i).toNat)
                  case atStart => exact ⟨0, Nat.zero_le _, rfl, HO9.out, HI9.out.congr (fun j _ => by rw [if_neg (Nat.not_lt_zero j)]; omega) (fun _ _ => rfl)⟩
                  case round =>
                    obtain ⟨u, hu, rfl, hoM, hI10⟩ := hrel
                    have HOM := Lib.hid hoM; clear hoM
                    have HI10 := Lib.hid hI10; clear hI10
                    by_cases hltu : u < N
                    case neg =>
                      have he : u = N := by omega
                      subst he
                      have hpf := pt_fire (N := u) (bet := betF ls) (c := c') (q := q) (k := k) HPB.out
                      have hfin := HI10.out.congr (c' := fun j => c' j - ap u (betF ls) (valF ls) (pt u (betF ls) c' q (k + 1)) j) (s' := fun j => s' j + pt u (betF ls) c' q (k + 1) j) (fun j hj => by
                        rw [if_pos hj, ap_congr (fun v _ => hpf v), ap_upd hlt, Int.one_mul]
                        show _ = c' j - (_ + lapF ls k j)
                        omega) (fun j _ => by
                        rw [hpf j]
                        by_cases e : j = k
                        · subst e; rw [if_pos rfl, if_pos rfl, ← HSK.out]; omega
                        · rw [if_neg e, if_neg e])
                      have HFIN := Lib.hid hfin; clear hfin hpf
                      go_wp2_with fail
                      go_roundw
                      case rel => exact ⟨k + 1, by omega, by go_num, HOM.out, HFIN.out⟩
                      case measure => simp [intOf]; omega
                    case pos =>
                      have co := HI10.out.co hltu
                      rw [if_neg (Nat.lt_irrefl u), Int.sub_zero] at co
                      have fo := HI10.out.own.frozen u
                      have mr := HI10.out.mat.row hlt
                      have mc := HI10.out.mat.cb hlt hltu
                      have lb := lapF_bd HGR.out (by omega) hlt u
                      have cb := HBC.out u hltu
                      have ab := ap_bound (s := pt N (betF ls) c' q k) HGR.out (by omega) (fun v _ => pt_nn c' q k v) hltu
                      generalize hcu : c' u - ap N (betF ls) (valF ls) (pt N (betF ls) c' q k) u = cu at co
                      have cub : -3000000000000000 ≤ cu ∧ cu ≤ 3000000000000000 := by omega
                      generalize hmu : lapF ls k u = m at mc lb
                      have HCU := Lib.hid hcu; clear hcu ab cb
                      have HMU := Lib.hid hmu; clear hmu
                      have e2 : IntKind.i64.wrap (cu - m) = cu - m := i64_small (by omega) (by omega)
                      have st := (HI10.out.setO HSP.out u (cu - m)).below ((Below.refl _ _).drew)
                      have HST2 := Lib.hid st; clear st
                      have HO11 := Lib.hid ((HOM.out.setOther (a := ⟨g, u, none⟩) (show g5 ≠ g by omega) (.int .i64 (cu - m))).drew)
                      go_wp2_with fail
                      go_still_tail 13, (by kernel_rfl)
                      change wpList _ _ _ _ _ wr.drew
                      clear e2
                      go_wp2_with fail
                      go_roundw
                      case rel =>
                        refine ⟨u + 1, by omega, by go_num, HO11.out, HST2.out.congr (fun j _ => ?_) (fun _ _ => rfl)⟩
                        by_cases e : j = u
                        · subst e
                          rw [if_pos rfl, if_pos (by omega), HMU.out, HCU.out]
                        · rw [if_neg e]
                          by_cases e2 : j < u
                          · rw [if_pos e2, if_pos (by omega)]
                          · rw [if_neg e2, if_neg (by omega)]
                      case measure => simp [intOf]; omega

end Go.Proofs.Ytmhmdbmiimpbnaa
