/-
  The program's reduce.
-/
import Derived.Test.YtmhmdbmiimpbnaaRedS
namespace Go.Proofs.Ytmhmdbmiimpbnaa
open Go.RowKit

/-- The program's memory on its way. -/
structure MemI (N : Nat) (w wr : World) (g gt : Nat) (c s : Nat → Int) : Prop where
  own : Own wr g 3 (ints (tab N c))
  cnt : Own wr gt 3 (ints (tab N s))
  bel : Below w.heap.size w wr
section
variable {N : Nat} {w wr : World} {g gt : Nat} {c s : Nat → Int}
theorem MemI.below {w' : World} (h : MemI N w wr g gt c s) (hb : Below wr.heap.size wr w') : MemI N w w' g gt c s := ⟨h.own.belowAll hb, h.cnt.belowAll hb, ball h.bel hb⟩
theorem MemI.congr {c' s' : Nat → Int} (h : MemI N w wr g gt c s) (e1 : ∀ j, j < N → c j = c' j) (e2 : ∀ j, j < N → s j = s' j) : MemI N w wr g gt c' s' := ⟨h.own.congr (by rw [tab_congr e1]), h.cnt.congr (by rw [tab_congr e2]), h.bel⟩
theorem MemI.fired {c' : Nat → Int} {w' : World} (h : MemI N w wr g gt c s) (ho : Own w' g 3 (ints (tab N c'))) (hc : Chg g wr w') (hne : g ≠ gt) (hlo : w.heap.size ≤ g) : MemI N w w' g gt c' s := ⟨ho, h.cnt.chg hc (Ne.symm hne), bchg h.bel hc hlo h.bel.size⟩
theorem MemI.setS (h : MemI N w wr g gt c s) (hne : g ≠ gt) (hlo : w.heap.size ≤ gt) (k : Nat) (x : Int) : MemI N w (wr.setCell ⟨gt, k, none⟩ (.int .i64 x)) g gt c (fun j => if j = k then x else s j) := by
  have h1 := h.cnt.set k (.int .i64 x)
  rw [ints_set, tab_set] at h1
  exact ⟨h.own.setOther (a := ⟨gt, k, none⟩) hne _, h1, h.bel.setCell (by exact hlo) _⟩
theorem MemI.co (h : MemI N w wr g gt c s) {k : Nat} (hk : k < N) : wr.cell? ⟨g, k, none⟩ = some (.int .i64 (c k)) := by
  have := h.own.cell? (i := k) (ints_get (by rw [tab_length]; exact hk))
  rwa [tab_getD hk] at this
theorem MemI.cs (h : MemI N w wr g gt c s) {k : Nat} (hk : k < N) : wr.cell? ⟨gt, k, none⟩ = some (.int .i64 (s k)) := by
  have := h.cnt.cell? (i := k) (ints_get (by rw [tab_length]; exact hk))
  rwa [tab_getD hk] at this
end

set_option maxHeartbeats 12800000 in
set_option maxRecDepth 100000 in
theorem reduce_any (G gb gv capb : Nat) (rb : Nat → Nat) (N : Nat) (ls : List Lk) (q : Nat) (a : Addr) (cap : Nat) (d : List Int) (w : World) (h : GrAt w G gb gv capb rb N (betF ls) (valF ls) (edgeF ls)) (hg : goodL N ls = true) (hc : connB N ls = true) (hq : q < N) (hdl : d.length = N) (hr : RdI w (some a) d) (hd : ∀ j, j < N → -40 ≤ fd d j ∧ fd d j ≤ 40) :
    Calls Try.prog 78 #[.pointer (some ⟨G, 0, none⟩), .slice (some a) N cap, .int .i64 q] w (RetRed N (betF ls) (valF ls) q (fd d) w) := by
  have hgn := good_n hg
  obtain ⟨f, hf⟩ := pot_exists rfl hg hc hq
  have hGr := gr_of (N := N) rfl hg
  have HBD := Lib.hid (fun c s (h : BS N (betF ls) (valF ls) q (fd d) c s) => h.bound hf hGr (by omega) hd)
  have HP2 := Lib.hid (fun c1 s1 c s (hb : BS N (betF ls) (valF ls) q (fd d) c1 s1) (h : P2 N (betF ls) (valF ls) q f c1 s1 c s) => h.bound hGr hf (by omega) hq hb hd)
  have hd0 := Lib.hid (fun j hj => (hd j hj).2); clear hd
  have HF := Lib.hid hf; clear hf
  have HGR := Lib.hid hGr; clear hGr
  have HGD := Lib.hid hg; clear hg
  have HDL := Lib.hid hdl; clear hdl
  have hmk := run_makeN (P := Try.prog) 30 3 (.int .i64 0) 1 8 Try.underlying30 Try.infoI N (by omega) (by omega)
  simp only [Value.cells, Nat.mul_one] at hmk
  go_enter Try.func78, Try.ntmps78
  go_wp2_with fail
  have k1 : w.drew.cell? ⟨G, 0, none⟩ = some (.int .i64 N) := h.drew.c0
  have km : G < w.drew.heap.size := h.drew.hG.lt
  have hba : Below w.drew.heap.size w.drew (w.alloc (.cells (madeCells #[.int .i64 0] N) 3)).drew := ((Below.refl w.drew.heap.size w.drew).alloc (Nat.le_refl _) _)
  have k1a := bcell hba km k1
  have kma : G < (w.alloc (.cells (madeCells #[.int .i64 0] N) 3)).drew.heap.size := Nat.lt_of_lt_of_le km hba.size
  have hra := hr.below ((Below.refl _ w).drew)
  have hcl : ∀ w2 : World, RdI w2 (some a) d → Calls Try.prog 101 #[.slice (some a) N cap] w2 fun e w' => ∃ v, e = .returned v ∧ ∃ g cap', v = .slice (some ⟨g, 0, none⟩) N cap' ∧ w2.heap.size ≤ g ∧ Own w' g 3 (ints d) ∧ Below w2.heap.size w2 w' := fun w2 h2 => by
    have := clone_any a cap d w2 (by rw [HDL.out]; omega) h2
    rw [HDL.out] at this
    refine this.mono ?_
    rintro e w' ⟨v, he, hv, hb⟩
    rcases hv with ⟨_, h0⟩ | ⟨g, cap', e', hg, ho⟩
    · have := HDL.out; rw [h0] at this; simp at this; omega
    · rw [HDL.out] at e'
      exact ⟨v, he, g, cap', e', hg, ho, hb⟩
  have HC1 := Lib.hid (hcl _ hra)
  have HC2 := Lib.hid (hcl _ (hra.below hba))
  have HG := Lib.hid h; clear h
  clear hcl hra
  go_cut [8, 9] (fun s6 s7 wc => ∃ g gt cap', s6 = .slice (some ⟨g, 0, none⟩) N cap' ∧ s7 = .slice (some ⟨gt, 0, none⟩) N N ∧ g ≠ gt ∧ w.heap.size ≤ g ∧ w.heap.size ≤ gt ∧ Own wc g 3 (ints d) ∧ Own wc gt 3 (ints (tab N fun _ => 0)) ∧ Below w.heap.size w wc)
  case first =>
    go_region_held3 (fun w' => w'.cell? ⟨G, 0, none⟩ = some (.int .i64 N)) (first | assumption | go_keep)
      (first
        | (go_at_call 101; (with_reducible refine (HC1.out).mono ?_); rintro e w3 ⟨v3, rfl, g3, cap3, rfl, hg3, ho3, hb3⟩; have m1 := bcell hb3 km k1; have HO3 := Lib.hid ho3; clear ho3)
        | (go_at_call 101; (with_reducible refine (HC2.out).mono ?_); rintro e w3 ⟨v3, rfl, g3, cap3, rfl, hg3, ho3, hb3⟩; have m1 := bcell hb3 kma k1a; have HO3 := Lib.hid ho3; clear ho3))
    · have hbw := ball (Below.refl w.heap.size w).drew hb3
      have hz3 := hb3.size
      have hg3' : w.heap.size ≤ g3 := hg3
      have hl3 := HO3.out.lt
      go_wp2_with fail
      go_meet
      exact ⟨g3, w3.heap.size, cap3, rfl, rfl, by omega, hg3', hz3, HO3.out.alloc _, Own.newA w3 _ 3 (madeInts N), hbw.alloc hz3 _⟩
    · have hbw := ball (Below.refl w.heap.size w).drew (hba.trans (hb3.mono hba.size))
      have hz3 := hb3.size
      have hg3' : w.heap.size < g3 := by have : (w.alloc (.cells (madeCells #[.int .i64 0] N) 3)).drew.heap.size ≤ g3 := hg3; simp at this; omega
      have hcn := (Own.newA w _ 3 (madeInts N)).drew.belowAll hb3
      go_wp2_with fail
      go_meet
      exact ⟨g3, w.heap.size, cap3, rfl, rfl, by omega, by omega, Nat.le_refl _, HO3.out, hcn, hbw⟩
  case rest =>
    obtain ⟨g, gt, cap', rfl, rfl, hne, hgl, hgtl, hog, hot, hbc⟩ := hcut
    have hdt : d = tab N (fd d) := by
      have := tab_self d 0
      rw [HDL.out] at this
      exact this.symm
    have HST := Lib.hid (⟨hog.congr (by rw [← hdt]), hot.congr (by congr 1), hbc⟩ : MemI N w wc g gt (fd d) (fun j => - (fun _ => (0 : Int)) j))
    have hvl := HG.out.hv.lt
    have HRL := Lib.hid (fun i hi => (HG.out.hr i hi).lt)
    have HFIRE := Lib.hid (fun (wr : World) (c s : Nat → Int) (v : Nat) (k : Int) (hm : MemI N w wr g gt c s) (hv : v < N) (hk : k = 1 ∨ k = -1) (hx : ∀ j, j < N → -4000000000000000000 ≤ c j ∧ c j ≤ 4000000000000000000) =>
      fire_any G gb gv capb rb N _ _ _ g cap' c v k wr (HG.out.below hm.bel) hm.own (by omega) (fun i hi => by have := HRL.out i hi; omega) (by omega) hv hx (by omega) (by omega) ⟨HGR.out.val_nn hv, by have := HGR.out.val_le (by omega) hv; omega⟩ (fun j _ => ⟨HGR.out.nn v j, HGR.out.le v j⟩) (HGR.out.dg v))
    clear hdt hog hot HC1 HC2 hmk hr hbc k1 km k1a kma hba
    go_wp2_with fail
    go_loopg [] (owed N f (fd d)) (fun k wr => ∃ c s, MemI N w wr g gt c (fun j => - s j) ∧ BS N (betF ls) (valF ls) q (fd d) c s ∧ owed N f c ≤ k)
    case atStart => exact ⟨_, _, HST.out, BS.start hd0.out, Nat.le_refl _⟩
    case round =>
      obtain ⟨c, s, hI, hB, hm⟩ := hrel
      have how := hasDebt_any N q (some ⟨g, 0, none⟩) cap' (tab N c) wr (by omega) (tab_length _ _) hI.own.rd
      rw [owesB_congr (c' := c) (fun j hj => fd_tab hj)] at how
      have c0 := (HG.out.below hI.bel).c0
      have HI := Lib.hid hI; clear hI
      have HB := Lib.hid hB; clear hB
      obtain ⟨wo, rfl⟩ : ∃ wo : World, wo = wr := ⟨_, rfl⟩
      obtain ⟨k9, rfl⟩ : ∃ k9 : Nat, k9 = gk := ⟨_, rfl⟩
      obtain ⟨ow, how'⟩ : ∃ ow, owesB N q c = ow := ⟨_, rfl⟩
      rw [how'] at how
      have HOW := Lib.hid how; clear how
      have HOB := Lib.hid how'; clear how'
      cases ow
      case true =>
        obtain ⟨v0, hv0, hv0q, hv0c⟩ := owesB_t.1 HOB.out
        have HV0 := Lib.hid hv0c; clear hv0c
        go_wp2_with fail
        refine HOW.out.mono ?_
        rintro e w' ⟨rfl, rfl⟩
        go_wp2_with fail
        clear c0
        go_loopw [28] (fun i wm => ∃ k : Nat, k ≤ N ∧ i = .int .i64 k ∧ ∃ c' s', MemI N w wm g gt c' (fun j => - s' j) ∧ BS N (betF ls) (valF ls) q (fd d) c' s' ∧ Db N q f c k c') (fun i _ => N - (intOf i).toNat)
        case atStart => exact ⟨0, Nat.zero_le _, rfl, c, s, HI.out, HB.out, Db.start _ _ _ _⟩
        case round =>
          obtain ⟨k, hk, rfl, c', s', hI3, hB3, hD⟩ := hrel
          have HI3 := Lib.hid hI3; clear hI3
          have HB3 := Lib.hid hB3; clear hB3
          have HD := Lib.hid hD; clear hD
          by_cases hlt : k < N
          case neg =>
            have he : k = N := by omega
            subst he
            have hlow := HD.out.end hv0 hv0q HV0.out
            have hlow2 := owed_lt HF.out HB.out HB3.out hlow
            have HLL := Lib.hid (show owed k f c' ≤ k9 - 1 ∧ k9 - 1 < k9 by omega)
            clear hlow hlow2
            go_wp2_with fail
            go_roundg (k9 - 1)
            case measure => exact HLL.out.2
            case rel => exact ⟨c', s', HI3.out, HB3.out, HLL.out.1⟩
          case pos =>
            obtain ⟨wm, rfl⟩ : ∃ wm : World, wm = wr := ⟨_, rfl⟩
            go_wp2_with fail
            go_loopg [] (owed N f c') (fun m wi => ∃ c2 s2, MemI N w wi g gt c2 (fun j => - s2 j) ∧ BS N (betF ls) (valF ls) q (fd d) c2 s2 ∧ Db N q f c k c2 ∧ owed N f c2 ≤ m)
            case atStart => exact ⟨c', s', HI3.out, HB3.out, HD.out, Nat.le_refl _⟩
            case round =>
              obtain ⟨c2, s2, hI4, hB4, hD4, hm4⟩ := hrel
              have co := hI4.co hlt
              have HI4 := Lib.hid hI4; clear hI4
              have HB4 := Lib.hid hB4; clear hB4
              have HD4 := Lib.hid hD4; clear hD4
              by_cases hkq : k = q
              case pos =>
                have hd1 : ((k : Int) == (q : Int)) = true := by simp [hkq]
                have hd2 : ((k : Int) != (q : Int)) = false := by simp [hkq]
                have HK := Lib.hid hkq; clear hkq
                go_wp2_with fail
                go_roundw
                case rel => exact ⟨k + 1, by omega, by go_num, c2, s2, HI4.out, HB4.out, HD4.out.next hlt fun h => absurd HK.out h⟩
                case measure => simp [intOf]; omega
              case neg =>
                have hd1 : ((k : Int) == (q : Int)) = false := by simpa using fun q => hkq (by omega)
                have hd2 : ((k : Int) != (q : Int)) = true := by simpa using fun q => hkq (by omega)
                have HK := Lib.hid hkq; clear hkq
                have hbd := HBD.out c2 s2 HB4.out
                by_cases hck : c2 k < 0
                case neg =>
                  have HCK := Lib.hid (show 0 ≤ c2 k by omega)
                  generalize c2 k = ck at co hck
                  clear hbd
                  go_wp2_with fail
                  go_roundw
                  case rel => exact ⟨k + 1, by omega, by go_num, c2, s2, HI4.out, HB4.out, HD4.out.next hlt fun _ => HCK.out⟩
                  case measure => simp [intOf]; omega
                case pos =>
                  have hpay := HB4.out.borrow HGR.out (by omega) hlt HK.out (Int.le_refl 1) (by omega)
                  have hwr := wt_rise (c := c2) HF.out hlt HK.out (Int.le_refl 1)
                  have hlow2 := owed_lt HF.out HB4.out hpay hwr
                  have HLL := Lib.hid (show owed N f (fun j => c2 j + 1 * lapE (betF ls) (valF ls) k j) ≤ gk - 1 ∧ gk - 1 < gk by omega)
                  have HPAY := Lib.hid hpay; clear hpay
                  have HWR := Lib.hid (HD4.out.pay (k' := k) hwr); clear hwr hlow2
                  have HFI := Lib.hid (HFIRE.out wr c2 _ k (-1) HI4.out hlt (Or.inr rfl) (fun j hj => by have := hbd.1 j hj; omega))
                  have hsb := hbd.2 k hlt
                  clear hbd
                  generalize c2 k = ck at co hck
                  go_wp2_with fail
                  refine HFI.out.mono ?_
                  rintro e w6 ⟨rfl, ho6, hc6⟩
                  have hI5 := HI4.out.fired ho6 hc6 hne hgl
                  clear ho6 hc6 co
                  have cs := hI5.cs hlt
                  have f1 := hI5.cnt.frozen k
                  have HI5 := Lib.hid hI5; clear hI5
                  generalize hsk : s2 k = sk at cs hsb
                  have HSK := Lib.hid hsk; clear hsk
                  have HI6 := Lib.hid (HI5.out.setS hne hgtl k (-sk - 1))
                  go_wp2_with fail
                  go_roundg (gk - 1)
                  case measure => exact HLL.out.2
                  case rel =>
                    refine ⟨_, _, HI6.out.congr (fun j _ => ?_) (fun j _ => ?_), HPAY.out, HWR.out, HLL.out.1⟩
                    · omega
                    · by_cases e : j = k
                      · subst e; simp only [if_pos]; rw [HSK.out]; omega
                      · simp only [if_neg e]
      case false =>
        have hc0 := owesB_f.1 HOB.out
        have HC0 := Lib.hid hc0; clear hc0
        have hp2 := P2.start (f := f) HB.out HC0.out
        have HPS := Lib.hid hp2; clear hp2
        have hbel0 := HI.out.bel
        go_wp2_with fail
        refine HOW.out.mono ?_
        rintro e w' ⟨rfl, rfl⟩
        go_wp2_with fail
        clear c0
        go_loopg [] (wt N f c).toNat (fun k wr => ∃ c' s', MemI N w wr g gt c' s' ∧ P2 N (betF ls) (valF ls) q f c s c' s' ∧ (wt N f c').toNat ≤ k)
        case atStart => exact ⟨_, _, HI.out, HPS.out, Nat.le_refl _⟩
        case round =>
          obtain ⟨c', s', hI2, hP, hm2⟩ := hrel
          have HP := Lib.hid hP; clear hP
          have hbu := burnt_any G gb gv capb rb N ls q (some ⟨g, 0, none⟩) cap' (tab N c') wr (HG.out.below hI2.bel) HGD.out hq (tab_length _ _) hI2.own.rd
          rw [tab_congr (f := mk01 (burnB N (betF ls) (fd (tab N c')) q)) (g := mk01 (burnB N (betF ls) c' q)) (fun v _ => by unfold mk01; rw [burn_congr (fun j hj => fd_tab hj) q v])] at hbu
          have hfl := full_marks (N := N) (bet := betF ls) (c := c') (q := q)
          have hcz := fun w2 g5 h => contains_any (some ⟨g5, 0, none⟩) N (tab N (mk01 (burnB N (betF ls) c' q))) 0 w2 (by rw [tab_length]; omega) h
          rw [tab_length] at hcz
          generalize decide ((0 : Int) ∈ tab N (mk01 (burnB N (betF ls) c' q))) = cz at hfl hcz
          have HBU := Lib.hid hbu; clear hbu
          have HCZ := Lib.hid hcz; clear hcz
          have HI2 := Lib.hid hI2; clear hI2
          obtain ⟨wq, rfl⟩ : ∃ wq : World, wq = wr := ⟨_, rfl⟩
          obtain ⟨k8, rfl⟩ : ∃ k8 : Nat, k8 = gk := ⟨_, rfl⟩
          have hbd := HP2.out c s c' s' HB.out HP.out
          have HBC := Lib.hid hbd.1
          have HBS := Lib.hid hbd.2
          clear hbd
          cases cz
          case false =>
            have HFU := Lib.hid (HP.out.fin HB.out HC0.out (fullB_t.1 hfl.symm))
            clear hfl
            go_wp2_with fail
            refine HBU.out.mono ?_
            rintro e w5 ⟨g5, rfl, hg5, ho5, hb5⟩
            have HCC := Lib.hid (HCZ.out w5 g5 ho5.rd)
            clear ho5
            have HI7 := Lib.hid (HI2.out.below hb5)
            go_wp2_with fail
            refine HCC.out.mono ?_
            rintro e w' ⟨rfl, rfl⟩
            go_wp2_with fail
            go_ret2
            exact ⟨c', s', g, cap', gt, HFU.out, rfl, hgl, hgtl, HI7.out.own, HI7.out.cnt, HI7.out.bel⟩
          case true =>
            have hex : ∃ v, v < N ∧ burnB N (betF ls) c' q v = false := by
              apply Classical.byContradiction
              intro hno
              have : fullB N (betF ls) c' q = true := fullB_t.2 fun v hv => by
                cases hb : burnB N (betF ls) c' q v
                · exact absurd ⟨v, hv, hb⟩ hno
                · rfl
              rw [← hfl] at this; cases this
            have HEX := Lib.hid hex; clear hex
            clear hfl
            go_wp2_with fail
            refine HBU.out.mono ?_
            rintro e w5 ⟨g5, rfl, hg5, ho5, hb5⟩
            have HCC := Lib.hid (HCZ.out w5 g5 ho5.rd)
            have HO5 := Lib.hid ho5; clear ho5
            have HI7 := Lib.hid (HI2.out.below hb5)
            have hgl5 := HI2.out.own.lt
            have htl5 := HI2.out.cnt.lt
            go_wp2_with fail
            refine HCC.out.mono ?_
            rintro e w' ⟨rfl, rfl⟩
            go_wp2_with fail
            go_loopw [63] (fun i wm => ∃ k : Nat, k ≤ N ∧ i = .int .i64 k ∧ Own wm g5 3 (ints (tab N (mk01 (burnB N (betF ls) c' q)))) ∧ MemI N w wm g gt (fun j => c' j - ap N (betF ls) (valF ls) (pt N (betF ls) c' q k) j) (fun j => s' j + pt N (betF ls) c' q k j)) (fun i _ => N - (intOf i).toNat)
            case atStart => exact ⟨0, Nat.zero_le _, rfl, HO5.out, HI7.out.congr (fun j _ => by rw [ap_congr (fun v _ => pt_zero c' q v), ap_zero]; omega) (fun j _ => by rw [pt_zero]; omega)⟩
            case round =>
              obtain ⟨k, hk, rfl, hoL, hI8⟩ := hrel
              have HOL := Lib.hid hoL; clear hoL
              have HI8 := Lib.hid hI8; clear hI8
              by_cases hlt : k < N
              case neg =>
                have he : k = N := by omega
                subst he
                have hnx := HP.out.next HGR.out HF.out hq HEX.out (fun j _ => rfl) (fun j _ => rfl)
                have hwn := hnx.1.wt_nn HF.out
                have HNX := Lib.hid hnx.1
                have HLL := Lib.hid (show (wt k f fun j => c' j - ap k (betF ls) (valF ls) (pt k (betF ls) c' q k) j).toNat ≤ k8 - 1 ∧ k8 - 1 < k8 by have := hnx.2; omega)
                clear hnx hwn
                go_wp2_with fail
                go_roundg (k8 - 1)
                case measure => exact HLL.out.2
                case rel => exact ⟨_, _, HI8.out, HNX.out, HLL.out.1⟩
              case pos =>
                have cm := HOL.out.cell? (i := k) (ints_get (by rw [tab_length]; exact hlt))
                rw [tab_getD hlt] at cm
                cases hpb : burnB N (betF ls) c' q k
                case true =>
                  rw [show mk01 (burnB N (betF ls) c' q) k = 1 by unfold mk01; rw [hpb]; rfl] at cm
                  have HPB := Lib.hid hpb; clear hpb
                  go_wp2_with fail
                  go_roundw
                  case rel => exact ⟨k + 1, by omega, by go_num, HOL.out, HI8.out.congr (fun j _ => by rw [ap_congr (fun v _ => (pt_skip HPB.out v))]) (fun j _ => by rw [pt_skip HPB.out])⟩
                  case measure => simp [intOf]; omega
                case false =>
                  rw [show mk01 (burnB N (betF ls) c' q) k = 0 by unfold mk01; rw [hpb]; rfl] at cm
                  have HPB := Lib.hid hpb; clear hpb
                  have hsb := HBS.out k hlt
                  have hpn := pt_nn (N := N) (bet := betF ls) c' q k k
                  have HFI := Lib.hid (HFIRE.out wr _ _ k 1 HI8.out hlt (Or.inl rfl) (fun j hj => by
                    have h1 := HBC.out j hj
                    have h2 := ap_bound (s := pt N (betF ls) c' q k) HGR.out (by omega) (fun v _ => pt_nn c' q k v) hj
                    omega))
                  go_wp2_with fail
                  refine HFI.out.mono ?_
                  rintro e w6 ⟨rfl, ho6, hc6⟩
                  have hI9 := HI8.out.fired ho6 hc6 hne hgl
                  have hOL2 := HOL.out.chg hc6 (by omega)
                  clear ho6 hc6 cm
                  have cs := hI9.cs hlt
                  have f1 := hI9.cnt.frozen k
                  have HI9 := Lib.hid hI9; clear hI9
                  generalize hsk : s' k + pt N (betF ls) c' q k k = sk at cs
                  have hskb : -3000000000000000 ≤ sk ∧ sk ≤ 3000000000000000 := by omega
                  have HSK := Lib.hid hsk; clear hsk hpn hsb
                  have HI10 := Lib.hid (HI9.out.setS hne hgtl k (sk + 1))
                  have HOL3 := Lib.hid (hOL2.setOther (a := ⟨gt, k, none⟩) (show g5 ≠ gt by omega) (.int .i64 (sk + 1)))
                  clear hOL2
                  have hpf := pt_fire (N := N) (bet := betF ls) (c := c') (q := q) (k := k) HPB.out
                  have HPF := Lib.hid hpf; clear hpf
                  go_wp2_with fail
                  go_roundw
                  case rel =>
                    refine ⟨k + 1, by omega, by go_num, HOL3.out, HI10.out.congr (fun j hj => ?_) (fun j _ => ?_)⟩
                    · rw [ap_congr (fun v _ => HPF.out v), ap_upd hlt, Int.one_mul]
                      omega
                    · rw [HPF.out j]
                      by_cases e : j = k
                      · subst e; rw [if_pos rfl, if_pos rfl, ← HSK.out]; omega
                      · rw [if_neg e, if_neg e]
                  case measure => simp [intOf]; omega

end Go.Proofs.Ytmhmdbmiimpbnaa
