/-
  The program's topple.
-/
import Derived.Test.YtopkohkilmlpaaaTop
namespace Go.Proofs.Ytopkohkilmlpaaa
open Go.RowKit

/-- The program's state on its way. -/
structure ImT (ls : List Lk) (N z G : Nat) (d : Nat → Int) (w wr : World) (g gt : Nat) (c s : Nat → Int) : Prop where
  own : Own wr g 3 (ints (tab N c))
  cnt : Own wr gt 3 (ints (tab N s))
  ts : TS N (betF ls) (valF ls) z d c s
  bel : Below w.heap.size w wr
  tbl : Own wr w.heap.size 55 [.pointer (some ⟨G, 0, none⟩), .int .i64 z]

theorem ImT.below {ls : List Lk} {N z G : Nat} {d : Nat → Int} {w wr w2 : World} {g gt : Nat} {c s : Nat → Int} (h : ImT ls N z G d w wr g gt c s) (hb : Below wr.heap.size wr w2) : ImT ls N z G d w w2 g gt c s := ⟨h.own.belowAll hb, h.cnt.belowAll hb, h.ts, ball h.bel hb, h.tbl.belowAll hb⟩

/-- Has anything toppled in this pass? If not, all up to place k are stable. -/
def Dn (N : Nat) (val : Nat → Int) (z : Nat) (f c : Nat → Int) (k : Nat) (c' : Nat → Int) : Prop := wt N f c' + 1 ≤ wt N f c ∨ ((∀ j, j < N → c' j = c j) ∧ ∀ j, j < k → j ≠ z → c j < val j)
theorem Dn.start (N : Nat) (val : Nat → Int) (z : Nat) (f c : Nat → Int) : Dn N val z f c 0 c := Or.inr ⟨fun _ _ => rfl, fun j hj => by omega⟩
theorem Dn.next {N : Nat} {val : Nat → Int} {z : Nat} {f c c' : Nat → Int} {k : Nat} (h : Dn N val z f c k c') (hk : k < N) (hs : k ≠ z → c' k < val k) : Dn N val z f c (k + 1) c' := by
  rcases h with h | ⟨h1, h2⟩
  · exact Or.inl h
  · refine Or.inr ⟨h1, fun j hj hjz => ?_⟩
    by_cases e : j = k
    · subst e; rw [← h1 j hk]; exact hs hjz
    · exact h2 j (by omega) hjz
theorem Dn.topple {N : Nat} {val : Nat → Int} {z : Nat} {f c c' c'' : Nat → Int} {k : Nat} (h : Dn N val z f c k c') (hd : wt N f c'' + 1 ≤ wt N f c') : Dn N val z f c k c'' := by
  rcases h with h | ⟨h1, h2⟩
  · exact Or.inl (by omega)
  · refine Or.inl ?_
    rw [← wt_congr (N := N) (f := f) (c := c') (c' := c) (fun j hj => by rw [h1 j hj])]
    exact hd
theorem Dn.end {N : Nat} {val : Nat → Int} {z : Nat} {f c c' : Nat → Int} (h : Dn N val z f c N c') {v : Nat} (hv : v < N) (hvz : v ≠ z) (hc : val v ≤ c v) : wt N f c' + 1 ≤ wt N f c := by
  rcases h with h | ⟨_, h2⟩
  · exact h
  · have := h2 v hv hvz; omega
theorem stabB_not {N : Nat} {val : Nat → Int} {z : Nat} {c : Nat → Int} (h : stabB N val z c = false) : ∃ v, v < N ∧ v ≠ z ∧ val v ≤ c v := by
  apply Classical.byContradiction
  intro hno
  rw [stabB_t.2 (fun j hj hjz => by
    apply Classical.byContradiction
    intro q
    exact hno ⟨j, hj, hjz, by omega⟩)] at h
  cases h
theorem stabB_congr {N : Nat} {val : Nat → Int} {z : Nat} {c c' : Nat → Int} (e : ∀ j, j < N → c j = c' j) : stabB N val z c = stabB N val z c' := by
  rw [Bool.eq_iff_iff, stabB_t, stabB_t]
  exact ⟨fun h j hj hjz => by rw [← e j hj]; exact h j hj hjz, fun h j hj hjz => by rw [e j hj]; exact h j hj hjz⟩

set_option maxHeartbeats 6400000 in
set_option maxRecDepth 100000 in
theorem topple_any (G gb gv capb : Nat) (rb : Nat → Nat) (N : Nat) (ls : List Lk) (z : Nat) (a : Addr) (cap : Nat) (d : List Int) (w : World) (h : GrAt w G gb gv capb rb N (betF ls) (valF ls) (edgeF ls)) (hg : goodL N ls = true) (hc : connB N ls = true) (hz : z < N) (hdl : d.length = N) (hr : RdI w (some a) d) (hd : ∀ j, j < N → 0 ≤ fo d j ∧ fo d j ≤ 1000) :
    Calls Try.prog 57 #[.agg #[.pointer (some ⟨G, 0, none⟩), .int .i64 z], .slice (some a) N cap] w (RetTop (topR N (betF ls) (valF ls) z (fo d)) w) := by
  have hgn := good_n hg
  obtain ⟨f, hf⟩ := pot_exists rfl hg hc hz
  have hGr := gr_of (N := N) rfl hg
  have hsm : sm N (fo d) ≤ 8000 := by
    have := sm_mono (N := N) (f := fo d) (g := fun _ => 1000) (fun j hj => (hd j hj).2)
    rw [sm_const] at this
    omega
  have hwd := wt_le (N := N) (f := f) (d := fo d) (M := 100000000000) hf.up (fun j hj => (hd j hj).1)
  have hwt : ∀ c s, TS N (betF ls) (valF ls) z (fo d) c s → ∀ v, v < N → 0 ≤ s v ∧ s v ≤ 1000000000000000 := fun c s h v hv => by
    have := h.script_le hf hv
    exact ⟨h.nn v hv, by omega⟩
  have hcb : ∀ c s, TS N (betF ls) (valF ls) z (fo d) c s → ∀ v, v < N → 0 ≤ c v ∧ c v ≤ 8000 := fun c s h v hv => by
    have := h.bound hv
    omega
  have HF := Lib.hid hf; clear hf
  have HGR := Lib.hid hGr; clear hGr
  have HWT := Lib.hid hwt; clear hwt
  have HCB := Lib.hid hcb; clear hcb hwd hsm
  have HGD := Lib.hid hg; clear hg
  have HDL := Lib.hid hdl; clear hdl
  have hd0 := Lib.hid (fun j hj => (hd j hj).1); clear hd
  have hmk := run_makeN (P := Try.prog) 23 3 (.int .i64 0) 1 8 Try.underlying23 Try.infoI N (by omega) (by omega)
  simp only [Value.cells, Nat.mul_one] at hmk
  go_enter Try.func57, Try.ntmps57
  go_wp2_with fail
  have hT := Own.newA w #[.pointer (some ⟨G, 0, none⟩), .int .i64 z] 55 rfl
  have hb0 : Below w.heap.size w (w.alloc (.cells #[.pointer (some ⟨G, 0, none⟩), .int .i64 z] 55)) := (Below.refl _ _).alloc (Nat.le_refl _) _
  have hG0 := h.below hb0
  have hr0 := hr.below hb0
  have hTl := hT.lt
  have hHG := Lib.hid h; clear h
  generalize w.alloc (.cells #[.pointer (some ⟨G, 0, none⟩), .int .i64 z] 55) = W at hT hb0 hG0 hr0 hTl ⊢
  have k0 : W.drew.cell? ⟨w.heap.size, 0, none⟩ = some (.pointer (some ⟨G, 0, none⟩)) := hT.drew.cell? (i := 0) rfl
  have k1 : W.drew.cell? ⟨G, 0, none⟩ = some (.int .i64 N) := hG0.drew.c0
  have kl : w.heap.size < W.drew.heap.size := hTl
  have km : G < W.drew.heap.size := hG0.drew.hG.lt
  have hba : Below W.drew.heap.size W.drew (W.alloc (.cells (madeCells #[.int .i64 0] N) 3)).drew := ((Below.refl W.drew.heap.size W.drew).alloc (Nat.le_refl _) _)
  have k0a := bcell hba kl k0
  have k1a := bcell hba km k1
  have HR1 := Lib.hid (hr0.below ((Below.refl _ W).drew))
  have HR2 := Lib.hid (HR1.out.below hba)
  have HT := Lib.hid hT; clear hT
  have HG0 := Lib.hid hG0; clear hG0 hr0 hr
  have hw0 := hb0.drew
  have kla : w.heap.size < (W.alloc (.cells (madeCells #[.int .i64 0] N) 3)).drew.heap.size := Nat.lt_of_lt_of_le kl hba.size
  have kma : G < (W.alloc (.cells (madeCells #[.int .i64 0] N) 3)).drew.heap.size := Nat.lt_of_lt_of_le km hba.size
  have hcl : ∀ w2 : World, RdI w2 (some a) d → Calls Try.prog 79 #[.slice (some a) N cap] w2 fun e w' => ∃ v, e = .returned v ∧ ∃ g cap', v = .slice (some ⟨g, 0, none⟩) N cap' ∧ w2.heap.size ≤ g ∧ Own w' g 3 (ints d) ∧ Below w2.heap.size w2 w' := fun w2 h2 => by
    have := clone_any a cap d w2 (by rw [HDL.out]; omega) h2
    rw [HDL.out] at this
    refine this.mono ?_
    rintro e w' ⟨v, he, hv, hb⟩
    rcases hv with ⟨_, h0⟩ | ⟨g, cap', e', hg, ho⟩
    · have := HDL.out; rw [h0] at this; simp at this; omega
    · rw [HDL.out] at e'
      exact ⟨v, he, g, cap', e', hg, ho, hb⟩
  have HC1 := Lib.hid (hcl _ HR1.out)
  have HC2 := Lib.hid (hcl _ HR2.out)
  clear hcl
  go_cut [6, 7] (fun s6 s7 wc => ∃ g gt cap', s6 = .slice (some ⟨g, 0, none⟩) N cap' ∧ s7 = .slice (some ⟨gt, 0, none⟩) N N ∧ g ≠ gt ∧ W.heap.size ≤ g ∧ W.heap.size ≤ gt ∧ Own wc g 3 (ints d) ∧ Own wc gt 3 (ints (tab N fun _ => 0)) ∧ Below W.heap.size W wc)
  case first =>
    go_region_held3 (fun w' => w'.cell? ⟨w.heap.size, 0, none⟩ = some (.pointer (some ⟨G, 0, none⟩)) ∧ w'.cell? ⟨G, 0, none⟩ = some (.int .i64 N)) (first | exact ⟨by assumption, by assumption⟩ | go_keep)
      (first
        | (go_at_call 79; (with_reducible refine (HC1.out).mono ?_); rintro e w3 ⟨v3, rfl, g3, cap3, rfl, hg3, ho3, hb3⟩; have m0 := bcell hb3 kl k0; have m1 := bcell hb3 km k1; have HO3 := Lib.hid ho3; clear ho3)
        | (go_at_call 79; (with_reducible refine (HC2.out).mono ?_); rintro e w3 ⟨v3, rfl, g3, cap3, rfl, hg3, ho3, hb3⟩; have m0 := bcell hb3 kla k0a; have m1 := bcell hb3 kma k1a; have HO3 := Lib.hid ho3; clear ho3))
    · have hbw := ball (Below.refl W.heap.size W).drew hb3
      have hz3 := hb3.size
      have hg3' : W.heap.size ≤ g3 := hg3
      have hl3 := HO3.out.lt
      go_wp2_with fail
      go_meet
      exact ⟨g3, w3.heap.size, cap3, rfl, rfl, by omega, hg3', hz3, HO3.out.alloc _, Own.newA w3 _ 3 (madeInts N), hbw.alloc hz3 _⟩
    · have hbw := ball (Below.refl W.heap.size W).drew (hba.trans (hb3.mono hba.size))
      have hz3 := hb3.size
      have hg3' : W.heap.size < g3 := by have : (W.alloc (.cells (madeCells #[.int .i64 0] N) 3)).drew.heap.size ≤ g3 := hg3; simp at this; omega
      have hcn := (Own.newA W _ 3 (madeInts N)).drew.belowAll hb3
      go_wp2_with fail
      go_meet
      exact ⟨g3, W.heap.size, cap3, rfl, rfl, by omega, by omega, Nat.le_refl _, HO3.out, hcn, hbw⟩
  case rest =>
    obtain ⟨g, gt, cap', rfl, rfl, hne, hgl, hgtl, hog, hot, hbc⟩ := hcut
    have hdt : d = tab N (fo d) := by
      have := tab_self d 0
      rw [HDL.out] at this
      exact this.symm
    have hw1 := ball hb0 hbc
    have HST := Lib.hid (⟨hog.congr (by rw [← hdt]), hot, TS.start hd0.out, hw1, HT.out.belowAll hbc⟩ : ImT ls N z G (fo d) w wc g gt (fo d) (fun _ => 0))
    have hGl := hHG.out.hG.lt
    have hvl := hHG.out.hv.lt
    have hgG : G ≠ g := by omega
    have hgt1 : gt ≠ w.heap.size := by omega
    have hg1 : g ≠ w.heap.size := by omega
    have HRL := Lib.hid (fun i hi => (hHG.out.hr i hi).lt)
    have hwcl := hbc.size
    have HHG := hHG
    clear hdt hog hot hbc k0 k1 kl km hba k0a k1a kla kma hw0 HR1 HR2 HC1 HC2 HT HG0 hmk
    go_wp2_with fail
    go_loopg [] (wt N f (fo d)).toNat (fun k wr => ∃ c s, ImT ls N z G (fo d) w wr g gt c s ∧ (wt N f c).toNat ≤ k)
    case atStart => exact ⟨_, _, HST.out, Nat.le_refl _⟩
    case round =>
      obtain ⟨c, s, hI, hm⟩ := hrel
      have k0 := hI.tbl.cell? (i := 0) rfl
      have k1 := hI.tbl.cell? (i := 1) rfl
      have HI := Lib.hid hI; clear hI
      obtain ⟨wo, rfl⟩ : ∃ wo : World, wo = wr := ⟨_, rfl⟩
      obtain ⟨k9, rfl⟩ : ∃ k9 : Nat, k9 = gk := ⟨_, rfl⟩
      go_wp2_with fail
      refine (isStable_any G gb gv capb rb N _ _ _ z (some ⟨g, 0, none⟩) cap' (tab N c) _ (HHG.out.below HI.out.bel) (by omega) (tab_length _ _) HI.out.own.rd).mono ?_
      rw [stabB_congr (c' := c) (fun j hj => fo_tab hj)]
      obtain ⟨sb, hsb⟩ : ∃ sb, stabB N (valF ls) z c = sb := ⟨_, rfl⟩
      rw [hsb]
      have HSB := Lib.hid hsb; clear hsb
      rintro e w2 ⟨rfl, hb2⟩
      have HI2 := Lib.hid (HI.out.below hb2); clear k0 k1
      cases sb
      case true =>
        have k1 := HI2.out.tbl.cell? (i := 1) rfl
        have f1 := HI2.out.own.frozen z
        have c1 := HI2.out.own.cell? (i := z) (ints_get (by rw [tab_length]; exact hz))
        have o1 := HI2.out.own.set z (.int .i64 0)
        rw [ints_set, tab_set] at o1
        have o2 := HI2.out.cnt.setOther (a := ⟨g, z, none⟩) (Ne.symm hne) (.int .i64 0)
        have hb5 := HI2.out.bel.setCell (p := ⟨g, z, none⟩) (by show _ ≤ g; omega) (.int .i64 0)
        have HO1 := Lib.hid o1; clear o1
        have HO2 := Lib.hid o2; clear o2
        go_wp2_with fail
        go_ret2
        rw [TopEnd.of (HI2.out.ts.clear hz) (fun j hj hjz => by rw [if_neg hjz]; exact stabB_t.1 HSB.out j hj hjz) (if_pos rfl)]
        refine ⟨_, _, rfl, Or.inr ⟨g, cap', by rw [tab_length]; rfl, by omega, HO1.out⟩, Or.inr ⟨gt, N, by rw [tab_length]; rfl, by omega, HO2.out⟩, fun q hq hq2 => ?_, hb5⟩
        simp [Value.ownBlock] at hq hq2
        exact hne (by omega)
      case false =>
        obtain ⟨v0, hv0, hv0z, hv0c⟩ := stabB_not HSB.out
        have HV0 := Lib.hid hv0c; clear hv0c
        go_wp2_with fail
        go_loopw [23] (fun i wm => ∃ k : Nat, k ≤ N ∧ i = .int .i64 k ∧ ∃ c' s', ImT ls N z G (fo d) w wm g gt c' s' ∧ Dn N (valF ls) z f c k c') (fun i _ => N - (intOf i).toNat)
        case atStart => exact ⟨0, Nat.zero_le _, rfl, c, s, HI2.out, Dn.start _ _ _ _ _⟩
        case round =>
          obtain ⟨k, hk, rfl, c', s', hI3, hD⟩ := hrel
          have HI3 := Lib.hid hI3; clear hI3
          have HD := Lib.hid hD; clear hD
          by_cases hlt : k < N
          case neg =>
            have he : k = N := by omega
            subst he
            have hlow := HD.out.end hv0 hv0z HV0.out
            have hnn := HI3.out.ts.wt_nn HF.out
            have HLL := Lib.hid (show (wt k f c').toNat ≤ k9 - 1 ∧ k9 - 1 < k9 by omega)
            clear hlow hnn
            go_wp2_with fail
            go_roundg (k9 - 1)
            case measure => exact HLL.out.2
            case rel => exact ⟨c', s', HI3.out, HLL.out.1⟩
          case pos =>
            obtain ⟨wm, rfl⟩ : ∃ wm : World, wm = wr := ⟨_, rfl⟩
            go_wp2_with fail
            go_loopg [] (wt N f c').toNat (fun q wi => ∃ c2 s2, ImT ls N z G (fo d) w wi g gt c2 s2 ∧ Dn N (valF ls) z f c k c2 ∧ (wt N f c2).toNat ≤ q)
            case atStart => exact ⟨c', s', HI3.out, HD.out, Nat.le_refl _⟩
            case round =>
              obtain ⟨c2, s2, hI4, hD4, hq⟩ := hrel
              have k0 := hI4.tbl.cell? (i := 0) rfl
              have k1 := hI4.tbl.cell? (i := 1) rfl
              have hg4 := HHG.out.below hI4.bel
              have e2 := hg4.c2
              have cv := hg4.cv hlt
              have cc := hI4.own.cell? (i := k) (ints_get (by rw [tab_length]; exact hlt))
              rw [tab_getD hlt] at cc
              have HI4 := Lib.hid hI4; clear hI4 hg4
              have HD4 := Lib.hid hD4; clear hD4
              have x1 : (0 : Int) ≤ (k : Int) := by omega
              have x2 : (k : Int) < (N : Int) := by omega
              by_cases hkz : k = z
              case pos =>
                have hd1 : ((k : Int) == (z : Int)) = true := by simp [hkz]
                have hd2 : ((k : Int) != (z : Int)) = false := by simp [hkz]
                have HK := Lib.hid hkz; clear hkz
                go_wp2_with fail
                go_quiet (fail)
                go_wp2_with fail
                go_roundw
                case rel => exact ⟨k + 1, by omega, by go_num, c2, s2, HI4.out.below (bdrewN (Below.refl _ _) _), HD4.out.next hlt (fun q => absurd HK.out q)⟩
                case measure => simp [intOf]; omega
              case neg =>
                have hd1 : ((k : Int) == (z : Int)) = false := by simpa using fun q => hkz (by omega)
                have hd2 : ((k : Int) != (z : Int)) = true := by simpa using fun q => hkz (by omega)
                have HK := Lib.hid hkz; clear hkz
                have hts := HI4.out.ts.topple HGR.out hlt HK.out
                have HTS := Lib.hid hts; clear hts
                have hcbv := HCB.out c2 s2 HI4.out.ts
                have HCC := Lib.hid hcbv; clear hcbv
                have hsv := HWT.out c2 s2 HI4.out.ts k hlt
                by_cases hvc : valF ls k ≤ c2 k
                case neg =>
                  have hlt2 : c2 k < valF ls k := by omega
                  have HLT := Lib.hid hlt2
                  generalize valF ls k = vk at cv hvc hlt2
                  generalize c2 k = ck at cc hvc hlt2
                  have hd3 : decide (vk ≤ ck) = false := by simpa using hvc
                  clear hvc hsv
                  go_wp2_with fail
                  go_quiet (fail)
                  go_wp2_with fail
                  go_roundw
                  case rel => exact ⟨k + 1, by omega, by go_num, c2, s2, HI4.out.below (bdrewN (Below.refl _ _) _), HD4.out.next hlt (fun _ => HLT.out)⟩
                  case measure => simp [intOf]; omega
                case pos =>
                  have hdn := wt_down (c := c2) HF.out hlt HK.out
                  have hwn := (HTS.out hvc).wt_nn HF.out
                  have HLL := Lib.hid (show (wt N f (fun j => c2 j - 1 * lapE (betF ls) (valF ls) k j)).toNat ≤ gk - 1 ∧ gk - 1 < gk by omega)
                  have HDN := Lib.hid (HD4.out.topple hdn)
                  have HT2 := Lib.hid (HTS.out hvc)
                  clear hdn hwn hq
                  have HVC := Lib.hid hvc
                  generalize hvk : valF ls k = vk at cv hvc
                  generalize hck : c2 k = ck at cc hvc
                  have hd3 : decide (vk ≤ ck) = true := by simpa using hvc
                  clear hvc hvk hck
                  go_wp2_with fail
                  go_quiet (fail)
                  have hI5 := HI4.out.below (bdrewN (Below.refl wr.heap.size wr) nq)
                  generalize wr.drewN nq = W5 at hI5 ⊢
                  clear k0 k1 e2 cv cc
                  have k0 := hI5.tbl.cell? (i := 0) rfl
                  have HI5 := Lib.hid hI5; clear hI5
                  go_wp2_with fail
                  refine (fire_any G gb gv capb rb N _ _ _ g cap' c2 k 1 _ (HHG.out.below HI5.out.bel) HI5.out.own (by omega) (fun i hi => by have := HRL.out i hi; omega) (by omega) hlt (fun j hj => by have := HCC.out j hj; omega) (by omega) (by omega) ⟨HGR.out.val_nn hlt, by have := HGR.out.val_le (by omega) hlt; omega⟩ (fun j _ => ⟨HGR.out.nn k j, HGR.out.le k j⟩) (HGR.out.dg k)).mono ?_
                  rintro e w6 ⟨rfl, ho6, hc6⟩
                  have HO6 := Lib.hid ho6; clear ho6
                  have hcn := HI5.out.cnt.chg hc6 (Ne.symm hne)
                  have hz6 := hc6.size
                  have t0 := hcn.cell? (i := k) (ints_get (by rw [tab_length]; exact hlt))
                  rw [tab_getD hlt] at t0
                  have t1 := hcn.frozen k
                  have cU := hcn.set k (.int .i64 (s2 k + 1))
                  rw [ints_set, tab_set] at cU
                  have HU := Lib.hid cU; clear cU hcn
                  have HO7 := Lib.hid (HO6.out.setOther (a := ⟨gt, k, none⟩) hne (.int .i64 (s2 k + 1)))
                  have HTB := Lib.hid ((HI5.out.tbl.chg hc6 (Ne.symm hg1)).setOther (a := ⟨gt, k, none⟩) (Ne.symm hgt1) (.int .i64 (s2 k + 1)))
                  have hbb := (bchg HI5.out.bel hc6 (by omega) HI5.out.bel.size).setCell (p := ⟨gt, k, none⟩) (by show _ ≤ gt; omega) (.int .i64 (s2 k + 1))
                  clear k0
                  generalize hsx : s2 k = sv at t0 hsv HU HO7 HTB hbb
                  have HSX := Lib.hid hsx; clear hsx
                  go_wp2_with fail
                  go_roundg (gk - 1)
                  case measure => exact HLL.out.2
                  case rel =>
                    refine ⟨_, _, ⟨HO7.out, HU.out, ?_, hbb, HTB.out⟩, HDN.out, HLL.out.1⟩
                    have := HT2.out
                    rw [HSX.out] at this
                    exact this

end Go.Proofs.Ytopkohkilmlpaaa
