/-
  The reference's sorted points. Printed by gen_pysort.py.
-/
import Derived.Test.YtpnnmdkhkjenmaaPolyS
import Derived.Test.YtpnnmdkhkjenmaaApp
namespace Go.Proofs.Ytpnnmdkhkjenmaa
open Go.RowKit

set_option maxHeartbeats 3200000 in
set_option maxRecDepth 100000 in
theorem pySorted_c (ad : Option Addr) (cap : Nat) (l : List Pt) (w : World) (hr : RdP w ad l) (hl : l.length ≤ 50000) :
    Calls Try.prog 35 #[.slice ad l.length cap] w fun e w' => ∃ v, e = .returned v ∧ RowP w' w.heap.size v (pySortF l) ∧ Below w.heap.size w w' := by
  have HR := Lib.hid hr; clear hr
  go_enter Try.func35, Try.ntmps35
  go_wp2_with fail
  go_loopw [3, 9] (fun v i wr => ∃ k : Nat, k ≤ l.length ∧ i = .int .i64 k ∧ RowP wr w.heap.size v (pySortF (l.take k)) ∧ (pySortF (l.take k) = [] → v = .slice none 0 0) ∧ Below w.heap.size w wr) (fun _ i _ => l.length - (intOf i).toNat)
  case atStart => exact ⟨0, Nat.zero_le _, rfl, RowP.nil _ _, fun _ => rfl, Below.refl _ _⟩
  case round =>
    obtain ⟨wE, rfl⟩ : ∃ x : World, x = wr := ⟨_, rfl⟩
    obtain ⟨k, hk, rfl, hrow, hnil, hbel⟩ := hrel
    have hlen := pySortF_len (l.take k)
    rw [List.length_take] at hlen
    have HO := Lib.hid hrow; clear hrow
    by_cases hlt : k < l.length
    case neg =>
      obtain rfl : k = l.length := by omega
      rw [List.take_length] at HO
      clear hlen hnil
      go_wp2_with fail
      go_ret
      exact ⟨_, rfl, HO.out, hbel⟩
    case pos =>
      obtain ⟨b, off, rfl, hb, c0, c1⟩ := HR.out k hlt
      have d0 := bcell hbel hb c0
      have d1 := bcell hbel hb c1
      clear c0 c1
      have hnx := pySortF_snoc (l.take k) (l.getD k default)
      rw [← take_snoc' l k hlt] at hnx
      obtain ⟨p, hp⟩ : ∃ p, l.getD k default = p := ⟨_, rfl⟩
      rw [hp] at d0 d1 hnx
      obtain ⟨px, py⟩ := p
      simp only at d0 d1
      obtain ⟨o, ho⟩ : ∃ o, pySortF (l.take k) = o := ⟨_, rfl⟩
      rw [ho] at hnx HO hlen hnil
      have holen : o.length ≤ 50000 := by omega
      obtain ⟨adv, capv, rfl, hc1, hc2⟩ := HO.out.shape
      have HNX := Lib.hid hnx; have HNIL := Lib.hid hnil; clear hnx hp ho hlen hnil
      go_wp2_with fail
      obtain ⟨wB, hwB⟩ : ∃ x, wE.alloc (.cells #[.int .i64 px, .int .i64 py] 33) = x := ⟨_, rfl⟩
      have hEB : Below wE.heap.size wE wB := by rw [← hwB]; exact (Below.refl _ _).alloc (Nat.le_refl _) _
      have b0 : wB.cell? ⟨wE.heap.size, 0, none⟩ = some (.int .i64 px) := by rw [← hwB]; simp [go_sem]
      have b1 : wB.cell? ⟨wE.heap.size, 1, none⟩ = some (.int .i64 py) := by rw [← hwB]; simp [go_sem]
      have bl : wE.heap.size < wB.heap.size := by rw [← hwB]; simp
      rw [hwB]
      clear hwB d0 d1
      have HOB := Lib.hid (HO.out.below hEB)
      have hbB := ball hbel hEB
      have hzE := hbel.size
      clear hEB
      go_loopw [6] (fun i wr => ∃ k2 : Nat, k2 ≤ o.length ∧ i = .int .i64 k2 ∧ (∀ i, i < k2 → ltPt (o.getD i default) ⟨px, py⟩ = true) ∧ Below wB.heap.size wB wr) (fun i _ => o.length - (intOf i).toNat)
      case atStart => exact ⟨0, Nat.zero_le _, rfl, fun i h => absurd h (by omega), Below.refl _ _⟩
      case round =>
        obtain ⟨wF, rfl⟩ : ∃ x : World, x = wr := ⟨_, rfl⟩
        obtain ⟨k2, hk2, rfl, hall, hbF⟩ := hrel
        have HALL := Lib.hid hall; clear hall
        have e0 := bcell hbF bl b0
        have e1 := bcell hbF bl b1
        have HRF := Lib.hid (HOB.out.below hbF)
        obtain ⟨c, hc⟩ : ∃ c, (decide (k2 < o.length) && ltPt (o.getD k2 default) ⟨px, py⟩) = c := ⟨_, rfl⟩
        have HCC := Lib.hid hc; clear hc
        go_upto_region 6 with fail
        go_cut [24] from 13 to 24 (fun s wc => s = .bool c ∧ Below wF.heap.size wF wc)
        case first =>
          by_cases hle : k2 < o.length
          case neg =>
            have g1 : decide ((k2 : Int) < (o.length : Int)) = false := decide_eq_false (by omega)
            have g2 : decide (k2 < o.length) = false := decide_eq_false hle
            have HLE := Lib.hid hle; clear hle
            go_wp2_with fail
            go_quiet (fail)
            go_wp2_with fail
            go_meet
            exact ⟨by rw [← HCC.out, decide_eq_false HLE.out, Bool.false_and], bdrewN (Below.refl _ _) nq⟩
          case pos =>
            have g1 : decide ((k2 : Int) < (o.length : Int)) = true := decide_eq_true (by omega)
            have g2 : decide (k2 < o.length) = true := decide_eq_true hle
            have hrd := HRF.out.rd
            obtain ⟨bo, offo, rfl, hbo⟩ := hrd.some (by omega)
            obtain ⟨p1, p2⟩ := hrd.at hle
            have x1 : (0 : Int) ≤ (k2 : Int) := by omega
            have x2 : (k2 : Int) < (o.length : Int) := by omega
            have hcv : ltPt (o.getD k2 default) ⟨px, py⟩ = c := by have := HCC.out; rwa [decide_eq_true hle, Bool.true_and] at this
            obtain ⟨pp, hpp⟩ : ∃ x, o.getD k2 default = x := ⟨_, rfl⟩
            rw [hpp] at p1 p2 hcv
            have ct := fun w => pyBefore_c pp ⟨px, py⟩ w
            rw [hcv] at ct
            unfold ptV at ct
            have CT := Lib.hid ct; clear ct hpp hcv hrd
            have lE : wE.heap.size < wF.heap.size := Nat.lt_of_lt_of_le bl hbF.size
            go_wp2_with fail
            go_region_held3 (fun w' => (w'.cell? ⟨bo, offo + k2 * 2, none⟩ = some (.int .i64 pp.x) ∧ w'.cell? ⟨bo, offo + k2 * 2 + 1, none⟩ = some (.int .i64 pp.y)) ∧ w'.cell? ⟨wE.heap.size, 0, none⟩ = some (.int .i64 px) ∧ w'.cell? ⟨wE.heap.size, 1, none⟩ = some (.int .i64 py)) (exact ⟨⟨by assumption, by assumption⟩, by assumption, by assumption⟩)
              (first
                | (go_at_call 49; (with_reducible refine (CT.out _).mono ?_); rintro e W1 ⟨rfl, hw1⟩; have m1 := bcell hw1 hbo p1; have m2 := bcell hw1 hbo p2; have m5 := bcell hw1 lE e0; have m6 := bcell hw1 lE e1))
            go_wp2_with fail
            go_meet
            exact ⟨rfl, (Below.refl _ _).drew.trans hw1⟩
        case rest =>
          obtain ⟨rfl, hbc⟩ := hcut
          obtain ⟨wH, rfl⟩ : ∃ x : World, x = wc := ⟨_, rfl⟩
          have HRG := Lib.hid (HRF.out.below hbc)
          have hbG := ball hbF hbc
          have e2 := bcell hbc (Nat.lt_of_lt_of_le bl hbF.size) e0
          have e3 := bcell hbc (Nat.lt_of_lt_of_le bl hbF.size) e1
          have lH : wE.heap.size < wH.heap.size := Nat.lt_of_lt_of_le bl hbG.size
          clear hbc e0 e1 HRF b0 b1 hbF HOB HO
          cases c
          case true =>
            have hh : k2 < o.length ∧ ltPt (o.getD k2 default) ⟨px, py⟩ = true := by have := HCC.out; rw [Bool.and_eq_true_iff] at this; exact ⟨of_decide_eq_true this.1, this.2⟩
            have HH := Lib.hid hh.2
            have hk3 := hh.1
            clear hh HCC
            go_wp2_with fail
            go_roundw
            case rel => exact ⟨k2 + 1, by omega, by go_num, fun i hi => by
              rcases Nat.lt_or_ge i k2 with h | h
              · exact HALL.out i h
              · obtain rfl : i = k2 := by omega
                exact HH.out, hbG⟩
            case measure => simp [intOf]; omega
          case false =>
            have hstop : k2 < o.length → ltPt (o.getD k2 default) ⟨px, py⟩ = false := fun h => by have := HCC.out; rwa [decide_eq_true h, Bool.true_and] at this
            have hins := insP_at hk2 HALL.out hstop
            rw [← HNX.out] at hins
            have HINS := Lib.hid hins; clear hins hstop HCC HALL HNX
            obtain ⟨d, hd⟩ : ∃ d, (decide (k2 < o.length) && decide (o.getD k2 default = ⟨px, py⟩)) = d := ⟨_, rfl⟩
            have HD := Lib.hid hd; clear hd
            have hbH := ball hbB hbG
            clear hbB hbG bl
            go_upto_region 8 with fail
            go_cut [38] from 27 to 38 (fun s wc => s = .bool d ∧ Below wH.heap.size wH wc)
            case first =>
              by_cases hle : k2 < o.length
              case neg =>
                have g1 : decide ((k2 : Int) < (o.length : Int)) = false := decide_eq_false (by omega)
                have g2 : decide (k2 < o.length) = false := decide_eq_false hle
                have HLE := Lib.hid hle; clear hle
                go_wp2_with fail
                go_quiet (fail)
                go_wp2_with fail
                go_meet
                exact ⟨by rw [← HD.out, decide_eq_false HLE.out, Bool.false_and], bdrewN (Below.refl _ _) nq⟩
              case pos =>
                have g1 : decide ((k2 : Int) < (o.length : Int)) = true := decide_eq_true (by omega)
                have g2 : decide (k2 < o.length) = true := decide_eq_true hle
                have hrd := HRG.out.rd
                obtain ⟨bo, offo, rfl, hbo⟩ := hrd.some (by omega)
                obtain ⟨p1, p2⟩ := hrd.at hle
                have x1 : (0 : Int) ≤ (k2 : Int) := by omega
                have x2 : (k2 : Int) < (o.length : Int) := by omega
                have hdv : decide (o.getD k2 default = ⟨px, py⟩) = d := by have := HD.out; rwa [decide_eq_true hle, Bool.true_and] at this
                obtain ⟨pp, hpp⟩ : ∃ x, o.getD k2 default = x := ⟨_, rfl⟩
                rw [hpp] at p1 p2 hdv
                obtain ⟨qx, qy⟩ := pp
                simp only at p1 p2
                have HDV := Lib.hid hdv; clear hdv hpp hrd
                by_cases hx : qx = px
                case pos =>
                  subst hx
                  by_cases hy : qy = py
                  case pos =>
                    subst hy
                    obtain rfl : d = true := HDV.out.symm.trans (decide_eq_true rfl)
                    go_wp2_with fail
                    go_quiet (fail)
                    go_wp2_with fail
                    go_meet
                    exact ⟨rfl, bdrewN (Below.refl _ _) nq⟩
                  case neg =>
                    obtain rfl : d = false := HDV.out.symm.trans (decide_eq_false fun e => by injection e with e1 e2; exact hy e2)
                    go_wp2_with fail
                    go_quiet (fail)
                    go_wp2_with fail
                    go_meet
                    exact ⟨rfl, bdrewN (Below.refl _ _) nq⟩
                case neg =>
                  obtain rfl : d = false := HDV.out.symm.trans (decide_eq_false fun e => by injection e with e1 e2; exact hx e1)
                  go_wp2_with fail
                  go_quiet (fail)
                  go_wp2_with fail
                  go_meet
                  exact ⟨rfl, bdrewN (Below.refl _ _) nq⟩
            case rest =>
              obtain ⟨rfl, hbc⟩ := hcut
              obtain ⟨wG, rfl⟩ : ∃ x : World, x = wc := ⟨_, rfl⟩
              have HRI := Lib.hid (HRG.out.below hbc)
              have e0 := bcell hbc lH e2
              have e1 := bcell hbc lH e3
              have lE : wE.heap.size < wG.heap.size := Nat.lt_of_lt_of_le lH hbc.size
              have hbI := hbH.trans (hbc.mono hbH.size)
              have hBG := hbI.size
              clear hbc e2 e3 lH HRG hbH
              cases d
              case true =>
                have hv : pySortF (l.take (k + 1)) = o := by
                  have h := HD.out
                  rw [Bool.and_eq_true_iff] at h
                  have h2 := HINS.out
                  rwa [if_pos ⟨of_decide_eq_true h.1, of_decide_eq_true h.2⟩] at h2
                have HV := Lib.hid hv; clear hv HD HINS
                go_wp2_with fail
                go_roundw
                case rel => exact ⟨k + 1, by omega, by go_num, by rw [HV.out]; exact HRI.out, by rw [HV.out]; exact HNIL.out, hbI⟩
                case measure => simp [intOf]; omega
              case false =>
                have hv : pySortF (l.take (k + 1)) = o.take k2 ++ ⟨px, py⟩ :: o.drop k2 := by
                  have h := HD.out
                  have h2 := HINS.out
                  rwa [if_neg (fun hh => by rw [decide_eq_true hh.1, decide_eq_true hh.2] at h; exact absurd h (by simp))] at h2
                have HV := Lib.hid hv; clear hv HD HINS
                by_cases h0 : o = []
                case pos =>
                  subst h0
                  have hn := HNIL.out rfl
                  injection hn with hn1 _ hn2
                  subst hn1; subst hn2
                  obtain rfl : k2 = 0 := by simpa using hk2
                  clear HNIL hc1 hc2 holen hk2 HRI
                  have hbal : ∀ W' o1, Below wG.heap.size wG W' → Below wG.heap.size wG (W'.alloc o1) := fun W' o1 h => h.alloc h.size o1
                  have hbdr : ∀ W', Below wG.heap.size wG W' → Below wG.heap.size wG W'.drew := fun W' h => h.drew
                  have HBA := Lib.hid hbal; have HBD := Lib.hid hbdr; clear hbal hbdr
                  go_wp2_with fail
                  go_region_held3 (fun w' => w'.cell? ⟨wE.heap.size, 0, none⟩ = some (.int .i64 px) ∧ w'.cell? ⟨wE.heap.size, 1, none⟩ = some (.int .i64 py)) (first | exact ⟨by assumption, by assumption⟩ | exact ⟨bcell (by (with_reducible repeat (first | exact Below.refl _ _ | exact HZ1.out | apply HBD.out | apply HBA.out))) lE e0, bcell (by (with_reducible repeat (first | exact Below.refl _ _ | exact HZ1.out | apply HBD.out | apply HBA.out))) lE e1⟩)
                    (first
                      | (refine step_app (by rfl) _ _ (by rfl) wG.heap.size (.slice (some ⟨_, 0, none⟩) 0 0) (.slice none 0 0) [] (([] : List Pt)) (by rfl) (by rfl) (by (with_reducible repeat (first | exact rowP_new _ _ _ (by simp) (by simp) | apply RowP.alloc' | apply RowP.drew'))) (by (with_reducible repeat (first | exact readsP_nil _ | apply ReadsP.alloc' | apply ReadsP.drew'))) (by simp) (by first | (rw [List.length_take]; omega) | simp) (by (try simp) <;> omega) ?_; intro v1 w1 hown1 hb1 hg1; have hz1 : Below wG.heap.size wG w1 := Below.trans (by (with_reducible repeat (first | exact Below.refl _ _ | exact HZ1.out | apply HBD.out | apply HBA.out))) hb1; have HO1 := Lib.hid hown1; have HG1 := Lib.hid hg1; have n10 := bcell hz1 lE e0; have n11 := bcell hz1 lE e1; have hzz1 := hz1.size; have HZ1 := Lib.hid hz1; clear hown1 hb1 hg1 hz1)
                      | (refine step_app (by rfl) _ _ (by rfl) wG.heap.size v1 (.slice (some ⟨_, 0, none⟩) 1 1) _ [⟨px, py⟩] (by rfl) (by rfl) (by (with_reducible repeat (first | exact HO1.out | apply RowP.alloc' | apply RowP.drew'))) (by (with_reducible repeat (first | exact readsP_one _ _ _ _ (by simp) | apply ReadsP.alloc' | apply ReadsP.drew' | refine ReadsP.grown ?_ HG1.out (by simp [Value.ownBlock])))) (by (try simp) <;> omega) (by simp) (by first | exact hzz1 | ((try simp) <;> omega)) ?_; intro v2 w2 hown2 hb2 hg2; have hz2 : Below wG.heap.size wG w2 := Below.trans (by (with_reducible repeat (first | exact HZ1.out | apply HBD.out | apply HBA.out))) hb2; have HO2 := Lib.hid hown2; have n20 := bcell hz2 lE e0; have n21 := bcell hz2 lE e1; have hzz2 := hz2.size; have HZ2 := Lib.hid hz2; clear hown2 hb2 hg2 hz2)
                      | (refine step_app (by rfl) _ _ (by rfl) wG.heap.size v2 (.slice none 0 0) _ (([] : List Pt)) (by rfl) (by first | rfl | (simp [Act.eval, Array.getD]; omega)) (by (with_reducible repeat (first | exact HO2.out | apply RowP.alloc' | apply RowP.drew'))) (by (with_reducible repeat (first | exact readsP_nil _ | apply ReadsP.alloc' | apply ReadsP.drew'))) (by (try simp) <;> omega) (by first | (rw [List.length_drop]; omega) | simp) hzz2 ?_; intro v3 w3 hown3 hb3 hg3; have hz3 : Below wG.heap.size wG w3 := Below.trans (by (with_reducible repeat (first | exact HZ2.out | apply HBD.out | apply HBA.out))) hb3; have HO3 := Lib.hid hown3; have n30 := bcell hz3 lE e0; have n31 := bcell hz3 lE e1; have HZ3 := Lib.hid hz3; clear hown3 hb3 hg3 hz3))
                  all_goals
                    have hrow3 := HO3.out.mono hBG
                    have HR3 := Lib.hid hrow3
                    have hbZ := hbI.trans (HZ3.out.mono hBG)
                    clear hrow3 HO3
                    go_wp2_with fail
                    go_roundw
                    case rel => exact ⟨k + 1, by omega, by go_num, by rw [HV.out]; have := HR3.out; simpa using this, (by rw [HV.out]; intro h; simp at h), hbZ⟩
                    case measure => simp [intOf]; omega
                case neg =>
                  have hpos : 0 < o.length := List.length_pos_iff.2 h0
                  have hrd := HRI.out.rd
                  obtain ⟨bo, offo, rfl, hbo⟩ := hrd.some hpos
                  obtain ⟨hA, hBd⟩ := hrd.takeDrop k2
                  have hk3 : k2 ≤ capv := Nat.le_trans hk2 hc1
                  have HX1 := Lib.hid (show ReadsP wG (.slice (some ⟨bo, offo, none⟩) k2 capv) (o.take k2) from Or.inr ⟨_, _, capv, by rw [List.length_take, Nat.min_eq_left hk2], hA⟩)
                  have hlA : (o.take k2).length ≤ 50000 := by rw [List.length_take]; omega
                  have hlB : (o.drop k2).length ≤ 50000 := by rw [List.length_drop]; omega
                  by_cases hkc : k2 < capv
                  case pos =>
                    have HX3 := Lib.hid (show ReadsP wG (.slice (some ⟨bo, offo + k2 * 2, none⟩) (o.length - k2) (capv - k2)) (o.drop k2) from Or.inr ⟨_, _, _, by rw [List.length_drop], hBd⟩)
                    clear hrd hA hBd
                    have hbal : ∀ W' o1, Below wG.heap.size wG W' → Below wG.heap.size wG (W'.alloc o1) := fun W' o1 h => h.alloc h.size o1
                    have hbdr : ∀ W', Below wG.heap.size wG W' → Below wG.heap.size wG W'.drew := fun W' h => h.drew
                    have HBA := Lib.hid hbal; have HBD := Lib.hid hbdr; clear hbal hbdr
                    go_wp2_with fail
                    go_region_held3 (fun w' => w'.cell? ⟨wE.heap.size, 0, none⟩ = some (.int .i64 px) ∧ w'.cell? ⟨wE.heap.size, 1, none⟩ = some (.int .i64 py)) (first | exact ⟨by assumption, by assumption⟩ | exact ⟨bcell (by (with_reducible repeat (first | exact Below.refl _ _ | exact HZ1.out | apply HBD.out | apply HBA.out))) lE e0, bcell (by (with_reducible repeat (first | exact Below.refl _ _ | exact HZ1.out | apply HBD.out | apply HBA.out))) lE e1⟩)
                      (first
                        | (refine step_app (by rfl) _ _ (by rfl) wG.heap.size (.slice (some ⟨_, 0, none⟩) 0 0) (.slice (some ⟨bo, offo, none⟩) k2 capv) [] (o.take k2) (by rfl) (by rfl) (by (with_reducible repeat (first | exact rowP_new _ _ _ (by simp) (by simp) | apply RowP.alloc' | apply RowP.drew'))) (by (with_reducible repeat (first | exact (HX1.out.below (by (with_reducible repeat (first | exact Below.refl _ _ | exact HZ1.out | apply HBD.out | apply HBA.out)))) | apply ReadsP.alloc' | apply ReadsP.drew'))) (by simp) (by first | (rw [List.length_take]; omega) | simp) (by (try simp) <;> omega) ?_; intro v1 w1 hown1 hb1 hg1; have hz1 : Below wG.heap.size wG w1 := Below.trans (by (with_reducible repeat (first | exact Below.refl _ _ | exact HZ1.out | apply HBD.out | apply HBA.out))) hb1; have HO1 := Lib.hid hown1; have HG1 := Lib.hid hg1; have n10 := bcell hz1 lE e0; have n11 := bcell hz1 lE e1; have hzz1 := hz1.size; have HZ1 := Lib.hid hz1; clear hown1 hb1 hg1 hz1)
                        | (refine step_app (by rfl) _ _ (by rfl) wG.heap.size v1 (.slice (some ⟨_, 0, none⟩) 1 1) _ [⟨px, py⟩] (by rfl) (by rfl) (by (with_reducible repeat (first | exact HO1.out | apply RowP.alloc' | apply RowP.drew'))) (by (with_reducible repeat (first | exact readsP_one _ _ _ _ (by simp) | apply ReadsP.alloc' | apply ReadsP.drew' | refine ReadsP.grown ?_ HG1.out (by simp [Value.ownBlock])))) (by (try simp) <;> omega) (by simp) (by first | exact hzz1 | ((try simp) <;> omega)) ?_; intro v2 w2 hown2 hb2 hg2; have hz2 : Below wG.heap.size wG w2 := Below.trans (by (with_reducible repeat (first | exact HZ1.out | apply HBD.out | apply HBA.out))) hb2; have HO2 := Lib.hid hown2; have n20 := bcell hz2 lE e0; have n21 := bcell hz2 lE e1; have hzz2 := hz2.size; have HZ2 := Lib.hid hz2; clear hown2 hb2 hg2 hz2)
                        | (refine step_app (by rfl) _ _ (by rfl) wG.heap.size v2 (.slice (some ⟨bo, offo + k2 * 2, none⟩) (o.length - k2) (capv - k2)) _ (o.drop k2) (by rfl) (by first | rfl | (simp [Act.eval, Array.getD]; omega)) (by (with_reducible repeat (first | exact HO2.out | apply RowP.alloc' | apply RowP.drew'))) (by (with_reducible repeat (first | exact (HX3.out.below (by (with_reducible repeat (first | exact HZ2.out | apply HBD.out | apply HBA.out)))) | apply ReadsP.alloc' | apply ReadsP.drew'))) (by (try simp) <;> omega) (by first | (rw [List.length_drop]; omega) | simp) hzz2 ?_; intro v3 w3 hown3 hb3 hg3; have hz3 : Below wG.heap.size wG w3 := Below.trans (by (with_reducible repeat (first | exact HZ2.out | apply HBD.out | apply HBA.out))) hb3; have HO3 := Lib.hid hown3; have n30 := bcell hz3 lE e0; have n31 := bcell hz3 lE e1; have HZ3 := Lib.hid hz3; clear hown3 hb3 hg3 hz3))
                    all_goals
                      have hrow3 := HO3.out.mono hBG
                      have HR3 := Lib.hid hrow3
                      have hbZ := hbI.trans (HZ3.out.mono hBG)
                      clear hrow3 HO3
                      go_wp2_with fail
                      go_roundw
                      case rel => exact ⟨k + 1, by omega, by go_num, by rw [HV.out]; have := HR3.out; simpa using this, (by rw [HV.out]; intro h; simp at h), hbZ⟩
                      case measure => simp [intOf]; omega
                  case neg =>
                    obtain rfl : k2 = capv := by omega
                    have hoe : o.length = k2 := by omega
                    have HX3 := Lib.hid (show ReadsP wG (.slice (some ⟨bo, offo, none⟩) (o.length - k2) (k2 - k2)) (o.drop k2) from Or.inr ⟨_, _, _, by rw [List.length_drop], by rw [List.drop_eq_nil_of_le (by omega)]; exact RdP.nil _ _⟩)
                    clear hrd hA hBd
                    have hbal : ∀ W' o1, Below wG.heap.size wG W' → Below wG.heap.size wG (W'.alloc o1) := fun W' o1 h => h.alloc h.size o1
                    have hbdr : ∀ W', Below wG.heap.size wG W' → Below wG.heap.size wG W'.drew := fun W' h => h.drew
                    have HBA := Lib.hid hbal; have HBD := Lib.hid hbdr; clear hbal hbdr
                    go_wp2_with fail
                    go_region_held3 (fun w' => w'.cell? ⟨wE.heap.size, 0, none⟩ = some (.int .i64 px) ∧ w'.cell? ⟨wE.heap.size, 1, none⟩ = some (.int .i64 py)) (first | exact ⟨by assumption, by assumption⟩ | exact ⟨bcell (by (with_reducible repeat (first | exact Below.refl _ _ | exact HZ1.out | apply HBD.out | apply HBA.out))) lE e0, bcell (by (with_reducible repeat (first | exact Below.refl _ _ | exact HZ1.out | apply HBD.out | apply HBA.out))) lE e1⟩)
                      (first
                        | (refine step_app (by rfl) _ _ (by rfl) wG.heap.size (.slice (some ⟨_, 0, none⟩) 0 0) (.slice (some ⟨bo, offo, none⟩) k2 k2) [] (o.take k2) (by rfl) (by rfl) (by (with_reducible repeat (first | exact rowP_new _ _ _ (by simp) (by simp) | apply RowP.alloc' | apply RowP.drew'))) (by (with_reducible repeat (first | exact (HX1.out.below (by (with_reducible repeat (first | exact Below.refl _ _ | exact HZ1.out | apply HBD.out | apply HBA.out)))) | apply ReadsP.alloc' | apply ReadsP.drew'))) (by simp) (by first | (rw [List.length_take]; omega) | simp) (by (try simp) <;> omega) ?_; intro v1 w1 hown1 hb1 hg1; have hz1 : Below wG.heap.size wG w1 := Below.trans (by (with_reducible repeat (first | exact Below.refl _ _ | exact HZ1.out | apply HBD.out | apply HBA.out))) hb1; have HO1 := Lib.hid hown1; have HG1 := Lib.hid hg1; have n10 := bcell hz1 lE e0; have n11 := bcell hz1 lE e1; have hzz1 := hz1.size; have HZ1 := Lib.hid hz1; clear hown1 hb1 hg1 hz1)
                        | (refine step_app (by rfl) _ _ (by rfl) wG.heap.size v1 (.slice (some ⟨_, 0, none⟩) 1 1) _ [⟨px, py⟩] (by rfl) (by rfl) (by (with_reducible repeat (first | exact HO1.out | apply RowP.alloc' | apply RowP.drew'))) (by (with_reducible repeat (first | exact readsP_one _ _ _ _ (by simp) | apply ReadsP.alloc' | apply ReadsP.drew' | refine ReadsP.grown ?_ HG1.out (by simp [Value.ownBlock])))) (by (try simp) <;> omega) (by simp) (by first | exact hzz1 | ((try simp) <;> omega)) ?_; intro v2 w2 hown2 hb2 hg2; have hz2 : Below wG.heap.size wG w2 := Below.trans (by (with_reducible repeat (first | exact HZ1.out | apply HBD.out | apply HBA.out))) hb2; have HO2 := Lib.hid hown2; have n20 := bcell hz2 lE e0; have n21 := bcell hz2 lE e1; have hzz2 := hz2.size; have HZ2 := Lib.hid hz2; clear hown2 hb2 hg2 hz2)
                        | (refine step_app (by rfl) _ _ (by rfl) wG.heap.size v2 (.slice (some ⟨bo, offo, none⟩) (o.length - k2) (k2 - k2)) _ (o.drop k2) (by rfl) (by first | rfl | (simp [Act.eval, Array.getD]; omega)) (by (with_reducible repeat (first | exact HO2.out | apply RowP.alloc' | apply RowP.drew'))) (by (with_reducible repeat (first | exact (HX3.out.below (by (with_reducible repeat (first | exact HZ2.out | apply HBD.out | apply HBA.out)))) | apply ReadsP.alloc' | apply ReadsP.drew'))) (by (try simp) <;> omega) (by first | (rw [List.length_drop]; omega) | simp) hzz2 ?_; intro v3 w3 hown3 hb3 hg3; have hz3 : Below wG.heap.size wG w3 := Below.trans (by (with_reducible repeat (first | exact HZ2.out | apply HBD.out | apply HBA.out))) hb3; have HO3 := Lib.hid hown3; have n30 := bcell hz3 lE e0; have n31 := bcell hz3 lE e1; have HZ3 := Lib.hid hz3; clear hown3 hb3 hg3 hz3))
                    all_goals
                      have hrow3 := HO3.out.mono hBG
                      have HR3 := Lib.hid hrow3
                      have hbZ := hbI.trans (HZ3.out.mono hBG)
                      clear hrow3 HO3
                      go_wp2_with fail
                      go_roundw
                      case rel => exact ⟨k + 1, by omega, by go_num, by rw [HV.out]; have := HR3.out; simpa using this, (by rw [HV.out]; intro h; simp at h), hbZ⟩
                      case measure => simp [intOf]; omega

end Go.Proofs.Ytpnnmdkhkjenmaa
