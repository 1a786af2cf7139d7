/-
  Some texts of this proof in one: PlH PlI. Each part tells what it proves. By an AI agent.
-/
import Derived.Test.YtcionneopgdebaaGreatPlG
import Derived.Test.YtcionneopgdebaaGreatCeD
import Derived.Test.YtcionneopgdebaaGreatLaws
import Derived.Test.YtcionneopgdebaaGreatLineP
import Derived.Laws.BytesArg
import Derived.WalkSpells
import Derived.WalkLawsBesides
import Derived.Deep.RegionHeld3
import Derived.Lib.ItoaNum
import Derived.Lib.ItoaLen
import Derived.Lib.ItoaWalk
import Derived.Lib.AtoiTie
import Derived.Laws.Concat
import Derived.WalkSmall
import Derived.Lib.AppendIntMem
import Derived.Lib.LaidTab
import Derived.Deep.AppendLies
import Derived.Lib.SplitLaws
import Derived.Test.YtcionneopgdebaaGreatCeA
import Derived.Deep.DeepCutAuto

/-
  Rows of terms: slices of them; a term put into a polynomial: plain. By an AI agent.
-/
namespace Go.Proofs.YtcionneopgdebaaGreat
open Go.RowKit

/-- A term in a block of its own. -/
def TmO (w : World) (g : Nat) (r : Tm) : Prop := Own w g 73 [.int .i64 r.i, .int .i64 r.j, .int .i64 r.c]
theorem TmO.new (w : World) (a b c : Int) {g : Nat} (hg : g = w.heap.size) : TmO (w.alloc (.cells #[.int .i64 a, .int .i64 b, .int .i64 c] 73)) g ⟨a, b, c⟩ := by subst hg; exact Own.newA w _ _ rfl
theorem TmO.below {w w' : World} {g : Nat} {r : Tm} (h : TmO w g r) (hb : Below w.heap.size w w') : TmO w' g r := Own.belowAll h hb
theorem TmO.at {w : World} {g : Nat} {a b c : Int} (h : TmO w g ⟨a, b, c⟩) : w.cell? ⟨g, 0, none⟩ = some (.int .i64 a) ∧ w.cell? ⟨g, 1, none⟩ = some (.int .i64 b) ∧ w.cell? ⟨g, 2, none⟩ = some (.int .i64 c) := ⟨Own.cell? h rfl, Own.cell? h rfl, Own.cell? h rfl⟩
theorem TmO.fr {w : World} {g : Nat} {r : Tm} (h : TmO w g r) : w.frozen? ⟨g, 0, none⟩ = false ∧ w.frozen? ⟨g, 1, none⟩ = false ∧ w.frozen? ⟨g, 2, none⟩ = false := ⟨Own.frozen h 0, Own.frozen h 1, Own.frozen h 2⟩
theorem befT_dec (p q : Tm) : befT p q = decide (befP p q) := by
  unfold befT
  rw [Bool.eq_iff_iff]
  simp only [Bool.or_eq_true, Bool.and_eq_true, decide_eq_true_eq]
  rfl
theorem plBefore_d (p q : Tm) (w : World) : Calls Tryz.prog 50 #[tmV p, tmV q] w fun e w' => e = .returned (.bool (decide (befP p q))) ∧ Below w.heap.size w w' := by
  rw [← befT_dec]; exact plBefore_c p q w


/-- The address of a slice's part. -/
def adAt (ad : Option Addr) (k cap : Nat) : Option Addr := if cap = k then ad else ad.map (·.add (k * 3))
/-- What a slice of rays may look like. -/
def ST (ad : Option Addr) (n cap : Nat) : Prop := (ad = none ∧ n = 0 ∧ cap = 0) ∨ ((∃ b off, ad = some ⟨b, off, none⟩) ∧ n ≤ cap ∧ cap ≤ maxLen)
theorem ST.le {ad : Option Addr} {n cap : Nat} (h : ST ad n cap) : n ≤ cap := by
  rcases h with ⟨_, h1, h2⟩ | ⟨_, h1, _⟩ <;> omega
theorem add_plain (b off k : Nat) : (⟨b, off, none⟩ : Addr).add k = ⟨b, off + k, none⟩ := by
  unfold Addr.add
  split <;> simp_all
theorem ST.low {ad : Option Addr} {n cap k : Nat} (h : ST ad n cap) (hk : k ≤ n) : ST (adAt ad k cap) (n - k) (cap - k) := by
  rcases h with ⟨rfl, rfl, rfl⟩ | ⟨⟨b, off, rfl⟩, h1, h2⟩
  · exact Or.inl ⟨by unfold adAt; split <;> rfl, by omega, by omega⟩
  · refine Or.inr ⟨?_, by omega, by omega⟩
    unfold adAt
    split
    · exact ⟨_, _, rfl⟩
    · exact ⟨_, _, by rw [Option.map_some, add_plain]⟩
theorem RdT.low {w : World} {ad : Option Addr} {l : List Tm} {cap k : Nat} (h : RdT w ad l) (hs : ST ad l.length cap) (hk : k ≤ l.length) : RdT w (adAt ad k cap) (l.drop k) := by
  rcases hs with ⟨rfl, h1, _⟩ | ⟨⟨b, off, rfl⟩, h1, h2⟩
  · rw [List.drop_eq_nil_of_le (by omega)]
    exact RdT.nil _ _
  · unfold adAt
    split
    · rw [List.drop_eq_nil_of_le (by omega)]
      exact RdT.nil _ _
    · rw [Option.map_some, add_plain]
      exact (h.takeDrop k).2
theorem readsOfT {w : World} {ad : Option Addr} {l : List Tm} {cap n : Nat} (h : RdT w ad l) (hn : l.length = n) (hs : ST ad n cap) : ReadsT w (.slice ad n cap) l := by
  subst hn
  rcases hs with ⟨rfl, h1, rfl⟩ | ⟨⟨b, off, rfl⟩, h1, h2⟩
  · obtain rfl := List.length_eq_zero_iff.1 h1
    exact Or.inl ⟨rfl, rfl⟩
  · exact Or.inr ⟨b, off, cap, rfl, h⟩
theorem readsTakeT {w : World} {ad : Option Addr} {l : List Tm} {cap k : Nat} (h : RdT w ad l) (hs : ST ad l.length cap) (hk : k ≤ l.length) : ReadsT w (.slice ad k cap) (l.take k) := by
  have e : (l.take k).length = k := by rw [List.length_take]; omega
  rcases hs with ⟨rfl, h1, rfl⟩ | ⟨⟨b, off, rfl⟩, h1, h2⟩
  · obtain rfl := List.length_eq_zero_iff.1 h1
    obtain rfl : k = 0 := by simpa using hk
    exact Or.inl ⟨rfl, rfl⟩
  · exact Or.inr ⟨b, off, cap, by rw [e], (h.takeDrop k).1⟩
set_option maxRecDepth 100000 in
theorem sl_low (w' : World) (ad : Option Addr) (n cap k : Nat) (hk : k ≤ n) :
    (Instr.slice 24 (.slice ad n cap) (some (.int .i64 (k : Int))) none none).run Tryz.prog w' = .ok (.slice (adAt ad k cap) (n - k) (cap - k)) w' := by
  rw [run_slice_l w' _ _ _ _ Tryz.underlying24 _ _ (by omega) (by omega)]
  simp [go_sem, adAt]
set_option maxRecDepth 100000 in
theorem sl_high (w' : World) (ad : Option Addr) (n cap k : Nat) (hk : k ≤ n) (hs : ST ad n cap) :
    (Instr.slice 24 (.slice ad n cap) none (some (.int .i64 (k : Int))) none).run Tryz.prog w' = .ok (.slice ad k cap) w' := by
  rw [run_slice_h w' _ _ _ _ Tryz.underlying24 _ _ (by omega) (by have := hs.le; omega)]
  rcases hs with ⟨rfl, h1, rfl⟩ | ⟨⟨b, off, rfl⟩, h1, h2⟩
  · simp [go_sem]
  · simp [go_sem]

theorem putT_at {r : Tm} : ∀ {l : List Tm} {k : Nat}, k ≤ l.length → (∀ i, i < k → befP (l.getD i default) r) → (k < l.length → ¬ befP (l.getD k default) r) →
    putT l r = if k < l.length ∧ ¬ befP r (l.getD k default) then l.take k ++ ⟨r.i, r.j, min r.c (l.getD k default).c⟩ :: (l.drop k).drop 1 else l.take k ++ r :: l.drop k
  | [], k, hk, _, _ => by
    have : k = 0 := by simpa using hk
    subst this
    simp [putT]
  | q :: l, 0, _, _, h => by
    have h0 : ¬ befP q r := by simpa using h (by simp)
    rw [putT, if_neg h0]
    by_cases h1 : befP r q
    · rw [if_pos h1, if_neg (fun e => e.2 (by simpa using h1))]
      simp
    · rw [if_neg h1, if_pos ⟨by simp, by simpa using h1⟩]
      simp
  | q :: l, k + 1, hk, hlt, h => by
    have h0 : befP q r := by simpa using hlt 0 (by omega)
    have ih := putT_at (r := r) (l := l) (k := k) (by simpa using hk) (fun i hi => by simpa using hlt (i + 1) (by omega)) (fun hh => by simpa using h (by simpa using hh))
    rw [putT, if_pos h0, ih]
    by_cases hc : k < l.length ∧ ¬ befP r (l.getD k default)
    · rw [if_pos hc, if_pos (by simpa using hc)]
      simp
    · rw [if_neg hc, if_neg (by simpa using hc)]
      simp

end Go.Proofs.YtcionneopgdebaaGreat

/-
  A term put into a polynomial: the reference's. Printed by gen_plI.py.
-/
namespace Go.Proofs.YtcionneopgdebaaGreat
open Go.RowKit

theorem l1Least_z (a b m : Int) (hm : min a b = m) (w : World) :
    Calls Tryz.prog 91 #[.int .i64 a, .int .i64 b] w fun e w' => e = .returned (.int .i64 m) ∧ w' = w := by
  refine (l1Least_n a b w).mono ?_
  rintro e w' ⟨rfl, rfl⟩
  refine ⟨?_, rfl⟩
  rw [← hm]
  unfold leastZ
  split
  · rw [show min a b = a by omega]
  · rw [show min a b = b by omega]

set_option maxHeartbeats 3200000 in
set_option maxRecDepth 100000 in
theorem plPut_c (ad : Option Addr) (cap : Nat) (l : List Tm) (r : Tm) (w : World) (hr : RdT w ad l) (hs : ST ad l.length cap) (hl : l.length ≤ 50000) :
    Calls Tryz.prog 71 #[.slice ad l.length cap, tmV r] w fun e w' => ∃ v, e = .returned v ∧ RowT w' w.heap.size v (putT l r) ∧ Below w.heap.size w w' := by
  have HR := Lib.hid hr; clear hr
  have HS := Lib.hid hs; clear hs
  obtain ⟨px, py, pz⟩ := r
  obtain ⟨wB, hwB⟩ : ∃ x, w.alloc (.cells #[.int .i64 px, .int .i64 py, .int .i64 pz] 73) = x := ⟨_, rfl⟩
  have hEB : Below w.heap.size w wB := by rw [← hwB]; exact (Below.refl _ _).alloc (Nat.le_refl _) _
  have oB : TmO wB w.heap.size ⟨px, py, pz⟩ := by rw [← hwB]; exact TmO.new w px py pz rfl
  have HRB := Lib.hid (HR.out.below hEB)
  have CB : ∀ (p q : Tm) (w : World), Calls Tryz.prog 50 #[tmV p, tmV q] w fun e w' => e = .returned (.bool (decide (befP p q))) ∧ Below w.heap.size w w' := plBefore_d
  have HCB := Lib.hid CB; clear CB
  unfold tmV
  go_enter Tryz.func71, Tryz.ntmps71
  go_wp2_with fail
  try rw [hwB]
  clear hwB
  obtain ⟨gB, hgB⟩ : ∃ g, w.heap.size = g := ⟨_, rfl⟩
  rw [hgB] at oB ⊢
  have bl : gB < wB.heap.size := Own.lt oB
  go_loopw [5] (fun i wr => ∃ k2 : Nat, k2 ≤ l.length ∧ i = .int .i64 k2 ∧ (∀ i, i < k2 → befP (l.getD i default) ⟨px, py, pz⟩) ∧ Below wB.heap.size wB wr) (fun i _ => l.length - (intOf i).toNat)
  case atStart => exact ⟨0, Nat.zero_le _, rfl, fun i h => absurd h (by omega), Below.refl _ _⟩
  case round =>
    obtain ⟨wF, rfl⟩ : ∃ x : World, x = wr := ⟨_, rfl⟩
    obtain ⟨k2, hk2, rfl, hall, hbF⟩ := hrel
    have HALL := Lib.hid hall; clear hall
    have oF := oB.below hbF
    obtain ⟨e0, e1, e2⟩ := oF.at
    have HRF := Lib.hid (HRB.out.below hbF)
    have lF : gB < wF.heap.size := Own.lt oF
    obtain ⟨c, hc⟩ : ∃ c, (decide (k2 < l.length) && decide (befP (l.getD k2 default) ⟨px, py, pz⟩)) = c := ⟨_, rfl⟩
    have HCC := Lib.hid hc; clear hc
    go_upto_region 2 with fail
    go_cut [18] from 7 to 18 (fun s wc => s = .bool c ∧ Below wF.heap.size wF wc)
    case first =>
      by_cases hle : k2 < l.length
      case neg =>
        have g1 : decide ((k2 : Int) < (l.length : Int)) = false := decide_eq_false (by omega)
        have g2 : decide (k2 < l.length) = false := decide_eq_false hle
        have HLE := Lib.hid hle; clear hle
        go_wp2_with fail
        go_quiet (fail)
        go_wp2_with fail
        go_meet
        exact ⟨by rw [← HCC.out, decide_eq_false HLE.out, Bool.false_and], bdrewN (Below.refl _ _) nq⟩
      case pos =>
        have g1 : decide ((k2 : Int) < (l.length : Int)) = true := decide_eq_true (by omega)
        have g2 : decide (k2 < l.length) = true := decide_eq_true hle
        have hrd := HRF.out
        obtain ⟨bo, offo, rfl, hbo⟩ := hrd.some (by omega)
        obtain ⟨p1, p2, p3⟩ := hrd.at hle
        have x1 : (0 : Int) ≤ (k2 : Int) := by omega
        have x2 : (k2 : Int) < (l.length : Int) := by omega
        have hcv : decide (befP (l.getD k2 default) ⟨px, py, pz⟩) = c := by have := HCC.out; rwa [decide_eq_true hle, Bool.true_and] at this
        obtain ⟨pp, hpp⟩ : ∃ x, l.getD k2 default = x := ⟨_, rfl⟩
        rw [hpp] at p1 p2 p3 hcv
        have ct := HCB.out pp ⟨px, py, pz⟩
        rw [hcv] at ct
        unfold tmV at ct
        have CT := Lib.hid ct; clear ct hpp hcv hrd
        go_wp2_with fail
        go_region_held3 (fun w' => (w'.cell? ⟨bo, offo + k2 * 3, none⟩ = some (.int .i64 pp.i) ∧ w'.cell? ⟨bo, offo + k2 * 3 + 1, none⟩ = some (.int .i64 pp.j) ∧ w'.cell? ⟨bo, offo + k2 * 3 + 2, none⟩ = some (.int .i64 pp.c)) ∧ w'.cell? ⟨gB, 0, none⟩ = some (.int .i64 px) ∧ w'.cell? ⟨gB, 1, none⟩ = some (.int .i64 py) ∧ w'.cell? ⟨gB, 2, none⟩ = some (.int .i64 pz)) (exact ⟨⟨by assumption, by assumption, by assumption⟩, by assumption, by assumption, by assumption⟩)
          (first
            | (go_at_call 50; (with_reducible refine (CT.out _).mono ?_); rintro e W1 ⟨rfl, hw1⟩; have m1 := bcell hw1 hbo p1; have m2 := bcell hw1 hbo p2; have m3 := bcell hw1 hbo p3; have m5 := bcell hw1 lF e0; have m6 := bcell hw1 lF e1; have m7 := bcell hw1 lF e2))
        go_wp2_with fail
        go_meet
        exact ⟨rfl, (Below.refl _ _).drew.trans hw1⟩
    case rest =>
      obtain ⟨rfl, hbc⟩ := hcut
      obtain ⟨wH, rfl⟩ : ∃ x : World, x = wc := ⟨_, rfl⟩
      have HRG := Lib.hid (HRF.out.below hbc)
      have hbG := ball hbF hbc
      have oH := oF.below hbc
      clear hbc e0 e1 e2 HRF hbF HRB oF oB
      cases c
      case true =>
        have hh : k2 < l.length ∧ befP (l.getD k2 default) ⟨px, py, pz⟩ := by have := HCC.out; rw [Bool.and_eq_true_iff] at this; exact ⟨of_decide_eq_true this.1, of_decide_eq_true this.2⟩
        have HH := Lib.hid hh.2
        have hk3 := hh.1
        clear hh HCC
        go_wp2_with fail
        go_roundw
        case rel => exact ⟨k2 + 1, by omega, by go_num, fun i hi => by
          rcases Nat.lt_or_ge i k2 with h | h
          · exact HALL.out i h
          · obtain rfl : i = k2 := by omega
            exact HH.out, hbG⟩
        case measure => simp [intOf]; omega
      case false =>
        have hstop : k2 < l.length → ¬ befP (l.getD k2 default) ⟨px, py, pz⟩ := fun h hb => by have := HCC.out; rw [decide_eq_true h, decide_eq_true hb] at this; cases this
        have hput := putT_at hk2 HALL.out hstop
        have HP := Lib.hid hput; clear hput hstop HCC HALL
        obtain ⟨d, hd⟩ : ∃ d, (decide (k2 < l.length) && !decide (befP ⟨px, py, pz⟩ (l.getD k2 default))) = d := ⟨_, rfl⟩
        have HD := Lib.hid hd; clear hd
        have hsl := fun w' => sl_low w' ad l.length cap k2 hk2
        have hbH := ball hEB hbG
        clear hbG hEB
        have hdl : (l.drop k2).length = l.length - k2 := List.length_drop
        have HRK := Lib.hid (HRG.out.low HS.out hk2)
        have HSK := Lib.hid (HS.out.low hk2)
        have HLK := Lib.hid (fun (u : World) (h : RdT u ad l) => RdT.low h HS.out hk2)
        obtain ⟨ad1, had1⟩ : ∃ x, adAt ad k2 cap = x := ⟨_, rfl⟩
        rw [had1] at hsl HRK HSK HLK
        obtain ⟨n1, hn1⟩ : ∃ x, l.length - k2 = x := ⟨_, rfl⟩
        obtain ⟨c1, hc1⟩ : ∃ x, cap - k2 = x := ⟨_, rfl⟩
        rw [hn1, hc1] at hsl HSK
        rw [hn1] at hdl
        have HDL := Lib.hid hdl; clear hdl
        have HN1 := Lib.hid hn1; clear hn1 hc1 had1
        go_upto_region 5 with fail
        go_cut [34] from 24 to 34 (fun s wc => s = .bool d ∧ Below wH.heap.size wH wc)
        case first =>
          by_cases hle : 0 < n1
          case neg =>
            have g1 : decide ((0 : Int) < (n1 : Int)) = false := decide_eq_false (by omega)
            have g2 : decide (0 < n1) = false := decide_eq_false hle
            have HLE := Lib.hid hle; clear hle
            clear hsl
            go_wp2_with fail
            go_quiet (fail)
            go_wp2_with fail
            go_meet
            exact ⟨by rw [← HD.out, decide_eq_false (by have := HLE.out; have := HN1.out; omega), Bool.false_and], bdrewN (Below.refl _ _) nq⟩
          case pos =>
            have g1 : decide ((0 : Int) < (n1 : Int)) = true := decide_eq_true (by omega)
            have g2 : decide (0 < n1) = true := decide_eq_true hle
            have g3 : (0 : Int) < (n1 : Int) := by omega
            have hrd := HRK.out
            have hk4 : k2 < l.length := by have := HN1.out; omega
            have hle' : 0 < (l.drop k2).length := by rw [HDL.out]; exact hle
            obtain ⟨bo, offo, rfl, hbo⟩ := hrd.some hle'
            obtain ⟨p1, p2, p3⟩ := hrd.at hle'
            have edr : (l.drop k2).getD 0 default = l.getD k2 default := by simp [List.getD_eq_getElem?_getD]
            rw [edr] at p1 p2 p3
            simp only [Nat.zero_mul, Nat.add_zero] at p1 p2 p3
            have hdv : (!decide (befP ⟨px, py, pz⟩ (l.getD k2 default))) = d := by have := HD.out; rwa [decide_eq_true hk4, Bool.true_and] at this
            obtain ⟨pp, hpp⟩ : ∃ x, l.getD k2 default = x := ⟨_, rfl⟩
            rw [hpp] at p1 p2 p3 hdv
            have ct := HCB.out ⟨px, py, pz⟩ pp
            obtain ⟨u, hu⟩ : ∃ u, decide (befP ⟨px, py, pz⟩ pp) = u := ⟨_, rfl⟩
            rw [hu] at ct hdv
            unfold tmV at ct
            have CT := Lib.hid ct
            have HDV := Lib.hid hdv
            clear ct hpp hdv hrd hu edr hle' hk4 hsl
            obtain ⟨e0, e1, e2⟩ := oH.at
            have lF : gB < wH.heap.size := Own.lt oH
            go_wp2_with fail
            go_region_held3 (fun w' => (w'.cell? ⟨bo, offo, none⟩ = some (.int .i64 pp.i) ∧ w'.cell? ⟨bo, offo + 1, none⟩ = some (.int .i64 pp.j) ∧ w'.cell? ⟨bo, offo + 2, none⟩ = some (.int .i64 pp.c)) ∧ w'.cell? ⟨gB, 0, none⟩ = some (.int .i64 px) ∧ w'.cell? ⟨gB, 1, none⟩ = some (.int .i64 py) ∧ w'.cell? ⟨gB, 2, none⟩ = some (.int .i64 pz)) (exact ⟨⟨by assumption, by assumption, by assumption⟩, by assumption, by assumption, by assumption⟩)
              (first
                | (go_at_call 50; (with_reducible refine (CT.out _).mono ?_); rintro e W1 ⟨rfl, hw1⟩; have m1 := bcell hw1 hbo p1; have m2 := bcell hw1 hbo p2; have m3 := bcell hw1 hbo p3; have m5 := bcell hw1 lF e0; have m6 := bcell hw1 lF e1; have m7 := bcell hw1 lF e2))
            go_wp2_with fail
            go_meet
            exact ⟨by rw [HDV.out], (Below.refl _ _).drew.trans hw1⟩
        case rest =>
          obtain ⟨rfl, hbc⟩ := hcut
          obtain ⟨wG, rfl⟩ : ∃ x : World, x = wc := ⟨_, rfl⟩
          have HRI := Lib.hid (HRG.out.below hbc)
          have HRL := Lib.hid (HRK.out.below hbc)
          have oG := oH.below hbc
          have hbI := hbH.trans (hbc.mono hbH.size)
          have hBG := hbI.size
          clear hbc HRG HRK hbH oH hsl
          have hsh := fun w' => sl_high w' ad l.length cap k2 hk2 HS.out
          cases d
          case false =>
            have hv : putT l ⟨px, py, pz⟩ = l.take k2 ++ ⟨px, py, pz⟩ :: l.drop k2 := by
              have h := HD.out
              have h2 := HP.out
              rwa [if_neg (fun hh => by rw [decide_eq_true hh.1, decide_eq_false hh.2] at h; exact absurd h (by simp))] at h2
            have HV := Lib.hid hv; clear hv HD HP
            have HX1 := Lib.hid (readsTakeT HRI.out HS.out hk2)
            have HX3 := Lib.hid (readsOfT HRL.out HDL.out HSK.out)
            obtain ⟨e0, e1, e2⟩ := oG.at
            have lE : gB < wG.heap.size := Own.lt oG
            have hBG' : w.heap.size ≤ wG.heap.size := hBG
            rw [hgB] at hBG
            have hbal : ∀ W' o1, Below wG.heap.size wG W' → Below wG.heap.size wG (W'.alloc o1) := fun W' o1 h => h.alloc h.size o1
            have hbdr : ∀ W', Below wG.heap.size wG W' → Below wG.heap.size wG W'.drew := fun W' h => h.drew
            have HBA := Lib.hid hbal; have HBD := Lib.hid hbdr; clear hbal hbdr
            go_wp2_with fail
            go_region_held3 (fun w' => w'.cell? ⟨gB, 0, none⟩ = some (.int .i64 px) ∧ w'.cell? ⟨gB, 1, none⟩ = some (.int .i64 py) ∧ w'.cell? ⟨gB, 2, none⟩ = some (.int .i64 (pz))) (first | exact ⟨by assumption, by assumption, by assumption⟩ | exact ⟨bcell (by (with_reducible repeat (first | exact Below.refl _ _ | exact HZ1.out | apply HBD.out | apply HBA.out))) lE e0, bcell (by (with_reducible repeat (first | exact Below.refl _ _ | exact HZ1.out | apply HBD.out | apply HBA.out))) lE e1, bcell (by (with_reducible repeat (first | exact Below.refl _ _ | exact HZ1.out | apply HBD.out | apply HBA.out))) lE e2⟩)
              (first
                | (refine step_appT (by rfl) _ _ (by rfl) wG.heap.size (.slice (some ⟨_, 0, none⟩) 0 0) (.slice ad k2 cap) [] (l.take k2) (by rfl) (by rfl) (by (with_reducible repeat (first | exact rowY_new _ _ _ (by simp) (by simp) | apply RowT.alloc' | apply RowT.drew'))) (by (with_reducible repeat (first | exact (HX1.out.below (by (with_reducible repeat (first | exact Below.refl _ _ | exact HZ1.out | apply HBD.out | apply HBA.out)))) | apply ReadsT.alloc' | apply ReadsT.drew'))) (by simp) (by first | (rw [List.length_take]; omega) | simp) (by (try simp) <;> omega) ?_; intro v1 w1 hown1 hb1 hg1; have hz1 : Below wG.heap.size wG w1 := Below.trans (by (with_reducible repeat (first | exact Below.refl _ _ | exact HZ1.out | apply HBD.out | apply HBA.out))) hb1; have HO1 := Lib.hid hown1; have HG1 := Lib.hid hg1; have n10 := bcell hz1 lE e0; have n11 := bcell hz1 lE e1; have n12 := bcell hz1 lE e2; have hzz1 := hz1.size; have HZ1 := Lib.hid hz1; clear hown1 hb1 hg1 hz1)
                | (refine step_appT (by rfl) _ _ (by rfl) wG.heap.size v1 (.slice (some ⟨_, 0, none⟩) 1 1) _ [⟨px, py, pz⟩] (by rfl) (by rfl) (by (with_reducible repeat (first | exact HO1.out | apply RowT.alloc' | apply RowT.drew'))) (by (with_reducible repeat (first | exact readsY_one _ _ _ _ _ (by simp) | apply ReadsT.alloc' | apply ReadsT.drew' | refine ReadsT.grown ?_ HG1.out (by simp [Value.ownBlock])))) (by (try simp) <;> omega) (by simp) (by first | exact hzz1 | ((try simp) <;> omega)) ?_; intro v2 w2 hown2 hb2 hg2; have hz2 : Below wG.heap.size wG w2 := Below.trans (by (with_reducible repeat (first | exact HZ1.out | apply HBD.out | apply HBA.out))) hb2; have HO2 := Lib.hid hown2; have n20 := bcell hz2 lE e0; have n21 := bcell hz2 lE e1; have n22 := bcell hz2 lE e2; have hzz2 := hz2.size; have HZ2 := Lib.hid hz2; clear hown2 hb2 hg2 hz2)
                | (refine step_appT (by rfl) _ _ (by rfl) wG.heap.size v2 (.slice (ad1) (n1) (c1)) _ (l.drop k2) (by rfl) (by rfl) (by (with_reducible repeat (first | exact HO2.out | apply RowT.alloc' | apply RowT.drew'))) (by (with_reducible repeat (first | exact (HX3.out.below (by (with_reducible repeat (first | exact HZ2.out | apply HBD.out | apply HBA.out)))) | apply ReadsT.alloc' | apply ReadsT.drew'))) (by (try simp) <;> omega) (by (simp only [List.length_drop]; omega)) hzz2 ?_; intro v3 w3 hown3 hb3 hg3; have hz3 : Below wG.heap.size wG w3 := Below.trans (by (with_reducible repeat (first | exact HZ2.out | apply HBD.out | apply HBA.out))) hb3; have HO3 := Lib.hid hown3; have n30 := bcell hz3 lE e0; have n31 := bcell hz3 lE e1; have n32 := bcell hz3 lE e2; have HZ3 := Lib.hid hz3; clear hown3 hb3 hg3 hz3))
            all_goals
              have hrow3 := HO3.out.mono hBG'
              have HR3 := Lib.hid hrow3
              have hbZ := hbI.trans (HZ3.out.mono hBG')
              clear hrow3 HO3
              go_wp2_with fail
              go_ret
              exact ⟨_, rfl, by rw [HV.out]; have := HR3.out; simpa using this, hbZ⟩
          case true =>
            have hd2 : k2 < l.length ∧ ¬ befP ⟨px, py, pz⟩ (l.getD k2 default) := by
              have h := HD.out
              rw [Bool.and_eq_true_iff] at h
              exact ⟨of_decide_eq_true h.1, fun hb => by have := h.2; rw [decide_eq_true hb] at this; cases this⟩
            have hv : putT l ⟨px, py, pz⟩ = l.take k2 ++ ⟨px, py, min pz (l.getD k2 default).c⟩ :: (l.drop k2).drop 1 := by
              have h2 := HP.out
              rwa [if_pos hd2] at h2
            have hk4 := hd2.1
            clear hd2 HD HP
            have h1n : 1 ≤ n1 := by have := HN1.out; omega
            have hle' : 0 < (l.drop k2).length := by rw [HDL.out]; exact h1n
            have hdl3 : ((l.drop k2).drop 1).length = n1 - 1 := by rw [List.length_drop, HDL.out]
            have hsl2 : ∀ w', (Instr.slice 24 (.slice ad1 n1 c1) (some (.int .i64 1)) none none).run Tryz.prog w' = .ok (.slice (adAt ad1 1 c1) (n1 - 1) (c1 - 1)) w' := fun w' => sl_low w' ad1 n1 c1 1 h1n
            have HSK3 := Lib.hid (HSK.out.low h1n)
            have HLOW := Lib.hid (fun w (h : RdT w ad1 (l.drop k2)) => RdT.low (cap := c1) h (by rw [HDL.out]; exact HSK.out) (show 1 ≤ (l.drop k2).length by rw [HDL.out]; exact h1n))
            obtain ⟨ad3, had3⟩ : ∃ x, adAt ad1 1 c1 = x := ⟨_, rfl⟩
            obtain ⟨n3, hn3⟩ : ∃ x, n1 - 1 = x := ⟨_, rfl⟩
            obtain ⟨c3, hc3⟩ : ∃ x, c1 - 1 = x := ⟨_, rfl⟩
            rw [had3, hn3, hc3] at hsl2 HSK3
            rw [had3] at HLOW
            rw [hn3] at hdl3
            have HDL3 := Lib.hid hdl3
            clear hn3 hc3 had3 hdl3
            obtain ⟨bo, offo, rfl, hbo⟩ := HRL.out.some hle'
            obtain ⟨p1, p2, p3⟩ := HRL.out.at hle'
            have edr : (l.drop k2).getD 0 default = l.getD k2 default := by simp [List.getD_eq_getElem?_getD]
            rw [edr] at p1 p2 p3
            simp only [Nat.zero_mul, Nat.add_zero] at p1 p2 p3
            clear edr hle'
            generalize hpp : (l.getD k2 default) = pp at p1 p2 p3 hv
            clear hpp
            obtain ⟨mz, hmz⟩ : ∃ x, min pz pp.c = x := ⟨_, rfl⟩
            rw [hmz] at hv
            have HV := Lib.hid hv; clear hv
            have cL := Lib.hid (fun w => l1Least_z pz pp.c mz hmz w)
            clear hmz
            have g3 : (0 : Int) < (n1 : Int) := by omega
            have g4 : 0 < n1 := by omega
            obtain ⟨e0, e1, e2⟩ := oG.at
            obtain ⟨f0, f1, f2⟩ := oG.fr
            go_wp2_with fail
            go_still_tail 8, (by kernel_rfl)
            still_call (cL.out _)
            repeat still_step
            refine wpStill_nil ?_
            change wpList _ _ _ _ _ wG.drew
            have o2 : TmO wG.drew _ _ := oG
            have hb2 := hbI.drew
            obtain ⟨w2, hw2⟩ : ∃ x, wG.drew = x := ⟨_, rfl⟩
            rw [hw2] at o2 hb2 ⊢
            clear hw2 e0 e1 e2 f0 f1 f2 p1 p2 p3 oG HRI hbI hBG
            obtain ⟨e0, e1, e2⟩ := o2.at
            obtain ⟨f0, f1, f2⟩ := o2.fr
            go_upto_region 7 with fail
            have oW : TmO (w2.setCell ⟨gB, 2, none⟩ (.int .i64 (mz))) gB ⟨px, py, mz⟩ := Own.set o2 2 (.int .i64 (mz))
            have hbI := bchg hb2 (Chg.set gB 2 w2 (.int .i64 (mz))) (Nat.le_of_eq hgB) hb2.size
            clear HRL o2 hb2 e0 e1 e2 f0 f1 f2
            generalize w2.setCell ⟨gB, 2, none⟩ (.int .i64 (mz)) = wG at oW hbI ⊢
            have HX1 := Lib.hid (readsTakeT (HR.out.below hbI) HS.out hk2)
            have HX3 := Lib.hid (readsOfT (HLOW.out _ (HLK.out _ (HR.out.below hbI))) HDL3.out HSK3.out)
            obtain ⟨e0, e1, e2⟩ := oW.at
            have lE : gB < wG.heap.size := Own.lt oW
            have hBG' : w.heap.size ≤ wG.heap.size := hbI.size
            have hBG := hBG'
            rw [hgB] at hBG
            have hbal : ∀ W' o1, Below wG.heap.size wG W' → Below wG.heap.size wG (W'.alloc o1) := fun W' o1 h => h.alloc h.size o1
            have hbdr : ∀ W', Below wG.heap.size wG W' → Below wG.heap.size wG W'.drew := fun W' h => h.drew
            have HBA := Lib.hid hbal; have HBD := Lib.hid hbdr; clear hbal hbdr
            go_wp2_with fail
            go_region_held3 (fun w' => w'.cell? ⟨gB, 0, none⟩ = some (.int .i64 px) ∧ w'.cell? ⟨gB, 1, none⟩ = some (.int .i64 py) ∧ w'.cell? ⟨gB, 2, none⟩ = some (.int .i64 (mz))) (first | exact ⟨by assumption, by assumption, by assumption⟩ | exact ⟨bcell (by (with_reducible repeat (first | exact Below.refl _ _ | exact HZ1.out | apply HBD.out | apply HBA.out))) lE e0, bcell (by (with_reducible repeat (first | exact Below.refl _ _ | exact HZ1.out | apply HBD.out | apply HBA.out))) lE e1, bcell (by (with_reducible repeat (first | exact Below.refl _ _ | exact HZ1.out | apply HBD.out | apply HBA.out))) lE e2⟩)
              (first
                | (refine step_appT (by rfl) _ _ (by rfl) wG.heap.size (.slice (some ⟨_, 0, none⟩) 0 0) (.slice ad k2 cap) [] (l.take k2) (by rfl) (by rfl) (by (with_reducible repeat (first | exact rowY_new _ _ _ (by simp) (by simp) | apply RowT.alloc' | apply RowT.drew'))) (by (with_reducible repeat (first | exact (HX1.out.below (by (with_reducible repeat (first | exact Below.refl _ _ | exact HZ1.out | apply HBD.out | apply HBA.out)))) | apply ReadsT.alloc' | apply ReadsT.drew'))) (by simp) (by first | (rw [List.length_take]; omega) | simp) (by (try simp) <;> omega) ?_; intro v1 w1 hown1 hb1 hg1; have hz1 : Below wG.heap.size wG w1 := Below.trans (by (with_reducible repeat (first | exact Below.refl _ _ | exact HZ1.out | apply HBD.out | apply HBA.out))) hb1; have HO1 := Lib.hid hown1; have HG1 := Lib.hid hg1; have n10 := bcell hz1 lE e0; have n11 := bcell hz1 lE e1; have n12 := bcell hz1 lE e2; have hzz1 := hz1.size; have HZ1 := Lib.hid hz1; clear hown1 hb1 hg1 hz1)
                | (refine step_appT (by rfl) _ _ (by rfl) wG.heap.size v1 (.slice (some ⟨_, 0, none⟩) 1 1) _ [⟨px, py, mz⟩] (by rfl) (by rfl) (by (with_reducible repeat (first | exact HO1.out | apply RowT.alloc' | apply RowT.drew'))) (by (with_reducible repeat (first | exact readsY_one _ _ _ _ _ (by simp) | apply ReadsT.alloc' | apply ReadsT.drew' | refine ReadsT.grown ?_ HG1.out (by simp [Value.ownBlock])))) (by (try simp) <;> omega) (by simp) (by first | exact hzz1 | ((try simp) <;> omega)) ?_; intro v2 w2 hown2 hb2 hg2; have hz2 : Below wG.heap.size wG w2 := Below.trans (by (with_reducible repeat (first | exact HZ1.out | apply HBD.out | apply HBA.out))) hb2; have HO2 := Lib.hid hown2; have n20 := bcell hz2 lE e0; have n21 := bcell hz2 lE e1; have n22 := bcell hz2 lE e2; have hzz2 := hz2.size; have HZ2 := Lib.hid hz2; clear hown2 hb2 hg2 hz2)
                | (refine step_appT (by rfl) _ _ (by rfl) wG.heap.size v2 (.slice (ad3) (n3) (c3)) _ ((l.drop k2).drop 1) (by rfl) (by rfl) (by (with_reducible repeat (first | exact HO2.out | apply RowT.alloc' | apply RowT.drew'))) (by (with_reducible repeat (first | exact (HX3.out.below (by (with_reducible repeat (first | exact HZ2.out | apply HBD.out | apply HBA.out)))) | apply ReadsT.alloc' | apply ReadsT.drew'))) (by (try simp) <;> omega) (by (simp only [List.length_drop]; omega)) hzz2 ?_; intro v3 w3 hown3 hb3 hg3; have hz3 : Below wG.heap.size wG w3 := Below.trans (by (with_reducible repeat (first | exact HZ2.out | apply HBD.out | apply HBA.out))) hb3; have HO3 := Lib.hid hown3; have n30 := bcell hz3 lE e0; have n31 := bcell hz3 lE e1; have n32 := bcell hz3 lE e2; have HZ3 := Lib.hid hz3; clear hown3 hb3 hg3 hz3))
            all_goals
              have hrow3 := HO3.out.mono hBG'
              have HR3 := Lib.hid hrow3
              have hbZ := hbI.trans (HZ3.out.mono hBG')
              clear hrow3 HO3
              go_wp2_with fail
              go_ret
              exact ⟨_, rfl, by rw [HV.out]; have := HR3.out; simpa using this, hbZ⟩

end Go.Proofs.YtcionneopgdebaaGreat
