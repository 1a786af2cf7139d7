/-
  The fire: the reference's rdBurnt.
-/
import Derived.Test.YtmhmdbmiimpbnaaGame
import Derived.Deep.LoopGhost
import Derived.Deep.DeepCutAuto
namespace Go.Proofs.Ytmhmdbmiimpbnaa
open Go.RowKit

/-! ### Rising lists: sums and lists chosen -/
theorem sm_head (k : Nat) (f : Nat → Int) : sm (k + 1) f = f 0 + sm k fun j => f (j + 1) := by
  induction k with
  | zero => simp [sm]
  | succ k ih => rw [sm, ih]; simp only [sm]; omega
theorem sm_list (f : Nat → Int) : ∀ {xs : List Int} {lo : Int} {N : Nat}, 0 ≤ lo → Ris lo N xs → sm xs.length (fun j => f (xs.getD j 0).toNat) = sm N fun u => if (u : Int) ∈ xs then f u else 0
  | [], lo, N, _, _ => by rw [sm_congr (N := N) (g := fun _ => 0) (fun i _ => if_neg (by simp)), sm_zero]; rfl
  | x :: t, lo, N, h0, ⟨h1, h2, h3⟩ => by
    obtain ⟨X, rfl⟩ : ∃ X : Nat, x = X := ⟨x.toNat, by omega⟩
    have ih := sm_list f (xs := t) (N := N) (by omega) h3
    rw [List.length_cons, sm_head]
    simp only [List.getD_cons_zero, List.getD_cons_succ, Int.toNat_natCast]
    rw [ih]
    have : sm N (fun u => if (u : Int) ∈ (X : Int) :: t then f u else 0) = sm N (fun u => (if u = X then f X else 0) + if (u : Int) ∈ t then f u else 0) := sm_congr fun u _ => by
      by_cases e : u = X
      · subst e
        rw [if_pos List.mem_cons_self, if_pos rfl, if_neg (fun hm => by have := h3.bound _ hm; omega)]; omega
      · rw [if_neg e]
        by_cases hm : (u : Int) ∈ t
        · rw [if_pos (List.mem_cons_of_mem _ hm), if_pos hm]; omega
        · rw [if_neg hm, if_neg (fun h => by rcases List.mem_cons.1 h with q | q; omega; exact hm q)]; omega
    rw [this, sm_add, sm_one, if_pos (by omega)]
theorem ris_ext : ∀ {xs ys : List Int} {lo lo' hi hi' : Int}, Ris lo hi xs → Ris lo' hi' ys → (∀ y, y ∈ xs ↔ y ∈ ys) → xs = ys
  | [], [], _, _, _, _, _, _, _ => rfl
  | [], y :: t, _, _, _, _, _, _, h => absurd ((h y).2 List.mem_cons_self) (by simp)
  | x :: s, [], _, _, _, _, _, _, h => absurd ((h x).1 List.mem_cons_self) (by simp)
  | x :: s, y :: t, _, _, _, _, ⟨a1, a2, a3⟩, ⟨b1, b2, b3⟩, h => by
    have e : x = y := by
      rcases List.mem_cons.1 ((h x).1 List.mem_cons_self) with q | q
      · exact q
      · rcases List.mem_cons.1 ((h y).2 List.mem_cons_self) with q' | q'
        · exact q'.symm
        · have := b3.bound _ q; have := a3.bound _ q'; omega
    subst e
    have ht := ris_ext a3 b3 fun z => by
      constructor
      · intro hz
        have := a3.bound _ hz
        rcases List.mem_cons.1 ((h z).1 (List.mem_cons_of_mem _ hz)) with q | q
        · omega
        · exact q
      · intro hz
        have := b3.bound _ hz
        rcases List.mem_cons.1 ((h z).2 (List.mem_cons_of_mem _ hz)) with q | q
        · omega
        · exact q
    rw [ht]
theorem selF_mem {k : Nat} {p : Nat → Bool} {y : Int} : y ∈ selF k p ↔ ∃ v : Nat, y = v ∧ v < k ∧ p v = true := by
  simp only [selF, List.mem_map, List.mem_filter, List.mem_range]
  exact ⟨fun ⟨v, ⟨h1, h2⟩, e⟩ => ⟨v, e.symm, h1, h2⟩, fun ⟨v, e, h1, h2⟩ => ⟨v, ⟨h1, h2⟩, e.symm⟩⟩
theorem ris_snoc : ∀ {xs : List Int} {lo hi z : Int}, Ris lo hi xs → hi ≤ z → Ris lo (z + 1) (xs ++ [z])
  | [], lo, hi, z, h, hz => by simp only [Ris, List.nil_append] at h ⊢; omega
  | x :: t, lo, hi, z, ⟨h1, h2, h3⟩, hz => ⟨h1, by omega, ris_snoc h3 hz⟩
theorem ris_up : ∀ {xs : List Int} {lo hi hi' : Int}, Ris lo hi xs → hi ≤ hi' → Ris lo hi' xs
  | [], _, _, _, h, hz => by simp only [Ris] at h ⊢; omega
  | x :: t, lo, hi, _, ⟨h1, h2, h3⟩, hz => ⟨h1, by omega, ris_up h3 hz⟩
theorem selF_ris (p : Nat → Bool) : ∀ k : Nat, Ris 0 k (selF k p)
  | 0 => by simp [selF_zero, Ris]
  | k + 1 => by
    cases h : p k
    · rw [selF_miss h]; exact ris_up (selF_ris p k) (by omega)
    · rw [selF_hit h]; have := ris_snoc (selF_ris p k) (Int.le_refl (k : Int)); simpa using this
theorem selF_of {xs : List Int} {N : Nat} {p : Nat → Bool} (h : Ris 0 N xs) (hm : ∀ v, v < N → ((v : Int) ∈ xs ↔ p v = true)) : xs = selF N p := ris_ext h (selF_ris p N) fun y => by
  rw [selF_mem]
  constructor
  · intro hy
    have := h.bound _ hy
    exact ⟨y.toNat, by omega, by omega, (hm _ (by omega)).1 (by rw [Int.toNat_of_nonneg this.1]; exact hy)⟩
  · rintro ⟨v, rfl, hv, hp⟩
    exact (hm v hv).2 hp
theorem selF_congr {k : Nat} {p p' : Nat → Bool} (h : ∀ v, v < k → p v = p' v) : selF k p = selF k p' := by
  unfold selF
  congr 1
  exact List.filter_congr fun v hv => h v (by simpa using hv)

/-- The reference's list of the burnt on its way. -/
structure BuS (N : Nat) (bet : Nat → Nat → Int) (c : Nat → Int) (q : Nat) (w wr : World) (v : Value) (xs : List Int) : Prop where
  own : ∃ g cap, v = .slice (some ⟨g, 0, none⟩) xs.length cap ∧ xs.length ≤ cap ∧ w.heap.size ≤ g ∧ Own wr g 3 (ints xs)
  ris : Ris 0 N xs
  qin : (q : Int) ∈ xs
  burn : ∀ u, u < N → (u : Int) ∈ xs → burnB N bet c q u = true
theorem BuS.below {N : Nat} {bet : Nat → Nat → Int} {c : Nat → Int} {q : Nat} {w wr w' : World} {v : Value} {xs : List Int} (h : BuS N bet c q w wr v xs) (hb : Below wr.heap.size wr w') : BuS N bet c q w w' v xs := by
  obtain ⟨⟨g, cap, e, h1, h2, h3⟩, a, b, d⟩ := h
  exact ⟨⟨g, cap, e, h1, h2, h3.belowAll hb⟩, a, b, d⟩
/-- No vertex up to k is still to burn. -/
def Shut (N : Nat) (bet : Nat → Nat → Int) (c : Nat → Int) (xs : List Int) (k : Nat) : Prop := ∀ v, v < k → c v < sm N (fun u => if (u : Int) ∈ xs then bet v u else 0) → (v : Int) ∈ xs
theorem sm_mem_dec {N : Nat} {xs : List Int} (f : Nat → Int) : sm N (fun u => if (u : Int) ∈ xs then f u else 0) = sm N (fun u => if decide ((u : Int) ∈ xs) = true then f u else 0) := sm_congr fun u _ => by simp
theorem BuS.end {N : Nat} {bet : Nat → Nat → Int} {c : Nat → Int} {q : Nat} {w wr : World} {v : Value} {xs : List Int} (h : BuS N bet c q w wr v xs) (hc : Shut N bet c xs N) : xs = selF N (burnB N bet c q) := selF_of h.ris fun u hu =>
  ⟨h.burn u hu, fun hb => by
    have hm := burn_marks (M := fun u => decide ((u : Int) ∈ xs)) (decide_eq_true h.qin) (fun u hu hm => h.burn u hu (of_decide_eq_true hm)) (fun v hv hl => decide_eq_true (hc v hv (by rw [sm_mem_dec]; exact hl))) hu
    exact of_decide_eq_true (hm.trans hb)⟩

/-- One more burns. -/
theorem BuS.put {N : Nat} {bet : Nat → Nat → Int} {val : Nat → Int} {c : Nat → Int} {q : Nat} {w wr w' : World} {b off cap : Nat} {v' : Value} {ys : List Int} {k : Nat} (g : Gr N bet val) (h : BuS N bet c q w wr (.slice (some ⟨b, off, none⟩) ys.length cap) ys) (hp : PutTwo wr w' b off cap ys v' (putL ys k)) (hlo : w.heap.size ≤ wr.heap.size) (hk : k < N) (hn : (k : Int) ∉ ys) (hs : c k < sm N (fun u => if (u : Int) ∈ ys then bet k u else 0)) : BuS N bet c q w w' v' (putL ys k) ∧ ys.length < (putL ys k).length := by
  have hl := putL_new h.ris hn
  refine ⟨⟨?_, putL_ris h.ris (by omega) (by omega), (putL_mem _ _ _).2 (Or.inr h.qin), fun u hu hm => ?_⟩, by omega⟩
  · rcases hp with ⟨_, e⟩ | ⟨g, cap', e, h1, h2, h3⟩
    · rw [e] at hl; omega
    · exact ⟨g, cap', e, h1, by omega, h3⟩
  · rcases (putL_mem _ _ _).1 hm with e | e
    · have : u = k := by omega
      subst this
      exact burn_step (M := fun u => decide ((u : Int) ∈ ys)) g.nn (fun v hv hm => h.burn v hv (of_decide_eq_true hm)) hu (by rw [← sm_mem_dec]; exact hs)
    · exact h.burn u hu e

set_option maxHeartbeats 3200000 in
set_option maxRecDepth 100000 in
theorem rdBurnt_any (n : Int) (adl : Option Addr) (capl : Nat) (ls : List Lk) (ad : Option Addr) (cap : Nat) (d : List Int) (q : Nat) (w : World) (hl : ls.length ≤ 1048576) (hrl : RdL w adl ls) (hg : goodL n ls = true) (hdl : d.length = n.toNat) (hr : RdI w ad d) (hq : q < n.toNat) :
    Calls Try.prog 98 #[.int .i64 n, .slice adl ls.length capl, .slice ad n.toNat cap, .int .i64 q] w fun e w' => ∃ g cap', e = .returned (.slice (some ⟨g, 0, none⟩) (selF n.toNat (burnB n.toNat (betF ls) (fd d) q)).length cap') ∧ w.heap.size ≤ g ∧ (selF n.toNat (burnB n.toNat (betF ls) (fd d) q)).length ≤ cap' ∧ Own w' g 3 (ints (selF n.toNat (burnB n.toNat (betF ls) (fd d) q))) ∧ Below w.heap.size w w' := by
  obtain ⟨hn1, hn2⟩ := good_n hg
  obtain ⟨N, rfl⟩ : ∃ N : Nat, n = N := ⟨n.toNat, by omega⟩
  rw [Int.toNat_natCast] at hdl hq ⊢
  have hGr := gr_of (N := N) rfl hg
  have HGR := Lib.hid hGr; clear hGr
  have HDL := Lib.hid hdl; clear hdl
  have HR := Lib.hid hr; clear hr
  go_enter Try.func98, Try.ntmps98
  go_wp2_with fail
  refine (chLap_any _ adl capl ls _ hl hrl hg).mono ?_
  rintro e w1 ⟨gb, capb, rb, rfl, hM, hgb, hrb, hb1⟩
  rw [Int.toNat_natCast] at hM hrb ⊢
  clear hrl hg hgb hrb
  have HM := Lib.hid hM; clear hM
  have HR1 := Lib.hid (HR.out.below hb1)
  clear HR
  have hst : BuS N (betF ls) (fd d) q w (w1.alloc (.cells #[.int .i64 q] 3)) (.slice (some ⟨w1.heap.size, 0, none⟩) 1 1) [(q : Int)] :=
    ⟨⟨w1.heap.size, 1, rfl, by simp, hb1.size, Own.newA w1 #[.int .i64 q] 3 (cs := ints [(q : Int)]) rfl⟩, ⟨by omega, by omega, by simp [Ris]; omega⟩, by simp, fun u hu hm => by
      have : u = q := by have h : (u : Int) = q := by simpa using hm
                         omega
      subst this; exact burnB_q _ _⟩
  have HST := Lib.hid hst; clear hst
  go_wp2_with fail
  go_loopw [10, 11] (fun v g wr => ∃ xs : List Int, ∃ b : Bool, g = .bool b ∧ BuS N (betF ls) (fd d) q w wr v xs ∧ (b = false → Shut N (betF ls) (fd d) xs N) ∧ Below w1.heap.size w1 wr) (fun v g _ => 2 * (N - lenOf v) + oneOf g)
  case atStart => exact ⟨[(q : Int)], true, rfl, HST.out, fun h => by simp at h, (Below.refl _ _).alloc (Nat.le_refl _) _⟩
  case round =>
    obtain ⟨xs, b, rfl, hS, hcl, hbel⟩ := hrel
    cases b
    case false =>
      have hres := hS.end (hcl rfl)
      obtain ⟨g, cp, rfl, hcp, hgl, ho⟩ := hS.own
      clear hS hcl
      have HO := Lib.hid ho; clear ho
      have HRES := Lib.hid hres; clear hres
      go_wp2_with fail
      go_ret
      refine ⟨g, cp, by rw [← HRES.out]; rfl, hgl, by rw [← HRES.out]; exact hcp, by rw [← HRES.out]; exact HO.out, ball hb1 hbel⟩
    case true =>
      clear hcl
      have hsl := hS.ris.le
      obtain ⟨wo, rfl⟩ : ∃ wo : World, wo = wr := ⟨_, rfl⟩
      obtain ⟨vo, rfl⟩ : ∃ vo : Value, vo = u10 := ⟨_, rfl⟩
      have hlo : lenOf vo = xs.length := by obtain ⟨g, cp, e, _⟩ := hS.own; rw [e]; rfl
      have HLO := Lib.hid hlo; clear hlo
      have HS := Lib.hid hS; clear hS
      have hbw := hbel; clear hbel
      go_wp2_with fail
      go_loopw [10, 11, 12] (fun v g i wr => ∃ k : Nat, k ≤ N ∧ i = .int .i64 k ∧ ∃ ys : List Int, ∃ b : Bool, g = .bool b ∧ BuS N (betF ls) (fd d) q w wr v ys ∧ (b = false → ys = xs ∧ Shut N (betF ls) (fd d) xs k) ∧ (b = true → xs.length < ys.length) ∧ Below w1.heap.size w1 wr) (fun _ _ i _ => N - (intOf i).toNat)
      case atStart => exact ⟨0, Nat.zero_le _, rfl, xs, false, rfl, HS.out, fun _ => ⟨rfl, fun v hv => by omega⟩, fun h => by simp at h, hbw⟩
      case round =>
        obtain ⟨k, hk, rfl, ys, b, rfl, hY, hq0, hq1, hbel⟩ := hrel
        have hyl := hY.ris.le
        have HQ0 := Lib.hid hq0; clear hq0
        have HQ1 := Lib.hid hq1; clear hq1
        by_cases hlt : k < N
        case neg =>
          have he : k = N := by omega
          subst he
          have hlo2 : lenOf u10 = ys.length := by obtain ⟨g, cp, e, _⟩ := hY.own; rw [e]; rfl
          have HLO2 := Lib.hid hlo2; clear hlo2
          have HY := Lib.hid hY; clear hY
          go_wp2_with fail
          go_roundw
          case rel => exact ⟨ys, b, rfl, HY.out, fun h => by obtain ⟨e, h2⟩ := HQ0.out h; rw [e]; exact h2, hbel⟩
          case measure =>
            have := HQ0.out
            have := HQ1.out
            rw [HLO.out, HLO2.out]
            cases b
            · have e := (HQ0.out rfl).1; subst e; simp [oneOf]
            · have := HQ1.out rfl; simp [oneOf]; omega
        case pos =>
          obtain ⟨g, cp, rfl, hcp, hgl, ho⟩ := hY.own
          have HY := Lib.hid hY; clear hY
          have HO := Lib.hid ho; clear ho
          have hyl2 : ys.length ≤ N := by omega
          have HM2 := Lib.hid (HM.out.below hbel)
          have HRD := Lib.hid (HR1.out.below hbel)
          obtain ⟨b1, off1, rfl, hbb, cd⟩ := HRD.out k (by rw [HDL.out]; exact hlt)
          obtain ⟨xd, hxd⟩ : ∃ xd, d.getD k 0 = xd := ⟨_, rfl⟩
          rw [hxd] at cd
          have HXD := Lib.hid hxd; clear hxd
          go_wp2_with fail
          go_loop [13, 29] (fun s i => ∃ j : Nat, j ≤ ys.length ∧ i = .int .i64 j ∧ s = .int .i64 (sm j fun j => betF ls k (ys.getD j 0).toNat)) (fun _ i => ys.length - (intOf i).toNat)
          case atStart => exact ⟨0, Nat.zero_le _, rfl, rfl⟩
          case round =>
            obtain ⟨j, hj, rfl, rfl⟩ := hrel
            have hs0 := sm_nonneg (N := j) (f := fun j => betF ls k (ys.getD j 0).toNat) (fun i _ => HGR.out.nn _ _)
            have hs1 := sm_mono (N := j) (f := fun j => betF ls k (ys.getD j 0).toNat) (g := fun _ => 5) (fun i _ => HGR.out.le _ _)
            rw [sm_const] at hs1
            by_cases hlj : j < ys.length
            case pos =>
              have hyb := HY.out.ris.bound (ys.getD j 0) (by rw [List.getD_eq_getElem?_getD, List.getElem?_eq_getElem hlj]; exact List.getElem_mem hlj)
              have cg := HO.out.cell? (i := j) (ints_get hlj)
              have hst := Lib.hid (show sm (j + 1) (fun j => betF ls k (ys.getD j 0).toNat) = sm j (fun j => betF ls k (ys.getD j 0).toNat) + betF ls k (ys.getD j 0).toNat from rfl)
              generalize sm j (fun j => betF ls k (ys.getD j 0).toNat) = s at hs0 hs1 hst ⊢
              obtain ⟨x, hx⟩ : ∃ x, ys.getD j 0 = x := ⟨_, rfl⟩
              rw [hx] at cg hyb
              obtain ⟨X, rfl⟩ : ∃ X : Nat, x = X := ⟨x.toNat, by omega⟩
              have hbx : betF ls k (ys.getD j 0).toNat = betF ls k X := by rw [hx, Int.toNat_natCast]
              rw [hbx] at hst
              clear hx hbx
              by_cases hXk : X = k
              case pos =>
                have hd1 : ((X : Int) == (k : Int)) = true := by simp [hXk]
                have hd2 : ((X : Int) != (k : Int)) = false := by simp [hXk]
                have HXK := Lib.hid hXk; clear hXk
                go_wp2_with fail
                go_round
                case rel => exact ⟨j + 1, by omega, by go_num, by rw [hst.out, HXK.out, HGR.out.dg, Int.add_zero]⟩
                case measure => simp [intOf]; omega
              case neg =>
                have hd1 : ((X : Int) == (k : Int)) = false := by simpa using fun q => hXk (by omega)
                have hd2 : ((X : Int) != (k : Int)) = true := by simpa using fun q => hXk (by omega)
                have mr := HM2.out.row hlt
                have mc := HM2.out.cb (i := k) (j := X) hlt (by omega)
                rw [show lapF ls k X = - betF ls k X from if_neg (Ne.symm hXk)] at mc
                have hy0 := HGR.out.nn k X
                have hy1 := HGR.out.le k X
                generalize betF ls k X = y at mc hy0 hy1 hst
                clear hXk
                go_wp2_with fail
                go_round
                case rel => exact ⟨j + 1, by omega, by go_num, by rw [hst.out]⟩
                case measure => simp [intOf]; omega
            case neg =>
              have hje : j = ys.length := by omega
              subst hje
              have hsum := sm_list (fun u => betF ls k u) (Int.le_refl 0) HY.out.ris
              rw [hsum] at hs0 hs1 ⊢
              clear hsum
              have hxs := Lib.hid (show ∀ s, sm N (fun u => if (u : Int) ∈ ys then betF ls k u else 0) = s → ¬ xd < s → b = false → Shut N (betF ls) (fd d) xs (k + 1) from fun s hs hn hb v hv hlv => by
                obtain ⟨e, h2⟩ := HQ0.out hb
                by_cases ev : v = k
                · subst ev
                  rw [← e] at hlv
                  rw [hs] at hlv
                  exact absurd hlv (by show ¬ d.getD v 0 < s; rw [HXD.out]; exact hn)
                · exact h2 v (by omega) hlv)
              generalize hsv : sm N (fun u => if (u : Int) ∈ ys then betF ls k u else 0) = s at hs0 hs1 ⊢
              have HSV := Lib.hid hsv; clear hsv
              go_wp2_with fail
              refine (l1Has_any _ cp ys k _ (by omega) HO.out.rd).mono ?_
              obtain ⟨pm, hpm⟩ : ∃ pm, decide ((k : Int) ∈ ys) = pm := ⟨_, rfl⟩
              rw [hpm]
              have HPM := Lib.hid hpm; clear hpm
              rintro e w' ⟨rfl, rfl⟩
              cases pm
              case true =>
                have hmem := of_decide_eq_true HPM.out
                have HMEM := Lib.hid hmem; clear hmem
                go_wp2_with fail
                go_roundw
                case rel =>
                  refine ⟨k + 1, by omega, by go_num, ys, b, rfl, HY.out, fun h => ⟨(HQ0.out h).1, fun v hv hlv => ?_⟩, HQ1.out, hbel⟩
                  by_cases ev : v = k
                  · subst ev; rw [← (HQ0.out h).1]; exact HMEM.out
                  · exact (HQ0.out h).2 v (by omega) hlv
                case measure => simp [intOf]; omega
              case false =>
                have hmem := of_decide_eq_false HPM.out
                have HMEM := Lib.hid hmem; clear hmem
                by_cases hlx : xd < s
                case neg =>
                  have HXS := Lib.hid (hxs.out s HSV.out (by omega))
                  go_wp2_with fail
                  go_roundw
                  case rel => exact ⟨k + 1, by omega, by go_num, ys, b, rfl, HY.out, fun h => ⟨(HQ0.out h).1, HXS.out h⟩, HQ1.out, hbel⟩
                  case measure => simp [intOf]; omega
                case pos =>
                  have hput := fun (v' : Value) w' hp => HY.out.put (w' := w') (v' := v') (k := k) HGR.out hp (Nat.le_trans hb1.size hbel.size) hlt HMEM.out (by rw [HSV.out]; show d.getD k 0 < s; rw [HXD.out]; exact hlx)
                  have HPUT := Lib.hid hput; clear hput
                  go_wp2_with fail
                  refine (l1Put_two g 0 cp ys k _ (by omega) hcp HO.out.rd).mono ?_
                  rintro e w2 ⟨v2, rfl, hv2, hb2⟩
                  have HP := Lib.hid (HPUT.out v2 w2 hv2)
                  clear hv2
                  go_wp2_with fail
                  go_roundw
                  case rel =>
                    refine ⟨k + 1, by omega, by go_num, putL ys k, true, rfl, HP.out.1, fun h => by simp at h, fun _ => ?_, ball hbel hb2⟩
                    have := HP.out.2
                    cases b
                    · have e := (HQ0.out rfl).1; rw [← e]; exact this
                    · have := HQ1.out rfl; omega
                  case measure => simp [intOf]; omega

end Go.Proofs.Ytmhmdbmiimpbnaa
