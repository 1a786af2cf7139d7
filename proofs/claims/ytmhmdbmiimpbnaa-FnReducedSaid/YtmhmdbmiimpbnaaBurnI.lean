/-
  The program's burnt; placesOf, slices.Contains.
-/
import Derived.Test.YtmhmdbmiimpbnaaBurn
namespace Go.Proofs.Ytmhmdbmiimpbnaa
open Go.RowKit

set_option maxHeartbeats 800000 in
theorem index0_any (ad : Option Addr) (cap : Nat) (xs : List Int) (y : Int) (w : World) (hl : xs.length ≤ 1048576) (hr : RdI w ad xs) :
    Calls Try.prog 121 #[.slice ad xs.length cap, .int .i64 y] w fun e w' => (∃ r : Int, e = .returned (.int .i64 r) ∧ ((0 ≤ r ∧ y ∈ xs) ∨ (r = -1 ∧ y ∉ xs))) ∧ w = w' := by
  have HR := Lib.hid hr; clear hr
  go_enter Try.func121, Try.ntmps121
  go_wp2
  go_loop [8] (fun i => ∃ k : Nat, k ≤ xs.length ∧ i = .int .i64 k ∧ ∀ j, j < k → xs.getD j 0 ≠ y) (fun i => xs.length - (intOf i).toNat)
  case atStart => exact ⟨0, Nat.zero_le _, rfl, fun j hj => by omega⟩
  case round =>
    obtain ⟨k, hk, rfl, hlow⟩ := hrel
    have HLow := Lib.hid hlow; clear hlow
    by_cases hlt : k < xs.length
    · obtain ⟨b, off, rfl, hbb, c0⟩ := HR.out k hlt
      obtain ⟨x, hx⟩ : ∃ x, xs.getD k 0 = x := ⟨_, rfl⟩
      rw [hx] at c0
      have hmem : x ∈ xs := by rw [← hx, List.getD_eq_getElem?_getD, List.getElem?_eq_getElem hlt]; exact List.getElem_mem hlt
      have HMEM := Lib.hid hmem; clear hmem
      have HX := Lib.hid hx; clear hx
      by_cases h1 : y = x
      · have h1' : (y == x) = true := by simpa using h1
        have H1 := Lib.hid h1; clear h1
        go_wp2
        go_ret
        exact ⟨⟨k, rfl, Or.inl ⟨by omega, by rw [H1.out]; exact HMEM.out⟩⟩, rfl⟩
      · have h1' : (y == x) = false := by simpa using h1
        have H1 := Lib.hid h1; clear h1
        go_wp2
        go_round
        case rel =>
          refine ⟨k + 1, by omega, by go_num, fun j hj => ?_⟩
          by_cases e : j = k
          · subst e; rw [HX.out]; exact fun e => H1.out e.symm
          · exact HLow.out j (by omega)
        case measure => simp [intOf]; omega
    · have he : k = xs.length := by omega
      subst he
      go_wp2
      go_ret
      refine ⟨⟨-1, rfl, Or.inr ⟨rfl, fun hm => ?_⟩⟩, rfl⟩
      obtain ⟨j, hj, e⟩ := List.getElem_of_mem hm
      exact HLow.out j hj (by rw [List.getD_eq_getElem?_getD, List.getElem?_eq_getElem hj]; exact e)

set_option maxHeartbeats 400000 in
theorem contains_any (ad : Option Addr) (cap : Nat) (xs : List Int) (y : Int) (w : World) (hl : xs.length ≤ 1048576) (hr : RdI w ad xs) :
    Calls Try.prog 94 #[.slice ad xs.length cap, .int .i64 y] w fun e w' => e = .returned (.bool (decide (y ∈ xs))) ∧ w = w' := by
  go_enter Try.func94, Try.ntmps94
  go_wp2_with fail
  refine (index0_any ad cap xs y _ hl hr).mono ?_
  rintro e w' ⟨⟨r, rfl, hr'⟩, rfl⟩
  have hd : Hid (decide (0 ≤ r) = decide (y ∈ xs)) := by
    show _ = _
    rcases hr' with ⟨h1, h2⟩ | ⟨rfl, h2⟩
    · simp [h1, h2]
    · simp [h2]
  clear hr'
  go_wp2_with fail
  go_ret
  exact ⟨ret_bool hd.out, rfl⟩

set_option maxHeartbeats 800000 in
set_option maxRecDepth 100000 in
theorem placesOf_any (ad : Option Addr) (cap : Nat) (xs : List Int) (y : Int) (w : World) (hl : xs.length ≤ 1048576) (hr : RdI w ad xs) :
    Calls Try.prog 99 #[.slice ad xs.length cap, .int .i64 y] w fun e w' => ∃ v, e = .returned v ∧ ResI w' w.heap.size 3 v (selF xs.length fun v => decide (xs.getD v 0 = y)) ∧ Below w.heap.size w w' := by
  obtain ⟨i0, hi0, hz0, hz1, hz2⟩ := info_parts Try.infoI
  have HR1 := Lib.hid hr; clear hr
  go_enter Try.func99, Try.ntmps99
  go_wp2_with fail
  go_loopw [5, 11] (fun v i wr => ∃ k : Nat, k ≤ xs.length ∧ i = .int .i64 k ∧ wr.ownsRow w.heap.size 3 1 v (selF k (fun v => decide (xs.getD v 0 = y))).length (ints (selF k (fun v => decide (xs.getD v 0 = y)))) ∧ Below w.heap.size w wr) (fun _ i _ => xs.length - (intOf i).toNat)
  case atStart => exact ⟨0, Nat.zero_le _, rfl, row_empty _ _, (Below.refl _ _).alloc (Nat.le_refl _) _⟩
  case round =>
    obtain ⟨k, hk, rfl, hown, hbel⟩ := hrel
    have HO := Lib.hid hown; clear hown
    have hsl := selF_len k (fun v => decide (xs.getD v 0 = y))
    have hsz := hbel.size
    by_cases hlt : k < xs.length
    · obtain ⟨b, off, rfl, hb, c⟩ := HR1.out k hlt
      have r2 := bcell hbel hb c
      clear c
      generalize hx : xs.getD k 0 = x at r2
      have HX := Lib.hid hx; clear hx
      have hpk : (fun v => decide (xs.getD v 0 = y)) k = decide (x = y) := by show decide _ = _; rw [HX.out]
      have HP := Lib.hid hpk; clear hpk
      by_cases ht : x = y
      · have ht' : Hid ((fun v => decide (xs.getD v 0 = y)) k = true) := by show _ = _; rw [HP.out]; simpa using ht
        have hd : (x == y) = true := by simpa using ht
        clear ht
        have hsh := congrArg List.length (selF_hit (k := k) (p := fun v => decide (xs.getD v 0 = y)) ht'.out)
        rw [List.length_append, List.length_singleton] at hsh
        have HSH := Lib.hid hsh; clear hsh
        go_wp2_with (at_builtin; refine wpList_append_lies _ rfl _ _ _ rfl w.heap.size 3 i0 _ 1 8 Try.underlying30 hi0 hz0 hz1 hz2 rfl (by omega) _ _ _ rfl (HO.out.alloc _) ⟨wr.heap.size, 0, none⟩ 1 1 [.int .i64 (k : Int)] rfl rfl (World.news_of_block (cs := #[.int .i64 (k : Int)]) (t := 3) (fr := (0, 0)) (heap_alloc_new _ _)) (by simp [Value.oneCell']) (by omega) (by unfold maxLen; omega) (by omega) (by simp; omega) (wr.heap.size + 1) (by simp) ?_; intro gg gcap w9 hown1 hgrow hat hltg)
        go_roundw
        case rel =>
          refine ⟨k + 1, by omega, by go_num, row_congr hown1 HSH.out.symm ?_, app_below hbel hsz HO.out hgrow⟩
          rw [selF_hit (k := k) (p := fun v => decide (xs.getD v 0 = y)) ht'.out]
          simp [ints]
        case measure => simp [intOf]; omega
      · have ht' : Hid ((fun v => decide (xs.getD v 0 = y)) k = false) := by show _ = _; rw [HP.out]; simpa using ht
        have hd : (x == y) = false := by simpa using ht
        clear ht
        go_wp2
        go_roundw
        case rel =>
          refine ⟨k + 1, by omega, by go_num, ?_, hbel⟩
          rw [selF_miss (k := k) (p := fun v => decide (xs.getD v 0 = y)) ht'.out]
          exact HO.out
        case measure => simp [intOf]; omega
    · have he : k = xs.length := by omega
      subst he
      go_wp2
      go_ret
      exact ⟨_, rfl, ResI.of_row HO.out, hbel⟩

/-! ### The program's marks -/
def mk01 (M : Nat → Bool) (j : Nat) : Int := if M j = true then 1 else 0
def cntM (N : Nat) (M : Nat → Bool) : Int := sm N (mk01 M)
theorem mk01_bd (M : Nat → Bool) (j : Nat) : 0 ≤ mk01 M j ∧ mk01 M j ≤ 1 := by unfold mk01; split <;> omega
theorem cntM_bd (N : Nat) (M : Nat → Bool) : 0 ≤ cntM N M ∧ cntM N M ≤ N := by
  have h1 := sm_nonneg (N := N) (f := mk01 M) (fun i _ => (mk01_bd M i).1)
  have h2 := sm_mono (N := N) (f := mk01 M) (g := fun _ => 1) (fun i _ => (mk01_bd M i).2)
  rw [sm_const, Int.mul_one] at h2
  exact ⟨h1, h2⟩
theorem mk01_put {M : Nat → Bool} {k : Nat} (j : Nat) : mk01 (fun j => decide (j = k) || M j) j = if j = k then 1 else mk01 M j := by
  unfold mk01
  by_cases e : j = k <;> simp [e]
theorem cntM_put {N : Nat} {M : Nat → Bool} {k : Nat} (hk : k < N) (h : M k = false) : cntM N (fun j => decide (j = k) || M j) = cntM N M + 1 := by
  unfold cntM
  rw [sm_congr fun j _ => mk01_put j, sm_upd hk]
  have : mk01 M k = 0 := by unfold mk01; rw [h]; rfl
  omega
structure BuI (N : Nat) (bet : Nat → Nat → Int) (c : Nat → Int) (q : Nat) (w wr : World) (g : Nat) (M : Nat → Bool) : Prop where
  own : Own wr g 3 (ints (tab N (mk01 M)))
  qin : M q = true
  burn : ∀ u, u < N → M u = true → burnB N bet c q u = true
  bel : Below w.heap.size w wr
theorem BuI.below {N : Nat} {bet : Nat → Nat → Int} {c : Nat → Int} {q : Nat} {w wr w' : World} {g : Nat} {M : Nat → Bool} (h : BuI N bet c q w wr g M) (hb : Below wr.heap.size wr w') : BuI N bet c q w w' g M := ⟨h.own.belowAll hb, h.qin, h.burn, ball h.bel hb⟩
def ShutM (N : Nat) (bet : Nat → Nat → Int) (c : Nat → Int) (M : Nat → Bool) (k : Nat) : Prop := ∀ v, v < k → c v < sm N (fun u => if M u = true then bet v u else 0) → M v = true
theorem ShutM.next {N : Nat} {bet : Nat → Nat → Int} {c : Nat → Int} {M : Nat → Bool} {k : Nat} (h : ShutM N bet c M k) (hs : c k < sm N (fun u => if M u = true then bet k u else 0) → M k = true) : ShutM N bet c M (k + 1) := fun v hv hl => by
  by_cases e : v = k
  · subst e; exact hs hl
  · exact h v (by omega) hl
theorem out_marks {N : Nat} {bet : Nat → Nat → Int} {val : Nat → Int} (g : Gr N bet val) (M : Nat → Bool) {k : Nat} (hk : k < N) : val k - outF bet (tab N (mk01 M)) k N = sm N (fun u => if M u = true then bet k u else 0) := by
  have h := sm_add N (fun u => if (tab N (mk01 M)).getD u 0 = 0 then bet k u else 0) (fun u => if M u = true then bet k u else 0)
  rw [outF_sm, g.vs k hk, sm_congr (f := bet k) (g := fun u => (if (tab N (mk01 M)).getD u 0 = 0 then bet k u else 0) + if M u = true then bet k u else 0), h]
  · omega
  · intro i hi
    rw [tab_getD hi]
    unfold mk01
    cases hM : M i <;> simp
theorem BuI.put {N : Nat} {bet : Nat → Nat → Int} {val : Nat → Int} {c : Nat → Int} {q : Nat} {w wr : World} {g : Nat} {M : Nat → Bool} {k : Nat} (gr : Gr N bet val) (h : BuI N bet c q w wr g M) (hlo : w.heap.size ≤ g) (hk : k < N) (hs : c k < sm N (fun u => if M u = true then bet k u else 0)) : BuI N bet c q w (wr.setCell ⟨g, k, none⟩ (.int .i64 1)) g (fun j => decide (j = k) || M j) := by
  refine ⟨?_, by simp [h.qin], fun u hu hm => ?_, h.bel.setCell (by exact hlo) _⟩
  · have := h.own.set k (.int .i64 1)
    rw [ints_set, tab_set] at this
    exact this.congr (by congr 1; exact tab_congr fun j _ => (mk01_put j).symm)
  · by_cases e : u = k
    · subst e; exact burn_step gr.nn h.burn hu hs
    · exact h.burn u hu (by simpa [e] using hm)
theorem BuI.end {N : Nat} {bet : Nat → Nat → Int} {c : Nat → Int} {q : Nat} {w wr : World} {g : Nat} {M : Nat → Bool} (h : BuI N bet c q w wr g M) (hc : ShutM N bet c M N) : Own wr g 3 (ints (tab N (mk01 (burnB N bet c q)))) := h.own.congr (by
  congr 1
  exact tab_congr fun j hj => by unfold mk01; rw [burn_marks h.qin h.burn hc hj])

set_option maxHeartbeats 3200000 in
set_option maxRecDepth 100000 in
theorem burnt_any (G gb gv capb : Nat) (rb : Nat → Nat) (N : Nat) (ls : List Lk) (q : Nat) (ad : Option Addr) (cap : Nat) (d : List Int) (w : World) (h : GrAt w G gb gv capb rb N (betF ls) (valF ls) (edgeF ls)) (hg : goodL N ls = true) (hq : q < N) (hdl : d.length = N) (hr : RdI w ad d) :
    Calls Try.prog 95 #[.pointer (some ⟨G, 0, none⟩), .slice ad N cap, .int .i64 q] w fun e w' => ∃ g, e = .returned (.slice (some ⟨g, 0, none⟩) N N) ∧ w.heap.size ≤ g ∧ Own w' g 3 (ints (tab N (mk01 (burnB N (betF ls) (fd d) q)))) ∧ Below w.heap.size w w' := by
  have hgn := good_n hg
  have hGr := gr_of (N := N) rfl hg
  have HGR := Lib.hid hGr; clear hGr
  have HDL := Lib.hid hdl; clear hdl
  have HR := Lib.hid hr; clear hr
  have hmk := run_makeN (P := Try.prog) 30 3 (.int .i64 0) 1 8 Try.underlying30 Try.infoI N (by omega) (by omega)
  simp only [Value.cells, Nat.mul_one] at hmk
  have c0 := h.c0
  have HG := Lib.hid h; clear h
  have hO := Own.newA w _ 3 (madeInts N)
  have f0 := hO.frozen q
  have hS := hO.set q (.int .i64 1)
  rw [ints_set, tab_set] at hS
  have hst : BuI N (betF ls) (fd d) q w ((w.alloc (.cells (madeCells #[.int .i64 0] N) 3)).setCell ⟨w.heap.size, q, none⟩ (.int .i64 1)) w.heap.size (fun j => decide (j = q)) :=
    ⟨hS.congr (by congr 1; exact tab_congr fun j _ => by unfold mk01; by_cases e : j = q <;> simp [e]), by simp, fun u _ hm => by
      have : u = q := of_decide_eq_true hm
      subst this; exact burnB_q _ _, ((Below.refl _ _).alloc (Nat.le_refl _) _).setCell (by exact Nat.le_refl _) _⟩
  have HST := Lib.hid hst; clear hst hS
  have c1 := hO.cell? (i := q) (ints_get (by rw [tab_length]; exact hq))
  clear hO
  have x1 : (0 : Int) ≤ (q : Int) := by omega
  have x2 : (q : Int) < (N : Int) := by omega
  go_enter Try.func95, Try.ntmps95
  go_wp2_with fail
  clear c0 c1 f0 hmk x1 x2
  go_loopg [8] (2 * N + 1) (fun k v wr => ∃ (b : Bool) (M : Nat → Bool), v = .bool b ∧ BuI N (betF ls) (fd d) q w wr w.heap.size M ∧ (b = false → ShutM N (betF ls) (fd d) M N) ∧ 2 * (N - (cntM N M).toNat) + (if b = true then 1 else 0) ≤ k)
  case atStart => exact ⟨true, _, rfl, by have := HST.out; simp [go_sem] at this; exact this, fun h => by simp at h, by simp; omega⟩
  case round =>
    obtain ⟨b, M, rfl, hI, hcl, hm⟩ := hrel
    cases b
    case false =>
      have HE := Lib.hid (hI.end (hcl rfl))
      have hbel := hI.bel
      clear hI hcl
      go_wp2_with fail
      go_ret
      exact ⟨w.heap.size, rfl, Nat.le_refl _, HE.out, hbel⟩
    case true =>
      clear hcl
      obtain ⟨wo, rfl⟩ : ∃ wo : World, wo = wr := ⟨_, rfl⟩
      obtain ⟨k9, rfl⟩ : ∃ k9 : Nat, k9 = gk := ⟨_, rfl⟩
      have c0 := (HG.out.below hI.bel).c0
      have HI := Lib.hid hI; clear hI
      have HM := Lib.hid hm; clear hm
      go_wp2_with fail
      clear c0
      go_loopw [8, 23] (fun v i wr => ∃ k : Nat, k ≤ N ∧ i = .int .i64 k ∧ ∃ (b : Bool) (M' : Nat → Bool), v = .bool b ∧ BuI N (betF ls) (fd d) q w wr w.heap.size M' ∧ (b = false → M' = M ∧ ShutM N (betF ls) (fd d) M k) ∧ (b = true → cntM N M < cntM N M')) (fun _ i _ => N - (intOf i).toNat)
      case atStart => exact ⟨0, Nat.zero_le _, rfl, false, M, rfl, HI.out, fun _ => ⟨rfl, fun v hv => by omega⟩, fun h => by simp at h⟩
      case round =>
        obtain ⟨k, hk, rfl, b, M', rfl, hI2, hq0, hq1⟩ := hrel
        have HQ0 := Lib.hid hq0; clear hq0
        have HQ1 := Lib.hid hq1; clear hq1
        have HI2 := Lib.hid hI2; clear hI2
        by_cases hlt : k < N
        case neg =>
          have he : k = N := by omega
          subst he
          go_wp2_with fail
          go_roundg (k9 - 1)
          case measure =>
            have h1 := HM.out
            simp at h1; omega
          case rel =>
            refine ⟨b, M', rfl, HI2.out, fun h => by obtain ⟨e, h2⟩ := HQ0.out h; rw [e]; exact h2, ?_⟩
            have h1 := HM.out
            have h2 := cntM_bd k M
            have h3 := cntM_bd k M'
            cases b
            · have e := (HQ0.out rfl).1; subst e; simp at h1 ⊢; omega
            · have := HQ1.out rfl; simp at h1 ⊢; omega
        case pos =>
          obtain ⟨wm, rfl⟩ : ∃ wm : World, wm = wr := ⟨_, rfl⟩
          have cm := HI2.out.own.cell? (i := k) (ints_get (by rw [tab_length]; exact hlt))
          rw [tab_getD hlt] at cm
          have x1 : (0 : Int) ≤ (k : Int) := by omega
          have x2 : (k : Int) < (N : Int) := by omega
          cases hMk : M' k
          case true =>
            rw [show mk01 M' k = 1 by unfold mk01; rw [hMk]; rfl] at cm
            have HMK := Lib.hid hMk; clear hMk
            go_wp2_with fail
            go_quiet (fail)
            go_wp2_with fail
            go_roundw
            case rel => exact ⟨k + 1, by omega, by go_num, b, M', rfl, HI2.out.below (bdrewN (Below.refl _ _) _), fun h => ⟨(HQ0.out h).1, (HQ0.out h).2.next fun _ => by rw [← (HQ0.out h).1]; exact HMK.out⟩, HQ1.out⟩
            case measure => simp [intOf]; omega
          case false =>
            rw [show mk01 M' k = 0 by unfold mk01; rw [hMk]; rfl] at cm
            have HMK := Lib.hid hMk; clear hMk
            have hg2 := HG.out.below HI2.out.bel
            have e0 := hg2.c0
            have e2 := hg2.c2
            have cv := hg2.cv hlt
            have HG2 := Lib.hid hg2; clear hg2
            obtain ⟨b1, off1, rfl, hbb, cd⟩ := (HR.out.below HI2.out.bel) k (by rw [HDL.out]; exact hlt)
            obtain ⟨xd, hxd⟩ : ∃ xd, d.getD k 0 = xd := ⟨_, rfl⟩
            rw [hxd] at cd
            have HXD := Lib.hid hxd; clear hxd
            have hout := fun (w2 : World) (hb : Below wm.heap.size wm w2) => outside_any G gb gv capb rb N (betF ls) (valF ls) (edgeF ls) k (some ⟨w.heap.size, 0, none⟩) N (tab N (mk01 M')) w2 (HG2.out.below hb) (by omega) hlt (tab_length _ _) (HI2.out.own.belowAll hb).rd (fun j _ => ⟨HGR.out.nn k j, HGR.out.le k j⟩)
            have hs := out_marks HGR.out M' hlt
            have ho := outF_bound (bet := betF ls) (v := k) (m := tab N (mk01 M')) (N := N) (fun j _ => ⟨HGR.out.nn k j, HGR.out.le k j⟩) N (Nat.le_refl _)
            have hv0 := HGR.out.val_nn hlt
            have hv1 := HGR.out.val_le (by omega) hlt
            generalize outF (betF ls) (tab N (mk01 M')) k N = o at hout hs ho
            generalize valF ls k = vk at cv hs hv0 hv1
            have HOUT := Lib.hid hout; clear hout
            have HS := Lib.hid hs; clear hs
            by_cases hlx : xd < vk - o
            case neg =>
              have hd3 : decide (xd < vk - o) = false := by simpa using hlx
              have HN := Lib.hid (show b = false → ShutM N (betF ls) (fd d) M (k + 1) from fun hb => (HQ0.out hb).2.next fun hl => by
                rw [← (HQ0.out hb).1, ← HS.out] at hl
                exact absurd hl (by show ¬ d.getD k 0 < vk - o; rw [HXD.out]; exact hlx))
              clear hlx
              go_wp2_with fail
              go_quiet ((go_at_call 70; exact Calls.quiet_of_same ((HOUT.out _ (bdrewN (Below.refl _ _) _)).mono (fun e w' h => ⟨h.1, h.2.symm⟩))))
              go_wp2_with fail
              go_roundw
              case rel => exact ⟨k + 1, by omega, by go_num, b, M', rfl, HI2.out.below (bdrewN (Below.refl _ _) _), fun h => ⟨(HQ0.out h).1, HN.out h⟩, HQ1.out⟩
              case measure => simp [intOf]; omega
            case pos =>
              have hd3 : decide (xd < vk - o) = true := by simpa using hlx
              have HLX := Lib.hid (show fd d k < sm N (fun u => if M' u = true then betF ls k u else 0) by rw [← HS.out]; show d.getD k 0 < vk - o; rw [HXD.out]; exact hlx)
              clear hlx
              go_wp2_with fail
              go_quiet ((go_at_call 70; exact Calls.quiet_of_same ((HOUT.out _ (bdrewN (Below.refl _ _) _)).mono (fun e w' h => ⟨h.1, h.2.symm⟩))))
              have hI5 := HI2.out.below (bdrewN (Below.refl wm.heap.size wm) nq)
              generalize wm.drewN nq = W5 at hI5 ⊢
              clear cm e0 e2 cv cd
              have cm := hI5.own.cell? (i := k) (ints_get (by rw [tab_length]; exact hlt))
              have fm := hI5.own.frozen k
              have HI5 := Lib.hid hI5; clear hI5
              go_wp2_with fail
              go_roundw
              case rel =>
                refine ⟨k + 1, by omega, by go_num, true, _, rfl, HI5.out.put HGR.out (Nat.le_refl _) hlt HLX.out, fun h => by simp at h, fun _ => ?_⟩
                rw [cntM_put hlt HMK.out]
                cases b
                · have e := (HQ0.out rfl).1; subst e; omega
                · have := HQ1.out rfl; omega
              case measure => simp [intOf]; omega

end Go.Proofs.Ytmhmdbmiimpbnaa
