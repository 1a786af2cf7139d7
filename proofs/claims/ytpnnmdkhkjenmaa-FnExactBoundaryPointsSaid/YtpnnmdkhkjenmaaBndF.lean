/-
  How many points lie on the boundary: program and reference. By an AI agent.
-/
import Derived.Test.YtpnnmdkhkjenmaaBndE
namespace Go.Proofs.Ytpnnmdkhkjenmaa
open Go.RowKit

theorem gsum_take {L : List Pt} (hL : ∀ p ∈ L, Sm p) (hl : L.length ≤ 100000) {k : Nat} (h : k < L.length) : gsum (L.take (k + 1)) = gsum (L.take k) + gP (L.getD k default) ∧ Sm (L.getD k default) ∧ 0 ≤ gsum (L.take k) ∧ gsum (L.take k) ≤ 200000000000 ∧ 0 ≤ gP (L.getD k default) ∧ gP (L.getD k default) ≤ 2000000 := by
  have hm : Sm (L.getD k default) := by
    rw [List.getD_eq_getElem?_getD, List.getElem?_eq_getElem h, Option.getD_some]
    exact hL _ (List.getElem_mem _)
  have hb := gsum_b (L := L.take k) (fun p hp => hL p (List.mem_of_mem_take hp))
  have hg := gP_b hm
  rw [List.length_take] at hb
  refine ⟨by rw [take_snoc2 L k h, gsum_snoc], hm, hb.1, ?_, hg.1, hg.2⟩
  omega

theorem cell_alloc' {w : World} {o : Obj} {a : Addr} {v : Value} (h : w.cell? a = some v) : (w.alloc o).cell? a = some v := bcell ((Below.refl _ _).alloc (Nat.le_refl _) _) (cell_lt h) h
theorem cell_set' {w : World} {b o o2 h : Nat} (hb : b ≠ h) {u v : Value} (hc : w.cell? ⟨b, o, none⟩ = some v) : (w.setCell ⟨h, o2, none⟩ u).cell? ⟨b, o, none⟩ = some v := (World.cell?_of_block (w := w) (w' := w.setCell ⟨h, o2, none⟩ u) (a := ⟨b, o, none⟩) (Below.heap_setCell _ _ _ _ hb)).trans hc
theorem cell_drew' {w : World} {a : Addr} {v : Value} (h : w.cell? a = some v) : w.drew.cell? a = some v := h
theorem bcell' {w w' : World} (h : Below w.heap.size w w') {p : Addr} {v : Value} (hc : w.cell? p = some v) : w'.cell? p = some v := bcell h (cell_lt hc) hc
theorem bal_alloc {u w : World} {o : Obj} (h : Below u.heap.size u w) : Below u.heap.size u (w.alloc o) := h.alloc h.size o

set_option maxHeartbeats 1600000 in
theorem boundary_c (ad : Option Addr) (cap : Nat) (l : List Pt) (w : World) (hr : RdP w ad l) (hl : l.length ≤ 50000) (h0 : 0 < l.length) (hs : AllSh l) :
    Calls Try.prog 16 #[.slice ad l.length cap] w fun e w' => e = .returned (.int .i64 (bndP l)) ∧ Below w.heap.size w w' := by
  have HR := Lib.hid hr; clear hr
  by_cases h1 : l.length = 1
  · have HV := Lib.hid (show bndP l = 1 by unfold bndP; rw [if_pos h1])
    have e1 : ((l.length : Int) == 1) = true := beq_iff_eq.2 (by omega)
    clear h1
    go_enter Try.func16, Try.ntmps16
    go_wp2_with fail
    go_ret
    exact ⟨ret_int HV.out.symm, Below.refl _ _⟩
  have e1 : ((l.length : Int) == 1) = false := beq_eq_false_iff_ne.2 (by omega)
  by_cases h2 : l.length = 2
  · have hv : bndP l = gP (edgeP l 0) + 1 := by unfold bndP; rw [if_neg h1, if_pos h2]
    rw [(nextP_two h2).1] at hv
    have e2 : ((l.length : Int) == 2) = true := beq_iff_eq.2 (by omega)
    have hi0 : 0 < l.length := by omega
    have hi1 : 1 < l.length := by omega
    obtain ⟨b, off, rfl, hb⟩ := HR.out.some hi0
    obtain ⟨c0, c1⟩ := HR.out.at hi0
    obtain ⟨c2, c3⟩ := HR.out.at hi1
    have s0 := hs.at hi0
    have s1 := hs.at hi1
    have cm := fun w => minus_c (l.getD 1 default) (l.getD 0 default) w s1.sm s0.sm
    have hsm := s1.sub s0
    generalize subP (l.getD 1 default) (l.getD 0 default) = z at cm hv hsm
    have hgb := gP_b hsm
    have cg := fun w => gcd_c z.x z.y w (by have := hsm.1; have := hsm.2.1; omega) (by have := hsm.2.2.1; have := hsm.2.2.2; omega)
    rw [show gcdN z.x z.y = gP z from rfl] at cg
    generalize gP z = g at cg hgb hv
    generalize l.getD 1 default = p at c2 c3 cm
    generalize l.getD 0 default = q at c0 c1 cm
    obtain ⟨px, py⟩ := p
    obtain ⟨qx, qy⟩ := q
    obtain ⟨zx, zy⟩ := z
    unfold ptV at cm
    simp only [Nat.zero_mul, Nat.one_mul, Nat.add_zero] at c0 c1 c2 c3 cm cg
    have wg : IntKind.i64.wrap (g + 1) = g + 1 := i64_small (by omega) (by omega)
    have x1 : (0 : Int) < (l.length : Int) := by omega
    have x2 : (1 : Int) < (l.length : Int) := by omega
    have CM := Lib.hid cm; have CG := Lib.hid cg; have HV := Lib.hid hv; have H1 := Lib.hid h1; have H2 := Lib.hid h2
    clear cm cg hv h1 h2 hgb hsm s0 s1 hi0 hi1
    go_enter Try.func16, Try.ntmps16
    go_wp2_with fail
    go_region_held3 (fun w' => (w'.cell? ⟨b, off, none⟩ = some (.int .i64 qx) ∧ w'.cell? ⟨b, off + 1, none⟩ = some (.int .i64 qy)) ∧ w'.cell? ⟨b, off + 2, none⟩ = some (.int .i64 px) ∧ w'.cell? ⟨b, off + 2 + 1, none⟩ = some (.int .i64 py)) (with_reducible repeat' (first | apply And.intro | assumption | (apply cell_set' (Nat.ne_of_lt hb)) | apply cell_alloc' | apply cell_drew'))
      (first
        | (go_at_call 28; (with_reducible refine (CM.out _).mono ?_); rintro e W1 ⟨rfl, hw1⟩; have m0 : W1.cell? ⟨b, off, none⟩ = some (.int .i64 qx) := bcell' hw1 (by (with_reducible repeat' (first | assumption | apply cell_alloc' | apply cell_drew'))); have m1 : W1.cell? ⟨b, off + 1, none⟩ = some (.int .i64 qy) := bcell' hw1 (by (with_reducible repeat' (first | assumption | apply cell_alloc' | apply cell_drew'))); have m2 : W1.cell? ⟨b, off + 2, none⟩ = some (.int .i64 px) := bcell' hw1 (by (with_reducible repeat' (first | assumption | apply cell_alloc' | apply cell_drew'))); have m3 : W1.cell? ⟨b, off + 2 + 1, none⟩ = some (.int .i64 py) := bcell' hw1 (by (with_reducible repeat' (first | assumption | apply cell_alloc' | apply cell_drew'))); have hbW : Below w.heap.size w W1 := ball (by (with_reducible repeat' (first | exact Below.refl _ _ | apply bal_alloc | apply Below.drew))) hw1; (first | (have ho : Own W1 w.heap.size 33 [.int .i64 0, .int .i64 0] := (Own.new w [.int .i64 0, .int .i64 0] 33).drew.belowAll hw1; have o0 := ho.cell? (i := 0) rfl; have o1 := ho.cell? (i := 1) rfl; have r0 := ho.frozen 0; have r1 := ho.frozen 1; clear ho) | skip)))
    all_goals
      have hz1 := hw1.size
      go_wp2_with fail
      refine (CG.out _).mono ?_
      rintro e W2 ⟨rfl, hw2⟩
      go_wp2_with fail
      go_ret
      exact ⟨ret_int HV.out.symm, by first | exact ball (bal_alloc hbW) hw2 | exact ball ((hbW.setCell (p := ⟨w.heap.size, 0, none⟩) (Nat.le_refl _) _).setCell (p := ⟨w.heap.size, 1, none⟩) (Nat.le_refl _) _) hw2⟩
  · have hv : bndP l = gsum (edgesP l) := by unfold bndP; rw [if_neg h1, if_neg h2]
    have e2 : ((l.length : Int) == 2) = false := beq_eq_false_iff_ne.2 (by omega)
    have hel : (edgesP l).length ≤ 50000 := by unfold edgesP; rw [tab_length]; exact hl
    have hls := edgesP_sm hs
    have ce := edges_c ad cap l w HR.out hl h1 hs
    generalize edgesP l = L at hv hel hls ce
    have HV := Lib.hid hv; have hLS := Lib.hid hls; have CE := Lib.hid ce; clear hv hls ce h1 h2 HR
    go_enter Try.func16, Try.ntmps16
    go_wp2_with fail
    refine CE.out.mono ?_
    rintro e w1 ⟨v, rfl, hrow, hb1⟩
    obtain ⟨adE, capE, rfl, _, _⟩ := hrow.shape
    have HRE := Lib.hid hrow.rd; clear hrow
    go_wp2_with fail
    go_loopw [4, 29] (fun s i wr => ∃ k : Nat, k ≤ L.length ∧ i = .int .i64 k ∧ s = .int .i64 (gsum (L.take k)) ∧ Below w1.heap.size w1 wr) (fun _ i _ => L.length - (intOf i).toNat)
    case atStart => exact ⟨0, Nat.zero_le _, rfl, rfl, Below.refl _ _⟩
    case round =>
      obtain ⟨wE, rfl⟩ : ∃ x : World, x = wr := ⟨_, rfl⟩
      obtain ⟨k, hk, rfl, rfl, hbel⟩ := hrel
      by_cases hlt : k < L.length
      case neg =>
        obtain rfl : k = L.length := by omega
        rw [List.take_length]
        go_wp2_with fail
        go_ret
        exact ⟨ret_int HV.out.symm, ball hb1 hbel⟩
      case pos =>
        obtain ⟨b, off, rfl, hb, c0, c1⟩ := HRE.out k hlt
        have d0 := bcell (hbel) hb c0
        have d1 := bcell (hbel) hb c1
        clear c0 c1
        obtain ⟨hst, hsm, hg1, hg2, hg3, hg4⟩ := gsum_take hLS.out (by omega) hlt
        generalize L.getD k default = z at d0 d1 hst hsm hg3 hg4
        have cg := fun w => gcd_c z.x z.y w (by have := hsm.1; have := hsm.2.1; omega) (by have := hsm.2.2.1; have := hsm.2.2.2; omega)
        rw [show gcdN z.x z.y = gP z from rfl] at cg
        generalize gP z = g at cg hst hg3 hg4
        generalize gsum (L.take k) = s at hst hg1 hg2 ⊢
        obtain ⟨zx, zy⟩ := z
        simp only at d0 d1 cg
        have ws : IntKind.i64.wrap (s + g) = s + g := i64_small (by omega) (by omega)
        have HST := Lib.hid hst; have CG := Lib.hid cg; clear hst cg hsm hg1 hg2 hg3 hg4
        have hbN := hbel.alloc hbel.size (.cells #[.int .i64 zx, .int .i64 zy] 33)
        go_wp2_with fail
        refine (CG.out _).mono ?_
        rintro e W2 ⟨rfl, hw2⟩
        go_wp2_with fail
        go_roundw
        case rel => exact ⟨k + 1, by omega, by go_num, by rw [HST.out], ball hbN hw2⟩
        case measure => simp [intOf]; omega

theorem heap_alloc_at (w : World) (o : Obj) {n : Nat} (h : n = w.heap.size) : (w.alloc o).heap[n]? = some o := by subst h; exact heap_alloc_new _ _

set_option maxHeartbeats 1600000 in
theorem pyEdges_c (ad : Option Addr) (cap : Nat) (l : List Pt) (w : World) (hr : RdP w ad l) (hl : l.length ≤ 50000) (hs : AllSh l) :
    Calls Try.prog 23 #[.slice ad l.length cap] w fun e w' => ∃ v, e = .returned v ∧ RowP w' w.heap.size v (pyEd l l.length) ∧ Below w.heap.size w w' := by
  have HR := Lib.hid hr; clear hr
  obtain ⟨iP, hiP, hzP, hsP, hbP⟩ := info_parts Try.infoP
  go_enter Try.func23, Try.ntmps23
  go_wp2_with fail
  go_loopw [3, 9] (fun v i wr => ∃ k : Nat, k ≤ l.length ∧ i = .int .i64 k ∧ RowP wr w.heap.size v (pyEd l k) ∧ Below w.heap.size w wr) (fun _ i _ => l.length - (intOf i).toNat)
  case atStart => exact ⟨0, Nat.zero_le _, rfl, RowP.nil _ _, Below.refl _ _⟩
  case round =>
    obtain ⟨wE, rfl⟩ : ∃ x : World, x = wr := ⟨_, rfl⟩
    obtain ⟨k, hk, rfl, hrow, hbel⟩ := hrel
    have HO := Lib.hid hrow; clear hrow
    by_cases hlt : k < l.length
    case neg =>
      obtain rfl : k = l.length := by omega
      go_wp2_with fail
      go_ret
      exact ⟨_, rfl, HO.out, hbel⟩
    case pos =>
      obtain ⟨b, off, rfl, hb, c0, c1⟩ := HR.out k hlt
      have d0 := bcell hbel hb c0
      have d1 := bcell hbel hb c1
      clear c0 c1
      have hsp := hs.at hlt
      have hsq := nextP_sh hs (i := k) (by omega)
      have hol := Lib.hid (pyEd_len l k)
      have hst := show pyEd l (k + 1) = if l.getD k default = nextP l k then pyEd l k else pyEd l k ++ [subP (nextP l k) (l.getD k default)] from rfl
      have hrem := rem_next (i := k) (n := l.length)
      have hjl : (k + 1) % l.length < l.length := Nat.mod_lt _ (by omega)
      unfold nextP at hst hsq
      generalize (k + 1) % l.length = j at hrem hjl hst hsq
      obtain ⟨f0, f1⟩ := HR.out.at hjl
      have g0 := bcell hbel hb f0
      have g1 := bcell hbel hb f1
      clear f0 f1
      generalize l.getD j default = q at g0 g1 hst hsq
      generalize l.getD k default = p at d0 d1 hst hsp
      obtain ⟨o, ho⟩ : ∃ o, pyEd l k = o := ⟨_, rfl⟩
      rw [ho] at HO hst hol
      clear ho
      obtain ⟨px, py⟩ := p
      obtain ⟨qx, qy⟩ := q
      simp only at d0 d1 g0 g1
      obtain ⟨h1, h2, h3, h4⟩ := hsp
      obtain ⟨h5, h6, h7, h8⟩ := hsq
      simp only at h1 h2 h3 h4 h5 h6 h7 h8
      have e1 : IntKind.i64.wrap ((k : Int) + 1) = (k : Int) + 1 := i64_small (by omega) (by omega)
      have zz : ((l.length : Int) == 0) = false := beq_eq_false_iff_ne.2 (by omega)
      have wj : IntKind.i64.wrap (j : Int) = (j : Int) := i64_small (by omega) (by omega)
      have x1 : (0 : Int) ≤ (j : Int) := by omega
      have x2 : (j : Int) < (l.length : Int) := by omega
      have w1 : IntKind.i64.wrap (qx - px) = qx - px := i64_small (by omega) (by omega)
      have w2 : IntKind.i64.wrap (qy - py) = qy - py := i64_small (by omega) (by omega)
      clear h1 h2 h3 h4 h5 h6 h7 h8
      have hz := hbel.size
      have hEB : Below wE.heap.size wE (wE.alloc (.cells #[.int .i64 px, .int .i64 py] 33)) := (Below.refl _ _).alloc (Nat.le_refl _) _
      have g2 := bcell hEB (Nat.lt_of_lt_of_le hb hz) g0
      have g3 := bcell hEB (Nat.lt_of_lt_of_le hb hz) g1
      clear hEB
      obtain ⟨adv, capv, rfl, hc1, hc2⟩ := HO.out.shape
      have hbN := (hbel.alloc hz (.cells #[.int .i64 px, .int .i64 py] 33)).alloc (by simp; omega) (.cells #[.int .i64 qx, .int .i64 qy] 33)
      by_cases hx : px = qx
      · subst hx
        by_cases hy : py = qy
        · subst hy
          rw [if_pos rfl] at hst
          have HST := Lib.hid hst; clear hst
          have HO2 := Lib.hid ((HO.out.alloc' (o := (.cells #[.int .i64 px, .int .i64 py] 33))).alloc' (o := (.cells #[.int .i64 px, .int .i64 py] 33)))
          go_wp2_with fail
          go_roundw
          case rel => exact ⟨k + 1, by omega, by go_num, by rw [HST.out]; exact HO2.out, hbN⟩
          case measure => simp [intOf]; omega
        · rw [if_neg (fun e => hy (by injection e)), show subP ⟨px, qy⟩ ⟨px, py⟩ = ⟨0, qy - py⟩ by simp [subP]] at hst
          have hyb : (py == qy) = false := beq_eq_false_iff_ne.2 hy
          have HST := Lib.hid hst; have HY := Lib.hid hy; clear hst hy
          go_wp2_with (at_builtin; refine wpList_append_lies _ rfl _ _ 26 rfl w.heap.size 33 iP _ 2 16 Try.underlyingP hiP hzP hsP hbP rfl (by omega) (.slice adv o.length capv) o.length (ptsV o) rfl (((HO.out.alloc' (o := (.cells #[.int .i64 px, .int .i64 py] 33))).alloc' (o := (.cells #[.int .i64 px, .int .i64 qy] 33))).alloc' (o := (.cells #[.int .i64 0, .int .i64 (qy - py)] 33))) ⟨wE.heap.size + 1 + 1, 0, none⟩ 1 1 [.int .i64 0, .int .i64 (qy - py)] rfl rfl (World.news_of_block (cs := #[.int .i64 0, .int .i64 (qy - py)]) (t := 33) (fr := (0, 0)) (heap_alloc_at _ _ (by simp))) (by simp [Value.oneCell']) (by omega) (by have := hol.out; unfold maxLen; omega) (by have := hol.out; omega) (by simp; omega) (wE.heap.size + 1 + 1 + 1) (by simp) ?_; intro g5 cap5 wm hown hgrow hat hlt5; clear hat)
          have hbm := appP_below (hbN) (Nat.le_trans hz (by simp; omega)) ((HO.out.alloc' (o := (.cells #[.int .i64 px, .int .i64 py] 33))).alloc' (o := (.cells #[.int .i64 px, .int .i64 qy] 33))) hgrow
          go_roundw
          case rel => exact ⟨k + 1, by omega, by go_num, by rw [HST.out]; exact rowP_congr hown (by simp) (ptsV_snoc o ⟨0, (qy - py)⟩).symm, hbm⟩
          case measure => simp [intOf]; omega
      · rw [if_neg (fun e => hx (by injection e))] at hst
        have hxb : (px == qx) = false := beq_eq_false_iff_ne.2 hx
        have HST := Lib.hid hst; have HX := Lib.hid hx; clear hst hx
        go_wp2_with (at_builtin; refine wpList_append_lies _ rfl _ _ 26 rfl w.heap.size 33 iP _ 2 16 Try.underlyingP hiP hzP hsP hbP rfl (by omega) (.slice adv o.length capv) o.length (ptsV o) rfl (((HO.out.alloc' (o := (.cells #[.int .i64 px, .int .i64 py] 33))).alloc' (o := (.cells #[.int .i64 qx, .int .i64 qy] 33))).alloc' (o := (.cells #[.int .i64 (qx - px), .int .i64 (qy - py)] 33))) ⟨wE.heap.size + 1 + 1, 0, none⟩ 1 1 [.int .i64 (qx - px), .int .i64 (qy - py)] rfl rfl (World.news_of_block (cs := #[.int .i64 (qx - px), .int .i64 (qy - py)]) (t := 33) (fr := (0, 0)) (heap_alloc_at _ _ (by simp))) (by simp [Value.oneCell']) (by omega) (by have := hol.out; unfold maxLen; omega) (by have := hol.out; omega) (by simp; omega) (wE.heap.size + 1 + 1 + 1) (by simp) ?_; intro g5 cap5 wm hown hgrow hat hlt5; clear hat)
        have hbm := appP_below (hbN) (Nat.le_trans hz (by simp; omega)) ((HO.out.alloc' (o := (.cells #[.int .i64 px, .int .i64 py] 33))).alloc' (o := (.cells #[.int .i64 qx, .int .i64 qy] 33))) hgrow
        go_roundw
        case rel => exact ⟨k + 1, by omega, by go_num, by rw [HST.out]; exact rowP_congr hown (by simp) (ptsV_snoc o ⟨(qx - px), (qy - py)⟩).symm, hbm⟩
        case measure => simp [intOf]; omega

set_option maxHeartbeats 1600000 in
theorem pyBoundary_c (ad : Option Addr) (cap : Nat) (l : List Pt) (w : World) (hr : RdP w ad l) (hl : l.length ≤ 50000) (hs : AllSh l) :
    Calls Try.prog 13 #[.slice ad l.length cap] w fun e w' => e = .returned (.int .i64 (bndP l)) ∧ Below w.heap.size w w' := by
  have HR := Lib.hid hr; clear hr
  have hv := bnd_py l
  have hel := pyEd_len l l.length
  have hls := pyEd_sm hs l.length (Nat.le_refl _)
  have ce := pyEdges_c ad cap l w HR.out hl hs
  generalize pyEd l l.length = L at hv hel hls ce
  have hgb := gsum_b hls
  have HV := Lib.hid hv; have hLS := Lib.hid hls; have CE := Lib.hid ce; clear hv hls ce HR
  go_enter Try.func13, Try.ntmps13
  go_wp2_with fail
  refine CE.out.mono ?_
  rintro e w1 ⟨v, rfl, hrow, hb1⟩
  obtain ⟨adE, capE, rfl, _, _⟩ := hrow.shape
  have HRE := Lib.hid hrow.rd; clear hrow
  go_wp2_with fail
  go_loopw [3, 9] (fun s i wr => ∃ k : Nat, k ≤ L.length ∧ i = .int .i64 k ∧ s = .int .i64 (gsum (L.take k)) ∧ Below w1.heap.size w1 wr) (fun _ i _ => L.length - (intOf i).toNat)
  case atStart => exact ⟨0, Nat.zero_le _, rfl, rfl, Below.refl _ _⟩
  case round =>
    obtain ⟨wE, rfl⟩ : ∃ x : World, x = wr := ⟨_, rfl⟩
    obtain ⟨k, hk, rfl, rfl, hbel⟩ := hrel
    by_cases hlt : k < L.length
    case neg =>
      obtain rfl : k = L.length := by omega
      rw [List.take_length]
      generalize gsum L = G at HV hgb
      by_cases h1 : l.length = 1
      · have e1 : ((l.length : Int) == 1) = true := beq_iff_eq.2 (by omega)
        have hv2 := HV.out
        rw [if_pos h1] at hv2
        have HW := Lib.hid hv2; clear hv2 HV h1
        go_wp2_with fail
        go_ret
        exact ⟨ret_int HW.out, ball hb1 hbel⟩
      · have e1 : ((l.length : Int) == 1) = false := beq_eq_false_iff_ne.2 (by omega)
        by_cases h2 : l.length = 2
        · have e2 : ((l.length : Int) == 2) = true := beq_iff_eq.2 (by omega)
          have hv2 := HV.out
          rw [if_neg h1, if_pos h2] at hv2
          rw [Int.tdiv_eq_ediv_of_nonneg hgb.1] at hv2
          obtain ⟨q, hqq⟩ : ∃ q, G / 2 = q := ⟨_, rfl⟩
          have hq : 0 ≤ q ∧ q ≤ 200000000000 := by omega
          rw [hqq] at hv2
          have w1 : IntKind.i64.wrap q = q := i64_small (by omega) (by omega)
          have w2 : IntKind.i64.wrap (q + 1) = q + 1 := i64_small (by omega) (by omega)
          have HW := Lib.hid hv2; clear hv2 HV h1 h2
          go_wp2_with fail
          go_ret
          exact ⟨ret_int HW.out, ball hb1 hbel⟩
        · have e2 : ((l.length : Int) == 2) = false := beq_eq_false_iff_ne.2 (by omega)
          have hv2 := HV.out
          rw [if_neg h1, if_neg h2] at hv2
          have HW := Lib.hid hv2; clear hv2 HV h1 h2
          go_wp2_with fail
          go_ret
          exact ⟨ret_int HW.out, ball hb1 hbel⟩
    case pos =>
      obtain ⟨b, off, rfl, hb, c0, c1⟩ := HRE.out k hlt
      have d0 := bcell (hbel) hb c0
      have d1 := bcell (hbel) hb c1
      clear c0 c1
      obtain ⟨hst, hsm, hg1, hg2, hg3, hg4⟩ := gsum_take hLS.out (by omega) hlt
      generalize L.getD k default = z at d0 d1 hst hsm hg3 hg4
      have cg := fun w => frGcd_c z.x z.y w (by have := hsm.1; have := hsm.2.1; omega) (by have := hsm.2.2.1; have := hsm.2.2.2; omega)
      rw [show gcdN z.x z.y = gP z from rfl] at cg
      generalize gP z = g at cg hst hg3 hg4
      generalize gsum (L.take k) = s at hst hg1 hg2 ⊢
      obtain ⟨zx, zy⟩ := z
      simp only at d0 d1 cg
      have ws : IntKind.i64.wrap (s + g) = s + g := i64_small (by omega) (by omega)
      have HST := Lib.hid hst; have CG := Lib.hid cg; clear hst cg hsm hg1 hg2 hg3 hg4
      have hbN := hbel.alloc hbel.size (.cells #[.int .i64 zx, .int .i64 zy] 33)
      go_wp2_with fail
      refine (CG.out _).mono ?_
      rintro e W2 ⟨rfl, hw2⟩
      go_wp2_with fail
      go_roundw
      case rel => exact ⟨k + 1, by omega, by go_num, by rw [HST.out], ball hbN hw2⟩
      case measure => simp [intOf]; omega

end Go.Proofs.Ytpnnmdkhkjenmaa
