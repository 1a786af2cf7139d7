/-
  Both sides of BurntBy and IsReduced.
-/
import Derived.Test.YtmhmdbmiimpbnaaBurnI
namespace Go.Proofs.Ytmhmdbmiimpbnaa
open Go.RowKit

noncomputable def burntR (n : Int) (ls : List Lk) (d : List Int) (q : Int) : List Int × Bool := if askB n ls d q = true ∧ owesB n.toNat q.toNat (fd d) = false then (selF n.toNat (burnB n.toNat (betF ls) (fd d) q.toNat), true) else ([], false)
noncomputable def fullB (N : Nat) (bet : Nat → Nat → Int) (c : Nat → Int) (q : Nat) : Bool := (List.range N).all (burnB N bet c q)
theorem fullB_t {N : Nat} {bet : Nat → Nat → Int} {c : Nat → Int} {q : Nat} : fullB N bet c q = true ↔ ∀ v, v < N → burnB N bet c q v = true := by simp [fullB]
noncomputable def reducedR (n : Int) (ls : List Lk) (d : List Int) (q : Int) : Bool × Bool := if askB n ls d q = true then (!owesB n.toNat q.toNat (fd d) && fullB n.toNat (betF ls) (fd d) q.toNat, true) else (false, false)
theorem burntR_len (n : Int) (ls : List Lk) (d : List Int) (q : Int) : (burntR n ls d q).1.length ≤ 1048576 := by
  unfold burntR
  split
  · rename_i h
    have := good_n (gameB_t (askB_t h.1).1).1
    have := selF_len n.toNat (burnB n.toNat (betF ls) (fd d) q.toNat)
    show (selF _ _).length ≤ _
    omega
  · simp
theorem selF_full {N : Nat} {p : Nat → Bool} : (selF N p).length = N ↔ ∀ v, v < N → p v = true := by
  have h := (selF_ris p N).full
  rw [Int.zero_add] at h
  constructor
  · intro e v hv
    obtain ⟨u, e', _, hp⟩ := selF_mem.1 (h.1 (by omega) v (by omega) (by omega))
    have : u = v := by omega
    subst this; exact hp
  · intro hp
    have := h.2 fun y h1 h2 => selF_mem.2 ⟨y.toNat, by omega, by omega, hp _ (by omega)⟩
    omega
theorem full_len {N : Nat} {bet : Nat → Nat → Int} {c : Nat → Int} {q : Nat} : decide ((selF N (burnB N bet c q)).length = N) = fullB N bet c q := by
  rw [Bool.eq_iff_iff, decide_eq_true_iff, selF_full, fullB_t]
theorem full_marks {N : Nat} {bet : Nat → Nat → Int} {c : Nat → Int} {q : Nat} : (!decide ((0 : Int) ∈ tab N (mk01 (burnB N bet c q)))) = fullB N bet c q := by
  rw [Bool.eq_iff_iff, fullB_t, Bool.not_eq_true', decide_eq_false_iff_not]
  constructor
  · intro h v hv
    cases hb : burnB N bet c q v
    · exfalso
      apply h
      have := List.getElem_mem (l := tab N (mk01 (burnB N bet c q))) (n := v) (by rw [tab_length]; exact hv)
      have e := tab_getD (f := mk01 (burnB N bet c q)) hv 0
      rw [List.getD_eq_getElem?_getD, List.getElem?_eq_getElem (by rw [tab_length]; exact hv)] at e
      simp only [Option.getD_some] at e
      rw [e] at this
      unfold mk01 at this
      rw [hb] at this
      exact this
    · rfl
  · intro h hm
    obtain ⟨j, hj, e⟩ := List.getElem_of_mem hm
    rw [tab_length] at hj
    have e' := tab_getD (f := mk01 (burnB N bet c q)) hj 0
    rw [List.getD_eq_getElem?_getD, List.getElem?_eq_getElem (by rw [tab_length]; exact hj), Option.getD_some, e] at e'
    unfold mk01 at e'
    rw [h j hj] at e'
    simp at e'
theorem places_marks {N : Nat} {p : Nat → Bool} : (selF (tab N (mk01 p)).length fun v => decide ((tab N (mk01 p)).getD v 0 = 1)) = selF N p := by
  rw [tab_length]
  exact selF_congr fun v hv => by
    rw [tab_getD hv]
    unfold mk01
    cases p v <;> simp

set_option maxHeartbeats 1600000 in
set_option maxRecDepth 100000 in
theorem specBurnt_c (n : Int) (adl : Option Addr) (capl : Nat) (ls : List Lk) (a : Addr) (cap : Nat) (d : List Int) (q : Int) (w : World) (hl : ls.length ≤ 1048576) (hr : RdL w adl ls) (hl' : d.length ≤ 1048576) (hr' : RdI w (some a) d) :
    Calls Try.prog 49 #[.int .i64 n, .slice adl ls.length capl, .slice (some a) d.length cap, .int .i64 q] w (RetLB (burntR n ls d q) w) := by
  by_cases hk : askB n ls d q = true
  case neg =>
    have hk' := Bool.eq_false_iff.2 hk
    have hR := Lib.hid (show burntR n ls d q = ([], false) from if_neg (fun h => hk h.1))
    go_enter Try.func49, Try.ntmps49
    go_wp2_with fail
    refine (rdAsked_any n adl capl ls (some a) cap d q _ hl hr hl' hr').mono ?_
    rw [hk']
    rintro e w1 ⟨rfl, hb1⟩
    go_wp2
    go_ret2
    exact RetLB.no hR.out hb1
  case pos =>
    obtain ⟨hgm, hq0, hq1⟩ := askB_t hk
    obtain ⟨hg, hc, hdl, hda⟩ := gameB_t hgm
    obtain ⟨hn1, hn2⟩ := good_n hg
    obtain ⟨N, rfl⟩ : ∃ N : Nat, n = N := ⟨n.toNat, by omega⟩
    obtain ⟨q, rfl⟩ : ∃ k : Nat, q = k := ⟨q.toNat, by omega⟩
    have hdN : d.length = N := by omega
    have HK := Lib.hid hk
    have HG := Lib.hid hg
    have hasked := fun w => rdAsked_any N adl capl ls (some a) cap d q w hl
    rw [hk] at hasked
    rw [hdN] at hasked ⊢
    have HA := Lib.hid hasked; clear hasked
    have how := fun w => rdOwes_any N q (some a) cap d w (by omega) hdN
    have hR := Lib.hid (show burntR N ls d q = if owesB N q (fd d) = false then (selF N (burnB N (betF ls) (fd d) q), true) else ([], false) by unfold burntR; rw [hk]; simp)
    generalize owesB N q (fd d) = ow at how hR
    have HOW := Lib.hid how; clear how
    have HDN := Lib.hid hdN; clear hdN hdl hda hgm hk hc
    cases ow
    case true =>
      go_enter Try.func49, Try.ntmps49
      go_wp2_with fail
      refine (HA.out _ hr (by rw [← HDN.out]; exact hl') hr').mono ?_
      rintro e w1 ⟨rfl, hb1⟩
      go_wp2_with fail
      refine (HOW.out _ (hr'.below hb1)).mono ?_
      rintro e w' ⟨rfl, rfl⟩
      go_wp2
      go_ret2
      exact RetLB.no (hR.out.trans (if_neg (by simp))) hb1
    case false =>
      go_enter Try.func49, Try.ntmps49
      go_wp2_with fail
      refine (HA.out _ hr (by rw [← HDN.out]; exact hl') hr').mono ?_
      rintro e w1 ⟨rfl, hb1⟩
      go_wp2_with fail
      refine (HOW.out _ (hr'.below hb1)).mono ?_
      rintro e w' ⟨rfl, rfl⟩
      go_wp2_with fail
      refine (rdBurnt_any N adl capl ls (some a) cap d q _ hl (hr.below hb1) HG.out HDN.out (hr'.below hb1) (by omega)).mono ?_
      rintro e w2 ⟨g, cp, rfl, hgl, hcp, ho, hb2⟩
      have HO := Lib.hid ho; clear ho
      go_wp2_with fail
      go_ret2
      exact RetLB.of (hR.out.trans (if_pos (by simp))) (Or.inr ⟨g, cp, rfl, Nat.le_trans hb1.size hgl, HO.out⟩) (ball hb1 hb2)

set_option maxHeartbeats 1600000 in
set_option maxRecDepth 100000 in
theorem implBurnt_c (n : Int) (adl : Option Addr) (capl : Nat) (ls : List Lk) (a : Addr) (cap : Nat) (d : List Int) (q : Int) (w : World) (hl : ls.length ≤ 1048576) (hr : RdL w adl ls) (hl' : d.length ≤ 1048576) (hr' : RdI w (some a) d) :
    Calls Try.prog 48 #[.int .i64 n, .slice adl ls.length capl, .slice (some a) d.length cap, .int .i64 q] w (RetLB (burntR n ls d q) w) := by
  by_cases hg : goodL n ls = true
  case neg =>
    have hg' := Bool.eq_false_iff.2 hg
    have hR := Lib.hid (show burntR n ls d q = ([], false) from if_neg (fun h => hg (gameB_t (askB_t h.1).1).1))
    go_enter Try.func48, Try.ntmps48
    go_wp2_with fail
    refine (gameAt_no n adl capl ls _ _ _ hl hr hg').mono ?_
    rintro e w1 ⟨rfl, hb1⟩
    go_wp2
    go_ret2
    exact RetLB.no hR.out hb1
  case pos =>
    have HG := Lib.hid hg
    by_cases hk : askB n ls d q = true
    case neg =>
      have hk' := Bool.eq_false_iff.2 hk
      have hR := Lib.hid (show burntR n ls d q = ([], false) from if_neg (fun h => hk h.1))
      go_enter Try.func48, Try.ntmps48
      go_wp2_with fail
      refine (gameAt_any n adl capl ls (some a) cap d q _ hl hr hl' hr' HG.out).mono ?_
      rw [hk']
      rintro e w1 ⟨G, gb, gv, capb, rb, rfl, hG, hGB, hGV, hb1⟩
      clear hG
      go_wp2
      go_ret2
      exact RetLB.no hR.out hb1
    case pos =>
      obtain ⟨hgm, hq0, hq1⟩ := askB_t hk
      obtain ⟨_, hc, hdl, hda⟩ := gameB_t hgm
      obtain ⟨hn1, hn2⟩ := good_n hg
      obtain ⟨N, rfl⟩ : ∃ N : Nat, n = N := ⟨n.toNat, by omega⟩
      obtain ⟨q, rfl⟩ : ∃ k : Nat, q = k := ⟨q.toNat, by omega⟩
      have hdN : d.length = N := by omega
      have hasked := fun w => gameAt_any N adl capl ls (some a) cap d q w hl
      rw [hk] at hasked
      rw [hdN] at hasked ⊢
      have HA := Lib.hid hasked; clear hasked
      have how := fun w => hasDebt_any N q (some a) cap d w (by omega) hdN
      have hR := Lib.hid (show burntR N ls d q = if owesB N q (fd d) = false then (selF N (burnB N (betF ls) (fd d) q), true) else ([], false) by unfold burntR; rw [hk]; simp)
      generalize owesB N q (fd d) = ow at how hR
      have HOW := Lib.hid how; clear how
      have HDN := Lib.hid hdN; clear hdN hdl hda hgm hk hc hg
      cases ow
      case true =>
        go_enter Try.func48, Try.ntmps48
        go_wp2_with fail
        refine (HA.out _ hr (by rw [← HDN.out]; exact hl') hr' HG.out).mono ?_
        rintro e w1 ⟨G, gb, gv, capb, rb, rfl, hG, hGB, hGV, hb1⟩
        clear hG
        go_wp2_with fail
        refine (HOW.out _ (hr'.below hb1)).mono ?_
        rintro e w' ⟨rfl, rfl⟩
        go_wp2
        go_ret2
        exact RetLB.no (hR.out.trans (if_neg (by simp))) hb1
      case false =>
        go_enter Try.func48, Try.ntmps48
        go_wp2_with fail
        refine (HA.out _ hr (by rw [← HDN.out]; exact hl') hr' HG.out).mono ?_
        rintro e w1 ⟨G, gb, gv, capb, rb, rfl, hG, hGB, hGV, hb1⟩
        rw [Int.toNat_natCast] at hG
        have HGR := Lib.hid hG; clear hG
        go_wp2_with fail
        refine (HOW.out _ (hr'.below hb1)).mono ?_
        rintro e w' ⟨rfl, rfl⟩
        go_wp2_with fail
        refine (burnt_any G gb gv capb rb N ls q (some a) cap d _ HGR.out HG.out (by omega) HDN.out (hr'.below hb1)).mono ?_
        rintro e w2 ⟨g, rfl, hgl, ho, hb2⟩
        have hpl := placesOf_any (some ⟨g, 0, none⟩) N (tab N (mk01 (burnB N (betF ls) (fd d) q))) 1 w2 (by rw [tab_length]; omega) ho.rd
        rw [places_marks, tab_length] at hpl
        have HPL := Lib.hid hpl; clear hpl ho
        go_wp2_with fail
        refine HPL.out.mono ?_
        rintro e w3 ⟨v, rfl, hv, hb3⟩
        have HV := Lib.hid hv; clear hv
        have hz := Nat.le_trans hb1.size hb2.size
        go_wp2_with fail
        go_ret2
        exact RetLB.of (hR.out.trans (if_pos (by simp))) (HV.out.mono hz) (ball (ball hb1 hb2) hb3)

set_option maxHeartbeats 1600000 in
set_option maxRecDepth 100000 in
theorem specReduced_c (n : Int) (adl : Option Addr) (capl : Nat) (ls : List Lk) (a : Addr) (cap : Nat) (d : List Int) (q : Int) (w : World) (hl : ls.length ≤ 1048576) (hr : RdL w adl ls) (hl' : d.length ≤ 1048576) (hr' : RdI w (some a) d) :
    Calls Try.prog 47 #[.int .i64 n, .slice adl ls.length capl, .slice (some a) d.length cap, .int .i64 q] w (RetBB (reducedR n ls d q) w) := by
  by_cases hk : askB n ls d q = true
  case neg =>
    have hk' := Bool.eq_false_iff.2 hk
    have hR := Lib.hid (show reducedR n ls d q = (false, false) from if_neg hk)
    go_enter Try.func47, Try.ntmps47
    go_wp2_with fail
    refine (rdAsked_any n adl capl ls (some a) cap d q _ hl hr hl' hr').mono ?_
    rw [hk']
    rintro e w1 ⟨rfl, hb1⟩
    go_wp2
    go_ret2
    exact RetBB.of hR.out hb1
  case pos =>
    obtain ⟨hgm, hq0, hq1⟩ := askB_t hk
    obtain ⟨hg, hc, hdl, hda⟩ := gameB_t hgm
    obtain ⟨hn1, hn2⟩ := good_n hg
    obtain ⟨N, rfl⟩ : ∃ N : Nat, n = N := ⟨n.toNat, by omega⟩
    obtain ⟨q, rfl⟩ : ∃ k : Nat, q = k := ⟨q.toNat, by omega⟩
    have hdN : d.length = N := by omega
    have HG := Lib.hid hg
    have hasked := fun w => rdAsked_any N adl capl ls (some a) cap d q w hl
    rw [hk] at hasked
    rw [hdN] at hasked ⊢
    have HA := Lib.hid hasked; clear hasked
    have how := fun w => rdOwes_any N q (some a) cap d w (by omega) hdN
    have hR := Lib.hid (show reducedR N ls d q = (!owesB N q (fd d) && fullB N (betF ls) (fd d) q, true) from if_pos hk)
    generalize owesB N q (fd d) = ow at how hR
    have HOW := Lib.hid how; clear how
    have HDN := Lib.hid hdN; clear hdN hdl hda hgm hk hc
    cases ow
    case true =>
      go_enter Try.func47, Try.ntmps47
      go_wp2_with fail
      refine (HA.out _ hr (by rw [← HDN.out]; exact hl') hr').mono ?_
      rintro e w1 ⟨rfl, hb1⟩
      go_wp2_with fail
      refine (HOW.out _ (hr'.below hb1)).mono ?_
      rintro e w' ⟨rfl, rfl⟩
      go_wp2
      go_ret2
      exact RetBB.of hR.out hb1
    case false =>
      have hfl := full_len (N := N) (bet := betF ls) (c := fd d) (q := q)
      have hsl := selF_len N (burnB N (betF ls) (fd d) q)
      go_enter Try.func47, Try.ntmps47
      have HFL := Lib.hid hfl; clear hfl
      go_wp2_with fail
      refine (HA.out _ hr (by rw [← HDN.out]; exact hl') hr').mono ?_
      rintro e w1 ⟨rfl, hb1⟩
      go_wp2_with fail
      refine (HOW.out _ (hr'.below hb1)).mono ?_
      rintro e w' ⟨rfl, rfl⟩
      go_wp2_with fail
      refine (rdBurnt_any N adl capl ls (some a) cap d q _ hl (hr.below hb1) HG.out HDN.out (hr'.below hb1) (by omega)).mono ?_
      rw [Int.toNat_natCast]
      rintro e w2 ⟨g, cp, rfl, hgl, hcp, ho, hb2⟩
      clear ho hcp
      generalize (selF N (burnB N (betF ls) (fd d) q)).length = len at HFL hsl ⊢
      go_wp2_with fail
      go_ret2
      exact RetBB.of (hR.out.trans (by rw [← HFL.out]; simp [Bool.beq_eq_decide_eq]; omega)) (ball hb1 hb2)

set_option maxHeartbeats 1600000 in
set_option maxRecDepth 100000 in
theorem implReduced_c (n : Int) (adl : Option Addr) (capl : Nat) (ls : List Lk) (a : Addr) (cap : Nat) (d : List Int) (q : Int) (w : World) (hl : ls.length ≤ 1048576) (hr : RdL w adl ls) (hl' : d.length ≤ 1048576) (hr' : RdI w (some a) d) :
    Calls Try.prog 45 #[.int .i64 n, .slice adl ls.length capl, .slice (some a) d.length cap, .int .i64 q] w (RetBB (reducedR n ls d q) w) := by
  by_cases hg : goodL n ls = true
  case neg =>
    have hg' := Bool.eq_false_iff.2 hg
    have hR := Lib.hid (show reducedR n ls d q = (false, false) from if_neg (fun h => hg (gameB_t (askB_t h).1).1))
    go_enter Try.func45, Try.ntmps45
    go_wp2_with fail
    refine (gameAt_no n adl capl ls _ _ _ hl hr hg').mono ?_
    rintro e w1 ⟨rfl, hb1⟩
    go_wp2
    go_ret2
    exact RetBB.of hR.out hb1
  case pos =>
    have HG := Lib.hid hg
    by_cases hk : askB n ls d q = true
    case neg =>
      have hk' := Bool.eq_false_iff.2 hk
      have hR := Lib.hid (show reducedR n ls d q = (false, false) from if_neg hk)
      go_enter Try.func45, Try.ntmps45
      go_wp2_with fail
      refine (gameAt_any n adl capl ls (some a) cap d q _ hl hr hl' hr' HG.out).mono ?_
      rw [hk']
      rintro e w1 ⟨G, gb, gv, capb, rb, rfl, hG, hGB, hGV, hb1⟩
      clear hG
      go_wp2
      go_ret2
      exact RetBB.of hR.out hb1
    case pos =>
      obtain ⟨hgm, hq0, hq1⟩ := askB_t hk
      obtain ⟨_, hc, hdl, hda⟩ := gameB_t hgm
      obtain ⟨hn1, hn2⟩ := good_n hg
      obtain ⟨N, rfl⟩ : ∃ N : Nat, n = N := ⟨n.toNat, by omega⟩
      obtain ⟨q, rfl⟩ : ∃ k : Nat, q = k := ⟨q.toNat, by omega⟩
      have hdN : d.length = N := by omega
      have hasked := fun w => gameAt_any N adl capl ls (some a) cap d q w hl
      rw [hk] at hasked
      rw [hdN] at hasked ⊢
      have HA := Lib.hid hasked; clear hasked
      have how := fun w => hasDebt_any N q (some a) cap d w (by omega) hdN
      have hR := Lib.hid (show reducedR N ls d q = (!owesB N q (fd d) && fullB N (betF ls) (fd d) q, true) from if_pos hk)
      generalize owesB N q (fd d) = ow at how hR
      have HOW := Lib.hid how; clear how
      have HDN := Lib.hid hdN; clear hdN hdl hda hgm hk hc hg
      cases ow
      case true =>
        go_enter Try.func45, Try.ntmps45
        go_wp2_with fail
        refine (HA.out _ hr (by rw [← HDN.out]; exact hl') hr' HG.out).mono ?_
        rintro e w1 ⟨G, gb, gv, capb, rb, rfl, hG, hGB, hGV, hb1⟩
        clear hG
        go_wp2_with fail
        refine (HOW.out _ (hr'.below hb1)).mono ?_
        rintro e w' ⟨rfl, rfl⟩
        go_wp2
        go_ret2
        exact RetBB.of hR.out hb1
      case false =>
        have hfl := full_marks (N := N) (bet := betF ls) (c := fd d) (q := q)
        have HFL := Lib.hid hfl; clear hfl
        go_enter Try.func45, Try.ntmps45
        go_wp2_with fail
        refine (HA.out _ hr (by rw [← HDN.out]; exact hl') hr' HG.out).mono ?_
        rintro e w1 ⟨G, gb, gv, capb, rb, rfl, hG, hGB, hGV, hb1⟩
        rw [Int.toNat_natCast] at hG
        have HGR := Lib.hid hG; clear hG
        go_wp2_with fail
        refine (HOW.out _ (hr'.below hb1)).mono ?_
        rintro e w' ⟨rfl, rfl⟩
        go_wp2_with fail
        refine (burnt_any G gb gv capb rb N ls q (some a) cap d _ HGR.out HG.out (by omega) HDN.out (hr'.below hb1)).mono ?_
        rintro e w2 ⟨g, rfl, hgl, ho, hb2⟩
        have hpl := contains_any (some ⟨g, 0, none⟩) N (tab N (mk01 (burnB N (betF ls) (fd d) q))) 0 w2 (by rw [tab_length]; omega) ho.rd
        rw [tab_length] at hpl
        generalize decide ((0 : Int) ∈ tab N (mk01 (burnB N (betF ls) (fd d) q))) = cz at hpl HFL
        have HPL := Lib.hid hpl; clear hpl ho
        go_wp2_with fail
        refine HPL.out.mono ?_
        rintro e w' ⟨rfl, rfl⟩
        go_wp2_with fail
        go_ret2
        exact RetBB.of (hR.out.trans (by rw [← HFL.out]; simp)) (ball hb1 hb2)

end Go.Proofs.Ytmhmdbmiimpbnaa
