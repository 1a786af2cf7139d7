/-
  The matrix of a graph once more, with the room of its rows.
-/
import Derived.Test.YtopkohkilmlpaaaLapl
namespace Go.Proofs.Ytopkohkilmlpaaa
open Go.RowKit

set_option maxHeartbeats 400000 in
theorem clone_cap (a : Addr) (cap : Nat) (xs : List Int) (w : World) (hl : xs.length ≤ 1048576) (hpos : 0 < xs.length) (hr : RdI w (some a) xs) :
    Calls Try.prog 79 #[.slice (some a) xs.length cap] w fun e w' => ∃ g cap', e = .returned (.slice (some ⟨g, 0, none⟩) xs.length cap') ∧ xs.length ≤ cap' ∧ w.heap.size ≤ g ∧ Own w' g 3 (ints xs) ∧ Below w.heap.size w w' := by
  obtain ⟨i0, hi0, hz0, hz1, hz2⟩ := info_parts Try.infoI
  have hnl := fun (w : World) (a : Option Addr) (l c : Nat) => Lib.run_eql_slice_nil (P := Try.prog) w 23 3 a l c 0 0 Try.underlying23
  have hb0 : Below w.heap.size w (w.alloc (.cells #[] 3)) := (Below.refl _ _).alloc (Nat.le_refl _) _
  have hr1 := hr.below hb0
  have HO := Lib.hid (row_empty w 3)
  have HN := Lib.hid hr1.news
  clear hr hr1
  go_enter Try.func79, Try.ntmps79
  go_wp2_with (at_builtin; refine wpList_append_own _ rfl _ _ 23 rfl w.heap.size 3 i0 _ 1 8 Try.underlying23 hi0 hz0 hz1 hz2 rfl (by decide) (.slice (some ⟨w.heap.size, 0, none⟩) 0 0) 0 [] rfl HO.out a xs.length cap (ints xs) rfl (by rw [ints_length]; omega) HN.out (ints_oneCell xs) (by unfold maxLen; omega) (by omega) (by simp) ?_; intro v' w2 hown hgrow hnil)
  clear hnil
  rcases Own.of_row hown with ⟨_, h1, _⟩ | ⟨g, cap', rfl, hg, hcap, _, ho⟩
  · omega
  have HOO := Lib.hid ho; clear ho
  have HB2 := Lib.hid (hb0.grown hgrow (by simp) (fun q e => by simp [Value.ownBlock] at e; omega)); clear hown hgrow
  go_ret
  exact ⟨g, cap', by simp, by omega, hg, HOO.out, HB2.out⟩


set_option maxHeartbeats 800000 in
set_option maxRecDepth 100000 in
theorem clones_cap (gb capb : Nat) (rb : Nat → Nat) (N : Nat) (M : Nat → Nat → Int) (w : World) (h0 : 0 < N) (hN : N ≤ 4096) (hb : Own w gb 23 (tab N fun i => .slice (some ⟨rb i, 0, none⟩) N N))
    (hr : ∀ i, i < N → Own w (rb i) 3 (ints (tab N (M i)))) :
    Calls Try.prog 82 #[.slice (some ⟨gb, 0, none⟩) N capb] w fun e w' => ∃ g cap rb' cb', e = .returned (.slice (some ⟨g, 0, none⟩) N cap) ∧ MatC w' w.heap.size g rb' cb' N M ∧ N ≤ cap ∧ (∀ i, i < N → N ≤ cb' i) ∧ Below w.heap.size w w' := by
  obtain ⟨i0, hi0, hz0, hz1, hz2⟩ := info_parts Try.infoII
  have HB := Lib.hid hb; clear hb
  have HR := Lib.hid hr; clear hr
  go_enter Try.func82, Try.ntmps82
  go_wp2_with fail
  go_loopw [3, 9] (fun v i wr => ∃ k : Nat, k ≤ N ∧ i = .int .i64 k ∧ ∃ rb' cb', C1 w N k M v rb' cb' wr ∧ ∀ i, i < k → N ≤ cb' i) (fun _ i _ => N - (intOf i).toNat)
  case atStart => exact ⟨0, Nat.zero_le _, rfl, fun _ => 0, fun _ => 0, ⟨row_empty _ _, fun i hi => by omega, fun i j hi => by omega, (Below.refl _ _).alloc (Nat.le_refl _) _⟩, fun i hi => by omega⟩
  case round =>
    obtain ⟨k, hk, rfl, rb', cb', hI, hcp⟩ := hrel
    have HCP := Lib.hid hcp; clear hcp
    have hsz := hI.bel.size
    by_cases hlt : k < N
    · have r0 := (HB.out.belowAll hI.bel).cell? (tab_get hlt)
      have r1 := ((HR.out k hlt).belowAll hI.bel).rd
      have lg := (HB.out.belowAll hI.bel).lt
      have HI := Lib.hid hI; clear hI
      have hlen := tab_length N (M k)
      obtain ⟨xs, hxs⟩ : ∃ xs, tab N (M k) = xs := ⟨_, rfl⟩
      rw [hxs] at r1 hlen
      have hc := clone_cap ⟨rb k, 0, none⟩ N xs wr (by omega) (by omega) r1
      rw [hlen] at hc
      have HX := Lib.hid hxs; clear hxs r1
      go_wp2_with fail
      refine hc.mono ?_
      rintro e w1 ⟨g, c, rfl, hcc, hg, ho, hb1⟩
      have HN := Lib.hid ho; clear ho
      have HO := Lib.hid (ownsRow_bel HI.out.row hb1)
      have hs1 := hb1.size
      clear hc
      have HLen := Lib.hid hlen; clear hlen
      go_wp2_with (at_builtin; refine wpList_append_lies _ rfl _ _ _ rfl w.heap.size 23 i0 _ 1 24 Try.underlying61 hi0 hz0 hz1 hz2 rfl (by omega) _ k _ rfl (HO.out.alloc _) ⟨w1.heap.size, 0, none⟩ 1 1 [.slice (some ⟨g, 0, none⟩) N c] rfl rfl (World.news_of_block (cs := #[.slice (some ⟨g, 0, none⟩) N c]) (t := 23) (fr := (0, 0)) (heap_alloc_new _ _)) (by simp [Value.oneCell']) (by omega) (by unfold maxLen; omega) (by omega) (by simp; omega) (w1.heap.size + 1) (by simp) ?_; intro gg gcap w2 hown1 hgrow hat hltg)
      go_roundw
      case rel =>
        refine ⟨k + 1, by omega, by go_num, _, _, HI.out.step g c hg ((HN.out.congr (by rw [HX.out])).alloc _) (hb1.alloc hs1 _) hown1 hgrow, fun i hi => ?_⟩
        by_cases e : i = k
        · subst e; simpa using hcc
        · simp only [if_neg e]; exact HCP.out i (by omega)
      case measure => simp [intOf]; omega
    · have he : k = N := by omega
      subst he
      have HI := Lib.hid hI; clear hI
      rcases Own.of_row HI.out.row with ⟨_, h1, _⟩ | ⟨g, cap, rfl, hg, hcap, hcm, hob⟩
      · omega
      have HOB := Lib.hid hob; clear hob
      go_wp2
      go_ret
      exact ⟨g, cap, rb', cb', rfl, ⟨hg, HOB.out, HI.out.hr, HI.out.inj⟩, hcap, HCP.out, HI.out.bel⟩

set_option maxHeartbeats 1600000 in
set_option maxRecDepth 100000 in
theorem laplacian_cap (G gb gv capb : Nat) (rb : Nat → Nat) (N : Nat) (bet : Nat → Nat → Int) (val : Nat → Int) (ed : Int) (w : World) (hG : GrAt w G gb gv capb rb N bet val ed) (h0 : 0 < N) (hN : N ≤ 4096)
    (hbt : ∀ i j, i < N → j < N → 0 ≤ bet i j ∧ bet i j ≤ 10485760) :
    Calls Try.prog 54 #[.pointer (some ⟨G, 0, none⟩)] w fun e w' => ∃ g cap rb' cb', e = .returned (.slice (some ⟨g, 0, none⟩) N cap) ∧ MatC w' w.heap.size g rb' cb' N (lapE bet val) ∧ N ≤ cap ∧ (∀ i, i < N → N ≤ cb' i) ∧ Below w.heap.size w w' := by
  have HG := Lib.hid hG; clear hG
  have HB := Lib.hid hbt; clear hbt
  have c1 := HG.out.c1
  go_enter Try.func54, Try.ntmps54
  go_wp2_with fail
  refine (clones_cap gb capb rb N bet w h0 hN HG.out.hb HG.out.hr).mono ?_
  rintro e w1 ⟨g, cap, rb', cb', rfl, hm, hcap, hcp, hb1⟩
  have HCP := Lib.hid hcp; clear hcp
  have HM := Lib.hid hm; clear hm
  go_wp2_with fail
  go_loopw [14] (fun i wr => ∃ k : Nat, k ≤ N ∧ i = .int .i64 k ∧ MatC wr w.heap.size g rb' cb' N (fun i j => if i < k then lapE bet val i j else bet i j) ∧ Below w.heap.size w wr) (fun i _ => N - (intOf i).toNat)
  case atStart => exact ⟨0, Nat.zero_le _, rfl, HM.out.congr (fun i j _ _ => by rw [if_neg (by omega)]), hb1⟩
  case round =>
    obtain ⟨k, hk, rfl, hI, hbel⟩ := hrel
    by_cases hlt : k < N
    · have r0 := hI.row hlt
      have HI := Lib.hid hI; clear hI
      have hbw := hbel
      clear hbel
      obtain ⟨wo, rfl⟩ : ∃ wo : World, wo = wr := ⟨_, rfl⟩
      go_wp2_with fail
      go_loopw [21] (fun i wr => ∃ m : Nat, m ≤ N ∧ i = .int .i64 m ∧ MatC wr w.heap.size g rb' cb' N (fun i j => if i < k then lapE bet val i j else if i = k ∧ j < m then - bet i j else bet i j) ∧ Below w.heap.size w wr) (fun i _ => N - (intOf i).toNat)
      case atStart => exact ⟨0, Nat.zero_le _, rfl, HI.out.congr (fun i j _ _ => by by_cases h : i < k; rw [if_pos h, if_pos h]; rw [if_neg h, if_neg h, if_neg (by omega)]), hbw⟩
      case round =>
        obtain ⟨m, hm, rfl, hI2, hbel2⟩ := hrel
        have lo := (hI2.hr k hlt).1
        by_cases hlt2 : m < N
        · have c0 := hI2.cb' hlt hlt2
          have hv0 : (if k < k then lapE bet val k m else if k = k ∧ m < m then - bet k m else bet k m) = bet k m := by rw [if_neg (by omega), if_neg (by omega)]
          rw [hv0] at c0
          clear hv0
          obtain ⟨hx0, hx1⟩ := HB.out k m hlt hlt2
          obtain ⟨x, hx⟩ : ∃ x, bet k m = x := ⟨_, rfl⟩
          rw [hx] at c0 hx0 hx1
          have hwr : IntKind.i64.wrap (-x) = -x := i64_small (by omega) (by omega)
          have f0 := (hI2.hr k hlt).2.frozen m
          have st := hI2.set m hlt (-x)
          have hbs := hbel2.size
          have HST := Lib.hid st; clear st
          have HX := Lib.hid hx; clear hx
          have HI2 := Lib.hid hI2; clear hI2
          go_wp2
          go_roundw
          case rel =>
            refine ⟨m + 1, by omega, by go_num, HST.out.congr (fun i j _ _ => ?_), hbel2.setCell lo _⟩
            by_cases e : i = k ∧ j = m
            · obtain ⟨rfl, rfl⟩ := e
              rw [if_pos ⟨rfl, rfl⟩, if_neg (by omega), if_pos (by omega), HX.out]
            · rw [if_neg e]
              by_cases h1 : i < k
              · rw [if_pos h1, if_pos h1]
              · rw [if_neg h1, if_neg h1]
                by_cases h2 : i = k ∧ j < m
                · rw [if_pos h2, if_pos (by omega)]
                · rw [if_neg h2, if_neg (by omega)]
          case measure => simp [intOf]; omega
        · have he : m = N := by omega
          subst he
          have hGw := HG.out.below hbel2
          have c2 := hGw.c2
          have cv := hGw.cv hlt
          obtain ⟨x, hx⟩ : ∃ x, val k = x := ⟨_, rfl⟩
          rw [hx] at cv
          have HX := Lib.hid hx; clear hx
          clear hGw
          have f0 := (hI2.hr k hlt).2.frozen k
          have ck := hI2.cb' hlt hlt
          generalize (if k < k then lapE bet val k k else if k = k ∧ k < m then - bet k k else bet k k) = z at ck
          have st := hI2.set k hlt x
          have HST := Lib.hid st; clear st
          have HI2 := Lib.hid hI2; clear hI2
          go_wp2
          go_roundw
          case rel =>
            refine ⟨k + 1, by omega, by go_num, HST.out.congr (fun i j _ hj => ?_), hbel2.setCell lo _⟩
            by_cases e : i = k ∧ j = k
            · obtain ⟨rfl, rfl⟩ := e
              rw [if_pos ⟨rfl, rfl⟩, if_pos (by omega), ← HX.out]
              unfold lapE
              rw [if_pos rfl]
            · rw [if_neg e]
              by_cases h1 : i < k
              · rw [if_pos h1, if_pos (by omega)]
              · rw [if_neg h1]
                by_cases h2 : i = k
                · subst h2
                  rw [if_pos ⟨rfl, hj⟩, if_pos (by omega)]
                  unfold lapE
                  rw [if_neg (by omega)]
                · rw [if_neg (by omega), if_neg (by omega)]
          case measure => simp [intOf]; omega
    · have he : k = N := by omega
      subst he
      have HI := Lib.hid hI; clear hI
      go_wp2
      go_ret
      exact ⟨g, cap, rb', cb', rfl, HI.out.congr (fun i j hi _ => by rw [if_pos hi]), hcap, HCP.out, hbel⟩

end Go.Proofs.Ytopkohkilmlpaaa
