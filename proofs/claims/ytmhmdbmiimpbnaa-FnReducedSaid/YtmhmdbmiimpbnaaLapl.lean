/-
  The matrix of a graph as it is handed back: impl.clones, laplacian, LaplacianOf of both sides.
-/
import Derived.Test.YtmhmdbmiimpbnaaMat
namespace Go.Proofs.Ytmhmdbmiimpbnaa
open Go.RowKit

/-- N rows of N numbers in memory of the call's own. -/
structure MatC (w : World) (B g : Nat) (rb cb : Nat → Nat) (N : Nat) (M : Nat → Nat → Int) : Prop where
  hg : B ≤ g
  hb : Own w g 30 (tab N fun i => .slice (some ⟨rb i, 0, none⟩) N (cb i))
  hr : ∀ i, i < N → B ≤ rb i ∧ Own w (rb i) 3 (ints (tab N (M i)))
  inj : ∀ i j, i < N → j < N → i ≠ j → rb i ≠ rb j

section
variable {w w' : World} {B g : Nat} {rb cb : Nat → Nat} {N : Nat} {M : Nat → Nat → Int}
theorem MatC.resR (h : MatC w B g rb cb N M) (cap : Nat) : ResR w B (.slice (some ⟨g, 0, none⟩) N cap) (tab N fun i => tab N (M i)) := by
  have hl : (tab N fun i => tab N (M i)).length = N := tab_length _ _
  refine Or.inr ⟨g, cap, _, by rw [hl], h.hg, h.hb, by rw [tab_length, hl], fun i hi => ?_, fun i j hi hj hij q hq => ?_⟩
  · rw [hl] at hi
    rw [tab_getD hi, tab_getD hi]
    exact Or.inr ⟨rb i, cb i, by rw [tab_length], (h.hr i hi).1, (h.hr i hi).2⟩
  · rw [hl] at hi hj
    rw [tab_getD hi] at hq
    rw [tab_getD hj]
    simp only [Value.ownBlock, Option.some.injEq] at hq ⊢
    rw [← hq]
    intro e; simp only [Option.some.injEq] at e; exact h.inj j i hj hi (Ne.symm hij) e
theorem MatC.congr {M' : Nat → Nat → Int} (h : MatC w B g rb cb N M) (e1 : ∀ i j, i < N → j < N → M i j = M' i j) : MatC w B g rb cb N M' :=
  ⟨h.hg, h.hb, fun i hi => ⟨(h.hr i hi).1, (h.hr i hi).2.congr (by rw [tab_congr fun j hj => e1 i j hi hj])⟩, h.inj⟩
theorem MatC.row (h : MatC w B g rb cb N M) {i : Nat} (hi : i < N) : w.cell? ⟨g, i, none⟩ = some (.slice (some ⟨rb i, 0, none⟩) N (cb i)) := h.hb.cell? (tab_get hi)
theorem MatC.cb' (h : MatC w B g rb cb N M) {i j : Nat} (hi : i < N) (hj : j < N) : w.cell? ⟨rb i, j, none⟩ = some (.int .i64 (M i j)) := by
  refine (h.hr i hi).2.cell? ?_
  rw [ints_get (by rw [tab_length]; exact hj), tab_getD hj]
theorem MatC.nbr (h : MatC w B g rb cb N M) {i : Nat} (hi : i < N) : g ≠ rb i := h.hb.ne_of_type (h.hr i hi).2 (by decide)
theorem MatC.drew (h : MatC w B g rb cb N M) : MatC w.drew B g rb cb N M := ⟨h.hg, h.hb, h.hr, h.inj⟩
theorem MatC.set (h : MatC w B g rb cb N M) {a : Nat} (b : Nat) (ha : a < N) (x : Int) :
    MatC (w.setCell ⟨rb a, b, none⟩ (.int .i64 x)) B g rb cb N (fun i j => if i = a ∧ j = b then x else M i j) := by
  refine ⟨h.hg, h.hb.setOther (h.nbr ha) _, fun i hi => ⟨(h.hr i hi).1, ?_⟩, h.inj⟩
  by_cases e : i = a
  · subst e
    have := (h.hr i hi).2.set b (.int .i64 x)
    rw [ints_set, tab_set] at this
    refine this.congr ?_
    congr 1
    exact tab_congr fun j _ => by by_cases q : j = b <;> simp [q]
  · refine ((h.hr i hi).2.setOther (a := ⟨rb a, b, none⟩) (h.inj i a hi ha e) (.int .i64 x)).congr ?_
    congr 1
    exact tab_congr fun j _ => by simp [e]
end
theorem MatAt.matC {w : World} {gb : Nat} {rb : Nat → Nat} {N : Nat} {M : Nat → Nat → Int} (h : MatAt w gb rb N M) {B : Nat} (hg : B ≤ gb) (hr : ∀ i, i < N → B ≤ rb i) : MatC w B gb rb (fun _ => N) N M :=
  ⟨hg, h.hb, fun i hi => ⟨hr i hi, h.hr i hi⟩, h.inj⟩

/-- The copies so far. -/
structure C1 (w0 : World) (N k : Nat) (M : Nat → Nat → Int) (v : Value) (rb cb : Nat → Nat) (wr : World) : Prop where
  row : wr.ownsRow w0.heap.size 30 1 v k (tab k fun i => .slice (some ⟨rb i, 0, none⟩) N (cb i))
  hr : ∀ i, i < k → w0.heap.size ≤ rb i ∧ Own wr (rb i) 3 (ints (tab N (M i)))
  inj : ∀ i j, i < k → j < k → i ≠ j → rb i ≠ rb j
  bel : Below w0.heap.size w0 wr

theorem C1.step {w0 wr w1 w2 : World} {N k : Nat} {M : Nat → Nat → Int} {v v' : Value} {rb cb : Nat → Nat} (h : C1 w0 N k M v rb cb wr) (g c : Nat)
    (hg : wr.heap.size ≤ g) (ho : Own w1 g 3 (ints (tab N (M k)))) (hb : Below wr.heap.size wr w1)
    (hown : w2.ownsRow w0.heap.size 30 1 v' (k + 1) ((tab k fun i => .slice (some ⟨rb i, 0, none⟩) N (cb i)) ++ [.slice (some ⟨g, 0, none⟩) N c])) (hgrow : w1.grownBy w2 v.ownBlock) :
    C1 w0 N (k + 1) M v' (fun i => if i = k then g else rb i) (fun i => if i = k then c else cb i) w2 := by
  have hs := h.bel.size
  have keep : ∀ {q : Nat} {cs : List Value}, Own wr q 3 cs → Own w2 q 3 cs := fun ho => (ho.belowAll hb).grown hgrow (ownsRow_ne h.row ho (by decide))
  have hnew : Own w2 g 3 (ints (tab N (M k))) := ho.grown hgrow (fun e => by have := (h.row.lt _ e).2; omega)
  refine ⟨?_, ?_, ?_, ?_⟩
  · have e : (tab k fun i => Value.slice (some ⟨rb i, 0, none⟩) N (cb i)) ++ [.slice (some ⟨g, 0, none⟩) N c] = tab (k + 1) fun i => .slice (some ⟨if i = k then g else rb i, 0, none⟩) N (if i = k then c else cb i) := by
      rw [tab_succ]
      congr 1
      · exact tab_congr fun i hi => by rw [if_neg (by omega), if_neg (by omega)]
      · simp
    rw [← e]
    exact hown
  · intro i hi
    by_cases e : i = k
    · subst e
      simp only [if_true]
      exact ⟨by omega, hnew⟩
    · simp only [if_neg e]
      obtain ⟨r1, r2⟩ := h.hr i (by omega)
      exact ⟨r1, keep r2⟩
  · intro i j hi hj hij
    by_cases e : i = k
    · subst e
      have := (h.hr j (by omega)).2.lt
      simp only [if_true, if_neg (Ne.symm hij)]
      omega
    · by_cases e' : j = k
      · subst e'
        have := (h.hr i (by omega)).2.lt
        simp only [if_true, if_neg hij]
        omega
      · simp only [if_neg e, if_neg e']
        exact h.inj i j (by omega) (by omega) hij
  · exact ((h.bel.trans (hb.mono hs))).grown hgrow (Nat.le_trans hs hb.size) (fun q e => (h.row.lt _ e).1)

theorem ownsRow_bel {B : Nat} {e : TypeId} {k : Nat} {v : Value} {n : Nat} {xs : List Value} {w w' : World} (h : w.ownsRow B e k v n xs) (hb : Below w.heap.size w w') : w'.ownsRow B e k v n xs :=
  h.kept (row := none) ⟨hb.os, hb.tape, hb.output, hb.size, fun j hj _ => hb.block j hj⟩ (by cases hv : v.ownBlock <;> simp)

set_option maxHeartbeats 800000 in
set_option maxRecDepth 100000 in
theorem clones_any (gb capb : Nat) (rb : Nat → Nat) (N : Nat) (M : Nat → Nat → Int) (w : World) (h0 : 0 < N) (hN : N ≤ 4096) (hb : Own w gb 30 (tab N fun i => .slice (some ⟨rb i, 0, none⟩) N N))
    (hr : ∀ i, i < N → Own w (rb i) 3 (ints (tab N (M i)))) :
    Calls Try.prog 104 #[.slice (some ⟨gb, 0, none⟩) N capb] w fun e w' => ∃ g cap rb' cb', e = .returned (.slice (some ⟨g, 0, none⟩) N cap) ∧ MatC w' w.heap.size g rb' cb' N M ∧ Below w.heap.size w w' := by
  obtain ⟨i0, hi0, hz0, hz1, hz2⟩ := info_parts Try.infoII
  have HB := Lib.hid hb; clear hb
  have HR := Lib.hid hr; clear hr
  go_enter Try.func104, Try.ntmps104
  go_wp2_with fail
  go_loopw [3, 9] (fun v i wr => ∃ k : Nat, k ≤ N ∧ i = .int .i64 k ∧ ∃ rb' cb', C1 w N k M v rb' cb' wr) (fun _ i _ => N - (intOf i).toNat)
  case atStart => exact ⟨0, Nat.zero_le _, rfl, fun _ => 0, fun _ => 0, row_empty _ _, fun i hi => by omega, fun i j hi => by omega, (Below.refl _ _).alloc (Nat.le_refl _) _⟩
  case round =>
    obtain ⟨k, hk, rfl, rb', cb', hI⟩ := hrel
    have hsz := hI.bel.size
    by_cases hlt : k < N
    · have r0 := (HB.out.belowAll hI.bel).cell? (tab_get hlt)
      have r1 := ((HR.out k hlt).belowAll hI.bel).rd
      have lg := (HB.out.belowAll hI.bel).lt
      have HI := Lib.hid hI; clear hI
      have hlen := tab_length N (M k)
      obtain ⟨xs, hxs⟩ : ∃ xs, tab N (M k) = xs := ⟨_, rfl⟩
      rw [hxs] at r1 hlen
      have hc := clone_any ⟨rb k, 0, none⟩ N xs wr (by omega) r1
      rw [hlen] at hc
      have HX := Lib.hid hxs; clear hxs r1
      go_wp2_with fail
      refine hc.mono ?_
      rintro e w1 ⟨v1, rfl, hv1, hb1⟩
      rcases hv1 with ⟨_, h⟩ | ⟨g, c, hv, hg, ho⟩
      · rw [h] at hlen; simp at hlen; omega
      rw [hlen] at hv
      subst hv
      have HN := Lib.hid ho; clear ho
      have HO := Lib.hid (ownsRow_bel HI.out.row hb1)
      have hs1 := hb1.size
      clear hc
      have HLen := Lib.hid hlen; clear hlen
      go_wp2_with (at_builtin; refine wpList_append_lies _ rfl _ _ _ rfl w.heap.size 30 i0 _ 1 24 Try.underlying27 hi0 hz0 hz1 hz2 rfl (by omega) _ k _ rfl (HO.out.alloc _) ⟨w1.heap.size, 0, none⟩ 1 1 [.slice (some ⟨g, 0, none⟩) N c] rfl rfl (World.news_of_block (cs := #[.slice (some ⟨g, 0, none⟩) N c]) (t := 30) (fr := (0, 0)) (heap_alloc_new _ _)) (by simp [Value.oneCell']) (by omega) (by unfold maxLen; omega) (by omega) (by simp; omega) (w1.heap.size + 1) (by simp) ?_; intro gg gcap w2 hown1 hgrow hat hltg)
      go_roundw
      case rel =>
        exact ⟨k + 1, by omega, by go_num, _, _, HI.out.step g c hg ((HN.out.congr (by rw [HX.out])).alloc _) (hb1.alloc hs1 _) hown1 hgrow⟩
      case measure => simp [intOf]; omega
    · have he : k = N := by omega
      subst he
      have HI := Lib.hid hI; clear hI
      rcases Own.of_row HI.out.row with ⟨_, h1, _⟩ | ⟨g, cap, rfl, hg, hcap, hcm, hob⟩
      · omega
      have HOB := Lib.hid hob; clear hob
      go_wp2
      go_ret
      exact ⟨g, cap, rb', cb', rfl, ⟨hg, HOB.out, HI.out.hr, HI.out.inj⟩, HI.out.bel⟩

set_option maxHeartbeats 1600000 in
set_option maxRecDepth 100000 in
theorem laplacian_any (G gb gv capb : Nat) (rb : Nat → Nat) (N : Nat) (bet : Nat → Nat → Int) (val : Nat → Int) (ed : Int) (w : World) (hG : GrAt w G gb gv capb rb N bet val ed) (h0 : 0 < N) (hN : N ≤ 4096)
    (hbt : ∀ i j, i < N → j < N → 0 ≤ bet i j ∧ bet i j ≤ 10485760) :
    Calls Try.prog 56 #[.pointer (some ⟨G, 0, none⟩)] w fun e w' => ∃ g cap rb' cb', e = .returned (.slice (some ⟨g, 0, none⟩) N cap) ∧ MatC w' w.heap.size g rb' cb' N (lapE bet val) ∧ Below w.heap.size w w' := by
  have HG := Lib.hid hG; clear hG
  have HB := Lib.hid hbt; clear hbt
  have c1 := HG.out.c1
  go_enter Try.func56, Try.ntmps56
  go_wp2_with fail
  refine (clones_any gb capb rb N bet w h0 hN HG.out.hb HG.out.hr).mono ?_
  rintro e w1 ⟨g, cap, rb', cb', rfl, hm, hb1⟩
  have HM := Lib.hid hm; clear hm
  go_wp2_with fail
  go_loopw [14] (fun i wr => ∃ k : Nat, k ≤ N ∧ i = .int .i64 k ∧ MatC wr w.heap.size g rb' cb' N (fun i j => if i < k then lapE bet val i j else bet i j) ∧ Below w.heap.size w wr) (fun i _ => N - (intOf i).toNat)
  case atStart => exact ⟨0, Nat.zero_le _, rfl, HM.out.congr (fun i j _ _ => by rw [if_neg (by omega)]), hb1⟩
  case round =>
    obtain ⟨k, hk, rfl, hI, hbel⟩ := hrel
    by_cases hlt : k < N
    · have r0 := hI.row hlt
      have HI := Lib.hid hI; clear hI
      have hbw := hbel
      clear hbel
      obtain ⟨wo, rfl⟩ : ∃ wo : World, wo = wr := ⟨_, rfl⟩
      go_wp2_with fail
      go_loopw [21] (fun i wr => ∃ m : Nat, m ≤ N ∧ i = .int .i64 m ∧ MatC wr w.heap.size g rb' cb' N (fun i j => if i < k then lapE bet val i j else if i = k ∧ j < m then - bet i j else bet i j) ∧ Below w.heap.size w wr) (fun i _ => N - (intOf i).toNat)
      case atStart => exact ⟨0, Nat.zero_le _, rfl, HI.out.congr (fun i j _ _ => by by_cases h : i < k; rw [if_pos h, if_pos h]; rw [if_neg h, if_neg h, if_neg (by omega)]), hbw⟩
      case round =>
        obtain ⟨m, hm, rfl, hI2, hbel2⟩ := hrel
        have lo := (hI2.hr k hlt).1
        by_cases hlt2 : m < N
        · have c0 := hI2.cb' hlt hlt2
          have hv0 : (if k < k then lapE bet val k m else if k = k ∧ m < m then - bet k m else bet k m) = bet k m := by rw [if_neg (by omega), if_neg (by omega)]
          rw [hv0] at c0
          clear hv0
          obtain ⟨hx0, hx1⟩ := HB.out k m hlt hlt2
          obtain ⟨x, hx⟩ : ∃ x, bet k m = x := ⟨_, rfl⟩
          rw [hx] at c0 hx0 hx1
          have hwr : IntKind.i64.wrap (-x) = -x := i64_small (by omega) (by omega)
          have f0 := (hI2.hr k hlt).2.frozen m
          have st := hI2.set m hlt (-x)
          have hbs := hbel2.size
          have HST := Lib.hid st; clear st
          have HX := Lib.hid hx; clear hx
          have HI2 := Lib.hid hI2; clear hI2
          go_wp2
          go_roundw
          case rel =>
            refine ⟨m + 1, by omega, by go_num, HST.out.congr (fun i j _ _ => ?_), hbel2.setCell lo _⟩
            by_cases e : i = k ∧ j = m
            · obtain ⟨rfl, rfl⟩ := e
              rw [if_pos ⟨rfl, rfl⟩, if_neg (by omega), if_pos (by omega), HX.out]
            · rw [if_neg e]
              by_cases h1 : i < k
              · rw [if_pos h1, if_pos h1]
              · rw [if_neg h1, if_neg h1]
                by_cases h2 : i = k ∧ j < m
                · rw [if_pos h2, if_pos (by omega)]
                · rw [if_neg h2, if_neg (by omega)]
          case measure => simp [intOf]; omega
        · have he : m = N := by omega
          subst he
          have hGw := HG.out.below hbel2
          have c2 := hGw.c2
          have cv := hGw.cv hlt
          obtain ⟨x, hx⟩ : ∃ x, val k = x := ⟨_, rfl⟩
          rw [hx] at cv
          have HX := Lib.hid hx; clear hx
          clear hGw
          have f0 := (hI2.hr k hlt).2.frozen k
          have ck := hI2.cb' hlt hlt
          generalize (if k < k then lapE bet val k k else if k = k ∧ k < m then - bet k k else bet k k) = z at ck
          have st := hI2.set k hlt x
          have HST := Lib.hid st; clear st
          have HI2 := Lib.hid hI2; clear hI2
          go_wp2
          go_roundw
          case rel =>
            refine ⟨k + 1, by omega, by go_num, HST.out.congr (fun i j _ hj => ?_), hbel2.setCell lo _⟩
            by_cases e : i = k ∧ j = k
            · obtain ⟨rfl, rfl⟩ := e
              rw [if_pos ⟨rfl, rfl⟩, if_pos (by omega), ← HX.out]
              unfold lapE
              rw [if_pos rfl]
            · rw [if_neg e]
              by_cases h1 : i < k
              · rw [if_pos h1, if_pos (by omega)]
              · rw [if_neg h1]
                by_cases h2 : i = k
                · subst h2
                  rw [if_pos ⟨rfl, hj⟩, if_pos (by omega)]
                  unfold lapE
                  rw [if_neg (by omega)]
                · rw [if_neg (by omega), if_neg (by omega)]
          case measure => simp [intOf]; omega
    · have he : k = N := by omega
      subst he
      have HI := Lib.hid hI; clear hI
      go_wp2
      go_ret
      exact ⟨g, cap, rb', cb', rfl, HI.out.congr (fun i j hi _ => by rw [if_pos hi]), hbel⟩

/-- What LaplacianOf answers. -/
def laplR (n : Int) (ls : List Lk) : List (List Int) × Bool := if goodL n ls = true then (tab n.toNat fun i => tab n.toNat (lapF ls i), true) else ([], false)
theorem laplR_small (n : Int) (ls : List Lk) : smallR (laplR n ls).1 := by
  unfold laplR
  split
  · rename_i h
    have := good_n h
    refine ⟨by rw [tab_length]; omega, fun i hi => ?_⟩
    rw [tab_length] at hi
    rw [tab_getD hi, tab_length]; omega
  · exact ⟨by simp, fun i hi => by simp at hi⟩
def RetRB (r : List (List Int) × Bool) (w : World) (e : Ending) (w' : World) : Prop := ∃ v, e = .returned (.tuple #[v, .bool r.2]) ∧ ResR w' w.heap.size v r.1 ∧ Below w.heap.size w w'
theorem RetRB.of {r : List (List Int) × Bool} {w w' : World} {v : Value} {a : List (List Int)} {b : Bool} (h : r = (a, b)) (hv : ResR w' w.heap.size v a) (hb : Below w.heap.size w w') : RetRB r w (.returned (.tuple #[v, .bool b])) w' := by subst h; exact ⟨v, rfl, hv, hb⟩
theorem RetRB.no {r : List (List Int) × Bool} {w w' : World} (h : r = ([], false)) (hb : Below w.heap.size w w') : RetRB r w (.returned (.tuple #[.slice none 0 0, .bool false])) w' := RetRB.of h (Or.inl ⟨rfl, rfl⟩) hb

set_option maxHeartbeats 800000 in
theorem specLapl_c (n : Int) (ad : Option Addr) (cap : Nat) (ls : List Lk) (w : World) (hl : ls.length ≤ 1048576) (hr : RdL w ad ls) :
    Calls Try.prog 9 #[.int .i64 n, .slice ad ls.length cap] w (RetRB (laplR n ls) w) := by
  have HR := Lib.hid hr; clear hr
  by_cases hgl : goodL n ls = true
  · have hR : Hid (laplR n ls = (tab n.toNat fun i => tab n.toNat (lapF ls i), true)) := if_pos hgl
    have HGL := Lib.hid hgl
    go_enter Try.func9, Try.ntmps9
    go_wp2_with fail
    refine (chGood_any n ad cap ls _ hl HR.out).mono ?_
    rw [hgl]
    rintro e w1 ⟨rfl, hb1⟩
    clear hgl
    go_wp2_with fail
    refine (chLap_any n ad cap ls _ hl (HR.out.below hb1) HGL.out).mono ?_
    rintro e w2 ⟨gb, capb, rb, rfl, hm, hgb, hrb, hb2⟩
    have HM := Lib.hid (hm.matC hgb hrb); clear hm hgb hrb
    go_wp2
    go_ret2
    exact RetRB.of hR.out ((HM.out.resR capb).mono hb1.size) (ball hb1 hb2)
  · have hR : Hid (laplR n ls = ([], false)) := if_neg hgl
    have hgf : goodL n ls = false := by simpa using hgl
    go_enter Try.func9, Try.ntmps9
    go_wp2_with fail
    refine (chGood_any n ad cap ls _ hl HR.out).mono ?_
    rw [hgf]
    rintro e w1 ⟨rfl, hb1⟩
    go_wp2
    go_ret2
    exact RetRB.no hR.out hb1

set_option maxHeartbeats 800000 in
theorem implLapl_c (n : Int) (ad : Option Addr) (cap : Nat) (ls : List Lk) (w : World) (hl : ls.length ≤ 1048576) (hr : RdL w ad ls) :
    Calls Try.prog 8 #[.int .i64 n, .slice ad ls.length cap] w (RetRB (laplR n ls) w) := by
  have HR := Lib.hid hr; clear hr
  by_cases hgl : goodL n ls = true
  · have hR : Hid (laplR n ls = (tab n.toNat fun i => tab n.toNat (lapF ls i), true)) := if_pos hgl
    have HGL := Lib.hid hgl
    have hn := good_n hgl
    go_enter Try.func8, Try.ntmps8
    go_wp2_with fail
    refine (graphOf_any n ad cap ls _ hl HR.out hgl).mono ?_
    rintro e w1 ⟨G, gb, gv, capb, rb, rfl, hG, hGG, hGV, hb1⟩
    clear hgl
    have HG := Lib.hid hG; clear hG
    go_wp2_with fail
    refine (laplacian_any G gb gv capb rb n.toNat _ _ _ _ HG.out (by omega) (by omega) (fun i j _ _ => by have := betF_bound HGL.out ls.length i j; rw [List.take_length] at this; omega)).mono ?_
    rintro e w2 ⟨g, cap', rb', cb', rfl, hm, hb2⟩
    have HM := Lib.hid (hm.congr (M' := lapF ls) (fun i j _ _ => lapE_lapF ls i j)); clear hm
    go_wp2
    go_ret2
    exact RetRB.of hR.out ((HM.out.resR cap').mono hb1.size) (ball hb1 hb2)
  · have hR : Hid (laplR n ls = ([], false)) := if_neg hgl
    have hgf : goodL n ls = false := by simpa using hgl
    go_enter Try.func8, Try.ntmps8
    go_wp2_with fail
    refine (graphOf_no n ad cap ls _ hl HR.out hgf).mono ?_
    rintro e w1 ⟨rfl, hb1⟩
    go_wp2
    go_ret2
    exact RetRB.no hR.out hb1

end Go.Proofs.Ytmhmdbmiimpbnaa
