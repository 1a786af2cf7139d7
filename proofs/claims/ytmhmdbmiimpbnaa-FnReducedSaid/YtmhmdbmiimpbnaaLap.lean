/-
  The reference's Laplacian: a matrix in new memory.
-/
import Derived.Test.YtmhmdbmiimpbnaaGraph
namespace Go.Proofs.Ytmhmdbmiimpbnaa
open Go.RowKit

def lapF (ls : List Lk) (i j : Nat) : Int := if i = j then valF ls i else - betF ls i j
theorem lapF_nil (i j : Nat) : lapF [] i j = 0 := by unfold lapF; split <;> simp [valF_nil, betF_nil]
theorem lapF_snoc (l : List Lk) (x : Lk) (i j : Nat) (hx : x.a ≠ x.b) :
    lapF (l ++ [x]) i j = lapF l i j + (if x.a = (i : Int) ∧ x.a = (j : Int) then x.n else 0) + (if x.b = (i : Int) ∧ x.b = (j : Int) then x.n else 0) - (if x.a = (i : Int) ∧ x.b = (j : Int) then x.n else 0) - (if x.b = (i : Int) ∧ x.a = (j : Int) then x.n else 0) := by
  unfold lapF
  rw [valF_snoc, betF_snoc]
  by_cases hij : i = j
  · subst hij
    rw [if_pos rfl, if_pos rfl]
    rw [if_neg (show ¬ (x.a = (i : Int) ∧ x.b = (i : Int)) by omega), if_neg (show ¬ (x.b = (i : Int) ∧ x.a = (i : Int)) by omega)]
    simp only [and_self]
    omega
  · rw [if_neg hij, if_neg hij]
    rw [if_neg (show ¬ (x.a = (i : Int) ∧ x.a = (j : Int)) by omega), if_neg (show ¬ (x.b = (i : Int) ∧ x.b = (j : Int)) by omega)]
    by_cases h1 : x.a = (i : Int) ∧ x.b = (j : Int)
    · rw [if_pos (Or.inl h1), if_pos h1, if_neg (by omega)]; omega
    · by_cases h2 : x.b = (i : Int) ∧ x.a = (j : Int)
      · rw [if_pos (Or.inr ⟨h2.2, h2.1⟩), if_neg h1, if_pos h2]; omega
      · rw [if_neg (by rintro (h | h); exact h1 h; exact h2 ⟨h.2, h.1⟩), if_neg h1, if_neg h2]; omega
theorem lapF_bound {n : Int} {ls : List Lk} (h : goodL n ls = true) (hl : ls.length ≤ 1048576) (k i j : Nat) : -10485760 ≤ lapF (ls.take k) i j ∧ lapF (ls.take k) i j ≤ 10485760 := by
  have h1 := valF_bound h hl k i
  have h2 := betF_bound h k i j
  unfold lapF
  split <;> omega

structure MatAt (w : World) (gb : Nat) (rb : Nat → Nat) (N : Nat) (M : Nat → Nat → Int) : Prop where
  hb : Own w gb 30 (tab N fun i => .slice (some ⟨rb i, 0, none⟩) N N)
  hr : ∀ i, i < N → Own w (rb i) 3 (ints (tab N (M i)))
  inj : ∀ i j, i < N → j < N → i ≠ j → rb i ≠ rb j

section
variable {w w' : World} {gb : Nat} {rb : Nat → Nat} {N : Nat} {M : Nat → Nat → Int}
theorem MatAt.of_block (h : MatAt w gb rb N M) (e : ∀ q, q < w.heap.size → w'.heap[q]? = w.heap[q]?) : MatAt w' gb rb N M :=
  ⟨h.hb.of_block (e _ h.hb.lt), fun i hi => (h.hr i hi).of_block (e _ (h.hr i hi).lt), h.inj⟩
theorem MatAt.below (h : MatAt w gb rb N M) (hb : Below w.heap.size w w') : MatAt w' gb rb N M := h.of_block hb.block
theorem MatAt.alloc (h : MatAt w gb rb N M) (o : Obj) : MatAt (w.alloc o) gb rb N M := h.of_block fun _ hg => Deep.blk_alloc_lt _ _ _ hg
theorem MatAt.drew (h : MatAt w gb rb N M) : MatAt w.drew gb rb N M := h.of_block fun _ _ => rfl
theorem MatAt.congr {M' : Nat → Nat → Int} (h : MatAt w gb rb N M) (e1 : ∀ i j, i < N → j < N → M i j = M' i j) : MatAt w gb rb N M' :=
  ⟨h.hb, fun i hi => (h.hr i hi).congr (by rw [tab_congr fun j hj => e1 i j hi hj]), h.inj⟩
theorem MatAt.row (h : MatAt w gb rb N M) {i : Nat} (hi : i < N) : w.cell? ⟨gb, i, none⟩ = some (.slice (some ⟨rb i, 0, none⟩) N N) := h.hb.cell? (tab_get hi)
theorem MatAt.cb (h : MatAt w gb rb N M) {i j : Nat} (hi : i < N) (hj : j < N) : w.cell? ⟨rb i, j, none⟩ = some (.int .i64 (M i j)) := by
  refine (h.hr i hi).cell? ?_
  rw [ints_get (by rw [tab_length]; exact hj), tab_getD hj]
theorem MatAt.nbr (h : MatAt w gb rb N M) {i : Nat} (hi : i < N) : gb ≠ rb i := h.hb.ne_of_type (h.hr i hi) (by decide)
theorem MatAt.set (h : MatAt w gb rb N M) {a : Nat} (b : Nat) (ha : a < N) (x : Int) :
    MatAt (w.setCell ⟨rb a, b, none⟩ (.int .i64 x)) gb rb N (fun i j => if i = a ∧ j = b then x else M i j) := by
  refine ⟨h.hb.setOther (h.nbr ha) _, fun i hi => ?_, h.inj⟩
  by_cases e : i = a
  · subst e
    have := (h.hr i hi).set b (.int .i64 x)
    rw [ints_set, tab_set] at this
    refine this.congr ?_
    congr 1
    exact tab_congr fun j _ => by by_cases q : j = b <;> simp [q]
  · have := (h.hr i hi).setOther (a := ⟨rb a, b, none⟩) (h.inj i a hi ha e) (.int .i64 x)
    refine this.congr ?_
    congr 1
    exact tab_congr fun j _ => by simp [e]
end

/-- The rows laid so far. -/
structure M1 (w1 : World) (N k : Nat) (v : Value) (rb : Nat → Nat) (wr : World) : Prop where
  row : wr.ownsRow w1.heap.size 30 1 v k (tab k fun i => .slice (some ⟨rb i, 0, none⟩) N N)
  hr : ∀ i, i < k → w1.heap.size ≤ rb i ∧ Own wr (rb i) 3 (ints (tab N fun _ => 0))
  inj : ∀ i j, i < k → j < k → i ≠ j → rb i ≠ rb j
  bel : Below w1.heap.size w1 wr

theorem M1.step {w1 wr w2 : World} {N k : Nat} {v v' : Value} {rb : Nat → Nat} (h : M1 w1 N k v rb wr)
    (hown : w2.ownsRow w1.heap.size 30 1 v' (k + 1) ((tab k fun i => .slice (some ⟨rb i, 0, none⟩) N N) ++ [.slice (some ⟨wr.heap.size, 0, none⟩) N N]))
    (hgrow : ((wr.alloc (.cells (madeCells #[.int .i64 0] N) 3)).alloc (.cells #[.slice (some ⟨wr.heap.size, 0, none⟩) N N] 30)).grownBy w2 v.ownBlock) :
    M1 w1 N (k + 1) v' (fun i => if i = k then wr.heap.size else rb i) w2 := by
  have hsz := h.bel.size
  have keep : ∀ {g : Nat} {cs : List Value}, Own wr g 3 cs → Own w2 g 3 cs := fun ho =>
    ((ho.alloc _).alloc _).grown hgrow (ownsRow_ne h.row ho (by decide))
  have hnew : Own w2 wr.heap.size 3 (ints (tab N fun _ => 0)) := by
    have := ((Own.newA wr _ 3 (madeInts N)).alloc (.cells #[.slice (some ⟨wr.heap.size, 0, none⟩) N N] 30))
    refine this.grown hgrow ?_
    intro e
    have := (h.row.lt _ e).2
    omega
  refine ⟨?_, ?_, ?_, ?_⟩
  · have e : (tab k fun i => Value.slice (some ⟨rb i, 0, none⟩) N N) ++ [.slice (some ⟨wr.heap.size, 0, none⟩) N N] = tab (k + 1) fun i => .slice (some ⟨if i = k then wr.heap.size else rb i, 0, none⟩) N N := by
      rw [tab_succ]
      congr 1
      · exact tab_congr fun i hi => by rw [if_neg (by omega)]
      · simp
    rw [← e]
    exact hown
  · intro i hi
    by_cases e : i = k
    · subst e
      rw [if_pos rfl]
      exact ⟨hsz, hnew⟩
    · rw [if_neg e]
      obtain ⟨r1, r2⟩ := h.hr i (by omega)
      exact ⟨r1, keep r2⟩
  · intro i j hi hj hij
    by_cases e : i = k
    · subst e
      have := (h.hr j (by omega)).2.lt
      rw [if_pos rfl, if_neg (Ne.symm hij)]
      omega
    · by_cases e' : j = k
      · subst e'
        have := (h.hr i (by omega)).2.lt
        rw [if_pos rfl, if_neg hij]
        omega
      · simp only [if_neg e, if_neg e']
        exact h.inj i j (by omega) (by omega) hij
  · exact ((h.bel.alloc hsz _).alloc (by simp; omega) _).grown hgrow (by simp; omega) (fun q e => (h.row.lt _ e).1)

set_option maxHeartbeats 1600000 in
set_option maxRecDepth 100000 in
theorem chLap_any (n : Int) (ad : Option Addr) (cap : Nat) (ls : List Lk) (w : World) (hl : ls.length ≤ 1048576) (hr : RdL w ad ls) (hg : goodL n ls = true) :
    Calls Try.prog 58 #[.int .i64 n, .slice ad ls.length cap] w fun e w' => ∃ gb capb rb, e = .returned (.slice (some ⟨gb, 0, none⟩) n.toNat capb) ∧
      MatAt w' gb rb n.toNat (lapF ls) ∧ w.heap.size ≤ gb ∧ (∀ i, i < n.toNat → w.heap.size ≤ rb i) ∧ Below w.heap.size w w' := by
  obtain ⟨hn1, hn2⟩ := good_n hg
  obtain ⟨N, rfl⟩ : ∃ N : Nat, n = N := ⟨n.toNat, by omega⟩
  rw [Int.toNat_natCast]
  have HGD := Lib.hid hg; clear hg
  have HR := Lib.hid hr; clear hr
  have hmk := run_makeN (P := Try.prog) 30 3 (.int .i64 0) 1 8 Try.underlying30 Try.infoI N (by omega) (by omega)
  simp only [Value.cells, Nat.mul_one] at hmk
  obtain ⟨i0, hi0, hz0, hz1, hz2⟩ := info_parts Try.infoII
  go_enter Try.func58, Try.ntmps58
  go_wp2_with fail
  go_loopw [5, 6] (fun v i wr => ∃ k : Nat, k ≤ N ∧ i = .int .i64 k ∧ ∃ rb, M1 w N k v rb wr) (fun _ i _ => N - (intOf i).toNat)
  case atStart => exact ⟨0, Nat.zero_le _, rfl, fun _ => 0, World.ownsRow_nil _ _ _ _, fun i hi => by omega, fun i j hi => by omega, Below.refl _ _⟩
  case round =>
    obtain ⟨k, hk, rfl, rb, hI⟩ := hrel
    by_cases hlt : k < N
    · have hown := hI.row
      have hBs := hI.bel.size
      have HI := Lib.hid hI; clear hI
      have HO := Lib.hid hown; clear hown
      rename_i v
      go_wp2_with (at_builtin; refine wpList_append_lies _ rfl _ _ _ rfl w.heap.size 30 i0 _ 1 24 Try.underlying27 hi0 hz0 hz1 hz2 rfl (by omega) _ k _ rfl ((HO.out.alloc _).alloc _) ⟨wr.heap.size + 1, 0, none⟩ 1 1 [.slice (some ⟨wr.heap.size, 0, none⟩) N N] rfl rfl (World.news_of_block (cs := #[.slice (some ⟨wr.heap.size, 0, none⟩) N N]) (t := 30) (fr := (0, 0)) (heap_alloc2_new _ _ _)) (by simp [Value.oneCell']) (by omega) (by unfold maxLen; omega) (by omega) (by simp; omega) (wr.heap.size + 2) (by simp) ?_;intro gg gcap w2 hown1 hgrow hat hlt2)
      go_roundw
      case rel => exact ⟨k + 1, by omega, by go_num, _, HI.out.step hown1 hgrow⟩
      case measure => simp [intOf]; omega
    · have he : k = N := by omega
      subst he
      rcases Own.of_row hI.row with ⟨_, h0, _⟩ | ⟨gb, capb, rfl, hgb, hcb, hcm, hob⟩
      · omega
      have hmt : MatAt wr gb rb k (lapF (ls.take 0)) := ⟨hob, fun i hi => (hI.hr i hi).2.congr (by rw [tab_congr fun j _ => (lapF_nil i j).symm]; rfl), hI.inj⟩
      have hrl : ∀ i, i < k → w.heap.size ≤ rb i := fun i hi => (hI.hr i hi).1
      have hbel := hI.bel
      clear hI hob
      obtain ⟨wo, rfl⟩ : ∃ wo : World, wo = wr := ⟨_, rfl⟩
      have HMT := Lib.hid hmt; clear hmt
      have HRL := Lib.hid hrl; clear hrl
      go_wp2_with fail
      go_loopw [21] (fun i wr => ∃ m : Nat, m ≤ ls.length ∧ i = .int .i64 m ∧ MatAt wr gb rb k (lapF (ls.take m)) ∧ Below w.heap.size w wr) (fun i _ => ls.length - (intOf i).toNat)
      case atStart => exact ⟨0, Nat.zero_le _, rfl, HMT.out, hbel⟩
      case round =>
        obtain ⟨m, hm, rfl, hI, hbel2⟩ := hrel
        by_cases hlt2 : m < ls.length
        · obtain ⟨b, off, rfl, hb, c0, c1, c2⟩ := HR.out m hlt2
          have d0 := bcell hbel2 hb c0
          have d1 := bcell hbel2 hb c1
          have d2 := bcell hbel2 hb c2
          clear c0 c1 c2
          obtain ⟨xl, hx⟩ : ∃ xl, ls.getD m Lk.z = xl := ⟨_, rfl⟩
          obtain ⟨g1, g2, g3, g4, g5⟩ := good_lk HGD.out hlt2 hx
          have hsn := fun i j => lapF_snoc (ls.take m) xl i j (by omega)
          rw [hx] at d0 d1 d2
          obtain ⟨xa, xb, xn⟩ := xl
          simp only at d0 d1 d2 g1 g2 g3 g4 g5 hsn
          obtain ⟨a, rfl⟩ : ∃ a : Nat, xa = a := ⟨xa.toNat, by omega⟩
          obtain ⟨b', rfl⟩ : ∃ b' : Nat, xb = b' := ⟨xb.toNat, by omega⟩
          have HX := Lib.hid hx; clear hx
          have HSN := Lib.hid hsn; clear hsn
          have HI := Lib.hid hI; clear hI
          have la : a < k := by omega
          have lb : b' < k := by omega
          have hab : a ≠ b' := by omega
          have HAB := Lib.hid hab; clear hab
          have b0 := lapF_bound HGD.out hl m a a
          have b1 := lapF_bound HGD.out hl m b' b'
          have b2 := lapF_bound HGD.out hl m a b'
          have b3 := lapF_bound HGD.out hl m b' a
          go_wp2_with fail
          have s0 := HI.out.alloc (.cells #[.int .i64 a, .int .i64 b', .int .i64 xn] 41)
          have K0 := Own.newA wr #[.int .i64 a, .int .i64 b', .int .i64 xn] 41 rfl
          have hbel3 := hbel2.alloc hbel2.size (.cells #[.int .i64 a, .int .i64 b', .int .i64 xn] 41)
          generalize wr.alloc (.cells #[.int .i64 a, .int .i64 b', .int .i64 xn] 41) = W0 at s0 K0 hbel3 ⊢
          generalize wr.heap.size = Kb at K0 ⊢
          generalize hM0 : lapF (ls.take m) = M0 at s0 b0 b1 b2 b3
          have HM0 := Lib.hid hM0; clear hM0
          have t0 := K0.cell? (i := 0) rfl
          have t1 := K0.cell? (i := 1) rfl
          have t2 := K0.cell? (i := 2) rfl
          have u0 := s0.row la
          have u1 := s0.cb la la
          have u2 := (s0.hr a la).frozen a
          have HS0 := Lib.hid s0; clear s0
          have HK0 := Lib.hid K0; clear K0
          go_still_tail 13, (by kernel_rfl)
          change wpList _ _ _ _ _ W0.drew
          go_wp2_with fail
          have s1 := (HS0.out.set (a := a) a la (M0 a a + xn)).drew
          have K1 := (HK0.out.setOther (a := ⟨rb a, a, none⟩) (HK0.out.ne_of_type (HS0.out.hr a la) (by decide)) (.int .i64 (M0 a a + xn))).drew
          have hbel4 : Below w.heap.size w (W0.setCell ⟨rb a, a, none⟩ (.int .i64 (M0 a a + xn))).drew := (hbel3.setCell (HRL.out a la) _).drew
          clear t0 t1 t2 u0 u1 u2 hbel3
          generalize (W0.setCell ⟨rb a, a, none⟩ (.int .i64 (M0 a a + xn))).drew = W1 at s1 K1 hbel4 ⊢
          have t0 := K1.cell? (i := 0) rfl
          have t1 := K1.cell? (i := 1) rfl
          have t2 := K1.cell? (i := 2) rfl
          have u0 := s1.row lb
          have u1 := s1.cb lb lb
          rw [if_neg (by have := HAB.out; omega)] at u1
          have u2 := (s1.hr b' lb).frozen b'
          have HS1 := Lib.hid s1; clear s1
          have HK1 := Lib.hid K1; clear K1
          go_still_tail 13, (by kernel_rfl)
          change wpList _ _ _ _ _ W1.drew
          go_wp2_with fail
          have s2 := (HS1.out.set (a := b') b' lb (M0 b' b' + xn)).drew
          have K2 := (HK1.out.setOther (a := ⟨rb b', b', none⟩) (HK1.out.ne_of_type (HS1.out.hr b' lb) (by decide)) (.int .i64 (M0 b' b' + xn))).drew
          have hbel5 : Below w.heap.size w (W1.setCell ⟨rb b', b', none⟩ (.int .i64 (M0 b' b' + xn))).drew := (hbel4.setCell (HRL.out b' lb) _).drew
          clear t0 t1 t2 u0 u1 u2 hbel4
          generalize (W1.setCell ⟨rb b', b', none⟩ (.int .i64 (M0 b' b' + xn))).drew = W2 at s2 K2 hbel5 ⊢
          have t0 := K2.cell? (i := 0) rfl
          have t1 := K2.cell? (i := 1) rfl
          have t2 := K2.cell? (i := 2) rfl
          have u0 := s2.row la
          have u1 := s2.cb la lb
          rw [if_neg (by have := HAB.out; omega), if_neg (by have := HAB.out; omega)] at u1
          have u2 := (s2.hr a la).frozen b'
          have HS2 := Lib.hid s2; clear s2
          have HK2 := Lib.hid K2; clear K2
          go_still_tail 13, (by kernel_rfl)
          change wpList _ _ _ _ _ W2.drew
          go_wp2_with fail
          have s3 := (HS2.out.set (a := a) b' la (M0 a b' - xn)).drew
          have K3 := (HK2.out.setOther (a := ⟨rb a, b', none⟩) (HK2.out.ne_of_type (HS2.out.hr a la) (by decide)) (.int .i64 (M0 a b' - xn))).drew
          have hbel6 : Below w.heap.size w (W2.setCell ⟨rb a, b', none⟩ (.int .i64 (M0 a b' - xn))).drew := (hbel5.setCell (HRL.out a la) _).drew
          clear t0 t1 t2 u0 u1 u2 hbel5
          generalize (W2.setCell ⟨rb a, b', none⟩ (.int .i64 (M0 a b' - xn))).drew = W3 at s3 K3 hbel6 ⊢
          have t0 := K3.cell? (i := 0) rfl
          have t1 := K3.cell? (i := 1) rfl
          have t2 := K3.cell? (i := 2) rfl
          have u0 := s3.row lb
          have u1 := s3.cb lb la
          rw [if_neg (by have := HAB.out; omega), if_neg (by have := HAB.out; omega), if_neg (by have := HAB.out; omega)] at u1
          have u2 := (s3.hr b' lb).frozen a
          have HS3 := Lib.hid s3; clear s3
          have HK3 := Lib.hid K3; clear K3
          go_still_tail 13, (by kernel_rfl)
          change wpList _ _ _ _ _ W3.drew
          go_wp2_with fail
          have s4 := (HS3.out.set (a := b') a lb (M0 b' a - xn)).drew
          have K4 := (HK3.out.setOther (a := ⟨rb b', a, none⟩) (HK3.out.ne_of_type (HS3.out.hr b' lb) (by decide)) (.int .i64 (M0 b' a - xn))).drew
          have hbel7 : Below w.heap.size w (W3.setCell ⟨rb b', a, none⟩ (.int .i64 (M0 b' a - xn))).drew := (hbel6.setCell (HRL.out b' lb) _).drew
          clear t0 t1 t2 u0 u1 u2 hbel6
          generalize (W3.setCell ⟨rb b', a, none⟩ (.int .i64 (M0 b' a - xn))).drew = W4 at s4 K4 hbel7 ⊢
          have HS4 := Lib.hid s4; clear s4 K4
          go_wp2
          go_roundw
          case rel =>
            refine ⟨m + 1, by omega, by go_num, HS4.out.congr ?_, hbel7⟩
            intro i j _ _
            rw [take_snoc ls m Lk.z hlt2, HX.out, HSN.out, HM0.out]
            have ei : ((a : Int) = (i : Int)) ↔ i = a := by omega
            have ej : ((a : Int) = (j : Int)) ↔ j = a := by omega
            have ei' : ((b' : Int) = (i : Int)) ↔ i = b' := by omega
            have ej' : ((b' : Int) = (j : Int)) ↔ j = b' := by omega
            have hab := HAB.out
            simp only [ei, ej, ei', ej']
            clear ei ej ei' ej'
            by_cases p1 : i = a <;> by_cases p2 : i = b' <;> by_cases p3 : j = a <;> by_cases p4 : j = b' <;> simp_all <;> omega
          case measure => simp [intOf]; omega
        · have he : m = ls.length := by omega
          subst he
          have HI := Lib.hid hI; clear hI
          go_wp2_with fail
          go_ret
          refine ⟨gb, capb, rb, rfl, ?_, hgb, HRL.out, hbel2⟩
          have := HI.out
          rwa [List.take_length] at this

end Go.Proofs.Ytmhmdbmiimpbnaa
