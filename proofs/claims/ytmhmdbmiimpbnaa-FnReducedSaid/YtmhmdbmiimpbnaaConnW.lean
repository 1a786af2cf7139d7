/-
  The walk of the program's isConnected; both sides of IsConnected.
-/
import Derived.Test.YtmhmdbmiimpbnaaConnI
namespace Go.Proofs.Ytmhmdbmiimpbnaa
open Go.RowKit

theorem Try.infoB : (Try.prog.info? 4).map (fun i => (i.zero, i.size, i.bytes)) = some (some (.bool false), 1, 1) := by kernel_rfl
theorem madeBools (n : Nat) : (madeCells #[.bool false] n).toList = tab n fun _ => Value.bool false := by
  rw [toList_madeCells_one]
  simp [tab, List.map_const']

/-- The queue on its way. -/
structure QI (ls : List Lk) (N B : Nat) (wr : World) (gr g : Nat) (v : Value) (R : Nat → Bool) (xs : List Int) : Prop where
  q : QAt wr B 3 g v xs
  r : Own wr gr 4 (tab N fun i => .bool (R i))
  mem : ∀ y ∈ xs, 0 ≤ y ∧ y < N ∧ Reach ls y
  mark : ∀ i : Nat, i < N → R i = true → Reach ls i
  clo : ∀ i u : Nat, i < N → u < N → R i = true → 0 < betF ls i u → R u = true ∨ (u : Int) ∈ xs
  zero : (0 : Int) ∈ xs ∨ R 0 = true
  len : xs.length ≤ 1 + cnt R N * N
theorem QI.skip {ls : List Lk} {N B : Nat} {wr : World} {gr g : Nat} {v v' : Value} {R : Nat → Bool} {x : Nat} {t : List Int} (h : QI ls N B wr gr g v R ((x : Int) :: t)) (hq : QAt wr B 3 g v' t) (hx : R x = true) : QI ls N B wr gr g v' R t := by
  refine ⟨hq, h.r, fun y hy => h.mem y (List.mem_cons_of_mem _ hy), h.mark, fun i u hi hu hr hb => ?_, ?_, ?_⟩
  · rcases h.clo i u hi hu hr hb with e | e
    · exact Or.inl e
    · rcases List.mem_cons.1 e with e | e
      · left; rw [show u = x by omega]; exact hx
      · exact Or.inr e
  · rcases h.zero with e | e
    · rcases List.mem_cons.1 e with e | e
      · right; rw [show 0 = x by omega]; exact hx
      · exact Or.inl e
    · exact Or.inr e
  · have := h.len; simp only [List.length_cons] at this; omega
/-- While the vertex's neighbours are put into the queue. -/
structure QJ (ls : List Lk) (N B : Nat) (wr : World) (gr g : Nat) (v : Value) (R : Nat → Bool) (x : Nat) (t : List Int) (k : Nat) (ys : List Int) : Prop where
  q : QAt wr B 3 g v ys
  r : Own wr gr 4 (tab N fun i => .bool (if i = x then true else R i))
  sub : ∀ y ∈ t, y ∈ ys
  nb : ∀ u : Nat, u < k → 0 < betF ls x u → (u : Int) ∈ ys
  of : ∀ y ∈ ys, y ∈ t ∨ ∃ u : Nat, y = u ∧ u < k ∧ 0 < betF ls x u
  len : ys.length ≤ t.length + k
theorem QJ.end {n : Int} {ls : List Lk} {N B : Nat} {w0 wr : World} {gr g g0 : Nat} {v v0 : Value} {R : Nat → Bool} {x : Nat} {t ys : List Int} (hg : goodL n ls = true) (h : QJ ls N B wr gr g v R x t N ys) (h0 : QI ls N B w0 gr g0 v0 R ((x : Int) :: t)) (hx : x < N) (hr : R x = false) :
    QI ls N B wr gr g v (fun i => if i = x then true else R i) ys := by
  have hm := h0.mem x List.mem_cons_self
  refine ⟨h.q, h.r, fun y hy => ?_, fun i hi hri => ?_, fun i u hi hu hri hb => ?_, ?_, ?_⟩
  · rcases h.of y hy with e | ⟨u, rfl, hu, hb⟩
    · exact h0.mem y (List.mem_cons_of_mem _ e)
    · exact ⟨by omega, by omega, hm.2.2.step hg hb⟩
  · by_cases e : i = x
    · subst e; exact hm.2.2
    · rw [if_neg e] at hri; exact h0.mark i hi hri
  · by_cases e : i = x
    · subst e; exact Or.inr (h.nb u hu hb)
    · rw [if_neg e] at hri
      by_cases eu : u = x
      · subst eu; exact Or.inl (if_pos rfl)
      · rcases h0.clo i u hi hu hri hb with q | q
        · left; rw [if_neg eu]; exact q
        · rcases List.mem_cons.1 q with q | q
          · exact absurd (by omega) eu
          · exact Or.inr (h.sub _ q)
  · rcases h0.zero with e | e
    · rcases List.mem_cons.1 e with e | e
      · right; rw [if_pos (by omega)]
      · exact Or.inl (h.sub _ e)
    · right; split <;> simp [e]
  · have h1 := h0.len
    have h2 := h.len
    rw [cnt_set hr, if_pos hx, Nat.add_mul]
    simp only [List.length_cons] at h1
    omega
theorem QJ.step {ls : List Lk} {N B : Nat} {wr wr' : World} {gr g g' : Nat} {v v' : Value} {R : Nat → Bool} {x : Nat} {t ys : List Int} {k : Nat} (h : QJ ls N B wr gr g v R x t k ys) (hb : 0 < betF ls x k) (hq : QAt wr' B 3 g' v' (ys ++ [(k : Int)])) (hr : Own wr' gr 4 (tab N fun i => .bool (if i = x then true else R i))) : QJ ls N B wr' gr g' v' R x t (k + 1) (ys ++ [(k : Int)]) := by
  refine ⟨hq, hr, fun y hy => List.mem_append_left _ (h.sub y hy), fun u hu hb' => ?_, fun y hy => ?_, ?_⟩
  · by_cases e : u = k
    · subst e; simp
    · exact List.mem_append_left _ (h.nb u (by omega) hb')
  · rcases List.mem_append.1 hy with q | q
    · rcases h.of y q with q | ⟨u, e, hu, hb'⟩
      · exact Or.inl q
      · exact Or.inr ⟨u, e, by omega, hb'⟩
    · exact Or.inr ⟨k, by simpa using q, by omega, hb⟩
  · have := h.len; simp; omega
theorem QJ.stay {ls : List Lk} {N B : Nat} {wr : World} {gr g : Nat} {v : Value} {R : Nat → Bool} {x : Nat} {t ys : List Int} {k : Nat} (h : QJ ls N B wr gr g v R x t k ys) (hb : ¬ 0 < betF ls x k) : QJ ls N B wr gr g v R x t (k + 1) ys := by
  refine ⟨h.q, h.r, h.sub, fun u hu hb' => ?_, fun y hy => ?_, by have := h.len; omega⟩
  · by_cases e : u = k
    · subst e; exact absurd hb' hb
    · exact h.nb u (by omega) hb'
  · rcases h.of y hy with q | ⟨u, e, hu, hb'⟩
    · exact Or.inl q
    · exact Or.inr ⟨u, e, by omega, hb'⟩
theorem QI.full {n : Int} {ls : List Lk} {N B : Nat} {wr : World} {gr g : Nat} {v : Value} {R : Nat → Bool} (hn : n = N) (hg : goodL n ls = true) (h : QI ls N B wr gr g v R []) : connB n ls = decide (cnt R N = N) := by
  refine conn_queue hn hg (h.zero.resolve_left (by simp)) h.mark (fun v u hv hu hr hb => ?_)
  rcases h.clo v u hv hu hr hb with e | e
  · exact e
  · simp at e

set_option maxHeartbeats 3200000 in
set_option maxRecDepth 100000 in
theorem isConn_any (n : Int) (G gb gv capb : Nat) (rb : Nat → Nat) (N : Nat) (ls : List Lk) (w : World) (hG : GrAt w G gb gv capb rb N (betF ls) (valF ls) (edgeF ls)) (hn : n = N) (hg : goodL n ls = true) :
    Calls Try.prog 63 #[.pointer (some ⟨G, 0, none⟩)] w fun e w' => e = .returned (.bool (connB n ls)) ∧ Below w.heap.size w w' := by
  obtain ⟨hn1, hn2⟩ := good_n hg
  have hN : N ≤ 8 := by omega
  have hN1 : 1 ≤ N := by omega
  have HN := Lib.hid hn; clear hn
  have HGD := Lib.hid hg; clear hg
  have hmk := run_makeN (P := Try.prog) 102 4 (.bool false) 1 1 Try.underlying102 Try.infoB N (by omega) (by omega)
  simp only [Value.cells, Nat.mul_one] at hmk
  obtain ⟨i0, hi0, hz0, hz1, hz2⟩ := info_parts Try.infoI
  have c0 := hG.c0
  have HG := Lib.hid hG; clear hG
  go_enter Try.func63, Try.ntmps63
  go_wp2_with fail
  clear c0
  go_loopw [4, 5] (fun v c wr => ∃ xs : List Int, ∃ R : Nat → Bool, ∃ g : Nat, c = .int .i64 (cnt R N) ∧ QI ls N w.heap.size wr w.heap.size g v R xs ∧ Below w.heap.size w wr) (fun v c _ => (N - (intOf c).toNat) * (N + 1) + lenOf v)
  case atStart =>
    refine ⟨[0], fun _ => false, w.heap.size + 1, ?_, ⟨QAt.of_own (xs := [0]) ?_ (Nat.le_succ w.heap.size) rfl, ?_, ?_, ?_, ?_, Or.inl (by simp), by simp⟩, ((Below.refl _ _).alloc (Nat.le_refl _) _).alloc (by simp) _⟩
    · have : cnt (fun _ => false) N = 0 := by
        have : ∀ k, cnt (fun _ => false) k = 0 := fun k => by induction k with | zero => rfl | succ k ih => simp [cnt, ih]
        exact this N
      rw [this]; rfl
    · simpa [ints] using heap_alloc_new (w.alloc (.cells (madeCells #[.bool false] N) 4)) (.cells #[.int .i64 0] 3)
    · exact (Own.newA w _ 4 (madeBools N)).alloc _
    · intro y hy; simp at hy; subst hy; exact ⟨by omega, by omega, Reach.zero _⟩
    · intro i hi h; simp at h
    · intro i u hi hu h; simp at h
  case round =>
    obtain ⟨xs, R, g, rfl, hI, hbel⟩ := hrel
    obtain ⟨off, cap, rfl⟩ := hI.q.form
    have hcl := cnt_le R N
    have hln := hI.len
    cases xs with
    | nil =>
      have c0 := (HG.out.below hbel).c0
      have HI := Lib.hid hI; clear hI
      go_wp2_with fail
      go_ret
      refine ⟨ret_bool ?_, hbel⟩
      rw [QI.full HN.out HGD.out HI.out]
      rw [Bool.eq_iff_iff]; simp; omega
    | cons x t =>
      have cx := hI.q.cell (j := 0) (by simp)
      simp only [List.getD_cons_zero, Nat.add_zero] at cx
      have hm := hI.mem x List.mem_cons_self
      obtain ⟨v, rfl⟩ : ∃ v : Nat, x = v := ⟨x.toNat, by omega⟩
      have hv : v < N := by omega
      have hroom := hI.q.room
      simp only [List.length_cons] at hroom hln
      have cr := hI.r.cell? (tab_get hv)
      have fr := hI.r.frozen v
      have HM := Lib.hid hm; clear hm
      obtain ⟨off2, cap2, hsl, htl⟩ : ∃ off2 cap2, (∀ w' : World, (Instr.slice 30 (.slice (some ⟨g, off, none⟩) (t.length + 1) cap) (some (.int .i64 1)) none none).run Try.prog w' = .ok (.slice (some ⟨g, off2, none⟩) t.length cap2) w') ∧
          QAt wr w.heap.size 3 g (.slice (some ⟨g, off2, none⟩) t.length cap2) t := by
        by_cases hc1 : cap = 1
        · subst hc1
          refine ⟨off, 0, fun w' => ?_, hI.q.tail1⟩
          rw [run_slice_l w' _ _ _ _ Try.underlying30 _ _ (by omega) (by omega)]
          simp [go_sem]
        · refine ⟨off + 1, cap - 1, fun w' => ?_, hI.q.tail⟩
          rw [run_slice_l w' _ _ _ _ Try.underlying30 _ _ (by omega) (by omega)]
          simp [go_sem, hc1]
      rw [List.length_cons]
      by_cases hR : R v = true
      case pos =>
        rw [hR] at cr
        have HS := Lib.hid (hI.skip htl hR); clear hI htl
        go_wp2_with fail
        go_roundw
        case rel => exact ⟨t, R, g, rfl, HS.out, hbel⟩
        case measure => simp [intOf, lenOf]
      case neg =>
        have hR' := Bool.eq_false_iff.2 hR
        clear hR
        rw [hR'] at cr
        have hbel2 := hbel.setCell (Nat.le_refl w.heap.size) (p := ⟨w.heap.size, v, none⟩) (.bool true)
        have g2 := HG.out.below hbel2
        have e1 := g2.c1
        have e2 := g2.row hv
        have hgr := htl.ne hI.r (by decide)
        have r2 := hI.r.set v (.bool true)
        rw [tab_set] at r2
        have q2 := htl.chg (Chg.set w.heap.size v wr (.bool true)) hgr
        have hj : QJ ls N w.heap.size (wr.setCell ⟨w.heap.size, v, none⟩ (.bool true)) w.heap.size g (.slice (some ⟨g, off2, none⟩) t.length cap2) R v t 0 t :=
          ⟨q2, r2.congr (tab_congr fun i _ => by by_cases e : i = v <;> simp [e]), fun y hy => hy, fun u hu => by omega, fun y hy => Or.inl hy, by omega⟩
        have HI := Lib.hid hI; clear hI htl
        have HJ := Lib.hid hj; clear hj q2 r2 hgr
        have HG2 := Lib.hid g2; clear g2
        have HR := Lib.hid hR'; clear hR'
        go_wp2_with fail
        clear e1 e2 cx cr fr hsl
        generalize wr.setCell ⟨w.heap.size, v, none⟩ (.bool true) = W2 at HJ HG2 hbel2 ⊢
        go_loopw [4, 40] (fun q i wi => ∃ k : Nat, k ≤ N ∧ i = .int .i64 k ∧ ∃ g' : Nat, ∃ ys : List Int, QJ ls N w.heap.size wi w.heap.size g' q R v t k ys ∧ Below w.heap.size w wi) (fun _ i _ => N - (intOf i).toNat)
        case atStart => exact ⟨0, Nat.zero_le _, rfl, g, t, HJ.out, hbel2⟩
        case round =>
          obtain ⟨k, hk, rfl, g', ys, hJ, hbi⟩ := hrel
          obtain ⟨off3, cap3, rfl⟩ := hJ.q.form
          have hyl := hJ.len
          by_cases hlt : k < N
          case pos =>
            have cb := (HG.out.below hbi).cb hv hlt
            have hr3 := hJ.r
            have hgr := hJ.q.ne hJ.r (by decide)
            have hcm : cnt R N * N ≤ 64 := Nat.le_trans (Nat.mul_le_mul hcl hN) (by omega)
            by_cases hb : 0 < betF ls v k
            case pos =>
              have HB4 := Lib.hid hJ.q.base
              have hqa := hJ.q.alloc (.cells #[.int .i64 k] 3)
              have hra := hr3.alloc (.cells #[.int .i64 k] 3)
              have hs := hbi.size
              have hba := hbi.alloc hs (.cells #[.int .i64 k] 3)
              have HRA := Lib.hid hra; clear hra hr3
              have HJ2 := Lib.hid hJ; clear hJ
              have HB := Lib.hid hb
              generalize betF ls v k = bv at cb hb
              go_wp2_with (at_builtin; (refine wpList_append_q _ rfl _ _ 30 rfl 3 i0 _ 8 Try.underlying30 hi0 hz0 hz1 hz2 rfl w.heap.size g' off3 cap3 ys rfl hqa ⟨wr.heap.size, 0, none⟩ 1 k rfl (World.news_of_block (cs := #[.int .i64 k]) (t := 3) (fr := (0, 0)) (heap_alloc_new _ _) 0 _ rfl) (by unfold maxLen; omega) (by omega) (by simp; omega) ?_; intro g4 off4 cap4 w4 hq4 hc4))
              have HJ4 := Lib.hid (HJ2.out.step HB.out hq4 (HRA.out.chg hc4 (Ne.symm hgr)))
              have hb4 := bchg hba hc4 HB4.out (by simp; omega)
              clear hq4
              go_wp2_with fail
              go_roundw
              case rel =>
                exact ⟨k + 1, by omega, by go_num, g4, _, HJ4.out, hb4⟩
              case measure => simp [intOf]; omega
            case neg =>
              have HJ2 := Lib.hid (hJ.stay hb); clear hJ
              generalize betF ls v k = bv at cb hb
              go_wp2_with fail
              go_roundw
              case rel => exact ⟨k + 1, by omega, by go_num, g', ys, HJ2.out, hbi⟩
              case measure => simp [intOf]; omega
          case neg =>
            have he : k = N := by omega
            subst he
            have HJL := Lib.hid hJ.len
            have HE := Lib.hid (hJ.end HGD.out HI.out hv HR.out); clear hJ
            go_wp2_with fail
            go_roundw
            case rel => exact ⟨ys, _, g', by rw [cnt_set HR.out, if_pos hv]; rfl, HE.out, hbi⟩
            case measure =>
              have h1 := HE.out.len
              have h2 := HI.out.len
              have h3 := HJL.out
              have h4 := cnt_le (fun i => if i = v then true else R i) k
              rw [cnt_set HR.out, if_pos hv] at h4
              simp only [intOf, lenOf]
              obtain ⟨m, hm⟩ : ∃ m, k = cnt R k + 1 + m := ⟨k - (cnt R k + 1), by omega⟩
              have a1 : k - (((cnt R k : Nat) : Int) + 1).toNat = m := by omega
              have a2 : k - ((cnt R k : Nat) : Int).toNat = m + 1 := by omega
              rw [a1, a2, Nat.add_mul]
              omega

noncomputable def connR (n : Int) (ls : List Lk) : Bool × Bool := if goodL n ls = true then (connB n ls, true) else (false, false)

set_option maxHeartbeats 400000 in
theorem specConn_c (n : Int) (ad : Option Addr) (cap : Nat) (ls : List Lk) (w : World) (hl : ls.length ≤ 1048576) (hr : RdL w ad ls) :
    Calls Try.prog 17 #[.int .i64 n, .slice ad ls.length cap] w (RetBB (connR n ls) w) := by
  by_cases hg : goodL n ls = true
  · have hR : Hid (connR n ls = (connB n ls, true)) := if_pos hg
    go_enter Try.func17, Try.ntmps17
    go_wp2_with fail
    refine (chGood_any n ad cap ls _ hl hr).mono ?_
    rw [hg]
    rintro e w1 ⟨rfl, hb1⟩
    go_wp2_with fail
    refine (chConn_any n ad cap ls _ hl (hr.below hb1) hg).mono ?_
    rintro e w2 ⟨rfl, hb2⟩
    go_wp2
    go_ret2
    exact RetBB.of hR.out (ball hb1 hb2)
  · have hg' := Bool.eq_false_iff.2 hg
    have hR : Hid (connR n ls = (false, false)) := if_neg hg
    go_enter Try.func17, Try.ntmps17
    go_wp2_with fail
    refine (chGood_any n ad cap ls _ hl hr).mono ?_
    rw [hg']
    rintro e w1 ⟨rfl, hb1⟩
    go_wp2
    go_ret2
    exact RetBB.of hR.out hb1

set_option maxHeartbeats 400000 in
theorem implConn_c (n : Int) (ad : Option Addr) (cap : Nat) (ls : List Lk) (w : World) (hl : ls.length ≤ 1048576) (hr : RdL w ad ls) :
    Calls Try.prog 16 #[.int .i64 n, .slice ad ls.length cap] w (RetBB (connR n ls) w) := by
  by_cases hg : goodL n ls = true
  · have hR : Hid (connR n ls = (connB n ls, true)) := if_pos hg
    obtain ⟨hn1, hn2⟩ := good_n hg
    go_enter Try.func16, Try.ntmps16
    go_wp2_with fail
    refine (graphOf_any n ad cap ls _ hl hr hg).mono ?_
    rintro e w1 ⟨G, gb, gv, capb, rb, rfl, hG, hGB, hGV, hb1⟩
    have HG := Lib.hid hG; clear hG
    go_wp2_with fail
    refine (isConn_any n G gb gv capb rb n.toNat ls _ HG.out (by omega) hg).mono ?_
    rintro e w2 ⟨rfl, hb2⟩
    go_wp2
    go_ret2
    exact RetBB.of hR.out (ball hb1 hb2)
  · have hg' := Bool.eq_false_iff.2 hg
    have hR : Hid (connR n ls = (false, false)) := if_neg hg
    go_enter Try.func16, Try.ntmps16
    go_wp2_with fail
    refine (graphOf_no n ad cap ls _ hl hr hg').mono ?_
    rintro e w1 ⟨rfl, hb1⟩
    go_wp2
    go_ret2
    exact RetBB.of hR.out hb1

end Go.Proofs.Ytmhmdbmiimpbnaa
