/-
  The program's graphOf: a graph with its tables in new memory, or none.
-/
import Derived.Test.YtmhmdbmiimpbnaaGraphP
import Derived.Deep.RegionHeld3
import Derived.Deep.AppendLies
import Derived.Deep.DrawnRows
import Derived.RegionTactic
import Derived.Deep.RegionLaw
import Derived.Deep.RegionLawGrows
import Derived.BigRegion
namespace Go.Proofs.Ytmhmdbmiimpbnaa
open Go.RowKit

theorem Try.infoII : (Try.prog.info? 30).map (fun i => (i.zero, i.size, i.bytes)) = some (some (.slice none 0 0), 1, 24) := by kernel_rfl

theorem Own.ne_of_type {w : World} {g g' : Nat} {E E' : TypeId} {cs cs' : List Value} (h : Own w g E cs) (h' : Own w g' E' cs') (hE : E ≠ E') : g ≠ g' := by
  rintro rfl
  obtain ⟨c, hb, _⟩ := h
  obtain ⟨c', hb', _⟩ := h'
  rw [hb] at hb'
  simp at hb'
  exact hE hb'.2
theorem ownsRow_ne {w : World} {B g n : Nat} {E E' : TypeId} {v : Value} {xs cs : List Value} {size : Nat} (h : w.ownsRow B E size v n xs) (h' : Own w g E' cs) (hE : E ≠ E') : v.ownBlock ≠ some g := by
  intro he
  obtain ⟨_, ⟨rfl, _⟩ | ⟨g', cap, cur, rfl, _, hh, _⟩⟩ := h
  · simp [Value.ownBlock] at he
  · simp [Value.ownBlock] at he
    subst he
    obtain ⟨c', hb', _⟩ := h'
    rw [hh] at hb'
    simp at hb'
    exact hE hb'.2

/-- A graph of n vertices lies at G. -/
structure GrAt (w : World) (G gb gv capb : Nat) (rb : Nat → Nat) (N : Nat) (bet : Nat → Nat → Int) (val : Nat → Int) (ed : Int) : Prop where
  hG : Own w G 65 [.int .i64 N, .slice (some ⟨gb, 0, none⟩) N capb, .slice (some ⟨gv, 0, none⟩) N N, .int .i64 ed]
  hb : Own w gb 30 (tab N fun i => .slice (some ⟨rb i, 0, none⟩) N N)
  hr : ∀ i, i < N → Own w (rb i) 3 (ints (tab N (bet i)))
  hv : Own w gv 3 (ints (tab N val))
  inj : ∀ i j, i < N → j < N → i ≠ j → rb i ≠ rb j
  nv : ∀ i, i < N → rb i ≠ gv

theorem _root_.Go.World.ownsRow.setCellOther {w : World} {base : Nat} {e : TypeId} {size : Nat} {v : Value} {n : Nat} {xs : List Value} (h : w.ownsRow base e size v n xs) {a : Addr} {u : Value} (ha : v.ownBlock ≠ some a.block) : (w.setCell a u).ownsRow base e size v n xs := by
  obtain ⟨h1, h2⟩ := h
  refine ⟨h1, ?_⟩
  rcases h2 with h2 | ⟨g, cap, cur, rfl, hg, hh, r⟩
  · exact Or.inl h2
  · refine Or.inr ⟨g, cap, cur, rfl, hg, ?_, r⟩
    rw [Below.heap_setCell _ _ _ _ (fun q => ha (by simp [Value.ownBlock, q]))]
    exact hh

section
variable {w w' : World} {G gb gv capb : Nat} {rb : Nat → Nat} {N : Nat} {bet : Nat → Nat → Int} {val : Nat → Int} {ed : Int}
theorem GrAt.of_block (h : GrAt w G gb gv capb rb N bet val ed) (e : ∀ q, q < w.heap.size → w'.heap[q]? = w.heap[q]?) : GrAt w' G gb gv capb rb N bet val ed :=
  ⟨h.hG.of_block (e _ h.hG.lt), h.hb.of_block (e _ h.hb.lt), fun i hi => (h.hr i hi).of_block (e _ (h.hr i hi).lt), h.hv.of_block (e _ h.hv.lt), h.inj, h.nv⟩
theorem GrAt.below (h : GrAt w G gb gv capb rb N bet val ed) (hb : Below w.heap.size w w') : GrAt w' G gb gv capb rb N bet val ed := h.of_block hb.block
theorem GrAt.alloc (h : GrAt w G gb gv capb rb N bet val ed) (o : Obj) : GrAt (w.alloc o) G gb gv capb rb N bet val ed := h.of_block fun _ hg => Deep.blk_alloc_lt _ _ _ hg
theorem GrAt.drew (h : GrAt w G gb gv capb rb N bet val ed) : GrAt w.drew G gb gv capb rb N bet val ed := h.of_block fun _ _ => rfl
theorem GrAt.drewN (h : GrAt w G gb gv capb rb N bet val ed) (n : Nat) : GrAt (w.drewN n) G gb gv capb rb N bet val ed := h.of_block fun g hg => (bdrewN (Below.refl w.heap.size _) n).block g hg
theorem GrAt.congr {bet' : Nat → Nat → Int} {val' : Nat → Int} {ed' : Int} (h : GrAt w G gb gv capb rb N bet val ed) (e1 : ∀ i j, i < N → j < N → bet i j = bet' i j) (e2 : ∀ i, i < N → val i = val' i) (e3 : ed = ed') : GrAt w G gb gv capb rb N bet' val' ed' := by
  subst e3
  refine ⟨h.hG, h.hb, fun i hi => (h.hr i hi).congr ?_, h.hv.congr ?_, h.inj, h.nv⟩
  · rw [tab_congr fun j hj => e1 i j hi hj]
  · rw [tab_congr e2]
theorem GrAt.chg {b : Nat} (h : GrAt w G gb gv capb rb N bet val ed) (hc : Chg b w w') (h1 : G ≠ b) (h2 : gb ≠ b) (h3 : gv ≠ b) (h4 : ∀ i, i < N → rb i ≠ b) : GrAt w' G gb gv capb rb N bet val ed :=
  ⟨h.hG.chg hc h1, h.hb.chg hc h2, fun i hi => (h.hr i hi).chg hc (h4 i hi), h.hv.chg hc h3, h.inj, h.nv⟩
theorem GrAt.c0 (h : GrAt w G gb gv capb rb N bet val ed) : w.cell? ⟨G, 0, none⟩ = some (.int .i64 N) := h.hG.cell? rfl
theorem GrAt.c1 (h : GrAt w G gb gv capb rb N bet val ed) : w.cell? ⟨G, 1, none⟩ = some (.slice (some ⟨gb, 0, none⟩) N capb) := h.hG.cell? rfl
theorem GrAt.c2 (h : GrAt w G gb gv capb rb N bet val ed) : w.cell? ⟨G, 2, none⟩ = some (.slice (some ⟨gv, 0, none⟩) N N) := h.hG.cell? rfl
theorem GrAt.c3 (h : GrAt w G gb gv capb rb N bet val ed) : w.cell? ⟨G, 3, none⟩ = some (.int .i64 ed) := h.hG.cell? rfl
theorem GrAt.row (h : GrAt w G gb gv capb rb N bet val ed) {i : Nat} (hi : i < N) : w.cell? ⟨gb, i, none⟩ = some (.slice (some ⟨rb i, 0, none⟩) N N) := h.hb.cell? (tab_get hi)
theorem GrAt.cb (h : GrAt w G gb gv capb rb N bet val ed) {i j : Nat} (hi : i < N) (hj : j < N) : w.cell? ⟨rb i, j, none⟩ = some (.int .i64 (bet i j)) := by
  refine (h.hr i hi).cell? ?_
  rw [ints_get (by rw [tab_length]; exact hj), tab_getD hj]
theorem GrAt.cv (h : GrAt w G gb gv capb rb N bet val ed) {i : Nat} (hi : i < N) : w.cell? ⟨gv, i, none⟩ = some (.int .i64 (val i)) := by
  refine h.hv.cell? ?_
  rw [ints_get (by rw [tab_length]; exact hi), tab_getD hi]
theorem GrAt.nGb (h : GrAt w G gb gv capb rb N bet val ed) : G ≠ gb := h.hG.ne_of_type h.hb (by decide)
theorem GrAt.nGv (h : GrAt w G gb gv capb rb N bet val ed) : G ≠ gv := h.hG.ne_of_type h.hv (by decide)
theorem GrAt.nGr (h : GrAt w G gb gv capb rb N bet val ed) {i : Nat} (hi : i < N) : G ≠ rb i := h.hG.ne_of_type (h.hr i hi) (by decide)
theorem GrAt.nbv (h : GrAt w G gb gv capb rb N bet val ed) : gb ≠ gv := h.hb.ne_of_type h.hv (by decide)
theorem GrAt.nbr (h : GrAt w G gb gv capb rb N bet val ed) {i : Nat} (hi : i < N) : gb ≠ rb i := h.hb.ne_of_type (h.hr i hi) (by decide)
theorem GrAt.setBet (h : GrAt w G gb gv capb rb N bet val ed) {a b : Nat} (ha : a < N) (x : Int) :
    GrAt (w.setCell ⟨rb a, b, none⟩ (.int .i64 x)) G gb gv capb rb N (fun i j => if i = a ∧ j = b then x else bet i j) val ed := by
  refine ⟨h.hG.setOther (h.nGr ha) _, h.hb.setOther (h.nbr ha) _, fun i hi => ?_, h.hv.setOther (Ne.symm (h.nv a ha)) _, h.inj, h.nv⟩
  by_cases e : i = a
  · subst e
    have := (h.hr i hi).set b (.int .i64 x)
    rw [ints_set, tab_set] at this
    refine this.congr ?_
    congr 1
    exact tab_congr fun j _ => by by_cases q : j = b <;> simp [q]
  · have := (h.hr i hi).setOther (a := ⟨rb a, b, none⟩) (h.inj i a hi ha e) (.int .i64 x)
    refine this.congr ?_
    congr 1
    exact tab_congr fun j _ => by simp [e]
theorem GrAt.setVal (h : GrAt w G gb gv capb rb N bet val ed) (a : Nat) (x : Int) :
    GrAt (w.setCell ⟨gv, a, none⟩ (.int .i64 x)) G gb gv capb rb N bet (fun i => if i = a then x else val i) ed := by
  refine ⟨h.hG.setOther h.nGv _, h.hb.setOther h.nbv _, fun i hi => (h.hr i hi).setOther (h.nv i hi) _, ?_, h.inj, h.nv⟩
  have := h.hv.set a (.int .i64 x)
  rwa [ints_set, tab_set] at this
theorem GrAt.setEd (h : GrAt w G gb gv capb rb N bet val ed) (x : Int) : GrAt (w.setCell ⟨G, 3, none⟩ (.int .i64 x)) G gb gv capb rb N bet val x :=
  ⟨h.hG.set 3 (.int .i64 x), h.hb.setOther (Ne.symm h.nGb) _, fun i hi => (h.hr i hi).setOther (Ne.symm (h.nGr hi)) _, h.hv.setOther (Ne.symm h.nGv) _, h.inj, h.nv⟩
end

/-- The rows that graphOf has laid so far. -/
structure G1 (w1 : World) (N k : Nat) (v : Value) (rb : Nat → Nat) (wr : World) : Prop where
  hG : Own wr (w1.heap.size + 1) 65 [.int .i64 N, v, .slice (some ⟨w1.heap.size, 0, none⟩) N N, .int .i64 0]
  row : wr.ownsRow w1.heap.size 30 1 v k (tab k fun i => .slice (some ⟨rb i, 0, none⟩) N N)
  hr : ∀ i, i < k → w1.heap.size + 1 < rb i ∧ Own wr (rb i) 3 (ints (tab N fun _ => 0))
  inj : ∀ i j, i < k → j < k → i ≠ j → rb i ≠ rb j
  hv : Own wr w1.heap.size 3 (ints (tab N fun _ => 0))
  bel : Below w1.heap.size w1 wr

theorem G1.step {w1 wr w2 : World} {N k : Nat} {v v' : Value} {rb : Nat → Nat} (h : G1 w1 N k v rb wr)
    (hown : w2.ownsRow w1.heap.size 30 1 v' (k + 1) ((tab k fun i => .slice (some ⟨rb i, 0, none⟩) N N) ++ [.slice (some ⟨wr.heap.size, 0, none⟩) N N]))
    (hgrow : (((wr.alloc (.cells (madeCells #[.int .i64 0] N) 3)).alloc (.cells #[.slice (some ⟨wr.heap.size, 0, none⟩) N N] 30)).drew).grownBy w2 v.ownBlock)
    (hat : v'.ownBlock ≠ some (w1.heap.size + 1)) :
    G1 w1 N (k + 1) v' (fun i => if i = k then wr.heap.size else rb i) (w2.setCell ⟨w1.heap.size + 1, 1, none⟩ v') := by
  have hGs := h.hG.lt
  have keep : ∀ {g : Nat} {cs : List Value}, g ≠ w1.heap.size + 1 → Own wr g 3 cs → Own (w2.setCell ⟨w1.heap.size + 1, 1, none⟩ v') g 3 cs := fun hne ho =>
    ((((ho.alloc _).alloc _).drew).grown hgrow (ownsRow_ne h.row ho (by decide))).setOther hne _
  have hnew : Own w2 wr.heap.size 3 (ints (tab N fun _ => 0)) := by
    have := (((Own.newA wr _ 3 (madeInts N)).alloc (.cells #[.slice (some ⟨wr.heap.size, 0, none⟩) N N] 30)).drew)
    refine this.grown hgrow ?_
    intro e
    have := (h.row.lt _ e).2
    omega
  refine ⟨?_, ?_, ?_, ?_, keep (by omega) h.hv, ?_⟩
  · have := (((h.hG.alloc (.cells (madeCells #[.int .i64 0] N) 3)).alloc (.cells #[.slice (some ⟨wr.heap.size, 0, none⟩) N N] 30)).drew).grown hgrow (ownsRow_ne h.row h.hG (by decide))
    exact this.set 1 v'
  · have e : (tab k fun i => Value.slice (some ⟨rb i, 0, none⟩) N N) ++ [.slice (some ⟨wr.heap.size, 0, none⟩) N N] = tab (k + 1) fun i => .slice (some ⟨if i = k then wr.heap.size else rb i, 0, none⟩) N N := by
      rw [tab_succ]
      congr 1
      · exact tab_congr fun i hi => by rw [if_neg (by omega)]
      · simp
    rw [← e]
    refine hown.setCellOther ?_
    exact hat
  · intro i hi
    by_cases e : i = k
    · subst e
      simp only [if_true]
      exact ⟨hGs, hnew.setOther (by simp; omega) _⟩
    · simp only [if_neg e]
      obtain ⟨r1, r2⟩ := h.hr i (by omega)
      exact ⟨r1, keep (by omega) r2⟩
  · intro i j hi hj hij
    by_cases e : i = k
    · subst e
      have := (h.hr j (by omega)).2.lt
      rw [if_pos rfl, if_neg (Ne.symm hij)]
      omega
    · by_cases e' : j = k
      · subst e'
        have := (h.hr i (by omega)).2.lt
        rw [if_pos rfl, if_neg hij]
        omega
      · simp only [if_neg e, if_neg e']
        exact h.inj i j (by omega) (by omega) hij
  · refine Below.setCell ?_ (by simp) _
    exact (((h.bel.alloc h.bel.size _).alloc (by have := h.bel.size; simp; omega) _).drew).grown hgrow (by have := h.bel.size; simp; omega) (fun q e => (h.row.lt _ e).1)

set_option maxHeartbeats 1600000 in
set_option maxRecDepth 100000 in
theorem graphOf_any (n : Int) (ad : Option Addr) (cap : Nat) (ls : List Lk) (w : World) (hl : ls.length ≤ 1048576) (hr : RdL w ad ls) (hg : goodL n ls = true) :
    Calls Try.prog 55 #[.int .i64 n, .slice ad ls.length cap] w fun e w' => ∃ G gb gv capb rb, e = .returned (.tuple #[.pointer (some ⟨G, 0, none⟩), .bool true]) ∧
      GrAt w' G gb gv capb rb n.toNat (betF ls) (valF ls) (edgeF ls) ∧ w.heap.size ≤ G ∧ w.heap.size ≤ gv ∧ Below w.heap.size w w' := by
  obtain ⟨hn1, hn2⟩ := good_n hg
  obtain ⟨N, rfl⟩ : ∃ N : Nat, n = N := ⟨n.toNat, by omega⟩
  rw [Int.toNat_natCast]
  have HGD := Lib.hid hg; clear hg
  have HR := Lib.hid hr; clear hr
  have hmk := run_makeN (P := Try.prog) 30 3 (.int .i64 0) 1 8 Try.underlying30 Try.infoI N (by omega) (by omega)
  simp only [Value.cells, Nat.mul_one] at hmk
  obtain ⟨i0, hi0, hz0, hz1, hz2⟩ := info_parts Try.infoII
  go_enter Try.func55, Try.ntmps55
  go_wp2_with fail
  refine (isGraph_any _ ad cap ls _ hl HR.out).mono ?_
  rw [HGD.out]
  rintro e w1 ⟨rfl, hb1⟩
  go_wp2_with fail
  go_loopw [19] (fun i wr => ∃ k : Nat, k ≤ N ∧ i = .int .i64 k ∧ ∃ v rb, G1 w1 N k v rb wr) (fun i _ => N - (intOf i).toNat)
  case atStart =>
    refine ⟨0, Nat.zero_le _, rfl, .slice none 0 0, fun _ => 0, ?_⟩
    refine ⟨?_, World.ownsRow_nil _ _ _ _, fun i hi => by omega, fun i j hi => by omega, (Own.newA w1 _ 3 (madeInts N)).alloc _, ((Below.refl _ _).alloc (Nat.le_refl _) _).alloc (by simp) _⟩
    have := Own.newA (w1.alloc (.cells (madeCells #[.int .i64 0] N) 3)) #[.int .i64 N, .slice none 0 0, .slice (some ⟨w1.heap.size, 0, none⟩) N N, .int .i64 0] 65 rfl
    simpa using this
  case round =>
    obtain ⟨k, hk, rfl, v, rb, hI⟩ := hrel
    by_cases hlt : k < N
    · have hG0 := hI.hG
      have cG := hG0.cell? (i := 1) rfl
      have hown := hI.row
      have hne := ownsRow_ne hI.row hI.hG (by decide)
      have hBs := hI.bel.size
      have HI := Lib.hid hI; clear hI
      have HO := Lib.hid hown; clear hown
      have HG0 := Lib.hid hG0; clear hG0
      have lG := HG0.out.lt
      have cG1 : ∀ o, (wr.alloc o).cell? ⟨w1.heap.size + 1, 1, none⟩ = some v := fun o => (HG0.out.alloc o).cell? (i := 1) rfl
      have cG2 : ∀ o o', ((wr.alloc o).alloc o').cell? ⟨w1.heap.size + 1, 1, none⟩ = some v := fun o o' => ((HG0.out.alloc o).alloc o').cell? (i := 1) rfl
      go_wp2_with fail
      go_region_law (first | 
        ((refine step_append_lies _ (by rfl) _ _ _ (by rfl) w1.heap.size 30 i0 _ 1 24 Try.underlying27 hi0 hz0 hz1 hz2 rfl (by omega) v k _ (by rfl) (((HO.out.alloc _).alloc _).drew)
            ⟨wr.heap.size + 1, 0, none⟩ 1 1 [.slice (some ⟨wr.heap.size, 0, none⟩) N N] (by rfl) (by rfl) (World.news_of_block (cs := #[.slice (some ⟨wr.heap.size, 0, none⟩) N N]) (t := 30) (fr := (0, 0)) (heap_alloc2_new _ _ _)) (by simp [Value.oneCell'])
            (by omega) (by unfold maxLen; omega) (by omega) (by simp; omega) (wr.heap.size + 2) (by simp) ?_; intro gg gcap w2 hown1 hgrow hat hlt2; have hG2 := (((HG0.out.alloc _).alloc _).drew).grown hgrow hne; have fG2 := hG2.frozen 1; have cG2 := hG2.cell? (i := 1) rfl; have HG2 := Lib.hid hG2; clear hG2)) | fail)
      all_goals go_wp2
      all_goals go_roundw
      all_goals first
        | (case rel =>
            refine ⟨k + 1, by omega, by go_num, _, _, HI.out.step hown1 hgrow ?_⟩
            rcases hat with h | h
            · simp only [Value.ownBlock]; rw [← h]; exact hne
            · simp only [Value.ownBlock]; intro q; simp at q; omega)
        | (case measure => simp [intOf]; omega)
    · have he : k = N := by omega
      subst he
      rcases Own.of_row hI.row with ⟨_, h0, _⟩ | ⟨gb, capb, rfl, hgb, hcb, hcm, hob⟩
      · omega
      have hgr : GrAt wr (w1.heap.size + 1) gb w1.heap.size capb rb k (betF (ls.take 0)) (valF (ls.take 0)) (edgeF (ls.take 0)) :=
        ⟨hI.hG, hob, fun i hi => (hI.hr i hi).2, hI.hv, hI.inj, fun i hi => by have := (hI.hr i hi).1; omega⟩
      have hrl : ∀ i, i < k → w1.heap.size ≤ rb i := fun i hi => by have := (hI.hr i hi).1; omega
      have hbel := hI.bel
      clear hI hob
      obtain ⟨wo, rfl⟩ : ∃ wo : World, wo = wr := ⟨_, rfl⟩
      have HGR := Lib.hid hgr; clear hgr
      have HRL := Lib.hid hrl; clear hrl
      go_wp2_with fail
      go_loopw [35] (fun i wr => ∃ m : Nat, m ≤ ls.length ∧ i = .int .i64 m ∧ GrAt wr (w1.heap.size + 1) gb w1.heap.size capb rb k (betF (ls.take m)) (valF (ls.take m)) (edgeF (ls.take m)) ∧ Below w1.heap.size w1 wr) (fun i _ => ls.length - (intOf i).toNat)
      case atStart => exact ⟨0, Nat.zero_le _, rfl, HGR.out, hbel⟩
      case round =>
        obtain ⟨m, hm, rfl, hI, hbel2⟩ := hrel
        by_cases hlt2 : m < ls.length
        · obtain ⟨b, off, rfl, hb, c0, c1, c2⟩ := HR.out m hlt2
          have bw := bthen hb1 hbel2 hb1.size
          have d0 := bcell bw hb c0
          have d1 := bcell bw hb c1
          have d2 := bcell bw hb c2
          clear c0 c1 c2 bw
          obtain ⟨xl, hx⟩ : ∃ xl, ls.getD m Lk.z = xl := ⟨_, rfl⟩
          obtain ⟨g1, g2, g3, g4, g5⟩ := good_lk HGD.out hlt2 hx
          rw [hx] at d0 d1 d2
          obtain ⟨xa, xb, xn⟩ := xl
          simp only at d0 d1 d2 g1 g2 g3 g4 g5
          obtain ⟨a, rfl⟩ : ∃ a : Nat, xa = a := ⟨xa.toNat, by omega⟩
          obtain ⟨b', rfl⟩ : ∃ b' : Nat, xb = b' := ⟨xb.toNat, by omega⟩
          have HX := Lib.hid hx; clear hx
          have HI := Lib.hid hI; clear hI
          go_wp2_with fail
          have hGK := HI.out.alloc (.cells #[.int .i64 a, .int .i64 b', .int .i64 xn] 41)
          have hK := Own.newA wr #[.int .i64 a, .int .i64 b', .int .i64 xn] 41 rfl
          have hbel3 := hbel2.alloc hbel2.size (.cells #[.int .i64 a, .int .i64 b', .int .i64 xn] 41)
          generalize wr.alloc (.cells #[.int .i64 a, .int .i64 b', .int .i64 xn] 41) = W at hGK hK hbel3 ⊢
          generalize wr.heap.size = Kb at hK ⊢
          have k0 := hK.cell? (i := 0) rfl
          have k1 := hK.cell? (i := 1) rfl
          have k2 := hK.cell? (i := 2) rfl
          have la : a < k := by omega
          have lb : b' < k := by omega
          have hab : a ≠ b' := by omega
          have e1 := hGK.c1
          have ra := hGK.row la
          have rb' := hGK.row lb
          have ca := hGK.cb la lb
          have cb := hGK.cb lb la
          have fa := (hGK.hr a la).frozen b'
          have fb := (hGK.hr b' lb).frozen a
          have n1 := hGK.nGr la
          have n2 := hGK.nGr lb
          have n3 := hGK.nbr la
          have n4 := hGK.nbr lb
          have n5 := hK.ne_of_type (hGK.hr a la) (by decide)
          have n6 := hK.ne_of_type (hGK.hr b' lb) (by decide)
          have n7 := hGK.inj a b' la lb hab
          have n1' := Ne.symm n1
          have n2' := Ne.symm n2
          have n3' := Ne.symm n3
          have n4' := Ne.symm n4
          have n5' := Ne.symm n5
          have n6' := Ne.symm n6
          have n7' := Ne.symm n7
          have HGK := Lib.hid hGK; clear hGK
          have HK := Lib.hid hK; clear hK
          have HAB := Lib.hid hab; clear hab
          generalize hra : rb a = qa at *
          generalize hrb : rb b' = qb at *
          have HRA := Lib.hid hra; clear hra
          have HRB := Lib.hid hrb; clear hrb
          go_region_held3 (fun w' => w'.cell? ⟨w1.heap.size + 1, 1, none⟩ = some (.slice (some ⟨gb, 0, none⟩) k capb) ∧ w'.cell? ⟨Kb, 0, none⟩ = some (.int .i64 a) ∧ w'.cell? ⟨Kb, 1, none⟩ = some (.int .i64 b') ∧
              w'.cell? ⟨Kb, 2, none⟩ = some (.int .i64 xn) ∧ w'.cell? ⟨gb, a, none⟩ = some (.slice (some ⟨qa, 0, none⟩) k k) ∧ w'.cell? ⟨gb, b', none⟩ = some (.slice (some ⟨qb, 0, none⟩) k k))
            (go_keep) (fail)
          go_wp2_with fail
          have s1 := HGK.out.setBet (a := a) (b := b') la xn
          have K1 := HK.out.setOther (a := ⟨rb a, b', none⟩) (by rw [HRA.out]; exact n5) (.int .i64 xn)
          rw [HRA.out] at s1 K1
          have s2 := (s1.setBet (a := b') (b := a) lb xn).drew
          have K2 := (K1.setOther (a := ⟨rb b', a, none⟩) (by rw [HRB.out]; exact n6) (.int .i64 xn)).drew
          rw [HRB.out] at s2 K2
          clear s1 K1 e1 ra rb' ca cb fa fb n1 n2 n3 n4 n5 n6 n7 n1' n2' n3' n4' n5' n6' n7' k0 k1 k2
          have hbel4 : Below w1.heap.size w1 ((W.setCell ⟨qa, b', none⟩ (.int .i64 xn)).setCell ⟨qb, a, none⟩ (.int .i64 xn)).drew := ((hbel3.setCell (by show _ ≤ qa; rw [← HRA.out]; exact HRL.out a la) _).setCell (by show _ ≤ qb; rw [← HRB.out]; exact HRL.out b' lb) _).drew
          generalize ((W.setCell ⟨qa, b', none⟩ (.int .i64 xn)).setCell ⟨qb, a, none⟩ (.int .i64 xn)).drew = W2 at s2 K2 hbel4 ⊢
          have v1 := valF_bound HGD.out hl m a
          have v2 := valF_bound HGD.out hl m b'
          have v3 := edgeF_bound HGD.out hl m
          generalize hva : valF (ls.take m) a = va at v1
          generalize hvb : valF (ls.take m) b' = vb at v2
          generalize hve : edgeF (ls.take m) = ve at v3 s2
          have HVA := Lib.hid hva; clear hva
          have HVB := Lib.hid hvb; clear hvb
          have HVE := Lib.hid hve; clear hve
          have t0 := K2.cell? (i := 0) rfl
          have t1 := K2.cell? (i := 1) rfl
          have t2 := K2.cell? (i := 2) rfl
          have u0 := s2.c2
          have u1 := s2.cv la
          rw [HVA.out] at u1
          have u2 := s2.hv.frozen a
          have HS2 := Lib.hid s2; clear s2
          have HK2 := Lib.hid K2; clear K2
          go_still_tail 12, (by kernel_rfl)
          change wpList _ _ _ _ _ W2.drew
          go_wp2_with fail
          have s3 := (HS2.out.setVal a (va + xn)).drew
          have K3 := (HK2.out.setOther (a := ⟨w1.heap.size, a, none⟩) (HK2.out.ne_of_type HS2.out.hv (by decide)) (.int .i64 (va + xn))).drew
          have hbel5 : Below w1.heap.size w1 (W2.setCell ⟨w1.heap.size, a, none⟩ (.int .i64 (va + xn))).drew := (hbel4.setCell (Nat.le_refl _) _).drew
          clear t0 t1 t2 u0 u1 u2 hbel4
          generalize (W2.setCell ⟨w1.heap.size, a, none⟩ (.int .i64 (va + xn))).drew = W3 at s3 K3 hbel5 ⊢
          have t0 := K3.cell? (i := 0) rfl
          have t1 := K3.cell? (i := 1) rfl
          have t2 := K3.cell? (i := 2) rfl
          have u0 := s3.c2
          have u1 := s3.cv lb
          rw [if_neg (Ne.symm HAB.out), HVB.out] at u1
          have u2 := s3.hv.frozen b'
          have HS3 := Lib.hid s3; clear s3
          have HK3 := Lib.hid K3; clear K3
          go_still_tail 12, (by kernel_rfl)
          change wpList _ _ _ _ _ W3.drew
          go_wp2_with fail
          have s4 := (HS3.out.setVal b' (vb + xn)).drew
          have K4 := (HK3.out.setOther (a := ⟨w1.heap.size, b', none⟩) (HK3.out.ne_of_type HS3.out.hv (by decide)) (.int .i64 (vb + xn))).drew
          have hbel6 : Below w1.heap.size w1 (W3.setCell ⟨w1.heap.size, b', none⟩ (.int .i64 (vb + xn))).drew := (hbel5.setCell (Nat.le_refl _) _).drew
          clear t0 t1 t2 u0 u1 u2 hbel5
          generalize (W3.setCell ⟨w1.heap.size, b', none⟩ (.int .i64 (vb + xn))).drew = W4 at s4 K4 hbel6 ⊢
          have t2 := K4.cell? (i := 2) rfl
          have u0 := s4.c3
          have u2 := s4.hG.frozen 3
          have HS4 := Lib.hid s4; clear s4
          have HK4 := Lib.hid K4; clear K4
          go_still_tail 9, (by kernel_rfl)
          change wpList _ _ _ _ _ W4.drew
          go_wp2_with fail
          have s5 := (HS4.out.setEd (ve + xn)).drew
          have hbel7 : Below w1.heap.size w1 (W4.setCell ⟨w1.heap.size + 1, 3, none⟩ (.int .i64 (ve + xn))).drew := (hbel6.setCell (by simp) _).drew
          clear t2 u0 u2 hbel6
          generalize (W4.setCell ⟨w1.heap.size + 1, 3, none⟩ (.int .i64 (ve + xn))).drew = W5 at s5 hbel7 ⊢
          have HS5 := Lib.hid s5; clear s5
          go_wp2
          go_roundw
          case rel =>
            refine ⟨m + 1, by omega, by go_num, HS5.out.congr ?_ ?_ ?_, hbel7⟩
            · intro i j _ _
              rw [betF_step HGD.out hlt2 HX.out]
              have ei : ((a : Int) = (i : Int)) ↔ i = a := by omega
              have ej : ((a : Int) = (j : Int)) ↔ j = a := by omega
              have ei' : ((b' : Int) = (i : Int)) ↔ i = b' := by omega
              have ej' : ((b' : Int) = (j : Int)) ↔ j = b' := by omega
              simp only [ei, ej, ei', ej']
              by_cases q1 : i = b' ∧ j = a
              · rw [if_pos q1, if_pos (Or.inr ⟨q1.2, q1.1⟩)]
              · rw [if_neg q1]
                by_cases q2 : i = a ∧ j = b'
                · rw [if_pos q2, if_pos (Or.inl q2)]
                · rw [if_neg q2, if_neg (by rintro (q | q); exact q2 q; exact q1 ⟨q.2, q.1⟩)]
            · intro i _
              rw [valF_step hlt2 HX.out]
              have ei : ((a : Int) = (i : Int)) ↔ i = a := by omega
              have ei' : ((b' : Int) = (i : Int)) ↔ i = b' := by omega
              simp only [ei, ei']
              by_cases q1 : i = b'
              · subst q1
                rw [if_pos rfl, if_neg (Ne.symm HAB.out), if_pos rfl, HVB.out]; omega
              · rw [if_neg q1]
                by_cases q2 : i = a
                · subst q2
                  rw [if_pos rfl, if_pos rfl, if_neg q1, HVA.out]; omega
                · rw [if_neg q2, if_neg q2, if_neg q1]; omega
            · rw [edgeF_step hlt2 HX.out, HVE.out]
          case measure => simp [intOf]; omega
        · have he : m = ls.length := by omega
          subst he
          have HI := Lib.hid hI; clear hI
          go_wp2_with fail
          go_ret2
          refine ⟨w1.heap.size + 1, gb, w1.heap.size, capb, rb, rfl, ?_, ?_, ?_, bthen hb1 hbel2 hb1.size⟩
          · have := HI.out
            rwa [List.take_length] at this
          · have := hb1.size; omega
          · exact hb1.size


set_option maxHeartbeats 400000 in
theorem graphOf_no (n : Int) (ad : Option Addr) (cap : Nat) (ls : List Lk) (w : World) (hl : ls.length ≤ 1048576) (hr : RdL w ad ls) (hg : goodL n ls = false) :
    Calls Try.prog 55 #[.int .i64 n, .slice ad ls.length cap] w fun e w' => e = .returned (.tuple #[.pointer none, .bool false]) ∧ Below w.heap.size w w' := by
  go_enter Try.func55, Try.ntmps55
  go_wp2_with fail
  refine (isGraph_any _ ad cap ls _ hl hr).mono ?_
  rw [hg]
  rintro e w1 ⟨rfl, hb1⟩
  go_wp2
  go_ret2
  exact ⟨rfl, hb1⟩

end Go.Proofs.Ytmhmdbmiimpbnaa
