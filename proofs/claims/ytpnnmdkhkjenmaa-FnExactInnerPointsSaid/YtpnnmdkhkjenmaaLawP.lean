/-
  What the harness's own functions do with points: sizes, copies, comparisons; an argument that is a slice of points. Printed by gen_lawp.py.
-/
import Derived.Test.YtpnnmdkhkjenmaaOpen
import Derived.Test.YtpnnmdkhkjenmaaPtB
namespace Go.Proofs.Ytpnnmdkhkjenmaa
open Go.ChangeShapes Go.WideShapes Go.ChangeAt Go.RowKit Go.Deep

theorem ptsV_set : ∀ (l : List Pt) (i : Nat) (x : Pt), i < l.length → (((ptsV l).set (i * 2) (.int .i64 x.x)).set (i * 2 + 1) (.int .i64 x.y)) = ptsV (l.set i x)
  | [], _, _, h => by simp at h
  | y :: l, 0, x, _ => by simp [ptsV_cons]
  | y :: l, i + 1, x, h => by
    have := ptsV_set l i x (by simpa using h)
    rw [List.set_cons_succ, ptsV_cons, ptsV_cons, ← this, show (i + 1) * 2 = i * 2 + 1 + 1 by omega, show i * 2 + 1 + 1 + 1 = (i * 2 + 1) + 1 + 1 by omega]
    simp
theorem ptsV_replicate (n : Nat) : ptsV (List.replicate n default) = List.replicate (n * 2) (.int .i64 0) := by
  induction n with
  | zero => rfl
  | succ n ih => rw [List.replicate_succ, ptsV_cons, ih, show (n + 1) * 2 = n * 2 + 1 + 1 by omega]; rfl
theorem madePts (n : Nat) : (madeCells #[.int .i64 0, .int .i64 0] (n * 2)).toList = ptsV (tab n fun _ => default) := by
  have : tab n (fun _ => (default : Pt)) = List.replicate n default := by simp [tab, List.map_const']
  rw [this, ptsV_replicate]
  apply List.ext_getElem?
  intro j
  by_cases hj : j < n * 2
  · have : j % 2 = 0 ∨ j % 2 = 1 := by omega
    simp only [madeCells]
    rcases this with h | h <;> simp [hj, h]
  · simp [madeCells, hj]
theorem Own.rdP {w : World} {g : Nat} {E : TypeId} {l : List Pt} (h : Own w g E (ptsV l)) : RdP w (some ⟨g, 0, none⟩) l := fun j hj => by
  obtain ⟨c0, c1⟩ := ptsV_get hj
  exact ⟨g, 0, rfl, h.lt, by simpa using h.cell? c0, by simpa using h.cell? c1⟩

set_option maxHeartbeats 400000 in
theorem szPointS_big (ad : Option Addr) (n cap : Nat) (left : Int) (w : World) (h1 : left ≤ 1048576) (h2 : 0 ≤ left) (hn : n ≤ 9223372036854775807) (h : left < n) :
    Calls Try.prog 5 #[.slice ad n cap, .int .i64 left] w fun e w' => e = .returned (.int .i64 (-1)) ∧ w = w' := by
  have h' : left - n < 0 := by omega
  go_enter Try.func5, Try.ntmps5
  go_wp2
  go_ret
  exact ⟨rfl, rfl⟩

set_option maxHeartbeats 400000 in
theorem szPointS_ok (ad : Option Addr) (n cap : Nat) (left : Int) (w : World) (h1 : left ≤ 1048576) (h : (n : Int) ≤ left) :
    Calls Try.prog 5 #[.slice ad n cap, .int .i64 left] w fun e w' => e = .returned (.int .i64 (left - n)) ∧ w = w' := by
  have h' : 0 ≤ left - n := by omega
  go_enter Try.func5, Try.ntmps5
  go_wp2
  go_ret
  exact ⟨rfl, rfl⟩

set_option maxHeartbeats 400000 in
theorem toPoint_any (a b : Int) (w : World) :
    Calls Try.prog 14 #[.agg #[.int .i64 a, .int .i64 b]] w fun e w' => e = .returned (.agg #[.int .i64 a, .int .i64 b]) ∧ Below w.heap.size w w' := by
  go_enter Try.func14, Try.ntmps14
  go_wp2
  exact bodyPost_ret (v := .agg #[.int .i64 a, .int .i64 b]) (by simp [results, Try.results14, go_sem]) rfl ⟨rfl, (((Below.refl _ _).alloc (Nat.le_refl _) _).alloc (by simp) _).alloc (by simp; omega) _⟩

set_option maxHeartbeats 400000 in
theorem toPointS_any (ad : Option Addr) (cap : Nat) (ls : List Pt) (w : World) (hl : ls.length ≤ 1048576) (hr : RdP w ad ls) :
    Calls Try.prog 7 #[.slice ad ls.length cap] w fun e w' => ∃ g, e = .returned (.slice (some ⟨g, 0, none⟩) ls.length ls.length) ∧ w.heap.size ≤ g ∧ Own w' g 33 (ptsV ls) ∧ Below w.heap.size w w' := by
  have hmk := run_makeN (P := Try.prog) 26 33 (.agg #[.int .i64 0, .int .i64 0]) 2 16 Try.underlying26 Try.infoP ls.length (by omega) (by omega)
  simp only [Value.cells] at hmk
  have HR := Lib.hid hr; clear hr
  go_enter Try.func7, Try.ntmps7
  go_wp2
  go_loopw [4] (fun i wr => ∃ k : Nat, k ≤ ls.length ∧ i = .int .i64 k ∧ Own wr w.heap.size 33 (ptsV (tab ls.length fun i => if i < k then ls.getD i default else default)) ∧ Below w.heap.size w wr) (fun i _ => ls.length - (intOf i).toNat)
  case atStart =>
    refine ⟨0, Nat.zero_le _, rfl, (Own.newA w _ 33 (madePts _)).congr ?_, (Below.refl _ _).alloc (Nat.le_refl _) _⟩
    simp
  case round =>
    obtain ⟨k, hk, rfl, hown, hbel⟩ := hrel
    by_cases hlt : k < ls.length
    · obtain ⟨b, off, rfl, hb, c0, c1⟩ := HR.out k hlt
      have d0 := bcell hbel hb c0
      have d1 := bcell hbel hb c1
      clear c0 c1
      generalize hx : ls.getD k default = x at d0 d1
      obtain ⟨xa, xb⟩ := x
      simp only at d0 d1
      have HX := Lib.hid hx; clear hx
      have HO := Lib.hid hown; clear hown
      go_wp2_with fail
      refine (toPoint_any _ _ _).mono ?_
      rintro e w1 ⟨rfl, hb1⟩
      have hown := HO.out.belowAll hb1
      have f1 := hown.frozen (k * 2)
      have f2 := hown.frozen (k * 2 + 1)
      obtain ⟨e0, e1⟩ := ptsV_get (l := tab ls.length fun i => if i < k then ls.getD i default else default) (i := k) (by rw [tab_length]; exact hlt)
      have g0 := hown.cell? e0
      have g1 := hown.cell? e1
      clear e0 e1
      have st := ((hown.set (k * 2) (.int .i64 xa)).set (k * 2 + 1) (.int .i64 xb)).congr (ptsV_set _ k ⟨xa, xb⟩ (by rw [tab_length]; exact hlt))
      rw [tab_set] at st
      have HS := Lib.hid st; clear st
      have HH := Lib.hid hown; clear hown
      go_wp2
      go_roundw
      case rel =>
        refine ⟨k + 1, by omega, by go_num, HS.out.congr ?_, ((bthen hbel hb1 hbel.size).setCell (Nat.le_refl _) _).setCell (Nat.le_refl _) _⟩
        congr 1
        refine tab_congr fun i hi => ?_
        by_cases e : i = k
        · subst e; rw [if_pos rfl, if_pos (by omega), HX.out]
        · rw [if_neg e]; by_cases e2 : i < k
          · rw [if_pos e2, if_pos (by omega)]
          · rw [if_neg e2, if_neg (by omega)]
      case measure => simp [intOf]; omega
    · have he : k = ls.length := by omega
      have HO := Lib.hid hown; clear hown
      go_wp2
      go_ret
      refine ⟨_, rfl, Nat.le_refl _, HO.out.congr ?_, hbel⟩
      congr 1
      rw [← tab_self ls default, tab_length]
      refine tab_congr fun i hi => ?_
      rw [if_pos (by omega), tab_self]


set_option maxHeartbeats 400000 in
theorem eqPoint_same (a b : Int) (w : World) :
    Calls Try.prog 17 #[.agg #[.int .i64 a, .int .i64 b], .agg #[.int .i64 a, .int .i64 b]] w fun e w' => e = .returned (.bool true) ∧ Below w.heap.size w w' := by
  go_enter Try.func17, Try.ntmps17
  go_wp2
  go_ret
  exact ⟨rfl, ((Below.refl _ _).alloc (Nat.le_refl _) _).alloc (by simp) _⟩

set_option maxHeartbeats 800000 in
set_option maxRecDepth 100000 in
theorem eqPointS_same (ad ad' : Option Addr) (cap cap' : Nat) (ls : List Pt) (w : World) (hl : ls.length ≤ 1048576) (hr : RdP w ad ls) (hr' : RdP w ad' ls) :
    Calls Try.prog 9 #[.slice ad ls.length cap, .slice ad' ls.length cap'] w fun e w' => e = .returned (.bool true) ∧ Below w.heap.size w w' := by
  have HR := Lib.hid hr; clear hr
  have HR' := Lib.hid hr'; clear hr'
  go_enter Try.func9, Try.ntmps9
  go_wp2
  go_loopw [5] (fun i wr => ∃ k : Nat, k ≤ ls.length ∧ i = .int .i64 k ∧ Below w.heap.size w wr) (fun i _ => ls.length - (intOf i).toNat)
  case atStart => exact ⟨0, Nat.zero_le _, rfl, Below.refl _ _⟩
  case round =>
    obtain ⟨k, hk, rfl, hbel⟩ := hrel
    by_cases hlt : k < ls.length
    · obtain ⟨b, off, rfl, hb, c0, c1⟩ := HR.out k hlt
      obtain ⟨b', off', rfl, hb', c0', c1'⟩ := HR'.out k hlt
      have d0 := bcell hbel hb c0
      have d1 := bcell hbel hb c1
      have d0' := bcell hbel hb' c0'
      have d1' := bcell hbel hb' c1'
      clear c0 c1 c0' c1'
      generalize ls.getD k default = x at d0 d1 d0' d1'
      obtain ⟨xa, xb⟩ := x
      simp only at d0 d1 d0' d1'
      go_wp2_with fail
      go_still_tail 8, (by kernel_rfl)
      change wpList _ _ _ _ _ wr.drew
      go_wp2_with fail
      refine (eqPoint_same _ _ _).mono ?_
      rintro e w1 ⟨rfl, hb1⟩
      go_wp2
      go_roundw
      case rel => exact ⟨k + 1, by omega, by go_num, bthen hbel.drew hb1 hbel.size⟩
      case measure => simp [intOf]; omega
    · go_wp2
      go_ret
      exact ⟨rfl, hbel⟩


theorem Try.cellsQ : Try.prog.cellsOf 35 = 2 := by kernel_rfl
theorem Try.fieldsQ : ∃ f0 f1 : Field, Try.prog.underlying 35 = some (.struct #[f0, f1]) ∧ f0.offset = 0 ∧ f1.offset = 1 ∧ f0.type = 3 ∧ f1.type = 3 :=
  ⟨_, _, Try.underlying35, rfl, rfl, rfl, rfl⟩
section
variable {H : Type} {enc : TypeId × Value → H} {W : World}

set_option maxRecDepth 100000 in
theorem open_rdP {ad : Option Addr} {len cap : Nat} {d : DataW H} {p : List MemPlace} (h : DataW.Trod enc Try.prog W 0 (fun _ => true) true 22 (.slice ad len cap) d p) : len ≤ 9223372036854775807 ∧ ∃ ls : List Pt, ls.length = len ∧ RdP W ad ls := by
  obtain ⟨fuel, hf⟩ := h
  obtain ⟨f0, f1, he, o0, o1, t0, t1⟩ := Try.fieldsQ
  rcases open_slice Try.underlying22 hf with ⟨hcs, _⟩ | ⟨a, len', cap', m, n, D, Pl, hcs, _, hl, hm, hmm, hx, hel⟩
  · simp [Value.cells] at hcs
    obtain ⟨rfl, rfl, rfl⟩ := hcs
    exact ⟨by omega, [], rfl, fun j hj => by simp at hj⟩
  · simp [Value.cells] at hcs
    obtain ⟨rfl, rfl, rfl⟩ := hcs
    simp only [if_true] at hmm
    simp only [Prod.mk.injEq] at hx
    subst hmm
    have each : ∀ i, i < len → ∃ x : Pt, W.cell? (a.add (i * 2)) = some (.int .i64 x.x) ∧ W.cell? (a.add (i * 2 + 1)) = some (.int .i64 x.y) := by
      intro i hi
      obtain ⟨cs', h1, h2⟩ := hel i (by omega)
      rw [Try.cellsQ] at h1
      obtain ⟨_, hlen, hcell⟩ := World.cells?_some h1
      obtain ⟨y0, y1, k, _, _, g0, g1⟩ := trod_struct2 he h2
      match cs', hlen with
      | [v0, v1], _ =>
        rw [o0, t0, Try.cellsI] at g0
        rw [o1, t1, Try.cellsI] at g1
        simp at g0 g1
        obtain ⟨x0, q0, _, _⟩ := DataW.trod_int Try.underlying3 g0
        obtain ⟨x1, q1, _, _⟩ := DataW.trod_int Try.underlying3 g1
        simp at q0 q1
        subst q0 q1
        have e0 := hcell 0 (by omega)
        have e1 := hcell 1 (by omega)
        rw [add_add] at e0 e1
        exact ⟨⟨x0, x1⟩, by simpa using e0, by simpa using e1⟩
    obtain ⟨q, hq⟩ := choose_lt each
    refine ⟨by unfold maxLen at hm; omega, tab len q, tab_length _ _, fun j hj => ?_⟩
    rw [tab_length] at hj
    obtain ⟨c0, c1⟩ := hq j hj
    obtain ⟨b, off, spot⟩ := a
    obtain ⟨c00, _⟩ := hq 0 (by omega)
    have hspot : spot = none := by simpa [Addr.add] using World.cell?_spot c00
    subst hspot
    rw [add_plain] at c0 c1
    rw [tab_getD hj]
    exact ⟨b, off, rfl, cell_lt c0, c0, by rw [Nat.add_assoc]; exact c1⟩

end

end Go.Proofs.Ytpnnmdkhkjenmaa
