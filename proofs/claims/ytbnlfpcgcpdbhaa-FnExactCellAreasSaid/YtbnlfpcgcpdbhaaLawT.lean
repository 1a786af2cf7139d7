/-
  What the harness's own functions do with terms; an argument that is a slice of terms. Printed by gen_lawT2.py. By an AI agent.
-/
import Derived.Test.YtbnlfpcgcpdbhaaLaws
import Derived.Test.YtbnlfpcgcpdbhaaOpen
import Derived.Test.YtbnlfpcgcpdbhaaCeP
namespace Go.Proofs.Ytbnlfpcgcpdbhaa
open Go.ChangeShapes Go.WideShapes Go.ChangeAt Go.RowKit Go.Deep

theorem tmsV_replicate (n : Nat) : tmsV (List.replicate n default) = List.replicate (n * 3) (.int .i64 0) := by
  induction n with
  | zero => rfl
  | succ n ih => rw [List.replicate_succ, tmsV_cons, ih, show (n + 1) * 3 = n * 3 + 1 + 1 + 1 by omega]; rfl
theorem Own.rdT {w : World} {g : Nat} {E : TypeId} {l : List Tm} (h : Own w g E (tmsV l)) : RdT w (some ⟨g, 0, none⟩) l := fun j hj => by
  obtain ⟨c0, c1, c2⟩ := tmsV_get hj
  exact ⟨g, 0, rfl, h.lt, by simpa using h.cell? c0, by simpa using h.cell? c1, by simpa using h.cell? c2⟩
theorem tmsV_set : ∀ (ls : List Tm) (i : Nat) (x : Tm), i < ls.length → ((((tmsV ls).set (i * 3) (.int .i64 x.i)).set (i * 3 + 1) (.int .i64 x.j)).set (i * 3 + 2) (.int .i64 x.c)) = tmsV (ls.set i x)
  | [], _, _, h => by simp at h
  | y :: l, 0, x, _ => by simp [tmsV_cons]
  | y :: l, i + 1, x, h => by
    have := tmsV_set l i x (by simpa using h)
    rw [List.set_cons_succ, tmsV_cons, tmsV_cons, ← this, show (i + 1) * 3 = i * 3 + 1 + 1 + 1 by omega, show i * 3 + 1 + 1 + 1 + 1 = (i * 3 + 1) + 1 + 1 + 1 by omega, show i * 3 + 1 + 1 + 1 + 2 = (i * 3 + 2) + 1 + 1 + 1 by omega]
    simp

theorem madeTerms (n : Nat) : (madeCells #[.int .i64 0, .int .i64 0, .int .i64 0] (n * 3)).toList = tmsV (tab n fun _ => default) := by
  have : tab n (fun _ => (default : Tm)) = List.replicate n default := by simp [tab, List.map_const']
  rw [this, tmsV_replicate]
  apply List.ext_getElem?
  intro j
  by_cases hj : j < n * 3
  · have : j % 3 = 0 ∨ j % 3 = 1 ∨ j % 3 = 2 := by omega
    simp only [madeCells]
    rcases this with h | h | h <;> simp [hj, h]
  · simp [madeCells, hj]

set_option maxHeartbeats 400000 in
theorem szTermS_big (ad : Option Addr) (n cap : Nat) (left : Int) (w : World) (h1 : left ≤ 1048576) (h2 : 0 ≤ left) (hn : n ≤ 9223372036854775807) (h : left < n) :
    Calls Try.prog 5 #[.slice ad n cap, .int .i64 left] w fun e w' => e = .returned (.int .i64 (-1)) ∧ w = w' := by
  have h' : left - n < 0 := by omega
  go_enter Try.func5, Try.ntmps5
  go_wp2
  go_ret
  exact ⟨rfl, rfl⟩

set_option maxHeartbeats 400000 in
theorem szTermS_ok (ad : Option Addr) (n cap : Nat) (left : Int) (w : World) (h1 : left ≤ 1048576) (h : (n : Int) ≤ left) :
    Calls Try.prog 5 #[.slice ad n cap, .int .i64 left] w fun e w' => e = .returned (.int .i64 (left - n)) ∧ w = w' := by
  have h' : 0 ≤ left - n := by omega
  go_enter Try.func5, Try.ntmps5
  go_wp2
  go_ret
  exact ⟨rfl, rfl⟩


set_option maxHeartbeats 400000 in
theorem toTerm_any (a b n : Int) (w : World) :
    Calls Try.prog 20 #[.agg #[.int .i64 a, .int .i64 b, .int .i64 n]] w fun e w' => e = .returned (.agg #[.int .i64 a, .int .i64 b, .int .i64 n]) ∧ Below w.heap.size w w' := by
  go_enter Try.func20, Try.ntmps20
  go_wp2
  exact bodyPost_ret (v := .agg #[.int .i64 a, .int .i64 b, .int .i64 n]) (by simp [results, Try.results20, go_sem]) rfl ⟨rfl, (((Below.refl _ _).alloc (Nat.le_refl _) _).alloc (by simp) _).alloc (by simp; omega) _⟩

set_option maxHeartbeats 400000 in
theorem toTermS_any (ad : Option Addr) (cap : Nat) (ls : List Tm) (w : World) (hl : ls.length ≤ 1048576) (hr : RdT w ad ls) :
    Calls Try.prog 7 #[.slice ad ls.length cap] w fun e w' => ∃ g, e = .returned (.slice (some ⟨g, 0, none⟩) ls.length ls.length) ∧ w.heap.size ≤ g ∧ Own w' g 43 (tmsV ls) ∧ Below w.heap.size w w' := by
  have hmk := run_makeN (P := Try.prog) 26 43 (.agg #[.int .i64 0, .int .i64 0, .int .i64 0]) 3 24 Try.underlying26 Try.infoT ls.length (by omega) (by omega)
  simp only [Value.cells] at hmk
  have HR := Lib.hid hr; clear hr
  go_enter Try.func7, Try.ntmps7
  go_wp2
  go_loopw [4] (fun i wr => ∃ k : Nat, k ≤ ls.length ∧ i = .int .i64 k ∧ Own wr w.heap.size 43 (tmsV (tab ls.length fun i => if i < k then ls.getD i default else default)) ∧ Below w.heap.size w wr) (fun i _ => ls.length - (intOf i).toNat)
  case atStart =>
    refine ⟨0, Nat.zero_le _, rfl, (Own.newA w _ 43 (madeTerms _)).congr ?_, (Below.refl _ _).alloc (Nat.le_refl _) _⟩
    simp
  case round =>
    obtain ⟨k, hk, rfl, hown, hbel⟩ := hrel
    by_cases hlt : k < ls.length
    · obtain ⟨b, off, rfl, hb, c0, c1, c2⟩ := HR.out k hlt
      have d0 := bcell hbel hb c0
      have d1 := bcell hbel hb c1
      have d2 := bcell hbel hb c2
      clear c0 c1 c2
      generalize hx : ls.getD k default = x at d0 d1 d2
      obtain ⟨xa, xb, xn⟩ := x
      simp only at d0 d1 d2
      have HX := Lib.hid hx; clear hx
      have HO := Lib.hid hown; clear hown
      go_wp2_with fail
      refine (toTerm_any _ _ _ _).mono ?_
      rintro e w1 ⟨rfl, hb1⟩
      have hown := HO.out.belowAll hb1
      have f1 := hown.frozen (k * 3)
      have f2 := hown.frozen (k * 3 + 1)
      have f3 := hown.frozen (k * 3 + 2)
      obtain ⟨e0, e1, e2⟩ := tmsV_get (l := tab ls.length fun i => if i < k then ls.getD i default else default) (i := k) (by rw [tab_length]; exact hlt)
      have g0 := hown.cell? e0
      have g1 := hown.cell? e1
      have g2 := hown.cell? e2
      clear e0 e1 e2
      have st := (((hown.set (k * 3) (.int .i64 xa)).set (k * 3 + 1) (.int .i64 xb)).set (k * 3 + 2) (.int .i64 xn)).congr (tmsV_set _ k ⟨xa, xb, xn⟩ (by rw [tab_length]; exact hlt))
      rw [tab_set] at st
      have HS := Lib.hid st; clear st
      have HH := Lib.hid hown; clear hown
      go_wp2
      go_roundw
      case rel =>
        refine ⟨k + 1, by omega, by go_num, HS.out.congr ?_, (((bthen hbel hb1 hbel.size).setCell (Nat.le_refl _) _).setCell (Nat.le_refl _) _).setCell (Nat.le_refl _) _⟩
        congr 1
        refine tab_congr fun i hi => ?_
        by_cases e : i = k
        · subst e; rw [if_pos rfl, if_pos (by omega), HX.out]
        · rw [if_neg e]; by_cases e2 : i < k
          · rw [if_pos e2, if_pos (by omega)]
          · rw [if_neg e2, if_neg (by omega)]
      case measure => simp [intOf]; omega
    · have he : k = ls.length := by omega
      have HO := Lib.hid hown; clear hown
      go_wp2
      go_ret
      refine ⟨_, rfl, Nat.le_refl _, HO.out.congr ?_, hbel⟩
      congr 1
      rw [← tab_self ls default, tab_length]
      refine tab_congr fun i hi => ?_
      rw [if_pos (by omega), tab_self]


set_option maxHeartbeats 400000 in
theorem eqTerm_same (a b n : Int) (w : World) :
    Calls Try.prog 25 #[.agg #[.int .i64 a, .int .i64 b, .int .i64 n], .agg #[.int .i64 a, .int .i64 b, .int .i64 n]] w fun e w' => e = .returned (.bool true) ∧ Below w.heap.size w w' := by
  go_enter Try.func25, Try.ntmps25
  go_wp2
  go_ret
  exact ⟨rfl, ((Below.refl _ _).alloc (Nat.le_refl _) _).alloc (by simp) _⟩

set_option maxHeartbeats 800000 in
set_option maxRecDepth 100000 in
theorem eqTermS_same (ad ad' : Option Addr) (cap cap' : Nat) (ls : List Tm) (w : World) (hl : ls.length ≤ 1048576) (hr : RdT w ad ls) (hr' : RdT w ad' ls) :
    Calls Try.prog 9 #[.slice ad ls.length cap, .slice ad' ls.length cap'] w fun e w' => e = .returned (.bool true) ∧ Below w.heap.size w w' := by
  have HR := Lib.hid hr; clear hr
  have HR' := Lib.hid hr'; clear hr'
  go_enter Try.func9, Try.ntmps9
  go_wp2
  go_loopw [5] (fun i wr => ∃ k : Nat, k ≤ ls.length ∧ i = .int .i64 k ∧ Below w.heap.size w wr) (fun i _ => ls.length - (intOf i).toNat)
  case atStart => exact ⟨0, Nat.zero_le _, rfl, Below.refl _ _⟩
  case round =>
    obtain ⟨k, hk, rfl, hbel⟩ := hrel
    by_cases hlt : k < ls.length
    · obtain ⟨b, off, rfl, hb, c0, c1, c2⟩ := HR.out k hlt
      obtain ⟨b', off', rfl, hb', c0', c1', c2'⟩ := HR'.out k hlt
      have d0 := bcell hbel hb c0
      have d1 := bcell hbel hb c1
      have d2 := bcell hbel hb c2
      have d0' := bcell hbel hb' c0'
      have d1' := bcell hbel hb' c1'
      have d2' := bcell hbel hb' c2'
      clear c0 c1 c2 c0' c1' c2'
      generalize ls.getD k default = x at d0 d1 d2 d0' d1' d2'
      obtain ⟨xa, xb, xn⟩ := x
      simp only at d0 d1 d2 d0' d1' d2'
      go_wp2_with fail
      go_still_tail 8, (by kernel_rfl)
      change wpList _ _ _ _ _ wr.drew
      go_wp2_with fail
      refine (eqTerm_same _ _ _ _).mono ?_
      rintro e w1 ⟨rfl, hb1⟩
      go_wp2
      go_roundw
      case rel => exact ⟨k + 1, by omega, by go_num, bthen hbel.drew hb1 hbel.size⟩
      case measure => simp [intOf]; omega
    · go_wp2
      go_ret
      exact ⟨rfl, hbel⟩


set_option maxHeartbeats 400000 in
theorem markTermS_own (g cap : Nat) (ls : List Tm) (k : Int) (w : World) (hl : ls.length ≤ 1048576) (h0 : 0 ≤ k) (h1 : k ≤ 1099511627776) (ho : Own w g 43 (tmsV ls)) :
    Calls Try.prog 13 #[.slice (some ⟨g, 0, none⟩) ls.length cap, .int .i64 k] w fun e w' => e = .returned (.int .i64 (k + 3 * ls.length)) ∧ Chg g w w' := by
  have HO := Lib.hid ho; clear ho
  go_enter Try.func13, Try.ntmps13
  go_wp2
  go_loopw [1, 5] (fun q i wr => ∃ j : Nat, j ≤ ls.length ∧ i = .int .i64 j ∧ q = .int .i64 (k + 3 * j) ∧ (∃ ls' : List Tm, ls'.length = ls.length ∧ Own wr g 43 (tmsV ls')) ∧ Chg g w wr) (fun _ i _ => ls.length - (intOf i).toNat)
  case atStart => exact ⟨0, Nat.zero_le _, rfl, by simp, ⟨ls, rfl, HO.out⟩, Chg.refl _ _⟩
  case round =>
    obtain ⟨j, hj, rfl, rfl, ⟨ls', hl', hown⟩, hchg⟩ := hrel
    have HL := Lib.hid hl'; clear hl'
    by_cases hlt : j < ls.length
    · have f1 := hown.frozen (j * 3)
      have f2 := hown.frozen (j * 3 + 1)
      have f3 := hown.frozen (j * 3 + 2)
      obtain ⟨e0, e1, e2⟩ := tmsV_get (l := ls') (i := j) (by rw [HL.out]; exact hlt)
      have g0 := hown.cell? e0
      have g1 := hown.cell? e1
      have g2 := hown.cell? e2
      clear e0 e1 e2
      have st := (((hown.set (j * 3) (.int .i64 (k + 3 * j))).set (j * 3 + 1) (.int .i64 (k + 3 * j + 1))).set (j * 3 + 2) (.int .i64 (k + 3 * j + 1 + 1))).congr (tmsV_set _ j ⟨k + 3 * j, k + 3 * j + 1, k + 3 * j + 1 + 1⟩ (by rw [HL.out]; exact hlt))
      have HS := Lib.hid st; clear st
      have HH := Lib.hid hown; clear hown
      go_wp2
      go_roundw
      case rel => exact ⟨j + 1, by omega, by go_num, by simp; omega, ⟨_, by rw [List.length_set]; exact HL.out, HS.out⟩, ((hchg.trans (Chg.set _ _ _ _)).trans (Chg.set _ _ _ _)).trans (Chg.set _ _ _ _)⟩
      case measure => simp [intOf]; omega
    · have he : j = ls.length := by omega
      have HH := Lib.hid hown; clear hown
      subst he
      go_wp2
      go_ret
      exact ⟨rfl, hchg⟩



theorem Try.cellsT3 : Try.prog.cellsOf 45 = 3 := by kernel_rfl
theorem Try.fieldsT3 : ∃ f0 f1 f2 : Field, Try.prog.underlying 45 = some (.struct #[f0, f1, f2]) ∧ f0.offset = 0 ∧ f1.offset = 1 ∧ f2.offset = 2 ∧ f0.type = 3 ∧ f1.type = 3 ∧ f2.type = 3 :=
  ⟨_, _, _, Try.underlying45, rfl, rfl, rfl, rfl, rfl, rfl⟩

section
variable {H : Type} {enc : TypeId × Value → H} {W : World}
set_option maxRecDepth 100000 in
theorem open_rdT {ad : Option Addr} {len cap : Nat} {d : DataW H} {p : List MemPlace} (h : DataW.Trod enc Try.prog W 0 (fun _ => true) true 22 (.slice ad len cap) d p) : len ≤ 9223372036854775807 ∧ ∃ ls : List Tm, ls.length = len ∧ RdT W ad ls := by
  obtain ⟨fuel, hf⟩ := h
  obtain ⟨f0, f1, f2, he, o0, o1, o2, t0, t1, t2⟩ := Try.fieldsT3
  rcases open_slice Try.underlying22 hf with ⟨hcs, _⟩ | ⟨a, len', cap', m, n, D, Pl, hcs, _, hl, hm, hmm, hx, hel⟩
  · simp [Value.cells] at hcs
    obtain ⟨rfl, rfl, rfl⟩ := hcs
    exact ⟨by omega, [], rfl, fun j hj => by simp at hj⟩
  · simp [Value.cells] at hcs
    obtain ⟨rfl, rfl, rfl⟩ := hcs
    simp only [if_true] at hmm
    simp only [Prod.mk.injEq] at hx
    subst hmm
    have each : ∀ i, i < len → ∃ x : Tm, W.cell? (a.add (i * 3)) = some (.int .i64 x.i) ∧ W.cell? (a.add (i * 3 + 1)) = some (.int .i64 x.j) ∧ W.cell? (a.add (i * 3 + 2)) = some (.int .i64 x.c) := by
      intro i hi
      obtain ⟨cs', h1, h2⟩ := hel i (by omega)
      rw [Try.cellsT3] at h1
      obtain ⟨_, hlen, hcell⟩ := World.cells?_some h1
      obtain ⟨y0, y1, y2, k, _, _, g0, g1, g2⟩ := trod_struct3 he h2
      match cs', hlen with
      | [v0, v1, v2], _ =>
        rw [o0, t0, Try.cellsI] at g0
        rw [o1, t1, Try.cellsI] at g1
        rw [o2, t2, Try.cellsI] at g2
        simp at g0 g1 g2
        obtain ⟨x0, q0, _, _⟩ := DataW.trod_int Try.underlying3 g0
        obtain ⟨x1, q1, _, _⟩ := DataW.trod_int Try.underlying3 g1
        obtain ⟨x2, q2, _, _⟩ := DataW.trod_int Try.underlying3 g2
        simp at q0 q1 q2
        subst q0 q1 q2
        have e0 := hcell 0 (by omega)
        have e1 := hcell 1 (by omega)
        have e2 := hcell 2 (by omega)
        rw [add_add] at e0 e1 e2
        exact ⟨⟨x0, x1, x2⟩, by simpa using e0, by simpa using e1, by simpa using e2⟩
    obtain ⟨q, hq⟩ := choose_lt each
    refine ⟨by unfold maxLen at hm; omega, tab len q, tab_length _ _, fun j hj => ?_⟩
    rw [tab_length] at hj
    obtain ⟨c0, c1, c2⟩ := hq j hj
    obtain ⟨b, off, spot⟩ := a
    obtain ⟨c00, _, _⟩ := hq 0 (by omega)
    have hspot : spot = none := by simpa [Addr.add] using World.cell?_spot c00
    subst hspot
    rw [add_plain] at c0 c1 c2
    rw [tab_getD hj]
    exact ⟨b, off, rfl, cell_lt c0, c0, by rw [Nat.add_assoc]; exact c1, by rw [Nat.add_assoc]; exact c2⟩

end

end Go.Proofs.Ytbnlfpcgcpdbhaa
