/-
  What the harness's own functions do: sizes, copies, comparisons, marks.
-/
import Derived.Test.YtkbkemcigcdoaaaRows
import Derived.Test.YtkbkemcigcdoaaaBase
import Derived.WalkSpells
import Derived.WalkLawsBesides
import Derived.Deep.QuietTactic
import Derived.BigQuiet
import Derived.StillTailTactics
namespace Go.Proofs.Ytkbkemcigcdoaaa
open Go.RowKit

theorem Try.infoI : (Try.prog.info? 3).map (fun i => (i.zero, i.size, i.bytes)) = some (some (.int .i64 0), 1, 8) := by kernel_rfl
theorem Try.infoL : (Try.prog.info? 53).map (fun i => (i.zero, i.size, i.bytes)) = some (some (.agg #[.int .i64 0, .int .i64 0, .int .i64 0]), 3, 24) := by kernel_rfl

set_option maxHeartbeats 400000 in
theorem szLinkS_big (ad : Option Addr) (n cap : Nat) (left : Int) (w : World) (h1 : left ≤ 1048576) (h2 : 0 ≤ left) (hn : n ≤ 9223372036854775807) (h : left < n) :
    Calls Try.prog 12 #[.slice ad n cap, .int .i64 left] w fun e w' => e = .returned (.int .i64 (-1)) ∧ w = w' := by
  have h' : left - n < 0 := by omega
  go_enter Try.func12, Try.ntmps12
  go_wp2
  go_ret
  exact ⟨rfl, rfl⟩

set_option maxHeartbeats 400000 in
theorem szLinkS_ok (ad : Option Addr) (n cap : Nat) (left : Int) (w : World) (h1 : left ≤ 1048576) (h : (n : Int) ≤ left) :
    Calls Try.prog 12 #[.slice ad n cap, .int .i64 left] w fun e w' => e = .returned (.int .i64 (left - n)) ∧ w = w' := by
  have h' : 0 ≤ left - n := by omega
  go_enter Try.func12, Try.ntmps12
  go_wp2
  go_ret
  exact ⟨rfl, rfl⟩

set_option maxHeartbeats 400000 in
theorem toIntS_any (ad : Option Addr) (cap : Nat) (xs : List Int) (w : World) (hl : xs.length ≤ 1048576) (hr : RdI w ad xs) :
    Calls Try.prog 15 #[.slice ad xs.length cap] w fun e w' => ∃ g, e = .returned (.slice (some ⟨g, 0, none⟩) xs.length xs.length) ∧ w.heap.size ≤ g ∧ Own w' g 3 (ints xs) ∧ Below w.heap.size w w' := by
  have hmk := run_makeN (P := Try.prog) 23 3 (.int .i64 0) 1 8 Try.underlying23 Try.infoI xs.length (by omega) (by omega)
  simp only [Value.cells, Nat.mul_one] at hmk
  have HR := Lib.hid hr; clear hr
  go_enter Try.func15, Try.ntmps15
  go_wp2
  go_loopw [4] (fun i wr => ∃ k : Nat, k ≤ xs.length ∧ i = .int .i64 k ∧ Own wr w.heap.size 3 (ints (tab xs.length fun i => if i < k then xs.getD i 0 else 0)) ∧ Below w.heap.size w wr) (fun i _ => xs.length - (intOf i).toNat)
  case atStart =>
    refine ⟨0, Nat.zero_le _, rfl, (Own.newA w _ 3 (madeInts _)).congr ?_, (Below.refl _ _).alloc (Nat.le_refl _) _⟩
    simp
  case round =>
    obtain ⟨k, hk, rfl, hown, hbel⟩ := hrel
    by_cases hlt : k < xs.length
    · obtain ⟨b, off, rfl, hb, c⟩ := HR.out k hlt
      have d := bcell hbel hb c
      clear c
      have f1 := hown.frozen k
      have c1 := hown.cell? (i := k) (ints_get (by rw [tab_length]; exact hlt))
      have st := hown.set k (.int .i64 (xs.getD k 0))
      rw [ints_set, tab_set] at st
      generalize hx : xs.getD k 0 = x at d st
      have HX := Lib.hid hx; clear hx
      have HS := Lib.hid st; clear st
      have HO := Lib.hid hown; clear hown
      go_wp2
      go_roundw
      case rel =>
        refine ⟨k + 1, by omega, by go_num, HS.out.congr ?_, hbel.setCell (by simp) _⟩
        congr 1
        refine tab_congr fun i hi => ?_
        by_cases e : i = k
        · subst e; rw [if_pos rfl, if_pos (by omega), HX.out]
        · rw [if_neg e]; by_cases e2 : i < k
          · rw [if_pos e2, if_pos (by omega)]
          · rw [if_neg e2, if_neg (by omega)]
      case measure => simp [intOf]; omega
    · have he : k = xs.length := by omega
      have HO := Lib.hid hown; clear hown
      go_wp2
      go_ret
      refine ⟨_, rfl, Nat.le_refl _, HO.out.congr ?_, hbel⟩
      congr 1
      rw [← tab_self xs 0, tab_length]
      refine tab_congr fun i hi => ?_
      rw [if_pos (by omega), tab_self]

set_option maxHeartbeats 400000 in
theorem eqIntS_same (ad ad' : Option Addr) (cap cap' : Nat) (xs : List Int) (w : World) (hl : xs.length ≤ 1048576) (hr : RdI w ad xs) (hr' : RdI w ad' xs) :
    Calls Try.prog 18 #[.slice ad xs.length cap, .slice ad' xs.length cap'] w fun e w' => e = .returned (.bool true) ∧ Below w.heap.size w w' := by
  have HR := Lib.hid hr; clear hr
  have HR' := Lib.hid hr'; clear hr'
  go_enter Try.func18, Try.ntmps18
  go_wp2
  go_loopw [5] (fun i wr => ∃ k : Nat, k ≤ xs.length ∧ i = .int .i64 k ∧ Below w.heap.size w wr) (fun i _ => xs.length - (intOf i).toNat)
  case atStart => exact ⟨0, Nat.zero_le _, rfl, Below.refl _ _⟩
  case round =>
    obtain ⟨k, hk, rfl, hbel⟩ := hrel
    by_cases hlt : k < xs.length
    · obtain ⟨b, off, rfl, hb, c⟩ := HR.out k hlt
      obtain ⟨b', off', rfl, hb', c'⟩ := HR'.out k hlt
      have d := bcell hbel hb c
      have d' := bcell hbel hb' c'
      clear c c'
      generalize xs.getD k 0 = x at d d'
      go_wp2_with fail
      go_quiet (fail)
      go_wp2
      go_roundw
      case rel => exact ⟨k + 1, by omega, by go_num, bdrewN hbel _⟩
      case measure => simp [intOf]; omega
    · go_wp2
      go_ret
      exact ⟨rfl, hbel⟩

set_option maxHeartbeats 400000 in
theorem markIntS_own (g cap : Nat) (xs : List Int) (k : Int) (w : World) (hl : xs.length ≤ 1048576) (h0 : 0 ≤ k) (h1 : k ≤ 1099511627776) (ho : Own w g 3 (ints xs)) :
    Calls Try.prog 22 #[.slice (some ⟨g, 0, none⟩) xs.length cap, .int .i64 k] w fun e w' => e = .returned (.int .i64 (k + xs.length)) ∧ Own w' g 3 (ints (tab xs.length fun i => k + i)) ∧ Chg g w w' := by
  have HO := Lib.hid ho; clear ho
  go_enter Try.func22, Try.ntmps22
  go_wp2
  go_loopw [1, 5] (fun q i wr => ∃ j : Nat, j ≤ xs.length ∧ i = .int .i64 j ∧ q = .int .i64 (k + j) ∧ Own wr g 3 (ints (tab xs.length fun i => if i < j then k + i else xs.getD i 0)) ∧ Chg g w wr) (fun _ i _ => xs.length - (intOf i).toNat)
  case atStart =>
    refine ⟨0, Nat.zero_le _, rfl, by simp, HO.out.congr ?_, Chg.refl _ _⟩
    congr 1
    simp only [Nat.not_lt_zero, if_false]
    exact (tab_self xs 0).symm
  case round =>
    obtain ⟨j, hj, rfl, rfl, hown, hchg⟩ := hrel
    by_cases hlt : j < xs.length
    · have f1 := hown.frozen j
      have c1 := hown.cell? (i := j) (ints_get (by rw [tab_length]; exact hlt))
      have st := hown.set j (.int .i64 (k + j))
      rw [ints_set, tab_set] at st
      have HS := Lib.hid st; clear st
      have HH := Lib.hid hown; clear hown
      go_wp2
      go_roundw
      case rel =>
        refine ⟨j + 1, by omega, by go_num, by simp; omega, HS.out.congr ?_, hchg.trans (Chg.set _ _ _ _)⟩
        congr 1
        refine tab_congr fun i hi => ?_
        by_cases e : i = j
        · subst e; rw [if_pos rfl, if_pos (by omega)]
        · rw [if_neg e]; by_cases e2 : i < j
          · rw [if_pos e2, if_pos (by omega)]
          · rw [if_neg e2, if_neg (by omega)]
      case measure => simp [intOf]; omega
    · have he : j = xs.length := by omega
      have HH := Lib.hid hown; clear hown
      subst he
      go_wp2
      go_ret
      refine ⟨rfl, HH.out.congr ?_, hchg⟩
      congr 1
      exact tab_congr fun i hi => by rw [if_pos hi]

set_option maxHeartbeats 400000 in
theorem markIntS_nil (k : Int) (w : World) :
    Calls Try.prog 22 #[.slice none 0 0, .int .i64 k] w fun e w' => e = .returned (.int .i64 k) ∧ w = w' := by
  go_enter Try.func22, Try.ntmps22
  go_wp2
  refine wp_loop_rounds 1 ?_
  rw [rounds_succ]
  go_wp2
  go_ret
  exact ⟨rfl, rfl⟩

theorem markIntS_res (B : Nat) (v : Value) (xs : List Int) (k : Int) (w : World) (hl : xs.length ≤ 1048576) (h0 : 0 ≤ k) (h1 : k ≤ 1099511627776) (hB : B ≤ w.heap.size) (hr : ResI w B 3 v xs) :
    Calls Try.prog 22 #[v, .int .i64 k] w fun e w' => e = .returned (.int .i64 (k + xs.length)) ∧ ResI w' B 3 v (tab xs.length fun i => k + i) ∧ Below B w w' := by
  rcases hr with ⟨rfl, rfl⟩ | ⟨g, cap, rfl, hg, ho⟩
  · refine (markIntS_nil k w).mono fun e w' ⟨he, hw⟩ => ?_
    subst hw
    exact ⟨by rw [he]; simp, Or.inl ⟨rfl, rfl⟩, Below.refl _ _⟩
  · refine (markIntS_own g cap xs k w hl h0 h1 ho).mono fun e w' ⟨he, ho', hc⟩ => ?_
    exact ⟨he, Or.inr ⟨g, cap, by rw [tab_length], hg, ho'⟩, hc.below hg hB⟩

set_option maxHeartbeats 400000 in
theorem heldIntS_same (ad : Option Addr) (cap n : Nat) (k : Int) (w : World) (hl : n ≤ 1048576) (h0 : 0 ≤ k) (h1 : k ≤ 1099511627776) (hr : RdI w ad (tab n fun i => k + i)) :
    Calls Try.prog 23 #[.slice ad n cap, .int .i64 k] w fun e w' => e = .returned (.int .i64 (k + n)) ∧ w = w' := by
  have HR := Lib.hid hr; clear hr
  go_enter Try.func23, Try.ntmps23
  go_wp2
  go_loop [1, 5] (fun q i => ∃ j : Nat, j ≤ n ∧ i = .int .i64 j ∧ q = .int .i64 (k + j)) (fun _ i => n - (intOf i).toNat)
  case atStart => exact ⟨0, Nat.zero_le _, rfl, by simp⟩
  case round =>
    obtain ⟨j, hj, rfl, rfl⟩ := hrel
    by_cases hlt : j < n
    · obtain ⟨b, off, rfl, hb, c⟩ := HR.out j (by rw [tab_length]; exact hlt)
      rw [tab_getD hlt] at c
      go_wp2
      go_round
      case rel => exact ⟨j + 1, by omega, by go_num, by simp; omega⟩
      case measure => simp [intOf]; omega
    · have he : j = n := by omega
      subst he
      go_wp2
      go_ret
      exact ⟨rfl, rfl⟩

set_option maxHeartbeats 400000 in
theorem toLink_any (a b n : Int) (w : World) :
    Calls Try.prog 44 #[.agg #[.int .i64 a, .int .i64 b, .int .i64 n]] w fun e w' => e = .returned (.agg #[.int .i64 a, .int .i64 b, .int .i64 n]) ∧ Below w.heap.size w w' := by
  go_enter Try.func44, Try.ntmps44
  go_wp2
  exact bodyPost_ret (v := .agg #[.int .i64 a, .int .i64 b, .int .i64 n]) (by simp [results, Try.results44, go_sem]) rfl ⟨rfl, (((Below.refl _ _).alloc (Nat.le_refl _) _).alloc (by simp) _).alloc (by simp; omega) _⟩

set_option maxHeartbeats 400000 in
theorem toLinkS_any (ad : Option Addr) (cap : Nat) (ls : List Lk) (w : World) (hl : ls.length ≤ 1048576) (hr : RdL w ad ls) :
    Calls Try.prog 14 #[.slice ad ls.length cap] w fun e w' => ∃ g, e = .returned (.slice (some ⟨g, 0, none⟩) ls.length ls.length) ∧ w.heap.size ≤ g ∧ Own w' g 53 (lks ls) ∧ Below w.heap.size w w' := by
  have hmk := run_makeN (P := Try.prog) 27 53 (.agg #[.int .i64 0, .int .i64 0, .int .i64 0]) 3 24 Try.underlying27 Try.infoL ls.length (by omega) (by omega)
  simp only [Value.cells] at hmk
  have HR := Lib.hid hr; clear hr
  go_enter Try.func14, Try.ntmps14
  go_wp2
  go_loopw [4] (fun i wr => ∃ k : Nat, k ≤ ls.length ∧ i = .int .i64 k ∧ Own wr w.heap.size 53 (lks (tab ls.length fun i => if i < k then ls.getD i Lk.z else Lk.z)) ∧ Below w.heap.size w wr) (fun i _ => ls.length - (intOf i).toNat)
  case atStart =>
    refine ⟨0, Nat.zero_le _, rfl, (Own.newA w _ 53 (madeLinks _)).congr ?_, (Below.refl _ _).alloc (Nat.le_refl _) _⟩
    simp
  case round =>
    obtain ⟨k, hk, rfl, hown, hbel⟩ := hrel
    by_cases hlt : k < ls.length
    · obtain ⟨b, off, rfl, hb, c0, c1, c2⟩ := HR.out k hlt
      have d0 := bcell hbel hb c0
      have d1 := bcell hbel hb c1
      have d2 := bcell hbel hb c2
      clear c0 c1 c2
      generalize hx : ls.getD k Lk.z = x at d0 d1 d2
      obtain ⟨xa, xb, xn⟩ := x
      simp only at d0 d1 d2
      have HX := Lib.hid hx; clear hx
      have HO := Lib.hid hown; clear hown
      go_wp2_with fail
      refine (toLink_any _ _ _ _).mono ?_
      rintro e w1 ⟨rfl, hb1⟩
      have hown := HO.out.belowAll hb1
      have f1 := hown.frozen (k * 3)
      have f2 := hown.frozen (k * 3 + 1)
      have f3 := hown.frozen (k * 3 + 2)
      obtain ⟨e0, e1, e2⟩ := lks_get (ls := tab ls.length fun i => if i < k then ls.getD i Lk.z else Lk.z) (i := k) (by rw [tab_length]; exact hlt)
      have g0 := hown.cell? e0
      have g1 := hown.cell? e1
      have g2 := hown.cell? e2
      clear e0 e1 e2
      have st := (((hown.set (k * 3) (.int .i64 xa)).set (k * 3 + 1) (.int .i64 xb)).set (k * 3 + 2) (.int .i64 xn)).congr (lks_set _ k ⟨xa, xb, xn⟩ (by rw [tab_length]; exact hlt))
      rw [tab_set] at st
      have HS := Lib.hid st; clear st
      have HH := Lib.hid hown; clear hown
      go_wp2
      go_roundw
      case rel =>
        refine ⟨k + 1, by omega, by go_num, HS.out.congr ?_, (((bthen hbel hb1 hbel.size).setCell (Nat.le_refl _) _).setCell (Nat.le_refl _) _).setCell (Nat.le_refl _) _⟩
        congr 1
        refine tab_congr fun i hi => ?_
        by_cases e : i = k
        · subst e; rw [if_pos rfl, if_pos (by omega), HX.out]
        · rw [if_neg e]; by_cases e2 : i < k
          · rw [if_pos e2, if_pos (by omega)]
          · rw [if_neg e2, if_neg (by omega)]
      case measure => simp [intOf]; omega
    · have he : k = ls.length := by omega
      have HO := Lib.hid hown; clear hown
      go_wp2
      go_ret
      refine ⟨_, rfl, Nat.le_refl _, HO.out.congr ?_, hbel⟩
      congr 1
      rw [← tab_self ls Lk.z, tab_length]
      refine tab_congr fun i hi => ?_
      rw [if_pos (by omega), tab_self]


set_option maxHeartbeats 400000 in
theorem eqLink_same (a b n : Int) (w : World) :
    Calls Try.prog 49 #[.agg #[.int .i64 a, .int .i64 b, .int .i64 n], .agg #[.int .i64 a, .int .i64 b, .int .i64 n]] w fun e w' => e = .returned (.bool true) ∧ Below w.heap.size w w' := by
  go_enter Try.func49, Try.ntmps49
  go_wp2
  go_ret
  exact ⟨rfl, ((Below.refl _ _).alloc (Nat.le_refl _) _).alloc (by simp) _⟩

set_option maxHeartbeats 800000 in
set_option maxRecDepth 100000 in
theorem eqLinkS_same (ad ad' : Option Addr) (cap cap' : Nat) (ls : List Lk) (w : World) (hl : ls.length ≤ 1048576) (hr : RdL w ad ls) (hr' : RdL w ad' ls) :
    Calls Try.prog 17 #[.slice ad ls.length cap, .slice ad' ls.length cap'] w fun e w' => e = .returned (.bool true) ∧ Below w.heap.size w w' := by
  have HR := Lib.hid hr; clear hr
  have HR' := Lib.hid hr'; clear hr'
  go_enter Try.func17, Try.ntmps17
  go_wp2
  go_loopw [5] (fun i wr => ∃ k : Nat, k ≤ ls.length ∧ i = .int .i64 k ∧ Below w.heap.size w wr) (fun i _ => ls.length - (intOf i).toNat)
  case atStart => exact ⟨0, Nat.zero_le _, rfl, Below.refl _ _⟩
  case round =>
    obtain ⟨k, hk, rfl, hbel⟩ := hrel
    by_cases hlt : k < ls.length
    · obtain ⟨b, off, rfl, hb, c0, c1, c2⟩ := HR.out k hlt
      obtain ⟨b', off', rfl, hb', c0', c1', c2'⟩ := HR'.out k hlt
      have d0 := bcell hbel hb c0
      have d1 := bcell hbel hb c1
      have d2 := bcell hbel hb c2
      have d0' := bcell hbel hb' c0'
      have d1' := bcell hbel hb' c1'
      have d2' := bcell hbel hb' c2'
      clear c0 c1 c2 c0' c1' c2'
      generalize ls.getD k Lk.z = x at d0 d1 d2 d0' d1' d2'
      obtain ⟨xa, xb, xn⟩ := x
      simp only at d0 d1 d2 d0' d1' d2'
      go_wp2_with fail
      go_still_tail 8, (by kernel_rfl)
      change wpList _ _ _ _ _ wr.drew
      go_wp2_with fail
      refine (eqLink_same _ _ _ _).mono ?_
      rintro e w1 ⟨rfl, hb1⟩
      go_wp2
      go_roundw
      case rel => exact ⟨k + 1, by omega, by go_num, bthen hbel.drew hb1 hbel.size⟩
      case measure => simp [intOf]; omega
    · go_wp2
      go_ret
      exact ⟨rfl, hbel⟩


set_option maxHeartbeats 400000 in
theorem markLinkS_own (g cap : Nat) (ls : List Lk) (k : Int) (w : World) (hl : ls.length ≤ 1048576) (h0 : 0 ≤ k) (h1 : k ≤ 1099511627776) (ho : Own w g 53 (lks ls)) :
    Calls Try.prog 21 #[.slice (some ⟨g, 0, none⟩) ls.length cap, .int .i64 k] w fun e w' => e = .returned (.int .i64 (k + 3 * ls.length)) ∧ Chg g w w' := by
  have HO := Lib.hid ho; clear ho
  go_enter Try.func21, Try.ntmps21
  go_wp2
  go_loopw [1, 5] (fun q i wr => ∃ j : Nat, j ≤ ls.length ∧ i = .int .i64 j ∧ q = .int .i64 (k + 3 * j) ∧ (∃ ls' : List Lk, ls'.length = ls.length ∧ Own wr g 53 (lks ls')) ∧ Chg g w wr) (fun _ i _ => ls.length - (intOf i).toNat)
  case atStart => exact ⟨0, Nat.zero_le _, rfl, by simp, ⟨ls, rfl, HO.out⟩, Chg.refl _ _⟩
  case round =>
    obtain ⟨j, hj, rfl, rfl, ⟨ls', hl', hown⟩, hchg⟩ := hrel
    have HL := Lib.hid hl'; clear hl'
    by_cases hlt : j < ls.length
    · have f1 := hown.frozen (j * 3)
      have f2 := hown.frozen (j * 3 + 1)
      have f3 := hown.frozen (j * 3 + 2)
      obtain ⟨e0, e1, e2⟩ := lks_get (ls := ls') (i := j) (by rw [HL.out]; exact hlt)
      have g0 := hown.cell? e0
      have g1 := hown.cell? e1
      have g2 := hown.cell? e2
      clear e0 e1 e2
      have st := (((hown.set (j * 3) (.int .i64 (k + 3 * j))).set (j * 3 + 1) (.int .i64 (k + 3 * j + 1))).set (j * 3 + 2) (.int .i64 (k + 3 * j + 1 + 1))).congr (lks_set _ j ⟨k + 3 * j, k + 3 * j + 1, k + 3 * j + 1 + 1⟩ (by rw [HL.out]; exact hlt))
      have HS := Lib.hid st; clear st
      have HH := Lib.hid hown; clear hown
      go_wp2
      go_roundw
      case rel => exact ⟨j + 1, by omega, by go_num, by simp; omega, ⟨_, by rw [List.length_set]; exact HL.out, HS.out⟩, ((hchg.trans (Chg.set _ _ _ _)).trans (Chg.set _ _ _ _)).trans (Chg.set _ _ _ _)⟩
      case measure => simp [intOf]; omega
    · have he : j = ls.length := by omega
      have HH := Lib.hid hown; clear hown
      subst he
      go_wp2
      go_ret
      exact ⟨rfl, hchg⟩


/-! ### The same of values: a slice that reads as numbers -/
def RdV (w : World) (v : Value) (xs : List Int) : Prop := ∃ ad cap, v = .slice ad xs.length cap ∧ RdI w ad xs
theorem ResI.rdV {w : World} {B : Nat} {E : TypeId} {v : Value} {xs : List Int} (h : ResI w B E v xs) : RdV w v xs := h.rd
theorem ResI.chg {w w' : World} {B b : Nat} {E : TypeId} {v : Value} {xs : List Int} (h : ResI w B E v xs) (hc : Chg b w w') (hb : b < B) : ResI w' B E v xs := by
  rcases h with h | ⟨g, cap, rfl, hg, ho⟩
  · exact Or.inl h
  · exact Or.inr ⟨g, cap, rfl, hg, ho.chg hc (by omega)⟩
theorem eqIntS_v (v v' : Value) (xs : List Int) (w : World) (hl : xs.length ≤ 1048576) (hr : RdV w v xs) (hr' : RdV w v' xs) :
    Calls Try.prog 18 #[v, v'] w fun e w' => e = .returned (.bool true) ∧ Below w.heap.size w w' := by
  obtain ⟨ad, cap, rfl, h⟩ := hr
  obtain ⟨ad', cap', rfl, h'⟩ := hr'
  exact eqIntS_same ad ad' cap cap' xs w hl h h'
theorem heldIntS_v (v : Value) (n : Nat) (k : Int) (w : World) (hl : n ≤ 1048576) (h0 : 0 ≤ k) (h1 : k ≤ 1099511627776) (hr : RdV w v (tab n fun i => k + i)) :
    Calls Try.prog 23 #[v, .int .i64 k] w fun e w' => e = .returned (.int .i64 (k + n)) ∧ w = w' := by
  obtain ⟨ad, cap, rfl, h⟩ := hr
  rw [tab_length]
  exact heldIntS_same ad cap n k w hl h0 h1 h

/-! ### What an exported function hands back -/
def RetB (r : Bool) (w : World) (e : Ending) (w' : World) : Prop := e = .returned (.bool r) ∧ Below w.heap.size w w'
def RetIB (r : Int × Bool) (w : World) (e : Ending) (w' : World) : Prop := e = .returned (.tuple #[.int .i64 r.1, .bool r.2]) ∧ Below w.heap.size w w'
def RetBB (r : Bool × Bool) (w : World) (e : Ending) (w' : World) : Prop := e = .returned (.tuple #[.bool r.1, .bool r.2]) ∧ Below w.heap.size w w'
def RetLB (r : List Int × Bool) (w : World) (e : Ending) (w' : World) : Prop := ∃ v, e = .returned (.tuple #[v, .bool r.2]) ∧ ResI w' w.heap.size 3 v r.1 ∧ Below w.heap.size w w'
def RetLLB (r : List Int × List Int × Bool) (w : World) (e : Ending) (w' : World) : Prop := ∃ v u, e = .returned (.tuple #[v, u, .bool r.2.2]) ∧ ResI w' w.heap.size 3 v r.1 ∧ ResI w' w.heap.size 3 u r.2.1 ∧ (∀ q, v.ownBlock = some q → u.ownBlock ≠ some q) ∧ Below w.heap.size w w'
theorem RetIB.of {r : Int × Bool} {w w' : World} {a : Int} {b : Bool} (h : r = (a, b)) (hb : Below w.heap.size w w') : RetIB r w (.returned (.tuple #[.int .i64 a, .bool b])) w' := by subst h; exact ⟨rfl, hb⟩
theorem RetBB.of {r : Bool × Bool} {w w' : World} {a : Bool} {b : Bool} (h : r = (a, b)) (hb : Below w.heap.size w w') : RetBB r w (.returned (.tuple #[.bool a, .bool b])) w' := by subst h; exact ⟨rfl, hb⟩
theorem RetLB.of {r : List Int × Bool} {w w' : World} {v : Value} {a : List Int} {b : Bool} (h : r = (a, b)) (hv : ResI w' w.heap.size 3 v a) (hb : Below w.heap.size w w') : RetLB r w (.returned (.tuple #[v, .bool b])) w' := by subst h; exact ⟨v, rfl, hv, hb⟩
theorem RetLB.no {r : List Int × Bool} {w w' : World} (h : r = ([], false)) (hb : Below w.heap.size w w') : RetLB r w (.returned (.tuple #[.slice none 0 0, .bool false])) w' := RetLB.of h (Or.inl ⟨rfl, rfl⟩) hb

end Go.Proofs.Ytkbkemcigcdoaaa
