/-
  Lines: the program's terms with the least value at a point.
-/
import Derived.Test.YtbkfgaibcoekgaaDoorLineI
import Derived.Test.YtbkfgaibcoekgaaDoorShelf
import Derived.Deep.AppendLies
namespace Go.Proofs.YtbkfgaibcoekgaaDoor
open Go.RowKit

theorem appB {B : Nat} {u wr w2 : World} {E : TypeId} {size n : Nat} {v : Value} {xs : List Value} {o : Obj} (hb : Below B u wr) (hB : B ≤ wr.heap.size) (ho : wr.ownsRow B E size v n xs) (hg : (wr.alloc o).grownBy w2 v.ownBlock) : Below B u w2 :=
  (hb.alloc hB o).grown hg (by simp; omega) (fun q e => (ho.lt q e).1)
theorem rowE (w : World) (E : TypeId) : (w.alloc (.cells #[] E)).ownsRow w.heap.size E 1 (.slice (some ⟨w.heap.size, 0, none⟩) 0 0) 0 [] :=
  World.ownsRow_made w #[] 0 (Nat.le_refl _) (by decide) rfl
theorem rowC {w : World} {B : Nat} {E : TypeId} {size n m : Nat} {v : Value} {xs ys : List Value} (h : w.ownsRow B E size v n xs) (e : n = m) (e' : xs = ys) : w.ownsRow B E size v m ys := by subst e; subst e'; exact h
theorem cntZ_snoc (l : List Int) (n x : Int) : cntZ (l ++ [x]) n = cntZ l n + (if x = n then 1 else 0) := by
  unfold cntZ
  rw [List.filter_append, List.length_append]
  congr 1
  by_cases h : x = n <;> simp [h]
theorem cntZ_le (l : List Int) (n : Int) : cntZ l n ≤ l.length := List.length_filter_le _ _

set_option maxHeartbeats 800000 in
set_option maxRecDepth 100000 in
theorem placesN_c (ad : Option Addr) (cap : Nat) (l : List Int) (y : Int) (w : World) (hl : l.length ≤ 1048576) (hr : RdI w ad l) :
    Calls Tryd.prog 50 #[.slice ad l.length cap, .int .i64 y] w fun e w' => (∃ ad' c, e = .returned (.slice ad' (cntZ l y) c)) ∧ Below w.heap.size w w' := by
  obtain ⟨i0, hi0, hz0, hz1, hz2⟩ := info_parts Tryd.infoI
  have HR1 := Lib.hid hr; clear hr
  go_enter Tryd.func50, Tryd.ntmps50
  go_wp2_with fail
  go_loopw [5, 11] (fun v i wr => ∃ k : Nat, k ≤ l.length ∧ i = .int .i64 k ∧ (∃ xs : List Int, xs.length = cntZ (l.take k) y ∧ wr.ownsRow w.heap.size 3 1 v xs.length (ints xs)) ∧ Below w.heap.size w wr) (fun _ i _ => l.length - (intOf i).toNat)
  case atStart => exact ⟨0, Nat.zero_le _, rfl, ⟨[], by simp [cntZ], rowE _ _⟩, (Below.refl _ _).alloc (Nat.le_refl _) _⟩
  case round =>
    obtain ⟨k, hk, rfl, ⟨xs, hxl, hown⟩, hbel⟩ := hrel
    have HO := Lib.hid hown; clear hown
    have hsl := cntZ_le (l.take k) y
    rw [← hxl, List.length_take] at hsl
    have hsl' : xs.length ≤ k := by omega
    clear hsl
    have hsz := hbel.size
    by_cases hlt : k < l.length
    · obtain ⟨b, off, rfl, hb, c⟩ := HR1.out k hlt
      have r2 := bcell hbel hb c
      clear c
      have hst := cntZ_snoc (l.take k) y (l.getD k 0)
      have htk : l.take k ++ [l.getD k 0] = l.take (k + 1) := by
        rw [List.take_succ_eq_append_getElem hlt, List.getD_eq_getElem?_getD, List.getElem?_eq_getElem hlt]; rfl
      rw [htk] at hst
      clear htk
      generalize l.getD k 0 = x at r2 hst
      by_cases ht : x = y
      · have hd : (x == y) = true := by simpa using ht
        rw [if_pos ht, ← hxl] at hst
        have HST := Lib.hid hst; clear hst ht hxl
        go_wp2_with (at_builtin; refine wpList_append_lies _ rfl _ _ 55 rfl w.heap.size 3 i0 _ 1 8 Tryd.underlying55 hi0 hz0 hz1 hz2 rfl (by omega) _ xs.length (ints xs) rfl (HO.out.alloc _) ⟨wr.heap.size, 0, none⟩ 1 1 [.int .i64 (k : Int)] rfl rfl (World.news_of_block (cs := #[.int .i64 (k : Int)]) (t := 3) (fr := (0, 0)) (heap_alloc_new _ _)) (by simp [Value.oneCell']) (by omega) (by unfold maxLen; omega) (by omega) (by simp; omega) (wr.heap.size + 1) (by simp) ?_; intro gg gcap w9 hown1 hgrow hat hltg; clear hat)
        go_roundw
        case rel =>
          refine ⟨k + 1, by omega, by go_num, ⟨xs ++ [(k : Int)], by rw [HST.out]; simp, rowC hown1 (by simp) (by simp [ints])⟩, appB hbel hsz HO.out hgrow⟩
        case measure => simp [intOf]; omega
      · have hd : (x == y) = false := by simpa using ht
        rw [if_neg ht] at hst
        have HST := Lib.hid hst; clear hst ht
        go_wp2_with fail
        go_roundw
        case rel => exact ⟨k + 1, by omega, by go_num, ⟨xs, by rw [HST.out, hxl]; rfl, HO.out⟩, hbel⟩
        case measure => simp [intOf]; omega
    · have he : k = l.length := by omega
      subst he
      rw [List.take_length] at hxl
      have hv := ResI.rd (ResI.of_row HO.out)
      clear HO
      obtain ⟨ad', cap', rfl, _⟩ := hv
      rw [hxl]
      go_wp2_with fail
      go_ret
      exact ⟨⟨ad', cap', rfl⟩, hbel⟩

set_option maxHeartbeats 800000 in
theorem terms_c (l : Ln) (x y : Int) (w : World) (h : lnB l = true) (hk : askP x y = true) :
    Calls Tryd.prog 49 #[lnV l, .int .i64 x, .int .i64 y] w fun e w' => (∃ g, e = .returned (.slice (some ⟨g, 0, none⟩) 3 3) ∧ w.heap.size ≤ g ∧ Own w' g 3 (ints [l.a + x, l.b + y, l.c])) ∧ Below w.heap.size w w' := by
  obtain ⟨a, b, c⟩ := l
  have h1 := lnB_bd h
  have h2 := askP_bd hk
  clear h hk
  unfold lnV
  simp only
  have e1 : IntKind.i64.wrap (a + x) = a + x := i64_small (by omega) (by omega)
  have e2 : IntKind.i64.wrap (b + y) = b + y := i64_small (by omega) (by omega)
  clear h1 h2
  have hb0 : Below w.heap.size w ((w.alloc (.cells #[.int .i64 a, .int .i64 b, .int .i64 c] 24)).alloc (.cells #[.int .i64 (a + x), .int .i64 (b + y), .int .i64 c] 3)) := ((Below.refl _ _).alloc (Nat.le_refl _) _).alloc (by simp) _
  have ho : Own ((w.alloc (.cells #[.int .i64 a, .int .i64 b, .int .i64 c] 24)).alloc (.cells #[.int .i64 (a + x), .int .i64 (b + y), .int .i64 c] 3)) (w.heap.size + 1) 3 (ints [a + x, b + y, c]) := by
    have := Own.newA (w.alloc (.cells #[.int .i64 a, .int .i64 b, .int .i64 c] 24)) #[.int .i64 (a + x), .int .i64 (b + y), .int .i64 c] 3 (cs := ints [a + x, b + y, c]) rfl
    simpa using this
  have HO := Lib.hid ho; clear ho
  go_enter Tryd.func49, Tryd.ntmps49
  go_wp2_with fail
  go_ret
  exact ⟨⟨_, rfl, by omega, HO.out⟩, hb0⟩

theorem min3 (a b c : Int) : Lib.minOf ([a, b, c].take 3) = min (min a b) c := by
  simp [Lib.minOf]

set_option maxHeartbeats 800000 in
theorem termsOn_c (l : Ln) (x y : Int) (w : World) (h : lnB l = true) (hk : askP x y = true) :
    Calls Tryd.prog 31 #[lnV l, .int .i64 x, .int .i64 y] w fun e w' => (∃ ad c, e = .returned (.slice ad (cntZ [l.a + x, l.b + y, l.c] (min (min (l.a + x) (l.b + y)) l.c)) c)) ∧ Below w.heap.size w w' := by
  have ct := fun w => terms_c l x y w h hk
  obtain ⟨a, b, c⟩ := l
  unfold lnV at *
  simp only at ct ⊢
  clear h hk
  generalize a + x = p at ct ⊢
  generalize b + y = q at ct ⊢
  have hb0 : Below w.heap.size w (w.alloc (.cells #[.int .i64 a, .int .i64 b, .int .i64 c] 24)) := (Below.refl _ _).alloc (Nat.le_refl _) _
  obtain ⟨M, hM⟩ : ∃ M, min (min p q) c = M := ⟨_, rfl⟩
  obtain ⟨N, hN⟩ : ∃ N, cntZ [p, q, c] M = N := ⟨_, rfl⟩
  rw [hM, hN]
  have HM := Lib.hid hM; have HN := Lib.hid hN; clear hM hN
  have CT := Lib.hid ct; clear ct
  go_enter Tryd.func31, Tryd.ntmps31
  go_wp2_with fail
  refine (CT.out _).mono ?_
  rintro e w1 ⟨⟨g, rfl, hg, ho⟩, hw1⟩
  have hb1 := hb0.trans (hw1.mono hb0.size)
  clear hw1 hg
  have cm := Tryd.slices_Min_int g 0 3 3 [p, q, c] w1 (by omega) (by simp) (by omega) (fun j hj => by
    have := Own.cell? ho (i := j) (v := .int .i64 ([p, q, c].getD j 0)) (by rw [ints_get hj])
    simpa using this)
  have cp := placesN_c (some ⟨g, 0, none⟩) 3 [p, q, c] (min (min p q) c) w1 (by simp) ho.rd
  rw [min3] at cm
  rw [show ([p, q, c] : List Int).length = 3 from rfl] at cp
  rw [HM.out] at cm cp
  rw [HN.out] at cp
  have CM := Lib.hid cm; have CP := Lib.hid cp; clear cm cp ho
  go_wp2_with fail
  refine CM.out.mono ?_
  rintro e w2 ⟨rfl, rfl⟩
  go_wp2_with fail
  refine CP.out.mono ?_
  rintro e w3 ⟨⟨ad', c', rfl⟩, hw3⟩
  go_wp2_with fail
  go_ret
  exact ⟨⟨ad', c', rfl⟩, ball hb1 hw3⟩

def onR (l : Ln) (x y : Int) : Value := .tuple #[.bool (lnB l && askP x y && onB l x y), .bool (lnB l && askP x y)]
set_option maxHeartbeats 1600000 in
theorem isOnLine_c (l : Ln) (x y : Int) (w : World) :
    Calls Tryd.prog 12 #[lnV l, .int .i64 x, .int .i64 y] w fun e w' => e = .returned (onR l x y) ∧ Below w.heap.size w w' := by
  have cl := fun w => isLine_c l w
  have ca := areTwoF_n x y
  have ct := fun w => termsOn_c l x y w
  have hle := cntZ_le [l.a + x, l.b + y, l.c] (min (min (l.a + x) (l.b + y)) l.c)
  unfold onR onB
  generalize hn : cntZ [l.a + x, l.b + y, l.c] (min (min (l.a + x) (l.b + y)) l.c) = N at ct hle ⊢
  clear hn
  generalize lnB l = u at cl ct ⊢
  generalize askP x y = v at ca ct ⊢
  obtain ⟨a, b, c⟩ := l
  unfold lnV at *
  simp only [List.length_cons, List.length_nil] at cl ct hle ⊢
  have CL := Lib.hid cl; have CA := Lib.hid ca; clear cl ca
  have hb0 : Below w.heap.size w (w.alloc (.cells #[.int .i64 a, .int .i64 b, .int .i64 c] 24)) := (Below.refl _ _).alloc (Nat.le_refl _) _
  have ol := LnO.new w a b c rfl
  cases u
  case false =>
    clear ct
    go_enter Tryd.func12, Tryd.ntmps12
    go_wp2_with fail
    refine (CL.out _).mono ?_
    rintro e w1 ⟨rfl, hw1⟩
    go_wp2_with fail
    go_ret2
    exact ⟨rfl, hb0.trans (hw1.mono hb0.size)⟩
  case true =>
    cases v
    case false =>
      clear ct
      go_enter Tryd.func12, Tryd.ntmps12
      go_wp2_with fail
      refine (CL.out _).mono ?_
      rintro e w1 ⟨rfl, hw1⟩
      go_wp2_with fail
      refine (CA.out _ _ rfl).mono ?_
      rintro e w2 ⟨rfl, rfl⟩
      go_wp2_with fail
      go_ret2
      exact ⟨rfl, bal_alloc (hb0.trans (hw1.mono hb0.size))⟩
    case true =>
      have CT := Lib.hid (fun w => ct w rfl rfl); clear ct
      go_enter Tryd.func12, Tryd.ntmps12
      go_wp2_with fail
      refine (CL.out _).mono ?_
      rintro e w1 ⟨rfl, hw1⟩
      have ol1 := (ol.below hw1).below ((Below.refl _ _).alloc (Nat.le_refl _) (.cells #[.int .i64 x, .int .i64 y] 3))
      have hb1 := bal_alloc (o := (.cells #[.int .i64 x, .int .i64 y] 3)) (hb0.trans (hw1.mono hb0.size))
      clear hw1 ol hb0
      go_wp2_with fail
      refine (CA.out _ _ rfl).mono ?_
      rintro e w2 ⟨rfl, rfl⟩
      generalize w1.alloc (.cells #[.int .i64 x, .int .i64 y] 3) = w2 at ol1 hb1 ⊢
      obtain ⟨x0, x1, x2⟩ := ol1.at
      go_wp2_with fail
      refine (CT.out _).mono ?_
      rintro e w3 ⟨⟨ad', c', rfl⟩, hw3⟩
      have hb3 := ball hb1 hw3
      have hd : decide (1 < (N : Int)) = decide (1 < N) := decide_eq_decide.2 (by omega)
      go_wp2_with fail
      go_ret2
      exact ⟨by simp, hb3⟩

end Go.Proofs.YtbkfgaibcoekgaaDoor
