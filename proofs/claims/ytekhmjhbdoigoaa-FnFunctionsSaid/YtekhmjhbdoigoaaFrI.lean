/-
  Fractions: the program's side. Printed by gen_frI.py.
-/
import Derived.Test.YtekhmjhbdoigoaaFrQ
import Derived.StillTailTactics
namespace Go.Proofs.Ytekhmjhbdoigoaa
open Go.RowKit

/-- A fraction in a block of its own. -/
def FrO (w : World) (g : Nat) (f : Fr) : Prop := Own w g 38 [.int .i64 f.n, .int .i64 f.d]
theorem FrO.new (w : World) (a b : Int) {g : Nat} (hg : g = w.heap.size) : FrO (w.alloc (.cells #[.int .i64 a, .int .i64 b] 38)) g ⟨a, b⟩ := by
  subst hg
  exact Own.newA w _ _ rfl
theorem FrO.below {w w' : World} {g : Nat} {f : Fr} (h : FrO w g f) (hb : Below w.heap.size w w') : FrO w' g f := Own.belowAll h hb
theorem FrO.alloc {w : World} {g : Nat} {f : Fr} (h : FrO w g f) (o : Obj) : FrO (w.alloc o) g f := Own.alloc h o
theorem FrO.lt {w : World} {g : Nat} {f : Fr} (h : FrO w g f) : g < w.heap.size := Own.lt h
theorem FrO.chg {w w' : World} {g c : Nat} {f : Fr} (h : FrO w g f) (hc : Chg c w w') (hg : g ≠ c) : FrO w' g f := Own.chg h hc hg
theorem FrO.at {w : World} {g : Nat} {a b : Int} (h : FrO w g ⟨a, b⟩) : w.cell? ⟨g, 0, none⟩ = some (.int .i64 a) ∧ w.cell? ⟨g, 1, none⟩ = some (.int .i64 b) := ⟨Own.cell? h rfl, Own.cell? h rfl⟩
theorem FrO.fr {w : World} {g : Nat} {f : Fr} (h : FrO w g f) : w.frozen? ⟨g, 0, none⟩ = false ∧ w.frozen? ⟨g, 1, none⟩ = false := ⟨Own.frozen h 0, Own.frozen h 1⟩
def fr2 (w : World) (g : Nat) (a b : Int) : World := (w.setCell ⟨g, 0, none⟩ (.int .i64 a)).setCell ⟨g, 1, none⟩ (.int .i64 b)
theorem FrO.set {w : World} {g : Nat} {f : Fr} (h : FrO w g f) (a b : Int) : FrO (fr2 w g a b) g ⟨a, b⟩ := (Own.set h 0 (.int .i64 a)).set 1 (.int .i64 b)
theorem FrO.setOther {w : World} {g h : Nat} {f : Fr} (hl : FrO w g f) (hne : g ≠ h) (a b : Int) : FrO (fr2 w h a b) g f :=
  (Own.setOther hl (a := ⟨h, 0, none⟩) hne (.int .i64 a)).setOther (a := ⟨h, 1, none⟩) hne (.int .i64 b)
theorem fr2_below {u w : World} {g : Nat} {a b : Int} (h : Below u.heap.size u w) (hg : u.heap.size ≤ g) : Below u.heap.size u (fr2 w g a b) := by
  have h1 := (Chg.set g 0 w (.int .i64 a)).trans (Chg.set g 1 _ (.int .i64 b))
  exact bchg h h1 hg h.size
/-- The end of a function that gives a fraction by its cell. -/
theorem fr2_end {u w : World} {g : Nat} {f : Fr} {a b : Int} (h : FrO w g f) (hb : Below u.heap.size u w) (hg : u.heap.size ≤ g) : ∃ W, fr2 w g a b = W ∧ (W.cell? ⟨g, 0, none⟩ = some (.int .i64 a) ∧ W.cell? ⟨g, 1, none⟩ = some (.int .i64 b)) ∧ Below u.heap.size u W :=
  ⟨_, rfl, (h.set a b).at, fr2_below hb hg⟩
def frR (f : Fr) (k : Bool) : Value := .tuple #[frV (if k = true then f else Fr.z), .bool k]
theorem frR_f (f : Fr) : frR f false = .tuple #[frV Fr.z, .bool false] := rfl
theorem frR_t (f : Fr) : frR f true = .tuple #[frV f, .bool true] := rfl
theorem tdiv_bd (n s : Int) : (Int.tdiv n s).natAbs ≤ n.natAbs := by
  rw [Int.natAbs_tdiv]
  exact Nat.div_le_self _ _
theorem gcdN_bd {n d : Int} (hd : d ≠ 0) : 0 < gcdN n d ∧ gcdN n d ≤ d.natAbs := by
  unfold gcdN
  have h : 0 < Int.gcd n d := Nat.pos_of_ne_zero (fun h => hd (Int.gcd_eq_zero_iff.1 h).2)
  have h2 : Int.gcd n d ≤ d.natAbs := Nat.le_of_dvd (by omega) (Nat.gcd_dvd_right _ _)
  omega
theorem mulbF {k m K M : Int} (hK : 0 ≤ K) (hk : -K ≤ k ∧ k ≤ K) (hm : -M ≤ m ∧ m ≤ M) : -(K * M) ≤ k * m ∧ k * m ≤ K * M := by
  have h1 : k.natAbs ≤ K.toNat := by omega
  have h2 : m.natAbs ≤ M.toNat := by omega
  have h3 : (k * m).natAbs ≤ K.toNat * M.toNat := by rw [Int.natAbs_mul]; exact Nat.mul_le_mul h1 h2
  have h4 : ((K.toNat * M.toNat : Nat) : Int) = K * M := by rw [Int.natCast_mul, Int.toNat_of_nonneg hK, Int.toNat_of_nonneg (by omega)]
  omega
theorem mulb9 {k m : Int} (hk : -1000000000 ≤ k ∧ k ≤ 1000000000) (hm : -1000000000 ≤ m ∧ m ≤ 1000000000) : -1000000000000000000 ≤ k * m ∧ k * m ≤ 1000000000000000000 := by
  have := mulbF (K := 1000000000) (M := 1000000000) (by omega) hk hm
  omega
set_option maxHeartbeats 800000 in
set_option maxRecDepth 100000 in
theorem isFrac_c (f : Fr) (w : World) :
    Calls Try.prog 49 #[frV f] w fun e w' => e = .returned (.bool (frB f)) ∧ Below w.heap.size w w' := by
  obtain ⟨a, b⟩ := f
  have c1 := fun w => within_any a (-1000000000) 1000000000 w
  have c2 := fun w => within_any b 1 1000000000 w
  have ha := fun h => inB_t.1 (show inB a (-1000000000) 1000000000 = true from h)
  have hb := fun h => inB_t.1 (show inB b 1 1000000000 = true from h)
  unfold frV frB
  simp only
  generalize inB a (-1000000000) 1000000000 = u at c1 ha ⊢
  generalize inB b 1 1000000000 = v at c2 hb ⊢
  have C1 := Lib.hid c1; have C2 := Lib.hid c2; clear c1 c2
  have hb0 : Below w.heap.size w (w.alloc (.cells #[.int .i64 a, .int .i64 b] 38)) := (Below.refl _ _).alloc (Nat.le_refl _) _
  cases u
  case false =>
    clear ha hb
    rw [show (false && (v && decide (gcdN a b = 1))) = false from rfl]
    go_enter Try.func49, Try.ntmps49
    go_wp2_with fail
    refine (C1.out _).mono ?_
    rintro e w1 ⟨rfl, rfl⟩
    go_wp2_with fail
    go_ret
    exact ⟨rfl, hb0⟩
  case true =>
    cases v
    case false =>
      clear ha hb
      rw [show (true && (false && decide (gcdN a b = 1))) = false from rfl]
      go_enter Try.func49, Try.ntmps49
      go_wp2_with fail
      refine (C1.out _).mono ?_
      rintro e w1 ⟨rfl, rfl⟩
      go_wp2_with fail
      refine (C2.out _).mono ?_
      rintro e w1 ⟨rfl, rfl⟩
      go_wp2_with fail
      go_ret
      exact ⟨rfl, hb0⟩
    case true =>
      have ha1 := ha rfl
      have hb1 := hb rfl
      have c3 := fun w => gcdW_c a b w (by omega) (by omega)
      rw [show (true && (true && decide (gcdN a b = 1))) = decide (gcdN a b = 1) from rfl]
      obtain ⟨G, hG⟩ : ∃ G, gcdN a b = G := ⟨_, rfl⟩
      rw [hG] at c3 ⊢
      have hq : (G == 1) = decide (G = 1) := rfl
      generalize decide (G = 1) = q at hq ⊢
      have C3 := Lib.hid c3; clear c3 hG ha hb ha1 hb1
      go_enter Try.func49, Try.ntmps49
      go_wp2_with fail
      refine (C1.out _).mono ?_
      rintro e w1 ⟨rfl, rfl⟩
      go_wp2_with fail
      refine (C2.out _).mono ?_
      rintro e w1 ⟨rfl, rfl⟩
      go_wp2_with fail
      refine (C3.out _).mono ?_
      rintro e w3 ⟨rfl, hw3⟩
      go_wp2_with fail
      go_ret
      exact ⟨rfl, hb0.trans (hw3.mono hb0.size)⟩
set_option maxHeartbeats 800000 in
set_option maxRecDepth 100000 in
theorem frGood_c (f : Fr) (w : World) :
    Calls Try.prog 53 #[frV f] w fun e w' => e = .returned (.bool (frB f)) ∧ Below w.heap.size w w' := by
  obtain ⟨a, b⟩ := f
  have c1 := fun w => l1In_any a (-1000000000) 1000000000 w
  have c2 := fun w => l1In_any b 1 1000000000 w
  have ha := fun h => inB_t.1 (show inB a (-1000000000) 1000000000 = true from h)
  have hb := fun h => inB_t.1 (show inB b 1 1000000000 = true from h)
  unfold frV frB
  simp only
  generalize inB a (-1000000000) 1000000000 = u at c1 ha ⊢
  generalize inB b 1 1000000000 = v at c2 hb ⊢
  have C1 := Lib.hid c1; have C2 := Lib.hid c2; clear c1 c2
  have hb0 : Below w.heap.size w (w.alloc (.cells #[.int .i64 a, .int .i64 b] 38)) := (Below.refl _ _).alloc (Nat.le_refl _) _
  cases v
  case false =>
    clear ha hb
    rw [show (u && (false && decide (gcdN a b = 1))) = false by cases u <;> rfl]
    go_enter Try.func53, Try.ntmps53
    go_wp2_with fail
    refine (C2.out _).mono ?_
    rintro e w1 ⟨rfl, rfl⟩
    go_wp2_with fail
    go_ret
    exact ⟨rfl, hb0⟩
  case true =>
    cases u
    case false =>
      clear ha hb
      rw [show (false && (true && decide (gcdN a b = 1))) = false from rfl]
      go_enter Try.func53, Try.ntmps53
      go_wp2_with fail
      refine (C2.out _).mono ?_
      rintro e w1 ⟨rfl, rfl⟩
      go_wp2_with fail
      refine (C1.out _).mono ?_
      rintro e w1 ⟨rfl, rfl⟩
      go_wp2_with fail
      go_ret
      exact ⟨rfl, hb0⟩
    case true =>
      have ha1 := ha rfl
      have hb1 := hb rfl
      have c3 := fun w => frGcdW_c a b w (by omega) (by omega)
      rw [show (true && (true && decide (gcdN a b = 1))) = decide (gcdN a b = 1) from rfl]
      obtain ⟨G, hG⟩ : ∃ G, gcdN a b = G := ⟨_, rfl⟩
      rw [hG] at c3 ⊢
      have hq : (G == 1) = decide (G = 1) := rfl
      generalize decide (G = 1) = q at hq ⊢
      have C3 := Lib.hid c3; clear c3 hG ha hb ha1 hb1
      go_enter Try.func53, Try.ntmps53
      go_wp2_with fail
      refine (C2.out _).mono ?_
      rintro e w1 ⟨rfl, rfl⟩
      go_wp2_with fail
      refine (C1.out _).mono ?_
      rintro e w1 ⟨rfl, rfl⟩
      go_wp2_with fail
      refine (C3.out _).mono ?_
      rintro e w3 ⟨rfl, hw3⟩
      go_wp2_with fail
      go_ret
      exact ⟨rfl, hb0.trans (hw3.mono hb0.size)⟩
set_option maxHeartbeats 1600000 in
set_option maxRecDepth 100000 in
theorem areFracs_c (a b : Fr) (g : Nat) (w : World) (ho : Own w g 38 [.int .i64 a.n, .int .i64 a.d, .int .i64 b.n, .int .i64 b.d]) :
    Calls Try.prog 77 #[.slice (some ⟨g, 0, none⟩) 2 2] w fun e w' => e = .returned (.bool (frB a && frB b)) ∧ Below w.heap.size w w' := by
  have ca := fun w => isFrac_c a w
  have cb := fun w => isFrac_c b w
  generalize frB a = u at ca ⊢
  generalize frB b = v at cb ⊢
  obtain ⟨a0, a1⟩ := a
  obtain ⟨b0, b1⟩ := b
  unfold frV at ca cb
  simp only at ca cb ho
  have CA := Lib.hid ca; have CB := Lib.hid cb; have HO := Lib.hid ho; clear ca cb ho
  go_enter Try.func77, Try.ntmps77
  go_wp2_with fail
  go_loopw [7] (fun i wr => ∃ k : Nat, k ≤ 2 ∧ i = .int .i64 k ∧ (1 ≤ k → u = true) ∧ (2 ≤ k → v = true) ∧ Below w.heap.size w wr) (fun i _ => 2 - (intOf i).toNat)
  case atStart => exact ⟨0, by omega, rfl, fun h => by omega, fun h => by omega, Below.refl _ _⟩
  case round =>
    obtain ⟨k, hk, rfl, hu, hv, hbel⟩ := hrel
    have ho := HO.out.below hbel HO.out.lt
    have h3 : k = 0 ∨ k = 1 ∨ k = 2 := by omega
    rcases h3 with rfl | rfl | rfl
    · have k0 := ho.cell? (i := 0) rfl
      have k1 := ho.cell? (i := 1) rfl
      clear hu hv ho
      have hba := bal_alloc (o := .cells #[.int .i64 a0, .int .i64 a1] 38) hbel
      cases u
      · go_wp2_with fail
        refine (CA.out _).mono ?_
        rintro e w1 ⟨rfl, hw1⟩
        go_wp2_with fail
        go_ret
        exact ⟨rfl, ball hba hw1⟩
      · go_wp2_with fail
        refine (CA.out _).mono ?_
        rintro e w1 ⟨rfl, hw1⟩
        go_wp2_with fail
        go_roundw
        case rel => exact ⟨1, by omega, by go_num, fun _ => by simp, fun h => by omega, ball hba hw1⟩
        case measure => simp [intOf]
    · have k0 := ho.cell? (i := 2) rfl
      have k1 := ho.cell? (i := 3) rfl
      obtain rfl := hu (by omega)
      clear hv ho
      have hba := bal_alloc (o := .cells #[.int .i64 b0, .int .i64 b1] 38) hbel
      cases v
      · go_wp2_with fail
        refine (CB.out _).mono ?_
        rintro e w1 ⟨rfl, hw1⟩
        go_wp2_with fail
        go_ret
        exact ⟨rfl, ball hba hw1⟩
      · go_wp2_with fail
        refine (CB.out _).mono ?_
        rintro e w1 ⟨rfl, hw1⟩
        go_wp2_with fail
        go_roundw
        case rel => exact ⟨2, by omega, by go_num, fun _ => by simp, fun _ => by simp, ball hba hw1⟩
        case measure => simp [intOf]
    · obtain rfl := hu (by omega)
      obtain rfl := hv (by omega)
      clear ho
      go_wp2_with fail
      go_ret
      exact ⟨rfl, hbel⟩
theorem areFracs_n (a b : Fr) (g : Nat) (w : World) (hg : g = w.heap.size) :
    Calls Try.prog 77 #[.slice (some ⟨g, 0, none⟩) 2 2] (w.alloc (.cells #[.int .i64 a.n, .int .i64 a.d, .int .i64 b.n, .int .i64 b.d] 38)) fun e w' => e = .returned (.bool (frB a && frB b)) ∧ Below (w.alloc (.cells #[.int .i64 a.n, .int .i64 a.d, .int .i64 b.n, .int .i64 b.d] 38)).heap.size (w.alloc (.cells #[.int .i64 a.n, .int .i64 a.d, .int .i64 b.n, .int .i64 b.d] 38)) w' := by
  subst hg
  exact areFracs_c a b _ _ (Own.newA w _ _ rfl)

set_option maxHeartbeats 1600000 in
set_option maxRecDepth 100000 in
theorem lowest_c (n d : Int) (w : World) (hd : d ≠ 0) (hn : -2000000000000000000 ≤ n ∧ n ≤ 2000000000000000000) (hdb : -2000000000000000000 ≤ d ∧ d ≤ 2000000000000000000) :
    Calls Try.prog 63 #[.int .i64 n, .int .i64 d] w fun e w' => e = .returned (frV (lowF n d)) ∧ Below w.heap.size w w' := by
  have c := fun w => gcdW_c n d w (by omega) (by omega)
  have hg := gcdN_bd (n := n) hd
  have hS : sgG n d = if d < 0 then -gcdN n d else gcdN n d := rfl
  have x1 := tdiv_bd n (sgG n d)
  have x2 := tdiv_bd d (sgG n d)
  unfold frV lowF
  simp only
  generalize gcdN n d = G at c hg hS
  generalize sgG n d = S at hS x1 x2 ⊢
  have hS0 : ¬ S = 0 := by rw [hS]; split <;> omega
  have hS1 : (S == 0) = false := beq_eq_false_iff_ne.2 hS0
  generalize hX : Int.tdiv n S = X at x1 ⊢
  generalize hY : Int.tdiv d S = Y at x2 ⊢
  have e1 : IntKind.i64.wrap X = X := i64_small (by omega) (by omega)
  have e2 : IntKind.i64.wrap Y = Y := i64_small (by omega) (by omega)
  have hng : IntKind.i64.wrap (-G) = -G := i64_small (by omega) (by omega)
  have HNG := Lib.hid hng; clear hng
  have C := Lib.hid c; clear c hg x1 x2
  have hb0 : Below w.heap.size w (w.alloc (.cells #[.int .i64 0, .int .i64 0] 38)) := (Below.refl _ _).alloc (Nat.le_refl _) _
  by_cases hneg : d < 0
  · rw [if_pos hneg] at hS
    have g1 : decide (d < 0) = true := decide_eq_true hneg
    have hng : IntKind.i64.wrap (-G) = S := by rw [HNG.out, hS]
    clear hS
    have HN := Lib.hid hneg; clear hneg hn hdb
    go_enter Try.func63, Try.ntmps63
    go_wp2_with fail
    refine (C.out _).mono ?_
    rintro e w1 ⟨rfl, hw1⟩
    have o1 := (FrO.new w 0 0 rfl).below hw1
    have hb1 := hb0.trans (hw1.mono hb0.size)
    clear hw1 hb0
    go_wp2_with fail
    go_still_tail 7, (by kernel_rfl)
    change wpList _ _ _ _ _ w1.drew
    have o2 : FrO w1.drew _ _ := o1
    have hb2 := hb1.drew
    generalize w1.drew = w2 at o2 hb2 ⊢
    obtain ⟨y0, y1⟩ := o2.fr
    obtain ⟨x0, x1⟩ := o2.at
    go_wp2_with fail
    obtain ⟨W, hW, ⟨q0, q1⟩, hB⟩ := fr2_end (a := X) (b := Y) o2 hb2 (by omega)
    unfold fr2 at hW
    rw [hW]
    exact bodyPost_ret (v := .agg #[.int .i64 X, .int .i64 Y]) (by simp [results, Try.results63, go_sem, q0, q1]) rfl ⟨rfl, hB⟩
  · rw [if_neg hneg] at hS
    have g1 : decide (d < 0) = false := decide_eq_false hneg
    subst hS
    have HN := Lib.hid hneg; clear hneg hn hdb
    go_enter Try.func63, Try.ntmps63
    go_wp2_with fail
    refine (C.out _).mono ?_
    rintro e w1 ⟨rfl, hw1⟩
    have o1 := (FrO.new w 0 0 rfl).below hw1
    have hb1 := hb0.trans (hw1.mono hb0.size)
    clear hw1 hb0
    go_wp2_with fail
    go_still_tail 7, (by kernel_rfl)
    change wpList _ _ _ _ _ w1.drew
    have o2 : FrO w1.drew _ _ := o1
    have hb2 := hb1.drew
    generalize w1.drew = w2 at o2 hb2 ⊢
    obtain ⟨y0, y1⟩ := o2.fr
    obtain ⟨x0, x1⟩ := o2.at
    go_wp2_with fail
    obtain ⟨W, hW, ⟨q0, q1⟩, hB⟩ := fr2_end (a := X) (b := Y) o2 hb2 (by omega)
    unfold fr2 at hW
    rw [hW]
    exact bodyPost_ret (v := .agg #[.int .i64 X, .int .i64 Y]) (by simp [results, Try.results63, go_sem, q0, q1]) rfl ⟨rfl, hB⟩
set_option maxHeartbeats 800000 in
set_option maxRecDepth 100000 in
theorem toldFrac_c (f : Fr) (w : World) :
    Calls Try.prog 78 #[frV f] w fun e w' => e = .returned (frR f (frB f)) ∧ Below w.heap.size w w' := by
  have cf := fun w => isFrac_c f w
  unfold frR
  generalize frB f = u at cf ⊢
  obtain ⟨a, b⟩ := f
  unfold frV Fr.z at *
  simp only at cf ⊢
  have CF := Lib.hid cf; clear cf
  cases u
  case false =>
    go_enter Try.func78, Try.ntmps78
    go_wp2_with fail
    refine (CF.out _).mono ?_
    rintro e w1 ⟨rfl, hw1⟩
    have o1 := (FrO.new (g := w.heap.size + 1) (w.alloc (.cells #[.int .i64 a, .int .i64 b] 38)) 0 0 (by simp)).below hw1
    have p1 := ((FrO.new w a b rfl).below ((Below.refl _ _).alloc (Nat.le_refl _) _)).below hw1
    have hb1 : Below w.heap.size w w1 := (((Below.refl _ _).alloc (Nat.le_refl _) _).alloc (by simp) _).trans (hw1.mono (by simp; omega))
    clear hw1
    obtain ⟨x0, x1⟩ := o1.at
    obtain ⟨y0, y1⟩ := o1.fr
    obtain ⟨z0, z1⟩ := p1.at
    go_wp2_with fail
    obtain ⟨W, hW, ⟨q0, q1⟩, hB⟩ := fr2_end (a := 0) (b := 0) o1 hb1 (by omega)
    unfold fr2 at hW
    rw [hW]
    exact bodyPost_ret (v := .tuple #[.agg #[.int .i64 0, .int .i64 0], .bool false]) (by simp [results, Try.results78, go_sem, q0, q1]) rfl ⟨rfl, hB⟩
  case true =>
    go_enter Try.func78, Try.ntmps78
    go_wp2_with fail
    refine (CF.out _).mono ?_
    rintro e w1 ⟨rfl, hw1⟩
    have o1 := (FrO.new (g := w.heap.size + 1) (w.alloc (.cells #[.int .i64 a, .int .i64 b] 38)) 0 0 (by simp)).below hw1
    have p1 := ((FrO.new w a b rfl).below ((Below.refl _ _).alloc (Nat.le_refl _) _)).below hw1
    have hb1 : Below w.heap.size w w1 := (((Below.refl _ _).alloc (Nat.le_refl _) _).alloc (by simp) _).trans (hw1.mono (by simp; omega))
    clear hw1
    obtain ⟨x0, x1⟩ := o1.at
    obtain ⟨y0, y1⟩ := o1.fr
    obtain ⟨z0, z1⟩ := p1.at
    go_wp2_with fail
    obtain ⟨W, hW, ⟨q0, q1⟩, hB⟩ := fr2_end (a := a) (b := b) o1 hb1 (by omega)
    unfold fr2 at hW
    rw [hW]
    exact bodyPost_ret (v := .tuple #[.agg #[.int .i64 a, .int .i64 b], .bool true]) (by simp [results, Try.results78, go_sem, q0, q1]) rfl ⟨rfl, hB⟩

end Go.Proofs.Ytekhmjhbdoigoaa
