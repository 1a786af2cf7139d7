/-
  Some texts of this proof in one: PtB PtF. Each part tells what it proves. By an AI agent.
-/
import Derived.Test.YtcionneopgdebaaGreatSortB
import Derived.Deep.AppendLies
import Derived.Test.YtcionneopgdebaaGreatLaws
import Derived.Deep.RegionHeld3

/-
  Points in memory: rows that are read, rows of one's own. By an AI agent.
-/
namespace Go.Proofs.YtcionneopgdebaaGreat
open Go.RowKit

theorem Tryz.infoP : (Tryz.prog.info? 66).map (fun i => (i.zero, i.size, i.bytes)) = some (some (.agg #[.int .i64 0, .int .i64 0]), 2, 16) := by kernel_rfl
theorem Tryz.underlyingP : Tryz.prog.underlying 32 = some (.slice 66) := by kernel_rfl

def ptsV (l : List Pt) : List Value := l.flatMap fun p => [.int .i64 p.x, .int .i64 p.y]
theorem ptsV_length (l : List Pt) : (ptsV l).length = l.length * 2 := by
  induction l with
  | nil => rfl
  | cons x l ih => simp [ptsV] at ih ⊢; omega
theorem ptsV_cons (x : Pt) (l : List Pt) : ptsV (x :: l) = .int .i64 x.x :: .int .i64 x.y :: ptsV l := rfl
theorem ptsV_append (l m : List Pt) : ptsV (l ++ m) = ptsV l ++ ptsV m := by simp [ptsV]
theorem ptsV_snoc (l : List Pt) (x : Pt) : ptsV (l ++ [x]) = ptsV l ++ [.int .i64 x.x, .int .i64 x.y] := by simp [ptsV]
theorem ptsV_get : ∀ {l : List Pt} {i : Nat}, i < l.length → (ptsV l)[i * 2]? = some (.int .i64 (l.getD i default).x) ∧ (ptsV l)[i * 2 + 1]? = some (.int .i64 (l.getD i default).y)
  | [], i, h => by simp at h
  | x :: l, 0, _ => by simp [ptsV]
  | x :: l, i + 1, h => by
    have := ptsV_get (l := l) (i := i) (by simpa using h)
    rw [ptsV_cons, show (i + 1) * 2 = i * 2 + 1 + 1 by omega]
    simpa using this
theorem ptsV_take (l : List Pt) (n : Nat) : (ptsV l).take (n * 2) = ptsV (l.take n) := by
  induction n generalizing l with
  | zero => simp [ptsV]
  | succ n ih =>
    cases l with
    | nil => simp [ptsV]
    | cons x l =>
      rw [ptsV_cons, show (n + 1) * 2 = n * 2 + 1 + 1 by omega, List.take_succ_cons, List.take_succ_cons, ih, List.take_succ_cons, ptsV_cons]

/-- A row of points that is read. -/
def RdP (w : World) (ad : Option Addr) (l : List Pt) : Prop :=
  ∀ j, j < l.length → ∃ b off, ad = some ⟨b, off, none⟩ ∧ b < w.heap.size ∧ w.cell? ⟨b, off + j * 2, none⟩ = some (.int .i64 (l.getD j default).x) ∧ w.cell? ⟨b, off + j * 2 + 1, none⟩ = some (.int .i64 (l.getD j default).y)
theorem RdP.nil (w : World) (ad : Option Addr) : RdP w ad [] := fun _ h => by simp at h
theorem RdP.below {w w' : World} {ad : Option Addr} {l : List Pt} (h : RdP w ad l) (hb : Below w.heap.size w w') : RdP w' ad l := fun j hj => by
  obtain ⟨b', off', e, hl, c0, c1⟩ := h j hj
  exact ⟨b', off', e, Nat.lt_of_lt_of_le hl hb.size, bcell hb hl c0, bcell hb hl c1⟩
theorem RdP.some {w : World} {ad : Option Addr} {l : List Pt} (h : RdP w ad l) (h0 : 0 < l.length) : ∃ b off, ad = Option.some ⟨b, off, none⟩ ∧ b < w.heap.size := by
  obtain ⟨b, off, e, hl, _⟩ := h 0 h0
  exact ⟨b, off, e, hl⟩
theorem RdP.at {w : World} {b off : Nat} {l : List Pt} (h : RdP w (Option.some ⟨b, off, none⟩) l) {j : Nat} (hj : j < l.length) : w.cell? ⟨b, off + j * 2, none⟩ = Option.some (.int .i64 (l.getD j default).x) ∧ w.cell? ⟨b, off + j * 2 + 1, none⟩ = Option.some (.int .i64 (l.getD j default).y) := by
  obtain ⟨b', off', e, hl, c0, c1⟩ := h j hj
  cases e
  exact ⟨c0, c1⟩
theorem getD_toArray (l : List Pt) (i : Nat) : l.toArray[i]! = l.getD i default := by simp [List.getD_eq_getElem?_getD]
theorem PH.rd {w : World} {blk off : Nat} {d : Array Pt} (h : PH w blk off d) : RdP w (Option.some ⟨blk, off, none⟩) d.toList := fun j hj => by
  have hj' : j < d.size := by simpa using hj
  obtain ⟨h1, h2, _⟩ := h j hj'
  have e : d[j]! = d.toList.getD j default := by rw [← getD_toArray]
  rw [e] at h1 h2
  exact ⟨blk, off, rfl, h.lt (by omega), h1, h2⟩

/-- A row of points of one's own. -/
def RowP (w : World) (B : Nat) (v : Value) (l : List Pt) : Prop := w.ownsRow B 66 2 v l.length (ptsV l)
theorem RowP.nil (w : World) (B : Nat) : RowP w B (.slice none 0 0) [] := ⟨rfl, Or.inl ⟨rfl, rfl⟩⟩
theorem RowP.shape {w : World} {B : Nat} {v : Value} {l : List Pt} (h : RowP w B v l) : ∃ ad cap, v = .slice ad l.length cap ∧ l.length ≤ cap ∧ cap ≤ maxLen := by
  rcases h.2 with ⟨e, e2⟩ | ⟨g, cap, cur, e, _, _, h1, h2, _⟩
  · exact ⟨none, 0, by rw [e, e2], by omega, by unfold maxLen; omega⟩
  · exact ⟨_, cap, e, h1, h2⟩
theorem RowP.rd {w : World} {B : Nat} {ad : Option Addr} {n cap : Nat} {l : List Pt} (h : RowP w B (.slice ad n cap) l) : RdP w ad l := fun j hj => by
  rcases h.2 with ⟨e, e2⟩ | ⟨g, cap', cur, e, hb, hg, h1, h2, h3, h4⟩
  · omega
  · injection e with e1 _ _
    subst e1
    obtain ⟨c0, c1⟩ := ptsV_get hj
    have hs := hg
    have hc : ∀ i, i < l.length * 2 → w.cell? ⟨g, 0 + i, none⟩ = (ptsV l)[i]? := fun i hi => by
      rw [← h4, List.getElem?_take_of_lt hi]
      simp [World.cell?, hg]
    exact ⟨g, 0, rfl, (Array.getElem?_eq_some_iff.1 hg).1, by rw [hc _ (by omega), c0], by rw [show (0 + j * 2 + 1 : Nat) = 0 + (j * 2 + 1) by omega, hc _ (by omega), c1]⟩
theorem RowP.below {w w' : World} {B : Nat} {v : Value} {l : List Pt} (h : RowP w B v l) (hb : Below w.heap.size w w') : RowP w' B v l := by
  refine ⟨h.1, ?_⟩
  rcases h.2 with hn | ⟨g, cap, cur, rfl, hB, hgg, rest⟩
  · exact .inl hn
  · refine .inr ⟨g, cap, cur, rfl, hB, ?_, rest⟩
    rw [hb.block g (Array.getElem?_eq_some_iff.1 hgg).1]
    exact hgg
/-- out[:len(out)-1]. -/
theorem RowP.drop {w : World} {B n cap : Nat} {ad : Option Addr} {l : List Pt} (h : RowP w B (.slice ad n cap) l) (h0 : 0 < l.length) : RowP w B (.slice ad (l.length - 1) cap) l.dropLast := by
  rcases h.2 with ⟨e, e2⟩ | ⟨g, cap', cur, e, hb, hg, h1, h2, h3, h4⟩
  · omega
  · injection e with e1 e3 e4
    subst e1; subst e4
    refine ⟨by rw [ptsV_length], .inr ⟨g, cap, cur, by rw [List.length_dropLast], hb, hg, by rw [List.length_dropLast]; omega, h2, h3, ?_⟩⟩
    rw [List.length_dropLast, List.dropLast_eq_take, ← ptsV_take, ← h4, List.take_take]
    congr 1
    omega
/-- A row of one's own as the sort wants it. -/
theorem RowP.ph {w : World} {B g n cap : Nat} {l : List Pt} (h : RowP w B (.slice (some ⟨g, 0, none⟩) n cap) l) (hbd : ∀ p ∈ l, Bd p) : PH w g 0 l.toArray := fun t ht => by
  have ht' : t < l.length := by simpa using ht
  obtain ⟨c0, c1⟩ := h.rd.at ht'
  rcases h.2 with ⟨e, e2⟩ | ⟨g', cap', cur, e, hb, hg, _⟩
  · cases e
  · injection e with e1 _ _
    injection e1 with e1
    injection e1 with e1
    subst e1
    rw [getD_toArray]
    refine ⟨c0, c1, by simp [World.frozen?, hg], by simp [World.frozen?, hg], ?_⟩
    rw [List.getD_eq_getElem?_getD, List.getElem?_eq_getElem ht', Option.getD_some]
    exact hbd _ (List.getElem_mem _)

theorem appP_below {B : Nat} {u wr w2 : World} {E : TypeId} {size n : Nat} {v : Value} {xs : List Value} {o : Obj} (hb : Below B u wr) (hB : B ≤ wr.heap.size) (ho : wr.ownsRow B E size v n xs) (hg : (wr.alloc o).grownBy w2 v.ownBlock) : Below B u w2 :=
  (hb.alloc hB o).grown hg (by simp; omega) (fun q e => (ho.lt q e).1)
theorem rowP_empty (w : World) : RowP (w.alloc (.cells #[] 66)) w.heap.size (.slice (some ⟨w.heap.size, 0, none⟩) 0 0) [] :=
  World.ownsRow_made w #[] 0 (Nat.le_refl _) (by decide) rfl
theorem rowP_congr {w : World} {B : Nat} {E : TypeId} {size n m : Nat} {v : Value} {xs ys : List Value} (h : w.ownsRow B E size v n xs) (e : n = m) (e' : xs = ys) : w.ownsRow B E size v m ys := by subst e; subst e'; exact h

end Go.Proofs.YtcionneopgdebaaGreat

/-
  What is computed of points and numbers: turns, crosses, differences, divisors: program and reference. By an AI agent.
-/
namespace Go.Proofs.YtcionneopgdebaaGreat
open Go.RowKit

/-- Small coordinates. -/
def Sm (p : Pt) : Prop := -1000000 ≤ p.x ∧ p.x ≤ 1000000 ∧ -1000000 ≤ p.y ∧ p.y ≤ 1000000
def crossZ (p q : Pt) : Int := p.x * q.y - p.y * q.x
def subP (p q : Pt) : Pt := ⟨p.x - q.x, p.y - q.y⟩
theorem mulb {k m K M : Int} (hK : 0 ≤ K) (hk : -K ≤ k ∧ k ≤ K) (hm : -M ≤ m ∧ m ≤ M) : -(K * M) ≤ k * m ∧ k * m ≤ K * M := by
  have h1 : k.natAbs ≤ K.toNat := by omega
  have h2 : m.natAbs ≤ M.toNat := by omega
  have h3 : (k * m).natAbs ≤ K.toNat * M.toNat := by rw [Int.natAbs_mul]; exact Nat.mul_le_mul h1 h2
  have h4 : ((K.toNat * M.toNat : Nat) : Int) = K * M := by rw [Int.natCast_mul, Int.toNat_of_nonneg hK, Int.toNat_of_nonneg (by omega)]
  omega

set_option maxHeartbeats 800000 in
theorem minus_c (p q : Pt) (w : World) (hp : Sm p) (hq : Sm q) :
    Calls Tryz.prog 107 #[ptV p, ptV q] w fun e w' => e = .returned (ptV (subP p q)) ∧ Below w.heap.size w w' := by
  obtain ⟨a, b⟩ := p
  obtain ⟨c, d⟩ := q
  obtain ⟨h1, h2, h3, h4⟩ := hp
  obtain ⟨h5, h6, h7, h8⟩ := hq
  simp only at h1 h2 h3 h4 h5 h6 h7 h8
  have e1 : IntKind.i64.wrap (a - c) = a - c := i64_small (by omega) (by omega)
  have e2 : IntKind.i64.wrap (b - d) = b - d := i64_small (by omega) (by omega)
  unfold ptV subP
  go_enter Tryz.func107, Tryz.ntmps107
  go_wp2_with fail
  exact bodyPost_ret (v := .agg #[.int .i64 (a - c), .int .i64 (b - d)]) (by simp [results, Tryz.results107, go_sem]) rfl ⟨rfl, (((Below.refl _ _).alloc (Nat.le_refl _) _).alloc (by simp) _).alloc (by simp; omega) _⟩

set_option maxHeartbeats 800000 in
theorem cross_c (p q : Pt) (w : World) (hp : Sm p) (hq : Sm q) :
    Calls Tryz.prog 68 #[ptV p, ptV q] w fun e w' => e = .returned (.int .i64 (crossZ p q)) ∧ Below w.heap.size w w' := by
  obtain ⟨a, b⟩ := p
  obtain ⟨c, d⟩ := q
  obtain ⟨h1, h2, h3, h4⟩ := hp
  obtain ⟨h5, h6, h7, h8⟩ := hq
  simp only at h1 h2 h3 h4 h5 h6 h7 h8
  have m1 := mulb (K := 1000000) (M := 1000000) (by omega) (show -1000000 ≤ a ∧ a ≤ 1000000 by omega) (show -1000000 ≤ d ∧ d ≤ 1000000 by omega)
  have m2 := mulb (K := 1000000) (M := 1000000) (by omega) (show -1000000 ≤ b ∧ b ≤ 1000000 by omega) (show -1000000 ≤ c ∧ c ≤ 1000000 by omega)
  unfold ptV crossZ
  simp only
  generalize hx : a * d = x at m1
  generalize hy : b * c = y at m2
  have e1 : IntKind.i64.wrap x = x := i64_small (by omega) (by omega)
  have e2 : IntKind.i64.wrap y = y := i64_small (by omega) (by omega)
  have e3 : IntKind.i64.wrap (x - y) = x - y := i64_small (by omega) (by omega)
  have hb := ((Below.refl w.heap.size w).alloc (Nat.le_refl _) (.cells #[.int .i64 a, .int .i64 b] 66)).alloc (by simp) (.cells #[.int .i64 c, .int .i64 d] 66)
  go_enter Tryz.func68, Tryz.ntmps68
  go_wp2_with fail
  go_ret
  exact ⟨rfl, hb⟩

set_option maxHeartbeats 800000 in
theorem pyTurn_c (p q r : Pt) (w : World) (hp : Sm p) (hq : Sm q) (hr : Sm r) :
    Calls Tryz.prog 51 #[ptV p, ptV q, ptV r] w fun e w' => e = .returned (.int .i64 (turnZ p q r)) ∧ Below w.heap.size w w' := by
  obtain ⟨a, b⟩ := p
  obtain ⟨c, d⟩ := q
  obtain ⟨f, g⟩ := r
  obtain ⟨h1, h2, h3, h4⟩ := hp
  obtain ⟨h5, h6, h7, h8⟩ := hq
  obtain ⟨k1, k2, k3, k4⟩ := hr
  simp only at h1 h2 h3 h4 h5 h6 h7 h8 k1 k2 k3 k4
  have m1 := mulb (K := 2000000) (M := 2000000) (by omega) (show -2000000 ≤ c - a ∧ c - a ≤ 2000000 by omega) (show -2000000 ≤ g - b ∧ g - b ≤ 2000000 by omega)
  have m2 := mulb (K := 2000000) (M := 2000000) (by omega) (show -2000000 ≤ d - b ∧ d - b ≤ 2000000 by omega) (show -2000000 ≤ f - a ∧ f - a ≤ 2000000 by omega)
  unfold ptV turnZ
  simp only
  have s1 : IntKind.i64.wrap (c - a) = c - a := i64_small (by omega) (by omega)
  have s2 : IntKind.i64.wrap (g - b) = g - b := i64_small (by omega) (by omega)
  have s3 : IntKind.i64.wrap (d - b) = d - b := i64_small (by omega) (by omega)
  have s4 : IntKind.i64.wrap (f - a) = f - a := i64_small (by omega) (by omega)
  have e1 : IntKind.i64.wrap ((c - a) * (g - b)) = (c - a) * (g - b) := i64_small (by omega) (by omega)
  have e2 : IntKind.i64.wrap ((d - b) * (f - a)) = (d - b) * (f - a) := i64_small (by omega) (by omega)
  have e3 : IntKind.i64.wrap ((c - a) * (g - b) - (d - b) * (f - a)) = (c - a) * (g - b) - (d - b) * (f - a) := i64_small (by omega) (by omega)
  have hb := (((Below.refl w.heap.size w).alloc (Nat.le_refl _) (.cells #[.int .i64 a, .int .i64 b] 66)).alloc (by simp) (.cells #[.int .i64 c, .int .i64 d] 66)).alloc (by simp; omega) (.cells #[.int .i64 f, .int .i64 g] 66)
  clear h1 h2 h3 h4 h5 h6 h7 h8 k1 k2 k3 k4
  go_enter Tryz.func51, Tryz.ntmps51
  go_wp2_with fail
  go_ret
  exact ⟨rfl, hb⟩

set_option maxHeartbeats 800000 in
theorem pyBefore_c (p q : Pt) (w : World) :
    Calls Tryz.prog 87 #[ptV p, ptV q] w fun e w' => e = .returned (.bool (ltPt p q)) ∧ Below w.heap.size w w' := by
  obtain ⟨a, b⟩ := p
  obtain ⟨c, d⟩ := q
  have hb := ((Below.refl w.heap.size w).alloc (Nat.le_refl _) (.cells #[.int .i64 a, .int .i64 b] 66)).alloc (by simp) (.cells #[.int .i64 c, .int .i64 d] 66)
  unfold ptV
  by_cases h : a < c
  · go_enter Tryz.func87, Tryz.ntmps87
    go_wp2_with fail
    go_ret
    exact ⟨ret_bool (by simp [ltPt, h]), hb⟩
  · by_cases h2 : a = c
    · subst h2
      go_enter Tryz.func87, Tryz.ntmps87
      go_wp2_with fail
      go_ret
      exact ⟨ret_bool (by simp [ltPt]), hb⟩
    · have h2' : (a == c) = false := by simpa using h2
      go_enter Tryz.func87, Tryz.ntmps87
      go_wp2_with fail
      go_ret
      exact ⟨ret_bool (by simp [ltPt, h, h2]), hb⟩

theorem turn_eq (p q r : Pt) : crossZ (subP q p) (subP r p) = turnZ p q r := rfl
def Sh (p : Pt) : Prop := -500000 ≤ p.x ∧ p.x ≤ 500000 ∧ -500000 ≤ p.y ∧ p.y ≤ 500000
theorem Sh.sm {p : Pt} (h : Sh p) : Sm p := ⟨by have := h.1; omega, by have := h.2.1; omega, by have := h.2.2.1; omega, by have := h.2.2.2; omega⟩
theorem Sh.bd {p : Pt} (h : Sh p) : Bd p := ⟨by have := h.1; omega, by have := h.2.1; omega, by have := h.2.2.1; omega, by have := h.2.2.2; omega⟩
theorem Sh.sub {p q : Pt} (h : Sh p) (k : Sh q) : Sm (subP p q) := by
  obtain ⟨h1, h2, h3, h4⟩ := h
  obtain ⟨k1, k2, k3, k4⟩ := k
  exact ⟨show -1000000 ≤ p.x - q.x by omega, show p.x - q.x ≤ 1000000 by omega, show -1000000 ≤ p.y - q.y by omega, show p.y - q.y ≤ 1000000 by omega⟩

set_option maxHeartbeats 1600000 in
theorem turn_c (p q r : Pt) (w : World) (hp : Sh p) (hq : Sh q) (hr : Sh r) :
    Calls Tryz.prog 86 #[ptV p, ptV q, ptV r] w fun e w' => e = .returned (.int .i64 (turnZ p q r)) ∧ Below w.heap.size w w' := by
  have c1 := fun w => minus_c q p w hq.sm hp.sm
  have c2 := fun w => minus_c r p w hr.sm hp.sm
  have c3 := fun w => cross_c (subP q p) (subP r p) w (hq.sub hp) (hr.sub hp)
  rw [turn_eq] at c3
  generalize turnZ p q r = z at c3 ⊢
  generalize subP q p = s1 at c1 c3
  generalize subP r p = s2 at c2 c3
  clear hp hq hr
  obtain ⟨a, b⟩ := p
  obtain ⟨c, d⟩ := q
  obtain ⟨f, g⟩ := r
  obtain ⟨u, v⟩ := s1
  obtain ⟨x, y⟩ := s2
  unfold ptV at *
  simp only at c1 c2 c3 ⊢
  have C1 := Lib.hid c1; have C2 := Lib.hid c2; have C3 := Lib.hid c3; clear c1 c2 c3
  go_enter Tryz.func86, Tryz.ntmps86
  have hbw : Below w.heap.size w (((w.alloc (.cells #[.int .i64 a, .int .i64 b] 66)).alloc (.cells #[.int .i64 c, .int .i64 d] 66)).alloc (.cells #[.int .i64 f, .int .i64 g] 66)) := (((Below.refl _ _).alloc (Nat.le_refl _) _).alloc (by simp) _).alloc (by simp; omega) _
  have hz : (((w.alloc (.cells #[.int .i64 a, .int .i64 b] 66)).alloc (.cells #[.int .i64 c, .int .i64 d] 66)).alloc (.cells #[.int .i64 f, .int .i64 g] 66)).heap.size = w.heap.size + 1 + 1 + 1 := by simp
  have k0 : (((w.alloc (.cells #[.int .i64 a, .int .i64 b] 66)).alloc (.cells #[.int .i64 c, .int .i64 d] 66)).alloc (.cells #[.int .i64 f, .int .i64 g] 66)).cell? ⟨w.heap.size, 0, none⟩ = some (.int .i64 a) := by simp [go_sem]
  have k1 : (((w.alloc (.cells #[.int .i64 a, .int .i64 b] 66)).alloc (.cells #[.int .i64 c, .int .i64 d] 66)).alloc (.cells #[.int .i64 f, .int .i64 g] 66)).cell? ⟨w.heap.size, 1, none⟩ = some (.int .i64 b) := by simp [go_sem]
  have k2 : (((w.alloc (.cells #[.int .i64 a, .int .i64 b] 66)).alloc (.cells #[.int .i64 c, .int .i64 d] 66)).alloc (.cells #[.int .i64 f, .int .i64 g] 66)).cell? ⟨(w.heap.size + 1), 0, none⟩ = some (.int .i64 c) := by simp [go_sem]
  have k3 : (((w.alloc (.cells #[.int .i64 a, .int .i64 b] 66)).alloc (.cells #[.int .i64 c, .int .i64 d] 66)).alloc (.cells #[.int .i64 f, .int .i64 g] 66)).cell? ⟨(w.heap.size + 1), 1, none⟩ = some (.int .i64 d) := by simp [go_sem]
  have k4 : (((w.alloc (.cells #[.int .i64 a, .int .i64 b] 66)).alloc (.cells #[.int .i64 c, .int .i64 d] 66)).alloc (.cells #[.int .i64 f, .int .i64 g] 66)).cell? ⟨(w.heap.size + 1 + 1), 0, none⟩ = some (.int .i64 f) := by simp [go_sem]
  have k5 : (((w.alloc (.cells #[.int .i64 a, .int .i64 b] 66)).alloc (.cells #[.int .i64 c, .int .i64 d] 66)).alloc (.cells #[.int .i64 f, .int .i64 g] 66)).cell? ⟨(w.heap.size + 1 + 1), 1, none⟩ = some (.int .i64 g) := by simp [go_sem]
  go_wp2_with fail
  generalize (((w.alloc (.cells #[.int .i64 a, .int .i64 b] 66)).alloc (.cells #[.int .i64 c, .int .i64 d] 66)).alloc (.cells #[.int .i64 f, .int .i64 g] 66)) = W at hbw hz k0 k1 k2 k3 k4 k5 ⊢
  have l0 : w.heap.size < W.heap.size := by omega
  have l1 : w.heap.size + 1 < W.heap.size := by omega
  have l2 : w.heap.size + 1 + 1 < W.heap.size := by omega
  go_region_held3 (fun w' => w'.cell? ⟨w.heap.size, 0, none⟩ = some (.int .i64 a) ∧ w'.cell? ⟨w.heap.size, 1, none⟩ = some (.int .i64 b) ∧ w'.cell? ⟨(w.heap.size + 1), 0, none⟩ = some (.int .i64 c) ∧ w'.cell? ⟨(w.heap.size + 1), 1, none⟩ = some (.int .i64 d) ∧ w'.cell? ⟨(w.heap.size + 1 + 1), 0, none⟩ = some (.int .i64 f) ∧ w'.cell? ⟨(w.heap.size + 1 + 1), 1, none⟩ = some (.int .i64 g)) (exact ⟨by assumption, by assumption, by assumption, by assumption, by assumption, by assumption⟩)
    (first
      | (go_at_call 107; (with_reducible refine (C1.out _).mono ?_); rintro e W1 ⟨rfl, hw1⟩; have m0 := bcell hw1 l0 k0; have m1 := bcell hw1 l0 k1; have m2 := bcell hw1 l1 k2; have m3 := bcell hw1 l1 k3; have m4 := bcell hw1 l2 k4; have m5 := bcell hw1 l2 k5)
      | (go_at_call 107; (with_reducible refine (C2.out _).mono ?_); rintro e W2 ⟨rfl, hw2⟩; have n0 := bcell hw2 (Nat.lt_of_lt_of_le l0 hw1.size) m0; have n1 := bcell hw2 (Nat.lt_of_lt_of_le l0 hw1.size) m1; have n2 := bcell hw2 (Nat.lt_of_lt_of_le l1 hw1.size) m2; have n3 := bcell hw2 (Nat.lt_of_lt_of_le l1 hw1.size) m3; have n4 := bcell hw2 (Nat.lt_of_lt_of_le l2 hw1.size) m4; have n5 := bcell hw2 (Nat.lt_of_lt_of_le l2 hw1.size) m5)
      | (go_at_call 68; (with_reducible refine (C3.out _).mono ?_); rintro e W3 ⟨rfl, hw3⟩; have q0 := bcell hw3 (Nat.lt_of_lt_of_le (Nat.lt_of_lt_of_le l0 hw1.size) hw2.size) n0; have q1 := bcell hw3 (Nat.lt_of_lt_of_le (Nat.lt_of_lt_of_le l0 hw1.size) hw2.size) n1; have q2 := bcell hw3 (Nat.lt_of_lt_of_le (Nat.lt_of_lt_of_le l1 hw1.size) hw2.size) n2; have q3 := bcell hw3 (Nat.lt_of_lt_of_le (Nat.lt_of_lt_of_le l1 hw1.size) hw2.size) n3; have q4 := bcell hw3 (Nat.lt_of_lt_of_le (Nat.lt_of_lt_of_le l2 hw1.size) hw2.size) n4; have q5 := bcell hw3 (Nat.lt_of_lt_of_le (Nat.lt_of_lt_of_le l2 hw1.size) hw2.size) n5))
  go_wp2_with fail
  go_ret
  exact ⟨rfl, ((hbw.drew.trans (hw1.mono (by have := hbw.size; simpa using this))).trans (hw2.mono (by have := hbw.size; have := hw1.size; simp at this ⊢; omega))).trans (hw3.mono (by have := hbw.size; have := hw1.size; have := hw2.size; simp at *; omega))⟩

/-! ### Divisors -/
end Go.Proofs.YtcionneopgdebaaGreat
