/-
  The boundary's points and the double area of a polygon: program and reference. By an AI agent.
-/
import Derived.Test.YtpnnmdkhkjenmaaHalfS
namespace Go.Proofs.Ytpnnmdkhkjenmaa
open Go.RowKit

def nextP (l : List Pt) (i : Nat) : Pt := l.getD ((i + 1) % l.length) default
def edgeP (l : List Pt) (i : Nat) : Pt := subP (nextP l i) (l.getD i default)
def gP (p : Pt) : Int := gcdN p.x p.y
def gsum (L : List Pt) : Int := (L.map gP).sum
def areaTo (l : List Pt) : Nat → Int
  | 0 => 0
  | n + 1 => areaTo l n + crossZ (l.getD n default) (nextP l n)
def areaP (l : List Pt) : Int := areaTo l l.length
def edgesP (l : List Pt) : List Pt := tab l.length (edgeP l)
/-- The edges of the reference: those that lead on. -/
def pyEd (l : List Pt) : Nat → List Pt
  | 0 => []
  | n + 1 => if l.getD n default = nextP l n then pyEd l n else pyEd l n ++ [edgeP l n]
def bndP (l : List Pt) : Int := if l.length = 1 then 1 else if l.length = 2 then gP (edgeP l 0) + 1 else gsum (edgesP l)
theorem gsum_snoc (L : List Pt) (p : Pt) : gsum (L ++ [p]) = gsum L + gP p := by simp [gsum]
theorem take_snoc2 (l : List Pt) (k : Nat) (h : k < l.length) : l.take (k + 1) = l.take k ++ [l.getD k default] := by
  rw [List.take_succ_eq_append_getElem h, List.getD_eq_getElem?_getD, List.getElem?_eq_getElem h, Option.getD_some]
theorem pyEd_len (l : List Pt) : ∀ n, (pyEd l n).length ≤ n
  | 0 => by simp [pyEd]
  | n + 1 => by
    have := pyEd_len l n
    unfold pyEd
    split
    · omega
    · simp; omega
theorem gsum_pyEd (l : List Pt) : ∀ n, gsum (pyEd l n) = gsum (tab n (edgeP l))
  | 0 => by simp [pyEd, tab]
  | n + 1 => by
    rw [tab_succ, gsum_snoc, ← gsum_pyEd l n, pyEd]
    split
    · rename_i h
      have : gP (edgeP l n) = 0 := by
        unfold gP edgeP gcdN subP
        rw [← h]; simp
      omega
    · rw [gsum_snoc]
theorem nextP_two {l : List Pt} (h : l.length = 2) : edgeP l 0 = subP (l.getD 1 default) (l.getD 0 default) ∧ edgeP l 1 = subP (l.getD 0 default) (l.getD 1 default) := by
  unfold edgeP nextP
  rw [h]
  exact ⟨rfl, rfl⟩
theorem gP_sub (p q : Pt) : gP (subP p q) = gP (subP q p) := by
  unfold gP subP gcdN
  simp only
  rw [show p.x - q.x = -(q.x - p.x) by omega, show p.y - q.y = -(q.y - p.y) by omega, Int.neg_gcd, Int.gcd_neg]
theorem bnd_py (l : List Pt) : (if l.length = 1 then 1 else if l.length = 2 then (gsum (pyEd l l.length)).tdiv 2 + 1 else gsum (pyEd l l.length)) = bndP l := by
  unfold bndP
  rw [gsum_pyEd]
  split
  · rfl
  · split
    · rename_i h2
      obtain ⟨e0, e1⟩ := nextP_two h2
      have : gsum (tab l.length (edgeP l)) = 2 * gP (edgeP l 0) := by
        rw [h2, show tab 2 (edgeP l) = [edgeP l 0, edgeP l 1] from rfl]
        simp only [gsum, List.map_cons, List.map_nil, List.sum_cons, List.sum_nil]
        rw [e1, gP_sub, ← e0]; omega
      rw [this]
      have : (2 * gP (edgeP l 0)).tdiv 2 = gP (edgeP l 0) := by rw [Int.mul_tdiv_cancel_left _ (by decide)]
      rw [this]
    · rfl

/-- What is small on the way. -/
theorem gP_b {p : Pt} (h : Sm p) : 0 ≤ gP p ∧ gP p ≤ 2000000 := by
  obtain ⟨h1, h2, h3, h4⟩ := h
  unfold gP gcdN
  by_cases hx : p.x = 0
  · rw [hx, Int.gcd_zero_left]; omega
  · have : (Int.gcd p.x p.y) ≤ p.x.natAbs := Nat.le_of_dvd (by omega) (Nat.gcd_dvd_left _ _)
    omega
theorem gsum_b {L : List Pt} (h : ∀ p ∈ L, Sm p) : 0 ≤ gsum L ∧ gsum L ≤ 2000000 * L.length := by
  induction L with
  | nil => simp [gsum]
  | cons p L ih =>
    have h1 := ih (fun q hq => h q (by simp [hq]))
    have h2 := gP_b (h p (by simp))
    simp [gsum] at h1 ⊢
    omega
theorem nextP_sh {l : List Pt} (hs : AllSh l) {i : Nat} (h : 0 < l.length) : Sh (nextP l i) := hs.at (Nat.mod_lt _ h)
theorem edgeP_sm {l : List Pt} (hs : AllSh l) {i : Nat} (hi : i < l.length) : Sm (edgeP l i) := (nextP_sh hs (by omega)).sub (hs.at hi)
theorem edgesP_sm {l : List Pt} (hs : AllSh l) : ∀ p ∈ edgesP l, Sm p := fun p hp => by
  unfold edgesP tab at hp
  obtain ⟨i, hi, rfl⟩ := List.mem_map.1 hp
  exact edgeP_sm hs (by simpa using hi)
theorem pyEd_sm {l : List Pt} (hs : AllSh l) : ∀ n, n ≤ l.length → ∀ p ∈ pyEd l n, Sm p
  | 0, _, p, hp => by simp [pyEd] at hp
  | n + 1, hn, p, hp => by
    unfold pyEd at hp
    split at hp
    · exact pyEd_sm hs n (by omega) p hp
    · rcases List.mem_append.1 hp with h | h
      · exact pyEd_sm hs n (by omega) p h
      · simp at h; subst h; exact edgeP_sm hs (by omega)
theorem crossZ_b {p q : Pt} (hp : Sh p) (hq : Sh q) : -1000000000000 ≤ crossZ p q ∧ crossZ p q ≤ 1000000000000 := by
  obtain ⟨h1, h2, h3, h4⟩ := hp
  obtain ⟨k1, k2, k3, k4⟩ := hq
  have m1 := mulb (K := 500000) (M := 500000) (by omega) (And.intro h1 h2) (And.intro k3 k4)
  have m2 := mulb (K := 500000) (M := 500000) (by omega) (And.intro h3 h4) (And.intro k1 k2)
  unfold crossZ
  omega
theorem areaTo_b {l : List Pt} (hs : AllSh l) : ∀ n, n ≤ l.length → -(1000000000000 * n) ≤ areaTo l n ∧ areaTo l n ≤ 1000000000000 * n
  | 0, _ => by simp [areaTo]
  | n + 1, hn => by
    have h1 := areaTo_b hs n (by omega)
    have h2 := crossZ_b (hs.at (show n < l.length by omega)) (nextP_sh hs (i := n) (by omega))
    simp only [areaTo]
    omega
theorem rem_next {i n : Nat} : Int.tmod ((i : Int) + 1) (n : Int) = (((i + 1) % n : Nat) : Int) := by
  rw [Int.tmod_eq_emod_of_nonneg (by omega)]
  rw [Int.natCast_emod]; rfl

set_option maxHeartbeats 800000 in
theorem next_c (ad : Option Addr) (cap : Nat) (l : List Pt) (i : Nat) (w : World) (hr : RdP w ad l) (hl : l.length ≤ 100000) (hi : i < l.length) :
    Calls Try.prog 32 #[.slice ad l.length cap, .int .i64 i] w fun e w' => e = .returned (ptV (nextP l i)) ∧ Below w.heap.size w w' := by
  have hrem := rem_next (i := i) (n := l.length)
  have hjl : (i + 1) % l.length < l.length := Nat.mod_lt _ (by omega)
  unfold nextP
  generalize (i + 1) % l.length = j at hrem hjl ⊢
  obtain ⟨b, off, rfl, hb, c0, c1⟩ := hr j hjl
  generalize l.getD j default = p at c0 c1 ⊢
  obtain ⟨px, py⟩ := p
  have e1 : IntKind.i64.wrap ((i : Int) + 1) = (i : Int) + 1 := i64_small (by omega) (by omega)
  have z : ((l.length : Int) == 0) = false := beq_eq_false_iff_ne.2 (by omega)
  have wj : IntKind.i64.wrap (j : Int) = (j : Int) := i64_small (by omega) (by omega)
  have x1 : (0 : Int) ≤ (j : Int) := by omega
  have x2 : (j : Int) < (l.length : Int) := by omega
  unfold ptV
  go_enter Try.func32, Try.ntmps32
  go_wp2_with fail
  exact bodyPost_ret (v := .agg #[.int .i64 px, .int .i64 py]) (by simp [results, Try.results32, go_sem]) rfl ⟨rfl, (Below.refl _ _).alloc (Nat.le_refl _) _⟩

set_option maxHeartbeats 1600000 in
theorem doubleArea_c (ad : Option Addr) (cap : Nat) (l : List Pt) (w : World) (hr : RdP w ad l) (hl : l.length ≤ 100000) (hs : AllSh l) :
    Calls Try.prog 19 #[.slice ad l.length cap] w fun e w' => e = .returned (.int .i64 (areaP l)) ∧ Below w.heap.size w w' := by
  have HR := Lib.hid hr; clear hr
  unfold areaP
  go_enter Try.func19, Try.ntmps19
  go_wp2_with fail
  go_loopw [3, 8] (fun s i wr => ∃ k : Nat, k ≤ l.length ∧ i = .int .i64 k ∧ s = .int .i64 (areaTo l k) ∧ Below w.heap.size w wr) (fun _ i _ => l.length - (intOf i).toNat)
  case atStart => exact ⟨0, Nat.zero_le _, rfl, rfl, Below.refl _ _⟩
  case round =>
    obtain ⟨wE, rfl⟩ : ∃ x : World, x = wr := ⟨_, rfl⟩
    obtain ⟨k, hk, rfl, rfl, hbel⟩ := hrel
    by_cases hlt : k < l.length
    case neg =>
      obtain rfl : k = l.length := by omega
      go_wp2_with fail
      go_ret
      exact ⟨rfl, hbel⟩
    case pos =>
      obtain ⟨b, off, rfl, hb, c0, c1⟩ := HR.out k hlt
      have d0 := bcell hbel hb c0
      have d1 := bcell hbel hb c1
      clear c0 c1
      have hcb := crossZ_b (hs.at hlt) (nextP_sh hs (i := k) (by omega))
      have hab := areaTo_b hs k hk
      have hst := show areaTo l (k + 1) = areaTo l k + crossZ (l.getD k default) (nextP l k) from rfl
      have cn := fun w h => next_c (some ⟨b, off, none⟩) cap l k w h hl hlt
      have cc := fun w => cross_c (l.getD k default) (nextP l k) w (hs.at hlt).sm (nextP_sh hs (i := k) (by omega)).sm
      generalize crossZ (l.getD k default) (nextP l k) = z at hcb hst cc
      generalize nextP l k = q at cn cc
      generalize l.getD k default = p at d0 d1 cc
      generalize areaTo l k = s at hab hst ⊢
      obtain ⟨px, py⟩ := p
      obtain ⟨qx, qy⟩ := q
      unfold ptV at cn cc
      simp only at d0 d1 cn cc
      have hw : IntKind.i64.wrap (s + z) = s + z := i64_small (by omega) (by omega)
      have HST := Lib.hid hst; have CN := Lib.hid cn; have CC := Lib.hid cc; clear hst cn cc hab hcb
      go_wp2_with fail
      obtain ⟨wB, hwB⟩ : ∃ x, wE.alloc (.cells #[.int .i64 px, .int .i64 py] 33) = x := ⟨_, rfl⟩
      have hEB : Below wE.heap.size wE wB := by rw [← hwB]; exact (Below.refl _ _).alloc (Nat.le_refl _) _
      have b0 : wB.cell? ⟨wE.heap.size, 0, none⟩ = some (.int .i64 px) := by rw [← hwB]; simp [go_sem]
      have b1 : wB.cell? ⟨wE.heap.size, 1, none⟩ = some (.int .i64 py) := by rw [← hwB]; simp [go_sem]
      have bl : wE.heap.size < wB.heap.size := by rw [← hwB]; simp
      rw [hwB]
      clear hwB d0 d1
      have hbB := ball hbel hEB
      have HRB := Lib.hid (HR.out.below (hbB.trans (Below.refl _ _).drew))
      go_region_held3 (fun w' => w'.cell? ⟨wE.heap.size, 0, none⟩ = some (.int .i64 px) ∧ w'.cell? ⟨wE.heap.size, 1, none⟩ = some (.int .i64 py)) (exact ⟨by assumption, by assumption⟩)
        (first
          | (go_at_call 32; (with_reducible refine (CN.out _ HRB.out).mono ?_); rintro e W1 ⟨rfl, hw1⟩; have m1 := bcell hw1 bl b0; have m2 := bcell hw1 bl b1; have n1 := hw1.size)
          | (go_at_call 31; (with_reducible refine (CC.out _).mono ?_); rintro e W2 ⟨rfl, hw2⟩; have m3 := bcell hw2 (Nat.lt_of_lt_of_le bl n1) m1; have m4 := bcell hw2 (Nat.lt_of_lt_of_le bl n1) m2))
      go_wp2_with fail
      go_roundw
      case rel => exact ⟨k + 1, by omega, by go_num, by rw [HST.out], ball (ball (hbB.trans (Below.refl _ _).drew) hw1) hw2⟩
      case measure => simp [intOf]; omega

set_option maxHeartbeats 1600000 in
theorem pyArea_c (ad : Option Addr) (cap : Nat) (l : List Pt) (w : World) (hr : RdP w ad l) (hl : l.length ≤ 100000) (hs : AllSh l) :
    Calls Try.prog 18 #[.slice ad l.length cap] w fun e w' => e = .returned (.int .i64 (areaP l)) ∧ Below w.heap.size w w' := by
  have HR := Lib.hid hr; clear hr
  unfold areaP
  go_enter Try.func18, Try.ntmps18
  go_wp2_with fail
  go_loopw [3, 9] (fun s i wr => ∃ k : Nat, k ≤ l.length ∧ i = .int .i64 k ∧ s = .int .i64 (areaTo l k) ∧ Below w.heap.size w wr) (fun _ i _ => l.length - (intOf i).toNat)
  case atStart => exact ⟨0, Nat.zero_le _, rfl, rfl, Below.refl _ _⟩
  case round =>
    obtain ⟨wE, rfl⟩ : ∃ x : World, x = wr := ⟨_, rfl⟩
    obtain ⟨k, hk, rfl, rfl, hbel⟩ := hrel
    by_cases hlt : k < l.length
    case neg =>
      obtain rfl : k = l.length := by omega
      go_wp2_with fail
      go_ret
      exact ⟨rfl, hbel⟩
    case pos =>
      obtain ⟨b, off, rfl, hb, c0, c1⟩ := HR.out k hlt
      have d0 := bcell hbel hb c0
      have d1 := bcell hbel hb c1
      clear c0 c1
      have hm1 := mulb (K := 500000) (M := 500000) (by omega) ⟨(hs.at hlt).1, (hs.at hlt).2.1⟩ ⟨(nextP_sh hs (i := k) (by omega)).2.2.1, (nextP_sh hs (i := k) (by omega)).2.2.2⟩
      have hm2 := mulb (K := 500000) (M := 500000) (by omega) ⟨(hs.at hlt).2.2.1, (hs.at hlt).2.2.2⟩ ⟨(nextP_sh hs (i := k) (by omega)).1, (nextP_sh hs (i := k) (by omega)).2.1⟩
      have hab := areaTo_b hs k hk
      have hst := show areaTo l (k + 1) = areaTo l k + ((l.getD k default).x * (nextP l k).y - (l.getD k default).y * (nextP l k).x) from rfl
      have hrem := rem_next (i := k) (n := l.length)
      have hjl : (k + 1) % l.length < l.length := Nat.mod_lt _ (by omega)
      unfold nextP at hst hm1 hm2
      generalize (k + 1) % l.length = j at hrem hjl hst hm1 hm2
      obtain ⟨f0, f1⟩ := HR.out.at hjl
      have g0 := bcell hbel hb f0
      have g1 := bcell hbel hb f1
      clear f0 f1
      generalize l.getD j default = q at g0 g1 hst hm1 hm2
      generalize l.getD k default = p at d0 d1 hst hm1 hm2
      generalize areaTo l k = s at hab hst ⊢
      obtain ⟨px, py⟩ := p
      obtain ⟨qx, qy⟩ := q
      simp only at d0 d1 g0 g1 hst hm1 hm2
      have e1 : IntKind.i64.wrap ((k : Int) + 1) = (k : Int) + 1 := i64_small (by omega) (by omega)
      have zz : ((l.length : Int) == 0) = false := beq_eq_false_iff_ne.2 (by omega)
      have wj : IntKind.i64.wrap (j : Int) = (j : Int) := i64_small (by omega) (by omega)
      have x1 : (0 : Int) ≤ (j : Int) := by omega
      have x2 : (j : Int) < (l.length : Int) := by omega
      have w1 : IntKind.i64.wrap (px * qy) = px * qy := i64_small (by omega) (by omega)
      have w2 : IntKind.i64.wrap (py * qx) = py * qx := i64_small (by omega) (by omega)
      have w3 : IntKind.i64.wrap (px * qy - py * qx) = px * qy - py * qx := i64_small (by omega) (by omega)
      have w4 : IntKind.i64.wrap (s + (px * qy - py * qx)) = s + (px * qy - py * qx) := i64_small (by omega) (by omega)
      have HST := Lib.hid hst; clear hst hab hm1 hm2
      have hz := hbel.size
      have hEB : Below wE.heap.size wE (wE.alloc (.cells #[.int .i64 px, .int .i64 py] 33)) := (Below.refl _ _).alloc (Nat.le_refl _) _
      have g2 := bcell hEB (Nat.lt_of_lt_of_le hb hz) g0
      have g3 := bcell hEB (Nat.lt_of_lt_of_le hb hz) g1
      clear hEB
      have hbN := (hbel.alloc hz (.cells #[.int .i64 px, .int .i64 py] 33)).alloc (by simp; omega) (.cells #[.int .i64 qx, .int .i64 qy] 33)
      go_wp2_with fail
      go_roundw
      case rel => exact ⟨k + 1, by omega, by go_num, by rw [HST.out], hbN⟩
      case measure => simp [intOf]; omega

end Go.Proofs.Ytpnnmdkhkjenmaa
