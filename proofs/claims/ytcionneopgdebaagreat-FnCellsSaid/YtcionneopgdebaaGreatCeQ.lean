/-
  Some texts of this proof in one: CeQ CpI CpJ. Each part tells what it proves. By an AI agent.
-/
import Derived.Test.YtcionneopgdebaaGreatCeN
import Derived.Test.YtcionneopgdebaaGreatHull
import Derived.Deep.QuietTactic

/-
  The polygon of a cell: the program's. By an AI agent.
-/
namespace Go.Proofs.YtcionneopgdebaaGreat
open Go.RowKit

/-- the points of a cell. -/
def ptsX (L : List Tm) (xs : List Int) : List Pt := xs.map fun x => pnt (tmAt L x.toNat)
theorem ptsX_snoc (L : List Tm) (xs : List Int) {k : Nat} (h : k < xs.length) : ptsX L (xs.take (k + 1)) = ptsX L (xs.take k) ++ [pnt (tmAt L (xs.getD k 0).toNat)] := by
  unfold ptsX
  rw [List.take_succ_eq_append_getElem h, List.map_append, List.getD_eq_getElem?_getD, List.getElem?_eq_getElem h, Option.getD_some]
  rfl

set_option maxHeartbeats 1600000 in
set_option maxRecDepth 100000 in
theorem polygon_c (S bp op cpp : Nat) (L : List Tm) (adx : Option Addr) (capx : Nat) (xs : List Int) (w : World) (hS : S < w.heap.size) (k1 : w.cell? ⟨S, 1, none⟩ = some (.slice (some ⟨bp, op, none⟩) L.length cpp)) (hbp : bp < w.heap.size)
    (hpt : ∀ j, j < L.length → w.cell? ⟨bp, op + j * 2, none⟩ = some (.int .i64 (tmAt L j).i) ∧ w.cell? ⟨bp, op + j * 2 + 1, none⟩ = some (.int .i64 (tmAt L j).j)) (hp : ∀ k, k < L.length → termB (tmAt L k) = true) (hx : RdI w adx xs) (hxl : xs.length ≤ 12) (h0 : 0 < xs.length) (hin : ∀ x ∈ xs, ∃ t : Nat, x = t ∧ t < L.length) :
    Calls Tryz.prog 41 #[.pointer (some ⟨S, 0, none⟩), .slice adx xs.length capx] w (HullTo w (hullF (pySortF (ptsX L xs)))) := by
  have HIN := Lib.hid (fun k (hk : k < xs.length) => show ∃ t : Nat, xs.getD k 0 = t ∧ t < L.length from hin _ (by rw [List.getD_eq_getElem?_getD, List.getElem?_eq_getElem hk, Option.getD_some]; exact List.getElem_mem hk))
  have HPT := Lib.hid hpt; have HX := Lib.hid hx; have HK1 := Lib.hid k1
  have hash : AllSh (ptsX L xs) := fun q hq => by
    obtain ⟨x, hx1, rfl⟩ := List.mem_map.1 hq
    obtain ⟨t, rfl, ht⟩ := hin x hx1
    have := termB_t (hp t ht)
    exact ⟨by show _ ≤ (tmAt L t).i; omega, by show (tmAt L t).i ≤ _; omega, by show _ ≤ (tmAt L t).j; omega, by show (tmAt L t).j ≤ _; omega⟩
  have hlen : (ptsX L xs).length = xs.length := List.length_map _
  have CH := Lib.hid (fun ad cap w (h : RdP w ad (ptsX L xs)) => hull_c ad cap (ptsX L xs) w h (by omega) (by omega) hash)
  obtain ⟨PX, hPX⟩ : ∃ X, ptsX L xs = X := ⟨_, rfl⟩
  rw [hPX] at CH hlen ⊢
  have HPX := Lib.hid hPX
  generalize hullF (pySortF PX) = HF at CH ⊢
  obtain ⟨m, hm⟩ : ∃ m, xs.length = m := ⟨_, rfl⟩
  rw [hm] at hlen hxl h0 ⊢
  rw [hlen] at CH
  obtain ⟨n, hn⟩ : ∃ n, L.length = n := ⟨_, rfl⟩
  rw [hn] at HPT HK1 HIN
  have HM := Lib.hid hm; have HLEN := Lib.hid hlen
  clear hPX hm hn hp hx hin hash hpt k1 hlen
  have hrow0 : RowP (w.alloc (.cells #[] 66)) w.heap.size (.slice (some ⟨w.heap.size, 0, none⟩) 0 0) [] := rowP_empty w
  have HROW := Lib.hid hrow0; clear hrow0
  go_enter Tryz.func41, Tryz.ntmps41
  go_wp2_with fail
  go_loopw [5, 11] (fun s i wr => ∃ (k : Nat) (ys : List Pt), k ≤ m ∧ i = .int .i64 k ∧ ptsX L (xs.take k) = ys ∧ ys.length = k ∧ RowP wr w.heap.size s ys ∧ Below w.heap.size w wr) (fun _ i _ => m - (intOf i).toNat)
  case atStart => exact ⟨0, [], Nat.zero_le _, rfl, rfl, rfl, HROW.out, bal_alloc (Below.refl _ _)⟩
  case round =>
    obtain ⟨wE, rfl⟩ : ∃ x : World, x = wr := ⟨_, rfl⟩
    obtain ⟨k, ys, hk, rfl, hys, hyl, hrow, hbel⟩ := hrel
    obtain ⟨ady, cpy, rfl, _, _⟩ := hrow.shape
    rw [hyl] at hrow ⊢
    have HYS := Lib.hid hys; have HRW := Lib.hid hrow; have HYL := Lib.hid hyl
    have hsz := hbel.size
    clear hys hrow hyl
    by_cases hlt : k < m
    case neg =>
      obtain rfl : k = m := by omega
      have hE : PX = ys := by rw [← HPX.out, ← HYS.out, List.take_of_length_le (by rw [HM.out]; exact Nat.le_refl _)]
      have CC := Lib.hid (CH.out ady cpy wE (by rw [hE]; exact HRW.out.rd))
      clear hE
      go_wp2_with fail
      refine CC.out.mono ?_
      rintro e w3 ⟨a3, c3, rfl, hr3, hb3⟩
      have HR3 := Lib.hid hr3; have HB3 := Lib.hid (ball hbel hb3)
      clear hr3 hb3
      go_wp2_with fail
      go_ret
      exact ⟨a3, c3, rfl, HR3.out, HB3.out⟩
    case pos =>
      obtain ⟨b1, o1, rfl, hb1, q1⟩ := HX.out k (by rw [HM.out]; exact hlt)
      obtain ⟨t, ht, htn⟩ := HIN.out k (by rw [HM.out]; exact hlt)
      rw [ht] at q1
      have q1 := bcell hbel hb1 q1
      have q2 := bcell hbel hS HK1.out
      obtain ⟨p0, p1⟩ := HPT.out t htn
      have p0 := bcell hbel hbp p0
      have p1 := bcell hbel hbp p1
      have HS := Lib.hid (show ptsX L (xs.take (k + 1)) = ys ++ [⟨(tmAt L t).i, (tmAt L t).j⟩] from by rw [ptsX_snoc L xs (by rw [HM.out]; exact hlt), HYS.out, ht]; rfl)
      clear ht
      generalize tmAt L t = T at p0 p1 HS
      have x1 : (0 : Int) ≤ (k : Int) := by omega
      have x2 : (k : Int) < (m : Int) := by omega
      have x3 : (0 : Int) ≤ (t : Int) := by omega
      have x4 : (t : Int) < (n : Int) := by omega
      go_wp2_with (at_builtin; refine wpList_appP rfl _ _ rfl w.heap.size _ 0 1 _ ys [⟨T.i, T.j⟩] rfl rfl (HRW.out.below ((Below.refl _ _).alloc (Nat.le_refl _) _)) (rdP_one _ _ _ _ (by first | rfl | simp)) (by rw [HYL.out]; omega) (by simp) (by simp; omega) ?_; intro v5 wm hown hbm)
      have hb3 := (bal_alloc (o := .cells #[.int .i64 T.i, .int .i64 T.j] 66) hbel).trans hbm
      have HO5 := Lib.hid hown; clear hown hbm
      go_wp2_with fail
      go_roundw
      case rel => exact ⟨k + 1, _, by omega, by go_num, HS.out, by rw [List.length_append, HYL.out]; rfl, HO5.out, hb3⟩
      case measure => simp [intOf]; omega
end Go.Proofs.YtcionneopgdebaaGreat

/-
  The place of a point, the corners of a cell, two terms in order: the program's. By an AI agent.
-/
namespace Go.Proofs.YtcionneopgdebaaGreat
open Go.RowKit

/-- The first place of a point. -/
def posF (p : Pt) : List Pt → Nat
  | [] => 0
  | q :: l => if q = p then 0 else posF p l + 1
theorem posF_at {p : Pt} : ∀ {l : List Pt} {k : Nat}, k < l.length → l.getD k default = p → (∀ j, j < k → l.getD j default ≠ p) → posF p l = k
  | [], k, h, _, _ => by simp at h
  | q :: l, 0, _, h, _ => by
    unfold posF
    rw [if_pos (by simpa using h)]
  | q :: l, k + 1, hk, h, hn => by
    have h0 : q ≠ p := by simpa using hn 0 (by omega)
    unfold posF
    rw [if_neg h0, posF_at (l := l) (k := k) (by simpa using hk) (by simpa using h) (fun j hj => by simpa using hn (j + 1) (by omega))]
theorem posF_lt {p : Pt} : ∀ {l : List Pt}, p ∈ l → posF p l < l.length ∧ l.getD (posF p l) default = p
  | [], h => by simp at h
  | q :: l, h => by
    unfold posF
    by_cases e : q = p
    · rw [if_pos e]; exact ⟨by simp, by simpa using e⟩
    · rw [if_neg e]
      have h2 : p ∈ l := by
        rcases List.mem_cons.1 h with h | h
        · exact absurd h.symm e
        · exact h
      obtain ⟨a, b⟩ := posF_lt h2
      exact ⟨by simp; omega, by simpa using b⟩

set_option maxHeartbeats 1600000 in
set_option maxRecDepth 100000 in
theorem indexP_c (ad : Option Addr) (cap : Nat) (l : List Pt) (p : Pt) (w : World) (hr : RdP w ad l) (hl : l.length ≤ 100000) (hin : p ∈ l) :
    Calls Tryz.prog 118 #[.slice ad l.length cap, .agg #[.int .i64 p.x, .int .i64 p.y]] w fun e w' => e = .returned (.int .i64 (posF p l : Nat)) ∧ Below w.heap.size w w' := by
  have HR := Lib.hid hr
  have HIN := Lib.hid (show ∃ k, k < l.length ∧ l.getD k default = p from ⟨_, posF_lt hin⟩)
  have HP := Lib.hid (fun k (h1 : k < l.length) (h2 : l.getD k default = p) (h3 : ∀ j, j < k → l.getD j default ≠ p) => posF_at h1 h2 h3)
  obtain ⟨RES, hRES⟩ : ∃ X, posF p l = X := ⟨_, rfl⟩
  simp only [hRES] at HP ⊢
  clear hr hin hRES
  obtain ⟨n, hn⟩ : ∃ n, l.length = n := ⟨_, rfl⟩
  have HN := Lib.hid hn
  rw [hn] at hl ⊢
  clear hn
  obtain ⟨h, hh⟩ : ∃ h, w.heap.size = h := ⟨_, rfl⟩
  have ho : Own (w.alloc (.cells #[.int .i64 p.x, .int .i64 p.y] 66)) w.heap.size 66 [.int .i64 p.x, .int .i64 p.y] := Own.new _ _ _
  have hb0 : Below w.heap.size w (w.alloc (.cells #[.int .i64 p.x, .int .i64 p.y] 66)) := bal_alloc (Below.refl _ _)
  have HC0 := Lib.hid (ho.cell? (i := 0) rfl)
  have HC1 := Lib.hid (ho.cell? (i := 1) rfl)
  have HLT := Lib.hid ho.lt
  have HR1 := Lib.hid (HR.out.below hb0)
  obtain ⟨W1, hW⟩ : ∃ W1, w.alloc (.cells #[.int .i64 p.x, .int .i64 p.y] 66) = W1 := ⟨_, rfl⟩
  rw [hW] at HC0 HC1 HLT HR1 hb0
  rw [hh] at HC0 HC1 HLT
  clear ho HR
  obtain ⟨px, py⟩ := p
  simp only at HC0 HC1 hW ⊢
  go_enter Tryz.func118, Tryz.ntmps118
  go_wp2_with fail
  try rw [hW]
  try rw [hh]
  have HB0 := Lib.hid hb0
  clear hW hb0
  go_loopw [8] (fun i wr => ∃ k : Nat, k ≤ n ∧ i = .int .i64 k ∧ (∀ j, j < k → l.getD j default ≠ (⟨px, py⟩ : Pt)) ∧ Below W1.heap.size W1 wr) (fun i _ => n - (intOf i).toNat)
  case atStart => exact ⟨0, Nat.zero_le _, rfl, fun j hj => by omega, Below.refl _ _⟩
  case round =>
    obtain ⟨wE, rfl⟩ : ∃ x : World, x = wr := ⟨_, rfl⟩
    obtain ⟨k, hk, rfl, hno, hbel⟩ := hrel
    have HNO := Lib.hid hno; clear hno
    by_cases hlt : k < n
    case neg =>
      exfalso
      obtain ⟨q, h1, h2⟩ := HIN.out
      exact HNO.out q (by have := HN.out; omega) h2
    case pos =>
      obtain ⟨bq, oq, rfl, hbq, q0, q1⟩ := HR1.out k (by rw [HN.out]; exact hlt)
      have q0 := bcell hbel hbq q0
      have q1 := bcell hbel hbq q1
      have r0 := bcell hbel HLT.out HC0.out
      have r1 := bcell hbel HLT.out HC1.out
      have x1 : (0 : Int) ≤ (k : Int) := by omega
      have x2 : (k : Int) < (n : Int) := by omega
      obtain ⟨T, hT⟩ : ∃ T, l.getD k default = T := ⟨_, rfl⟩
      rw [hT] at q0 q1
      have HT := Lib.hid hT; clear hT
      obtain ⟨tx, ty⟩ := T
      simp only at q0 q1
      by_cases hx : px = tx
      case pos =>
        subst hx
        by_cases hy : py = ty
        case pos =>
          subst hy
          have HE := Lib.hid (HP.out k (by rw [HN.out]; exact hlt) HT.out HNO.out)
          go_wp2_with fail
          go_quiet (fail)
          go_wp2_with fail
          go_ret
          exact ⟨by rw [HE.out]; rfl, HB0.out.trans ((bdrewN hbel _).mono HB0.out.size)⟩
        case neg =>
          have HS := Lib.hid (show ∀ j, j < k + 1 → l.getD j default ≠ (⟨px, py⟩ : Pt) from fun j hj => by
            by_cases e : j = k
            · subst e; rw [HT.out]; intro e2; injection e2 with _ e2; exact hy e2.symm
            · exact HNO.out j (by omega))
          have hy' : ty ≠ py := fun e => hy e.symm
          go_wp2_with fail
          go_quiet (fail)
          go_wp2_with fail
          go_roundw
          case rel => exact ⟨k + 1, by omega, by go_num, HS.out, bdrewN hbel _⟩
          case measure => simp [intOf]; omega
      case neg =>
        have HS := Lib.hid (show ∀ j, j < k + 1 → l.getD j default ≠ (⟨px, py⟩ : Pt) from fun j hj => by
          by_cases e : j = k
          · subst e; rw [HT.out]; intro e2; injection e2 with e2 _; exact hx e2.symm
          · exact HNO.out j (by omega))
        have hx' : tx ≠ px := fun e => hx e.symm
        go_wp2_with fail
        go_quiet (fail)
        go_wp2_with fail
        go_roundw
        case rel => exact ⟨k + 1, by omega, by go_num, HS.out, bdrewN hbel _⟩
        case measure => simp [intOf]; omega

set_option maxHeartbeats 1600000 in
theorem pair_c (a b : Int) (w : World) : Calls Tryz.prog 79 #[.int .i64 a, .int .i64 b] w fun e w' => e = .returned (.agg #[.int .i64 (min a b), .int .i64 (max a b)]) ∧ Below w.heap.size w w' := by
  obtain ⟨h, hh⟩ : ∃ h, w.heap.size = h := ⟨_, rfl⟩
  have o1 : Own (w.alloc (.cells #[.int .i64 0, .int .i64 0] 94)) h 94 [.int .i64 0, .int .i64 0] := Own.newHG _ _ _ rfl hh
  have hb := bal_alloc (o := .cells #[.int .i64 0, .int .i64 0] 94) (Below.refl w.heap.size w)
  have y0 := o1.cell? (i := 0) rfl
  have y1 := o1.cell? (i := 1) rfl
  have f0 := o1.frozen 0
  have f1 := o1.frozen 1
  have o2 : Own (w.alloc (.cells #[.int .i64 (min a b), .int .i64 (max a b)] 94)) h 94 [.int .i64 (min a b), .int .i64 (max a b)] := Own.newHG _ _ _ rfl hh
  have HB2 := Lib.hid (bal_alloc (o := .cells #[.int .i64 (min a b), .int .i64 (max a b)] 94) (Below.refl w.heap.size w))
  have HQ0 := Lib.hid (o2.cell? (i := 0) rfl)
  have HQ1 := Lib.hid (o2.cell? (i := 1) rfl)
  clear o1 o2 hb
  go_enter Tryz.func79, Tryz.ntmps79
  go_wp2_with fail
  have hB := HB2.out
  have q0 := HQ0.out
  have q1 := HQ1.out
  generalize w.alloc (.cells #[.int .i64 (min a b), .int .i64 (max a b)] 94) = X at q0 q1 hB ⊢
  exact bodyPost_ret (v := .agg #[.int .i64 (min a b), .int .i64 (max a b)]) (by simp [results, Tryz.results79, go_sem, q0, q1]) rfl ⟨rfl, hB⟩
end Go.Proofs.YtcionneopgdebaaGreat

/-
  The corners of a cell as terms: the program's. By an AI agent.
-/
namespace Go.Proofs.YtcionneopgdebaaGreat
open Go.RowKit

theorem popF_sub (p : Pt) : ∀ (n : Nat) (out : List Pt), out.length = n → ∀ x ∈ popF out p, x ∈ out := by
  intro n
  induction n with
  | zero =>
    intro out hn x hx
    rw [List.length_eq_zero_iff.1 hn] at hx ⊢
    rwa [popF_stop (by unfold popB; simp)] at hx
  | succ n ih =>
    intro out hn x hx
    cases hc : popB out p
    · rwa [popF_stop hc] at hx
    · rw [popF_go hc] at hx
      exact List.dropLast_subset _ (ih out.dropLast (by simp; omega) x hx)
theorem halfF_sub {l : List Pt} : ∀ x ∈ halfF l, x ∈ l := by
  induction h : l.length generalizing l with
  | zero => rw [List.length_eq_zero_iff.1 h]; simp [halfF]
  | succ n ih =>
    obtain ⟨l', q, rfl⟩ : ∃ l' q, l = l' ++ [q] := ⟨l.dropLast, l.getLast (by intro e; subst e; simp at h), (List.dropLast_concat_getLast _).symm⟩
    intro x hx
    rw [halfF_snoc] at hx
    rcases List.mem_append.1 hx with hx | hx
    · exact List.mem_append_left _ (ih (l := l') (by simpa using h) x (popF_sub q _ _ rfl x hx))
    · exact List.mem_append_right _ hx
theorem hullF_sub {l : List Pt} : ∀ x ∈ hullF l, x ∈ l := fun x hx => by
  unfold hullF at hx
  split at hx
  · exact hx
  · rcases List.mem_append.1 hx with hx | hx
    · exact halfF_sub x (List.dropLast_subset _ hx)
    · simpa using halfF_sub x (List.dropLast_subset _ hx)
theorem ptsL_at (L : List Tm) : ∀ {n j : Nat}, j < n → (ptsL L n).getD j default = pnt (tmAt L j)
  | n + 1, j, h => by
    unfold ptsL
    by_cases e : j < n
    · rw [List.getD_eq_getElem?_getD, List.getElem?_append_left (by rw [ptsL_len]; exact e), ← List.getD_eq_getElem?_getD]
      exact ptsL_at L e
    · obtain rfl : j = n := by omega
      rw [List.getD_eq_getElem?_getD, List.getElem?_append_right (by rw [ptsL_len]; exact Nat.le_refl _), ptsL_len, Nat.sub_self]
      rfl
theorem ptsL_mem (L : List Tm) {n j : Nat} (h : j < n) : pnt (tmAt L j) ∈ ptsL L n := by
  rw [← ptsL_at L h, List.getD_eq_getElem?_getD, List.getElem?_eq_getElem (by rw [ptsL_len]; exact h), Option.getD_some]
  exact List.getElem_mem _
/-- the hull of a cell. -/
def hulX (L : List Tm) (xs : List Int) : List Pt := hullF (pySortF (ptsX L xs))
theorem hulX_in {L : List Tm} {xs : List Int} (hin : ∀ x ∈ xs, ∃ t : Nat, x = t ∧ t < L.length) : ∀ p ∈ hulX L xs, ∃ t : Nat, (t : Int) ∈ xs ∧ t < L.length ∧ p = pnt (tmAt L t) := fun p hp => by
  have h1 := (pySortF_mem _ _).1 (hullF_sub p hp)
  obtain ⟨x, hx, rfl⟩ := List.mem_map.1 h1
  obtain ⟨t, rfl, ht⟩ := hin x hx
  exact ⟨t, hx, ht, rfl⟩
theorem hullF_len2 (s : List Pt) : (hullF s).length ≤ 2 * s.length := by
  unfold hullF
  split
  · omega
  · rw [List.length_append, List.length_dropLast, List.length_dropLast]
    have h1 := halfF_len s
    have h2 := halfF_len s.reverse
    rw [List.length_reverse] at h2
    omega
theorem hulX_len (L : List Tm) (xs : List Int) : (hulX L xs).length ≤ 2 * xs.length := by
  have h1 := hullF_len2 (pySortF (ptsX L xs))
  have h2 := pySortF_len (ptsX L xs)
  have h3 : (ptsX L xs).length = xs.length := List.length_map _
  unfold hulX
  omega
/-- its corners as terms. -/
def corX (L : List Tm) (xs : List Int) : List Int := (hulX L xs).map fun p => ((posF p (ptsL L L.length) : Nat) : Int)
theorem corX_len (L : List Tm) (xs : List Int) : (corX L xs).length = (hulX L xs).length := List.length_map _
theorem rdP_of_terms {w : World} {bp op : Nat} {L : List Tm} (hbp : bp < w.heap.size) (hpt : ∀ j, j < L.length → w.cell? ⟨bp, op + j * 2, none⟩ = some (.int .i64 (tmAt L j).i) ∧ w.cell? ⟨bp, op + j * 2 + 1, none⟩ = some (.int .i64 (tmAt L j).j)) : RdP w (some ⟨bp, op, none⟩) (ptsL L L.length) := fun j hj => by
  rw [ptsL_len] at hj
  obtain ⟨h1, h2⟩ := hpt j hj
  exact ⟨bp, op, rfl, hbp, by rw [ptsL_at L hj]; exact h1, by rw [ptsL_at L hj]; exact h2⟩

set_option maxHeartbeats 1600000 in
set_option maxRecDepth 100000 in
theorem term_c (S bp op cpp : Nat) (P : List Pt) (p : Pt) (w : World) (hS : S < w.heap.size) (k1 : w.cell? ⟨S, 1, none⟩ = some (.slice (some ⟨bp, op, none⟩) P.length cpp)) (hr : RdP w (some ⟨bp, op, none⟩) P) (hl : P.length ≤ 100000) (hin : p ∈ P) :
    Calls Tryz.prog 95 #[.pointer (some ⟨S, 0, none⟩), .agg #[.int .i64 p.x, .int .i64 p.y]] w fun e w' => e = .returned (.int .i64 (posF p P : Nat)) ∧ Below w.heap.size w w' := by
  have CI := Lib.hid (fun w (h : RdP w (some ⟨bp, op, none⟩) P) => indexP_c (some ⟨bp, op, none⟩) cpp P p w h hl hin)
  generalize posF p P = RES at CI ⊢
  obtain ⟨n, hn⟩ : ∃ n, P.length = n := ⟨_, rfl⟩
  rw [hn] at CI k1 hl
  clear hn hin
  obtain ⟨h, hh⟩ : ∃ h, w.heap.size = h := ⟨_, rfl⟩
  have ho : Own (w.alloc (.cells #[.int .i64 p.x, .int .i64 p.y] 66)) w.heap.size 66 [.int .i64 p.x, .int .i64 p.y] := Own.new _ _ _
  have hb0 : Below w.heap.size w (w.alloc (.cells #[.int .i64 p.x, .int .i64 p.y] 66)) := bal_alloc (Below.refl _ _)
  have c0 := ho.cell? (i := 0) rfl
  have c1 := ho.cell? (i := 1) rfl
  have hlt := ho.lt
  have k1 := bcell hb0 hS k1
  have hS1 := Nat.lt_of_lt_of_le hS hb0.size
  have HR1 := Lib.hid (hr.below hb0)
  obtain ⟨W1, hW⟩ : ∃ W1, w.alloc (.cells #[.int .i64 p.x, .int .i64 p.y] 66) = W1 := ⟨_, rfl⟩
  rw [hW] at c0 c1 k1 HR1 hb0 hlt hS1
  rw [hh] at c0 c1 hlt
  clear ho hr
  obtain ⟨px, py⟩ := p
  simp only at c0 c1 CI hW ⊢
  go_enter Tryz.func95, Tryz.ntmps95
  go_wp2_with fail
  try rw [hW]
  try rw [hh]
  have HB0 := Lib.hid hb0
  have HRW := Lib.hid (fun w' (hk : Below W1.heap.size W1 w') => HR1.out.below hk)
  clear hW hb0
  go_region_held3 (fun w' => w'.cell? ⟨S, 1, none⟩ = some (.slice (some ⟨bp, op, none⟩) n cpp) ∧ w'.cell? ⟨h, 0, none⟩ = some (.int .i64 px) ∧ w'.cell? ⟨h, 1, none⟩ = some (.int .i64 py)) (exact ⟨by assumption, by assumption, by assumption⟩)
    (first
      | (go_at_call 118; (with_reducible refine (CI.out _ (HRW.out _ (by with_reducible repeat' (first | exact Below.refl _ _ | apply Below.drew)))).mono ?_); rintro e W2 ⟨rfl, hw2⟩; have n0 := bcell hw2 hS1 k1; have n1 := bcell hw2 hlt c0; have n2 := bcell hw2 hlt c1))
  have hb2 := HB0.out.trans (((Below.refl W1.heap.size W1).drew.trans hw2).mono HB0.out.size)
  go_wp2_with fail
  go_ret
  exact ⟨rfl, hb2⟩

/-- append of numbers in the list of a plain region. -/
theorem wpList_appB {w : World} {ops : Array Oper} {rest : List Oper} {o : Oper} {a : Act} {Q : Exit → Act → World → Prop} (hgd : o.guard = none) (s x : Operand)
    (ho : o.op = .call { callee := .builtin .append, args := #[s, x], argTypes := #[29, 29] })
    (B b off c : Nat) (v : Value) (l m : List Int) (N : Nat) (hN : l.length + m.length = N) (hs : a.eval s = v) (hx : a.eval x = .slice (some ⟨b, off, none⟩) m.length c) (hown : RowI w B v l) (hX : RdI w (some ⟨b, off, none⟩) m) (hl : l.length ≤ 100000) (hm : m.length ≤ 100000) (hB : B ≤ w.heap.size)
    (h : ∀ v' w', RowI w' B v' (l ++ m) → (0 < N → ∃ g cap, v' = .slice (some ⟨g, 0, none⟩) N cap ∧ B ≤ g) → Below B w w' → w.grownBy w' v.ownBlock → (v'.ownBlock = v.ownBlock ∨ v'.ownBlock = some w.heap.size) → wpList Tryz.prog ops Q rest (a.put o.dst v') w') : wpList Tryz.prog ops Q (o :: rest) a w := by
  refine wpList_plain hgd fun _ hK => ?_
  obtain ⟨iP, hiP, hzP, hsP, hbP⟩ := info_parts Tryz.infoI
  obtain ⟨v', w', hr, h2, h3, _, h5⟩ := run_append_own_at (P := Tryz.prog) w B 29 o.type 3 iP _ 1 8 Tryz.underlying29 hiP hzP hsP hbP rfl (by omega) v l.length (ints l) hown ⟨b, off, none⟩ m.length c (ints m) (by rw [ints_length]; omega) (fun j u hu => by
    have hj : j < m.length := by
      have := (List.getElem?_eq_some_iff.1 hu).1
      rwa [ints_length] at this
    rw [addr_plain, hX.at hj]
    rw [ints_get hj] at hu
    exact hu) (ints_oneCell m) (by unfold maxLen; omega) (by omega) hB
  have hrow : RowI w' B v' (l ++ m) := row_congr h2 (by simp) (by simp [ints])
  have hbl := (Below.refl B w).grown h3 hB (fun q e => (World.ownsRow.lt hown q e).1)
  unfold Oper.wp execOp
  simp only [ho, resolve, invoke, builtin, Sem.run_bind, Sem.run_pure, Result.andThen_ok, List.map_toArray, List.map_cons, List.map_nil, hs, hx, hr]
  refine hK _ _ (h _ w' hrow (fun h0 => ?_) hbl h3 h5)
  rcases Own.of_row hrow with ⟨_, h1, _⟩ | ⟨g, cap, h1, hg, _⟩
  · rw [List.length_append] at h1; omega
  · exact ⟨g, cap, by rw [h1, List.length_append, hN], hg⟩
theorem takeI_snoc {α : Type} (l : List α) (k : Nat) (f : α → Int) (d : α) (h : k < l.length) : (l.take (k + 1)).map f = (l.take k).map f ++ [f (l.getD k d)] := by
  rw [List.take_succ_eq_append_getElem h, List.map_append, List.getD_eq_getElem?_getD, List.getElem?_eq_getElem h, Option.getD_some]
  rfl
set_option maxHeartbeats 3200000 in
set_option maxRecDepth 100000 in
theorem corners_c (S bp op cpp : Nat) (L : List Tm) (adx : Option Addr) (capx : Nat) (xs : List Int) (w : World) (hS : S < w.heap.size) (k1 : w.cell? ⟨S, 1, none⟩ = some (.slice (some ⟨bp, op, none⟩) L.length cpp)) (hbp : bp < w.heap.size)
    (hpt : ∀ j, j < L.length → w.cell? ⟨bp, op + j * 2, none⟩ = some (.int .i64 (tmAt L j).i) ∧ w.cell? ⟨bp, op + j * 2 + 1, none⟩ = some (.int .i64 (tmAt L j).j)) (hp : ∀ k, k < L.length → termB (tmAt L k) = true) (hx : RdI w adx xs) (hxl : xs.length ≤ 12) (h0 : 0 < xs.length) (hin : ∀ x ∈ xs, ∃ t : Nat, x = t ∧ t < L.length) (hl : L.length ≤ 12) :
    Calls Tryz.prog 78 #[.pointer (some ⟨S, 0, none⟩), .slice adx xs.length capx] w fun e w' => ∃ v, e = .returned v ∧ RowI w' w.heap.size v (corX L xs) ∧ Below w.heap.size w w' := by
  have HPO := Lib.hid (fun w' (hb : Below w.heap.size w w') => polygon_c S bp op cpp L adx capx xs w' (Nat.lt_of_lt_of_le hS hb.size) (bcell hb hS k1) (Nat.lt_of_lt_of_le hbp hb.size) (fun j hj => ⟨bcell hb hbp (hpt j hj).1, bcell hb hbp (hpt j hj).2⟩) hp (hx.below hb) hxl h0 hin)
  have hrd := rdP_of_terms hbp hpt
  have hmem : ∀ k, k < (hulX L xs).length → (hulX L xs).getD k default ∈ ptsL L L.length := fun k hk => by
    obtain ⟨t, _, ht, e⟩ := hulX_in hin _ (show (hulX L xs).getD k default ∈ hulX L xs by rw [List.getD_eq_getElem?_getD, List.getElem?_eq_getElem hk, Option.getD_some]; exact List.getElem_mem hk)
    rw [e]
    exact ptsL_mem L ht
  have HTM := Lib.hid (fun k (hk : k < (hulX L xs).length) w' (hb : Below w.heap.size w w') => term_c S bp op cpp (ptsL L L.length) ((hulX L xs).getD k default) w' (Nat.lt_of_lt_of_le hS hb.size) (by rw [ptsL_len]; exact bcell hb hS k1) (hrd.below hb) (by rw [ptsL_len]; omega) (hmem k hk))
  have HLN := hulX_len L xs
  have HTK := Lib.hid (fun k (hk : k < (hulX L xs).length) => takeI_snoc (hulX L xs) k (fun p => ((posF p (ptsL L L.length) : Nat) : Int)) default hk)
  have HCX := Lib.hid (show corX L xs = (hulX L xs).map fun p => ((posF p (ptsL L L.length) : Nat) : Int) from rfl)
  rw [show hullF (pySortF (ptsX L xs)) = hulX L xs from rfl] at HPO
  generalize hulX L xs = H at HPO HTM HLN HTK HCX
  generalize corX L xs = CX at HCX ⊢
  generalize ptsL L L.length = P at HTM HTK HCX
  obtain ⟨m, hm⟩ : ∃ m, xs.length = m := ⟨_, rfl⟩
  rw [hm] at HPO HLN hxl ⊢
  obtain ⟨n, hn⟩ : ∃ n, H.length = n := ⟨_, rfl⟩
  rw [hn] at HTM HLN HTK
  have HN := Lib.hid hn
  clear hm hn hp hx hin hpt k1 h0 hrd hmem
  have HROW := Lib.hid (show RowI (w.alloc (.cells #[] 3)) w.heap.size (.slice (some ⟨w.heap.size, 0, none⟩) 0 0) [] from row_empty w 3)
  have HEM := Lib.hid (show ∀ j, (w.alloc (.cells #[] 3)).cell? ⟨w.heap.size, j, none⟩ = none from fun j => by unfold World.cell?; rw [Deep.blk_alloc_new]; simp)
  go_enter Tryz.func78, Tryz.ntmps78
  go_wp2_with fail
  have hbA : Below w.heap.size w (w.alloc (.cells #[] 3)) := bal_alloc (Below.refl _ _)
  refine (HPO.out _ hbA).mono ?_
  rintro e w1 ⟨adh, caph, rfl, hrh, hb1⟩
  have hbB := ball hbA hb1
  have HRW1 := Lib.hid (HROW.out.below hb1)
  have hE0 : w.heap.size < (w.alloc (.cells #[] 3)).heap.size := by simp
  have HNE := Lib.hid (show ∀ k, k < n → ∃ bh oh, adh = some ⟨bh, oh, none⟩ ∧ bh ≠ w.heap.size ∧ bh < w1.heap.size ∧ w1.cell? ⟨bh, oh + k * 2, none⟩ = some (.int .i64 (H.getD k default).x) ∧ w1.cell? ⟨bh, oh + k * 2 + 1, none⟩ = some (.int .i64 (H.getD k default).y) from fun k hk => by
    obtain ⟨bh, oh, e, hlt, q0, q1⟩ := hrh k (by rw [HN.out]; exact hk)
    refine ⟨bh, oh, e, fun e2 => ?_, hlt, q0, q1⟩
    subst e2
    have e3 := HEM.out (oh + k * 2)
    rw [World.cell?_of_block (a := ⟨w.heap.size, oh + k * 2, none⟩) (hb1.block _ hE0)] at q0
    rw [e3] at q0
    cases q0)
  have hE1 : w.heap.size < w1.heap.size := Nat.lt_of_lt_of_le hE0 hb1.size
  obtain ⟨E0, hE0e⟩ : ∃ E, w.heap.size = E := ⟨_, rfl⟩
  have HE0 := Lib.hid hE0e
  rw [hE0e] at HNE HRW1 hE1 ⊢
  have HGR := Lib.hid (show w1.grownBy w1 (some E0) from ⟨rfl, rfl, rfl, Nat.le_refl _, fun _ _ _ => rfl⟩)
  clear hrh HROW hb1 hbA hE0 HEM hE0e
  try rw [HN.out]
  go_wp2_with fail
  go_loopw [5, 13] (fun s i wr => ∃ (k : Nat) (ys : List Int), k ≤ n ∧ i = .int .i64 k ∧ ((H.take k).map fun p => ((posF p P : Nat) : Int)) = ys ∧ ys.length = k ∧ RowI wr E0 s ys ∧ Below w.heap.size w wr ∧ w1.grownBy wr (some E0) ∧ (∀ q, s.ownBlock = some q → q = E0 ∨ w1.heap.size ≤ q)) (fun _ i _ => n - (intOf i).toNat)
  case atStart => exact ⟨0, [], Nat.zero_le _, rfl, rfl, rfl, HRW1.out, hbB, HGR.out, fun q hq => Or.inl (by simp only [Value.ownBlock, Option.some.injEq] at hq; exact hq.symm)⟩
  case round =>
    obtain ⟨wE, rfl⟩ : ∃ x : World, x = wr := ⟨_, rfl⟩
    obtain ⟨k, ys, hk, rfl, hys, hyl, hrow, hbel, hgr1, hown1⟩ := hrel
    obtain ⟨ady, cpy, rfl, _⟩ := hrow.shape
    rw [hyl] at hrow hown1 ⊢
    have HOW := Lib.hid hown1; clear hown1
    have hE2 : E0 < wE.heap.size := Nat.lt_of_lt_of_le hE1 hgr1.size
    have HYS := Lib.hid hys; have HRW := Lib.hid hrow; have HYL := Lib.hid hyl
    have hsz := hbel.size
    clear hys hrow hyl
    by_cases hlt : k < n
    case neg =>
      obtain rfl : k = n := by omega
      have HE := Lib.hid (show CX = ys by rw [HCX.out, ← HYS.out, List.take_of_length_le (by rw [HN.out]; exact Nat.le_refl _)])
      go_wp2_with fail
      go_ret
      exact ⟨_, rfl, by rw [HE.out, HE0.out]; exact HRW.out, hbel⟩
    case pos =>
      obtain ⟨bh, oh, rfl, hbn, hbh, q0, q1⟩ := HNE.out k hlt
      have q0 := (World.cell?_of_block (w := w1) (hgr1.block bh hbh (fun e => hbn (Option.some.inj e)))).trans q0
      have q1 := (World.cell?_of_block (w := w1) (hgr1.block bh hbh (fun e => hbn (Option.some.inj e)))).trans q1
      have CT := HTM.out k hlt
      have HS := HTK.out k hlt
      generalize H.getD k default = T at q0 q1 CT HS
      rw [HYS.out] at HS
      obtain ⟨PZ, hPZ⟩ : ∃ z, posF T P = z := ⟨_, rfl⟩
      rw [hPZ] at CT HS
      have CT := Lib.hid CT; have HS := Lib.hid HS
      clear hPZ
      obtain ⟨tx, ty⟩ := T
      simp only at q0 q1 CT
      have x1 : (0 : Int) ≤ (k : Int) := by omega
      have x2 : (k : Int) < (n : Int) := by omega
      have hbP := bal_alloc (o := .cells #[.int .i64 tx, .int .i64 ty] 66) hbel
      have HRA := Lib.hid (HRW.out.below ((Below.refl wE.heap.size wE).alloc (Nat.le_refl _) (.cells #[.int .i64 tx, .int .i64 ty] 66)))
      go_wp2_with fail
      refine (CT.out _ hbP).mono ?_
      rintro e w3 ⟨rfl, hw3⟩
      have hbX := ball hbP hw3
      have hbX2 := hbX.size
      have hE3 : E0 < w3.heap.size := Nat.lt_of_lt_of_le hE2 (by have := hw3.size; simp at this; omega)
      have hwA : Below wE.heap.size wE w3 := ball (bal_alloc (o := .cells #[.int .i64 tx, .int .i64 ty] 66) (Below.refl _ _)) hw3
      have HRC := Lib.hid (HRA.out.below hw3)
      clear HRA CT q0 q1 hbP hw3
      go_wp2_with (at_builtin; refine wpList_appB rfl _ _ rfl E0 _ 0 1 _ ys [(PZ : Int)] (k + 1) (by rw [HYL.out]; rfl) rfl rfl (HRC.out.below ((Below.refl _ _).alloc (Nat.le_refl _) _)) (rdI_one _ _ _ rfl) (by rw [HYL.out]; omega) (by simp) (by simp; omega) ?_; intro v5 wm hown hsh hbm hgr hloc)
      have hb3 := (bal_alloc (o := .cells #[.int .i64 (PZ : Int)] 3) hbX).trans (by rw [HE0.out]; exact hbm)
      have hwB : Below wE.heap.size wE (w3.alloc (.cells #[.int .i64 (PZ : Int)] 3)) := bal_alloc hwA
      have hsB := hwB.size
      have hs1 := hgr1.size
      have hg3 : w1.grownBy (w3.alloc (.cells #[.int .i64 (PZ : Int)] 3)) (some E0) := hgr1.andThen ⟨hwB.os, hwB.tape, hwB.output, hwB.size, fun i hi _ => hwB.block i hi⟩ (row' := none) (fun j hj => by cases hj)
      have hg4 : w1.grownBy wm (some E0) := hg3.andThen hgr (fun j hj => by
        rcases HOW.out j hj with h | h
        · exact Or.inr (by rw [h])
        · exact Or.inl h)
      have HLO := Lib.hid (show ∀ q, v5.ownBlock = some q → q = E0 ∨ w1.heap.size ≤ q from fun q hq => by
        rcases hloc with h | h
        · exact HOW.out q (h.symm.trans hq)
        · rw [h] at hq; injection hq with hq; omega)
      have HO5 := Lib.hid hown; clear hown hsh hgr hbm hloc hg3 hwA hwB
      go_wp2_with fail
      go_roundw
      case rel => exact ⟨k + 1, ys ++ [(PZ : Int)], by omega, by go_num, HS.out, by rw [List.length_append, HYL.out]; rfl, HO5.out, hb3, hg4, HLO.out⟩
      case measure => simp [intOf]; omega
end Go.Proofs.YtcionneopgdebaaGreat
