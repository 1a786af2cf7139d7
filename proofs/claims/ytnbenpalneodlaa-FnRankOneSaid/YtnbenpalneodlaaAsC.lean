/-
  Some texts of this proof in one: AsC RkP. Each part tells what it proves. By an AI agent.
-/
import Derived.Test.YtnbenpalneodlaaAsB
import Derived.Test.YtnbenpalneodlaaWyG

/-
  The first best assignment: the program's. By an AI agent.
-/
namespace Go.Proofs.Ytnbenpalneodlaa
open Go.RowKit

set_option maxHeartbeats 1600000 in
set_option maxRecDepth 100000 in
theorem costOf_c (n : Nat) (ad : Option Addr) (cap : Nat) (m : Nat → Nat → Int) (adw : Option Addr) (capw : Nat) (l : List Int) (w : World) (hr : RdM w ad (toM n m)) (hw : RdI w adw l) (hn : 1 ≤ n ∧ n ≤ 6) (hl : l.length = n) (hv : vtB n l = true) (hnum : ∀ a b, a < n → b < n → numB (m a b) = true) :
    Calls Try.prog 80 #[.slice ad n cap, .slice adw n capw] w fun e w' => e = .returned (.int .i64 (costP m l)) ∧ Below w.heap.size w w' := by
  have HBD := Lib.hid (cs_bd hnum hv (by omega) (by omega))
  have HVT := Lib.hid (fun t (ht : t < n) => vt_at hv (t := t) (by omega))
  have HR := Lib.hid hr; have HP := Lib.hid hw; have HNUM := Lib.hid hnum
  have HS := Lib.hid (fun t => show csF m l (t + 1) = prodZ (csF m l t) (m t (vx l t)) from rfl)
  have HN := Lib.hid hl
  have hcp : costP m l = csF m l n := by unfold costP; rw [hl]
  rw [hcp]
  clear hr hw hv hnum hl hcp
  go_enter Try.func80, Try.ntmps80
  go_wp2_with fail
  go_loopw [5, 10] (fun v i wr => ∃ s : Nat, s ≤ n ∧ i = .int .i64 s ∧ v = .int .i64 (csF m l s) ∧ Below w.heap.size w wr) (fun _ i _ => n - (intOf i).toNat)
  case atStart => exact ⟨0, Nat.zero_le _, rfl, rfl, Below.refl _ _⟩
  case round =>
    obtain ⟨wE, rfl⟩ : ∃ x : World, x = wr := ⟨_, rfl⟩
    obtain ⟨s, hs, rfl, rfl, hbel⟩ := hrel
    by_cases hls : s < n
    case neg =>
      obtain rfl : s = n := by omega
      go_wp2_with fail
      go_ret
      exact ⟨rfl, hbel⟩
    case pos =>
      have hco := HS.out s
      obtain ⟨v1, u1⟩ := HVT.out s hls
      obtain ⟨bp, op, rfl, hbp, q1⟩ := HP.out s (by have := HN.out; omega)
      rw [v1] at q1
      have q1 := bcell hbel hbp q1
      have hm := numB_t (HNUM.out _ _ hls u1)
      have hbd := HBD.out s (by have := HN.out; omega)
      obtain ⟨bM, oM, rfl, hbM, hrow⟩ := HR.out.rowF (by omega)
      obtain ⟨b2, o2, c2, e2, hl2, hc2⟩ := hrow _ hls
      have e2 := bcell hbel hbM e2
      have k1 := bcell hbel hl2 (hc2 _ u1)
      clear hrow hc2 v1
      generalize csF m l s = C at hbd hco ⊢
      generalize vx l s = a at q1 u1 k1 hco hm
      generalize m s a = D at k1 hco hm
      have x1 : (0 : Int) ≤ (s : Int) := by omega
      have x2 : (s : Int) < (n : Int) := by omega
      have x5 : (0 : Int) ≤ (a : Int) := by omega
      have x6 : (a : Int) < (n : Int) := by omega
      have CP := Lib.hid (fun w => product_c C D w (by omega))
      have HCO := Lib.hid hco
      generalize prodZ C D = P at CP HCO
      clear hco hbd hm
      go_wp2_with fail
      refine (CP.out _).mono ?_
      rintro e w1 ⟨rfl, rfl⟩
      go_wp2_with fail
      go_roundw
      case rel => exact ⟨s + 1, by omega, by go_num, by rw [HCO.out], hbel⟩
      case measure => simp [intOf]; omega
def fpA (T : Nat) (vb : Value) (q : Nat) : Prop := q = T ∨ vb.ownBlock = some q
def bsB (M : List (List Int)) : Bool := sqB M && !decide ((bstA M.length (entM M)).2 = [])
def bsR (M : List (List Int)) (w : World) (e : Ending) (w' : World) : Prop := (∃ c av lv cv, e = .returned (.tuple #[.agg #[.int .i64 c, .slice av lv cv], .bool (bsB M)]) ∧ (bsB M = true → c = (bstA M.length (entM M)).1 ∧ ∃ g, av = some ⟨g, 0, none⟩ ∧ lv = M.length ∧ RdI w' (some ⟨g, 0, none⟩) (bstA M.length (entM M)).2)) ∧ Below w.heap.size w w'

end Go.Proofs.Ytnbenpalneodlaa

/-
  Permanents that are counted, choices of rows and columns: plain. By an AI agent.
-/
namespace Go.Proofs.Ytnbenpalneodlaa
open Go.RowKit

/-! ### the least of costs and how often it is reached -/
def bwF (s : Int × Nat) (x : Int) : Int × Nat := if x < s.1 then (x, 1) else if x = s.1 then (s.1, s.2 + 1) else s
def bwW (s t : Int × Nat) : Int × Nat := if t.1 < s.1 then t else if t.1 = s.1 then (s.1, s.2 + t.2) else s
def pmT (L : List Int) : Int × Nat := L.foldl bwF (1000000000, 0)
theorem bwF_le (s : Int × Nat) (x : Int) : (bwF s x).1 ≤ s.1 := by
  unfold bwF
  split
  · exact Int.le_of_lt (by assumption)
  · split <;> exact Int.le_refl _
theorem bwF_fold_le : ∀ (L : List Int) (s : Int × Nat), (L.foldl bwF s).1 ≤ s.1
  | [], _ => Int.le_refl _
  | x :: L, s => Int.le_trans (bwF_fold_le L _) (bwF_le s x)
theorem bwF_fold_cnt : ∀ (L : List Int) (s : Int × Nat), (L.foldl bwF s).2 ≤ s.2 + L.length
  | [], s => by simp
  | x :: L, s => by
    have h1 := bwF_fold_cnt L (bwF s x)
    have h2 : (bwF s x).2 ≤ s.2 + 1 := by
      unfold bwF
      split
      · simp
      · split <;> simp
    simp only [List.foldl_cons, List.length_cons]
    omega
theorem bwF_fold : ∀ (L : List Int) (s : Int × Nat), (∀ x ∈ L, x ≤ 1000000000) → s.1 ≤ 1000000000 → L.foldl bwF s = bwW s (pmT L)
  | [], s, _, h => by
    show s = bwW s (1000000000, 0)
    unfold bwW
    by_cases e : (1000000000 : Int) = s.1
    · rw [if_neg (by simp only; omega), if_pos e]; rfl
    · rw [if_neg (by simp only; omega), if_neg e]
  | x :: L, s, hL, h => by
    have hx := hL x (by simp)
    have h1 := bwF_fold L (bwF s x) (fun y hy => hL y (List.mem_cons_of_mem _ hy)) (Int.le_trans (bwF_le s x) h)
    have h2 := bwF_fold L (bwF (1000000000, 0) x) (fun y hy => hL y (List.mem_cons_of_mem _ hy)) (bwF_le _ _)
    have h3 : bwF (1000000000, 0) x = (x, 1) := by
      unfold bwF
      by_cases e : x < 1000000000
      · rw [if_pos e]
      · rw [if_neg e, if_pos (show x = 1000000000 by omega)]
        simp only
        rw [show x = 1000000000 by omega]
    rw [List.foldl_cons, h1]
    unfold pmT at h2 ⊢
    rw [List.foldl_cons, h2, h3]
    generalize L.foldl bwF (1000000000, 0) = t
    obtain ⟨a, p⟩ := s
    obtain ⟨b, q⟩ := t
    simp only at hx h
    grind [bwW, bwF]
theorem pmT_app {L M : List Int} (hM : ∀ x ∈ M, x ≤ 1000000000) : pmT (L ++ M) = bwW (pmT L) (pmT M) := by
  unfold pmT
  rw [List.foldl_append]
  exact bwF_fold M _ hM (bwF_fold_le L _)
/-- the permanent, and in how many ways it is reached. -/
def prmM (n : Nat) (m : Nat → Nat → Int) : Int × Nat := pmT ((prmA n).map (costP m))
def regF (n : Nat) (m : Nat → Nat → Int) : Bool := decide ((prmM n m).1 ≠ 1000000000) && decide ((prmM n m).2 = 1)
theorem prmM_fold (n : Nat) (m : Nat → Nat → Int) : prmM n m = (prmA n).foldl (fun s c => bwF s (costP m c)) (1000000000, 0) := by
  unfold prmM pmT
  rw [List.foldl_map]

/-! ### choices -/
structure Chs (N : Nat) (l : List Int) (s : Nat) : Prop where
  vt : vtB N l = true
  inc : ∀ i j, i < j → j < l.length → vx l i < vx l j
  lt : ∀ i, i < l.length → vx l i < s
theorem Chs.nil (N : Nat) : Chs N [] 0 := ⟨rfl, fun i j _ h => by simp at h, fun i h => by simp at h⟩
theorem Chs.ext {N : Nat} {l : List Int} {s k : Nat} (h : Chs N l s) (hs : s ≤ k) (hk : k < N) : Chs N (l ++ [(k : Int)]) (k + 1) := by
  have e1 : ∀ i, i < l.length → vx (l ++ [(k : Int)]) i = vx l i := fun i hi => vxA_lt (k : Int) hi
  have e2 : vx (l ++ [(k : Int)]) l.length = k := vxA_eq l k
  refine ⟨?_, fun i j hij hj => ?_, fun i hi => ?_⟩
  · unfold vtB
    refine allB_t.2 fun t ht => ?_
    rw [List.length_append, List.length_singleton] at ht
    by_cases e : t < l.length
    · rw [List.getD_eq_getElem?_getD, List.getElem?_append_left e, ← List.getD_eq_getElem?_getD]
      exact allB_t.1 h.vt t e
    · obtain rfl : t = l.length := by omega
      simp [List.getD_eq_getElem?_getD]
      omega
  · rw [List.length_append, List.length_singleton] at hj
    by_cases e : j < l.length
    · rw [e1 i (by omega), e1 j e]; exact h.inc i j hij e
    · obtain rfl : j = l.length := by omega
      rw [e1 i hij, e2]
      have := h.lt i hij
      omega
  · rw [List.length_append, List.length_singleton] at hi
    by_cases e : i < l.length
    · rw [e1 i e]; have := h.lt i e; omega
    · obtain rfl : i = l.length := by omega
      rw [e2]; omega
theorem Chs.mono {N : Nat} {l : List Int} {s t : Nat} (h : Chs N l s) (hs : s ≤ t) : Chs N l t := ⟨h.vt, h.inc, fun i hi => by have := h.lt i hi; omega⟩
/-- the choices that begin with some numbers, in order. -/
def cqP (N k : Nat) : Nat → List Int → Nat → List (List Int)
  | 0, l, _ => if l.length = k then [l] else []
  | f + 1, l, s => if l.length = k then [l] else (List.range (N - s)).flatMap fun t => cqP N k f (l ++ [((s + t : Nat) : Int)]) (s + t + 1)
def cqT (N k f : Nat) (l : List Int) (s j : Nat) : List (List Int) := (List.range j).flatMap fun t => cqP N k f (l ++ [((s + t : Nat) : Int)]) (s + t + 1)
theorem cqT_succ (N k f : Nat) (l : List Int) (s j : Nat) : cqT N k f l s (j + 1) = cqT N k f l s j ++ cqP N k f (l ++ [((s + j : Nat) : Int)]) (s + j + 1) := by
  unfold cqT
  rw [List.range_succ, List.flatMap_append]
  simp
theorem cqP_full {N k f : Nat} {l : List Int} {s : Nat} (h : l.length = k) : cqP N k f l s = [l] := by
  cases f <;> (unfold cqP; rw [if_pos h])
theorem cqP_step {N k f : Nat} {l : List Int} {s : Nat} (h : l.length ≠ k) (hf : k ≤ l.length + f) (hl : l.length ≤ k) : cqP N k f l s = cqT N k (f - 1) l s (N - s) := by
  cases f with
  | zero => omega
  | succ f => unfold cqP; rw [if_neg h]; rfl
/-- which lists they are. -/
theorem cqP_mem {N k : Nat} : ∀ (f : Nat) {l c : List Int} {s : Nat}, Chs N l s → s ≤ N → l.length ≤ k → k ≤ l.length + f → (c ∈ cqP N k f l s ↔ c.length = k ∧ Chs N c N ∧ (∃ r, c = l ++ r) ∧ ∀ i, l.length ≤ i → i < k → s ≤ vx c i)
  | f, l, c, s, hl, hsN, h1, h2 => by
    by_cases e : l.length = k
    · rw [cqP_full e, List.mem_singleton]
      constructor
      · rintro rfl
        exact ⟨e, hl.mono hsN, ⟨[], by simp⟩, fun i hi hi2 => by omega⟩
      · rintro ⟨g1, _, ⟨r, rfl⟩, _⟩
        rw [List.length_append] at g1
        have : r = [] := List.length_eq_zero_iff.1 (by omega)
        rw [this, List.append_nil]
    · cases f with
      | zero => omega
      | succ f =>
        rw [cqP_step e h2 h1]
        unfold cqT
        simp only [Nat.add_sub_cancel, List.mem_flatMap, List.mem_range]
        constructor
        · rintro ⟨t, ht, hc⟩
          have hx := hl.ext (k := s + t) (by omega) (by omega)
          have hxl : (l ++ [((s + t : Nat) : Int)]).length = l.length + 1 := by simp
          obtain ⟨g1, g2, ⟨r, g3⟩, g4⟩ := (cqP_mem f hx (by omega) (by omega) (by omega)).1 hc
          refine ⟨g1, g2, ⟨_, by rw [g3, List.append_assoc]⟩, fun i hi hi2 => ?_⟩
          by_cases ei : i = l.length
          · subst ei
            rw [g3]
            have : vx (l ++ [((s + t : Nat) : Int)] ++ r) l.length = s + t := by
              unfold vx
              rw [List.getD_eq_getElem?_getD, List.getElem?_append_left (by simp), List.getElem?_append_right (Nat.le_refl _), Nat.sub_self]
              simp only [List.getElem?_cons_zero, Option.getD_some]
              omega
            omega
          · have := g4 i (by omega) hi2
            omega
        · rintro ⟨g1, g2, ⟨r, rfl⟩, g4⟩
          rw [List.length_append] at g1
          cases r with
          | nil => simp at g1; omega
          | cons x r =>
            have h3 := vt_at g2.vt (t := l.length) (by simp)
            have h4 : (l ++ x :: r).getD l.length 0 = x := by simp [List.getD_eq_getElem?_getD]
            have h5 : vx (l ++ x :: r) l.length = x.toNat := by unfold vx; rw [h4]
            have h6 := g4 l.length (Nat.le_refl _) (by omega)
            rw [h4, h5] at h3
            rw [h5] at h6
            refine ⟨x.toNat - s, by omega, ?_⟩
            have h7 : ((s + (x.toNat - s) : Nat) : Int) = x := by omega
            have h8 : s + (x.toNat - s) + 1 = x.toNat + 1 := by omega
            rw [h7, h8]
            have hx := hl.ext (k := x.toNat) (by omega) (by omega)
            rw [show ((x.toNat : Nat) : Int) = x by omega] at hx
            simp only [List.length_cons] at g1
            refine (cqP_mem f hx (by omega) (by simp; omega) (by simp; omega)).2 ⟨by simp; omega, g2, ⟨r, by simp⟩, fun i hi hi2 => ?_⟩
            simp only [List.length_append, List.length_singleton] at hi
            have h9 := g2.inc l.length i (by omega) (by simp; omega)
            rw [h5] at h9
            omega
def cqA (N k : Nat) : List (List Int) := cqP N k k [] 0
theorem cqA_mem {N k : Nat} {c : List Int} : c ∈ cqA N k ↔ c.length = k ∧ Chs N c N := by
  unfold cqA
  rw [cqP_mem k (Chs.nil N) (Nat.zero_le _) (Nat.zero_le _) (by simp)]
  exact ⟨fun h => ⟨h.1, h.2.1⟩, fun h => ⟨h.1, h.2, ⟨c, by simp⟩, fun i _ _ => Nat.zero_le _⟩⟩
end Go.Proofs.Ytnbenpalneodlaa
