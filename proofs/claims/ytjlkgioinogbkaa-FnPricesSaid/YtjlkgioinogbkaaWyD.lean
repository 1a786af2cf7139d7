/-
  Some texts of this proof in one: WyD All WyE. Each part tells what it proves. By an AI agent.
-/
import Derived.Test.YtjlkgioinogbkaaWyC
import Derived.Test.YtjlkgioinogbkaaRowI
import Derived.Maps.AppendAt

/-
  Costs of cheapest ways that are numbers: program and reference. By an AI agent.
-/
namespace Go.Proofs.Ytjlkgioinogbkaa
open Go.RowKit

def nmB (M : List (List Int)) : Bool := M.all fun r => r.all numB
def disM (M : List (List Int)) : List (List Int) := toM M.length (bf M.length (entM M) M.length)
def okW (M : List (List Int)) : Bool := sqB M && okB M.length (entM M)
def cosB (M : List (List Int)) : Bool := okW M && nmB (disM M)
def onM (B : Bool) (X : List (List Int)) : List (List Int) := if B = true then X else []
def ManR (B : Bool) (X : List (List Int)) (w : World) (e : Ending) (w' : World) : Prop := ∃ ad cap, e = .returned (.tuple #[.slice ad (onM B X).length cap, .bool B]) ∧ RdM w' ad (onM B X) ∧ Below w.heap.size w w'
theorem ManR.no {w w' : World} (X : List (List Int)) (hb : Below w.heap.size w w') : ManR false X w (.returned (.tuple #[.slice none 0 0, .bool false])) w' := ⟨none, 0, rfl, RdM.nil _ _, hb⟩
theorem ManR.yes {w w' : World} {ad : Option Addr} {cap n : Nat} {X : List (List Int)} (h : RdM w' ad X) (hn : X.length = n) (hb : Below w.heap.size w w') : ManR true X w (.returned (.tuple #[.slice ad n cap, .bool true])) w' := by
  subst hn
  exact ⟨ad, cap, rfl, h, hb⟩
theorem toM_inj {n : Nat} {F G : Nat → Nat → Int} : toM n F = toM n G ↔ ∀ i j, i < n → j < n → F i j = G i j := by
  constructor
  · intro h i j hi hj
    have h1 := congrArg (fun M => (M.getD i []).getD j 0) h
    rw [toM_row F hi, toM_row G hi, tab_getD hj, tab_getD hj] at h1
    exact h1
  · exact toM_congr
theorem okB_t {n : Nat} {m : Nat → Nat → Int} : okB n m = true ↔ ∀ i k, i < n → k < n → bf n m n i k = bf n m (n + 1) i k := by
  unfold okB
  rw [decide_eq_true_iff, toM_inj]
theorem ok_same {n : Nat} {m : Nat → Nat → Int} (hm : ∀ a b, a < n → b < n → numB (m a b) = true) (hn6 : n ≤ 6) : okF n (fwK n (fw0 m) n) = okB n m := by
  rw [Bool.eq_iff_iff, okF_t, okB_t]
  exact ways_ok hm hn6
theorem dis_same {n : Nat} {m : Nat → Nat → Int} (hm : ∀ a b, a < n → b < n → numB (m a b) = true) (hn6 : n ≤ 6) (hok : okB n m = true) : toM n (fwK n (fw0 m) n) = toM n (bf n m n) :=
  toM_congr fun i j hi hj => ways_eq hm hn6 (okF_t.1 (by rw [ok_same hm hn6]; exact hok)) hi hj

theorem wyCosts2_c (ad : Option Addr) (cap : Nat) (M : List (List Int)) (w : World) (hr : RdM w ad M) (hs : sqB M = true) :
    Calls Try.prog 52 #[.slice ad M.length cap] w fun e w' => ∃ adv cav, e = .returned (.tuple #[.slice adv M.length cav, .bool (okW M)]) ∧ (∃ vs, MatO w' w.heap.size (.slice adv M.length cav) (disM M) vs) ∧ Below w.heap.size w w' := by
  obtain ⟨hn, hrow, hnum⟩ := sq_facts hs
  have h := wyCosts_c M.length ad cap (entM M) w (by rw [sq_toM hs]; exact hr) hn hnum
  rw [show okW M = okB M.length (entM M) by unfold okW; rw [hs, Bool.true_and]]
  exact h
theorem dis_len (M : List (List Int)) : (disM M).length = M.length := toM_len _ _
theorem dis_row (M : List (List Int)) {i : Nat} (h : i < M.length) : ((disM M).getD i []).length = M.length := by unfold disM; rw [toM_row _ h, tab_length]
def smM (M : List (List Int)) : Prop := M.length ≤ 100000 ∧ ∀ i, i < M.length → (M.getD i []).length ≤ 100000

end Go.Proofs.Ytjlkgioinogbkaa

/-
  Whether all numbers of a list lie in a range: the reference's.
-/
namespace Go.Proofs.Ytjlkgioinogbkaa
open Go.RowKit

def allB (l : List Int) (lo hi : Int) : Bool := l.all fun x => inB x lo hi
theorem allB_t {l : List Int} {lo hi : Int} : allB l lo hi = true ↔ ∀ j, j < l.length → lo ≤ l.getD j 0 ∧ l.getD j 0 ≤ hi := by
  unfold allB
  rw [List.all_eq_true]
  constructor
  · intro h j hj
    have := h (l.getD j 0) (by simp [List.getD, hj])
    exact inB_t.1 this
  · intro h x hx
    obtain ⟨j, hj, rfl⟩ := List.getElem_of_mem hx
    have := h j hj
    rw [inB_t]
    simpa [List.getD, hj] using this
theorem allB_f {l : List Int} {lo hi : Int} {j : Nat} (hj : j < l.length) (h : inB (l.getD j 0) lo hi = false) : allB l lo hi = false := by
  unfold allB
  rw [List.all_eq_false]
  exact ⟨l.getD j 0, by simp [List.getD, hj], by simpa using h⟩

set_option maxHeartbeats 400000 in
theorem l1All_any (ad : Option Addr) (cap : Nat) (xs : List Int) (lo hi : Int) (w : World) (hl : xs.length ≤ 1048576) (hr : RdI w ad xs) :
    Calls Try.prog 27 #[.slice ad xs.length cap, .int .i64 lo, .int .i64 hi] w fun e w' => e = .returned (.bool (allB xs lo hi)) ∧ w = w' := by
  have HR := Lib.hid hr; clear hr
  go_enter Try.func27, Try.ntmps27
  go_wp2
  go_loop [11] (fun i => ∃ k : Nat, k ≤ xs.length ∧ i = .int .i64 k ∧ ∀ j, j < k → lo ≤ xs.getD j 0 ∧ xs.getD j 0 ≤ hi) (fun i => xs.length - (intOf i).toNat)
  case atStart => exact ⟨0, Nat.zero_le _, rfl, fun j hj => by omega⟩
  case round =>
    obtain ⟨k, hk, rfl, hj⟩ := hrel
    have HJ := Lib.hid hj; clear hj
    by_cases hlt : k < xs.length
    · obtain ⟨b, off, rfl, hb, c⟩ := HR.out k hlt
      generalize hx : xs.getD k 0 = x at c
      have HX := Lib.hid hx; clear hx
      by_cases h1 : inB x lo hi = true
      · go_wp2_with (go_at_call 54; refine (l1In_any _ _ _ _).mono ?_; rintro e w' ⟨rfl, rfl⟩)
        go_round
        case rel =>
          refine ⟨k + 1, by omega, by go_num, fun j hj => ?_⟩
          by_cases e : j = k
          · subst e; rw [HX.out]; exact inB_t.1 h1
          · exact HJ.out j (by omega)
        case measure => simp [intOf]; omega
      · have h1' := Bool.eq_false_iff.2 h1
        go_wp2_with (go_at_call 54; refine (l1In_any _ _ _ _).mono ?_; rintro e w' ⟨rfl, rfl⟩)
        go_ret
        exact ⟨ret_bool (allB_f hlt (by rw [HX.out]; exact h1')).symm, rfl⟩
    · have he : k = xs.length := by omega
      subst he
      go_wp2
      go_ret
      exact ⟨ret_bool (allB_t.2 HJ.out).symm, rfl⟩

end Go.Proofs.Ytjlkgioinogbkaa

/-
  The transposed matrix; potentials: program and reference. By an AI agent.
-/
namespace Go.Proofs.Ytjlkgioinogbkaa
open Go.RowKit

/-- append of numbers in the list of a plain region, with the block of what comes. -/
theorem wpList_appT {w : World} {ops : Array Oper} {rest : List Oper} {o : Oper} {a : Act} {Q : Exit → Act → World → Prop} (hgd : o.guard = none) (s x : Operand)
    (ho : o.op = .call { callee := .builtin .append, args := #[s, x], argTypes := #[26, 26] })
    (B b off c N : Nat) (v : Value) (l m : List Int) (hN : l.length + m.length = N) (h0 : 0 < N) (hs : a.eval s = v) (hx : a.eval x = .slice (some ⟨b, off, none⟩) m.length c) (hown : RowI w B v l) (hX : RdI w (some ⟨b, off, none⟩) m) (hl : l.length ≤ 100000) (hm : m.length ≤ 100000) (hB : B ≤ w.heap.size)
    (h : ∀ g' cap' w', RowI w' B (.slice (some ⟨g', 0, none⟩) N cap') (l ++ m) → w.grownBy w' v.ownBlock → (some g' = v.ownBlock ∨ some g' = some w.heap.size) → Below B w w' → wpList Try.prog ops Q rest (a.put o.dst (.slice (some ⟨g', 0, none⟩) N cap')) w') : wpList Try.prog ops Q (o :: rest) a w := by
  refine wpList_plain hgd fun _ hK => ?_
  obtain ⟨iP, hiP, hzP, hsP, hbP⟩ := info_parts Try.infoI
  obtain ⟨v', w', hr, h2, h3, _, h5⟩ := run_append_own_at (P := Try.prog) w B 26 o.type 3 iP _ 1 8 Try.underlying26 hiP hzP hsP hbP rfl (by omega) v l.length (ints l) hown ⟨b, off, none⟩ m.length c (ints m) (by rw [ints_length]; omega) (fun j u hu => by
    have hj : j < m.length := by
      have := (List.getElem?_eq_some_iff.1 hu).1
      rwa [ints_length] at this
    rw [addr_plain, hX.at hj]
    rw [ints_get hj] at hu
    exact hu) (ints_oneCell m) (by unfold maxLen; omega) (by omega) hB
  have hrow : RowI w' B v' (l ++ m) := row_congr h2 (by simp) (by simp [ints])
  have hbl := (Below.refl B w).grown h3 hB (fun q e => (World.ownsRow.lt hown q e).1)
  unfold Oper.wp execOp
  simp only [ho, resolve, invoke, builtin, Sem.run_bind, Sem.run_pure, Result.andThen_ok, List.map_toArray, List.map_cons, List.map_nil, hs, hx, hr]
  rcases Own.of_row hrow with ⟨_, h1, _⟩ | ⟨g, cap, h1, hg, _⟩
  · rw [List.length_append] at h1; omega
  · rw [List.length_append, hN] at h1
    subst h1
    exact hK _ _ (h g cap w' hrow h3 h5 hbl)
theorem RowI.of_block {w w' : World} {B : Nat} {v : Value} {l : List Int} (h : RowI w B v l) (e : ∀ q, v.ownBlock = some q → w'.heap[q]? = w.heap[q]?) : RowI w' B v l := by
  refine ⟨h.1, ?_⟩
  rcases h.2 with hn | ⟨g, cap, cur, rfl, hb, hgg, rest⟩
  · exact .inl hn
  · exact .inr ⟨g, cap, cur, rfl, hb, by rw [e g rfl]; exact hgg, rest⟩
/-- Rows that grow in their places. -/
structure TrO (w : World) (B g n : Nat) (R : Nat → List Int) (vs : List Value) : Prop where
  hB : B ≤ g
  out : Own w g 26 vs
  len : vs.length = n
  each : ∀ i, i < n → RowI w B (vs.getD i undef) (R i)
  apart : ∀ i j, i < n → j < n → i ≠ j → ∀ q, (vs.getD i undef).ownBlock = some q → (vs.getD j undef).ownBlock ≠ some q
theorem TrO.below {w w' : World} {B g n : Nat} {R : Nat → List Int} {vs : List Value} (h : TrO w B g n R vs) (hb : Below w.heap.size w w') : TrO w' B g n R vs :=
  ⟨h.hB, h.out.belowAll hb, h.len, fun i hi => (h.each i hi).below hb, h.apart⟩
theorem TrO.congr {w : World} {B g n : Nat} {R R' : Nat → List Int} {vs : List Value} (h : TrO w B g n R vs) (e : ∀ i, i < n → R i = R' i) : TrO w B g n R' vs :=
  ⟨h.hB, h.out, h.len, fun i hi => by rw [← e i hi]; exact h.each i hi, h.apart⟩
theorem TrO.start (w : World) (n : Nat) (c : Array Value) (h : c.toList = List.replicate n (.slice none 0 0)) : TrO (w.alloc (.cells c 26)) w.heap.size w.heap.size n (fun _ => []) (List.replicate n (.slice none 0 0)) := by
  have e : ∀ i, i < n → (List.replicate n (Value.slice none 0 0)).getD i undef = .slice none 0 0 := fun i hi => by simp [List.getD, hi]
  exact ⟨Nat.le_refl _, Own.newA w c _ h, by simp, fun i hi => by rw [e i hi]; exact RowI.nil _ _, fun i j hi _ _ q hq => by rw [e i hi] at hq; cases hq⟩
theorem TrO.step {w w' : World} {B g n k : Nat} {R : Nat → List Int} {vs : List Value} {u : Value} {x : Int} (h : TrO w B g n R vs) (hk : k < n) (hu : RowI w' B u (R k ++ [x])) (hg : w.grownBy w' (vs.getD k undef).ownBlock)
    (hb : u.ownBlock = (vs.getD k undef).ownBlock ∨ u.ownBlock = some w.heap.size) : TrO (w'.setCell ⟨g, k, none⟩ u) B g n (fun i => if i = k then R k ++ [x] else R i) (vs.set k u) := by
  have hne : ∀ {i}, i < n → (vs.getD i undef).ownBlock ≠ some g := fun {i} hi => row_ne_ty (h.each i hi) h.out (by decide)
  have ho' : Own w' g 26 vs := h.out.grown hg (hne hk)
  have hl := h.len
  have hlow : ∀ {i q}, i < n → (vs.getD i undef).ownBlock = some q → q < w.heap.size := fun {i q} hi hq => (World.ownsRow.lt (h.each i hi) q hq).2
  have eS : (vs.set k u).getD k undef = u := by simp [List.getD_eq_getElem?_getD, hl, hk]
  have eO : ∀ {i}, i ≠ k → (vs.set k u).getD i undef = vs.getD i undef := fun {i} hi => by rw [List.getD_eq_getElem?_getD, List.getElem?_set_ne (by omega), ← List.getD_eq_getElem?_getD]
  refine ⟨h.hB, ho'.set k u, by rw [List.length_set]; exact hl, fun i hi => ?_, fun i j hi hj hij q => ?_⟩
  · by_cases e : i = k
    · subst e
      rw [eS]
      simp only [if_pos]
      exact ownsRow_setCell_other hu (row_ne_ty hu ho' (by decide)) _
    · rw [eO e]
      simp only [if_neg e]
      have h1 : RowI w' B (vs.getD i undef) (R i) := (h.each i hi).of_block fun q hq => hg.block q (hlow hi hq) fun e2 => h.apart i k hi hk e q hq e2.symm
      exact ownsRow_setCell_other h1 (hne hi) _
  · by_cases e : i = k
    · subst e
      rw [eS, eO (by omega)]
      intro h1 h2
      rcases hb with hb | hb
      · rw [hb] at h1; exact h.apart i j hi hj hij q h1 h2
      · rw [hb] at h1
        cases h1
        exact absurd (hlow hj h2) (Nat.lt_irrefl _)
    · by_cases e' : j = k
      · subst e'
        rw [eS, eO e]
        intro h1 h2
        rcases hb with hb | hb
        · rw [hb] at h2; exact h.apart i j hi hj hij q h1 h2
        · rw [hb] at h2
          cases h2
          exact absurd (hlow hi h1) (Nat.lt_irrefl _)
      · rw [eO e, eO e']
        exact h.apart i j hi hj hij q
theorem TrO.low {w : World} {B g n : Nat} {R : Nat → List Int} {vs : List Value} (h : TrO w B g n R vs) : g < w.heap.size ∧ ∀ i q, i < n → (vs.getD i undef).ownBlock = some q → q < w.heap.size :=
  ⟨h.out.lt, fun i q hi hq => (World.ownsRow.lt (h.each i hi) q hq).2⟩
theorem TrO.grown {w w' : World} {B g n K : Nat} {row : Option Nat} {R : Nat → List Int} {vs : List Value} (h : TrO w B g n R vs) (hK : g < K ∧ ∀ i q, i < n → (vs.getD i undef).ownBlock = some q → q < K) (hg : w.grownBy w' row) (hne : ∀ q, row = some q → q < B ∨ K ≤ q) : TrO w' B g n R vs := by
  have hl := h.low
  refine ⟨h.hB, h.out.of_block (hg.block g hl.1 fun e => ?_), h.len, fun i hi => (h.each i hi).of_block fun q hq => hg.block q (hl.2 i q hi hq) fun e => ?_, h.apart⟩
  · have := hne g e.symm
    have := h.hB
    omega
  · have := hne q e.symm
    have := hK.2 i q hi hq
    have := (World.ownsRow.lt (h.each i hi) q hq).1
    omega
theorem TrO.rd {w : World} {B g n : Nat} {F : Nat → Nat → Int} {vs : List Value} (h : TrO w B g n (fun i => tab n (F i)) vs) (h0 : 0 < n) : RdM w (some ⟨g, 0, none⟩) (toM n F) := by
  intro i hi
  rw [toM_len] at hi
  have hrow := h.each i hi
  obtain ⟨gr, cr, e, _⟩ := hrow.shp (by rw [tab_length]; exact h0)
  have hc : w.cell? ⟨g, i, none⟩ = some (vs.getD i undef) := h.out.cell? (by simp [List.getD, h.len, hi])
  rw [e] at hc hrow
  obtain ⟨_, _, e2, hrd⟩ := hrow.shape
  injection e2 with e2 _ _
  subst e2
  exact ⟨g, 0, _, cr, rfl, h.out.lt, by rw [Nat.zero_add, toM_row F hi]; exact hc, by rw [toM_row F hi]; exact hrd⟩

/-- Rows of the transposed: i rows and j numbers of the next one are done. -/
def trR (F : Nat → Nat → Int) (i j k : Nat) : List Int := tab (if k < j then i + 1 else i) fun a => F a k
theorem trR_next (F : Nat → Nat → Int) (i j k : Nat) : (if k = j then trR F i j j ++ [F i j] else trR F i j k) = trR F i (j + 1) k := by
  unfold trR
  by_cases h : k = j
  · subst h
    rw [if_pos rfl, if_neg (by omega), if_pos (by omega)]
    unfold tab
    rw [List.range_succ, List.map_append]
    rfl
  · rw [if_neg h]
    by_cases h2 : k < j
    · rw [if_pos h2, if_pos (by omega)]
    · rw [if_neg h2, if_neg (by omega)]
set_option maxHeartbeats 800000 in
theorem toldList_c (ad : Option Addr) (cap : Nat) (r : List Int) (w : World) (hr : RdI w ad r) (hl : r.length ≤ 1048576) :
    Calls Try.prog 23 #[.slice ad r.length cap] w fun e w' => e = .returned (.tuple #[if r.all numB = true then .slice ad r.length cap else .slice none 0 0, .bool (r.all numB)]) ∧ w = w' := by
  have C1 := Lib.hid (areNumbers_c ad cap r w hr hl)
  clear hr hl
  generalize r.all numB = V at C1 ⊢
  generalize r.length = n at C1 ⊢
  cases V
  · go_enter Try.func23, Try.ntmps23
    go_wp2_with fail
    refine C1.out.mono ?_
    rintro e w1 ⟨rfl, rfl⟩
    go_wp2_with fail
    exact bodyPost_ret (v := .tuple #[.slice none 0 0, .bool false]) (by simp [results, Try.results23, go_sem]) rfl ⟨rfl, rfl⟩
  · go_enter Try.func23, Try.ntmps23
    go_wp2_with fail
    refine C1.out.mono ?_
    rintro e w1 ⟨rfl, rfl⟩
    go_wp2_with fail
    exact bodyPost_ret (v := .tuple #[.slice ad n cap, .bool true]) (by simp [results, Try.results23, go_sem]) rfl ⟨rfl, rfl⟩

end Go.Proofs.Ytjlkgioinogbkaa
