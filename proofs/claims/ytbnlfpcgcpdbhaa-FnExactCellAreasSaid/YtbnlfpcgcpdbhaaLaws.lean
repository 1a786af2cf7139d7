/-
  Some texts of this proof in one: Laws Good Cur. Each part tells what it proves. By an AI agent.
-/
import Derived.Test.YtbnlfpcgcpdbhaaRows
import Derived.Test.YtbnlfpcgcpdbhaaBase
import Derived.WalkSpells
import Derived.WalkLawsBesides
import Derived.Deep.QuietTactic
import Derived.BigQuiet
import Derived.StillTailTactics

/-
  What the harness's own functions do: sizes, copies, comparisons, marks.
-/
namespace Go.Proofs.Ytbnlfpcgcpdbhaa
open Go.RowKit

theorem Try.infoI : (Try.prog.info? 3).map (fun i => (i.zero, i.size, i.bytes)) = some (some (.int .i64 0), 1, 8) := by kernel_rfl
set_option maxHeartbeats 400000 in
theorem eqIntS_same (ad ad' : Option Addr) (cap cap' : Nat) (xs : List Int) (w : World) (hl : xs.length ≤ 1048576) (hr : RdI w ad xs) (hr' : RdI w ad' xs) :
    Calls Try.prog 12 #[.slice ad xs.length cap, .slice ad' xs.length cap'] w fun e w' => e = .returned (.bool true) ∧ Below w.heap.size w w' := by
  have HR := Lib.hid hr; clear hr
  have HR' := Lib.hid hr'; clear hr'
  go_enter Try.func12, Try.ntmps12
  go_wp2
  go_loopw [5] (fun i wr => ∃ k : Nat, k ≤ xs.length ∧ i = .int .i64 k ∧ Below w.heap.size w wr) (fun i _ => xs.length - (intOf i).toNat)
  case atStart => exact ⟨0, Nat.zero_le _, rfl, Below.refl _ _⟩
  case round =>
    obtain ⟨k, hk, rfl, hbel⟩ := hrel
    by_cases hlt : k < xs.length
    · obtain ⟨b, off, rfl, hb, c⟩ := HR.out k hlt
      obtain ⟨b', off', rfl, hb', c'⟩ := HR'.out k hlt
      have d := bcell hbel hb c
      have d' := bcell hbel hb' c'
      clear c c'
      generalize xs.getD k 0 = x at d d'
      go_wp2_with fail
      go_quiet (fail)
      go_wp2
      go_roundw
      case rel => exact ⟨k + 1, by omega, by go_num, bdrewN hbel _⟩
      case measure => simp [intOf]; omega
    · go_wp2
      go_ret
      exact ⟨rfl, hbel⟩

set_option maxHeartbeats 400000 in
theorem markIntS_own (g cap : Nat) (xs : List Int) (k : Int) (w : World) (hl : xs.length ≤ 1048576) (h0 : 0 ≤ k) (h1 : k ≤ 1099511627776) (ho : Own w g 3 (ints xs)) :
    Calls Try.prog 14 #[.slice (some ⟨g, 0, none⟩) xs.length cap, .int .i64 k] w fun e w' => e = .returned (.int .i64 (k + xs.length)) ∧ Own w' g 3 (ints (tab xs.length fun i => k + i)) ∧ Chg g w w' := by
  have HO := Lib.hid ho; clear ho
  go_enter Try.func14, Try.ntmps14
  go_wp2
  go_loopw [1, 5] (fun q i wr => ∃ j : Nat, j ≤ xs.length ∧ i = .int .i64 j ∧ q = .int .i64 (k + j) ∧ Own wr g 3 (ints (tab xs.length fun i => if i < j then k + i else xs.getD i 0)) ∧ Chg g w wr) (fun _ i _ => xs.length - (intOf i).toNat)
  case atStart =>
    refine ⟨0, Nat.zero_le _, rfl, by simp, HO.out.congr ?_, Chg.refl _ _⟩
    congr 1
    simp only [Nat.not_lt_zero, if_false]
    exact (tab_self xs 0).symm
  case round =>
    obtain ⟨j, hj, rfl, rfl, hown, hchg⟩ := hrel
    by_cases hlt : j < xs.length
    · have f1 := hown.frozen j
      have c1 := hown.cell? (i := j) (ints_get (by rw [tab_length]; exact hlt))
      have st := hown.set j (.int .i64 (k + j))
      rw [ints_set, tab_set] at st
      have HS := Lib.hid st; clear st
      have HH := Lib.hid hown; clear hown
      go_wp2
      go_roundw
      case rel =>
        refine ⟨j + 1, by omega, by go_num, by simp; omega, HS.out.congr ?_, hchg.trans (Chg.set _ _ _ _)⟩
        congr 1
        refine tab_congr fun i hi => ?_
        by_cases e : i = j
        · subst e; rw [if_pos rfl, if_pos (by omega)]
        · rw [if_neg e]; by_cases e2 : i < j
          · rw [if_pos e2, if_pos (by omega)]
          · rw [if_neg e2, if_neg (by omega)]
      case measure => simp [intOf]; omega
    · have he : j = xs.length := by omega
      have HH := Lib.hid hown; clear hown
      subst he
      go_wp2
      go_ret
      refine ⟨rfl, HH.out.congr ?_, hchg⟩
      congr 1
      exact tab_congr fun i hi => by rw [if_pos hi]

set_option maxHeartbeats 400000 in
theorem markIntS_nil (k : Int) (w : World) :
    Calls Try.prog 14 #[.slice none 0 0, .int .i64 k] w fun e w' => e = .returned (.int .i64 k) ∧ w = w' := by
  go_enter Try.func14, Try.ntmps14
  go_wp2
  refine wp_loop_rounds 1 ?_
  rw [rounds_succ]
  go_wp2
  go_ret
  exact ⟨rfl, rfl⟩

theorem markIntS_res (B : Nat) (v : Value) (xs : List Int) (k : Int) (w : World) (hl : xs.length ≤ 1048576) (h0 : 0 ≤ k) (h1 : k ≤ 1099511627776) (hB : B ≤ w.heap.size) (hr : ResI w B 3 v xs) :
    Calls Try.prog 14 #[v, .int .i64 k] w fun e w' => e = .returned (.int .i64 (k + xs.length)) ∧ ResI w' B 3 v (tab xs.length fun i => k + i) ∧ Below B w w' := by
  rcases hr with ⟨rfl, rfl⟩ | ⟨g, cap, rfl, hg, ho⟩
  · refine (markIntS_nil k w).mono fun e w' ⟨he, hw⟩ => ?_
    subst hw
    exact ⟨by rw [he]; simp, Or.inl ⟨rfl, rfl⟩, Below.refl _ _⟩
  · refine (markIntS_own g cap xs k w hl h0 h1 ho).mono fun e w' ⟨he, ho', hc⟩ => ?_
    exact ⟨he, Or.inr ⟨g, cap, by rw [tab_length], hg, ho'⟩, hc.below hg hB⟩

set_option maxHeartbeats 400000 in
theorem heldIntS_same (ad : Option Addr) (cap n : Nat) (k : Int) (w : World) (hl : n ≤ 1048576) (h0 : 0 ≤ k) (h1 : k ≤ 1099511627776) (hr : RdI w ad (tab n fun i => k + i)) :
    Calls Try.prog 15 #[.slice ad n cap, .int .i64 k] w fun e w' => e = .returned (.int .i64 (k + n)) ∧ w = w' := by
  have HR := Lib.hid hr; clear hr
  go_enter Try.func15, Try.ntmps15
  go_wp2
  go_loop [1, 5] (fun q i => ∃ j : Nat, j ≤ n ∧ i = .int .i64 j ∧ q = .int .i64 (k + j)) (fun _ i => n - (intOf i).toNat)
  case atStart => exact ⟨0, Nat.zero_le _, rfl, by simp⟩
  case round =>
    obtain ⟨j, hj, rfl, rfl⟩ := hrel
    by_cases hlt : j < n
    · obtain ⟨b, off, rfl, hb, c⟩ := HR.out j (by rw [tab_length]; exact hlt)
      rw [tab_getD hlt] at c
      go_wp2
      go_round
      case rel => exact ⟨j + 1, by omega, by go_num, by simp; omega⟩
      case measure => simp [intOf]; omega
    · have he : j = n := by omega
      subst he
      go_wp2
      go_ret
      exact ⟨rfl, rfl⟩

/-! ### The same of values: a slice that reads as numbers -/
def RdV (w : World) (v : Value) (xs : List Int) : Prop := ∃ ad cap, v = .slice ad xs.length cap ∧ RdI w ad xs
theorem ResI.rdV {w : World} {B : Nat} {E : TypeId} {v : Value} {xs : List Int} (h : ResI w B E v xs) : RdV w v xs := h.rd
theorem ResI.chg {w w' : World} {B b : Nat} {E : TypeId} {v : Value} {xs : List Int} (h : ResI w B E v xs) (hc : Chg b w w') (hb : b < B) : ResI w' B E v xs := by
  rcases h with h | ⟨g, cap, rfl, hg, ho⟩
  · exact Or.inl h
  · exact Or.inr ⟨g, cap, rfl, hg, ho.chg hc (by omega)⟩
theorem eqIntS_v (v v' : Value) (xs : List Int) (w : World) (hl : xs.length ≤ 1048576) (hr : RdV w v xs) (hr' : RdV w v' xs) :
    Calls Try.prog 12 #[v, v'] w fun e w' => e = .returned (.bool true) ∧ Below w.heap.size w w' := by
  obtain ⟨ad, cap, rfl, h⟩ := hr
  obtain ⟨ad', cap', rfl, h'⟩ := hr'
  exact eqIntS_same ad ad' cap cap' xs w hl h h'
theorem heldIntS_v (v : Value) (n : Nat) (k : Int) (w : World) (hl : n ≤ 1048576) (h0 : 0 ≤ k) (h1 : k ≤ 1099511627776) (hr : RdV w v (tab n fun i => k + i)) :
    Calls Try.prog 15 #[v, .int .i64 k] w fun e w' => e = .returned (.int .i64 (k + n)) ∧ w = w' := by
  obtain ⟨ad, cap, rfl, h⟩ := hr
  rw [tab_length]
  exact heldIntS_same ad cap n k w hl h0 h1 h

/-! ### What an exported function hands back -/
def RetB (r : Bool) (w : World) (e : Ending) (w' : World) : Prop := e = .returned (.bool r) ∧ Below w.heap.size w w'
def RetIB (r : Int × Bool) (w : World) (e : Ending) (w' : World) : Prop := e = .returned (.tuple #[.int .i64 r.1, .bool r.2]) ∧ Below w.heap.size w w'
def RetBB (r : Bool × Bool) (w : World) (e : Ending) (w' : World) : Prop := e = .returned (.tuple #[.bool r.1, .bool r.2]) ∧ Below w.heap.size w w'
def RetLB (r : List Int × Bool) (w : World) (e : Ending) (w' : World) : Prop := ∃ v, e = .returned (.tuple #[v, .bool r.2]) ∧ ResI w' w.heap.size 3 v r.1 ∧ Below w.heap.size w w'
def RetLLB (r : List Int × List Int × Bool) (w : World) (e : Ending) (w' : World) : Prop := ∃ v u, e = .returned (.tuple #[v, u, .bool r.2.2]) ∧ ResI w' w.heap.size 3 v r.1 ∧ ResI w' w.heap.size 3 u r.2.1 ∧ (∀ q, v.ownBlock = some q → u.ownBlock ≠ some q) ∧ Below w.heap.size w w'
theorem RetIB.of {r : Int × Bool} {w w' : World} {a : Int} {b : Bool} (h : r = (a, b)) (hb : Below w.heap.size w w') : RetIB r w (.returned (.tuple #[.int .i64 a, .bool b])) w' := by subst h; exact ⟨rfl, hb⟩
theorem RetBB.of {r : Bool × Bool} {w w' : World} {a : Bool} {b : Bool} (h : r = (a, b)) (hb : Below w.heap.size w w') : RetBB r w (.returned (.tuple #[.bool a, .bool b])) w' := by subst h; exact ⟨rfl, hb⟩
theorem RetLB.of {r : List Int × Bool} {w w' : World} {v : Value} {a : List Int} {b : Bool} (h : r = (a, b)) (hv : ResI w' w.heap.size 3 v a) (hb : Below w.heap.size w w') : RetLB r w (.returned (.tuple #[v, .bool b])) w' := by subst h; exact ⟨v, rfl, hv, hb⟩
theorem RetLB.no {r : List Int × Bool} {w w' : World} (h : r = ([], false)) (hb : Below w.heap.size w w') : RetLB r w (.returned (.tuple #[.slice none 0 0, .bool false])) w' := RetLB.of h (Or.inl ⟨rfl, rfl⟩) hb

end Go.Proofs.Ytbnlfpcgcpdbhaa

/-
  When n vertices and links are a graph: the reference's chGood and the program's isGraph answer the same Bool.
-/
namespace Go.Proofs.Ytbnlfpcgcpdbhaa
open Go.RowKit

def lkOk (n : Int) (x : Lk) : Bool := inB x.b 1 (n-1) && inB x.a 0 (x.b-1) && inB x.n 1 5
def lkLt (x y : Lk) : Bool := decide (x.a < y.a ∨ (x.a = y.a ∧ x.b < y.b))
def goodAt (n : Int) (ls : List Lk) (i : Nat) : Bool := lkOk n (ls.getD i Lk.z) && (i == 0 || lkLt (ls.getD (i-1) Lk.z) (ls.getD i Lk.z))
def goodL (n : Int) (ls : List Lk) : Bool := inB n 1 8 && (List.range ls.length).all (goodAt n ls)

theorem goodL_n {n : Int} {ls : List Lk} (h : inB n 1 8 = false) : goodL n ls = false := by simp [goodL, h]
theorem goodL_false {n : Int} {ls : List Lk} {k : Nat} (hk : k < ls.length) (h : goodAt n ls k = false) : goodL n ls = false := by
  simp only [goodL, Bool.and_eq_false_iff, List.all_eq_false]
  exact Or.inr ⟨k, by simpa using hk, by simp [h]⟩
theorem goodL_true {n : Int} {ls : List Lk} (hn : inB n 1 8 = true) (h : ∀ j, j < ls.length → goodAt n ls j = true) : goodL n ls = true := by
  simp only [goodL, Bool.and_eq_true, List.all_eq_true]
  exact ⟨hn, fun j hj => h j (by simpa using hj)⟩

/-- What one link's tests come to. -/
theorem goodAt_bad {n : Int} {ls : List Lk} {k : Nat} {x : Lk} (hx : ls.getD k Lk.z = x) (h : lkOk n x = false) : goodAt n ls k = false := by unfold goodAt; rw [hx, h]; rfl
theorem goodAt_head {n : Int} {ls : List Lk} {k : Nat} {x : Lk} (hx : ls.getD k Lk.z = x) (h : lkOk n x = true) (hk : k = 0) : goodAt n ls k = true := by unfold goodAt; rw [hx, h, hk]; rfl
theorem goodAt_next {n : Int} {ls : List Lk} {k : Nat} {x p : Lk} (hx : ls.getD k Lk.z = x) (hp : ls.getD (k-1) Lk.z = p) (h : lkOk n x = true) (hk : k ≠ 0) : goodAt n ls k = lkLt p x := by unfold goodAt; rw [hx, hp, h]; simp [hk]

set_option maxHeartbeats 400000 in
theorem l1In_any (n lo hi : Int) (w : World) :
    Calls Try.prog 28 #[.int .i64 n, .int .i64 lo, .int .i64 hi] w fun e w' => e = .returned (.bool (inB n lo hi)) ∧ w = w' := by
  go_enter Try.func28, Try.ntmps28
  go_wp2
  all_goals go_ret
  · exact ⟨ret_bool (by simp [inB, *]), rfl⟩
  · exact ⟨ret_bool (by simp [inB]; omega), rfl⟩

set_option maxHeartbeats 400000 in
theorem within_any (n lo hi : Int) (w : World) :
    Calls Try.prog 45 #[.int .i64 n, .int .i64 lo, .int .i64 hi] w fun e w' => e = .returned (.bool (inB n lo hi)) ∧ w = w' := by
  go_enter Try.func45, Try.ntmps45
  go_wp2
  all_goals go_ret
  · exact ⟨ret_bool (by simp [inB, *]), rfl⟩
  · exact ⟨ret_bool (by simp [inB]; omega), rfl⟩

end Go.Proofs.Ytbnlfpcgcpdbhaa

/-
  The cursor that draws choices from bytes.
-/
namespace Go.Proofs.Ytbnlfpcgcpdbhaa
open Go.RowKit

/-- Bytes that can be read. -/
def RdB (w : World) (ad : Option Addr) (n : Nat) : Prop := ∀ j, j < n → ∃ b off, ∃ x : Int, ad = some ⟨b, off, none⟩ ∧ b < w.heap.size ∧ w.cell? ⟨b, off + j, none⟩ = some (.int .u8 x) ∧ 0 ≤ x ∧ x ≤ 255
theorem RdB.below {w w' : World} {ad : Option Addr} {n : Nat} (h : RdB w ad n) (hb : Below w.heap.size w w') : RdB w' ad n := fun j hj => by
  obtain ⟨b, off, x, e, hl, hc, hx⟩ := h j hj
  exact ⟨b, off, x, e, Nat.lt_of_lt_of_le hl hb.size, bcell hb hl hc, hx⟩
theorem RdB.chg {w w' : World} {ad : Option Addr} {n b : Nat} (h : RdB w ad n) (hb : Chg b w w') (hne : 0 < n → ∀ o, ad ≠ some ⟨b, o, none⟩) : RdB w' ad n := fun j hj => by
  obtain ⟨b', off, x, e, hl, hc, hx⟩ := h j hj
  exact ⟨b', off, x, e, Nat.lt_of_lt_of_le hl hb.size, hb.cell (fun q => hne (by omega) off (by rw [e]; congr 1; simp at q; rw [q])) hc, hx⟩

theorem u64w (n : Int) : IntKind.u64.wrap n = n % 18446744073709551616 := by simp [IntKind.wrap, IntKind.bits, IntKind.signed]
theorem u64_wrap_bd (x : Int) : 0 ≤ IntKind.u64.wrap x ∧ IntKind.u64.wrap x ≤ 18446744073709551615 := by
  rw [u64w]; omega
theorem and255 (x : Int) : 0 ≤ wrap64 (bits BinOp.and IntKind.u64 x 255) ∧ wrap64 (bits BinOp.and IntKind.u64 x 255) ≤ 255 := by
  have h : (BitVec.ofInt 64 x &&& BitVec.ofInt 64 255).toNat ≤ 255 := by rw [BitVec.toNat_and]; exact Nat.le_trans Nat.and_le_right (by decide)
  have h2 : 0 ≤ bits BinOp.and IntKind.u64 x 255 ∧ bits BinOp.and IntKind.u64 x 255 ≤ 255 := by
    show 0 ≤ IntKind.u64.wrap (((BitVec.ofInt 64 x &&& BitVec.ofInt 64 255).toNat : Nat) : Int) ∧ IntKind.u64.wrap (((BitVec.ofInt 64 x &&& BitVec.ofInt 64 255).toNat : Nat) : Int) ≤ 255
    rw [u64w]; omega
  unfold wrap64
  omega

/-- Behind what writes to c come new blocks and writes to newer blocks. -/
theorem Chg.under {u w w' : World} {B c : Nat} (h : Chg c u w) (hb : Below B w w') (hB : u.heap.size ≤ B) (hs : w.heap.size ≤ w'.heap.size) : Chg c u w' :=
  ⟨hb.os.trans h.os, hb.tape.trans h.tape, hb.output.trans h.output, Nat.le_trans h.size hs, fun k hk hne => (hb.block k (by omega)).trans (h.block k hk hne)⟩
theorem row_chg {w w' : World} {B c size n : Nat} {E : TypeId} {v : Value} {xs : List Value} (h : w.ownsRow B E size v n xs) (hc : Chg c w w') (hB : c < B) : w'.ownsRow B E size v n xs := by
  refine h.kept (row := some c) ⟨hc.os, hc.tape, hc.output, hc.size, fun k hk hne => hc.block k hk (fun e => hne (by rw [e]))⟩ ?_
  rcases h.2 with ⟨e, _⟩ | ⟨g, cap, cur, rfl, hg, _⟩
  · left; rw [e]; rfl
  · right; simp [Value.ownBlock]; omega
theorem row_below {w w' : World} {B size n : Nat} {E : TypeId} {v : Value} {xs : List Value} (h : w.ownsRow B E size v n xs) (hb : Below w.heap.size w w') : w'.ownsRow B E size v n xs := by
  refine ⟨h.1, ?_⟩
  rcases h.2 with hn | ⟨g, cap, cur, rfl, hB, hgg, rest⟩
  · exact .inl hn
  · refine .inr ⟨g, cap, cur, rfl, hB, ?_, rest⟩
    rw [hb.block g (Array.getElem?_eq_some_iff.1 hgg).1]
    exact hgg

end Go.Proofs.Ytbnlfpcgcpdbhaa
