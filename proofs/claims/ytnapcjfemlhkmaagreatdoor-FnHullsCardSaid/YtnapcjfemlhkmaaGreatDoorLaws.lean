/-
  Some texts of this proof in one: Laws Good Num Trop Cur. Each part tells what it proves. By an AI agent.
-/
import Derived.Test.YtnapcjfemlhkmaaGreatDoorRows
import Derived.Test.YtnapcjfemlhkmaaGreatDoorBase
import Derived.WalkSpells
import Derived.WalkLawsBesides
import Derived.Deep.QuietTactic
import Derived.BigQuiet
import Derived.StillTailTactics

/-
  What the harness's own functions do: sizes, copies, comparisons, marks.
-/
namespace Go.Proofs.YtnapcjfemlhkmaaGreatDoor
open Go.RowKit

theorem Tryz.infoI : (Tryz.prog.info? 3).map (fun i => (i.zero, i.size, i.bytes)) = some (some (.int .i64 0), 1, 8) := by kernel_rfl
/-! ### The same of values: a slice that reads as numbers -/
def RdV (w : World) (v : Value) (xs : List Int) : Prop := ∃ ad cap, v = .slice ad xs.length cap ∧ RdI w ad xs
theorem ResI.rdV {w : World} {B : Nat} {E : TypeId} {v : Value} {xs : List Int} (h : ResI w B E v xs) : RdV w v xs := h.rd
theorem ResI.chg {w w' : World} {B b : Nat} {E : TypeId} {v : Value} {xs : List Int} (h : ResI w B E v xs) (hc : Chg b w w') (hb : b < B) : ResI w' B E v xs := by
  rcases h with h | ⟨g, cap, rfl, hg, ho⟩
  · exact Or.inl h
  · exact Or.inr ⟨g, cap, rfl, hg, ho.chg hc (by omega)⟩
/-! ### What an exported function hands back -/
def RetB (r : Bool) (w : World) (e : Ending) (w' : World) : Prop := e = .returned (.bool r) ∧ Below w.heap.size w w'
def RetIB (r : Int × Bool) (w : World) (e : Ending) (w' : World) : Prop := e = .returned (.tuple #[.int .i64 r.1, .bool r.2]) ∧ Below w.heap.size w w'
def RetBB (r : Bool × Bool) (w : World) (e : Ending) (w' : World) : Prop := e = .returned (.tuple #[.bool r.1, .bool r.2]) ∧ Below w.heap.size w w'
def RetLB (r : List Int × Bool) (w : World) (e : Ending) (w' : World) : Prop := ∃ v, e = .returned (.tuple #[v, .bool r.2]) ∧ ResI w' w.heap.size 3 v r.1 ∧ Below w.heap.size w w'
def RetLLB (r : List Int × List Int × Bool) (w : World) (e : Ending) (w' : World) : Prop := ∃ v u, e = .returned (.tuple #[v, u, .bool r.2.2]) ∧ ResI w' w.heap.size 3 v r.1 ∧ ResI w' w.heap.size 3 u r.2.1 ∧ (∀ q, v.ownBlock = some q → u.ownBlock ≠ some q) ∧ Below w.heap.size w w'
theorem RetIB.of {r : Int × Bool} {w w' : World} {a : Int} {b : Bool} (h : r = (a, b)) (hb : Below w.heap.size w w') : RetIB r w (.returned (.tuple #[.int .i64 a, .bool b])) w' := by subst h; exact ⟨rfl, hb⟩
theorem RetBB.of {r : Bool × Bool} {w w' : World} {a : Bool} {b : Bool} (h : r = (a, b)) (hb : Below w.heap.size w w') : RetBB r w (.returned (.tuple #[.bool a, .bool b])) w' := by subst h; exact ⟨rfl, hb⟩
theorem RetLB.of {r : List Int × Bool} {w w' : World} {v : Value} {a : List Int} {b : Bool} (h : r = (a, b)) (hv : ResI w' w.heap.size 3 v a) (hb : Below w.heap.size w w') : RetLB r w (.returned (.tuple #[v, .bool b])) w' := by subst h; exact ⟨v, rfl, hv, hb⟩
theorem RetLB.no {r : List Int × Bool} {w w' : World} (h : r = ([], false)) (hb : Below w.heap.size w w') : RetLB r w (.returned (.tuple #[.slice none 0 0, .bool false])) w' := RetLB.of h (Or.inl ⟨rfl, rfl⟩) hb

end Go.Proofs.YtnapcjfemlhkmaaGreatDoor

/-
  When n vertices and links are a graph: the reference's chGood and the program's isGraph answer the same Bool.
-/
namespace Go.Proofs.YtnapcjfemlhkmaaGreatDoor
open Go.RowKit

def lkOk (n : Int) (x : Lk) : Bool := inB x.b 1 (n-1) && inB x.a 0 (x.b-1) && inB x.n 1 5
def lkLt (x y : Lk) : Bool := decide (x.a < y.a ∨ (x.a = y.a ∧ x.b < y.b))
def goodAt (n : Int) (ls : List Lk) (i : Nat) : Bool := lkOk n (ls.getD i Lk.z) && (i == 0 || lkLt (ls.getD (i-1) Lk.z) (ls.getD i Lk.z))
def goodL (n : Int) (ls : List Lk) : Bool := inB n 1 8 && (List.range ls.length).all (goodAt n ls)

theorem goodL_n {n : Int} {ls : List Lk} (h : inB n 1 8 = false) : goodL n ls = false := by simp [goodL, h]
theorem goodL_false {n : Int} {ls : List Lk} {k : Nat} (hk : k < ls.length) (h : goodAt n ls k = false) : goodL n ls = false := by
  simp only [goodL, Bool.and_eq_false_iff, List.all_eq_false]
  exact Or.inr ⟨k, by simpa using hk, by simp [h]⟩
theorem goodL_true {n : Int} {ls : List Lk} (hn : inB n 1 8 = true) (h : ∀ j, j < ls.length → goodAt n ls j = true) : goodL n ls = true := by
  simp only [goodL, Bool.and_eq_true, List.all_eq_true]
  exact ⟨hn, fun j hj => h j (by simpa using hj)⟩

/-- What one link's tests come to. -/
theorem goodAt_bad {n : Int} {ls : List Lk} {k : Nat} {x : Lk} (hx : ls.getD k Lk.z = x) (h : lkOk n x = false) : goodAt n ls k = false := by unfold goodAt; rw [hx, h]; rfl
theorem goodAt_head {n : Int} {ls : List Lk} {k : Nat} {x : Lk} (hx : ls.getD k Lk.z = x) (h : lkOk n x = true) (hk : k = 0) : goodAt n ls k = true := by unfold goodAt; rw [hx, h, hk]; rfl
theorem goodAt_next {n : Int} {ls : List Lk} {k : Nat} {x p : Lk} (hx : ls.getD k Lk.z = x) (hp : ls.getD (k-1) Lk.z = p) (h : lkOk n x = true) (hk : k ≠ 0) : goodAt n ls k = lkLt p x := by unfold goodAt; rw [hx, hp, h]; simp [hk]

set_option maxHeartbeats 400000 in
theorem l1In_any (n lo hi : Int) (w : World) :
    Calls Tryz.prog 64 #[.int .i64 n, .int .i64 lo, .int .i64 hi] w fun e w' => e = .returned (.bool (inB n lo hi)) ∧ w = w' := by
  go_enter Tryz.func64, Tryz.ntmps64
  go_wp2
  all_goals go_ret
  · exact ⟨ret_bool (by simp [inB, *]), rfl⟩
  · exact ⟨ret_bool (by simp [inB]; omega), rfl⟩

set_option maxHeartbeats 400000 in
theorem within_any (n lo hi : Int) (w : World) :
    Calls Tryz.prog 55 #[.int .i64 n, .int .i64 lo, .int .i64 hi] w fun e w' => e = .returned (.bool (inB n lo hi)) ∧ w = w' := by
  go_enter Tryz.func55, Tryz.ntmps55
  go_wp2
  all_goals go_ret
  · exact ⟨ret_bool (by simp [inB, *]), rfl⟩
  · exact ⟨ret_bool (by simp [inB]; omega), rfl⟩

end Go.Proofs.YtnapcjfemlhkmaaGreatDoor

/-
  Numbers with infinity: the program's functions and the reference's. Printed by gen_num.py.
-/
namespace Go.Proofs.YtnapcjfemlhkmaaGreatDoor
open Go.RowKit

def numB (n : Int) : Bool := inB n (-1000000) 1000000 || n == 1000000000
theorem numB_t {n : Int} (h : numB n = true) : (-1000000 ≤ n ∧ n ≤ 1000000) ∨ n = 1000000000 := by
  unfold numB at h
  rcases Bool.or_eq_true_iff.1 h with h | h
  · exact Or.inl (inB_t.1 h)
  · exact Or.inr (by simpa using h)
theorem numB_bd {n : Int} (h : numB n = true) : -1000000 ≤ n ∧ n ≤ 1000000000 := by have := numB_t h; omega
def prodZ (a b : Int) : Int := if a = 1000000000 ∨ b = 1000000000 then 1000000000 else a + b
theorem prodZ_bd {a b : Int} {A B : Int} (hA : 0 ≤ A ∧ A ≤ 4000000000000) (hB : 0 ≤ B ∧ B ≤ 4000000000000) (ha : -A ≤ a ∧ a ≤ A) (hb : -B ≤ b ∧ b ≤ B) : -(A + B + 1000000000) ≤ prodZ a b ∧ prodZ a b ≤ A + B + 1000000000 := by
  unfold prodZ; split <;> omega
def toldZ (n : Int) : Int := if numB n = true then n else 0
def pairV (n : Int) (b : Bool) : Value := .tuple #[.int .i64 n, .bool b]
def leastZ (a b : Int) : Int := if a < b then a else b
theorem leastZ_min (a b : Int) : leastZ a b = min a b := by unfold leastZ; split <;> omega

def finB (n : Int) : Bool := inB n (-1000000) 1000000

end Go.Proofs.YtnapcjfemlhkmaaGreatDoor

/-
  Tropical sums, products, quotients and powers of numbers: program and reference. Printed by gen_trop.py.
-/
namespace Go.Proofs.YtnapcjfemlhkmaaGreatDoor
open Go.RowKit

def okAB (a b : Int) : Bool := numB a && numB b
def sumR (a b : Int) : Int × Bool := if okAB a b = true then (leastZ a b, true) else (0, false)
def prodR (a b : Int) : Int × Bool := if okAB a b = true then (toldZ (prodZ a b), numB (prodZ a b)) else (0, false)
def quotR (a b : Int) : Int × Bool := if okAB a b = true ∧ b ≠ 1000000000 then (toldZ (prodZ a (-b)), numB (prodZ a (-b))) else (0, false)
def powZ (a k : Int) : Int := if k = 0 then 0 else if a = 1000000000 then 1000000000 else k * a
def powR (a k : Int) : Int × Bool := if numB a = true ∧ inB k 0 20 = true then (toldZ (powZ a k), numB (powZ a k)) else (0, false)
def pairR (r : Int × Bool) : Value := pairV r.1 r.2
theorem okAB_t {a b : Int} (h : okAB a b = true) : numB a = true ∧ numB b = true := Bool.and_eq_true_iff.1 h
theorem powZ_bd {a k : Int} (ha : numB a = true) (hk : 0 ≤ k ∧ k ≤ 20) : -20000000 ≤ powZ a k ∧ powZ a k ≤ 1000000000 := by
  unfold powZ
  split
  · omega
  · split
    · omega
    · rename_i h1 h2
      have h3 := numB_t ha
      rcases h3 with h3 | h3
      · have h4 : -(20 * 1000000) ≤ k * a ∧ k * a ≤ 20 * 1000000 := by
          have h5 : (k * a).natAbs ≤ 20 * 1000000 := by
            rw [Int.natAbs_mul]
            exact Nat.mul_le_mul (by omega) (by omega)
          omega
        omega
      · exact absurd h3 h2
theorem powZ_step {a : Int} {k : Nat} (ha : numB a = true) (hk : k ≤ 19) : prodZ (powZ a k) a = powZ a ((k : Int) + 1) := by
  have h3 := numB_t ha
  by_cases hi : a = 1000000000
  · unfold prodZ powZ
    rw [if_pos (Or.inr hi), if_neg (by omega), if_pos hi]
  · have hb := powZ_bd ha (k := k) ⟨by omega, by omega⟩
    have e1 : powZ a k = k * a := by
      unfold powZ
      by_cases h0 : (k : Int) = 0
      · rw [if_pos h0, h0]; omega
      · rw [if_neg h0, if_neg hi]
    have hb2 : (powZ a k).natAbs ≤ 20000000 := by
      rw [e1, Int.natAbs_mul]
      have : ((k : Int)).natAbs * a.natAbs ≤ 20 * 1000000 := Nat.mul_le_mul (by omega) (by omega)
      omega
    have e2 : powZ a ((k : Int) + 1) = (k + 1) * a := by
      unfold powZ
      rw [if_neg (by omega), if_neg hi]
    unfold prodZ
    rw [if_neg (by rintro (h | h) <;> omega), e2, e1]
    rw [Int.add_mul]; omega
end Go.Proofs.YtnapcjfemlhkmaaGreatDoor

/-
  The cursor that draws choices from bytes.
-/
namespace Go.Proofs.YtnapcjfemlhkmaaGreatDoor
open Go.RowKit

/-- Bytes that can be read. -/
def RdB (w : World) (ad : Option Addr) (n : Nat) : Prop := ∀ j, j < n → ∃ b off, ∃ x : Int, ad = some ⟨b, off, none⟩ ∧ b < w.heap.size ∧ w.cell? ⟨b, off + j, none⟩ = some (.int .u8 x) ∧ 0 ≤ x ∧ x ≤ 255
theorem RdB.below {w w' : World} {ad : Option Addr} {n : Nat} (h : RdB w ad n) (hb : Below w.heap.size w w') : RdB w' ad n := fun j hj => by
  obtain ⟨b, off, x, e, hl, hc, hx⟩ := h j hj
  exact ⟨b, off, x, e, Nat.lt_of_lt_of_le hl hb.size, bcell hb hl hc, hx⟩
theorem RdB.chg {w w' : World} {ad : Option Addr} {n b : Nat} (h : RdB w ad n) (hb : Chg b w w') (hne : 0 < n → ∀ o, ad ≠ some ⟨b, o, none⟩) : RdB w' ad n := fun j hj => by
  obtain ⟨b', off, x, e, hl, hc, hx⟩ := h j hj
  exact ⟨b', off, x, e, Nat.lt_of_lt_of_le hl hb.size, hb.cell (fun q => hne (by omega) off (by rw [e]; congr 1; simp at q; rw [q])) hc, hx⟩

/-- A cursor after at most n bytes. -/
structure CurX (w : World) (c n : Nat) (ad : Option Addr) (len cap : Nat) (k : Nat) (sd : Int) : Prop where
  own : Own w c 45 [.slice ad len cap, .int .i64 (k : Int), .int .u64 sd]
  rd : RdB w ad len
  below : 0 < len → ∀ b o, ad = some ⟨b, o, none⟩ → b < c
  len : len ≤ 9223372036854775807
  at_ : k ≤ n
  sd0 : 0 ≤ sd
  sd1 : sd ≤ 18446744073709551615
def Cur (w : World) (c n : Nat) : Prop := ∃ ad len cap k sd, CurX w c n ad len cap k sd
theorem Cur.below {w w' : World} {c n : Nat} (h : Cur w c n) (hb : Below w.heap.size w w') : Cur w' c n := by
  obtain ⟨ad, len, cap, k, sd, h⟩ := h
  exact ⟨ad, len, cap, k, sd, h.own.belowAll hb, h.rd.below hb, h.below, h.len, h.at_, h.sd0, h.sd1⟩
theorem Cur.mono {w : World} {c n m : Nat} (h : Cur w c n) (hm : n ≤ m) : Cur w c m := by
  obtain ⟨ad, len, cap, k, sd, h⟩ := h
  exact ⟨ad, len, cap, k, sd, h.own, h.rd, h.below, h.len, Nat.le_trans h.at_ hm, h.sd0, h.sd1⟩
theorem Cur.under {w w' : World} {B c n : Nat} (h : Cur w c n) (hb : Below B w w') (hc : c < B) : Cur w' c n := by
  obtain ⟨ad, len, cap, k, sd, h⟩ := h
  refine ⟨ad, len, cap, k, sd, h.own.below hb hc, fun j hj => ?_, h.below, h.len, h.at_, h.sd0, h.sd1⟩
  obtain ⟨b, off, x, e, hl, hcell, hx⟩ := h.rd j hj
  have hbc := h.below (by omega) _ _ e
  have hb2 := bcell hb (p := ⟨b, off + j, none⟩) (Nat.lt_trans hbc hc) hcell
  exact ⟨b, off, x, e, World.block_lt_of_cell? w' ⟨b, off + j, none⟩ hb2, hb2, hx⟩
theorem Cur.lt {w : World} {c n : Nat} (h : Cur w c n) : c < w.heap.size := by
  obtain ⟨ad, len, cap, k, sd, h⟩ := h
  exact h.own.lt

theorem Cur.step {w : World} {c n : Nat} {ad : Option Addr} {len cap k : Nat} {sd sd' : Int} (h : CurX w c n ad len cap k sd) (a b : Nat) (h0 : 0 ≤ sd') (h1 : sd' ≤ 18446744073709551615) :
    Cur ((((w.drewN a).setCell ⟨c, 1, none⟩ (.int .i64 ((k : Int) + 1))).setCell ⟨c, 2, none⟩ (.int .u64 sd')).drewN b) c (n + 1) ∧ Chg c w ((((w.drewN a).setCell ⟨c, 1, none⟩ (.int .i64 ((k : Int) + 1))).setCell ⟨c, 2, none⟩ (.int .u64 sd')).drewN b) := by
  have hc : Chg c w ((((w.drewN a).setCell ⟨c, 1, none⟩ (.int .i64 ((k : Int) + 1))).setCell ⟨c, 2, none⟩ (.int .u64 sd')).drewN b) := ((Chg.drewN c w _).trans (Chg.set c 1 _ _)).trans ((Chg.set c 2 _ _).trans (Chg.drewN c _ _))
  refine ⟨⟨ad, len, cap, k + 1, sd', ?_, h.rd.chg hc (fun h0 o e => Nat.lt_irrefl _ (h.below h0 _ _ e)), h.below, h.len, by have := h.at_; omega, h0, h1⟩, hc⟩
  have := (((h.own.drewN a).set 1 (.int .i64 ((k : Int) + 1))).set 2 (.int .u64 sd')).drewN b
  simpa using this
theorem u64w (n : Int) : IntKind.u64.wrap n = n % 18446744073709551616 := by simp [IntKind.wrap, IntKind.bits, IntKind.signed]
theorem u64_wrap_bd (x : Int) : 0 ≤ IntKind.u64.wrap x ∧ IntKind.u64.wrap x ≤ 18446744073709551615 := by
  rw [u64w]; omega
theorem and255 (x : Int) : 0 ≤ wrap64 (bits BinOp.and IntKind.u64 x 255) ∧ wrap64 (bits BinOp.and IntKind.u64 x 255) ≤ 255 := by
  have h : (BitVec.ofInt 64 x &&& BitVec.ofInt 64 255).toNat ≤ 255 := by rw [BitVec.toNat_and]; exact Nat.le_trans Nat.and_le_right (by decide)
  have h2 : 0 ≤ bits BinOp.and IntKind.u64 x 255 ∧ bits BinOp.and IntKind.u64 x 255 ≤ 255 := by
    show 0 ≤ IntKind.u64.wrap (((BitVec.ofInt 64 x &&& BitVec.ofInt 64 255).toNat : Nat) : Int) ∧ IntKind.u64.wrap (((BitVec.ofInt 64 x &&& BitVec.ofInt 64 255).toNat : Nat) : Int) ≤ 255
    rw [u64w]; omega
  unfold wrap64
  omega

/-- Behind what writes to c come new blocks and writes to newer blocks. -/
theorem Chg.under {u w w' : World} {B c : Nat} (h : Chg c u w) (hb : Below B w w') (hB : u.heap.size ≤ B) (hs : w.heap.size ≤ w'.heap.size) : Chg c u w' :=
  ⟨hb.os.trans h.os, hb.tape.trans h.tape, hb.output.trans h.output, Nat.le_trans h.size hs, fun k hk hne => (hb.block k (by omega)).trans (h.block k hk hne)⟩
theorem row_chg {w w' : World} {B c size n : Nat} {E : TypeId} {v : Value} {xs : List Value} (h : w.ownsRow B E size v n xs) (hc : Chg c w w') (hB : c < B) : w'.ownsRow B E size v n xs := by
  refine h.kept (row := some c) ⟨hc.os, hc.tape, hc.output, hc.size, fun k hk hne => hc.block k hk (fun e => hne (by rw [e]))⟩ ?_
  rcases h.2 with ⟨e, _⟩ | ⟨g, cap, cur, rfl, hg, _⟩
  · left; rw [e]; rfl
  · right; simp [Value.ownBlock]; omega
theorem row_below {w w' : World} {B size n : Nat} {E : TypeId} {v : Value} {xs : List Value} (h : w.ownsRow B E size v n xs) (hb : Below w.heap.size w w') : w'.ownsRow B E size v n xs := by
  refine ⟨h.1, ?_⟩
  rcases h.2 with hn | ⟨g, cap, cur, rfl, hB, hgg, rest⟩
  · exact .inl hn
  · refine .inr ⟨g, cap, cur, rfl, hB, ?_, rest⟩
    rw [hb.block g (Array.getElem?_eq_some_iff.1 hgg).1]
    exact hgg

/-- What a call of the cursor's gives. -/
def SomeI (P : Int → Prop) (c n : Nat) (w : World) (e : Ending) (w' : World) : Prop := ∃ x : Int, e = .returned (.int .i64 x) ∧ P x ∧ Cur w' c n ∧ Chg c w w'

set_option maxHeartbeats 800000 in
theorem next_c (c n : Nat) (w : World) (h : Cur w c n) (hn : n ≤ 4611686018427387903) :
    Calls Tryz.prog 75 #[.pointer (some ⟨c, 0, none⟩)] w (SomeI (fun x => 0 ≤ x ∧ x ≤ 255) c (n + 1) w) := by
  obtain ⟨ad, len, cap, k, sd, h⟩ := h
  have c0 := h.own.cell? (i := 0) rfl
  have c1 := h.own.cell? (i := 1) rfl
  have c2 := h.own.cell? (i := 2) rfl
  have f0 := h.own.frozen 0
  have f1 := h.own.frozen 1
  have f2 := h.own.frozen 2
  have hk := h.at_
  have hlen := h.len
  have s0 := h.sd0
  have s1 := h.sd1
  by_cases hlt : k < len
  · obtain ⟨b, off, x, e, hb, cb, hx⟩ := h.rd k hlt
    subst e
    have H := Lib.hid h; clear h
    have x1 : (0 : Int) ≤ (k : Int) := by omega
    have x2 : (k : Int) < (len : Int) := by omega
    go_enter Tryz.func75, Tryz.ntmps75
    go_wp2_with fail
    go_quiet (fail)
    go_wp2_with fail
    go_quiet (fail)
    go_wp2_with fail
    go_quiet (fail)
    go_wp2_with fail
    go_ret
    exact ⟨x, rfl, hx, Cur.step H.out _ _ (u64_wrap_bd _).1 (u64_wrap_bd _).2⟩
  · have H := Lib.hid h; clear h
    go_enter Tryz.func75, Tryz.ntmps75
    go_wp2_with fail
    go_quiet (fail)
    go_wp2_with fail
    go_quiet (fail)
    go_wp2_with fail
    go_ret
    exact ⟨_, rfl, and255 _, Cur.step H.out _ _ (u64_wrap_bd _).1 (u64_wrap_bd _).2⟩

/-- What a call gives that returns a bool. -/
def SomeB (c n : Nat) (w : World) (e : Ending) (w' : World) : Prop := ∃ b : Bool, e = .returned (.bool b) ∧ Cur w' c n ∧ Chg c w w'

set_option maxHeartbeats 800000 in
theorem pick_c (m : Int) (c n : Nat) (w : World) (h : Cur w c n) (hn : n ≤ 4611686018427387901) :
    Calls Tryz.prog 45 #[.pointer (some ⟨c, 0, none⟩), .int .i64 m] w (SomeI (fun x => 0 ≤ x ∧ (x < m ∨ x = 0)) c (n + 2) w) := by
  have H := Lib.hid h; clear h
  by_cases h1 : m ≤ 1
  · go_enter Tryz.func45, Tryz.ntmps45
    go_wp2_with fail
    go_ret
    exact ⟨0, rfl, ⟨by omega, Or.inr rfl⟩, H.out.mono (by omega), Chg.refl _ _⟩
  · have hm0 : 0 ≤ m := by omega
    have hm1 : 1 ≤ m := by omega
    have hmz : (m == 0) = false := by simpa using (by omega : m ≠ 0)
    have hmp : ∀ x : Int, 0 ≤ x % m ∧ (x % m < m ∨ x % m = 0) := fun x => ⟨Int.emod_nonneg _ (by omega), Or.inl (Int.emod_lt_of_pos _ (by omega))⟩
    have HM := Lib.hid hmp; clear hmp
    by_cases h2 : m ≤ 200
    · go_enter Tryz.func45, Tryz.ntmps45
      go_wp2_with fail
      refine (next_c c n w H.out (by omega)).mono ?_
      rintro e w1 ⟨x, rfl, ⟨hx0, hx1⟩, hcu, hch⟩
      have HC := Lib.hid hcu; clear hcu
      go_wp2_with fail
      go_ret
      exact ⟨_, rfl, HM.out _, HC.out.mono (by omega), hch⟩
    · go_enter Tryz.func45, Tryz.ntmps45
      go_wp2_with fail
      refine (next_c c n w H.out (by omega)).mono ?_
      rintro e w1 ⟨x, rfl, ⟨hx0, hx1⟩, hcu, hch⟩
      have HC := Lib.hid hcu; clear hcu
      go_wp2_with fail
      refine (next_c c (n + 1) w1 HC.out (by omega)).mono ?_
      rintro e w2 ⟨y, rfl, ⟨hy0, hy1⟩, hcu2, hch2⟩
      have HC2 := Lib.hid hcu2; clear hcu2
      go_wp2_with fail
      go_ret
      exact ⟨_, rfl, HM.out _, HC2.out, hch.trans hch2⟩

set_option maxHeartbeats 800000 in
theorem one_c (m : Int) (c n : Nat) (w : World) (h : Cur w c n) (hn : n ≤ 4611686018427387901) :
    Calls Tryz.prog 50 #[.pointer (some ⟨c, 0, none⟩), .int .i64 m] w (SomeB c (n + 2) w) := by
  have H := Lib.hid h; clear h
  go_enter Tryz.func50, Tryz.ntmps50
  go_wp2_with fail
  refine (pick_c m c n w H.out hn).mono ?_
  rintro e w1 ⟨x, rfl, ⟨hx0, hx1⟩, hcu, hch⟩
  have HC := Lib.hid hcu; clear hcu
  go_wp2_with fail
  go_ret
  exact ⟨_, rfl, HC.out, hch⟩

set_option maxHeartbeats 800000 in
theorem among_c (g cap : Nat) (xs : List Int) (c n : Nat) (w : World) (h : Cur w c n) (hn : n ≤ 4611686018427387901) (h0 : 0 < xs.length) (hl : xs.length ≤ 1048576) (hg : g ≠ c) (hr : Own w g 3 (ints xs)) :
    Calls Tryz.prog 53 #[.pointer (some ⟨c, 0, none⟩), .slice (some ⟨g, 0, none⟩) xs.length cap] w (SomeI (fun x => x ∈ xs) c (n + 2) w) := by
  have H := Lib.hid h; clear h
  have HR := Lib.hid hr; clear hr
  go_enter Tryz.func53, Tryz.ntmps53
  go_wp2_with fail
  refine (pick_c xs.length c n w H.out hn).mono ?_
  rintro e w1 ⟨x, rfl, ⟨hx0, hx1⟩, hcu, hch⟩
  have HC := Lib.hid hcu; clear hcu
  obtain ⟨k, rfl⟩ : ∃ k : Nat, x = k := ⟨x.toNat, by omega⟩
  have hk : k < xs.length := by omega
  have ck := (HR.out.chg hch hg).cell? (i := k) (ints_get hk)
  have hmem : xs.getD k 0 ∈ xs := by rw [List.getD_eq_getElem?_getD, List.getElem?_eq_getElem hk]; exact List.getElem_mem hk
  generalize xs.getD k 0 = y at ck hmem
  have HM := Lib.hid hmem; clear hmem
  go_wp2_with fail
  go_ret
  exact ⟨_, rfl, HM.out, HC.out, hch⟩

end Go.Proofs.YtnapcjfemlhkmaaGreatDoor
