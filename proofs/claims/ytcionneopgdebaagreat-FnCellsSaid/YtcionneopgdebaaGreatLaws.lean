/-
  Some texts of this proof in one: Laws Good TmP Cur PlP Num DrP Big. Each part tells what it proves. By an AI agent.
-/
import Derived.Test.YtcionneopgdebaaGreatRows
import Derived.Test.YtcionneopgdebaaGreatBase
import Derived.WalkSpells
import Derived.WalkLawsBesides
import Derived.Deep.QuietTactic
import Derived.BigQuiet
import Derived.StillTailTactics

/-
  What the harness's own functions do: sizes, copies, comparisons, marks.
-/
namespace Go.Proofs.YtcionneopgdebaaGreat
open Go.RowKit

theorem Tryz.infoI : (Tryz.prog.info? 3).map (fun i => (i.zero, i.size, i.bytes)) = some (some (.int .i64 0), 1, 8) := by kernel_rfl
/-! ### The same of values: a slice that reads as numbers -/
/-! ### What an exported function hands back -/
end Go.Proofs.YtcionneopgdebaaGreat

/-
  When n vertices and links are a graph: the reference's chGood and the program's isGraph answer the same Bool.
-/
namespace Go.Proofs.YtcionneopgdebaaGreat
open Go.RowKit

set_option maxHeartbeats 400000 in
theorem l1In_any (n lo hi : Int) (w : World) :
    Calls Tryz.prog 42 #[.int .i64 n, .int .i64 lo, .int .i64 hi] w fun e w' => e = .returned (.bool (inB n lo hi)) ∧ w = w' := by
  go_enter Tryz.func42, Tryz.ntmps42
  go_wp2
  all_goals go_ret
  · exact ⟨ret_bool (by simp [inB, *]), rfl⟩
  · exact ⟨ret_bool (by simp [inB]; omega), rfl⟩

set_option maxHeartbeats 400000 in
theorem within_any (n lo hi : Int) (w : World) :
    Calls Tryz.prog 40 #[.int .i64 n, .int .i64 lo, .int .i64 hi] w fun e w' => e = .returned (.bool (inB n lo hi)) ∧ w = w' := by
  go_enter Tryz.func40, Tryz.ntmps40
  go_wp2
  all_goals go_ret
  · exact ⟨ret_bool (by simp [inB, *]), rfl⟩
  · exact ⟨ret_bool (by simp [inB]; omega), rfl⟩

end Go.Proofs.YtcionneopgdebaaGreat

/-
  Terms of plane polynomials, plain. By an AI agent.
-/
namespace Go.Proofs.YtcionneopgdebaaGreat

structure Tm where
  i : Int
  j : Int
  c : Int
  deriving Inhabited, DecidableEq
def tmAt (L : List Tm) (k : Nat) : Tm := L.getD k default
end Go.Proofs.YtcionneopgdebaaGreat

/-
  The cursor that draws choices from bytes.
-/
namespace Go.Proofs.YtcionneopgdebaaGreat
open Go.RowKit

/-- Bytes that can be read. -/
def RdB (w : World) (ad : Option Addr) (n : Nat) : Prop := ∀ j, j < n → ∃ b off, ∃ x : Int, ad = some ⟨b, off, none⟩ ∧ b < w.heap.size ∧ w.cell? ⟨b, off + j, none⟩ = some (.int .u8 x) ∧ 0 ≤ x ∧ x ≤ 255
theorem RdB.below {w w' : World} {ad : Option Addr} {n : Nat} (h : RdB w ad n) (hb : Below w.heap.size w w') : RdB w' ad n := fun j hj => by
  obtain ⟨b, off, x, e, hl, hc, hx⟩ := h j hj
  exact ⟨b, off, x, e, Nat.lt_of_lt_of_le hl hb.size, bcell hb hl hc, hx⟩
theorem RdB.chg {w w' : World} {ad : Option Addr} {n b : Nat} (h : RdB w ad n) (hb : Chg b w w') (hne : 0 < n → ∀ o, ad ≠ some ⟨b, o, none⟩) : RdB w' ad n := fun j hj => by
  obtain ⟨b', off, x, e, hl, hc, hx⟩ := h j hj
  exact ⟨b', off, x, e, Nat.lt_of_lt_of_le hl hb.size, hb.cell (fun q => hne (by omega) off (by rw [e]; congr 1; simp at q; rw [q])) hc, hx⟩

/-- A cursor after at most n bytes. -/
structure CurX (w : World) (c n : Nat) (ad : Option Addr) (len cap : Nat) (k : Nat) (sd : Int) : Prop where
  own : Own w c 49 [.slice ad len cap, .int .i64 (k : Int), .int .u64 sd]
  rd : RdB w ad len
  below : 0 < len → ∀ b o, ad = some ⟨b, o, none⟩ → b < c
  len : len ≤ 9223372036854775807
  at_ : k ≤ n
  sd0 : 0 ≤ sd
  sd1 : sd ≤ 18446744073709551615
def Cur (w : World) (c n : Nat) : Prop := ∃ ad len cap k sd, CurX w c n ad len cap k sd
theorem Cur.below {w w' : World} {c n : Nat} (h : Cur w c n) (hb : Below w.heap.size w w') : Cur w' c n := by
  obtain ⟨ad, len, cap, k, sd, h⟩ := h
  exact ⟨ad, len, cap, k, sd, h.own.belowAll hb, h.rd.below hb, h.below, h.len, h.at_, h.sd0, h.sd1⟩
theorem Cur.mono {w : World} {c n m : Nat} (h : Cur w c n) (hm : n ≤ m) : Cur w c m := by
  obtain ⟨ad, len, cap, k, sd, h⟩ := h
  exact ⟨ad, len, cap, k, sd, h.own, h.rd, h.below, h.len, Nat.le_trans h.at_ hm, h.sd0, h.sd1⟩
theorem Cur.under {w w' : World} {B c n : Nat} (h : Cur w c n) (hb : Below B w w') (hc : c < B) : Cur w' c n := by
  obtain ⟨ad, len, cap, k, sd, h⟩ := h
  refine ⟨ad, len, cap, k, sd, h.own.below hb hc, fun j hj => ?_, h.below, h.len, h.at_, h.sd0, h.sd1⟩
  obtain ⟨b, off, x, e, hl, hcell, hx⟩ := h.rd j hj
  have hbc := h.below (by omega) _ _ e
  have hb2 := bcell hb (p := ⟨b, off + j, none⟩) (Nat.lt_trans hbc hc) hcell
  exact ⟨b, off, x, e, World.block_lt_of_cell? w' ⟨b, off + j, none⟩ hb2, hb2, hx⟩
theorem Cur.lt {w : World} {c n : Nat} (h : Cur w c n) : c < w.heap.size := by
  obtain ⟨ad, len, cap, k, sd, h⟩ := h
  exact h.own.lt

theorem Cur.step {w : World} {c n : Nat} {ad : Option Addr} {len cap k : Nat} {sd sd' : Int} (h : CurX w c n ad len cap k sd) (a b : Nat) (h0 : 0 ≤ sd') (h1 : sd' ≤ 18446744073709551615) :
    Cur ((((w.drewN a).setCell ⟨c, 1, none⟩ (.int .i64 ((k : Int) + 1))).setCell ⟨c, 2, none⟩ (.int .u64 sd')).drewN b) c (n + 1) ∧ Chg c w ((((w.drewN a).setCell ⟨c, 1, none⟩ (.int .i64 ((k : Int) + 1))).setCell ⟨c, 2, none⟩ (.int .u64 sd')).drewN b) := by
  have hc : Chg c w ((((w.drewN a).setCell ⟨c, 1, none⟩ (.int .i64 ((k : Int) + 1))).setCell ⟨c, 2, none⟩ (.int .u64 sd')).drewN b) := ((Chg.drewN c w _).trans (Chg.set c 1 _ _)).trans ((Chg.set c 2 _ _).trans (Chg.drewN c _ _))
  refine ⟨⟨ad, len, cap, k + 1, sd', ?_, h.rd.chg hc (fun h0 o e => Nat.lt_irrefl _ (h.below h0 _ _ e)), h.below, h.len, by have := h.at_; omega, h0, h1⟩, hc⟩
  have := (((h.own.drewN a).set 1 (.int .i64 ((k : Int) + 1))).set 2 (.int .u64 sd')).drewN b
  simpa using this
theorem u64w (n : Int) : IntKind.u64.wrap n = n % 18446744073709551616 := by simp [IntKind.wrap, IntKind.bits, IntKind.signed]
theorem u64_wrap_bd (x : Int) : 0 ≤ IntKind.u64.wrap x ∧ IntKind.u64.wrap x ≤ 18446744073709551615 := by
  rw [u64w]; omega
theorem and255 (x : Int) : 0 ≤ wrap64 (bits BinOp.and IntKind.u64 x 255) ∧ wrap64 (bits BinOp.and IntKind.u64 x 255) ≤ 255 := by
  have h : (BitVec.ofInt 64 x &&& BitVec.ofInt 64 255).toNat ≤ 255 := by rw [BitVec.toNat_and]; exact Nat.le_trans Nat.and_le_right (by decide)
  have h2 : 0 ≤ bits BinOp.and IntKind.u64 x 255 ∧ bits BinOp.and IntKind.u64 x 255 ≤ 255 := by
    show 0 ≤ IntKind.u64.wrap (((BitVec.ofInt 64 x &&& BitVec.ofInt 64 255).toNat : Nat) : Int) ∧ IntKind.u64.wrap (((BitVec.ofInt 64 x &&& BitVec.ofInt 64 255).toNat : Nat) : Int) ≤ 255
    rw [u64w]; omega
  unfold wrap64
  omega

/-- Behind what writes to c come new blocks and writes to newer blocks. -/
theorem Chg.under {u w w' : World} {B c : Nat} (h : Chg c u w) (hb : Below B w w') (hB : u.heap.size ≤ B) (hs : w.heap.size ≤ w'.heap.size) : Chg c u w' :=
  ⟨hb.os.trans h.os, hb.tape.trans h.tape, hb.output.trans h.output, Nat.le_trans h.size hs, fun k hk hne => (hb.block k (by omega)).trans (h.block k hk hne)⟩
theorem row_chg {w w' : World} {B c size n : Nat} {E : TypeId} {v : Value} {xs : List Value} (h : w.ownsRow B E size v n xs) (hc : Chg c w w') (hB : c < B) : w'.ownsRow B E size v n xs := by
  refine h.kept (row := some c) ⟨hc.os, hc.tape, hc.output, hc.size, fun k hk hne => hc.block k hk (fun e => hne (by rw [e]))⟩ ?_
  rcases h.2 with ⟨e, _⟩ | ⟨g, cap, cur, rfl, hg, _⟩
  · left; rw [e]; rfl
  · right; simp [Value.ownBlock]; omega
theorem row_below {w w' : World} {B size n : Nat} {E : TypeId} {v : Value} {xs : List Value} (h : w.ownsRow B E size v n xs) (hb : Below w.heap.size w w') : w'.ownsRow B E size v n xs := by
  refine ⟨h.1, ?_⟩
  rcases h.2 with hn | ⟨g, cap, cur, rfl, hB, hgg, rest⟩
  · exact .inl hn
  · refine .inr ⟨g, cap, cur, rfl, hB, ?_, rest⟩
    rw [hb.block g (Array.getElem?_eq_some_iff.1 hgg).1]
    exact hgg

/-- What a call of the cursor's gives. -/
def SomeI (P : Int → Prop) (c n : Nat) (w : World) (e : Ending) (w' : World) : Prop := ∃ x : Int, e = .returned (.int .i64 x) ∧ P x ∧ Cur w' c n ∧ Chg c w w'

set_option maxHeartbeats 800000 in
theorem next_c (c n : Nat) (w : World) (h : Cur w c n) (hn : n ≤ 4611686018427387903) :
    Calls Tryz.prog 70 #[.pointer (some ⟨c, 0, none⟩)] w (SomeI (fun x => 0 ≤ x ∧ x ≤ 255) c (n + 1) w) := by
  obtain ⟨ad, len, cap, k, sd, h⟩ := h
  have c0 := h.own.cell? (i := 0) rfl
  have c1 := h.own.cell? (i := 1) rfl
  have c2 := h.own.cell? (i := 2) rfl
  have f0 := h.own.frozen 0
  have f1 := h.own.frozen 1
  have f2 := h.own.frozen 2
  have hk := h.at_
  have hlen := h.len
  have s0 := h.sd0
  have s1 := h.sd1
  by_cases hlt : k < len
  · obtain ⟨b, off, x, e, hb, cb, hx⟩ := h.rd k hlt
    subst e
    have H := Lib.hid h; clear h
    have x1 : (0 : Int) ≤ (k : Int) := by omega
    have x2 : (k : Int) < (len : Int) := by omega
    go_enter Tryz.func70, Tryz.ntmps70
    go_wp2_with fail
    go_quiet (fail)
    go_wp2_with fail
    go_quiet (fail)
    go_wp2_with fail
    go_quiet (fail)
    go_wp2_with fail
    go_ret
    exact ⟨x, rfl, hx, Cur.step H.out _ _ (u64_wrap_bd _).1 (u64_wrap_bd _).2⟩
  · have H := Lib.hid h; clear h
    go_enter Tryz.func70, Tryz.ntmps70
    go_wp2_with fail
    go_quiet (fail)
    go_wp2_with fail
    go_quiet (fail)
    go_wp2_with fail
    go_ret
    exact ⟨_, rfl, and255 _, Cur.step H.out _ _ (u64_wrap_bd _).1 (u64_wrap_bd _).2⟩

/-- What a call gives that returns a bool. -/
def SomeB (c n : Nat) (w : World) (e : Ending) (w' : World) : Prop := ∃ b : Bool, e = .returned (.bool b) ∧ Cur w' c n ∧ Chg c w w'

set_option maxHeartbeats 800000 in
theorem pick_c (m : Int) (c n : Nat) (w : World) (h : Cur w c n) (hn : n ≤ 4611686018427387901) :
    Calls Tryz.prog 44 #[.pointer (some ⟨c, 0, none⟩), .int .i64 m] w (SomeI (fun x => 0 ≤ x ∧ (x < m ∨ x = 0)) c (n + 2) w) := by
  have H := Lib.hid h; clear h
  by_cases h1 : m ≤ 1
  · go_enter Tryz.func44, Tryz.ntmps44
    go_wp2_with fail
    go_ret
    exact ⟨0, rfl, ⟨by omega, Or.inr rfl⟩, H.out.mono (by omega), Chg.refl _ _⟩
  · have hm0 : 0 ≤ m := by omega
    have hm1 : 1 ≤ m := by omega
    have hmz : (m == 0) = false := by simpa using (by omega : m ≠ 0)
    have hmp : ∀ x : Int, 0 ≤ x % m ∧ (x % m < m ∨ x % m = 0) := fun x => ⟨Int.emod_nonneg _ (by omega), Or.inl (Int.emod_lt_of_pos _ (by omega))⟩
    have HM := Lib.hid hmp; clear hmp
    by_cases h2 : m ≤ 200
    · go_enter Tryz.func44, Tryz.ntmps44
      go_wp2_with fail
      refine (next_c c n w H.out (by omega)).mono ?_
      rintro e w1 ⟨x, rfl, ⟨hx0, hx1⟩, hcu, hch⟩
      have HC := Lib.hid hcu; clear hcu
      go_wp2_with fail
      go_ret
      exact ⟨_, rfl, HM.out _, HC.out.mono (by omega), hch⟩
    · go_enter Tryz.func44, Tryz.ntmps44
      go_wp2_with fail
      refine (next_c c n w H.out (by omega)).mono ?_
      rintro e w1 ⟨x, rfl, ⟨hx0, hx1⟩, hcu, hch⟩
      have HC := Lib.hid hcu; clear hcu
      go_wp2_with fail
      refine (next_c c (n + 1) w1 HC.out (by omega)).mono ?_
      rintro e w2 ⟨y, rfl, ⟨hy0, hy1⟩, hcu2, hch2⟩
      have HC2 := Lib.hid hcu2; clear hcu2
      go_wp2_with fail
      go_ret
      exact ⟨_, rfl, HM.out _, HC2.out, hch.trans hch2⟩

set_option maxHeartbeats 800000 in
theorem one_c (m : Int) (c n : Nat) (w : World) (h : Cur w c n) (hn : n ≤ 4611686018427387901) :
    Calls Tryz.prog 72 #[.pointer (some ⟨c, 0, none⟩), .int .i64 m] w (SomeB c (n + 2) w) := by
  have H := Lib.hid h; clear h
  go_enter Tryz.func72, Tryz.ntmps72
  go_wp2_with fail
  refine (pick_c m c n w H.out hn).mono ?_
  rintro e w1 ⟨x, rfl, ⟨hx0, hx1⟩, hcu, hch⟩
  have HC := Lib.hid hcu; clear hcu
  go_wp2_with fail
  go_ret
  exact ⟨_, rfl, HC.out, hch⟩

set_option maxHeartbeats 800000 in
theorem among_c (g cap : Nat) (xs : List Int) (c n : Nat) (w : World) (h : Cur w c n) (hn : n ≤ 4611686018427387901) (h0 : 0 < xs.length) (hl : xs.length ≤ 1048576) (hg : g ≠ c) (hr : Own w g 3 (ints xs)) :
    Calls Tryz.prog 43 #[.pointer (some ⟨c, 0, none⟩), .slice (some ⟨g, 0, none⟩) xs.length cap] w (SomeI (fun x => x ∈ xs) c (n + 2) w) := by
  have H := Lib.hid h; clear h
  have HR := Lib.hid hr; clear hr
  go_enter Tryz.func43, Tryz.ntmps43
  go_wp2_with fail
  refine (pick_c xs.length c n w H.out hn).mono ?_
  rintro e w1 ⟨x, rfl, ⟨hx0, hx1⟩, hcu, hch⟩
  have HC := Lib.hid hcu; clear hcu
  obtain ⟨k, rfl⟩ : ∃ k : Nat, x = k := ⟨x.toNat, by omega⟩
  have hk : k < xs.length := by omega
  have ck := (HR.out.chg hch hg).cell? (i := k) (ints_get hk)
  have hmem : xs.getD k 0 ∈ xs := by rw [List.getD_eq_getElem?_getD, List.getElem?_eq_getElem hk]; exact List.getElem_mem hk
  generalize xs.getD k 0 = y at ck hmem
  have HM := Lib.hid hmem; clear hmem
  go_wp2_with fail
  go_ret
  exact ⟨_, rfl, HM.out, HC.out, hch⟩

end Go.Proofs.YtcionneopgdebaaGreat

/-
  Plane polynomials, plain: terms gathered, values, degrees, exchange. By an AI agent.
-/
namespace Go.Proofs.YtcionneopgdebaaGreat

/-- The exponents of a term come before those of another one. -/
def befP (a b : Tm) : Prop := a.i < b.i ∨ (a.i = b.i ∧ a.j < b.j)
instance (a b : Tm) : Decidable (befP a b) := by unfold befP; infer_instance
def sameE (a b : Tm) : Prop := a.i = b.i ∧ a.j = b.j
instance (a b : Tm) : Decidable (sameE a b) := by unfold sameE; infer_instance
/-- Terms with one more, or with the less coefficient. -/
def putT (l : List Tm) (t : Tm) : List Tm := match l with
  | [] => [t]
  | a :: r => if befP a t then a :: putT r t else if befP t a then t :: a :: r else ⟨t.i, t.j, min t.c a.c⟩ :: r
/-! ### Sorted terms, the first of each -/
/-! ### Values, degrees, exchange -/
end Go.Proofs.YtcionneopgdebaaGreat

/-
  Numbers with infinity: the program's functions and the reference's. Printed by gen_num.py.
-/
namespace Go.Proofs.YtcionneopgdebaaGreat
open Go.RowKit

def leastZ (a b : Int) : Int := if a < b then a else b
set_option maxHeartbeats 800000 in
theorem l1Least_n (a b : Int) (w : World) :
    Calls Tryz.prog 91 #[.int .i64 a, .int .i64 b] w fun e w' => e = .returned (.int .i64 (leastZ a b)) ∧ w = w' := by
  unfold leastZ
  by_cases h : a < b
  · rw [if_pos h]
    go_enter Tryz.func91, Tryz.ntmps91
    go_wp2_with fail
    go_ret
    exact ⟨rfl, rfl⟩
  · rw [if_neg h]
    go_enter Tryz.func91, Tryz.ntmps91
    go_wp2_with fail
    go_ret
    exact ⟨rfl, rfl⟩

end Go.Proofs.YtcionneopgdebaaGreat

/-
  Small numbers and places that the cursor draws. By an AI agent.
-/
namespace Go.Proofs.YtcionneopgdebaaGreat
open Go.RowKit

set_option maxHeartbeats 400000 in
theorem small_c (c n : Nat) (w : World) (h : Cur w c n) (hn : n ≤ 4611686018427380000) :
    Calls Tryz.prog 47 #[.pointer (some ⟨c, 0, none⟩)] w (SomeI (fun x => -4 ≤ x ∧ x ≤ 8) c (n + 2) w) := by
  have H := Lib.hid h; clear h
  go_enter Tryz.func47, Tryz.ntmps47
  go_wp2_with fail
  refine (pick_c 13 c n w H.out (by omega)).mono ?_
  rintro e w1 ⟨x, rfl, hx, hcu, hch⟩
  have e1 : IntKind.i64.wrap (x - 4) = x - 4 := i64_small (by omega) (by omega)
  have hx' := Lib.hid (show -4 ≤ x - 4 ∧ x - 4 ≤ 8 by omega)
  clear hx
  have HU := Lib.hid hcu; clear hcu
  go_wp2_with fail
  go_ret
  exact ⟨_, rfl, hx'.out, HU.out, hch⟩

set_option maxHeartbeats 3200000 in
set_option maxRecDepth 100000 in
theorem place_c (c n : Nat) (w : World) (h : Cur w c n) (hn : n ≤ 4611686018427370000) :
    Calls Tryz.prog 46 #[.pointer (some ⟨c, 0, none⟩)] w (SomeI (fun _ => True) c (n + 8) w) := by
  have hcl := h.lt
  have H := Lib.hid h; clear h
  go_enter Tryz.func46, Tryz.ntmps46
  have HF1 := Lib.hid (Chg.refl c w)
  go_wp2_with fail
  refine (small_c c n w H.out (by omega)).mono ?_
  rintro e w3 ⟨x2, rfl, -, hcu, hch⟩
  have HU4 := Lib.hid hcu; clear hcu
  have HF5 := Lib.hid (HF1.out.trans hch)
  clear hch
  have hz6 := HF5.out.size
  go_wp2_with fail
  refine (small_c c (n + 2) w3 HU4.out (by omega)).mono ?_
  rintro e w8 ⟨x7, rfl, -, hcu, hch⟩
  have HU9 := Lib.hid hcu; clear hcu
  have HF10 := Lib.hid (HF5.out.trans hch)
  clear hch
  have hz11 := HF10.out.size
  go_wp2_with fail
  have HU15 := Lib.hid (HU9.out.below ((Below.refl _ _).alloc (Nat.le_refl _) (.cells #[.int .i64 100000, .int .i64 (-100000), .int .i64 1000000, .int .i64 (-1000000), .int .i64 1000000000, .int .i64 (-9223372036854775808)] 3)))
  have hl16 := HU9.out.lt
  have HF17 := Lib.hid (HF10.out.trans (Chg.alloc c w8 (.cells #[.int .i64 100000, .int .i64 (-100000), .int .i64 1000000, .int .i64 (-1000000), .int .i64 1000000000, .int .i64 (-9223372036854775808)] 3)))
  refine (among_c w8.heap.size 6 [100000, -100000, 1000000, -1000000, 1000000000, -9223372036854775808] c (n + 4) (w8.alloc (.cells #[.int .i64 100000, .int .i64 (-100000), .int .i64 1000000, .int .i64 (-1000000), .int .i64 1000000000, .int .i64 (-9223372036854775808)] 3)) HU15.out (by omega) (by simp) (by simp) (by omega) (Own.newA w8 _ 3 rfl)).mono ?_
  rintro e w13 ⟨x12, rfl, hx, hcu, hch⟩
  clear hx
  have HU18 := Lib.hid hcu; clear hcu
  have HF19 := Lib.hid (HF17.out.trans hch)
  clear hch
  have hz20 := HF19.out.size
  go_wp2_with fail
  have HU24 := Lib.hid (HU18.out.below ((Below.refl _ _).alloc (Nat.le_refl _) (.cells #[.int .i64 0, .int .i64 1, .int .i64 (-1), .int .i64 2, .int .i64 x2, .int .i64 x7, .int .i64 x12] 3)))
  have hl25 := HU18.out.lt
  have HF26 := Lib.hid (HF19.out.trans (Chg.alloc c w13 (.cells #[.int .i64 0, .int .i64 1, .int .i64 (-1), .int .i64 2, .int .i64 x2, .int .i64 x7, .int .i64 x12] 3)))
  refine (among_c w13.heap.size 7 [0, 1, -1, 2, x2, x7, x12] c (n + 6) (w13.alloc (.cells #[.int .i64 0, .int .i64 1, .int .i64 (-1), .int .i64 2, .int .i64 x2, .int .i64 x7, .int .i64 x12] 3)) HU24.out (by omega) (by simp) (by simp) (by omega) (Own.newA w13 _ 3 rfl)).mono ?_
  rintro e w22 ⟨x21, rfl, hx, hcu, hch⟩
  clear hx
  have HU27 := Lib.hid hcu; clear hcu
  have HF28 := Lib.hid (HF26.out.trans hch)
  clear hch
  have hz29 := HF28.out.size
  go_wp2_with fail
  go_ret
  exact ⟨_, rfl, trivial, HU27.out.mono (by omega), HF28.out⟩

end Go.Proofs.YtcionneopgdebaaGreat

/-
  Whether the bytes of a law are too many.
-/
namespace Go.Proofs.YtcionneopgdebaaGreat
open Go.RowKit

def bigB (a b : Nat) : Bool := decide (1048576 < (a : Int)) || decide (1048576 - (a : Int) < (b : Int))
set_option maxHeartbeats 800000 in
theorem big_c (ad : Option Addr) (a cap : Nat) (ad' : Option Addr) (b cap' : Nat) (w : World) (ha : a ≤ 9223372036854775807) :
    Calls Tryz.prog 4 #[.slice ad a cap, .slice ad' b cap'] w fun e w' => e = .returned (.bool (bigB a b)) ∧ w = w' := by
  by_cases h1 : 1048576 < (a : Int)
  · have hd : bigB a b = true := by unfold bigB; simp [h1]
    have HD := Lib.hid hd; clear hd
    go_enter Tryz.func4, Tryz.ntmps4
    go_wp2_with fail
    go_ret
    exact ⟨ret_bool (by rw [HD.out]), rfl⟩
  · have h3 : bigB a b = decide (1048576 - (a : Int) < (b : Int)) := by unfold bigB; rw [decide_eq_false h1]; rfl
    have HD := Lib.hid h3; clear h3
    go_enter Tryz.func4, Tryz.ntmps4
    go_wp2_with fail
    go_ret
    exact ⟨ret_bool (by rw [HD.out]), rfl⟩

end Go.Proofs.YtcionneopgdebaaGreat
