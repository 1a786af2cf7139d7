/-
  The numbers and the texts that the cursor draws. Printed by gen_drawn.py.
-/
import Derived.Test.YtnbenpalneodlaaCur
import Derived.Test.YtnbenpalneodlaaNumT
namespace Go.Proofs.Ytnbenpalneodlaa
open Go.RowKit

set_option maxHeartbeats 1600000 in
set_option maxRecDepth 100000 in
theorem num_c (c n : Nat) (w : World) (h : Cur w c n) (hn : n ≤ 4611686018427380000) :
    Calls Try.prog 44 #[.pointer (some ⟨c, 0, none⟩)] w (SomeI (fun x => numB x = true) c (n + 4) w) := by
  have hcl := h.lt
  have H := Lib.hid h; clear h
  go_enter Try.func44, Try.ntmps44
  have HF1 := Lib.hid (Chg.refl c w)
  go_wp2_with fail
  refine (pick_c 12 c n w H.out (by omega)).mono ?_
  rintro e w3 ⟨x2, rfl, hp4, hcu, hch⟩
  have HU5 := Lib.hid hcu; clear hcu
  have HF6 := Lib.hid (HF1.out.trans hch)
  clear hch
  have hz7 := HF6.out.size
  by_cases h1 : x2 = 0
  case pos =>
    subst h1
    go_wp2_with fail
    go_ret
    exact ⟨_, rfl, by decide, HU5.out.mono (by omega), HF6.out⟩
  case neg =>
    have e1 : (x2 == 0) = false := beq_eq_false_iff_ne.2 h1
    by_cases h2 : x2 = 1
    case pos =>
      subst h2
      go_wp2_with fail
      have HU11 := Lib.hid (HU5.out.below ((Below.refl _ _).alloc (Nat.le_refl _) (.cells #[.int .i64 1000000, .int .i64 (-1000000), .int .i64 500000, .int .i64 (-500001)] 3)))
      have hl12 := HU5.out.lt
      have HF13 := Lib.hid (HF6.out.trans (Chg.alloc c w3 (.cells #[.int .i64 1000000, .int .i64 (-1000000), .int .i64 500000, .int .i64 (-500001)] 3)))
      refine (among_c w3.heap.size 4 [1000000, -1000000, 500000, -500001] c (n + 2) (w3.alloc (.cells #[.int .i64 1000000, .int .i64 (-1000000), .int .i64 500000, .int .i64 (-500001)] 3)) HU11.out (by omega) (by simp) (by simp) (by omega) (Own.newA w3 _ 3 rfl)).mono ?_
      rintro e w9 ⟨x8, rfl, hx, hcu, hch⟩
      have hm10 : x8 = 1000000 ∨ x8 = -1000000 ∨ x8 = 500000 ∨ x8 = -500001 := by simp at hx; omega
      clear hx
      have HU14 := Lib.hid hcu; clear hcu
      have HF15 := Lib.hid (HF13.out.trans hch)
      clear hch
      have hz16 := HF15.out.size
      have hg : numB x8 = true := by rcases hm10 with h | h | h | h <;> (rw [h]; decide)
      have HG := Lib.hid hg; clear hg hm10
      go_wp2_with fail
      go_ret
      exact ⟨_, rfl, HG.out, HU14.out.mono (by omega), HF15.out⟩
    case neg =>
      have e2 : (x2 == 1) = false := beq_eq_false_iff_ne.2 h2
      go_wp2_with fail
      refine (pick_c 13 c (n + 2) w3 HU5.out (by omega)).mono ?_
      rintro e w18 ⟨x17, rfl, hp19, hcu, hch⟩
      have HU20 := Lib.hid hcu; clear hcu
      have HF21 := Lib.hid (HF6.out.trans hch)
      clear hch
      have hz22 := HF21.out.size
      have w1 : IntKind.i64.wrap (x17 - 4) = x17 - 4 := i64_small (by omega) (by omega)
      have HG := Lib.hid (show numB (x17 - 4) = true by unfold numB; rw [show inB (x17 - 4) (-1000000) 1000000 = true from inB_t.2 (by omega)]; rfl)
      go_wp2_with fail
      go_ret
      exact ⟨_, rfl, HG.out, HU20.out.mono (by omega), HF21.out⟩

set_option maxHeartbeats 1600000 in
set_option maxRecDepth 100000 in
theorem anyNum_c (c n : Nat) (w : World) (h : Cur w c n) (hn : n ≤ 4611686018427370000) :
    Calls Try.prog 45 #[.pointer (some ⟨c, 0, none⟩)] w (SomeI (fun _ => True) c (n + 6) w) := by
  have hcl := h.lt
  have H := Lib.hid h; clear h
  go_enter Try.func45, Try.ntmps45
  have HF1 := Lib.hid (Chg.refl c w)
  go_wp2_with fail
  refine (one_c 12 c n w H.out (by omega)).mono ?_
  rintro e w3 ⟨b2, rfl, hcu, hch⟩
  have HU4 := Lib.hid hcu; clear hcu
  have HF5 := Lib.hid (HF1.out.trans hch)
  clear hch
  have hz6 := HF5.out.size
  cases b2
  case true =>
    go_wp2_with fail
    have HU10 := Lib.hid (HU4.out.below ((Below.refl _ _).alloc (Nat.le_refl _) (.cells #[.int .i64 1000001, .int .i64 (-1000001), .int .i64 1000000001, .int .i64 999999999, .int .i64 (-9223372036854775808), .int .i64 9223372036854775807] 3)))
    have hl11 := HU4.out.lt
    have HF12 := Lib.hid (HF5.out.trans (Chg.alloc c w3 (.cells #[.int .i64 1000001, .int .i64 (-1000001), .int .i64 1000000001, .int .i64 999999999, .int .i64 (-9223372036854775808), .int .i64 9223372036854775807] 3)))
    refine (among_c w3.heap.size 6 [1000001, -1000001, 1000000001, 999999999, -9223372036854775808, 9223372036854775807] c (n + 2) (w3.alloc (.cells #[.int .i64 1000001, .int .i64 (-1000001), .int .i64 1000000001, .int .i64 999999999, .int .i64 (-9223372036854775808), .int .i64 9223372036854775807] 3)) HU10.out (by omega) (by simp) (by simp) (by omega) (Own.newA w3 _ 3 rfl)).mono ?_
    rintro e w8 ⟨x7, rfl, hx, hcu, hch⟩
    clear hx
    have HU13 := Lib.hid hcu; clear hcu
    have HF14 := Lib.hid (HF12.out.trans hch)
    clear hch
    have hz15 := HF14.out.size
    go_wp2_with fail
    go_ret
    exact ⟨_, rfl, trivial, HU13.out.mono (by omega), HF14.out⟩
  case false =>
    go_wp2_with fail
    refine (num_c c (n + 2) w3 HU4.out (by omega)).mono ?_
    rintro e w9 ⟨x9, rfl, hx9, hcu, hch⟩
    have HU16 := Lib.hid hcu; clear hcu
    have HF17 := Lib.hid (HF5.out.trans hch)
    clear hch
    have hz18 := HF17.out.size
    go_wp2_with fail
    go_ret
    exact ⟨_, rfl, trivial, HU16.out.mono (by omega), HF17.out⟩

/-- Strings of a block. -/
def strs (xs : List ByteArray) : List Value := xs.map Value.string
def SomeS (P : ByteArray → Prop) (c n : Nat) (w : World) (e : Ending) (w' : World) : Prop := ∃ u : ByteArray, e = .returned (.string u) ∧ P u ∧ Cur w' c n ∧ Chg c w w'

theorem slice_to (s : ByteArray) (i : Int) (h0 : 0 ≤ i) (h : i ≤ s.size) (w : World) :
    (Instr.slice 9 (.string s) none (some (.int .i64 i)) none).run Try.prog w = .ok (.string (s.extract 0 i.toNat)) w := by
  simp [Instr.slice, Instr.sliceBounds, Instr.sliceBound, asIntOf, run_underlying (P := Try.prog) Try.underlying9, h0, h]
theorem add_str (a b : ByteArray) (h : a.size + b.size ≤ 9223372036854775807) (w : World) : (Op.stringOp .add a b).run Try.prog w = .ok (.string (a ++ b)) w := run_string_add_sum w a b h

end Go.Proofs.Ytnbenpalneodlaa
