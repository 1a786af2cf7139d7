/-
  Numbers as text: the reference's.
-/
import Derived.Test.YtjkfighooijblaaGreatNum
import Derived.Laws.BytesArg
import Derived.WalkSpells
import Derived.WalkLawsBesides
import Derived.Deep.RegionHeld3
import Derived.Lib.ItoaNum
import Derived.Lib.ItoaLen
import Derived.Lib.ItoaWalk
import Derived.Lib.AtoiTie
import Derived.Laws.Concat
namespace Go.Proofs.YtjkfighooijblaaGreat
open Go.RowKit

def strV (l : List UInt8) : Value := .string ⟨l.toArray⟩
theorem conv_cell (W : World) (g : Nat) (z : Int) (h : W.cell? ⟨g, 0, none⟩ = some (.int .u8 z)) :
    (convert 22 9 (.slice (some ⟨g, 0, none⟩) 1 1)).run Tryz.prog W = .ok (strV [UInt8.ofNat z.toNat]) W := by
  have := run_convert_bytes_arg (P := Tryz.prog) W 22 5 Tryz.underlying22 Tryz.underlying5 g 0 1 1 [z] rfl (fun i hi => by
    obtain rfl : i = 0 := by omega
    simpa using h) 9 Tryz.underlying9
  rw [this]
  rfl
theorem one_str (w : World) (z : Int) :
    (convert 22 9 (.slice (some ⟨w.heap.size, 0, none⟩) 1 1)).run Tryz.prog (w.alloc (.cells #[.int .u8 z] 5)) = .ok (strV [UInt8.ofNat z.toNat]) (w.alloc (.cells #[.int .u8 z] 5)) := conv_cell _ _ _ (by simp [go_sem])
theorem cell_one {w w' : World} {z : Int} (h : Below (w.alloc (.cells #[.int .u8 z] 5)).drew.heap.size (w.alloc (.cells #[.int .u8 z] 5)).drew w') : w'.cell? ⟨w.heap.size, 0, none⟩ = some (.int .u8 z) :=
  bcell h (p := ⟨w.heap.size, 0, none⟩) (by simp) (show (w.alloc (.cells #[.int .u8 z] 5)).cell? ⟨w.heap.size, 0, none⟩ = some (.int .u8 z) by simp [go_sem])

theorem u8_in {x : Int} (h0 : 0 ≤ x) (h1 : x ≤ 255) : IntKind.u8.wrap x = x := by simp [IntKind.wrap, IntKind.bits, IntKind.signed]; omega

theorem nDig_low : ∀ u : Nat, 1 < Lib.nDigits u → 10 ^ (Lib.nDigits u - 1) ≤ u := by
  intro u
  induction u using Nat.strongRecOn with
  | _ u ih =>
    intro h
    by_cases h10 : u < 10
    · rw [Lib.nDigits_small h10] at h; omega
    · rw [Lib.nDigits_big h10, Nat.add_sub_cancel]
      by_cases h1 : 1 < Lib.nDigits (u / 10)
      · have h2 := ih (u / 10) (by omega) h1
        obtain ⟨k, hk⟩ : ∃ k, Lib.nDigits (u / 10) = k + 1 := ⟨Lib.nDigits (u / 10) - 1, by omega⟩
        rw [hk] at h2 ⊢
        rw [Nat.add_sub_cancel] at h2
        rw [Nat.pow_succ]; omega
      · have h2 := Lib.nDigits_pos (u / 10)
        rw [show Lib.nDigits (u / 10) = 1 by omega]; omega
def infL : List UInt8 := [105, 110, 102]
/-- The text of a number. -/
def numTxt (n : Int) : List UInt8 := if n = 1000000000 then infL else Lib.itoa n
theorem itoa_len {n : Int} (h0 : -1000000000000000000 ≤ n) (h1 : n ≤ 1000000000000000000) : (Lib.itoa n).length ≤ 21 := Lib.itoa_length_le n (by omega) (by omega)

def txtR (n : Int) : Value := .tuple #[strV (if numB n = true then numTxt n else []), .bool (numB n)]

/-! ### Reading -/
theorem idx_str (s : ByteArray) (k : Nat) (hk : k < s.size) (w : World) :
    (Instr.index 9 (.string s) (.int .i64 (k : Int))).run Tryz.prog w = .ok (.int .u8 ((s.toList.getD k 0).toNat : Int)) w := by
  rw [run_index_string (P := Tryz.prog) w 9 s .i64 k Tryz.underlying9, dif_pos ⟨by omega, by omega⟩, ByteArray.toList_eq, ← Lib.getD_at s k hk]
  rfl
theorem len_str (s : ByteArray) : s.toList.length = s.size := by
  rw [ByteArray.toList_eq]
  exact Array.length_toList
theorem getD_some (l : List UInt8) (k : Nat) (h : k < l.length) : l[k]? = some (l.getD k 0) := by
  rw [List.getD_eq_getElem?_getD, List.getElem?_eq_getElem h, Option.getD_some]
def nuReadF (l : List UInt8) : Int := if inB l.length 1 10 = true ∧ ¬ ((l.getD 0 0).toNat = 48 ∧ 1 < l.length) then (match Lib.decFrom 0 l with | some n => (n : Int) | none => -1) else -1

theorem u8_bd (b : UInt8) : b.toNat ≤ 255 := by have := b.toNat_lt; omega
theorem decFrom_bad {l : List UInt8} {k : Nat} (hk : k < l.length) (h : (l.getD k 0).toNat < 48 ∨ 57 < (l.getD k 0).toNat) : Lib.decFrom 0 l = none := by
  cases hc : Lib.decFrom 0 l with
  | none => rfl
  | some n =>
    obtain ⟨d, hd⟩ := Lib.digit_of_decFrom l 0 n hc k _ (getD_some l k hk)
    have := Lib.digitVal_eq hd
    omega
theorem decFrom_step {l : List UInt8} {k m : Nat} (hk : k < l.length) (hm : Lib.decFrom 0 (l.take k) = some m) (h : 48 ≤ (l.getD k 0).toNat ∧ (l.getD k 0).toNat ≤ 57) : Lib.decFrom 0 (l.take (k + 1)) = some (m * 10 + ((l.getD k 0).toNat - 48)) :=
  Lib.decFrom_take l k 0 m _ _ hm (getD_some l k hk) (by unfold Lib.digitVal; rw [if_pos h])
theorem decFrom_bd {l : List UInt8} {k m : Nat} (hk : k ≤ 10) (hm : Lib.decFrom 0 (l.take k) = some m) : m < 10000000000 := by
  have h := Lib.decFrom_lt _ _ _ hm
  have h2 : (l.take k).length ≤ 10 := by rw [List.length_take]; omega
  have h3 : (10 : Nat) ^ (l.take k).length ≤ 10 ^ 10 := Nat.pow_le_pow_right (by omega) h2
  have h4 : (10 : Nat) ^ 10 = 10000000000 := by decide
  omega

theorem nuReadF_bd (l : List UInt8) : -1 ≤ nuReadF l ∧ nuReadF l < 10000000000 := by
  unfold nuReadF
  split
  · rename_i h
    have h1 := inB_t.1 h.1
    split
    · rename_i n hn
      have := decFrom_bd (l := l) (k := l.length) (by omega) (by rw [List.take_length]; exact hn)
      omega
    · omega
  · omega
def nuParseN (l : List UInt8) : Int := if l = infL then 1000000000 else if 1 < l.length ∧ (l.getD 0 0).toNat = 45 then -(nuReadF (l.drop 1)) else nuReadF l
def nuParseR (l : List UInt8) : Int × Bool := if numB (nuParseN l) = true ∧ numTxt (nuParseN l) = l then (nuParseN l, true) else (0, false)
theorem nuParseN_bd (l : List UInt8) : -10000000000 < nuParseN l ∧ nuParseN l < 10000000000 := by
  unfold nuParseN
  split
  · omega
  · split
    · have := nuReadF_bd (l.drop 1); omega
    · have := nuReadF_bd l; omega
def pairQ (r : Int × Bool) : Value := .tuple #[.int .i64 r.1, .bool r.2]
theorem slice_from (s : ByteArray) (i : Int) (h0 : 0 ≤ i) (h : i ≤ s.size) (w : World) :
    (Instr.slice 9 (.string s) (some (.int .i64 i)) none none).run Tryz.prog w = .ok (.string (s.extract i.toNat s.size)) w := by
  simp [Instr.slice, Instr.sliceBounds, Instr.sliceBound, asIntOf, run_underlying (P := Tryz.prog) Tryz.underlying9, h0, h]
  try omega
theorem ext_toList (s : ByteArray) : (s.extract 1 s.size).toList = s.toList.drop 1 := by
  rw [ByteArray.toList_eq, ByteArray.toList_eq, ByteArray.data_extract, Array.toList_extract, List.extract]
  exact List.take_of_length_le (by rw [List.length_drop]; exact Nat.le_refl _)

end Go.Proofs.YtjkfighooijblaaGreat
