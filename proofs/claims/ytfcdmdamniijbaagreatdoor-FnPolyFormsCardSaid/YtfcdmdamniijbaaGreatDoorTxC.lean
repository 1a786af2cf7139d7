/-
  Some texts of this proof in one: TxC SpW Parts. Each part tells what it proves. By an AI agent.
-/
import Derived.Test.YtfcdmdamniijbaaGreatDoorTxP
import Derived.Shelf.Strconv.AtoiAll
import Derived.Shelf.Strings.Split

/-
  The library's cutting, splitting and reading of numbers, for texts of any length. By an AI agent.
-/
namespace Go.Proofs.YtfcdmdamniijbaaGreatDoor
open Go.RowKit

/-- What Atoi gives at any text. -/
def AtoiW (l : List UInt8) (v : Value) : Prop := match atoiO l with
  | some n => v = .tuple #[.int .i64 n, .nilIface]
  | none => ∃ m tp p, v = .tuple #[.int .i64 m, .iface tp p]
theorem atoi_G (P : List UInt8) (w : World) (hs : P.length ≤ 1000000000) (hL : LaidL w) :
    Calls Tryz.prog 79 #[.string ⟨P.toArray⟩] w fun e w' => (∃ v, e = .returned v ∧ AtoiW P v) ∧ Below w.heap.size w w' := by
  have hsz : (⟨P.toArray⟩ : ByteArray).size ≤ 1000000000 := by simpa [ByteArray.size] using hs
  unfold AtoiW atoiO
  rcases h : Lib.atoiAll P with n | _ | _
  · refine (Tryz.strconv_Atoi_ok ⟨P.toArray⟩ (by omega) n (by simpa using h) w).mono ?_
    rintro e w' ⟨he, hw⟩
    refine ⟨⟨_, he, rfl⟩, ?_⟩
    rcases hw with rfl | ⟨t, rfl⟩
    · exact Below.refl _ _
    · exact Lib.bytesWorld_below _ _ _
  · obtain ⟨tp, p, hc⟩ := hL.s.syn
    refine (Any.strconv_Atoi_syntax Tryz.laysC172 ⟨P.toArray⟩ (by omega) (by simpa using h) _ w hc (Or.inr ⟨tp, p, rfl⟩)).mono ?_
    rintro e w' ⟨N, he, _, _, hb⟩
    exact ⟨⟨_, he, _, _, _, rfl⟩, hb⟩
  · obtain ⟨tp, p, hc⟩ := hL.s.rng
    refine (Any.strconv_Atoi_range Tryz.laysC172 ⟨P.toArray⟩ (by omega) (by simpa using h) _ w hc (Or.inr ⟨tp, p, rfl⟩)).mono ?_
    rintro e w' ⟨N, he, _, _, hb⟩
    exact ⟨⟨_, he, _, _, _, rfl⟩, hb⟩
end Go.Proofs.YtfcdmdamniijbaaGreatDoor

/-
  The program's reading of numbers with separators between them, for separators of one byte. By an AI agent.
-/
namespace Go.Proofs.YtfcdmdamniijbaaGreatDoor
open Go.RowKit

def oneB (c : UInt8) : ByteArray := ⟨#[c]⟩
theorem oneB_ne (c : UInt8) : (oneB c).isEmpty = false := rfl
theorem strs_app (a b : List ByteArray) : strs a ++ strs b = strs (a ++ b) := by simp [strs]
theorem strs_get {xs : List ByteArray} {k : Nat} (hk : k < xs.length) : (strs xs)[k]? = some (.string (xs.getD k default)) := by
  unfold strs
  rw [List.getElem?_map, List.getElem?_eq_getElem hk, List.getD_eq_getElem?_getD, List.getElem?_eq_getElem hk]; rfl
theorem sep_at {sp : List UInt8} {k : Nat} (hk : k < sp.length) : (strs (sp.map oneB ++ [⟨#[]⟩]))[k]? = some (.string ⟨[sp.getD k 0].toArray⟩) := by
  rw [strs_get (by simp; omega), List.getD_eq_getElem?_getD, List.getElem?_append_left (by simp; omega), List.getElem?_map, List.getD_eq_getElem?_getD, List.getElem?_eq_getElem hk]
  rfl
theorem sep_end (sp : List UInt8) : (strs (sp.map oneB ++ [⟨#[]⟩]))[sp.length]? = some (.string ⟨#[]⟩) := by
  rw [strs_get (by simp), List.getD_eq_getElem?_getD, List.getElem?_append_right (by simp)]
  simp

end Go.Proofs.YtfcdmdamniijbaaGreatDoor

/-
  The program's parts of a text, and its reading of numbers with one separator or two. By an AI agent.
-/
namespace Go.Proofs.YtfcdmdamniijbaaGreatDoor
open Go.RowKit

theorem splitB_ne (b : Nat) : ∀ l, splitB b l ≠ []
  | [] => by simp [splitB]
  | x :: l => by
    unfold splitB
    split
    · simp
    · split <;> simp
theorem splitB_len (b : Nat) : ∀ l, (splitB b l).length ≤ l.length + 1
  | [] => by simp [splitB]
  | x :: l => by
    have ih := splitB_len b l
    unfold splitB
    split
    · simp; omega
    · cases h : splitB b l with
      | nil => exact absurd h (splitB_ne b l)
      | cons p ps => rw [h] at ih; simp at ih ⊢; omega
theorem splitB_mem_len (b : Nat) : ∀ l, ∀ p ∈ splitB b l, p.length ≤ l.length
  | [], p, hp => by simp [splitB] at hp; simp [hp]
  | x :: l, p, hp => by
    have ih := splitB_mem_len b l
    unfold splitB at hp
    split at hp
    · rcases List.mem_cons.1 hp with h | h
      · simp [h]
      · have := ih p h; simp; omega
    · cases h : splitB b l with
      | nil => exact absurd h (splitB_ne b l)
      | cons q ps =>
        rw [h] at hp
        rcases List.mem_cons.1 hp with h1 | h1
        · have := ih q (by rw [h]; simp)
          subst h1; simp; omega
        · have := ih p (by rw [h]; simp [h1])
          simp; omega
theorem bytes_back (x : ByteArray) : (⟨x.toList.toArray⟩ : ByteArray) = x := by
  apply ByteArray.ext
  rw [ByteArray.toList_eq]
theorem emp_eq (l : List UInt8) : l.isEmpty = decide (l = []) := by cases l <;> simp

end Go.Proofs.YtfcdmdamniijbaaGreatDoor
