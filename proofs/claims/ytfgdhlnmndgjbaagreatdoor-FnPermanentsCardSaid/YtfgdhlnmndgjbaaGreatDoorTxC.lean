/-
  Some texts of this proof in one: TxC SpW Parts. Each part tells what it proves. By an AI agent.
-/
import Derived.Test.YtfgdhlnmndgjbaaGreatDoorTxP
import Derived.Shelf.Strconv.AtoiAll
import Derived.Shelf.Strings.Split

/-
  The library's cutting, splitting and reading of numbers, for texts of any length. By an AI agent.
-/
namespace Go.Proofs.YtfgdhlnmndgjbaaGreatDoor
open Go.RowKit

/-- What Atoi gives at any text. -/
def AtoiW (l : List UInt8) (v : Value) : Prop := match atoiO l with
  | some n => v = .tuple #[.int .i64 n, .nilIface]
  | none => ∃ m tp p, v = .tuple #[.int .i64 m, .iface tp p]
theorem atoi_G (P : List UInt8) (w : World) (hs : P.length ≤ 1000000000) (hL : LaidL w) :
    Calls Tryz.prog 94 #[.string ⟨P.toArray⟩] w fun e w' => (∃ v, e = .returned v ∧ AtoiW P v) ∧ Below w.heap.size w w' := by
  have hsz : (⟨P.toArray⟩ : ByteArray).size ≤ 1000000000 := by simpa [ByteArray.size] using hs
  unfold AtoiW atoiO
  rcases h : Lib.atoiAll P with n | _ | _
  · refine (Tryz.strconv_Atoi_ok ⟨P.toArray⟩ (by omega) n (by simpa using h) w).mono ?_
    rintro e w' ⟨he, hw⟩
    refine ⟨⟨_, he, rfl⟩, ?_⟩
    rcases hw with rfl | ⟨t, rfl⟩
    · exact Below.refl _ _
    · exact Lib.bytesWorld_below _ _ _
  · obtain ⟨tp, p, hc⟩ := hL.s.syn
    refine (Any.strconv_Atoi_syntax Tryz.laysC172 ⟨P.toArray⟩ (by omega) (by simpa using h) _ w hc (Or.inr ⟨tp, p, rfl⟩)).mono ?_
    rintro e w' ⟨N, he, _, _, hb⟩
    exact ⟨⟨_, he, _, _, _, rfl⟩, hb⟩
  · obtain ⟨tp, p, hc⟩ := hL.s.rng
    refine (Any.strconv_Atoi_range Tryz.laysC172 ⟨P.toArray⟩ (by omega) (by simpa using h) _ w hc (Or.inr ⟨tp, p, rfl⟩)).mono ?_
    rintro e w' ⟨N, he, _, _, hb⟩
    exact ⟨⟨_, he, _, _, _, rfl⟩, hb⟩
theorem split_G (s : ByteArray) (c : UInt8) (w : World) (hs : s.size ≤ 1000000000) (hL : LaidL w) :
    Calls Tryz.prog 75 #[.string s, .string ⟨#[c]⟩] w fun e w' => ∃ D : List ByteArray, e = .returned (.slice (some ⟨w.heap.size, 0, none⟩) D.length D.length) ∧ w' = w.alloc (.cells (strs D).toArray 9) ∧ D.map (·.toList) = splitB c.toNat s.toList := by
  obtain ⟨m, hm⟩ := hL.m
  refine (Tryz.strings_Split s ⟨#[c]⟩ m w (by omega) hm (Nat.le_refl 1)).mono ?_
  rintro e w' ⟨rfl, rfl⟩
  have hlen := Lib.splitB_all ⟨#[c]⟩ (Nat.le_refl 1) 0 (Lib.countB s ⟨#[c]⟩) s rfl
  refine ⟨Lib.splitB ⟨#[c]⟩ 0 (Lib.countB s ⟨#[c]⟩) s, by rw [hlen], rfl, ?_⟩
  have h1 := Lib.splitB_data ⟨#[c]⟩ 0 (Lib.countB s ⟨#[c]⟩) s
  have h2 : Lib.countB s ⟨#[c]⟩ = s.data.toList.count c := by
    exact Lib.count_one c s.data.toList
  have h3 : (fun x : ByteArray => x.toList) = fun x => x.data.toList := by funext x; exact ByteArray.toList_eq _
  rw [h3, h1, ByteArray.toList_eq, ← splitK_eq c _ _ rfl, h2]
end Go.Proofs.YtfgdhlnmndgjbaaGreatDoor

/-
  The program's reading of numbers with separators between them, for separators of one byte. By an AI agent.
-/
namespace Go.Proofs.YtfgdhlnmndgjbaaGreatDoor
open Go.RowKit

def oneB (c : UInt8) : ByteArray := ⟨#[c]⟩
theorem oneB_ne (c : UInt8) : (oneB c).isEmpty = false := rfl
theorem strs_app (a b : List ByteArray) : strs a ++ strs b = strs (a ++ b) := by simp [strs]
theorem strs_get {xs : List ByteArray} {k : Nat} (hk : k < xs.length) : (strs xs)[k]? = some (.string (xs.getD k default)) := by
  unfold strs
  rw [List.getElem?_map, List.getElem?_eq_getElem hk, List.getD_eq_getElem?_getD, List.getElem?_eq_getElem hk]; rfl
theorem sep_at {sp : List UInt8} {k : Nat} (hk : k < sp.length) : (strs (sp.map oneB ++ [⟨#[]⟩]))[k]? = some (.string ⟨[sp.getD k 0].toArray⟩) := by
  rw [strs_get (by simp; omega), List.getD_eq_getElem?_getD, List.getElem?_append_left (by simp; omega), List.getElem?_map, List.getD_eq_getElem?_getD, List.getElem?_eq_getElem hk]
  rfl
theorem sep_end (sp : List UInt8) : (strs (sp.map oneB ++ [⟨#[]⟩]))[sp.length]? = some (.string ⟨#[]⟩) := by
  rw [strs_get (by simp), List.getD_eq_getElem?_getD, List.getElem?_append_right (by simp)]
  simp

end Go.Proofs.YtfgdhlnmndgjbaaGreatDoor

/-
  The program's parts of a text, and its reading of numbers with one separator or two. By an AI agent.
-/
namespace Go.Proofs.YtfgdhlnmndgjbaaGreatDoor
open Go.RowKit

theorem splitB_ne (b : Nat) : ∀ l, splitB b l ≠ []
  | [] => by simp [splitB]
  | x :: l => by
    unfold splitB
    split
    · simp
    · split <;> simp
theorem splitB_len (b : Nat) : ∀ l, (splitB b l).length ≤ l.length + 1
  | [] => by simp [splitB]
  | x :: l => by
    have ih := splitB_len b l
    unfold splitB
    split
    · simp; omega
    · cases h : splitB b l with
      | nil => exact absurd h (splitB_ne b l)
      | cons p ps => rw [h] at ih; simp at ih ⊢; omega
theorem splitB_mem_len (b : Nat) : ∀ l, ∀ p ∈ splitB b l, p.length ≤ l.length
  | [], p, hp => by simp [splitB] at hp; simp [hp]
  | x :: l, p, hp => by
    have ih := splitB_mem_len b l
    unfold splitB at hp
    split at hp
    · rcases List.mem_cons.1 hp with h | h
      · simp [h]
      · have := ih p h; simp; omega
    · cases h : splitB b l with
      | nil => exact absurd h (splitB_ne b l)
      | cons q ps =>
        rw [h] at hp
        rcases List.mem_cons.1 hp with h1 | h1
        · have := ih q (by rw [h]; simp)
          subst h1; simp; omega
        · have := ih p (by rw [h]; simp [h1])
          simp; omega
theorem bytes_back (x : ByteArray) : (⟨x.toList.toArray⟩ : ByteArray) = x := by
  apply ByteArray.ext
  rw [ByteArray.toList_eq]
theorem emp_eq (l : List UInt8) : l.isEmpty = decide (l = []) := by cases l <;> simp

set_option maxHeartbeats 1600000 in
theorem parts_c (s : ByteArray) (w : World) (hs : s.size ≤ 1000000) (hL : LaidL w) :
    Calls Tryz.prog 41 #[.string s] w fun e w' => ∃ (D : List ByteArray) (cap : Nat), e = .returned (.tuple #[.slice (some ⟨w.heap.size, 0, none⟩) (D.length - 1) cap, .bool (decide ((splitB 59 s.toList).getLastD [] = []))]) ∧ Own w' w.heap.size 9 (strs D) ∧ D.map (·.toList) = splitB 59 s.toList ∧ D.length ≤ cap ∧ cap ≤ 1000001 ∧ Below w.heap.size w w' := by
  have cs := split_G s 59 w (by omega) hL
  rw [show (59 : UInt8).toNat = 59 from rfl] at cs
  clear hL
  have hlen := len_str s
  obtain ⟨l, hl⟩ : ∃ l, s.toList = l := ⟨_, rfl⟩
  rw [hl] at cs hlen ⊢
  have hne := splitB_ne 59 l
  have hsl : (splitB 59 l).length ≤ l.length + 1 := splitB_len 59 l
  obtain ⟨S, hS⟩ : ∃ S, splitB 59 l = S := ⟨_, rfl⟩
  rw [hS] at cs hne hsl ⊢
  have HNE := Lib.hid hne
  clear hne hS hl
  have CS := Lib.hid cs; clear cs
  go_enter Tryz.func41, Tryz.ntmps41
  go_wp2_with fail
  refine CS.out.mono ?_
  rintro e w1 ⟨D, rfl, rfl, hD⟩
  have hDl : D.length = S.length := by rw [← hD, List.length_map]
  have hDle : D.length ≤ 1000001 := by omega
  have hb : Below w.heap.size w (w.alloc (.cells (strs D).toArray 9)) := (Below.refl _ _).alloc (Nat.le_refl _) _
  have ho : Own (w.alloc (.cells (strs D).toArray 9)) w.heap.size 9 (strs D) := Own.newA w _ _ rfl
  obtain ⟨m, hm⟩ : ∃ m, D.length = m + 1 := ⟨D.length - 1, by have := HNE.out; have : S.length ≠ 0 := fun h => this (List.length_eq_zero_iff.1 h); omega⟩
  have hc := ho.cell? (i := m) (strs_get (by omega))
  have hlast : (S.getLastD []) = (D.getD m default).toList := by
    rw [← hD, List.getLastD_eq_getLast?, List.getLast?_eq_getElem?, List.length_map, hm, List.getElem?_map, List.getD_eq_getElem?_getD]
    simp only [Nat.add_sub_cancel]
    rw [List.getElem?_eq_getElem (by omega)]
    rfl
  obtain ⟨X, hX⟩ : ∃ X, D.getD m default = X := ⟨_, rfl⟩
  rw [hX] at hc hlast
  have hu : X.toList.isEmpty = decide (S.getLastD [] = []) := by rw [hlast, emp_eq]
  obtain ⟨u, hu2⟩ : ∃ u, decide (S.getLastD [] = []) = u := ⟨_, rfl⟩
  rw [hu2] at hu
  have HU := Lib.hid hu2
  have HO := Lib.hid ho; have HD := Lib.hid hD
  have HDL := Lib.hid hDle
  have HM := Lib.hid hm
  clear hX hlast hu2 ho hD hDl hDle hsl
  obtain ⟨q, hq⟩ : ∃ q, D.length = q := ⟨_, rfl⟩
  rw [hq] at hm
  have HQ := Lib.hid hq
  rw [hq]
  subst hm
  clear hq
  generalize w.alloc (.cells (strs D).toArray 9) = w1 at hb hc HO ⊢
  have n1 : (((m + 1 : Nat) : Int)) - 1 = (m : Int) := by omega
  have n2 : ((m : Int) + 1) - 1 = (m : Int) := by omega
  have hm6 : m ≤ 1000000 := by have := HDL.out; have := HQ.out; omega
  have p1 : IntKind.i64.wrap (m : Int) = (m : Int) := i64_small (by omega) (by omega)
  have p2 : m ≤ m + 1 := by omega
  have p3 : m < m + 1 := by omega
  go_wp2_with fail
  go_quiet (fail)
  go_wp2_with fail
  go_ret2
  exact ⟨D, m + 1, by rw [HU.out, HQ.out]; rfl, HO.out, HD.out, by have := HQ.out; omega, by have := HQ.out; omega, bdrewN hb _⟩

end Go.Proofs.YtfgdhlnmndgjbaaGreatDoor
