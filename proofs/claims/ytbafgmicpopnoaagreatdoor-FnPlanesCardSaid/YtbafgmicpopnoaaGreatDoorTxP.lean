/-
  Some texts of this proof in one: TxP HuB. Each part tells what it proves. By an AI agent.
-/
import Derived.Test.YtbafgmicpopnoaaGreatDoorLineP
import Derived.Test.YtbafgmicpopnoaaGreatDoorSplit
import Derived.Lib.SplitLaws
import Derived.Lib.AtoiTie

/-
  Plain: texts of numbers. By an AI agent.
-/
namespace Go.Proofs.YtbafgmicpopnoaaGreatDoor
open Lib (decDigits decFrom digitVal)

theorem digits_lenW {u : Nat} (h : u ≤ 1000000000) : 1 ≤ (decDigits u).length ∧ (decDigits u).length ≤ 10 := by
  rw [Lib.decDigits_length]
  refine ⟨Lib.nDigits_pos u, ?_⟩
  rcases Nat.lt_or_ge 10 (Lib.nDigits u) with h7 | h7
  · exfalso
    have := nDig_low u (by omega)
    obtain ⟨k, hk⟩ : ∃ k, Lib.nDigits u = k + 11 := ⟨Lib.nDigits u - 11, by omega⟩
    have h10 : (10 : Nat) ^ 10 = 10000000000 := by decide
    have h11 : (10 : Nat) ^ 10 ≤ 10 ^ (k + 11 - 1) := Nat.pow_le_pow_right (by omega) (by omega)
    rw [hk] at this
    omega
  · exact h7
theorem itoa_lenW {n : Int} (h : -1000000000 ≤ n ∧ n ≤ 1000000000) : (Lib.itoa n).length ≤ 11 := by
  unfold Lib.itoa
  split
  · have := digits_lenW (u := n.natAbs) (by omega)
    simp
    omega
  · have := digits_lenW (u := n.toNat) (by omega)
    omega
theorem atoi_itoaW (n : Int) : Lib.atoi (Lib.itoa n) = some n := by
  have hdn : ∀ u, Lib.decNat (decDigits u) = some u := fun u => by
    unfold Lib.decNat
    have hne : (decDigits u).isEmpty = false := by
      have h1 := Lib.decDigits_length u
      have h2 := Lib.nDigits_pos u
      cases hd : decDigits u with
      | nil => rw [hd, List.length_nil] at h1; omega
      | cons _ _ => rfl
    rw [hne, decFrom_digits]; rfl
  unfold Lib.itoa
  by_cases hn : n < 0
  · rw [if_pos hn]
    show (if ((45 : UInt8) == 45) = true then (Lib.decNat (decDigits n.natAbs)).map fun (m : Nat) => -(m : Int) else if ((45 : UInt8) == 43) = true then (Lib.decNat (decDigits n.natAbs)).map fun (m : Nat) => (m : Int) else (Lib.decNat (45 :: decDigits n.natAbs)).map fun (m : Nat) => (m : Int)) = some n
    rw [if_pos (by rfl), hdn]
    simp only [Option.map_some]
    congr 1; omega
  · rw [if_neg hn]
    have hh := head_digits n.toNat
    have hd := hdn n.toNat
    cases hc : decDigits n.toNat with
    | nil => rw [hc] at hd; exact absurd hd (by simp [Lib.decNat])
    | cons b r =>
      rw [hc] at hd hh
      simp only [List.getD_cons_zero] at hh
      show (if (b == 45) = true then (Lib.decNat r).map fun (m : Nat) => -(m : Int) else if (b == 43) = true then (Lib.decNat r).map fun (m : Nat) => (m : Int) else (Lib.decNat (b :: r)).map fun (m : Nat) => (m : Int)) = some n
      rw [if_neg (fun h => by have : b = 45 := by simpa using h
                              subst this; exact absurd hh.1 (by decide)), if_neg (fun h => by have : b = 43 := by simpa using h
                                                                                              subst this; exact absurd hh.1 (by decide)), hd]
      simp only [Option.map_some]
      congr 1; omega
theorem itoa_pos {n : Int} (h : 0 ≤ n) : Lib.itoa n = decDigits n.toNat := by
  unfold Lib.itoa
  rw [if_neg (by omega)]

def minusB (l : List UInt8) : Bool := match l with
  | [] => false
  | x :: _ => decide (x.toNat = 45)
theorem cut_no {l : List UInt8} {c : UInt8} (h : c ∉ l) : Lib.cut l [c] = (l, [], false) := by
  unfold Lib.cut
  rw [Lib.index_one, indexByte_no l c h, if_neg (by omega)]
/-- The number that a text of any length spells. -/
def atoiO (l : List UInt8) : Option Int := match Lib.atoiAll l with
  | .ok n => some n
  | _ => none
theorem atoiO_itoa {n : Int} (h : -1000000000 ≤ n ∧ n ≤ 1000000000) : atoiO (Lib.itoa n) = some n := by
  have h1 := itoa_lenW h
  unfold atoiO
  rw [Lib.atoiAll_short _ (by omega), atoi_itoaW]
  rfl
/-- The library's split at one byte. -/
theorem splitK_eq (c : UInt8) : ∀ (k : Nat) (l : List UInt8), l.count c = k → Lib.splitK [c] 0 k l = splitB c.toNat l
  | 0, l, h => by
    have hc : c ∉ l := List.count_eq_zero.1 h
    rw [Lib.splitK, split_no l (fun x hx e => hc (by rw [← UInt8.toNat_inj.1 e]; exact hx))]
  | k + 1, l, h => by
    have hm : c ∈ l := List.count_pos_iff.1 (by omega)
    obtain ⟨p, r, rfl, hp⟩ := List.eq_append_cons_of_mem hm
    have hi : Lib.index (p ++ c :: r) [c] = p.length := by rw [Lib.index_one, indexByte_first p r c hp]
    have hk : r.count c = k := by
      rw [List.count_append, List.count_cons_self, List.count_eq_zero.2 hp] at h
      omega
    rw [split_at p r c (fun x hx e => hp (by rw [← UInt8.toNat_inj.1 e]; exact hx)) rfl, Lib.splitK, hi, if_neg (by simp)]
    have e1 : ((p.length : Int)).toNat = p.length := by omega
    rw [e1, Nat.add_zero, List.take_left' rfl, show (p ++ c :: r).drop (p.length + [c].length) = r from (by
      rw [← List.drop_drop, List.drop_left' rfl]; first | rfl | simp), splitK_eq c k r hk]

/-- How a text is read with separators between numbers. -/
def swS (sp : List UInt8) (r : List UInt8) (k : Nat) : List UInt8 × List UInt8 × Bool := if k < sp.length then Lib.cut r [sp.getD k 0] else (r, [], true)
def swR (sp l : List UInt8) : Nat → List UInt8
  | 0 => l
  | k + 1 => (swS sp (swR sp l k) k).2.1
def swP (sp l : List UInt8) (k : Nat) : List UInt8 := (swS sp (swR sp l k) k).1
def swO (sp l : List UInt8) (k : Nat) : Bool := (swS sp (swR sp l k) k).2.2 && (atoiO (swP sp l k)).isSome
def swN (sp l : List UInt8) (k : Nat) : Int := (atoiO (swP sp l k)).getD 0
def swB (sp l : List UInt8) : Bool := (List.range (sp.length + 1)).all (swO sp l)
theorem swB_f {sp l : List UInt8} {k : Nat} (hk : k ≤ sp.length) (h : swO sp l k = false) : swB sp l = false := by
  cases e : swB sp l
  · rfl
  · unfold swB at e
    rw [List.all_eq_true] at e
    have := e k (List.mem_range.2 (by omega))
    rw [h] at this
    exact absurd this (by simp)
theorem swB_t {sp l : List UInt8} (h : ∀ k, k < sp.length + 1 → swO sp l k = true) : swB sp l = true := by
  unfold swB
  rw [List.all_eq_true]
  intro k hk
  exact h k (List.mem_range.1 hk)
theorem cut_len2 (l : List UInt8) (c : UInt8) : (Lib.cut l [c]).1.length ≤ l.length ∧ (Lib.cut l [c]).2.1.length ≤ l.length := by
  unfold Lib.cut
  split
  · simp
    omega
  · simp
theorem swS_len (sp l : List UInt8) (k : Nat) : (swS sp l k).1.length ≤ l.length ∧ (swS sp l k).2.1.length ≤ l.length := by
  unfold swS
  split
  · exact cut_len2 l _
  · simp
theorem swR_len (sp l : List UInt8) : ∀ k, (swR sp l k).length ≤ l.length
  | 0 => Nat.le_refl _
  | k + 1 => Nat.le_trans (swS_len sp _ k).2 (swR_len sp l k)
theorem swP_len (sp l : List UInt8) (k : Nat) : (swP sp l k).length ≤ l.length := Nat.le_trans (swS_len sp _ k).1 (swR_len sp l k)
/-- What the reference reads as a number without a sign. -/
def l1RdF (l : List UInt8) : Int := if inB l.length 1 6 = true ∧ ¬ ((l.getD 0 0).toNat = 48 ∧ 1 < l.length) then (match Lib.decFrom 0 l with | some n => (n : Int) | none => -1) else -1
theorem digits_len6 {u : Nat} (h : u ≤ 999999) : 1 ≤ (decDigits u).length ∧ (decDigits u).length ≤ 6 := by
  rw [Lib.decDigits_length]
  refine ⟨Lib.nDigits_pos u, ?_⟩
  rcases Nat.lt_or_ge 6 (Lib.nDigits u) with h7 | h7
  · exfalso
    have := nDig_low u (by omega)
    obtain ⟨k, hk⟩ : ∃ k, Lib.nDigits u = k + 7 := ⟨Lib.nDigits u - 7, by omega⟩
    have h10 : (10 : Nat) ^ 6 = 1000000 := by decide
    have h11 : (10 : Nat) ^ 6 ≤ 10 ^ (k + 7 - 1) := Nat.pow_le_pow_right (by omega) (by omega)
    rw [hk] at this
    omega
  · exact h7
theorem l1Rd_digits {u : Nat} (h : u ≤ 999999) : l1RdF (decDigits u) = u := by
  obtain ⟨h1, h2⟩ := digits_len6 h
  unfold l1RdF
  rw [if_pos ⟨inB_t.2 (by omega), fun hh => (head_digits u).2.2 (by have := digits_two hh.2; omega) hh.1⟩, decFrom_digits]
end Go.Proofs.YtbafgmicpopnoaaGreatDoor

/-
  l1Read of the reference. Printed by gen_huB.py.
-/
namespace Go.Proofs.YtbafgmicpopnoaaGreatDoor
open Go.RowKit

set_option maxHeartbeats 1600000 in
theorem l1Read_c (s : ByteArray) (w : World) (hmax : s.size ≤ 1048576) :
    Calls Tryz.prog 79 #[.string s] w fun e w' => e = .returned (.int .i64 (l1RdF s.toList)) ∧ w = w' := by
  have hlen := len_str s
  have cl := fun w => l1In_any s.size 1 6 w
  have hix := idx_str s
  obtain ⟨l, hl⟩ : ∃ l, s.toList = l := ⟨_, rfl⟩
  rw [hl] at hlen hix ⊢
  obtain ⟨V, hV⟩ : ∃ V, l1RdF l = V := ⟨_, rfl⟩
  rw [hV]
  unfold l1RdF at hV
  rw [hlen] at hV
  have hin := fun h => inB_t.1 (show inB s.size 1 6 = true from h)
  generalize inB s.size 1 6 = u at cl hV hin
  have CL := Lib.hid cl; have HL := Lib.hid hl; have HIX := Lib.hid hix; clear cl hl hix
  cases u
  case false =>
    rw [if_neg (fun h => absurd h.1 (by simp))] at hV
    subst hV
    go_enter Tryz.func79, Tryz.ntmps79
    go_wp2_with fail
    refine (CL.out _).mono ?_
    rintro e w1 ⟨rfl, rfl⟩
    go_wp2_with fail
    go_ret
    exact ⟨rfl, rfl⟩
  case true =>
    have hb := hin rfl
    clear hin
    have h0 : 0 < s.size := by omega
    have hi0 := fun w => HIX.out 0 h0 w
    by_cases hz : (l.getD 0 0).toNat = 48 ∧ 1 < s.size
    case pos =>
      rw [if_neg (fun h => h.2 hz)] at hV
      subst hV
      have hi1 : ∀ w, (Instr.index 9 (.string s) (.int .i64 (0 : Int))).run Tryz.prog w = .ok (.int .u8 48) w := fun w => by have := hi0 w; rw [hz.1] at this; exact this
      clear hi0
      have g1 : decide ((1 : Int) < (s.size : Int)) = true := decide_eq_true (by omega)
      have HZ := Lib.hid hz; have HLEN := Lib.hid hlen; clear hz hlen
      go_enter Tryz.func79, Tryz.ntmps79
      go_wp2_with fail
      refine (CL.out _).mono ?_
      rintro e w1 ⟨rfl, rfl⟩
      go_wp2_with fail
      go_ret
      exact ⟨rfl, rfl⟩
    case neg =>
      rw [if_pos ⟨rfl, hz⟩] at hV
      obtain ⟨x, hx⟩ : ∃ x : Int, (((l.getD 0 0).toNat : Nat) : Int) = x := ⟨_, rfl⟩
      have hi1 : ∀ w, (Instr.index 9 (.string s) (.int .i64 (0 : Int))).run Tryz.prog w = .ok (.int .u8 x) w := fun w => by rw [← hx]; exact hi0 w
      obtain ⟨c1, hc1⟩ : ∃ c : Bool, (x == 48) = c := ⟨_, rfl⟩
      obtain ⟨c2, hc2⟩ : ∃ c : Bool, decide ((1 : Int) < (s.size : Int)) = c := ⟨_, rfl⟩
      have hcc : (c1 && c2) = false := by
        cases c1 with
        | false => rfl
        | true =>
          cases c2 with
          | false => rfl
          | true =>
            exfalso
            have e1 : x = 48 := by simpa using hc1
            have e2 : (1 : Int) < (s.size : Int) := by simpa using hc2
            exact hz ⟨by omega, by omega⟩
      have HCC := Lib.hid hcc; have HZ := Lib.hid hz; have HX := Lib.hid hx; have HLEN := Lib.hid hlen; have HV := Lib.hid hV; clear hcc hz hx hi0 hlen hV
      go_enter Tryz.func79, Tryz.ntmps79
      go_wp2_with fail
      refine (CL.out _).mono ?_
      rintro e w1 ⟨rfl, rfl⟩
      cases c1
      case' true => (obtain rfl : c2 = false := by (have := HCC.out; simpa using this))
      all_goals go_wp2_with fail
      all_goals
        clear hc2 hi1
        go_loopw [3, 4] (fun n i wr => ∃ k m : Nat, k ≤ s.size ∧ i = .int .i64 k ∧ n = .int .i64 m ∧ Lib.decFrom 0 (l.take k) = some m ∧ w = wr) (fun _ i _ => s.size - (intOf i).toNat)
        case atStart => exact ⟨0, 0, Nat.zero_le _, rfl, rfl, rfl, rfl⟩
        case round =>
          obtain ⟨k, m, hk, rfl, rfl, hm, rfl⟩ := hrel
          have HM := Lib.hid hm
          have hmb := decFrom_bd (by omega) hm
          clear hm
          by_cases hlt : k < s.size
          case neg =>
            have hke : k = s.size := by omega
            have hve := Lib.hid (show (m : Int) = V by
              have h1 := HM.out
              have h2 := HV.out
              rw [hke, ← HLEN.out, List.take_length] at h1
              rw [h1] at h2
              exact h2)
            clear hke
            have g1 : decide ((k : Int) < (s.size : Int)) = false := decide_eq_false (by omega)
            go_wp2_with fail
            go_ret
            exact ⟨ret_int hve.out, rfl⟩
          case pos =>
            have g1 : decide ((k : Int) < (s.size : Int)) = true := decide_eq_true (by omega)
            have hik := fun w => HIX.out k hlt w
            have hbd := u8_bd (l.getD k 0)
            obtain ⟨y, hy⟩ : ∃ y : Nat, (l.getD k 0).toNat = y := ⟨_, rfl⟩
            rw [hy] at hik hbd
            have HY := Lib.hid hy; clear hy
            by_cases hbad : y < 48 ∨ 57 < y
            case pos =>
              have hve := Lib.hid (show (-1 : Int) = V by
                have h2 := HV.out
                rw [decFrom_bad (k := k) (by have := HLEN.out; omega) (by have := HY.out; omega)] at h2
                exact h2)
              by_cases h48 : y < 48
              case pos =>
                have g2 : decide ((y : Int) < 48) = true := decide_eq_true (by omega)
                have HB := Lib.hid hbad; clear hbad
                go_wp2_with fail
                go_ret
                exact ⟨ret_int hve.out, rfl⟩
              case neg =>
                have g2 : decide ((y : Int) < 48) = false := decide_eq_false (by omega)
                have g3 : decide ((57 : Int) < (y : Int)) = true := decide_eq_true (by omega)
                have HB := Lib.hid hbad; clear hbad
                go_wp2_with fail
                go_ret
                exact ⟨ret_int hve.out, rfl⟩
            case neg =>
              have g2 : decide ((y : Int) < 48) = false := decide_eq_false (by omega)
              have g3 : decide ((57 : Int) < (y : Int)) = false := decide_eq_false (by omega)
              have hst := decFrom_step (k := k) (by have := HLEN.out; omega) HM.out (by have := HY.out; omega)
              rw [HY.out] at hst
              obtain ⟨d, hd⟩ : ∃ d : Nat, y = 48 + d := ⟨y - 48, by omega⟩
              have hst2 := Lib.hid (show Lib.decFrom 0 (l.take (k + 1)) = some (10 * m + d) by rw [hst]; congr 1; omega)
              have w1 : IntKind.u8.wrap ((y : Int) - 48) = (d : Int) := by rw [show (y : Int) - 48 = (d : Int) by omega]; exact u8_in (by omega) (by omega)
              have w4 : IntKind.i64.wrap (d : Int) = (d : Int) := i64_small (by omega) (by omega)
              have w2 : IntKind.i64.wrap (10 * (m : Int)) = 10 * (m : Int) := i64_small (by omega) (by omega)
              have w3 : IntKind.i64.wrap (10 * (m : Int) + (d : Int)) = 10 * (m : Int) + (d : Int) := i64_small (by omega) (by omega)
              have HD := Lib.hid hd
              have HB := Lib.hid hbad; clear hbad hst hd
              go_wp2_with fail
              go_roundw
              case rel => exact ⟨k + 1, 10 * m + d, by omega, by go_num, by go_num, hst2.out, trivial⟩
              case measure => simp [intOf]; omega
end Go.Proofs.YtbafgmicpopnoaaGreatDoor
