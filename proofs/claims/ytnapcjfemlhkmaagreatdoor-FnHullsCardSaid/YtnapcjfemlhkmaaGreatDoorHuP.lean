/-
  Some texts of this proof in one: HuP HuB. Each part tells what it proves. By an AI agent.
-/
import Derived.Test.YtnapcjfemlhkmaaGreatDoorTxP
import Derived.Test.YtnapcjfemlhkmaaGreatDoorGeD
import Derived.Test.YtnapcjfemlhkmaaGreatDoorHull

/-
  Plain: texts of polygons, and what both readings of a text give. By an AI agent.
-/
namespace Go.Proofs.YtnapcjfemlhkmaaGreatDoor
open Lib (decDigits)

def ptTxt (p : Pt) : List UInt8 := Lib.itoa p.x ++ 44 :: Lib.itoa p.y
def polTxt : List Pt → List UInt8
  | [] => []
  | p :: l => ptTxt p ++ 59 :: polTxt l
/-- The program's reading: the pieces that end with semicolons. -/
def okW (w : List UInt8) : Bool := swB [44] w
def ptW (w : List UInt8) : Pt := ⟨swN [44] w 0, swN [44] w 1⟩
def parL (s : List UInt8) : List Pt := (splitB 59 s).dropLast.map ptW
def parB (s : List UInt8) : Bool := (splitB 59 s).dropLast.all okW && (decide ((splitB 59 s).getLastD [] = []) && (polyB (parL s) && decide (polTxt (parL s) = s)))
/-- The reference's reading. -/
def l1RdF (l : List UInt8) : Int := if inB l.length 1 6 = true ∧ ¬ ((l.getD 0 0).toNat = 48 ∧ 1 < l.length) then (match Lib.decFrom 0 l with | some n => (n : Int) | none => -1) else -1
def rdS (w : List UInt8) : Int := if minusB w = true ∧ 1 < w.length ∧ 0 ≤ l1RdF (w.drop 1) then -l1RdF (w.drop 1) else if 0 ≤ l1RdF w then l1RdF w else 101
def okS (w : List UInt8) : Bool := decide ((splitB 44 w).length = 2)
def ptS (w : List UInt8) : Pt := ⟨rdS ((splitB 44 w).getD 0 []), rdS ((splitB 44 w).getD 1 [])⟩
def parSL (s : List UInt8) : List Pt := (splitB 59 s).dropLast.map ptS
def parSB (s : List UInt8) : Bool := decide ((splitB 59 s).length ≤ 41) && ((splitB 59 s).dropLast.all okS && (polyB (parSL s) && decide (polTxt (parSL s) = s)))
theorem itoa44 (n : Int) : (44 : UInt8) ∉ Lib.itoa n := itoa_no (by decide) (by decide)
theorem itoa44' (n : Int) : ∀ x ∈ Lib.itoa n, x.toNat ≠ 44 := fun x hx e => by
  have := itoa_in n x hx
  omega
theorem ptTxt59 (p : Pt) : ∀ x ∈ ptTxt p, x.toNat ≠ 59 := fun x hx e => by
  unfold ptTxt at hx
  rcases List.mem_append.1 hx with h | h
  · have := itoa_in _ x h
    omega
  · rcases List.mem_cons.1 h with h | h
    · subst h; exact absurd e (by decide)
    · have := itoa_in _ x h
      omega
theorem split_pol : ∀ l : List Pt, splitB 59 (polTxt l) = l.map ptTxt ++ [[]]
  | [] => split_no [] (by simp)
  | p :: l => by
    rw [polTxt, split_at _ _ _ (ptTxt59 p) rfl, split_pol l]
    rfl
theorem ptB_bdH {p : Pt} (h : ptB p = true) : (-100 ≤ p.x ∧ p.x ≤ 100) ∧ -100 ≤ p.y ∧ p.y ≤ 100 := by
  unfold ptB at h
  obtain ⟨h1, h2⟩ := Bool.and_eq_true_iff.1 h
  exact ⟨inB_t.1 h1, inB_t.1 h2⟩
theorem ok_pt {p : Pt} (hp : ptB p = true) : okW (ptTxt p) = true ∧ ptW (ptTxt p) = p := by
  have hb := ptB_bdH hp
  have h : Lib.cut (ptTxt p) [44] = (Lib.itoa p.x, Lib.itoa p.y, true) := cut_first _ _ _ (itoa44 _)
  have s0 : swS [44] (swR [44] (ptTxt p) 0) 0 = (Lib.itoa p.x, Lib.itoa p.y, true) := h
  have s1 : swS [44] (swR [44] (ptTxt p) 1) 1 = (Lib.itoa p.y, [], true) := by
    show swS [44] (swS [44] (swR [44] (ptTxt p) 0) 0).2.1 1 = _
    rw [s0]; rfl
  have a0 : atoiO (Lib.itoa p.x) = some p.x := atoiO_itoa (by omega)
  have a1 : atoiO (Lib.itoa p.y) = some p.y := atoiO_itoa (by omega)
  have p0 : swP [44] (ptTxt p) 0 = Lib.itoa p.x := by unfold swP; rw [s0]
  have p1 : swP [44] (ptTxt p) 1 = Lib.itoa p.y := by unfold swP; rw [s1]
  refine ⟨swB_t fun k hk => ?_, ?_⟩
  · have : k = 0 ∨ k = 1 := by simp at hk; omega
    rcases this with rfl | rfl
    · unfold swO; rw [s0, p0, a0]; rfl
    · unfold swO; rw [s1, p1, a1]; rfl
  · unfold ptW swN
    rw [p0, p1, a0, a1]; rfl
theorem digits_len6 {u : Nat} (h : u ≤ 999999) : 1 ≤ (decDigits u).length ∧ (decDigits u).length ≤ 6 := by
  rw [Lib.decDigits_length]
  refine ⟨Lib.nDigits_pos u, ?_⟩
  rcases Nat.lt_or_ge 6 (Lib.nDigits u) with h7 | h7
  · exfalso
    have := nDig_low u (by omega)
    obtain ⟨k, hk⟩ : ∃ k, Lib.nDigits u = k + 7 := ⟨Lib.nDigits u - 7, by omega⟩
    have h10 : (10 : Nat) ^ 6 = 1000000 := by decide
    have h11 : (10 : Nat) ^ 6 ≤ 10 ^ (k + 7 - 1) := Nat.pow_le_pow_right (by omega) (by omega)
    rw [hk] at this
    omega
  · exact h7
theorem l1Rd_digits {u : Nat} (h : u ≤ 999999) : l1RdF (decDigits u) = u := by
  obtain ⟨h1, h2⟩ := digits_len6 h
  unfold l1RdF
  rw [if_pos ⟨inB_t.2 (by omega), fun hh => (head_digits u).2.2 (by have := digits_two hh.2; omega) hh.1⟩, decFrom_digits]
theorem rdS_itoa {n : Int} (h : -999999 ≤ n ∧ n ≤ 999999) : rdS (Lib.itoa n) = n := by
  unfold rdS Lib.itoa
  by_cases hn : n < 0
  · rw [if_pos hn]
    have hd := l1Rd_digits (u := n.natAbs) (by omega)
    have hl := (digits_len6 (u := n.natAbs) (by omega)).1
    rw [show (45 :: decDigits n.natAbs).drop 1 = decDigits n.natAbs from rfl, hd, if_pos ⟨rfl, by simp only [List.length_cons]; omega, by omega⟩]
    omega
  · rw [if_neg hn]
    have hh := head_digits n.toNat
    have hm : minusB (decDigits n.toNat) = false := by
      cases hc : decDigits n.toNat with
      | nil => rfl
      | cons b r =>
        rw [hc] at hh
        simp only [List.getD_cons_zero] at hh
        exact decide_eq_false (by omega)
    have hd := l1Rd_digits (u := n.toNat) (by omega)
    rw [hm, if_neg (fun h => by simp at h), hd, if_pos (by omega)]
    omega
theorem ok_ptS {p : Pt} (h : ptB p = true) : okS (ptTxt p) = true ∧ ptS (ptTxt p) = p := by
  have hs : splitB 44 (ptTxt p) = [Lib.itoa p.x, Lib.itoa p.y] := by
    unfold ptTxt
    rw [split_at _ _ _ (itoa44' _) rfl, split_no _ (itoa44' _)]
  have hb := ptB_bdH h
  unfold okS ptS
  rw [hs]
  refine ⟨rfl, ?_⟩
  show (⟨rdS (Lib.itoa p.x), rdS (Lib.itoa p.y)⟩ : Pt) = p
  rw [rdS_itoa (by omega), rdS_itoa (by omega)]
theorem polyB_all {l : List Pt} (h : polyB l = true) : ∀ p ∈ l, ptB p = true := fun p hp' => by
  have hp : ptsB l = true := (Bool.and_eq_true_iff.1 h).1
  unfold ptsB at hp
  exact List.all_eq_true.1 (Bool.and_eq_true_iff.1 hp).2 p hp'
theorem par_txt {l : List Pt} (h : polyB l = true) : parB (polTxt l) = true ∧ parL (polTxt l) = l := by
  have hm := polyB_all h
  have hl : parL (polTxt l) = l := by
    unfold parL
    rw [split_pol, List.dropLast_concat, List.map_map]
    conv => rhs; rw [← List.map_id l]
    exact List.map_congr_left fun p hp' => (ok_pt (hm p hp')).2
  refine ⟨?_, hl⟩
  unfold parB
  rw [hl, h, decide_eq_true rfl, split_pol, List.dropLast_concat, List.getLastD_concat, decide_eq_true rfl, Bool.and_true, Bool.and_true, Bool.and_true, List.all_eq_true]
  intro w hw
  obtain ⟨p, hp', e⟩ := List.mem_map.1 hw
  rw [← e]
  exact (ok_pt (hm p hp')).1
theorem parS_txt {l : List Pt} (h : polyB l = true) : parSB (polTxt l) = true ∧ parSL (polTxt l) = l := by
  have hp : ptsB l = true := (Bool.and_eq_true_iff.1 h).1
  have hm : ∀ p ∈ l, ptB p = true := fun p hp' => by
    unfold ptsB at hp
    exact List.all_eq_true.1 (Bool.and_eq_true_iff.1 hp).2 p hp'
  have hl : parSL (polTxt l) = l := by
    unfold parSL
    rw [split_pol, List.dropLast_concat, List.map_map]
    conv => rhs; rw [← List.map_id l]
    exact List.map_congr_left fun p hp' => (ok_ptS (hm p hp')).2
  refine ⟨?_, hl⟩
  have hlen := (ptsB_t hp).2.1
  unfold parSB
  rw [hl, h, decide_eq_true rfl, split_pol, List.dropLast_concat, Bool.and_true, Bool.and_true, decide_eq_true (by simp; omega), Bool.true_and, List.all_eq_true]
  intro w hw
  obtain ⟨p, hp', e⟩ := List.mem_map.1 hw
  rw [← e]
  exact (ok_ptS (hm p hp')).1
theorem parB_t {s : List UInt8} (h : parB s = true) : polyB (parL s) = true ∧ polTxt (parL s) = s := by
  unfold parB at h
  have h1 := (Bool.and_eq_true_iff.1 (Bool.and_eq_true_iff.1 h).2).2
  obtain ⟨h2, h3⟩ := Bool.and_eq_true_iff.1 h1
  exact ⟨h2, of_decide_eq_true h3⟩
theorem parSB_t {s : List UInt8} (h : parSB s = true) : polyB (parSL s) = true ∧ polTxt (parSL s) = s := by
  unfold parSB at h
  have h1 := (Bool.and_eq_true_iff.1 (Bool.and_eq_true_iff.1 h).2).2
  obtain ⟨h2, h3⟩ := Bool.and_eq_true_iff.1 h1
  exact ⟨h2, of_decide_eq_true h3⟩
/-- Both readings are the same. -/
theorem par_eq (s : List UInt8) : parSB s = parB s ∧ (parB s = true → parSL s = parL s) := by
  have e : parB s = true → parSB s = true ∧ parSL s = parL s := fun h => by
    obtain ⟨h1, h2⟩ := parB_t h
    obtain ⟨h3, h4⟩ := parS_txt h1
    rw [h2] at h3 h4
    exact ⟨h3, h4⟩
  have e' : parSB s = true → parB s = true := fun h => by
    obtain ⟨h1, h2⟩ := parSB_t h
    obtain ⟨h3, _⟩ := par_txt h1
    rwa [h2] at h3
  refine ⟨?_, fun h => (e h).2⟩
  cases h : parB s
  · cases g : parSB s
    · rfl
    · rw [e' g] at h; exact absurd h (by simp)
  · exact (e h).1
end Go.Proofs.YtnapcjfemlhkmaaGreatDoor

/-
  l1Read of the reference. Printed by gen_huB.py.
-/
namespace Go.Proofs.YtnapcjfemlhkmaaGreatDoor
open Go.RowKit

set_option maxHeartbeats 1600000 in
theorem l1Read_c (s : ByteArray) (w : World) (hmax : s.size ≤ 1048576) :
    Calls Tryz.prog 76 #[.string s] w fun e w' => e = .returned (.int .i64 (l1RdF s.toList)) ∧ w = w' := by
  have hlen := len_str s
  have cl := fun w => l1In_any s.size 1 6 w
  have hix := idx_str s
  obtain ⟨l, hl⟩ : ∃ l, s.toList = l := ⟨_, rfl⟩
  rw [hl] at hlen hix ⊢
  obtain ⟨V, hV⟩ : ∃ V, l1RdF l = V := ⟨_, rfl⟩
  rw [hV]
  unfold l1RdF at hV
  rw [hlen] at hV
  have hin := fun h => inB_t.1 (show inB s.size 1 6 = true from h)
  generalize inB s.size 1 6 = u at cl hV hin
  have CL := Lib.hid cl; have HL := Lib.hid hl; have HIX := Lib.hid hix; clear cl hl hix
  cases u
  case false =>
    rw [if_neg (fun h => absurd h.1 (by simp))] at hV
    subst hV
    go_enter Tryz.func76, Tryz.ntmps76
    go_wp2_with fail
    refine (CL.out _).mono ?_
    rintro e w1 ⟨rfl, rfl⟩
    go_wp2_with fail
    go_ret
    exact ⟨rfl, rfl⟩
  case true =>
    have hb := hin rfl
    clear hin
    have h0 : 0 < s.size := by omega
    have hi0 := fun w => HIX.out 0 h0 w
    by_cases hz : (l.getD 0 0).toNat = 48 ∧ 1 < s.size
    case pos =>
      rw [if_neg (fun h => h.2 hz)] at hV
      subst hV
      have hi1 : ∀ w, (Instr.index 9 (.string s) (.int .i64 (0 : Int))).run Tryz.prog w = .ok (.int .u8 48) w := fun w => by have := hi0 w; rw [hz.1] at this; exact this
      clear hi0
      have g1 : decide ((1 : Int) < (s.size : Int)) = true := decide_eq_true (by omega)
      have HZ := Lib.hid hz; have HLEN := Lib.hid hlen; clear hz hlen
      go_enter Tryz.func76, Tryz.ntmps76
      go_wp2_with fail
      refine (CL.out _).mono ?_
      rintro e w1 ⟨rfl, rfl⟩
      go_wp2_with fail
      go_ret
      exact ⟨rfl, rfl⟩
    case neg =>
      rw [if_pos ⟨rfl, hz⟩] at hV
      obtain ⟨x, hx⟩ : ∃ x : Int, (((l.getD 0 0).toNat : Nat) : Int) = x := ⟨_, rfl⟩
      have hi1 : ∀ w, (Instr.index 9 (.string s) (.int .i64 (0 : Int))).run Tryz.prog w = .ok (.int .u8 x) w := fun w => by rw [← hx]; exact hi0 w
      obtain ⟨c1, hc1⟩ : ∃ c : Bool, (x == 48) = c := ⟨_, rfl⟩
      obtain ⟨c2, hc2⟩ : ∃ c : Bool, decide ((1 : Int) < (s.size : Int)) = c := ⟨_, rfl⟩
      have hcc : (c1 && c2) = false := by
        cases c1 with
        | false => rfl
        | true =>
          cases c2 with
          | false => rfl
          | true =>
            exfalso
            have e1 : x = 48 := by simpa using hc1
            have e2 : (1 : Int) < (s.size : Int) := by simpa using hc2
            exact hz ⟨by omega, by omega⟩
      have HCC := Lib.hid hcc; have HZ := Lib.hid hz; have HX := Lib.hid hx; have HLEN := Lib.hid hlen; have HV := Lib.hid hV; clear hcc hz hx hi0 hlen hV
      go_enter Tryz.func76, Tryz.ntmps76
      go_wp2_with fail
      refine (CL.out _).mono ?_
      rintro e w1 ⟨rfl, rfl⟩
      cases c1
      case' true => (obtain rfl : c2 = false := by (have := HCC.out; simpa using this))
      all_goals go_wp2_with fail
      all_goals
        clear hc2 hi1
        go_loopw [3, 4] (fun n i wr => ∃ k m : Nat, k ≤ s.size ∧ i = .int .i64 k ∧ n = .int .i64 m ∧ Lib.decFrom 0 (l.take k) = some m ∧ w = wr) (fun _ i _ => s.size - (intOf i).toNat)
        case atStart => exact ⟨0, 0, Nat.zero_le _, rfl, rfl, rfl, rfl⟩
        case round =>
          obtain ⟨k, m, hk, rfl, rfl, hm, rfl⟩ := hrel
          have HM := Lib.hid hm
          have hmb := decFrom_bd (by omega) hm
          clear hm
          by_cases hlt : k < s.size
          case neg =>
            have hke : k = s.size := by omega
            have hve := Lib.hid (show (m : Int) = V by
              have h1 := HM.out
              have h2 := HV.out
              rw [hke, ← HLEN.out, List.take_length] at h1
              rw [h1] at h2
              exact h2)
            clear hke
            have g1 : decide ((k : Int) < (s.size : Int)) = false := decide_eq_false (by omega)
            go_wp2_with fail
            go_ret
            exact ⟨ret_int hve.out, rfl⟩
          case pos =>
            have g1 : decide ((k : Int) < (s.size : Int)) = true := decide_eq_true (by omega)
            have hik := fun w => HIX.out k hlt w
            have hbd := u8_bd (l.getD k 0)
            obtain ⟨y, hy⟩ : ∃ y : Nat, (l.getD k 0).toNat = y := ⟨_, rfl⟩
            rw [hy] at hik hbd
            have HY := Lib.hid hy; clear hy
            by_cases hbad : y < 48 ∨ 57 < y
            case pos =>
              have hve := Lib.hid (show (-1 : Int) = V by
                have h2 := HV.out
                rw [decFrom_bad (k := k) (by have := HLEN.out; omega) (by have := HY.out; omega)] at h2
                exact h2)
              by_cases h48 : y < 48
              case pos =>
                have g2 : decide ((y : Int) < 48) = true := decide_eq_true (by omega)
                have HB := Lib.hid hbad; clear hbad
                go_wp2_with fail
                go_ret
                exact ⟨ret_int hve.out, rfl⟩
              case neg =>
                have g2 : decide ((y : Int) < 48) = false := decide_eq_false (by omega)
                have g3 : decide ((57 : Int) < (y : Int)) = true := decide_eq_true (by omega)
                have HB := Lib.hid hbad; clear hbad
                go_wp2_with fail
                go_ret
                exact ⟨ret_int hve.out, rfl⟩
            case neg =>
              have g2 : decide ((y : Int) < 48) = false := decide_eq_false (by omega)
              have g3 : decide ((57 : Int) < (y : Int)) = false := decide_eq_false (by omega)
              have hst := decFrom_step (k := k) (by have := HLEN.out; omega) HM.out (by have := HY.out; omega)
              rw [HY.out] at hst
              obtain ⟨d, hd⟩ : ∃ d : Nat, y = 48 + d := ⟨y - 48, by omega⟩
              have hst2 := Lib.hid (show Lib.decFrom 0 (l.take (k + 1)) = some (10 * m + d) by rw [hst]; congr 1; omega)
              have w1 : IntKind.u8.wrap ((y : Int) - 48) = (d : Int) := by rw [show (y : Int) - 48 = (d : Int) by omega]; exact u8_in (by omega) (by omega)
              have w4 : IntKind.i64.wrap (d : Int) = (d : Int) := i64_small (by omega) (by omega)
              have w2 : IntKind.i64.wrap (10 * (m : Int)) = 10 * (m : Int) := i64_small (by omega) (by omega)
              have w3 : IntKind.i64.wrap (10 * (m : Int) + (d : Int)) = 10 * (m : Int) + (d : Int) := i64_small (by omega) (by omega)
              have HD := Lib.hid hd
              have HB := Lib.hid hbad; clear hbad hst hd
              go_wp2_with fail
              go_roundw
              case rel => exact ⟨k + 1, 10 * m + d, by omega, by go_num, by go_num, hst2.out, trivial⟩
              case measure => simp [intOf]; omega
end Go.Proofs.YtnapcjfemlhkmaaGreatDoor
