/-
  Numbers as text: the reference's.
-/
import Derived.Test.YtfgdhlnmndgjbaaGreatDoorNum
import Derived.Laws.BytesArg
import Derived.WalkSpells
import Derived.WalkLawsBesides
import Derived.Deep.RegionHeld3
import Derived.Lib.ItoaNum
import Derived.Lib.ItoaLen
import Derived.Lib.ItoaWalk
import Derived.Lib.AtoiTie
import Derived.Laws.Concat
namespace Go.Proofs.YtfgdhlnmndgjbaaGreatDoor
open Go.RowKit

def strV (l : List UInt8) : Value := .string ⟨l.toArray⟩
theorem conv_cell (W : World) (g : Nat) (z : Int) (h : W.cell? ⟨g, 0, none⟩ = some (.int .u8 z)) :
    (convert 22 9 (.slice (some ⟨g, 0, none⟩) 1 1)).run Tryz.prog W = .ok (strV [UInt8.ofNat z.toNat]) W := by
  have := run_convert_bytes_arg (P := Tryz.prog) W 22 5 Tryz.underlying22 Tryz.underlying5 g 0 1 1 [z] rfl (fun i hi => by
    obtain rfl : i = 0 := by omega
    simpa using h) 9 Tryz.underlying9
  rw [this]
  rfl
theorem one_str (w : World) (z : Int) :
    (convert 22 9 (.slice (some ⟨w.heap.size, 0, none⟩) 1 1)).run Tryz.prog (w.alloc (.cells #[.int .u8 z] 5)) = .ok (strV [UInt8.ofNat z.toNat]) (w.alloc (.cells #[.int .u8 z] 5)) := conv_cell _ _ _ (by simp [go_sem])
theorem cell_one {w w' : World} {z : Int} (h : Below (w.alloc (.cells #[.int .u8 z] 5)).drew.heap.size (w.alloc (.cells #[.int .u8 z] 5)).drew w') : w'.cell? ⟨w.heap.size, 0, none⟩ = some (.int .u8 z) :=
  bcell h (p := ⟨w.heap.size, 0, none⟩) (by simp) (show (w.alloc (.cells #[.int .u8 z] 5)).cell? ⟨w.heap.size, 0, none⟩ = some (.int .u8 z) by simp [go_sem])

theorem u8_in {x : Int} (h0 : 0 ≤ x) (h1 : x ≤ 255) : IntKind.u8.wrap x = x := by simp [IntKind.wrap, IntKind.bits, IntKind.signed]; omega

set_option maxHeartbeats 800000 in
theorem l1Num_c (u : Nat) : u ≤ 1000000000000000000 → ∀ w : World,
    Calls Tryz.prog 98 #[.int .i64 (u : Int)] w fun e w' => e = .returned (strV (Lib.decDigits u)) ∧ Below w.heap.size w w' := by
  induction u using Nat.strongRecOn with
  | _ u ih =>
  intro hu w
  by_cases h : u < 10
  · have e1 : decide ((u : Int) < 10) = true := decide_eq_true (by omega)
    have e2 : IntKind.i64.wrap (48 + (u : Int)) = 48 + (u : Int) := i64_small (by omega) (by omega)
    have e3 : IntKind.u8.wrap (48 + (u : Int)) = 48 + (u : Int) := u8_in (by omega) (by omega)
    have hc := one_str w (48 + (u : Int))
    have hv : [UInt8.ofNat (48 + (u : Int)).toNat] = Lib.decDigits u := by rw [Lib.decDigits_one h, show (48 + (u : Int)).toNat = 48 + u by omega]
    rw [hv] at hc
    have hb := (Below.refl w.heap.size w).alloc (Nat.le_refl _) (.cells #[.int .u8 (48 + (u : Int))] 5)
    go_enter Tryz.func98, Tryz.ntmps98
    go_wp2_with fail
    go_ret
    exact ⟨rfl, hb⟩
  · have e1 : decide ((u : Int) < 10) = false := decide_eq_false (by omega)
    have hq : Int.tdiv (u : Int) 10 = ((u / 10 : Nat) : Int) := by rw [Int.tdiv_eq_ediv_of_nonneg (by omega)]; omega
    have hr : Int.tmod (u : Int) 10 = ((u % 10 : Nat) : Int) := by rw [Int.tmod_eq_emod_of_nonneg (by omega)]; omega
    have IH := Lib.hid (ih (u / 10) (by omega) (by omega))
    have hdd := show Lib.decDigits u = Lib.decDigits (u / 10) ++ [UInt8.ofNat (48 + u % 10)] by rw [Lib.decDigits, dif_neg h]
    have hln : (Lib.decDigits (u / 10)).length ≤ 20 := by rw [Lib.decDigits_length]; exact Lib.nDigits_le20 _ (by omega)
    have hr10 : u % 10 < 10 := Nat.mod_lt _ (by omega)
    have hq18 : u / 10 ≤ 1000000000000000000 := by omega
    clear ih
    generalize u / 10 = q at hq IH hdd hln hq18
    generalize u % 10 = r at hr hdd hr10
    have wq : IntKind.i64.wrap (q : Int) = (q : Int) := i64_small (by omega) (by omega)
    have wr : IntKind.i64.wrap (r : Int) = (r : Int) := i64_small (by omega) (by omega)
    have e2 : IntKind.i64.wrap (48 + (r : Int)) = 48 + (r : Int) := i64_small (by omega) (by omega)
    have e3 : IntKind.u8.wrap (48 + (r : Int)) = 48 + (r : Int) := u8_in (by omega) (by omega)
    have hc := fun w => one_str w (48 + (r : Int))
    have hcd := conv_cell (w.alloc (.cells #[.int .u8 (48 + (r : Int))] 5)).drew w.heap.size (48 + (r : Int)) (by simp [go_sem])
    rw [show (48 + (r : Int)).toNat = 48 + r by omega] at hc hcd
    rw [hdd]
    generalize Lib.decDigits q = D at IH hln ⊢
    obtain ⟨d, hd⟩ : ∃ d, UInt8.ofNat (48 + r) = d := ⟨_, rfl⟩
    rw [hd] at hc hcd ⊢
    have hadd := fun w => run_string_add_lists (P := Tryz.prog) (w := w) D [d] (by omega) (by simp)
    clear hdd h
    unfold strV at IH hc hcd ⊢
    go_enter Tryz.func98, Tryz.ntmps98
    go_wp2_with fail
    go_region_with (first | (go_at_call 98; (with_reducible refine (IH.out _).mono ?_); rintro e W1 ⟨rfl, hw1⟩; (first | (have hcv := conv_cell W1 w.heap.size (48 + (r : Int)) (cell_one hw1); rw [show (48 + (r : Int)).toNat = 48 + r by omega, hd] at hcv; unfold strV at hcv) | skip)))
    all_goals
      go_wp2_with fail
      go_ret
      first | exact ⟨rfl, bal_alloc (ball (Below.refl _ _).drew hw1)⟩ | exact ⟨rfl, ball (bal_alloc (Below.refl _ _)).drew hw1⟩

theorem nDig_low : ∀ u : Nat, 1 < Lib.nDigits u → 10 ^ (Lib.nDigits u - 1) ≤ u := by
  intro u
  induction u using Nat.strongRecOn with
  | _ u ih =>
    intro h
    by_cases h10 : u < 10
    · rw [Lib.nDigits_small h10] at h; omega
    · rw [Lib.nDigits_big h10, Nat.add_sub_cancel]
      by_cases h1 : 1 < Lib.nDigits (u / 10)
      · have h2 := ih (u / 10) (by omega) h1
        obtain ⟨k, hk⟩ : ∃ k, Lib.nDigits (u / 10) = k + 1 := ⟨Lib.nDigits (u / 10) - 1, by omega⟩
        rw [hk] at h2 ⊢
        rw [Nat.add_sub_cancel] at h2
        rw [Nat.pow_succ]; omega
      · have h2 := Lib.nDigits_pos (u / 10)
        rw [show Lib.nDigits (u / 10) = 1 by omega]; omega
def infL : List UInt8 := [105, 110, 102]
/-- The text of a number. -/
def numTxt (n : Int) : List UInt8 := if n = 1000000000 then infL else Lib.itoa n
theorem itoa_len {n : Int} (h0 : -1000000000000000000 ≤ n) (h1 : n ≤ 1000000000000000000) : (Lib.itoa n).length ≤ 21 := Lib.itoa_length_le n (by omega) (by omega)

set_option maxHeartbeats 800000 in
theorem l1Int_c (n : Int) (w : World) (h0 : -1000000000000000000 ≤ n) (h1 : n ≤ 1000000000000000000) :
    Calls Tryz.prog 91 #[.int .i64 n] w fun e w' => e = .returned (strV (Lib.itoa n)) ∧ Below w.heap.size w w' := by
  by_cases h : n < 0
  · have hv : Lib.itoa n = 45 :: Lib.decDigits n.natAbs := by unfold Lib.itoa; rw [if_pos h]
    have c := fun w => l1Num_c n.natAbs (by omega) w
    have hl : (Lib.decDigits n.natAbs).length ≤ 20 := by rw [Lib.decDigits_length]; exact Lib.nDigits_le20 _ (by omega)
    have e1 : -n = (n.natAbs : Int) := by omega
    have e2 : IntKind.i64.wrap (n.natAbs : Int) = (n.natAbs : Int) := i64_small (by omega) (by omega)
    have e3 : decide (n < 0) = true := decide_eq_true h
    rw [hv]
    generalize n.natAbs = u at c hl e1 e2 ⊢
    generalize Lib.decDigits u = D at c hl ⊢
    have hadd := fun w => run_string_add_lists (P := Tryz.prog) (w := w) [45] D (by simp) (by omega)
    unfold strV at c ⊢
    have C := Lib.hid c; have HL := Lib.hid hl; have H := Lib.hid h; clear c hv hl h
    go_enter Tryz.func91, Tryz.ntmps91
    go_wp2_with fail
    refine (C.out _).mono ?_
    rintro e w1 ⟨rfl, hw1⟩
    go_wp2_with fail
    go_ret
    exact ⟨rfl, hw1⟩
  · have hv : Lib.itoa n = Lib.decDigits n.toNat := by unfold Lib.itoa; rw [if_neg h]
    have c := fun w => l1Num_c n.toNat (by omega) w
    have e3 : decide (n < 0) = false := decide_eq_false h
    have e1 : (n.toNat : Int) = n := by omega
    rw [hv]
    rw [e1] at c
    generalize Lib.decDigits n.toNat = D at c ⊢
    have C := Lib.hid c; have H := Lib.hid h; clear c hv h e1
    go_enter Tryz.func91, Tryz.ntmps91
    go_wp2_with fail
    refine (C.out _).mono ?_
    rintro e w1 ⟨rfl, hw1⟩
    go_wp2_with fail
    go_ret
    exact ⟨rfl, hw1⟩

set_option maxHeartbeats 800000 in
theorem nuText_c (n : Int) (w : World) (h0 : -1000000000000000000 ≤ n) (h1 : n ≤ 1000000000000000000) :
    Calls Tryz.prog 73 #[.int .i64 n] w fun e w' => e = .returned (strV (numTxt n)) ∧ Below w.heap.size w w' := by
  have c := fun w => l1Int_c n w h0 h1
  unfold numTxt
  by_cases h : n = 1000000000
  · rw [if_pos h]
    subst h
    clear c
    go_enter Tryz.func73, Tryz.ntmps73
    go_wp2_with fail
    go_ret
    exact ⟨rfl, Below.refl _ _⟩
  · rw [if_neg h]
    have hb : (n == 1000000000) = false := beq_eq_false_iff_ne.2 h
    generalize Lib.itoa n = D at c ⊢
    have C := Lib.hid c; have H := Lib.hid h; clear c h
    go_enter Tryz.func73, Tryz.ntmps73
    go_wp2_with fail
    refine (C.out _).mono ?_
    rintro e w1 ⟨rfl, hw1⟩
    go_wp2_with fail
    go_ret
    exact ⟨rfl, hw1⟩

def txtR (n : Int) : Value := .tuple #[strV (if numB n = true then numTxt n else []), .bool (numB n)]

/-! ### Reading -/
theorem idx_str (s : ByteArray) (k : Nat) (hk : k < s.size) (w : World) :
    (Instr.index 9 (.string s) (.int .i64 (k : Int))).run Tryz.prog w = .ok (.int .u8 ((s.toList.getD k 0).toNat : Int)) w := by
  rw [run_index_string (P := Tryz.prog) w 9 s .i64 k Tryz.underlying9, dif_pos ⟨by omega, by omega⟩, ByteArray.toList_eq, ← Lib.getD_at s k hk]
  rfl
theorem len_str (s : ByteArray) : s.toList.length = s.size := by
  rw [ByteArray.toList_eq]
  exact Array.length_toList
theorem getD_some (l : List UInt8) (k : Nat) (h : k < l.length) : l[k]? = some (l.getD k 0) := by
  rw [List.getD_eq_getElem?_getD, List.getElem?_eq_getElem h, Option.getD_some]
def nuReadF (l : List UInt8) : Int := if inB l.length 1 10 = true ∧ ¬ ((l.getD 0 0).toNat = 48 ∧ 1 < l.length) then (match Lib.decFrom 0 l with | some n => (n : Int) | none => -1) else -1

theorem u8_bd (b : UInt8) : b.toNat ≤ 255 := by have := b.toNat_lt; omega
theorem decFrom_bad {l : List UInt8} {k : Nat} (hk : k < l.length) (h : (l.getD k 0).toNat < 48 ∨ 57 < (l.getD k 0).toNat) : Lib.decFrom 0 l = none := by
  cases hc : Lib.decFrom 0 l with
  | none => rfl
  | some n =>
    obtain ⟨d, hd⟩ := Lib.digit_of_decFrom l 0 n hc k _ (getD_some l k hk)
    have := Lib.digitVal_eq hd
    omega
theorem decFrom_step {l : List UInt8} {k m : Nat} (hk : k < l.length) (hm : Lib.decFrom 0 (l.take k) = some m) (h : 48 ≤ (l.getD k 0).toNat ∧ (l.getD k 0).toNat ≤ 57) : Lib.decFrom 0 (l.take (k + 1)) = some (m * 10 + ((l.getD k 0).toNat - 48)) :=
  Lib.decFrom_take l k 0 m _ _ hm (getD_some l k hk) (by unfold Lib.digitVal; rw [if_pos h])
theorem decFrom_bd {l : List UInt8} {k m : Nat} (hk : k ≤ 10) (hm : Lib.decFrom 0 (l.take k) = some m) : m < 10000000000 := by
  have h := Lib.decFrom_lt _ _ _ hm
  have h2 : (l.take k).length ≤ 10 := by rw [List.length_take]; omega
  have h3 : (10 : Nat) ^ (l.take k).length ≤ 10 ^ 10 := Nat.pow_le_pow_right (by omega) h2
  have h4 : (10 : Nat) ^ 10 = 10000000000 := by decide
  omega

set_option maxHeartbeats 1600000 in
theorem nuRead_c (s : ByteArray) (w : World) (hmax : s.size ≤ 1048576) :
    Calls Tryz.prog 85 #[.string s] w fun e w' => e = .returned (.int .i64 (nuReadF s.toList)) ∧ w = w' := by
  have hlen := len_str s
  have cl := fun w => l1In_any s.size 1 10 w
  have hix := idx_str s
  obtain ⟨l, hl⟩ : ∃ l, s.toList = l := ⟨_, rfl⟩
  rw [hl] at hlen hix ⊢
  obtain ⟨V, hV⟩ : ∃ V, nuReadF l = V := ⟨_, rfl⟩
  rw [hV]
  unfold nuReadF at hV
  rw [hlen] at hV
  have hin := fun h => inB_t.1 (show inB s.size 1 10 = true from h)
  generalize inB s.size 1 10 = u at cl hV hin
  have CL := Lib.hid cl; have HL := Lib.hid hl; have HIX := Lib.hid hix; clear cl hl hix
  cases u
  case false =>
    rw [if_neg (fun h => absurd h.1 (by simp))] at hV
    subst hV
    go_enter Tryz.func85, Tryz.ntmps85
    go_wp2_with fail
    refine (CL.out _).mono ?_
    rintro e w1 ⟨rfl, rfl⟩
    go_wp2_with fail
    go_ret
    exact ⟨rfl, rfl⟩
  case true =>
    have hb := hin rfl
    clear hin
    have h0 : 0 < s.size := by omega
    have hi0 := fun w => HIX.out 0 h0 w
    by_cases hz : (l.getD 0 0).toNat = 48 ∧ 1 < s.size
    case pos =>
      rw [if_neg (fun h => h.2 hz)] at hV
      subst hV
      have hi1 : ∀ w, (Instr.index 9 (.string s) (.int .i64 (0 : Int))).run Tryz.prog w = .ok (.int .u8 48) w := fun w => by have := hi0 w; rw [hz.1] at this; exact this
      clear hi0
      have g1 : decide ((1 : Int) < (s.size : Int)) = true := decide_eq_true (by omega)
      have HZ := Lib.hid hz; have HLEN := Lib.hid hlen; clear hz hlen
      go_enter Tryz.func85, Tryz.ntmps85
      go_wp2_with fail
      refine (CL.out _).mono ?_
      rintro e w1 ⟨rfl, rfl⟩
      go_wp2_with fail
      go_ret
      exact ⟨rfl, rfl⟩
    case neg =>
      rw [if_pos ⟨rfl, hz⟩] at hV
      obtain ⟨x, hx⟩ : ∃ x : Int, (((l.getD 0 0).toNat : Nat) : Int) = x := ⟨_, rfl⟩
      have hi1 : ∀ w, (Instr.index 9 (.string s) (.int .i64 (0 : Int))).run Tryz.prog w = .ok (.int .u8 x) w := fun w => by rw [← hx]; exact hi0 w
      obtain ⟨c1, hc1⟩ : ∃ c : Bool, (x == 48) = c := ⟨_, rfl⟩
      obtain ⟨c2, hc2⟩ : ∃ c : Bool, decide ((1 : Int) < (s.size : Int)) = c := ⟨_, rfl⟩
      have hcc : (c1 && c2) = false := by
        cases c1 with
        | false => rfl
        | true =>
          cases c2 with
          | false => rfl
          | true =>
            exfalso
            have e1 : x = 48 := by simpa using hc1
            have e2 : (1 : Int) < (s.size : Int) := by simpa using hc2
            exact hz ⟨by omega, by omega⟩
      have HCC := Lib.hid hcc; have HZ := Lib.hid hz; have HX := Lib.hid hx; have HLEN := Lib.hid hlen; have HV := Lib.hid hV; clear hcc hz hx hi0 hlen hV
      go_enter Tryz.func85, Tryz.ntmps85
      go_wp2_with fail
      refine (CL.out _).mono ?_
      rintro e w1 ⟨rfl, rfl⟩
      cases c1
      case' true => (obtain rfl : c2 = false := by (have := HCC.out; simpa using this))
      all_goals go_wp2_with fail
      all_goals
        clear hc2 hi1
        go_loopw [3, 4] (fun n i wr => ∃ k m : Nat, k ≤ s.size ∧ i = .int .i64 k ∧ n = .int .i64 m ∧ Lib.decFrom 0 (l.take k) = some m ∧ w = wr) (fun _ i _ => s.size - (intOf i).toNat)
        case atStart => exact ⟨0, 0, Nat.zero_le _, rfl, rfl, rfl, rfl⟩
        case round =>
          obtain ⟨k, m, hk, rfl, rfl, hm, rfl⟩ := hrel
          have HM := Lib.hid hm
          have hmb := decFrom_bd (by omega) hm
          clear hm
          by_cases hlt : k < s.size
          case neg =>
            have hke : k = s.size := by omega
            have hve := Lib.hid (show (m : Int) = V by
              have h1 := HM.out
              have h2 := HV.out
              rw [hke, ← HLEN.out, List.take_length] at h1
              rw [h1] at h2
              exact h2)
            clear hke
            have g1 : decide ((k : Int) < (s.size : Int)) = false := decide_eq_false (by omega)
            go_wp2_with fail
            go_ret
            exact ⟨ret_int hve.out, rfl⟩
          case pos =>
            have g1 : decide ((k : Int) < (s.size : Int)) = true := decide_eq_true (by omega)
            have hik := fun w => HIX.out k hlt w
            have hbd := u8_bd (l.getD k 0)
            obtain ⟨y, hy⟩ : ∃ y : Nat, (l.getD k 0).toNat = y := ⟨_, rfl⟩
            rw [hy] at hik hbd
            have HY := Lib.hid hy; clear hy
            by_cases hbad : y < 48 ∨ 57 < y
            case pos =>
              have hve := Lib.hid (show (-1 : Int) = V by
                have h2 := HV.out
                rw [decFrom_bad (k := k) (by have := HLEN.out; omega) (by have := HY.out; omega)] at h2
                exact h2)
              by_cases h48 : y < 48
              case pos =>
                have g2 : decide ((y : Int) < 48) = true := decide_eq_true (by omega)
                have HB := Lib.hid hbad; clear hbad
                go_wp2_with fail
                go_ret
                exact ⟨ret_int hve.out, rfl⟩
              case neg =>
                have g2 : decide ((y : Int) < 48) = false := decide_eq_false (by omega)
                have g3 : decide ((57 : Int) < (y : Int)) = true := decide_eq_true (by omega)
                have HB := Lib.hid hbad; clear hbad
                go_wp2_with fail
                go_ret
                exact ⟨ret_int hve.out, rfl⟩
            case neg =>
              have g2 : decide ((y : Int) < 48) = false := decide_eq_false (by omega)
              have g3 : decide ((57 : Int) < (y : Int)) = false := decide_eq_false (by omega)
              have hst := decFrom_step (k := k) (by have := HLEN.out; omega) HM.out (by have := HY.out; omega)
              rw [HY.out] at hst
              obtain ⟨d, hd⟩ : ∃ d : Nat, y = 48 + d := ⟨y - 48, by omega⟩
              have hst2 := Lib.hid (show Lib.decFrom 0 (l.take (k + 1)) = some (10 * m + d) by rw [hst]; congr 1; omega)
              have w1 : IntKind.u8.wrap ((y : Int) - 48) = (d : Int) := by rw [show (y : Int) - 48 = (d : Int) by omega]; exact u8_in (by omega) (by omega)
              have w4 : IntKind.i64.wrap (d : Int) = (d : Int) := i64_small (by omega) (by omega)
              have w2 : IntKind.i64.wrap (10 * (m : Int)) = 10 * (m : Int) := i64_small (by omega) (by omega)
              have w3 : IntKind.i64.wrap (10 * (m : Int) + (d : Int)) = 10 * (m : Int) + (d : Int) := i64_small (by omega) (by omega)
              have HD := Lib.hid hd
              have HB := Lib.hid hbad; clear hbad hst hd
              go_wp2_with fail
              go_roundw
              case rel => exact ⟨k + 1, 10 * m + d, by omega, by go_num, by go_num, hst2.out, trivial⟩
              case measure => simp [intOf]; omega

theorem nuReadF_bd (l : List UInt8) : -1 ≤ nuReadF l ∧ nuReadF l < 10000000000 := by
  unfold nuReadF
  split
  · rename_i h
    have h1 := inB_t.1 h.1
    split
    · rename_i n hn
      have := decFrom_bd (l := l) (k := l.length) (by omega) (by rw [List.take_length]; exact hn)
      omega
    · omega
  · omega
def nuParseN (l : List UInt8) : Int := if l = infL then 1000000000 else if 1 < l.length ∧ (l.getD 0 0).toNat = 45 then -(nuReadF (l.drop 1)) else nuReadF l
def nuParseR (l : List UInt8) : Int × Bool := if numB (nuParseN l) = true ∧ numTxt (nuParseN l) = l then (nuParseN l, true) else (0, false)
theorem nuParseN_bd (l : List UInt8) : -10000000000 < nuParseN l ∧ nuParseN l < 10000000000 := by
  unfold nuParseN
  split
  · omega
  · split
    · have := nuReadF_bd (l.drop 1); omega
    · have := nuReadF_bd l; omega
def pairQ (r : Int × Bool) : Value := .tuple #[.int .i64 r.1, .bool r.2]
theorem slice_from (s : ByteArray) (i : Int) (h0 : 0 ≤ i) (h : i ≤ s.size) (w : World) :
    (Instr.slice 9 (.string s) (some (.int .i64 i)) none none).run Tryz.prog w = .ok (.string (s.extract i.toNat s.size)) w := by
  simp [Instr.slice, Instr.sliceBounds, Instr.sliceBound, asIntOf, run_underlying (P := Tryz.prog) Tryz.underlying9, h0, h]
  try omega
theorem ext_toList (s : ByteArray) : (s.extract 1 s.size).toList = s.toList.drop 1 := by
  rw [ByteArray.toList_eq, ByteArray.toList_eq, ByteArray.data_extract, Array.toList_extract, List.extract]
  exact List.take_of_length_le (by rw [List.length_drop]; exact Nat.le_refl _)

set_option maxHeartbeats 1600000 in
/-- What stands behind the number's reading: its test. -/
theorem nuParse_c (s : ByteArray) (w : World) (hmax : s.size ≤ 1048576) :
    Calls Tryz.prog 59 #[.string s] w fun e w' => e = .returned (pairQ (nuParseR s.toList)) ∧ Below w.heap.size w w' := by
  have hlen := len_str s
  have hix := idx_str s
  have c1 := fun w => nuRead_c s w hmax
  have c2 := fun w => nuRead_c (s.extract 1 s.size) w (by simp; omega)
  rw [ext_toList] at c2
  have hinf : (s.toList == [105, 110, 102]) = decide (s.toList = infL) := Bool.eq_iff_iff.2 (by rw [beq_iff_eq, decide_eq_true_iff]; rfl)
  obtain ⟨l, hl⟩ : ∃ l, s.toList = l := ⟨_, rfl⟩
  rw [hl] at hlen hix c1 c2 hinf ⊢
  obtain ⟨N, hN⟩ : ∃ N, nuParseN l = N := ⟨_, rfl⟩
  have hNb := nuParseN_bd l
  unfold nuParseR
  rw [hN] at hNb ⊢
  have cg := fun w => nuGood_c N w
  have ct := fun w => nuText_c N w (by omega) (by omega)
  obtain ⟨T, hT⟩ : ∃ T, numTxt N = T := ⟨_, rfl⟩
  rw [hT] at ct ⊢
  have hneq : (T == l) = decide (T = l) := Bool.eq_iff_iff.2 (by rw [beq_iff_eq, decide_eq_true_iff])
  -- the end: the test
  obtain ⟨G, hG⟩ : ∃ G, numB N = G := ⟨_, rfl⟩
  rw [hG] at cg ⊢
  obtain ⟨Q, hQ⟩ : ∃ Q, decide (T = l) = Q := ⟨_, rfl⟩
  have hres : (if G = true ∧ T = l then (N, true) else ((0 : Int), false)) = if (G && Q) = true then (N, true) else (0, false) := by
    rw [← hQ]; congr 1; simp
  rw [hres]
  rw [hQ] at hneq
  have hs2 := hl
  unfold strV at ct
  have CG := Lib.hid cg; have CT := Lib.hid ct; clear cg ct hres hT hG hQ
  unfold nuParseN at hN
  unfold pairQ
  by_cases h1 : l = infL
  case pos =>
    rw [if_pos h1] at hN
    subst hN
    rw [decide_eq_true h1] at hinf
    have H1 := Lib.hid h1; have HL := Lib.hid hlen; clear h1 hlen c1 c2 hix hs2
    go_enter Tryz.func59, Tryz.ntmps59
    go_wp2_with fail
    refine (CG.out _).mono ?_
    rintro e w1 ⟨rfl, rfl⟩
    cases G
    case false =>
      go_wp2_with fail
      go_ret2
      exact ⟨rfl, Below.refl _ _⟩
    case true =>
      go_wp2_with fail
      refine (CT.out _).mono ?_
      rintro e w2 ⟨rfl, hw2⟩
      cases Q
      case false =>
        go_wp2_with fail
        go_ret2
        exact ⟨rfl, hw2⟩
      case true =>
        go_wp2_with fail
        go_ret2
        exact ⟨rfl, hw2⟩
  case neg =>
    rw [if_neg h1] at hN
    rw [decide_eq_false h1] at hinf
    by_cases h2 : 1 < s.size
    case neg =>
      rw [if_neg (fun h => h2 (by rw [← hlen]; exact h.1))] at hN
      rw [hN] at c1
      have g1 : decide ((1 : Int) < (s.size : Int)) = false := decide_eq_false (by omega)
      have C1 := Lib.hid c1
      have H1 := Lib.hid h1; have H2 := Lib.hid h2; have HL := Lib.hid hlen; have HN := Lib.hid hN; clear h1 h2 hlen c1 c2 hix hs2 hN
      go_enter Tryz.func59, Tryz.ntmps59
      go_wp2_with fail
      refine (C1.out _).mono ?_
      rintro e w1 ⟨rfl, rfl⟩
      go_wp2_with fail
      refine (CG.out _).mono ?_
      rintro e w1 ⟨rfl, rfl⟩
      cases G
      case false =>
        go_wp2_with fail
        go_ret2
        exact ⟨rfl, Below.refl _ _⟩
      case true =>
        go_wp2_with fail
        refine (CT.out _).mono ?_
        rintro e w2 ⟨rfl, hw2⟩
        cases Q
        case false =>
          go_wp2_with fail
          go_ret2
          exact ⟨rfl, hw2⟩
        case true =>
          go_wp2_with fail
          go_ret2
          exact ⟨rfl, hw2⟩
    case pos =>
      have g1 : decide ((1 : Int) < (s.size : Int)) = true := decide_eq_true (by omega)
      have hi0 := fun w => hix 0 (by omega) w
      obtain ⟨x, hx⟩ : ∃ x : Nat, (l.getD 0 0).toNat = x := ⟨_, rfl⟩
      have hi1 : ∀ w, (Instr.index 9 (.string s) (.int .i64 (0 : Int))).run Tryz.prog w = .ok (.int .u8 (x : Int)) w := fun w => by rw [← hx]; exact hi0 w
      rw [hx] at hN
      clear hi0 hix
      by_cases h3 : x = 45
      case neg =>
        rw [if_neg (fun h => h3 h.2)] at hN
        rw [hN] at c1
        have g2 : ((x : Int) == 45) = false := beq_eq_false_iff_ne.2 (by omega)
        have C1 := Lib.hid c1
        have H1 := Lib.hid h1; have H2 := Lib.hid h2; have H3 := Lib.hid h3; have HL := Lib.hid hlen; have HN := Lib.hid hN; have HX := Lib.hid hx; clear h1 h2 h3 hlen c1 c2 hs2 hN hx
        go_enter Tryz.func59, Tryz.ntmps59
        go_wp2_with fail
        refine (C1.out _).mono ?_
        rintro e w1 ⟨rfl, rfl⟩
        go_wp2_with fail
        refine (CG.out _).mono ?_
        rintro e w1 ⟨rfl, rfl⟩
        cases G
        case false =>
          go_wp2_with fail
          go_ret2
          exact ⟨rfl, Below.refl _ _⟩
        case true =>
          go_wp2_with fail
          refine (CT.out _).mono ?_
          rintro e w2 ⟨rfl, hw2⟩
          cases Q
          case false =>
            go_wp2_with fail
            go_ret2
            exact ⟨rfl, hw2⟩
          case true =>
            go_wp2_with fail
            go_ret2
            exact ⟨rfl, hw2⟩
      case pos =>
        rw [if_pos ⟨by rw [hlen]; exact h2, h3⟩] at hN
        obtain ⟨y, hy⟩ : ∃ y, nuReadF (l.drop 1) = y := ⟨_, rfl⟩
        have hyb := nuReadF_bd (l.drop 1)
        rw [hy] at hN c2 hyb
        obtain ⟨y1, hy1⟩ : ∃ y, nuReadF l = y := ⟨_, rfl⟩
        rw [hy1] at c1
        subst h3
        have hsl := fun w => slice_from s 1 (by omega) (by omega) w
        rw [show (1 : Int).toNat = 1 from rfl] at hsl
        have w1 : IntKind.i64.wrap (-y) = -y := i64_small (by omega) (by omega)
        have C1 := Lib.hid c1; have C2 := Lib.hid c2
        have H1 := Lib.hid h1; have H2 := Lib.hid h2; have HL := Lib.hid hlen; have HX := Lib.hid hx; have HY := Lib.hid hy; have HY1 := Lib.hid hy1; clear h1 h2 hlen c1 c2 hs2 hx hy hy1
        subst hN
        go_enter Tryz.func59, Tryz.ntmps59
        go_wp2_with fail
        refine (C1.out _).mono ?_
        rintro e w1 ⟨rfl, rfl⟩
        go_wp2_with fail
        refine (C2.out _).mono ?_
        rintro e w1 ⟨rfl, rfl⟩
        go_wp2_with fail
        refine (CG.out _).mono ?_
        rintro e w1 ⟨rfl, rfl⟩
        cases G
        case false =>
          go_wp2_with fail
          go_ret2
          exact ⟨rfl, Below.refl _ _⟩
        case true =>
          go_wp2_with fail
          refine (CT.out _).mono ?_
          rintro e w2 ⟨rfl, hw2⟩
          cases Q
          case false =>
            go_wp2_with fail
            go_ret2
            exact ⟨rfl, hw2⟩
          case true =>
            go_wp2_with fail
            go_ret2
            exact ⟨rfl, hw2⟩

end Go.Proofs.YtfgdhlnmndgjbaaGreatDoor
