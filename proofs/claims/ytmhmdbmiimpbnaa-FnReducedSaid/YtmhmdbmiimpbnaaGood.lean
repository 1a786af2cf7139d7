/-
  When n vertices and links are a graph: the reference's chGood and the program's isGraph answer the same Bool.
-/
import Derived.Test.YtmhmdbmiimpbnaaLaws
namespace Go.Proofs.Ytmhmdbmiimpbnaa
open Go.RowKit

def lkOk (n : Int) (x : Lk) : Bool := inB x.b 1 (n-1) && inB x.a 0 (x.b-1) && inB x.n 1 5
def lkLt (x y : Lk) : Bool := decide (x.a < y.a ∨ (x.a = y.a ∧ x.b < y.b))
def goodAt (n : Int) (ls : List Lk) (i : Nat) : Bool := lkOk n (ls.getD i Lk.z) && (i == 0 || lkLt (ls.getD (i-1) Lk.z) (ls.getD i Lk.z))
def goodL (n : Int) (ls : List Lk) : Bool := inB n 1 8 && (List.range ls.length).all (goodAt n ls)

theorem goodL_n {n : Int} {ls : List Lk} (h : inB n 1 8 = false) : goodL n ls = false := by simp [goodL, h]
theorem goodL_false {n : Int} {ls : List Lk} {k : Nat} (hk : k < ls.length) (h : goodAt n ls k = false) : goodL n ls = false := by
  simp only [goodL, Bool.and_eq_false_iff, List.all_eq_false]
  exact Or.inr ⟨k, by simpa using hk, by simp [h]⟩
theorem goodL_true {n : Int} {ls : List Lk} (hn : inB n 1 8 = true) (h : ∀ j, j < ls.length → goodAt n ls j = true) : goodL n ls = true := by
  simp only [goodL, Bool.and_eq_true, List.all_eq_true]
  exact ⟨hn, fun j hj => h j (by simpa using hj)⟩

/-- What one link's tests come to. -/
theorem goodAt_bad {n : Int} {ls : List Lk} {k : Nat} {x : Lk} (hx : ls.getD k Lk.z = x) (h : lkOk n x = false) : goodAt n ls k = false := by unfold goodAt; rw [hx, h]; rfl
theorem goodAt_head {n : Int} {ls : List Lk} {k : Nat} {x : Lk} (hx : ls.getD k Lk.z = x) (h : lkOk n x = true) (hk : k = 0) : goodAt n ls k = true := by unfold goodAt; rw [hx, h, hk]; rfl
theorem goodAt_next {n : Int} {ls : List Lk} {k : Nat} {x p : Lk} (hx : ls.getD k Lk.z = x) (hp : ls.getD (k-1) Lk.z = p) (h : lkOk n x = true) (hk : k ≠ 0) : goodAt n ls k = lkLt p x := by unfold goodAt; rw [hx, hp, h]; simp [hk]

set_option maxHeartbeats 400000 in
theorem l1In_any (n lo hi : Int) (w : World) :
    Calls Try.prog 105 #[.int .i64 n, .int .i64 lo, .int .i64 hi] w fun e w' => e = .returned (.bool (inB n lo hi)) ∧ w = w' := by
  go_enter Try.func105, Try.ntmps105
  go_wp2
  all_goals go_ret
  · exact ⟨ret_bool (by simp [inB, *]), rfl⟩
  · exact ⟨ret_bool (by simp [inB]; omega), rfl⟩

set_option maxHeartbeats 400000 in
theorem within_any (n lo hi : Int) (w : World) :
    Calls Try.prog 107 #[.int .i64 n, .int .i64 lo, .int .i64 hi] w fun e w' => e = .returned (.bool (inB n lo hi)) ∧ w = w' := by
  go_enter Try.func107, Try.ntmps107
  go_wp2
  all_goals go_ret
  · exact ⟨ret_bool (by simp [inB, *]), rfl⟩
  · exact ⟨ret_bool (by simp [inB]; omega), rfl⟩

set_option maxHeartbeats 1600000 in
theorem chGood_any (n : Int) (ad : Option Addr) (cap : Nat) (ls : List Lk) (w : World) (hl : ls.length ≤ 1048576) (hr : RdL w ad ls) :
    Calls Try.prog 57 #[.int .i64 n, .slice ad ls.length cap] w fun e w' => e = .returned (.bool (goodL n ls)) ∧ Below w.heap.size w w' := by
  have HR := Lib.hid hr; clear hr
  by_cases hn : inB n 1 8 = true
  · obtain ⟨hn1, hn2⟩ := inB_t.1 hn
    go_enter Try.func57, Try.ntmps57
    go_wp2_with (go_at_call 105; refine (l1In_any _ _ _ _).mono ?_; rintro e w' ⟨rfl, rfl⟩)
    go_loopw [12] (fun i wr => ∃ k : Nat, k ≤ ls.length ∧ i = .int .i64 k ∧ (∀ j, j < k → goodAt n ls j = true) ∧ Below w.heap.size w wr) (fun i _ => ls.length - (intOf i).toNat)
    case atStart => exact ⟨0, Nat.zero_le _, rfl, fun j hj => by omega, Below.refl _ _⟩
    case round =>
      obtain ⟨k, hk, rfl, hg, hbel⟩ := hrel
      have HG := Lib.hid hg; clear hg
      by_cases hlt : k < ls.length
      · obtain ⟨b, off, rfl, hb, c0, c1, c2⟩ := HR.out k hlt
        have d0 := bcell hbel hb c0
        have d1 := bcell hbel hb c1
        have d2 := bcell hbel hb c2
        clear c0 c1 c2
        generalize hx : ls.getD k Lk.z = x at d0 d1 d2
        obtain ⟨xa, xb, xn⟩ := x
        simp only at d0 d1 d2
        have HX := Lib.hid hx; clear hx
        have hbb : Below w.heap.size w (wr.alloc (.cells #[.int .i64 xa, .int .i64 xb, .int .i64 xn] 41)) := hbel.alloc hbel.size _
        by_cases h1 : inB xb 1 (n-1) = true
        case neg =>
          have h1' := Bool.eq_false_iff.2 h1
          go_wp2_with (go_at_call 105; refine (l1In_any _ _ _ _).mono ?_; rintro e w' ⟨rfl, rfl⟩)
          go_ret
          exact ⟨ret_bool (goodL_false hlt (goodAt_bad HX.out (by simp [lkOk, h1']))).symm, hbb⟩
        case pos =>
          obtain ⟨h1a, h1b⟩ := inB_t.1 h1
          by_cases h2 : inB xa 0 (xb-1) = true
          case neg =>
            have h2' := Bool.eq_false_iff.2 h2
            go_wp2_with (go_at_call 105; refine (l1In_any _ _ _ _).mono ?_; rintro e w' ⟨rfl, rfl⟩)
            go_ret
            exact ⟨ret_bool (goodL_false hlt (goodAt_bad HX.out (by simp [lkOk, h2']))).symm, hbb⟩
          case pos =>
            obtain ⟨h2a, h2b⟩ := inB_t.1 h2
            by_cases h3 : inB xn 1 5 = true
            case neg =>
              have h3' := Bool.eq_false_iff.2 h3
              go_wp2_with (go_at_call 105; refine (l1In_any _ _ _ _).mono ?_; rintro e w' ⟨rfl, rfl⟩)
              go_ret
              exact ⟨ret_bool (goodL_false hlt (goodAt_bad HX.out (by simp [lkOk, h3']))).symm, hbb⟩
            case pos =>
              obtain ⟨h3a, h3b⟩ := inB_t.1 h3
              have hok : Hid (lkOk n ⟨xa, xb, xn⟩ = true) := by
                show _ = _
                simp [lkOk, inB]; omega
              go_wp2_with (go_at_call 105; refine (l1In_any _ _ _ _).mono ?_; rintro e w' ⟨rfl, rfl⟩)
              by_cases hk0 : k = 0
              · have hkd : decide (0 < k) = false := by simp [hk0]
                have hk1 : k ≤ 0 := by omega
                have HK0 := Lib.hid hk0; clear hk0
                go_quiet (fail)
                go_wp2
                go_roundw
                case rel =>
                  refine ⟨k + 1, by omega, by go_num, fun j hj => ?_, bdrewN hbb _⟩
                  by_cases e : j = k
                  · subst e; exact goodAt_head HX.out hok.out HK0.out
                  · exact HG.out j (by omega)
                case measure => simp [intOf]; omega
              · have hk1 : 0 < k := by omega
                have hk2 : (1 : Int) ≤ k := by omega
                obtain ⟨p0, p1, p2⟩ := HR.out.at (j := k - 1) (by omega)
                have q0 := bcell hbb hb p0
                have q1 := bcell hbb hb p1
                clear p0 p1 p2
                generalize hp : ls.getD (k - 1) Lk.z = p at q0 q1
                obtain ⟨pa, pb, pn⟩ := p
                simp only at q0 q1
                have HP := Lib.hid hp; clear hp
                have HK0 := Lib.hid hk0; clear hk0
                by_cases g0 : xa < pa
                case pos =>
                  have o1 : decide (xa < pa) = true := by simp; omega
                  have w1 := pred_wrap (k := k) (by omega)
                  have w2 := pred_toNat (k := k)
                  have w3 : (0 : Int) ≤ (k : Int) - 1 := by omega
                  have w4 : (k : Int) - 1 < ls.length := by omega
                  go_quiet (fail)
                  clear w1 w2 w3 w4
                  go_wp2
                  go_ret
                  exact ⟨ret_bool (goodL_false hlt (by rw [goodAt_next HX.out HP.out hok.out HK0.out]; simp [lkLt]; omega)).symm, bdrewN hbb _⟩
                case neg =>
                  by_cases g1 : pa < xa
                  case pos =>
                    have o1 : decide (xa < pa) = false := by simp; omega
                    have o2 : (pa == xa) = false := by simp; omega
                    have w1 := pred_wrap (k := k) (by omega)
                    have w2 := pred_toNat (k := k)
                    have w3 : (0 : Int) ≤ (k : Int) - 1 := by omega
                    have w4 : (k : Int) - 1 < ls.length := by omega
                    go_quiet (fail)
                    clear w1 w2 w3 w4
                    go_wp2
                    go_roundw
                    case rel =>
                      refine ⟨k + 1, by omega, by go_num, fun j hj => ?_, bdrewN hbb _⟩
                      by_cases e : j = k
                      · subst e; rw [goodAt_next HX.out HP.out hok.out HK0.out]; simp [lkLt]; omega
                      · exact HG.out j (by omega)
                    case measure => simp [intOf]; omega
                  case neg =>
                    by_cases g2 : xb ≤ pb
                    case pos =>
                      have o1 : decide (xa < pa) = false := by simp; omega
                      have o2 : (pa == xa) = true := by simp; omega
                      have o3 : decide (xb ≤ pb) = true := by simp; omega
                      have w1 := pred_wrap (k := k) (by omega)
                      have w2 := pred_toNat (k := k)
                      have w3 : (0 : Int) ≤ (k : Int) - 1 := by omega
                      have w4 : (k : Int) - 1 < ls.length := by omega
                      go_quiet (fail)
                      clear w1 w2 w3 w4
                      go_wp2
                      go_ret
                      exact ⟨ret_bool (goodL_false hlt (by rw [goodAt_next HX.out HP.out hok.out HK0.out]; simp [lkLt]; omega)).symm, bdrewN hbb _⟩
                    case neg =>
                      have o1 : decide (xa < pa) = false := by simp; omega
                      have o2 : (pa == xa) = true := by simp; omega
                      have o3 : decide (xb ≤ pb) = false := by simp; omega
                      have w1 := pred_wrap (k := k) (by omega)
                      have w2 := pred_toNat (k := k)
                      have w3 : (0 : Int) ≤ (k : Int) - 1 := by omega
                      have w4 : (k : Int) - 1 < ls.length := by omega
                      go_quiet (fail)
                      clear w1 w2 w3 w4
                      go_wp2
                      go_roundw
                      case rel =>
                        refine ⟨k + 1, by omega, by go_num, fun j hj => ?_, bdrewN hbb _⟩
                        by_cases e : j = k
                        · subst e; rw [goodAt_next HX.out HP.out hok.out HK0.out]; simp [lkLt]; omega
                        · exact HG.out j (by omega)
                      case measure => simp [intOf]; omega
      · have he : k = ls.length := by omega
        subst he
        go_wp2
        go_ret
        exact ⟨ret_bool (goodL_true hn HG.out).symm, hbel⟩
  · have hn' := Bool.eq_false_iff.2 hn
    go_enter Try.func57, Try.ntmps57
    go_wp2_with (go_at_call 105; refine (l1In_any _ _ _ _).mono ?_; rintro e w' ⟨rfl, rfl⟩)
    go_ret
    exact ⟨ret_bool (goodL_n hn').symm, Below.refl _ _⟩


set_option maxHeartbeats 1600000 in
theorem isGraph_any (n : Int) (ad : Option Addr) (cap : Nat) (ls : List Lk) (w : World) (hl : ls.length ≤ 1048576) (hr : RdL w ad ls) :
    Calls Try.prog 65 #[.int .i64 n, .slice ad ls.length cap] w fun e w' => e = .returned (.bool (goodL n ls)) ∧ Below w.heap.size w w' := by
  have HR := Lib.hid hr; clear hr
  by_cases hn : inB n 1 8 = true
  · obtain ⟨hn1, hn2⟩ := inB_t.1 hn
    go_enter Try.func65, Try.ntmps65
    go_wp2_with (go_at_call 107; refine (within_any _ _ _ _).mono ?_; rintro e w' ⟨rfl, rfl⟩)
    go_loopw [12] (fun i wr => ∃ k : Nat, k ≤ ls.length ∧ i = .int .i64 k ∧ (∀ j, j < k → goodAt n ls j = true) ∧ Below w.heap.size w wr) (fun i _ => ls.length - (intOf i).toNat)
    case atStart => exact ⟨0, Nat.zero_le _, rfl, fun j hj => by omega, Below.refl _ _⟩
    case round =>
      obtain ⟨k, hk, rfl, hg, hbel⟩ := hrel
      have HG := Lib.hid hg; clear hg
      by_cases hlt : k < ls.length
      · obtain ⟨b, off, rfl, hb, c0, c1, c2⟩ := HR.out k hlt
        have d0 := bcell hbel hb c0
        have d1 := bcell hbel hb c1
        have d2 := bcell hbel hb c2
        clear c0 c1 c2
        generalize hx : ls.getD k Lk.z = x at d0 d1 d2
        obtain ⟨xa, xb, xn⟩ := x
        simp only at d0 d1 d2
        have HX := Lib.hid hx; clear hx
        have hbb : Below w.heap.size w (wr.alloc (.cells #[.int .i64 xa, .int .i64 xb, .int .i64 xn] 41)) := hbel.alloc hbel.size _
        by_cases h1 : inB xa 0 (n-1) = true
        case neg =>
          have h1' := Bool.eq_false_iff.2 h1
          go_wp2_with (go_at_call 107; refine (within_any _ _ _ _).mono ?_; rintro e w' ⟨rfl, rfl⟩)
          go_ret
          exact ⟨ret_bool (goodL_false hlt (goodAt_bad HX.out (by simp [lkOk, inB] at h1' ⊢; omega))).symm, hbb⟩
        case pos =>
          obtain ⟨h1a, h1b⟩ := inB_t.1 h1
          by_cases h2 : inB xb 0 (n-1) = true
          case neg =>
            have h2' := Bool.eq_false_iff.2 h2
            go_wp2_with (go_at_call 107; refine (within_any _ _ _ _).mono ?_; rintro e w' ⟨rfl, rfl⟩)
            go_ret
            exact ⟨ret_bool (goodL_false hlt (goodAt_bad HX.out (by simp [lkOk, inB] at h2' ⊢; omega))).symm, hbb⟩
          case pos =>
            obtain ⟨h2a, h2b⟩ := inB_t.1 h2
            by_cases h3 : xa < xb
            case neg =>
              go_wp2_with (go_at_call 107; refine (within_any _ _ _ _).mono ?_; rintro e w' ⟨rfl, rfl⟩)
              go_ret
              exact ⟨ret_bool (goodL_false hlt (goodAt_bad HX.out (by simp [lkOk, inB]; omega))).symm, hbb⟩
            case pos =>
              by_cases h4 : inB xn 1 5 = true
              case neg =>
                have h4' := Bool.eq_false_iff.2 h4
                go_wp2_with (go_at_call 107; refine (within_any _ _ _ _).mono ?_; rintro e w' ⟨rfl, rfl⟩)
                go_ret
                exact ⟨ret_bool (goodL_false hlt (goodAt_bad HX.out (by simp [lkOk, h4']))).symm, hbb⟩
              case pos =>
                obtain ⟨h4a, h4b⟩ := inB_t.1 h4
                have hok : Hid (lkOk n ⟨xa, xb, xn⟩ = true) := by
                  show _ = _
                  simp [lkOk, inB]; omega
                go_wp2_with (go_at_call 107; refine (within_any _ _ _ _).mono ?_; rintro e w' ⟨rfl, rfl⟩)
                by_cases hk0 : k = 0
                · have hkd : decide (0 < k) = false := by simp [hk0]
                  have hk1 : k ≤ 0 := by omega
                  have HK0 := Lib.hid hk0; clear hk0
                  go_quiet (fail)
                  go_wp2
                  go_roundw
                  case rel =>
                    refine ⟨k + 1, by omega, by go_num, fun j hj => ?_, bdrewN hbb _⟩
                    by_cases e : j = k
                    · subst e; exact goodAt_head HX.out hok.out HK0.out
                    · exact HG.out j (by omega)
                  case measure => simp [intOf]; omega
                · have hk1 : 0 < k := by omega
                  have hk2 : (1 : Int) ≤ k := by omega
                  obtain ⟨p0, p1, p2⟩ := HR.out.at (j := k - 1) (by omega)
                  have q0 := bcell hbb hb p0
                  have q1 := bcell hbb hb p1
                  clear p0 p1 p2
                  generalize hp : ls.getD (k - 1) Lk.z = p at q0 q1
                  obtain ⟨pa, pb, pn⟩ := p
                  simp only at q0 q1
                  have HP := Lib.hid hp; clear hp
                  have HK0 := Lib.hid hk0; clear hk0
                  by_cases g0 : xa < pa
                  case pos =>
                    have o1 : decide (xa < pa) = true := by simp; omega
                    have w1 := pred_wrap (k := k) (by omega)
                    have w2 := pred_toNat (k := k)
                    have w3 : (0 : Int) ≤ (k : Int) - 1 := by omega
                    have w4 : (k : Int) - 1 < ls.length := by omega
                    go_quiet (fail)
                    clear w1 w2 w3 w4
                    go_wp2
                    go_ret
                    exact ⟨ret_bool (goodL_false hlt (by rw [goodAt_next HX.out HP.out hok.out HK0.out]; simp [lkLt]; omega)).symm, bdrewN hbb _⟩
                  case neg =>
                    by_cases g1 : pa < xa
                    case pos =>
                      have o1 : decide (xa < pa) = false := by simp; omega
                      have o2 : (pa == xa) = false := by simp; omega
                      have w1 := pred_wrap (k := k) (by omega)
                      have w2 := pred_toNat (k := k)
                      have w3 : (0 : Int) ≤ (k : Int) - 1 := by omega
                      have w4 : (k : Int) - 1 < ls.length := by omega
                      go_quiet (fail)
                      clear w1 w2 w3 w4
                      go_wp2
                      go_roundw
                      case rel =>
                        refine ⟨k + 1, by omega, by go_num, fun j hj => ?_, bdrewN hbb _⟩
                        by_cases e : j = k
                        · subst e; rw [goodAt_next HX.out HP.out hok.out HK0.out]; simp [lkLt]; omega
                        · exact HG.out j (by omega)
                      case measure => simp [intOf]; omega
                    case neg =>
                      by_cases g2 : xb ≤ pb
                      case pos =>
                        have o1 : decide (xa < pa) = false := by simp; omega
                        have o2 : (pa == xa) = true := by simp; omega
                        have o3 : decide (xb ≤ pb) = true := by simp; omega
                        have w1 := pred_wrap (k := k) (by omega)
                        have w2 := pred_toNat (k := k)
                        have w3 : (0 : Int) ≤ (k : Int) - 1 := by omega
                        have w4 : (k : Int) - 1 < ls.length := by omega
                        go_quiet (fail)
                        clear w1 w2 w3 w4
                        go_wp2
                        go_ret
                        exact ⟨ret_bool (goodL_false hlt (by rw [goodAt_next HX.out HP.out hok.out HK0.out]; simp [lkLt]; omega)).symm, bdrewN hbb _⟩
                      case neg =>
                        have o1 : decide (xa < pa) = false := by simp; omega
                        have o2 : (pa == xa) = true := by simp; omega
                        have o3 : decide (xb ≤ pb) = false := by simp; omega
                        have w1 := pred_wrap (k := k) (by omega)
                        have w2 := pred_toNat (k := k)
                        have w3 : (0 : Int) ≤ (k : Int) - 1 := by omega
                        have w4 : (k : Int) - 1 < ls.length := by omega
                        go_quiet (fail)
                        clear w1 w2 w3 w4
                        go_wp2
                        go_roundw
                        case rel =>
                          refine ⟨k + 1, by omega, by go_num, fun j hj => ?_, bdrewN hbb _⟩
                          by_cases e : j = k
                          · subst e; rw [goodAt_next HX.out HP.out hok.out HK0.out]; simp [lkLt]; omega
                          · exact HG.out j (by omega)
                        case measure => simp [intOf]; omega
      · have he : k = ls.length := by omega
        subst he
        go_wp2
        go_ret
        exact ⟨ret_bool (goodL_true hn HG.out).symm, hbel⟩
  · have hn' := Bool.eq_false_iff.2 hn
    go_enter Try.func65, Try.ntmps65
    go_wp2_with (go_at_call 107; refine (within_any _ _ _ _).mono ?_; rintro e w' ⟨rfl, rfl⟩)
    go_ret
    exact ⟨ret_bool (goodL_n hn').symm, Below.refl _ _⟩


end Go.Proofs.Ytmhmdbmiimpbnaa
