/-
  Rows of points: reversed in place, copied, compared. By an AI agent.
-/
import Derived.Test.YtpnnmdkhkjenmaaSortS
import Derived.Test.YtpnnmdkhkjenmaaHalf
import Derived.Laws.AppendOwnNone
import Derived.Lib.LazyBuf
namespace Go.Proofs.Ytpnnmdkhkjenmaa
open Go.RowKit
open Go.Sort (swp size_swp)

theorem reverseLoop_rev (d : Array Pt) : ∀ (i j : Nat) (e : Array Pt), e.size = d.size → i + j + 1 = d.size → (∀ t, t < d.size → e[t]! = if t < i ∨ j < t then d[d.size - 1 - t]! else d[t]!) → Sort.reverseLoop i j e = d.reverse := by
  intro i j
  induction h : j - i using Nat.strongRecOn generalizing i j with
  | _ n ih =>
    intro e hs hij he
    by_cases hlt : i < j
    · rw [reverseLoop_go hlt]
      refine ih (j - 1 - (i + 1)) (by omega) (i + 1) (j - 1) rfl _ (by rw [size_swp]; exact hs) (by omega) (fun t ht => ?_)
      rw [swp_get! e (by omega) (by omega)]
      by_cases e1 : t = j
      · subst e1
        rw [if_pos rfl, if_pos (by omega), he i (by omega), if_neg (by omega), show d.size - 1 - t = i by omega]
      · rw [if_neg e1]
        by_cases e2 : t = i
        · subst e2
          rw [if_pos rfl, if_pos (by omega), he j (by omega), if_neg (by omega), show d.size - 1 - t = j by omega]
        · rw [if_neg e2, he t ht]
          by_cases e3 : t < i ∨ j < t
          · rw [if_pos e3, if_pos (by omega)]
          · rw [if_neg e3, if_neg (by omega)]
    · rw [reverseLoop_stop hlt]
      apply Array.ext
      · simp [hs]
      · intro t h1 h2
        have h3 : t < d.size := by simpa using h2
        have := he t h3
        rw [getElem!_pos e t h1] at this
        rw [this, Array.getElem_reverse]
        split
        · rw [getElem!_pos d _ (by omega)]
        · rw [getElem!_pos d _ h3]
          congr 1
          omega

set_option maxHeartbeats 1600000 in
theorem reverse_c (blk off cap : Nat) (d : Array Pt) (w : World) (hH : PH w blk off d) (h0 : 0 < d.size) (hsz : d.size < 2305843009213693952) :
    Calls Try.prog 47 #[.slice (some ⟨blk, off, none⟩) d.size cap] w (SortsTo w blk off d.size d.reverse) := by
  have HP := Lib.hid hH; clear hH
  obtain ⟨b1, hb1⟩ : ∃ b1, d.size = b1 + 1 := ⟨d.size - 1, by omega⟩
  have e0 : (d.size : Int) - 1 = (b1 : Int) := by omega
  have hrev := Lib.hid (reverseLoop_rev d 0 b1 d rfl (by omega) (fun t ht => by rw [if_neg (by omega)]))
  have hbb : b1 < d.size := by omega
  clear hb1
  go_enter Try.func47, Try.ntmps47
  go_wp2_with fail
  go_loopw [2, 3] (fun vi vj wr => ∃ (i j : Nat) (dk : Array Pt), vi = .int .i64 i ∧ vj = .int .i64 j ∧ i ≤ d.size ∧ j < d.size ∧ dk.size = d.size ∧ PH wr blk off dk ∧ Chg blk w wr ∧ Sort.reverseLoop i j dk = d.reverse) (fun _ vj _ => (intOf vj).toNat)
  case atStart => exact ⟨0, b1, d, rfl, by first | rfl | go_num, by omega, hbb, rfl, HP.out, Chg.refl _ _, hrev.out⟩
  case round =>
    obtain ⟨i, j, dk, rfl, rfl, hib, hjb, hsk, hph, hchg, hO⟩ := hrel
    have HO := Lib.hid hO; clear hO
    have HK := Lib.hid hph; clear hph
    have HSK := Lib.hid hsk; clear hsk
    by_cases hlt : i < j
    case neg =>
      have hv : dk = d.reverse := by rw [← HO.out, reverseLoop_stop hlt]
      have HV := Lib.hid hv; clear hv
      go_wp2_with fail
      go_end0
      exact ⟨rfl, HV.out ▸ HK.out, hchg, HV.out ▸ HSK.out⟩
    case pos =>
      obtain ⟨k, hk⟩ : ∃ k, j = k + 1 := ⟨j - 1, by omega⟩
      have e1 : (j : Int) - 1 = (k : Int) := by omega
      have hkj : k < j := by omega
      have x1 : (0 : Int) ≤ (i : Int) := by omega
      have x2 : (i : Int) < (d.size : Int) := by omega
      have x3 : (0 : Int) ≤ (j : Int) := by omega
      have x4 : (j : Int) < (d.size : Int) := by omega
      have HK1 := Lib.hid hk; clear hk
      obtain ⟨p1, p2, p3, p4, p5⟩ := HK.out i (by have := HSK.out; omega)
      obtain ⟨q1, q2, q3, q4, q5⟩ := HK.out j (by have := HSK.out; omega)
      obtain ⟨pp, hpp⟩ : ∃ p, dk[i]! = p := ⟨_, rfl⟩
      obtain ⟨qq, hqq⟩ : ∃ p, dk[j]! = p := ⟨_, rfl⟩
      rw [hpp] at p1 p2 p5
      rw [hqq] at q1 q2 q5
      have HPP := Lib.hid hpp; have HQQ := Lib.hid hqq; clear hpp hqq
      have hSW := HK.out.swap (i := i) (j := j) (by have := HSK.out; omega) (by have := HSK.out; omega)
      have hSC := swapW_chg wr blk off dk[i]! dk[j]! i j
      rw [HPP.out, HQQ.out] at hSW hSC
      unfold swapW at hSW hSC
      have HSW := Lib.hid hSW; have HSC := Lib.hid hSC; clear hSW hSC
      go_wp2_with fail
      go_region
      go_wp2_with fail
      go_roundw
      case rel => exact ⟨i + 1, k, swp dk i j, by go_num, rfl, by omega, by omega, by rw [size_swp]; exact HSK.out, HSW.out.drew, (hchg.trans HSC.out).trans (Chg.drew _ _), by rw [← HO.out, reverseLoop_go hlt, show j - 1 = k by have := HK1.out; omega]⟩
      case measure => simp [intOf]; omega

theorem take_snoc' (l : List Pt) (k : Nat) (h : k < l.length) : l.take (k + 1) = l.take k ++ [l.getD k default] := by
  rw [List.take_succ_eq_append_getElem h, List.getD_eq_getElem?_getD, List.getElem?_eq_getElem h, Option.getD_some]

set_option maxHeartbeats 800000 in
theorem equal_c (ad ad2 : Option Addr) (cap cap2 : Nat) (l m : List Pt) (w : World) (hr : RdP w ad l) (hr2 : RdP w ad2 m) (hl : l.length ≤ 100000) (_hm : m.length ≤ 100000) :
    Calls Try.prog 26 #[.slice ad l.length cap, .slice ad2 m.length cap2] w fun e w' => e = .returned (.bool (decide (l = m))) ∧ Below w.heap.size w w' := by
  have HR := Lib.hid hr; have HR2 := Lib.hid hr2; clear hr hr2
  obtain ⟨D, hD⟩ : ∃ D, decide (l = m) = D := ⟨_, rfl⟩
  rw [hD]
  have HD := Lib.hid hD; clear hD
  by_cases hne : l.length = m.length
  case neg =>
    obtain rfl : D = false := HD.out.symm.trans (decide_eq_false fun e => hne (by rw [e]))
    have h1 : ((l.length : Int) == (m.length : Int)) = false := by simp; omega
    clear hne
    go_enter Try.func26, Try.ntmps26
    go_wp2_with fail
    go_ret
    exact ⟨rfl, Below.refl _ _⟩
  case pos =>
    have HNE := Lib.hid hne.symm
    rw [← hne]
    clear hne
    go_enter Try.func26, Try.ntmps26
    go_wp2_with fail
    go_loopw [13] (fun i wr => ∃ k : Nat, k ≤ l.length ∧ i = .int .i64 k ∧ l.take k = m.take k ∧ Below w.heap.size w wr) (fun i _ => l.length - (intOf i).toNat)
    case atStart => exact ⟨0, Nat.zero_le _, rfl, by simp, Below.refl _ _⟩
    case round =>
      obtain ⟨k, hk, rfl, heq, hbel⟩ := hrel
      have HEQ := Lib.hid heq; clear heq
      by_cases hlt : k < l.length
      case neg =>
        obtain rfl : k = l.length := by omega
        obtain rfl : D = true := HD.out.symm.trans (decide_eq_true (by
          have h := HEQ.out
          rw [List.take_length, ← HNE.out, List.take_length] at h
          exact h))
        go_wp2_with fail
        go_ret
        exact ⟨rfl, hbel⟩
      case pos =>
        obtain ⟨b, off, rfl, hb, c0, c1⟩ := HR.out k hlt
        obtain ⟨b2, off2, rfl, hb2, c2, c3⟩ := HR2.out k (by have := HNE.out; omega)
        have d0 := bcell hbel hb c0
        have d1 := bcell hbel hb c1
        have d2 := bcell hbel hb2 c2
        have d3 := bcell hbel hb2 c3
        clear c0 c1 c2 c3
        have x1 : (0 : Int) ≤ (k : Int) := by omega
        have x2 : (k : Int) < (l.length : Int) := by omega
        obtain ⟨p, hp⟩ : ∃ x, l.getD k default = x := ⟨_, rfl⟩
        obtain ⟨q, hq⟩ : ∃ x, m.getD k default = x := ⟨_, rfl⟩
        rw [hp] at d0 d1
        rw [hq] at d2 d3
        have HPQ := Lib.hid (And.intro hp hq); clear hp hq
        obtain ⟨px, py⟩ := p
        obtain ⟨qx, qy⟩ := q
        simp only at d0 d1 d2 d3
        by_cases hx : px = qx
        case pos =>
          subst hx
          by_cases hy : py = qy
          case pos =>
            subst hy
            have HT := Lib.hid (show l.take (k + 1) = m.take (k + 1) by
              have h1 := HPQ.out.1
              have h2 := HPQ.out.2
              rw [take_snoc' l k hlt, take_snoc' m k (by have := HNE.out; omega), HEQ.out, h1, h2])
            go_wp2_with fail
            go_quiet (fail)
            go_wp2_with fail
            go_roundw
            case rel => exact ⟨k + 1, by omega, by go_num, HT.out, bdrewN hbel nq⟩
            case measure => simp [intOf]; omega
          case neg =>
            obtain rfl : D = false := HD.out.symm.trans (decide_eq_false fun e => by
              have h1 := HPQ.out.1
              have h2 := HPQ.out.2
              rw [e, h2] at h1
              injection h1 with h3 h4
              exact hy h4.symm)
            go_wp2_with fail
            go_quiet (fail)
            go_wp2_with fail
            go_ret
            exact ⟨rfl, bdrewN hbel nq⟩
        case neg =>
          obtain rfl : D = false := HD.out.symm.trans (decide_eq_false fun e => by
            have h1 := HPQ.out.1
            have h2 := HPQ.out.2
            rw [e, h2] at h1
            injection h1 with h3 h4
            exact hx h3.symm)
          go_wp2_with fail
          go_quiet (fail)
          go_wp2_with fail
          go_ret
          exact ⟨rfl, bdrewN hbel nq⟩

set_option maxHeartbeats 800000 in
/-- A copy of points that are small. -/
theorem clone_c (ad : Option Addr) (cap : Nat) (l : List Pt) (w : World) (hr : RdP w ad l) (hl : l.length ≤ 100000) (h0 : 0 < l.length) :
    Calls Try.prog 42 #[.slice ad l.length cap] w fun e w' => ∃ g cap', e = .returned (.slice (some ⟨g, 0, none⟩) l.length cap') ∧ RowP w' w.heap.size (.slice (some ⟨g, 0, none⟩) l.length cap') l ∧ Below w.heap.size w w' := by
  obtain ⟨b, off, rfl, hb⟩ := hr.some h0
  have HR := Lib.hid hr; clear hr
  obtain ⟨iP, hiP, hzP, hsP, hbP⟩ := info_parts Try.infoP
  have hnews := Lib.hid (show ∀ j u, (ptsV l)[j]? = some u → (w.alloc (.cells #[] 33)).cell? ((⟨b, off, none⟩ : Addr).add j) = some u from fun j u hu => by
    have hj : j < l.length * 2 := by
      have := (List.getElem?_eq_some_iff.1 hu).1
      rwa [ptsV_length] at this
    obtain ⟨c0, c1⟩ := HR.out.at (show j / 2 < l.length by omega)
    obtain ⟨v0, v1⟩ := ptsV_get (show j / 2 < l.length by omega)
    have key : w.cell? ⟨b, off + j, none⟩ = some u := by
      by_cases hp : j % 2 = 0
      · have : j = j / 2 * 2 := by omega
        rw [this] at hu ⊢
        rw [v0] at hu
        rw [c0]; exact hu
      · have : j = j / 2 * 2 + 1 := by omega
        rw [this] at hu ⊢
        rw [v1] at hu
        rw [← Nat.add_assoc, c1]; exact hu
    have ea : (⟨b, off, none⟩ : Addr).add j = ⟨b, off + j, none⟩ := by unfold Addr.add; split <;> simp [*]
    rw [ea]
    exact bcell ((Below.refl _ _).alloc (Nat.le_refl _) _) hb key)
  have hone := Lib.hid (show ∀ u ∈ ptsV l, u.oneCell' = true from fun u hu => by
    unfold ptsV at hu
    obtain ⟨p, _, hp⟩ := List.mem_flatMap.1 hu
    simp at hp
    rcases hp with h | h <;> subst h <;> rfl)
  have hnl := fun (w : World) (a : Option Addr) (l c : Nat) => Lib.run_eql_slice_nil (P := Try.prog) w 26 33 a l c 0 0 Try.underlyingP
  have HO := Lib.hid (rowP_empty w)
  have HN := hnews
  clear hnews
  go_enter Try.func42, Try.ntmps42
  go_wp2_with (at_builtin; refine wpList_append_lies _ rfl _ _ 26 rfl w.heap.size 33 iP _ 2 16 Try.underlyingP hiP hzP hsP hbP rfl (by omega) (.slice (some ⟨w.heap.size, 0, none⟩) 0 0) 0 [] rfl HO.out ⟨b, off, none⟩ l.length cap (ptsV l) rfl (by rw [ptsV_length]) HN.out hone.out h0 (by unfold maxLen; omega) (by omega) (by simp) (w.heap.size + 1) (by simp) ?_; intro g5 cap5 wm hown hgrow hat hlt5; clear hat)
  have hbm : Below w.heap.size w wm := ((Below.refl _ _).alloc (Nat.le_refl _) _).grown hgrow (by simp) (fun q e => by simp [Value.ownBlock] at e; omega)
  rw [Nat.zero_add, List.nil_append] at hown
  have HOW := Lib.hid hown; clear hown
  go_wp2_with fail
  go_ret
  exact ⟨g5, cap5, rfl, HOW.out, hbm⟩

end Go.Proofs.Ytpnnmdkhkjenmaa
