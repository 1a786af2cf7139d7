/-
  Some texts of this proof in one: PtG CompP Compact. Each part tells what it proves. By an AI agent.
-/
import Derived.Test.YtcionneopgdebaaGreatSortR
import Derived.Test.YtcionneopgdebaaGreatHalf
import Derived.Laws.AppendOwnNone
import Derived.Lib.LazyBuf
import Derived.Lib.SliceRun
import Derived.Laws.IdiomCopy
import Derived.Deep.DeepCutAuto

/-
  Rows of points: reversed in place, copied, compared. By an AI agent.
-/
namespace Go.Proofs.YtcionneopgdebaaGreat
open Go.RowKit
open Go.Sort (swp size_swp)

theorem reverseLoop_rev (d : Array Pt) : ∀ (i j : Nat) (e : Array Pt), e.size = d.size → i + j + 1 = d.size → (∀ t, t < d.size → e[t]! = if t < i ∨ j < t then d[d.size - 1 - t]! else d[t]!) → Sort.reverseLoop i j e = d.reverse := by
  intro i j
  induction h : j - i using Nat.strongRecOn generalizing i j with
  | _ n ih =>
    intro e hs hij he
    by_cases hlt : i < j
    · rw [reverseLoop_go hlt]
      refine ih (j - 1 - (i + 1)) (by omega) (i + 1) (j - 1) rfl _ (by rw [size_swp]; exact hs) (by omega) (fun t ht => ?_)
      rw [swp_get! e (by omega) (by omega)]
      by_cases e1 : t = j
      · subst e1
        rw [if_pos rfl, if_pos (by omega), he i (by omega), if_neg (by omega), show d.size - 1 - t = i by omega]
      · rw [if_neg e1]
        by_cases e2 : t = i
        · subst e2
          rw [if_pos rfl, if_pos (by omega), he j (by omega), if_neg (by omega), show d.size - 1 - t = j by omega]
        · rw [if_neg e2, he t ht]
          by_cases e3 : t < i ∨ j < t
          · rw [if_pos e3, if_pos (by omega)]
          · rw [if_neg e3, if_neg (by omega)]
    · rw [reverseLoop_stop hlt]
      apply Array.ext
      · simp [hs]
      · intro t h1 h2
        have h3 : t < d.size := by simpa using h2
        have := he t h3
        rw [getElem!_pos e t h1] at this
        rw [this, Array.getElem_reverse]
        split
        · rw [getElem!_pos d _ (by omega)]
        · rw [getElem!_pos d _ h3]
          congr 1
          omega

set_option maxHeartbeats 1600000 in
theorem reverse_c (blk off cap : Nat) (d : Array Pt) (w : World) (hH : PH w blk off d) (h0 : 0 < d.size) (hsz : d.size < 2305843009213693952) :
    Calls Tryz.prog 62 #[.slice (some ⟨blk, off, none⟩) d.size cap] w (SortsTo w blk off d.size d.reverse) := by
  have HP := Lib.hid hH; clear hH
  obtain ⟨b1, hb1⟩ : ∃ b1, d.size = b1 + 1 := ⟨d.size - 1, by omega⟩
  have e0 : (d.size : Int) - 1 = (b1 : Int) := by omega
  have hrev := Lib.hid (reverseLoop_rev d 0 b1 d rfl (by omega) (fun t ht => by rw [if_neg (by omega)]))
  have hbb : b1 < d.size := by omega
  clear hb1
  go_enter Tryz.func62, Tryz.ntmps62
  go_wp2_with fail
  go_loopw [2, 3] (fun vi vj wr => ∃ (i j : Nat) (dk : Array Pt), vi = .int .i64 i ∧ vj = .int .i64 j ∧ i ≤ d.size ∧ j < d.size ∧ dk.size = d.size ∧ PH wr blk off dk ∧ Chg blk w wr ∧ Sort.reverseLoop i j dk = d.reverse) (fun _ vj _ => (intOf vj).toNat)
  case atStart => exact ⟨0, b1, d, rfl, by first | rfl | go_num, by omega, hbb, rfl, HP.out, Chg.refl _ _, hrev.out⟩
  case round =>
    obtain ⟨i, j, dk, rfl, rfl, hib, hjb, hsk, hph, hchg, hO⟩ := hrel
    have HO := Lib.hid hO; clear hO
    have HK := Lib.hid hph; clear hph
    have HSK := Lib.hid hsk; clear hsk
    by_cases hlt : i < j
    case neg =>
      have hv : dk = d.reverse := by rw [← HO.out, reverseLoop_stop hlt]
      have HV := Lib.hid hv; clear hv
      go_wp2_with fail
      go_end0
      exact ⟨rfl, HV.out ▸ HK.out, hchg, HV.out ▸ HSK.out⟩
    case pos =>
      obtain ⟨k, hk⟩ : ∃ k, j = k + 1 := ⟨j - 1, by omega⟩
      have e1 : (j : Int) - 1 = (k : Int) := by omega
      have hkj : k < j := by omega
      have x1 : (0 : Int) ≤ (i : Int) := by omega
      have x2 : (i : Int) < (d.size : Int) := by omega
      have x3 : (0 : Int) ≤ (j : Int) := by omega
      have x4 : (j : Int) < (d.size : Int) := by omega
      have HK1 := Lib.hid hk; clear hk
      obtain ⟨p1, p2, p3, p4, p5⟩ := HK.out i (by have := HSK.out; omega)
      obtain ⟨q1, q2, q3, q4, q5⟩ := HK.out j (by have := HSK.out; omega)
      obtain ⟨pp, hpp⟩ : ∃ p, dk[i]! = p := ⟨_, rfl⟩
      obtain ⟨qq, hqq⟩ : ∃ p, dk[j]! = p := ⟨_, rfl⟩
      rw [hpp] at p1 p2 p5
      rw [hqq] at q1 q2 q5
      have HPP := Lib.hid hpp; have HQQ := Lib.hid hqq; clear hpp hqq
      have hSW := HK.out.swap (i := i) (j := j) (by have := HSK.out; omega) (by have := HSK.out; omega)
      have hSC := swapW_chg wr blk off dk[i]! dk[j]! i j
      rw [HPP.out, HQQ.out] at hSW hSC
      unfold swapW at hSW hSC
      have HSW := Lib.hid hSW; have HSC := Lib.hid hSC; clear hSW hSC
      go_wp2_with fail
      go_region
      go_wp2_with fail
      go_roundw
      case rel => exact ⟨i + 1, k, swp dk i j, by go_num, rfl, by omega, by omega, by rw [size_swp]; exact HSK.out, HSW.out.drew, (hchg.trans HSC.out).trans (Chg.drew _ _), by rw [← HO.out, reverseLoop_go hlt, show j - 1 = k by have := HK1.out; omega]⟩
      case measure => simp [intOf]; omega

theorem take_snoc' (l : List Pt) (k : Nat) (h : k < l.length) : l.take (k + 1) = l.take k ++ [l.getD k default] := by
  rw [List.take_succ_eq_append_getElem h, List.getD_eq_getElem?_getD, List.getElem?_eq_getElem h, Option.getD_some]

set_option maxHeartbeats 800000 in
theorem equal_c (ad ad2 : Option Addr) (cap cap2 : Nat) (l m : List Pt) (w : World) (hr : RdP w ad l) (hr2 : RdP w ad2 m) (hl : l.length ≤ 100000) (_hm : m.length ≤ 100000) :
    Calls Tryz.prog 67 #[.slice ad l.length cap, .slice ad2 m.length cap2] w fun e w' => e = .returned (.bool (decide (l = m))) ∧ Below w.heap.size w w' := by
  have HR := Lib.hid hr; have HR2 := Lib.hid hr2; clear hr hr2
  obtain ⟨D, hD⟩ : ∃ D, decide (l = m) = D := ⟨_, rfl⟩
  rw [hD]
  have HD := Lib.hid hD; clear hD
  by_cases hne : l.length = m.length
  case neg =>
    obtain rfl : D = false := HD.out.symm.trans (decide_eq_false fun e => hne (by rw [e]))
    have h1 : ((l.length : Int) == (m.length : Int)) = false := by simp; omega
    clear hne
    go_enter Tryz.func67, Tryz.ntmps67
    go_wp2_with fail
    go_ret
    exact ⟨rfl, Below.refl _ _⟩
  case pos =>
    have HNE := Lib.hid hne.symm
    rw [← hne]
    clear hne
    go_enter Tryz.func67, Tryz.ntmps67
    go_wp2_with fail
    go_loopw [13] (fun i wr => ∃ k : Nat, k ≤ l.length ∧ i = .int .i64 k ∧ l.take k = m.take k ∧ Below w.heap.size w wr) (fun i _ => l.length - (intOf i).toNat)
    case atStart => exact ⟨0, Nat.zero_le _, rfl, by simp, Below.refl _ _⟩
    case round =>
      obtain ⟨k, hk, rfl, heq, hbel⟩ := hrel
      have HEQ := Lib.hid heq; clear heq
      by_cases hlt : k < l.length
      case neg =>
        obtain rfl : k = l.length := by omega
        obtain rfl : D = true := HD.out.symm.trans (decide_eq_true (by
          have h := HEQ.out
          rw [List.take_length, ← HNE.out, List.take_length] at h
          exact h))
        go_wp2_with fail
        go_ret
        exact ⟨rfl, hbel⟩
      case pos =>
        obtain ⟨b, off, rfl, hb, c0, c1⟩ := HR.out k hlt
        obtain ⟨b2, off2, rfl, hb2, c2, c3⟩ := HR2.out k (by have := HNE.out; omega)
        have d0 := bcell hbel hb c0
        have d1 := bcell hbel hb c1
        have d2 := bcell hbel hb2 c2
        have d3 := bcell hbel hb2 c3
        clear c0 c1 c2 c3
        have x1 : (0 : Int) ≤ (k : Int) := by omega
        have x2 : (k : Int) < (l.length : Int) := by omega
        obtain ⟨p, hp⟩ : ∃ x, l.getD k default = x := ⟨_, rfl⟩
        obtain ⟨q, hq⟩ : ∃ x, m.getD k default = x := ⟨_, rfl⟩
        rw [hp] at d0 d1
        rw [hq] at d2 d3
        have HPQ := Lib.hid (And.intro hp hq); clear hp hq
        obtain ⟨px, py⟩ := p
        obtain ⟨qx, qy⟩ := q
        simp only at d0 d1 d2 d3
        by_cases hx : px = qx
        case pos =>
          subst hx
          by_cases hy : py = qy
          case pos =>
            subst hy
            have HT := Lib.hid (show l.take (k + 1) = m.take (k + 1) by
              have h1 := HPQ.out.1
              have h2 := HPQ.out.2
              rw [take_snoc' l k hlt, take_snoc' m k (by have := HNE.out; omega), HEQ.out, h1, h2])
            go_wp2_with fail
            go_quiet (fail)
            go_wp2_with fail
            go_roundw
            case rel => exact ⟨k + 1, by omega, by go_num, HT.out, bdrewN hbel nq⟩
            case measure => simp [intOf]; omega
          case neg =>
            obtain rfl : D = false := HD.out.symm.trans (decide_eq_false fun e => by
              have h1 := HPQ.out.1
              have h2 := HPQ.out.2
              rw [e, h2] at h1
              injection h1 with h3 h4
              exact hy h4.symm)
            go_wp2_with fail
            go_quiet (fail)
            go_wp2_with fail
            go_ret
            exact ⟨rfl, bdrewN hbel nq⟩
        case neg =>
          obtain rfl : D = false := HD.out.symm.trans (decide_eq_false fun e => by
            have h1 := HPQ.out.1
            have h2 := HPQ.out.2
            rw [e, h2] at h1
            injection h1 with h3 h4
            exact hx h3.symm)
          go_wp2_with fail
          go_quiet (fail)
          go_wp2_with fail
          go_ret
          exact ⟨rfl, bdrewN hbel nq⟩

set_option maxHeartbeats 800000 in
/-- A copy of points that are small. -/
theorem clone_c (ad : Option Addr) (cap : Nat) (l : List Pt) (w : World) (hr : RdP w ad l) (hl : l.length ≤ 100000) (h0 : 0 < l.length) :
    Calls Tryz.prog 57 #[.slice ad l.length cap] w fun e w' => ∃ g cap', e = .returned (.slice (some ⟨g, 0, none⟩) l.length cap') ∧ RowP w' w.heap.size (.slice (some ⟨g, 0, none⟩) l.length cap') l ∧ Below w.heap.size w w' := by
  obtain ⟨b, off, rfl, hb⟩ := hr.some h0
  have HR := Lib.hid hr; clear hr
  obtain ⟨iP, hiP, hzP, hsP, hbP⟩ := info_parts Tryz.infoP
  have hnews := Lib.hid (show ∀ j u, (ptsV l)[j]? = some u → (w.alloc (.cells #[] 66)).cell? ((⟨b, off, none⟩ : Addr).add j) = some u from fun j u hu => by
    have hj : j < l.length * 2 := by
      have := (List.getElem?_eq_some_iff.1 hu).1
      rwa [ptsV_length] at this
    obtain ⟨c0, c1⟩ := HR.out.at (show j / 2 < l.length by omega)
    obtain ⟨v0, v1⟩ := ptsV_get (show j / 2 < l.length by omega)
    have key : w.cell? ⟨b, off + j, none⟩ = some u := by
      by_cases hp : j % 2 = 0
      · have : j = j / 2 * 2 := by omega
        rw [this] at hu ⊢
        rw [v0] at hu
        rw [c0]; exact hu
      · have : j = j / 2 * 2 + 1 := by omega
        rw [this] at hu ⊢
        rw [v1] at hu
        rw [← Nat.add_assoc, c1]; exact hu
    have ea : (⟨b, off, none⟩ : Addr).add j = ⟨b, off + j, none⟩ := by unfold Addr.add; split <;> simp [*]
    rw [ea]
    exact bcell ((Below.refl _ _).alloc (Nat.le_refl _) _) hb key)
  have hone := Lib.hid (show ∀ u ∈ ptsV l, u.oneCell' = true from fun u hu => by
    unfold ptsV at hu
    obtain ⟨p, _, hp⟩ := List.mem_flatMap.1 hu
    simp at hp
    rcases hp with h | h <;> subst h <;> rfl)
  have hnl := fun (w : World) (a : Option Addr) (l c : Nat) => Lib.run_eql_slice_nil (P := Tryz.prog) w 32 66 a l c 0 0 Tryz.underlyingP
  have HO := Lib.hid (rowP_empty w)
  have HN := hnews
  clear hnews
  go_enter Tryz.func57, Tryz.ntmps57
  go_wp2_with (at_builtin; refine wpList_append_lies _ rfl _ _ 32 rfl w.heap.size 66 iP _ 2 16 Tryz.underlyingP hiP hzP hsP hbP rfl (by omega) (.slice (some ⟨w.heap.size, 0, none⟩) 0 0) 0 [] rfl HO.out ⟨b, off, none⟩ l.length cap (ptsV l) rfl (by rw [ptsV_length]) HN.out hone.out h0 (by unfold maxLen; omega) (by omega) (by simp) (w.heap.size + 1) (by simp) ?_; intro g5 cap5 wm hown hgrow hat hlt5; clear hat)
  have hbm : Below w.heap.size w wm := ((Below.refl _ _).alloc (Nat.le_refl _) _).grown hgrow (by simp) (fun q e => by simp [Value.ownBlock] at e; omega)
  rw [Nat.zero_add, List.nil_append] at hown
  have HOW := Lib.hid hown; clear hown
  go_wp2_with fail
  go_ret
  exact ⟨g5, cap5, rfl, HOW.out, hbm⟩

end Go.Proofs.YtcionneopgdebaaGreat

/-
  Equal neighbours, plain; the stores that slices.Compact makes. By an AI agent.
-/
namespace Go.Proofs.YtcionneopgdebaaGreat
open Go.RowKit
open Go.Sort (swp size_swp)

theorem compactF_snoc (a b : Pt) : ∀ (l : List Pt), compactF (l ++ [a, b]) = if a = b then compactF (l ++ [a]) else compactF (l ++ [a]) ++ [b]
  | [] => by
    simp only [List.nil_append, compactF]
    split
    · rename_i h; rw [h]
    · rfl
  | [x] => by
    show compactF (x :: a :: [b]) = if a = b then compactF (x :: a :: []) else compactF (x :: a :: []) ++ [b]
    by_cases h1 : x = a <;> by_cases h2 : a = b <;> simp [compactF, h1, h2]
  | x :: y :: l => by
    show compactF (x :: y :: (l ++ [a, b])) = if a = b then compactF (x :: y :: (l ++ [a])) else compactF (x :: y :: (l ++ [a])) ++ [b]
    have h0 := compactF_snoc a b (y :: l)
    simp only [List.cons_append] at h0
    rw [compactF, compactF, h0]
    by_cases h1 : x = y <;> by_cases h2 : a = b <;> simp [h1, h2]
def cpre (l : List Pt) (m : Nat) : List Pt := compactF (l.take m)
theorem cpre_succ {l : List Pt} {m : Nat} (h : m + 1 < l.length) : cpre l (m + 2) = if l.getD m default = l.getD (m + 1) default then cpre l (m + 1) else cpre l (m + 1) ++ [l.getD (m + 1) default] := by
  unfold cpre
  rw [take_snoc' l (m + 1) h, take_snoc' l m (by omega), List.append_assoc]
  exact compactF_snoc _ _ _
theorem cpre_one (l : List Pt) (h : 0 < l.length) : cpre l 1 = l.take 1 := by
  cases l with
  | nil => simp at h
  | cons x l => simp [cpre, compactF]
theorem cpre_all (l : List Pt) : cpre l l.length = compactF l := by unfold cpre; rw [List.take_length]
theorem compactF_short {l : List Pt} (h : l.length < 2) : compactF l = l := by
  match l, h with
  | [], _ => rfl
  | [a], _ => rfl

theorem getD_toList (d : Array Pt) (i : Nat) : d.toList.getD i default = d[i]! := by rw [← getD_toArray]
theorem PH.store {w : World} {blk off : Nat} {d : Array Pt} (h : PH w blk off d) {k : Nat} (hk : k < d.size) {p : Pt} (hp : Bd p) : PH ((w.setCell ⟨blk, off + k * 2, none⟩ (.int .i64 p.x)).setCell ⟨blk, off + k * 2 + 1, none⟩ (.int .i64 p.y)) blk off (d.setIfInBounds k p) := fun t ht => by
  have ht' : t < d.size := by simpa using ht
  obtain ⟨h1, h2, h3, h4, h5⟩ := h t ht'
  obtain ⟨i1, i2, _, _, _⟩ := h k hk
  have ne : ∀ {a b : Nat}, a ≠ b → (⟨blk, off + a, none⟩ : Addr) ≠ ⟨blk, off + b, none⟩ := fun h e => by injection e; omega
  have c : ∀ (W : World) (a b : Nat) (v : Value), a ≠ b → (W.setCell ⟨blk, off + a, none⟩ v).cell? ⟨blk, off + b, none⟩ = W.cell? ⟨blk, off + b, none⟩ := fun W a b v hab => World.cell?_setCell_other _ _ _ _ (ne hab)
  have hv : (d.setIfInBounds k p)[t]! = if t = k then p else d[t]! := by
    rw [getElem!_pos _ t ht, Array.getElem_setIfInBounds]
    by_cases e : k = t
    · rw [if_pos e, if_pos e.symm]
    · rw [if_neg e, if_neg (fun q => e q.symm), getElem!_pos d t ht']
  rw [hv]
  simp only [Nat.add_assoc] at h1 h2 h3 h4 i1 i2 ⊢
  simp only [World.frozen?_setCell]
  by_cases e : t = k
  · subst e
    rw [if_pos rfl]
    exact ⟨by rw [c _ _ _ _ (by omega)]; exact World.cell?_setCell_same _ _ _ i1, World.cell?_setCell_same _ _ _ (by rw [c _ _ _ _ (by omega)]; exact i2), h3, h4, hp⟩
  · rw [if_neg e]
    exact ⟨by rw [c _ _ _ _ (by omega), c _ _ _ _ (by omega)]; exact h1, by rw [c _ _ _ _ (by omega), c _ _ _ _ (by omega)]; exact h2, h3, h4, h5⟩
theorem Chg.setCells (b : Nat) : ∀ (vs : List Value) (o : Nat) (w : World), Chg b w (w.setCells b o vs)
  | [], _, w => Chg.refl b w
  | v :: vs, o, w => by
    rw [World.setCells]
    exact (Chg.set b o w v).trans (Chg.setCells b vs (o + 1) _)
/-- The first cells, and the others wiped. -/
theorem PH.wiped {w : World} {blk off : Nat} {d : Array Pt} (h : PH w blk off d) {k : Nat} (hk : k ≤ d.size) (vs : List Value) : PH (w.setCells blk (off + k * 2) vs) blk off (d.toList.take k).toArray := fun t ht => by
  have ht' : t < k := by simp at ht; omega
  obtain ⟨h1, h2, h3, h4, h5⟩ := h t (by omega)
  have hv : (d.toList.take k).toArray[t]! = d[t]! := by
    rw [getD_toArray, ← getD_toList, List.getD_eq_getElem?_getD, List.getD_eq_getElem?_getD, List.getElem?_take_of_lt ht']
  rw [hv]
  refine ⟨?_, ?_, by rw [World.frozen?_setCells]; exact h3, by rw [World.frozen?_setCells]; exact h4, h5⟩
  · rw [World.cell?_setCells_out blk vs _ w _ (fun _ _ => Or.inl (by show off + t * 2 < off + k * 2; omega))]; exact h1
  · rw [World.cell?_setCells_out blk vs _ w _ (fun _ _ => Or.inl (by show off + t * 2 + 1 < off + k * 2; omega))]; exact h2

theorem run_clearP (w : World) (ty : TypeId) (b o n c : Nat) (hn : 0 < n) (hc : ∀ j, j < n * 2 → (w.cell? ⟨b, o + j, none⟩).isSome = true) (hf : ∀ j, j < n * 2 → w.frozen? ⟨b, o + j, none⟩ = false) :
    (Builtin.clear_ #[32] ty #[.slice (some ⟨b, o, none⟩) n c]).run Tryz.prog w = .ok (.tuple #[]) (w.setCells b o (Builtin.zeroCells #[.int .i64 0, .int .i64 0] n).toList) := by
  have hlen : (Builtin.zeroCells #[.int .i64 0, .int .i64 0] n).toList.length = n * 2 := by simp [Builtin.zeroCells]
  have hall : ∀ v ∈ (Builtin.zeroCells #[.int .i64 0, .int .i64 0] n).toList, v.oneCell' = true := by
    intro v hv
    simp [Builtin.zeroCells] at hv
    obtain ⟨i, _, rfl⟩ := hv
    have : i % 2 = 0 ∨ i % 2 = 1 := by omega
    rcases this with e | e <;> rw [e] <;> rfl
  have hst := run_storeCells_cells (P := Tryz.prog) b o (Builtin.zeroCells #[.int .i64 0, .int .i64 0] n).toList 0 w (by rw [hlen]; simpa using hc) (by rw [hlen]; simpa using hf) hall
  simp only [Nat.add_zero] at hst
  obtain ⟨m, rfl⟩ : ∃ m, n = m + 1 := ⟨n - 1, by omega⟩
  simp [Builtin.clear_, run_underlying Tryz.underlyingP, Value.cells, hst]

end Go.Proofs.YtcionneopgdebaaGreat

/-
  slices.Compact over points, walked. By an AI agent.
-/
namespace Go.Proofs.YtcionneopgdebaaGreat
open Go.RowKit

theorem take_set_snoc (l : List Pt) (k : Nat) (v : Pt) (h : k < l.length) : (l.set k v).take (k + 1) = l.take k ++ [v] := by
  rw [take_snoc' (l.set k v) k (by simpa using h), List.take_set, List.set_eq_of_length_le (by simp; omega)]
  simp [List.getD_eq_getElem?_getD, h]
/-- What Compact does to a row. -/
def CompTo (w : World) (blk off cap : Nat) (l : List Pt) (e : Ending) (w' : World) : Prop := e = .returned (.slice (some ⟨blk, off, none⟩) l.length cap) ∧ PH w' blk off l.toArray ∧ Chg blk w w'

set_option maxHeartbeats 3200000 in
set_option maxRecDepth 100000 in
theorem compact_c (blk off cap : Nat) (d : Array Pt) (w : World) (hH : PH w blk off d) (hsz : d.size ≤ 100000) (hcap : d.size ≤ cap) :
    Calls Tryz.prog 60 #[.slice (some ⟨blk, off, none⟩) d.size cap] w (CompTo w blk off cap (compactF d.toList)) := by
  obtain ⟨R, hR⟩ : ∃ R, compactF d.toList = R := ⟨_, rfl⟩
  rw [hR]
  have HR := Lib.hid hR; clear hR
  have HP := Lib.hid hH; clear hH
  have same := Lib.hid (show R = d.toList → ∀ w' : World, PH w' blk off d → Chg blk w w' → CompTo w blk off cap R (.returned (.slice (some ⟨blk, off, none⟩) d.size cap)) w' from fun e w' h hc => ⟨by rw [e, Array.length_toList], by rw [e]; simpa using h, hc⟩)
  by_cases h2 : d.size < 2
  case pos =>
    have hv : R = d.toList := by rw [← HR.out]; exact compactF_short (by simpa using h2)
    have HV := Lib.hid hv; clear hv
    go_enter Tryz.func60, Tryz.ntmps60
    go_wp2_with fail
    go_ret
    exact same.out HV.out _ HP.out (Chg.refl _ _)
  case neg =>
    have h2z : ¬ ((d.size : Int) < 2) := by omega
    go_enter Tryz.func60, Tryz.ntmps60
    go_wp2_with fail
    go_loopw [3] (fun v wr => ∃ k : Nat, v = .int .i64 k ∧ 1 ≤ k ∧ k ≤ d.size ∧ cpre d.toList k = d.toList.take k ∧ Below w.heap.size w wr) (fun v _ => d.size - (intOf v).toNat)
    case atStart => exact ⟨1, rfl, Nat.le_refl _, by omega, cpre_one _ (by simp; omega), Below.refl _ _⟩
    case round =>
      obtain ⟨wE, rfl⟩ : ∃ x : World, x = wr := ⟨_, rfl⟩
      obtain ⟨K, rfl, hK1, hKn, hpre, hbel⟩ := hrel
      have HPRE := Lib.hid hpre; clear hpre
      have HPE := Lib.hid (HP.out.below hbel)
      by_cases hlt : K < d.size
      case neg =>
        obtain rfl : K = d.size := by omega
        have hv : R = d.toList := by
          have h := HPRE.out
          rw [← Array.length_toList, cpre_all, List.take_length, HR.out] at h
          exact h
        have HV := Lib.hid hv; clear hv
        go_wp2_with fail
        go_ret
        exact same.out HV.out _ HPE.out (Chg.of_below hbel)
      case pos =>
        obtain ⟨m, hm⟩ : ∃ m, K = m + 1 := ⟨K - 1, by omega⟩
        have em : (K : Int) - 1 = (m : Int) := by omega
        have wm : IntKind.i64.wrap (m : Int) = (m : Int) := i64_small (by omega) (by omega)
        have hmK : m < K ∧ K ≤ m + 1 := by omega
        have hstep : cpre d.toList (K + 1) = if d[m]! = d[K]! then cpre d.toList K else cpre d.toList K ++ [d[K]!] := by
          have := cpre_succ (l := d.toList) (m := m) (by simp; omega)
          rw [← hm, getD_toList, getD_toList, show m + 2 = K + 1 by omega] at this
          exact this
        have HST := Lib.hid hstep; have HM := Lib.hid hm; clear hstep hm
        obtain ⟨c, hc⟩ : ∃ c, decide (d[m]! = d[K]!) = c := ⟨_, rfl⟩
        have HCC := Lib.hid hc; clear hc
        go_upto_region 6 with fail
        go_cut [25] from 16 to 25 (fun s wc => s = .bool c ∧ Below wE.heap.size wE wc)
        case first =>
          have x1 : (0 : Int) ≤ (K : Int) := by omega
          have x2 : (K : Int) < (d.size : Int) := by omega
          have x3 : (0 : Int) ≤ (m : Int) := by omega
          have x4 : (m : Int) < (d.size : Int) := by omega
          obtain ⟨p1, p2, _, _, _⟩ := HPE.out K hlt
          obtain ⟨q1, q2, _, _, _⟩ := HPE.out m (by omega)
          obtain ⟨pp, hpp⟩ : ∃ p, d[K]! = p := ⟨_, rfl⟩
          obtain ⟨qq, hqq⟩ : ∃ p, d[m]! = p := ⟨_, rfl⟩
          rw [hpp] at p1 p2
          rw [hqq] at q1 q2
          have hcc := HCC.out
          rw [hpp, hqq] at hcc
          have HC3 := Lib.hid hcc; clear hcc hpp hqq
          obtain ⟨px, py⟩ := pp
          obtain ⟨qx, qy⟩ := qq
          simp only at p1 p2 q1 q2
          by_cases hx : px = qx
          case pos =>
            subst hx
            by_cases hy : py = qy
            case pos =>
              subst hy
              go_wp2_with fail
              go_quiet (fail)
              go_wp2_with fail
              go_meet
              exact ⟨by rw [← HC3.out]; simp, bdrewN (Below.refl _ _) nq⟩
            case neg =>
              go_wp2_with fail
              go_quiet (fail)
              go_wp2_with fail
              go_meet
              exact ⟨by rw [← HC3.out, decide_eq_false (fun h => hy (by injection h with _ h1; exact h1.symm))]; try rfl, bdrewN (Below.refl _ _) nq⟩
          case neg =>
            go_wp2_with fail
            go_quiet (fail)
            go_wp2_with fail
            go_meet
            exact ⟨by rw [← HC3.out, decide_eq_false (fun h => hx (by injection h with h1 _; exact h1.symm))]; try rfl, bdrewN (Below.refl _ _) nq⟩
        case rest =>
          obtain ⟨rfl, hbc⟩ := hcut
          obtain ⟨wF, rfl⟩ : ∃ x : World, x = wc := ⟨_, rfl⟩
          have hbF := ball hbel hbc
          have HPF := Lib.hid (HPE.out.below hbc)
          clear hbc
          cases c
          case false =>
            have hn := of_decide_eq_false HCC.out
            have HT := Lib.hid (show cpre d.toList (K + 1) = d.toList.take (K + 1) by rw [HST.out, if_neg hn, HPRE.out, take_snoc' _ _ (by simpa using hlt), getD_toList])
            clear hn HCC
            go_wp2_with fail
            go_roundw
            case rel => exact ⟨K + 1, by go_num, by omega, by omega, HT.out, hbF⟩
            case measure => simp [intOf]; omega
          case true =>
            have hy := of_decide_eq_true HCC.out
            have HT := Lib.hid (show cpre d.toList (K + 1) = d.toList.take K by rw [HST.out, if_pos hy, HPRE.out])
            clear hy HCC
            obtain ⟨S, hS⟩ : ∃ S, d.size - K = S := ⟨_, rfl⟩
            have eS : (d.size : Int) - (K : Int) = (S : Int) := by omega
            have hKS : K + S ≤ d.size ∧ d.size ≤ K + S := by omega
            have HS := Lib.hid hS; clear hS
            have x1 : (0 : Int) ≤ (K : Int) := by omega
            have x2 : (K : Int) ≤ (d.size : Int) := by omega
            have x3 : K ≤ cap := by omega
            go_wp2_with fail
            rw [HS.out]
            obtain ⟨CP, hCP⟩ : ∃ x, cap - K = x := ⟨_, rfl⟩
            rw [hCP]
            clear hCP
            go_loopw [3, 5] (fun vk vj wr => ∃ (k j : Nat) (dk : Array Pt), vk = .int .i64 k ∧ vj = .int .i64 j ∧ 1 ≤ j ∧ j ≤ S ∧ K ≤ k ∧ k < K + j ∧ dk.size = d.size ∧ PH wr blk off dk ∧ Chg blk w wr ∧ cpre d.toList (K + j) = dk.toList.take k ∧ (∀ t, K + j ≤ t + 1 → t < d.size → dk[t]! = d[t]!)) (fun _ vj _ => S + 1 - (intOf vj).toNat)
            case atStart => exact ⟨K, 1, d, rfl, rfl, Nat.le_refl _, by omega, Nat.le_refl _, by omega, rfl, HPF.out, Chg.of_below hbF, HT.out, fun t _ _ => rfl⟩
            case round =>
              obtain ⟨wH, rfl⟩ : ∃ x : World, x = wr := ⟨_, rfl⟩
              obtain ⟨k, j, dk, rfl, rfl, hj1, hjS, hKk, hkj, hsk, hph, hchg, hcp, hsm⟩ := hrel
              have HCP := Lib.hid hcp; have HPH := Lib.hid hph; have HSK := Lib.hid hsk; have HSM := Lib.hid hsm; clear hcp hph hsk hsm
              by_cases hjl : j < S
              case neg =>
                obtain rfl : j = S := by omega
                have hRk : R = dk.toList.take k := by rw [← HR.out, ← cpre_all, ← HCP.out, show d.toList.length = K + j by simp; omega]
                have HRK := Lib.hid hRk; clear hRk
                have hclr := fun ty => run_clearP wH ty blk (off + k * 2) (d.size - k) (cap - k) (by omega) (fun t ht => by
                  obtain ⟨h1, h2, _⟩ := HPH.out (k + t / 2) (by have := HSK.out; omega)
                  rcases (show t % 2 = 0 ∨ t % 2 = 1 by omega) with e | e
                  · rw [show off + k * 2 + t = off + (k + t / 2) * 2 by omega, h1]; rfl
                  · rw [show off + k * 2 + t = off + (k + t / 2) * 2 + 1 by omega, h2]; rfl) (fun t ht => by
                  obtain ⟨_, _, h1, h2, _⟩ := HPH.out (k + t / 2) (by have := HSK.out; omega)
                  rcases (show t % 2 = 0 ∨ t % 2 = 1 by omega) with e | e
                  · rw [show off + k * 2 + t = off + (k + t / 2) * 2 by omega, h1]
                  · rw [show off + k * 2 + t = off + (k + t / 2) * 2 + 1 by omega, h2])
                have y1 : k ≤ d.size := by omega
                have y2 : k ≤ cap := by omega
                generalize (Builtin.zeroCells #[.int .i64 0, .int .i64 0] (d.size - k)).toList = vs at hclr
                have hw := HPH.out.wiped (k := k) (by have := HSK.out; omega) vs
                have HW := Lib.hid hw; clear hw
                have hlen : (dk.toList.take k).length = k := by rw [List.length_take, Array.length_toList, HSK.out]; omega
                have HLEN := Lib.hid hlen; clear hlen
                go_wp2_with fail
                go_ret
                exact ⟨by rw [HRK.out, HLEN.out]; rfl, by rw [HRK.out]; exact HW.out, hchg.trans (Chg.setCells _ _ _ _)⟩
              case pos =>
                obtain ⟨I, hI⟩ : ∃ I, K + j = I := ⟨_, rfl⟩
                obtain ⟨jm, hjm⟩ : ∃ jm, j = jm + 1 := ⟨j - 1, by omega⟩
                have ej : (j : Int) - 1 = (jm : Int) := by omega
                have wj : IntKind.i64.wrap (jm : Int) = (jm : Int) := i64_small (by omega) (by omega)
                obtain ⟨M2, hM2⟩ : ∃ M2, K + jm = M2 := ⟨_, rfl⟩
                have hb1 : I < d.size ∧ M2 < I ∧ I ≤ M2 + 1 ∧ k < I ∧ jm < S := by omega
                have hst2 : cpre d.toList (I + 1) = if d[M2]! = d[I]! then cpre d.toList I else cpre d.toList I ++ [d[I]!] := by
                  have := cpre_succ (l := d.toList) (m := M2) (by simp; omega)
                  rw [getD_toList, getD_toList, show M2 + 2 = I + 1 by omega, show M2 + 1 = I by omega] at this
                  exact this
                have HST2 := Lib.hid hst2; clear hst2
                obtain ⟨p1, p2, _, _, p5⟩ := HPH.out I (by have := HSK.out; omega)
                obtain ⟨q1, q2, _, _, _⟩ := HPH.out M2 (by have := HSK.out; omega)
                rw [HSM.out I (by omega) (by omega)] at p1 p2 p5
                rw [HSM.out M2 (by omega) (by omega)] at q1 q2
                rw [show off + I * 2 = off + K * 2 + j * 2 by omega] at p1 p2
                rw [show off + M2 * 2 = off + K * 2 + jm * 2 by omega] at q1 q2
                have HI := Lib.hid hI; have HJM := Lib.hid hjm; have HM2 := Lib.hid hM2; clear hI hjm hM2
                obtain ⟨c, hc⟩ : ∃ c, decide (d[M2]! = d[I]!) = c := ⟨_, rfl⟩
                have HCC := Lib.hid hc; clear hc
                obtain ⟨pp, hpp⟩ : ∃ p, d[I]! = p := ⟨_, rfl⟩
                obtain ⟨qq, hqq⟩ : ∃ p, d[M2]! = p := ⟨_, rfl⟩
                rw [hpp] at p1 p2 p5
                rw [hqq] at q1 q2
                have hcc := HCC.out
                rw [hpp, hqq] at hcc
                have HC3 := Lib.hid hcc; have HPP := Lib.hid hpp; clear hcc hpp hqq
                obtain ⟨px, py⟩ := pp
                obtain ⟨qx, qy⟩ := qq
                simp only at p1 p2 q1 q2
                have hblk := HPH.out.lt (by have := HSK.out; omega)
                go_upto_region 11 with fail
                go_cut [44] from 35 to 44 (fun s wc => s = .bool (!c) ∧ Below wH.heap.size wH wc)
                case first =>
                  have x5 : (0 : Int) ≤ (j : Int) := by omega
                  have x6 : (j : Int) < (S : Int) := by omega
                  have x7 : (0 : Int) ≤ (jm : Int) := by omega
                  have x8 : (jm : Int) < (S : Int) := by omega
                  by_cases hx : px = qx
                  case pos =>
                    subst hx
                    by_cases hy : py = qy
                    case pos =>
                      subst hy
                      go_wp2_with fail
                      go_quiet (fail)
                      go_wp2_with fail
                      go_meet
                      exact ⟨by rw [← HC3.out]; simp, bdrewN (Below.refl _ _) nq⟩
                    case neg =>
                      go_wp2_with fail
                      go_quiet (fail)
                      go_wp2_with fail
                      go_meet
                      exact ⟨by rw [← HC3.out, decide_eq_false (fun h => hy (by injection h with _ h1; exact h1.symm))]; try rfl, bdrewN (Below.refl _ _) nq⟩
                  case neg =>
                    go_wp2_with fail
                    go_quiet (fail)
                    go_wp2_with fail
                    go_meet
                    exact ⟨by rw [← HC3.out, decide_eq_false (fun h => hx (by injection h with h1 _; exact h1.symm))]; try rfl, bdrewN (Below.refl _ _) nq⟩
                case rest =>
                  obtain ⟨rfl, hbc⟩ := hcut
                  obtain ⟨wG, rfl⟩ : ∃ x : World, x = wc := ⟨_, rfl⟩
                  have HPG := Lib.hid (HPH.out.below hbc)
                  have hcG := hchg.trans (Chg.of_below hbc)
                  have m1 := bcell hbc hblk p1
                  have m2 := bcell hbc hblk p2
                  clear hbc p1 p2 q1 q2
                  cases c
                  case true =>
                    have hy := of_decide_eq_true HCC.out
                    have HT2 := Lib.hid (show cpre d.toList (K + (j + 1)) = dk.toList.take k by rw [show K + (j + 1) = I + 1 by have := HI.out; omega, HST2.out, if_pos hy, ← HI.out]; exact HCP.out)
                    have HSM2 := Lib.hid (show ∀ t, K + (j + 1) ≤ t + 1 → t < d.size → dk[t]! = d[t]! from fun t h1 h2 => HSM.out t (by omega) h2)
                    clear hy HCC HC3
                    go_wp2_with fail
                    go_roundw
                    case rel => exact ⟨k, j + 1, dk, rfl, by go_num, by omega, by omega, hKk, by omega, HSK.out, HPG.out, hcG, HT2.out, HSM2.out⟩
                    case measure => simp [intOf]; omega
                  case false =>
                    have hn := of_decide_eq_false HCC.out
                    have HT2 := Lib.hid (show cpre d.toList (K + (j + 1)) = (dk.setIfInBounds k ⟨px, py⟩).toList.take (k + 1) by
                      rw [show K + (j + 1) = I + 1 by have := HI.out; omega, HST2.out, if_neg hn, ← HI.out, HCP.out, HI.out, HPP.out, Array.toList_setIfInBounds, take_set_snoc _ _ _ (by have := HSK.out; simp; omega)])
                    have HSM2 := Lib.hid (show ∀ t, K + (j + 1) ≤ t + 1 → t < d.size → (dk.setIfInBounds k ⟨px, py⟩)[t]! = d[t]! from fun t h1 h2 => by
                      rw [← HSM.out t (by omega) h2, getElem!_pos _ t (by simp; have := HSK.out; omega), Array.getElem_setIfInBounds, if_neg (by have := HI.out; omega), getElem!_pos dk t (by have := HSK.out; omega)])
                    obtain ⟨k1, k2, k3, k4, _⟩ := HPG.out k (by have := HSK.out; omega)
                    have hsto := HPG.out.store (k := k) (by have := HSK.out; omega) p5
                    simp only at hsto
                    have HSTO := Lib.hid hsto; clear hsto hn HCC HC3
                    have x5 : (0 : Int) ≤ (j : Int) := by omega
                    have x6 : (j : Int) < (S : Int) := by omega
                    have x7 : (0 : Int) ≤ (k : Int) := by omega
                    have x8 : (k : Int) < (d.size : Int) := by omega
                    go_wp2_with fail
                    go_roundw
                    case rel => exact ⟨k + 1, j + 1, dk.setIfInBounds k ⟨px, py⟩, by go_num, by go_num, by omega, by omega, by omega, by omega, by rw [Array.size_setIfInBounds]; exact HSK.out, HSTO.out, (hcG.trans (Chg.set _ _ _ _)).trans (Chg.set _ _ _ _), HT2.out, HSM2.out⟩
                    case measure => simp [intOf]; omega

end Go.Proofs.YtcionneopgdebaaGreat
