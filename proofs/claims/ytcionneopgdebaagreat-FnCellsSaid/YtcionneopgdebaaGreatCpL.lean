/-
  Some texts of this proof in one: CpL CpM CpN. Each part tells what it proves. By an AI agent.
-/
import Derived.Test.YtcionneopgdebaaGreatCeG
import Derived.Test.YtcionneopgdebaaGreatLstR
import Derived.Test.YtcionneopgdebaaGreatCeQ
import Derived.Lib.SliceRun
import Derived.Laws.IdiomCopy
import Derived.Deep.DeepCutAuto

/-
  slices.CompactFunc over lists of numbers, walked. By an AI agent.
-/
namespace Go.Proofs.YtcionneopgdebaaGreat
namespace LstSort
open Go.RowKit
open Go.Sort (swp size_swp)

theorem compactF_snoc (a b : List Int) : ∀ (l : List (List Int)), compactF (l ++ [a, b]) = if a = b then compactF (l ++ [a]) else compactF (l ++ [a]) ++ [b]
  | [] => by
    simp only [List.nil_append, compactF]
    split
    · rename_i h; rw [h]
    · rfl
  | [x] => by
    show compactF (x :: a :: [b]) = if a = b then compactF (x :: a :: []) else compactF (x :: a :: []) ++ [b]
    by_cases h1 : x = a <;> by_cases h2 : a = b <;> simp [compactF, h1, h2]
  | x :: y :: l => by
    show compactF (x :: y :: (l ++ [a, b])) = if a = b then compactF (x :: y :: (l ++ [a])) else compactF (x :: y :: (l ++ [a])) ++ [b]
    have h0 := compactF_snoc a b (y :: l)
    simp only [List.cons_append] at h0
    rw [compactF, compactF, h0]
    by_cases h1 : x = y <;> by_cases h2 : a = b <;> simp [h1, h2]
theorem take_snocL {α : Type} [Inhabited α] (l : List α) (k : Nat) (h : k < l.length) : l.take (k + 1) = l.take k ++ [l.getD k default] := by
  rw [List.take_succ_eq_append_getElem h, List.getD_eq_getElem?_getD, List.getElem?_eq_getElem h, Option.getD_some]
def cpre (l : List (List Int)) (m : Nat) : List (List Int) := compactF (l.take m)
theorem cpre_succ {l : List (List Int)} {m : Nat} (h : m + 1 < l.length) : cpre l (m + 2) = if l.getD m [] = l.getD (m + 1) [] then cpre l (m + 1) else cpre l (m + 1) ++ [l.getD (m + 1) []] := by
  unfold cpre
  rw [take_snocL l (m + 1) h, take_snocL l m (by omega), List.append_assoc]
  exact compactF_snoc _ _ _
theorem cpre_one (l : List (List Int)) (h : 0 < l.length) : cpre l 1 = l.take 1 := by
  cases l with
  | nil => simp at h
  | cons x l => simp [cpre, compactF]
theorem cpre_all (l : List (List Int)) : cpre l l.length = compactF l := by unfold cpre; rw [List.take_length]
theorem compactF_short {l : List (List Int)} (h : l.length < 2) : compactF l = l := by
  match l, h with
  | [], _ => rfl
  | [a], _ => rfl

/-- the lists of a row. -/
def lsX (d : Array Ls) : List (List Int) := d.toList.map Ls.xs
theorem lsX_len (d : Array Ls) : (lsX d).length = d.size := by unfold lsX; rw [List.length_map, Array.length_toList]
theorem lsX_at (d : Array Ls) {i : Nat} (h : i < d.size) : (lsX d).getD i [] = d[i]!.xs := by
  unfold lsX
  rw [List.getD_eq_getElem?_getD, List.getElem?_map, List.getElem?_eq_getElem (by rw [Array.length_toList]; exact h), Option.map_some, Option.getD_some, getElem!_pos d i h]
  rfl
theorem setI_get (d : Array Ls) {k t : Nat} (p : Ls) (ht : t < d.size) : (d.setIfInBounds k p)[t]! = if t = k then p else d[t]! := by
  rw [getElem!_pos _ t (by simpa using ht), Array.getElem_setIfInBounds]
  by_cases e : k = t
  · rw [if_pos e, if_pos e.symm]
  · rw [if_neg e, if_neg (fun q => e q.symm), getElem!_pos d t ht]
theorem PH.store {w : World} {blk off : Nat} {d : Array Ls} (h : PH w blk off d) {k : Nat} (hk : k < d.size) {p : Ls} (hp : Rd w blk p) : PH (w.setCell ⟨blk, off + k, none⟩ (.slice p.adr p.xs.length p.cap)) blk off (d.setIfInBounds k p) := fun t ht => by
  have ht' : t < d.size := by simpa using ht
  obtain ⟨h1, h3, h5⟩ := h t ht'
  obtain ⟨i1, _, _⟩ := h k hk
  have hc := Chg.set blk (off + k) w (.slice p.adr p.xs.length p.cap)
  have c : ∀ (W : World) (a b : Nat) (v : Value), a ≠ b → (W.setCell ⟨blk, off + a, none⟩ v).cell? ⟨blk, off + b, none⟩ = W.cell? ⟨blk, off + b, none⟩ := fun W a b v hab => World.cell?_setCell_other _ _ _ _ (fun e => by injection e; omega)
  rw [setI_get d p ht']
  simp only [World.frozen?_setCell]
  by_cases e : t = k
  · subst e
    rw [if_pos rfl]
    exact ⟨World.cell?_setCell_same _ _ _ i1, h3, hp.chg hc (Or.inl rfl)⟩
  · rw [if_neg e]
    exact ⟨by rw [c _ _ _ _ (by omega)]; exact h1, h3, h5.chg hc (Or.inl rfl)⟩
/-- The first cells, and the others wiped. -/
theorem PH.wiped {w : World} {blk off : Nat} {d : Array Ls} (h : PH w blk off d) {k : Nat} (hk : k ≤ d.size) (vs : List Value) : PH (w.setCells blk (off + k) vs) blk off (d.toList.take k).toArray := fun t ht => by
  have ht' : t < k := by simp at ht; omega
  obtain ⟨h1, h3, h5⟩ := h t (by omega)
  have hv : (d.toList.take k).toArray[t]! = d[t]! := by
    rw [getElem!_pos _ t ht, getElem!_pos d t (by omega)]
    simp
  rw [hv]
  refine ⟨?_, by rw [World.frozen?_setCells]; exact h3, h5.chg (Chg.setCells _ _ _ _) (Or.inl rfl)⟩
  rw [World.cell?_setCells_out blk vs _ w _ (fun _ _ => Or.inl (by show off + t < off + k; omega))]; exact h1

theorem run_clearL (w : World) (ty : TypeId) (b o n c : Nat) (hn : 0 < n) (hc : ∀ j, j < n → (w.cell? ⟨b, o + j, none⟩).isSome = true) (hf : ∀ j, j < n → w.frozen? ⟨b, o + j, none⟩ = false) :
    (Builtin.clear_ #[26] ty #[.slice (some ⟨b, o, none⟩) n c]).run Tryz.prog w = .ok (.tuple #[]) (w.setCells b o (Builtin.zeroCells #[.slice none 0 0] n).toList) := by
  have hlen : (Builtin.zeroCells #[.slice none 0 0] n).toList.length = n := by simp [Builtin.zeroCells]
  have hall : ∀ v ∈ (Builtin.zeroCells #[.slice none 0 0] n).toList, v.oneCell' = true := by
    intro v hv
    simp [Builtin.zeroCells] at hv
    obtain ⟨i, _, rfl⟩ := hv
    have : i % 1 = 0 := by omega
    simp [this, Value.oneCell']
  have hst := run_storeCells_cells (P := Tryz.prog) b o (Builtin.zeroCells #[.slice none 0 0] n).toList 0 w (by rw [hlen]; simpa using hc) (by rw [hlen]; simpa using hf) hall
  simp only [Nat.add_zero] at hst
  obtain ⟨m, rfl⟩ : ∃ m, n = m + 1 := ⟨n - 1, by omega⟩
  simp [Builtin.clear_, run_underlying Tryz.underlying26, Value.cells, hst]

theorem eqL_c {blk : Nat} (p q : Ls) (w : World) (hp : Rd w blk p) (hq : Rd w blk q) :
    Calls Tryz.prog 77 #[lsV p, lsV q] w fun e w' => e = .returned (.bool (decide (p.xs = q.xs))) ∧ Below w.heap.size w w' :=
  eqI_c p.adr p.cap p.xs q.adr q.cap q.xs w (by have := hp.len; omega) hp.rd hq.rd

theorem take_set_snocL (l : List Ls) (k : Nat) (v : Ls) (h : k < l.length) : (l.set k v).take (k + 1) = l.take k ++ [v] := by
  rw [take_snocL (l.set k v) k (by simpa using h), List.take_set, List.set_eq_of_length_le (by simp; omega)]
  simp [List.getD_eq_getElem?_getD, h]
def eqV : Value := .func (.func 77) #[] #[]
/-- What CompactFunc does to a row. -/
def Src (d d' : Array Ls) : Prop := ∀ t, t < d'.size → ∃ s, s < d.size ∧ d'[t]! = d[s]!
theorem Src.refl (d : Array Ls) : Src d d := fun t ht => ⟨t, ht, rfl⟩
theorem Src.take {d dk : Array Ls} (h : Src d dk) (k : Nat) : Src d (dk.toList.take k).toArray := fun t ht => by
  have ht' : t < dk.size := by simp at ht; omega
  obtain ⟨s, hs, e⟩ := h t ht'
  refine ⟨s, hs, ?_⟩
  rw [← e, getElem!_pos _ t ht, getElem!_pos dk t ht']
  simp
theorem Src.set {d dk : Array Ls} (h : Src d dk) {k s : Nat} {p : Ls} (hs : s < d.size) (hp : d[s]! = p) : Src d (dk.setIfInBounds k p) := fun t ht => by
  have ht' : t < dk.size := by simpa using ht
  rw [setI_get dk p ht']
  by_cases e : t = k
  · rw [if_pos e]; exact ⟨s, hs, hp.symm⟩
  · rw [if_neg e]; exact h t ht'
def CompTo (w : World) (blk off cap : Nat) (d : Array Ls) (X : List (List Int)) (e : Ending) (w' : World) : Prop := ∃ d' : Array Ls, lsX d' = X ∧ e = .returned (.slice (some ⟨blk, off, none⟩) X.length cap) ∧ PH w' blk off d' ∧ Chg blk w w' ∧ Src d d'

set_option maxHeartbeats 3200000 in
set_option maxRecDepth 100000 in
theorem compactFunc_c (blk off cap : Nat) (d : Array Ls) (w : World) (hH : PH w blk off d) (hsz : d.size ≤ 100000) (hcap : d.size ≤ cap) :
    Calls Tryz.prog 76 #[.slice (some ⟨blk, off, none⟩) d.size cap, eqV] w (CompTo w blk off cap d (compactF (lsX d))) := by
  obtain ⟨R, hR⟩ : ∃ R, compactF (lsX d) = R := ⟨_, rfl⟩
  rw [hR]
  have HR := Lib.hid hR; clear hR
  have HP := Lib.hid hH; clear hH
  have same := Lib.hid (show R = lsX d → ∀ w' : World, PH w' blk off d → Chg blk w w' → CompTo w blk off cap d R (.returned (.slice (some ⟨blk, off, none⟩) d.size cap)) w' from fun e w' h hc => ⟨d, e.symm, by rw [e, lsX_len], h, hc, Src.refl d⟩)
  have HXL := Lib.hid (lsX_len d)
  have HXA := Lib.hid (fun i (h : i < d.size) => lsX_at d h)
  unfold eqV
  by_cases h2 : d.size < 2
  case pos =>
    have hv : R = lsX d := by rw [← HR.out]; exact compactF_short (by rw [lsX_len]; exact h2)
    have HV := Lib.hid hv; clear hv
    go_enter Tryz.func76, Tryz.ntmps76
    go_wp2_with fail
    go_ret
    exact same.out HV.out _ HP.out (Chg.refl _ _)
  case neg =>
    have h2z : ¬ ((d.size : Int) < 2) := by omega
    go_enter Tryz.func76, Tryz.ntmps76
    go_wp2_with fail
    go_loopw [5] (fun v wr => ∃ k : Nat, v = .int .i64 k ∧ 1 ≤ k ∧ k ≤ d.size ∧ cpre (lsX d) k = (lsX d).take k ∧ Below w.heap.size w wr) (fun v _ => d.size - (intOf v).toNat)
    case atStart => exact ⟨1, rfl, Nat.le_refl _, by omega, cpre_one _ (by rw [HXL.out]; omega), Below.refl _ _⟩
    case round =>
      obtain ⟨wE, rfl⟩ : ∃ x : World, x = wr := ⟨_, rfl⟩
      obtain ⟨K, rfl, hK1, hKn, hpre, hbel⟩ := hrel
      have HPRE := Lib.hid hpre; clear hpre
      have HPE := Lib.hid (HP.out.below hbel)
      by_cases hlt : K < d.size
      case neg =>
        obtain rfl : K = d.size := by omega
        have hv : R = lsX d := by
          have h := HPRE.out
          rw [← HXL.out, cpre_all, List.take_length, HR.out] at h
          exact h
        have HV := Lib.hid hv; clear hv
        go_wp2_with fail
        go_ret
        exact same.out HV.out _ HPE.out (Chg.of_below hbel)
      case pos =>
        obtain ⟨m, hm⟩ : ∃ m, K = m + 1 := ⟨K - 1, by omega⟩
        have em : (K : Int) - 1 = (m : Int) := by omega
        have wm : IntKind.i64.wrap (m : Int) = (m : Int) := i64_small (by omega) (by omega)
        have hmK : m < K ∧ K ≤ m + 1 := by omega
        have hstep : cpre (lsX d) (K + 1) = if d[K]!.xs = d[m]!.xs then cpre (lsX d) K else cpre (lsX d) K ++ [d[K]!.xs] := by
          have := cpre_succ (l := lsX d) (m := m) (by rw [HXL.out]; omega)
          rw [← hm, HXA.out m (by omega), HXA.out K hlt, show m + 2 = K + 1 by omega] at this
          rw [this]
          by_cases e : d[m]!.xs = d[K]!.xs
          · rw [if_pos e, if_pos e.symm]
          · rw [if_neg e, if_neg (fun q => e q.symm)]
        have HST := Lib.hid hstep; have HM := Lib.hid hm; clear hstep hm
        obtain ⟨c, hc⟩ : ∃ c, decide (d[K]!.xs = d[m]!.xs) = c := ⟨_, rfl⟩
        have HCC := Lib.hid hc
        have x1 : (0 : Int) ≤ (K : Int) := by omega
        have x2 : (K : Int) < (d.size : Int) := by omega
        have x3 : (0 : Int) ≤ (m : Int) := by omega
        have x4 : (m : Int) < (d.size : Int) := by omega
        obtain ⟨p1, p3, p5⟩ := HPE.out K hlt
        obtain ⟨q1, q3, q5⟩ := HPE.out m (by omega)
        have hbl := HPE.out.lt (by omega)
        have hcmp := fun w hk => eqL_c d[K]! d[m]! w (Rd.below p5 hk) (Rd.below q5 hk)
        unfold lsV at hcmp
        rw [hc] at hcmp
        obtain ⟨pp, hpp⟩ : ∃ p, d[K]! = p := ⟨_, rfl⟩
        obtain ⟨qq, hqq⟩ : ∃ p, d[m]! = p := ⟨_, rfl⟩
        rw [hpp] at p1 hcmp
        rw [hqq] at q1 hcmp
        obtain ⟨pa, pc, px, pK⟩ := pp
        obtain ⟨qa, qc, qx, qK⟩ := qq
        simp only at p1 q1 hcmp
        have HCMP := Lib.hid hcmp
        clear hcmp hc p3 q3 p5 q5 hpp hqq
        go_wp2_with fail
        go_region_held3 (fun w' => w'.cell? ⟨blk, off + K, none⟩ = some (.slice pa px.length pc) ∧ w'.cell? ⟨blk, off + m, none⟩ = some (.slice qa qx.length qc)) (exact ⟨by assumption, by assumption⟩)
          (first
            | (go_at_call 77; (with_reducible refine (HCMP.out _ (by with_reducible repeat' (first | exact Below.refl _ _ | apply Below.drew))).mono ?_); rintro e W1 ⟨rfl, hw1⟩; have m1 := bcell hw1 hbl p1; have m3 := bcell hw1 hbl q1))
        have hbc : Below wE.heap.size wE W1 := (Below.refl _ _).drew.trans hw1
        have hbF := ball hbel hbc
        have HPF := Lib.hid (HPE.out.below hbc)
        clear hbc hw1 m1 m3 p1 q1 HCMP
        cases c
        case false =>
          have hn := of_decide_eq_false HCC.out
          have HT := Lib.hid (show cpre (lsX d) (K + 1) = (lsX d).take (K + 1) by rw [HST.out, if_neg hn, HPRE.out, take_snocL _ _ (by rw [HXL.out]; exact hlt), show (default : List Int) = [] from rfl, HXA.out K hlt])
          clear hn HCC
          go_wp2_with fail
          go_roundw
          case rel => exact ⟨K + 1, by go_num, by omega, by omega, HT.out, hbF⟩
          case measure => simp [intOf]; omega
        case true =>
          have hy := of_decide_eq_true HCC.out
          have HT := Lib.hid (show cpre (lsX d) (K + 1) = (d.toList.take K).map Ls.xs by rw [HST.out, if_pos hy, HPRE.out, List.map_take]; rfl)
          clear hy HCC
          obtain ⟨S, hS⟩ : ∃ S, d.size - K = S := ⟨_, rfl⟩
          have eS : (d.size : Int) - (K : Int) = (S : Int) := by omega
          have hKS : K + S ≤ d.size ∧ d.size ≤ K + S := by omega
          have HS := Lib.hid hS; clear hS
          have x2 : (K : Int) ≤ (d.size : Int) := by omega
          have x3 : K ≤ cap := by omega
          go_wp2_with fail
          try rw [HS.out]
          obtain ⟨CP, hCP⟩ : ∃ x, cap - K = x := ⟨_, rfl⟩
          try rw [hCP]
          clear hCP
          go_loopw [5, 7] (fun vk vj wr => ∃ (k j : Nat) (dk : Array Ls), vk = .int .i64 k ∧ vj = .int .i64 j ∧ 1 ≤ j ∧ j ≤ S ∧ K ≤ k ∧ k < K + j ∧ dk.size = d.size ∧ Src d dk ∧ PH wr blk off dk ∧ Chg blk w wr ∧ cpre (lsX d) (K + j) = (dk.toList.take k).map Ls.xs ∧ (∀ t, K + j ≤ t + 1 → t < d.size → dk[t]! = d[t]!)) (fun _ vj _ => S + 1 - (intOf vj).toNat)
          case atStart => exact ⟨K, 1, d, rfl, rfl, Nat.le_refl _, by omega, Nat.le_refl _, by omega, rfl, Src.refl d, HPF.out, Chg.of_below hbF, HT.out, fun t _ _ => rfl⟩
          case round =>
            obtain ⟨wH, rfl⟩ : ∃ x : World, x = wr := ⟨_, rfl⟩
            obtain ⟨k, j, dk, rfl, rfl, hj1, hjS, hKk, hkj, hsk, hsrc, hph, hchg, hcp, hsm⟩ := hrel
            have HSRC := Lib.hid hsrc; clear hsrc
            have HCP := Lib.hid hcp; have HPH := Lib.hid hph; have HSK := Lib.hid hsk; have HSM := Lib.hid hsm; clear hcp hph hsk hsm
            by_cases hjl : j < S
            case neg =>
              obtain rfl : j = S := by omega
              have hRk : R = (dk.toList.take k).map Ls.xs := by rw [← HR.out, ← cpre_all, ← HCP.out, show (lsX d).length = K + j by rw [HXL.out]; omega]
              have HRK := Lib.hid hRk; clear hRk
              have hclr := fun ty => run_clearL wH ty blk (off + k) (d.size - k) (cap - k) (by omega) (fun t ht => by
                obtain ⟨h1, _, _⟩ := HPH.out (k + t) (by have := HSK.out; omega)
                rw [Nat.add_assoc, h1]; rfl) (fun t ht => by
                obtain ⟨_, h1, _⟩ := HPH.out (k + t) (by have := HSK.out; omega)
                rw [Nat.add_assoc, h1])
              have y1 : k ≤ d.size := by omega
              have y2 : k ≤ cap := by omega
              generalize (Builtin.zeroCells #[.slice none 0 0] (d.size - k)).toList = vs at hclr
              have hw := HPH.out.wiped (k := k) (by have := HSK.out; omega) vs
              have HW := Lib.hid hw; clear hw
              have hlen : R.length = k := by rw [HRK.out, List.length_map, List.length_take, Array.length_toList, HSK.out]; omega
              have HLEN := Lib.hid hlen; clear hlen
              go_wp2_with fail
              go_ret
              exact ⟨(dk.toList.take k).toArray, by rw [HRK.out]; unfold lsX; rfl, by rw [HLEN.out]; rfl, HW.out, hchg.trans (Chg.setCells _ _ _ _), HSRC.out.take k⟩
            case pos =>
              obtain ⟨I, hI⟩ : ∃ I, K + j = I := ⟨_, rfl⟩
              obtain ⟨jm, hjm⟩ : ∃ jm, j = jm + 1 := ⟨j - 1, by omega⟩
              have ej : (j : Int) - 1 = (jm : Int) := by omega
              have wj : IntKind.i64.wrap (jm : Int) = (jm : Int) := i64_small (by omega) (by omega)
              obtain ⟨M2, hM2⟩ : ∃ M2, K + jm = M2 := ⟨_, rfl⟩
              have hb1 : I < d.size ∧ M2 < I ∧ I ≤ M2 + 1 ∧ k < I ∧ jm < S := by omega
              have hst2 : cpre (lsX d) (I + 1) = if d[I]!.xs = d[M2]!.xs then cpre (lsX d) I else cpre (lsX d) I ++ [d[I]!.xs] := by
                have := cpre_succ (l := lsX d) (m := M2) (by rw [HXL.out]; omega)
                rw [show M2 + 1 = I by omega, HXA.out M2 (by omega), HXA.out I (by omega), show M2 + 2 = I + 1 by omega] at this
                rw [this]
                by_cases e : d[M2]!.xs = d[I]!.xs
                · rw [if_pos e, if_pos e.symm]
                · rw [if_neg e, if_neg (fun q => e q.symm)]
              have HST2 := Lib.hid hst2; clear hst2
              obtain ⟨p1, _, p5⟩ := HPH.out I (by have := HSK.out; omega)
              obtain ⟨q1, _, q5⟩ := HPH.out M2 (by have := HSK.out; omega)
              rw [HSM.out I (by omega) (by omega)] at p1 p5
              rw [HSM.out M2 (by omega) (by omega)] at q1 q5
              rw [show off + I = off + K + j by omega] at p1
              rw [show off + M2 = off + K + jm by omega] at q1
              have hcmp := fun w hk => eqL_c d[I]! d[M2]! w (Rd.below p5 hk) (Rd.below q5 hk)
              unfold lsV at hcmp
              obtain ⟨c, hc⟩ : ∃ c, decide (d[I]!.xs = d[M2]!.xs) = c := ⟨_, rfl⟩
              have HCC := Lib.hid hc
              rw [hc] at hcmp
              obtain ⟨pp, hpp⟩ : ∃ p, d[I]! = p := ⟨_, rfl⟩
              obtain ⟨qq, hqq⟩ : ∃ p, d[M2]! = p := ⟨_, rfl⟩
              rw [hpp] at p1 p5 hcmp
              rw [hqq] at q1 hcmp
              have HPP := Lib.hid hpp
              have HI := Lib.hid hI; have HJM := Lib.hid hjm; have HM2 := Lib.hid hM2; have HCMP := Lib.hid hcmp; have HP5 := Lib.hid p5
              have hbl := HPH.out.lt (by have := HSK.out; omega)
              have x5 : (0 : Int) ≤ (j : Int) := by omega
              have x6 : (j : Int) < (S : Int) := by omega
              have x7 : (0 : Int) ≤ (jm : Int) := by omega
              have x8 : (jm : Int) < (S : Int) := by omega
              obtain ⟨pa, pc, px, pK⟩ := pp
              obtain ⟨qa, qc, qx, qK⟩ := qq
              simp only at p1 q1 HCMP
              clear hc hcmp hpp hqq hI hjm hM2 p5 q5
              go_wp2_with fail
              go_region_held3 (fun w' => w'.cell? ⟨blk, off + K + j, none⟩ = some (.slice pa px.length pc) ∧ w'.cell? ⟨blk, off + K + jm, none⟩ = some (.slice qa qx.length qc)) (exact ⟨by assumption, by assumption⟩)
                (first
                  | (go_at_call 77; (with_reducible refine (HCMP.out _ (by with_reducible repeat' (first | exact Below.refl _ _ | apply Below.drew))).mono ?_); rintro e W1 ⟨rfl, hw1⟩; have m1 := bcell hw1 hbl p1; have m3 := bcell hw1 hbl q1))
              have hbc : Below wH.heap.size wH W1 := (Below.refl _ _).drew.trans hw1
              have HPG := Lib.hid (HPH.out.below hbc)
              have hcG := hchg.trans (Chg.of_below hbc)
              have HP6 := Lib.hid (HP5.out.below hbc)
              clear hbc hw1 p1 q1 m3 HCMP HP5
              cases c
              case true =>
                have hy := of_decide_eq_true HCC.out
                have HT2 := Lib.hid (show cpre (lsX d) (K + (j + 1)) = (dk.toList.take k).map Ls.xs by rw [show K + (j + 1) = I + 1 by have := HI.out; omega, HST2.out, if_pos hy, ← HI.out]; exact HCP.out)
                have HSM2 := Lib.hid (show ∀ t, K + (j + 1) ≤ t + 1 → t < d.size → dk[t]! = d[t]! from fun t h1 h2 => HSM.out t (by omega) h2)
                clear hy HCC m1
                go_wp2_with fail
                go_roundw
                case rel => exact ⟨k, j + 1, dk, rfl, by go_num, by omega, by omega, hKk, by omega, HSK.out, HSRC.out, HPG.out, hcG, HT2.out, HSM2.out⟩
                case measure => simp [intOf]; omega
              case false =>
                have hn := of_decide_eq_false HCC.out
                have HT2 := Lib.hid (show cpre (lsX d) (K + (j + 1)) = ((dk.setIfInBounds k ⟨pa, pc, px, pK⟩).toList.take (k + 1)).map Ls.xs by
                  rw [show K + (j + 1) = I + 1 by have := HI.out; omega, HST2.out, if_neg hn, ← HI.out, HCP.out, HI.out, HPP.out, Array.toList_setIfInBounds, take_set_snocL _ _ _ (by have := HSK.out; simp; omega), List.map_append]; rfl)
                have HSM2 := Lib.hid (show ∀ t, K + (j + 1) ≤ t + 1 → t < d.size → (dk.setIfInBounds k ⟨pa, pc, px, pK⟩)[t]! = d[t]! from fun t h1 h2 => by
                  rw [← HSM.out t (by omega) h2, setI_get dk _ (by have := HSK.out; omega), if_neg (by have := HI.out; omega)])
                obtain ⟨k1, k3, _⟩ := HPG.out k (by have := HSK.out; omega)
                have HSTO := Lib.hid (HPG.out.store (k := k) (by have := HSK.out; omega) HP6.out)
                clear hn HCC
                have x7 : (0 : Int) ≤ (k : Int) := by omega
                have x8 : (k : Int) < (d.size : Int) := by omega
                go_wp2_with fail
                go_roundw
                case rel => exact ⟨k + 1, j + 1, dk.setIfInBounds k ⟨pa, pc, px, pK⟩, by go_num, by go_num, by omega, by omega, by omega, by omega, by rw [Array.size_setIfInBounds]; exact HSK.out, HSRC.out.set (s := I) (by have := HI.out; omega) HPP.out, HSTO.out, hcG.trans (Chg.set _ _ _ _), HT2.out, HSM2.out⟩
                case measure => simp [intOf]; omega

end LstSort
end Go.Proofs.YtcionneopgdebaaGreat

/-
  Lists of rows in memory (picked from MxB and EgL) By an AI agent.
-/
namespace Go.Proofs.YtcionneopgdebaaGreat
open Go.RowKit

theorem Tryz.infoM : (Tryz.prog.info? 29).map (fun i => (i.zero, i.size, i.bytes)) = some (some (.slice none 0 0), 1, 24) := by kernel_rfl
theorem row_ne_ty {w : World} {B g n : Nat} {E E' : TypeId} {v : Value} {xs cs : List Value} {size : Nat} (h : w.ownsRow B E size v n xs) (h' : Own w g E' cs) (hE : E ≠ E') : v.ownBlock ≠ some g := by
  intro he
  obtain ⟨_, ⟨rfl, _⟩ | ⟨g', cap, cur, rfl, _, hh, _⟩⟩ := h
  · simp [Value.ownBlock] at he
  · simp [Value.ownBlock] at he
    subst he
    obtain ⟨c', hb', _⟩ := h'
    rw [hh] at hb'
    simp at hb'
    exact hE hb'.2
theorem row_mono {w : World} {B B' size n : Nat} {E : TypeId} {v : Value} {xs : List Value} (h : w.ownsRow B E size v n xs) (hB : B' ≤ B) : w.ownsRow B' E size v n xs := by
  refine ⟨h.1, ?_⟩
  rcases h.2 with hn | ⟨g, cap, cur, rfl, hb, hgg, rest⟩
  · exact .inl hn
  · exact .inr ⟨g, cap, cur, rfl, Nat.le_trans hB hb, hgg, rest⟩
def RdM (w : World) (ad : Option Addr) (M : List (List Int)) : Prop :=
  ∀ i, i < M.length → ∃ b off a c, ad = some ⟨b, off, none⟩ ∧ b < w.heap.size ∧ w.cell? ⟨b, off + i, none⟩ = some (.slice a (M.getD i []).length c) ∧ RdI w a (M.getD i [])
theorem RdM.below {w w' : World} {ad : Option Addr} {M : List (List Int)} (h : RdM w ad M) (hb : Below w.heap.size w w') : RdM w' ad M := fun i hi => by
  obtain ⟨b, off, a, c, e, hl, hc, hr⟩ := h i hi
  exact ⟨b, off, a, c, e, Nat.lt_of_lt_of_le hl hb.size, bcell hb hl hc, hr.below hb⟩
def CellO (w : World) (B : Nat) (v : Value) (xs : List Int) : Prop :=
  ∃ ad cap, v = .slice ad xs.length cap ∧ xs.length ≤ cap ∧ ((ad = none ∧ xs = []) ∨ ∃ g off ys, ad = some ⟨g, off, none⟩ ∧ B ≤ g ∧ Own w g 3 (ints ys) ∧ ∀ j, j < xs.length → off + j < ys.length ∧ xs.getD j 0 = ys.getD (off + j) 0)
theorem CellO.of_row {w : World} {B : Nat} {v : Value} {xs : List Int} (h : RowI w B v xs) : CellO w B v xs := by
  rcases Own.of_row h with ⟨h1, h0, h2⟩ | ⟨g, cap, h1, hB, hc, _, ho⟩
  · have : xs = [] := by simpa [ints] using h2
    subst this
    exact ⟨none, 0, h1, Nat.le_refl _, Or.inl ⟨rfl, rfl⟩⟩
  · exact ⟨_, cap, h1, hc, Or.inr ⟨g, 0, xs, rfl, hB, ho, fun j hj => ⟨by omega, by rw [Nat.zero_add]⟩⟩⟩
theorem CellO.of_block {w w' : World} {B : Nat} {v : Value} {xs : List Int} (h : CellO w B v xs) (e : ∀ q, v.ownBlock = some q → w'.heap[q]? = w.heap[q]?) : CellO w' B v xs := by
  obtain ⟨ad, cap, rfl, hcp, h⟩ := h
  refine ⟨ad, cap, rfl, hcp, ?_⟩
  rcases h with h | ⟨g, off, ys, rfl, hB, ho, hj⟩
  · exact Or.inl h
  · exact Or.inr ⟨g, off, ys, rfl, hB, ho.of_block (e g rfl), hj⟩
theorem CellO.lt {w : World} {B : Nat} {v : Value} {xs : List Int} (h : CellO w B v xs) {q : Nat} (hq : v.ownBlock = some q) : B ≤ q ∧ q < w.heap.size := by
  obtain ⟨ad, cap, rfl, _, h⟩ := h
  rcases h with ⟨rfl, _⟩ | ⟨g, off, ys, rfl, hB, ho, hj⟩
  · cases hq
  · simp only [Value.ownBlock, Option.some.injEq] at hq
    subst hq
    exact ⟨hB, ho.lt⟩
theorem CellO.below {w w' : World} {B : Nat} {v : Value} {xs : List Int} (h : CellO w B v xs) (hb : Below w.heap.size w w') : CellO w' B v xs := h.of_block fun q hq => hb.block q (h.lt hq).2
theorem CellO.mono {w : World} {B B' : Nat} {v : Value} {xs : List Int} (h : CellO w B v xs) (hB : B' ≤ B) : CellO w B' v xs := by
  obtain ⟨ad, cap, rfl, hcp, h⟩ := h
  refine ⟨ad, cap, rfl, hcp, ?_⟩
  rcases h with h | ⟨g, off, ys, rfl, hB', r⟩
  · exact Or.inl h
  · exact Or.inr ⟨g, off, ys, rfl, Nat.le_trans hB hB', r⟩
theorem CellO.rd {w : World} {B : Nat} {ad : Option Addr} {n cap : Nat} {xs : List Int} (h : CellO w B (.slice ad n cap) xs) : RdI w ad xs := by
  obtain ⟨ad', cap', e, _, h⟩ := h
  injection e with e1 _ _
  subst e1
  rcases h with ⟨rfl, rfl⟩ | ⟨g, off, ys, rfl, hB, ho, hj⟩
  · exact RdI.nil _ _
  · intro j hj'
    obtain ⟨h1, h2⟩ := hj j hj'
    exact ⟨g, off, rfl, ho.lt, by rw [h2]; exact ho.cell? (ints_get h1)⟩
theorem CellO.ne_row {w : World} {B B' n : Nat} {u v : Value} {xs : List Int} {vs : List Value} (h : CellO w B v xs) (hu : w.ownsRow B' 29 1 u n vs) {q : Nat} (hq : v.ownBlock = some q) : u.ownBlock ≠ some q := by
  obtain ⟨ad, cap, rfl, _, h⟩ := h
  rcases h with ⟨rfl, _⟩ | ⟨g, off, ys, rfl, hB, ho, hj⟩
  · cases hq
  · simp only [Value.ownBlock, Option.some.injEq] at hq
    subst hq
    exact row_ne_ty hu ho (by decide)
/-- A list of rows: its cells lie from R on, its rows from B on. -/
structure MatL (w : World) (R B : Nat) (v : Value) (M : List (List Int)) (vs : List Value) : Prop where
  row : w.ownsRow R 29 1 v M.length vs
  each : ∀ i, i < M.length → CellO w B (vs.getD i undef) (M.getD i [])
theorem MatL.nil (w : World) (R B : Nat) : MatL w R B (.slice none 0 0) [] [] := ⟨⟨rfl, Or.inl ⟨rfl, rfl⟩⟩, fun i hi => by simp at hi⟩
theorem MatL.len {w : World} {R B : Nat} {v : Value} {M : List (List Int)} {vs : List Value} (h : MatL w R B v M vs) : vs.length = M.length := by have := h.row.1; omega
theorem MatL.below {w w' : World} {R B : Nat} {v : Value} {M : List (List Int)} {vs : List Value} (h : MatL w R B v M vs) (hb : Below w.heap.size w w') : MatL w' R B v M vs :=
  ⟨row_below h.row hb, fun i hi => (h.each i hi).below hb⟩
theorem MatL.mono {w : World} {R R' B B' : Nat} {v : Value} {M : List (List Int)} {vs : List Value} (h : MatL w R B v M vs) (hR : R' ≤ R) (hB : B' ≤ B) : MatL w R' B' v M vs :=
  ⟨row_mono h.row hR, fun i hi => (h.each i hi).mono hB⟩
theorem MatL.shape {w : World} {R B : Nat} {v : Value} {M : List (List Int)} {vs : List Value} (h : MatL w R B v M vs) : ∃ ad cap, v = .slice ad M.length cap ∧ M.length ≤ cap ∧ (ad = none → v = .slice none 0 0) ∧ ∀ a, ad = some a → ∃ g, a = ⟨g, 0, none⟩ ∧ Own w g 29 vs := by
  rcases Own.of_row h.row with ⟨h1, h0, h2⟩ | ⟨g, cap, h1, hB, hc, hm, ho⟩
  · exact ⟨none, 0, by rw [h1, h0], by omega, fun _ => h1, fun a e => by cases e⟩
  · exact ⟨_, cap, h1, hc, (fun e => by cases e), fun a e => by cases e; exact ⟨g, rfl, ho⟩⟩
theorem MatL.rd {w : World} {R B : Nat} {ad : Option Addr} {n cap : Nat} {M : List (List Int)} {vs : List Value} (h : MatL w R B (.slice ad n cap) M vs) : RdM w ad M := by
  intro i hi
  rcases Own.of_row h.row with ⟨_, h0, _⟩ | ⟨g, cap', h1, hB, _, _, ho⟩
  · omega
  · injection h1 with h1 _ _
    subst h1
    have hi' : i < vs.length := by rw [h.len]; exact hi
    have hc : w.cell? ⟨g, i, none⟩ = some (vs.getD i undef) := ho.cell? (by simp [List.getD, hi'])
    have he := h.each i hi
    obtain ⟨a, c, e, _⟩ := he
    have hr := h.each i hi
    rw [e] at hc hr
    exact ⟨g, 0, a, c, rfl, ho.lt, by rw [Nat.zero_add]; exact hc, hr.rd⟩
/-- One row alone. -/
theorem MatL.one (w : World) (R B : Nat) (u : Value) (xs : List Int) (hu : CellO w B u xs) (hR : R ≤ w.heap.size) : MatL (w.alloc (.cells #[u] 29)) R B (.slice (some ⟨w.heap.size, 0, none⟩) 1 1) [xs] [u] :=
  ⟨⟨rfl, Or.inr ⟨w.heap.size, 1, #[u], rfl, hR, heap_alloc_new w _, Nat.le_refl _, by unfold maxLen; omega, rfl, rfl⟩⟩, fun i hi => by
    obtain rfl : i = 0 := by simpa using hi
    exact hu.below ((Below.refl _ _).alloc (Nat.le_refl _) _)⟩
theorem MatL.cat {w w4 : World} {R R2 B : Nat} {v v2 v' : Value} {M M2 : List (List Int)} {vs us : List Value} (h : MatL w R B v M vs) (hu : MatL w R2 B v2 M2 us)
    (hown : w4.ownsRow R 29 1 v' (M.length + M2.length) (vs ++ us)) (hg : w.grownBy w4 v.ownBlock) : MatL w4 R B v' (M ++ M2) (vs ++ us) := by
  have hl := h.len
  refine ⟨row_congr hown (by simp) rfl, fun i hi => ?_⟩
  rw [List.length_append] at hi
  by_cases e : i < M.length
  · have e1 : (M ++ M2).getD i [] = M.getD i [] := by rw [List.getD_eq_getElem?_getD, List.getElem?_append_left e, ← List.getD_eq_getElem?_getD]
    have e2 : (vs ++ us).getD i undef = vs.getD i undef := by rw [List.getD_eq_getElem?_getD, List.getElem?_append_left (by omega), ← List.getD_eq_getElem?_getD]
    rw [e1, e2]
    have h3 := h.each i e
    exact h3.of_block fun q hq => hg.block q (h3.lt hq).2 fun e => h3.ne_row h.row hq e.symm
  · have e1 : (M ++ M2).getD i [] = M2.getD (i - M.length) [] := by rw [List.getD_eq_getElem?_getD, List.getElem?_append_right (by omega), ← List.getD_eq_getElem?_getD]
    have e2 : (vs ++ us).getD i undef = us.getD (i - M.length) undef := by rw [List.getD_eq_getElem?_getD, List.getElem?_append_right (by omega), hl, ← List.getD_eq_getElem?_getD]
    rw [e1, e2]
    have h3 := hu.each (i - M.length) (by omega)
    exact h3.of_block fun q hq => hg.block q (h3.lt hq).2 fun e => h3.ne_row h.row hq e.symm
theorem run_append_none {P : Program} (w : World) (t ty e : TypeId) (i : TypeInfo) (ht : P.underlying t = some (.slice e)) (hi : P.info? e = some i) (ad : Option Addr) (n cap : Nat) (hc : n ≤ cap) :
    (Builtin.append_ #[t, t] ty #[.slice ad n cap, .slice none 0 0]).run P w = .ok (.slice ad n cap) w := by
  cases ad <;> simp [Builtin.append_, run_underlying ht, sizeOf, typeInfo, hi, Builtin.lenOf, Builtin.firstCells, loadCells, storeCells, hc]
/-- The numbers of the row that append takes. -/
theorem MatL.run {w : World} {R R2 B : Nat} {v v2 : Value} {M M2 : List (List Int)} {vs us : List Value} (ty : TypeId) (h : MatL w R B v M vs) (hu : MatL w R2 B v2 M2 us) (hl : M.length ≤ 100000) (hl2 : M2.length ≤ 100000) (hR : R ≤ w.heap.size) :
    ∃ v' w', (Builtin.append_ #[26, 26] ty #[v, v2]).run Tryz.prog w = .ok v' w' ∧ MatL w' R B v' (M ++ M2) (vs ++ us) ∧ Below R w w' := by
  obtain ⟨iP, hiP, hzP, hsP, hbP⟩ := info_parts Tryz.infoM
  obtain ⟨ad, cap, rfl, hc, hn, _⟩ := h.shape
  obtain ⟨ad2, cap2, rfl, hc2, hn2, hs2⟩ := hu.shape
  cases ad2 with
  | none =>
    have e0 := hn2 rfl
    injection e0 with _ e1 e2
    have em : M2 = [] := List.length_eq_zero_iff.1 e1
    subst em
    have eu : us = [] := List.length_eq_zero_iff.1 (by rw [hu.len]; rfl)
    subst eu
    subst e2
    refine ⟨_, w, run_append_none w _ ty _ iP Tryz.underlying26 hiP ad M.length cap hc, ?_, Below.refl _ _⟩
    rw [List.append_nil, List.append_nil]
    exact h
  | some a2 =>
    obtain ⟨g, rfl, ho⟩ := hs2 a2 rfl
    obtain ⟨v', w', hr, h2, h3, _, _⟩ := run_append_own_at (P := Tryz.prog) w R 26 ty 29 iP _ 1 24 Tryz.underlying26 hiP hzP hsP hbP rfl (by omega) _ M.length vs h.row ⟨g, 0, none⟩ M2.length cap2 us (by rw [hu.len]; omega) (fun j z hz => by
      rw [addr_plain, Nat.zero_add]
      exact ho.cell? hz) (fun z hz => by
        obtain ⟨j, hj, e⟩ := List.getElem_of_mem hz
        have h5 := hu.each j (by rw [← hu.len]; exact hj)
        rw [List.getD_eq_getElem?_getD, List.getElem?_eq_getElem hj, Option.getD_some, e] at h5
        obtain ⟨_, _, rfl, _⟩ := h5
        rfl) (by unfold maxLen; omega) (by omega) hR
    exact ⟨v', w', hr, h.cat hu h2 h3, (Below.refl R w).grown h3 hR (fun q e => (h.row.lt q e).1)⟩
/-- append of rows in the list of a plain region. -/
theorem wpList_appL {w : World} {ops : Array Oper} {rest : List Oper} {o : Oper} {a : Act} {Q : Exit → Act → World → Prop} (hgd : o.guard = none) (s x : Operand)
    (ho : o.op = .call { callee := .builtin .append, args := #[s, x], argTypes := #[26, 26] })
    (R R2 B : Nat) (v v2 : Value) (M M2 : List (List Int)) (vs us : List Value) (N : Nat) (hN : M.length + M2.length = N) (hs : a.eval s = v) (hx : a.eval x = v2)
    (hm : MatL w R B v M vs) (hu : MatL w R2 B v2 M2 us) (hl : M.length ≤ 100000) (hl2 : M2.length ≤ 100000) (hR : R ≤ w.heap.size)
    (h : ∀ ad' cap' w', MatL w' R B (.slice ad' N cap') (M ++ M2) (vs ++ us) → Below R w w' → wpList Tryz.prog ops Q rest (a.put o.dst (.slice ad' N cap')) w') : wpList Tryz.prog ops Q (o :: rest) a w := by
  refine wpList_plain hgd fun _ hQ => ?_
  obtain ⟨v', w', hr, hmat, hbl⟩ := hm.run o.type hu hl hl2 hR
  obtain ⟨ad', cap', e, _⟩ := hmat.shape
  rw [List.length_append, hN] at e
  subst e
  unfold Oper.wp execOp
  simp only [ho, resolve, invoke, builtin, Sem.run_bind, Sem.run_pure, Result.andThen_ok, List.map_toArray, List.map_cons, List.map_nil, hs, hx, hr]
  exact hQ _ _ (h _ _ w' hmat hbl)
end Go.Proofs.YtcionneopgdebaaGreat

/-
  Lists of rows sorted and compacted, nil or not. By an AI agent.
-/
namespace Go.Proofs.YtcionneopgdebaaGreat
open Go.RowKit
open LstSort (Ls lsX lsX_len lsX_at eqV ltL ltP swo_ltP)
open Go.Sort (bitsLen bitsLen_le_iff)

set_option maxHeartbeats 800000 in
theorem insSort_nil (w : World) : Calls Tryz.prog 109 #[.slice none 0 0, .int .i64 0, .int .i64 0, LstSort.cmpV] w fun e w' => e = .returned (.tuple #[]) ∧ w = w' := by
  unfold LstSort.cmpV
  go_enter Tryz.func109, Tryz.ntmps109
  go_wp2_with fail
  refine wp_loop_rounds 1 ?_
  rw [rounds_succ]
  go_wp2_with fail
  go_end0
  exact ⟨rfl, rfl⟩
set_option maxHeartbeats 800000 in
theorem pdq_nil (lim : Nat) (w : World) : Calls Tryz.prog 93 #[.slice none 0 0, .int .i64 0, .int .i64 0, .int .i64 (lim : Int), LstSort.cmpV] w fun e w' => e = .returned (.tuple #[]) ∧ w = w' := by
  have HI := Lib.hid (fun w => insSort_nil w)
  unfold LstSort.cmpV at HI ⊢
  go_enter Tryz.func93, Tryz.ntmps93
  go_wp2_with fail
  refine wp_loop_rounds 1 ?_
  rw [rounds_succ]
  go_wp2_with fail
  refine (HI.out _).mono ?_
  rintro e w1 ⟨rfl, rfl⟩
  go_wp2_with fail
  exact bodyPost_ret (v := .tuple #[]) (by simp [results, Tryz.results93, go_sem]) rfl ⟨rfl, rfl⟩
set_option maxHeartbeats 800000 in
theorem sortFunc_nil (w : World) : Calls Tryz.prog 74 #[.slice none 0 0, LstSort.cmpV] w fun e w' => e = .returned (.tuple #[]) ∧ w = w' := by
  have hLen : ∀ w, Calls Tryz.prog 85 #[.int .u64 ((0 : Nat) : Int)] w fun e w' => e = .returned (.int .i64 (bitsLen 0 : Nat)) ∧ w' = w := fun w => by
    have h := bits_Len ((0 : Nat) : Int) w (by omega) (by omega)
    rwa [Int.toNat_natCast, LstSort.bitLen_eq _ (by omega)] at h
  have HL := Lib.hid hLen; clear hLen
  have HP := Lib.hid (fun w => pdq_nil (bitsLen 0) w)
  generalize bitsLen 0 = lim at HL HP
  have z0 : ((0 : Nat) : Int) = 0 := rfl
  rw [z0] at HL
  unfold LstSort.cmpV at HP ⊢
  go_enter Tryz.func74, Tryz.ntmps74
  go_wp2_with fail
  refine (HL.out _).mono ?_
  rintro e w' ⟨rfl, rfl⟩
  go_wp2_with fail
  refine (HP.out _).mono ?_
  rintro e w1 ⟨rfl, rfl⟩
  go_wp2_with fail
  go_end0
  exact ⟨rfl, rfl⟩
set_option maxHeartbeats 800000 in
theorem compact_nil (w : World) : Calls Tryz.prog 76 #[.slice none 0 0, eqV] w fun e w' => e = .returned (.slice none 0 0) ∧ w = w' := by
  unfold eqV
  go_enter Tryz.func76, Tryz.ntmps76
  go_wp2_with fail
  go_ret
  exact ⟨rfl, rfl⟩

/-! ### a row of lists that is sorted in place -/
theorem sort_perm (d : Array Ls) : (Sort.sort ltP d).toList.Perm d.toList := by
  obtain ⟨h1, _, h3⟩ := (Sort.sort_sorts ltP swo_ltP d).1
  rw [show d.size = (Sort.sort ltP d).size from h1.symm] at h3
  rw [Array.extract_size] at h3
  rw [h1, Array.extract_size] at h3
  exact h3
theorem sort_lsX (d : Array Ls) : lsX (Sort.sort ltP d) = LstSort.srt (lsX d) := by
  have h := (Sort.sort_sorts ltP swo_ltP d).2
  have h1 := (Sort.sort_sorts ltP swo_ltP d).1.1
  rw [← h1] at h
  refine List.Perm.eq_of_pairwise (le := fun a b => ltL b a = false) (fun a b _ _ h1 h2 => LstSort.ltL_eq h2 h1) ?_ (LstSort.srt_pairwise _) ?_
  · unfold lsX
    rw [List.pairwise_map]
    refine List.pairwise_iff_getElem.2 fun i j hi hj hij => ?_
    have := h i j (Nat.zero_le _) hij (by simpa using hj)
    rw [Array.length_toList] at hi hj
    rw [getElem!_pos _ i hi, getElem!_pos _ j hj] at this
    rw [Array.getElem_toList, Array.getElem_toList]
    exact this
  · unfold lsX
    exact ((sort_perm d).map _).trans (List.mergeSort_perm _ _).symm
/-- A row of lists: its cells and the lists lie from R on. -/
def RowS (w : World) (R : Nat) (v : Value) (X : List (List Int)) : Prop := (v = .slice none 0 0 ∧ X = []) ∨ ∃ (g cap : Nat) (d : Array Ls), v = .slice (some ⟨g, 0, none⟩) X.length cap ∧ R ≤ g ∧ g < w.heap.size ∧ X.length ≤ cap ∧ LstSort.PH w g 0 d ∧ lsX d = X ∧ ∀ t, t < d.size → ∀ a, d[t]!.adr = some a → R ≤ a.block
theorem MatL.rowS {w : World} {R : Nat} {v : Value} {M : List (List Int)} {vs : List Value} (h : MatL w R R v M vs) (hl : ∀ x ∈ M, x.length ≤ 100000) : RowS w R v M := by
  rcases Own.of_row h.row with ⟨h1, h0, h2⟩ | ⟨g, cap, h1, hB, hc, hm, ho⟩
  · exact Or.inl ⟨h1, List.length_eq_zero_iff.1 h0⟩
  · have hlen := h.len
    have hat : ∀ t, t < M.length → ∃ a c, vs.getD t undef = .slice a (M.getD t []).length c := fun t ht => by
      obtain ⟨a, c, e, _⟩ := h.each t ht
      exact ⟨a, c, e⟩
    let f : Nat → Ls := fun t => match vs.getD t undef with
      | .slice a _ c => ⟨a, c, M.getD t [], w.heap.size⟩
      | _ => ⟨none, 0, M.getD t [], w.heap.size⟩
    have hf : ∀ t, t < M.length → ∃ a c, vs.getD t undef = .slice a (M.getD t []).length c ∧ f t = ⟨a, c, M.getD t [], w.heap.size⟩ := fun t ht => by
      obtain ⟨a, c, e⟩ := hat t ht
      refine ⟨a, c, e, ?_⟩
      show (match vs.getD t undef with | .slice a _ c => (⟨a, c, M.getD t [], w.heap.size⟩ : Ls) | _ => ⟨none, 0, M.getD t [], w.heap.size⟩) = _
      rw [e]
    let d : Array Ls := ((List.range M.length).map f).toArray
    have hds : d.size = M.length := by show ((List.range M.length).map f).toArray.size = _; simp
    have hdt : ∀ t, t < M.length → d[t]! = f t := fun t ht => by
      rw [getElem!_pos d t (by omega)]
      show ((List.range M.length).map f).toArray[t]'_ = _
      simp
    refine Or.inr ⟨g, cap, d, h1, hB, ho.lt, hc, fun t ht => ?_, ?_, fun t ht a ha => ?_⟩
    · rw [hds] at ht
      obtain ⟨a, c, e, ef⟩ := hf t ht
      have he := h.each t ht
      rw [e] at he
      rw [hdt t ht, ef, Nat.zero_add]
      refine ⟨?_, ho.frozen t, he.rd, Nat.le_refl _, ?_, fun q hq => ?_⟩
      · rw [ho.cell? (v := vs.getD t undef) (by simp [List.getD, show t < vs.length by omega]), e]
      · refine hl _ ?_
        rw [List.getD_eq_getElem?_getD, List.getElem?_eq_getElem ht, Option.getD_some]
        exact List.getElem_mem ht
      · have hq : a = some q := hq
        subst hq
        have h5 := he.lt (q := q.block) rfl
        have h6 := he.ne_row h.row (q := q.block) rfl
        rw [h1] at h6
        exact ⟨fun e => h6 (by simp [Value.ownBlock, e]), h5.2⟩
    · refine List.ext_getElem (by rw [lsX_len, hds]) fun i h3 h4 => ?_
      have h7 := lsX_at d (i := i) (by omega)
      obtain ⟨a, c, e, ef⟩ := hf i h4
      rw [hdt i h4, ef, List.getD_eq_getElem?_getD, List.getElem?_eq_getElem h3, Option.getD_some] at h7
      rw [h7]
      show M.getD i [] = _
      rw [List.getD_eq_getElem?_getD, List.getElem?_eq_getElem h4, Option.getD_some]
    · rw [hds] at ht
      obtain ⟨a', c, e, ef⟩ := hf t ht
      have he := h.each t ht
      rw [e] at he
      rw [hdt t ht, ef] at ha
      have ha : a' = some a := ha
      subst ha
      exact (he.lt (q := a.block) rfl).1
set_option maxRecDepth 100000 in
theorem sortM_c (R : Nat) (v : Value) (X : List (List Int)) (w : World) (h : RowS w R v X) (hl : X.length ≤ 100000) (hR : R ≤ w.heap.size) :
    Calls Tryz.prog 74 #[v, LstSort.cmpV] w fun e w' => e = .returned (.tuple #[]) ∧ RowS w' R v (LstSort.srt X) ∧ Below R w w' := by
  rcases h with ⟨rfl, rfl⟩ | ⟨g, cap, d, rfl, hg, hgs, hc, hp, hX, hB⟩
  · refine (sortFunc_nil w).mono ?_
    rintro e w' ⟨rfl, rfl⟩
    exact ⟨rfl, Or.inl ⟨rfl, by simp [LstSort.srt]⟩, Below.refl _ _⟩
  · have hds : d.size = X.length := by rw [← hX, lsX_len]
    have c := LstSort.sortFunc_c g 0 cap d w hp hgs (by omega)
    rw [hds] at c
    refine c.mono ?_
    rintro e w' ⟨rfl, hp2, hc2, hs2⟩
    have hsx := sort_lsX d
    rw [hX] at hsx
    refine ⟨rfl, Or.inr ⟨g, cap, Sort.sort ltP d, by rw [LstSort.srt_length], hg, Nat.lt_of_lt_of_le hgs hc2.size, by rw [LstSort.srt_length]; exact hc, hp2, hsx, fun t ht a ha => ?_⟩, hc2.below hg hR⟩
    have hm : (Sort.sort ltP d)[t]! ∈ d.toList := (sort_perm d).mem_iff.1 (by rw [getElem!_pos _ t ht]; exact Array.getElem_mem_toList ht)
    obtain ⟨s, hs, e⟩ := List.getElem_of_mem hm
    rw [Array.length_toList] at hs
    have := hB s hs a (by rw [getElem!_pos d s hs, ← ha, ← e, Array.getElem_toList])
    exact this
set_option maxRecDepth 100000 in
theorem compactM_c (R : Nat) (v : Value) (X : List (List Int)) (w : World) (h : RowS w R v X) (hl : X.length ≤ 100000) (hR : R ≤ w.heap.size) :
    Calls Tryz.prog 76 #[v, eqV] w fun e w' => ∃ v', e = .returned v' ∧ RowS w' R v' (LstSort.compactF X) ∧ Below R w w' := by
  rcases h with ⟨rfl, rfl⟩ | ⟨g, cap, d, rfl, hg, hgs, hc, hp, hX, hB⟩
  · refine (compact_nil w).mono ?_
    rintro e w' ⟨rfl, rfl⟩
    exact ⟨_, rfl, Or.inl ⟨rfl, rfl⟩, Below.refl _ _⟩
  · have hds : d.size = X.length := by rw [← hX, lsX_len]
    have c := LstSort.compactFunc_c g 0 cap d w hp (by omega) (by omega)
    rw [hds, hX] at c
    refine c.mono ?_
    rintro e w' ⟨d', hX', rfl, hp2, hc2, hsr⟩
    have hd2 : d'.size = (LstSort.compactF X).length := by rw [← hX', lsX_len]
    refine ⟨_, rfl, Or.inr ⟨g, cap, d', rfl, hg, Nat.lt_of_lt_of_le hgs hc2.size, ?_, hp2, hX', fun t ht a ha => ?_⟩, hc2.below hg hR⟩
    · have h1 : ∀ l : List (List Int), (LstSort.compactF l).length ≤ l.length := by
        intro l
        induction l with
        | nil => exact Nat.le_refl _
        | cons x l ih =>
          cases l with
          | nil => exact Nat.le_refl _
          | cons y l =>
            unfold LstSort.compactF
            split
            · simp only [List.length_cons] at ih ⊢; omega
            · simp only [List.length_cons] at ih ⊢; omega
      have := h1 X
      omega
    · obtain ⟨s, hs, e⟩ := hsr t ht
      exact hB s hs a (by rw [← e]; exact ha)

/-- A row of lists as it is read; all lies from R on. -/
def RdZ (w : World) (R : Nat) (ad : Option Addr) (M : List (List Int)) : Prop :=
  ∀ i, i < M.length → ∃ b off a c, ad = some ⟨b, off, none⟩ ∧ R ≤ b ∧ b < w.heap.size ∧ w.cell? ⟨b, off + i, none⟩ = some (.slice a (M.getD i []).length c) ∧ RdI w a (M.getD i []) ∧ ∀ q, a = some q → R ≤ q.block ∧ q.block < w.heap.size
theorem RdZ.rd {w : World} {R : Nat} {ad : Option Addr} {M : List (List Int)} (h : RdZ w R ad M) : RdM w ad M := fun i hi => by
  obtain ⟨b, off, a, c, e, _, h2, h3, h4, _⟩ := h i hi
  exact ⟨b, off, a, c, e, h2, h3, h4⟩
theorem RdZ.frame {w w' : World} {R : Nat} {ad : Option Addr} {M : List (List Int)} (h : RdZ w R ad M) (hs : w.heap.size ≤ w'.heap.size) (hb : ∀ k, R ≤ k → k < w.heap.size → w'.heap[k]? = w.heap[k]?) : RdZ w' R ad M := fun i hi => by
  obtain ⟨b, off, a, c, e, h1, h2, h3, h4, h5⟩ := h i hi
  refine ⟨b, off, a, c, e, h1, Nat.lt_of_lt_of_le h2 hs, by rw [← h3]; simp only [World.cell?, hb b h1 h2], LstSort.RdI.sameB h4 hs fun q hq => hb _ (h5 q hq).1 (h5 q hq).2, fun q hq => ⟨(h5 q hq).1, Nat.lt_of_lt_of_le (h5 q hq).2 hs⟩⟩
theorem RdZ.below {w w' : World} {R : Nat} {ad : Option Addr} {M : List (List Int)} (h : RdZ w R ad M) (hb : Below w.heap.size w w') : RdZ w' R ad M := h.frame hb.size fun k _ hk => hb.block k hk
theorem RowS.rdz {w : World} {R : Nat} {v : Value} {X : List (List Int)} (h : RowS w R v X) : ∃ ad cap, v = .slice ad X.length cap ∧ X.length ≤ cap ∧ RdZ w R ad X := by
  rcases h with ⟨rfl, rfl⟩ | ⟨g, cap, d, rfl, hg, hgs, hc, hp, hX, hB⟩
  · exact ⟨none, 0, rfl, Nat.le_refl _, fun i hi => by simp at hi⟩
  · refine ⟨_, cap, rfl, hc, fun i hi => ?_⟩
    have hds : d.size = X.length := by rw [← hX, lsX_len]
    obtain ⟨h1, h2, h3⟩ := hp i (by omega)
    have h4 := lsX_at d (i := i) (by omega)
    rw [hX] at h4
    rw [h4]
    exact ⟨g, 0, _, _, rfl, hg, hgs, h1, h3.rd, fun q hq => ⟨hB i (by omega) q hq, by have := (h3.off q hq).2; have := h3.le; omega⟩⟩
end Go.Proofs.YtcionneopgdebaaGreat
