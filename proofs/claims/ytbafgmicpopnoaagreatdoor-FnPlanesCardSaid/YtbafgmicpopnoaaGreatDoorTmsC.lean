/-
  slices.CompactFunc over terms, walked. By an AI agent.
-/
import Derived.Test.YtbafgmicpopnoaaGreatDoorTmsS
import Derived.Test.YtbafgmicpopnoaaGreatDoorCeM
import Derived.Lib.SliceRun
import Derived.Laws.IdiomCopy
import Derived.Deep.DeepCutAuto
namespace Go.Proofs.YtbafgmicpopnoaaGreatDoor
namespace TmsSort
open Go.RowKit
open Go.Sort (swp size_swp)

theorem cmpT_snoc (a b : Tm) : ∀ (l : List Tm) (p : Tm), cmpT p (l ++ [a, b]) = if sameE b a then cmpT p (l ++ [a]) else cmpT p (l ++ [a]) ++ [b]
  | [], p => by
    simp only [List.nil_append, cmpT]
    by_cases h1 : sameE a p <;> by_cases h2 : sameE b a <;> simp [h1, h2]
  | x :: l, p => by
    simp only [List.cons_append, cmpT]
    rw [cmpT_snoc a b l x]
    by_cases h1 : sameE x p <;> by_cases h2 : sameE b a <;> simp [h1, h2]
theorem compT_snoc (a b : Tm) : ∀ (l : List Tm), compT (l ++ [a, b]) = if sameE b a then compT (l ++ [a]) else compT (l ++ [a]) ++ [b]
  | [] => by
    simp only [List.nil_append, compT, cmpT]
    split <;> rfl
  | x :: l => by
    simp only [List.cons_append, compT]
    rw [cmpT_snoc a b l x]
    split <;> simp
theorem take_snocM (l : List Tm) (k : Nat) (h : k < l.length) : l.take (k + 1) = l.take k ++ [l.getD k default] := by
  rw [List.take_succ_eq_append_getElem h, List.getD_eq_getElem?_getD, List.getElem?_eq_getElem h, Option.getD_some]
def cpre (l : List Tm) (m : Nat) : List Tm := compT (l.take m)
theorem cpre_succ {l : List Tm} {m : Nat} (h : m + 1 < l.length) : cpre l (m + 2) = if sameE (l.getD (m + 1) default) (l.getD m default) then cpre l (m + 1) else cpre l (m + 1) ++ [l.getD (m + 1) default] := by
  unfold cpre
  rw [take_snocM l (m + 1) h, take_snocM l m (by omega), List.append_assoc]
  exact compT_snoc _ _ _
theorem cpre_one (l : List Tm) (h : 0 < l.length) : cpre l 1 = l.take 1 := by
  cases l with
  | nil => simp at h
  | cons x l => simp [cpre, compT, cmpT]
theorem cpre_all (l : List Tm) : cpre l l.length = compT l := by unfold cpre; rw [List.take_length]
theorem compT_short {l : List Tm} (h : l.length < 2) : compT l = l := by
  match l, h with
  | [], _ => rfl
  | [a], _ => rfl
theorem getD_toListM (d : Array Tm) (i : Nat) : d.toList.getD i default = d[i]! := by
  rw [List.getD_eq_getElem?_getD, Array.getElem?_toList, getElem!_def]
  cases d[i]? <;> rfl
theorem take_set_snocM (l : List Tm) (k : Nat) (v : Tm) (h : k < l.length) : (l.set k v).take (k + 1) = l.take k ++ [v] := by
  rw [take_snocM (l.set k v) k (by simpa using h), List.take_set, List.set_eq_of_length_le (by simp; omega)]
  simp [List.getD_eq_getElem?_getD, h]
theorem setI_getM (d : Array Tm) {k t : Nat} (p : Tm) (ht : t < d.size) : (d.setIfInBounds k p)[t]! = if t = k then p else d[t]! := by
  rw [getElem!_pos _ t (by simpa using ht), Array.getElem_setIfInBounds]
  by_cases e : k = t
  · rw [if_pos e, if_pos e.symm]
  · rw [if_neg e, if_neg (fun q => e q.symm), getElem!_pos d t ht]
theorem PH.store {w : World} {blk off : Nat} {d : Array Tm} (h : PH w blk off d) {k : Nat} (hk : k < d.size) {p : Tm} (hp : Bd p) : PH (((w.setCell ⟨blk, off + k * 3, none⟩ (.int .i64 p.i)).setCell ⟨blk, off + k * 3 + 1, none⟩ (.int .i64 p.j)).setCell ⟨blk, off + k * 3 + 2, none⟩ (.int .i64 p.c)) blk off (d.setIfInBounds k p) := fun t ht => by
  have ht' : t < d.size := by simpa using ht
  obtain ⟨h1, h2, h6, h3, h4, h7, h5⟩ := h t ht'
  obtain ⟨i1, i2, i6, _⟩ := h k hk
  have ne : ∀ {a b : Nat}, a ≠ b → (⟨blk, off + a, none⟩ : Addr) ≠ ⟨blk, off + b, none⟩ := fun h e => by injection e; omega
  have c : ∀ (W : World) (a b : Nat) (v : Value), a ≠ b → (W.setCell ⟨blk, off + a, none⟩ v).cell? ⟨blk, off + b, none⟩ = W.cell? ⟨blk, off + b, none⟩ := fun W a b v hab => World.cell?_setCell_other _ _ _ _ (ne hab)
  rw [setI_getM d p ht']
  simp only [Nat.add_assoc] at h1 h2 h6 h3 h4 h7 i1 i2 i6 ⊢
  simp only [World.frozen?_setCell]
  by_cases e : t = k
  · subst e
    rw [if_pos rfl]
    refine ⟨?_, ?_, ?_, h3, h4, h7, hp⟩
    · rw [c _ _ _ _ (by omega), c _ _ _ _ (by omega)]; exact World.cell?_setCell_same _ _ _ i1
    · rw [c _ _ _ _ (by omega)]; exact World.cell?_setCell_same _ _ _ (by rw [c _ _ _ _ (by omega)]; exact i2)
    · exact World.cell?_setCell_same _ _ _ (by rw [c _ _ _ _ (by omega), c _ _ _ _ (by omega)]; exact i6)
  · rw [if_neg e]
    exact ⟨by rw [c _ _ _ _ (by omega), c _ _ _ _ (by omega), c _ _ _ _ (by omega)]; exact h1, by rw [c _ _ _ _ (by omega), c _ _ _ _ (by omega), c _ _ _ _ (by omega)]; exact h2, by rw [c _ _ _ _ (by omega), c _ _ _ _ (by omega), c _ _ _ _ (by omega)]; exact h6, h3, h4, h7, h5⟩
theorem chg_setCells (b : Nat) : ∀ (vs : List Value) (o : Nat) (w : World), Chg b w (w.setCells b o vs)
  | [], _, w => Chg.refl b w
  | v :: vs, o, w => by
    rw [World.setCells]
    exact (Chg.set b o w v).trans (chg_setCells b vs (o + 1) _)
/-- The first cells, and the others wiped. -/
theorem PH.wiped {w : World} {blk off : Nat} {d : Array Tm} (h : PH w blk off d) {k : Nat} (hk : k ≤ d.size) (vs : List Value) : PH (w.setCells blk (off + k * 3) vs) blk off (d.toList.take k).toArray := fun t ht => by
  have ht' : t < k := by simp at ht; omega
  obtain ⟨h1, h2, h6, h3, h4, h7, h5⟩ := h t (by omega)
  have hv : (d.toList.take k).toArray[t]! = d[t]! := by
    rw [getElem!_pos _ t ht, getElem!_pos d t (by omega)]
    simp
  rw [hv]
  refine ⟨?_, ?_, ?_, by rw [World.frozen?_setCells]; exact h3, by rw [World.frozen?_setCells]; exact h4, by rw [World.frozen?_setCells]; exact h7, h5⟩
  · rw [World.cell?_setCells_out blk vs _ w _ (fun _ _ => Or.inl (by show off + t * 3 < off + k * 3; omega))]; exact h1
  · rw [World.cell?_setCells_out blk vs _ w _ (fun _ _ => Or.inl (by show off + t * 3 + 1 < off + k * 3; omega))]; exact h2
  · rw [World.cell?_setCells_out blk vs _ w _ (fun _ _ => Or.inl (by show off + t * 3 + 2 < off + k * 3; omega))]; exact h6
theorem run_clearM (w : World) (ty : TypeId) (b o n c : Nat) (hn : 0 < n) (hc : ∀ j, j < n * 3 → (w.cell? ⟨b, o + j, none⟩).isSome = true) (hf : ∀ j, j < n * 3 → w.frozen? ⟨b, o + j, none⟩ = false) :
    (Builtin.clear_ #[24] ty #[.slice (some ⟨b, o, none⟩) n c]).run Tryz.prog w = .ok (.tuple #[]) (w.setCells b o (Builtin.zeroCells #[.int .i64 0, .int .i64 0, .int .i64 0] n).toList) := by
  have hlen : (Builtin.zeroCells #[.int .i64 0, .int .i64 0, .int .i64 0] n).toList.length = n * 3 := by simp [Builtin.zeroCells]
  have hall : ∀ v ∈ (Builtin.zeroCells #[.int .i64 0, .int .i64 0, .int .i64 0] n).toList, v.oneCell' = true := by
    intro v hv
    simp [Builtin.zeroCells] at hv
    obtain ⟨i, _, rfl⟩ := hv
    have : i % 3 = 0 ∨ i % 3 = 1 ∨ i % 3 = 2 := by omega
    rcases this with e | e | e <;> rw [e] <;> rfl
  have hst := run_storeCells_cells (P := Tryz.prog) b o (Builtin.zeroCells #[.int .i64 0, .int .i64 0, .int .i64 0] n).toList 0 w (by rw [hlen]; simpa using hc) (by rw [hlen]; simpa using hf) hall
  simp only [Nat.add_zero] at hst
  obtain ⟨m, rfl⟩ : ∃ m, n = m + 1 := ⟨n - 1, by omega⟩
  simp [Builtin.clear_, run_underlying Tryz.underlyingT, Value.cells, hst]

set_option maxHeartbeats 800000 in
theorem eqTm_c (p q : Tm) (w : World) (hp : Bd p) (hq : Bd q) :
    Calls Tryz.prog 59 #[tmV p, tmV q] w fun e w' => e = .returned (.bool (decide (sameE p q))) ∧ Below w.heap.size w w' := by
  have C := Lib.hid (fun w => compareTerms_g p q w hp hq)
  have HS := Lib.hid (show ((if p.i = q.i then p.j - q.j else p.i - q.i) == 0) = decide (sameE p q) by
    rw [Bool.eq_iff_iff, beq_iff_eq, decide_eq_true_iff]
    unfold sameE
    split <;> omega)
  obtain ⟨a, b, c⟩ := p
  obtain ⟨x, y, z⟩ := q
  unfold tmV at C ⊢
  simp only at C HS ⊢
  generalize decide (sameE ⟨a, b, c⟩ ⟨x, y, z⟩) = S at HS ⊢
  generalize (if a = x then b - y else a - x) = R at C HS
  have hs := HS.out
  have hb := ((Below.refl w.heap.size w).alloc (Nat.le_refl _) (.cells #[.int .i64 a, .int .i64 b, .int .i64 c] 43)).alloc (by simp) (.cells #[.int .i64 x, .int .i64 y, .int .i64 z] 43)
  clear hp hq
  go_enter Tryz.func59, Tryz.ntmps59
  go_wp2_with fail
  refine (C.out _).mono ?_
  rintro e w1 ⟨rfl, hw1⟩
  go_wp2_with fail
  go_ret
  exact ⟨rfl, ball hb hw1⟩
def eqV : Value := .func (.func 59) #[] #[]
/-- What CompactFunc does to a row. -/
def CompTo (w : World) (blk off cap : Nat) (l : List Tm) (e : Ending) (w' : World) : Prop := e = .returned (.slice (some ⟨blk, off, none⟩) l.length cap) ∧ PH w' blk off l.toArray ∧ Chg blk w w'

set_option maxHeartbeats 6400000 in
set_option maxRecDepth 100000 in
theorem compactFunc_c (blk off cap : Nat) (d : Array Tm) (w : World) (hH : PH w blk off d) (hsz : d.size ≤ 100000) (hcap : d.size ≤ cap) :
    Calls Tryz.prog 58 #[.slice (some ⟨blk, off, none⟩) d.size cap, eqV] w (CompTo w blk off cap (compT d.toList)) := by
  obtain ⟨R, hR⟩ : ∃ R, compT d.toList = R := ⟨_, rfl⟩
  rw [hR]
  have HR := Lib.hid hR; clear hR
  have HP := Lib.hid hH; clear hH
  have same := Lib.hid (show R = d.toList → ∀ w' : World, PH w' blk off d → Chg blk w w' → CompTo w blk off cap R (.returned (.slice (some ⟨blk, off, none⟩) d.size cap)) w' from fun e w' h hc => ⟨by rw [e, Array.length_toList], by rw [e]; simpa using h, hc⟩)
  unfold eqV
  by_cases h2 : d.size < 2
  case pos =>
    have hv : R = d.toList := by rw [← HR.out]; exact compT_short (by simpa using h2)
    have HV := Lib.hid hv; clear hv
    go_enter Tryz.func58, Tryz.ntmps58
    go_wp2_with fail
    go_ret
    exact same.out HV.out _ HP.out (Chg.refl _ _)
  case neg =>
    have h2z : ¬ ((d.size : Int) < 2) := by omega
    go_enter Tryz.func58, Tryz.ntmps58
    go_wp2_with fail
    go_loopw [5] (fun v wr => ∃ k : Nat, v = .int .i64 k ∧ 1 ≤ k ∧ k ≤ d.size ∧ cpre d.toList k = d.toList.take k ∧ Below w.heap.size w wr) (fun v _ => d.size - (intOf v).toNat)
    case atStart => exact ⟨1, rfl, Nat.le_refl _, by omega, cpre_one _ (by simp; omega), Below.refl _ _⟩
    case round =>
      obtain ⟨wE, rfl⟩ : ∃ x : World, x = wr := ⟨_, rfl⟩
      obtain ⟨K, rfl, hK1, hKn, hpre, hbel⟩ := hrel
      have HPRE := Lib.hid hpre; clear hpre
      have HPE := Lib.hid (HP.out.below hbel)
      by_cases hlt : K < d.size
      case neg =>
        obtain rfl : K = d.size := by omega
        have hv : R = d.toList := by
          have h := HPRE.out
          rw [← Array.length_toList, cpre_all, List.take_length, HR.out] at h
          exact h
        have HV := Lib.hid hv; clear hv
        go_wp2_with fail
        go_ret
        exact same.out HV.out _ HPE.out (Chg.of_below hbel)
      case pos =>
        obtain ⟨m, hm⟩ : ∃ m, K = m + 1 := ⟨K - 1, by omega⟩
        have em : (K : Int) - 1 = (m : Int) := by omega
        have wm : IntKind.i64.wrap (m : Int) = (m : Int) := i64_small (by omega) (by omega)
        have hmK : m < K ∧ K ≤ m + 1 := by omega
        have hstep : cpre d.toList (K + 1) = if sameE d[K]! d[m]! then cpre d.toList K else cpre d.toList K ++ [d[K]!] := by
          have := cpre_succ (l := d.toList) (m := m) (by simp; omega)
          rw [← hm, getD_toListM, getD_toListM, show m + 2 = K + 1 by omega] at this
          exact this
        have HST := Lib.hid hstep; have HM := Lib.hid hm; clear hstep hm
        obtain ⟨c, hc⟩ : ∃ c, decide (sameE d[K]! d[m]!) = c := ⟨_, rfl⟩
        have HCC := Lib.hid hc
        have x1 : (0 : Int) ≤ (K : Int) := by omega
        have x2 : (K : Int) < (d.size : Int) := by omega
        have x3 : (0 : Int) ≤ (m : Int) := by omega
        have x4 : (m : Int) < (d.size : Int) := by omega
        obtain ⟨p1, p2, p3, _, _, _, p5⟩ := HPE.out K hlt
        obtain ⟨q1, q2, q3, _, _, _, q5⟩ := HPE.out m (by omega)
        have hbl := HPE.out.lt (by omega)
        have hcmp := fun w => eqTm_c d[K]! d[m]! w p5 q5
        rw [hc] at hcmp
        obtain ⟨pp, hpp⟩ : ∃ p, d[K]! = p := ⟨_, rfl⟩
        obtain ⟨qq, hqq⟩ : ∃ p, d[m]! = p := ⟨_, rfl⟩
        rw [hpp] at p1 p2 p3 hcmp
        rw [hqq] at q1 q2 q3 hcmp
        obtain ⟨pi, pj, pc⟩ := pp
        obtain ⟨qi, qj, qc⟩ := qq
        unfold tmV at hcmp
        simp only at p1 p2 p3 q1 q2 q3 hcmp
        have HCMP := Lib.hid hcmp
        clear hcmp hc p5 q5 hpp hqq
        go_wp2_with fail
        go_region_held3 (fun w' => (w'.cell? ⟨blk, off + K * 3, none⟩ = some (.int .i64 pi) ∧ w'.cell? ⟨blk, off + K * 3 + 1, none⟩ = some (.int .i64 pj) ∧ w'.cell? ⟨blk, off + K * 3 + 2, none⟩ = some (.int .i64 pc)) ∧ w'.cell? ⟨blk, off + m * 3, none⟩ = some (.int .i64 qi) ∧ w'.cell? ⟨blk, off + m * 3 + 1, none⟩ = some (.int .i64 qj) ∧ w'.cell? ⟨blk, off + m * 3 + 2, none⟩ = some (.int .i64 qc)) (exact ⟨⟨by assumption, by assumption, by assumption⟩, by assumption, by assumption, by assumption⟩)
          (first
            | (go_at_call 59; (with_reducible refine (HCMP.out _).mono ?_); rintro e W1 ⟨rfl, hw1⟩; have m1 := bcell hw1 hbl p1; have m2 := bcell hw1 hbl p2; have m3 := bcell hw1 hbl p3; have m4 := bcell hw1 hbl q1; have m5 := bcell hw1 hbl q2; have m6 := bcell hw1 hbl q3))
        have hbc : Below wE.heap.size wE W1 := (Below.refl _ _).drew.trans hw1
        have hbF := ball hbel hbc
        have HPF := Lib.hid (HPE.out.below hbc)
        clear hbc hw1 m1 m2 m3 m4 m5 m6 p1 p2 p3 q1 q2 q3 HCMP
        cases c
        case false =>
          have hn := of_decide_eq_false HCC.out
          have HT := Lib.hid (show cpre d.toList (K + 1) = d.toList.take (K + 1) by rw [HST.out, if_neg hn, HPRE.out, take_snocM _ _ (by simpa using hlt), getD_toListM])
          clear hn HCC
          go_wp2_with fail
          go_roundw
          case rel => exact ⟨K + 1, by go_num, by omega, by omega, HT.out, hbF⟩
          case measure => simp [intOf]; omega
        case true =>
          have hy := of_decide_eq_true HCC.out
          have HT := Lib.hid (show cpre d.toList (K + 1) = d.toList.take K by rw [HST.out, if_pos hy, HPRE.out])
          clear hy HCC
          obtain ⟨S, hS⟩ : ∃ S, d.size - K = S := ⟨_, rfl⟩
          have eS : (d.size : Int) - (K : Int) = (S : Int) := by omega
          have hKS : K + S ≤ d.size ∧ d.size ≤ K + S := by omega
          have HS := Lib.hid hS; clear hS
          have x2 : (K : Int) ≤ (d.size : Int) := by omega
          have x3 : K ≤ cap := by omega
          go_wp2_with fail
          try rw [HS.out]
          obtain ⟨CP, hCP⟩ : ∃ x, cap - K = x := ⟨_, rfl⟩
          try rw [hCP]
          clear hCP
          go_loopw [5, 7] (fun vk vj wr => ∃ (k j : Nat) (dk : Array Tm), vk = .int .i64 k ∧ vj = .int .i64 j ∧ 1 ≤ j ∧ j ≤ S ∧ K ≤ k ∧ k < K + j ∧ dk.size = d.size ∧ PH wr blk off dk ∧ Chg blk w wr ∧ cpre d.toList (K + j) = dk.toList.take k ∧ (∀ t, K + j ≤ t + 1 → t < d.size → dk[t]! = d[t]!)) (fun _ vj _ => S + 1 - (intOf vj).toNat)
          case atStart => exact ⟨K, 1, d, rfl, rfl, Nat.le_refl _, by omega, Nat.le_refl _, by omega, rfl, HPF.out, Chg.of_below hbF, HT.out, fun t _ _ => rfl⟩
          case round =>
            obtain ⟨wH, rfl⟩ : ∃ x : World, x = wr := ⟨_, rfl⟩
            obtain ⟨k, j, dk, rfl, rfl, hj1, hjS, hKk, hkj, hsk, hph, hchg, hcp, hsm⟩ := hrel
            have HCP := Lib.hid hcp; have HPH := Lib.hid hph; have HSK := Lib.hid hsk; have HSM := Lib.hid hsm; clear hcp hph hsk hsm
            by_cases hjl : j < S
            case neg =>
              obtain rfl : j = S := by omega
              have hRk : R = dk.toList.take k := by rw [← HR.out, ← cpre_all, ← HCP.out, show d.toList.length = K + j by simp; omega]
              have HRK := Lib.hid hRk; clear hRk
              have hclr := fun ty => run_clearM wH ty blk (off + k * 3) (d.size - k) (cap - k) (by omega) (fun t ht => by
                obtain ⟨h1, h2, h3, _⟩ := HPH.out (k + t / 3) (by have := HSK.out; omega)
                rcases (show t % 3 = 0 ∨ t % 3 = 1 ∨ t % 3 = 2 by omega) with e | e | e
                · rw [show off + k * 3 + t = off + (k + t / 3) * 3 by omega, h1]; rfl
                · rw [show off + k * 3 + t = off + (k + t / 3) * 3 + 1 by omega, h2]; rfl
                · rw [show off + k * 3 + t = off + (k + t / 3) * 3 + 2 by omega, h3]; rfl) (fun t ht => by
                obtain ⟨_, _, _, h1, h2, h3, _⟩ := HPH.out (k + t / 3) (by have := HSK.out; omega)
                rcases (show t % 3 = 0 ∨ t % 3 = 1 ∨ t % 3 = 2 by omega) with e | e | e
                · rw [show off + k * 3 + t = off + (k + t / 3) * 3 by omega, h1]
                · rw [show off + k * 3 + t = off + (k + t / 3) * 3 + 1 by omega, h2]
                · rw [show off + k * 3 + t = off + (k + t / 3) * 3 + 2 by omega, h3])
              have y1 : k ≤ d.size := by omega
              have y2 : k ≤ cap := by omega
              generalize (Builtin.zeroCells #[.int .i64 0, .int .i64 0, .int .i64 0] (d.size - k)).toList = vs at hclr
              have hw := HPH.out.wiped (k := k) (by have := HSK.out; omega) vs
              have HW := Lib.hid hw; clear hw
              have hlen : R.length = k := by rw [HRK.out, List.length_take, Array.length_toList, HSK.out]; omega
              have HLEN := Lib.hid hlen; clear hlen
              go_wp2_with fail
              go_ret
              exact ⟨by rw [HLEN.out]; rfl, by rw [HRK.out]; exact HW.out, hchg.trans (chg_setCells _ _ _ _)⟩
            case pos =>
              obtain ⟨I, hI⟩ : ∃ I, K + j = I := ⟨_, rfl⟩
              obtain ⟨jm, hjm⟩ : ∃ jm, j = jm + 1 := ⟨j - 1, by omega⟩
              have ej : (j : Int) - 1 = (jm : Int) := by omega
              have wj : IntKind.i64.wrap (jm : Int) = (jm : Int) := i64_small (by omega) (by omega)
              obtain ⟨M2, hM2⟩ : ∃ M2, K + jm = M2 := ⟨_, rfl⟩
              have hb1 : I < d.size ∧ M2 < I ∧ I ≤ M2 + 1 ∧ k < I ∧ jm < S := by omega
              have hst2 : cpre d.toList (I + 1) = if sameE d[I]! d[M2]! then cpre d.toList I else cpre d.toList I ++ [d[I]!] := by
                have := cpre_succ (l := d.toList) (m := M2) (by simp; omega)
                rw [show M2 + 1 = I by omega, getD_toListM, getD_toListM, show M2 + 2 = I + 1 by omega] at this
                exact this
              have HST2 := Lib.hid hst2; clear hst2
              obtain ⟨p1, p2, p3, _, _, _, p5⟩ := HPH.out I (by have := HSK.out; omega)
              obtain ⟨q1, q2, q3, _, _, _, q5⟩ := HPH.out M2 (by have := HSK.out; omega)
              rw [HSM.out I (by omega) (by omega)] at p1 p2 p3 p5
              rw [HSM.out M2 (by omega) (by omega)] at q1 q2 q3 q5
              rw [show off + I * 3 = off + K * 3 + j * 3 by omega] at p1 p2 p3
              rw [show off + M2 * 3 = off + K * 3 + jm * 3 by omega] at q1 q2 q3
              have hcmp := fun w => eqTm_c d[I]! d[M2]! w p5 q5
              obtain ⟨c, hc⟩ : ∃ c, decide (sameE d[I]! d[M2]!) = c := ⟨_, rfl⟩
              have HCC := Lib.hid hc
              rw [hc] at hcmp
              obtain ⟨pp, hpp⟩ : ∃ p, d[I]! = p := ⟨_, rfl⟩
              obtain ⟨qq, hqq⟩ : ∃ p, d[M2]! = p := ⟨_, rfl⟩
              rw [hpp] at p1 p2 p3 p5 hcmp
              rw [hqq] at q1 q2 q3 hcmp
              have HPP := Lib.hid hpp
              have HP5 := Lib.hid p5
              obtain ⟨pi, pj, pc⟩ := pp
              obtain ⟨qi, qj, qc⟩ := qq
              unfold tmV at hcmp
              simp only at p1 p2 p3 q1 q2 q3 hcmp
              have HI := Lib.hid hI; have HJM := Lib.hid hjm; have HM2 := Lib.hid hM2; have HCMP := Lib.hid hcmp
              have hbl := HPH.out.lt (by have := HSK.out; omega)
              have x5 : (0 : Int) ≤ (j : Int) := by omega
              have x6 : (j : Int) < (S : Int) := by omega
              have x7 : (0 : Int) ≤ (jm : Int) := by omega
              have x8 : (jm : Int) < (S : Int) := by omega
              clear hc hcmp hpp hqq hI hjm hM2 p5 q5
              go_wp2_with fail
              go_region_held3 (fun w' => (w'.cell? ⟨blk, off + K * 3 + j * 3, none⟩ = some (.int .i64 pi) ∧ w'.cell? ⟨blk, off + K * 3 + j * 3 + 1, none⟩ = some (.int .i64 pj) ∧ w'.cell? ⟨blk, off + K * 3 + j * 3 + 2, none⟩ = some (.int .i64 pc)) ∧ w'.cell? ⟨blk, off + K * 3 + jm * 3, none⟩ = some (.int .i64 qi) ∧ w'.cell? ⟨blk, off + K * 3 + jm * 3 + 1, none⟩ = some (.int .i64 qj) ∧ w'.cell? ⟨blk, off + K * 3 + jm * 3 + 2, none⟩ = some (.int .i64 qc)) (exact ⟨⟨by assumption, by assumption, by assumption⟩, by assumption, by assumption, by assumption⟩)
                (first
                  | (go_at_call 59; (with_reducible refine (HCMP.out _).mono ?_); rintro e W1 ⟨rfl, hw1⟩; have m1 := bcell hw1 hbl p1; have m2 := bcell hw1 hbl p2; have m3 := bcell hw1 hbl p3; have m4 := bcell hw1 hbl q1; have m5 := bcell hw1 hbl q2; have m6 := bcell hw1 hbl q3))
              have hbc : Below wH.heap.size wH W1 := (Below.refl _ _).drew.trans hw1
              have HPG := Lib.hid (HPH.out.below hbc)
              have hcG := hchg.trans (Chg.of_below hbc)
              clear hbc hw1 p1 p2 p3 q1 q2 q3 m4 m5 m6 HCMP
              cases c
              case true =>
                have hy := of_decide_eq_true HCC.out
                have HT2 := Lib.hid (show cpre d.toList (K + (j + 1)) = dk.toList.take k by rw [show K + (j + 1) = I + 1 by have := HI.out; omega, HST2.out, if_pos hy, ← HI.out]; exact HCP.out)
                have HSM2 := Lib.hid (show ∀ t, K + (j + 1) ≤ t + 1 → t < d.size → dk[t]! = d[t]! from fun t h1 h2 => HSM.out t (by omega) h2)
                clear hy HCC m1 m2 m3
                go_wp2_with fail
                go_roundw
                case rel => exact ⟨k, j + 1, dk, rfl, by go_num, by omega, by omega, hKk, by omega, HSK.out, HPG.out, hcG, HT2.out, HSM2.out⟩
                case measure => simp [intOf]; omega
              case false =>
                have hn := of_decide_eq_false HCC.out
                have HT2 := Lib.hid (show cpre d.toList (K + (j + 1)) = (dk.setIfInBounds k ⟨pi, pj, pc⟩).toList.take (k + 1) by
                  rw [show K + (j + 1) = I + 1 by have := HI.out; omega, HST2.out, if_neg hn, ← HI.out, HCP.out, HI.out, HPP.out, Array.toList_setIfInBounds, take_set_snocM _ _ _ (by have := HSK.out; simp; omega)])
                have HSM2 := Lib.hid (show ∀ t, K + (j + 1) ≤ t + 1 → t < d.size → (dk.setIfInBounds k ⟨pi, pj, pc⟩)[t]! = d[t]! from fun t h1 h2 => by
                  rw [← HSM.out t (by omega) h2, setI_getM dk _ (by have := HSK.out; omega), if_neg (by have := HI.out; omega)])
                obtain ⟨k1, k2, k3, k4, k5, k6, _⟩ := HPG.out k (by have := HSK.out; omega)
                have hsto := HPG.out.store (k := k) (by have := HSK.out; omega) HP5.out
                simp only at hsto
                have HSTO := Lib.hid hsto
                clear hn HCC hsto
                have x7 : (0 : Int) ≤ (k : Int) := by omega
                have x8 : (k : Int) < (d.size : Int) := by omega
                go_wp2_with fail
                go_roundw
                case rel => exact ⟨k + 1, j + 1, dk.setIfInBounds k ⟨pi, pj, pc⟩, by go_num, by go_num, by omega, by omega, by omega, by omega, by rw [Array.size_setIfInBounds]; exact HSK.out, HSTO.out, ((hcG.trans (Chg.set _ _ _ _)).trans (Chg.set _ _ _ _)).trans (Chg.set _ _ _ _), HT2.out, HSM2.out⟩
                case measure => simp [intOf]; omega

end TmsSort
end Go.Proofs.YtbafgmicpopnoaaGreatDoor
