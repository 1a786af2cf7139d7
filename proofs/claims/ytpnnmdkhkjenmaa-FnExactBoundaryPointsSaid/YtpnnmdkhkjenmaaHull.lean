/-
  The program's hull of points. By an AI agent.
-/
import Derived.Test.YtpnnmdkhkjenmaaCompact
import Derived.Test.YtpnnmdkhkjenmaaApp
namespace Go.Proofs.Ytpnnmdkhkjenmaa
open Go.RowKit

theorem popF_ne (p : Pt) : ∀ (n : Nat) (out : List Pt), out.length = n → 0 < n → 0 < (popF out p).length := by
  intro n
  induction n with
  | zero => intro _ _ h; omega
  | succ n ih =>
    intro out hn _
    cases hc : popB out p
    · rw [popF_stop hc]; omega
    · rw [popF_go hc]
      have h1 : 1 < out.length := by unfold popB at hc; simp at hc; omega
      exact ih out.dropLast (by simp; omega) (by omega)
theorem halfF_pos (l : List Pt) (h : 0 < l.length) : 0 < (halfF l).length := by
  obtain ⟨l', q, rfl⟩ : ∃ l' q, l = l' ++ [q] := ⟨l.dropLast, l.getLast (by intro e; subst e; simp at h), (List.dropLast_concat_getLast _).symm⟩
  rw [halfF_snoc]; simp
theorem halfF_two (l : List Pt) (h : 1 < l.length) : 1 < (halfF l).length := by
  obtain ⟨l', q, rfl⟩ : ∃ l' q, l = l' ++ [q] := ⟨l.dropLast, l.getLast (by intro e; subst e; simp at h), (List.dropLast_concat_getLast _).symm⟩
  rw [halfF_snoc]
  have := popF_ne q _ (halfF l') rfl (halfF_pos l' (by simp at h; omega))
  simp; omega
theorem halfF_len (l : List Pt) : (halfF l).length ≤ l.length := by
  induction h : l.length generalizing l with
  | zero => rw [List.length_eq_zero_iff.1 h]; simp [halfF]
  | succ n ih =>
    obtain ⟨l', q, rfl⟩ : ∃ l' q, l = l' ++ [q] := ⟨l.dropLast, l.getLast (by intro e; subst e; simp at h), (List.dropLast_concat_getLast _).symm⟩
    rw [halfF_snoc]
    have h1 := popF_len (halfF l') q
    have h2 := ih l' (by simpa using h)
    simp; omega
theorem pySortF_sh {l : List Pt} (h : AllSh l) : AllSh (pySortF l) := fun p hp => h p ((pySortF_mem l p).1 hp)
theorem insP_len (p : Pt) : ∀ l : List Pt, (insP p l).length ≤ l.length + 1
  | [] => by simp [insP]
  | q :: l => by
    have := insP_len p l
    unfold insP
    split
    · simp; omega
    · split <;> simp
theorem pySortF_len (l : List Pt) : (pySortF l).length ≤ l.length := by
  induction h : l.length generalizing l with
  | zero => rw [List.length_eq_zero_iff.1 h]; simp [pySortF]
  | succ n ih =>
    obtain ⟨l', q, rfl⟩ : ∃ l' q, l = l' ++ [q] := ⟨l.dropLast, l.getLast (by intro e; subst e; simp at h), (List.dropLast_concat_getLast _).symm⟩
    rw [pySortF_snoc]
    have h1 := insP_len q (pySortF l')
    have h2 := ih l' (by simpa using h)
    omega
theorem pySortF_pos {l : List Pt} (h : 0 < l.length) : 0 < (pySortF l).length := by
  obtain ⟨p, hp⟩ := List.exists_mem_of_length_pos h
  exact List.length_pos_of_mem ((pySortF_mem l p).2 hp)
theorem rowP_chg {w w' : World} {B c : Nat} {v : Value} {l : List Pt} (h : RowP w B v l) (hc : Chg c w w') (hB : c < B) : RowP w' B v l := by
  refine ⟨h.1, ?_⟩
  rcases h.2 with hn | ⟨g, cap, cur, rfl, hBg, hgg, rest⟩
  · exact .inl hn
  · refine .inr ⟨g, cap, cur, rfl, hBg, ?_, rest⟩
    rw [hc.block g (Array.getElem?_eq_some_iff.1 hgg).1 (by omega)]
    exact hgg

/-- What a hull is given as: readable, in new memory. -/
def HullTo (w : World) (l : List Pt) (e : Ending) (w' : World) : Prop := ∃ ad cap, e = .returned (.slice ad l.length cap) ∧ RdP w' ad l ∧ Below w.heap.size w w'

set_option maxHeartbeats 3200000 in
set_option maxRecDepth 100000 in
theorem hull_c (ad : Option Addr) (cap : Nat) (l : List Pt) (w : World) (hr : RdP w ad l) (hl : l.length ≤ 100000) (h0 : 0 < l.length) (hs : AllSh l) :
    Calls Try.prog 27 #[.slice ad l.length cap] w (HullTo w (hullF (pySortF l))) := by
  have c1 := Lib.hid (clone_c ad cap l w hr hl h0)
  clear hr
  have hsp := pySortF_sh hs
  have hpl := pySortF_len l
  have hpp := pySortF_pos h0
  have hcs := Lib.hid (show compactF (Sort.sort ltPt l.toArray).toList = pySortF l by rw [sort_eq]; exact sorted_same l)
  have hbd : ∀ p ∈ l, Bd p := fun p hp => (hs p hp).bd
  generalize pySortF l = s at hsp hpl hpp hcs ⊢
  go_enter Try.func27, Try.ntmps27
  go_wp2_with fail
  refine c1.out.mono ?_
  rintro e w1 ⟨g, cap1, rfl, hrow, hb1⟩
  have hgB := (World.ownsRow.lt hrow g rfl)
  have hcl : l.length ≤ cap1 := by
    obtain ⟨_, _, e1, h, _⟩ := hrow.shape
    injection e1 with _ _ e2
    omega
  have c2 := sortFunc_c g 0 cap1 l.toArray w1 (hrow.ph hbd) hgB.2 (by simp; omega)
  rw [List.size_toArray] at c2
  have C2 := Lib.hid c2; clear c2 hrow hbd
  unfold cmpV at C2
  go_wp2_with fail
  refine C2.out.mono ?_
  rintro e w2 ⟨rfl, hp2, hc2, hs2⟩
  have c3 := compact_c g 0 cap1 (Sort.sort ltPt l.toArray) w2 hp2 (by omega) (by omega)
  rw [hs2, hcs.out] at c3
  have C3 := Lib.hid c3; clear c3 hp2 hs2 hcs C2 c1
  obtain ⟨iP, hiP, hzP, hsP, hbP⟩ := info_parts Try.infoP
  have hB1 := hgB.1
  have HB1 := Lib.hid hb1; have HC2 := Lib.hid hc2; clear hb1 hc2
  go_wp2_with fail
  refine C3.out.mono ?_
  rintro e w3 ⟨rfl, hp3, hc3⟩
  have hb3 : Below w.heap.size w w3 := ((HB1.out.trans (HC2.out.below hB1 HB1.out.size)).trans (hc3.below hB1 (Nat.le_trans HB1.out.size HC2.out.size)))
  have hg3 : g < w3.heap.size := Nat.lt_of_lt_of_le (Nat.lt_of_lt_of_le hgB.2 HC2.out.size) hc3.size
  have HP3 := Lib.hid hp3; clear hp3 hc3 C3 HC2 HB1
  by_cases h1 : s.length = 1
  case pos =>
    have hv : hullF s = s := by unfold hullF; rw [if_pos (by omega)]
    have HV := Lib.hid hv; clear hv
    have hrd := HP3.out.rd
    have HRD := Lib.hid hrd; clear hrd
    have e1 : ((s.length : Int) == 1) = true := by simp; omega
    have HH1 := Lib.hid h1; clear h1
    go_wp2_with fail
    go_ret
    exact ⟨_, _, by rw [HV.out]; rfl, by rw [HV.out]; exact HRD.out, hb3⟩
  case neg =>
    have e1 : ((s.length : Int) == 1) = false := by simp; omega
    have hv : hullF s = (halfF s).dropLast ++ (halfF s.reverse).dropLast := by unfold hullF; rw [if_neg (by omega)]
    have HV := Lib.hid hv; clear hv
    have hrd := HP3.out.rd
    rw [List.toList_toArray] at hrd
    have c4 := half_c (some ⟨g, 0, none⟩) cap1 s w3 hrd (by omega) hpp hsp
    have C4 := Lib.hid c4; clear c4 hrd
    go_wp2_with fail
    refine C4.out.mono ?_
    rintro e w4 ⟨v4, rfl, hr4, hb4⟩
    have hp4 := HP3.out.below hb4
    have c5 := reverse_c g 0 cap1 s.toArray w4 hp4 (by simpa using hpp) (by simp; omega)
    rw [List.size_toArray] at c5
    have C5 := Lib.hid c5; clear c5 hp4
    have HR4 := Lib.hid hr4; clear hr4
    go_wp2_with fail
    refine C5.out.mono ?_
    rintro e w5 ⟨rfl, hp5, hc5, hs5⟩
    have HR5 := Lib.hid (rowP_chg HR4.out hc5 hg3)
    have hrd5 := hp5.rd
    rw [List.reverse_toArray, List.toList_toArray] at hrd5
    have c6 := half_c (some ⟨g, 0, none⟩) cap1 s.reverse w5 hrd5 (by simp; omega) (by simpa using hpp) (fun p hp => hsp p (by simpa using hp))
    rw [List.length_reverse] at c6
    have C6 := Lib.hid c6; clear c6 hrd5 hp5 hs5 C4 C5
    have hb5 : Below w.heap.size w w5 := (hb3.trans (hb4.mono hb3.size)).trans (hc5.below hB1 (Nat.le_trans hb3.size hb4.size))
    go_wp2_with fail
    refine C6.out.mono ?_
    rintro e w6 ⟨v6, rfl, hr6, hb6⟩
    obtain ⟨L1, hL1⟩ : ∃ x, (halfF s).dropLast = x := ⟨_, rfl⟩
    obtain ⟨L2, hL2⟩ : ∃ x, (halfF s.reverse).dropLast = x := ⟨_, rfl⟩
    have hn1 : L1.length ≤ 100000 := by rw [← hL1]; have := halfF_len s; simp; omega
    have hn2 : L2.length ≤ 100000 := by rw [← hL2]; have := halfF_len s.reverse; simp at this ⊢; omega
    have hn3 : 0 < L2.length := by rw [← hL2]; have := halfF_two s.reverse (by simp; omega); simp; omega
    rw [hL1] at HR5 HV
    rw [hL2] at hr6 HV
    obtain ⟨ad6, cap6, rfl, _, _⟩ := hr6.shape
    have hrd6 := hr6.rd
    obtain ⟨b6, off6, rfl, hbl6⟩ := hrd6.some hn3
    have HN := Lib.hid hrd6.news
    have HO := Lib.hid (ptsV_one L2)
    have HR6 := Lib.hid (HR5.out.below hb6)
    have hb7 : Below w.heap.size w w6 := hb5.trans (hb6.mono hb5.size)
    have hB3 : w3.heap.size ≤ w6.heap.size := Nat.le_trans (Nat.le_trans hb4.size hc5.size) hb6.size
    have hB0 := hb3.size
    clear hL1 hL2 hrd6 hr6 C6 HR5 HR4 HP3
    go_wp2_with (at_builtin; refine wpList_append_lies _ rfl _ _ 26 rfl w3.heap.size 33 iP _ 2 16 Try.underlyingP hiP hzP hsP hbP rfl (by omega) v4 L1.length (ptsV L1) rfl HR6.out ⟨b6, off6, none⟩ L2.length cap6 (ptsV L2) rfl (by rw [ptsV_length]) HN.out HO.out hn3 (by unfold maxLen; omega) (by omega) hB3 w6.heap.size rfl ?_; intro g7 cap7 wm hown hgrow hat hlt7; clear hat)
    have hbm : Below w.heap.size w wm := hb7.grown hgrow hb7.size (fun q e => Nat.le_trans hB0 (HR6.out.lt q e).1)
    have hrow7 : RowP wm w3.heap.size (.slice (some ⟨g7, 0, none⟩) (L1.length + L2.length) cap7) (L1 ++ L2) := rowP_congr hown (by simp) (ptsV_append L1 L2).symm
    have HR7 := Lib.hid hrow7.rd; clear hrow7 hown hgrow
    go_wp2_with fail
    go_ret
    exact ⟨some ⟨g7, 0, none⟩, cap7, by rw [HV.out, List.length_append]; rfl, by rw [HV.out]; exact HR7.out, hbm⟩

end Go.Proofs.Ytpnnmdkhkjenmaa
